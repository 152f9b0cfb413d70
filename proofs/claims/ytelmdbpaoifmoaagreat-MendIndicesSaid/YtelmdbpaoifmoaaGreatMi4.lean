/-
  Part 4 of the texts behind a statement of this seat: ZN2, Ct28, Ct29, Ct30, Ct31, Ct32, Ct33, ZR1, Ct34, Ct35, Ct36, Ct37, Ct38, Ct39, Ct40.
-/
import Derived.Test.YtelmdbpaoifmoaaGreatProg
import Derived.KernelRfl
import Derived.Test.YtelmdbpaoifmoaaGreatMi3
namespace Go.Proofs.YtelmdbpaoifmoaaGreat
open Go.Sim
variable (P : Program) (K : VK)
/-! F45: (pommel/num.Rat).Num -/
noncomputable section
variable (a0 a1 s4 : Value) (h : ae)
def acm:=bp Tryz.prog 45 [[],[],[],[],[],[],[1,4],[],[],[],[],[],[],[],[]]
@[irreducible] def xW:=bw acm
@[irreducible] def aoa:=xW.r.r.r.r.l
theorem k45:acm=some (32,xW,[.tmp 2,.tmp 3]):=by kernel_rfl
def akL (_P:Program) (K:VK):aq:=aO [.tmp 2,.tmp 3] K
def GF:Prop:=au (ai P aoa (akL P K)) [1,4] [a1,s4] h
theorem awV:GF P K a1 s4 h=
 (OP (af true 4 h a1) fun aN=>
 aj P 90 [aN] h fun aM h_1=>
 aL aM
 (K (.tuple #[s4,(.int .i64 (0))]) h_1)
 (OP (aE 2 a1) fun bf=>
 OP (aE 1 bf) fun bt=>
 OP (af false 1 h_1 bt) fun bV=>
 aj P 89 [bV] h_1 fun bC h_2=>
 OP (fe bC) fun cF=>
 OP (ah .gtr cF (.int .i64 (4000))) fun bR=>
 aL bR
 (K (.tuple #[(.string ⟨#[]⟩),(.int .i64 (4))]) h_2)
 (OP (ah .add s4 (.string ⟨#[47]⟩)) fun bZ=>
 OP (ah .add bZ bC) fun bY=>
 K (.tuple #[bY,(.int .i64 (0))]) h_2))):=aw (by kernel_rfl)
def J6:Prop:=
 OH (bc 107 h a0) fun a1 h_1=>
 OP (aE 0 a1) fun x6=>
 OP (aE 1 x6) fun x7=>
 OP (af false 1 h_1 x7) fun x8=>
 aj P 89 [x8] h_1 fun x9 h_2=>
 OP (fe x9) fun ax=>
 OP (ah .gtr ax (.int .i64 (4000))) fun az=>
 aL az
 (K (.tuple #[(.string ⟨#[]⟩),(.int .i64 (4))]) h_2)
 (OP (aE 0 a1) fun ay=>
 OP (aE 0 ay) fun aP=>
 OP (af false 1 h_2 aP) fun a9=>
 aL a9
 (OP (ah .add (.string ⟨#[45]⟩) x9) fun bH=>
 GF P K a1 bH h_2)
 (GF P K a1 x9 h_2))
theorem e45:ai P xW (aO [.tmp 2,.tmp 3] K) (bk [a0]) h=J6 P K a0 h:=by kernel_rfl
theorem f45 {K:VK} {a0:Value} {h:ae} (H:J6 Tryz.prog K a0 h):aj Tryz.prog 45 [a0] h K:=
 bD k45 (Nat.le_of_ble_eq_true rfl) ((e45 Tryz.prog K a0 h).mpr H)
end
/-! F75: pommel/num.Whole -/
noncomputable section
variable (n0 : Value) (h : ae)
def acH:=bp Tryz.prog 75 [[],[]]
@[irreducible] def Xf:=bw acH
theorem k75:acH=some (7,Xf,[.cell true 4 2]):=by kernel_rfl
def Kp:Prop:=
 OH (aW 107 [(.bool false),(.slice none 0 0),(.bool false),(.slice none 0 0)] h) fun x2 h_1=>
 aj P 105 [n0] h_1 fun x4 h_2=>
 aj P 105 [(.int .i64 (1))] h_2 fun x5 h_3=>
 OP (cN [(.bool false),(.slice none 0 0),(.bool false),(.slice none 0 0)] [(0,2,x4),(2,2,x5)]) fun x6=>
 OH (aJ 4 h_3 x2 x6) fun _ h_4=>
 OP (af true 4 h_4 x2) fun r0=>
 K r0 h_4
theorem e75:ai P Xf (aO [.cell true 4 2] K) (bk [n0]) h=Kp P K n0 h:=by kernel_rfl
theorem f75 {K:VK} {n0:Value} {h:ae} (H:Kp Tryz.prog K n0 h):aj Tryz.prog 75 [n0] h K:=
 bD k75 (Nat.le_of_ble_eq_true rfl) ((e75 Tryz.prog K n0 h).mpr H)
end
/-! F77: (pommel/num.Rat).Div -/
noncomputable section
variable (a0 b1 : Value) (h : ae)
def acJ:=bp Tryz.prog 77 [[],[]]
@[irreducible] def Xh:=bw acJ
theorem k77:acJ=some (16,Xh,[.cell true 4 4]):=by kernel_rfl
def Kq:Prop:=
 OH (bc 107 h a0) fun a2 h_1=>
 OH (bc 107 h_1 b1) fun b3 h_2=>
 OH (aW 107 [(.bool false),(.slice none 0 0),(.bool false),(.slice none 0 0)] h_2) fun x4 h_3=>
 OP (aE 0 a2) fun x5=>
 OP (af true 2 h_3 x5) fun x6=>
 (True)∧
 OP (aE 2 b3) fun x7=>
 OP (af true 2 h_3 x7) fun x8=>
 (True)∧
 aj P 107 [x6,x8] h_3 fun x9 h_4=>
 (True)∧
 OP (aE 2 a2) fun aF=>
 OP (af true 2 h_4 aF) fun ax=>
 (af true 2 h_3 aF=some ax∧True)∧
 OP (aE 0 b3) fun az=>
 OP (af true 2 h_4 az) fun ay=>
 (af true 2 h_3 az=some ay∧True)∧
 aj P 107 [ax,ay] h_4 fun aP h_5=>
 (True)∧
 aj P 106 [x9,aP] h_5 fun a9 h_6=>
 (True)∧
 OH (aJ 4 h_6 x4 a9) fun _ h_7=>
 (True)∧
 OP (af true 4 h_7 x4) fun r0=>
 K r0 h_7
theorem e77:ai P Xh (aO [.cell true 4 4] K) (bk [a0,b1]) h=Kq P K a0 b1 h:=by kernel_rfl
theorem f77 {K:VK} {a0 b1:Value} {h:ae} (H:Kq Tryz.prog K a0 b1 h):aj Tryz.prog 77 [a0,b1] h K:=
 bD k77 (Nat.le_of_ble_eq_true rfl) ((e77 Tryz.prog K a0 b1 h).mpr H)
end
/-! F89: pommel/num.text -/
noncomputable section
variable (x0 b3 q4 r5 i6 aT bC cF bR : Value) (L1 L2 : LQ) (xs : List Value) (h : ae)
def acT:=bp Tryz.prog 89 [[],[],[],[],[],[],[0,3],[],[],[],[],[4],[3,5,6],[3,4,5,6,20],[3,4,5,6,20,24],[3,4,5,6,20,24,26],[3,4,5,6,20,27],[],[],[],[],[3,4],[3],[],[]]
@[irreducible] def El:=bw acT
@[irreducible] def Lp:=El.r.r.r.l.l.l
@[irreducible] def Xv:=El.r.r.r.r
@[irreducible] def Em:=Lp.r.l.r.l.r.l.l
@[irreducible] def Xr:=Lp.r.l.r.r
@[irreducible] def ape:=Xv.l
@[irreducible] def Xs:=Em.l.l.r.l
@[irreducible] def apb:=Em.l.r
@[irreducible] def apa:=Em.r
@[irreducible] def apd:=Xr.l
@[irreducible] def Xt:=Xs.r.l
@[irreducible] def Xu:=Xt.r.l
@[irreducible] def apc:=Xu.r.l
theorem k89:acT=some (45,El,[.tmp 2]):=by kernel_rfl
def I4 (_P:Program) (K:VK):aq:=aO [.tmp 2] K
def alG:aq:=aC (ai P Xv (I4 P K)) (I4 P K)
def alH:aq:=bz 0 (alG P K)
def TF:aq:=aC (fun f' aR=>(([]:List Nat).map f':List Value)=[]∧L1 (([0,3]:List Nat).map f') aR) (alH P K)
def I5:aq:=bz 1 (TF P K L1)
def alE:aq:=aC (ai P Xr (I5 P K L1)) (I5 P K L1)
def alF:aq:=bz 2 (alE P K L1)
def I6:aq:=aC (fun f' aR=>(([4]:List Nat).map f':List Value)=[q4]∧L2 (([3,5,6]:List Nat).map f') aR) (alF P K L1)
def TE:aq:=aC (ai P apa (I6 P K q4 L1 L2)) (I6 P K q4 L1 L2)
def C2:aq:=aC (ai P apb (TE P K q4 L1 L2)) (TE P K q4 L1 L2)
def afw:Prop:=au (ai P Lp (TF P K L1)) ([]++[0,3]) ([]++xs) h
def aft:Prop:=au (ai P Em (I6 P K q4 L1 L2)) ([4]++[3,5,6]) ([q4]++xs) h
def afu:Prop:=au (ai P Xs (C2 P K q4 L1 L2)) [3,4,5,6,20] [b3,q4,r5,i6,aT] h
def PV:Prop:=au (ai P Xt (C2 P K q4 L1 L2)) [3,4,5,6,20,24] [b3,q4,r5,i6,aT,bC] h
def PW:Prop:=au (ai P Xu (C2 P K q4 L1 L2)) [3,4,5,6,20,24,26] [b3,q4,r5,i6,aT,bC,cF] h
def PX:Prop:=au (ai P apc (C2 P K q4 L1 L2)) [3,4,5,6,20,27] [b3,q4,r5,i6,aT,bR] h
def GL:Prop:=au (ai P apd (I5 P K L1)) [3,4] [b3,q4] h
def afv:Prop:=au (ai P ape (I4 P K)) [3] [b3] h
theorem G1:PX P K b3 q4 r5 i6 aT bR L1 L2 h=
 (OP (bK aT bR (.bool false)) fun bE=>
 aL bE
 (OP (ah .rem r5 (.int .u32 (10))) fun dJ=>
 OP (ah .add (.int .u32 (48)) dJ) fun cm=>
 OP (cS .u8 cm) fun dc=>
 OH (cT 5 1 [(.int .u8 (0))] h [(0,1,dc)]) fun cQ h_1=>
 OH (dA 5 1 1 h_1 b3 cQ) fun dM h_2=>
 OP (ah .quo r5 (.int .u32 (10))) fun di=>
 OP (ah .add i6 (.int .i64 (1))) fun cP=>
 ([q4]:List Value)=[q4]∧L2 [dM,di,cP] h_2)
 (GL P K b3 q4 L1 h)):=aw (by kernel_rfl)
theorem G0:PW P K b3 q4 r5 i6 aT bC cF L1 L2 h=
 (bU aT true
 (OP (bK bC (.bool true) cF) fun bR=>
 PX P K b3 q4 r5 i6 aT bR L1 L2 h)
 (PX P K b3 q4 r5 i6 aT undef L1 L2 h)):=aw (by kernel_rfl)
theorem Qk:PV P K b3 q4 r5 i6 aT bC L1 L2 h=
 (bU bC false
 (OP (ah .gtr r5 (.int .u32 (0))) fun cF=>
 PW P K b3 q4 r5 i6 aT bC cF L1 L2 h)
 (PW P K b3 q4 r5 i6 aT bC undef L1 L2 h)):=aw (by kernel_rfl)
theorem agS:afu P K b3 q4 r5 i6 aT L1 L2 h=
 (bU aT true
 (OP (aY q4) fun bt=>
 OP (ah .gtr bt (.int .i64 (0))) fun bV=>
 PV P K b3 q4 r5 i6 aT bV L1 L2 h)
 (PV P K b3 q4 r5 i6 aT undef L1 L2 h)):=aw (by kernel_rfl)
theorem axT (q4:Value) (L1 L2:LQ) (b3 r5 i6:Value) (h:ae):aft P K q4 L1 L2 [b3,r5,i6] h=
 (OP (ah .lss i6 (.int .i64 (9))) fun aM=>
 afu P K b3 q4 r5 i6 aM L1 L2 h):=aw (by kernel_rfl)
theorem axU:GL P K b3 q4 L1 h=
 (([]:List Value)=[]∧L1 [q4,b3] h):=aw (by kernel_rfl)
theorem axW (L1:LQ) (x0 b3:Value) (h:ae):afw P K L1 [x0,b3] h=
 (OP (aY x0) fun ax=>
 OP (ah .gtr ax (.int .i64 (0))) fun az=>
 aL az
 (aj P 114 [x0,(.int .u32 (1000000000))] h fun a9 h_1=>
 OP (b9 0 a9) fun aX=>
 OP (b9 1 a9) fun bH=>
 cB [b3,bH,(.int .i64 (0))] h_1 fun L2 xs hx=>
 aft P K aX L1 L2 xs hx)
 (afv P K b3 h)):=aw (by kernel_rfl)
theorem axV:afv P K b3 h=
 (aj P 115 [b3] h fun _ h_1=>
 OP (pb h_1 b3) fun ba=>
 K ba h_1):=aw (by kernel_rfl)
def KA:Prop:=
 OP (aY x0) fun x8=>
 OP (ah .eql x8 (.int .i64 (0))) fun x9=>
 aL x9
 (K (.string ⟨#[48]⟩) h)
 (cB [x0,(.slice none 0 0)] h fun L1 xs hx=>
 afw P K L1 xs hx)
theorem e89:ai P El (aO [.tmp 2] K) (bk [x0]) h=KA P K x0 h:=by kernel_rfl
theorem f89 {K:VK} {x0:Value} {h:ae} (H:KA Tryz.prog K x0 h):aj Tryz.prog 89 [x0] h K:=
 bD k89 (Nat.le_of_ble_eq_true rfl) ((e89 Tryz.prog K x0 h).mpr H)
end
/-! F90: (pommel/num.Rat).Integer -/
noncomputable section
variable (a0 a1 x8 aP : Value) (h : ae)
def acU:=bp Tryz.prog 90 [[],[1,8],[8,14],[]]
@[irreducible] def En:=bw acU
@[irreducible] def Xw:=En.r.l.r.l
@[irreducible] def apf:=En.r.r
@[irreducible] def apg:=Xw.r.l
theorem k90:acU=some (16,En,[.tmp 2]):=by kernel_rfl
def TH (_P:Program) (K:VK):aq:=aO [.tmp 2] K
def TI:aq:=aC (ai P apf (TH P K)) (TH P K)
def afx:Prop:=au (ai P Xw (TI P K)) [1,8] [a1,x8] h
def PY:Prop:=au (ai P apg (TI P K)) [8,14] [x8,aP] h
theorem Qm:PY P K x8 aP h=
 (OP (bK x8 aP (.bool false)) fun a9=>
 K a9 h):=aw (by kernel_rfl)
theorem Ql:afx P K a1 x8 h=
 (bU x8 true
 (OP (aE 2 a1) fun x9=>
 OP (aE 1 x9) fun aF=>
 OP (af false 1 h aF) fun ax=>
 OP (aS 1 ax (.int .i64 (0))) fun az=>
 OP (af false 1 h az) fun ay=>
 OP (ah .eql ay (.int .u32 (1))) fun aP=>
 PY P K x8 aP h)
 (PY P K x8 undef h)):=aw (by kernel_rfl)
def C8:Prop:=
 OH (bc 107 h a0) fun a1 h_1=>
 OP (aE 2 a1) fun x3=>
 OP (aE 1 x3) fun x4=>
 OP (af false 1 h_1 x4) fun x5=>
 OP (aY x5) fun x6=>
 OP (ah .eql x6 (.int .i64 (1))) fun x7=>
 afx P K a1 x7 h_1
theorem e90:ai P En (aO [.tmp 2] K) (bk [a0]) h=C8 P K a0 h:=by kernel_rfl
theorem f90 {K:VK} {a0:Value} {h:ae} (H:C8 Tryz.prog K a0 h):aj Tryz.prog 90 [a0] h K:=
 bD k90 (Nat.le_of_ble_eq_true rfl) ((e90 Tryz.prog K a0 h).mpr H)
end
/-! F106: pommel/num.Ratio -/
noncomputable section
variable (x0 x1 x2 x3 x4 : Value) (h : ae)
def abv:=bp Tryz.prog 106 [[],[],[2,3,4],[],[],[],[],[],[],[]]
@[irreducible] def KZ:=bw abv
@[irreducible] def amt:=KZ.r.r.l
theorem atm:abv=some (41,KZ,[.cell true 4 4]):=by kernel_rfl
def ajk (_P:Program) (K:VK):aq:=aO [.cell true 4 4] K
def OR:Prop:=au (ai P amt (ajk P K)) [2,3,4] [x2,x3,x4] h
theorem avd:OR P K x2 x3 x4 h=
 (OP (af true 2 h x2) fun aX=>
 OP (af true 2 h x3) fun bH=>
 aj P 120 [aX,bH] h fun aN h_1=>
 OH (aW 105 [(.bool false),(.slice none 0 0)] h_1) fun g5 h_2=>
 OH (aJ 2 h_2 g5 aN) fun _ h_3=>
 OP (af true 2 h_3 g5) fun aM=>
 (True)∧
 aj P 105 [(.int .i64 (1))] h_3 fun aT h_4=>
 (af true 2 h_4 g5=some aM∧True)∧
 aj P 111 [aM,aT] h_4 fun bf h_5=>
 (True)∧
 OP (ah .eql bf (.int .i64 (0))) fun bt=>
 aL bt
 (OP (af true 2 h_5 x2) fun bV=>
 OP (af true 2 h_5 x3) fun bC=>
 OP (cN [(.bool false),(.slice none 0 0),(.bool false),(.slice none 0 0)] [(0,2,bV),(2,2,bC)]) fun bL=>
 OH (aJ 4 h_5 x4 bL) fun _ h_6=>
 OP (af true 4 h_6 x4) fun r0=>
 K r0 h_6)
 (OP (af true 2 h_5 x2) fun bR=>
 OP (af true 2 h_5 g5) fun bE=>
 aj P 121 [bR,bE] h_5 fun bZ h_6=>
 OP (b9 0 bZ) fun cP=>
 OP (b9 1 bZ) fun bY=>
 OH (aW 105 [(.bool false),(.slice none 0 0)] h_6) fun n6 h_7=>
 OH (aW 105 [(.bool false),(.slice none 0 0)] h_7) fun x7 h_8=>
 OH (aJ 2 h_8 n6 cP) fun _ h_9=>
 OH (aJ 2 h_9 x7 bY) fun _ h_10=>
 OP (af true 2 h_10 x3) fun dJ=>
 OP (af true 2 h_10 g5) fun cm=>
 aj P 121 [dJ,cm] h_10 fun dc h_11=>
 OP (b9 0 dc) fun cQ=>
 OP (b9 1 dc) fun dM=>
 OH (aW 105 [(.bool false),(.slice none 0 0)] h_11) fun d8 h_12=>
 OH (aW 105 [(.bool false),(.slice none 0 0)] h_12) fun x9 h_13=>
 OH (aJ 2 h_13 d8 cQ) fun _ h_14=>
 OH (aJ 2 h_14 x9 dM) fun _ h_15=>
 OP (af true 2 h_15 n6) fun cG=>
 OP (af true 2 h_15 d8) fun di=>
 OP (cN [(.bool false),(.slice none 0 0),(.bool false),(.slice none 0 0)] [(0,2,cG),(2,2,di)]) fun dB=>
 OH (aJ 4 h_15 x4 dB) fun _ h_16=>
 OP (af true 4 h_16 x4) fun r0=>
 K r0 h_16)):=aw (by kernel_rfl)
def Jk:Prop:=
 OH (bc 105 h x0) fun x2 h_1=>
 OH (bc 105 h_1 x1) fun x3 h_2=>
 OH (aW 107 [(.bool false),(.slice none 0 0),(.bool false),(.slice none 0 0)] h_2) fun x4 h_3=>
 OP (aE 0 x3) fun aF=>
 OP (af false 1 h_3 aF) fun ax=>
 aL ax
 (OP (af true 2 h_3 x2) fun az=>
 (True)∧
 aj P 119 [az] h_3 fun ay h_4=>
 (True)∧
 OP (af true 2 h_4 x3) fun aP=>
 (af true 2 h_3 x3=some aP∧True)∧
 aj P 119 [aP] h_4 fun a9 h_5=>
 (True)∧
 OH (aJ 2 h_5 x2 ay) fun _ h_6=>
 (True)∧
 OH (aJ 2 h_6 x3 a9) fun _ h_7=>
 (True)∧
 OR P K x2 x3 x4 h_7)
 (OR P K x2 x3 x4 h_3)
theorem aqa:ai P KZ (aO [.cell true 4 4] K) (bk [x0,x1]) h=Jk P K x0 x1 h:=by kernel_rfl
theorem f106 {K:VK} {x0 x1:Value} {h:ae} (H:Jk Tryz.prog K x0 x1 h):aj Tryz.prog 106 [x0,x1] h K:=
 bD atm (Nat.le_of_ble_eq_true rfl) ((aqa Tryz.prog K x0 x1 h).mpr H)
end
/-! F120: (pommel/num.Int).Gcd -/
noncomputable section
variable (a0 b1 x4 x5 y6 : Value) (L1 : LQ) (xs : List Value) (h : ae)
def abK:=bp Tryz.prog 120 [[],[],[4],[5,6],[],[],[],[4,5],[]]
@[irreducible] def DB:=bw abK
@[irreducible] def amS:=DB.r.r.l.l.l
@[irreducible] def UY:=DB.r.r.r
@[irreducible] def amR:=UY.l
theorem atz:abK=some (26,DB,[.cell true 2 4]):=by kernel_rfl
def IB (_P:Program) (K:VK):aq:=aO [.cell true 2 4] K
def ajB:aq:=aC (ai P UY (IB P K)) (IB P K)
def ajC:aq:=bz 0 (ajB P K)
def ajD:aq:=aC (fun f' aR=>(([4]:List Nat).map f':List Value)=[x4]∧L1 (([5,6]:List Nat).map f') aR) (ajC P K)
def adK:Prop:=au (ai P amS (ajD P K x4 L1)) ([4]++[5,6]) ([x4]++xs) h
def adJ:Prop:=au (ai P amR (IB P K)) [4,5] [x4,x5] h
theorem avw (x4:Value) (L1:LQ) (x5 y6:Value) (h:ae):adK P K x4 L1 [x5,y6] h=
 (OP (aY y6) fun aP=>
 OP (ah .gtr aP (.int .i64 (0))) fun a9=>
 aL a9
 (aj P 130 [x5,y6] h fun aM h_1=>
 OP (b9 0 aM) fun _=>
 OP (b9 1 aM) fun bf=>
 ([x4]:List Value)=[x4]∧L1 [y6,bf] h_1)
 (adJ P K x4 x5 h)):=aw (by kernel_rfl)
theorem avv:adJ P K x4 x5 h=
 (aj P 117 [(.bool false),x5] h fun bL h_1=>
 OH (aJ 2 h_1 x4 bL) fun _ h_2=>
 OP (af true 2 h_2 x4) fun r0=>
 K r0 h_2):=aw (by kernel_rfl)
def Jy:Prop:=
 OH (bc 105 h a0) fun a2 h_1=>
 OH (bc 105 h_1 b1) fun b3 h_2=>
 OH (aW 105 [(.bool false),(.slice none 0 0)] h_2) fun x4 h_3=>
 OP (aE 1 a2) fun x9=>
 OP (af false 1 h_3 x9) fun aF=>
 (True)∧
 OP (aE 1 b3) fun ax=>
 OP (af false 1 h_3 ax) fun az=>
 (True)∧
 cB [aF,az] h_3 fun L1 xs hx=>
 adK P K x4 L1 xs hx
theorem aqn:ai P DB (aO [.cell true 2 4] K) (bk [a0,b1]) h=Jy P K a0 b1 h:=by kernel_rfl
theorem f120 {K:VK} {a0 b1:Value} {h:ae} (H:Jy Tryz.prog K a0 b1 h):aj Tryz.prog 120 [a0,b1] h K:=
 bD atz (Nat.le_of_ble_eq_true rfl) ((aqn Tryz.prog K a0 b1 h).mpr H)
end
/-! F121: (pommel/num.Int).Quo -/
noncomputable section
variable (a0 b1 a2 b3 x4 x5 x8 y9 cM dM : Value) (h : ae)
def abL:=bp Tryz.prog 121 [[],[],[],[2,3,4,5,8,9,32],[3,4,5,8,9,32,37],[],[4,5,8,9],[]]
@[irreducible] def Ao:=bw abL
@[irreducible] def U0:=Ao.r.r.r.l.l.r.l
@[irreducible] def amU:=Ao.r.r.r.l.r
@[irreducible] def UZ:=Ao.r.r.r.r
@[irreducible] def amV:=U0.r.l
@[irreducible] def amT:=UZ.l
theorem atA:abL=some (47,Ao,[.cell true 2 4,.cell true 2 5]):=by kernel_rfl
def IC (_P:Program) (K:VK):aq:=aO [.cell true 2 4,.cell true 2 5] K
def Sy:aq:=aC (ai P UZ (IC P K)) (IC P K)
def Sz:aq:=aC (ai P amU (Sy P K)) (Sy P K)
def adL:Prop:=au (ai P U0 (Sz P K)) [2,3,4,5,8,9,32] [a2,b3,x4,x5,x8,y9,cM] h
def O0:Prop:=au (ai P amV (Sz P K)) [3,4,5,8,9,32,37] [b3,x4,x5,x8,y9,cM,dM] h
def OZ:Prop:=au (ai P amT (IC P K)) [4,5,8,9] [x4,x5,x8,y9] h
theorem avz:O0 P K b3 x4 x5 x8 y9 cM dM h=
 (OP (bK cM dM (.bool false)) fun cG=>
 aL cG
 (OP (af true 2 h x8) fun di=>
 (True)∧
 aj P 105 [(.int .i64 (1))] h fun dB h_1=>
 (af true 2 h_1 x8=some di∧True)∧
 aj P 127 [di,dB] h_1 fun dm h_2=>
 (True)∧
 OP (af true 2 h_2 y9) fun dR=>
 (af true 2 h y9=some dR∧af true 2 h_1 y9=some dR∧True)∧
 OP (af true 2 h_2 b3) fun bM=>
 (af true 2 h b3=some bM∧af true 2 h_1 b3=some bM∧True)∧
 aj P 113 [dR,bM] h_2 fun ba h_3=>
 (True)∧
 OH (aJ 2 h_3 x8 dm) fun _ h_4=>
 (True)∧
 OH (aJ 2 h_4 y9 ba) fun _ h_5=>
 (True)∧
 OZ P K x4 x5 x8 y9 h_5)
 (OZ P K x4 x5 x8 y9 h)):=aw (by kernel_rfl)
theorem avy:adL P K a2 b3 x4 x5 x8 y9 cM h=
 (bU cM true
 (OP (aE 0 a2) fun dJ=>
 OP (af false 1 h dJ) fun cm=>
 OP (aE 0 b3) fun dc=>
 OP (af false 1 h dc) fun cQ=>
 OP (ri true cm cQ) fun dM=>
 O0 P K b3 x4 x5 x8 y9 cM dM h)
 (O0 P K b3 x4 x5 x8 y9 cM undef h)):=aw (by kernel_rfl)
theorem avx:OZ P K x4 x5 x8 y9 h=
 (OP (af true 2 h x8) fun bW=>
 (True)∧
 OP (af true 2 h y9) fun cg=>
 (True)∧
 OH (aJ 2 h x4 bW) fun _ h_1=>
 (af true 2 h_1 y9=some cg∧True)∧
 OH (aJ 2 h_1 x5 cg) fun _ h_2=>
 (True)∧
 OP (af true 2 h_2 x4) fun r0=>
 OP (af true 2 h_2 x5) fun r1=>
 K (.tuple #[r0,r1]) h_2):=aw (by kernel_rfl)
def Jz:Prop:=
 OH (bc 105 h a0) fun a2 h_1=>
 OH (bc 105 h_1 b1) fun b3 h_2=>
 OH (aW 105 [(.bool false),(.slice none 0 0)] h_2) fun x4 h_3=>
 OH (aW 105 [(.bool false),(.slice none 0 0)] h_3) fun x5 h_4=>
 OP (aE 1 a2) fun ax=>
 OP (af false 1 h_4 ax) fun az=>
 OP (aE 1 b3) fun ay=>
 OP (af false 1 h_4 ay) fun aP=>
 aj P 130 [az,aP] h_4 fun a9 h_5=>
 OP (b9 0 a9) fun aX=>
 OP (b9 1 a9) fun bH=>
 OH (aW 105 [(.bool false),(.slice none 0 0)] h_5) fun x8 h_6=>
 OP (ee h_6 x8) fun u=>
 (True)∧
 OH (aW 105 [(.bool false),(.slice none 0 0)] h_6) fun y9 h_7=>
 OP (ee h_7 y9) fun x1=>
 (ee h_7 x8=some u∧True)∧
 OP (aE 0 a2) fun aN=>
 OP (af false 1 h_7 aN) fun aM=>
 (af false 1 h_5 aN=some aM∧af false 1 h_6 aN=some aM∧True)∧
 OP (aE 0 b3) fun aT=>
 OP (af false 1 h_7 aT) fun bf=>
 (af false 1 h_5 aT=some bf∧af false 1 h_6 aT=some bf∧True)∧
 OP (ri true aM bf) fun bt=>
 aj P 117 [bt,aX] h_7 fun bC h_8=>
 (ee h_8 x8=some u∧ee h_8 y9=some x1∧True)∧
 OP (aE 0 a2) fun bL=>
 OP (af false 1 h_8 bL) fun cF=>
 (af false 1 h_5 bL=some cF∧af false 1 h_6 bL=some cF∧af false 1 h_7 bL=some cF∧True)∧
 aj P 117 [cF,bH] h_8 fun bE h_9=>
 (ee h_9 x8=some u∧ee h_9 y9=some x1∧True)∧
 OH (aJ 2 h_9 x8 bC) fun _ h_10=>
 (True)∧
 OH (aJ 2 h_10 y9 bE) fun _ h_11=>
 (True)∧
 OP (aY bH) fun cP=>
 OP (ah .gtr cP (.int .i64 (0))) fun bY=>
 adL P K a2 b3 x4 x5 x8 y9 bY h_11
theorem aqo:ai P Ao (aO [.cell true 2 4,.cell true 2 5] K) (bk [a0,b1]) h=Jz P K a0 b1 h:=by kernel_rfl
theorem f121 {K:VK} {a0 b1:Value} {h:ae} (H:Jz Tryz.prog K a0 b1 h):aj Tryz.prog 121 [a0,b1] h K:=
 bD atA (Nat.le_of_ble_eq_true rfl) ((aqo Tryz.prog K a0 b1 h).mpr H)
end
/-! F130: pommel/num.part -/
noncomputable section
variable (a0 b1 x8 v9 py lY nA wM : Value) (L1 : LQ) (xs : List Value) (h : ae)
def abV:=bp Tryz.prog 130 [[],[],[],[],[],[],[],[],[],[],[],[],[],[8,9,10,11,12],[13],[],[],[],[8,10,11,12],[]]
@[irreducible] def DK:=bw abV
@[irreducible] def ank:=DK.r.r.r.r.r.r.r.l.r.l.l
@[irreducible] def Vo:=DK.r.r.r.r.r.r.r.r
@[irreducible] def anl:=Vo.l
theorem atJ:abV=some (85,DK,[.tmp 4,.tmp 5]):=by kernel_rfl
def II (_P:Program) (K:VK):aq:=aO [.tmp 4,.tmp 5] K
def aj4:aq:=aC (ai P Vo (II P K)) (II P K)
def aj5:aq:=bz 0 (aj4 P K)
def aj6:aq:=aC (fun f' aR=>(([8,9,10,11,12]:List Nat).map f':List Value)=[x8,v9,py,lY,nA]∧L1 (([13]:List Nat).map f') aR) (aj5 P K)
def O7:Prop:=au (ai P ank (aj6 P K x8 v9 py lY nA L1)) ([8,9,10,11,12]++[13]) ([x8,v9,py,lY,nA]++xs) h
def ad6:Prop:=au (ai P anl (II P K)) [8,10,11,12] [x8,py,lY,nA] h
theorem avW (x8 v9 py lY nA:Value) (L1:LQ) (wM:Value) (h:ae):O7 P K x8 v9 py lY nA L1 [wM] h=
 (OP (ah .geq wM (.int .i64 (0))) fun kH=>
 aL kH
 (OP (ah .add wM lY) fun fB=>
 OP (ah .add fB (.int .i64 (1))) fun lA=>
 OP (kf 177 1 py (some wM) (some lA)) fun jW=>
 aj P 137 [jW,v9] h fun gG h_1=>
 OP (aS 1 nA wM) fun je=>
 OH (aJ 1 h_1 je gG) fun _ h_2=>
 OP (ah .sub wM (.int .i64 (1))) fun gQ=>
 ([x8,v9,py,lY,nA]:List Value)=[x8,v9,py,lY,nA]∧L1 [gQ] h_2)
 (ad6 P K x8 py lY nA h)):=aw (by kernel_rfl)
theorem avX:ad6 P K x8 py lY nA h=
 (aj P 118 [nA] h fun eB h_1=>
 (True)∧
 OP (kf 177 1 py none (some lY)) fun jH=>
 aj P 118 [jH] h_1 fun fk h_2=>
 (True)∧
 aj P 138 [fk,x8] h_2 fun gZ h_3=>
 (True)∧
 K (.tuple #[eB,gZ]) h_3):=aw (by kernel_rfl)
def C7:Prop:=
 aj P 126 [a0,b1] h fun aX h_1=>
 OP (ah .lss aX (.int .i64 (0))) fun bH=>
 aL bH
 (OH (dA 177 1 4 h_1 (.slice none 0 0) a0) fun aM h_2=>
 K (.tuple #[(.slice none 0 0),aM]) h_2)
 (OP (aY b1) fun bf=>
 OP (ah .eql bf (.int .i64 (1))) fun bt=>
 aL bt
 (OP (aS 1 b1 (.int .i64 (0))) fun cF=>
 OP (af false 1 h_1 cF) fun bR=>
 aj P 114 [a0,bR] h_1 fun bE h_2=>
 OP (b9 0 bE) fun bZ=>
 OP (b9 1 bE) fun cP=>
 OH (cT 177 1 [(.int .u32 (0))] h_2 [(0,1,cP)]) fun dJ h_3=>
 aj P 118 [dJ] h_3 fun cm h_4=>
 K (.tuple #[bZ,cm]) h_4)
 (OP (aY b1) fun dM=>
 OP (ah .sub dM (.int .i64 (1))) fun cG=>
 OP (aS 1 b1 cG) fun di=>
 OP (af false 1 h_1 di) fun dB=>
 aj P 135 [dB] h_1 fun dm h_2=>
 aj P 136 [b1,dm] h_2 fun ba h_3=>
 aj P 118 [ba] h_3 fun bW h_4=>
 aj P 136 [a0,dm] h_4 fun dS h_5=>
 OP (aY bW) fun dE=>
 OP (aY a0) fun dK=>
 OP (ah .sub dK dE) fun cn=>
 OP (ah .add cn (.int .i64 (1))) fun fh=>
 OH (kD 177 4 [(.int .u32 (0))] h_5 fh fh) fun fU h_6=>
 OP (aY a0) fun gP=>
 OP (ah .sub gP dE) fun gF=>
 cB [gF] h_6 fun L1 xs hx=>
 O7 P K dm bW dS dE fU L1 xs hx))
theorem aqx:ai P DK (aO [.tmp 4,.tmp 5] K) (bk [a0,b1]) h=C7 P K a0 b1 h:=by kernel_rfl
theorem f130 {K:VK} {a0 b1:Value} {h:ae} (H:C7 Tryz.prog K a0 b1 h):aj Tryz.prog 130 [a0,b1] h K:=
 bD atJ (Nat.le_of_ble_eq_true rfl) ((aqx Tryz.prog K a0 b1 h).mpr H)
end
end Go.Proofs.YtelmdbpaoifmoaaGreat

namespace Go.Proofs.YtelmdbpaoifmoaaGreat
open Go.Sim

def bj:Nat:=4294967296^100

theorem aaR {n:Nat} (h:n<4294967296^20):n<bj:=Nat.lt_of_lt_of_le h (Nat.pow_le_pow_right (by decide) (by decide))

theorem nJ {xs:List Nat} (h:Canon 4294967296 xs) (hv:val 4294967296 xs<bj):xs.length≤100:=h.len (by decide) hv

def DS (e:TypeId) (k:IntKind) (h:ae) (v:Value) (xs:List Nat):Prop:=
 (v=.slice none 0 0∧xs=[])∨∃i,v=sl e i 0 xs.length∧(xs=[]∨∃rest,aQ h i=some (xs.map (fun d:Nat=>Value.int k (d:Int))++rest))

theorem DS.mono {e:TypeId} {k:IntKind} {h h':ae} {v:Value} {xs:List Nat} (x:EX h h') (p:DS e k h v xs):DS e k h' v xs:=
 p.imp id fun ⟨i,a,b⟩=>⟨i,a,b.imp id fun ⟨r,c⟩=>⟨r,x.cells c⟩⟩

theorem DS.len {e:TypeId} {k:IntKind} {h:ae} {v:Value} {xs:List Nat} (p:DS e k h v xs):aY v=some (I xs.length):=by
 rcases p with ⟨rfl,rfl⟩ | ⟨i,rfl,_⟩ <;> rfl

theorem DS.get {e:TypeId} {k:IntKind} {h:ae} {v:Value} {xs:List Nat} (p:DS e k h v xs) {j:Nat} (hj:j<xs.length):∃i,aS 1 v (I j)=some (pt i j)∧af false 1 h (pt i j)=some (.int k (xs[j]:Int)):=by
 rcases p with ⟨_,rfl⟩ | ⟨i,rfl,hc⟩
 ·simp at hj
 ·obtain ⟨r,hc⟩:=hc.resolve_left (by rintro rfl;simp at hj)
  refine ⟨i,kM hj,?_⟩
  have:(xs.map (fun d:Nat=>Value.int k (d:Int))++r)[j]?=some (.int k (xs[j]:Int)):=by rw [List.getElem?_append_left (by simpa using hj)];simp [hj]
  simp [af,hc,ck,this]

theorem DS.nil (e:TypeId) (k:IntKind) (h:ae):DS e k h (.slice none 0 0) []:=.inl ⟨rfl,rfl⟩

theorem DS.one {e:TypeId} {k:IntKind} {h:ae} {v:Value} {xs:List Nat} (p:DS e k h v xs):gW v=true∧cZ v=[v]:=by
 rcases p with ⟨rfl,_⟩ | ⟨i,rfl,_⟩ <;> exact ⟨rfl,rfl⟩

theorem DS.pop {e:TypeId} {k:IntKind} {h:ae} {v:Value} {xs:List Nat} (p:DS e k h v xs) {n:Nat} (hn:n≤xs.length):∃v',kf e 1 v none (some (I n))=some v'∧DS e k h v' (xs.take n):=by
 rcases p with ⟨rfl,rfl⟩ | ⟨i,rfl,hc⟩
 ·simp at hn;subst hn
  exact ⟨_,rfl,.inl ⟨rfl,rfl⟩⟩
 ·refine ⟨sl e i 0 n,?_,.inr ⟨i,by rw [List.length_take,Nat.min_eq_left hn],?_⟩⟩
  ·simp [kf,sl,pc,qp,hn]
  ·rcases hc with rfl | ⟨r,hc⟩
   ·left;simp
   ·right
    refine ⟨(xs.drop n).map (fun d:Nat=>Value.int k (d:Int))++r,?_⟩
    rw [hc,←List.append_assoc,←List.map_append,List.take_append_drop]

def cR (h:ae) (v:Value) (n:Nat):Prop:=∃xs,DS 177 .u32 h v xs∧Canon 4294967296 xs∧val 4294967296 xs=n

theorem cR.mono {h h':ae} {v:Value} {n:Nat} (x:EX h h') (p:cR h v n):cR h' v n:=let ⟨xs,a,b,c⟩:=p;⟨xs,a.mono x,b,c⟩

theorem pD {h:ae} {K:Value→ae→Prop} {v:Value} {xs:List Nat} (p:DS 177 .u32 h v xs) (hl:bX 4294967296 xs) (hs:xs.length≤1000) (hk:∀v',cR h v' (val 4294967296 xs)→K v' h):aj Tryz.prog 118 [v] h K:=by
 refine f118 ?_
 refine db (σ:=Value×List Nat) (fun p=>[p.1]) (fun _=>h) (fun q=>DS 177 .u32 h q.1 q.2∧bX 4294967296 q.2∧val 4294967296 q.2=val 4294967296 xs∧q.2.length≤1000) (fun q=>q.2.length) (v,xs) rfl rfl ⟨p,hl,rfl,hs⟩ ?_
 rintro ⟨v,ys⟩ ⟨p,hl,hv,hs⟩ L hL
 simp only at p hl hv hs hL⊢
 rw [avn]
 have done:Canon 4294967296 ys→OY Tryz.prog K v h:=by
  intro hc
  rw [avm]
  exact hk v ⟨ys,p,hc,hv⟩
 simp only [p.len,ag,eT]
 by_cases h0:ys.length=0
 ·have:ys=[]:=List.length_eq_zero_iff.1 h0
  rw [decide_eq_false (show ¬(0:Int)<(ys.length:Int) by omega)]
  simp only [af7,ie,af6,cV,ag,c7]
  exact done (by rw [this];exact Canon.nil 4294967296)
 ·rw [decide_eq_true (show (0:Int)<(ys.length:Int) by omega)]
  have e1:IntKind.wrap .i64 ((ys.length:Int)-1)=((ys.length-1:Nat):Int):=by rw [wrap64 (by omega) (by omega)];omega
  obtain ⟨i,g1,g2⟩:=p.get (j:=ys.length-1) (by omega)
  simp only [af7,eO,p.len,ag,eW,e1,g1,g2,fW,af6,dh,bS]
  refine ⟨fun hz=>?_,fun hz=>?_⟩
  ·obtain ⟨v',h1,h2⟩:=p.pop (n:=ys.length-1) (by omega)
   simp only [h1,ag,true_and]
   have asC:ys=ys.take (ys.length-1)++[0]:=by
    have:=List.take_succ_eq_append_getElem (l:=ys) (i:=ys.length-1) (by omega)
    rw [show ys.length-1+1=ys.length by omega,List.take_length] at this
    have pa:ys[ys.length-1]=0:=by omega
    rw [pa] at this
    exact this
   refine hL (v',ys.take (ys.length-1)) ⟨h2,hl.mono fun y hy=>List.mem_of_mem_take hy,?_,by rw [List.length_take];omega⟩ (by simp;omega)
   rw [←hv]
   conv=>rhs;rw [asC]
   rw [lj]
   simp [val]
  ·exact done (Et hl fun h1 hc=>hz (by rw [hc];rfl))

/-- Fresh digits at the end of the heap. -/
abbrev hd (h:ae) (os:List Nat):ae:=h++[.arr 177 (os.map fun d:Nat=>Value.int .u32 (d:Int))]

theorem wV {h:ae} {n:Nat} (hn:n≤1000):kD 177 4 [.int .u32 0] h (I n) (I n)=some (sl 177 h.length 0 n,hd h (List.replicate n 0)):=by
 have hz:∀m,gH [Value.int .u32 0] m=(List.replicate m 0).map fun d:Nat=>Value.int .u32 (d:Int):=by
  intro m
  induction m with
  | zero=>rfl
  | succ m ih=>
   have:gH [Value.int .u32 0] (m+1)=Value.int .u32 0::gH [Value.int .u32 0] m:=by simp [gH,List.replicate_succ]
   rw [this,ih,List.replicate_succ];rfl
 simp only [kD]
 rw [if_pos ⟨by omega,by omega,by omega,by omega⟩,Int.toNat_natCast,hz]

theorem MH (h:ae) (os:List Nat):(hd h os)[h.length]?=some (.arr 177 (os.map fun d:Nat=>Value.int .u32 (d:Int))):=by simp [hd]

theorem rZ {h:ae} {os:List Nat} {j:Nat} (d:Nat) (hj:j<os.length):aJ 1 (hd h os) (pt h.length j) (.int .u32 (d:Int))=some (undef,hd h (os.set j d)):=by
 rw [pq (MH h os) (by simpa using hj) rfl rfl]
 simp [hd,List.map_set]

theorem Y8 {h:ae} {os:List Nat} {j:Nat} (hj:j<os.length):af false 1 (hd h os) (pt h.length j)=some (.int .u32 (os[j]:Int)):=by
 simp [af,aQ,ck,hj]

theorem vS (h:ae) (os:List Nat):DS 177 .u32 (hd h os) (sl 177 h.length 0 os.length) os:=.inr ⟨h.length,rfl,.inr ⟨[],by simp [aQ,hd]⟩⟩

theorem jh (h:ae) (os:List Nat):EX h (hd h os):=EX.append _ _

theorem jv {n:Int} (h1:0≤n) (h2:n<18446744073709551616):IntKind.wrap .u64 n=n:=by
 have e:IntKind.wrap .u64 n=n%18446744073709551616:=by simp [IntKind.wrap,IntKind.bits,IntKind.signed]
 rw [e];omega
theorem uH (n:Int):IntKind.wrap .u32 n=n%4294967296:=by simp [IntKind.wrap,IntKind.bits,IntKind.signed]
theorem me {n:Int} (h1:0≤n) (h2:n<4294967296):IntKind.wrap .u32 n=n:=by rw [uH];omega

theorem xk (s:Nat):ah .shr (.int .u64 (s:Int)) (.int .u64 32)=some (.int .u64 ((s / 4294967296:Nat):Int)):=by
 simp only [ah,oc]
 rw [if_neg (by omega)]
 have:(min (32:Int).toNat IntKind.u64.bits)=32:=rfl
 rw [this]
 have e2:(2:Int)^32=4294967296:=by decide
 rw [e2,Int.fdiv_eq_ediv_of_nonneg _ (by omega)]
 congr 2

theorem RF {x y c:Nat} {h:ae} {K:Value→ae→Prop} (hx:x<4294967296) (hy:y<4294967296) (hc:c≤1) (hk:K (.tuple #[.int .u32 (((x+y+c)%4294967296:Nat):Int),.int .u32 (((x+y+c) / 4294967296:Nat):Int)]) h):
  aj Tryz.prog 133 [.int .u32 (x:Int),.int .u32 (y:Int),.int .u32 (c:Int)] h K:=by
 refine f133 ?_
 have e1:IntKind.wrap .u64 ((x:Int)+(y:Int))=((x+y:Nat):Int):=by rw [jv (by omega) (by omega)];omega
 have e2:IntKind.wrap .u64 (((x+y:Nat):Int)+(c:Int))=((x+y+c:Nat):Int):=by rw [jv (by omega) (by omega)];omega
 have e3:IntKind.wrap .u32 ((x+y+c:Nat):Int)=(((x+y+c)%4294967296:Nat):Int):=by rw [uH];omega
 simp only [JL,jy,ag,cC]
 rw [jv (n:=(x:Int)) (by omega) (by omega),jv (n:=(y:Int)) (by omega) (by omega),e1,jv (n:=(c:Int)) (by omega) (by omega),e2]
 simp only [xk,ag,jy,e3]
 rw [me (by omega) (by omega)]
 exact hk

theorem RC {va vb:Value} {xs ys:List Nat} {h:ae} {K:Value→ae→Prop} (hx:DS 177 .u32 h va xs) (hy:DS 177 .u32 h vb ys) (lx:bX 4294967296 xs) (ly:bX 4294967296 ys) (hle:ys.length≤xs.length) (hlen:xs.length≤200)
  (hk:∀v h',EX h h'→cR h' v (val 4294967296 xs+val 4294967296 ys)→K v h'):Gq Tryz.prog K va vb h:=by
 rw [avQ]
 simp only [hx.len,ag,cC,inc xs.length (by omega),wV (show xs.length+1≤1000 by omega),aD]
 have hW:0<4294967296:=by decide
 refine db (σ:=Nat×Nat×List Nat) (fun p=>[.int .u32 (p.1:Int),I p.2.1]) (fun p=>hd h p.2.2)
  (fun p=>p.2.1≤xs.length∧p.1≤1∧p.2.2.length=xs.length+1∧bX 4294967296 p.2.2∧(∀j (hj:j<p.2.2.length),p.2.1≤j→p.2.2[j]=0)∧val 4294967296 p.2.2+4294967296^p.2.1*p.1=val 4294967296 (xs.take p.2.1)+val 4294967296 (ys.take p.2.1)) (fun p=>xs.length-p.2.1)
  (0,0,List.replicate (xs.length+1) 0) rfl rfl ⟨by simp,by simp,by simp,bX.tk hW _,by simp,by simp [uF,val]⟩ ?_
 rintro ⟨c,i,os⟩ ⟨hi,hc,fI,dV,hz,bQ⟩ L hL
 simp only at hi hc fI dV hz bQ hL⊢
 rw [avM]
 have bJ:=hx.mono (jh h os)
 have n7:=hy.mono (jh h os)
 simp only [cK,ag,bS]
 refine ⟨fun aB=>?_,fun cH=>?_⟩
 ·have bF:i<xs.length:=by omega
  obtain ⟨ia,a1,a2⟩:=bJ.get bF
  have fQ:xs[i]<4294967296:=lx _ (List.getElem_mem bF)
  have go:∀y:Nat,y<4294967296→val 4294967296 (ys.take (i+1))=val 4294967296 (ys.take i)+4294967296^i*y→Gp Tryz.prog K va vb (sl 177 h.length 0 (xs.length+1)) (.int .u32 (c:Int)) (I i) (.int .u32 (y:Int)) (I xs.length) (I i) L (hd h os):=by
   intro y iY wC
   rw [avN]
   simp only [a1,ag,a2]
   refine RF fQ iY hc ?_
   simp only [dY,fg,fy,ag,kM (show i<xs.length+1 by omega)]
   rw [rZ _ (by omega)]
   simp only [aD,avO,cC,ag,inc i (by omega),true_and]
   have mI:(xs[i]+y+c)%4294967296<4294967296:=Nat.mod_lt _ hW
   have hdiv:(xs[i]+y+c) / 4294967296≤1:=by omega
   refine hL ((xs[i]+y+c) / 4294967296,i+1,os.set i ((xs[i]+y+c)%4294967296)) ⟨by show i+1≤xs.length;omega,hdiv,by show (os.set i _).length=_;rw [List.length_set];exact fI,dV.set mI i,?_,?_⟩ (by show xs.length-(i+1)<xs.length-i;omega)
   ·intro j hj dO
    show (os.set i _)[j]=0
    have MT:i≠j:=by have:i+1≤j:=dO;omega
    rw [List.getElem_set_ne MT]
    exact hz j (by simpa using hj) (by have:i+1≤j:=dO;omega)
   ·show val 4294967296 (os.set i _)+4294967296^(i+1)*_=val 4294967296 (xs.take (i+1))+val 4294967296 (ys.take (i+1))
    have h1:=qE 4294967296 os i ((xs[i]+y+c)%4294967296) (by omega)
    rw [hz i (by omega) (Nat.le_refl _)] at h1
    rw [gO 4294967296 xs bF,wC,Nat.pow_succ]
    have h2:=Nat.mod_add_div (xs[i]+y+c) 4294967296
    generalize (xs[i]+y+c)%4294967296=m at*
    generalize (xs[i]+y+c) / 4294967296=q at*
    generalize 4294967296^i=P at*
    generalize hWW:4294967296=w at*
    grind
  simp only [n7.len,ag,cK,bS]
  refine ⟨fun Zr=>?_,fun Zh=>?_⟩
  ·have vY:i<ys.length:=by omega
   obtain ⟨ib,b1,b2⟩:=n7.get vY
   simp only [b1,ag,b2]
   exact go _ (ly _ (List.getElem_mem vY)) (gO 4294967296 ys vY)
  ·have:=go 0 (by decide) (by rw [List.take_of_length_le (by omega),List.take_of_length_le (by omega)];simp)
   simpa using this
 ·have:i=xs.length:=by omega
  subst this
  rw [avP]
  simp only [bJ.len,ag,kM (show xs.length<xs.length+1 by omega)]
  rw [rZ _ (by omega)]
  simp only [aD]
  have h1:=qE 4294967296 os xs.length c (by omega)
  rw [hz xs.length (by omega) (Nat.le_refl _)] at h1
  have hv:val 4294967296 (os.set xs.length c)=val 4294967296 xs+val 4294967296 ys:=by
   rw [List.take_length,List.take_of_length_le hle] at bQ
   omega
  have hcW:c<4294967296:=Nat.lt_of_le_of_lt hc (by decide)
  have e:sl 177 h.length 0 (xs.length+1)=sl 177 h.length 0 (os.set xs.length c).length:=by rw [List.length_set,fI]
  rw [e]
  refine pD (vS h _) (dV.set hcW _) (by rw [List.length_set];omega) ?_
  intro v' hm
  rw [hv] at hm
  exact hk v' _ (jh h _) hm

theorem RB {va vb:Value} {a b:Nat} {h:ae} {K:Value→ae→Prop} (ha:cR h va a) (hb:cR h vb b) (la:a<bj) (lb:b<bj) (hk:∀v h',EX h h'→cR h' v (a+b)→K v h'):aj Tryz.prog 128 [va,vb] h K:=by
 obtain ⟨xs,dx,cx,rfl⟩:=ha
 obtain ⟨ys,dy,cy,rfl⟩:=hb
 have l1:=nJ cx la
 have l2:=nJ cy lb
 refine f128 ?_
 simp only [JG,dx.len,dy.len,ag,cK,bS]
 refine ⟨fun aB=>?_,fun cH=>?_⟩
 ·refine RC dy dx cy.1 cx.1 (by omega) (by omega) ?_
  rw [Nat.add_comm (val 4294967296 ys)]
  exact hk
 ·exact RC dx dy cx.1 cy.1 (by omega) (by omega) hk

end Go.Proofs.YtelmdbpaoifmoaaGreat


namespace Go.Proofs.YtelmdbpaoifmoaaGreat
open Go.Sim

theorem vg (X:BitVec 32):BitVec.ofInt IntKind.u32.bits (X.toNat:Int)=X:=by
 show BitVec.ofInt 32 (X.toNat:Int)=X
 rw [BitVec.ofInt_natCast,BitVec.ofNat_toNat,BitVec.setWidth_eq]

theorem Ak (X:BitVec 32):X.toNat<4294967296:=X.isLt

theorem alZ (X Y:BitVec 32):ah .and (.int .u32 (X.toNat:Int)) (.int .u32 (Y.toNat:Int))=some (.int .u32 ((X &&& Y).toNat:Int)):=by
 have h:=Ak (X &&& Y)
 have e:(BitVec.ofInt IntKind.u32.bits (X.toNat:Int) &&& BitVec.ofInt IntKind.u32.bits (Y.toNat:Int)).toNat=(X &&& Y).toNat:=by rw [vg,vg];rfl
 simp only [ah,fY,if_true]
 rw [e,me (by omega) (by omega)]

theorem auF (X Y:BitVec 32):ah .or (.int .u32 (X.toNat:Int)) (.int .u32 (Y.toNat:Int))=some (.int .u32 ((X ||| Y).toNat:Int)):=by
 have h:=Ak (X ||| Y)
 have e:(BitVec.ofInt IntKind.u32.bits (X.toNat:Int) ||| BitVec.ofInt IntKind.u32.bits (Y.toNat:Int)).toNat=(X ||| Y).toNat:=by rw [vg,vg];rfl
 simp only [ah,fY,if_true]
 rw [e,me (by omega) (by omega)]

theorem aAj (X Y:BitVec 32):ah .xor (.int .u32 (X.toNat:Int)) (.int .u32 (Y.toNat:Int))=some (.int .u32 ((X^^^Y).toNat:Int)):=by
 have h:=Ak (X^^^Y)
 have e:(BitVec.ofInt IntKind.u32.bits (X.toNat:Int)^^^BitVec.ofInt IntKind.u32.bits (Y.toNat:Int)).toNat=(X^^^Y).toNat:=by rw [vg,vg];rfl
 simp only [ah,fY,if_true]
 rw [e,me (by omega) (by omega)]

theorem aur (X:BitVec 32):ft .xor (.int .u32 (X.toNat:Int))=some (.int .u32 ((~~~X).toNat:Int)):=by
 have h:=Ak (~~~X)
 have e:(BitVec.ofInt IntKind.u32.bits (if IntKind.u32.signed=true then -1 else IntKind.u32.max)^^^BitVec.ofInt IntKind.u32.bits (X.toNat:Int)).toNat=(~~~X).toNat:=by
  rw [vg]
  show (BitVec.ofInt 32 4294967295^^^X).toNat=_
  rw [show BitVec.ofInt 32 4294967295=BitVec.allOnes 32 from by decide,BitVec.allOnes_xor]
 simp only [ft]
 rw [e,me (by omega) (by omega)]

theorem azC (Z:BitVec 32):ah .shr (.int .u32 (Z.toNat:Int)) (.int .u64 31)=some (.int .u32 ((if Z.msb then 1 else 0:Nat):Int)):=by
 have h:=Ak Z
 simp only [ah,oc]
 rw [if_neg (by omega)]
 have:(min (31:Int).toNat IntKind.u32.bits)=31:=rfl
 rw [this]
 have e2:(2:Int)^31=2147483648:=by decide
 rw [e2,Int.fdiv_eq_ediv_of_nonneg _ (by omega),BitVec.msb_eq_decide]
 congr 2
 by_cases hz:2^31≤Z.toNat
 ·simp [hz];omega
 ·simp [hz];omega

theorem RG {x y b:Nat} {h:ae} {K:Value→ae→Prop} (hx:x<4294967296) (hy:y<4294967296) (hb:b≤1) (hk:K (.tuple #[.int .u32 (((x+4294967296+4294967296-y-b)%4294967296:Nat):Int),.int .u32 ((if x<y+b then 1 else 0:Nat):Int)]) h):
  aj Tryz.prog 134 [.int .u32 (x:Int),.int .u32 (y:Int),.int .u32 (b:Int)] h K:=by
 refine f134 ?_
 obtain ⟨X,rfl⟩:∃X:BitVec 32,x=X.toNat:=⟨BitVec.ofNat 32 x,by rw [BitVec.toNat_ofNat];exact (Nat.mod_eq_of_lt hx).symm⟩
 obtain ⟨Y,rfl⟩:∃Y:BitVec 32,y=Y.toNat:=⟨BitVec.ofNat 32 y,by rw [BitVec.toNat_ofNat];exact (Nat.mod_eq_of_lt hy).symm⟩
 obtain ⟨D,hD⟩:∃D:BitVec 32,D.toNat=(X.toNat+4294967296+4294967296-Y.toNat-b)%4294967296:=⟨BitVec.ofNat 32 _,by rw [BitVec.toNat_ofNat]⟩
 have e1:IntKind.wrap .u32 (IntKind.wrap .u32 ((X.toNat:Int)-(Y.toNat:Int))-(b:Int))=(D.toNat:Int):=by
  rw [uH,uH,hD];omega
 simp only [JM,eW,ag,e1,aur,alZ,aAj,auF,azC]
 rw [←hD] at hk
 have e2:(if (~~~X &&& Y ||| ~~~(X^^^Y) &&& D).msb then 1 else 0:Nat)=if X.toNat<Y.toNat+b then 1 else 0:=by
  rw [BitVec.msb_or,BitVec.msb_and,BitVec.msb_and,BitVec.msb_not,BitVec.msb_not,BitVec.msb_xor,BitVec.msb_eq_decide X,BitVec.msb_eq_decide Y,BitVec.msb_eq_decide D]
  by_cases c1:2^(32-1)≤X.toNat <;> by_cases c2:2^(32-1)≤Y.toNat <;> by_cases c3:2^(32-1)≤D.toNat <;> simp [c1,c2,c3] <;> omega
 rw [e2]
 exact hk

theorem RD {va vb:Value} {a b:Nat} {h:ae} {K:Value→ae→Prop} (ha:cR h va a) (hb:cR h vb b) (la:a<bj) (gr:b≤a) (hk:∀v h',EX h h'→cR h' v (a-b)→K v h'):aj Tryz.prog 129 [va,vb] h K:=by
 obtain ⟨xs,hx,cx,rfl⟩:=ha
 obtain ⟨ys,hy,cy,rfl⟩:=hb
 have l1:=nJ cx la
 have l2:=nJ cy (Nat.lt_of_le_of_lt gr la)
 have hle:ys.length≤xs.length:=by
  apply Classical.byContradiction
  intro hc
  have:=Canon.wU (by decide) cx cy (by omega)
  omega
 refine f129 ?_
 simp only [JH,hx.len,ag,wV (show xs.length≤1000 by omega),aD]
 have hW:(0:Nat)<4294967296:=by decide
 refine db (σ:=Nat×Nat×List Nat) (fun p=>[.int .u32 (p.1:Int),I p.2.1]) (fun p=>hd h p.2.2)
  (fun p=>p.2.1≤xs.length∧p.1≤1∧p.2.2.length=xs.length∧bX 4294967296 p.2.2∧(∀j (hj:j<p.2.2.length),p.2.1≤j→p.2.2[j]=0)∧val 4294967296 p.2.2+val 4294967296 (ys.take p.2.1)=val 4294967296 (xs.take p.2.1)+4294967296^p.2.1*p.1) (fun p=>xs.length-p.2.1)
  (0,0,List.replicate xs.length 0) rfl rfl ⟨by simp,by simp,by simp,bX.tk hW _,by simp,by simp [uF,val]⟩ ?_
 rintro ⟨c,i,os⟩ ⟨hi,hc,fI,dV,hz,bQ⟩ L hL
 simp only at hi hc fI dV hz bQ hL⊢
 rw [avU]
 have bJ:=hx.mono (jh h os)
 have n7:=hy.mono (jh h os)
 simp only [cK,ag,bS]
 refine ⟨fun aB=>?_,fun cH=>?_⟩
 ·have bF:i<xs.length:=by omega
  obtain ⟨ia,a1,a2⟩:=bJ.get bF
  have fQ:xs[i]<4294967296:=cx.1 _ (List.getElem_mem bF)
  have go:∀y:Nat,y<4294967296→val 4294967296 (ys.take (i+1))=val 4294967296 (ys.take i)+4294967296^i*y→Gr Tryz.prog K va vb (sl 177 h.length 0 xs.length) (.int .u32 (c:Int)) (I i) (.int .u32 (y:Int)) (I xs.length) (I i) L (hd h os):=by
   intro y iY wC
   rw [avR]
   simp only [a1,ag,a2]
   refine RG fQ iY hc ?_
   simp only [dY,fg,fy,ag,kM bF]
   rw [rZ _ (by omega)]
   simp only [aD,avS,cC,ag,inc i (by omega),true_and]
   have mI:(xs[i]+4294967296+4294967296-y-c)%4294967296<4294967296:=Nat.mod_lt _ hW
   have jN:(if xs[i]<y+c then 1 else 0)≤1:=by split <;> omega
   have hs:(xs[i]+4294967296+4294967296-y-c)%4294967296+y+c=xs[i]+4294967296*(if xs[i]<y+c then 1 else 0):=by
    split <;> omega
   refine hL ((if xs[i]<y+c then 1 else 0),i+1,os.set i ((xs[i]+4294967296+4294967296-y-c)%4294967296)) ⟨by show i+1≤xs.length;omega,jN,by show (os.set i _).length=_;rw [List.length_set];exact fI,dV.set mI i,?_,?_⟩ (by show xs.length-(i+1)<xs.length-i;omega)
   ·intro j hj dO
    show (os.set i _)[j]=0
    have MT:i≠j:=by have:i+1≤j:=dO;omega
    rw [List.getElem_set_ne MT]
    exact hz j (by simpa using hj) (by have:i+1≤j:=dO;omega)
   ·show val 4294967296 (os.set i _)+val 4294967296 (ys.take (i+1))=val 4294967296 (xs.take (i+1))+4294967296^(i+1)*_
    have h1:=qE 4294967296 os i ((xs[i]+4294967296+4294967296-y-c)%4294967296) (by omega)
    rw [hz i (by omega) (Nat.le_refl _)] at h1
    rw [gO 4294967296 xs bF,wC,Nat.pow_succ]
    generalize (xs[i]+4294967296+4294967296-y-c)%4294967296=m at*
    generalize (if xs[i]<y+c then 1 else 0)=q at*
    generalize 4294967296^i=P at*
    generalize (4294967296:Nat)=w at*
    grind
  simp only [n7.len,ag,cK,bS]
  refine ⟨fun Zr=>?_,fun Zh=>?_⟩
  ·have vY:i<ys.length:=by omega
   obtain ⟨ib,b1,b2⟩:=n7.get vY
   simp only [b1,ag,b2]
   exact go _ (cy.1 _ (List.getElem_mem vY)) (gO 4294967296 ys vY)
  ·have:=go 0 (by decide) (by rw [List.take_of_length_le (by omega),List.take_of_length_le (by omega)];simp)
   simpa using this
 ·have:i=xs.length:=by omega
  subst this
  rw [avT]
  rw [List.take_length,List.take_of_length_le hle] at bQ
  have aB:=kF dV
  rw [fI] at aB
  have pT:c=0:=by
   apply Classical.byContradiction
   intro br
   have:c=1:=by omega
   subst this
   omega
  subst pT
  have hv:val 4294967296 os=val 4294967296 xs-val 4294967296 ys:=by omega
  have e:sl 177 h.length 0 xs.length=sl 177 h.length 0 os.length:=by rw [fI]
  rw [e]
  refine pD (vS h _) dV (by omega) ?_
  intro v' hm
  rw [hv] at hm
  exact hk v' _ (jh h _) hm

def kE (a b:Nat):Int:=if a<b then -1 else if b<a then 1 else 0

theorem HJ {B:Nat} {xs ys:List Nat} (lx:bX B xs) (_:bX B ys) (hl:xs.length=ys.length) {i:Nat} (hi:i<xs.length) (hd:xs.drop (i+1)=ys.drop (i+1)) (h:xs[i]<ys[i]'(by omega)):val B xs<val B ys:=by
 have e1:xs=xs.take i++xs[i]::xs.drop (i+1):=by rw [←List.drop_eq_getElem_cons hi,List.take_append_drop]
 have e2:ys=ys.take i++ys[i]'(by omega)::ys.drop (i+1):=by rw [←List.drop_eq_getElem_cons (by omega),List.take_append_drop]
 have v1:val B xs=val B (xs.take i)+B^i*(xs[i]+B*val B (xs.drop (i+1))):=by
  conv=>lhs;rw [e1]
  rw [lj,List.length_take,Nat.min_eq_left (by omega)];rfl
 have v2:val B ys=val B (ys.take i)+B^i*(ys[i]'(by omega)+B*val B (ys.drop (i+1))):=by
  conv=>lhs;rw [e2]
  rw [lj,List.length_take,Nat.min_eq_left (by omega)];rfl
 rw [v1,v2,hd]
 have h1:=kF (lx.mono (ys:=xs.take i) fun y hy=>List.mem_of_mem_take hy)
 rw [List.length_take,Nat.min_eq_left (by omega)] at h1
 have h2:B^i*(xs[i]+1+B*val B (ys.drop (i+1)))≤B^i*(ys[i]'(by omega)+B*val B (ys.drop (i+1))):=Nat.mul_le_mul_left _ (by omega)
 generalize B^i=P at*
 generalize B*val B (ys.drop (i+1))=Q at*
 generalize val B (xs.take i)=u at*
 generalize val B (ys.take i)=v at*
 have h3:P*(xs[i]+1+Q)=P*(xs[i]+Q)+P:=by grind
 omega

theorem Cy {va vb:Value} {a b:Nat} {h:ae} {K:Value→ae→Prop} (ha:cR h va a) (hb:cR h vb b) (la:a<bj) (lb:b<bj) (hk:K (I (kE a b)) h):aj Tryz.prog 126 [va,vb] h K:=by
 obtain ⟨xs,hx,cx,rfl⟩:=ha
 obtain ⟨ys,hy,cy,rfl⟩:=hb
 have l1:=nJ cx la
 have l2:=nJ cy lb
 have less:val 4294967296 xs<val 4294967296 ys→K (.int .i64 (-1)) h:=fun h1=>by unfold kE at hk;rw [if_pos h1] at hk;exact hk
 have more:val 4294967296 ys<val 4294967296 xs→K (.int .i64 1) h:=fun h1=>by unfold kE at hk;rw [if_neg (by omega),if_pos h1] at hk;exact hk
 have same:val 4294967296 xs=val 4294967296 ys→K (.int .i64 0) h:=fun h1=>by unfold kE at hk;rw [if_neg (by omega),if_neg (by omega)] at hk;exact hk
 refine f126 ?_
 simp only [JE,hx.len,hy.len,ag,nI,CF,cK,bS]
 refine ⟨fun br=>⟨fun aB=>less (Canon.wU (by decide) cx cy (by omega)),fun cH=>more (Canon.wU (by decide) cy cx (by omega))⟩,fun he=>?_⟩
 have fc:xs.length=ys.length:=by omega
 simp only [eW,ag]
 have e1:IntKind.wrap .i64 ((xs.length:Int)-1)=(xs.length:Int)-1:=by rw [wrap64 (by omega) (by omega)]
 rw [e1]
 refine db (σ:=Nat) (fun i=>[I ((i:Int)-1)]) (fun _=>h) (fun i=>i≤xs.length∧xs.drop i=ys.drop i) (fun i=>i) xs.length rfl rfl ⟨Nat.le_refl _,by rw [List.drop_length,fc,List.drop_length]⟩ ?_
 rintro i ⟨hi,pV⟩ L hL
 rw [avL]
 simp only [j5,ag,bS]
 refine ⟨fun cH=>?_,fun aB=>?_⟩
 ·obtain ⟨j,rfl⟩:∃j,i=j+1:=⟨i-1,by omega⟩
  have ej:(((j+1:Nat):Int)-1)=(j:Int):=by omega
  rw [ej]
  obtain ⟨ia,a1,a2⟩:=hx.get (j:=j) (by omega)
  obtain ⟨ib,b1,b2⟩:=hy.get (j:=j) (by omega)
  simp only [a1,a2,b1,b2,ag,true_and,nI,CF,cK,bS]
  refine ⟨fun br=>⟨fun aB=>less (HJ cx.1 cy.1 fc (i:=j) (by omega) pV (by omega)),fun cH=>more (HJ cy.1 cx.1 fc.symm (i:=j) (by omega) pV.symm (by omega))⟩,fun heq=>?_⟩
  simp only [eW,ag]
  rw [wrap64 (by omega) (by omega)]
  refine hL j ⟨by omega,?_⟩ (by omega)
  rw [List.drop_eq_getElem_cons (by omega),List.drop_eq_getElem_cons (show j<ys.length by omega),pV]
  congr 1
  omega
 ·have:i=0:=by omega
  subst this
  rw [List.drop_zero,List.drop_zero] at pV
  exact same (by rw [pV])

end Go.Proofs.YtelmdbpaoifmoaaGreat


namespace Go.Proofs.YtelmdbpaoifmoaaGreat
open Go.Sim

theorem F4 {x y:Nat} (hx:x<4294967296) (hy:y<4294967296):x*y≤18446744065119617025:=by
 have:=Nat.mul_le_mul (show x≤4294967295 by omega) (show y≤4294967295 by omega)
 omega

theorem Rz {va vb:Value} {a b:Nat} {h:ae} {K:Value→ae→Prop} (ha:cR h va a) (hb:cR h vb b) (la:a<bj) (lb:b<bj) (hk:∀v h',EX h h'→cR h' v (a*b)→K v h'):aj Tryz.prog 122 [va,vb] h K:=by
 obtain ⟨xs,hx,cx,rfl⟩:=ha
 obtain ⟨ys,hy,cy,rfl⟩:=hb
 have l1:=nJ cx la
 have l2:=nJ cy lb
 have hW:(0:Nat)<4294967296:=by decide
 refine f122 ?_
 have e0:IntKind.wrap .i64 ((xs.length:Int)+(ys.length:Int))=((xs.length+ys.length:Nat):Int):=by rw [wrap64 (by omega) (by omega)];omega
 simp only [JA,hx.len,hy.len,ag,cC,e0,wV (show xs.length+ys.length≤1000 by omega),aD]
 refine db (σ:=Nat×List Nat) (fun p=>[I p.1]) (fun p=>hd h p.2)
  (fun p=>p.1≤xs.length∧p.2.length=xs.length+ys.length∧bX 4294967296 p.2∧(∀j (hj:j<p.2.length),p.1+ys.length≤j→p.2[j]=0)∧val 4294967296 p.2=val 4294967296 (xs.take p.1)*val 4294967296 ys) (fun p=>xs.length-p.1)
  (0,List.replicate (xs.length+ys.length) 0) rfl rfl ⟨by simp,by simp,bX.tk hW _,by simp,by simp [uF,val]⟩ ?_
 rintro ⟨i,os⟩ ⟨hi,fI,dV,hz,bQ⟩ L hL
 simp only at hi fI dV hz bQ hL⊢
 rw [avE]
 have bJ:=hx.mono (jh h os)
 simp only [cK,ag,bS]
 refine ⟨fun aB=>?_,fun cH=>?_⟩
 ·have bF:i<xs.length:=by omega
  obtain ⟨ia,a1,a2⟩:=bJ.get bF
  have fQ:xs[i]<4294967296:=cx.1 _ (List.getElem_mem bF)
  simp only [a1,ag,a2,(hy.mono (jh h os)).len]
  have wz:=gO 4294967296 xs bF
  generalize xs[i]=x at fQ wz
  refine db (σ:=Nat×Nat×List Nat) (fun p=>[.int .u64 (p.1:Int),I p.2.1]) (fun p=>hd h p.2.2)
   (fun p=>p.2.1≤ys.length∧p.1<4294967296∧p.2.2.length=xs.length+ys.length∧bX 4294967296 p.2.2∧(∀j (hj:j<p.2.2.length),i+ys.length≤j→p.2.2[j]=0)∧val 4294967296 p.2.2+4294967296^(i+p.2.1)*p.1=val 4294967296 os+4294967296^i*(x*val 4294967296 (ys.take p.2.1))) (fun p=>ys.length-p.2.1)
   (0,0,os) rfl rfl ⟨by simp,hW,fI,dV,hz,by simp [val]⟩ ?_
  rintro ⟨c,j,ps⟩ ⟨hj,hc,kB,sw,tZ,tY⟩ L2 fX
  simp only at hj hc kB sw tZ tY fX⊢
  rw [avA]
  have n7:=hy.mono (jh h ps)
  simp only [cK,ag,bS]
  refine ⟨fun ka=>?_,fun MN=>?_⟩
  ·have pZ:j<ys.length:=by omega
   obtain ⟨ib,b1,b2⟩:=n7.get pZ
   have iY:ys[j]<4294967296:=cy.1 _ (List.getElem_mem pZ)
   have hyt:=gO 4294967296 ys pZ
   generalize ys[j]=y at b2 iY hyt
   have nh:i+j<ps.length:=by omega
   have asb:ps[i+j]<4294967296:=sw _ (List.getElem_mem nh)
   have Z7:=F4 fQ iY
   have jQ:=qE 4294967296 ps (i+j) ((x*y+ps[i+j]+c)%4294967296) nh
   have ei:IntKind.wrap .i64 ((i:Int)+(j:Int))=((i+j:Nat):Int):=by rw [wrap64 (by omega) (by omega)];omega
   have LD:((x:Int)*(y:Int))=((x*y:Nat):Int):=by simp
   simp only [b1,ag,b2,jy]
   rw [jv (n:=(x:Int)) (by omega) (by omega),jv (n:=(y:Int)) (by omega) (by omega)]
   simp only [tC,ag,LD,cC,ei]
   rw [jv (n:=((x*y:Nat):Int)) (by omega) (by omega)]
   rw [kM (show i+j<xs.length+ys.length by omega)]
   simp only [ag,Y8 nh,jy]
   rw [jv (n:=(ps[i+j]:Int)) (by omega) (by omega)]
   have e1:IntKind.wrap .u64 (((x*y:Nat):Int)+(ps[i+j]:Int))=((x*y+ps[i+j]:Nat):Int):=by rw [jv (by omega) (by omega)];omega
   have e2:IntKind.wrap .u64 (((x*y+ps[i+j]:Nat):Int)+(c:Int))=((x*y+ps[i+j]+c:Nat):Int):=by rw [jv (by omega) (by omega)];omega
   have e3:IntKind.wrap .u32 ((x*y+ps[i+j]+c:Nat):Int)=(((x*y+ps[i+j]+c)%4294967296:Nat):Int):=by rw [uH];omega
   simp only [cC,ag,e1,e2,jy,e3,xk]
   rw [rZ _ nh]
   simp only [aD,inc j (by omega),true_and]
   have mI:(x*y+ps[i+j]+c)%4294967296<4294967296:=Nat.mod_lt _ hW
   have jO:=Nat.mod_add_div (x*y+ps[i+j]+c) 4294967296
   have hdiv:(x*y+ps[i+j]+c) / 4294967296<4294967296:=by omega
   refine fX ((x*y+ps[i+j]+c) / 4294967296,j+1,ps.set (i+j) ((x*y+ps[i+j]+c)%4294967296)) ⟨by show j+1≤ys.length;omega,hdiv,by show (ps.set _ _).length=_;rw [List.length_set];exact kB,sw.set mI _,?_,?_⟩ (by show ys.length-(j+1)<ys.length-j;omega)
   ·intro k sj Fi
    show (ps.set (i+j) _)[k]=0
    have br:i+j≠k:=by omega
    rw [List.getElem_set_ne br]
    exact tZ k (by simpa using sj) Fi
   ·show val 4294967296 (ps.set (i+j) _)+4294967296^(i+(j+1))*_=val 4294967296 os+4294967296^i*(x*val 4294967296 (ys.take (j+1)))
    rw [hyt,←Nat.add_assoc,Nat.pow_succ]
    rw [Nat.pow_add] at jQ tY⊢
    generalize ps[i+j]=o at*
    generalize (x*y+o+c)%4294967296=m at*
    generalize (x*y+o+c) / 4294967296=q at*
    generalize val 4294967296 (ys.take j)=v at*
    generalize val 4294967296 (ps.set (i+j) m)=s1 at*
    generalize val 4294967296 ps=s0 at*
    generalize val 4294967296 os=s2 at*
    generalize 4294967296^i=P at*
    generalize 4294967296^j=Q at*
    generalize (4294967296:Nat)=w at*
    clear fX hL hx hy bJ n7 b1 b2
    have h1:P*Q*(m+w*q)=P*Q*(x*y+o+c):=by rw [jO]
    grind
  ·have:j=ys.length:=by omega
   subst this
   rw [avB]
   have ei:IntKind.wrap .i64 ((i:Int)+(ys.length:Int))=((i+ys.length:Nat):Int):=by rw [wrap64 (by omega) (by omega)];omega
   simp only [n7.len,ag,cC,ei,jy]
   rw [me (n:=(c:Int)) (by omega) (by omega),kM (show i+ys.length<xs.length+ys.length by omega)]
   simp only [ag]
   have nh:i+ys.length<ps.length:=by omega
   rw [rZ _ nh]
   simp only [aD,avC,cC,ag,inc i (by omega),true_and]
   have jQ:=qE 4294967296 ps (i+ys.length) c nh
   rw [tZ _ nh (Nat.le_refl _)] at jQ
   rw [List.take_length] at tY
   refine hL (i+1,ps.set (i+ys.length) c) ⟨by show i+1≤xs.length;omega,by show (ps.set _ _).length=_;rw [List.length_set];exact kB,sw.set hc _,?_,?_⟩ (by show xs.length-(i+1)<xs.length-i;omega)
   ·intro k sj Fi
    show (ps.set (i+ys.length) _)[k]=0
    have aAE:i+1+ys.length≤k:=Fi
    have br:i+ys.length≠k:=by omega
    rw [List.getElem_set_ne br]
    exact tZ k (by simpa using sj) (by omega)
   ·show val 4294967296 (ps.set (i+ys.length) c)=val 4294967296 (xs.take (i+1))*val 4294967296 ys
    rw [wz,Nat.add_mul,←bQ,Nat.mul_assoc,←tY]
    omega
 ·have:i=xs.length:=by omega
  subst this
  rw [avD]
  rw [List.take_length] at bQ
  have e:sl 177 h.length 0 (xs.length+ys.length)=sl 177 h.length 0 os.length:=by rw [fI]
  rw [e]
  refine pD (vS h _) dV (by omega) ?_
  intro v' hm
  rw [bQ] at hm
  exact hk v' _ (jh h _) hm


def dn (h:ae) (val:Value) (z:Int):Prop:=∃v,val=.agg #[B (decide (z<0)),v]∧cR h v z.natAbs

theorem dn.mono {h h':ae} {v:Value} {z:Int} (x:EX h h') (p:dn h v z):dn h' v z:=let ⟨w,a,b⟩:=p;⟨w,a,b.mono x⟩

theorem cR.nr {h:ae} {v:Value} {n:Nat} (p:cR h v n):∃l:Nat,aY v=some (I l)∧(0<l↔0<n):=by
 obtain ⟨xs,d,c,rfl⟩:=p
 refine ⟨xs.length,d.len,?_⟩
 constructor
 ·intro h0
  have:=Canon.low (by decide) c (by rintro rfl;simp at h0)
  have:0<4294967296^(xs.length-1):=Nat.pow_pos (by decide)
  omega
 ·intro h0
  cases xs with
  | nil=>simp [val] at h0
  | cons x xs=>simp

theorem cR.bG {h:ae} {v:Value} {n j:Nat} {e:TypeId} {b:Bool} {r:List Value} (p:cR h v n) (hj:h[j]?=some (.arr e (.bool b::r))) (o:ak):cR (h.set j o) v n:=by
 obtain ⟨xs,d,c,hv⟩:=p
 refine ⟨xs,?_,c,hv⟩
 rcases d with d | ⟨i,h1,h2⟩
 ·exact .inl d
 ·refine .inr ⟨i,h1,?_⟩
  rcases h2 with h2 | ⟨rest,h2⟩
  ·exact .inl h2
  ·cases xs with
   | nil=>exact .inl rfl
   | cons x xs=>
    right
    refine ⟨rest,?_⟩
    have br:j≠i:=by
     rintro rfl
     unfold aQ at h2
     rw [hj] at h2
     simp at h2
    unfold aQ at h2⊢
    rw [List.getElem?_set_ne br]
    exact h2

theorem dn.bG {h:ae} {v:Value} {z:Int} {j:Nat} {e:TypeId} {b:Bool} {r:List Value} (p:dn h v z) (hj:h[j]?=some (.arr e (.bool b::r))) (o:ak):dn (h.set j o) v z:=
 let ⟨w,a,q⟩:=p;⟨w,a,q.bG hj o⟩

theorem dX {h:ae} {i:Nat} {e:TypeId} {a b x y:Value} (hg:h[i]?=some (.arr e [a,b])):aJ 2 h (pt i 0) (.agg #[x,y])=some (undef,h.set i (.arr e [x,y])):=by
 simp [aJ,uk,hg,gW,cZ,Value.cells,setAt]

theorem cf {h:ae} {i:Nat} {e:TypeId} {a b:Value} (hg:h[i]?=some (.arr e [a,b])):af true 2 h (pt i 0)=some (.agg #[a,b]):=by
 simp [af,aQ,hg,ck]

theorem cJ {h:ae} {i:Nat} {o o':ak} (hg:h[i]?=some o'):(h.set i o)[i]?=some o:=by
 rw [List.getElem?_set_self (List.getElem?_eq_some_iff.1 hg).1]

theorem pC {v:Value} {n:Nat} {b:Bool} {h:ae} {K:Value→ae→Prop} (hm:cR h v n) (hk:∀h',EX h h'→K (.agg #[B (b&&decide (0<n)),v]) h'):aj Tryz.prog 117 [B b,v] h K:=by
 refine f117 ?_
 have al:aW 105 [(.bool false),(.slice none 0 0)] h=some (pt h.length 0,h++[.arr 105 [(.bool false),(.slice none 0 0)]]):=rfl
 simp only [Jv,al,aD]
 obtain ⟨l,h1,h2⟩:=hm.nr
 have hg:(h++[ak.arr 105 [(.bool false),(.slice none 0 0)]])[h.length]?=some (.arr 105 [(.bool false),(.slice none 0 0)]):=bO
 have hx:EX h (h++[ak.arr 105 [(.bool false),(.slice none 0 0)]]):=EX.append _ _
 have fin:BW Tryz.prog K v (pt h.length 0) (B b) (B (decide (0<l))) (h++[ak.arr 105 [(.bool false),(.slice none 0 0)]])∧(b=false→BW Tryz.prog K v (pt h.length 0) (B b) undef (h++[ak.arr 105 [(.bool false),(.slice none 0 0)]])):=by
  have one:∀c:Bool,c=(b&&decide (0<n))→OP (cN [(.bool false),(.slice none 0 0)] [(0,1,B c),(1,1,v)]) fun az=>OH (aJ 2 (h++[ak.arr 105 [(.bool false),(.slice none 0 0)]]) (pt h.length 0) az) fun _ h_1=>OP (af true 2 h_1 (pt h.length 0)) fun r0=>K r0 h_1:=by
   rintro c rfl
   have eb:cN [(.bool false),(.slice none 0 0)] [(0,1,B (b&&decide (0<n))),(1,1,v)]=some (.agg #[B (b&&decide (0<n)),v]):=by
    obtain ⟨xs,d,_,_⟩:=hm
    rcases d with ⟨rfl,_⟩ | ⟨i,rfl,_⟩ <;> rfl
   simp only [eb,ag]
   rw [dX hg]
   simp only [aD]
   rw [cf (cJ hg)]
   simp only [ag]
   exact hk _ (hx.set (Nat.le_refl _) _)
  constructor
  ·rw [af5]
   cases b with
   | true=>simp only [dh,ag];exact one _ (by simp [h2])
   | false=>simp only [cV,ag];exact one _ (by simp)
  ·rintro rfl
   rw [af5]
   simp only [cV,ag]
   exact one _ (by simp)
 rw [avl]
 have e0:decide ((0:Int)<(l:Int))=decide (0<l):=by
  by_cases h0:0<l
  ·simp [h0]
  ·simp [h0]
 cases b with
 | true=>
  simp only [eO,h1,ag,eT,e0]
  exact fin.1
 | false=>
  simp only [ie]
  exact fin.2 rfl

end Go.Proofs.YtelmdbpaoifmoaaGreat


namespace Go.Proofs.YtelmdbpaoifmoaaGreat
open Go.Sim

theorem tK {h':ae} {j:Nat} {b0 v0 b v:Value} {K:Value→ae→Prop} (hg:h'[j]?=some (.arr 105 [b0,v0])) (hk:K (.agg #[b,v]) (h'.set j (.arr 105 [b,v]))):
  OH (aJ 2 h' (pt j 0) (.agg #[b,v])) fun _ h6=>OP (af true 2 h6 (pt j 0)) fun r0=>K r0 h6:=by
 rw [dX hg]
 simp only [aD]
 rw [cf (cJ hg)]
 exact ag.2 hk

structure ah7 (h:ae) (va vb:Value) (sa sb:Bool) (h3:ae):Prop where
 ex:EX h h3
 a0:af false 1 h3 (pt h.length 0)=some (B sa)
 a1:af false 1 h3 (pt h.length 1)=some va
 b0:af false 1 h3 (pt (h.length+1) 0)=some (B sb)
 b1:af false 1 h3 (pt (h.length+1) 1)=some vb
 a2:af true 2 h3 (pt h.length 0)=some (.agg #[B sa,va])
 b2:af true 2 h3 (pt (h.length+1) 0)=some (.agg #[B sb,vb])
 out:h3[h.length+2]?=some (.arr 105 [.bool false,.slice none 0 0])

theorem De {h:ae} {va vb:Value} {sa sb:Bool} {K:Value→Value→Value→ae→Prop} (hk:∀h3,ah7 h va vb sa sb h3→K (pt h.length 0) (pt (h.length+1) 0) (pt (h.length+2) 0) h3):
  OH (bc 105 h (.agg #[B sa,va])) fun a2 h_1=>OH (bc 105 h_1 (.agg #[B sb,vb])) fun b3 h_2=>OH (aW 105 [(.bool false),(.slice none 0 0)] h_2) fun x4 h_3=>K a2 b3 x4 h_3:=by
 have e1:∀(g:ae) (s:Bool) (v:Value),bc 105 g (.agg #[B s,v])=some (pt g.length 0,g++[.arr 105 [B s,v]]):=fun _ _ _=>rfl
 have e2:∀(g:ae),aW 105 [(.bool false),(.slice none 0 0)] g=some (pt g.length 0,g++[.arr 105 [(.bool false),(.slice none 0 0)]]):=fun _=>rfl
 simp only [e1,e2,aD,List.length_append,List.length_cons,List.length_nil]
 have g0:(h++[ak.arr 105 [B sa,va]]++[ak.arr 105 [B sb,vb]]++[ak.arr 105 [(.bool false),(.slice none 0 0)]])[h.length]?=some (.arr 105 [B sa,va]):=by simp
 have g1:(h++[ak.arr 105 [B sa,va]]++[ak.arr 105 [B sb,vb]]++[ak.arr 105 [(.bool false),(.slice none 0 0)]])[h.length+1]?=some (.arr 105 [B sb,vb]):=by simp
 have g2:(h++[ak.arr 105 [B sa,va]]++[ak.arr 105 [B sb,vb]]++[ak.arr 105 [(.bool false),(.slice none 0 0)]])[h.length+2]?=some (.arr 105 [(.bool false),(.slice none 0 0)]):=by simp
 refine hk _ ⟨((EX.append _ _).push _).push _,?_,?_,?_,?_,cf g0,cf g1,g2⟩
 ·simp [af,aQ,ck]
 ·simp [af,aQ,ck]
 ·simp [af,aQ,ck]
 ·simp [af,aQ,ck]

theorem zV {n:Int} {h:ae} {K:Value→ae→Prop} (h1: -9223372036854775808≤n) (h2:n<9223372036854775808) (hk:∀r h',EX h h'→dn h' r n→K r h'):aj Tryz.prog 105 [I n] h K:=by
 refine f105 ?_
 have e2:aW 105 [(.bool false),(.slice none 0 0)] h=some (pt h.length 0,h++[.arr 105 [(.bool false),(.slice none 0 0)]]):=rfl
 simp only [Jj,e2,aD]
 have x1:EX h (h++[ak.arr 105 [(.bool false),(.slice none 0 0)]]):=EX.append _ _
 have g1:(h++[ak.arr 105 [(.bool false),(.slice none 0 0)]])[h.length]?=some (.arr 105 [(.bool false),(.slice none 0 0)]):=bO
 generalize h++[ak.arr 105 [(.bool false),(.slice none 0 0)]]=hA at x1 g1⊢
 have go:∀u:Nat,u=n.natAbs→Gl Tryz.prog K (I n) (pt h.length 0) (.int .u64 (u:Int)) hA:=by
  intro u hu
  rw [avc]
  have ew:IntKind.wrap .u32 (u:Int)=((u%4294967296:Nat):Int):=by rw [uH];omega
  simp only [cK,ag,jy,xk,ew]
  rw [me (n:=((u / 4294967296:Nat):Int)) (by omega) (by omega)]
  have mk:cT 177 2 [.int .u32 0] hA [(0,1,.int .u32 ((u%4294967296:Nat):Int)),(1,1,.int .u32 ((u / 4294967296:Nat):Int))]=some (sl 177 hA.length 0 2,hd hA [u%4294967296,u / 4294967296]):=rfl
  simp only [mk,aD]
  have hl:bX 4294967296 [u%4294967296,u / 4294967296]:=by
   intro x hx
   simp at hx
   rcases hx with rfl | rfl <;> omega
  refine pD (vS hA [u%4294967296,u / 4294967296]) hl (by simp) ?_
  intro v hv
  have bQ:val 4294967296 [u%4294967296,u / 4294967296]=n.natAbs:=by simp [val];omega
  rw [bQ] at hv
  refine pC hv ?_
  intro h' x'
  have xx:=(jh hA [u%4294967296,u / 4294967296]).trans x'
  have g':=xx.get g1
  refine tK g' (hk _ _ ((x1.trans xx).set (Nat.le_refl _) _) ⟨v,?_,(hv.mono x').bG g' _⟩)
  have:(decide (n<0)&&decide (0<n.natAbs))=decide (n<0):=by
   by_cases hn:n<0
   ·simp [hn];omega
   ·simp [hn]
  rw [this]
 simp only [jy,ag,cK,bS]
 refine ⟨fun hn=>?_,fun hn=>?_⟩
 ·have e3:ft .neg (.int .u64 (IntKind.wrap .u64 n))=some (.int .u64 ((n.natAbs:Nat):Int)):=by
   have e:∀m:Int,IntKind.wrap .u64 m=m%18446744073709551616:=fun m=>by simp [IntKind.wrap,IntKind.bits,IntKind.signed]
   simp only [ft]
   rw [e,e]
   congr 2
   omega
  simp only [e3,ag]
  exact go _ rfl
 ·have:IntKind.wrap .u64 n=((n.natAbs:Nat):Int):=by rw [jv (by omega) (by omega)];omega
  rw [this]
  exact go _ rfl

theorem aif {va:Value} {a:Int} {h:ae} {K:Value→ae→Prop} (ha:dn h va a) (hk:∀r h',EX h h'→dn h' r (-a)→K r h'):aj Tryz.prog 119 [va] h K:=by
 obtain ⟨v,rfl,hv⟩:=ha
 refine f119 ?_
 have e1:bc 105 h (.agg #[B (decide (a<0)),v])=some (pt h.length 0,h++[.arr 105 [B (decide (a<0)),v]]):=rfl
 simp only [Jw,e1,aD]
 have l0:af false 1 (h++[.arr 105 [B (decide (a<0)),v]]) (pt h.length 0)=some (B (decide (a<0))):=qm rfl
 have l1:af false 1 (h++[.arr 105 [B (decide (a<0)),v]]) (pt h.length 1)=some v:=qm rfl
 have x1:EX h (h++[.arr 105 [B (decide (a<0)),v]]):=EX.append _ _
 generalize h++[ak.arr 105 [B (decide (a<0)),v]]=h1 at l0 l1 x1⊢
 have e2:aW 105 [(.bool false),(.slice none 0 0)] h1=some (pt h1.length 0,h1++[.arr 105 [(.bool false),(.slice none 0 0)]]):=rfl
 have x2:EX h1 (h1++[ak.arr 105 [(.bool false),(.slice none 0 0)]]):=EX.append _ _
 have g1:(h1++[ak.arr 105 [(.bool false),(.slice none 0 0)]])[h1.length]?=some (.arr 105 [(.bool false),(.slice none 0 0)]):=bO
 simp only [e2,aD]
 generalize h1++[ak.arr 105 [(.bool false),(.slice none 0 0)]]=h2 at x2 g1⊢
 simp only [bN,Nat.add_zero,Nat.zero_add,ag,EX.load x2 l0,EX.load x2 l1,nC]
 have oY:=hv.mono (x1.trans x2)
 refine pC oY ?_
 intro h' x'
 have g':=x'.get g1
 refine tK g' (hk _ _ (((x1.trans x2).trans x').set x1.1 _) ⟨v,?_,?_⟩)
 ·have:(!decide (a<0)&&decide (0<a.natAbs))=decide (-a<0):=by
   by_cases h0:a<0
   ·rw [decide_eq_true h0,decide_eq_false (show ¬-a<0 by omega)];rfl
   ·by_cases h3:a=0
    ·subst h3;rfl
    ·rw [decide_eq_false h0,decide_eq_true (show 0<a.natAbs by omega),decide_eq_true (show -a<0 by omega)];rfl
  rw [this]
 ·have:(-a).natAbs=a.natAbs:=by omega
  rw [this]
  exact (oY.mono x').bG g' _

theorem H8 {va vb:Value} {a b:Int} {h:ae} {K:Value→ae→Prop} (ha:dn h va a) (hb:dn h vb b) (la:a.natAbs<bj) (lb:b.natAbs<bj) (hk:∀r h',EX h h'→dn h' r (a+b)→K r h'):aj Tryz.prog 113 [va,vb] h K:=by
 obtain ⟨v,rfl,hv⟩:=ha
 obtain ⟨w,rfl,hw⟩:=hb
 refine f113 ?_
 unfold Js
 refine De ?_
 intro h3 x
 have sD:=hv.mono x.ex
 have o9:=hw.mono x.ex
 simp only [bN,Nat.add_zero,Nat.zero_add,ag,x.a0,x.a1,x.b0,x.b1,AJ,Bool.false_eq_true,if_false]
 refine xy (fun he=>?_) fun br=>?_
 ·have hs:decide (a<0)=decide (b<0):=by simpa using he
  have df:(a<0↔b<0):=by simpa using hs
  simp only [true_and]
  refine RB sD o9 la lb ?_
  intro u h4 x4 hu
  refine ⟨⟨EX.load x4 x.a0,trivial⟩,?_⟩
  refine pC hu ?_
  intro h5 x5
  have g':=(x4.trans x5).get x.out
  refine tK g' (hk _ _ (((x.ex.trans x4).trans x5).set (by omega) _) ⟨u,?_,?_⟩)
  ·have:(decide (a<0)&&decide (0<a.natAbs+b.natAbs))=decide (a+b<0):=by
    by_cases h0:a<0
    ·rw [decide_eq_true h0,decide_eq_true (show 0<a.natAbs+b.natAbs by omega),decide_eq_true (show a+b<0 by omega)];rfl
    ·rw [decide_eq_false h0,decide_eq_false (show ¬a+b<0 by omega)];rfl
   rw [this]
  ·have:(a+b).natAbs=a.natAbs+b.natAbs:=by omega
   rw [this]
   exact (hu.mono x5).bG g' _
 ·have hs:decide (a<0)≠decide (b<0):=by simpa using br
  have df:¬(a<0↔b<0):=fun h=>hs (decide_eq_decide.2 h)
  refine Cy sD o9 la lb ?_
  simp only [j5,ag,bS]
  refine ⟨fun cH=>?_,fun aB=>?_⟩
  ·have hle:b.natAbs≤a.natAbs:=by
    apply Classical.byContradiction
    intro hc
    unfold kE at cH
    rw [if_pos (by omega)] at cH
    omega
   simp only [x.a0,x.a1,x.b1,ag,true_and]
   refine RD sD o9 la hle ?_
   intro u h4 x4 hu
   refine ⟨⟨EX.load x4 x.a0,trivial⟩,?_⟩
   refine pC hu ?_
   intro h5 x5
   have g':=(x4.trans x5).get x.out
   refine tK g' (hk _ _ (((x.ex.trans x4).trans x5).set (by omega) _) ⟨u,?_,?_⟩)
   ·have:(decide (a<0)&&decide (0<a.natAbs-b.natAbs))=decide (a+b<0):=by
     by_cases h0:a<0
     ·by_cases h6:0<a.natAbs-b.natAbs
      ·rw [decide_eq_true h0,decide_eq_true h6,decide_eq_true (show a+b<0 by omega)];rfl
      ·rw [decide_eq_true h0,decide_eq_false h6,decide_eq_false (show ¬a+b<0 by omega)];rfl
     ·rw [decide_eq_false h0,decide_eq_false (show ¬a+b<0 by omega)];rfl
    rw [this]
   ·have:(a+b).natAbs=a.natAbs-b.natAbs:=by omega
    rw [this]
    exact (hu.mono x5).bG g' _
  ·have hle:a.natAbs≤b.natAbs:=by
    apply Classical.byContradiction
    intro hc
    unfold kE at aB
    rw [if_neg (by omega),if_pos (by omega)] at aB
    omega
   simp only [x.b0,x.a1,x.b1,ag,true_and]
   refine RD o9 sD lb hle ?_
   intro u h4 x4 hu
   refine ⟨⟨EX.load x4 x.b0,trivial⟩,?_⟩
   refine pC hu ?_
   intro h5 x5
   have g':=(x4.trans x5).get x.out
   refine tK g' (hk _ _ (((x.ex.trans x4).trans x5).set (by omega) _) ⟨u,?_,?_⟩)
   ·have:(decide (b<0)&&decide (0<b.natAbs-a.natAbs))=decide (a+b<0):=by
     by_cases h0:b<0
     ·by_cases h6:0<b.natAbs-a.natAbs
      ·rw [decide_eq_true h0,decide_eq_true h6,decide_eq_true (show a+b<0 by omega)];rfl
      ·rw [decide_eq_true h0,decide_eq_false h6,decide_eq_false (show ¬a+b<0 by omega)];rfl
     ·rw [decide_eq_false h0,decide_eq_false (show ¬a+b<0 by omega)];rfl
    rw [this]
   ·have:(a+b).natAbs=b.natAbs-a.natAbs:=by omega
    rw [this]
    exact (hu.mono x5).bG g' _

theorem aik {va vb:Value} {a b:Int} {h:ae} {K:Value→ae→Prop} (ha:dn h va a) (hb:dn h vb b) (la:a.natAbs<bj) (lb:b.natAbs<bj) (hk:∀r h',EX h h'→dn h' r (a-b)→K r h'):aj Tryz.prog 127 [va,vb] h K:=by
 have lN:=ha
 have nO:=hb
 obtain ⟨v,rfl,hv⟩:=ha
 obtain ⟨w,rfl,hw⟩:=hb
 refine f127 ?_
 unfold JF
 refine De ?_
 intro h3 x
 simp only [ag,x.a2,x.b2,true_and]
 refine aif (nO.mono x.ex) ?_
 intro r1 h4 x4 i1
 refine ⟨⟨EX.load x4 x.a2,trivial⟩,?_⟩
 refine H8 (lN.mono (x.ex.trans x4)) i1 la (by rw [Int.natAbs_neg];exact lb) ?_
 intro r2 h5 x5 i2
 have g':=(x4.trans x5).get x.out
 obtain ⟨u,rfl,hu⟩:=id i2
 refine tK g' (hk _ _ (((x.ex.trans x4).trans x5).set (by omega) _) ?_)
 rw [Int.sub_eq_add_neg]
 exact i2.bG g' _

theorem qK {va vb:Value} {a b:Int} {h:ae} {K:Value→ae→Prop} (ha:dn h va a) (hb:dn h vb b) (la:a.natAbs<bj) (lb:b.natAbs<bj) (hk:∀r h',EX h h'→dn h' r (a*b)→K r h'):aj Tryz.prog 107 [va,vb] h K:=by
 obtain ⟨v,rfl,hv⟩:=ha
 obtain ⟨w,rfl,hw⟩:=hb
 refine f107 ?_
 unfold Jl
 refine De ?_
 intro h3 x
 have sD:=hv.mono x.ex
 have o9:=hw.mono x.ex
 simp only [bN,Nat.add_zero,Nat.zero_add,ag,x.a0,x.a1,x.b0,x.b1,AJ,if_true,true_and]
 refine Rz sD o9 la lb ?_
 intro u h4 x4 hu
 refine ⟨⟨EX.load x4 x.a0,EX.load x4 x.b0,trivial⟩,?_⟩
 refine pC hu ?_
 intro h5 x5
 have g':=(x4.trans x5).get x.out
 refine tK g' (hk _ _ (((x.ex.trans x4).trans x5).set (by omega) _) ⟨u,?_,?_⟩)
 ·have:((!(decide (a<0)==decide (b<0)))&&decide (0<a.natAbs*b.natAbs))=decide (a*b<0):=by
   rcases Int.lt_trichotomy a 0 with h1 | h1 | h1
   ·rcases Int.lt_trichotomy b 0 with h2 | h2 | h2
    ·have:=Int.mul_pos_of_neg_of_neg h1 h2
     rw [decide_eq_true h1,decide_eq_true h2,decide_eq_false (show ¬a*b<0 by omega)];rfl
    ·subst h2;simp
    ·have:=Int.mul_neg_of_neg_of_pos h1 h2
     have h3:0<a.natAbs*b.natAbs:=Nat.mul_pos (by omega) (by omega)
     rw [decide_eq_true h1,decide_eq_false (show ¬b<0 by omega),decide_eq_true h3,decide_eq_true this];rfl
   ·subst h1;simp
   ·rcases Int.lt_trichotomy b 0 with h2 | h2 | h2
    ·have:=Int.mul_neg_of_pos_of_neg h1 h2
     have h3:0<a.natAbs*b.natAbs:=Nat.mul_pos (by omega) (by omega)
     rw [decide_eq_false (show ¬a<0 by omega),decide_eq_true h2,decide_eq_true h3,decide_eq_true this];rfl
    ·subst h2;simp
    ·have:=Int.mul_pos h1 h2
     rw [decide_eq_false (show ¬a<0 by omega),decide_eq_false (show ¬b<0 by omega),decide_eq_false (show ¬a*b<0 by omega)];rfl
  rw [this]
 ·rw [Int.natAbs_mul]
  exact (hu.mono x5).bG g' _

end Go.Proofs.YtelmdbpaoifmoaaGreat


namespace Go.Proofs.YtelmdbpaoifmoaaGreat
open Go.Sim

theorem Hp {r:Nat} (hr:r<4294967296):ah .shl (.int .u64 (r:Int)) (.int .u64 32)=some (.int .u64 ((r*4294967296:Nat):Int)):=by
 simp only [ah,oc]
 rw [if_neg (by omega)]
 have:(min (32:Int).toNat IntKind.u64.bits)=32:=rfl
 rw [this]
 have e2:(2:Int)^32=4294967296:=by decide
 rw [e2,jv (by omega) (by omega)]
 congr 2

theorem Gg {r x:Nat} (hr:r<4294967296) (hx:x<4294967296):ah .or (.int .u64 ((r*4294967296:Nat):Int)) (.int .u64 (x:Int))=some (.int .u64 ((r*4294967296+x:Nat):Int)):=by
 have e:(BitVec.ofInt IntKind.u64.bits ((r*4294967296:Nat):Int) ||| BitVec.ofInt IntKind.u64.bits (x:Int)).toNat=r*4294967296+x:=by
  show (BitVec.ofInt 64 ((r*4294967296:Nat):Int) ||| BitVec.ofInt 64 (x:Int)).toNat=_
  rw [BitVec.ofInt_natCast,BitVec.ofInt_natCast,BitVec.toNat_or,BitVec.toNat_ofNat,BitVec.toNat_ofNat,Nat.mod_eq_of_lt (by omega),Nat.mod_eq_of_lt (by omega)]
  have:=Nat.two_pow_add_eq_or_of_lt (i:=32) (b:=x) (by omega) r
  rw [Nat.mul_comm r]
  exact this.symm
 simp only [ah,fY,if_true]
 rw [e,jv (by omega) (by omega)]

theorem agV {a b:Nat} (hb:b≠0) (ha:a<18446744073709551616):ah .quo (.int .u64 (a:Int)) (.int .u64 (b:Int))=some (.int .u64 ((a / b:Nat):Int)):=by
 have h:¬((b:Int)=0):=by omega
 have h2:a / b≤a:=Nat.div_le_self _ _
 simp only [ah,fY,if_true,if_neg h]
 have e:(a:Int).tdiv (b:Int)=((a / b:Nat):Int):=rfl
 rw [e]
 generalize a / b=q at*
 rw [jv (by omega) (by omega)]

theorem Rw {va:Value} {a w:Nat} {h:ae} {K:Value→ae→Prop} (ha:cR h va a) (la:a<bj) (w0:0<w) (wW:w<4294967296) (hk:∀v h',EX h h'→cR h' v (a / w)→K (.tuple #[v,.int .u32 ((a%w:Nat):Int)]) h'):
  aj Tryz.prog 114 [va,.int .u32 (w:Int)] h K:=by
 obtain ⟨xs,hx,cx,rfl⟩:=ha
 have l1:=nJ cx la
 have hW:(0:Nat)<4294967296:=by decide
 refine f114 ?_
 have e1:IntKind.wrap .i64 ((xs.length:Int)-1)=(xs.length:Int)-1:=by rw [wrap64 (by omega) (by omega)]
 simp only [Jt,hx.len,ag,wV (show xs.length≤1000 by omega),aD,eW,e1]
 refine db (σ:=Nat×Nat×List Nat) (fun p=>[.int .u64 (p.1:Int),I ((p.2.1:Int)-1)]) (fun p=>hd h p.2.2)
  (fun p=>p.2.1≤xs.length∧p.1<w∧p.2.2.length=xs.length∧bX 4294967296 p.2.2∧val 4294967296 (xs.drop p.2.1)=w*val 4294967296 (p.2.2.drop p.2.1)+p.1) (fun p=>p.2.1)
  (0,xs.length,List.replicate xs.length 0) rfl rfl ⟨Nat.le_refl _,w0,by simp,bX.tk hW _,by simp [val]⟩ ?_
 rintro ⟨r,i,os⟩ ⟨hi,hr,fI,dV,bQ⟩ L hL
 simp only at hi hr fI dV bQ hL⊢
 rw [avj]
 have bJ:=hx.mono (jh h os)
 simp only [j5,ag,bS]
 refine ⟨fun cH=>?_,fun aB=>?_⟩
 ·obtain ⟨j,rfl⟩:∃j,i=j+1:=⟨i-1,by omega⟩
  have ej:(((j+1:Nat):Int)-1)=(j:Int):=by omega
  rw [ej]
  obtain ⟨ia,a1,a2⟩:=bJ.get (j:=j) (by omega)
  have fQ:xs[j]'(by omega)<4294967296:=cx.1 _ (List.getElem_mem _)
  have Za:xs.drop j=xs[j]'(by omega)::xs.drop (j+1):=List.drop_eq_getElem_cons (by omega)
  generalize xs[j]'(by omega)=x at a2 fQ Za
  simp only [Hp (show r<4294967296 by omega),ag,a1,a2,jy]
  rw [jv (n:=(x:Int)) (by omega) (by omega)]
  simp only [Gg (show r<4294967296 by omega) fQ,ag]
  rw [jv (n:=(w:Int)) (by omega) (by omega)]
  have ht:r*4294967296+x<w*4294967296:=by omega
  have hq:(r*4294967296+x) / w<4294967296:=(Nat.div_lt_iff_lt_mul w0).2 (by omega)
  have hm:=Nat.mod_lt (r*4294967296+x) w0
  have jO:=Nat.div_add_mod (r*4294967296+x) w
  rw [agV (by omega) (by omega),xd _ _ _ (by omega)]
  generalize (r*4294967296+x) / w=q at*
  generalize (r*4294967296+x)%w=m at*
  simp only [ag,jy]
  rw [me (n:=(q:Int)) (by omega) (by omega),kM (show j<xs.length by omega)]
  simp only [ag]
  rw [rZ _ (by omega)]
  simp only [aD,eW,ag,true_and]
  rw [wrap64 (n:=(j:Int)-1) (by omega) (by omega)]
  refine hL (m,j,os.set j q) ⟨by show j≤xs.length;omega,hm,by show (os.set _ _).length=_;rw [List.length_set];exact fI,dV.set hq _,?_⟩ (by show j<j+1;omega)
  show val 4294967296 (xs.drop j)=w*val 4294967296 ((os.set j q).drop j)+m
  have nP:(os.set j q).drop j=q::os.drop (j+1):=by
   rw [List.drop_eq_getElem_cons (by rw [List.length_set];omega),List.getElem_set_self,List.drop_set_of_lt (by omega)]
  rw [Za,nP]
  simp only [val]
  rw [bQ]
  generalize val 4294967296 (os.drop (j+1))=Q at*
  generalize (4294967296:Nat)=W at*
  clear hL hx bJ a1 a2 bQ
  grind
 ·have:i=0:=by omega
  subst this
  rw [List.drop_zero,List.drop_zero] at bQ
  rw [avi]
  have e:sl 177 h.length 0 xs.length=sl 177 h.length 0 os.length:=by rw [fI]
  rw [e]
  refine pD (vS h _) dV (by omega) ?_
  intro v' hm
  simp only [jy,ag]
  rw [me (n:=(r:Int)) (by omega) (by omega)]
  have h1:val 4294967296 xs / w=val 4294967296 os:=by
   rw [bQ,Nat.mul_add_div w0,Nat.div_eq_of_lt hr,Nat.add_zero]
  have h2:val 4294967296 xs%w=r:=by
   rw [bQ,Nat.mul_add_mod,Nat.mod_eq_of_lt hr]
  have:=hk v' _ (jh h os) (by rw [h1];exact hm)
  rw [h2] at this
  exact this

theorem aie {h:ae} {id:Nat} {xs:List UInt8} {K:Value→ae→Prop} (bP:h[id]?=some (.arr 5 (xs.map cv))) (hn:xs.length≤100000) (hk:K (.tuple #[]) (hb h id xs.reverse)):aj Tryz.prog 115 [sl 5 id 0 xs.length] h K:=by
 have gu:=(List.getElem?_eq_some_iff.1 bP).1
 have e0:h=hb h id xs:=by
  apply List.ext_getElem?
  intro j
  by_cases hj:id=j
  ·subst hj;rw [E5 gu,bP]
  ·rw [List.getElem?_set_ne hj]
 refine f115 ?_
 have e1:aY (sl 5 id 0 xs.length)=some (I xs.length):=rfl
 have e2:IntKind.wrap .i64 ((xs.length:Int)-1)=(xs.length:Int)-1:=by rw [wrap64 (by omega) (by omega)]
 simp only [Ju,e1,ag,eW,e2]
 refine db (σ:=Nat×List UInt8) (fun p=>[I p.1,I ((xs.length:Int)-1-p.1)]) (fun p=>hb h id p.2) (fun p=>p.1≤xs.length∧p.2.length=xs.length∧∀k (hk:k<p.2.length) (sj:k<xs.length),p.2[k]=if k<p.1∨xs.length-p.1≤k then xs[xs.length-1-k]'(by omega) else xs[k]) (fun p=>xs.length-p.1)
  (0,xs) (by simp) e0.symm ⟨by simp,rfl,fun k h1 h2=>by simp;intro h3;omega⟩ ?_
 rintro ⟨i,ys⟩ ⟨hi,hl,hy⟩ L hL
 simp only at hi hl hy hL⊢
 rw [avk]
 simp only [cK,ag,bS]
 refine ⟨fun aB=>?_,fun cH=>?_⟩
 ·obtain ⟨j,hj⟩:∃j:Nat,(xs.length:Int)-1-i=j:=⟨xs.length-1-i,by omega⟩
  rw [hj]
  have sg:j=xs.length-1-i:=by omega
  have a1:=kM (id:=id) (e:=5) (n:=xs.length) (j:=j) (by omega)
  have a2:=kM (id:=id) (e:=5) (n:=xs.length) (j:=i) (by omega)
  have g1:ys[j]?=some (ys[j]'(by omega)):=List.getElem?_eq_getElem (by omega)
  have g2:ys[i]?=some (ys[i]'(by omega)):=List.getElem?_eq_getElem (by omega)
  simp only [a1,a2,ag,YY gu g1,YY gu g2,true_and]
  rw [YZ gu _ (by omega)]
  simp only [aD]
  rw [YZ gu _ (by rw [List.length_set];omega)]
  simp only [aD,cC,eW,ag,inc i (by omega)]
  have ej:IntKind.wrap .i64 ((j:Int)-1)=(xs.length:Int)-1-((i+1:Nat):Int):=by rw [wrap64 (by omega) (by omega)];omega
  rw [ej]
  refine hL (i+1,(ys.set i (ys[j]'(by omega))).set j (ys[i]'(by omega))) ⟨by show i+1≤xs.length;omega,by simp [hl],?_⟩ (by show xs.length-(i+1)<xs.length-i;omega)
  intro k ky sj
  show ((ys.set i (ys[j]'(by omega))).set j (ys[i]'(by omega)))[k]=if k<i+1∨xs.length-(i+1)≤k then xs[xs.length-1-k]'(by omega) else xs[k]
  have Z8:=hy i (by omega) (by omega)
  have Z9:=hy j (by omega) (by omega)
  rw [if_neg (by omega)] at Z8 Z9
  by_cases oQ:j=k
  ·subst oQ
   rw [List.getElem_set_self,if_pos (by omega),Z8]
   congr 1;omega
  ·rw [List.getElem_set_ne oQ]
   by_cases Fl:i=k
   ·subst Fl
    rw [List.getElem_set_self,if_pos (by omega),Z9]
    congr 1
   ·rw [List.getElem_set_ne Fl,hy k (by omega) sj]
    by_cases hc:k<i∨xs.length-i≤k
    ·rw [if_pos hc,if_pos (by omega)]
    ·rw [if_neg hc,if_neg (by omega)]
 ·have:ys=xs.reverse:=by
   apply List.ext_getElem (by simp [hl])
   intro k h1 h2
   rw [hy k h1 (by omega),List.getElem_reverse]
   split
   ·rfl
   ·congr 1;omega
  rw [this]
  exact hk


def qU (n:Nat):List Nat:=if h:n=0 then [] else n%10::qU (n / 10)
termination_by n
decreasing_by omega

theorem ED (n:Nat):Canon 10 (qU n)∧val 10 (qU n)=n:=by
 induction n using Nat.strongRecOn with
 | ind n ih=>
  rw [qU]
  by_cases h:n=0
  ·subst h;exact ⟨Canon.nil 10,rfl⟩
  ·rw [dif_neg h]
   obtain ⟨h1,h2⟩:=ih (n / 10) (by omega)
   refine ⟨⟨?_,?_⟩,?_⟩
   ·intro x hx
    rcases List.mem_cons.1 hx with rfl | hx
    ·omega
    ·exact h1.1 x hx
   ·cases hd:qU (n / 10) with
    | nil=>
     rw [hd] at h2
     simp [val] at h2
     simp
     omega
    | cons y ys=>
     rw [List.getLast?_cons_cons,←hd]
     exact h1.2
   ·simp only [val,h2];omega

def gK (d:Nat):UInt8:=UInt8.ofNat (48+d)
theorem rR {d:Nat} (h:d<10):(gK d).toNat=48+d:=by simp [gK,UInt8.toNat_ofNat'];omega

def dj (n:Nat):List UInt8:=if n=0 then [48] else ((qU n).map gK).reverse

def FQ:Nat:=1000
theorem Uh:bj≤10^FQ:=by decide+kernel

end Go.Proofs.YtelmdbpaoifmoaaGreat


namespace Go.Proofs.YtelmdbpaoifmoaaGreat
open Go.Sim

theorem AE {d:Nat} (h:d<10):(.int .u8 ((48+d:Nat):Int):Value)=cv (gK d):=by rw [cv,rR h]

theorem auQ (k:Nat):0<10^k:=Nat.pow_pos (by decide)

theorem aaM {b n m:Nat} (hm:0<m) (h:10^b*m≤n) (hn:n<bj):b<1000:=by
 have h1:10^b≤10^b*m:=Nat.le_mul_of_pos_right _ hm
 show b<FQ
 have h2:10^b<10^FQ:=Nat.lt_of_le_of_lt (Nat.le_trans h1 h) (Nat.lt_of_lt_of_le hn Uh)
 exact (Nat.pow_lt_pow_iff_right (by decide)).1 h2

theorem al1 {h0 hx:ae} {v z:Value} {x:UInt8} {bs:List UInt8} {K:Value→ae→Prop} (o:fN h0.length hx 5 v (bs.map cv)) (hex:EX h0 hx) (hl:bs.length≤100000)
  (hk:∀v' bJ,EX h0 bJ→fN h0.length bJ 5 v' ((bs++[x]).map cv)→(∀q n,cR hx q n→cR bJ q n)→K v' bJ):
  OH (cT 5 1 [z] hx [(0,1,cv x)]) fun a h2=>OH (dA 5 1 1 h2 v a) K:=by
 refine Db o (by simp;omega) (by simp [maxLen];omega) rfl rfl ?_
 intro hA bJ _ hlen Fk iL
 simp only [aD]
 refine hk _ _ ⟨by have:=hex.1;omega,fun j hj=>?_⟩ (.inr ⟨hx.length+1,by have:=hex.1;omega,by simp,by simpa using iL⟩) ?_
 ·rw [Fk j (by have:=hex.1;omega) fun n hv=>?_]
  ·exact hex.2 j hj
  ·have:=(o.lt hv).1;omega
 ·rintro q n ⟨xs,d,c,hv⟩
  refine ⟨xs,?_,c,hv⟩
  rcases d with d | ⟨i,h1,h2⟩
  ·exact .inl d
  ·refine .inr ⟨i,h1,?_⟩
   rcases h2 with h2 | ⟨r,h2⟩
   ·exact .inl h2
   ·cases xs with
    | nil=>exact .inl rfl
    | cons y ys=>
     right
     refine ⟨r,?_⟩
     have bF:i<hx.length:=by
      apply Classical.byContradiction
      intro hc
      unfold aQ at h2
      rw [List.getElem?_eq_none (by omega)] at h2
      simp at h2
     unfold aQ at h2⊢
     rw [Fk i bF fun n wA=>?_]
     ·exact h2
     ·have hg:=(o.lt wA).2.2
      rw [hg] at h2
      cases bs with
      | nil=>simp at h2
      | cons b bs=>simp [cv] at h2

theorem CA {va:Value} {n:Nat} {h:ae} {K:Value→ae→Prop} (ha:cR h va n) (la:n<bj) (hk:∀h',EX h h'→K (S (dj n)) h'):aj Tryz.prog 89 [va] h K:=by
 refine f89 ?_
 obtain ⟨l0,e0,e1⟩:=ha.nr
 simp only [KA,e0,ag,fW,bS]
 refine ⟨fun hz=>?_,fun hnz=>?_⟩
 ·have:n=0:=by omega
  subst this
  exact hk h (EX.refl h)
 ·have lR:0<n:=by omega
  refine db (σ:=Value×Nat×Value×List Nat×ae) (fun p=>[p.1,p.2.2.1]) (fun p=>p.2.2.2.2)
   (fun p=>EX h p.2.2.2.2∧cR p.2.2.2.2 p.1 p.2.1∧fN h.length p.2.2.2.2 5 p.2.2.1 ((p.2.2.2.1.map gK).map cv)∧bX 10 p.2.2.2.1∧val 10 p.2.2.2.1+10^p.2.2.2.1.length*p.2.1=n∧(p.2.1=0→Canon 10 p.2.2.2.1)) (fun p=>p.2.1)
   (va,n,.slice none 0 0,[],h) rfl rfl ⟨EX.refl h,ha,.inl ⟨rfl,rfl⟩,fun x hx=>by simp at hx,by simp [val],fun h0=>by have h0:n=0:=h0;omega⟩ ?_
  rintro ⟨v,m,bv,b,hx⟩ ⟨hex,hm,gM,dV,bQ,vN⟩ L hL
  simp only at hex hm gM dV bQ vN hL⊢
  rw [axW]
  obtain ⟨l,f0,f1⟩:=hm.nr
  simp only [f0,ag,eT,bS]
  refine ⟨fun aB=>?_,fun cH=>?_⟩
  ·have nR:0<m:=by omega
   have hmb:m<bj:=by
    refine Nat.lt_of_le_of_lt ?_ la
    have:m≤10^b.length*m:=Nat.le_mul_of_pos_left _ (auQ _)
    omega
   have E6:=aaM (b:=b.length) nR (by omega) la
   refine Rw hm hmb (w:=1000000000) (by decide) (by decide) ?_
   intro q h1 x1 hq
   simp only [dY,fg,fy,ag]
   have asd:fN h.length h1 5 bv ((b.map gK).map cv):=gM.dI fun d k hv hd=>by
    have:=(gM.lt hv).2.1
    exact x1.2 d this
   have asi:m / 1000000000<m:=Nat.div_lt_self nR (by decide)
   have jO:=Nat.div_add_mod m 1000000000
   have Nd:=Nat.mod_lt m (show 1000000000>0 by decide)
   generalize m / 1000000000=qn at*
   generalize m%1000000000=r0 at*
   have hqq:=hq
   refine db (σ:=Value×List Nat×Nat×Nat×ae) (fun p=>[p.1,.int .u32 (p.2.2.1:Int),I p.2.2.2.1]) (fun p=>p.2.2.2.2)
    (fun p=>EX h p.2.2.2.2∧cR p.2.2.2.2 q qn∧fN h.length p.2.2.2.2 5 p.1 ((p.2.1.map gK).map cv)∧bX 10 p.2.1∧p.2.2.2.1≤9∧p.2.2.1<10^(9-p.2.2.2.1)∧p.2.1.length≤b.length+p.2.2.2.1∧val 10 p.2.1+10^p.2.1.length*(p.2.2.1+10^(9-p.2.2.2.1)*qn)=n∧(qn=0→p.2.2.1=0→Canon 10 p.2.1)) (fun p=>9-p.2.2.2.1)
    (bv,b,r0,0,h1) rfl rfl ⟨hex.trans x1,hq,asd,dV,by simp,by simpa using Nd,by simp,?_,?_⟩ ?_
   ·show val 10 b+10^b.length*(r0+10^(9-0)*qn)=n
    have:r0+10^(9-0)*qn=m:=by
     show r0+1000000000*qn=m
     omega
    rw [this];exact bQ
   ·intro h1 h2
    have h1:qn=0:=h1
    have h2:r0=0:=h2
    subst h1;subst h2
    omega
   rintro ⟨EB,c,r,i,hy⟩ ⟨ML,Fy,M7,Fo,hi,hr,fa,Bt,ME⟩ L2 fX
   simp only at ML Fy M7 Fo hi hr fa Bt ME fX⊢
   rw [axT]
   -- leaving
   have stop:r=0→(i=9∨qn=0)→GL Tryz.prog K EB q L hy:=by
    intro p7 oU
    rw [axU]
    refine ⟨rfl,hL (q,qn,EB,c,hy) ⟨ML,Fy,M7,Fo,?_,fun h0=>ME h0 p7⟩ asi⟩
    show val 10 c+10^c.length*qn=n
    rw [p7,Nat.zero_add] at Bt
    rcases oU with h9 | h0
    ·subst h9;simpa using Bt
    ·subst h0;simpa using Bt
   simp only [cK,ag]
   by_cases hi9:i<9
   ·rw [decide_eq_true (show (i:Int)<9 by omega)]
    simp only [agS,eO]
    obtain ⟨l2,g0,g1⟩:=Fy.nr
    simp only [g0,ag,eT]
    -- one digit more
    have step:(0<qn∨0<r)→aL (B true)
      (OP (ah .rem (.int .u32 (r:Int)) (.int .u32 (10))) fun dJ=>
      OP (ah .add (.int .u32 (48)) dJ) fun cm=>
      OP (cS .u8 cm) fun dc=>
      OH (cT 5 1 [(.int .u8 (0))] hy [(0,1,dc)]) fun cQ h_1=>
      OH (dA 5 1 1 h_1 EB cQ) fun dM h_2=>
      OP (ah .quo (.int .u32 (r:Int)) (.int .u32 (10))) fun di=>
      OP (ah .add (I i) (.int .i64 (1))) fun cP=>
      True∧L2 [dM,di,cP] h_2)
      (GL Tryz.prog K EB q L hy):=by
     intro oU
     have hrW:r<4294967296:=Nat.lt_of_lt_of_le hr (Nat.le_trans (Nat.pow_le_pow_right (by decide) (show 9-i≤9 by omega)) (by decide))
     have ed:IntKind.wrap .u32 ((48:Int)+((r%10:Nat):Int))=((48+r%10:Nat):Int):=by rw [me (by omega) (by omega)];omega
     have aqT:ah .quo (.int .u32 (r:Int)) (.int .u32 10)=some (.int .u32 ((r / 10:Nat):Int)):=by
      have m8:¬((10:Int)=0):=by omega
      simp only [ah,fY,if_true,if_neg m8]
      have e:(r:Int).tdiv 10=((r / 10:Nat):Int):=rfl
      rw [e,me (by omega) (by omega)]
     simp only [dd]
     rw [show (.int .u32 10:Value)=.int .u32 ((10:Nat):Int) from rfl,xd _ _ _ (by decide)]
     simp only [ag,cC,ed,jy]
     rw [ahO (by omega) (by omega),AE (show r%10<10 by omega)]
     refine al1 (x:=gK (r%10)) M7 ML (by simp;omega) ?_
     intro v' bJ arN rh Fk
     rw [show (.int .u32 ((10:Nat):Int):Value)=.int .u32 10 from rfl,aqT]
     simp only [ag,inc i (by omega),true_and]
     have fC:cR bJ q qn:=Fk q qn Fy
     refine fX (v',c++[r%10],r / 10,i+1,bJ) ⟨arN,fC,by simpa using rh,Fo.append (fun x hx=>by simp at hx;omega),by show i+1≤9;omega,?_,by show (c++[r%10]).length≤b.length+(i+1);simp;omega,?_,?_⟩ (by show 9-(i+1)<9-i;omega)
     ·show r / 10<10^(9-(i+1))
      rw [show 9-i=(9-(i+1))+1 by omega,Nat.pow_succ] at hr
      exact (Nat.div_lt_iff_lt_mul (by decide)).2 hr
     ·show val 10 (c++[r%10])+10^(c++[r%10]).length*(r / 10+10^(9-(i+1))*qn)=n
      rw [lj,List.length_append,List.length_singleton,Nat.pow_succ]
      rw [show 9-i=(9-(i+1))+1 by omega,Nat.pow_succ] at Bt
      have jO:=Nat.div_add_mod r 10
      simp only [val,Nat.mul_zero,Nat.add_zero]
      generalize r / 10=r1 at*
      generalize r%10=d at*
      generalize 10^c.length=P at*
      generalize 10^(9-(i+1))=Q at*
      generalize val 10 c=V at*
      clear hL fX hr ME bQ stop
      subst jO
      grind
     ·intro h1 h2
      have h2:r / 10=0:=h2
      refine Et (Fo.append (fun x hx=>by simp at hx;omega)) ?_
      intro _
      have:0<r:=by rcases oU with h | h;omega;exact h
      simp
      omega
    by_cases yG:0<qn
    ·rw [decide_eq_true (show (0:Int)<(l2:Int) by omega)]
     simp only [Qk,eY,G0,dh,ag,eO,G1]
     exact step (.inl yG)
    ·rw [decide_eq_false (show ¬(0:Int)<(l2:Int) by omega)]
     simp only [Qk,dF,eT,ag]
     by_cases p7:0<r
     ·rw [decide_eq_true (show (0:Int)<(r:Int) by omega)]
      simp only [G0,eO,cV,ag,G1,dh]
      exact step (.inr p7)
     ·rw [decide_eq_false (show ¬(0:Int)<(r:Int) by omega)]
      simp only [G0,eO,cV,ag,G1,dh,c7]
      exact stop (by omega) (.inr (by omega))
   ·have:i=9:=by omega
    subst this
    rw [decide_eq_false (show ¬((9:Nat):Int)<9 by omega)]
    simp only [agS,ie,Qk,tm,G0,G1,cV,ag,c7]
    exact stop (by simpa using hr) (.inl rfl)
  ·have nR:m=0:=by omega
   subst nR
   have hc:=vN rfl
   rw [Nat.mul_zero,Nat.add_zero] at bQ
   have hb:b=qU n:=Canon.unique (by decide) hc (ED n).1 (by rw [bQ,(ED n).2])
   have Y2:b≠[]:=by rintro rfl;simp [val] at bQ;omega
   have E6:b.length≤2000:=by
    have h1:=Canon.low (by decide) hc Y2
    have h2:=aaM (b:=b.length-1) (m:=1) (n:=n) (by decide) (by omega) la
    omega
   rw [axV]
   obtain ⟨id,gu,hv,hg⟩:∃id,h.length≤id∧bv=sl 5 id 0 (b.map gK).length∧hx[id]?=some (.arr 5 ((b.map gK).map cv)):=by
    rcases gM with ⟨_,h0⟩ | ⟨id,h1,h2,h3⟩
    ·exact absurd (by simpa using h0) Y2
    ·exact ⟨id,h1,by simpa using h2,h3⟩
   rw [hv]
   refine aie hg (by simp;omega) ?_
   have arW:=(List.getElem?_eq_some_iff.1 hg).1
   have b2:pb (Go.Proofs.YtelmdbpaoifmoaaGreat.hb hx id (b.map gK).reverse) (sl 5 id 0 (b.map gK).length)=some (S (b.map gK).reverse):=by
    refine uZ (b:=0) (e:=5) (l:=(b.map gK).reverse) (.inr ⟨id,Nat.zero_le _,by simp,?_⟩)
    rw [E5 arW]
   simp only [b2,ag]
   have:(b.map gK).reverse=dj n:=by unfold dj;rw [if_neg (by omega),hb]
   rw [this]
   exact hk _ (hex.set gu _)

end Go.Proofs.YtelmdbpaoifmoaaGreat


namespace Go.Proofs.YtelmdbpaoifmoaaGreat
open Go.Sim
variable (P : Program) (K : VK)
/-! F20: pommel/pommelref01.Whole -/
noncomputable section
variable (v0 : Value) (h : ae)
def aca:=bp Tryz.prog 20 [[],[]]
@[irreducible] def VV:=bw aca
theorem k20:aca=some (7,VV,[.cell true 4 2]):=by kernel_rfl
def JX:Prop:=
 OH (aW 37 [(.bool false),(.slice none 0 0),(.bool false),(.slice none 0 0)] h) fun x2 h_1=>
 aj P 55 [v0] h_1 fun x4 h_2=>
 aj P 55 [(.int .i64 (1))] h_2 fun x5 h_3=>
 OP (cN [(.bool false),(.slice none 0 0),(.bool false),(.slice none 0 0)] [(0,2,x4),(2,2,x5)]) fun x6=>
 OH (aJ 4 h_3 x2 x6) fun _ h_4=>
 OP (af true 4 h_4 x2) fun r0=>
 K r0 h_4
theorem e20:ai P VV (aO [.cell true 4 2] K) (bk [v0]) h=JX P K v0 h:=by kernel_rfl
theorem f20 {K:VK} {v0:Value} {h:ae} (H:JX Tryz.prog K v0 h):aj Tryz.prog 20 [v0] h K:=
 bD k20 (Nat.le_of_ble_eq_true rfl) ((e20 Tryz.prog K v0 h).mpr H)
end
/-! F26: pommel/pommelref01.AddQ -/
noncomputable section
variable (a0 b1 : Value) (h : ae)
def ace:=bp Tryz.prog 26 [[],[]]
@[irreducible] def VY:=bw ace
theorem k26:ace=some (22,VY,[.cell true 4 4]):=by kernel_rfl
def J0:Prop:=
 OH (bc 37 h a0) fun a2 h_1=>
 OH (bc 37 h_1 b1) fun b3 h_2=>
 OH (aW 37 [(.bool false),(.slice none 0 0),(.bool false),(.slice none 0 0)] h_2) fun x4 h_3=>
 OP (aE 0 a2) fun x5=>
 OP (af true 2 h_3 x5) fun x6=>
 (True)∧
 OP (aE 2 b3) fun x7=>
 OP (af true 2 h_3 x7) fun x8=>
 (True)∧
 aj P 71 [x6,x8] h_3 fun x9 h_4=>
 (True)∧
 OP (aE 0 b3) fun aF=>
 OP (af true 2 h_4 aF) fun ax=>
 (af true 2 h_3 aF=some ax∧True)∧
 OP (aE 2 a2) fun az=>
 OP (af true 2 h_4 az) fun ay=>
 (af true 2 h_3 az=some ay∧True)∧
 aj P 71 [ax,ay] h_4 fun aP h_5=>
 (True)∧
 aj P 70 [x9,aP] h_5 fun a9 h_6=>
 (True)∧
 OP (aE 2 a2) fun aX=>
 OP (af true 2 h_6 aX) fun bH=>
 (af true 2 h_3 aX=some bH∧af true 2 h_4 aX=some bH∧af true 2 h_5 aX=some bH∧True)∧
 OP (aE 2 b3) fun aN=>
 OP (af true 2 h_6 aN) fun aM=>
 (af true 2 h_3 aN=some aM∧af true 2 h_4 aN=some aM∧af true 2 h_5 aN=some aM∧True)∧
 aj P 71 [bH,aM] h_6 fun aT h_7=>
 (True)∧
 OP (cN [(.bool false),(.slice none 0 0),(.bool false),(.slice none 0 0)] [(0,2,a9),(2,2,aT)]) fun bf=>
 OH (aJ 4 h_7 x4 bf) fun _ h_8=>
 (True)∧
 OP (af true 4 h_8 x4) fun r0=>
 K r0 h_8
theorem e26:ai P VY (aO [.cell true 4 4] K) (bk [a0,b1]) h=J0 P K a0 b1 h:=by kernel_rfl
theorem f26 {K:VK} {a0 b1:Value} {h:ae} (H:J0 Tryz.prog K a0 b1 h):aj Tryz.prog 26 [a0,b1] h K:=
 bD k26 (Nat.le_of_ble_eq_true rfl) ((e26 Tryz.prog K a0 b1 h).mpr H)
end
/-! F27: pommel/pommelref01.MulQ -/
noncomputable section
variable (a0 b1 : Value) (h : ae)
def acf:=bp Tryz.prog 27 [[],[]]
@[irreducible] def VZ:=bw acf
theorem k27:acf=some (16,VZ,[.cell true 4 4]):=by kernel_rfl
def J1:Prop:=
 OH (bc 37 h a0) fun a2 h_1=>
 OH (bc 37 h_1 b1) fun b3 h_2=>
 OH (aW 37 [(.bool false),(.slice none 0 0),(.bool false),(.slice none 0 0)] h_2) fun x4 h_3=>
 OP (aE 0 a2) fun x5=>
 OP (af true 2 h_3 x5) fun x6=>
 (True)∧
 OP (aE 0 b3) fun x7=>
 OP (af true 2 h_3 x7) fun x8=>
 (True)∧
 aj P 71 [x6,x8] h_3 fun x9 h_4=>
 (True)∧
 OP (aE 2 a2) fun aF=>
 OP (af true 2 h_4 aF) fun ax=>
 (af true 2 h_3 aF=some ax∧True)∧
 OP (aE 2 b3) fun az=>
 OP (af true 2 h_4 az) fun ay=>
 (af true 2 h_3 az=some ay∧True)∧
 aj P 71 [ax,ay] h_4 fun aP h_5=>
 (True)∧
 OP (cN [(.bool false),(.slice none 0 0),(.bool false),(.slice none 0 0)] [(0,2,x9),(2,2,aP)]) fun a9=>
 OH (aJ 4 h_5 x4 a9) fun _ h_6=>
 (True)∧
 OP (af true 4 h_6 x4) fun r0=>
 K r0 h_6
theorem e27:ai P VZ (aO [.cell true 4 4] K) (bk [a0,b1]) h=J1 P K a0 b1 h:=by kernel_rfl
theorem f27 {K:VK} {a0 b1:Value} {h:ae} (H:J1 Tryz.prog K a0 b1 h):aj Tryz.prog 27 [a0,b1] h K:=
 bD k27 (Nat.le_of_ble_eq_true rfl) ((e27 Tryz.prog K a0 b1 h).mpr H)
end
/-! F28: pommel/pommelref01.Of -/
noncomputable section
variable (x0 : Value) (h : ae)
def acg:=bp Tryz.prog 28 [[],[],[]]
@[irreducible] def V1:=bw acg
theorem k28:acg=some (11,V1,[.cell true 4 2]):=by kernel_rfl
def J2:Prop:=
 OH (aW 37 [(.bool false),(.slice none 0 0),(.bool false),(.slice none 0 0)] h) fun x2 h_1=>
 aj P 67 [x0] h_1 fun x7 h_2=>
 OP (b9 0 x7) fun x8=>
 OP (b9 1 x7) fun _=>
 OH (aW 37 [(.bool false),(.slice none 0 0),(.bool false),(.slice none 0 0)] h_2) fun q3 h_3=>
 OH (aJ 4 h_3 q3 x8) fun _ h_4=>
 OP (af true 4 h_4 q3) fun aF=>
 OH (aJ 4 h_4 x2 aF) fun _ h_5=>
 OP (af true 4 h_5 x2) fun r0=>
 K r0 h_5
theorem e28:ai P V1 (aO [.cell true 4 2] K) (bk [x0]) h=J2 P K x0 h:=by kernel_rfl
theorem f28 {K:VK} {x0:Value} {h:ae} (H:J2 Tryz.prog K x0 h):aj Tryz.prog 28 [x0] h K:=
 bD k28 (Nat.le_of_ble_eq_true rfl) ((e28 Tryz.prog K x0 h).mpr H)
end
/-! F48: pommel/pommelref01.Sign -/
noncomputable section
variable (a0 : Value) (h : ae)
def acp:=bp Tryz.prog 48 [[],[],[],[],[],[],[],[]]
@[irreducible] def Wy:=bw acp
theorem k48:acp=some (9,Wy,[.tmp 2]):=by kernel_rfl
def J9 (_:Program) (K:VK) (a0:Value) (h:ae):Prop:=
 OH (bc 35 h a0) fun a1 h_1=>
 OP (aE 1 a1) fun x3=>
 OP (af false 1 h_1 x3) fun x4=>
 OP (aY x4) fun x5=>
 OP (ah .eql x5 (.int .i64 (0))) fun x6=>
 aL x6
 (K (.int .i64 (0)) h_1)
 (OP (aE 0 a1) fun x7=>
 OP (af false 1 h_1 x7) fun x8=>
 aL x8
 (K (.int .i64 (-1)) h_1)
 (K (.int .i64 (1)) h_1))
theorem e48:ai P Wy (aO [.tmp 2] K) (bk [a0]) h=J9 P K a0 h:=by kernel_rfl
theorem f48 {K:VK} {a0:Value} {h:ae} (H:J9 Tryz.prog K a0 h):aj Tryz.prog 48 [a0] h K:=
 bD k48 (Nat.le_of_ble_eq_true rfl) ((e48 Tryz.prog K a0 h).mpr H)
end
/-! F55: pommel/pommelref01.Int -/
noncomputable section
variable (v0 x2 z3 d4 : Value) (L1 : LQ) (xs : List Value) (h : ae)
def acw:=bp Tryz.prog 55 [[],[],[2,3],[0],[],[],[],[],[0,2,3,4],[],[2,3],[]]
@[irreducible] def D4:=bw acw
@[irreducible] def WH:=D4.r.r.l.l.l
@[irreducible] def WG:=D4.r.r.r
@[irreducible] def aom:=WH.r.l.r.r.l
@[irreducible] def aon:=WG.l
theorem k55:acw=some (25,D4,[.cell true 2 2]):=by kernel_rfl
def IT (_P:Program) (K:VK):aq:=aO [.cell true 2 2] K
def akU:aq:=aC (ai P WG (IT P K)) (IT P K)
def akV:aq:=bz 0 (akU P K)
def Tb:aq:=aC (fun f' aR=>(([2,3]:List Nat).map f':List Value)=[x2,z3]∧L1 (([0]:List Nat).map f') aR) (akV P K)
def akW:aq:=bz 1 (Tb P K x2 z3 L1)
def aeN:Prop:=au (ai P WH (Tb P K x2 z3 L1)) ([2,3]++[0]) ([x2,z3]++xs) h
def GH:Prop:=au (ai P aom (akW P K x2 z3 L1)) [0,2,3,4] [v0,x2,z3,d4] h
def aeM:Prop:=au (ai P aon (IT P K)) [2,3] [x2,z3] h
theorem aw5:GH P K v0 x2 z3 d4 L1 h=
 (OP (aE 1 z3) fun aX=>
 OP (af false 1 h aX) fun bH=>
 OH (cT 3 1 [(.int .i64 (0))] h [(0,1,d4)]) fun aM h_1=>
 OH (dA 3 1 8 h_1 bH aM) fun aT h_2=>
 OP (aE 1 z3) fun bf=>
 OH (aJ 1 h_2 bf aT) fun _ h_3=>
 OP (ah .quo v0 (.int .i64 (10000))) fun bV=>
 ([x2,z3]:List Value)=[x2,z3]∧L1 [bV] h_3):=aw (by kernel_rfl)
theorem aw7 (x2 z3:Value) (L1:LQ) (v0:Value) (h:ae):aeN P K x2 z3 L1 [v0] h=
 (OP (ah .neq v0 (.int .i64 (0))) fun x9=>
 aL x9
 (OP (ah .rem v0 (.int .i64 (10000))) fun ax=>
 OP (ah .lss ax (.int .i64 (0))) fun ay=>
 aL ay
 (OP (ft .neg ax) fun a9=>
 GH P K v0 x2 z3 a9 L1 h)
 (GH P K v0 x2 z3 ax L1 h))
 (aeM P K x2 z3 h)):=aw (by kernel_rfl)
theorem aw6:aeM P K x2 z3 h=
 (OP (af true 2 h z3) fun bC=>
 OH (aJ 2 h x2 bC) fun _ h_1=>
 OP (af true 2 h_1 x2) fun r0=>
 K r0 h_1):=aw (by kernel_rfl)
def Kf:Prop:=
 OH (aW 35 [(.bool false),(.slice none 0 0)] h) fun x2 h_1=>
 OP (ah .lss v0 (.int .i64 (0))) fun x6=>
 OP (cN [(.bool false),(.slice none 0 0)] [(0,1,x6)]) fun x7=>
 OH (aW 35 [(.bool false),(.slice none 0 0)] h_1) fun z3 h_2=>
 OH (aJ 2 h_2 z3 x7) fun _ h_3=>
 cB [v0] h_3 fun L1 xs hx=>
 aeN P K x2 z3 L1 xs hx
theorem e55:ai P D4 (aO [.cell true 2 2] K) (bk [v0]) h=Kf P K v0 h:=by kernel_rfl
theorem f55 {K:VK} {v0:Value} {h:ae} (H:Kf Tryz.prog K v0 h):aj Tryz.prog 55 [v0] h K:=
 bD k55 (Nat.le_of_ble_eq_true rfl) ((e55 Tryz.prog K v0 h).mpr H)
end
/-! F67: pommel/pommelref01.Parse -/
noncomputable section
variable (x0 x2 s4 x5 x6 i7 n8 x9 d10 bf bC fk gZ fV hZ : Value) (L1 : LQ) (xs : List Value) (h : ae)
def acz:=bp Tryz.prog 67 [[],[],[],[],[],[2,4,5,21],[2,4,5,21,24],[],[2,4,5],[],[],[2,4,5],[6,7],[],[],[],[2,4,5,6,7],[2,4,5,6],[],[],[],[],[],[],[],[2,5,8,9,10],[2,5,8,10,82],[2,5,8,10,82,84],[2,5,8,10,82,84,88],[2,5,8,10,82,89],[],[],[],[],[2,8,10],[]]
@[irreducible] def At:=bw acz
@[irreducible] def WU:=At.r.r.r.l.l.r.l
@[irreducible] def aov:=At.r.r.r.l.r
@[irreducible] def WT:=At.r.r.r.r
@[irreducible] def aoq:=WU.r.l
@[irreducible] def Li:=WT.l
@[irreducible] def WM:=Li.r.l.r.l.l
@[irreducible] def WL:=Li.r.r
@[irreducible] def aor:=WM.r.r.l
@[irreducible] def WN:=WL.l
@[irreducible] def D6:=WN.r.r.r.l
@[irreducible] def WQ:=D6.l.l.r.l
@[irreducible] def aos:=D6.l.r
@[irreducible] def WO:=D6.r
@[irreducible] def WR:=WQ.r.l
@[irreducible] def aou:=WO.r.l
@[irreducible] def WS:=WR.r.l
@[irreducible] def aot:=WS.r.l
theorem k67:acz=some (98,At,[.cell true 4 2,.tmp 3]):=by kernel_rfl
def qL (_P:Program) (K:VK):aq:=aO [.cell true 4 2,.tmp 3] K
def Te:aq:=aC (ai P WT (qL P K)) (qL P K)
def Tf:aq:=aC (ai P aov (Te P K)) (Te P K)
def ak0:aq:=aC (ai P WL (qL P K)) (qL P K)
def ak1:aq:=bz 0 (ak0 P K)
def Tc:aq:=aC (fun f' aR=>(([2,4,5]:List Nat).map f':List Value)=[x2,s4,x5]∧L1 (([6,7]:List Nat).map f') aR) (ak1 P K)
def Td:aq:=aC (ai P WO (qL P K)) (qL P K)
def CY:aq:=aC (ai P aos (Td P K)) (Td P K)
def aeT:Prop:=au (ai P WU (Tf P K)) [2,4,5,21] [x2,s4,x5,bf] h
def PF:Prop:=au (ai P aoq (Tf P K)) [2,4,5,21,24] [x2,s4,x5,bf,bC] h
def GI:Prop:=au (ai P Li (qL P K)) [2,4,5] [x2,s4,x5] h
def aeQ:Prop:=au (ai P WM (Tc P K x2 s4 x5 L1)) ([2,4,5]++[6,7]) ([x2,s4,x5]++xs) h
def PG:Prop:=au (ai P aor (Tc P K x2 s4 x5 L1)) [2,4,5,6,7] [x2,s4,x5,x6,i7] h
def aeR:Prop:=au (ai P WN (qL P K)) [2,4,5,6] [x2,s4,x5,x6] h
def w9:Prop:=au (ai P D6 (qL P K)) [2,5,8,9,10] [x2,x5,n8,x9,d10] h
def aeS:Prop:=au (ai P WQ (CY P K)) [2,5,8,10,82] [x2,x5,n8,d10,fk] h
def PH:Prop:=au (ai P WR (CY P K)) [2,5,8,10,82,84] [x2,x5,n8,d10,fk,gZ] h
def PI:Prop:=au (ai P WS (CY P K)) [2,5,8,10,82,84,88] [x2,x5,n8,d10,fk,gZ,fV] h
def B2:Prop:=au (ai P aot (CY P K)) [2,5,8,10,82,89] [x2,x5,n8,d10,fk,hZ] h
def PJ:Prop:=au (ai P aou (qL P K)) [2,8,10] [x2,n8,d10] h
theorem agG:PF P K x2 s4 x5 bf bC h=
 (OP (bK bf bC (.bool false)) fun bL=>
 aL bL
 (OP (iZ s4 (some (.int .i64 (1))) none) fun bR=>
 GI P K x2 bR (.bool true) h)
 (GI P K x2 s4 x5 h)):=aw (by kernel_rfl)
theorem axg:aeT P K x2 s4 x5 bf h=
 (bU bf true
 (OP (hT s4 (.int .i64 (0))) fun bV=>
 OP (ah .eql bV (.int .u8 (45))) fun bC=>
 PF P K x2 s4 x5 bf bC h)
 (PF P K x2 s4 x5 bf undef h)):=aw (by kernel_rfl)
theorem axc:PG P K x2 s4 x5 x6 i7 L1 h=
 (OP (ah .sub i7 (.int .i64 (1))) fun cQ=>
 ([x2,s4,x5]:List Value)=[x2,s4,x5]∧L1 [x6,cQ] h):=aw (by kernel_rfl)
theorem axb (x2 s4 x5:Value) (L1:LQ) (x6 i7:Value) (h:ae):aeQ P K x2 s4 x5 L1 [x6,i7] h=
 (OP (ah .geq i7 (.int .i64 (0))) fun cm=>
 aL cm
 (OP (hT s4 i7) fun di=>
 OP (ah .eql di (.int .u8 (47))) fun dB=>
 aL dB
 (PG P K x2 s4 x5 i7 i7 L1 h)
 (PG P K x2 s4 x5 x6 i7 L1 h))
 (aeR P K x2 s4 x5 x6 h)):=aw (by kernel_rfl)
theorem agI:B2 P K x2 x5 n8 d10 fk hZ h=
 (OP (bK fk (.bool true) hZ) fun th=>
 aL th
 (OP (cN [(.bool false),(.slice none 0 0),(.bool false),(.slice none 0 0)] []) fun jI=>
 OH (aJ 4 h x2 jI) fun _ h_1=>
 OP (af true 4 h_1 x2) fun r0=>
 K (.tuple #[r0,(.bool false)]) h_1)
 (aL x5
 (OP (af true 2 h n8) fun ti=>
 aj P 95 [ti] h fun Rf h_1=>
 OH (aJ 2 h_1 n8 Rf) fun _ h_2=>
 PJ P K x2 n8 d10 h_2)
 (PJ P K x2 n8 d10 h))):=aw (by kernel_rfl)
theorem Qi:PI P K x2 x5 n8 d10 fk gZ fV h=
 (bU fk false
 (OP (bK gZ fV (.bool false)) fun hZ=>
 B2 P K x2 x5 n8 d10 fk hZ h)
 (B2 P K x2 x5 n8 d10 fk undef h)):=aw (by kernel_rfl)
theorem agH:PH P K x2 x5 n8 d10 fk gZ h=
 (bU gZ true
 (OP (aE 1 n8) fun qH=>
 OP (af false 1 h qH) fun kJ=>
 OP (aY kJ) fun tg=>
 OP (ah .eql tg (.int .i64 (0))) fun fV=>
 PI P K x2 x5 n8 d10 fk gZ fV h)
 (PI P K x2 x5 n8 d10 fk gZ undef h)):=aw (by kernel_rfl)
theorem axf:aeS P K x2 x5 n8 d10 fk h=
 (bU fk false
 (PH P K x2 x5 n8 d10 fk x5 h)
 (PH P K x2 x5 n8 d10 fk undef h)):=aw (by kernel_rfl)
theorem agJ:PJ P K x2 n8 d10 h=
 (OP (af true 2 h n8) fun zO=>
 OP (af true 2 h d10) fun Rg=>
 OP (cN [(.bool false),(.slice none 0 0),(.bool false),(.slice none 0 0)] [(0,2,zO),(2,2,Rg)]) fun Ct=>
 OH (aJ 4 h x2 Ct) fun _ h_1=>
 OP (af true 4 h_1 x2) fun r0=>
 K (.tuple #[r0,(.bool true)]) h_1):=aw (by kernel_rfl)
theorem axe:w9 P K x2 x5 n8 x9 d10 h=
 (OP (ft .not x9) fun jH=>
 aeS P K x2 x5 n8 d10 jH h):=aw (by kernel_rfl)
theorem axd:aeR P K x2 s4 x5 x6 h=
 (OP (iZ s4 none (some x6)) fun bW=>
 aj P 99 [bW] h fun cg h_1=>
 OP (b9 0 cg) fun gj=>
 OP (b9 1 cg) fun dS=>
 OH (aW 35 [(.bool false),(.slice none 0 0)] h_1) fun n8 h_2=>
 OH (aJ 2 h_2 n8 gj) fun _ h_3=>
 aj P 55 [(.int .i64 (1))] h_3 fun er h_4=>
 OH (aW 35 [(.bool false),(.slice none 0 0)] h_4) fun d10 h_5=>
 OH (aJ 2 h_5 d10 er) fun _ h_6=>
 OP (fe s4) fun dK=>
 OP (ah .lss x6 dK) fun iR=>
 aL iR
 (OP (ah .add x6 (.int .i64 (1))) fun dL=>
 OP (iZ s4 (some dL) none) fun gP=>
 aj P 99 [gP] h_6 fun eA h_7=>
 OP (b9 0 eA) fun gF=>
 OP (b9 1 eA) fun iE=>
 OH (aW 35 [(.bool false),(.slice none 0 0)] h_7) fun ax h_8=>
 OH (aJ 2 h_8 ax gF) fun _ h_9=>
 OP (ft .not iE) fun iF=>
 bU iF false
 (OP (af true 2 h_9 ax) fun fJ=>
 (True)∧
 aj P 55 [(.int .i64 (2))] h_9 fun mQ h_10=>
 (af true 2 h_10 ax=some fJ∧True)∧
 aj P 72 [fJ,mQ] h_10 fun fD h_11=>
 (True)∧
 OP (ah .lss fD (.int .i64 (0))) fun eG=>
 OP (bK iF (.bool true) eG) fun gn=>
 bU gn false
 (OP (af true 2 h_11 n8) fun fB=>
 (True)∧
 OP (af true 2 h_11 ax) fun lA=>
 (True)∧
 aj P 68 [fB,lA] h_11 fun jW h_12=>
 (True)∧
 aj P 55 [(.int .i64 (1))] h_12 fun jG h_13=>
 (True)∧
 aj P 72 [jW,jG] h_13 fun gG h_14=>
 (True)∧
 OP (ah .neq gG (.int .i64 (0))) fun je=>
 OP (bK gn (.bool true) je) fun fK=>
 aL fK
 (OP (cN [(.bool false),(.slice none 0 0),(.bool false),(.slice none 0 0)] []) fun eB=>
 OH (aJ 4 h_14 x2 eB) fun _ h_15=>
 OP (af true 4 h_15 x2) fun r0=>
 K (.tuple #[r0,(.bool false)]) h_15)
 (OP (af true 2 h_14 ax) fun iS=>
 OH (aJ 2 h_14 d10 iS) fun _ h_15=>
 w9 P K x2 x5 n8 dS d10 h_15))
 ((True)∧
 (True)∧
 (True)∧
 OP (bK gn (.bool true) undef) fun fK=>
 aL fK
 (OP (cN [(.bool false),(.slice none 0 0),(.bool false),(.slice none 0 0)] []) fun eB=>
 OH (aJ 4 h_11 x2 eB) fun _ h_12=>
 OP (af true 4 h_12 x2) fun r0=>
 K (.tuple #[r0,(.bool false)]) h_12)
 (OP (af true 2 h_11 ax) fun iS=>
 OH (aJ 2 h_11 d10 iS) fun _ h_12=>
 w9 P K x2 x5 n8 dS d10 h_12)))
 ((True)∧
 (True)∧
 OP (bK iF (.bool true) undef) fun gn=>
 bU gn false
 (OP (af true 2 h_9 n8) fun fB=>
 (True)∧
 OP (af true 2 h_9 ax) fun lA=>
 (True)∧
 aj P 68 [fB,lA] h_9 fun jW h_10=>
 (True)∧
 aj P 55 [(.int .i64 (1))] h_10 fun jG h_11=>
 (True)∧
 aj P 72 [jW,jG] h_11 fun gG h_12=>
 (True)∧
 OP (ah .neq gG (.int .i64 (0))) fun je=>
 OP (bK gn (.bool true) je) fun fK=>
 aL fK
 (OP (cN [(.bool false),(.slice none 0 0),(.bool false),(.slice none 0 0)] []) fun eB=>
 OH (aJ 4 h_12 x2 eB) fun _ h_13=>
 OP (af true 4 h_13 x2) fun r0=>
 K (.tuple #[r0,(.bool false)]) h_13)
 (OP (af true 2 h_12 ax) fun iS=>
 OH (aJ 2 h_12 d10 iS) fun _ h_13=>
 w9 P K x2 x5 n8 dS d10 h_13))
 ((True)∧
 (True)∧
 (True)∧
 OP (bK gn (.bool true) undef) fun fK=>
 aL fK
 (OP (cN [(.bool false),(.slice none 0 0),(.bool false),(.slice none 0 0)] []) fun eB=>
 OH (aJ 4 h_9 x2 eB) fun _ h_10=>
 OP (af true 4 h_10 x2) fun r0=>
 K (.tuple #[r0,(.bool false)]) h_10)
 (OP (af true 2 h_9 ax) fun iS=>
 OH (aJ 2 h_9 d10 iS) fun _ h_10=>
 w9 P K x2 x5 n8 dS d10 h_10))))
 (w9 P K x2 x5 n8 dS d10 h_6)):=aw (by kernel_rfl)
theorem axa:GI P K x2 s4 x5 h=
 (OP (fe s4) fun bZ=>
 OP (fe s4) fun bY=>
 OP (ah .sub bY (.int .i64 (1))) fun cM=>
 cB [bZ,cM] h fun L1 xs hx=>
 aeQ P K x2 s4 x5 L1 xs hx):=aw (by kernel_rfl)
def Kh:Prop:=
 OH (aW 37 [(.bool false),(.slice none 0 0),(.bool false),(.slice none 0 0)] h) fun x2 h_1=>
 OP (fe x0) fun a9=>
 OP (ah .gtr a9 (.int .i64 (8002))) fun aX=>
 aL aX
 (OP (cN [(.bool false),(.slice none 0 0),(.bool false),(.slice none 0 0)] []) fun bH=>
 OH (aJ 4 h_1 x2 bH) fun _ h_2=>
 OP (af true 4 h_2 x2) fun r0=>
 K (.tuple #[r0,(.bool false)]) h_2)
 (OP (fe x0) fun aM=>
 OP (ah .gtr aM (.int .i64 (0))) fun aT=>
 aeT P K x2 x0 (.bool false) aT h_1)
theorem e67:ai P At (aO [.cell true 4 2,.tmp 3] K) (bk [x0]) h=Kh P K x0 h:=by kernel_rfl
theorem f67 {K:VK} {x0:Value} {h:ae} (H:Kh Tryz.prog K x0 h):aj Tryz.prog 67 [x0] h K:=
 bD k67 (Nat.le_of_ble_eq_true rfl) ((e67 Tryz.prog K x0 h).mpr H)
end
/-! F70: pommel/pommelref01.Add -/
noncomputable section
variable (a0 b1 : Value) (h : ae)
def acC:=bp Tryz.prog 70 [[],[],[],[],[],[],[],[]]
@[irreducible] def W0:=bw acC
theorem k70:acC=some (43,W0,[.cell true 2 4]):=by kernel_rfl
def Kk:Prop:=
 OH (bc 35 h a0) fun a2 h_1=>
 OH (bc 35 h_1 b1) fun b3 h_2=>
 OH (aW 35 [(.bool false),(.slice none 0 0)] h_2) fun x4 h_3=>
 OP (aE 0 a2) fun x5=>
 OP (af false 1 h_3 x5) fun x6=>
 OP (aE 0 b3) fun x7=>
 OP (af false 1 h_3 x7) fun x8=>
 OP (ri false x6 x8) fun x9=>
 aL x9
 (OP (aE 0 a2) fun aF=>
 OP (af false 1 h_3 aF) fun ax=>
 (True)∧
 OP (aE 1 a2) fun az=>
 OP (af false 1 h_3 az) fun ay=>
 (True)∧
 OP (aE 1 b3) fun aP=>
 OP (af false 1 h_3 aP) fun a9=>
 (True)∧
 aj P 104 [ay,a9] h_3 fun aX h_4=>
 (af false 1 h_4 aF=some ax∧True)∧
 OP (cN [(.bool false),(.slice none 0 0)] [(0,1,ax),(1,1,aX)]) fun bH=>
 aj P 100 [bH] h_4 fun aN h_5=>
 (True)∧
 OH (aJ 2 h_5 x4 aN) fun _ h_6=>
 (True)∧
 OP (af true 2 h_6 x4) fun r0=>
 K r0 h_6)
 (OP (aE 1 a2) fun aM=>
 OP (af false 1 h_3 aM) fun aT=>
 OP (aE 1 b3) fun bf=>
 OP (af false 1 h_3 bf) fun bt=>
 aj P 101 [aT,bt] h_3 fun bV h_4=>
 OP (ah .geq bV (.int .i64 (0))) fun bC=>
 aL bC
 (OP (aE 0 a2) fun bL=>
 OP (af false 1 h_4 bL) fun cF=>
 (True)∧
 OP (aE 1 a2) fun bR=>
 OP (af false 1 h_4 bR) fun bE=>
 (True)∧
 OP (aE 1 b3) fun bZ=>
 OP (af false 1 h_4 bZ) fun cP=>
 (True)∧
 aj P 103 [bE,cP] h_4 fun bY h_5=>
 (af false 1 h_5 bL=some cF∧True)∧
 OP (cN [(.bool false),(.slice none 0 0)] [(0,1,cF),(1,1,bY)]) fun cM=>
 aj P 100 [cM] h_5 fun dJ h_6=>
 (True)∧
 OH (aJ 2 h_6 x4 dJ) fun _ h_7=>
 (True)∧
 OP (af true 2 h_7 x4) fun r0=>
 K r0 h_7)
 (OP (aE 0 b3) fun cm=>
 OP (af false 1 h_4 cm) fun dc=>
 (True)∧
 OP (aE 1 b3) fun cQ=>
 OP (af false 1 h_4 cQ) fun dM=>
 (True)∧
 OP (aE 1 a2) fun cG=>
 OP (af false 1 h_4 cG) fun di=>
 (True)∧
 aj P 103 [dM,di] h_4 fun dB h_5=>
 (af false 1 h_5 cm=some dc∧True)∧
 OP (cN [(.bool false),(.slice none 0 0)] [(0,1,dc),(1,1,dB)]) fun dm=>
 aj P 100 [dm] h_5 fun dR h_6=>
 (True)∧
 OH (aJ 2 h_6 x4 dR) fun _ h_7=>
 (True)∧
 OP (af true 2 h_7 x4) fun r0=>
 K r0 h_7))
theorem e70:ai P W0 (aO [.cell true 2 4] K) (bk [a0,b1]) h=Kk P K a0 b1 h:=by kernel_rfl
theorem f70 {K:VK} {a0 b1:Value} {h:ae} (H:Kk Tryz.prog K a0 b1 h):aj Tryz.prog 70 [a0,b1] h K:=
 bD k70 (Nat.le_of_ble_eq_true rfl) ((e70 Tryz.prog K a0 b1 h).mpr H)
end
/-! F71: pommel/pommelref01.Mul -/
noncomputable section
variable (a0 b1 a2 b3 x4 x5 i6 x7 k8 s9 bY dJ : Value) (L1 L2 : LQ) (xs : List Value) (h : ae)
def acD:=bp Tryz.prog 71 [[],[],[],[2,3,4,5],[6],[],[],[],[],[2,3,4,5,6],[7,8],[2,3,4,5,6,7,8,31],[2,3,4,5,6,7,8,31,33],[],[],[],[],[2,3,4,5,6,8,9],[2,3,4,5,6,7,8],[2,3,4,5,6],[2,3,4,5],[]]
@[irreducible] def Eb:=bw acD
@[irreducible] def Lk:=Eb.r.r.l.r.l.l
@[irreducible] def W3:=Eb.r.r.r
@[irreducible] def Ec:=Lk.r.l.l.r.r.l.l
@[irreducible] def W4:=Lk.r.r
@[irreducible] def aoJ:=W3.l
@[irreducible] def W1:=Ec.l.l.r.l
@[irreducible] def aoE:=Ec.l.r
@[irreducible] def Lj:=Ec.r
@[irreducible] def aoI:=W4.l
@[irreducible] def aoF:=W1.r.l
@[irreducible] def aoG:=Lj.l.l.r.r.l
@[irreducible] def W2:=Lj.r
@[irreducible] def aoH:=W2.l
theorem k71:acD=some (80,Eb,[.cell true 2 4]):=by kernel_rfl
def IX (_P:Program) (K:VK):aq:=aO [.cell true 2 4] K
def alf:aq:=aC (ai P W3 (IX P K)) (IX P K)
def alg:aq:=bz 0 (alf P K)
def C0:aq:=aC (fun f' aR=>(([2,3,4,5]:List Nat).map f':List Value)=[a2,b3,x4,x5]∧L1 (([6]:List Nat).map f') aR) (alg P K)
def alh:aq:=aC (ai P W4 (C0 P K a2 b3 x4 x5 L1)) (C0 P K a2 b3 x4 x5 L1)
def alb:aq:=bz 1 (alh P K a2 b3 x4 x5 L1)
def alc:aq:=bz 2 (alb P K a2 b3 x4 x5 L1)
def xI:aq:=aC (fun f' aR=>(([2,3,4,5,6]:List Nat).map f':List Value)=[a2,b3,x4,x5,i6]∧L2 (([7,8]:List Nat).map f') aR) (alc P K a2 b3 x4 x5 L1)
def Ti:aq:=aC (ai P Lj (xI P K a2 b3 x4 x5 i6 L1 L2)) (xI P K a2 b3 x4 x5 i6 L1 L2)
def Tj:aq:=aC (ai P aoE (Ti P K a2 b3 x4 x5 i6 L1 L2)) (Ti P K a2 b3 x4 x5 i6 L1 L2)
def ald:aq:=aC (ai P W2 (xI P K a2 b3 x4 x5 i6 L1 L2)) (xI P K a2 b3 x4 x5 i6 L1 L2)
def ale:aq:=bz 3 (ald P K a2 b3 x4 x5 i6 L1 L2)
def ae6:Prop:=au (ai P Lk (C0 P K a2 b3 x4 x5 L1)) ([2,3,4,5]++[6]) ([a2,b3,x4,x5]++xs) h
def ae2:Prop:=au (ai P Ec (xI P K a2 b3 x4 x5 i6 L1 L2)) ([2,3,4,5,6]++[7,8]) ([a2,b3,x4,x5,i6]++xs) h
def ae3:Prop:=au (ai P W1 (Tj P K a2 b3 x4 x5 i6 L1 L2)) [2,3,4,5,6,7,8,31] [a2,b3,x4,x5,i6,x7,k8,bY] h
def PK:Prop:=au (ai P aoF (Tj P K a2 b3 x4 x5 i6 L1 L2)) [2,3,4,5,6,7,8,31,33] [a2,b3,x4,x5,i6,x7,k8,bY,dJ] h
def uz:Prop:=au (ai P aoG (ale P K a2 b3 x4 x5 i6 L1 L2)) [2,3,4,5,6,8,9] [a2,b3,x4,x5,i6,k8,s9] h
def ae4:Prop:=au (ai P aoH (xI P K a2 b3 x4 x5 i6 L1 L2)) [2,3,4,5,6,7,8] [a2,b3,x4,x5,i6,x7,k8] h
def PM:Prop:=au (ai P aoI (C0 P K a2 b3 x4 x5 L1)) [2,3,4,5,6] [a2,b3,x4,x5,i6] h
def ae5:Prop:=au (ai P aoJ (IX P K)) [2,3,4,5] [a2,b3,x4,x5] h
theorem agL:PK P K a2 b3 x4 x5 i6 x7 k8 bY dJ L1 L2 h=
 (OP (bK bY (.bool true) dJ) fun cm=>
 aL cm
 (OP (ah .add i6 k8) fun dB=>
 OP (aS 1 x5 dB) fun dm=>
 OP (af false 1 h dm) fun dR=>
 OP (ah .add dR x7) fun ba=>
 OP (aE 1 b3) fun cg=>
 OP (af false 1 h cg) fun gj=>
 OP (aY gj) fun dS=>
 OP (ah .lss k8 dS) fun er=>
 aL er
 (OP (aE 1 a2) fun eL=>
 OP (af false 1 h eL) fun dK=>
 (True)∧
 OP (aS 1 dK i6) fun cn=>
 OP (af false 1 h cn) fun fh=>
 (True)∧
 OP (aE 1 b3) fun fU=>
 OP (af false 1 h fU) fun dL=>
 (True)∧
 OP (aS 1 dL k8) fun eA=>
 OP (af false 1 h eA) fun gF=>
 (True)∧
 OP (ah .mul fh gF) fun iE=>
 OP (ah .add ba iE) fun kH=>
 uz P K a2 b3 x4 x5 i6 k8 kH L1 L2 h)
 (uz P K a2 b3 x4 x5 i6 k8 ba L1 L2 h))
 (PM P K a2 b3 x4 x5 i6 L1 h)):=aw (by kernel_rfl)
theorem agK:ae3 P K a2 b3 x4 x5 i6 x7 k8 bY L1 L2 h=
 (bU bY false
 (OP (ah .gtr x7 (.int .i64 (0))) fun dJ=>
 PK P K a2 b3 x4 x5 i6 x7 k8 bY dJ L1 L2 h)
 (PK P K a2 b3 x4 x5 i6 x7 k8 bY undef L1 L2 h)):=aw (by kernel_rfl)
theorem axq:uz P K a2 b3 x4 x5 i6 k8 s9 L1 L2 h=
 (OP (ah .add i6 k8) fun mQ=>
 OP (ah .rem s9 (.int .i64 (10000))) fun eG=>
 OP (ah .quo s9 (.int .i64 (10000))) fun kI=>
 OP (aS 1 x5 mQ) fun fB=>
 OH (aJ 1 h fB eG) fun _ h_1=>
 ae4 P K a2 b3 x4 x5 i6 kI k8 L1 L2 h_1):=aw (by kernel_rfl)
theorem axr:ae4 P K a2 b3 x4 x5 i6 x7 k8 L1 L2 h=
 (OP (ah .add k8 (.int .i64 (1))) fun cQ=>
 ([a2,b3,x4,x5,i6]:List Value)=[a2,b3,x4,x5,i6]∧L2 [x7,cQ] h):=aw (by kernel_rfl)
theorem axp (a2 b3 x4 x5 i6:Value) (L1 L2:LQ) (x7 k8:Value) (h:ae):ae2 P K a2 b3 x4 x5 i6 L1 L2 [x7,k8] h=
 (OP (aE 1 b3) fun bR=>
 OP (af false 1 h bR) fun bE=>
 OP (aY bE) fun bZ=>
 OP (ah .lss k8 bZ) fun cP=>
 ae3 P K a2 b3 x4 x5 i6 x7 k8 cP L1 L2 h):=aw (by kernel_rfl)
theorem axs:PM P K a2 b3 x4 x5 i6 L1 h=
 (OP (ah .add i6 (.int .i64 (1))) fun bL=>
 ([a2,b3,x4,x5]:List Value)=[a2,b3,x4,x5]∧L1 [bL] h):=aw (by kernel_rfl)
theorem axu (a2 b3 x4 x5:Value) (L1:LQ) (i6:Value) (h:ae):ae6 P K a2 b3 x4 x5 L1 [i6] h=
 (OP (aE 1 a2) fun aT=>
 OP (af false 1 h aT) fun bf=>
 OP (aY bf) fun bt=>
 OP (ah .lss i6 bt) fun bV=>
 aL bV
 (cB [(.int .i64 (0)),(.int .i64 (0))] h fun L2 xs hx=>
 ae2 P K a2 b3 x4 x5 i6 L1 L2 xs hx)
 (ae5 P K a2 b3 x4 x5 h)):=aw (by kernel_rfl)
theorem axt:ae5 P K a2 b3 x4 x5 h=
 (OP (aE 0 a2) fun lA=>
 OP (af false 1 h lA) fun jW=>
 OP (aE 0 b3) fun jG=>
 OP (af false 1 h jG) fun gG=>
 OP (ri true jW gG) fun je=>
 OP (cN [(.bool false),(.slice none 0 0)] [(0,1,je),(1,1,x5)]) fun eB=>
 aj P 100 [eB] h fun iS h_1=>
 OH (aJ 2 h_1 x4 iS) fun _ h_2=>
 OP (af true 2 h_2 x4) fun r0=>
 K r0 h_2):=aw (by kernel_rfl)
def Kl:Prop:=
 OH (bc 35 h a0) fun a2 h_1=>
 OH (bc 35 h_1 b1) fun b3 h_2=>
 OH (aW 35 [(.bool false),(.slice none 0 0)] h_2) fun x4 h_3=>
 OP (aE 1 a2) fun aF=>
 OP (af false 1 h_3 aF) fun ax=>
 OP (aY ax) fun az=>
 OP (aE 1 b3) fun ay=>
 OP (af false 1 h_3 ay) fun aP=>
 OP (aY aP) fun a9=>
 OP (ah .add az a9) fun aX=>
 OP (ah .add aX (.int .i64 (1))) fun bH=>
 OH (kD 3 8 [(.int .i64 (0))] h_3 bH bH) fun aN h_4=>
 cB [(.int .i64 (0))] h_4 fun L1 xs hx=>
 ae6 P K a2 b3 x4 aN L1 xs hx
theorem e71:ai P Eb (aO [.cell true 2 4] K) (bk [a0,b1]) h=Kl P K a0 b1 h:=by kernel_rfl
theorem f71 {K:VK} {a0 b1:Value} {h:ae} (H:Kl Tryz.prog K a0 b1 h):aj Tryz.prog 71 [a0,b1] h K:=
 bD k71 (Nat.le_of_ble_eq_true rfl) ((e71 Tryz.prog K a0 b1 h).mpr H)
end
/-! F72: pommel/pommelref01.Cmp -/
noncomputable section
variable (a0 b1 : Value) (h : ae)
def acE:=bp Tryz.prog 72 [[],[]]
@[irreducible] def W5:=bw acE
theorem k72:acE=some (9,W5,[.tmp 4]):=by kernel_rfl
def Km:Prop:=
 OH (bc 35 h a0) fun a2 h_1=>
 OH (bc 35 h_1 b1) fun b3 h_2=>
 OP (af true 2 h_2 a2) fun x5=>
 OP (af true 2 h_2 b3) fun x6=>
 aj P 92 [x5,x6] h_2 fun x7 h_3=>
 aj P 48 [x7] h_3 fun x8 h_4=>
 K x8 h_4
theorem e72:ai P W5 (aO [.tmp 4] K) (bk [a0,b1]) h=Km P K a0 b1 h:=by kernel_rfl
theorem f72 {K:VK} {a0 b1:Value} {h:ae} (H:Km Tryz.prog K a0 b1 h):aj Tryz.prog 72 [a0,b1] h K:=
 bD k72 (Nat.le_of_ble_eq_true rfl) ((e72 Tryz.prog K a0 b1 h).mpr H)
end
/-! F92: pommel/pommelref01.Sub -/
noncomputable section
variable (a0 b1 : Value) (h : ae)
def acV:=bp Tryz.prog 92 [[],[]]
@[irreducible] def Xx:=bw acV
theorem k92:acV=some (9,Xx,[.cell true 2 4]):=by kernel_rfl
def KB:Prop:=
 OH (bc 35 h a0) fun a2 h_1=>
 OH (bc 35 h_1 b1) fun b3 h_2=>
 OH (aW 35 [(.bool false),(.slice none 0 0)] h_2) fun x4 h_3=>
 OP (af true 2 h_3 a2) fun x5=>
 (True)∧
 OP (af true 2 h_3 b3) fun x6=>
 (True)∧
 aj P 95 [x6] h_3 fun x7 h_4=>
 (af true 2 h_4 a2=some x5∧True)∧
 aj P 70 [x5,x7] h_4 fun x8 h_5=>
 (True)∧
 OH (aJ 2 h_5 x4 x8) fun _ h_6=>
 (True)∧
 OP (af true 2 h_6 x4) fun r0=>
 K r0 h_6
theorem e92:ai P Xx (aO [.cell true 2 4] K) (bk [a0,b1]) h=KB P K a0 b1 h:=by kernel_rfl
theorem f92 {K:VK} {a0 b1:Value} {h:ae} (H:KB Tryz.prog K a0 b1 h):aj Tryz.prog 92 [a0,b1] h K:=
 bD k92 (Nat.le_of_ble_eq_true rfl) ((e92 Tryz.prog K a0 b1 h).mpr H)
end
/-! F93: pommel/pommelref01.figures -/
noncomputable section
variable (z0 z1 s3 i4 : Value) (L1 : LQ) (xs : List Value) (h : ae)
def acW:=bp Tryz.prog 93 [[],[],[],[],[],[],[1],[3,4],[],[],[],[],[],[3],[],[3],[],[],[3],[]]
@[irreducible] def Eo:=bw acW
@[irreducible] def apj:=Eo.r.r.r.l.r.l.l
@[irreducible] def Xz:=Eo.r.r.r.r
@[irreducible] def Lq:=Xz.l
@[irreducible] def aph:=Lq.l.l.l
@[irreducible] def Xy:=Lq.r
@[irreducible] def api:=Xy.l
theorem k93:acW=some (53,Eo,[.tmp 2]):=by kernel_rfl
def xK (_P:Program) (K:VK):aq:=aO [.tmp 2] K
def alL:aq:=aC (ai P Xz (xK P K)) (xK P K)
def alM:aq:=bz 0 (alL P K)
def alN:aq:=aC (fun f' aR=>(([1]:List Nat).map f':List Value)=[z1]∧L1 (([3,4]:List Nat).map f') aR) (alM P K)
def alI:aq:=aC (ai P Xy (xK P K)) (xK P K)
def alJ:aq:=bz 2 (alI P K)
def alK:aq:=aC (fun f' aR=>(([]:List Nat).map f':List Value)=[]∧L1 (([3]:List Nat).map f') aR) (alJ P K)
def afB:Prop:=au (ai P apj (alN P K z1 L1)) ([1]++[3,4]) ([z1]++xs) h
def afy:Prop:=au (ai P Lq (xK P K)) [3] [s3] h
def afz:Prop:=au (ai P aph (alK P K L1)) ([]++[3]) ([]++xs) h
def afA:Prop:=au (ai P api (xK P K)) [3] [s3] h
theorem ax0 (z1:Value) (L1:LQ) (s3 i4:Value) (h:ae):afB P K z1 L1 [s3,i4] h=
 (OP (ah .geq i4 (.int .i64 (0))) fun aX=>
 aL aX
 (OP (aE 1 z1) fun aM=>
 OP (af false 1 h aM) fun aT=>
 OP (aS 1 aT i4) fun bt=>
 OP (af false 1 h bt) fun bV=>
 OP (ah .quo bV (.int .i64 (1000))) fun bL=>
 OP (ah .add (.int .i64 (48)) bL) fun cF=>
 OP (cS .u8 cF) fun bR=>
 OP (ah .quo bV (.int .i64 (100))) fun bZ=>
 OP (ah .rem bZ (.int .i64 (10))) fun cP=>
 OP (ah .add (.int .i64 (48)) cP) fun bY=>
 OP (cS .u8 bY) fun cM=>
 OP (ah .quo bV (.int .i64 (10))) fun cm=>
 OP (ah .rem cm (.int .i64 (10))) fun dc=>
 OP (ah .add (.int .i64 (48)) dc) fun cQ=>
 OP (cS .u8 cQ) fun dM=>
 OP (ah .rem bV (.int .i64 (10))) fun di=>
 OP (ah .add (.int .i64 (48)) di) fun dB=>
 OP (cS .u8 dB) fun dm=>
 OH (cT 5 4 [(.int .u8 (0))] h [(0,1,bR),(1,1,cM),(2,1,dM),(3,1,dm)]) fun dR h_1=>
 OP (pb h_1 dR) fun bM=>
 OP (ah .add s3 bM) fun cg=>
 OP (ah .sub i4 (.int .i64 (1))) fun aN=>
 ([z1]:List Value)=[z1]∧L1 [cg,aN] h_1)
 (afy P K s3 h)):=aw (by kernel_rfl)
theorem axY (L1:LQ) (s3:Value) (h:ae):afz P K L1 [s3] h=
 (OP (hT s3 (.int .i64 (0))) fun dS=>
 OP (ah .eql dS (.int .u8 (48))) fun er=>
 aL er
 (OP (iZ s3 (some (.int .i64 (1))) none) fun eL=>
 ([]:List Value)=[]∧L1 [eL] h)
 (afA P K s3 h)):=aw (by kernel_rfl)
theorem axZ:afA P K s3 h=
 (K s3 h):=aw (by kernel_rfl)
theorem axX:afy P K s3 h=
 (cB [s3] h fun L1 xs hx=>
 afz P K L1 xs hx):=aw (by kernel_rfl)
def KC:Prop:=
 OH (bc 35 h z0) fun z1 h_1=>
 OP (aE 1 z1) fun x7=>
 OP (af false 1 h_1 x7) fun x8=>
 OP (aY x8) fun x9=>
 OP (ah .eql x9 (.int .i64 (0))) fun aF=>
 aL aF
 (K (.string ⟨#[48]⟩) h_1)
 (OP (aE 1 z1) fun ax=>
 OP (af false 1 h_1 ax) fun az=>
 OP (aY az) fun ay=>
 OP (ah .sub ay (.int .i64 (1))) fun aP=>
 cB [(.string ⟨#[]⟩),aP] h_1 fun L1 xs hx=>
 afB P K z1 L1 xs hx)
theorem e93:ai P Eo (aO [.tmp 2] K) (bk [z0]) h=KC P K z0 h:=by kernel_rfl
theorem f93 {K:VK} {z0:Value} {h:ae} (H:KC Tryz.prog K z0 h):aj Tryz.prog 93 [z0] h K:=
 bD k93 (Nat.le_of_ble_eq_true rfl) ((e93 Tryz.prog K z0 h).mpr H)
end
/-! F94: pommel/pommelref01.Abs -/
noncomputable section
variable (a0 : Value) (h : ae)
def acX:=bp Tryz.prog 94 [[],[],[]]
@[irreducible] def XA:=bw acX
theorem k94:acX=some (5,XA,[.cell true 2 2]):=by kernel_rfl
def KD (_:Program) (K:VK) (a0:Value) (h:ae):Prop:=
 OH (bc 35 h a0) fun a1 h_1=>
 OH (aW 35 [(.bool false),(.slice none 0 0)] h_1) fun x2 h_2=>
 OP (aE 0 a1) fun x3=>
 OH (aJ 1 h_2 x3 (.bool false)) fun _ h_3=>
 OP (af true 2 h_3 a1) fun x4=>
 OH (aJ 2 h_3 x2 x4) fun _ h_4=>
 OP (af true 2 h_4 x2) fun r0=>
 K r0 h_4
theorem e94:ai P XA (aO [.cell true 2 2] K) (bk [a0]) h=KD P K a0 h:=by kernel_rfl
theorem f94 {K:VK} {a0:Value} {h:ae} (H:KD Tryz.prog K a0 h):aj Tryz.prog 94 [a0] h K:=
 bD k94 (Nat.le_of_ble_eq_true rfl) ((e94 Tryz.prog K a0 h).mpr H)
end
/-! F95: pommel/pommelref01.Neg -/
noncomputable section
variable (a0 a1 x2 x6 aF : Value) (h : ae)
def acY:=bp Tryz.prog 95 [[],[1,2,6],[1,2,6,10],[],[]]
@[irreducible] def Ep:=bw acY
@[irreducible] def XB:=Ep.r.l.r.l
@[irreducible] def apk:=Ep.r.r
@[irreducible] def apl:=XB.r.l
theorem k95:acY=some (14,Ep,[.cell true 2 2]):=by kernel_rfl
def TJ (_P:Program) (K:VK):aq:=aO [.cell true 2 2] K
def TK:aq:=aC (ai P apk (TJ P K)) (TJ P K)
def afC:Prop:=au (ai P XB (TK P K)) [1,2,6] [a1,x2,x6] h
def PZ:Prop:=au (ai P apl (TK P K)) [1,2,6,10] [a1,x2,x6,aF] h
theorem agU:PZ P K a1 x2 x6 aF h=
 (OP (bK x6 aF (.bool false)) fun ax=>
 OP (aE 0 a1) fun az=>
 OH (aJ 1 h az ax) fun _ h_1=>
 OP (af true 2 h_1 a1) fun ay=>
 OH (aJ 2 h_1 x2 ay) fun _ h_2=>
 OP (af true 2 h_2 x2) fun r0=>
 K r0 h_2):=aw (by kernel_rfl)
theorem agT:afC P K a1 x2 x6 h=
 (bU x6 true
 (OP (aE 1 a1) fun x7=>
 OP (af false 1 h x7) fun x8=>
 OP (aY x8) fun x9=>
 OP (ah .gtr x9 (.int .i64 (0))) fun aF=>
 PZ P K a1 x2 x6 aF h)
 (PZ P K a1 x2 x6 undef h)):=aw (by kernel_rfl)
def KE:Prop:=
 OH (bc 35 h a0) fun a1 h_1=>
 OH (aW 35 [(.bool false),(.slice none 0 0)] h_1) fun x2 h_2=>
 OP (aE 0 a1) fun x3=>
 OP (af false 1 h_2 x3) fun x4=>
 OP (ft .not x4) fun x5=>
 afC P K a1 x2 x5 h_2
theorem e95:ai P Ep (aO [.cell true 2 2] K) (bk [a0]) h=KE P K a0 h:=by kernel_rfl
theorem f95 {K:VK} {a0:Value} {h:ae} (H:KE Tryz.prog K a0 h):aj Tryz.prog 95 [a0] h K:=
 bD k95 (Nat.le_of_ble_eq_true rfl) ((e95 Tryz.prog K a0 h).mpr H)
end
/-! F99: pommel/pommelref01.digits -/
noncomputable section
variable (s0 x2 z4 x5 d6 i7 ax aP aX aT bV bC cg dE : Value) (L1 L2 : LQ) (xs : List Value) (h : ae)
def ac0:=bp Tryz.prog 99 [[],[0,2,11],[0,2,11,14],[0,2,16],[0,2,16,20],[0,2,16,20,23],[0,2,16,24],[],[],[],[],[],[0,2,4],[5],[],[],[],[],[0,2,4,5],[6,7],[],[],[0,2,4,5,6,7,46],[0,2,4,5,6,7,46,50],[],[],[],[],[0,2,4,5,6],[0,2,4,5],[2,4],[]]
@[irreducible] def Aw:=bw ac0
@[irreducible] def XJ:=Aw.r.l.l.r.l
@[irreducible] def apn:=Aw.r.l.r
@[irreducible] def Lr:=Aw.r.r
@[irreducible] def XK:=XJ.r.l
@[irreducible] def Er:=Lr.r.l.r.l.l
@[irreducible] def XF:=Lr.r.r
@[irreducible] def XL:=XK.r.l
@[irreducible] def Ax:=Er.r.l.l.r.l.r.l.l
@[irreducible] def XH:=Er.r.l.l.r.r
@[irreducible] def XG:=Er.r.r
@[irreducible] def apv:=XF.l
@[irreducible] def XD:=XL.r.l
@[irreducible] def XI:=Ax.r.l.l.l.l.r.l
@[irreducible] def apr:=Ax.r.l.l.l.r
@[irreducible] def apq:=Ax.r.l.l.r
@[irreducible] def apo:=Ax.r.r
@[irreducible] def apt:=XH.l
@[irreducible] def apu:=XG.l
@[irreducible] def XE:=XD.r.l
@[irreducible] def aps:=XI.r.l
@[irreducible] def apm:=XE.r.l
theorem k99:ac0=some (69,Aw,[.cell true 2 2,.tmp 3]):=by kernel_rfl
def Ad (_P:Program) (K:VK):aq:=aO [.cell true 2 2,.tmp 3] K
def TM:aq:=aC (ai P Lr (Ad P K)) (Ad P K)
def xL:aq:=aC (ai P apn (TM P K)) (TM P K)
def alO:aq:=aC (ai P XF (Ad P K)) (Ad P K)
def alP:aq:=bz 0 (alO P K)
def C4:aq:=aC (fun f' aR=>(([0,2,4]:List Nat).map f':List Value)=[s0,x2,z4]∧L1 (([5]:List Nat).map f') aR) (alP P K)
def alQ:aq:=aC (ai P XG (C4 P K s0 x2 z4 L1)) (C4 P K s0 x2 z4 L1)
def I7:aq:=bz 1 (alQ P K s0 x2 z4 L1)
def alR:aq:=aC (ai P XH (I7 P K s0 x2 z4 L1)) (I7 P K s0 x2 z4 L1)
def alS:aq:=bz 2 (alR P K s0 x2 z4 L1)
def I8:aq:=aC (fun f' aR=>(([0,2,4,5]:List Nat).map f':List Value)=[s0,x2,z4,x5]∧L2 (([6,7]:List Nat).map f') aR) (alS P K s0 x2 z4 L1)
def alT:aq:=aC (ai P apo (I8 P K s0 x2 z4 x5 L1 L2)) (I8 P K s0 x2 z4 x5 L1 L2)
def TN:aq:=bz 3 (alT P K s0 x2 z4 x5 L1 L2)
def TO:aq:=aC (ai P apq (TN P K s0 x2 z4 x5 L1 L2)) (TN P K s0 x2 z4 x5 L1 L2)
def TP:aq:=aC (ai P apr (TO P K s0 x2 z4 x5 L1 L2)) (TO P K s0 x2 z4 x5 L1 L2)
def afJ:Prop:=au (ai P XJ (xL P K)) [0,2,11] [s0,x2,ax] h
def P3:Prop:=au (ai P XK (xL P K)) [0,2,11,14] [s0,x2,ax,aP] h
def afK:Prop:=au (ai P XL (xL P K)) [0,2,16] [s0,x2,aX] h
def P0:Prop:=au (ai P XD (xL P K)) [0,2,16,20] [s0,x2,aX,aT] h
def P1:Prop:=au (ai P XE (xL P K)) [0,2,16,20,23] [s0,x2,aX,aT,bV] h
def B4:Prop:=au (ai P apm (xL P K)) [0,2,16,24] [s0,x2,aX,bC] h
def afD:Prop:=au (ai P Er (C4 P K s0 x2 z4 L1)) ([0,2,4]++[5]) ([s0,x2,z4]++xs) h
def afE:Prop:=au (ai P Ax (I8 P K s0 x2 z4 x5 L1 L2)) ([0,2,4,5]++[6,7]) ([s0,x2,z4,x5]++xs) h
def afF:Prop:=au (ai P XI (TP P K s0 x2 z4 x5 L1 L2)) [0,2,4,5,6,7,46] [s0,x2,z4,x5,d6,i7,cg] h
def P2:Prop:=au (ai P aps (TP P K s0 x2 z4 x5 L1 L2)) [0,2,4,5,6,7,46,50] [s0,x2,z4,x5,d6,i7,cg,dE] h
def afG:Prop:=au (ai P apt (I7 P K s0 x2 z4 L1)) [0,2,4,5,6] [s0,x2,z4,x5,d6] h
def afH:Prop:=au (ai P apu (C4 P K s0 x2 z4 L1)) [0,2,4,5] [s0,x2,z4,x5] h
def afI:Prop:=au (ai P apv (Ad P K)) [2,4] [x2,z4] h
theorem Qn:B4 P K s0 x2 aX bC h=
 (OP (bK aX (.bool true) bC) fun bL=>
 aL bL
 (OP (cN [(.bool false),(.slice none 0 0)] []) fun cF=>
 OH (aJ 2 h x2 cF) fun _ h_1=>
 OP (af true 2 h_1 x2) fun r0=>
 K (.tuple #[r0,(.bool false)]) h_1)
 (OP (cN [(.bool false),(.slice none 0 0)] []) fun bR=>
 OH (aW 35 [(.bool false),(.slice none 0 0)] h) fun z4 h_1=>
 OH (aJ 2 h_1 z4 bR) fun _ h_2=>
 OP (fe s0) fun bZ=>
 cB [bZ] h_2 fun L1 xs hx=>
 afD P K s0 x2 z4 L1 xs hx)):=aw (by kernel_rfl)
theorem Cb:P1 P K s0 x2 aX aT bV h=
 (bU aX false
 (OP (bK aT bV (.bool false)) fun bC=>
 B4 P K s0 x2 aX bC h)
 (B4 P K s0 x2 aX undef h)):=aw (by kernel_rfl)
theorem Ca:P0 P K s0 x2 aX aT h=
 (bU aT true
 (OP (fe s0) fun bt=>
 OP (ah .gtr bt (.int .i64 (1))) fun bV=>
 P1 P K s0 x2 aX aT bV h)
 (P1 P K s0 x2 aX aT undef h)):=aw (by kernel_rfl)
theorem G4:afK P K s0 x2 aX h=
 (bU aX false
 (OP (hT s0 (.int .i64 (0))) fun aN=>
 OP (ah .eql aN (.int .u8 (48))) fun aM=>
 P0 P K s0 x2 aX aM h)
 (P0 P K s0 x2 aX undef h)):=aw (by kernel_rfl)
theorem G3:P3 P K s0 x2 ax aP h=
 (OP (bK ax (.bool true) aP) fun a9=>
 afK P K s0 x2 a9 h):=aw (by kernel_rfl)
theorem Qq:afJ P K s0 x2 ax h=
 (bU ax false
 (OP (fe s0) fun ay=>
 OP (ah .gtr ay (.int .i64 (4000))) fun aP=>
 P3 P K s0 x2 ax aP h)
 (P3 P K s0 x2 ax undef h)):=aw (by kernel_rfl)
theorem Qp:P2 P K s0 x2 z4 x5 d6 i7 cg dE L1 L2 h=
 (OP (bK cg (.bool true) dE) fun eL=>
 aL eL
 (OP (cN [(.bool false),(.slice none 0 0)] []) fun dK=>
 OH (aJ 2 h x2 dK) fun _ h_1=>
 OP (af true 2 h_1 x2) fun r0=>
 K (.tuple #[r0,(.bool false)]) h_1)
 (OP (ah .mul (.int .i64 (10)) d6) fun cn=>
 OP (hT s0 i7) fun dL=>
 OP (ah .sub dL (.int .u8 (48))) fun gP=>
 OP (cS .i64 gP) fun eA=>
 OP (ah .add cn eA) fun gF=>
 OP (ah .add i7 (.int .i64 (1))) fun dm=>
 ([s0,x2,z4,x5]:List Value)=[s0,x2,z4,x5]∧L2 [gF,dm] h)):=aw (by kernel_rfl)
theorem Qo:afF P K s0 x2 z4 x5 d6 i7 cg L1 L2 h=
 (bU cg false
 (OP (hT s0 i7) fun er=>
 OP (ah .gtr er (.int .u8 (57))) fun dE=>
 P2 P K s0 x2 z4 x5 d6 i7 cg dE L1 L2 h)
 (P2 P K s0 x2 z4 x5 d6 i7 cg undef L1 L2 h)):=aw (by kernel_rfl)
theorem ax2 (s0 x2 z4 x5:Value) (L1 L2:LQ) (d6 i7:Value) (h:ae):afE P K s0 x2 z4 x5 L1 L2 [d6,i7] h=
 (OP (ah .lss i7 x5) fun di=>
 aL di
 (OP (hT s0 i7) fun ba=>
 OP (ah .lss ba (.int .u8 (48))) fun bW=>
 afF P K s0 x2 z4 x5 d6 i7 bW L1 L2 h)
 (afG P K s0 x2 z4 x5 d6 L1 h)):=aw (by kernel_rfl)
theorem ax3:afG P K s0 x2 z4 x5 d6 L1 h=
 (OP (aE 1 z4) fun iE=>
 OP (af false 1 h iE) fun kH=>
 OH (cT 3 1 [(.int .i64 (0))] h [(0,1,d6)]) fun gQ h_1=>
 OH (dA 3 1 8 h_1 kH gQ) fun fJ h_2=>
 OP (aE 1 z4) fun mQ=>
 OH (aJ 1 h_2 mQ fJ) fun _ h_3=>
 afH P K s0 x2 z4 x5 L1 h_3):=aw (by kernel_rfl)
theorem ax4:afH P K s0 x2 z4 x5 L1 h=
 (OP (ah .sub x5 (.int .i64 (4))) fun dJ=>
 ([s0,x2,z4]:List Value)=[s0,x2,z4]∧L1 [dJ] h):=aw (by kernel_rfl)
theorem ax1 (s0 x2 z4:Value) (L1:LQ) (x5:Value) (h:ae):afD P K s0 x2 z4 L1 [x5] h=
 (OP (ah .gtr x5 (.int .i64 (0))) fun bY=>
 aL bY
 (OP (ah .sub x5 (.int .i64 (4))) fun dc=>
 OP (sG true [(.int .i64 (0)),dc]) fun cQ=>
 cB [(.int .i64 (0)),cQ] h fun L2 xs hx=>
 afE P K s0 x2 z4 x5 L1 L2 xs hx)
 (afI P K x2 z4 h)):=aw (by kernel_rfl)
theorem ax5:afI P K x2 z4 h=
 (OP (af true 2 h z4) fun fD=>
 aj P 100 [fD] h fun eG h_1=>
 OH (aJ 2 h_1 x2 eG) fun _ h_2=>
 OP (af true 2 h_2 x2) fun r0=>
 K (.tuple #[r0,(.bool true)]) h_2):=aw (by kernel_rfl)
def C9:Prop:=
 OH (aW 35 [(.bool false),(.slice none 0 0)] h) fun x2 h_1=>
 OP (fe s0) fun x9=>
 OP (ah .lss x9 (.int .i64 (1))) fun aF=>
 afJ P K s0 x2 aF h_1
theorem e99:ai P Aw (aO [.cell true 2 2,.tmp 3] K) (bk [s0]) h=C9 P K s0 h:=by kernel_rfl
theorem f99 {K:VK} {s0:Value} {h:ae} (H:C9 Tryz.prog K s0 h):aj Tryz.prog 99 [s0] h K:=
 bD k99 (Nat.le_of_ble_eq_true rfl) ((e99 Tryz.prog K s0 h).mpr H)
end
/-! F100: pommel/pommelref01.lean -/
noncomputable section
variable (z0 z1 x2 n3 x9 aX bZ bY : Value) (L1 : LQ) (xs : List Value) (h : ae)
def abo:=bp Tryz.prog 100 [[],[],[1,2],[3],[1,2,3,9],[1,2,3,9,16],[],[],[1,2,3],[],[1,2,3,29],[1,2,29,31],[],[]]
@[irreducible] def Dj:=bw abo
@[irreducible] def Dk:=Dj.r.r.l.l.l
@[irreducible] def Up:=Dj.r.r.r
@[irreducible] def Uq:=Dk.l.l.r.l
@[irreducible] def amh:=Dk.l.r
@[irreducible] def amg:=Dk.r
@[irreducible] def KV:=Up.l
@[irreducible] def amd:=Uq.r.l
@[irreducible] def Uo:=KV.r.l.r.l
@[irreducible] def ame:=KV.r.r
@[irreducible] def amf:=Uo.r.l
theorem atg:abo=some (35,Dj,[.cell true 2 2]):=by kernel_rfl
def Aa (_P:Program) (K:VK):aq:=aO [.cell true 2 2] K
def ai8:aq:=aC (ai P Up (Aa P K)) (Aa P K)
def ai9:aq:=bz 0 (ai8 P K)
def Is:aq:=aC (fun f' aR=>(([1,2]:List Nat).map f':List Value)=[z1,x2]∧L1 (([3]:List Nat).map f') aR) (ai9 P K)
def Sf:aq:=aC (ai P amg (Is P K z1 x2 L1)) (Is P K z1 x2 L1)
def Sg:aq:=aC (ai P amh (Sf P K z1 x2 L1)) (Sf P K z1 x2 L1)
def Se:aq:=aC (ai P ame (Aa P K)) (Aa P K)
def adj:Prop:=au (ai P Dk (Is P K z1 x2 L1)) ([1,2]++[3]) ([z1,x2]++xs) h
def adk:Prop:=au (ai P Uq (Sg P K z1 x2 L1)) [1,2,3,9] [z1,x2,n3,x9] h
def OJ:Prop:=au (ai P amd (Sg P K z1 x2 L1)) [1,2,3,9,16] [z1,x2,n3,x9,aX] h
def OK:Prop:=au (ai P KV (Aa P K)) [1,2,3] [z1,x2,n3] h
def adi:Prop:=au (ai P Uo (Se P K)) [1,2,3,29] [z1,x2,n3,bZ] h
def OM:Prop:=au (ai P amf (Se P K)) [1,2,29,31] [z1,x2,bZ,bY] h
theorem afV:OJ P K z1 x2 n3 x9 aX L1 h=
 (OP (bK x9 aX (.bool false)) fun bH=>
 aL bH
 (OP (ah .sub n3 (.int .i64 (1))) fun aM=>
 ([z1,x2]:List Value)=[z1,x2]∧L1 [aM] h)
 (OK P K z1 x2 n3 h)):=aw (by kernel_rfl)
theorem afY:adk P K z1 x2 n3 x9 L1 h=
 (bU x9 true
 (OP (aE 1 z1) fun aF=>
 OP (af false 1 h aF) fun ax=>
 OP (ah .sub n3 (.int .i64 (1))) fun ay=>
 OP (aS 1 ax ay) fun aP=>
 OP (af false 1 h aP) fun a9=>
 OP (ah .eql a9 (.int .i64 (0))) fun aX=>
 OJ P K z1 x2 n3 x9 aX L1 h)
 (OJ P K z1 x2 n3 x9 undef L1 h)):=aw (by kernel_rfl)
theorem au0 (z1 x2:Value) (L1:LQ) (n3:Value) (h:ae):adj P K z1 x2 L1 [n3] h=
 (OP (ah .gtr n3 (.int .i64 (0))) fun x8=>
 adk P K z1 x2 n3 x8 L1 h):=aw (by kernel_rfl)
theorem afX:OM P K z1 x2 bZ bY h=
 (OP (bK bZ bY (.bool false)) fun cM=>
 OP (aE 0 z1) fun dJ=>
 OH (aJ 1 h dJ cM) fun _ h_1=>
 OP (af true 2 h_1 z1) fun cm=>
 OH (aJ 2 h_1 x2 cm) fun _ h_2=>
 OP (af true 2 h_2 x2) fun r0=>
 K r0 h_2):=aw (by kernel_rfl)
theorem afW:adi P K z1 x2 n3 bZ h=
 (bU bZ true
 (OP (ah .gtr n3 (.int .i64 (0))) fun bY=>
 OM P K z1 x2 bZ bY h)
 (OM P K z1 x2 bZ undef h)):=aw (by kernel_rfl)
theorem auZ:OK P K z1 x2 n3 h=
 (OH (cT 3 0 [(.int .i64 (0))] h []) fun aT h_1=>
 OP (aE 1 z1) fun bf=>
 OP (af false 1 h_1 bf) fun bt=>
 OP (kf 3 1 bt none (some n3)) fun bC=>
 OH (dA 3 1 8 h_1 aT bC) fun bL h_2=>
 OP (aE 1 z1) fun cF=>
 OH (aJ 1 h_2 cF bL) fun _ h_3=>
 OP (aE 0 z1) fun bR=>
 OP (af false 1 h_3 bR) fun bE=>
 adi P K z1 x2 n3 bE h_3):=aw (by kernel_rfl)
def Je:Prop:=
 OH (bc 35 h z0) fun z1 h_1=>
 OH (aW 35 [(.bool false),(.slice none 0 0)] h_1) fun x2 h_2=>
 OP (aE 1 z1) fun x4=>
 OP (af false 1 h_2 x4) fun x5=>
 OP (aY x5) fun x6=>
 cB [x6] h_2 fun L1 xs hx=>
 adj P K z1 x2 L1 xs hx
theorem ap4:ai P Dj (aO [.cell true 2 2] K) (bk [z0]) h=Je P K z0 h:=by kernel_rfl
theorem f100 {K:VK} {z0:Value} {h:ae} (H:Je Tryz.prog K z0 h):aj Tryz.prog 100 [z0] h K:=
 bD atg (Nat.le_of_ble_eq_true rfl) ((ap4 Tryz.prog K z0 h).mpr H)
end
/-! F101: pommel/pommelref01.sizes -/
noncomputable section
variable (a0 b1 i5 : Value) (L1 : LQ) (xs : List Value) (h : ae)
def abp:=bp Tryz.prog 101 [[],[],[],[],[],[],[],[],[0,1],[5],[],[],[],[],[],[],[],[],[],[]]
@[irreducible] def Dl:=bw abp
@[irreducible] def ami:=Dl.r.r.l.r.l.l
@[irreducible] def amj:=Dl.r.r.r
theorem ath:abp=some (41,Dl,[.tmp 4]):=by kernel_rfl
def Sh (_P:Program) (K:VK):aq:=aO [.tmp 4] K
def ajc:aq:=aC (ai P amj (Sh P K)) (Sh P K)
def aja:aq:=bz 0 (ajc P K)
def ajb:aq:=aC (fun f' aR=>(([0,1]:List Nat).map f':List Value)=[a0,b1]∧L1 (([5]:List Nat).map f') aR) (aja P K)
def adl:Prop:=au (ai P ami (ajb P K a0 b1 L1)) ([0,1]++[5]) ([a0,b1]++xs) h
theorem au1 (a0 b1:Value) (L1:LQ) (i5:Value) (h:ae):adl P K a0 b1 L1 [i5] h=
 (OP (ah .geq i5 (.int .i64 (0))) fun aT=>
 aL aT
 (OP (aS 1 a0 i5) fun bL=>
 OP (af false 1 h bL) fun cF=>
 (True)∧
 OP (aS 1 b1 i5) fun bZ=>
 OP (af false 1 h bZ) fun cP=>
 (True)∧
 OP (ah .lss cF cP) fun bY=>
 aL bY
 (K (.int .i64 (-1)) h)
 (OP (aS 1 a0 i5) fun cm=>
 OP (af false 1 h cm) fun dc=>
 (True)∧
 OP (aS 1 b1 i5) fun cG=>
 OP (af false 1 h cG) fun di=>
 (True)∧
 OP (ah .gtr dc di) fun dB=>
 aL dB
 (K (.int .i64 (1)) h)
 (OP (ah .sub i5 (.int .i64 (1))) fun bt=>
 ([a0,b1]:List Value)=[a0,b1]∧L1 [bt] h)))
 (K (.int .i64 (0)) h)):=aw (by kernel_rfl)
def Jf:Prop:=
 OP (aY a0) fun x7=>
 OP (aY b1) fun x9=>
 OP (ah .neq x7 x9) fun aF=>
 aL aF
 (OP (aY a0) fun az=>
 OP (aY b1) fun aP=>
 OP (ah .lss az aP) fun a9=>
 aL a9
 (K (.int .i64 (-1)) h)
 (K (.int .i64 (1)) h))
 (OP (aY a0) fun bH=>
 OP (ah .sub bH (.int .i64 (1))) fun aN=>
 cB [aN] h fun L1 xs hx=>
 adl P K a0 b1 L1 xs hx)
theorem ap5:ai P Dl (aO [.tmp 4] K) (bk [a0,b1]) h=Jf P K a0 b1 h:=by kernel_rfl
theorem f101 {K:VK} {a0 b1:Value} {h:ae} (H:Jf Tryz.prog K a0 b1 h):aj Tryz.prog 101 [a0,b1] h K:=
 bD ath (Nat.le_of_ble_eq_true rfl) ((ap5 Tryz.prog K a0 b1 h).mpr H)
end
/-! F102: pommel/pommelref01.times -/
noncomputable section
variable (a0 d1 : Value) (h : ae)
def abq:=bp Tryz.prog 102 [[],[]]
@[irreducible] def Ur:=bw abq
theorem ati:abq=some (12,Ur,[.tmp 4]):=by kernel_rfl
def Jg:Prop:=
 OP (cN [(.bool false),(.slice none 0 0)] [(1,1,a0)]) fun x6=>
 aj P 55 [d1] h fun x8 h_1=>
 aj P 71 [x6,x8] h_1 fun x9 h_2=>
 aj P 100 [x9] h_2 fun aF h_3=>
 OP (wF false 1 1 aF) fun ax=>
 K ax h_3
theorem ap6:ai P Ur (aO [.tmp 4] K) (bk [a0,d1]) h=Jg P K a0 d1 h:=by kernel_rfl
theorem f102 {K:VK} {a0 d1:Value} {h:ae} (H:Jg Tryz.prog K a0 d1 h):aj Tryz.prog 102 [a0,d1] h K:=
 bD ati (Nat.le_of_ble_eq_true rfl) ((ap6 Tryz.prog K a0 d1 h).mpr H)
end
/-! F103: pommel/pommelref01.less -/
noncomputable section
variable (a0 b1 x5 x6 i7 s8 : Value) (L1 : LQ) (xs : List Value) (h : ae)
def abr:=bp Tryz.prog 103 [[],[],[],[0,1],[5,6,7],[],[],[],[],[0,1,5,7,8],[],[],[0,1,5,6,7,8],[0,1,5,6,7],[5],[]]
@[irreducible] def Dm:=bw abr
@[irreducible] def KW:=Dm.r.r.l.r.l.l
@[irreducible] def Ut:=Dm.r.r.r
@[irreducible] def Us:=KW.r.l.l.r.r.l
@[irreducible] def Uu:=KW.r.r
@[irreducible] def amm:=Ut.l
@[irreducible] def amk:=Us.r.r.l
@[irreducible] def aml:=Uu.l
theorem atj:abr=some (41,Dm,[.tmp 4]):=by kernel_rfl
def It (_P:Program) (K:VK):aq:=aO [.tmp 4] K
def ajd:aq:=aC (ai P Ut (It P K)) (It P K)
def aje:aq:=bz 0 (ajd P K)
def CH:aq:=aC (fun f' aR=>(([0,1]:List Nat).map f':List Value)=[a0,b1]∧L1 (([5,6,7]:List Nat).map f') aR) (aje P K)
def ajf:aq:=aC (ai P Uu (CH P K a0 b1 L1)) (CH P K a0 b1 L1)
def Si:aq:=bz 1 (ajf P K a0 b1 L1)
def ado:Prop:=au (ai P KW (CH P K a0 b1 L1)) ([0,1]++[5,6,7]) ([a0,b1]++xs) h
def Gi:Prop:=au (ai P Us (Si P K a0 b1 L1)) [0,1,5,7,8] [a0,b1,x5,i7,s8] h
def Gj:Prop:=au (ai P amk (Si P K a0 b1 L1)) [0,1,5,6,7,8] [a0,b1,x5,x6,i7,s8] h
def adm:Prop:=au (ai P aml (CH P K a0 b1 L1)) [0,1,5,6,7] [a0,b1,x5,x6,i7] h
def adn:Prop:=au (ai P amm (It P K)) [5] [x5] h
theorem au3:Gj P K a0 b1 x5 x6 i7 s8 L1 h=
 (OH (cT 3 1 [(.int .i64 (0))] h [(0,1,s8)]) fun cG h_1=>
 OH (dA 3 1 8 h_1 x5 cG) fun di h_2=>
 adm P K a0 b1 di x6 i7 L1 h_2):=aw (by kernel_rfl)
theorem au2:Gi P K a0 b1 x5 i7 s8 L1 h=
 (OP (ah .lss s8 (.int .i64 (0))) fun dJ=>
 aL dJ
 (OP (ah .add s8 (.int .i64 (10000))) fun dc=>
 Gj P K a0 b1 x5 (.int .i64 (1)) i7 dc L1 h)
 (Gj P K a0 b1 x5 (.int .i64 (0)) i7 s8 L1 h)):=aw (by kernel_rfl)
theorem au4:adm P K a0 b1 x5 x6 i7 L1 h=
 (OP (ah .add i7 (.int .i64 (1))) fun a9=>
 ([a0,b1]:List Value)=[a0,b1]∧L1 [x5,x6,a9] h):=aw (by kernel_rfl)
theorem au6 (a0 b1:Value) (L1:LQ) (x5 x6 i7:Value) (h:ae):ado P K a0 b1 L1 [x5,x6,i7] h=
 (OP (aY a0) fun az=>
 OP (ah .lss i7 az) fun ay=>
 aL ay
 (OP (aS 1 a0 i7) fun aN=>
 OP (af false 1 h aN) fun aM=>
 OP (ah .sub aM x6) fun bf=>
 OP (aY b1) fun bC=>
 OP (ah .lss i7 bC) fun bL=>
 aL bL
 (OP (aS 1 b1 i7) fun bZ=>
 OP (af false 1 h bZ) fun cP=>
 OP (ah .sub bf cP) fun bY=>
 Gi P K a0 b1 x5 i7 bY L1 h)
 (Gi P K a0 b1 x5 i7 bf L1 h))
 (adn P K x5 h)):=aw (by kernel_rfl)
theorem au5:adn P K x5 h=
 (K x5 h):=aw (by kernel_rfl)
def Jh:Prop:=
 OH (cT 3 0 [(.int .i64 (0))] h []) fun x9 h_1=>
 cB [x9,(.int .i64 (0)),(.int .i64 (0))] h_1 fun L1 xs hx=>
 ado P K a0 b1 L1 xs hx
theorem ap7:ai P Dm (aO [.tmp 4] K) (bk [a0,b1]) h=Jh P K a0 b1 h:=by kernel_rfl
theorem f103 {K:VK} {a0 b1:Value} {h:ae} (H:Jh Tryz.prog K a0 b1 h):aj Tryz.prog 103 [a0,b1] h K:=
 bD atj (Nat.le_of_ble_eq_true rfl) ((ap7 Tryz.prog K a0 b1 h).mpr H)
end
/-! F104: pommel/pommelref01.plus -/
noncomputable section
variable (a0 b1 x5 x6 i7 s8 aP aN aT bt : Value) (L1 : LQ) (xs : List Value) (h : ae)
def abt:=bp Tryz.prog 104 [[],[],[],[0,1],[5,6,7],[0,1,5,6,7,14],[0,1,5,6,7,14,18],[0,1,5,6,7,20],[0,1,5,6,7,20,22],[],[],[],[],[0,1,5,7,8],[],[0,1,5,7,8],[0,1,5,6,7],[5],[]]
@[irreducible] def Dn:=bw abt
@[irreducible] def Dp:=Dn.r.r.l.r.l.l
@[irreducible] def UA:=Dn.r.r.r
@[irreducible] def Uv:=Dp.l.l.r.l
@[irreducible] def amr:=Dp.l.r
@[irreducible] def KX:=Dp.r
@[irreducible] def amq:=UA.l
@[irreducible] def Uw:=Uv.r.l
@[irreducible] def Uz:=KX.l.l.r.r.l
@[irreducible] def Uy:=KX.r
@[irreducible] def Ux:=Uw.r.l
@[irreducible] def amo:=Uz.r.l
@[irreducible] def amp:=Uy.l
@[irreducible] def amn:=Ux.r.l
theorem atk:abt=some (55,Dn,[.tmp 4]):=by kernel_rfl
def Iu (_P:Program) (K:VK):aq:=aO [.tmp 4] K
def ajh:aq:=aC (ai P UA (Iu P K)) (Iu P K)
def aji:aq:=bz 0 (ajh P K)
def xz:aq:=aC (fun f' aR=>(([0,1]:List Nat).map f':List Value)=[a0,b1]∧L1 (([5,6,7]:List Nat).map f') aR) (aji P K)
def Sk:aq:=aC (ai P KX (xz P K a0 b1 L1)) (xz P K a0 b1 L1)
def CI:aq:=aC (ai P amr (Sk P K a0 b1 L1)) (Sk P K a0 b1 L1)
def ajg:aq:=aC (ai P Uy (xz P K a0 b1 L1)) (xz P K a0 b1 L1)
def Sj:aq:=bz 1 (ajg P K a0 b1 L1)
def ads:Prop:=au (ai P Dp (xz P K a0 b1 L1)) ([0,1]++[5,6,7]) ([a0,b1]++xs) h
def adp:Prop:=au (ai P Uv (CI P K a0 b1 L1)) [0,1,5,6,7,14] [a0,b1,x5,x6,i7,aP] h
def ON:Prop:=au (ai P Uw (CI P K a0 b1 L1)) [0,1,5,6,7,14,18] [a0,b1,x5,x6,i7,aP,aN] h
def adq:Prop:=au (ai P Ux (CI P K a0 b1 L1)) [0,1,5,6,7,20] [a0,b1,x5,x6,i7,aT] h
def OO:Prop:=au (ai P amn (CI P K a0 b1 L1)) [0,1,5,6,7,20,22] [a0,b1,x5,x6,i7,aT,bt] h
def zl:Prop:=au (ai P Uz (Sj P K a0 b1 L1)) [0,1,5,7,8] [a0,b1,x5,i7,s8] h
def Gk:Prop:=au (ai P amo (Sj P K a0 b1 L1)) [0,1,5,7,8] [a0,b1,x5,i7,s8] h
def adr:Prop:=au (ai P amp (xz P K a0 b1 L1)) [0,1,5,6,7] [a0,b1,x5,x6,i7] h
def OQ:Prop:=au (ai P amq (Iu P K)) [5] [x5] h
theorem GY:OO P K a0 b1 x5 x6 i7 aT bt L1 h=
 (OP (bK aT (.bool true) bt) fun bV=>
 aL bV
 (OP (aY a0) fun bZ=>
 OP (ah .lss i7 bZ) fun cP=>
 aL cP
 (OP (aS 1 a0 i7) fun cm=>
 OP (af false 1 h cm) fun dc=>
 OP (ah .add x6 dc) fun cQ=>
 zl P K a0 b1 x5 i7 cQ L1 h)
 (zl P K a0 b1 x5 i7 x6 L1 h))
 (OQ P K x5 h)):=aw (by kernel_rfl)
theorem Qc:adq P K a0 b1 x5 x6 i7 aT L1 h=
 (bU aT false
 (OP (ah .gtr x6 (.int .i64 (0))) fun bt=>
 OO P K a0 b1 x5 x6 i7 aT bt L1 h)
 (OO P K a0 b1 x5 x6 i7 aT undef L1 h)):=aw (by kernel_rfl)
theorem Qb:ON P K a0 b1 x5 x6 i7 aP aN L1 h=
 (OP (bK aP (.bool true) aN) fun aM=>
 adq P K a0 b1 x5 x6 i7 aM L1 h):=aw (by kernel_rfl)
theorem afZ:adp P K a0 b1 x5 x6 i7 aP L1 h=
 (bU aP false
 (OP (aY b1) fun bH=>
 OP (ah .lss i7 bH) fun aN=>
 ON P K a0 b1 x5 x6 i7 aP aN L1 h)
 (ON P K a0 b1 x5 x6 i7 aP undef L1 h)):=aw (by kernel_rfl)
theorem au8:Gk P K a0 b1 x5 i7 s8 L1 h=
 (OP (ah .rem s8 (.int .i64 (10000))) fun er=>
 OH (cT 3 1 [(.int .i64 (0))] h [(0,1,er)]) fun dE h_1=>
 OH (dA 3 1 8 h_1 x5 dE) fun eL h_2=>
 OP (ah .quo s8 (.int .i64 (10000))) fun iR=>
 adr P K a0 b1 eL iR i7 L1 h_2):=aw (by kernel_rfl)
theorem au7:zl P K a0 b1 x5 i7 s8 L1 h=
 (OP (aY b1) fun di=>
 OP (ah .lss i7 di) fun dB=>
 aL dB
 (OP (aS 1 b1 i7) fun ba=>
 OP (af false 1 h ba) fun bW=>
 OP (ah .add s8 bW) fun cg=>
 Gk P K a0 b1 x5 i7 cg L1 h)
 (Gk P K a0 b1 x5 i7 s8 L1 h)):=aw (by kernel_rfl)
theorem au9:adr P K a0 b1 x5 x6 i7 L1 h=
 (OP (ah .add i7 (.int .i64 (1))) fun bL=>
 ([a0,b1]:List Value)=[a0,b1]∧L1 [x5,x6,bL] h):=aw (by kernel_rfl)
theorem avb (a0 b1:Value) (L1:LQ) (x5 x6 i7:Value) (h:ae):ads P K a0 b1 L1 [x5,x6,i7] h=
 (OP (aY a0) fun az=>
 OP (ah .lss i7 az) fun ay=>
 adp P K a0 b1 x5 x6 i7 ay L1 h):=aw (by kernel_rfl)
theorem ava:OQ P K x5 h=
 (K x5 h):=aw (by kernel_rfl)
def Ji:Prop:=
 OH (cT 3 0 [(.int .i64 (0))] h []) fun x9 h_1=>
 cB [x9,(.int .i64 (0)),(.int .i64 (0))] h_1 fun L1 xs hx=>
 ads P K a0 b1 L1 xs hx
theorem ap8:ai P Dn (aO [.tmp 4] K) (bk [a0,b1]) h=Ji P K a0 b1 h:=by kernel_rfl
theorem f104 {K:VK} {a0 b1:Value} {h:ae} (H:Ji Tryz.prog K a0 b1 h):aj Tryz.prog 104 [a0,b1] h K:=
 bD atk (Nat.le_of_ble_eq_true rfl) ((ap8 Tryz.prog K a0 b1 h).mpr H)
end
end Go.Proofs.YtelmdbpaoifmoaaGreat

namespace Go.Proofs.YtelmdbpaoifmoaaGreat
open Go.Sim

theorem al7:bj≤10000^250:=by decide+kernel
theorem oH {xs:List Nat} (h:Canon 10000 xs) (hv:val 10000 xs<bj):xs.length≤250:=h.len (by decide) (Nat.lt_of_lt_of_le hv al7)

def mo (b:Nat) (hx:ae) (v:Value) (os:List Nat):Prop:=fN b hx 3 v (os.map fun d:Nat=>I d)

theorem mo.ds {b:Nat} {hx:ae} {v:Value} {os:List Nat} (o:mo b hx v os):DS 3 .i64 hx v os:=by
 rcases o with ⟨h1,h2⟩ | ⟨i,_,h2,h3⟩
 ·exact .inl ⟨h1,by simpa using h2⟩
 ·refine .inr ⟨i,by rw [h2,List.length_map],.inr ⟨[],?_⟩⟩
  simp [aQ,h3]

theorem DS.cells {e:TypeId} {k:IntKind} {h:ae} {v:Value} {xs:List Nat} (p:DS e k h v xs):ju h 1 v=some (xs.map fun d:Nat=>Value.int k (d:Int))∧nu v=some xs.length:=by
 rcases p with ⟨rfl,rfl⟩ | ⟨i,rfl,hc⟩
 ·exact ⟨rfl,rfl⟩
 ·refine ⟨?_,rfl⟩
  unfold ju sl
  simp only
  by_cases hz:xs.length=0
  ·rw [if_pos hz]
   have:xs=[]:=List.length_eq_zero_iff.1 hz
   subst this
   rfl
  ·obtain ⟨r,hc⟩:=hc.resolve_left (by rintro rfl;simp at hz)
   rw [if_neg hz,hc]
   simp only [Option.bind_some]
   rw [if_pos (by simp)]
   have:((xs.map (fun d:Nat=>Value.int k (d:Int))++r).drop 0).take (xs.length*1)=xs.map fun d:Nat=>Value.int k (d:Int):=by
    rw [List.drop_zero,Nat.mul_one,List.take_append_of_le_length (by simp),List.take_of_length_le (by simp)]
   rw [this]

def eI (h:ae) (v:Value) (n:Nat):Prop:=∃xs,DS 3 .i64 h v xs∧Canon 10000 xs∧val 10000 xs=n
theorem eI.mono {h h':ae} {v:Value} {n:Nat} (x:EX h h') (p:eI h v n):eI h' v n:=let ⟨xs,a,b,c⟩:=p;⟨xs,a.mono x,b,c⟩

theorem DS.bG {e e':TypeId} {k:IntKind} {h:ae} {v:Value} {xs:List Nat} {j:Nat} {b:Bool} {r:List Value} (d:DS e k h v xs) (hj:h[j]?=some (.arr e' (.bool b::r))) (o:ak):DS e k (h.set j o) v xs:=by
 rcases d with d | ⟨i,h1,h2⟩
 ·exact .inl d
 ·refine .inr ⟨i,h1,?_⟩
  rcases h2 with h2 | ⟨rest,h2⟩
  ·exact .inl h2
  ·cases xs with
   | nil=>exact .inl rfl
   | cons x xs=>
    right
    refine ⟨rest,?_⟩
    have br:j≠i:=by
     rintro rfl
     unfold aQ at h2
     rw [hj] at h2
     simp at h2
    unfold aQ at h2⊢
    rw [List.getElem?_set_ne br]
    exact h2

theorem eI.bG {h:ae} {v:Value} {n j:Nat} {e:TypeId} {b:Bool} {r:List Value} (p:eI h v n) (hj:h[j]?=some (.arr e (.bool b::r))) (o:ak):eI (h.set j o) v n:=
 let ⟨xs,d,c,hv⟩:=p;⟨xs,d.bG hj o,c,hv⟩

def ZV (h:ae) (val:Value) (z:Int):Prop:=∃v,val=.agg #[B (decide (z<0)),v]∧eI h v z.natAbs
theorem ZV.mono {h h':ae} {v:Value} {z:Int} (x:EX h h') (p:ZV h v z):ZV h' v z:=let ⟨w,a,b⟩:=p;⟨w,a,b.mono x⟩
theorem ZV.bG {h:ae} {v:Value} {z:Int} {j:Nat} {e:TypeId} {b:Bool} {r:List Value} (p:ZV h v z) (hj:h[j]?=some (.arr e (.bool b::r))) (o:ak):ZV (h.set j o) v z:=
 let ⟨w,a,q⟩:=p;⟨w,a,q.bG hj o⟩

theorem KN {h0 hx:ae} {v:Value} {os:List Nat} {d:Nat} {K:Value→ae→Prop} (o:mo h0.length hx v os) (hex:EX h0 hx) (hl:os.length≤10000)
  (hk:∀v' bJ,EX h0 bJ→mo h0.length bJ v' (os++[d])→K v' bJ):OH (cT 3 1 [.int .i64 0] hx [(0,1,I d)]) fun a h2=>OH (dA 3 1 8 h2 v a) K:=by
 refine Ua o hex (by simp;omega) (by simp [maxLen];omega) rfl rfl ?_
 intro v' bJ h1 h2
 exact hk v' bJ h1 (by unfold mo;simpa using h2)

theorem Rn {s:Bool} {v:Value} {xs:List Nat} {h:ae} {K:Value→ae→Prop} (hd:DS 3 .i64 h v xs) (hl:bX 10000 xs) (hs:xs.length≤1000)
  (hk:∀r h',EX h h'→ZV h' r (if s then -(val 10000 xs:Int) else val 10000 xs)→(∃b i n,r=.agg #[B b,sl 3 i 0 n]∧h.length≤i)→K r h'):aj Tryz.prog 100 [.agg #[B s,v]] h K:=by
 refine f100 ?_
 have e1:bc 35 h (.agg #[B s,v])=some (pt h.length 0,h++[.arr 35 [B s,v]]):=rfl
 have e2:∀g:ae,aW 35 [(.bool false),(.slice none 0 0)] g=some (pt g.length 0,g++[.arr 35 [(.bool false),(.slice none 0 0)]]):=fun _=>rfl
 simp only [Je,e1,aD,e2,List.length_append,List.length_cons,List.length_nil]
 have g0:(h++[ak.arr 35 [B s,v]]++[ak.arr 35 [(.bool false),(.slice none 0 0)]])[h.length]?=some (.arr 35 [B s,v]):=by simp
 have g1:(h++[ak.arr 35 [B s,v]]++[ak.arr 35 [(.bool false),(.slice none 0 0)]])[h.length+1]?=some (.arr 35 [(.bool false),(.slice none 0 0)]):=by simp
 have x1:EX h (h++[ak.arr 35 [B s,v]]++[ak.arr 35 [(.bool false),(.slice none 0 0)]]):=(EX.append _ _).push _
 have hlen:(h++[ak.arr 35 [B s,v]]++[ak.arr 35 [(.bool false),(.slice none 0 0)]]).length=h.length+2:=by simp
 generalize h++[ak.arr 35 [B s,v]]++[ak.arr 35 [(.bool false),(.slice none 0 0)]]=h1 at g0 g1 x1 hlen⊢
 have pg:af false 1 h1 (pt h.length 1)=some v:=by simp [af,aQ,g0,ck]
 have iu:=hd.mono x1
 simp only [bN,Nat.zero_add,ag,pg,iu.len]
 refine db (σ:=Nat) (fun n=>[I n]) (fun _=>h1) (fun n=>n≤xs.length∧val 10000 (xs.take n)=val 10000 xs) (fun n=>n) xs.length rfl rfl ⟨Nat.le_refl _,by rw [List.take_length]⟩ ?_
 rintro n ⟨hn,bQ⟩ L hL
 rw [au0]
 -- fS end
 have fin:Canon 10000 (xs.take n)→OK Tryz.prog K (pt h.length 0) (pt (h.length+1) 0) (I n) h1:=by
  intro hc
  rw [auZ]
  have mk:cT 3 0 [.int .i64 0] h1 []=some (sl 3 h1.length 0 0,h1++[.arr 3 []]):=rfl
  have x2:EX h1 (h1++[.arr 3 []]):=EX.append _ _
  obtain ⟨v',p1,p2⟩:=(iu.mono x2).pop hn
  obtain ⟨c1,c2⟩:=p2.cells
  have we:(xs.take n).length=n:=by rw [List.length_take];omega
  simp only [mk,aD,bN,Nat.zero_add,ag,EX.load x2 pg,p1]
  -- copied
  have app:∃w h3,dA 3 1 8 (h1++[.arr 3 []]) (sl 3 h1.length 0 0) v'=some (w,h3)∧EX h1 h3∧DS 3 .i64 h3 w (xs.take n)∧∃i n,w=sl 3 i 0 n∧h.length≤i:=by
   by_cases lR:n=0
   ·subst lR
    refine ⟨sl 3 h1.length 0 0,h1++[.arr 3 []],?_,x2,.inr ⟨h1.length,by simp,.inl (by simp)⟩,h1.length,0,rfl,by omega⟩
    simp [dA,c1,c2,sl]
   ·refine ⟨sl 3 (h1.length+1) 0 n,(h1++[ak.arr 3 []]).set h1.length .dead++[.arr 3 ((xs.take n).map fun d:Nat=>I d)],?_,(x2.set (Nat.le_refl _) _).push _,.inr ⟨h1.length+1,by rw [we],.inr ⟨[],?_⟩⟩,h1.length+1,n,rfl,by omega⟩
    ·have hg:(h1++[ak.arr 3 []])[h1.length]?=some (.arr 3 []):=bO
     simp only [dA,c1,c2,we]
     simp only [sl,hg]
     rw [if_pos ⟨trivial,trivial,by simp,by omega,by unfold maxLen;omega⟩,if_neg lR]
     simp
    ·unfold aQ
     rw [List.getElem?_append_right (by simp)]
     simp
  obtain ⟨w,h3,a1,a2,a3,wi,wn,hwi,hwl⟩:=app
  simp only [a1,aD]
  have Mg:=a2.get g0
  have vF:=a2.get g1
  rw [pq Mg (by simp) a3.one.1 a3.one.2]
  simp only [aD,List.set_cons_succ,List.set_cons_zero]
  have k0:(h3.set h.length (.arr 35 [B s,w]))[h.length]?=some (.arr 35 [B s,w]):=cJ Mg
  have k1:(h3.set h.length (.arr 35 [B s,w]))[h.length+1]?=some (.arr 35 [(.bool false),(.slice none 0 0)]):=by rw [List.getElem?_set_ne (by omega)];exact vF
  have d1:=a3.bG Mg (.arr 35 [B s,w])
  have x3:EX h (h3.set h.length (.arr 35 [B s,w])):=(x1.trans a2).set (Nat.le_refl _) _
  generalize h3.set h.length (.arr 35 [B s,w])=h4 at k0 k1 d1 x3⊢
  have lX:af false 1 h4 (pt h.length 0)=some (B s):=by simp [af,aQ,k0,ck]
  simp only [lX,ag]
  have last:∀c:Bool,c=(s&&decide (0<n))→OH (aJ 1 h4 (pt h.length 0) (B c)) fun _ h_1=>OP (af true 2 h_1 (pt h.length 0)) fun cm=>OH (aJ 2 h_1 (pt (h.length+1) 0) cm) fun _ h_2=>OP (af true 2 h_2 (pt (h.length+1) 0)) fun r0=>K r0 h_2:=by
   rintro c rfl
   rw [pq k0 (by simp) rfl rfl]
   simp only [aD,List.set_cons_zero]
   rw [cf (cJ k0)]
   simp only [ag]
   have m1:(h4.set h.length (.arr 35 [B (s&&decide (0<n)),w]))[h.length+1]?=some (.arr 35 [(.bool false),(.slice none 0 0)]):=by rw [List.getElem?_set_ne (by omega)];exact k1
   rw [dX m1]
   simp only [aD]
   rw [cf (cJ m1)]
   simp only [ag]
   refine hk _ _ ((x3.set (Nat.le_refl _) _).set (by omega) _) ⟨w,?_,(xs.take n),(d1.bG k0 _).bG m1 _,hc,?_⟩ ⟨_,wi,wn,by rw [hwi],hwl⟩
   ·have YJ:(0<n↔0<val 10000 xs):=by
     rw [←bQ]
     constructor
     ·intro h0
      have:=Canon.low (by decide) hc (by intro h;rw [h] at we;simp at we;omega)
      have:0<10000^((xs.take n).length-1):=Nat.pow_pos (by decide)
      omega
     ·intro h0
      by_cases lR:n=0
      ·subst lR;simp [val] at h0
      ·omega
    have:(s&&decide (0<n))=decide ((if s=true then -(val 10000 xs:Int) else (val 10000 xs:Int))<0):=by
     cases s with
     | true=>
      by_cases h0:0<n
      ·have:=YJ.1 h0
       rw [decide_eq_true h0,decide_eq_true (by simp;omega)];rfl
      ·have:¬0<val 10000 xs:=fun h=>h0 (YJ.2 h)
       rw [decide_eq_false h0,decide_eq_false (by simp;omega)];rfl
     | false=>simp
    rw [this]
   ·rw [bQ];cases s <;> simp
  cases s with
  | true=>
   simp only [afW,eO,eT,ag,afX,dh,bN,Nat.add_zero]
   refine last _ ?_
   rw [Bool.true_and]
   by_cases h0:0<n
   ·simp [h0]
   ·simp [h0]
  | false=>
   simp only [afW,ie,afX,cV,ag,bN,Nat.add_zero]
   exact last _ rfl
 simp only [eT,ag]
 by_cases lR:n=0
 ·subst lR
  rw [decide_eq_false (show ¬(0:Int)<((0:Nat):Int) by omega)]
  simp only [afY,ie,afV,cV,ag,c7]
  exact fin (by simpa using Canon.nil 10000)
 ·rw [decide_eq_true (show (0:Int)<(n:Int) by omega)]
  have e3:IntKind.wrap .i64 ((n:Int)-1)=((n-1:Nat):Int):=by rw [wrap64 (by omega) (by omega)];omega
  obtain ⟨i,p1,p2⟩:=iu.get (j:=n-1) (by omega)
  simp only [afY,eO,bN,Nat.zero_add,ag,pg,eW,e3,p1,p2,fW,afV,dh,bS]
  refine ⟨fun hz=>?_,fun hz=>?_⟩
  ·simp only [true_and]
   refine hL (n-1) ⟨by omega,?_⟩ (by omega)
   have:=gO 10000 xs (i:=n-1) (by omega)
   rw [show n-1+1=n by omega] at this
   have pa:xs[n-1]'(by omega)=0:=by omega
   rw [pa,Nat.mul_zero] at this
   omega
  ·refine fin (Et (hl.mono fun y hy=>List.mem_of_mem_take hy) ?_)
   intro h1 h2
   rw [List.getElem_take] at h2
   simp only [List.length_take] at h2
   apply hz
   have hm:min n xs.length-1=n-1:=by omega
   simp only [hm] at h2
   omega

theorem uK {s:Bool} {v:Value} {xs:List Nat} {h:ae} {K:Value→ae→Prop} (hd:DS 3 .i64 h v xs) (hl:bX 10000 xs) (hs:xs.length≤1000)
  (hk:∀r h',EX h h'→ZV h' r (if s then -(val 10000 xs:Int) else val 10000 xs)→K r h'):aj Tryz.prog 100 [.agg #[B s,v]] h K:=
 Rn hd hl hs fun r h' x z _=>hk r h' x z

end Go.Proofs.YtelmdbpaoifmoaaGreat


namespace Go.Proofs.YtelmdbpaoifmoaaGreat
open Go.Sim

theorem zx {a b:Nat} (hb:b≠0) (ha:a<9223372036854775808):ah .quo (.int .i64 (a:Int)) (.int .i64 (b:Int))=some (I ((a / b:Nat):Int)):=by
 have h:¬((b:Int)=0):=by omega
 have h2:a / b≤a:=Nat.div_le_self _ _
 simp only [ah,fY,if_true,if_neg h]
 have e:(a:Int).tdiv (b:Int)=((a / b:Nat):Int):=rfl
 rw [e]
 generalize a / b=q at*
 rw [wrap64 (by omega) (by omega)]

theorem Oh (h:ae):cT 3 0 [.int .i64 0] h []=some (sl 3 h.length 0 0,h++[.arr 3 []]):=rfl

theorem adh (h:ae):mo h.length (h++[.arr 3 []]) (sl 3 h.length 0 0) []:=.inr ⟨h.length,Nat.le_refl _,rfl,by simp⟩

theorem aia {va vb:Value} {xs ys:List Nat} {h:ae} {K:Value→ae→Prop} (hx:DS 3 .i64 h va xs) (hy:DS 3 .i64 h vb ys) (lx:bX 10000 xs) (ly:bX 10000 ys) (sx:xs.length≤400) (sy:ys.length≤400)
  (hk:∀v h' os,EX h h'→DS 3 .i64 h' v os→bX 10000 os→os.length≤500→val 10000 os=val 10000 xs+val 10000 ys→K v h'):aj Tryz.prog 104 [va,vb] h K:=by
 refine f104 ?_
 simp only [Ji,Oh,aD]
 refine db (σ:=Value×Nat×List Nat×ae) (fun p=>[p.1,I p.2.1,I p.2.2.1.length]) (fun p=>p.2.2.2)
  (fun p=>EX h p.2.2.2∧mo h.length p.2.2.2 p.1 p.2.2.1∧p.2.1≤1∧bX 10000 p.2.2.1∧p.2.2.1.length≤max xs.length ys.length+1∧(p.2.2.1.length=max xs.length ys.length+1→p.2.1=0)∧val 10000 p.2.2.1+10000^p.2.2.1.length*p.2.1=val 10000 (xs.take p.2.2.1.length)+val 10000 (ys.take p.2.2.1.length)) (fun p=>max xs.length ys.length+1-p.2.2.1.length)
  (sl 3 h.length 0 0,0,[],h++[.arr 3 []]) rfl rfl ⟨EX.append _ _,adh h,by simp,fun x hx=>by simp at hx,by simp,by simp,by simp [val]⟩ ?_
 rintro ⟨v,c,os,bJ⟩ ⟨hex,gM,hc,dV,hlen,Ff,bQ⟩ L hL
 simp only at hex gM hc dV hlen Ff bQ hL⊢
 rw [avb]
 have dx:=hx.mono hex
 have dy:=hy.mono hex
 -- one digit
 have AG:∀(x y:Nat),x<10000→y<10000→(os.length<max xs.length ys.length∨0<c)→val 10000 (xs.take (os.length+1))=val 10000 (xs.take os.length)+10000^os.length*x→val 10000 (ys.take (os.length+1))=val 10000 (ys.take os.length)+10000^os.length*y→
   (x=0∧y=0∨os.length<max xs.length ys.length)→Gk Tryz.prog K va vb v (I os.length) (I ((c+x+y:Nat):Int)) L bJ:=by
  intro x y fQ iY oU e1 e2 Fm
  rw [au8]
  rw [show (.int .i64 10000:Value)=.int .i64 ((10000:Nat):Int) from rfl,xd _ _ _ (by decide)]
  simp only [ag]
  refine KN gM hex (by omega) ?_
  intro v' h2 x2 o2
  rw [zx (by decide) (by omega)]
  simp only [ag,au9,cC,inc os.length (by omega),true_and]
  have aAH:os.length<max xs.length ys.length+1:=by
   rcases oU with h | h
   ·omega
   ·apply Classical.byContradiction
    intro vM
    have:=Ff (by omega)
    omega
  have hm:(c+x+y)%10000<10000:=Nat.mod_lt _ (by decide)
  have jO:=Nat.mod_add_div (c+x+y) 10000
  have el:(os++[(c+x+y)%10000]).length=os.length+1:=by simp
  have:=hL (v',(c+x+y) / 10000,os++[(c+x+y)%10000],h2) ⟨x2,o2,by show (c+x+y) / 10000≤1;omega,dV.append (fun z hz=>by simp at hz;omega),by rw [el];omega,?_,?_⟩ (by rw [el];omega)
  ·rw [el] at this
   exact this
  ·intro h9
   rw [el] at h9
   show (c+x+y) / 10000=0
   rcases Fm with ⟨rfl,rfl⟩ | h
   ·omega
   ·omega
  ·rw [el]
   show val 10000 (os++[(c+x+y)%10000])+10000^(os.length+1)*((c+x+y) / 10000)=_
   rw [lj,e1,e2,Nat.pow_succ]
   simp only [val,Nat.mul_zero,Nat.add_zero]
   generalize (c+x+y) / 10000=q at*
   generalize (c+x+y)%10000=m at*
   generalize 10000^os.length=P at*
   generalize val 10000 os=V at*
   clear hL dx dy hx hy gM
   grind
 have next:(os.length<max xs.length ys.length∨0<c)→OP (aY va) fun bZ=>OP (ah .lss (I os.length) bZ) fun cP=>aL cP
   (OP (aS 1 va (I os.length)) fun cm=>OP (af false 1 bJ cm) fun dc=>OP (ah .add (I c) dc) fun cQ=>zl Tryz.prog K va vb v (I os.length) cQ L bJ)
   (zl Tryz.prog K va vb v (I os.length) (I c) L bJ):=by
  intro oU
  have second:∀x:Nat,x<10000→val 10000 (xs.take (os.length+1))=val 10000 (xs.take os.length)+10000^os.length*x→(x=0∨os.length<xs.length)→zl Tryz.prog K va vb v (I os.length) (I ((c+x:Nat):Int)) L bJ:=by
   intro x fQ e1 uf
   rw [au7]
   simp only [dy.len,ag,cK,bS]
   refine ⟨fun aB=>?_,fun cH=>?_⟩
   ·obtain ⟨i,g1,g2⟩:=dy.get (j:=os.length) (by omega)
    have iY:=ly _ (List.getElem_mem (show os.length<ys.length by omega))
    have e2:=gO 10000 ys (i:=os.length) (by omega)
    generalize ys[os.length]'(by omega)=y at g2 iY e2
    have ea:IntKind.wrap .i64 (((c+x:Nat):Int)+(y:Int))=((c+x+y:Nat):Int):=by rw [wrap64 (by omega) (by omega)];omega
    simp only [g1,ag,g2,cC,ea]
    exact AG x y fQ iY oU e1 e2 (.inr (by omega))
   ·have:=AG x 0 fQ (by decide) oU e1 (by rw [List.take_of_length_le (by omega),List.take_of_length_le (by omega)];simp) (by rcases uf with h | h;exact .inl ⟨h,rfl⟩;exact .inr (by omega))
    simpa using this
  simp only [dx.len,ag,cK,bS]
  refine ⟨fun aB=>?_,fun cH=>?_⟩
  ·obtain ⟨i,g1,g2⟩:=dx.get (j:=os.length) (by omega)
   have fQ:=lx _ (List.getElem_mem (show os.length<xs.length by omega))
   have e1:=gO 10000 xs (i:=os.length) (by omega)
   generalize xs[os.length]'(by omega)=x at g2 fQ e1
   have ea:IntKind.wrap .i64 ((c:Int)+(x:Int))=((c+x:Nat):Int):=by rw [wrap64 (by omega) (by omega)];omega
   simp only [g1,ag,g2,cC,ea]
   exact second x fQ e1 (.inr (by omega))
  ·have:=second 0 (by decide) (by rw [List.take_of_length_le (by omega),List.take_of_length_le (by omega)];simp) (.inl rfl)
   simpa using this
 have done:¬(os.length<max xs.length ys.length∨0<c)→OQ Tryz.prog K v bJ:=by
  intro cU
  rw [ava]
  refine hk v bJ os hex gM.ds dV (by omega) ?_
  have pT:c=0:=by omega
  rw [pT,Nat.mul_zero,Nat.add_zero,List.take_of_length_le (by omega),List.take_of_length_le (by omega)] at bQ
  exact bQ
 simp only [dx.len,ag,cK]
 by_cases h1:os.length<xs.length
 ·rw [decide_eq_true (show (os.length:Int)<(xs.length:Int) by omega)]
  simp only [afZ,eY,Qb,dh,ag,Qc,GY,dd]
  exact next (.inl (by omega))
 ·rw [decide_eq_false (show ¬(os.length:Int)<(xs.length:Int) by omega)]
  simp only [afZ,dF,dy.len,ag,cK]
  by_cases h2:os.length<ys.length
  ·rw [decide_eq_true (show (os.length:Int)<(ys.length:Int) by omega)]
   simp only [Qb,cV,ag,Qc,eY,GY,dh,dd]
   exact next (.inl (by omega))
  ·rw [decide_eq_false (show ¬(os.length:Int)<(ys.length:Int) by omega)]
   simp only [Qb,cV,ag,Qc,dF,eT]
   by_cases h3:0<c
   ·rw [decide_eq_true (show (0:Int)<(c:Int) by omega)]
    simp only [GY,cV,ag,dd]
    exact next (.inr h3)
   ·rw [decide_eq_false (show ¬(0:Int)<(c:Int) by omega)]
    simp only [GY,cV,ag,c7]
    exact done (by omega)

theorem H6 {va vb:Value} {xs ys:List Nat} {h:ae} {K:Value→ae→Prop} (hx:DS 3 .i64 h va xs) (hy:DS 3 .i64 h vb ys) (lx:bX 10000 xs) (ly:bX 10000 ys) (sx:xs.length≤400) (hyx:ys.length≤xs.length) (hle:val 10000 ys≤val 10000 xs)
  (hk:∀v h' os,EX h h'→DS 3 .i64 h' v os→bX 10000 os→os.length≤500→val 10000 os=val 10000 xs-val 10000 ys→K v h'):aj Tryz.prog 103 [va,vb] h K:=by
 refine f103 ?_
 simp only [Jh,Oh,aD]
 refine db (σ:=Value×Nat×List Nat×ae) (fun p=>[p.1,I p.2.1,I p.2.2.1.length]) (fun p=>p.2.2.2)
  (fun p=>EX h p.2.2.2∧mo h.length p.2.2.2 p.1 p.2.2.1∧p.2.1≤1∧bX 10000 p.2.2.1∧p.2.2.1.length≤xs.length∧val 10000 p.2.2.1+val 10000 (ys.take p.2.2.1.length)=val 10000 (xs.take p.2.2.1.length)+10000^p.2.2.1.length*p.2.1) (fun p=>xs.length-p.2.2.1.length)
  (sl 3 h.length 0 0,0,[],h++[.arr 3 []]) rfl rfl ⟨EX.append _ _,adh h,by simp,fun x hx=>by simp at hx,by simp,by simp [val]⟩ ?_
 rintro ⟨v,c,os,bJ⟩ ⟨hex,gM,hc,dV,hlen,bQ⟩ L hL
 simp only at hex gM hc dV hlen bQ hL⊢
 rw [au6]
 have dx:=hx.mono hex
 have dy:=hy.mono hex
 simp only [dx.len,ag,cK,bS]
 refine ⟨fun aB=>?_,fun cH=>?_⟩
 ·have bF:os.length<xs.length:=by omega
  obtain ⟨i,g1,g2⟩:=dx.get bF
  have fQ:=lx _ (List.getElem_mem bF)
  have e1:=gO 10000 xs bF
  generalize xs[os.length]=x at g2 fQ e1
  have AG:∀y:Nat,y<10000→val 10000 (ys.take (os.length+1))=val 10000 (ys.take os.length)+10000^os.length*y→Gi Tryz.prog K va vb v (I os.length) (I ((x:Int)-c-y)) L bJ:=by
   intro y iY e2
   rw [au2]
   have go:∀d b:Nat,d<10000→b≤1→d+y+c=x+10000*b→Gj Tryz.prog K va vb v (I b) (I os.length) (I d) L bJ:=by
    intro d b hd hb he
    rw [au3]
    refine KN gM hex (by omega) ?_
    intro v' h2 x2 o2
    simp only [au4,cC,ag,inc os.length (by omega),true_and]
    have el:(os++[d]).length=os.length+1:=by simp
    have:=hL (v',b,os++[d],h2) ⟨x2,o2,hb,dV.append (fun z hz=>by simp at hz;omega),by rw [el];omega,?_⟩ (by rw [el];omega)
    ·rw [el] at this
     exact this
    ·rw [el]
     show val 10000 (os++[d])+_=_
     rw [lj,e1,e2,Nat.pow_succ]
     simp only [val,Nat.mul_zero,Nat.add_zero]
     generalize 10000^os.length=P at*
     generalize val 10000 os=V at*
     clear hL dx dy hx hy gM
     grind
   simp only [cK,ag,bS]
   refine ⟨fun jk=>?_,fun gU=>?_⟩
   ·obtain ⟨d,hd⟩:∃d:Nat,(x:Int)-c-y+10000=d:=⟨((x:Int)-c-y+10000).toNat,by omega⟩
    simp only [cC,ag,hd]
    rw [wrap64 (by omega) (by omega)]
    exact go d 1 (by omega) (by omega) (by omega)
   ·obtain ⟨d,hd⟩:∃d:Nat,(x:Int)-c-y=d:=⟨((x:Int)-c-y).toNat,by omega⟩
    rw [hd]
    exact go d 0 (by omega) (by omega) (by omega)
  simp only [g1,ag,g2,eW,dy.len,cK,bS]
  rw [wrap64 (n:=(x:Int)-c) (by omega) (by omega)]
  refine ⟨fun Zr=>?_,fun Zh=>?_⟩
  ·obtain ⟨i',k1,k2⟩:=dy.get (j:=os.length) (by omega)
   have iY:=ly _ (List.getElem_mem (show os.length<ys.length by omega))
   have e2:=gO 10000 ys (i:=os.length) (by omega)
   generalize ys[os.length]'(by omega)=y at k2 iY e2
   simp only [k1,ag,k2,eW]
   rw [wrap64 (by omega) (by omega)]
   exact AG y iY e2
  ·have:=AG 0 (by decide) (by rw [List.take_of_length_le (by omega),List.take_of_length_le (by omega)];simp)
   simpa using this
 ·have hl:os.length=xs.length:=by omega
  rw [au5]
  rw [hl,List.take_length,List.take_of_length_le hyx] at bQ
  have aB:=kF dV
  rw [hl] at aB
  have pT:c=0:=by
   apply Classical.byContradiction
   intro br
   have:c=1:=by omega
   subst this
   omega
  subst pT
  exact hk v bJ os hex gM.ds dV (by omega) (by omega)

theorem Ro {va vb:Value} {a b:Nat} {h:ae} {K:Value→ae→Prop} (ha:eI h va a) (hb:eI h vb b) (la:a<bj) (lb:b<bj) (hk:K (I (kE a b)) h):aj Tryz.prog 101 [va,vb] h K:=by
 obtain ⟨xs,hx,cx,rfl⟩:=ha
 obtain ⟨ys,hy,cy,rfl⟩:=hb
 have l1:=oH cx la
 have l2:=oH cy lb
 have less:val 10000 xs<val 10000 ys→K (.int .i64 (-1)) h:=fun h1=>by unfold kE at hk;rw [if_pos h1] at hk;exact hk
 have more:val 10000 ys<val 10000 xs→K (.int .i64 1) h:=fun h1=>by unfold kE at hk;rw [if_neg (by omega),if_pos h1] at hk;exact hk
 have same:val 10000 xs=val 10000 ys→K (.int .i64 0) h:=fun h1=>by unfold kE at hk;rw [if_neg (by omega),if_neg (by omega)] at hk;exact hk
 refine f101 ?_
 simp only [Jf,hx.len,hy.len,ag,nI,CF,cK,bS]
 refine ⟨fun br=>⟨fun aB=>less (Canon.wU (by decide) cx cy (by omega)),fun cH=>more (Canon.wU (by decide) cy cx (by omega))⟩,fun he=>?_⟩
 have fc:xs.length=ys.length:=by omega
 simp only [eW,ag]
 have e1:IntKind.wrap .i64 ((xs.length:Int)-1)=(xs.length:Int)-1:=by rw [wrap64 (by omega) (by omega)]
 rw [e1]
 refine db (σ:=Nat) (fun i=>[I ((i:Int)-1)]) (fun _=>h) (fun i=>i≤xs.length∧xs.drop i=ys.drop i) (fun i=>i) xs.length rfl rfl ⟨Nat.le_refl _,by rw [List.drop_length,fc,List.drop_length]⟩ ?_
 rintro i ⟨hi,pV⟩ L hL
 rw [au1]
 simp only [j5,ag,bS]
 refine ⟨fun cH=>?_,fun aB=>?_⟩
 ·obtain ⟨j,rfl⟩:∃j,i=j+1:=⟨i-1,by omega⟩
  have ej:(((j+1:Nat):Int)-1)=(j:Int):=by omega
  rw [ej]
  obtain ⟨ia,a1,a2⟩:=hx.get (j:=j) (by omega)
  obtain ⟨ib,b1,b2⟩:=hy.get (j:=j) (by omega)
  simp only [a1,a2,b1,b2,ag,true_and,cK,bS]
  refine ⟨fun aB=>less (HJ cx.1 cy.1 fc (i:=j) (by omega) pV (by omega)),fun cH=>?_⟩
  simp only [eT,ag,bS]
  refine ⟨fun pX=>more (HJ cy.1 cx.1 fc.symm (i:=j) (by omega) pV.symm (by omega)),fun hle=>?_⟩
  simp only [eW,ag]
  rw [wrap64 (by omega) (by omega)]
  refine hL j ⟨by omega,?_⟩ (by omega)
  rw [List.drop_eq_getElem_cons (by omega),List.drop_eq_getElem_cons (show j<ys.length by omega),pV]
  congr 1
  omega
 ·have:i=0:=by omega
  subst this
  rw [List.drop_zero,List.drop_zero] at pV
  exact same (by rw [pV])

end Go.Proofs.YtelmdbpaoifmoaaGreat


namespace Go.Proofs.YtelmdbpaoifmoaaGreat
open Go.Sim

theorem vB {h':ae} {j:Nat} {b0 v0 b v:Value} {K:Value→ae→Prop} (hg:h'[j]?=some (.arr 35 [b0,v0])) (hk:K (.agg #[b,v]) (h'.set j (.arr 35 [b,v]))):
  OH (aJ 2 h' (pt j 0) (.agg #[b,v])) fun _ h6=>OP (af true 2 h6 (pt j 0)) fun r0=>K r0 h6:=by
 rw [dX hg]
 simp only [aD]
 rw [cf (cJ hg)]
 exact ag.2 hk

structure ah8 (h:ae) (va vb:Value) (sa sb:Bool) (h3:ae):Prop where
 ex:EX h h3
 a0:af false 1 h3 (pt h.length 0)=some (B sa)
 a1:af false 1 h3 (pt h.length 1)=some va
 b0:af false 1 h3 (pt (h.length+1) 0)=some (B sb)
 b1:af false 1 h3 (pt (h.length+1) 1)=some vb
 a2:af true 2 h3 (pt h.length 0)=some (.agg #[B sa,va])
 b2:af true 2 h3 (pt (h.length+1) 0)=some (.agg #[B sb,vb])
 out:h3[h.length+2]?=some (.arr 35 [.bool false,.slice none 0 0])

theorem Df {h:ae} {va vb:Value} {sa sb:Bool} {K:Value→Value→Value→ae→Prop} (hk:∀h3,ah8 h va vb sa sb h3→K (pt h.length 0) (pt (h.length+1) 0) (pt (h.length+2) 0) h3):
  OH (bc 35 h (.agg #[B sa,va])) fun a2 h_1=>OH (bc 35 h_1 (.agg #[B sb,vb])) fun b3 h_2=>OH (aW 35 [(.bool false),(.slice none 0 0)] h_2) fun x4 h_3=>K a2 b3 x4 h_3:=by
 have e1:∀(g:ae) (s:Bool) (v:Value),bc 35 g (.agg #[B s,v])=some (pt g.length 0,g++[.arr 35 [B s,v]]):=fun _ _ _=>rfl
 have e2:∀(g:ae),aW 35 [(.bool false),(.slice none 0 0)] g=some (pt g.length 0,g++[.arr 35 [(.bool false),(.slice none 0 0)]]):=fun _=>rfl
 simp only [e1,e2,aD,List.length_append,List.length_cons,List.length_nil]
 have g0:(h++[ak.arr 35 [B sa,va]]++[ak.arr 35 [B sb,vb]]++[ak.arr 35 [(.bool false),(.slice none 0 0)]])[h.length]?=some (.arr 35 [B sa,va]):=by simp
 have g1:(h++[ak.arr 35 [B sa,va]]++[ak.arr 35 [B sb,vb]]++[ak.arr 35 [(.bool false),(.slice none 0 0)]])[h.length+1]?=some (.arr 35 [B sb,vb]):=by simp
 have g2:(h++[ak.arr 35 [B sa,va]]++[ak.arr 35 [B sb,vb]]++[ak.arr 35 [(.bool false),(.slice none 0 0)]])[h.length+2]?=some (.arr 35 [(.bool false),(.slice none 0 0)]):=by simp
 refine hk _ ⟨((EX.append _ _).push _).push _,?_,?_,?_,?_,cf g0,cf g1,g2⟩
 ·simp [af,aQ,ck]
 ·simp [af,aQ,ck]
 ·simp [af,aQ,ck]
 ·simp [af,aQ,ck]

theorem KU {b:Bool} {e:TypeId} {k:IntKind} {h:ae} {v:Value} {xs:List Nat} (d:DS e k h v xs):cN [(.bool false),(.slice none 0 0)] [(0,1,B b),(1,1,v)]=some (.agg #[B b,v]):=by
 rcases d with ⟨rfl,_⟩ | ⟨i,rfl,_⟩ <;> rfl

theorem RW {va vb:Value} {a b:Int} {h:ae} {K:Value→ae→Prop} (ha:ZV h va a) (hb:ZV h vb b) (la:a.natAbs<bj) (lb:b.natAbs<bj) (hk:∀r h',EX h h'→ZV h' r (a+b)→K r h'):aj Tryz.prog 70 [va,vb] h K:=by
 obtain ⟨v,rfl,hv⟩:=ha
 obtain ⟨w,rfl,hw⟩:=hb
 refine f70 ?_
 unfold Kk
 refine Df ?_
 intro h3 x
 have sD:=hv.mono x.ex
 have o9:=hw.mono x.ex
 obtain ⟨xs,dx,cx,ex⟩:=id sD
 obtain ⟨ys,dy,cy,ey⟩:=id o9
 have l1:=oH cx (by rw [ex];exact la)
 have l2:=oH cy (by rw [ey];exact lb)
 simp only [bN,Nat.add_zero,Nat.zero_add,ag,x.a0,x.a1,x.b0,x.b1,AJ,Bool.false_eq_true,if_false]
 -- fS result,put in its place
 have put:∀(s:Bool) (u:Value) (os:List Nat) (h4:ae) (z:Int),EX h3 h4→DS 3 .i64 h4 u os→bX 10000 os→os.length≤500→(if s then -(val 10000 os:Int) else (val 10000 os:Int))=z→z=a+b→
   OP (cN [(.bool false),(.slice none 0 0)] [(0,1,B s),(1,1,u)]) fun bH=>aj Tryz.prog 100 [bH] h4 fun aN h_5=>OH (aJ 2 h_5 (pt (h.length+2) 0) aN) fun _ h_6=>OP (af true 2 h_6 (pt (h.length+2) 0)) fun r0=>K r0 h_6:=by
  intro s u os h4 z x4 d4 l4 s4 hz lU
  simp only [KU d4,ag]
  refine uK d4 l4 (by omega) ?_
  intro r h5 x5 zr
  rw [hz,lU] at zr
  obtain ⟨q,rfl,hq⟩:=id zr
  have g':=(x4.trans x5).get x.out
  exact vB g' (hk _ _ (((x.ex.trans x4).trans x5).set (by omega) _) (zr.bG g' _))
 refine xy (fun he=>?_) fun br=>?_
 ·have hs:decide (a<0)=decide (b<0):=by simpa using he
  have df:(a<0↔b<0):=by simpa using hs
  simp only [true_and]
  refine aia dx dy cx.1 cy.1 (by omega) (by omega) ?_
  intro u h4 os x4 d4 l4 s4 v4
  refine ⟨⟨EX.load x4 x.a0,trivial⟩,?_⟩
  have:=put (decide (a<0)) u os h4 _ x4 d4 l4 s4 rfl (by
   rw [v4,ex,ey]
   by_cases h0:a<0
   ·rw [decide_eq_true h0];simp;omega
   ·rw [decide_eq_false h0];simp;omega)
  simpa using this
 ·have hs:decide (a<0)≠decide (b<0):=by simpa using br
  have df:¬(a<0↔b<0):=fun h=>hs (decide_eq_decide.2 h)
  refine Ro sD o9 la lb ?_
  simp only [j5,ag,bS]
  have ll:∀{p q:List Nat},Canon 10000 p→Canon 10000 q→val 10000 q≤val 10000 p→q.length≤p.length:=by
   intro p q cp cq Fx
   apply Classical.byContradiction
   intro hc
   have:=Canon.wU (by decide) cp cq (by omega)
   omega
  refine ⟨fun cH=>?_,fun aB=>?_⟩
  ·have hle:b.natAbs≤a.natAbs:=by
    apply Classical.byContradiction
    intro hc
    unfold kE at cH
    rw [if_pos (by omega)] at cH
    omega
   simp only [x.a0,x.a1,x.b1,ag,true_and]
   refine H6 dx dy cx.1 cy.1 (by omega) (ll cx cy (by omega)) (by omega) ?_
   intro u h4 os x4 d4 l4 s4 v4
   refine ⟨⟨EX.load x4 x.a0,trivial⟩,?_⟩
   have:=put (decide (a<0)) u os h4 _ x4 d4 l4 s4 rfl (by
    rw [v4,ex,ey]
    by_cases h0:a<0
    ·rw [decide_eq_true h0];simp;omega
    ·rw [decide_eq_false h0];simp;omega)
   simpa using this
  ·have hle:a.natAbs≤b.natAbs:=by
    apply Classical.byContradiction
    intro hc
    unfold kE at aB
    rw [if_neg (by omega),if_pos (by omega)] at aB
    omega
   simp only [x.b0,x.a1,x.b1,ag,true_and]
   refine H6 dy dx cy.1 cx.1 (by omega) (ll cy cx (by omega)) (by omega) ?_
   intro u h4 os x4 d4 l4 s4 v4
   refine ⟨⟨EX.load x4 x.b0,trivial⟩,?_⟩
   have:=put (decide (b<0)) u os h4 _ x4 d4 l4 s4 rfl (by
    rw [v4,ex,ey]
    by_cases h0:b<0
    ·rw [decide_eq_true h0];simp;omega
    ·rw [decide_eq_false h0];simp;omega)
   simpa using this

theorem eI.nr {h:ae} {v:Value} {n:Nat} (p:eI h v n):∃l:Nat,aY v=some (I l)∧(0<l↔0<n):=by
 obtain ⟨xs,d,c,rfl⟩:=p
 refine ⟨xs.length,d.len,?_⟩
 constructor
 ·intro h0
  have:=Canon.low (by decide) c (by rintro rfl;simp at h0)
  have:0<10000^(xs.length-1):=Nat.pow_pos (by decide)
  omega
 ·intro h0
  cases xs with
  | nil=>simp [val] at h0
  | cons x xs=>simp

theorem R6 {va:Value} {a:Int} {h:ae} {K:Value→ae→Prop} (ha:ZV h va a) (hk:∀r h',EX h h'→ZV h' r (-a)→K r h'):aj Tryz.prog 95 [va] h K:=by
 obtain ⟨v,rfl,hv⟩:=ha
 refine f95 ?_
 have e1:bc 35 h (.agg #[B (decide (a<0)),v])=some (pt h.length 0,h++[.arr 35 [B (decide (a<0)),v]]):=rfl
 have e2:∀(g:ae),aW 35 [(.bool false),(.slice none 0 0)] g=some (pt g.length 0,g++[.arr 35 [(.bool false),(.slice none 0 0)]]):=fun _=>rfl
 simp only [KE,e1,e2,aD,List.length_append,List.length_cons,List.length_nil]
 have g0:(h++[ak.arr 35 [B (decide (a<0)),v]]++[ak.arr 35 [(.bool false),(.slice none 0 0)]])[h.length]?=some (.arr 35 [B (decide (a<0)),v]):=by simp
 have g1:(h++[ak.arr 35 [B (decide (a<0)),v]]++[ak.arr 35 [(.bool false),(.slice none 0 0)]])[h.length+1]?=some (.arr 35 [(.bool false),(.slice none 0 0)]):=by simp
 have x1:EX h (h++[ak.arr 35 [B (decide (a<0)),v]]++[ak.arr 35 [(.bool false),(.slice none 0 0)]]):=(EX.append _ _).push _
 generalize h++[ak.arr 35 [B (decide (a<0)),v]]++[ak.arr 35 [(.bool false),(.slice none 0 0)]]=h1 at g0 g1 x1⊢
 have l0:af false 1 h1 (pt h.length 0)=some (B (decide (a<0))):=by simp [af,aQ,g0,ck]
 have l1:af false 1 h1 (pt h.length 1)=some v:=by simp [af,aQ,g0,ck]
 have kW:=hv.mono x1
 obtain ⟨l,n1,n2⟩:=kW.nr
 have last:∀c:Bool,c=decide (-a<0)→OH (aJ 1 h1 (pt h.length 0) (B c)) fun _ h_1=>OP (af true 2 h_1 (pt h.length 0)) fun ay=>OH (aJ 2 h_1 (pt (h.length+1) 0) ay) fun _ h_2=>OP (af true 2 h_2 (pt (h.length+1) 0)) fun r0=>K r0 h_2:=by
  rintro c rfl
  rw [pq g0 (by simp) rfl rfl]
  simp only [aD,List.set_cons_zero]
  rw [cf (cJ g0)]
  simp only [ag]
  have m1:(h1.set h.length (.arr 35 [B (decide (-a<0)),v]))[h.length+1]?=some (.arr 35 [(.bool false),(.slice none 0 0)]):=by rw [List.getElem?_set_ne (by omega)];exact g1
  refine vB m1 (hk _ _ ((x1.set (Nat.le_refl _) _).set (by omega) _) ⟨v,rfl,?_⟩)
  have:(-a).natAbs=a.natAbs:=by omega
  rw [this]
  exact (kW.bG g0 _).bG m1 _
 simp only [bN,Nat.add_zero,ag,l0,nC]
 by_cases h0:a<0
 ·rw [decide_eq_true h0]
  simp only [Bool.not_true,agT,ie,agU,cV,ag,bN,Nat.add_zero]
  rw [decide_eq_true h0] at*
  exact last _ (by simp;omega)
 ·rw [decide_eq_false h0]
  simp only [Bool.not_false,agT,eO,bN,Nat.zero_add,ag,l1,n1,eT,agU,dh,Nat.add_zero]
  refine last _ ?_
  rw [decide_eq_decide]
  omega

theorem CB {va vb:Value} {a b:Int} {h:ae} {K:Value→ae→Prop} (ha:ZV h va a) (hb:ZV h vb b) (la:a.natAbs<bj) (lb:b.natAbs<bj) (hk:∀r h',EX h h'→ZV h' r (a-b)→K r h'):aj Tryz.prog 92 [va,vb] h K:=by
 have lN:=ha
 have nO:=hb
 obtain ⟨v,rfl,hv⟩:=ha
 obtain ⟨w,rfl,hw⟩:=hb
 refine f92 ?_
 unfold KB
 refine Df ?_
 intro h3 x
 simp only [ag,x.a2,x.b2,true_and]
 refine R6 (nO.mono x.ex) ?_
 intro r1 h4 x4 i1
 refine ⟨⟨EX.load x4 x.a2,trivial⟩,?_⟩
 refine RW (lN.mono (x.ex.trans x4)) i1 la (by rw [Int.natAbs_neg];exact lb) ?_
 intro r2 h5 x5 i2
 have g':=(x4.trans x5).get x.out
 obtain ⟨u,rfl,hu⟩:=id i2
 refine vB g' (hk _ _ (((x.ex.trans x4).trans x5).set (by omega) _) ?_)
 rw [Int.sub_eq_add_neg]
 exact i2.bG g' _

def iN (z:Int):Int:=if z=0 then 0 else if z<0 then -1 else 1

theorem Ib {va:Value} {a:Int} {h:ae} {K:Value→ae→Prop} (ha:ZV h va a) (hk:∀h',EX h h'→K (I (iN a)) h'):aj Tryz.prog 48 [va] h K:=by
 obtain ⟨v,rfl,hv⟩:=ha
 refine f48 ?_
 have e1:bc 35 h (.agg #[B (decide (a<0)),v])=some (pt h.length 0,h++[.arr 35 [B (decide (a<0)),v]]):=rfl
 simp only [J9,e1,aD]
 have l0:af false 1 (h++[.arr 35 [B (decide (a<0)),v]]) (pt h.length 0)=some (B (decide (a<0))):=qm rfl
 have l1:af false 1 (h++[.arr 35 [B (decide (a<0)),v]]) (pt h.length 1)=some v:=qm rfl
 have x1:EX h (h++[.arr 35 [B (decide (a<0)),v]]):=EX.append _ _
 obtain ⟨l,n1,n2⟩:=hv.nr
 have b7:=hk _ x1
 unfold iN at b7
 simp only [bN,Nat.zero_add,Nat.add_zero,ag,l1,n1,fW,bS,l0]
 refine ⟨fun h0=>?_,fun h0=>⟨fun hn=>?_,fun hn=>?_⟩⟩
 ·rw [if_pos (by omega)] at b7;exact b7
 ·rw [if_neg (by omega),if_pos hn] at b7;exact b7
 ·rw [if_neg (by omega),if_neg hn] at b7;exact b7

theorem Ih {va vb:Value} {a b:Int} {h:ae} {K:Value→ae→Prop} (ha:ZV h va a) (hb:ZV h vb b) (la:a.natAbs<bj) (lb:b.natAbs<bj) (hk:∀h',EX h h'→K (I (iN (a-b))) h'):aj Tryz.prog 72 [va,vb] h K:=by
 have lN:=ha
 have nO:=hb
 obtain ⟨v,rfl,hv⟩:=ha
 obtain ⟨w,rfl,hw⟩:=hb
 refine f72 ?_
 have e1:∀(g:ae) (s:Bool) (v:Value),bc 35 g (.agg #[B s,v])=some (pt g.length 0,g++[.arr 35 [B s,v]]):=fun _ _ _=>rfl
 simp only [Km,e1,aD,List.length_append,List.length_cons,List.length_nil]
 have g0:(h++[ak.arr 35 [B (decide (a<0)),v]]++[ak.arr 35 [B (decide (b<0)),w]])[h.length]?=some (.arr 35 [B (decide (a<0)),v]):=by simp
 have g1:(h++[ak.arr 35 [B (decide (a<0)),v]]++[ak.arr 35 [B (decide (b<0)),w]])[h.length+1]?=some (.arr 35 [B (decide (b<0)),w]):=by simp
 have x1:EX h (h++[ak.arr 35 [B (decide (a<0)),v]]++[ak.arr 35 [B (decide (b<0)),w]]):=(EX.append _ _).push _
 simp only [Nat.zero_add,cf g0,cf g1,ag]
 refine CB (lN.mono x1) (nO.mono x1) la lb ?_
 intro r h2 x2 zr
 refine Ib zr ?_
 intro h3 x3
 exact hk h3 ((x1.trans x2).trans x3)

end Go.Proofs.YtelmdbpaoifmoaaGreat


namespace Go.Proofs.YtelmdbpaoifmoaaGreat
open Go.Sim

theorem Ub {b:Nat} {hx:ae} {v:Value} {os:List Nat} {d:Nat} {K:Value→ae→Prop} (hb:b≤hx.length) (o:mo b hx v os) (hl:os.length≤10000)
  (hk:∀v' bJ,(∀d,d<b→bJ[d]?=hx[d]?)→b≤bJ.length→mo b bJ v' (os++[d])→K v' bJ):OH (cT 3 1 [.int .i64 0] hx [(0,1,I d)]) fun a h2=>OH (dA 3 1 8 h2 v a) K:=by
 have hlen:(hx.take b).length=b:=by rw [List.length_take];omega
 have hex:EX (hx.take b) hx:=by
  refine ⟨by omega,fun i hi=>?_⟩
  rw [List.getElem?_take_of_lt (by omega)]
 refine KN (h0:=hx.take b) (by rw [hlen];exact o) hex hl ?_
 intro v' bJ x o'
 rw [hlen] at o'
 refine hk v' bJ (fun d hd=>?_) (by have:=x.1;omega) o'
 rw [x.2 d (by omega),List.getElem?_take_of_lt hd]

theorem mo.set {b j:Nat} {hx:ae} {v:Value} {os:List Nat} (o:mo b hx v os) (hj:j<b) (x:ak):mo b (hx.set j x) v os:=
 fN.dI o fun d _ _ hd=>by rw [List.getElem?_set_ne (by omega)]

theorem ayd {a:Int} {b:Nat} (hb:b≠0):ah .rem (.int .i64 a) (.int .i64 (b:Int))=some (I (a.tmod b)):=by
 have h:¬((b:Int)=0):=by omega
 simp only [ah,fY,if_true,if_neg h]
theorem ax7 {a:Int} {b:Nat} (hb:b≠0) (h1: -9223372036854775808<a) (h2:a<9223372036854775808):ah .quo (.int .i64 a) (.int .i64 (b:Int))=some (I (a.tdiv b)):=by
 have h:¬((b:Int)=0):=by omega
 have h3:(a.tdiv b).natAbs≤a.natAbs:=by
  rw [Int.natAbs_tdiv,Int.natAbs_natCast];exact Nat.div_le_self _ _
 simp only [ah,fY,if_true,if_neg h]
 rw [wrap64 (by omega) (by omega)]

theorem uL {z:Int} {h:ae} {K:Value→ae→Prop} (hz:z.natAbs<1000000000000000000) (hk:∀r h',EX h h'→ZV h' r z→K r h'):aj Tryz.prog 55 [I z] h K:=by
 refine f55 ?_
 have e2:∀g:ae,aW 35 [(.bool false),(.slice none 0 0)] g=some (pt g.length 0,g++[.arr 35 [(.bool false),(.slice none 0 0)]]):=fun _=>rfl
 have e3:∀b:Bool,cN [(.bool false),(.slice none 0 0)] [(0,1,B b)]=some (.agg #[B b,.slice none 0 0]):=fun _=>rfl
 simp only [Kf,e2,aD,cK,ag,e3,List.length_append,List.length_cons,List.length_nil]
 have g1:(h++[ak.arr 35 [(.bool false),(.slice none 0 0)]]++[ak.arr 35 [(.bool false),(.slice none 0 0)]])[h.length+1]?=some (.arr 35 [(.bool false),(.slice none 0 0)]):=by simp
 have g0:(h++[ak.arr 35 [(.bool false),(.slice none 0 0)]]++[ak.arr 35 [(.bool false),(.slice none 0 0)]])[h.length]?=some (.arr 35 [(.bool false),(.slice none 0 0)]):=by simp
 have x1:EX h (h++[ak.arr 35 [(.bool false),(.slice none 0 0)]]++[ak.arr 35 [(.bool false),(.slice none 0 0)]]):=(EX.append _ _).push _
 have yD:(h++[ak.arr 35 [(.bool false),(.slice none 0 0)]]++[ak.arr 35 [(.bool false),(.slice none 0 0)]]).length=h.length+2:=by simp
 generalize h++[ak.arr 35 [(.bool false),(.slice none 0 0)]]++[ak.arr 35 [(.bool false),(.slice none 0 0)]]=h1 at*
 simp only [Nat.zero_add]
 rw [dX g1]
 simp only [aD]
 refine db (σ:=Int×List Nat×Value×ae) (fun p=>[I p.1]) (fun p=>p.2.2.2)
  (fun p=>h.length+2≤p.2.2.2.length∧EX h p.2.2.2∧p.2.2.2[h.length]?=some (.arr 35 [.bool false,.slice none 0 0])∧p.2.2.2[h.length+1]?=some (.arr 35 [B (decide (z<0)),p.2.2.1])∧mo (h.length+2) p.2.2.2 p.2.2.1 p.2.1∧bX 10000 p.2.1∧p.2.1.length≤5∧p.1.natAbs<10000^(5-p.2.1.length)∧val 10000 p.2.1+10000^p.2.1.length*p.1.natAbs=z.natAbs∧(p.1=0→Canon 10000 p.2.1)) (fun p=>p.1.natAbs)
  (z,[],.slice none 0 0,h1.set (h.length+1) (.arr 35 [B (decide (z<0)),.slice none 0 0])) rfl rfl
  ⟨by simp [yD],x1.set (by omega) _,by rw [List.getElem?_set_ne (by omega)];exact g0,cJ g1,.inl ⟨rfl,rfl⟩,fun _ hx=>by simp at hx,by simp,by simp;omega,by simp [val],fun _=>Canon.nil _⟩ ?_
 rintro ⟨a,os,v,hx⟩ ⟨hlen,hex,k0,k1,gM,dV,fI,gr,bQ,vN⟩ L hL
 simp only at hlen hex k0 k1 gM dV fI gr bQ vN hL⊢
 rw [aw7]
 simp only [nI,ag,CF]
 refine ⟨fun br=>?_,fun heq=>?_⟩
 ·have lN:a≠0:=br
  have aAQ:a.natAbs≤z.natAbs:=by
   have:1*a.natAbs≤10000^os.length*a.natAbs:=Nat.mul_le_mul_right _ (Nat.pow_pos (by decide))
   omega
  have aAK:os.length<5:=by
   apply Classical.byContradiction
   intro hc
   have:5-os.length=0:=by omega
   rw [this] at gr
   omega
  have mI:(a.tmod 10000).natAbs=a.natAbs%10000:=Int.natAbs_tmod _ _
  have hdiv:(a.tdiv 10000).natAbs=a.natAbs / 10000:=Int.natAbs_tdiv _ _
  have step:GH Tryz.prog K (I a) (pt h.length 0) (pt (h.length+1) 0) (I ((a.natAbs%10000:Nat):Int)) L hx:=by
   rw [aw5]
   have ld:af false 1 hx (pt (h.length+1) 1)=some v:=by simp [af,aQ,k1,ck]
   simp only [bN,Nat.zero_add,ag,ld]
   refine Ub hlen gM (by omega) ?_
   intro v' bJ hs kU rh
   have jo:bJ[h.length+1]?=some (.arr 35 [B (decide (z<0)),v]):=by rw [hs _ (by omega)];exact k1
   rw [pq jo (by simp) rh.ds.one.1 rh.ds.one.2]
   simp only [aD,List.set_cons_succ,List.set_cons_zero]
   rw [show (.int .i64 10000:Value)=.int .i64 ((10000:Nat):Int) from rfl,ax7 (by decide) (by omega) (by omega)]
   simp only [ag,true_and]
   have jO:=Nat.mod_add_div a.natAbs 10000
   have el:(os++[a.natAbs%10000]).length=os.length+1:=by simp
   have hm:a.natAbs%10000<10000:=Nat.mod_lt _ (by decide)
   have Fb:(a.tdiv ((10000:Nat):Int)).natAbs=a.natAbs / 10000:=hdiv
   refine hL (a.tdiv ((10000:Nat):Int),os++[a.natAbs%10000],v',bJ.set (h.length+1) (.arr 35 [B (decide (z<0)),v'])) ⟨?_,?_,?_,cJ jo,rh.set (by omega) _,dV.append (fun y hy=>by simp at hy;omega),by rw [el];omega,?_,?_,?_⟩ ?_
   ·rw [List.length_set];exact kU
   ·refine EX.set ⟨by have:=hex.1;omega,fun i hi=>?_⟩ (by omega) _
    rw [hs i (by omega)];exact hex.2 i hi
   ·rw [List.getElem?_set_ne (by omega),hs _ (by omega)];exact k0
   ·show (a.tdiv ((10000:Nat):Int)).natAbs<_
    rw [el,Fb]
    have:5-os.length=(5-(os.length+1))+1:=by omega
    rw [this,Nat.pow_succ] at gr
    exact Nat.div_lt_of_lt_mul (by rw [Nat.mul_comm];exact gr)
   ·show val 10000 (os++[a.natAbs%10000])+10000^(os++[a.natAbs%10000]).length*(a.tdiv ((10000:Nat):Int)).natAbs=_
    rw [el,lj,Fb,←bQ,Nat.pow_succ]
    simp only [val,Nat.mul_zero,Nat.add_zero]
    have:=congrArg (10000^os.length*·) jO
    rw [Nat.mul_add] at this
    rw [←this,Nat.mul_assoc,Nat.add_assoc]
   ·intro h0
    have lM:a.natAbs / 10000=0:=by
     have h0b:a.tdiv ((10000:Nat):Int)=0:=h0
     rw [←Fb,h0b];rfl
    refine Et (dV.append (fun y hy=>by simp at hy;omega)) ?_
    intro h1 h2
    simp only [el,Nat.add_sub_cancel] at h2
    rw [List.getElem_append_right (Nat.le_refl _)] at h2
    simp at h2
    omega
   ·show (a.tdiv ((10000:Nat):Int)).natAbs<a.natAbs
    rw [Fb]
    exact Nat.div_lt_self (by omega) (by decide)
  rw [show (.int .i64 10000:Value)=.int .i64 ((10000:Nat):Int) from rfl,ayd (by decide)]
  simp only [ag,cK,bS]
  have aAJ:(a.tmod ((10000:Nat):Int)).natAbs=a.natAbs%10000:=mI
  refine ⟨fun hn=>?_,fun hn=>?_⟩
  ·have e4:ft .neg (I (a.tmod ((10000:Nat):Int)))=some (I (-(a.tmod ((10000:Nat):Int)))):=by
    simp only [ft]
    rw [wrap64 (by omega) (by omega),Int.zero_sub]
   rw [e4]
   simp only [ag]
   rw [show -(a.tmod ((10000:Nat):Int))=((a.natAbs%10000:Nat):Int) by omega]
   exact step
  ·rw [show a.tmod ((10000:Nat):Int)=((a.natAbs%10000:Nat):Int) by omega]
   exact step
 ·have ha:a=0:=heq
  subst ha
  rw [aw6]
  rw [cf k1]
  simp only [ag]
  rw [dX k0]
  simp only [aD]
  rw [cf (cJ k0)]
  refine ag.2 (hk _ _ (hex.set (Nat.le_refl _) _) ⟨v,rfl,os,gM.ds.bG k0 _,vN rfl,?_⟩)
  simpa using bQ


abbrev hz (h:ae) (os:List Nat):ae:=h++[.arr 3 (os.map fun d:Nat=>I d)]

theorem aaW {h:ae} {n:Nat} (hn:n≤1000):kD 3 8 [.int .i64 0] h (I n) (I n)=some (sl 3 h.length 0 n,hz h (List.replicate n 0)):=by
 have wD:∀m,gH [Value.int .i64 0] m=(List.replicate m 0).map fun d:Nat=>I d:=by
  intro m
  induction m with
  | zero=>rfl
  | succ m ih=>
   have:gH [Value.int .i64 0] (m+1)=Value.int .i64 0::gH [Value.int .i64 0] m:=by simp [gH,List.replicate_succ]
   rw [this,ih,List.replicate_succ];rfl
 simp only [kD]
 rw [if_pos ⟨by omega,by omega,by omega,by omega⟩,Int.toNat_natCast,wD]

theorem aad (h:ae) (os:List Nat):(hz h os)[h.length]?=some (.arr 3 (os.map fun d:Nat=>I d)):=by simp [hz]

theorem asM {h:ae} {os:List Nat} {j:Nat} (d:Nat) (hj:j<os.length):aJ 1 (hz h os) (pt h.length j) (I d)=some (undef,hz h (os.set j d)):=by
 rw [pq (aad h os) (by simpa using hj) rfl rfl]
 simp [hz,List.map_set]

theorem asL {h:ae} {os:List Nat} {j:Nat} (hj:j<os.length):af false 1 (hz h os) (pt h.length j)=some (I os[j]):=by
 simp [af,aQ,ck,hj]

theorem aac (h:ae) (os:List Nat):DS 3 .i64 (hz h os) (sl 3 h.length 0 os.length) os:=.inr ⟨h.length,rfl,.inr ⟨[],by simp [aQ,hz]⟩⟩
theorem sF (h:ae) (os:List Nat):EX h (hz h os):=EX.append _ _

theorem aul {x y:Nat} (hx:x<10000) (hy:y<10000):x*y≤99980001:=by
 have:=Nat.mul_le_mul (show x≤9999 by omega) (show y≤9999 by omega)
 omega

theorem ay5 (a b:Int):(if (!(decide (a<0)==decide (b<0)))=true then -((a.natAbs*b.natAbs:Nat):Int) else ((a.natAbs*b.natAbs:Nat):Int))=a*b:=by
 have ea:(a.natAbs:Int)=if a<0 then -a else a:=by split <;> omega
 have eb:(b.natAbs:Int)=if b<0 then -b else b:=by split <;> omega
 rw [Int.natCast_mul,ea,eb]
 by_cases h1:a<0 <;> by_cases h2:b<0 <;> simp [h1,h2,Int.neg_mul,Int.mul_neg]

theorem nD {va vb:Value} {a b:Int} {h:ae} {K:Value→ae→Prop} (ha:ZV h va a) (hb:ZV h vb b) (la:a.natAbs<bj) (lb:b.natAbs<bj) (hk:∀r h',EX h h'→ZV h' r (a*b)→K r h'):aj Tryz.prog 71 [va,vb] h K:=by
 obtain ⟨v,rfl,hv⟩:=ha
 obtain ⟨w,rfl,hw⟩:=hb
 refine f71 ?_
 unfold Kl
 refine Df ?_
 intro h3 x
 obtain ⟨xs,dx,cx,ex⟩:=hv.mono x.ex
 obtain ⟨ys,dy,cy,ey⟩:=hw.mono x.ex
 have l1:=oH cx (by rw [ex];exact la)
 have l2:=oH cy (by rw [ey];exact lb)
 have hB:(0:Nat)<10000:=by decide
 have e0:IntKind.wrap .i64 ((xs.length:Int)+(ys.length:Int))=((xs.length+ys.length:Nat):Int):=by rw [wrap64 (by omega) (by omega)];omega
 simp only [bN,Nat.zero_add,ag,x.a1,x.b1,dx.len,dy.len,cC,e0,inc (xs.length+ys.length) (by omega),aaW (show xs.length+ys.length+1≤1000 by omega),aD]
 refine db (σ:=Nat×List Nat) (fun p=>[I p.1]) (fun p=>hz h3 p.2)
  (fun p=>p.1≤xs.length∧p.2.length=xs.length+ys.length+1∧bX 10000 p.2∧(∀j (hj:j<p.2.length),p.1+ys.length≤j→p.2[j]=0)∧val 10000 p.2=val 10000 (xs.take p.1)*val 10000 ys) (fun p=>xs.length-p.1)
  (0,List.replicate (xs.length+ys.length+1) 0) rfl rfl ⟨by simp,by simp,bX.tk hB _,by simp,by simp [uF,val]⟩ ?_
 rintro ⟨i,os⟩ ⟨hi,fI,dV,wD,bQ⟩ L hL
 simp only at hi fI dV wD bQ hL⊢
 have yV:∀ps,af false 1 (hz h3 ps) (pt h.length 1)=some v:=fun ps=>EX.load (sF h3 ps) x.a1
 have wN:∀ps,af false 1 (hz h3 ps) (pt (h.length+1) 1)=some w:=fun ps=>EX.load (sF h3 ps) x.b1
 rw [axu]
 simp only [bN,Nat.zero_add,yV,dx.len,cK,ag,bS]
 refine ⟨fun aB=>?_,fun cH=>?_⟩
 ·have bF:i<xs.length:=by omega
  have fQ:xs[i]<10000:=cx.1 _ (List.getElem_mem bF)
  have wz:=gO 10000 xs bF
  refine db (σ:=Nat×Nat×List Nat) (fun p=>[I p.1,I p.2.1]) (fun p=>hz h3 p.2.2)
   (fun p=>p.2.1≤ys.length+1∧(p.2.1=ys.length+1→p.1=0)∧p.1<10000∧p.2.2.length=xs.length+ys.length+1∧bX 10000 p.2.2∧(∀j (hj:j<p.2.2.length),i+ys.length+1≤j→p.2.2[j]=0)∧(p.2.1≤ys.length→∀j (hj:j<p.2.2.length),i+ys.length≤j→p.2.2[j]=0)∧val 10000 p.2.2+10000^(i+p.2.1)*p.1=val 10000 os+10000^i*(xs[i]*val 10000 (ys.take p.2.1))) (fun p=>ys.length+1-p.2.1)
   (0,0,os) rfl rfl ⟨by simp,by simp,hB,fI,dV,fun j hj h=>wD j hj (by omega),fun _=>wD,by simp [val]⟩ ?_
  rintro ⟨c,k,ps⟩ ⟨fG,Zn,hc,kB,sw,tZ,M8,tY⟩ L2 fX
  simp only at fG Zn hc kB sw tZ M8 tY fX⊢
  have Ya:=dx.mono (sF h3 ps)
  have Yb:=dy.mono (sF h3 ps)
  have nh:i+k<ps.length:=by omega
  have asb:ps[i+k]<10000:=sw _ (List.getElem_mem nh)
  have ei:IntKind.wrap .i64 ((i:Int)+(k:Int))=((i+k:Nat):Int):=by rw [wrap64 (by omega) (by omega)];omega
  -- fS next digit
  have step:∀p:Nat,p≤99980001→k<ys.length+1→(k=ys.length→p=0)→xs[i]*val 10000 (ys.take (k+1))=xs[i]*val 10000 (ys.take k)+10000^k*p→
    uz Tryz.prog K (pt h.length 0) (pt (h.length+1) 0) (pt (h.length+2) 0) (sl 3 h3.length 0 (xs.length+ys.length+1)) (I i) (I k) (I ((ps[i+k]+c+p:Nat):Int)) L L2 (hz h3 ps):=by
   intro p hp fO hkp hpv
   rw [axq]
   have jQ:=qE 10000 ps (i+k) ((ps[i+k]+c+p)%10000) nh
   have mI:(ps[i+k]+c+p)%10000<10000:=Nat.mod_lt _ hB
   have jO:=Nat.mod_add_div (ps[i+k]+c+p) 10000
   have hdiv:(ps[i+k]+c+p) / 10000<10000:=by omega
   have Ff:k=ys.length→(ps[i+k]+c+p) / 10000=0:=by
    intro sk
    have:=M8 (by omega) (i+k) nh (by omega)
    rw [this,hkp sk]
    omega
   simp only [cC,ei,ag]
   rw [show (.int .i64 10000:Value)=.int .i64 ((10000:Nat):Int) from rfl,xd _ _ _ (by decide),zx (by decide) (by omega)]
   simp only [ag]
   rw [kM (show i+k<xs.length+ys.length+1 by omega)]
   simp only [ag]
   rw [asM _ nh]
   simp only [aD,axr,cC,ag,inc k (by omega),true_and]
   refine fX ((ps[i+k]+c+p) / 10000,k+1,ps.set (i+k) ((ps[i+k]+c+p)%10000)) ⟨by show k+1≤ys.length+1;omega,fun h=>Ff (by simp only at h;omega),hdiv,by show (ps.set _ _).length=_;rw [List.length_set];exact kB,sw.set mI _,?_,?_,?_⟩ (by show ys.length+1-(k+1)<ys.length+1-k;omega)
   ·intro j hj dO
    show (ps.set (i+k) _)[j]=0
    rw [List.getElem_set_ne (by omega)]
    exact tZ j (by simpa using hj) dO
   ·intro ky j hj dO
    have sj:k+1≤ys.length:=ky
    show (ps.set (i+k) _)[j]=0
    rw [List.getElem_set_ne (by omega)]
    exact M8 (by omega) j (by simpa using hj) dO
   ·show val 10000 (ps.set (i+k) _)+10000^(i+(k+1))*_=val 10000 os+10000^i*(xs[i]*val 10000 (ys.take (k+1)))
    rw [hpv,←Nat.add_assoc,Nat.pow_succ]
    rw [Nat.pow_add] at jQ tY⊢
    generalize ps[i+k]=o at*
    generalize (o+c+p)%10000=m at*
    generalize (o+c+p) / 10000=q at*
    generalize xs[i]*val 10000 (ys.take k)=v at*
    generalize val 10000 (ps.set (i+k) m)=s1 at*
    generalize val 10000 ps=s0 at*
    generalize val 10000 os=s2 at*
    generalize 10000^i=P at*
    generalize 10000^k=Q at*
    clear fX hL dx dy Ya Yb hv hw x yV wN
    have h1:P*Q*(m+10000*q)=P*Q*(o+c+p):=by rw [jO]
    grind
  have body:k<ys.length+1→OP (ah .add (I i) (I k)) fun dB=>OP (aS 1 (sl 3 h3.length 0 (xs.length+ys.length+1)) dB) fun dm=>OP (af false 1 (hz h3 ps) dm) fun dR=>OP (ah .add dR (I c)) fun ba=>
    OP (aY w) fun dS=>OP (ah .lss (I k) dS) fun er=>aL er
     (OP (aS 1 v (I i)) fun cn=>OP (af false 1 (hz h3 ps) cn) fun fh=>OP (aS 1 w (I k)) fun eA=>OP (af false 1 (hz h3 ps) eA) fun gF=>OP (ah .mul fh gF) fun iE=>OP (ah .add ba iE) fun kH=>
      uz Tryz.prog K (pt h.length 0) (pt (h.length+1) 0) (pt (h.length+2) 0) (sl 3 h3.length 0 (xs.length+ys.length+1)) (I i) (I k) kH L L2 (hz h3 ps))
     (uz Tryz.prog K (pt h.length 0) (pt (h.length+1) 0) (pt (h.length+2) 0) (sl 3 h3.length 0 (xs.length+ys.length+1)) (I i) (I k) ba L L2 (hz h3 ps)):=by
   intro fO
   have e1:IntKind.wrap .i64 ((ps[i+k]:Int)+(c:Int))=((ps[i+k]+c:Nat):Int):=by rw [wrap64 (by omega) (by omega)];omega
   simp only [cC,ei,ag]
   rw [kM (show i+k<xs.length+ys.length+1 by omega)]
   simp only [ag,asL nh,cC,e1,dy.len,cK,bS]
   refine ⟨fun ka=>?_,fun MN=>?_⟩
   ·have MY:k<ys.length:=by omega
    obtain ⟨ia,a1,a2⟩:=Ya.get bF
    obtain ⟨ib,b1,b2⟩:=Yb.get MY
    have iY:ys[k]<10000:=cy.1 _ (List.getElem_mem MY)
    have Z7:=aul fQ iY
    have LD:((xs[i]:Int)*(ys[k]:Int))=((xs[i]*ys[k]:Nat):Int):=by simp
    have e2:IntKind.wrap .i64 ((ps[i+k]+c:Nat)+(xs[i]*ys[k]:Nat):Int)=((ps[i+k]+c+xs[i]*ys[k]:Nat):Int):=by rw [wrap64 (by omega) (by omega)];omega
    simp only [a1,a2,b1,b2,ag,tC,LD]
    rw [wrap64 (n:=((xs[i]*ys[k]:Nat):Int)) (by omega) (by omega)]
    simp only [cC,ag,e2]
    refine step (xs[i]*ys[k]) Z7 fO (fun h=>by omega) ?_
    rw [gO 10000 ys MY]
    grind
   ·have sk:k=ys.length:=by omega
    have:=step 0 (by omega) fO (fun _=>rfl) (by rw [sk,List.take_length,List.take_of_length_le (by omega)];rfl)
    simpa using this
  rw [axp]
  simp only [bN,Nat.zero_add,wN,dy.len,cK,ag]
  have other:∀t:Bool,(t=true→k<ys.length+1)→(t=false→ys.length≤k∧c=0)→aL (B t) (OP (ah .add (I i) (I k)) fun dB=>OP (aS 1 (sl 3 h3.length 0 (xs.length+ys.length+1)) dB) fun dm=>OP (af false 1 (hz h3 ps) dm) fun dR=>OP (ah .add dR (I c)) fun ba=>
    OP (aY w) fun dS=>OP (ah .lss (I k) dS) fun er=>aL er
     (OP (aS 1 v (I i)) fun cn=>OP (af false 1 (hz h3 ps) cn) fun fh=>OP (aS 1 w (I k)) fun eA=>OP (af false 1 (hz h3 ps) eA) fun gF=>OP (ah .mul fh gF) fun iE=>OP (ah .add ba iE) fun kH=>
      uz Tryz.prog K (pt h.length 0) (pt (h.length+1) 0) (pt (h.length+2) 0) (sl 3 h3.length 0 (xs.length+ys.length+1)) (I i) (I k) kH L L2 (hz h3 ps))
     (uz Tryz.prog K (pt h.length 0) (pt (h.length+1) 0) (pt (h.length+2) 0) (sl 3 h3.length 0 (xs.length+ys.length+1)) (I i) (I k) ba L L2 (hz h3 ps)))
    (PM Tryz.prog K (pt h.length 0) (pt (h.length+1) 0) (pt (h.length+2) 0) (sl 3 h3.length 0 (xs.length+ys.length+1)) (I i) L (hz h3 ps)):=by
   intro t h1 h2
   refine xy (fun he=>body (h1 (by simpa using he))) fun br=>?_
   obtain ⟨yn,rfl⟩:=h2 (by simpa using br)
   rw [axs]
   simp only [cC,ag,inc i (by omega),true_and]
   have arR:val 10000 (ys.take k)=val 10000 ys:=by rw [List.take_of_length_le yn]
   refine hL (i+1,ps) ⟨by show i+1≤xs.length;omega,kB,sw,fun j hj dO=>tZ j hj (by have:i+1+ys.length≤j:=dO;omega),?_⟩ (by show xs.length-(i+1)<xs.length-i;omega)
   show val 10000 ps=val 10000 (xs.take (i+1))*val 10000 ys
   rw [wz,Nat.add_mul,←bQ,Nat.mul_assoc,←arR,←tY]
   omega
  by_cases fO:k<ys.length
  ·rw [decide_eq_true (show (k:Int)<(ys.length:Int) by omega)]
   simp only [agK,eY,agL,dh,ag,bN,Nat.zero_add,yV,wN,true_and]
   exact other true (fun _=>by omega) (fun h=>by cases h)
  ·rw [decide_eq_false (show ¬(k:Int)<(ys.length:Int) by omega)]
   simp only [agK,dF,agL,eT,cV,ag,bN,Nat.zero_add,yV,wN,true_and]
   exact other _ (fun h=>by
    have h0:(0:Int)<(c:Int):=by simpa using h
    apply Classical.byContradiction
    intro vM
    have:=Zn (by omega)
    omega) (fun h=>by
    have h0:¬(0:Int)<(c:Int):=by simpa using h
    omega)
 ·have:i=xs.length:=by omega
  subst this
  rw [axt]
  rw [List.take_length] at bQ
  have lX:af false 1 (hz h3 os) (pt h.length 0)=some (B (decide (a<0))):=EX.load (sF h3 os) x.a0
  have pg:af false 1 (hz h3 os) (pt (h.length+1) 0)=some (B (decide (b<0))):=EX.load (sF h3 os) x.b0
  have e:sl 3 h3.length 0 (xs.length+ys.length+1)=sl 3 h3.length 0 os.length:=by rw [fI]
  simp only [bN,Nat.zero_add,ag,lX,pg,AJ,if_true,e]
  simp only [KU (aac h3 os),ag]
  refine uK (aac h3 os) dV (by omega) ?_
  intro r h5 x5 zr
  have hzv:(if (!(decide (a<0)==decide (b<0)))=true then -(val 10000 os:Int) else (val 10000 os:Int))=a*b:=by
   rw [bQ,ex,ey]
   exact ay5 a b
  rw [hzv] at zr
  obtain ⟨q,rfl,hq⟩:=id zr
  have g':=((sF h3 os).trans x5).get x.out
  exact vB g' (hk _ _ (((x.ex.trans (sF h3 os)).trans x5).set (by omega) _) (zr.bG g' _))

end Go.Proofs.YtelmdbpaoifmoaaGreat


namespace Go.Proofs.YtelmdbpaoifmoaaGreat
open Go.Sim

def QZ (h:ae) (val:Value) (a b:Int):Prop:=∃u w,val=.agg #[B (decide (a<0)),u,B (decide (b<0)),w]∧eI h u a.natAbs∧eI h w b.natAbs
theorem QZ.mono {h h':ae} {v:Value} {a b:Int} (x:EX h h') (p:QZ h v a b):QZ h' v a b:=let ⟨u,w,e,m,n⟩:=p;⟨u,w,e,m.mono x,n.mono x⟩
theorem QZ.bG {h:ae} {v:Value} {a b:Int} {j:Nat} {e:TypeId} {s:Bool} {r:List Value} (p:QZ h v a b) (hj:h[j]?=some (.arr e (.bool s::r))) (o:ak):QZ (h.set j o) v a b:=
 let ⟨u,w,e,m,n⟩:=p;⟨u,w,e,m.bG hj o,n.bG hj o⟩

theorem mO {h:ae} {i:Nat} {e:TypeId} {a b c d x y z w:Value} (hg:h[i]?=some (.arr e [a,b,c,d])):aJ 4 h (pt i 0) (.agg #[x,y,z,w])=some (undef,h.set i (.arr e [x,y,z,w])):=by
 simp [aJ,uk,hg,gW,cZ,Value.cells,setAt]
theorem gA {h:ae} {i:Nat} {e:TypeId} {a b c d:Value} (hg:h[i]?=some (.arr e [a,b,c,d])):af true 4 h (pt i 0)=some (.agg #[a,b,c,d]):=by
 simp [af,aQ,hg,ck]
theorem iO {h:ae} {i:Nat} {e:TypeId} {a b c d:Value} (hg:h[i]?=some (.arr e [a,b,c,d])):af true 2 h (pt i 0)=some (.agg #[a,b]):=by
 simp [af,aQ,hg,ck]
theorem jT {h:ae} {i:Nat} {e:TypeId} {a b c d:Value} (hg:h[i]?=some (.arr e [a,b,c,d])):af true 2 h (pt i 2)=some (.agg #[c,d]):=by
 simp [af,aQ,hg,ck]

theorem pN {h':ae} {j:Nat} {e:TypeId} {b0 v0 c0 w0 a b c d:Value} {K:Value→ae→Prop} (hg:h'[j]?=some (.arr e [b0,v0,c0,w0])) (hk:K (.agg #[a,b,c,d]) (h'.set j (.arr e [a,b,c,d]))):
  OH (aJ 4 h' (pt j 0) (.agg #[a,b,c,d])) fun _ h6=>OP (af true 4 h6 (pt j 0)) fun r0=>K r0 h6:=by
 rw [mO hg]
 simp only [aD]
 rw [gA (cJ hg)]
 exact ag.2 hk

theorem Dh {b c:Bool} {e e':TypeId} {k k':IntKind} {h h':ae} {v w:Value} {xs ys:List Nat} (d:DS e k h v xs) (d':DS e' k' h' w ys):
  cN [(.bool false),(.slice none 0 0),(.bool false),(.slice none 0 0)] [(0,2,.agg #[B b,v]),(2,2,.agg #[B c,w])]=some (.agg #[B b,v,B c,w]):=by
 rcases d with ⟨rfl,_⟩ | ⟨i,rfl,_⟩ <;> rcases d' with ⟨rfl,_⟩ | ⟨i',rfl,_⟩ <;> rfl

abbrev z4:List Value:=[(.bool false),(.slice none 0 0),(.bool false),(.slice none 0 0)]

theorem vz {h h':ae} {j:Nat} {va vb:Value} {a b:Int} {K:Value→ae→Prop} (ha:ZV h' va a) (hb:ZV h' vb b) (x:EX h h') (hj:h.length≤j) (hg:h'[j]?=some (.arr 37 z4)) (hk:∀r h',EX h h'→QZ h' r a b→K r h'):
  OP (cN [(.bool false),(.slice none 0 0),(.bool false),(.slice none 0 0)] [(0,2,va),(2,2,vb)]) fun a9=>OH (aJ 4 h' (pt j 0) a9) fun _ h6=>OP (af true 4 h6 (pt j 0)) fun r0=>K r0 h6:=by
 obtain ⟨u,rfl,hu⟩:=ha
 obtain ⟨w,rfl,hw⟩:=hb
 obtain ⟨xs,dx,cx⟩:=id hu
 obtain ⟨ys,dy,cy⟩:=id hw
 rw [Dh dx dy]
 exact ag.2 (pN hg (hk _ _ (x.set hj _) ⟨u,w,rfl,hu.bG hg _,hw.bG hg _⟩))

theorem C20 {z:Int} {h:ae} {K:Value→ae→Prop} (hz:z.natAbs<1000000000000000000) (hk:∀r h',EX h h'→QZ h' r z 1→K r h'):aj Tryz.prog 20 [I z] h K:=by
 refine f20 ?_
 have e1:aW 37 [(.bool false),(.slice none 0 0),(.bool false),(.slice none 0 0)] h=some (pt h.length 0,h++[.arr 37 z4]):=rfl
 simp only [JX,e1,aD]
 refine uL hz ?_
 intro r1 h1 x1 z1
 refine uL (z:=1) (by decide) ?_
 intro r2 h2 x2 z2
 exact vz (z1.mono x2) z2 ((EX.append _ _).trans (x1.trans x2)) (Nat.le_refl _) ((x1.trans x2).get bO) hk

structure ah9 (h:ae) (a b c d a' b' c' d':Value) (h3:ae):Prop where
 ex:EX h h3
 a0:af true 2 h3 (pt h.length 0)=some (.agg #[a,b])
 a2:af true 2 h3 (pt h.length 2)=some (.agg #[c,d])
 b0:af true 2 h3 (pt (h.length+1) 0)=some (.agg #[a',b'])
 b2:af true 2 h3 (pt (h.length+1) 2)=some (.agg #[c',d'])
 a4:af true 4 h3 (pt h.length 0)=some (.agg #[a,b,c,d])
 b4:af true 4 h3 (pt (h.length+1) 0)=some (.agg #[a',b',c',d'])
 out:h3[h.length+2]?=some (.arr 37 z4)

theorem Dg {h:ae} {s s' t t':Bool} {b d b' d':Value} {K:Value→Value→Value→ae→Prop} (hk:∀h3,ah9 h (B s) b (B s') d (B t) b' (B t') d' h3→K (pt h.length 0) (pt (h.length+1) 0) (pt (h.length+2) 0) h3):
  OH (bc 37 h (.agg #[B s,b,B s',d])) fun a2 h_1=>OH (bc 37 h_1 (.agg #[B t,b',B t',d'])) fun b3 h_2=>OH (aW 37 [(.bool false),(.slice none 0 0),(.bool false),(.slice none 0 0)] h_2) fun x4 h_3=>K a2 b3 x4 h_3:=by
 have e1:∀(g:ae) (s s':Bool) (b d:Value),bc 37 g (.agg #[B s,b,B s',d])=some (pt g.length 0,g++[.arr 37 [B s,b,B s',d]]):=fun _ _ _ _ _=>rfl
 have e2:∀(g:ae),aW 37 [(.bool false),(.slice none 0 0),(.bool false),(.slice none 0 0)] g=some (pt g.length 0,g++[.arr 37 z4]):=fun _=>rfl
 simp only [e1,e2,aD,List.length_append,List.length_cons,List.length_nil]
 have g0:(h++[ak.arr 37 [B s,b,B s',d]]++[ak.arr 37 [B t,b',B t',d']]++[ak.arr 37 z4])[h.length]?=some (.arr 37 [B s,b,B s',d]):=by simp
 have g1:(h++[ak.arr 37 [B s,b,B s',d]]++[ak.arr 37 [B t,b',B t',d']]++[ak.arr 37 z4])[h.length+1]?=some (.arr 37 [B t,b',B t',d']):=by simp
 have g2:(h++[ak.arr 37 [B s,b,B s',d]]++[ak.arr 37 [B t,b',B t',d']]++[ak.arr 37 z4])[h.length+2]?=some (.arr 37 z4):=by simp
 exact hk _ ⟨((EX.append _ _).push _).push _,iO g0,jT g0,iO g1,jT g1,gA g0,gA g1,g2⟩

theorem C27 {va vb:Value} {a b c d:Int} {h:ae} {K:Value→ae→Prop} (ha:QZ h va a b) (hb:QZ h vb c d) (la:a.natAbs<bj) (lb:b.natAbs<bj) (lc:c.natAbs<bj) (ld:d.natAbs<bj)
  (hk:∀r h',EX h h'→QZ h' r (a*c) (b*d)→K r h'):aj Tryz.prog 27 [va,vb] h K:=by
 obtain ⟨u,w,rfl,hu,hw⟩:=ha
 obtain ⟨u',w',rfl,qg,ke⟩:=hb
 refine f27 ?_
 unfold J1
 refine Dg ?_
 intro h3 x
 have za:ZV h3 (.agg #[B (decide (a<0)),u]) a:=⟨u,rfl,hu.mono x.ex⟩
 have zb:ZV h3 (.agg #[B (decide (b<0)),w]) b:=⟨w,rfl,hw.mono x.ex⟩
 have zc:ZV h3 (.agg #[B (decide (c<0)),u']) c:=⟨u',rfl,qg.mono x.ex⟩
 have zd:ZV h3 (.agg #[B (decide (d<0)),w']) d:=⟨w',rfl,ke.mono x.ex⟩
 simp only [bN,Nat.add_zero,Nat.zero_add,ag,x.a0,x.b0,true_and]
 refine nD za zc la lc ?_
 intro r4 h4 x4 qJ
 simp only [EX.load x4 x.a2,EX.load x4 x.b2,ag,x.a2,x.b2,true_and]
 refine nD (zb.mono x4) (zd.mono x4) lb ld ?_
 intro r5 h5 x5 z5
 exact vz (qJ.mono x5) z5 ((x.ex.trans x4).trans x5) (by omega) ((x4.trans x5).get x.out) hk

theorem C26 {va vb:Value} {a b c d:Int} {h:ae} {K:Value→ae→Prop} (ha:QZ h va a b) (hb:QZ h vb c d) (la:a.natAbs<bj) (lb:b.natAbs<bj) (lc:c.natAbs<bj) (ld:d.natAbs<bj) (BF:(a*d).natAbs<bj) (N3:(c*b).natAbs<bj)
  (hk:∀r h',EX h h'→QZ h' r (a*d+c*b) (b*d)→K r h'):aj Tryz.prog 26 [va,vb] h K:=by
 obtain ⟨u,w,rfl,hu,hw⟩:=ha
 obtain ⟨u',w',rfl,qg,ke⟩:=hb
 refine f26 ?_
 unfold J0
 refine Dg ?_
 intro h3 x
 have za:ZV h3 (.agg #[B (decide (a<0)),u]) a:=⟨u,rfl,hu.mono x.ex⟩
 have zb:ZV h3 (.agg #[B (decide (b<0)),w]) b:=⟨w,rfl,hw.mono x.ex⟩
 have zc:ZV h3 (.agg #[B (decide (c<0)),u']) c:=⟨u',rfl,qg.mono x.ex⟩
 have zd:ZV h3 (.agg #[B (decide (d<0)),w']) d:=⟨w',rfl,ke.mono x.ex⟩
 simp only [bN,Nat.add_zero,Nat.zero_add,ag,x.a0,x.b2,true_and]
 refine nD za zd la ld ?_
 intro r4 h4 x4 qJ
 simp only [EX.load x4 x.a2,EX.load x4 x.b0,ag,x.a2,x.b0,true_and]
 refine nD (zc.mono x4) (zb.mono x4) lc lb ?_
 intro r5 h5 x5 z5
 refine RW (qJ.mono x5) z5 BF N3 ?_
 intro r6 h6 x6 z6
 have cg:=(x4.trans x5).trans x6
 simp only [EX.load cg x.a2,EX.load cg x.b2,EX.load (x4.trans x5) x.a2,EX.load (x4.trans x5) x.b2,EX.load x4 x.b2,ag,true_and]
 refine nD (zb.mono cg) (zd.mono cg) lb ld ?_
 intro r7 h7 x7 z7
 exact vz (z6.mono x7) z7 ((x.ex.trans cg).trans x7) (by omega) ((cg.trans x7).get x.out) hk

end Go.Proofs.YtelmdbpaoifmoaaGreat


namespace Go.Proofs.YtelmdbpaoifmoaaGreat
open Go.Sim

def cY (s:List UInt8):Nat:=s.foldl (fun d c=>10*d+(c.toNat-48)) 0

theorem Q4:∀(s:List UInt8) (a:Nat),s.foldl (fun d c=>10*d+(c.toNat-48)) a=a*10^s.length+cY s
 | [],a=>by simp [cY]
 | c::s,a=>by
  have h1:=Q4 s (10*a+(c.toNat-48))
  have h2:=Q4 s (10*0+(c.toNat-48))
  have e:cY (c::s)=s.foldl (fun d c=>10*d+(c.toNat-48)) (10*0+(c.toNat-48)):=rfl
  rw [e,h2,List.foldl_cons,h1,List.length_cons,Nat.pow_succ]
  generalize 10^s.length=P
  generalize c.toNat-48=d
  generalize cY s=w
  grind

theorem xm (s t:List UInt8):cY (s++t)=cY s*10^t.length+cY t:=by
 show (s++t).foldl _ 0=_
 rw [List.foldl_append,Q4]
 rfl

theorem HG (c:UInt8):cY [c]=c.toNat-48:=by simp [cY]

def hI (s:List UInt8):Prop:=∀c∈s,48≤c.toNat∧c.toNat≤57

theorem Cm (c:UInt8) (s:List UInt8):cY (c::s)=(c.toNat-48)*10^s.length+cY s:=by
 have:=xm [c] s
 rw [HG] at this
 exact this

theorem uE:∀{s:List UInt8},hI s→cY s<10^s.length
 | [],_=>by simp [cY]
 | c::s,h=>by
  have h1:=uE (s:=s) fun x hx=>h x (by simp [hx])
  have h2:=h c (by simp)
  rw [Cm,List.length_cons,Nat.pow_succ]
  have h3:=Nat.mul_le_mul_right (10^s.length) (show c.toNat-48≤9 by omega)
  omega

end Go.Proofs.YtelmdbpaoifmoaaGreat


namespace Go.Proofs.YtelmdbpaoifmoaaGreat
open Go.Sim

theorem Q5:∀{ds:List Nat},bX 10 ds→cY ((ds.map gK).reverse)=val 10 ds
 | [],_=>rfl
 | d::ds,h=>by
  have h1:=Q5 (ds:=ds) fun y hy=>h y (by simp [hy])
  have h2:=h d (by simp)
  rw [List.map_cons,List.reverse_cons,xm,HG,h1,rR h2]
  simp only [val,List.length_singleton,Nat.pow_one]
  omega

theorem tG {n:Nat} (hn:n<bj):hI (dj n)∧0<(dj n).length∧(dj n).length≤1000∧((dj n).head?=some 48→(dj n).length=1)∧cY (dj n)=n:=by
 obtain ⟨hc,hv⟩:=ED n
 by_cases h0:n=0
 ·subst h0
  have:dj 0=[48]:=rfl
  rw [this]
  exact ⟨fun c hc=>by simp at hc;subst hc;decide,by simp,by simp,by simp,rfl⟩
 ·have e:dj n=((qU n).map gK).reverse:=by unfold dj;rw [if_neg h0]
  have br:qU n≠[]:=by
   intro h
   rw [h] at hv
   exact h0 hv.symm
  rw [e]
  refine ⟨?_,?_,?_,?_,?_⟩
  ·intro c MC
   simp only [List.mem_reverse,List.mem_map] at MC
   obtain ⟨d,hd,rfl⟩:=MC
   rw [rR (hc.1 d hd)]
   have:=hc.1 d hd
   omega
  ·simp only [List.length_reverse,List.length_map]
   exact List.length_pos_iff.2 br
  ·simp only [List.length_reverse,List.length_map]
   show _≤FQ
   refine hc.len (by decide) ?_
   rw [hv]
   exact Nat.lt_of_lt_of_le hn Uh
  ·intro jA
   exfalso
   rw [List.head?_reverse,List.getLast?_map] at jA
   cases hl:(qU n).getLast? with
   | none=>rw [hl] at jA;simp at jA
   | some d=>
    rw [hl] at jA
    have hd:d<10:=hc.1 d (List.mem_of_getLast? hl)
    have h3:gK d=48:=by simpa using jA
    have h4:=congrArg UInt8.toNat h3
    rw [rR hd] at h4
    have h5:(48:UInt8).toNat=48:=rfl
    rw [h5] at h4
    have:d=0:=by omega
    subst this
    exact hc.2 hl
  ·rw [Q5 hc.1,hv]

def gB (z:Int):List UInt8:=if z<0 then 45::dj z.natAbs else dj z.natAbs

end Go.Proofs.YtelmdbpaoifmoaaGreat

