/-
  Part 5 of the texts behind a statement of this seat: ZR2, Ct45, Ct46, Ct47, Zq1, Sp18, ZN3, Kd1, Kd2, Kd3, Kd4, Kd5, Kd6, Ct41, Zq2, Zq3, Kd7, ZN4, Kd8, Kd9, Kd10, Zp1, ZR3.
-/
import Derived.Test.YtelmdbpaoifmoaaGreatProg
import Derived.KernelRfl
import Derived.Test.YtelmdbpaoifmoaaGreatMi4
namespace Go.Proofs.YtelmdbpaoifmoaaGreat
open Go.Sim
variable (P : Program) (K : VK)
/-! F16: pommel/pommelref01.Is -/
noncomputable section
variable (x0 q1 y5 ay aX : Value) (h : ae)
def ab9:=bp Tryz.prog 16 [[],[],[0,5,13],[13,16],[]]
@[irreducible] def DV:=bw ab9
@[irreducible] def VU:=DV.r.r.l.r.l
@[irreducible] def anP:=DV.r.r.r
@[irreducible] def anQ:=VU.r.l
theorem k16:ab9=some (18,DV,[.tmp 4]):=by kernel_rfl
def SU (_P:Program) (K:VK):aq:=aO [.tmp 4] K
def SV:aq:=aC (ai P anP (SU P K)) (SU P K)
def aer:Prop:=au (ai P VU (SV P K)) [0,5,13] [x0,y5,ay] h
def Ph:Prop:=au (ai P anQ (SV P K)) [13,16] [ay,aX] h
theorem aww:Ph P K ay aX h=
 (OP (bK ay aX (.bool false)) fun bH=>
 K bH h):=aw (by kernel_rfl)
theorem awv:aer P K x0 y5 ay h=
 (bU ay true
 (OP (ah .eql x0 y5) fun aX=>
 Ph P K ay aX h)
 (Ph P K ay undef h)):=aw (by kernel_rfl)
def JW:Prop:=
 OH (bc 37 h q1) fun q3 h_1=>
 OP (af true 4 h_1 q3) fun x8=>
 aj P 53 [x8] h_1 fun x9 h_2=>
 OP (b9 0 x9) fun aF=>
 OP (b9 1 x9) fun ax=>
 aer P K x0 aF ax h_2
theorem e16:ai P DV (aO [.tmp 4] K) (bk [x0,q1]) h=JW P K x0 q1 h:=by kernel_rfl
theorem f16 {K:VK} {x0 q1:Value} {h:ae} (H:JW Tryz.prog K x0 q1 h):aj Tryz.prog 16 [x0,q1] h K:=
 bD k16 (Nat.le_of_ble_eq_true rfl) ((e16 Tryz.prog K x0 q1 h).mpr H)
end
/-! F25: pommel/pommelref01.Lowest -/
noncomputable section
variable (q0 : Value) (h : ae)
def acd:=bp Tryz.prog 25 [[],[],[],[],[]]
@[irreducible] def VX:=bw acd
theorem k25:acd=some (30,VX,[.cell true 4 2]):=by kernel_rfl
def JZ:Prop:=
 OH (bc 37 h q0) fun q1 h_1=>
 OH (aW 37 [(.bool false),(.slice none 0 0),(.bool false),(.slice none 0 0)] h_1) fun x2 h_2=>
 OP (aE 0 q1) fun x8=>
 OP (af true 2 h_2 x8) fun x9=>
 OP (aE 2 q1) fun aF=>
 OP (af true 2 h_2 aF) fun ax=>
 aj P 68 [x9,ax] h_2 fun az h_3=>
 OH (aW 35 [(.bool false),(.slice none 0 0)] h_3) fun g3 h_4=>
 OH (aJ 2 h_4 g3 az) fun _ h_5=>
 OP (aE 0 q1) fun aP=>
 OP (af true 2 h_5 aP) fun a9=>
 OP (af true 2 h_5 g3) fun aX=>
 aj P 69 [a9,aX] h_5 fun bH h_6=>
 OP (b9 0 bH) fun aN=>
 OP (b9 1 bH) fun aM=>
 OH (aW 35 [(.bool false),(.slice none 0 0)] h_6) fun n4 h_7=>
 OH (aW 35 [(.bool false),(.slice none 0 0)] h_7) fun x5 h_8=>
 OH (aJ 2 h_8 n4 aN) fun _ h_9=>
 OH (aJ 2 h_9 x5 aM) fun _ h_10=>
 OP (aE 2 q1) fun bf=>
 OP (af true 2 h_10 bf) fun bt=>
 OP (af true 2 h_10 g3) fun bV=>
 aj P 69 [bt,bV] h_10 fun bC h_11=>
 OP (b9 0 bC) fun bL=>
 OP (b9 1 bC) fun cF=>
 OH (aW 35 [(.bool false),(.slice none 0 0)] h_11) fun d6 h_12=>
 OH (aW 35 [(.bool false),(.slice none 0 0)] h_12) fun x7 h_13=>
 OH (aJ 2 h_13 d6 bL) fun _ h_14=>
 OH (aJ 2 h_14 x7 cF) fun _ h_15=>
 OP (af true 2 h_15 n4) fun bR=>
 OP (af true 2 h_15 d6) fun bE=>
 OP (cN [(.bool false),(.slice none 0 0),(.bool false),(.slice none 0 0)] [(0,2,bR),(2,2,bE)]) fun bZ=>
 OH (aJ 4 h_15 x2 bZ) fun _ h_16=>
 OP (af true 4 h_16 x2) fun r0=>
 K r0 h_16
theorem e25:ai P VX (aO [.cell true 4 2] K) (bk [q0]) h=JZ P K q0 h:=by kernel_rfl
theorem f25 {K:VK} {q0:Value} {h:ae} (H:JZ Tryz.prog K q0 h):aj Tryz.prog 25 [q0] h K:=
 bD k25 (Nat.le_of_ble_eq_true rfl) ((e25 Tryz.prog K q0 h).mpr H)
end
/-! F29: pommel/pommelref01.CmpQ -/
noncomputable section
variable (a0 b1 : Value) (h : ae)
def ach:=bp Tryz.prog 29 [[],[]]
@[irreducible] def V3:=bw ach
theorem k29:ach=some (16,V3,[.tmp 4]):=by kernel_rfl
def J3:Prop:=
 OH (bc 37 h a0) fun a2 h_1=>
 OH (bc 37 h_1 b1) fun b3 h_2=>
 OP (aE 0 a2) fun x5=>
 OP (af true 2 h_2 x5) fun x6=>
 (True)∧
 OP (aE 2 b3) fun x7=>
 OP (af true 2 h_2 x7) fun x8=>
 (True)∧
 aj P 71 [x6,x8] h_2 fun x9 h_3=>
 (True)∧
 OP (aE 0 b3) fun aF=>
 OP (af true 2 h_3 aF) fun ax=>
 (af true 2 h_2 aF=some ax∧True)∧
 OP (aE 2 a2) fun az=>
 OP (af true 2 h_3 az) fun ay=>
 (af true 2 h_2 az=some ay∧True)∧
 aj P 71 [ax,ay] h_3 fun aP h_4=>
 (True)∧
 aj P 72 [x9,aP] h_4 fun a9 h_5=>
 (True)∧
 K a9 h_5
theorem e29:ai P V3 (aO [.tmp 4] K) (bk [a0,b1]) h=J3 P K a0 b1 h:=by kernel_rfl
theorem f29 {K:VK} {a0 b1:Value} {h:ae} (H:J3 Tryz.prog K a0 b1 h):aj Tryz.prog 29 [a0,b1] h K:=
 bD k29 (Nat.le_of_ble_eq_true rfl) ((e29 Tryz.prog K a0 b1 h).mpr H)
end
/-! F53: pommel/pommelref01.Num -/
noncomputable section
variable (q0 q1 s4 d5 aN bf : Value) (h : ae)
def acu:=bp Tryz.prog 53 [[],[],[],[1,4,5,18],[1,4,5,18,21],[],[],[],[],[4,5],[],[4],[]]
@[irreducible] def As:=bw acu
@[irreducible] def WE:=As.r.r.r.l.l.r.l
@[irreducible] def aoj:=As.r.r.r.l.r
@[irreducible] def WD:=As.r.r.r.r
@[irreducible] def aok:=WE.r.l
@[irreducible] def WC:=WD.r.l
@[irreducible] def aoi:=WC.r.l
theorem k53:acu=some (35,As,[.tmp 2,.tmp 3]):=by kernel_rfl
def CW (_P:Program) (K:VK):aq:=aO [.tmp 2,.tmp 3] K
def S9:aq:=aC (ai P WD (CW P K)) (CW P K)
def Ta:aq:=aC (ai P aoj (S9 P K)) (S9 P K)
def aeL:Prop:=au (ai P WE (Ta P K)) [1,4,5,18] [q1,s4,d5,aN] h
def PD:Prop:=au (ai P aok (Ta P K)) [1,4,5,18,21] [q1,s4,d5,aN,bf] h
def GG:Prop:=au (ai P WC (CW P K)) [4,5] [s4,d5] h
def PC:Prop:=au (ai P aoi (CW P K)) [4] [s4] h
theorem aw3:PD P K q1 s4 d5 aN bf h=
 (OP (bK aN (.bool true) bf) fun bt=>
 aL bt
 (K (.tuple #[(.string ⟨#[]⟩),(.bool false)]) h)
 (OP (aE 0 q1) fun bV=>
 OP (aE 0 bV) fun bC=>
 OP (af false 1 h bC) fun bL=>
 aL bL
 (OP (ah .add (.string ⟨#[45]⟩) s4) fun bR=>
 GG P K bR d5 h)
 (GG P K s4 d5 h))):=aw (by kernel_rfl)
theorem aw2:aeL P K q1 s4 d5 aN h=
 (bU aN false
 (OP (fe d5) fun aT=>
 OP (ah .gtr aT (.int .i64 (4000))) fun bf=>
 PD P K q1 s4 d5 aN bf h)
 (PD P K q1 s4 d5 aN undef h)):=aw (by kernel_rfl)
theorem agF:PC P K s4 h=
 (K (.tuple #[s4,(.bool true)]) h):=aw (by kernel_rfl)
theorem aw1:GG P K s4 d5 h=
 (OP (ah .neq d5 (.string ⟨#[49]⟩)) fun bZ=>
 aL bZ
 (OP (ah .add (.string ⟨#[47]⟩) d5) fun cM=>
 OP (ah .add s4 cM) fun dJ=>
 PC P K dJ h)
 (PC P K s4 h)):=aw (by kernel_rfl)
def Kd:Prop:=
 OH (bc 37 h q0) fun q1 h_1=>
 OP (af true 4 h_1 q1) fun x6=>
 aj P 25 [x6] h_1 fun x7 h_2=>
 OH (aJ 4 h_2 q1 x7) fun _ h_3=>
 OP (aE 0 q1) fun x8=>
 OP (af true 2 h_3 x8) fun x9=>
 (True)∧
 aj P 94 [x9] h_3 fun aF h_4=>
 (True)∧
 aj P 93 [aF] h_4 fun ax h_5=>
 (True)∧
 OP (aE 2 q1) fun az=>
 OP (af true 2 h_5 az) fun ay=>
 (af true 2 h_3 az=some ay∧af true 2 h_4 az=some ay∧True)∧
 aj P 93 [ay] h_5 fun aP h_6=>
 (True)∧
 OP (fe ax) fun aX=>
 OP (ah .gtr aX (.int .i64 (4000))) fun bH=>
 aeL P K q1 ax aP bH h_6
theorem e53:ai P As (aO [.tmp 2,.tmp 3] K) (bk [q0]) h=Kd P K q0 h:=by kernel_rfl
theorem f53 {K:VK} {q0:Value} {h:ae} (H:Kd Tryz.prog K q0 h):aj Tryz.prog 53 [q0] h K:=
 bD k53 (Nat.le_of_ble_eq_true rfl) ((e53 Tryz.prog K q0 h).mpr H)
end
/-! F68: pommel/pommelref01.Gcd -/
noncomputable section
variable (a0 b1 a2 b3 x4 : Value) (L1 : LQ) (xs : List Value) (h : ae)
def acA:=bp Tryz.prog 68 [[],[],[2,3,4],[],[],[],[],[2,4],[]]
@[irreducible] def D7:=bw acA
@[irreducible] def aox:=D7.r.r.l.l.l
@[irreducible] def WV:=D7.r.r.r
@[irreducible] def aow:=WV.l
theorem k68:acA=some (24,D7,[.cell true 2 4]):=by kernel_rfl
def IV (_P:Program) (K:VK):aq:=aO [.cell true 2 4] K
def ak2:aq:=aC (ai P WV (IV P K)) (IV P K)
def ak3:aq:=bz 0 (ak2 P K)
def ak4:aq:=aC (fun f' aR=>(([2,3,4]:List Nat).map f':List Value)=[a2,b3,x4]∧L1 (([]:List Nat).map f') aR) (ak3 P K)
def aeV:Prop:=au (ai P aox (ak4 P K a2 b3 x4 L1)) ([2,3,4]++[]) ([a2,b3,x4]++xs) h
def aeU:Prop:=au (ai P aow (IV P K)) [2,4] [a2,x4] h
theorem axi:aeV P K a2 b3 x4 L1 [] h=
 (OP (aE 1 b3) fun ax=>
 OP (af false 1 h ax) fun az=>
 OP (aY az) fun ay=>
 OP (ah .gtr ay (.int .i64 (0))) fun aP=>
 aL aP
 (OP (af true 2 h a2) fun aX=>
 OP (af true 2 h b3) fun bH=>
 aj P 69 [aX,bH] h fun aN h_1=>
 OP (b9 0 aN) fun aM=>
 OP (b9 1 aN) fun aT=>
 OH (aW 35 [(.bool false),(.slice none 0 0)] h_1) fun x5 h_2=>
 OH (aW 35 [(.bool false),(.slice none 0 0)] h_2) fun x6 h_3=>
 OH (aJ 2 h_3 x5 aM) fun _ h_4=>
 OH (aJ 2 h_4 x6 aT) fun _ h_5=>
 OP (af true 2 h_5 b3) fun bf=>
 (True)∧
 OP (af true 2 h_5 x6) fun bt=>
 (True)∧
 OH (aJ 2 h_5 a2 bf) fun _ h_6=>
 (af true 2 h_6 x6=some bt∧True)∧
 OH (aJ 2 h_6 b3 bt) fun _ h_7=>
 (True)∧
 ([a2,b3,x4]:List Value)=[a2,b3,x4]∧L1 [] h_7)
 (aeU P K a2 x4 h)):=aw (by kernel_rfl)
theorem axh:aeU P K a2 x4 h=
 (OP (af true 2 h a2) fun bV=>
 OH (aJ 2 h x4 bV) fun _ h_1=>
 OP (af true 2 h_1 x4) fun r0=>
 K r0 h_1):=aw (by kernel_rfl)
def Ki:Prop:=
 OH (bc 35 h a0) fun a2 h_1=>
 OH (bc 35 h_1 b1) fun b3 h_2=>
 OH (aW 35 [(.bool false),(.slice none 0 0)] h_2) fun x4 h_3=>
 OP (af true 2 h_3 a2) fun x7=>
 (True)∧
 aj P 94 [x7] h_3 fun x8 h_4=>
 (True)∧
 OP (af true 2 h_4 b3) fun x9=>
 (af true 2 h_3 b3=some x9∧True)∧
 aj P 94 [x9] h_4 fun aF h_5=>
 (True)∧
 OH (aJ 2 h_5 a2 x8) fun _ h_6=>
 (True)∧
 OH (aJ 2 h_6 b3 aF) fun _ h_7=>
 (True)∧
 cB [] h_7 fun L1 xs hx=>
 aeV P K a2 b3 x4 L1 xs hx
theorem e68:ai P D7 (aO [.cell true 2 4] K) (bk [a0,b1]) h=Ki P K a0 b1 h:=by kernel_rfl
theorem f68 {K:VK} {a0 b1:Value} {h:ae} (H:Ki Tryz.prog K a0 b1 h):aj Tryz.prog 68 [a0,b1] h K:=
 bD k68 (Nat.le_of_ble_eq_true rfl) ((e68 Tryz.prog K a0 b1 h).mpr H)
end
/-! F69: pommel/pommelref01.DivMod -/
noncomputable section
variable (a0 b1 a2 b3 x4 x5 q6 x7 i8 x9 aF az ay eB fk : Value) (L1 L2 : LQ) (xs : List Value) (h : ae)
def acB:=bp Tryz.prog 69 [[],[],[],[2,3,4,5,6],[7,8],[],[],[],[],[2,3,4,5,6,7,8],[9,10],[],[],[],[],[2,3,4,5,6,7,8,9],[],[2,3,4,5,6,7,8],[2,3,4,5,6,7],[],[3,4,5,12,13,78],[3,4,5,12,13,78,82],[],[],[],[]]
@[irreducible] def D8:=bw acB
@[irreducible] def Ea:=D8.r.r.l.r.l.l
@[irreducible] def WY:=D8.r.r.r
@[irreducible] def aoy:=Ea.r.l.l.r.r.l.l.l
@[irreducible] def WW:=Ea.r.l.l.r.r.r
@[irreducible] def WZ:=Ea.r.r
@[irreducible] def D9:=WY.l
@[irreducible] def aoz:=WW.l
@[irreducible] def aoA:=WZ.l
@[irreducible] def WX:=D9.r.l.l.r.l
@[irreducible] def aoC:=D9.r.l.r
@[irreducible] def aoB:=D9.r.r
@[irreducible] def aoD:=WX.r.l
theorem k69:acB=some (92,D8,[.cell true 2 4,.cell true 2 5]):=by kernel_rfl
def Ac (_P:Program) (K:VK):aq:=aO [.cell true 2 4,.cell true 2 5] K
def ak8:aq:=aC (ai P WY (Ac P K)) (Ac P K)
def ak9:aq:=bz 0 (ak8 P K)
def CZ:aq:=aC (fun f' aR=>(([2,3,4,5,6]:List Nat).map f':List Value)=[a2,b3,x4,x5,q6]∧L1 (([7,8]:List Nat).map f') aR) (ak9 P K)
def ala:aq:=aC (ai P WZ (CZ P K a2 b3 x4 x5 q6 L1)) (CZ P K a2 b3 x4 x5 q6 L1)
def IW:aq:=bz 1 (ala P K a2 b3 x4 x5 q6 L1)
def ak5:aq:=aC (ai P WW (IW P K a2 b3 x4 x5 q6 L1)) (IW P K a2 b3 x4 x5 q6 L1)
def ak6:aq:=bz 2 (ak5 P K a2 b3 x4 x5 q6 L1)
def ak7:aq:=aC (fun f' aR=>(([2,3,4,5,6,7,8]:List Nat).map f':List Value)=[a2,b3,x4,x5,q6,x7,i8]∧L2 (([9,10]:List Nat).map f') aR) (ak6 P K a2 b3 x4 x5 q6 L1)
def Tg:aq:=aC (ai P aoB (Ac P K)) (Ac P K)
def Th:aq:=aC (ai P aoC (Tg P K)) (Tg P K)
def ae1:Prop:=au (ai P Ea (CZ P K a2 b3 x4 x5 q6 L1)) ([2,3,4,5,6]++[7,8]) ([a2,b3,x4,x5,q6]++xs) h
def aeW:Prop:=au (ai P aoy (ak7 P K a2 b3 x4 x5 q6 x7 i8 L1 L2)) ([2,3,4,5,6,7,8]++[9,10]) ([a2,b3,x4,x5,q6,x7,i8]++xs) h
def aeX:Prop:=au (ai P aoz (IW P K a2 b3 x4 x5 q6 L1)) [2,3,4,5,6,7,8,9] [a2,b3,x4,x5,q6,x7,i8,x9] h
def aeY:Prop:=au (ai P aoA (CZ P K a2 b3 x4 x5 q6 L1)) [2,3,4,5,6,7,8] [a2,b3,x4,x5,q6,x7,i8] h
def aeZ:Prop:=au (ai P D9 (Ac P K)) [2,3,4,5,6,7] [a2,b3,x4,x5,q6,x7] h
def ae0:Prop:=au (ai P WX (Th P K)) [3,4,5,12,13,78] [b3,x4,x5,az,ay,eB] h
def B3:Prop:=au (ai P aoD (Th P K)) [3,4,5,12,13,78,82] [b3,x4,x5,az,ay,eB,fk] h
theorem axj (a2 b3 x4 x5 q6 x7 i8:Value) (L1 L2:LQ) (x9 aF:Value) (h:ae):aeW P K a2 b3 x4 x5 q6 x7 i8 L1 L2 [x9,aF] h=
 (OP (ah .sub aF x9) fun dB=>
 OP (ah .gtr dB (.int .i64 (1))) fun dm=>
 aL dm
 (OP (ah .add x9 aF) fun ba=>
 OP (ah .quo ba (.int .i64 (2))) fun bW=>
 OP (aE 1 b3) fun cg=>
 OP (af false 1 h cg) fun gj=>
 aj P 102 [gj,bW] h fun er h_1=>
 aj P 101 [er,x7] h_1 fun eL h_2=>
 OP (ah .leq eL (.int .i64 (0))) fun dK=>
 aL dK
 (([a2,b3,x4,x5,q6,x7,i8]:List Value)=[a2,b3,x4,x5,q6,x7,i8]∧L2 [bW,aF] h_2)
 (([a2,b3,x4,x5,q6,x7,i8]:List Value)=[a2,b3,x4,x5,q6,x7,i8]∧L2 [x9,bW] h_2))
 (aeX P K a2 b3 x4 x5 q6 x7 i8 x9 L1 h)):=aw (by kernel_rfl)
theorem axk:aeX P K a2 b3 x4 x5 q6 x7 i8 x9 L1 h=
 (OP (aS 1 q6 i8) fun gP=>
 OH (aJ 1 h gP x9) fun _ h_1=>
 OP (aE 1 b3) fun gF=>
 OP (af false 1 h_1 gF) fun iE=>
 aj P 102 [iE,x9] h_1 fun iF h_2=>
 aj P 103 [x7,iF] h_2 fun gQ h_3=>
 OP (cN [(.bool false),(.slice none 0 0)] [(1,1,gQ)]) fun fJ=>
 aj P 100 [fJ] h_3 fun mQ h_4=>
 OP (wF false 1 1 mQ) fun fD=>
 aeY P K a2 b3 x4 x5 q6 fD i8 L1 h_4):=aw (by kernel_rfl)
theorem axl:aeY P K a2 b3 x4 x5 q6 x7 i8 L1 h=
 (OP (ah .sub i8 (.int .i64 (1))) fun cF=>
 ([a2,b3,x4,x5,q6]:List Value)=[a2,b3,x4,x5,q6]∧L1 [x7,cF] h):=aw (by kernel_rfl)
theorem axo (a2 b3 x4 x5 q6:Value) (L1:LQ) (x7 i8:Value) (h:ae):ae1 P K a2 b3 x4 x5 q6 L1 [x7,i8] h=
 (OP (ah .geq i8 (.int .i64 (0))) fun bC=>
 aL bC
 (OP (aE 1 a2) fun bR=>
 OP (af false 1 h bR) fun bE=>
 OP (aS 1 bE i8) fun cP=>
 OP (af false 1 h cP) fun bY=>
 OH (cT 3 1 [(.int .i64 (0))] h [(0,1,bY)]) fun cM h_1=>
 OH (dA 3 1 8 h_1 cM x7) fun cm h_2=>
 OP (cN [(.bool false),(.slice none 0 0)] [(1,1,cm)]) fun dc=>
 aj P 100 [dc] h_2 fun cQ h_3=>
 OP (wF false 1 1 cQ) fun dM=>
 cB [(.int .i64 (0)),(.int .i64 (10000))] h_3 fun L2 xs hx=>
 aeW P K a2 b3 x4 x5 q6 dM i8 L1 L2 xs hx)
 (aeZ P K a2 b3 x4 x5 q6 x7 h)):=aw (by kernel_rfl)
theorem Qj:B3 P K b3 x4 x5 az ay eB fk h=
 (OP (bK eB fk (.bool false)) fun mh=>
 aL mh
 (OP (af true 2 h az) fun gZ=>
 (True)∧
 aj P 55 [(.int .i64 (1))] h fun qH h_1=>
 (af true 2 h_1 az=some gZ∧True)∧
 aj P 92 [gZ,qH] h_1 fun kJ h_2=>
 (True)∧
 OP (af true 2 h_2 b3) fun tg=>
 (af true 2 h b3=some tg∧af true 2 h_1 b3=some tg∧True)∧
 OP (af true 2 h_2 ay) fun fV=>
 (af true 2 h ay=some fV∧af true 2 h_1 ay=some fV∧True)∧
 aj P 92 [tg,fV] h_2 fun hZ h_3=>
 (True)∧
 OH (aJ 2 h_3 x4 kJ) fun _ h_4=>
 (True)∧
 OH (aJ 2 h_4 x5 hZ) fun _ h_5=>
 (True)∧
 OP (af true 2 h_5 x4) fun r0=>
 OP (af true 2 h_5 x5) fun r1=>
 K (.tuple #[r0,r1]) h_5)
 (OP (af true 2 h az) fun th=>
 (True)∧
 OP (af true 2 h ay) fun jI=>
 (True)∧
 OH (aJ 2 h x4 th) fun _ h_1=>
 (af true 2 h_1 ay=some jI∧True)∧
 OH (aJ 2 h_1 x5 jI) fun _ h_2=>
 (True)∧
 OP (af true 2 h_2 x4) fun r0=>
 OP (af true 2 h_2 x5) fun r1=>
 K (.tuple #[r0,r1]) h_2)):=aw (by kernel_rfl)
theorem axn:ae0 P K b3 x4 x5 az ay eB h=
 (bU eB true
 (OP (aE 1 ay) fun iS=>
 OP (af false 1 h iS) fun qG=>
 OP (aY qG) fun jH=>
 OP (ah .gtr jH (.int .i64 (0))) fun fk=>
 B3 P K b3 x4 x5 az ay eB fk h)
 (B3 P K b3 x4 x5 az ay eB undef h)):=aw (by kernel_rfl)
theorem axm:aeZ P K a2 b3 x4 x5 q6 x7 h=
 (OP (aE 0 a2) fun eG=>
 OP (af false 1 h eG) fun gn=>
 OP (cN [(.bool false),(.slice none 0 0)] [(0,1,gn),(1,1,q6)]) fun fB=>
 aj P 100 [fB] h fun lA h_1=>
 OP (cN [(.bool false),(.slice none 0 0)] [(1,1,x7)]) fun jG=>
 aj P 100 [jG] h_1 fun gG h_2=>
 OH (aW 35 [(.bool false),(.slice none 0 0)] h_2) fun az h_3=>
 OH (aW 35 [(.bool false),(.slice none 0 0)] h_3) fun ay h_4=>
 OH (aJ 2 h_4 az lA) fun _ h_5=>
 OH (aJ 2 h_5 ay gG) fun _ h_6=>
 OP (aE 0 a2) fun je=>
 OP (af false 1 h_6 je) fun fK=>
 ae0 P K b3 x4 x5 az ay fK h_6):=aw (by kernel_rfl)
def Kj:Prop:=
 OH (bc 35 h a0) fun a2 h_1=>
 OH (bc 35 h_1 b1) fun b3 h_2=>
 OH (aW 35 [(.bool false),(.slice none 0 0)] h_2) fun x4 h_3=>
 OH (aW 35 [(.bool false),(.slice none 0 0)] h_3) fun x5 h_4=>
 OP (aE 1 a2) fun aP=>
 OP (af false 1 h_4 aP) fun a9=>
 OP (aY a9) fun aX=>
 OH (kD 3 8 [(.int .i64 (0))] h_4 aX aX) fun bH h_5=>
 OH (cT 3 0 [(.int .i64 (0))] h_5 []) fun aN h_6=>
 OP (aE 1 a2) fun aM=>
 OP (af false 1 h_6 aM) fun aT=>
 OP (aY aT) fun bf=>
 OP (ah .sub bf (.int .i64 (1))) fun bt=>
 cB [aN,bt] h_6 fun L1 xs hx=>
 ae1 P K a2 b3 x4 x5 bH L1 xs hx
theorem e69:ai P D8 (aO [.cell true 2 4,.cell true 2 5] K) (bk [a0,b1]) h=Kj P K a0 b1 h:=by kernel_rfl
theorem f69 {K:VK} {a0 b1:Value} {h:ae} (H:Kj Tryz.prog K a0 b1 h):aj Tryz.prog 69 [a0,b1] h K:=
 bD k69 (Nat.le_of_ble_eq_true rfl) ((e69 Tryz.prog K a0 b1 h).mpr H)
end
end Go.Proofs.YtelmdbpaoifmoaaGreat

namespace Go.Proofs.YtelmdbpaoifmoaaGreat
open Go.Sim

theorem Di {e:TypeId} {k:IntKind} {h:ae} {v:Value} {xs:List Nat} (d:DS e k h v xs):cN [(.bool false),(.slice none 0 0)] [(1,1,v)]=some (.agg #[B false,v]):=by
 rcases d with ⟨rfl,_⟩ | ⟨i,rfl,_⟩ <;> rfl

theorem Ma (b:Bool) (v:Value):wF false 1 1 (.agg #[B b,v])=some v:=rfl

theorem mV {n:Nat} (h:n<10000^201):n<bj:=by
 refine Nat.lt_of_lt_of_le h ?_
 unfold bj
 decide+kernel

theorem eI.Ck {h:ae} {v:Value} {n:Nat} (p:eI h v n):ZV h (.agg #[B false,v]) (n:Int):=⟨v,by rw [decide_eq_false (by omega)],by simpa using p⟩

theorem Rp {v:Value} {n d:Nat} {h:ae} {K:Value→ae→Prop} (hv:eI h v n) (hn:n<10000^200) (hd:d≤10000) (hk:∀r h',EX h h'→eI h' r (n*d)→K r h'):aj Tryz.prog 102 [v,I d] h K:=by
 have sr:n<bj:=mV (by
  have:(10000:Nat)^201=10000^200*10000:=by decide+kernel
  omega)
 have asf:n*d<bj:=by
  refine mV ?_
  have h1:n*d≤n*10000:=Nat.mul_le_mul_left _ hd
  have:(10000:Nat)^201=10000^200*10000:=by decide+kernel
  omega
 refine f102 ?_
 obtain ⟨xs,dx,cx⟩:=id hv
 simp only [Jg,Di dx,ag]
 refine uL (z:=d) (by omega) ?_
 intro r1 h1 x1 z1
 refine nD (hv.Ck.mono x1) z1 (by simpa using sr) (by have:=mV (n:=10000) (by decide+kernel);simp;omega) ?_
 intro r2 h2 x2 z2
 obtain ⟨u,rfl,hu⟩:=z2
 have e1:((n:Int)*(d:Int)).natAbs=n*d:=by rw [Int.natAbs_mul];simp
 rw [e1] at hu
 have e2:decide ((n:Int)*(d:Int)<0)=false:=decide_eq_false (by have:(n:Int)*(d:Int)=((n*d:Nat):Int):=by simp
                                                               omega)
 rw [e2]
 obtain ⟨ys,dy,cy,vy⟩:=hu
 have ly:=oH cy (by rw [vy];exact asf)
 refine uK dy cy.1 (by omega) ?_
 intro r3 h3 x3 z3
 simp only [Bool.false_eq_true,if_false,vy] at z3
 obtain ⟨w,rfl,hw⟩:=z3
 rw [Ma]
 rw [Int.natAbs_natCast] at hw
 exact ag.2 (hk _ _ ((x1.trans x2).trans x3) hw)

theorem eI.atX {h h':ae} {n i m:Nat} (p:eI h (sl 3 i 0 m) n) (hi:h'[i]?=h[i]?):eI h' (sl 3 i 0 m) n:=by
 obtain ⟨xs,d,c,v⟩:=p
 refine ⟨xs,?_,c,v⟩
 rcases d with ⟨h1,h2⟩ | ⟨j,h1,h2⟩
 ·cases h1
 ·obtain ⟨rfl,rfl⟩:=QP h1
  refine .inr ⟨i,rfl,h2.imp id ?_⟩
  rintro ⟨r,hr⟩
  refine ⟨r,?_⟩
  unfold aQ at hr⊢
  rw [hi];exact hr

theorem apQ {h:ae} {v:Value} {ys:List Nat} {d:Nat} {K:Value→ae→Prop} (p:DS 3 .i64 h v ys) (hl:ys.length≤1000) (hk:∀r h',EX h h'→DS 3 .i64 h' r (d::ys)→K r h'):
  OH (cT 3 1 [.int .i64 0] h [(0,1,I d)]) fun a h1=>OH (dA 3 1 8 h1 a v) K:=by
 have e1:cT 3 1 [.int .i64 0] h [(0,1,I d)]=some (sl 3 h.length 0 1,h++[.arr 3 [I d]]):=rfl
 rw [e1]
 simp only [aD]
 obtain ⟨c1,c2⟩:=(p.mono (EX.append h [.arr 3 [I d]])).cells
 by_cases lR:ys.length=0
 ·have:ys=[]:=List.length_eq_zero_iff.1 lR
  subst this
  have e2:dA 3 1 8 (h++[.arr 3 [I d]]) (sl 3 h.length 0 1) v=some (sl 3 h.length 0 1,h++[.arr 3 [I d]]):=by
   simp [dA,c1,c2,sl,maxLen]
  rw [e2]
  simp only [aD]
  exact hk _ _ (EX.append _ _) (.inr ⟨h.length,rfl,.inr ⟨[],by simp [aQ]⟩⟩)
 ·have hg:(h++[ak.arr 3 [I d]])[h.length]?=some (.arr 3 [I d]):=bO
  have e2:dA 3 1 8 (h++[.arr 3 [I d]]) (sl 3 h.length 0 1) v=some (sl 3 (h.length+1) 0 (1+ys.length),(h++[ak.arr 3 [I d]]).set h.length .dead++[.arr 3 ([I d]++ys.map fun d:Nat=>I d)]):=by
   simp only [dA,c1,c2]
   simp only [sl,hg]
   rw [if_pos ⟨trivial,trivial,by simp,by omega,by unfold maxLen;omega⟩,if_neg lR]
   simp
  rw [e2]
  simp only [aD]
  refine hk _ _ (((EX.append _ _).set (Nat.le_refl _) _).push _) (.inr ⟨h.length+1,by rw [List.length_cons,Nat.add_comm 1],.inr ⟨[],?_⟩⟩)
  unfold aQ
  rw [List.getElem?_append_right (by simp)]
  simp

theorem ahJ (B:Nat) (xs:List Nat) {i:Nat} (hi:i<xs.length):val B (xs.drop i)=xs[i]+B*val B (xs.drop (i+1)):=by
 rw [List.drop_eq_getElem_cons hi];rfl

theorem ahl {a b:Nat}:kE a b≤0↔a≤b:=by
 unfold kE
 split
 ·constructor <;> omega
 ·split <;> constructor <;> omega

theorem Ig {va vb:Value} {a b:Int} {h:ae} {K:Value→ae→Prop} (ha:ZV h va a) (hb:ZV h vb b) (nO:0<b) (la:a.natAbs<10000^199) (lb:b.natAbs<10000^199)
  (hk:∀r s h',EX h h'→ZV h' r (a / b)→ZV h' s (a%b)→K (.tuple #[r,s]) h'):aj Tryz.prog 69 [va,vb] h K:=by
 obtain ⟨v,rfl,hv⟩:=ha
 obtain ⟨w,rfl,hw⟩:=hb
 have aAL:(10000:Nat)^200=10000^199*10000:=by decide+kernel
 have aAM:(10000:Nat)^201=10000^200*10000:=by decide+kernel
 refine f69 ?_
 unfold Kj
 refine Df ?_
 intro h3 x
 obtain ⟨B,hBb⟩:∃B:Nat,b=B:=⟨b.toNat,by omega⟩
 subst hBb
 have YS:0<B:=by omega
 have hBl:B<10000^199:=by simpa using lb
 obtain ⟨xs,dx,cx,ex⟩:=hv.mono x.ex
 have l1:=oH cx (by rw [ex];exact mV (by omega))
 have Z4:eI h3 w B:=by have:=hw.mono x.ex;simpa using this
 have e2:aW 35 [(.bool false),(.slice none 0 0)] h3=some (pt h3.length 0,h3++[.arr 35 [(.bool false),(.slice none 0 0)]]):=rfl
 simp only [e2,aD,bN,Nat.zero_add]
 have x4:EX h3 (h3++[.arr 35 [(.bool false),(.slice none 0 0)]]):=EX.append _ _
 have g5:(h3++[ak.arr 35 [(.bool false),(.slice none 0 0)]])[h3.length]?=some (.arr 35 [(.bool false),(.slice none 0 0)]):=bO
 have hl3:h.length+2<h3.length:=(List.getElem?_eq_some_iff.1 x.out).1
 generalize Zi:h3++[ak.arr 35 [(.bool false),(.slice none 0 0)]]=h4 at x4 g5⊢
 have hl4:h4.length=h3.length+1:=by rw [←Zi];simp
 clear Zi
 have LI:=dx.mono x4
 simp only [EX.load x4 x.a1,ag,LI.len,aaW (show xs.length≤1000 by omega),aD,Oh]
 have e6:IntKind.wrap .i64 ((xs.length:Int)-1)=(xs.length:Int)-1:=wrap64 (by omega) (by omega)
 have x6:EX h4 (hz h4 (List.replicate xs.length 0)++[.arr 3 []]):=(sF h4 _).push _
 simp only [EX.load (x4.trans x6) x.a1,ag,LI.len,eW,e6]
 have yG:(hz h4 (List.replicate xs.length 0)++[ak.arr 3 []])[h4.length]?=some (.arr 3 ((List.replicate xs.length 0).map fun d:Nat=>I d)):=by
  rw [List.getElem?_append_left (by simp [hz])];exact aad _ _
 have p7:eI (hz h4 (List.replicate xs.length 0)++[ak.arr 3 []]) (sl 3 (hz h4 (List.replicate xs.length 0)).length 0 0) 0:=⟨[],.inr ⟨_,rfl,.inl rfl⟩,Canon.nil _,rfl⟩
 refine db (σ:=Nat×Nat×Value×List Nat×ae) (fun p=>[p.2.2.1,I ((p.1:Int)-1)]) (fun p=>p.2.2.2.2)
  (fun p=>p.1≤xs.length∧EX h4 p.2.2.2.2∧p.2.2.2.2[h4.length]?=some (.arr 3 (p.2.2.2.1.map fun d:Nat=>I d))∧p.2.2.2.1.length=xs.length∧bX 10000 p.2.2.2.1∧eI p.2.2.2.2 p.2.2.1 p.2.1∧p.2.1<B∧val 10000 (p.2.2.2.1.drop p.1)*B+p.2.1=val 10000 (xs.drop p.1)) (fun p=>p.1)
  (xs.length,0,_,List.replicate xs.length 0,_) rfl rfl ⟨Nat.le_refl _,x6,yG,by simp,bX.tk (by decide) _,p7,YS,by simp [val]⟩ ?_
 rintro ⟨i,R,rv,qs,g⟩ ⟨hi,xg,hq,nU,Nb,hR,hRB,bQ⟩ L hL
 simp only at hi xg hq nU Nb hR hRB bQ hL⊢
 have yV:∀{g'},EX h4 g'→af false 1 g' (pt h.length 1)=some v:=fun y=>EX.load (x4.trans y) x.a1
 have wN:∀{g'},EX h4 g'→af false 1 g' (pt (h.length+1) 1)=some w:=fun y=>EX.load (x4.trans y) x.b1
 rw [axo]
 simp only [j5,ag,bS]
 refine ⟨fun cH=>?_,fun aB=>?_⟩
 ·obtain ⟨j,rfl⟩:∃j,i=j+1:=⟨i-1,by omega⟩
  have ej:((j+1:Nat):Int)-1=(j:Int):=by omega
  have tW:j<xs.length:=by omega
  obtain ⟨ia,a1,a2⟩:=(LI.mono xg).get tW
  have Nz:xs[j]<10000:=cx.1 _ (List.getElem_mem tW)
  have FD:=ahJ 10000 xs tW
  rw [ej]
  simp only [bN,Nat.zero_add,yV xg,ag,a1,a2]
  obtain ⟨rs,dr,cr,vr⟩:=id hR
  have lr:=oH cr (by rw [vr];exact mV (by omega))
  refine apQ dr (by omega) ?_
  intro r1 g1 y1 d1
  simp only [Di d1,ag]
  refine Rn d1 (fun z hz=>by
   rcases List.mem_cons.1 hz with rfl | hz
   ·exact Nz
   ·exact cr.1 z hz) (by simp;omega) ?_
  rintro r2 g2 y2 z2 ⟨fb,fi,fn,rfl,hfi⟩
  have ev:val 10000 (xs[j]::rs)=xs[j]+10000*R:=by simp only [val,vr]
  simp only [Bool.false_eq_true,if_false,ev] at z2
  obtain ⟨rw2,yJ,ZL⟩:=z2
  injection yJ with yJ
  injection yJ with yJ
  simp only [List.cons.injEq,and_true] at yJ
  obtain ⟨_,rfl⟩:=yJ
  rw [Ma]
  have Nm:eI g2 (sl 3 fi 0 fn) (xs[j]+10000*R):=by
   rw [Int.natAbs_natCast] at ZL
   exact ZL
  have aAC:h4.length<fi:=by
   have h9:=(List.getElem?_eq_some_iff.1 hq).1
   have h8:=y1.1
   omega
  simp only [ag]
  have YU:xs[j]+10000*R<10000*B:=by omega
  generalize hRR:xs[j]+10000*R=R' at Nm YU
  have jX:EX h4 g2:=(xg.trans y1).trans y2
  refine db (σ:=Nat×Nat×ae) (fun p=>[I p.1,I p.2.1]) (fun p=>p.2.2) (fun p=>p.1<p.2.1∧p.2.1≤10000∧EX g2 p.2.2∧p.1*B≤R'∧R'<p.2.1*B) (fun p=>p.2.1-p.1)
   (0,10000,g2) rfl rfl ⟨by show 0<10000;decide,Nat.le_refl _,EX.refl _,by simp,YU⟩ ?_
  rintro ⟨lo,lP,g3⟩ ⟨hlh,hh,y3,dC,iy⟩ L2 fX
  simp only at hlh hh y3 dC iy fX⊢
  have jY:EX h4 g3:=jX.trans y3
  rw [axj]
  have e7:IntKind.wrap .i64 ((lP:Int)-(lo:Int))=((lP-lo:Nat):Int):=by rw [wrap64 (by omega) (by omega)];omega
  have e8:IntKind.wrap .i64 ((lo:Int)+(lP:Int))=((lo+lP:Nat):Int):=by rw [wrap64 (by omega) (by omega)];omega
  simp only [eW,e7,ag,eT,bS]
  refine ⟨fun pX=>?_,fun hle=>?_⟩
  ·simp only [cC,e8,ag]
   rw [show (.int .i64 2:Value)=.int .i64 ((2:Nat):Int) from rfl,zx (by decide) (by omega)]
   simp only [ag,bN,Nat.zero_add,wN jY]
   have hm:(lo+lP) / 2≤10000:=by omega
   refine Rp ((Z4.mono x4).mono jY) (by omega) hm ?_
   intro r4 g4 y4 m4
   have MA:B*((lo+lP) / 2)<bj:=by
    refine mV ?_
    have:=Nat.mul_le_mul_left B hm
    omega
   refine Ro (a:=B*((lo+lP) / 2)) (b:=R') m4 ((Nm.mono y3).mono y4) MA (mV (by omega)) ?_
   simp only [qN,ag,bS,true_and]
   generalize Zw:(lo+lP) / 2=mid at*
   have so:lo<mid∧mid<lP:=by omega
   refine ⟨fun h0=>?_,fun h0=>?_⟩
   ·have:=ahl.1 h0
    exact fX (mid,lP,g4) ⟨so.2,hh,y3.trans y4,by show mid*B≤R';rw [Nat.mul_comm];exact this,iy⟩ (by show lP-mid<lP-lo;omega)
   ·have:¬B*mid≤R':=fun h9=>h0 (ahl.2 h9)
    exact fX (lo,mid,g4) ⟨so.1,by show mid≤10000;omega,y3.trans y4,dC,by show R'<mid*B;rw [Nat.mul_comm];omega⟩ (by show mid-lo<lP-lo;omega)
  ·have hhl:lP=lo+1:=by omega
   subst hhl
   have hRl:R'<lo*B+B:=by rw [Nat.succ_mul] at iy;exact iy
   rw [axk]
   have ZD:g3[h4.length]?=some (.arr 3 (qs.map fun d:Nat=>I d)):=by
    rw [←hq]
    have sf:=(List.getElem?_eq_some_iff.1 hq).1
    rw [((y1.trans y2).trans y3).2 _ sf]
   have ad:aS 1 (sl 3 h4.length 0 xs.length) (I j)=some (pt h4.length j):=kM tW
   simp only [ad,ag]
   rw [pq ZD (by simp;omega) rfl rfl]
   simp only [aD]
   have es:(qs.map fun d:Nat=>I d).set j (I lo)=(qs.set j lo).map fun d:Nat=>I d:=by rw [List.map_set]
   rw [es]
   have kK:EX h4 (g3.set h4.length (.arr 3 ((qs.set j lo).map fun d:Nat=>I d))):=jY.set (Nat.le_refl _) _
   have M9:(g3.set h4.length (.arr 3 ((qs.set j lo).map fun d:Nat=>I d)))[h4.length]?=some (.arr 3 ((qs.set j lo).map fun d:Nat=>I d)):=cJ ZD
   -- fS rest aAt not lie there
   have ZM:eI (g3.set h4.length (.arr 3 ((qs.set j lo).map fun d:Nat=>I d))) (sl 3 fi 0 fn) R':=(Nm.mono y3).atX (by rw [List.getElem?_set_ne (by omega)])
   generalize g3.set h4.length (.arr 3 ((qs.set j lo).map fun d:Nat=>I d))=g5 at kK M9 ZM⊢
   simp only [bN,Nat.zero_add,wN kK,ag]
   refine Rp ((Z4.mono x4).mono kK) (by omega) (by omega) ?_
   intro r6 g6 y6 m6
   obtain ⟨us,du,cu,vu⟩:=ZM.mono y6
   obtain ⟨ts,dt,ct,vt⟩:=m6
   have arA:B*lo≤R':=by rw [Nat.mul_comm];exact dC
   have lu:=oH cu (by rw [vu];exact mV (by omega))
   refine H6 du dt cu.1 ct.1 (by omega) ?_ (by rw [vu,vt];exact arA) ?_
   ·apply Classical.byContradiction
    intro hc
    have:=Canon.wU (by decide) cu ct (by omega)
    omega
   intro r7 g7 os y7 d7 l7 s7 v7
   simp only [Di d7,ag]
   refine uK d7 l7 (by omega) ?_
   intro r8 g8 y8 z8
   simp only [Bool.false_eq_true,if_false] at z8
   obtain ⟨rw8,rfl,asq⟩:=z8
   rw [Ma]
   simp only [ag]
   have LR:IntKind.wrap .i64 ((j:Int)-1)=(j:Int)-1:=wrap64 (by omega) (by omega)
   simp only [axl,eW,LR,ag,true_and]
   have ar4:lo<10000:=by omega
   have Z0:val 10000 os=R' -B*lo:=by omega
   have asr:eI g8 rw8 (R' -B*lo):=by rw [←Z0];simpa using asq
   have hBB:B*lo=lo*B:=Nat.mul_comm _ _
   refine hL (j,R' -B*lo,rw8,qs.set j lo,g8) ⟨by show j≤xs.length;omega,((kK.trans y6).trans y7).trans y8,?_,by rw [List.length_set];exact nU,Nb.set ar4 _,asr,by show R' -B*lo<B;omega,?_⟩ (by show j<j+1;omega)
   ·have sf:=(List.getElem?_eq_some_iff.1 M9).1
    show g8[h4.length]?=_
    rw [((y6.trans y7).trans y8).2 _ sf];exact M9
   ·show val 10000 ((qs.set j lo).drop j)*B+(R' -B*lo)=val 10000 (xs.drop j)
    have hd:(qs.set j lo).drop j=lo::qs.drop (j+1):=by
     rw [List.drop_eq_getElem_cons (by rw [List.length_set];omega),List.getElem_set_self]
     congr 1
     rw [List.drop_set_of_lt (by omega)]
    rw [hd,FD,←bQ]
    simp only [val]
    have h1:(lo+10000*val 10000 (qs.drop (j+1)))*B=lo*B+10000*(val 10000 (qs.drop (j+1))*B):=by rw [Nat.add_mul,Nat.mul_assoc]
    rw [h1]
    omega
 ·have yC:i=0:=by omega
  subst yC
  simp only [List.drop_zero] at bQ
  rw [axm]
  have lX:∀{g'},EX h4 g'→af false 1 g' (pt h.length 0)=some (Go.Sim.B (decide (a<0))):=fun y=>EX.load (x4.trans y) x.a0
  have dq:DS 3 .i64 g (sl 3 h4.length 0 xs.length) qs:=by
   rw [←nU]
   exact .inr ⟨h4.length,rfl,.inr ⟨[],by simp [aQ,hq]⟩⟩
  simp only [bN,Nat.add_zero,lX xg,ag,KU dq]
  refine uK dq Nb (by omega) ?_
  intro r1 g1 y1 z1
  generalize hQ:val 10000 qs=Q at z1 bQ
  obtain ⟨rs,dr,cr,vr⟩:=hR.mono y1
  have lr:=oH cr (by rw [vr];exact mV (by omega))
  simp only [Di dr,ag]
  refine uK dr cr.1 (by omega) ?_
  intro r2 g2 y2 z2
  simp only [Bool.false_eq_true,if_false,vr] at z2
  have z1:=z1.mono y2
  have jX:EX h4 g2:=(xg.trans y1).trans y2
  have nQ:h3.length+1≤g2.length:=by have:=jX.1;omega
  obtain ⟨uq,rfl,fC⟩:=id z1
  obtain ⟨ur,rfl,nW⟩:=id z2
  have e3:∀g':ae,aW 35 [(.bool false),(.slice none 0 0)] g'=some (pt g'.length 0,g'++[.arr 35 [(.bool false),(.slice none 0 0)]]):=fun _=>rfl
  simp only [e3,aD,List.length_append,List.length_cons,List.length_nil,Nat.zero_add]
  have k0:(g2++[ak.arr 35 [(.bool false),(.slice none 0 0)]]++[ak.arr 35 [(.bool false),(.slice none 0 0)]])[g2.length]?=some (.arr 35 [(.bool false),(.slice none 0 0)]):=by simp
  have k1:(g2++[ak.arr 35 [(.bool false),(.slice none 0 0)]]++[ak.arr 35 [(.bool false),(.slice none 0 0)]])[g2.length+1]?=some (.arr 35 [(.bool false),(.slice none 0 0)]):=by simp
  have y3:EX g2 (g2++[ak.arr 35 [(.bool false),(.slice none 0 0)]]++[ak.arr 35 [(.bool false),(.slice none 0 0)]]):=(EX.append _ _).push _
  generalize g2++[ak.arr 35 [(.bool false),(.slice none 0 0)]]++[ak.arr 35 [(.bool false),(.slice none 0 0)]]=g3 at k0 k1 y3⊢
  rw [dX k0]
  simp only [aD]
  have y4:EX g2 (g3.set g2.length (.arr 35 [Go.Sim.B (decide ((if decide (a<0)=true then -(Q:Int) else (Q:Int))<0)),uq])):=y3.set (Nat.le_refl _) _
  have ql:=cJ (o:=.arr 35 [Go.Sim.B (decide ((if decide (a<0)=true then -(Q:Int) else (Q:Int))<0)),uq]) k0
  have jo:(g3.set g2.length (.arr 35 [Go.Sim.B (decide ((if decide (a<0)=true then -(Q:Int) else (Q:Int))<0)),uq]))[g2.length+1]?=some (.arr 35 [(.bool false),(.slice none 0 0)]):=by rw [List.getElem?_set_ne (by omega)];exact k1
  generalize g3.set g2.length (.arr 35 [Go.Sim.B (decide ((if decide (a<0)=true then -(Q:Int) else (Q:Int))<0)),uq])=g4 at y4 ql jo⊢
  rw [dX jo]
  simp only [aD]
  have y5:EX g2 (g4.set (g2.length+1) (.arr 35 [Go.Sim.B (decide ((R:Int)<0)),ur])):=y4.set (by omega) _
  have m1:=cJ (o:=.arr 35 [Go.Sim.B (decide ((R:Int)<0)),ur]) jo
  have m0:(g4.set (g2.length+1) (.arr 35 [Go.Sim.B (decide ((R:Int)<0)),ur]))[g2.length]?=some (.arr 35 [Go.Sim.B (decide ((if decide (a<0)=true then -(Q:Int) else (Q:Int))<0)),uq]):=by rw [List.getElem?_set_ne (by omega)];exact ql
  generalize g4.set (g2.length+1) (.arr 35 [Go.Sim.B (decide ((R:Int)<0)),ur])=pP at y5 m0 m1⊢
  have kK:EX h4 pP:=jX.trans y5
  have HX:EX h pP:=(x.ex.trans x4).trans kK
  have o4:=kK.get (x4.get x.out)
  have o5:=kK.get g5
  have zq:=z1.mono y5
  have zr:=z2.mono y5
  have zb:ZV pP (.agg #[Go.Sim.B (decide ((B:Int)<0)),w]) (B:Int):=⟨w,rfl,(hw.mono x.ex).mono (x4.trans kK)⟩
  have hQv:Q*B+R=a.natAbs:=by rw [bQ,ex]
  -- fS two results
  have put:∀(r s:Value) (g6:ae),EX pP g6→ZV g6 r (a / (B:Int))→ZV g6 s (a%(B:Int))→OH (aJ 2 g6 (pt (h.length+2) 0) r) fun _ h_1=>OH (aJ 2 h_1 (pt h3.length 0) s) fun _ h_2=>OP (af true 2 h_2 (pt (h.length+2) 0)) fun r0=>OP (af true 2 h_2 (pt h3.length 0)) fun r1=>K (.tuple #[r0,r1]) h_2:=by
   rintro r s g6 y6 Cx H5
   obtain ⟨u1,rfl,ZT⟩:=id Cx
   obtain ⟨u2,rfl,nZ⟩:=id H5
   have n4:=y6.get o4
   have n5:=y6.get o5
   rw [dX n4]
   simp only [aD]
   have F6:(g6.set (h.length+2) (.arr 35 [Go.Sim.B (decide (a / (B:Int)<0)),u1]))[h3.length]?=some (.arr 35 [.bool false,.slice none 0 0]):=by rw [List.getElem?_set_ne (by omega)];exact n5
   rw [dX F6]
   simp only [aD]
   have p4:((g6.set (h.length+2) (.arr 35 [Go.Sim.B (decide (a / (B:Int)<0)),u1])).set h3.length (.arr 35 [Go.Sim.B (decide (a%(B:Int)<0)),u2]))[h.length+2]?=some (.arr 35 [Go.Sim.B (decide (a / (B:Int)<0)),u1]):=by
    rw [List.getElem?_set_ne (by omega)];exact cJ n4
   rw [cf p4,ag,cf (cJ F6),ag]
   exact hk _ _ _ (((HX.trans y6).set (by omega) _).set (by omega) _) ((Cx.bG n4 _).bG F6 _) ((H5.bG n4 _).bG F6 _)
  have arB:(0:Int)<(B:Int):=by omega
  have un:∀q r:Int,r+(B:Int)*q=a→0≤r→r<(B:Int)→a / (B:Int)=q∧a%(B:Int)=r:=fun q r h1 h2 h3=>(Int.ediv_emod_unique arB).2 ⟨h1,h2,h3⟩
  have Mw:((Q*B:Nat):Int)=(B:Int)*(Q:Int):=by rw [Int.natCast_mul,Int.mul_comm]
  -- nothing to be aAZ
  have plain:(0≤a∨R=0)→B3 Tryz.prog K (pt (h.length+1) 0) (pt (h.length+2) 0) (pt h3.length 0) (pt g2.length 0) (pt (g2.length+1) 0) (Go.Sim.B false) undef pP∧B3 Tryz.prog K (pt (h.length+1) 0) (pt (h.length+2) 0) (pt h3.length 0) (pt g2.length 0) (pt (g2.length+1) 0) (Go.Sim.B true) (Go.Sim.B false) pP:=by
   intro hc
   have Br:a / (B:Int)=(if decide (a<0)=true then -(Q:Int) else (Q:Int))∧a%(B:Int)=(R:Int):=by
    by_cases jk:a<0
    ·have YV:R=0:=by omega
     rw [decide_eq_true jk,if_pos rfl]
     refine un _ _ ?_ (by omega) (by omega)
     rw [Int.mul_neg,←Mw]
     omega
    ·rw [decide_eq_false jk,if_neg (by simp)]
     refine un _ _ ?_ (by omega) (by omega)
     rw [←Mw]
     omega
   have tail:OP (af true 2 pP (pt g2.length 0)) fun th=>OP (af true 2 pP (pt (g2.length+1) 0)) fun jI=>OH (aJ 2 pP (pt (h.length+2) 0) th) fun _ h_1=>(af true 2 h_1 (pt (g2.length+1) 0)=some jI)∧OH (aJ 2 h_1 (pt h3.length 0) jI) fun _ h_2=>OP (af true 2 h_2 (pt (h.length+2) 0)) fun r0=>OP (af true 2 h_2 (pt h3.length 0)) fun r1=>K (.tuple #[r0,r1]) h_2:=by
    have:=put _ _ pP (EX.refl _) (by rw [Br.1];exact zq) (by rw [Br.2];exact zr)
    rw [cf m0,ag,cf m1,ag]
    rw [dX o4] at this⊢
    simp only [aD] at this⊢
    refine ⟨?_,this⟩
    refine cf (e:=35) ?_
    rw [List.getElem?_set_ne (by omega)]
    exact m1
   constructor
   ·rw [Qj]
    simp only [cV,ag,c7,true_and,and_true]
    exact tail
   ·rw [Qj]
    simp only [dh,ag,c7,true_and,and_true]
    exact tail
  have ldl:af false 1 pP (pt (g2.length+1) 1)=some ur:=by simp [af,aQ,m1,ck]
  obtain ⟨l,p1,p2⟩:=(nW.mono y5).nr
  have p2':0<l↔0<R:=by simpa using p2
  simp only [lX kK,ag,axn]
  by_cases jk:a<0
  ·rw [decide_eq_true jk]
   simp only [eO,bN,Nat.add_comm 0 1,ldl,ag,p1,eT]
   by_cases YV:R=0
   ·rw [decide_eq_false (by omega)]
    exact (plain (.inr YV)).2
   ·rw [decide_eq_true (by omega),Qj]
    have aAA:a.natAbs<bj:=mV (by omega)
    have aAy:Q≤a.natAbs:=by
     have:Q*1≤Q*B:=Nat.mul_le_mul_left _ YS
     omega
    have Bj:(1:Int).natAbs<bj:=aaR (by decide+kernel)
    simp only [dh,ag,dd,cf m0,true_and]
    refine uL (z:=1) (by decide) ?_
    intro r6 g6 y6 z6
    refine ⟨⟨EX.load y6 (cf m0),trivial⟩,?_⟩
    have N4:∀{g'},EX h4 g'→af true 2 g' (pt (h.length+1) 0)=some (.agg #[Go.Sim.B (decide ((B:Int)<0)),w]):=fun y=>EX.load (x4.trans y) x.b2
    refine CB (zq.mono y6) z6 (by rw [decide_eq_true jk,if_pos rfl];omega) Bj ?_
    intro r7 g7 y7 z7
    have xg7:=(kK.trans y6).trans y7
    simp only [N4 kK,N4 (kK.trans y6),N4 xg7,ag,cf m1,EX.load y6 (cf m1),EX.load (y6.trans y7) (cf m1),true_and,and_true]
    refine CB (zb.mono (y6.trans y7)) (zr.mono (y6.trans y7)) (by have:=mV (n:=B) (by omega);simpa using this) (by have:=mV (n:=R) (by omega);simpa using this) ?_
    intro r8 g8 y8 z8
    have Br:=un (-(Q:Int)-1) ((B:Int)-(R:Int)) (by
     rw [Int.mul_sub,Int.mul_neg,←Mw,Int.mul_one]
     omega) (by omega) (by omega)
    rw [decide_eq_true jk,if_pos rfl] at z7
    exact put _ _ g8 ((y6.trans y7).trans y8) (by rw [Br.1];exact z7.mono y8) (by rw [Br.2];exact z8)
  ·rw [decide_eq_false jk]
   simp only [ie]
   exact (plain (.inl (by omega))).1

end Go.Proofs.YtelmdbpaoifmoaaGreat


namespace Go.Proofs.YtelmdbpaoifmoaaGreat
open Go.Sim

theorem Ik {va:Value} {a:Int} {h:ae} {K:Value→ae→Prop} (ha:ZV h va a) (hk:∀u h',EX h h'→eI h' u a.natAbs→K (.agg #[B false,u]) h'):aj Tryz.prog 94 [va] h K:=by
 obtain ⟨v,rfl,hv⟩:=ha
 refine f94 ?_
 have e1:bc 35 h (.agg #[B (decide (a<0)),v])=some (pt h.length 0,h++[.arr 35 [B (decide (a<0)),v]]):=rfl
 have e2:∀g':ae,aW 35 [(.bool false),(.slice none 0 0)] g'=some (pt g'.length 0,g'++[.arr 35 [(.bool false),(.slice none 0 0)]]):=fun _=>rfl
 simp only [KD,e1,e2,aD,List.length_append,List.length_cons,List.length_nil,Nat.zero_add]
 have k0:(h++[ak.arr 35 [B (decide (a<0)),v]]++[ak.arr 35 [(.bool false),(.slice none 0 0)]])[h.length]?=some (.arr 35 [B (decide (a<0)),v]):=by simp
 have k1:(h++[ak.arr 35 [B (decide (a<0)),v]]++[ak.arr 35 [(.bool false),(.slice none 0 0)]])[h.length+1]?=some (.arr 35 [(.bool false),(.slice none 0 0)]):=by simp
 have x1:EX h (h++[ak.arr 35 [B (decide (a<0)),v]]++[ak.arr 35 [(.bool false),(.slice none 0 0)]]):=(EX.append _ _).push _
 generalize h++[ak.arr 35 [B (decide (a<0)),v]]++[ak.arr 35 [(.bool false),(.slice none 0 0)]]=h1 at k0 k1 x1⊢
 simp only [bN,Nat.add_zero,ag]
 rw [pq k0 (by simp) rfl rfl]
 simp only [aD,List.set_cons_zero]
 have jo:(h1.set h.length (.arr 35 [B false,v]))[h.length+1]?=some (.arr 35 [(.bool false),(.slice none 0 0)]):=by rw [List.getElem?_set_ne (by omega)];exact k1
 rw [cf (cJ k0)]
 simp only [ag]
 exact vB jo (hk _ _ ((x1.set (Nat.le_refl _) _).set (by omega) _) (((hv.mono x1).bG k0 _).bG jo _))

theorem RU {va vb:Value} {a b:Int} {h:ae} {K:Value→ae→Prop} (ha:ZV h va a) (hb:ZV h vb b) (la:a.natAbs<10000^199) (lb:b.natAbs<10000^199)
  (hk:∀u h',EX h h'→eI h' u (Nat.gcd a.natAbs b.natAbs)→K (.agg #[B false,u]) h'):aj Tryz.prog 68 [va,vb] h K:=by
 have lN:=ha
 have nO:=hb
 obtain ⟨v,rfl,hv⟩:=ha
 obtain ⟨w,rfl,hw⟩:=hb
 refine f68 ?_
 have e1:∀(g:ae) (s:Bool) (v:Value),bc 35 g (.agg #[B s,v])=some (pt g.length 0,g++[.arr 35 [B s,v]]):=fun _ _ _=>rfl
 have e2:∀g':ae,aW 35 [(.bool false),(.slice none 0 0)] g'=some (pt g'.length 0,g'++[.arr 35 [(.bool false),(.slice none 0 0)]]):=fun _=>rfl
 simp only [Ki,e1,e2,aD,List.length_append,List.length_cons,List.length_nil,Nat.zero_add]
 have k0:(h++[ak.arr 35 [B (decide (a<0)),v]]++[ak.arr 35 [B (decide (b<0)),w]]++[ak.arr 35 [(.bool false),(.slice none 0 0)]])[h.length]?=some (.arr 35 [B (decide (a<0)),v]):=by simp
 have k1:(h++[ak.arr 35 [B (decide (a<0)),v]]++[ak.arr 35 [B (decide (b<0)),w]]++[ak.arr 35 [(.bool false),(.slice none 0 0)]])[h.length+1]?=some (.arr 35 [B (decide (b<0)),w]):=by simp
 have k2:(h++[ak.arr 35 [B (decide (a<0)),v]]++[ak.arr 35 [B (decide (b<0)),w]]++[ak.arr 35 [(.bool false),(.slice none 0 0)]])[h.length+2]?=some (.arr 35 [(.bool false),(.slice none 0 0)]):=by simp
 have x1:EX h (h++[ak.arr 35 [B (decide (a<0)),v]]++[ak.arr 35 [B (decide (b<0)),w]]++[ak.arr 35 [(.bool false),(.slice none 0 0)]]):=((EX.append _ _).push _).push _
 generalize h++[ak.arr 35 [B (decide (a<0)),v]]++[ak.arr 35 [B (decide (b<0)),w]]++[ak.arr 35 [(.bool false),(.slice none 0 0)]]=h1 at k0 k1 k2 x1⊢
 rw [cf k0]
 simp only [ag,true_and]
 refine Ik (lN.mono x1) ?_
 intro u2 h2 x2 m2
 simp only [cf k1,EX.load x2 (cf k1),ag,true_and]
 refine Ik (nO.mono (x1.trans x2)) ?_
 intro u3 h3 x3 m3
 have ql:=(x2.trans x3).get k0
 have jo:=(x2.trans x3).get k1
 have BE:=(x2.trans x3).get k2
 have ay:=(x1.trans x2).trans x3
 have m2:=m2.mono x3
 rw [dX ql]
 simp only [aD]
 have q1:(h3.set h.length (.arr 35 [B false,u2]))[h.length+1]?=some (.arr 35 [B (decide (b<0)),w]):=by rw [List.getElem?_set_ne (by omega)];exact jo
 rw [dX q1]
 simp only [aD]
 refine db (σ:=Nat×Nat×Value×Value×ae) (fun _=>[]) (fun p=>p.2.2.2.2)
  (fun p=>EX h p.2.2.2.2∧p.2.2.2.2[h.length]?=some (.arr 35 [B false,p.2.2.1])∧p.2.2.2.2[h.length+1]?=some (.arr 35 [B false,p.2.2.2.1])∧p.2.2.2.2[h.length+2]?=some (.arr 35 [.bool false,.slice none 0 0])∧eI p.2.2.2.2 p.2.2.1 p.1∧eI p.2.2.2.2 p.2.2.2.1 p.2.1∧p.1<10000^199∧p.2.1<10000^199∧Nat.gcd p.1 p.2.1=Nat.gcd a.natAbs b.natAbs) (fun p=>p.2.1)
  (a.natAbs,b.natAbs,u2,u3,(h3.set h.length (.arr 35 [B false,u2])).set (h.length+1) (.arr 35 [B false,u3])) rfl rfl
  ⟨(ay.set (Nat.le_refl _) _).set (by omega) _,by rw [List.getElem?_set_ne (by omega)];exact cJ ql,cJ q1,by rw [List.getElem?_set_ne (by omega),List.getElem?_set_ne (by omega)];exact BE,(m2.bG ql _).bG q1 _,(m3.bG ql _).bG q1 _,la,lb,rfl⟩ ?_
 rintro ⟨x,y,ux,uy,g⟩ ⟨xg,j0,j1,j2,mx,my,lx,ly,hg⟩ L hL
 simp only at xg j0 j1 j2 mx my lx ly hg hL⊢
 rw [axi]
 obtain ⟨l,p1,p2⟩:=my.nr
 have ld:af false 1 g (pt (h.length+1) 1)=some uy:=by simp [af,aQ,j1,ck]
 simp only [bN,Nat.zero_add,ld,ag,p1,eT,bS]
 refine ⟨fun pX=>?_,fun hle=>?_⟩
 ·have hy:0<y:=p2.1 (by omega)
  rw [cf j0,ag,cf j1,ag]
  refine Ig mx.Ck my.Ck (by omega) (by simpa using lx) (by simpa using ly) ?_
  intro r s g1 y1 zr zs
  obtain ⟨u5,rfl,hu5⟩:=id zr
  obtain ⟨u6,ZN,ZX⟩:=id zs
  have gU:decide ((x:Int)%(y:Int)<0)=false:=decide_eq_false (by have:=Int.emod_nonneg (x:Int) (show (y:Int)≠0 by omega);omega)
  rw [gU] at ZN
  subst ZN
  have hmv:((x:Int)%(y:Int)).natAbs=x%y:=by
   rw [←Int.natCast_emod,Int.natAbs_natCast]
  rw [hmv] at ZX
  have gl:h.length+2<g1.length:=by
   have:=(List.getElem?_eq_some_iff.1 j2).1
   have:=y1.1
   omega
  simp only [dY,fg,fy,ag,e2,aD,List.length_append,List.length_cons,List.length_nil,Nat.zero_add]
  have n0:(g1++[ak.arr 35 [(.bool false),(.slice none 0 0)]]++[ak.arr 35 [(.bool false),(.slice none 0 0)]])[g1.length]?=some (.arr 35 [(.bool false),(.slice none 0 0)]):=by simp
  have n1:(g1++[ak.arr 35 [(.bool false),(.slice none 0 0)]]++[ak.arr 35 [(.bool false),(.slice none 0 0)]])[g1.length+1]?=some (.arr 35 [(.bool false),(.slice none 0 0)]):=by simp
  have y2:EX g1 (g1++[ak.arr 35 [(.bool false),(.slice none 0 0)]]++[ak.arr 35 [(.bool false),(.slice none 0 0)]]):=(EX.append _ _).push _
  generalize g1++[ak.arr 35 [(.bool false),(.slice none 0 0)]]++[ak.arr 35 [(.bool false),(.slice none 0 0)]]=g2 at n0 n1 y2⊢
  rw [dX n0]
  simp only [aD]
  have F5:(g2.set g1.length (.arr 35 [B (decide ((x:Int) / (y:Int)<0)),u5]))[g1.length+1]?=some (.arr 35 [(.bool false),(.slice none 0 0)]):=by rw [List.getElem?_set_ne (by omega)];exact n1
  rw [dX F5]
  simp only [aD]
  have y3:EX g1 ((g2.set g1.length (.arr 35 [B (decide ((x:Int) / (y:Int)<0)),u5])).set (g1.length+1) (.arr 35 [B false,u6])):=(y2.set (Nat.le_refl _) _).set (by omega) _
  have n6:=cJ (o:=.arr 35 [B false,u6]) F5
  generalize (g2.set g1.length (.arr 35 [B (decide ((x:Int) / (y:Int)<0)),u5])).set (g1.length+1) (.arr 35 [B false,u6])=g3 at y3 n6⊢
  have i0:=(y1.trans y3).get j0
  have i1:=(y1.trans y3).get j1
  have i2:=(y1.trans y3).get j2
  rw [cf i1]
  simp only [ag,true_and,cf n6]
  rw [dX i0]
  simp only [aD,and_true]
  have s6:(g3.set h.length (.arr 35 [B false,uy]))[g1.length+1]?=some (.arr 35 [B false,u6]):=by rw [List.getElem?_set_ne (by omega)];exact n6
  have s1:(g3.set h.length (.arr 35 [B false,uy]))[h.length+1]?=some (.arr 35 [B false,uy]):=by rw [List.getElem?_set_ne (by omega)];exact i1
  refine ⟨cf s6,?_⟩
  rw [dX s1]
  simp only [aD]
  have aB:x%y<y:=Nat.mod_lt _ hy
  refine hL (y,x%y,uy,u6,(g3.set h.length (.arr 35 [B false,uy])).set (h.length+1) (.arr 35 [B false,u6])) ⟨(((xg.trans y1).trans y3).set (Nat.le_refl _) _).set (by omega) _,?_,cJ s1,?_,(((my.mono y1).mono y3).bG i0 _).bG s1 _,(((ZX.mono y3)).bG i0 _).bG s1 _,ly,by show x%y<_;omega,?_⟩ aB
  ·show ((g3.set h.length _).set (h.length+1) _)[h.length]?=_
   rw [List.getElem?_set_ne (by omega)];exact cJ i0
  ·show ((g3.set h.length _).set (h.length+1) _)[h.length+2]?=_
   rw [List.getElem?_set_ne (by omega),List.getElem?_set_ne (by omega)];exact i2
  ·show Nat.gcd y (x%y)=_
   rw [←hg,Nat.gcd_comm x y,Nat.gcd_rec y x,Nat.gcd_comm]
 ·have hy:y=0:=by
   apply Classical.byContradiction
   intro hc
   have:=p2.2 (by omega)
   omega
  subst hy
  rw [axh,cf j0]
  simp only [ag]
  rw [Nat.gcd_zero_right] at hg
  subst hg
  exact vB j2 (hk _ _ (xg.set (by omega) _) (mx.bG j2 _))

theorem RM {va:Value} {a b:Int} {h:ae} {K:Value→ae→Prop} (ha:QZ h va a b) (hb:0<b) (la:a.natAbs<10000^199) (lb:b.natAbs<10000^199)
  (hk:∀r h',EX h h'→QZ h' r (a / (Nat.gcd a.natAbs b.natAbs:Int)) (b / (Nat.gcd a.natAbs b.natAbs:Int))→K r h'):aj Tryz.prog 25 [va] h K:=by
 obtain ⟨u,w,rfl,hu,hw⟩:=ha
 refine f25 ?_
 have e1:bc 37 h (.agg #[B (decide (a<0)),u,B (decide (b<0)),w])=some (pt h.length 0,h++[.arr 37 [B (decide (a<0)),u,B (decide (b<0)),w]]):=rfl
 have e2:∀g':ae,aW 35 [(.bool false),(.slice none 0 0)] g'=some (pt g'.length 0,g'++[.arr 35 [(.bool false),(.slice none 0 0)]]):=fun _=>rfl
 have e4:∀g':ae,aW 37 [(.bool false),(.slice none 0 0),(.bool false),(.slice none 0 0)] g'=some (pt g'.length 0,g'++[.arr 37 z4]):=fun _=>rfl
 simp only [JZ,e1,e4,aD,List.length_append,List.length_cons,List.length_nil,Nat.zero_add]
 have k0:(h++[ak.arr 37 [B (decide (a<0)),u,B (decide (b<0)),w]]++[ak.arr 37 z4])[h.length]?=some (.arr 37 [B (decide (a<0)),u,B (decide (b<0)),w]):=by simp
 have k1:(h++[ak.arr 37 [B (decide (a<0)),u,B (decide (b<0)),w]]++[ak.arr 37 z4])[h.length+1]?=some (.arr 37 z4):=by simp
 have x1:EX h (h++[ak.arr 37 [B (decide (a<0)),u,B (decide (b<0)),w]]++[ak.arr 37 z4]):=(EX.append _ _).push _
 generalize h++[ak.arr 37 [B (decide (a<0)),u,B (decide (b<0)),w]]++[ak.arr 37 z4]=h1 at k0 k1 x1⊢
 have za:ZV h1 (.agg #[B (decide (a<0)),u]) a:=⟨u,rfl,hu.mono x1⟩
 have zb:ZV h1 (.agg #[B (decide (b<0)),w]) b:=⟨w,rfl,hw.mono x1⟩
 simp only [bN,Nat.add_zero,Nat.zero_add,iO k0,jT k0,ag]
 refine RU za zb la lb ?_
 intro ug h2 x2 mg
 have arS:0<Nat.gcd a.natAbs b.natAbs:=Nat.gcd_pos_of_pos_right _ (by omega)
 have MQ:Nat.gcd a.natAbs b.natAbs≤b.natAbs:=Nat.le_of_dvd (by omega) (Nat.gcd_dvd_right _ _)
 generalize Nat.gcd a.natAbs b.natAbs=g at mg arS MQ hk
 have zg:=mg.Ck
 simp only [e2,aD]
 rw [dX bO]
 simp only [aD]
 have x3:EX h2 ((h2++[ak.arr 35 [(.bool false),(.slice none 0 0)]]).set h2.length (.arr 35 [B false,ug])):=EX.set (EX.append _ _) (Nat.le_refl _) _
 have k3:((h2++[ak.arr 35 [(.bool false),(.slice none 0 0)]]).set h2.length (.arr 35 [B false,ug]))[h2.length]?=some (.arr 35 [B false,ug]):=cJ bO
 generalize (h2++[ak.arr 35 [(.bool false),(.slice none 0 0)]]).set h2.length (.arr 35 [B false,ug])=h3 at x3 k3⊢
 have ay:=x2.trans x3
 simp only [EX.load ay (iO k0),cf k3,ag]
 have lg:((g:Nat):Int).natAbs<10000^199:=by rw [Int.natAbs_natCast];omega
 refine Ig (za.mono ay) (zg.mono x3) (by omega) la lg ?_
 intro r s h4 x4 zr zs
 obtain ⟨ur,rfl,hur⟩:=id zr
 obtain ⟨us,rfl,yN⟩:=id zs
 simp only [dY,fg,fy,ag,List.length_append,List.length_cons,List.length_nil,Nat.zero_add]
 have n0:(h4++[ak.arr 35 [(.bool false),(.slice none 0 0)]]++[ak.arr 35 [(.bool false),(.slice none 0 0)]])[h4.length]?=some (.arr 35 [(.bool false),(.slice none 0 0)]):=by simp
 have n1:(h4++[ak.arr 35 [(.bool false),(.slice none 0 0)]]++[ak.arr 35 [(.bool false),(.slice none 0 0)]])[h4.length+1]?=some (.arr 35 [(.bool false),(.slice none 0 0)]):=by simp
 have y2:EX h4 (h4++[ak.arr 35 [(.bool false),(.slice none 0 0)]]++[ak.arr 35 [(.bool false),(.slice none 0 0)]]):=(EX.append _ _).push _
 generalize h4++[ak.arr 35 [(.bool false),(.slice none 0 0)]]++[ak.arr 35 [(.bool false),(.slice none 0 0)]]=h5 at n0 n1 y2⊢
 rw [dX n0]
 simp only [aD]
 have F5:(h5.set h4.length (.arr 35 [B (decide (a / (g:Int)<0)),ur]))[h4.length+1]?=some (.arr 35 [(.bool false),(.slice none 0 0)]):=by rw [List.getElem?_set_ne (by omega)];exact n1
 rw [dX F5]
 simp only [aD]
 have y3:EX h4 ((h5.set h4.length (.arr 35 [B (decide (a / (g:Int)<0)),ur])).set (h4.length+1) (.arr 35 [B (decide (a%(g:Int)<0)),us])):=(y2.set (Nat.le_refl _) _).set (by omega) _
 have n0':((h5.set h4.length (.arr 35 [B (decide (a / (g:Int)<0)),ur])).set (h4.length+1) (.arr 35 [B (decide (a%(g:Int)<0)),us]))[h4.length]?=some (.arr 35 [B (decide (a / (g:Int)<0)),ur]):=by rw [List.getElem?_set_ne (by omega)];exact cJ n0
 generalize (h5.set h4.length (.arr 35 [B (decide (a / (g:Int)<0)),ur])).set (h4.length+1) (.arr 35 [B (decide (a%(g:Int)<0)),us])=h6 at y3 n0'⊢
 have aX:=(ay.trans x4).trans y3
 have cQ:=x4.trans y3
 simp only [EX.load aX (jT k0),EX.load cQ (cf k3),ag]
 refine Ig (zb.mono aX) (zg.mono (x3.trans cQ)) (by omega) lb lg ?_
 intro r' s' h7 x7 Cx H5
 obtain ⟨Cl,rfl,aAO⟩:=id Cx
 obtain ⟨HE,rfl,aAP⟩:=id H5
 simp only [dY,fg,fy,ag]
 have m0:(h7++[ak.arr 35 [(.bool false),(.slice none 0 0)]]++[ak.arr 35 [(.bool false),(.slice none 0 0)]])[h7.length]?=some (.arr 35 [(.bool false),(.slice none 0 0)]):=by simp
 have m1:(h7++[ak.arr 35 [(.bool false),(.slice none 0 0)]]++[ak.arr 35 [(.bool false),(.slice none 0 0)]])[h7.length+1]?=some (.arr 35 [(.bool false),(.slice none 0 0)]):=by simp
 have w2:EX h7 (h7++[ak.arr 35 [(.bool false),(.slice none 0 0)]]++[ak.arr 35 [(.bool false),(.slice none 0 0)]]):=(EX.append _ _).push _
 generalize h7++[ak.arr 35 [(.bool false),(.slice none 0 0)]]++[ak.arr 35 [(.bool false),(.slice none 0 0)]]=h8 at m0 m1 w2⊢
 rw [dX m0]
 simp only [aD]
 have FZ:(h8.set h7.length (.arr 35 [B (decide (b / (g:Int)<0)),Cl]))[h7.length+1]?=some (.arr 35 [(.bool false),(.slice none 0 0)]):=by rw [List.getElem?_set_ne (by omega)];exact m1
 rw [dX FZ]
 simp only [aD]
 have w3:EX h7 ((h8.set h7.length (.arr 35 [B (decide (b / (g:Int)<0)),Cl])).set (h7.length+1) (.arr 35 [B (decide (b%(g:Int)<0)),HE])):=(w2.set (Nat.le_refl _) _).set (by omega) _
 have m0':((h8.set h7.length (.arr 35 [B (decide (b / (g:Int)<0)),Cl])).set (h7.length+1) (.arr 35 [B (decide (b%(g:Int)<0)),HE]))[h7.length]?=some (.arr 35 [B (decide (b / (g:Int)<0)),Cl]):=by rw [List.getElem?_set_ne (by omega)];exact cJ m0
 generalize (h8.set h7.length (.arr 35 [B (decide (b / (g:Int)<0)),Cl])).set (h7.length+1) (.arr 35 [B (decide (b%(g:Int)<0)),HE])=h9 at w3 m0'⊢
 have gn:=x7.trans w3
 rw [EX.load gn (cf n0'),ag,cf m0',ag]
 exact vz (zr.mono (y3.trans gn)) (Cx.mono w3) (x1.trans (aX.trans gn)) (by omega) ((aX.trans gn).get k1) hk

theorem apW {s:List UInt8} {n:Nat} (hd:hI s) (hv:cY s=n) (hn:0<n) (hh:s.head?≠some 48):s=dj n:=by
 have e1:((s.reverse.map fun c:UInt8=>c.toNat-48).map gK).reverse=s:=by
  rw [List.map_map]
  have:s.reverse.map (gK ∘ fun c:UInt8=>c.toNat-48)=s.reverse:=by
   conv=>rhs;rw [←List.map_id s.reverse]
   apply List.map_congr_left
   intro c hc
   have h1:=hd c (by simpa using hc)
   apply UInt8.toNat_inj.1
   simp only [Function.comp,id]
   rw [rR (by omega)]
   omega
  rw [this,List.reverse_reverse]
 have dV:bX 10 (s.reverse.map fun c:UInt8=>c.toNat-48):=by
  intro x hx
  obtain ⟨c,hc,rfl⟩:=List.mem_map.1 hx
  have h1:=hd c (by simpa using hc)
  omega
 have bQ:val 10 (s.reverse.map fun c:UInt8=>c.toNat-48)=n:=by
  rw [←Q5 dV,e1,hv]
 have vN:Canon 10 (s.reverse.map fun c:UInt8=>c.toNat-48):=by
  refine ⟨dV,?_⟩
  rw [List.getLast?_map,List.getLast?_reverse]
  intro hc
  cases hs:s.head? with
  | none=>rw [hs] at hc;cases hc
  | some c=>
   rw [hs] at hc
   have MC:c.toNat-48=0:=by simpa using hc
   have oS:c∈s:=List.mem_of_mem_head? hs
   have h1:=hd c oS
   apply hh
   rw [hs]
   congr 1
   apply UInt8.toNat_inj.1
   show c.toNat=48
   omega
 obtain ⟨d1,d2⟩:=ED n
 have:=Canon.unique (by decide) vN d1 (by rw [bQ,d2])
 unfold dj
 rw [if_neg (by omega),←this,e1]

end Go.Proofs.YtelmdbpaoifmoaaGreat


namespace Go.Proofs.YtelmdbpaoifmoaaGreat
open Go.Sim

/-- Four digits. -/
def four (d:Nat):List UInt8:=[gK (d / 1000),gK (d / 100%10),gK (d / 10%10),gK (d%10)]

theorem arj {d:Nat} (hd:d<10000):hI (four d)∧cY (four d)=d:=by
 have h1:=rR (d:=d / 1000) (by omega)
 have h2:=rR (d:=d / 100%10) (by omega)
 have h3:=rR (d:=d / 10%10) (by omega)
 have h4:=rR (d:=d%10) (by omega)
 constructor
 ·intro c hc
  simp only [four,List.mem_cons,List.not_mem_nil,or_false] at hc
  rcases hc with rfl | rfl | rfl | rfl <;> omega
 ·simp only [four,Cm,h1,h2,h3,h4,List.length_cons,List.length_nil]
  simp only [cY,List.foldl_nil]
  omega

theorem R5 {va:Value} {n:Nat} {h:ae} {K:Value→ae→Prop} (ha:ZV h va n) (hn:n<bj) (hk:∀h',EX h h'→K (S (dj n)) h'):aj Tryz.prog 93 [va] h K:=by
 obtain ⟨v,rfl,hv⟩:=ha
 rw [Int.natAbs_natCast] at hv
 refine f93 ?_
 have e1:bc 35 h (.agg #[B (decide ((n:Int)<0)),v])=some (pt h.length 0,h++[.arr 35 [B (decide ((n:Int)<0)),v]]):=rfl
 simp only [KC,e1,aD]
 have x1:EX h (h++[ak.arr 35 [B (decide ((n:Int)<0)),v]]):=EX.append _ _
 have ld:af false 1 (h++[ak.arr 35 [B (decide ((n:Int)<0)),v]]) (pt h.length 1)=some v:=qm rfl
 generalize h++[ak.arr 35 [B (decide ((n:Int)<0)),v]]=h1 at x1 ld⊢
 obtain ⟨xs,dx,cx,vx⟩:=hv.mono x1
 have lx:=oH cx (by rw [vx];exact hn)
 simp only [bN,Nat.zero_add,ld,ag,dx.len,fW,bS]
 refine ⟨fun h0=>?_,fun br=>?_⟩
 ·have:xs=[]:=List.length_eq_zero_iff.1 (by omega)
  subst this
  have lR:n=0:=vx.symm
  subst lR
  exact hk _ x1
 ·have uf:0<xs.length:=by omega
  have ar9:0<n:=by
   apply Classical.byContradiction
   intro hc
   have:=Canon.zero (by decide) cx (by omega)
   rw [this] at uf
   simp at uf
  have e2:IntKind.wrap .i64 ((xs.length:Int)-1)=(xs.length:Int)-1:=wrap64 (by omega) (by omega)
  simp only [eW,e2,ag]
  refine db (σ:=Nat×List UInt8×ae) (fun p=>[S p.2.1,I ((p.1:Int)-1)]) (fun p=>p.2.2)
   (fun p=>p.1≤xs.length∧EX h1 p.2.2∧hI p.2.1∧cY p.2.1=val 10000 (xs.drop p.1)∧p.2.1.length=4*(xs.length-p.1)) (fun p=>p.1)
   (xs.length,[],h1) rfl rfl ⟨Nat.le_refl _,EX.refl _,fun c hc=>by simp at hc,by simp [cY,val],by simp⟩ ?_
  rintro ⟨i,s,g⟩ ⟨hi,xg,hd,ue,nY⟩ L hL
  simp only at hi xg hd ue nY hL⊢
  rw [ax0]
  simp only [j5,ag,bS]
  refine ⟨fun cH=>?_,fun aB=>?_⟩
  ·obtain ⟨j,rfl⟩:∃j,i=j+1:=⟨i-1,by omega⟩
   have ej:((j+1:Nat):Int)-1=(j:Int):=by omega
   have tW:j<xs.length:=by omega
   obtain ⟨ia,a1,a2⟩:=(dx.mono xg).get tW
   have Y7:xs[j]<10000:=cx.1 _ (List.getElem_mem tW)
   have FD:=ahJ 10000 xs tW
   rw [ej]
   generalize tS:xs[j]=d at a2 Y7 FD
   simp only [bN,Nat.zero_add,EX.load xg ld,ag,a1,a2]
   rw [show (.int .i64 1000:Value)=.int .i64 ((1000:Nat):Int) from rfl,show (.int .i64 100:Value)=.int .i64 ((100:Nat):Int) from rfl,show (.int .i64 10:Value)=.int .i64 ((10:Nat):Int) from rfl]
   rw [zx (by decide) (by omega),zx (b:=100) (by decide) (by omega),zx (b:=10) (by decide) (by omega)]
   simp only [ag]
   rw [xd _ _ _ (by decide),xd _ _ _ (by decide),xd _ _ _ (by decide)]
   have w:∀q:Nat,q<10→IntKind.wrap .i64 (48+(q:Int))=((48+q:Nat):Int):=fun q hq=>by rw [wrap64 (by omega) (by omega)];omega
   have w8:∀q:Nat,q<10→IntKind.wrap .u8 ((48+q:Nat):Int)=((48+q:Nat):Int):=fun q hq=>ahO (by omega) (by omega)
   simp only [ag,cC,jy,w _ (show d / 1000<10 by omega),w8 _ (show d / 1000<10 by omega),w _ (show d / 100%10<10 by omega),w8 _ (show d / 100%10<10 by omega),w _ (show d / 10%10<10 by omega),w8 _ (show d / 10%10<10 by omega),w _ (show d%10<10 by omega),w8 _ (show d%10<10 by omega)]
   rw [AE (show d / 1000<10 by omega),AE (show d / 100%10<10 by omega),AE (show d / 10%10<10 by omega),AE (show d%10<10 by omega)]
   have mk:cT 5 4 [.int .u8 0] g [(0,1,cv (gK (d / 1000))),(1,1,cv (gK (d / 100%10))),(2,1,cv (gK (d / 10%10))),(3,1,cv (gK (d%10)))]=some (sl 5 g.length 0 4,g++[.arr 5 ((four d).map cv)]):=rfl
   have yg:EX g (g++[ak.arr 5 ((four d).map cv)]):=EX.append _ _
   have bs:pb (g++[ak.arr 5 ((four d).map cv)]) (sl 5 g.length 0 4)=some (S (four d)):=uZ (b:=g.length) (e:=5) (.inr ⟨g.length,Nat.le_refl _,rfl,bO⟩)
   obtain ⟨f1,f2⟩:=arj Y7
   have f3:(four d).length=4:=rfl
   simp only [mk,aD,bs,ag]
   rw [u9 s (four d) (by rw [f3];unfold maxLen;omega)]
   have LR:IntKind.wrap .i64 ((j:Int)-1)=(j:Int)-1:=wrap64 (by omega) (by omega)
   simp only [ag,eW,LR,true_and]
   refine hL (j,s++four d,g++[ak.arr 5 ((four d).map cv)]) ⟨by show j≤xs.length;omega,xg.trans yg,fun c hc=>(List.mem_append.1 hc).elim (hd c) (f1 c),?_,by show (s++four d).length=_;rw [List.length_append,f3];omega⟩ (by show j<j+1;omega)
   show cY (s++four d)=val 10000 (xs.drop j)
   rw [xm,f2,f3,FD,ue]
   omega
  ·have yC:i=0:=by omega
   subst yC
   simp only [List.drop_zero,vx] at ue
   rw [axX]
   refine db (σ:=List UInt8) (fun s=>[S s]) (fun _=>g) (fun s=>hI s∧cY s=n∧s.length≤1000) (fun s=>s.length) s rfl rfl ⟨hd,ue,by omega⟩ ?_
   rintro t ⟨td,tv,tl⟩ L2 fX
   rw [axY]
   cases t with
   | nil=>simp [cY] at tv;omega
   | cons c t=>
    have ix:=rj (a:=c::t) (i:=0) (by simp) .i64
    have ix':hT (S (c::t)) (.int .i64 0)=some (cv c):=ix
    have eq:ah .eql (cv c) (.int .u8 48)=some (B (decide ((c.toNat:Int)=48))):=rfl
    simp only [ix',ag,eq,bS]
    refine ⟨fun jA=>?_,fun jA=>?_⟩
    ·have azc:=zA (a:=c::t) (n:=1) (by simp) .i64
     have azd:iZ (S (c::t)) (some (.int .i64 1)) none=some (S t):=azc
     simp only [azd,ag,true_and]
     refine fX t ⟨fun x hx=>td x (by simp [hx]),?_,by simp at tl;omega⟩ (by simp)
     rw [Cm] at tv
     have:c.toNat-48=0:=by omega
     rw [this] at tv
     omega
    ·rw [axZ]
     have:=apW td tv ar9 (by
      simp only [List.head?_cons,ne_eq,Option.some.injEq]
      rintro rfl
      exact jA rfl)
     rw [this]
     exact hk _ (x1.trans xg)

end Go.Proofs.YtelmdbpaoifmoaaGreat


namespace Go.Proofs.YtelmdbpaoifmoaaGreat
open Go.Sim

theorem xo {b:Nat} (h:b<4294967296):b<bj:=aaR (Nat.lt_of_lt_of_le h (by decide))

theorem Ho {a b:Nat}:kE a b<0↔a<b:=by
 unfold kE
 constructor
 ·intro h
  apply Classical.byContradiction
  intro hn
  rw [if_neg hn] at h
  split at h <;> omega
 ·intro h;rw [if_pos h];decide

theorem aim {va vb:Value} {a b:Nat} {h:ae} {K:Value→ae→Prop} (ha:cR h va a) (hb:cR h vb b) (la:a<bj) (b0:0<b) (lb:b<4294967296) (hk:∀q r h',EX h h'→cR h' q (a / b)→cR h' r (a%b)→K (.tuple #[q,r]) h'):
  aj Tryz.prog 130 [va,vb] h K:=by
 refine f130 ?_
 unfold C7
 refine Cy ha hb la (xo lb) ?_
 simp only [cK,ag,bS]
 refine ⟨fun aB=>?_,fun cH=>?_⟩
 ·have gr:=Ho.1 aB
  have lN:=ha
  obtain ⟨xs,d,c,rfl⟩:=ha
  obtain ⟨s1,s2⟩:=d.cells
  have lx:=nJ c la
  have hq:∀g,cR g (.slice none 0 0) (val 4294967296 xs / b):=fun g=>⟨[],DS.nil _ _ _,⟨fun x hx=>by simp at hx,by simp⟩,by rw [Nat.div_eq_of_lt gr];rfl⟩
  by_cases h0:xs.length=0
  ·have e:dA 177 1 4 h (.slice none 0 0) va=some (.slice none 0 0,h):=by
    simp only [dA,s1,s2]
    rw [if_pos h0]
   simp only [e,aD]
   have:xs=[]:=List.length_eq_zero_iff.1 h0
   subst this
   exact hk _ _ h (EX.refl h) (hq h) ⟨[],DS.nil _ _ _,c,by rw [Nat.mod_eq_of_lt gr]⟩
  ·have e:dA 177 1 4 h (.slice none 0 0) va=some (sl 177 h.length 0 xs.length,h++[.arr 177 (xs.map fun d:Nat=>Value.int .u32 (d:Int))]):=by
    simp only [dA,s1,s2]
    rw [if_neg h0,if_pos ⟨by omega,by unfold maxLen;omega⟩]
   simp only [e,aD]
   refine hk _ _ _ (EX.append _ _) (hq _) ⟨xs,.inr ⟨h.length,rfl,.inr ⟨[],?_⟩⟩,c,by rw [Nat.mod_eq_of_lt gr]⟩
   simp [aQ]
 ·have gr:b≤a:=by
   apply Classical.byContradiction
   intro hc
   exact cH (Ho.2 (by omega))
  obtain ⟨ys,d,c,hy⟩:=id hb
  have hlen:ys.length=1:=by
   have h1:ys.length≤1:=c.len (k:=1) (by decide) (by rw [hy];simpa using lb)
   have h2:ys≠[]:=by rintro rfl;simp [val] at hy;omega
   have:0<ys.length:=List.length_pos_iff.2 h2
   omega
  obtain ⟨y,rfl⟩:∃y,ys=[y]:=by
   match ys,hlen with
   | [y],_=>exact ⟨y,rfl⟩
  have n9:y=b:=by simpa [val] using hy
  subst n9
  obtain ⟨i,g1,g2⟩:=d.get (j:=0) (by simp)
  have vF:aS 1 vb (.int .i64 (0))=some (pt i 0):=g1
  have Oa:aY vb=some (I 1):=d.len
  simp only [Oa,ag,fW,decide_true,dd,vF,g2,List.getElem_cons_zero]
  refine Rw ha la b0 lb ?_
  intro q h2 x2 hq
  have mk:∀(g:ae) (r:Nat),cT 177 1 [(.int .u32 (0))] g [(0,1,.int .u32 (r:Int))]=some (sl 177 g.length 0 1,g++[.arr 177 [.int .u32 (r:Int)]]):=fun _ _=>rfl
  simp only [dY,fg,fy,ag,mk,aD]
  have x3:EX h2 (h2++[.arr 177 [.int .u32 ((a%y:Nat):Int)]]):=EX.append _ _
  have dr:DS 177 .u32 (h2++[.arr 177 [.int .u32 ((a%y:Nat):Int)]]) (sl 177 h2.length 0 1) [a%y]:=.inr ⟨h2.length,rfl,.inr ⟨[],by simp [aQ]⟩⟩
  have hm:a%y<y:=Nat.mod_lt _ b0
  refine pD dr (fun x hx=>by rw [List.mem_singleton.1 hx];omega) (by simp) ?_
  intro v' jR
  have e:val 4294967296 [a%y]=a%y:=by simp [val]
  rw [e] at jR
  exact hk _ _ _ (x2.trans x3) (hq.mono x3) jR

theorem Ru {va:Value} {a:Int} {h:ae} {K:Value→ae→Prop} (ha:dn h va a) (hk:∀h',EX h h'→K (I (if a=0 then 0 else if a<0 then -1 else 1)) h'):aj Tryz.prog 109 [va] h K:=by
 obtain ⟨v,rfl,hv⟩:=ha
 refine f109 ?_
 have e1:bc 105 h (.agg #[B (decide (a<0)),v])=some (pt h.length 0,h++[.arr 105 [B (decide (a<0)),v]]):=rfl
 have x1:EX h (h++[.arr 105 [B (decide (a<0)),v]]):=EX.append _ _
 have l1:af false 1 (h++[ak.arr 105 [B (decide (a<0)),v]]) (pt h.length 1)=some v:=qm rfl
 have l0:af false 1 (h++[ak.arr 105 [B (decide (a<0)),v]]) (pt h.length 0)=some (B (decide (a<0))):=qm rfl
 obtain ⟨l,e2,e3⟩:=hv.nr
 simp only [Jn,e1,aD,bN,Nat.zero_add,Nat.add_zero,ag,l1,l0,e2,fW,bS]
 refine ⟨fun hz=>?_,fun hz=>⟨fun hn=>?_,fun hn=>?_⟩⟩
 ·have:=hk _ x1
  rw [if_pos (by omega)] at this
  exact this
 ·have:=hk _ x1
  rw [if_neg (by omega),if_pos hn] at this
  exact this
 ·have:=hk _ x1
  rw [if_neg (by omega),if_neg hn] at this
  exact this

theorem H7 {va vb:Value} {a b:Int} {h:ae} {K:Value→ae→Prop} (ha:dn h va a) (hb:dn h vb b) (la:a.natAbs<bj) (lb:b.natAbs<bj) (hk:∀h',EX h h'→K (I (if a-b=0 then 0 else if a-b<0 then -1 else 1)) h'):aj Tryz.prog 111 [va,vb] h K:=by
 have lN:=ha
 have nO:=hb
 obtain ⟨v,rfl,hv⟩:=ha
 obtain ⟨w,rfl,hw⟩:=hb
 refine f111 ?_
 have e1:∀(g:ae) (s:Bool) (v:Value),bc 105 g (.agg #[B s,v])=some (pt g.length 0,g++[.arr 105 [B s,v]]):=fun _ _ _=>rfl
 simp only [Jq,e1,aD]
 have g0:(h++[ak.arr 105 [B (decide (a<0)),v]]++[ak.arr 105 [B (decide (b<0)),w]])[h.length]?=some (.arr 105 [B (decide (a<0)),v]):=by simp
 have g1:(h++[ak.arr 105 [B (decide (a<0)),v]]++[ak.arr 105 [B (decide (b<0)),w]])[(h++[ak.arr 105 [B (decide (a<0)),v]]).length]?=some (.arr 105 [B (decide (b<0)),w]):=bO
 have x1:EX h (h++[ak.arr 105 [B (decide (a<0)),v]]++[ak.arr 105 [B (decide (b<0)),w]]):=(EX.append _ _).push _
 generalize h++[ak.arr 105 [B (decide (a<0)),v]]++[ak.arr 105 [B (decide (b<0)),w]]=h1 at g0 g1 x1⊢
 rw [cf g0,cf g1]
 simp only [ag]
 refine aik (lN.mono x1) (nO.mono x1) la lb ?_
 intro r h2 x2 hr
 exact Ru hr fun h3 x3=>hk h3 (x1.trans (x2.trans x3))

theorem dn.nat {h:ae} {v:Value} {n:Nat} (p:cR h v n):dn h (.agg #[B false,v]) (n:Int):=⟨v,by rw [decide_eq_false (by omega)],by rwa [Int.natAbs_natCast]⟩

end Go.Proofs.YtelmdbpaoifmoaaGreat


namespace Go.Sim

theorem val_two {B:Nat} {xs:List Nat} (h:bX B xs) {n:Nat} (hn:xs.length=n+2):∃l,l<B^n∧val B xs=l+(xs[n]+xs[n+1]*B)*B^n:=by
 refine ⟨val B (xs.take n),?_,?_⟩
 ·have:=kF (xs:=xs.take n) (h.mono fun y hy=>List.mem_of_mem_take hy)
  rwa [List.length_take,Nat.min_eq_left (by omega)] at this
 ·have h1:=gO B xs (i:=n) (by omega)
  have h2:=gO B xs (i:=n+1) (by omega)
  rw [List.take_of_length_le (by omega),h1] at h2
  rw [h2,Nat.pow_succ]
  generalize B^n=P
  grind

theorem azO {B:Nat} {xs:List Nat} (h:bX B xs) {n:Nat} (hn:xs.length=n+3):∃l,l<B^n∧val B xs=l+(xs[n]+(xs[n+1]+xs[n+2]*B)*B)*B^n:=by
 refine ⟨val B (xs.take n),?_,?_⟩
 ·have:=kF (xs:=xs.take n) (h.mono fun y hy=>List.mem_of_mem_take hy)
  rwa [List.length_take,Nat.min_eq_left (by omega)] at this
 ·have h1:=gO B xs (i:=n) (by omega)
  have h2:=gO B xs (i:=n+1) (by omega)
  have h3:=gO B xs (i:=n+2) (by omega)
  rw [List.take_of_length_le (by omega),h2,h1] at h3
  rw [h3,show B^(n+2)=B^n*B*B from by rw [Nat.pow_succ,Nat.pow_succ],Nat.pow_succ]
  generalize B^n=P
  grind

def mid (us:List Nat) (j:Nat) (xs:List Nat):List Nat:=us.take j++(xs++us.drop (j+xs.length))

theorem yY {us:List Nat} {j:Nat} {xs:List Nat} (h:j+xs.length≤us.length):(mid us j xs).length=us.length:=by
 unfold mid
 simp only [List.length_append,List.length_take,List.length_drop]
 omega

theorem aa1 {us:List Nat} {j k:Nat} {xs:List Nat} (hj:j≤us.length) (h:xs.length≤k):(mid us j xs)[j+k]?=us[j+k]?:=by
 unfold mid
 rw [List.getElem?_append_right (by rw [List.length_take];omega),List.length_take,Nat.min_eq_left hj,Nat.add_sub_cancel_left,List.getElem?_append_right h,List.getElem?_drop]
 congr 1
 omega

theorem auf {us:List Nat} {j k:Nat} {xs:List Nat} (hj:j≤us.length) (h:k<xs.length):(mid us j xs)[j+k]?=xs[k]?:=by
 unfold mid
 rw [List.getElem?_append_right (by rw [List.length_take];omega),List.length_take,Nat.min_eq_left hj,Nat.add_sub_cancel_left,List.getElem?_append_left h]

theorem F1 {us:List Nat} {j d:Nat} {xs:List Nat} (h:j+xs.length<us.length):(mid us j xs).set (j+xs.length) d=mid us j (xs++[d]):=by
 unfold mid
 rw [List.set_append_right _ _ (by rw [List.length_take];omega),List.length_take,Nat.min_eq_left (by omega),Nat.add_sub_cancel_left,List.set_append_right _ _ (Nat.le_refl _),Nat.sub_self,List.drop_eq_getElem_cons h,List.set_cons_zero,List.length_append,List.append_assoc]
 rfl

theorem aa2 (us:List Nat) (j:Nat):mid us j []=us:=by unfold mid;simp

theorem aue {us:List Nat} {j:Nat} {xs ys:List Nat} (hj:j+xs.length≤us.length) (h:ys.length=xs.length):mid (mid us j xs) j ys=mid us j ys:=by
 unfold mid
 have e1:(us.take j++(xs++us.drop (j+xs.length))).take j=us.take j:=by
  rw [List.take_append_of_le_length (by rw [List.length_take];omega),List.take_take,Nat.min_self]
 have e2:(us.take j++(xs++us.drop (j+xs.length))).drop (j+ys.length)=us.drop (j+ys.length):=by
  rw [h,←List.append_assoc,List.drop_append_of_le_length (by rw [List.length_append,List.length_take];omega),List.drop_eq_nil_of_le (by rw [List.length_append,List.length_take];omega),List.nil_append]
 rw [e1,e2]

section
variable {B P U V ul vl u2 v2 top v1 : Nat}

theorem ary (hU:U=ul+(u2+top*B)*P) (oX:ul<P) (nZ:u2<B) (hV:V=vl+(v2+v1*B)*P) (h1:0<v1):U / V≤top / v1:=by
 rw [Nat.le_div_iff_mul_le h1]
 have h2:U / V*V≤U:=Nat.div_mul_le_self U V
 generalize U / V=q at*
 apply Classical.byContradiction
 intro hn
 have h3:top+1≤q*v1:=by omega
 have h4:(top+1)*(B*P)≤q*v1*(B*P):=Nat.mul_le_mul_right _ h3
 have h5:q*v1*(B*P)≤q*V:=by
  rw [hV]
  have:q*(vl+(v2+v1*B)*P)=q*v1*(B*P)+q*(vl+v2*P):=by grind
  omega
 have h6:U<(top+1)*(B*P):=by
  have e1:(top+1)*(B*P)=top*B*P+B*P:=by grind
  have e2:(u2+top*B)*P=u2*P+top*B*P:=by grind
  have e3:(u2+1)*P≤B*P:=Nat.mul_le_mul_right _ (by omega)
  have e4:(u2+1)*P=u2*P+P:=by grind
  omega
 omega

theorem arx {g r:Nat} (hU:U=ul+(u2+top*B)*P) (oX:ul<P) (hV:V=vl+(v2+v1*B)*P) (qX:U<V*B) (hg:g*v1+r=top) (hq:U / V≤g) (qZ:B≤g∨r*B+u2<g*v2):U / V+1≤g:=by
 have hV0:0<V:=by
  apply Nat.pos_of_ne_zero
  intro e
  rw [e] at qX
  omega
 have Na:U / V<B:=by rw [Nat.div_lt_iff_lt_mul hV0,Nat.mul_comm];exact qX
 rcases qZ with hb | hb
 ·omega
 have h2:U / V*V≤U:=Nat.div_mul_le_self U V
 generalize U / V=q at*
 apply Classical.byContradiction
 intro hn
 have hqg:q=g:=by omega
 subst hqg
 have h3:q*((v2+v1*B)*P)≤q*V:=by rw [hV];exact Nat.mul_le_mul_left _ (by omega)
 have h4:q*(v2+v1*B)*P<(u2+top*B+1)*P:=by
  have e1:q*((v2+v1*B)*P)=q*(v2+v1*B)*P:=by grind
  have e2:(u2+top*B+1)*P=(u2+top*B)*P+P:=by grind
  omega
 have h5:q*(v2+v1*B)<u2+top*B+1:=Nat.lt_of_mul_lt_mul_right h4
 rw [←hg] at h5
 have e3:q*(v2+v1*B)=q*v2+q*v1*B:=by grind
 have e4:(q*v1+r)*B=q*v1*B+r*B:=by grind
 omega

theorem YI {g r:Nat} (hU:U=ul+(u2+top*B)*P) (hV:V=vl+(v2+v1*B)*P) (oZ:vl<P) (h1:0<v1) (hg:g*v1+r=top) (nc:g<B) (aA:g*v2≤r*B+u2):g*V<U+V:=by
 have e1:g*V=g*vl+(g*v2+g*v1*B)*P:=by rw [hV];grind
 have e2:top*B=g*v1*B+r*B:=by rw [←hg];grind
 have e3:(g*v2+g*v1*B)*P≤(u2+top*B)*P:=Nat.mul_le_mul_right _ (by omega)
 have e4:g*vl<V:=by
  have a1:g*vl≤g*P:=Nat.mul_le_mul_left _ (by omega)
  have hP:0<P:=by omega
  have a2:g*P<B*P:=Nat.mul_lt_mul_of_pos_right nc hP
  have a3:B*P≤v1*B*P:=by
   have:1*(B*P)≤v1*(B*P):=Nat.mul_le_mul_right _ h1
   rw [Nat.mul_assoc]
   omega
  have a4:(v2+v1*B)*P=v2*P+v1*B*P:=by grind
  omega
 omega

theorem azD {un w:Nat} (hB:0<B) (hU:U=ul+(u2+top*B)*P) (qf:top=w+un*B) (hV:V=vl+(v2+v1*B)*P) (oZ:vl<P) (oY:v2<B) (qX:U<V*B):un≤v1:=by

 apply Classical.byContradiction
 intro hn
 have h1:(v1+1)*(B*P)*B≤un*(B*P)*B:=Nat.mul_le_mul_right _ (Nat.mul_le_mul_right _ (by omega))
 have h2:un*(B*P)*B≤U:=by
  rw [hU,qf]
  have:(u2+(w+un*B)*B)*P=(u2+w*B)*P+un*(B*P)*B:=by grind
  omega
 have h3:V<(v1+1)*(B*P):=by
  have e1:(v1+1)*(B*P)=v1*B*P+B*P:=by grind
  have e2:(v2+v1*B)*P=v2*P+v1*B*P:=by grind
  have e3:(v2+1)*P≤B*P:=Nat.mul_le_mul_right _ (by omega)
  have e4:(v2+1)*P=v2*P+P:=by grind
  omega
 have h4:V*B<(v1+1)*(B*P)*B:=Nat.mul_lt_mul_of_pos_right h3 hB
 omega

end
end Go.Sim


namespace Go.Proofs.YtelmdbpaoifmoaaGreat
open Go.Sim
variable (P : Program) (K : VK)
/-! F135: math/bits.LeadingZeros32 -/
noncomputable section
variable (x0 : Value) (h : ae)
def ab0:=bp Tryz.prog 135 [[],[]]
@[irreducible] def Vt:=bw ab0
theorem atO:ab0=some (6,Vt,[.tmp 2]):=by kernel_rfl
def JN:Prop:=
 aj P 141 [x0] h fun x4 h_1=>
 OP (ah .sub (.int .i64 (32)) x4) fun x5=>
 K x5 h_1
theorem aqC:ai P Vt (aO [.tmp 2] K) (bk [x0]) h=JN P K x0 h:=by kernel_rfl
theorem f135 {K:VK} {x0:Value} {h:ae} (H:JN Tryz.prog K x0 h):aj Tryz.prog 135 [x0] h K:=
 bD atO (Nat.le_of_ble_eq_true rfl) ((aqC Tryz.prog K x0 h).mpr H)
end
/-! F136: pommel/num.up -/
noncomputable section
variable (x0 n1 x5 ay aP a9 : Value) (L1 : LQ) (xs : List Value) (h : ae)
def ab1:=bp Tryz.prog 136 [[],[],[],[1,5,13,14],[15],[],[],[],[],[],[],[5],[]]
@[irreducible] def DL:=bw ab1
@[irreducible] def ann:=DL.r.r.l.r.l.l
@[irreducible] def Vu:=DL.r.r.r
@[irreducible] def anm:=Vu.l
theorem atP:ab1=some (41,DL,[.tmp 4]):=by kernel_rfl
def IJ (_P:Program) (K:VK):aq:=aO [.tmp 4] K
def aj7:aq:=aC (ai P Vu (IJ P K)) (IJ P K)
def aj8:aq:=bz 0 (aj7 P K)
def aj9:aq:=aC (fun f' aR=>(([1,5,13,14]:List Nat).map f':List Value)=[n1,x5,ay,aP]∧L1 (([15]:List Nat).map f') aR) (aj8 P K)
def ad8:Prop:=au (ai P ann (aj9 P K n1 x5 ay aP L1)) ([1,5,13,14]++[15]) ([n1,x5,ay,aP]++xs) h
def ad7:Prop:=au (ai P anm (IJ P K)) [5] [x5] h
theorem avZ (n1 x5 ay aP:Value) (L1:LQ) (a9:Value) (h:ae):ad8 P K n1 x5 ay aP L1 [a9] h=
 (OP (ah .lss a9 aP) fun aX=>
 aL aX
 (OP (aS 1 ay a9) fun aN=>
 OP (af false 1 h aN) fun aM=>
 OP (cS .u64 aM) fun bf=>
 OP (ah .shl bf n1) fun bV=>
 OP (aS 1 x5 a9) fun cF=>
 OP (af false 1 h cF) fun bR=>
 OP (cS .u32 bV) fun bZ=>
 OP (ah .or bR bZ) fun cP=>
 OP (aS 1 x5 a9) fun bY=>
 OH (aJ 1 h bY cP) fun _ h_1=>
 OP (ah .add a9 (.int .i64 (1))) fun cm=>
 OP (ah .shr bV (.int .u64 (32))) fun cQ=>
 OP (cS .u32 cQ) fun dM=>
 OP (aS 1 x5 cm) fun cG=>
 OH (aJ 1 h_1 cG dM) fun _ h_2=>
 OP (ah .add a9 (.int .i64 (1))) fun di=>
 ([n1,x5,ay,aP]:List Value)=[n1,x5,ay,aP]∧L1 [di] h_2)
 (ad7 P K x5 h)):=aw (by kernel_rfl)
theorem avY:ad7 P K x5 h=
 (K x5 h):=aw (by kernel_rfl)
def JO:Prop:=
 OP (aY x0) fun aF=>
 OP (ah .add aF (.int .i64 (1))) fun ax=>
 OH (kD 177 4 [(.int .u32 (0))] h ax ax) fun az h_1=>
 OP (aY x0) fun aP=>
 cB [(.int .i64 (0))] h_1 fun L1 xs hx=>
 ad8 P K n1 az x0 aP L1 xs hx
theorem aqD:ai P DL (aO [.tmp 4] K) (bk [x0,n1]) h=JO P K x0 n1 h:=by kernel_rfl
theorem f136 {K:VK} {x0 n1:Value} {h:ae} (H:JO Tryz.prog K x0 n1 h):aj Tryz.prog 136 [x0,n1] h K:=
 bD atP (Nat.le_of_ble_eq_true rfl) ((aqD Tryz.prog K x0 n1 h).mpr H)
end
/-! F137: pommel/num.digit -/
noncomputable section
variable (u0 v1 n5 x7 x8 x9 aF ay mh gZ kG xq : Value) (L1 : LQ) (xs : List Value) (h : ae)
def ab2:=bp Tryz.prog 137 [[],[],[],[],[0,1,5],[7,8],[],[],[],[],[],[0,1,5,7],[],[],[0,1,5,7,83],[9,10,84],[],[],[],[],[],[],[0,1,5,7,9,10],[],[],[],[],[],[0,1,5,7,132],[13,133],[],[],[],[],[0,5,7,13],[7],[]]
@[irreducible] def DM:=bw ab2
@[irreducible] def ans:=DM.r.r.r.r.l.l.l
@[irreducible] def Vy:=DM.r.r.r.r.r
@[irreducible] def K8:=Vy.l
@[irreducible] def ano:=K8.r.l.r.l.l
@[irreducible] def Vv:=K8.r.r
@[irreducible] def DN:=Vv.l
@[irreducible] def anp:=DN.r.l.r.l.r.r.l.r.l.l
@[irreducible] def Vx:=DN.r.l.r.l.r.r.r
@[irreducible] def Vw:=DN.r.r
@[irreducible] def anq:=Vx.l
@[irreducible] def anr:=Vw.l
theorem atQ:ab2=some (162,DM,[.tmp 4]):=by kernel_rfl
def rK (_P:Program) (K:VK):aq:=aO [.tmp 4] K
def akg:aq:=aC (ai P Vy (rK P K)) (rK P K)
def akh:aq:=bz 0 (akg P K)
def aki:aq:=aC (fun f' aR=>(([0,1,5]:List Nat).map f':List Value)=[u0,v1,n5]∧L1 (([7,8]:List Nat).map f') aR) (akh P K)
def aka:aq:=aC (ai P Vv (rK P K)) (rK P K)
def akb:aq:=bz 2 (aka P K)
def akc:aq:=aC (fun f' aR=>(([0,1,5,7,83]:List Nat).map f':List Value)=[u0,v1,n5,x7,mh]∧L1 (([9,10,84]:List Nat).map f') aR) (akb P K)
def IK:aq:=aC (ai P Vw (rK P K)) (rK P K)
def akd:aq:=aC (ai P Vx (IK P K)) (IK P K)
def ake:aq:=bz 4 (akd P K)
def akf:aq:=aC (fun f' aR=>(([0,1,5,7,132]:List Nat).map f':List Value)=[u0,v1,n5,x7,kG]∧L1 (([13,133]:List Nat).map f') aR) (ake P K)
def aec:Prop:=au (ai P ans (aki P K u0 v1 n5 L1)) ([0,1,5]++[7,8]) ([u0,v1,n5]++xs) h
def uw:Prop:=au (ai P K8 (rK P K)) [0,1,5,7] [u0,v1,n5,x7] h
def ad9:Prop:=au (ai P ano (akc P K u0 v1 n5 x7 mh L1)) ([0,1,5,7,83]++[9,10,84]) ([u0,v1,n5,x7,mh]++xs) h
def aea:Prop:=au (ai P DN (rK P K)) [0,1,5,7,9,10] [u0,v1,n5,x7,x9,aF] h
def O8:Prop:=au (ai P anp (akf P K u0 v1 n5 x7 kG L1)) ([0,1,5,7,132]++[13,133]) ([u0,v1,n5,x7,kG]++xs) h
def aeb:Prop:=au (ai P anq (IK P K)) [0,5,7,13] [u0,n5,x7,ay] h
def BY:Prop:=au (ai P anr (rK P K)) [7] [x7] h
theorem av6 (u0 v1 n5:Value) (L1:LQ) (x7 x8:Value) (h:ae):aec P K u0 v1 n5 L1 [x7,x8] h=
 (OP (ah .shr x7 (.int .u64 (32))) fun gj=>
 OP (ah .gtr gj (.int .u64 (0))) fun dS=>
 bU dS false
 (OP (ah .sub n5 (.int .i64 (2))) fun iR=>
 OP (aS 1 v1 iR) fun cn=>
 OP (af false 1 h cn) fun fh=>
 (True)∧
 OP (cS .u64 fh) fun fU=>
 OP (ah .mul x7 fU) fun dL=>
 OP (ah .shl x8 (.int .u64 (32))) fun eA=>
 OP (ah .sub n5 (.int .i64 (2))) fun kH=>
 OP (aS 1 u0 kH) fun iF=>
 OP (af false 1 h iF) fun gQ=>
 (True)∧
 OP (cS .u64 gQ) fun fJ=>
 OP (ah .or eA fJ) fun mQ=>
 OP (ah .gtr dL mQ) fun fD=>
 OP (bK dS (.bool true) fD) fun eG=>
 aL eG
 (OP (ah .sub x7 (.int .u64 (1))) fun kI=>
 OP (ah .sub n5 (.int .i64 (1))) fun jG=>
 OP (aS 1 v1 jG) fun gG=>
 OP (af false 1 h gG) fun je=>
 OP (cS .u64 je) fun fK=>
 OP (ah .add x8 fK) fun eB=>
 OP (ah .shr eB (.int .u64 (32))) fun qG=>
 OP (ah .gtr qG (.int .u64 (0))) fun jH=>
 aL jH
 (uw P K u0 v1 n5 kI h)
 (([u0,v1,n5]:List Value)=[u0,v1,n5]∧L1 [kI,eB] h))
 (uw P K u0 v1 n5 x7 h))
 (OP (bK dS (.bool true) undef) fun eG=>
 aL eG
 (OP (ah .sub x7 (.int .u64 (1))) fun kI=>
 OP (ah .sub n5 (.int .i64 (1))) fun jG=>
 OP (aS 1 v1 jG) fun gG=>
 OP (af false 1 h gG) fun je=>
 OP (cS .u64 je) fun fK=>
 OP (ah .add x8 fK) fun eB=>
 OP (ah .shr eB (.int .u64 (32))) fun qG=>
 OP (ah .gtr qG (.int .u64 (0))) fun jH=>
 aL jH
 (uw P K u0 v1 n5 kI h)
 (([u0,v1,n5]:List Value)=[u0,v1,n5]∧L1 [kI,eB] h))
 (uw P K u0 v1 n5 x7 h))):=aw (by kernel_rfl)
theorem av1 (u0 v1 n5 x7 mh:Value) (L1:LQ) (x9 aF gZ:Value) (h:ae):ad9 P K u0 v1 n5 x7 mh L1 [x9,aF,gZ] h=
 (OP (ah .lss gZ mh) fun qH=>
 aL qH
 (OP (aS 1 v1 gZ) fun th=>
 OP (af false 1 h th) fun jI=>
 OP (cS .u64 jI) fun qI=>
 OP (ah .mul x7 qI) fun ti=>
 OP (ah .add ti x9) fun zO=>
 OP (ah .shr zO (.int .u64 (32))) fun Ct=>
 OP (aS 1 u0 gZ) fun xp=>
 OP (af false 1 h xp) fun Cr=>
 OP (cS .u32 zO) fun Rb=>
 aj P 134 [Cr,Rb,aF] h fun zN h_1=>
 OP (b9 0 zN) fun HU=>
 OP (b9 1 zN) fun Rc=>
 OP (aS 1 u0 gZ) fun Rd=>
 OH (aJ 1 h_1 Rd HU) fun _ h_2=>
 OP (ah .add gZ (.int .i64 (1))) fun Re=>
 ([u0,v1,n5,x7,mh]:List Value)=[u0,v1,n5,x7,mh]∧L1 [Ct,Rc,Re] h_2)
 (aea P K u0 v1 n5 x7 x9 aF h)):=aw (by kernel_rfl)
theorem av3 (u0 v1 n5 x7 kG:Value) (L1:LQ) (ay xq:Value) (h:ae):O8 P K u0 v1 n5 x7 kG L1 [ay,xq] h=
 (OP (ah .lss xq kG) fun az4=>
 aL az4
 (OP (aS 1 u0 xq) fun az5=>
 OP (af false 1 h az5) fun az6=>
 (True)∧
 OP (aS 1 v1 xq) fun az7=>
 OP (af false 1 h az7) fun az8=>
 (True)∧
 aj P 133 [az6,az8,ay] h fun ahT h_1=>
 (True)∧
 OP (b9 0 ahT) fun az9=>
 OP (b9 1 ahT) fun aAa=>
 OP (aS 1 u0 xq) fun aAb=>
 OH (aJ 1 h_1 aAb az9) fun _ h_2=>
 (True)∧
 OP (ah .add xq (.int .i64 (1))) fun aAc=>
 ([u0,v1,n5,x7,kG]:List Value)=[u0,v1,n5,x7,kG]∧L1 [aAa,aAc] h_2)
 (aeb P K u0 n5 x7 ay h)):=aw (by kernel_rfl)
theorem av4:aeb P K u0 n5 x7 ay h=
 (OP (aS 1 u0 n5) fun aAd=>
 OP (af false 1 h aAd) fun aAe=>
 OP (ah .add aAe ay) fun aAf=>
 OP (aS 1 u0 n5) fun aAg=>
 OH (aJ 1 h aAg aAf) fun _ h_1=>
 BY P K x7 h_1):=aw (by kernel_rfl)
theorem av5:BY P K x7 h=
 (OP (cS .u32 x7) fun aAh=>
 K aAh h):=aw (by kernel_rfl)
theorem av2:aea P K u0 v1 n5 x7 x9 aF h=
 (OP (aS 1 u0 n5) fun azW=>
 OP (af false 1 h azW) fun azX=>
 OP (cS .u32 x9) fun azY=>
 aj P 134 [azX,azY,aF] h fun ahR h_1=>
 OP (b9 0 ahR) fun azZ=>
 OP (b9 1 ahR) fun az0=>
 OP (aS 1 u0 n5) fun az1=>
 OH (aJ 1 h_1 az1 azZ) fun _ h_2=>
 OP (ah .gtr az0 (.int .u32 (0))) fun az2=>
 aL az2
 (OP (ah .sub x7 (.int .u64 (1))) fun az3=>
 OP (aY v1) fun kG=>
 cB [(.int .u32 (0)),(.int .i64 (0))] h_2 fun L1 xs hx=>
 O8 P K u0 v1 n5 az3 kG L1 xs hx)
 (BY P K x7 h_2)):=aw (by kernel_rfl)
theorem av0:uw P K u0 v1 n5 x7 h=
 (OP (aY v1) fun mh=>
 cB [(.int .u64 (0)),(.int .u32 (0)),(.int .i64 (0))] h fun L1 xs hx=>
 ad9 P K u0 v1 n5 x7 mh L1 xs hx):=aw (by kernel_rfl)
def JP:Prop:=
 OP (aY v1) fun aX=>
 OP (aS 1 u0 aX) fun aM=>
 OP (af false 1 h aM) fun aT=>
 (True)∧
 OP (cS .u64 aT) fun bf=>
 OP (ah .shl bf (.int .u64 (32))) fun bt=>
 OP (ah .sub aX (.int .i64 (1))) fun bL=>
 OP (aS 1 u0 bL) fun cF=>
 OP (af false 1 h cF) fun bR=>
 (True)∧
 OP (cS .u64 bR) fun bE=>
 OP (ah .or bt bE) fun bZ=>
 OP (ah .sub aX (.int .i64 (1))) fun dJ=>
 OP (aS 1 v1 dJ) fun cm=>
 OP (af false 1 h cm) fun dc=>
 (True)∧
 OP (cS .u64 dc) fun cQ=>
 OP (ah .quo bZ cQ) fun dM=>
 OP (ah .sub aX (.int .i64 (1))) fun dm=>
 OP (aS 1 v1 dm) fun dR=>
 OP (af false 1 h dR) fun bM=>
 (True)∧
 OP (cS .u64 bM) fun ba=>
 OP (ah .rem bZ ba) fun bW=>
 cB [dM,bW] h fun L1 xs hx=>
 aec P K u0 v1 aX L1 xs hx
theorem aqE:ai P DM (aO [.tmp 4] K) (bk [u0,v1]) h=JP P K u0 v1 h:=by kernel_rfl
theorem f137 {K:VK} {u0 v1:Value} {h:ae} (H:JP Tryz.prog K u0 v1 h):aj Tryz.prog 137 [u0,v1] h K:=
 bD atQ (Nat.le_of_ble_eq_true rfl) ((aqE Tryz.prog K u0 v1 h).mpr H)
end
/-! F138: pommel/num.down -/
noncomputable section
variable (x0 n1 x5 i6 t7 az ay : Value) (L1 : LQ) (xs : List Value) (h : ae)
def ab3:=bp Tryz.prog 138 [[],[],[],[0,1,5,12],[13],[],[],[],[],[],[0,1,5,6,7,12,13],[0,1,5,12,13],[5],[]]
@[irreducible] def DO:=bw ab3
@[irreducible] def K9:=DO.r.r.l.r.l.l
@[irreducible] def Vz:=DO.r.r.r
@[irreducible] def ant:=K9.r.r.l.l.r.r.r.l
@[irreducible] def VA:=K9.r.r.r
@[irreducible] def anv:=Vz.l
@[irreducible] def anu:=VA.l
theorem atS:ab3=some (45,DO,[.tmp 4]):=by kernel_rfl
def IL (_P:Program) (K:VK):aq:=aO [.tmp 4] K
def akk:aq:=aC (ai P Vz (IL P K)) (IL P K)
def akl:aq:=bz 0 (akk P K)
def CN:aq:=aC (fun f' aR=>(([0,1,5,12]:List Nat).map f':List Value)=[x0,n1,x5,az]∧L1 (([13]:List Nat).map f') aR) (akl P K)
def akm:aq:=aC (ai P VA (CN P K x0 n1 x5 az L1)) (CN P K x0 n1 x5 az L1)
def akj:aq:=bz 1 (akm P K x0 n1 x5 az L1)
def aef:Prop:=au (ai P K9 (CN P K x0 n1 x5 az L1)) ([0,1,5,12]++[13]) ([x0,n1,x5,az]++xs) h
def Gt:Prop:=au (ai P ant (akj P K x0 n1 x5 az L1)) [0,1,5,6,7,12,13] [x0,n1,x5,i6,t7,az,ay] h
def aed:Prop:=au (ai P anu (CN P K x0 n1 x5 az L1)) [0,1,5,12,13] [x0,n1,x5,az,ay] h
def aee:Prop:=au (ai P anv (IL P K)) [5] [x5] h
theorem av7:Gt P K x0 n1 x5 i6 t7 az ay L1 h=
 (OP (ah .shr t7 n1) fun di=>
 OP (cS .u32 di) fun dB=>
 OP (aS 1 x5 i6) fun dm=>
 OH (aJ 1 h dm dB) fun _ h_1=>
 aed P K x0 n1 x5 az ay L1 h_1):=aw (by kernel_rfl)
theorem av8:aed P K x0 n1 x5 az ay L1 h=
 (OP (ah .add ay (.int .i64 (1))) fun dR=>
 ([x0,n1,x5,az]:List Value)=[x0,n1,x5,az]∧L1 [dR] h):=aw (by kernel_rfl)
theorem awa (x0 n1 x5 az:Value) (L1:LQ) (ay:Value) (h:ae):aef P K x0 n1 x5 az L1 [ay] h=
 (OP (ah .lss ay az) fun aP=>
 aL aP
 (OP (aS 1 x0 ay) fun aN=>
 OP (af false 1 h aN) fun aM=>
 OP (cS .u64 aM) fun aT=>
 OP (ah .add ay (.int .i64 (1))) fun bt=>
 OP (aY x0) fun bC=>
 OP (ah .lss bt bC) fun bL=>
 aL bL
 (OP (ah .add ay (.int .i64 (1))) fun bZ=>
 OP (aS 1 x0 bZ) fun cP=>
 OP (af false 1 h cP) fun bY=>
 OP (cS .u64 bY) fun cM=>
 OP (ah .shl cM (.int .u64 (32))) fun dJ=>
 OP (ah .or aT dJ) fun cm=>
 Gt P K x0 n1 x5 ay cm az ay L1 h)
 (Gt P K x0 n1 x5 ay aT az ay L1 h))
 (aee P K x5 h)):=aw (by kernel_rfl)
theorem av9:aee P K x5 h=
 (aj P 118 [x5] h fun ba h_1=>
 K ba h_1):=aw (by kernel_rfl)
def JQ:Prop:=
 OP (aY x0) fun x9=>
 OH (kD 177 4 [(.int .u32 (0))] h x9 x9) fun aF h_1=>
 OP (aY x0) fun az=>
 cB [(.int .i64 (0))] h_1 fun L1 xs hx=>
 aef P K x0 n1 aF az L1 xs hx
theorem aqF:ai P DO (aO [.tmp 4] K) (bk [x0,n1]) h=JQ P K x0 n1 h:=by kernel_rfl
theorem f138 {K:VK} {x0 n1:Value} {h:ae} (H:JQ Tryz.prog K x0 n1 h):aj Tryz.prog 138 [x0,n1] h K:=
 bD atS (Nat.le_of_ble_eq_true rfl) ((aqF Tryz.prog K x0 n1 h).mpr H)
end
/-! F141: math/bits.Len32 -/
noncomputable section
variable (x0 n2 : Value) (h : ae)
def ab6:=bp Tryz.prog 141 [[],[],[],[0,2],[],[],[0,2],[]]
@[irreducible] def Lc:=bw ab6
@[irreducible] def VQ:=Lc.r.r.l
@[irreducible] def anM:=VQ.r.l
theorem atV:ab6=some (19,Lc,[.tmp 2]):=by kernel_rfl
def SQ (_P:Program) (K:VK):aq:=aO [.tmp 2] K
def Gx:Prop:=au (ai P VQ (SQ P K)) [0,2] [x0,n2] h
def Gy:Prop:=au (ai P anM (SQ P K)) [0,2] [x0,n2] h
theorem awr:Gy P K x0 n2 h=
 (OP (cS .u8 x0) fun a9=>
 OP (hT (.string ⟨#[0,1,2,2,3,3,3,3,4,4,4,4,4,4,4,4,5,5,5,5,5,5,5,5,5,5,5,5,5,5,5,5,6,6,6,6,6,6,6,6,6,6,6,6,6,6,6,6,6,6,6,6,6,6,6,6,6,6,6,6,6,6,6,6,7,7,7,7,7,7,7,7,7,7,7,7,7,7,7,7,7,7,7,7,7,7,7,7,7,7,7,7,7,7,7,7,7,7,7,7,7,7,7,7,7,7,7,7,7,7,7,7,7,7,7,7,7,7,7,7,7,7,7,7,7,7,7,7,8,8,8,8,8,8,8,8,8,8,8,8,8,8,8,8,8,8,8,8,8,8,8,8,8,8,8,8,8,8,8,8,8,8,8,8,8,8,8,8,8,8,8,8,8,8,8,8,8,8,8,8,8,8,8,8,8,8,8,8,8,8,8,8,8,8,8,8,8,8,8,8,8,8,8,8,8,8,8,8,8,8,8,8,8,8,8,8,8,8,8,8,8,8,8,8,8,8,8,8,8,8,8,8,8,8,8,8,8,8,8,8,8,8,8,8,8,8,8,8,8,8,8,8,8,8,8,8]⟩) a9) fun aX=>
 OP (cS .i64 aX) fun bH=>
 OP (ah .add n2 bH) fun aN=>
 K aN h):=aw (by kernel_rfl)
theorem awq:Gx P K x0 n2 h=
 (OP (ah .geq x0 (.int .u32 (256))) fun x8=>
 aL x8
 (OP (ah .shr x0 (.int .u64 (8))) fun aF=>
 OP (ah .add n2 (.int .i64 (8))) fun az=>
 Gy P K aF az h)
 (Gy P K x0 n2 h)):=aw (by kernel_rfl)
def JT:Prop:=
 OP (ah .geq x0 (.int .u32 (65536))) fun x4=>
 aL x4
 (OP (ah .shr x0 (.int .u64 (16))) fun x6=>
 Gx P K x6 (.int .i64 (16)) h)
 (Gx P K x0 (.int .i64 (0)) h)
theorem aqI:ai P Lc (aO [.tmp 2] K) (bk [x0]) h=JT P K x0 h:=by kernel_rfl
theorem f141 {K:VK} {x0:Value} {h:ae} (H:JT Tryz.prog K x0 h):aj Tryz.prog 141 [x0] h K:=
 bD atV (Nat.le_of_ble_eq_true rfl) ((aqI Tryz.prog K x0 h).mpr H)
end
end Go.Proofs.YtelmdbpaoifmoaaGreat

namespace Go.Proofs.YtelmdbpaoifmoaaGreat
open Go.Sim

def wv (us:List Nat):List Value:=us.map fun d:Nat=>Value.int .u32 (d:Int)

theorem ahP (us:List Nat):(wv us).length=us.length:=by simp [wv]

theorem oG {e:TypeId} {id o n k:Nat} (hk:k<n):aS 1 (sl e id o n) (I k)=some (pt id (o+k)):=by
 have:(0:Int)≤(k:Int)∧(k:Int)<(n:Int):=by omega
 simp [sl,aS,this]

theorem Az {g:ae} {iv id:Nat} {o:ak} (h:iv≠id):aQ (g.set id o) iv=aQ g iv:=by
 unfold aQ
 rw [List.getElem?_set_ne h.symm]

theorem Ai {g:ae} {id k d:Nat} {us:List Nat} {rest:List Value} (hg:aQ g id=some (wv us++rest)) (hk:us[k]?=some d):af false 1 g (pt id k)=some (.int .u32 (d:Int)):=by
 have aB:=(List.getElem?_eq_some_iff.1 hk).1
 have:(wv us++rest)[k]?=some (.int .u32 (d:Int)):=by
  rw [List.getElem?_append_left (by rw [ahP];exact aB)]
  simp [wv,hk]
 simp [af,hg,ck,this]

theorem uW {g:ae} {id k d:Nat} {us:List Nat} (hg:g[id]?=some (.arr 177 (wv us))) (hk:us[k]?=some d):af false 1 g (pt id k)=some (.int .u32 (d:Int)):=
 Ai (rest:=[]) (by rw [List.append_nil];simp [aQ,hg]) hk

theorem Aj {g:ae} {id k:Nat} (d:Nat) {us:List Nat} (hg:g[id]?=some (.arr 177 (wv us))) (hk:k<us.length):aJ 1 g (pt id k) (.int .u32 (d:Int))=some (undef,g.set id (.arr 177 (wv (us.set k d)))):=by
 rw [pq hg (by rw [ahP];exact hk) rfl rfl]
 congr 3
 simp [wv,List.map_set]

theorem ayc {a b:Nat} (hb:b≠0) (_:a<18446744073709551616):ah .rem (.int .u64 (a:Int)) (.int .u64 (b:Int))=some (.int .u64 ((a%b:Nat):Int)):=by
 have h:¬((b:Int)=0):=by omega
 have h2:a%b≤a:=Nat.mod_le _ _
 simp only [ah,fY,if_true,if_neg h]
 have e:(a:Int).tmod (b:Int)=((a%b:Nat):Int):=rfl
 rw [e]

theorem qR {d:Nat} (h:d<4294967296):cS .u64 (.int .u32 (d:Int))=some (.int .u64 (d:Int)):=by rw [jy,jv (by omega) (by omega)]
theorem abd {a b:Nat} (h:a*b<18446744073709551616):ah .mul (.int .u64 (a:Int)) (.int .u64 (b:Int))=some (.int .u64 ((a*b:Nat):Int)):=by
 rw [tC,←Int.natCast_mul,jv (by omega) (by omega)]
theorem T2 {a b:Nat} (h:a+b<18446744073709551616):ah .add (.int .u64 (a:Int)) (.int .u64 (b:Int))=some (.int .u64 ((a+b:Nat):Int)):=by
 rw [cC,←Int.natCast_add,jv (by omega) (by omega)]
theorem XW {a:Nat} (h:0<a) (h2:a<18446744073709551616):ah .sub (.int .u64 (a:Int)) (.int .u64 1)=some (.int .u64 ((a-1:Nat):Int)):=by
 rw [eW,show (a:Int)-1=((a-1:Nat):Int) by omega,jv (by omega) (by omega)]
theorem AD (t:Nat):cS .u32 (.int .u64 (t:Int))=some (.int .u32 ((t%4294967296:Nat):Int)):=by rw [jy,uH];congr 2
theorem RH {x y b:Nat} {h:ae} {K:Value→ae→Prop} (hx:x<4294967296) (hy:y<4294967296) (hb:b≤1)
  (hk:∀d b':Nat,d<4294967296→b'≤1→d+y+b=x+b'*4294967296→K (.tuple #[.int .u32 (d:Int),.int .u32 (b':Int)]) h):aj Tryz.prog 134 [.int .u32 (x:Int),.int .u32 (y:Int),.int .u32 (b:Int)] h K:=by
 refine RG hx hy hb (hk _ _ ?_ ?_ ?_)
 ·exact Nat.mod_lt _ (by decide)
 ·split <;> omega
 ·split <;> omega

theorem atZ {P X V Y x c a b:Nat} (h:Y+c*P=X+V) (e:4294967296*a+b=x+c) (ha:a=0∨a=1):Y+P*b+P*4294967296=X+P*x+V∨Y+P*b=X+P*x+V:=by
 have e1:P*(4294967296*a+b)=P*(x+c):=by rw [e]
 rcases ha with rfl | rfl
 ·right;grind
 ·left;grind

section
variable {h : ae} {K : Value → ae → Prop} {id iv j m : Nat} {us vs ud : List Nat} {rest : List Value}

theorem aiq {g:ae} {q:Value} {xs:List Nat} (kg:g[id]?=some (.arr 177 (wv us))) (kv:aQ g iv=some (wv vs++rest)) (br:iv≠id) (hn:vs.length=m+2) (hm:m≤1000) (hx:xs.length=m+3) (hj:j+(m+3)≤us.length)
  (hu:∀k,k≤m+2→us[j+k]?=xs[k]?) (lx:bX 4294967296 xs) (lv:bX 4294967296 vs)
  (hk:∀ys,ys.length=m+3→bX 4294967296 ys→(val 4294967296 ys+4294967296^(m+3)=val 4294967296 xs+val 4294967296 vs∨val 4294967296 ys=val 4294967296 xs+val 4294967296 vs)→
   BY Tryz.prog K q (g.set id (.arr 177 (wv (mid us j ys))))):
  cB [(.int .u32 (0)),(.int .i64 (0))] g fun L1 xs hx=>O8 Tryz.prog K (sl 177 id j (m+3)) (sl 177 iv 0 (m+2)) (I (m+2:Nat)) q (I (m+2:Nat)) L1 xs hx:=by
 refine db (σ:=List Nat×Nat) (fun p=>[.int .u32 (p.2:Int),I p.1.length]) (fun p=>g.set id (.arr 177 (wv (mid us j p.1))))
  (fun p=>p.1.length≤m+2∧bX 4294967296 p.1∧p.2≤1∧val 4294967296 p.1+p.2*4294967296^p.1.length=val 4294967296 (xs.take p.1.length)+val 4294967296 (vs.take p.1.length)) (fun p=>m+2-p.1.length)
  ([],0) rfl (by rw [aa2];exact (List.ext_getElem? fun i=>by
   rw [List.getElem?_set]
   split
   ·rename_i e;subst e
    rw [kg,if_pos (List.getElem?_eq_some_iff.1 kg).1]
   ·rfl)) ⟨Nat.zero_le _,fun y hy=>by simp at hy,Nat.zero_le _,by simp [val]⟩ ?_
 rintro ⟨ys,c⟩ ⟨iY,ly,hc,bQ⟩ L hL
 simp only at iY ly hc bQ hL⊢
 have sI:(g.set id (.arr 177 (wv (mid us j ys))))[id]?=some (.arr 177 (wv (mid us j ys))):=cJ kg
 have N0:aQ (g.set id (.arr 177 (wv (mid us j ys)))) iv=some (wv vs++rest):=by rw [Az br];exact kv
 rw [av3]
 simp only [cK,ag,bS]
 have Bs:∀k,ys.length≤k→k≤m+2→(mid us j ys)[j+k]?=xs[k]?:=fun k h1 h2=>by rw [aa1 (by omega) h1,hu k h2]
 refine ⟨fun aB=>?_,fun cH=>?_⟩
 ·have hy:ys.length<m+2:=by omega
  have ui:xs[ys.length]?=some (xs[ys.length]'(by omega)):=List.getElem?_eq_getElem (by omega)
  have Nu:vs[ys.length]?=some (vs[ys.length]'(by omega)):=List.getElem?_eq_getElem (by omega)
  have bx:=lx _ (List.getElem_mem (l:=xs) (n:=ys.length) (by omega))
  have bv:=lv _ (List.getElem_mem (l:=vs) (n:=ys.length) (by omega))
  have tx:=gO 4294967296 xs (i:=ys.length) (by omega)
  have tv:=gO 4294967296 vs (i:=ys.length) (by omega)
  generalize xs[ys.length]'(by omega)=x at*
  generalize vs[ys.length]'(by omega)=v at*
  have ld:=uW sI ((Bs _ (Nat.le_refl _) (by omega)).trans ui)
  have BI:=Ai N0 Nu
  simp only [oG (show ys.length<m+3 by omega),oG (show ys.length<m+2 by omega),Nat.zero_add,ag,ld,BI,true_and]
  refine RF bx bv hc ?_
  simp only [dY,fg,fy,ag]
  rw [Aj _ sI (by rw [yY (by omega)];omega),F1 (by omega),List.set_set]
  have:=hL (ys++[(x+v+c)%4294967296],(x+v+c) / 4294967296) ⟨by simp;omega,ly.append (fun y hy=>by simp at hy;omega),by show (x+v+c) / 4294967296≤1;omega,by
   simp only [List.length_append,List.length_cons,List.length_nil,Nat.zero_add]
   rw [lj,tx,tv,Nat.pow_succ]
   simp only [val,Nat.mul_zero,Nat.add_zero]
   have jO:=Nat.div_add_mod (x+v+c) 4294967296
   generalize (x+v+c) / 4294967296=a at*
   generalize (x+v+c)%4294967296=b at*
   generalize 4294967296^ys.length=P at*
   have:P*(4294967296*a+b)=P*(x+v+c):=by rw [jO]
   grind⟩ (by simp;omega)
  simp only [aD,cC,inc ys.length (by omega),ag]
  simpa using this
 ·have hy:ys.length=m+2:=by omega
  have ui:xs[m+2]?=some (xs[m+2]'(by omega)):=List.getElem?_eq_getElem (by omega)
  have bx:=lx _ (List.getElem_mem (l:=xs) (n:=m+2) (by omega))
  have tx:=gO 4294967296 xs (i:=m+2) (by omega)
  rw [List.take_of_length_le (by omega)] at tx
  generalize xs[m+2]'(by omega)=x at*
  have ld:=uW sI ((Bs (m+2) (by omega) (by omega)).trans ui)
  rw [av4]
  have ea:ah .add (.int .u32 (x:Int)) (.int .u32 (c:Int))=some (.int .u32 (((x+c)%4294967296:Nat):Int)):=by
   rw [cC,←Int.natCast_add,uH];congr 2
  simp only [oG (show m+2<m+3 by omega),ag,ld,ea]
  have jQ:=F1 (us:=us) (j:=j) (d:=(x+c)%4294967296) (xs:=ys) (by omega)
  rw [hy] at jQ
  rw [Aj _ sI (by rw [yY (by omega)];omega),jQ,List.set_set]
  simp only [aD]
  rw [hy,List.take_of_length_le (by omega:vs.length≤m+2)] at bQ
  refine hk _ (by simp;omega) (ly.append (fun y hy=>by simp at hy;omega)) ?_
  rw [lj,hy,tx]
  simp only [val,Nat.mul_zero,Nat.add_zero]
  have jO:=Nat.div_add_mod (x+c) 4294967296
  have h01:(x+c) / 4294967296≤1:=by omega
  rw [Nat.pow_succ]
  exact atZ bQ jO (by omega)

theorem auW (B m:Nat):B^(m+3)=B^(m+2)*B:=Nat.pow_succ ..

theorem azo {P A X V g v x carry borrow y c' x' b':Nat} (h:X+g*V=A+(carry+borrow)*P) (e:4294967296*c'+y=g*v+carry) (s:x'+y+borrow=x+b'*4294967296):
  X+P*x'+g*(V+P*v)=A+P*x+(c'+b')*(P*4294967296):=by
 have e1:P*(4294967296*c'+y)=P*(g*v+carry):=by rw [e]
 have e2:P*(x'+y+borrow)=P*(x+b'*4294967296):=by rw [s]
 grind

theorem azp {P A X V g x carry borrow x' b':Nat} (h:X+g*V=A+(carry+borrow)*P) (s:x'+carry+borrow=x+b'*4294967296):X+P*x'+g*V=A+P*x+b'*(P*4294967296):=by
 have e2:P*(x'+carry+borrow)=P*(x+b'*4294967296):=by rw [s]
 grind

theorem RK {gs:Nat} (kg:h[id]?=some (.arr 177 (wv us))) (kv:aQ h iv=some (wv vs++rest)) (br:iv≠id) (hn:vs.length=m+2) (hm:m≤1000) (hx:ud.length=m+3) (hj:j+(m+3)≤us.length)
  (hu:∀k,k≤m+2→us[j+k]?=ud[k]?) (lu:bX 4294967296 ud) (lv:bX 4294967296 vs) (nc:gs<4294967296) (h1:val 4294967296 ud / val 4294967296 vs≤gs) (h2:gs*val 4294967296 vs<val 4294967296 ud+val 4294967296 vs) (V0:0<val 4294967296 vs)
  (hk:∀rs,rs.length=m+3→bX 4294967296 rs→val 4294967296 rs=val 4294967296 ud%val 4294967296 vs→K (.int .u32 ((val 4294967296 ud / val 4294967296 vs:Nat):Int)) (h.set id (.arr 177 (wv (mid us j rs))))):
  uw Tryz.prog K (sl 177 id j (m+3)) (sl 177 iv 0 (m+2)) (I (m+2:Nat)) (.int .u64 (gs:Int)) h:=by
 have jQ:h=h.set id (.arr 177 (wv us)):=List.ext_getElem? fun i=>by
  rw [List.getElem?_set]
  split
  ·rename_i e;subst e
   rw [kg,if_pos (List.getElem?_eq_some_iff.1 kg).1]
  ·rfl
 have lvl:aY (sl 177 iv 0 (m+2))=some (I (m+2:Nat)):=rfl
 rw [av0]
 simp only [lvl,ag]
 refine db (σ:=List Nat×Nat×Nat) (fun p=>[.int .u64 (p.2.1:Int),.int .u32 (p.2.2:Int),I p.1.length]) (fun p=>h.set id (.arr 177 (wv (mid us j p.1))))
  (fun p=>p.1.length≤m+2∧bX 4294967296 p.1∧p.2.1<4294967296∧p.2.2≤1∧val 4294967296 p.1+gs*val 4294967296 (vs.take p.1.length)=val 4294967296 (ud.take p.1.length)+(p.2.1+p.2.2)*4294967296^p.1.length) (fun p=>m+2-p.1.length)
  ([],0,0) rfl (by rw [aa2];exact jQ.symm) ⟨Nat.zero_le _,fun y hy=>by simp at hy,by decide,Nat.zero_le _,by simp [val]⟩ ?_
 rintro ⟨xs,c,bo⟩ ⟨fQ,lx,hc,MB,bQ⟩ L hL
 simp only at fQ lx hc MB bQ hL⊢
 have sI:(h.set id (.arr 177 (wv (mid us j xs))))[id]?=some (.arr 177 (wv (mid us j xs))):=cJ kg
 have N0:aQ (h.set id (.arr 177 (wv (mid us j xs)))) iv=some (wv vs++rest):=by rw [Az br];exact kv
 have Bs:∀k,xs.length≤k→k≤m+2→(mid us j xs)[j+k]?=ud[k]?:=fun k h1 h2=>by rw [aa1 (by omega) h1,hu k h2]
 rw [av1]
 simp only [cK,ag,bS]
 refine ⟨fun aB=>?_,fun cH=>?_⟩
 ·have hy:xs.length<m+2:=by omega
  have Nr:ud[xs.length]?=some (ud[xs.length]'(by omega)):=List.getElem?_eq_getElem (by omega)
  have Nu:vs[xs.length]?=some (vs[xs.length]'(by omega)):=List.getElem?_eq_getElem (by omega)
  have bx:=lu _ (List.getElem_mem (l:=ud) (n:=xs.length) (by omega))
  have bv:=lv _ (List.getElem_mem (l:=vs) (n:=xs.length) (by omega))
  have tx:=gO 4294967296 ud (i:=xs.length) (by omega)
  have tv:=gO 4294967296 vs (i:=xs.length) (by omega)
  generalize ud[xs.length]'(by omega)=x at*
  generalize vs[xs.length]'(by omega)=v at*
  have ld:=uW sI ((Bs _ (Nat.le_refl _) (by omega)).trans Nr)
  have BI:=Ai N0 Nu
  have hgv:=F4 nc bv
  simp only [oG (show xs.length<m+3 by omega),oG (show xs.length<m+2 by omega),Nat.zero_add,ag,ld,BI,qR bv,abd (show gs*v<18446744073709551616 by omega),T2 (show gs*v+c<18446744073709551616 by omega),xk,AD]
  have jO:=Nat.div_add_mod (gs*v+c) 4294967296
  have hym:(gs*v+c)%4294967296<4294967296:=Nat.mod_lt _ (by decide)
  have hyd:(gs*v+c) / 4294967296<4294967296:=by omega
  refine RH bx hym MB ?_
  intro d b2 hd A1 tR
  simp only [dY,fg,fy,ag]
  rw [Aj _ sI (by rw [yY (by omega)];omega),F1 (by omega),List.set_set]
  generalize (gs*v+c) / 4294967296=c2 at*
  generalize (gs*v+c)%4294967296=y at*
  have:=hL (xs++[d],c2,b2) ⟨by simp;omega,lx.append (fun z hz=>by simp at hz;omega),hyd,A1,by
   simp only [List.length_append,List.length_cons,List.length_nil,Nat.zero_add]
   rw [lj,tx,tv,Nat.pow_succ]
   simp only [val,Nat.mul_zero,Nat.add_zero]
   exact azo bQ jO tR⟩ (by simp;omega)
  simp only [aD,cC,inc xs.length (by omega),ag,true_and]
  simpa using this
 ·have hy:xs.length=m+2:=by omega
  have Nr:ud[m+2]?=some (ud[m+2]'(by omega)):=List.getElem?_eq_getElem (by omega)
  have bx:=lu _ (List.getElem_mem (l:=ud) (n:=m+2) (by omega))
  have tx:=gO 4294967296 ud (i:=m+2) (by omega)
  rw [List.take_of_length_le (by omega)] at tx
  generalize ud[m+2]'(by omega)=x at*
  have ld:=uW sI ((Bs (m+2) (by omega) (by omega)).trans Nr)
  rw [av2]
  simp only [oG (show m+2<m+3 by omega),ag,ld,AD,Nat.mod_eq_of_lt hc]
  refine RH bx hc MB ?_
  intro d b2 hd A1 tR
  simp only [dY,fg,fy,ag]
  have ZQ:=F1 (us:=us) (j:=j) (d:=d) (xs:=xs) (by omega)
  rw [hy] at ZQ
  rw [Aj _ sI (by rw [yY (by omega)];omega),ZQ,List.set_set]
  simp only [aD]
  rw [hy,List.take_of_length_le (by omega:vs.length≤m+2)] at bQ
  have Of:bX 4294967296 (xs++[d]):=lx.append (fun z hz=>by simp at hz;omega)
  have nQ:(xs++[d]).length=m+3:=by simp;omega
  have oY:val 4294967296 (xs++[d])+gs*val 4294967296 vs=val 4294967296 ud+b2*4294967296^(m+3):=by
   rw [lj,hy,tx]
   simp only [val,Nat.mul_zero,Nat.add_zero]
   rw [auW]
   exact azp bQ tR
  generalize xs++[d]=xn at*
  have aAB:=Nat.div_add_mod (val 4294967296 ud) (val 4294967296 vs)
  have so:=Nat.mod_lt (val 4294967296 ud) V0
  have uh:=kF Of
  rw [nQ] at uh
  generalize hQ:val 4294967296 ud / val 4294967296 vs=Q at*
  generalize hR:val 4294967296 ud%val 4294967296 vs=R at*
  have Na:Q<4294967296:=by omega
  have EH:∀{a:Nat} {g:ae},a<4294967296→K (.int .u32 (a:Int)) g→BY Tryz.prog K (.int .u64 (a:Int)) g:=by
   intro a g ha hK
   rw [av5,AD,ag,Nat.mod_eq_of_lt ha]
   exact hK
  rcases (show b2=1∨b2=0 by omega) with rfl | rfl
  ·skip
   have hgV:val 4294967296 ud<gs*val 4294967296 vs:=by omega
   have Fh:gs=Q+1:=by
    have:gs<Q+2:=by
     apply Classical.byContradiction
     intro hn
     have h3:(Q+2)*val 4294967296 vs≤gs*val 4294967296 vs:=Nat.mul_le_mul_right _ (by omega)
     rw [Nat.add_mul,Nat.mul_comm Q] at h3
     omega
    have h4:gs≠Q:=by
     intro e
     rw [e,Nat.mul_comm] at hgV
     omega
    omega
   have bg:ah .gtr (.int .u32 ((1:Nat):Int)) (.int .u32 0)=some (B true):=rfl
   simp only [bg,ag,dd,XW (show 0<gs by omega) (show gs<18446744073709551616 by omega),lvl]
   refine aiq (us:=mid us j xn) (xs:=xn) (cJ kg) (by rw [Az br];exact kv) br hn hm nQ (by rw [yY (by omega)];omega) (fun k hk=>auf (by omega) (by omega)) Of lv ?_
   intro ys iY ly wC
   rw [List.set_set,aue (by omega) (by omega)]
   have n9:=kF ly
   rw [iY] at n9
   have hmul:gs*val 4294967296 vs=val 4294967296 vs*(Q)+val 4294967296 vs:=by rw [Fh,Nat.add_mul,Nat.mul_comm Q];omega
   have hyr:val 4294967296 ys=R:=by
    rw [Nat.one_mul] at oY
    rcases wC with wC | wC <;> omega
   rw [show gs-1=Q by omega]
   exact EH Na (hk ys iY ly hyr)
  ·have Fh:gs=Q:=by
    have:gs≤Q:=by rw [←hQ];exact (Nat.le_div_iff_mul_le V0).2 (by omega)
    omega
   have bg:ah .gtr (.int .u32 ((0:Nat):Int)) (.int .u32 0)=some (B false):=rfl
   simp only [bg,ag,c7]
   have hxr:val 4294967296 xn=R:=by
    rw [Fh,Nat.mul_comm] at oY
    omega
   rw [Fh]
   exact EH Na (hk xn nQ Of hxr)

end
end Go.Proofs.YtelmdbpaoifmoaaGreat


namespace Go.Proofs.YtelmdbpaoifmoaaGreat
open Go.Sim

theorem arw (a b:Nat):ah .gtr (.int .u64 (a:Int)) (.int .u64 (b:Int))=some (B (decide (b<a))):=by
 rw [eT];congr 2;rw [decide_eq_decide];omega

theorem Zj {a:Nat}:ah .gtr (.int .u64 ((a / 4294967296:Nat):Int)) (.int .u64 0)=some (B (decide (4294967296≤a))):=by
 rw [eT];congr 2;rw [decide_eq_decide]
 have:4294967296≤a↔0<a / 4294967296:=by omega
 rw [this]
 omega

section
variable {h : ae} {K : Value → ae → Prop} {id iv j m : Nat} {us vs ud : List Nat} {rest : List Value}

theorem aip {v1:Nat} (kg:h[id]?=some (.arr 177 (wv us))) (kv:aQ h iv=some (wv vs++rest)) (br:iv≠id) (hn:vs.length=m+2) (hm:m≤1000) (hx:ud.length=m+3) (hj:j+(m+3)≤us.length)
  (hu:∀k,k≤m+2→us[j+k]?=ud[k]?) (lu:bX 4294967296 ud) (lv:bX 4294967296 vs) (kW:vs[m+1]?=some v1) (iy:2147483648≤v1) (qX:val 4294967296 ud<val 4294967296 vs*4294967296)
  (hk:∀rs,rs.length=m+3→bX 4294967296 rs→val 4294967296 rs=val 4294967296 ud%val 4294967296 vs→K (.int .u32 ((val 4294967296 ud / val 4294967296 vs:Nat):Int)) (h.set id (.arr 177 (wv (mid us j rs))))):
  aj Tryz.prog 137 [sl 177 id j (m+3),sl 177 iv 0 (m+2)] h K:=by
 obtain ⟨ul,oX,eU⟩:=azO lu hx
 obtain ⟨vl,oZ,eV⟩:=val_two lv hn
 have hu0:us[j+m]?=some (ud[m]'(by omega)):=by rw [hu m (by omega)];exact List.getElem?_eq_getElem _
 have ZT:us[j+(m+1)]?=some (ud[m+1]'(by omega)):=by rw [hu (m+1) (by omega)];exact List.getElem?_eq_getElem _
 have nZ:us[j+(m+2)]?=some (ud[m+2]'(by omega)):=by rw [hu (m+2) (by omega)];exact List.getElem?_eq_getElem _
 have b0:=lu _ (List.getElem_mem (l:=ud) (n:=m) (by omega))
 have b1:=lu _ (List.getElem_mem (l:=ud) (n:=m+1) (by omega))
 have b2:=lu _ (List.getElem_mem (l:=ud) (n:=m+2) (by omega))
 have Ns:vs[m]?=some (vs[m]'(by omega)):=List.getElem?_eq_getElem _
 have c0:=lv _ (List.getElem_mem (l:=vs) (n:=m) (by omega))
 have c1:=lv _ (List.getElem_mem (l:=vs) (n:=m+1) (by omega))
 have e1:vs[m+1]'(by omega)=v1:=by
  rw [List.getElem?_eq_getElem (by omega)] at kW
  injection kW
 rw [e1] at c1 eV
 generalize ud[m]'(by omega)=t0 at*
 generalize ud[m+1]'(by omega)=t1 at*
 generalize ud[m+2]'(by omega)=t2 at*
 generalize vs[m]'(by omega)=v2 at*
 have hP:0<4294967296^m:=Nat.pow_pos (by decide)
 have Yj:t1+t2*4294967296=t2*4294967296+t1:=Nat.add_comm ..
 rw [Yj] at eU
 have V0:0<val 4294967296 vs:=by
  apply Nat.pos_of_ne_zero
  intro e
  rw [e,Nat.zero_mul] at qX
  omega
 have Bo:=azD (by decide) eU Yj.symm eV oZ c0 qX
 have arP:=ary eU oX b0 eV (by omega)
 have lX:=uW kg hu0
 have pg:=uW kg ZT
 have sL:=uW kg nZ
 have lv0:=Ai kv Ns
 have lv1:=Ai kv kW
 have lvl:aY (sl 177 iv 0 (m+2))=some (I (m+2:Nat)):=rfl
 have s1:ah .sub (I (m+2:Nat)) (.int .i64 1)=some (I (m+1:Nat)):=by rw [eW,wrap64 (by omega) (by omega)];congr 2;omega
 have s2:ah .sub (I (m+2:Nat)) (.int .i64 2)=some (I (m:Nat)):=by rw [eW,wrap64 (by omega) (by omega)];congr 2;omega
 have Bp:t2*4294967296+t1<18446744073709551616:=by omega
 refine f137 ?_
 unfold JP
 simp only [lvl,ag,oG (show m+2<m+3 by omega),sL,true_and,qR b2,Hp b2,s1,oG (show m+1<m+3 by omega),pg,qR b1,Gg b2 b1,oG (show m+1<m+2 by omega),Nat.zero_add,lv1,qR c1,agV (show v1≠0 by omega) Bp,ayc (show v1≠0 by omega) Bp]
 generalize qf:t2*4294967296+t1=top at*
 have jO:=Nat.div_add_mod top v1
 have so:=Nat.mod_lt top (show 0<v1 by omega)
 have Ze:top / v1≤4294967297:=by
  have:top / v1<4294967298:=by
   rw [Nat.div_lt_iff_lt_mul (by omega)]
   omega
  omega
 refine db (σ:=Nat×Nat) (fun p=>[.int .u64 (p.1:Int),.int .u64 (p.2:Int)]) (fun _=>h) (fun p=>p.1*v1+p.2=top∧p.2<4294967296∧p.1≤4294967297∧val 4294967296 ud / val 4294967296 vs≤p.1) (fun p=>4294967296-p.2)
  (top / v1,top%v1) rfl rfl ⟨by show top / v1*v1+top%v1=top;rw [Nat.mul_comm];exact jO,by show top%v1<4294967296;omega,Ze,arP⟩ ?_
 rintro ⟨g,r⟩ ⟨MS,hr,hg,hq⟩ L hL
 simp only at MS hr hg hq hL⊢
 have down:(4294967296≤g∨r*4294967296+t0<g*v2)→(OP (ah .sub (.int .u64 (g:Int)) (.int .u64 (1))) fun kI=>
   OP (ah .sub (I (m+2:Nat)) (.int .i64 (1))) fun jG=>
   OP (aS 1 (sl 177 iv 0 (m+2)) jG) fun gG=>
   OP (af false 1 h gG) fun je=>
   OP (cS .u64 je) fun fK=>
   OP (ah .add (.int .u64 (r:Int)) fK) fun eB=>
   OP (ah .shr eB (.int .u64 (32))) fun qG=>
   OP (ah .gtr qG (.int .u64 (0))) fun jH=>
   aL jH
    (uw Tryz.prog K (sl 177 id j (m+3)) (sl 177 iv 0 (m+2)) (I (m+2:Nat)) kI h)
    (([sl 177 id j (m+3),sl 177 iv 0 (m+2),I (m+2:Nat)]:List Value)=[sl 177 id j (m+3),sl 177 iv 0 (m+2),I (m+2:Nat)]∧L [kI,eB] h)):=by
  intro qZ
  have hd:=arx eU oX eV qX MS hq qZ
  have gU:0<g:=by generalize val 4294967296 ud / val 4294967296 vs=Q at*;omega
  have ZC:val 4294967296 ud / val 4294967296 vs≤g-1:=by generalize val 4294967296 ud / val 4294967296 vs=Q at*;omega
  have Zg:(g-1)*v1+(r+v1)=top:=by
   rw [Nat.sub_mul,Nat.one_mul]
   have:v1≤g*v1:=Nat.le_mul_of_pos_left v1 gU
   omega
  simp only [XW gU (show g<18446744073709551616 by omega),ag,s1,oG (show m+1<m+2 by omega),Nat.zero_add,lv1,qR c1,T2 (show r+v1<18446744073709551616 by omega),xk,Zj,bS]
  refine ⟨fun cH=>?_,fun aB=>⟨trivial,hL (g-1,r+v1) ⟨Zg,by show r+v1<4294967296;omega,by show g-1≤4294967297;omega,ZC⟩ (by show 4294967296-(r+v1)<4294967296-r;omega)⟩⟩
  have nc:g-1<4294967296:=by
   apply Classical.byContradiction
   intro hn
   have h3:4294967296*v1≤(g-1)*v1:=Nat.mul_le_mul_right _ (by omega)
   have h4:t2*4294967296≤v1*4294967296:=Nat.mul_le_mul_right _ Bo
   omega
  refine RK kg kv br hn hm hx hj hu lu lv nc ZC (YI eU eV oZ (by omega) Zg nc ?_) V0 hk
  have h5:=F4 nc c0
  have h6:4294967296*4294967296≤(r+v1)*4294967296:=Nat.mul_le_mul_right _ cH
  omega
 have last:g<4294967296→g*v2≤r*4294967296+t0→uw Tryz.prog K (sl 177 id j (m+3)) (sl 177 iv 0 (m+2)) (I (m+2:Nat)) (.int .u64 (g:Int)) h:=fun nc aA=>
  RK kg kv br hn hm hx hj hu lu lv nc hq (YI eU eV oZ (by omega) MS nc aA) V0 hk
 rw [av6]
 simp only [xk,ag,Zj]
 by_cases nc:4294967296≤g
 ·rw [decide_eq_true nc]
  simp only [eY,dh,ag,dd]
  simpa only [true_and] using down (.inl nc)
 ·rw [decide_eq_false nc]
  have Zf:g<4294967296:=by omega
  have hgv:=F4 Zf c0
  simp only [dF,s2,ag,oG (show m<m+2 by omega),oG (show m<m+3 by omega),Nat.zero_add,lv0,lX,true_and,qR c0,qR b0,abd (show g*v2<18446744073709551616 by omega),Hp hr,Gg hr b0,arw,cV,bS]
  exact ⟨fun qZ=>by simpa only [true_and] using down (.inr qZ),fun aA=>last Zf (by omega)⟩

end
end Go.Proofs.YtelmdbpaoifmoaaGreat


namespace Go.Proofs.YtelmdbpaoifmoaaGreat
open Go.Sim

theorem QN (k k2:IntKind) {s n:Nat} (hn:n≤k.bits) (hb:n<1000):ah .shr (.int k (s:Int)) (.int k2 (n:Int))=some (.int k ((s / 2^n:Nat):Int)):=by
 simp only [ah,oc]
 rw [if_neg (by omega)]
 have:min ((n:Int).toNat) k.bits=n:=by omega
 rw [this,Int.fdiv_eq_ediv_of_nonneg _ (by have:(0:Int)<2^n:=Int.pow_pos (by decide);omega)]
 congr 2

theorem ay6 (k2:IntKind) {x n:Nat} (hn:n<32) (hx:x<4294967296):ah .shl (.int .u64 (x:Int)) (.int k2 (n:Int))=some (.int .u64 ((x*2^n:Nat):Int)):=by
 have h2:2^n≤2^31:=Nat.pow_le_pow_right (by decide) (by omega)
 have h3:x*2^n≤4294967295*2^31:=Nat.mul_le_mul (by omega) h2
 have h4:x*2^n<18446744073709551616:=by omega
 simp only [ah,oc]
 rw [if_neg (by omega)]
 have:min ((n:Int).toNat) IntKind.u64.bits=n:=by
  have:IntKind.u64.bits=64:=rfl
  omega
 have e:(x:Int)*2^n=((x*2^n:Nat):Int):=by simp
 rw [this,e,jv (by omega) (by omega)]

theorem auG {s a q:Nat} (hs:s≤31) (ha:a<2^s) (hq:2^s*q<4294967296):ah .or (.int .u32 (a:Int)) (.int .u32 ((2^s*q:Nat):Int))=some (.int .u32 ((2^s*q+a:Nat):Int)):=by
 have h2:2^s≤2^31:=Nat.pow_le_pow_right (by decide) hs
 have FB:2^s*q+a<4294967296:=by
  have h3:q<2^(32-s):=by
   apply Classical.byContradiction
   intro hn
   have:2^s*2^(32-s)≤2^s*q:=Nat.mul_le_mul_left _ (by omega)
   rw [←Nat.pow_add,show s+(32-s)=32 by omega] at this
   omega
  have h4:2^s*(q+1)≤2^s*2^(32-s):=Nat.mul_le_mul_left _ (by omega)
  rw [←Nat.pow_add,show s+(32-s)=32 by omega,Nat.mul_add] at h4
  omega
 have e:(BitVec.ofInt IntKind.u32.bits (a:Int) ||| BitVec.ofInt IntKind.u32.bits ((2^s*q:Nat):Int)).toNat=2^s*q+a:=by
  show (BitVec.ofInt 32 (a:Int) ||| BitVec.ofInt 32 ((2^s*q:Nat):Int)).toNat=_
  rw [BitVec.ofInt_natCast,BitVec.ofInt_natCast,BitVec.toNat_or,BitVec.toNat_ofNat,BitVec.toNat_ofNat,Nat.mod_eq_of_lt (by omega),Nat.mod_eq_of_lt (by omega),Nat.or_comm]
  exact (Nat.two_pow_add_eq_or_of_lt ha q).symm
 simp only [ah,fY,if_true]
 rw [e,me (by omega) (by omega)]

def nt (x:Nat):Nat:=if x=0 then 0 else x.log2+1
def Q1:Value:=(.string ⟨#[0,1,2,2,3,3,3,3,4,4,4,4,4,4,4,4,5,5,5,5,5,5,5,5,5,5,5,5,5,5,5,5,6,6,6,6,6,6,6,6,6,6,6,6,6,6,6,6,6,6,6,6,6,6,6,6,6,6,6,6,6,6,6,6,7,7,7,7,7,7,7,7,7,7,7,7,7,7,7,7,7,7,7,7,7,7,7,7,7,7,7,7,7,7,7,7,7,7,7,7,7,7,7,7,7,7,7,7,7,7,7,7,7,7,7,7,7,7,7,7,7,7,7,7,7,7,7,7,8,8,8,8,8,8,8,8,8,8,8,8,8,8,8,8,8,8,8,8,8,8,8,8,8,8,8,8,8,8,8,8,8,8,8,8,8,8,8,8,8,8,8,8,8,8,8,8,8,8,8,8,8,8,8,8,8,8,8,8,8,8,8,8,8,8,8,8,8,8,8,8,8,8,8,8,8,8,8,8,8,8,8,8,8,8,8,8,8,8,8,8,8,8,8,8,8,8,8,8,8,8,8,8,8,8,8,8,8,8,8,8,8,8,8,8,8,8,8,8,8,8,8,8,8,8,8,8]⟩)
theorem azy:((List.range 256).map fun x:Nat=>hT Q1 (.int .u8 (x:Int)))=(List.range 256).map fun x:Nat=>some (.int .u8 (nt x:Int)):=by kernel_rfl
theorem azz {x:Nat} (h:x<256):hT Q1 (.int .u8 (x:Int))=some (.int .u8 (nt x:Int)):=by
 have:=congrArg (fun l=>l[x]?) azy
 simpa [h] using this
theorem at3 {x:Nat} (h:0<x):1≤nt x∧2^(nt x-1)≤x∧x<2^nt x:=by
 unfold nt
 rw [if_neg (by omega)]
 refine ⟨by omega,?_,Nat.lt_log2_self⟩
 rw [Nat.add_sub_cancel]
 exact Nat.log2_self_le (by omega)

theorem aiu {x:Nat} {h:ae} {K:Value→ae→Prop} (h0:0<x) (hx:x<4294967296) (hk:∀n:Nat,1≤n→n≤32→2^(n-1)≤x→x<2^n→K (I n) h):aj Tryz.prog 141 [.int .u32 (x:Int)] h K:=by
 refine f141 ?_
 have last:∀{y n0:Nat},0<y→y<256→n0≤24→2^n0*y≤x→x<2^n0*(y+1)→Gy Tryz.prog K (.int .u32 (y:Int)) (I n0) h:=by
  intro y n0 y0 aAk lR dC iy
  rw [awr]
  have cv:cS .u8 (.int .u32 (y:Int))=some (.int .u8 (y:Int)):=by
   rw [jy];congr 2
   have e:IntKind.wrap .u8 (y:Int)=(y:Int)%256:=by simp [IntKind.wrap,IntKind.bits,IntKind.signed]
   rw [e];omega
  obtain ⟨l1,l2,l3⟩:=at3 y0
  have l8:nt y≤8:=by
   apply Classical.byContradiction
   intro hn
   have:2^8≤2^(nt y-1):=Nat.pow_le_pow_right (by decide) (by omega)
   omega
  have ix:=azz aAk
  have w1:cS .i64 (.int .u8 (nt y:Int))=some (I (nt y)):=by rw [jy,wrap64 (by omega) (by omega)]
  have w2:ah .add (I n0) (I (nt y))=some (I (n0+nt y:Nat)):=by rw [cC,wrap64 (by omega) (by omega)];congr 2 <;> omega
  unfold Q1 at ix
  rw [cv,ag,ix,ag,w1,ag,w2,ag]
  refine hk _ (by omega) (by omega) ?_ ?_
  ·rw [show n0+nt y-1=n0+(nt y-1) by omega,Nat.pow_add]
   exact Nat.le_trans (Nat.mul_le_mul_left _ l2) dC
  ·rw [Nat.pow_add]
   exact Nat.lt_of_lt_of_le iy (Nat.mul_le_mul_left _ l3)
 have mid:∀{y n0:Nat},0<y→y<65536→n0≤16→2^n0*y≤x→x<2^n0*(y+1)→Gx Tryz.prog K (.int .u32 (y:Int)) (I n0) h:=by
  intro y n0 y0 y65 lR dC iy
  rw [awq]
  simp only [j5,ag,bS]
  refine ⟨fun cH=>?_,fun aB=>last y0 (by omega) (by omega) dC iy⟩
  have sh:ah .shr (.int .u32 (y:Int)) (.int .u64 8)=some (.int .u32 ((y / 2^8:Nat):Int)):=QN .u32 .u64 (n:=8) (by decide) (by decide)
  have w2:ah .add (I n0) (.int .i64 8)=some (I (n0+8:Nat)):=by rw [cC,wrap64 (by omega) (by omega)];congr 2
  simp only [sh,ag,w2]
  have jO:=Nat.div_add_mod y 256
  have so:=Nat.mod_lt y (show 0<256 by decide)
  refine last (y:=y / 2^8) (by omega) (by omega) (by omega) ?_ ?_
  ·rw [Nat.pow_add,Nat.mul_assoc]
   exact Nat.le_trans (Nat.mul_le_mul_left _ (by omega)) dC
  ·rw [Nat.pow_add,Nat.mul_assoc]
   exact Nat.lt_of_lt_of_le iy (Nat.mul_le_mul_left _ (by omega))
 unfold JT
 simp only [j5,ag,bS]
 refine ⟨fun cH=>?_,fun aB=>mid (n0:=0) h0 (by omega) (by decide) (by simp) (by simp)⟩
 have sh:ah .shr (.int .u32 (x:Int)) (.int .u64 16)=some (.int .u32 ((x / 2^16:Nat):Int)):=QN .u32 .u64 (n:=16) (by decide) (by decide)
 simp only [sh,ag]
 have jO:=Nat.div_add_mod x 65536
 have so:=Nat.mod_lt x (show 0<65536 by decide)
 exact mid (n0:=16) (y:=x / 2^16) (by omega) (by omega) (by decide) (by omega) (by omega)

theorem aio {x:Nat} {h:ae} {K:Value→ae→Prop} (h0:0<x) (hx:x<4294967296) (hk:∀s:Nat,s≤31→2147483648≤x*2^s→x*2^s<4294967296→K (I s) h):aj Tryz.prog 135 [.int .u32 (x:Int)] h K:=by
 refine f135 ?_
 unfold JN
 refine aiu h0 hx ?_
 intro n h1 h32 dC iy
 have e:ah .sub (.int .i64 32) (I n)=some (I (32-n:Nat)):=by rw [eW,wrap64 (by omega) (by omega)];congr 2;omega
 simp only [e,ag]
 have p1:2^(n-1)*2^(32-n)=2147483648:=by rw [←Nat.pow_add,show n-1+(32-n)=31 by omega]
 have p2:2^n*2^(32-n)=4294967296:=by rw [←Nat.pow_add,show n+(32-n)=32 by omega]
 refine hk _ (by omega) ?_ ?_
 ·rw [←p1];exact Nat.mul_le_mul_right _ dC
 ·rw [←p2];exact Nat.mul_lt_mul_of_pos_right iy (Nat.pow_pos (by decide))

end Go.Proofs.YtelmdbpaoifmoaaGreat


namespace Go.Proofs.YtelmdbpaoifmoaaGreat
open Go.Sim

theorem GV {s:Nat} (hs:s≤31):(4294967296:Nat)=2^s*2^(32-s):=by rw [←Nat.pow_add,show s+(32-s)=32 by omega]

theorem azJ {s x:Nat} (hs:s≤31) (hx:x<4294967296):(∃q,x*2^s%4294967296=2^s*q)∧x*2^s / 4294967296<2^s:=by
 have e:=GV hs
 have p0:0<2^s:=Nat.pow_pos (by decide)
 refine ⟨⟨x%2^(32-s),?_⟩,?_⟩
 ·rw [e,Nat.mul_comm x,Nat.mul_mod_mul_left]
 ·rw [Nat.div_lt_iff_lt_mul (by decide),Nat.mul_comm x]
  exact Nat.mul_lt_mul_of_pos_left hx p0

theorem azK {P c t d e X Y:Nat} (h1:X+P*c=Y+P*(d+c)) (h2:4294967296*e+d=t):X+P*4294967296*e=Y+P*t:=by
 rw [←h2]
 grind

theorem RJ {v:Value} {xs:List Nat} {s:Nat} {h:ae} {K:Value→ae→Prop} (hx:DS 177 .u32 h v xs) (lx:bX 4294967296 xs) (hs:s≤31) (hl:xs.length≤200)
  (hk:∀os,os.length=xs.length+1→bX 4294967296 os→val 4294967296 os=val 4294967296 xs*2^s→K (sl 177 h.length 0 (xs.length+1)) (hd h os)):aj Tryz.prog 136 [v,I s] h K:=by
 refine f136 ?_
 have e1:IntKind.wrap .i64 ((xs.length:Int)+1)=((xs.length+1:Nat):Int):=by rw [wrap64 (by omega) (by omega)];omega
 simp only [JO,hx.len,ag,cC,e1,wV (show xs.length+1≤1000 by omega),aD]
 have p0:0<2^s:=Nat.pow_pos (by decide)
 refine db (σ:=List Nat×Nat) (fun p=>[I p.2]) (fun p=>hd h p.1) (fun p=>p.2≤xs.length∧p.1.length=xs.length+1∧bX 4294967296 p.1∧val 4294967296 p.1=val 4294967296 (xs.take p.2)*2^s∧
   (∀k,p.2<k→k≤xs.length→p.1[k]?=some 0)∧∃c,p.1[p.2]?=some c∧c<2^s) (fun p=>xs.length-p.2)
  (List.replicate (xs.length+1) 0,0) rfl rfl ⟨Nat.zero_le _,by simp,bX.tk (by decide) _,by simp [uF,val],fun k _ (h2:k≤xs.length)=>by rw [List.getElem?_replicate,if_pos (by omega)],0,by simp,p0⟩ ?_
 rintro ⟨os,i⟩ ⟨hi,fI,lo,bQ,hz,c,hc,tQ⟩ L hL
 simp only at hi fI lo bQ hz hc tQ hL⊢
 rw [avZ]
 simp only [cK,ag,bS]
 refine ⟨fun aB=>?_,fun cH=>?_⟩
 ·have bF:i<xs.length:=by omega
  obtain ⟨b,r1,r2⟩:=hx.get bF
  have uh:=lx _ (List.getElem_mem bF)
  have tx:=gO 4294967296 xs bF
  have Qr:af false 1 (hd h os) (pt b i)=some (.int .u32 (xs[i]:Int)):=(jh h os).load r2
  generalize xs[i]=x at*
  obtain ⟨⟨q,hq⟩,Bl⟩:=azJ hs uh
  have Y6:os[i]'(by omega)=c:=by
   rw [List.getElem?_eq_getElem (by omega)] at hc
   injection hc
  have ld:=Y8 (h:=h) (os:=os) (j:=i) (by omega)
  rw [Y6] at ld
  have hqb:2^s*q<4294967296:=by rw [←hq];exact Nat.mod_lt _ (by decide)
  have hqc:2^s*q+c<4294967296:=by
   have e:=GV hs
   have h3:q<2^(32-s):=by
    apply Classical.byContradiction
    intro hn
    have:2^s*2^(32-s)≤2^s*q:=Nat.mul_le_mul_left _ (by omega)
    omega
   have h4:2^s*(q+1)≤2^s*2^(32-s):=Nat.mul_le_mul_left _ (by omega)
   rw [Nat.mul_add] at h4
   omega
  have ea:aS 1 (sl 177 h.length 0 (xs.length+1)) (I i)=some (pt h.length i):=kM (by omega)
  have ea2:aS 1 (sl 177 h.length 0 (xs.length+1)) (I (i+1:Nat))=some (pt h.length (i+1)):=kM (by omega)
  have Fq:=Nat.div_add_mod (x*2^s) 4294967296
  have lO:x*2^s / 4294967296<4294967296:=by
   have:2^s≤2^31:=Nat.pow_le_pow_right (by decide) hs
   omega
  have wi:IntKind.wrap .i64 ((i:Int)+1)=((i+1:Nat):Int):=by rw [wrap64 (by omega) (by omega)];omega
  simp only [r1,Qr,ag,qR uh,ay6 .i64 (show s<32 by omega) uh,ea,ld,AD,hq,auG hs tQ hqb,rZ _ (show i<os.length by omega),aD,cC,wi,xk,ea2,Nat.mod_eq_of_lt lO,
   rZ _ (show i+1<(os.set i (2^s*q+c)).length by rw [List.length_set];omega),true_and]
  have v1:=qE 4294967296 os i (2^s*q+c) (by omega)
  have v2:=qE 4294967296 (os.set i (2^s*q+c)) (i+1) (x*2^s / 4294967296) (by rw [List.length_set];omega)
  have np:=hz (i+1) (by omega) (by omega)
  have lU:(os.set i (2^s*q+c))[i+1]'(by rw [List.length_set];omega)=0:=by
   rw [List.getElem_set_ne (by omega)]
   rw [List.getElem?_eq_getElem (by omega)] at np
   injection np
  rw [Y6] at v1
  rw [lU,Nat.mul_zero,Nat.add_zero,Nat.pow_succ] at v2
  rw [hq] at Fq
  refine hL ((os.set i (2^s*q+c)).set (i+1) (x*2^s / 4294967296),i+1) ⟨by show i+1≤_;omega,by simp [fI],(lo.set hqc i).set lO (i+1),?_,fun k h1 h2=>?_,_,List.getElem?_set_self (by rw [List.length_set];omega),Bl⟩ (by show xs.length-(i+1)<xs.length-i;omega)
  ·show val 4294967296 ((os.set i (2^s*q+c)).set (i+1) (x*2^s / 4294967296))=val 4294967296 (xs.take (i+1))*2^s
   rw [v2,azK v1 Fq,tx,Nat.add_mul,←bQ,Nat.mul_assoc (4294967296^i) x]
  ·have h1:i+1<k:=h1
   rw [List.getElem?_set_ne (by omega),List.getElem?_set_ne (by omega)]
   exact hz k (by omega) h2
 ·have hM:i=xs.length:=by omega
  subst hM
  rw [List.take_length] at bQ
  rw [avY]
  exact hk os fI lo bQ

theorem HI (B:Nat) (xs:List Nat) {i:Nat} (hi:i≤xs.length):val B xs=val B (xs.take i)+B^i*val B (xs.drop i):=by
 have:=lj B (xs.take i) (xs.drop i)
 rwa [List.take_append_drop,List.length_take,Nat.min_eq_left hi] at this

theorem apZ {s x y Z:Nat} (hs:s≤31):(x+4294967296*(y+4294967296*Z)) / 2^s%4294967296=(x+y*4294967296) / 2^s%4294967296:=by
 have e:=GV hs
 have p0:0<2^s:=Nat.pow_pos (by decide)
 have:x+4294967296*(y+4294967296*Z)=x+y*4294967296+2^s*(4294967296*(2^(32-s)*Z)):=by
  generalize 2^s=a at*
  generalize 2^(32-s)=b at*
  grind
 rw [this,Nat.add_mul_div_left _ _ p0,Nat.add_mul_mod_self_left]

theorem air {v:Value} {xs:List Nat} {s:Nat} {h:ae} {K:Value→ae→Prop} (hx:DS 177 .u32 h v xs) (lx:bX 4294967296 xs) (hs:s≤31) (hl:xs.length≤200)
  (hk:∀v' h',EX h h'→cR h' v' (val 4294967296 xs / 2^s)→K v' h'):aj Tryz.prog 138 [v,I s] h K:=by
 refine f138 ?_
 simp only [JQ,hx.len,ag,wV (show xs.length≤1000 by omega),aD]
 refine db (σ:=List Nat×Nat) (fun p=>[I p.2]) (fun p=>hd h p.1) (fun p=>p.2≤xs.length∧p.1.length=xs.length∧bX 4294967296 p.1∧val 4294967296 p.1=val 4294967296 xs / 2^s%4294967296^p.2∧
   ∀k,p.2≤k→k<xs.length→p.1[k]?=some 0) (fun p=>xs.length-p.2)
  (List.replicate xs.length 0,0) rfl rfl ⟨Nat.zero_le _,by simp,bX.tk (by decide) _,by simp [uF,Nat.mod_one],fun k _ (h2:k<xs.length)=>by rw [List.getElem?_replicate,if_pos h2]⟩ ?_
 rintro ⟨os,i⟩ ⟨hi,fI,lo,bQ,hz⟩ L hL
 simp only at hi fI lo bQ hz hL⊢
 rw [awa]
 simp only [cK,ag,bS]
 refine ⟨fun aB=>?_,fun cH=>?_⟩
 ·have bF:i<xs.length:=by omega
  obtain ⟨b,r1,r2⟩:=hx.get bF
  have uh:=lx _ (List.getElem_mem bF)
  have Qr:af false 1 (hd h os) (pt b i)=some (.int .u32 (xs[i]:Int)):=(jh h os).load r2
  have wi:IntKind.wrap .i64 ((i:Int)+1)=((i+1:Nat):Int):=by rw [wrap64 (by omega) (by omega)];omega
  have ea:aS 1 (sl 177 h.length 0 xs.length) (I i)=some (pt h.length i):=kM (by omega)
  -- pz fS digit is
  have fin:∀t:Nat,t / 2^s%4294967296=val 4294967296 (xs.drop i) / 2^s%4294967296→Gt Tryz.prog K v (I s) (sl 177 h.length 0 xs.length) (I i) (.int .u64 (t:Int)) (I xs.length) (I i) L (hd h os):=by
   intro t ht
   rw [av7]
   simp only [QN .u64 .i64 (s:=t) (n:=s) (by have:IntKind.u64.bits=64:=rfl;omega) (by omega),ag,AD,ea,rZ _ (show i<os.length by omega),aD,av8,cC,wi,true_and]
   have lO:t / 2^s%4294967296<4294967296:=Nat.mod_lt _ (by decide)
   refine hL (os.set i (t / 2^s%4294967296),i+1) ⟨by show i+1≤_;omega,by simp [fI],lo.set lO i,?_,fun k h1 h2=>?_⟩ (by show xs.length-(i+1)<xs.length-i;omega)
   ·show val 4294967296 (os.set i (t / 2^s%4294967296))=val 4294967296 xs / 2^s%4294967296^(i+1)
    have v1:=qE 4294967296 os i (t / 2^s%4294967296) (by omega)
    have np:=hz i (Nat.le_refl _) bF
    have lU:os[i]'(by omega)=0:=by
     rw [List.getElem?_eq_getElem (by omega)] at np
     injection np
    rw [lU,Nat.mul_zero,Nat.add_zero,bQ] at v1
    rw [v1,ht,Nat.mod_pow_succ,Nat.div_div_eq_div_mul,Nat.mul_comm (2^s),←Nat.div_div_eq_div_mul]
    congr 3
    rw [HI 4294967296 xs hi]
    have p6:=kF (xs:=xs.take i) (lx.mono fun y hy=>List.mem_of_mem_take hy)
    rw [List.length_take,Nat.min_eq_left hi] at p6
    have hB:0<4294967296^i:=Nat.pow_pos (by decide)
    rw [Nat.add_mul_div_left _ _ hB,Nat.div_eq_of_lt p6,Nat.zero_add]
   ·have h1:i+1≤k:=h1
    rw [List.getElem?_set_ne (by omega)]
    exact hz k (by omega) h2
  have ed:xs.drop i=xs[i]::xs.drop (i+1):=List.drop_eq_getElem_cons bF
  simp only [r1,Qr,ag,qR uh,cC,wi,hx.len,cK,bS]
  refine ⟨fun ka=>?_,fun MN=>?_⟩
  ·have MU:i+1<xs.length:=by omega
   obtain ⟨b2,s1,s2⟩:=hx.get MU
   have n9:=lx _ (List.getElem_mem MU)
   have s2':af false 1 (hd h os) (pt b2 (i+1))=some (.int .u32 (xs[i+1]:Int)):=(jh h os).load s2
   have eor:ah .or (.int .u64 (xs[i]:Int)) (.int .u64 ((xs[i+1]*4294967296:Nat):Int))=some (.int .u64 ((xs[i]+xs[i+1]*4294967296:Nat):Int)):=by
    have:=Gg n9 uh
    simp only [ah,fY,if_true] at this⊢
    rw [BitVec.or_comm,this,Nat.add_comm]
   simp only [s1,s2',ag,qR n9,Hp n9,eor]
   refine fin _ ?_
   rw [ed,List.drop_eq_getElem_cons MU]
   simp only [val]
   rw [apZ hs]
  ·refine fin _ ?_
   rw [ed,List.drop_eq_nil_of_le (by omega)]
   simp [val]
 ·have hM:i=xs.length:=by omega
  subst hM
  have aB:val 4294967296 xs / 2^s<4294967296^xs.length:=Nat.lt_of_le_of_lt (Nat.div_le_self ..) (kF lx)
  rw [Nat.mod_eq_of_lt aB] at bQ
  rw [av9]
  have tS:DS 177 .u32 (hd h os) (sl 177 h.length 0 xs.length) os:=by rw [←fI];exact vS h os
  refine pD tS lo (by omega) ?_
  intro v' jR
  rw [bQ] at jR
  exact hk v' _ (jh h os) jR

end Go.Proofs.YtelmdbpaoifmoaaGreat


namespace Go.Proofs.YtelmdbpaoifmoaaGreat
open Go.Sim

theorem apY {A Q V low D P:Nat} (hA:A=low+P*D+Q*V):A=low+P*(D%V)+(Q+P*(D / V))*V:=by
 have:=Nat.div_add_mod D V
 have e:P*(V*(D / V)+D%V)=P*D:=by rw [this]
 rw [hA,Nat.add_mul]
 have e2:P*(V*(D / V)+D%V)=P*(D / V)*V+P*(D%V):=by grind
 omega

theorem azA {B n U l d:Nat} (h:U=l+B^n*d) (hU:U<B^n):d=0:=by
 apply Classical.byContradiction
 intro br
 have:B^n*1≤B^n*d:=Nat.mul_le_mul_left _ (by omega)
 generalize B^n=Z at*
 omega

theorem azE {B j m U V L D X T:Nat} (h1:U=L+B^j*D) (h2:D=X+B^(m+3)*T) (hV:V<B^(m+2)) (hB:0<B) (aB:U<V*B^(j+1)):T=0:=by
 apply Classical.byContradiction
 intro br
 have a1:B^(m+3)*1≤B^(m+3)*T:=Nat.mul_le_mul_left _ (by omega)
 have a2:B^j*B^(m+3)≤B^j*D:=Nat.mul_le_mul_left _ (by rw [h2];generalize B^(m+3)*T=z at*;omega)
 have a3:V*B^(j+1)<B^(m+2)*B^(j+1):=Nat.mul_lt_mul_of_pos_right hV (Nat.pow_pos hB)
 rw [←Nat.pow_add] at a2 a3
 rw [show m+2+(j+1)=j+(m+3) by omega] at a3
 generalize B^(j+(m+3))=z at*
 generalize V*B^(j+1)=w at*
 generalize B^j*D=y at*
 omega

theorem al4 {B j V L D U:Nat} (h1:U=L+B^j*D) (aB:U<V*B^(j+1)):D<V*B:=by
 apply Classical.byContradiction
 intro br
 have a1:B^j*(V*B)≤B^j*D:=Nat.mul_le_mul_left _ (by omega)
 have a2:V*B^(j+1)=B^j*(V*B):=by
  rw [Nat.pow_succ]
  generalize B^j=z
  rw [←Nat.mul_assoc,Nat.mul_comm _ z,Nat.mul_assoc]
 rw [a2] at aB
 generalize B^j*(V*B)=w at*
 generalize B^j*D=y at*
 omega

theorem at2 {B j L r V:Nat} (hL:L<B^j) (hr:r<V):L+B^j*r<V*B^j:=by
 have:B^j*(r+1)≤B^j*V:=Nat.mul_le_mul_left _ hr
 rw [Nat.mul_add,Nat.mul_one] at this
 rw [Nat.mul_comm V]
 generalize B^j*V=w at*
 generalize B^j*r=y at*
 generalize B^j=z at*
 omega

theorem auq {n b s top:Nat} {vs ys:List Nat} (cv:Canon 4294967296 vs) (ly:bX 4294967296 ys) (hn:ys.length=n+1) (qf:ys[n]?=some top) (hb:val 4294967296 ys=b) (hv:val 4294967296 vs=b*2^s) (hs:s≤31) (h1:2147483648≤top*2^s) (h2:top*2^s<4294967296):
  vs.length=n+1∧∃v1,vs[n]?=some v1∧2147483648≤v1:=by
 have te:ys[n]'(by omega)=top:=by
  rw [List.getElem?_eq_getElem (by omega)] at qf
  injection qf
 have tv:=gO 4294967296 ys (i:=n) (by omega)
 rw [List.take_of_length_le (by omega),te,hb] at tv
 have p6:=kF (xs:=ys.take n) (ly.mono fun y hy=>List.mem_of_mem_take hy)
 rw [List.length_take,Nat.min_eq_left (by omega)] at p6
 generalize val 4294967296 (ys.take n)=l at*
 have hP:0<4294967296^n:=Nat.pow_pos (by decide)
 have dC:2147483648*4294967296^n≤b*2^s:=by
  have e1:top*2^s*4294967296^n≤b*2^s:=by
   rw [tv,Nat.add_mul]
   have:4294967296^n*top*2^s=top*2^s*4294967296^n:=by
    rw [Nat.mul_assoc,Nat.mul_comm]
   omega
  exact Nat.le_trans (Nat.mul_le_mul_right _ h1) e1
 have iy:b*2^s<4294967296^(n+1):=by
  have e:=GV hs
  have p0:0<2^s:=Nat.pow_pos (by decide)
  have t1:top+1≤2^(32-s):=by
   apply Classical.byContradiction
   intro hn
   have:2^s*2^(32-s)≤2^s*top:=Nat.mul_le_mul_left _ (by omega)
   rw [Nat.mul_comm (2^s) top] at this
   omega
  have t2:b<(top+1)*4294967296^n:=by
   rw [tv,Nat.add_mul,Nat.one_mul,Nat.mul_comm top]
   omega
  have t3:b*2^s<(top+1)*4294967296^n*2^s:=Nat.mul_lt_mul_of_pos_right t2 p0
  have t4:(top+1)*4294967296^n*2^s≤2^(32-s)*4294967296^n*2^s:=Nat.mul_le_mul_right _ (Nat.mul_le_mul_right _ t1)
  have t5:2^(32-s)*4294967296^n*2^s=4294967296^n*(2^s*2^(32-s)):=by
   generalize 2^(32-s)=x
   generalize 2^s=y
   generalize 4294967296^n=z
   grind
  rw [t5,←e,←Nat.pow_succ] at t4
  omega
 have hle:vs.length≤n+1:=cv.len (by decide) (by rw [hv];exact iy)
 have cH:n<vs.length:=by
  have h3:=kF cv.1
  rw [hv] at h3
  have h4:4294967296^n<4294967296^vs.length:=by
   have:1*4294967296^n≤2147483648*4294967296^n:=Nat.mul_le_mul_right _ (by decide)
   omega
  exact (Nat.pow_lt_pow_iff_right (by decide)).1 h4
 refine ⟨by omega,vs[n],List.getElem?_eq_getElem cH,?_⟩
 have t2:=gO 4294967296 vs (i:=n) cH
 rw [List.take_of_length_le (by omega),hv] at t2
 have nQ:=kF (xs:=vs.take n) (cv.1.mono fun y hy=>List.mem_of_mem_take hy)
 rw [List.length_take,Nat.min_eq_left (by omega)] at nQ
 apply Classical.byContradiction
 intro hc
 have:4294967296^n*(vs[n]+1)≤4294967296^n*2147483648:=Nat.mul_le_mul_left _ (by omega)
 rw [Nat.mul_add,Nat.mul_one,Nat.mul_comm _ 2147483648] at this
 omega

theorem azg {id N l r:Nat} (h1:l≤r) (h2:r≤N):kf 177 1 (sl 177 id 0 N) (some (I l)) (some (I r))=some (sl 177 id l (r-l)):=by
 simp [kf,sl,pc,qp,h1,h2]
theorem azh {id N r:Nat} (h2:r≤N):kf 177 1 (sl 177 id 0 N) none (some (I r))=some (sl 177 id 0 r):=by
 simp [kf,sl,pc,qp,h2]

section
variable {h : ae} {K : Value → ae → Prop}

theorem ain {g:ae} {id iq iv m s nq A:Nat} {vs us:List Nat} {rest:List Value} {v1:Nat} (gu:h.length≤id) (hiq:h.length≤iq) (br:iv≠id) (ar8:iv≠iq) (Zy:id≠iq) (hn:vs.length=m+2) (hm:m≤1000) (hs:s≤31)
  (lv:bX 4294967296 vs) (kW:vs[m+1]?=some v1) (iy:2147483648≤v1) (oX:us.length=nq+1+(m+2)) (hnq:nq≤200) (wa:m≤150) (lu:bX 4294967296 us) (hA:val 4294967296 us=A) (E2:A<val 4294967296 vs*4294967296^(nq+1))
  (hx:EX h g) (ku:g[id]?=some (.arr 177 (wv us))) (kq:g[iq]?=some (.arr 177 (wv (List.replicate (nq+1) 0)))) (kv:aQ g iv=some (wv vs++rest))
  (hk:∀q r h',EX h h'→cR h' q (A / val 4294967296 vs)→cR h' r (A%val 4294967296 vs / 2^s)→K (.tuple #[q,r]) h'):
  cB [I nq] g fun L1 xs hx=>O7 Tryz.prog K (I s) (sl 177 iv 0 (m+2)) (sl 177 id 0 (nq+1+(m+2))) (I (m+2:Nat)) (sl 177 iq 0 (nq+1)) L1 xs hx:=by
 have V0:0<val 4294967296 vs:=by
  apply Nat.pos_of_ne_zero
  intro e
  rw [e,Nat.zero_mul] at E2
  omega
 have Vn:=kF lv
 rw [hn] at Vn
 refine db (σ:=Nat×List Nat×List Nat×ae) (fun p=>[I ((p.1:Int)-1)]) (fun p=>p.2.2.2)
  (fun p=>p.1≤nq+1∧EX h p.2.2.2∧p.2.1.length=nq+1+(m+2)∧bX 4294967296 p.2.1∧p.2.2.1.length=nq+1∧bX 4294967296 p.2.2.1∧(∀k,k<p.1→p.2.2.1[k]?=some 0)∧
   A=val 4294967296 p.2.1+val 4294967296 p.2.2.1*val 4294967296 vs∧val 4294967296 p.2.1<val 4294967296 vs*4294967296^p.1∧
   p.2.2.2[id]?=some (.arr 177 (wv p.2.1))∧p.2.2.2[iq]?=some (.arr 177 (wv p.2.2.1))∧aQ p.2.2.2 iv=some (wv vs++rest)) (fun p=>p.1)
  (nq+1,us,List.replicate (nq+1) 0,g) (by simp) rfl ⟨Nat.le_refl _,hx,oX,lu,by simp,bX.tk (by decide) _,fun k (hk:k<nq+1)=>by rw [List.getElem?_replicate,if_pos hk],by show A=_;rw [hA,uF];simp,by show val 4294967296 us<_;rw [hA];exact E2,ku,kq,kv⟩ ?_
 clear ku kq kv hx lu hA oX us g
 rintro ⟨jn,us,qs,g⟩ ⟨sg,hx,oX,lu,nU,lq,hz,hA,aB,ku,kq,kv⟩ L hL
 simp only at sg hx oX lu nU lq hz hA aB ku kq kv hL⊢
 rw [avW]
 simp only [j5,ag,bS]
 refine ⟨fun cH=>?_,fun jk=>?_⟩
 ·obtain ⟨j,rfl⟩:∃j,jn=j+1:=⟨jn-1,by omega⟩
  have ej:((j+1:Nat):Int)-1=(j:Int):=by omega
  have w1:ah .add (I j) (I (m+2:Nat))=some (I (j+(m+2):Nat)):=by rw [cC,wrap64 (by omega) (by omega)];congr 2
  have w2:ah .add (I (j+(m+2):Nat)) (.int .i64 1)=some (I (j+(m+3):Nat)):=by rw [cC,wrap64 (by omega) (by omega)];congr 2
  have w3:ah .sub (I j) (.int .i64 1)=some (I ((j:Int)-1)):=by rw [eW,wrap64 (by omega) (by omega)]
  have w4:j+(m+3)-j=m+3:=by omega
  rw [ej]
  simp only [w1,w2,ag,azg (show j≤j+(m+3) by omega) (show j+(m+3)≤nq+1+(m+2) by omega),w4]
  have lO:((us.drop j).take (m+3)).length=m+3:=by rw [List.length_take,List.length_drop];omega
  have hud:∀k,k≤m+2→us[j+k]?=((us.drop j).take (m+3))[k]?:=by
   intro k hk
   rw [List.getElem?_take_of_lt (by omega),List.getElem?_drop]
  have lud:bX 4294967296 ((us.drop j).take (m+3)):=lu.mono fun y hy=>List.mem_of_mem_drop (List.mem_of_mem_take hy)
  -- fS number:pz is below,pz is aAs,and nothing aAo
  have iu:=HI 4294967296 us (i:=j) (by omega)
  have vR:=HI 4294967296 (us.drop j) (i:=m+3) (by rw [List.length_drop];omega)
  have p6:=kF (xs:=us.take j) (lu.mono fun y hy=>List.mem_of_mem_take hy)
  rw [List.length_take,Nat.min_eq_left (by omega)] at p6
  have qf:val 4294967296 ((us.drop j).drop (m+3))=0:=azE iu vR Vn (by decide) aB
  rw [qf,Nat.mul_zero,Nat.add_zero] at vR
  rw [vR] at iu
  have qX:val 4294967296 ((us.drop j).take (m+3))<val 4294967296 vs*4294967296:=al4 iu aB
  refine aip ku kv br hn hm lO (by omega) hud lud lv kW iy qX ?_
  intro rs Ni lr hrv
  have kq':(g.set id (.arr 177 (wv (mid us j rs))))[iq]?=some (.arr 177 (wv qs)):=by rw [List.getElem?_set_ne Zy];exact kq
  have aqL:aS 1 (sl 177 iq 0 (nq+1)) (I j)=some (pt iq j):=kM (by omega)
  simp only [aqL,ag,Aj _ kq' (show j<qs.length by omega),aD,w3,true_and]
  have Bl:val 4294967296 ((us.drop j).take (m+3)) / val 4294967296 vs<4294967296:=by
   rw [Nat.div_lt_iff_lt_mul V0,Nat.mul_comm];exact qX
  have Zx:val 4294967296 (mid us j rs)=val 4294967296 (us.take j)+4294967296^j*(val 4294967296 ((us.drop j).take (m+3))%val 4294967296 vs):=by
   unfold mid
   rw [lj,lj,List.length_take,Nat.min_eq_left (by omega),hrv,Ni]
   have:us.drop (j+(m+3))=(us.drop j).drop (m+3):=by rw [List.drop_drop]
   rw [this,qf,Nat.mul_zero,Nat.add_zero]
  have np:=hz j (by omega)
  have lU:qs[j]'(by omega)=0:=by
   rw [List.getElem?_eq_getElem (by omega)] at np
   injection np
  have ZJ:=qE 4294967296 qs j (val 4294967296 ((us.drop j).take (m+3)) / val 4294967296 vs) (by omega)
  rw [lU,Nat.mul_zero,Nat.add_zero] at ZJ
  have mI:=Nat.mod_lt (val 4294967296 ((us.drop j).take (m+3))) V0
  refine hL (j,mid us j rs,qs.set j (val 4294967296 ((us.drop j).take (m+3)) / val 4294967296 vs),_) ⟨by show j≤_;omega,(hx.set gu _).set hiq _,by rw [yY (by omega)];exact oX,?_,by rw [List.length_set];exact nU,lq.set Bl j,fun k hk=>?_,?_,?_,?_,cJ kq',?_⟩ (by show j<j+1;omega)
  ·unfold mid
   exact (lu.mono fun y hy=>List.mem_of_mem_take hy).append (lr.append (lu.mono fun y hy=>List.mem_of_mem_drop hy))
  ·have hk:k<j:=hk
   rw [List.getElem?_set_ne (by omega)]
   exact hz k (by omega)
  ·show A=val 4294967296 (mid us j rs)+val 4294967296 (qs.set j _)*val 4294967296 vs
   rw [Zx,ZJ]
   refine apY ?_
   rw [hA,iu]
  ·show val 4294967296 (mid us j rs)<val 4294967296 vs*4294967296^j
   rw [Zx]
   exact at2 p6 mI
  ·rw [List.getElem?_set_ne Zy.symm];exact cJ ku
  ·rw [Az ar8,Az br];exact kv
 ·have re:jn=0:=by omega
  subst re
  rw [Nat.pow_zero,Nat.mul_one] at aB
  have hQ:A / val 4294967296 vs=val 4294967296 qs:=by rw [hA,Nat.add_mul_div_right _ _ V0,Nat.div_eq_of_lt aB,Nat.zero_add]
  have hR:A%val 4294967296 vs=val 4294967296 us:=by rw [hA,Nat.add_mul_mod_self_right,Nat.mod_eq_of_lt aB]
  have hdq:DS 177 .u32 g (sl 177 iq 0 (nq+1)) qs:=.inr ⟨iq,by rw [nU],.inr ⟨[],by rw [List.append_nil];simp [aQ,kq,wv]⟩⟩
  rw [avX]
  refine pD hdq lq (by omega) ?_
  intro q hq
  have FC:val 4294967296 (us.take (m+2))=val 4294967296 us:=by
   have hd:=HI 4294967296 us (i:=m+2) (by omega)
   have:val 4294967296 (us.drop (m+2))=0:=azA hd (Nat.lt_trans aB Vn)
   rw [this,Nat.mul_zero,Nat.add_zero] at hd
   exact hd.symm
  have vU:DS 177 .u32 g (sl 177 id 0 (m+2)) (us.take (m+2)):=.inr ⟨id,by rw [List.length_take,Nat.min_eq_left (by omega)],.inr ⟨wv (us.drop (m+2)),by
   simp only [aQ,ku]
   congr 1
   show wv us=wv (us.take (m+2))++wv (us.drop (m+2))
   unfold wv
   rw [←List.map_append,List.take_append_drop]⟩⟩
  simp only [true_and,azh (show m+2≤nq+1+(m+2) by omega),ag]
  refine pD vU (lu.mono fun y hy=>List.mem_of_mem_take hy) (by rw [List.length_take];omega) ?_
  intro r0 p7
  rw [FC] at p7
  obtain ⟨zs,dz,cz,hz⟩:=p7
  have lz:zs.length≤m+2:=cz.len (by decide) (by rw [hz];exact Nat.lt_trans aB Vn)
  refine air dz cz.1 hs (by omega) ?_
  intro r h' x' hr
  rw [hz,←hR] at hr
  rw [←hQ] at hq
  exact hk q r h' (hx.trans x') (hq.mono x') hr

end
end Go.Proofs.YtelmdbpaoifmoaaGreat


namespace Go.Proofs.YtelmdbpaoifmoaaGreat
open Go.Sim

theorem azl {B a P Q s n l V:Nat} (ha:a<P*B^(n-1)) (hV:2147483648*P≤V) (hB:2^s≤2147483648) (hl:l=n) (hQ:Q=B^(n-1)) (_h:1≤n):a*2^s<V*Q:=by
 have _:=hl
 have h1:a*2^s<P*B^(n-1)*2^s:=Nat.mul_lt_mul_of_pos_right ha (Nat.pow_pos (by decide))
 have h2:P*B^(n-1)*2^s≤P*B^(n-1)*2147483648:=Nat.mul_le_mul_left _ hB
 have h3:2147483648*P*B^(n-1)≤V*B^(n-1):=Nat.mul_le_mul_right _ hV
 have e:P*B^(n-1)*2147483648=2147483648*P*B^(n-1):=by
  generalize B^(n-1)=z
  rw [Nat.mul_comm,←Nat.mul_assoc]
 rw [hQ]
 generalize V*B^(n-1)=x at*
 omega

theorem RE {va vb:Value} {a b:Nat} {h:ae} {K:Value→ae→Prop} (ha:cR h va a) (hb:cR h vb b) (la:a<bj) (lb:b<bj) (b0:0<b) (hk:∀q r h',EX h h'→cR h' q (a / b)→cR h' r (a%b)→K (.tuple #[q,r]) h'):
  aj Tryz.prog 130 [va,vb] h K:=by
 by_cases E8:b<4294967296
 ·exact aim ha hb la b0 E8 hk
 refine f130 ?_
 unfold C7
 refine Cy ha hb la lb ?_
 simp only [cK,ag,bS]
 refine ⟨fun aB=>?_,fun cH=>?_⟩
 ·have gr:=Ho.1 aB
  have lN:=ha
  obtain ⟨xs,d,c,rfl⟩:=ha
  obtain ⟨s1,s2⟩:=d.cells
  have lx:=nJ c la
  have hq:∀g,cR g (.slice none 0 0) (val 4294967296 xs / b):=fun g=>⟨[],DS.nil _ _ _,⟨fun x hx=>by simp at hx,by simp⟩,by rw [Nat.div_eq_of_lt gr];rfl⟩
  by_cases h0:xs.length=0
  ·have e:dA 177 1 4 h (.slice none 0 0) va=some (.slice none 0 0,h):=by
    simp only [dA,s1,s2]
    rw [if_pos h0]
   simp only [e,aD]
   have:xs=[]:=List.length_eq_zero_iff.1 h0
   subst this
   exact hk _ _ h (EX.refl h) (hq h) ⟨[],DS.nil _ _ _,c,by rw [Nat.mod_eq_of_lt gr]⟩
  ·have e:dA 177 1 4 h (.slice none 0 0) va=some (sl 177 h.length 0 xs.length,h++[.arr 177 (xs.map fun d:Nat=>Value.int .u32 (d:Int))]):=by
    simp only [dA,s1,s2]
    rw [if_neg h0,if_pos ⟨by omega,by unfold maxLen;omega⟩]
   simp only [e,aD]
   refine hk _ _ _ (EX.append _ _) (hq _) ⟨xs,.inr ⟨h.length,rfl,.inr ⟨[],?_⟩⟩,c,by rw [Nat.mod_eq_of_lt gr]⟩
   simp [aQ]
 have gr:b≤a:=by
  apply Classical.byContradiction
  intro hc
  exact cH (Ho.2 (by omega))
 obtain ⟨xs,dx,cx,Nx⟩:=ha
 obtain ⟨ys,dy,cy,n9⟩:=hb
 have lx:=nJ cx (by rw [Nx];exact la)
 have ly:=nJ cy (by rw [n9];exact lb)
 have iY:=kF cy.1
 rw [n9] at iY
 obtain ⟨m,hm⟩:∃m,ys.length=m+2:=by
  refine ⟨ys.length-2,?_⟩
  have:¬ys.length≤1:=by
   intro h1
   have:4294967296^ys.length≤4294967296^1:=Nat.pow_le_pow_right (by decide) h1
   rw [Nat.pow_one] at this
   generalize 4294967296^ys.length=z at*
   omega
  omega
 have asJ:ys≠[]:=by rintro rfl;simp at hm
 have aaa:=Canon.low (by decide) cy asJ
 have fQ:=kF cx.1
 rw [Nx] at fQ
 rw [n9] at aaa
 have hlen:ys.length≤xs.length:=by
  have:4294967296^(ys.length-1)<4294967296^xs.length:=Nat.lt_of_le_of_lt aaa (Nat.lt_of_le_of_lt gr fQ)
  have:=(Nat.pow_lt_pow_iff_right (show 1<4294967296 by decide)).1 this
  omega
 -- fS aAx digit
 obtain ⟨ib,g1,g2⟩:=dy.get (j:=m+1) (by omega)
 have qf:ys[m+1]?=some (ys[m+1]'(by omega)):=List.getElem?_eq_getElem (by omega)
 have Bp:=cy.1 _ (List.getElem_mem (l:=ys) (n:=m+1) (by omega))
 have sC:0<ys[m+1]'(by omega):=by
  apply Nat.pos_of_ne_zero
  intro e
  refine cy.2 ?_
  rw [List.getLast?_eq_getElem?,hm,show m+2-1=m+1 by omega,qf,e]
 have Oa:aY vb=some (I (m+2:Nat)):=by rw [dy.len,hm]
 have s1:ah .sub (I (m+2:Nat)) (.int .i64 1)=some (I (m+1:Nat)):=by rw [eW,wrap64 (by omega) (by omega)];congr 2;omega
 simp only [Oa,ag,fW,decide_eq_false (show ¬(((m+2:Nat):Int)=1) by omega),c7,s1,g1,g2]
 generalize ys[m+1]'(by omega)=top at*
 refine aio sC Bp ?_
 intro s hs h1 h2
 refine RJ dy cy.1 hs (by omega) ?_
 intro fA ol1 lo1 kW
 rw [n9] at kW
 have d1:DS 177 .u32 (hd h fA) (sl 177 h.length 0 (ys.length+1)) fA:=by rw [←ol1];exact vS h fA
 refine pD d1 lo1 (by omega) ?_
 intro v' jR
 rw [kW] at jR
 obtain ⟨vs,dv,cv,wA⟩:=jR
 obtain ⟨oZ,v1,Nt,ZY⟩:=auq (n:=m+1) cv cy.1 hm qf n9 wA hs h1 h2
 obtain ⟨iv,arZ,rest,kv⟩:∃i,v'=sl 177 i 0 (m+2)∧∃rest,aQ (hd h fA) i=some (wv vs++rest):=by
  rcases dv with ⟨_,h0⟩ | ⟨i,e1,e2⟩
  ·rw [h0] at oZ;simp at oZ
  ·rcases e2 with h0 | ⟨r,hr⟩
   ·rw [h0] at oZ;simp at oZ
   ·exact ⟨i,by rw [e1,oZ],r,hr⟩
 subst arZ
 have aAF:iv<(hd h fA).length:=by
  unfold aQ at kv
  apply Classical.byContradiction
  intro hn
  rw [List.getElem?_eq_none (by omega)] at kv
  cases kv
 refine RJ (dx.mono (jh h fA)) cx.1 hs (by omega) ?_
 intro zj ol2 lo2 oY
 rw [Nx] at oY
 have x2:=jh (hd h fA) zj
 have k2:=MH (hd h fA) zj
 have l2:(hd (hd h fA) zj).length=(hd h fA).length+1:=by simp [hd]
 have kv2:=x2.cells kv
 have BI:aY (sl 177 iv 0 (m+2))=some (I (m+2:Nat)):=rfl
 obtain ⟨nq,hnq⟩:∃nq,xs.length=nq+(m+2):=⟨xs.length-(m+2),by omega⟩
 have w1:ah .sub (I (xs.length:Nat)) (I (m+2:Nat))=some (I nq):=by rw [eW,wrap64 (by omega) (by omega)];congr 2;omega
 have w2:ah .add (I nq) (.int .i64 1)=some (I (nq+1:Nat)):=by rw [cC,wrap64 (by omega) (by omega)];congr 2
 simp only [BI,ag,dx.len,w1,w2,wV (show nq+1≤1000 by omega),aD]
 have x3:=jh (hd (hd h fA) zj) (List.replicate (nq+1) 0)
 have k3:=MH (hd (hd h fA) zj) (List.replicate (nq+1) 0)
 have BE:=x3.get k2
 have kv3:=x3.cells kv2
 have xA:=(jh h fA).trans (x2.trans x3)
 have yD:=(jh h fA).1
 generalize hd (hd (hd h fA) zj) (List.replicate (nq+1) 0)=g3 at*
 have eN:xs.length+1=nq+1+(m+2):=by omega
 rw [eN]
 have asu:2^s≤2147483648:=Nat.pow_le_pow_right (show 0<2 by decide) hs
 have arC:2147483648*4294967296^(m+1)≤val 4294967296 vs:=by
  have tv:=gO 4294967296 vs (i:=m+1) (by omega)
  rw [List.take_of_length_le (by omega)] at tv
  have e1:vs[m+1]'(by omega)=v1:=by
   rw [List.getElem?_eq_getElem (by omega)] at Nt
   injection Nt
  rw [e1] at tv
  rw [tv,Nat.mul_comm]
  have:4294967296^(m+1)*2147483648≤4294967296^(m+1)*v1:=Nat.mul_le_mul_left _ ZY
  generalize 4294967296^(m+1)*v1=z at*
  omega
 have E2:a*2^s<val 4294967296 vs*4294967296^(nq+1):=by
  have asH:a<4294967296^(m+1)*4294967296^(nq+1):=by
   rw [←Nat.pow_add,show m+1+(nq+1)=xs.length by omega];exact fQ
  exact azl (n:=nq+2) (l:=nq+2) (by simpa using asH) arC asu rfl (by simp) (by omega)
 have TZ:0<2^s:=Nat.pow_pos (by decide)
 refine ain (h:=h) (A:=a*2^s) (by omega) (by omega) (by omega) (by omega) (by omega) oZ (by omega) hs cv.1 Nt ZY (by omega) (by omega) (by omega) lo2 oY E2 xA BE k3 kv3 ?_
 intro q r h' x' hq hr
 rw [wA,Nat.mul_div_mul_right _ _ TZ] at hq
 rw [wA,Nat.mul_mod_mul_right,Nat.mul_div_cancel _ TZ] at hr
 exact hk q r h' x' hq hr

end Go.Proofs.YtelmdbpaoifmoaaGreat


namespace Go.Proofs.YtelmdbpaoifmoaaGreat
open Go.Sim

def gp (h:ae) (val:Value) (a b:Int):Prop:=∃u w,val=.agg #[B (decide (a<0)),u,B (decide (b<0)),w]∧cR h u a.natAbs∧cR h w b.natAbs

theorem Rv {va:Value} {a:Int} {h:ae} {K:Value→ae→Prop} (ha:dn h va a) (hk:∀r h',EX h h'→gp h' r a 1→K r h'):aj Tryz.prog 112 [va] h K:=by
 obtain ⟨v,rfl,hv⟩:=ha
 refine f112 ?_
 have e1:bc 105 h (.agg #[B (decide (a<0)),v])=some (pt h.length 0,h++[.arr 105 [B (decide (a<0)),v]]):=rfl
 have e2:∀g:ae,aW 107 [(.bool false),(.slice none 0 0),(.bool false),(.slice none 0 0)] g=some (pt g.length 0,g++[.arr 107 z4]):=fun _=>rfl
 simp only [Jr,e1,e2,aD,List.length_append,List.length_cons,List.length_nil]
 have g0:(h++[ak.arr 105 [B (decide (a<0)),v]]++[ak.arr 107 z4])[h.length]?=some (.arr 105 [B (decide (a<0)),v]):=by simp
 have g1:(h++[ak.arr 105 [B (decide (a<0)),v]]++[ak.arr 107 z4])[h.length+1]?=some (.arr 107 z4):=by simp
 have x1:EX h (h++[ak.arr 105 [B (decide (a<0)),v]]++[ak.arr 107 z4]):=(EX.append _ _).push _
 generalize h++[ak.arr 105 [B (decide (a<0)),v]]++[ak.arr 107 z4]=h1 at g0 g1 x1⊢
 rw [cf g0]
 simp only [ag,true_and]
 refine zV (by decide) (by decide) ?_
 intro r2 h2 x2 i2
 obtain ⟨w,rfl,hw⟩:=id i2
 refine ⟨⟨EX.load x2 (cf g0),trivial⟩,?_⟩
 have oY:=(hv.mono x1).mono x2
 obtain ⟨xs,dx,cx⟩:=id oY
 obtain ⟨ys,dy,cy⟩:=id hw
 rw [Dh dx dy]
 simp only [ag,Nat.zero_add]
 have g2:=x2.get g1
 exact pN g2 (hk _ _ ((x1.trans x2).set (by omega) _) ⟨v,w,rfl,oY.bG g2 _,hw.bG g2 _⟩)

theorem C90 {u w:Value} {s:Bool} {h:ae} {K:Value→ae→Prop} (hw:cR h w 1) (hk:∀h',EX h h'→K (B true) h'):aj Tryz.prog 90 [.agg #[B s,u,B false,w]] h K:=by
 refine f90 ?_
 have e1:bc 107 h (.agg #[B s,u,B false,w])=some (pt h.length 0,h++[.arr 107 [B s,u,B false,w]]):=rfl
 simp only [C8,e1,aD]
 have x1:EX h (h++[ak.arr 107 [B s,u,B false,w]]):=EX.append _ _
 have l3:af false 1 (h++[ak.arr 107 [B s,u,B false,w]]) (pt h.length 3)=some w:=qm rfl
 obtain ⟨xs,dx,cx,vx⟩:=hw.mono x1
 have Nw:xs=[1]:=Canon.unique (by decide) cx ⟨fun y hy=>by simp at hy;subst hy;decide,by simp⟩ (by rw [vx];rfl)
 subst Nw
 obtain ⟨i,g1,g2⟩:=dx.get (j:=0) (by simp)
 have vF:aS 1 w (I 0)=some (pt i 0):=g1
 simp only [bN,Nat.zero_add,ag,l3,dx.len,List.length_singleton,fW,Ql]
 rw [decide_eq_true (show ((1:Nat):Int)=1 by rfl)]
 simp only [eO,ag,vF,g2,fW,Qm,dh]
 exact hk _ x1

end Go.Proofs.YtelmdbpaoifmoaaGreat


namespace Go.Proofs.YtelmdbpaoifmoaaGreat
open Go.Sim

theorem gp.mono {h h':ae} {v:Value} {a b:Int} (x:EX h h') (p:gp h v a b):gp h' v a b:=let ⟨u,w,e,m,n⟩:=p;⟨u,w,e,m.mono x,n.mono x⟩
theorem gp.bG {h:ae} {v:Value} {a b:Int} {j:Nat} {e:TypeId} {s:Bool} {r:List Value} (p:gp h v a b) (hj:h[j]?=some (.arr e (.bool s::r))) (o:ak):gp (h.set j o) v a b:=
 let ⟨u,w,e,m,n⟩:=p;⟨u,w,e,m.bG hj o,n.bG hj o⟩

theorem LU {h h':ae} {j:Nat} {va vb:Value} {a b:Int} {K:Value→ae→Prop} (ha:dn h' va a) (hb:dn h' vb b) (x:EX h h') (hj:h.length≤j) (hg:h'[j]?=some (.arr 107 z4)) (hk:∀r h',EX h h'→gp h' r a b→K r h'):
  OP (cN [(.bool false),(.slice none 0 0),(.bool false),(.slice none 0 0)] [(0,2,va),(2,2,vb)]) fun bL=>OH (aJ 4 h' (pt j 0) bL) fun _ h_6=>OP (af true 4 h_6 (pt j 0)) fun r0=>K r0 h_6:=by
 obtain ⟨v,rfl,hv⟩:=ha
 obtain ⟨w,rfl,hw⟩:=hb
 obtain ⟨xs,dx,_⟩:=id hv
 obtain ⟨ys,dy,_⟩:=id hw
 rw [Dh dx dy]
 simp only [ag]
 exact pN hg (hk _ _ (x.set hj _) ⟨v,w,rfl,hv.bG hg _,hw.bG hg _⟩)

theorem C75 {n:Int} {h:ae} {K:Value→ae→Prop} (h1: -9223372036854775808≤n) (h2:n<9223372036854775808) (hk:∀r h',EX h h'→gp h' r n 1→K r h'):aj Tryz.prog 75 [I n] h K:=by
 refine f75 ?_
 have e1:aW 107 [(.bool false),(.slice none 0 0),(.bool false),(.slice none 0 0)] h=some (pt h.length 0,h++[.arr 107 z4]):=rfl
 simp only [Kp,e1,aD]
 have x0:EX h (h++[.arr 107 z4]):=EX.append _ _
 have g0:(h++[ak.arr 107 z4])[h.length]?=some (.arr 107 z4):=bO
 generalize h++[ak.arr 107 z4]=ga at x0 g0⊢
 refine zV h1 h2 ?_
 intro r h3 x3 i3
 refine zV (by decide) (by decide) ?_
 intro s h4 x4 i4
 exact LU (i3.mono x4) i4 (x0.trans (x3.trans x4)) (Nat.le_refl _) ((x3.trans x4).get g0) hk

theorem arn {a b:Int} (b0:0<b):0<(Nat.gcd a.natAbs b.natAbs:Int)∧(Nat.gcd a.natAbs b.natAbs:Int)≤b:=by
 have h1:0<Nat.gcd a.natAbs b.natAbs:=Nat.gcd_pos_of_pos_right _ (by omega)
 have h2:Nat.gcd a.natAbs b.natAbs≤b.natAbs:=Nat.gcd_le_right _ (by omega)
 omega

end Go.Proofs.YtelmdbpaoifmoaaGreat


namespace Go.Proofs.YtelmdbpaoifmoaaGreat
open Go.Sim

theorem zW {u w:Value} {s:Bool} {b:Nat} {h:ae} {K:Value→ae→Prop} (hw:cR h w b) (lb:b<bj) (hk:∀h',EX h h'→K (B (decide (b=1))) h'):aj Tryz.prog 90 [.agg #[B s,u,B false,w]] h K:=by
 by_cases h1:b=1
 ·subst h1
  exact C90 hw hk
 rw [decide_eq_false h1] at hk
 refine f90 ?_
 have e1:bc 107 h (.agg #[B s,u,B false,w])=some (pt h.length 0,h++[.arr 107 [B s,u,B false,w]]):=rfl
 simp only [C8,e1,aD]
 have x1:EX h (h++[ak.arr 107 [B s,u,B false,w]]):=EX.append _ _
 have l3:af false 1 (h++[ak.arr 107 [B s,u,B false,w]]) (pt h.length 3)=some w:=qm rfl
 obtain ⟨xs,dx,cx,vx⟩:=hw.mono x1
 simp only [bN,Nat.zero_add,ag,l3,dx.len,fW]
 by_cases hl:xs.length=1
 ·obtain ⟨y,rfl⟩:∃y,xs=[y]:=by
   match xs,hl with
   | [y],_=>exact ⟨y,rfl⟩
  have hy:y=b:=by simpa [val] using vx
  subst hy
  obtain ⟨i,g1,g2⟩:=dx.get (j:=0) (by simp)
  have vF:aS 1 w (.int .i64 (0))=some (pt i 0):=g1
  rw [decide_eq_true (show ((([y]:List Nat).length:Nat):Int)=1 from rfl),Ql]
  simp only [eO,bN,Nat.zero_add,ag,l3,vF,g2,List.getElem_cons_zero,fW]
  rw [decide_eq_false (show ¬((y:Int)=1) by omega),Qm]
  simp only [dh,ag]
  exact hk _ x1
 ·rw [decide_eq_false (show ¬((xs.length:Int)=1) by omega),Ql]
  simp only [ie]
  rw [Qm]
  simp only [cV,ag]
  exact hk _ x1

def ov (a b:Int):List UInt8:=if b=1 then gB a else gB a++47::dj b.natAbs

theorem abn {a:Int} (la:a.natAbs<bj):(gB a).length≤1001:=by
 have:=(tG la).2.2.1
 unfold gB
 split <;> simp <;> omega

theorem aiK {va:Value} {a b:Int} {h:ae} {K:Value→ae→Prop} (ha:gp h va a b) (b0:0<b) (la:a.natAbs<bj) (lb:b.natAbs<bj) (hk:∀h',EX h h'→K (.tuple #[S (ov a b),I 0]) h'):aj Tryz.prog 45 [va] h K:=by
 obtain ⟨u,w,rfl,hu,hw⟩:=ha
 have sA:decide (b<0)=false:=decide_eq_false (by omega)
 rw [sA]
 refine f45 ?_
 have e1:bc 107 h (.agg #[B (decide (a<0)),u,B false,w])=some (pt h.length 0,h++[.arr 107 [B (decide (a<0)),u,B false,w]]):=rfl
 simp only [J6,e1,aD]
 have x1:EX h (h++[ak.arr 107 [B (decide (a<0)),u,B false,w]]):=EX.append _ _
 have l1:af false 1 (h++[ak.arr 107 [B (decide (a<0)),u,B false,w]]) (pt h.length 1)=some u:=qm rfl
 have l0:af false 1 (h++[ak.arr 107 [B (decide (a<0)),u,B false,w]]) (pt h.length 0)=some (B (decide (a<0))):=qm rfl
 have g0:(h++[ak.arr 107 [B (decide (a<0)),u,B false,w]])[h.length]?=some (.arr 107 [B (decide (a<0)),u,B false,w]):=bO
 generalize h++[ak.arr 107 [B (decide (a<0)),u,B false,w]]=h1 at x1 l1 l0 g0⊢
 obtain ⟨d1,d2,d3,d4,d5⟩:=tG la
 obtain ⟨c1,c2,c3,c4,c5⟩:=tG lb
 simp only [bN,Nat.zero_add,Nat.add_zero,ag,l1]
 refine CA (hu.mono x1) la ?_
 intro h2 x2
 simp only [jq,ag,eT,decide_eq_false (show ¬((dj a.natAbs).length:Int)>4000 by omega),c7,EX.load x2 l0]
 have last:GF Tryz.prog K (pt h.length 0) (S (gB a)) h2:=by
  rw [awV,gA (x2.get g0)]
  simp only [ag]
  refine zW ((hw.mono x1).mono x2) lb ?_
  intro h3 x3
  simp only [bS]
  refine ⟨fun h9=>?_,fun h9=>?_⟩
  ·have e:ov a b=gB a:=by unfold ov;rw [if_pos (by omega)]
   rw [←e]
   exact hk _ ((x1.trans x2).trans x3)
  ·have l3:af false 1 h3 (pt h.length 3)=some w:=by simp [af,aQ,(x2.trans x3).get g0,ck]
   simp only [bN,Nat.zero_add,ag,l3]
   refine CA (((hw.mono x1).mono x2).mono x3) lb ?_
   intro h4 x4
   have nl:=abn la
   have a1:ah .add (S (gB a)) (.string ⟨#[47]⟩)=some (S (gB a++[47])):=u9 (a:=gB a) (b:=[47]) (by simp [maxLen];omega)
   have a2:ah .add (S (gB a++[47])) (S (dj b.natAbs))=some (S (gB a++[47]++dj b.natAbs)):=u9 (a:=gB a++[47]) (b:=dj b.natAbs) (by simp [maxLen];omega)
   simp only [jq,ag,eT,decide_eq_false (show ¬((dj b.natAbs).length:Int)>4000 by omega),c7,a1,a2]
   have e:ov a b=gB a++[47]++dj b.natAbs:=by unfold ov;rw [if_neg (by omega)];simp
   rw [←e]
   exact hk _ ((x1.trans x2).trans (x3.trans x4))
 by_cases jk:a<0
 ·rw [decide_eq_true jk]
  have:gB a=45::dj a.natAbs:=by unfold gB;rw [if_pos jk]
  have ad:ah .add (.string ⟨#[45]⟩) (S (dj a.natAbs))=some (S (gB a)):=by
   rw [this]
   exact u9 (a:=[45]) (b:=dj a.natAbs) (by simp [maxLen];omega)
  simp only [dd,ad,ag]
  exact last
 ·rw [decide_eq_false jk]
  have:gB a=dj a.natAbs:=by unfold gB;rw [if_neg jk]
  rw [this] at last
  simp only [c7]
  exact last

end Go.Proofs.YtelmdbpaoifmoaaGreat


namespace Go.Proofs.YtelmdbpaoifmoaaGreat
open Go.Sim

theorem Rx {va vb:Value} {a b:Int} {h:ae} {K:Value→ae→Prop} (ha:dn h va a) (hb:dn h vb b) (la:a.natAbs<bj) (lb:b.natAbs<bj) (hk:∀r h',EX h h'→dn h' r (Nat.gcd a.natAbs b.natAbs:Nat)→K r h'):aj Tryz.prog 120 [va,vb] h K:=by
 obtain ⟨v,rfl,hv⟩:=ha
 obtain ⟨w,rfl,hw⟩:=hb
 refine f120 ?_
 unfold Jy
 refine De ?_
 intro h3 x
 simp only [bN,Nat.zero_add,ag,x.a1,x.b1,true_and]
 refine db (σ:=Value×Value×Nat×Nat×ae) (fun q=>[q.1,q.2.1]) (fun q=>q.2.2.2.2) (fun q=>(cR q.2.2.2.2 q.1 q.2.2.1∧cR q.2.2.2.2 q.2.1 q.2.2.2.1)∧(q.2.2.1<bj∧q.2.2.2.1<bj)∧Nat.gcd q.2.2.1 q.2.2.2.1=Nat.gcd a.natAbs b.natAbs∧EX h3 q.2.2.2.2) (fun q=>q.2.2.2.1)
  (v,w,a.natAbs,b.natAbs,h3) rfl rfl ⟨⟨hv.mono x.ex,hw.mono x.ex⟩,⟨la,lb⟩,rfl,EX.refl _⟩ ?_
 rintro ⟨vx,vy,m,n,g⟩ ⟨⟨hm,hn⟩,⟨lm,ln⟩,hg,xg⟩ L hL
 simp only at hm hn lm ln hg xg hL⊢
 rw [avw]
 obtain ⟨l,e1,e2⟩:=hn.nr
 simp only [e1,ag,eT,bS]
 refine ⟨fun hp=>?_,fun hz=>?_⟩
 ·have n0:0<n:=e2.1 (by omega)
  refine RE hm hn lm ln n0 ?_
  intro q r g2 x2 hq hr
  simp only [dY,fg,fy,ag,true_and]
  have mI:m%n<n:=Nat.mod_lt _ n0
  refine hL (vy,r,n,m%n,g2) ⟨⟨hn.mono x2,hr⟩,⟨ln,by show m%n<_;omega⟩,?_,xg.trans x2⟩ mI
  show Nat.gcd n (m%n)=_
  rw [←hg,Nat.gcd_comm m n,Nat.gcd_rec n m,Nat.gcd_comm]
 ·have n0:n=0:=by
   apply Classical.byContradiction
   intro br
   have:=e2.2 (by omega)
   omega
  subst n0
  rw [avv]
  rw [Nat.gcd_zero_right] at hg
  refine pC hm ?_
  intro h5 x5
  have g':=(xg.trans x5).get x.out
  rw [Bool.false_and]
  refine tK g' (hk _ _ (((x.ex.trans xg).trans x5).set (by omega) _) ?_)
  rw [←hg]
  exact (dn.nat (hm.mono x5)).bG g' _

theorem Ry {va vb:Value} {a b:Int} {h:ae} {K:Value→ae→Prop} (ha:dn h va a) (hb:dn h vb b) (la:a.natAbs<bj) (b0:0<b) (lb:b.natAbs<bj) (hd:b ∣ a) (hk:∀r s h',EX h h'→dn h' r (a / b)→dn h' s 0→K (.tuple #[r,s]) h'):aj Tryz.prog 121 [va,vb] h K:=by
 obtain ⟨v,rfl,hv⟩:=ha
 obtain ⟨w,rfl,hw⟩:=hb
 have sA:decide (b<0)=false:=decide_eq_false (by omega)
 obtain ⟨c,rfl⟩:=hd
 have hdiv:b*c / b=c:=Int.mul_ediv_cancel_left c (by omega)
 rw [hdiv] at hk
 have gr:(b*c).natAbs=b.natAbs*c.natAbs:=Int.natAbs_mul b c
 have nO:0<b.natAbs:=by omega
 have hq:(b*c).natAbs / b.natAbs=c.natAbs:=by rw [gr];exact Nat.mul_div_cancel_left _ nO
 have hr:(b*c).natAbs%b.natAbs=0:=by rw [gr];exact Nat.mul_mod_right _ _
 have jk:(decide (b*c<0)&&decide (0<c.natAbs))=decide (c<0):=by
  by_cases hc:c<0
  ·rw [decide_eq_true hc,decide_eq_true (show 0<c.natAbs by omega),decide_eq_true (Int.mul_neg_of_pos_of_neg b0 hc)];rfl
  ·have:0≤b*c:=Int.mul_nonneg (by omega) (by omega)
   rw [decide_eq_false hc,decide_eq_false (by omega)];rfl
 refine f121 ?_
 have e1:∀(g:ae) (s:Bool) (v:Value),bc 105 g (.agg #[B s,v])=some (pt g.length 0,g++[.arr 105 [B s,v]]):=fun _ _ _=>rfl
 have e2:∀(g:ae),aW 105 [(.bool false),(.slice none 0 0)] g=some (pt g.length 0,g++[.arr 105 [(.bool false),(.slice none 0 0)]]):=fun _=>rfl
 have ob:∀{g:ae} {i:Nat},g[i]?=some (.arr 105 [(.bool false),(.slice none 0 0)])→ee g (pt i 0)=some (.agg #[.int .i64 105,.bool false,.slice none 0 0]):=by
  intro g i hi
  simp [ee,yQ,hi,mZ,qq]
 rw [sA]
 simp only [Jz,e1,e2,aD]
 have q0:EX h (h++[.arr 105 [B (decide (b*c<0)),v]]):=EX.append _ _
 have p0:(h++[ak.arr 105 [B (decide (b*c<0)),v]])[h.length]?=some (.arr 105 [B (decide (b*c<0)),v]):=bO
 generalize h++[ak.arr 105 [B (decide (b*c<0)),v]]=ga at q0 p0⊢
 have q1:EX ga (ga++[.arr 105 [B false,w]]):=EX.append _ _
 have p1:(ga++[ak.arr 105 [B false,w]])[ga.length]?=some (.arr 105 [B false,w]):=bO
 generalize ga++[ak.arr 105 [B false,w]]=gb at q1 p1⊢
 have q2:EX gb (gb++[.arr 105 [(.bool false),(.slice none 0 0)]]):=EX.append _ _
 have p2:(gb++[ak.arr 105 [(.bool false),(.slice none 0 0)]])[gb.length]?=some (.arr 105 [(.bool false),(.slice none 0 0)]):=bO
 generalize gb++[ak.arr 105 [(.bool false),(.slice none 0 0)]]=gc at q2 p2⊢
 have q3:EX gc (gc++[.arr 105 [(.bool false),(.slice none 0 0)]]):=EX.append _ _
 have p3:(gc++[ak.arr 105 [(.bool false),(.slice none 0 0)]])[gc.length]?=some (.arr 105 [(.bool false),(.slice none 0 0)]):=bO
 generalize gc++[ak.arr 105 [(.bool false),(.slice none 0 0)]]=gd at q3 p3⊢
 have GZ:=q1.trans (q2.trans q3)
 have B9:=q0.trans GZ
 have k0:=GZ.get p0
 have k1:=(q2.trans q3).get p1
 have k2:=q3.get p2
 have la1:∀{g:ae},EX gd g→af false 1 g (pt h.length 1)=some v:=fun x=>by simp [af,aQ,x.get k0,ck]
 have FT:∀{g:ae},EX gd g→af false 1 g (pt h.length 0)=some (B (decide (b*c<0))):=fun x=>by simp [af,aQ,x.get k0,ck]
 have lb1:∀{g:ae},EX gd g→af false 1 g (pt ga.length 1)=some w:=fun x=>by simp [af,aQ,x.get k1,ck]
 have N2:∀{g:ae},EX gd g→af false 1 g (pt ga.length 0)=some (B false):=fun x=>by simp [af,aQ,x.get k1,ck]
 simp only [bN,Nat.zero_add,Nat.add_zero,ag,la1 (EX.refl gd),lb1 (EX.refl gd)]
 refine RE (hv.mono B9) (hw.mono B9) la lb nO ?_
 intro q r g5 x5 mq mr
 rw [hq] at mq
 rw [hr] at mr
 simp only [dY,fg,fy,ag]
 have y1:EX g5 (g5++[.arr 105 [(.bool false),(.slice none 0 0)]]):=EX.append _ _
 have s1:(g5++[ak.arr 105 [(.bool false),(.slice none 0 0)]])[g5.length]?=some (.arr 105 [(.bool false),(.slice none 0 0)]):=bO
 have sW:(g5++[ak.arr 105 [(.bool false),(.slice none 0 0)]]).length=g5.length+1:=by simp
 generalize g5++[ak.arr 105 [(.bool false),(.slice none 0 0)]]=g6 at y1 s1 sW⊢
 have y2:EX g6 (g6++[.arr 105 [(.bool false),(.slice none 0 0)]]):=EX.append _ _
 have s2:(g6++[ak.arr 105 [(.bool false),(.slice none 0 0)]])[g6.length]?=some (.arr 105 [(.bool false),(.slice none 0 0)]):=bO
 generalize g6++[ak.arr 105 [(.bool false),(.slice none 0 0)]]=g7 at y2 s2⊢
 have QF:=y2.get s1
 have uJ:=y1.trans y2
 have z5:=x5
 have z6:=x5.trans y1
 have z7:=x5.trans uJ
 simp only [ob s1,ob QF,ob s2,ag,true_and,FT z5,FT z6,FT z7,N2 z5,N2 z6,N2 z7,AJ,if_true]
 have hx:(!(decide (b*c<0)==false))=decide (b*c<0):=by cases decide (b*c<0) <;> rfl
 rw [hx]
 refine pC (mq.mono uJ) ?_
 intro g8 x8
 rw [jk]
 simp only [ob (x8.get QF),ob (x8.get s2),true_and,FT (z7.trans x8),ag]
 refine pC ((mr.mono uJ).mono x8) ?_
 intro g9 x9
 have hZ:=x8.trans x9
 have t1:=hZ.get QF
 have t2:=hZ.get s2
 have br:g5.length≠g6.length:=by omega
 simp only [ob t1,ob t2,true_and,decide_eq_false (show ¬(0<0) by decide),Bool.and_false]
 rw [dX t1]
 simp only [aD]
 have HB:(g9.set g5.length (.arr 105 [B (decide (c<0)),q]))[g6.length]?=some (.arr 105 [(.bool false),(.slice none 0 0)]):=by rw [List.getElem?_set_ne br];exact t2
 rw [dX HB]
 simp only [aD]
 obtain ⟨l,l1,l2⟩:=mr.nr
 have l0:l=0:=by
  apply Classical.byContradiction
  intro hc
  have:=l2.1 (by omega)
  omega
 subst l0
 simp only [l1,ag,eT]
 rw [decide_eq_false (show ¬((0:Int)<((0:Nat):Int)) by decide)]
 rw [avy]
 simp only [ie]
 rw [avz]
 have pk:bK (B false) undef (.bool false)=some (B false):=rfl
 simp only [pk,ag,c7]
 rw [avx]
 have u1:((g9.set g5.length (.arr 105 [B (decide (c<0)),q])).set g6.length (.arr 105 [B false,r]))[g5.length]?=some (.arr 105 [B (decide (c<0)),q]):=by
  rw [List.getElem?_set_ne (fun e=>br e.symm)];exact cJ t1
 have u2:((g9.set g5.length (.arr 105 [B (decide (c<0)),q])).set g6.length (.arr 105 [B false,r]))[g6.length]?=some (.arr 105 [B false,r]):=cJ HB
 have hgd:gd.length≤g5.length:=x5.1
 have uf:EX h ((g9.set g5.length (.arr 105 [B (decide (c<0)),q])).set g6.length (.arr 105 [B false,r])):=
  (((B9.trans z7).trans hZ).set (by have:=B9.1;omega) _).set (by have:=B9.1;omega) _
 have lgb:gb.length<gd.length:=by
  have:=(List.getElem?_eq_some_iff.1 k2).1;exact this
 have lgc:gc.length<gd.length:=(List.getElem?_eq_some_iff.1 p3).1
 have w2:((g9.set g5.length (.arr 105 [B (decide (c<0)),q])).set g6.length (.arr 105 [B false,r]))[gb.length]?=some (.arr 105 [(.bool false),(.slice none 0 0)]):=by
  rw [List.getElem?_set_ne (by omega),List.getElem?_set_ne (by omega)];exact (z7.trans hZ).get k2
 have w3:((g9.set g5.length (.arr 105 [B (decide (c<0)),q])).set g6.length (.arr 105 [B false,r]))[gc.length]?=some (.arr 105 [(.bool false),(.slice none 0 0)]):=by
  rw [List.getElem?_set_ne (by omega),List.getElem?_set_ne (by omega)];exact (z7.trans hZ).get p3
 have mqf:cR ((g9.set g5.length (.arr 105 [B (decide (c<0)),q])).set g6.length (.arr 105 [B false,r])) q c.natAbs:=(((mq.mono uJ).mono hZ).bG t1 _).bG HB _
 have mrf:cR ((g9.set g5.length (.arr 105 [B (decide (c<0)),q])).set g6.length (.arr 105 [B false,r])) r 0:=(((mr.mono uJ).mono hZ).bG t1 _).bG HB _
 generalize (g9.set g5.length (.arr 105 [B (decide (c<0)),q])).set g6.length (.arr 105 [B false,r])=gz at u1 u2 uf w2 w3 mqf mrf⊢
 rw [cf u1,cf u2]
 simp only [ag,true_and]
 rw [dX w2]
 simp only [aD]
 have Y0:gb.length≠gc.length:=by
  have:=(List.getElem?_eq_some_iff.1 p2).1;omega
 have u2':(gz.set gb.length (.arr 105 [B (decide (c<0)),q]))[g6.length]?=some (.arr 105 [B false,r]):=by rw [List.getElem?_set_ne (by omega)];exact u2
 have HM:(gz.set gb.length (.arr 105 [B (decide (c<0)),q]))[gc.length]?=some (.arr 105 [(.bool false),(.slice none 0 0)]):=by rw [List.getElem?_set_ne Y0];exact w3
 rw [cf u2',dX HM]
 simp only [true_and,aD]
 have n2:((gz.set gb.length (.arr 105 [B (decide (c<0)),q])).set gc.length (.arr 105 [B false,r]))[gb.length]?=some (.arr 105 [B (decide (c<0)),q]):=by
  rw [List.getElem?_set_ne (fun e=>Y0 e.symm)];exact cJ w2
 rw [cf n2,cf (cJ HM)]
 simp only [ag]
 have oR:h.length≤gb.length:=(q0.trans q1).1
 refine hk _ _ _ ((uf.set oR _).set (by have:=(List.getElem?_eq_some_iff.1 p2).1;omega) _) ⟨q,rfl,(mqf.bG w2 _).bG HM _⟩ ⟨r,rfl,(mrf.bG w2 _).bG HM _⟩

theorem Rq {va vb:Value} {a b:Int} {h:ae} {K:Value→ae→Prop} (ha:dn h va a) (hb:dn h vb b) (la:a.natAbs<bj) (b0:0<b) (lb:b.natAbs<bj)
  (hk:∀r h',EX h h'→gp h' r (a / (Nat.gcd a.natAbs b.natAbs:Int)) (b / (Nat.gcd a.natAbs b.natAbs:Int))→K r h'):aj Tryz.prog 106 [va,vb] h K:=by
 obtain ⟨v,rfl,hv⟩:=ha
 obtain ⟨w,rfl,hw⟩:=hb
 have sA:decide (b<0)=false:=decide_eq_false (by omega)
 obtain ⟨Yz,aAw⟩:=arn (a:=a) b0
 have MI:(Nat.gcd a.natAbs b.natAbs:Int) ∣ a:=Int.gcd_dvd_left ..
 have tR:(Nat.gcd a.natAbs b.natAbs:Int) ∣ b:=Int.gcd_dvd_right ..
 refine f106 ?_
 have e1:∀(g:ae) (s:Bool) (v:Value),bc 105 g (.agg #[B s,v])=some (pt g.length 0,g++[.arr 105 [B s,v]]):=fun _ _ _=>rfl
 have e2:∀(g:ae),aW 105 [(.bool false),(.slice none 0 0)] g=some (pt g.length 0,g++[.arr 105 [(.bool false),(.slice none 0 0)]]):=fun _=>rfl
 have e3:∀(g:ae),aW 107 [(.bool false),(.slice none 0 0),(.bool false),(.slice none 0 0)] g=some (pt g.length 0,g++[.arr 107 z4]):=fun _=>rfl
 simp only [Jk,e1,e3,aD]
 have q0:EX h (h++[.arr 105 [B (decide (a<0)),v]]):=EX.append _ _
 have p0:(h++[ak.arr 105 [B (decide (a<0)),v]])[h.length]?=some (.arr 105 [B (decide (a<0)),v]):=bO
 generalize h++[ak.arr 105 [B (decide (a<0)),v]]=ga at q0 p0⊢
 have q1:EX ga (ga++[.arr 105 [B (decide (b<0)),w]]):=EX.append _ _
 have p1:(ga++[ak.arr 105 [B (decide (b<0)),w]])[ga.length]?=some (.arr 105 [B (decide (b<0)),w]):=bO
 generalize ga++[ak.arr 105 [B (decide (b<0)),w]]=gb at q1 p1⊢
 have q2:EX gb (gb++[.arr 107 z4]):=EX.append _ _
 have p2:(gb++[ak.arr 107 z4])[gb.length]?=some (.arr 107 z4):=bO
 generalize gb++[ak.arr 107 z4]=gc at q2 p2⊢
 have k0:=(q1.trans q2).get p0
 have k1:=q2.get p1
 have x0:=q0.trans (q1.trans q2)
 have oR:h.length≤gb.length:=(q0.trans q1).1
 have N6:∀{g:ae},EX gc g→af true 2 g (pt h.length 0)=some (.agg #[B (decide (a<0)),v]):=fun x=>cf (x.get k0)
 have N5:∀{g:ae},EX gc g→af true 2 g (pt ga.length 0)=some (.agg #[B (decide (b<0)),w]):=fun x=>cf (x.get k1)
 have FL:∀{g:ae},EX gc g→dn g (.agg #[B (decide (a<0)),v]) a:=fun x=>⟨v,rfl,hv.mono (x0.trans x)⟩
 have FM:∀{g:ae},EX gc g→dn g (.agg #[B (decide (b<0)),w]) b:=fun x=>⟨w,rfl,hw.mono (x0.trans x)⟩
 have l1:af false 1 gc (pt ga.length 0)=some (B (decide (b<0))):=by simp [af,aQ,k1,ck]
 simp only [bN,Nat.add_zero,ag,l1]
 rw [sA]
 simp only [c7]
 rw [avd]
 rw [N6 (EX.refl gc),N5 (EX.refl gc)]
 simp only [ag]
 refine Rx (FL (EX.refl gc)) (FM (EX.refl gc)) la lb ?_
 intro r g3 x3 ir
 simp only [e2,aD]
 have y4:EX g3 (g3++[.arr 105 [(.bool false),(.slice none 0 0)]]):=EX.append _ _
 have s4:(g3++[ak.arr 105 [(.bool false),(.slice none 0 0)]])[g3.length]?=some (.arr 105 [(.bool false),(.slice none 0 0)]):=bO
 generalize g3++[ak.arr 105 [(.bool false),(.slice none 0 0)]]=g4 at y4 s4⊢
 obtain ⟨u,rfl,hu⟩:=ir
 have ZW:=(hu.mono y4).bG s4 (.arr 105 [B (decide ((Nat.gcd a.natAbs b.natAbs:Int)<0)),u])
 rw [dX s4]
 simp only [aD]
 have sf:gc.length≤g3.length:=x3.1
 have x5:EX gc (g4.set g3.length (.arr 105 [B (decide ((Nat.gcd a.natAbs b.natAbs:Int)<0)),u])):=(x3.trans y4).set sf _
 have s5:(g4.set g3.length (.arr 105 [B (decide ((Nat.gcd a.natAbs b.natAbs:Int)<0)),u]))[g3.length]?=some (.arr 105 [B (decide ((Nat.gcd a.natAbs b.natAbs:Int)<0)),u]):=cJ s4
 generalize g4.set g3.length (.arr 105 [B (decide ((Nat.gcd a.natAbs b.natAbs:Int)<0)),u])=g5 at x5 s5 ZW⊢
 have ig:∀{g:ae},EX g5 g→dn g (.agg #[B (decide ((Nat.gcd a.natAbs b.natAbs:Int)<0)),u]) (Nat.gcd a.natAbs b.natAbs:Int):=fun x=>⟨u,rfl,ZW.mono x⟩
 rw [cf s5]
 simp only [ag,true_and]
 refine zV (by decide) (by decide) ?_
 intro one g6 x6 i1
 rw [cf (x6.get s5)]
 simp only [true_and]
 have Ob:((Nat.gcd a.natAbs b.natAbs:Int)).natAbs<bj:=by rw [Int.natAbs_natCast];have:=Nat.gcd_le_right a.natAbs (show 0<b.natAbs by omega);omega
 refine H7 (ig x6) i1 Ob (by rw [show (1:Int).natAbs=1 from rfl];exact xo (by decide)) ?_
 intro g7 x7
 have dL:=x6.trans x7
 have tj:=x5.trans dL
 simp only [fW,ag,bS]
 refine ⟨fun h1=>?_,fun h1=>?_⟩
 ·have tV:(Nat.gcd a.natAbs b.natAbs:Int)=1:=by
   split at h1
   ·omega
   ·split at h1 <;> omega
  rw [N6 tj,N5 tj]
  simp only [ag]
  rw [tV,Int.ediv_one,Int.ediv_one] at hk
  exact LU (FL tj) (FM tj) (x0.trans tj) oR (tj.get p2) hk
 ·rw [N6 tj,cf (dL.get s5)]
  simp only [ag]
  refine Ry (FL tj) (ig dL) la Yz Ob MI ?_
  intro rn sn g8 x8 irn isn
  simp only [dY,fg,fy,ag]
  have y9:EX g8 (g8++[.arr 105 [(.bool false),(.slice none 0 0)]]):=EX.append _ _
  have s9:(g8++[ak.arr 105 [(.bool false),(.slice none 0 0)]])[g8.length]?=some (.arr 105 [(.bool false),(.slice none 0 0)]):=bO
  generalize g8++[ak.arr 105 [(.bool false),(.slice none 0 0)]]=g9 at y9 s9⊢
  have uI:EX g9 (g9++[.arr 105 [(.bool false),(.slice none 0 0)]]):=EX.append _ _
  have qx:(g9++[ak.arr 105 [(.bool false),(.slice none 0 0)]])[g9.length]?=some (.arr 105 [(.bool false),(.slice none 0 0)]):=bO
  generalize g9++[ak.arr 105 [(.bool false),(.slice none 0 0)]]=mC at uI qx⊢
  have QI:=uI.get s9
  obtain ⟨qn,rfl,nV⟩:=irn
  obtain ⟨zn,rfl,hzn⟩:=isn
  have YR:g8.length≠g9.length:=by have:=(List.getElem?_eq_some_iff.1 s9).1;omega
  rw [dX QI]
  simp only [aD]
  have t10:(mC.set g8.length (.arr 105 [B (decide (a / (Nat.gcd a.natAbs b.natAbs:Int)<0)),qn]))[g9.length]?=some (.arr 105 [(.bool false),(.slice none 0 0)]):=by rw [List.getElem?_set_ne YR];exact qx
  have t9:(mC.set g8.length (.arr 105 [B (decide (a / (Nat.gcd a.natAbs b.natAbs:Int)<0)),qn]))[g8.length]?=some (.arr 105 [B (decide (a / (Nat.gcd a.natAbs b.natAbs:Int)<0)),qn]):=cJ QI
  have ahU:=y9.trans uI
  have ZH:=(nV.mono ahU).bG QI (.arr 105 [B (decide (a / (Nat.gcd a.natAbs b.natAbs:Int)<0)),qn])
  have Rh:=tj.trans x8
  have gP:=dL.trans x8
  have xs1:EX g8 (mC.set g8.length (.arr 105 [B (decide (a / (Nat.gcd a.natAbs b.natAbs:Int)<0)),qn])):=ahU.set (Nat.le_refl _) _
  generalize mC.set g8.length (.arr 105 [B (decide (a / (Nat.gcd a.natAbs b.natAbs:Int)<0)),qn])=AR at t10 t9 ZH xs1⊢
  rw [dX t10]
  simp only [aD]
  have t9':(AR.set g9.length (.arr 105 [B (decide ((0:Int)<0)),zn]))[g8.length]?=some (.arr 105 [B (decide (a / (Nat.gcd a.natAbs b.natAbs:Int)<0)),qn]):=by rw [List.getElem?_set_ne (fun e=>YR e.symm)];exact t9
  have ZI:=ZH.bG t10 (.arr 105 [B (decide ((0:Int)<0)),zn])
  have h89:g8.length≤g9.length:=by have:=(List.getElem?_eq_some_iff.1 s9).1;omega
  have zQ:EX g8 (AR.set g9.length (.arr 105 [B (decide ((0:Int)<0)),zn])):=xs1.set h89 _
  generalize AR.set g9.length (.arr 105 [B (decide ((0:Int)<0)),zn])=g12 at t9' ZI zQ⊢
  rw [N5 (Rh.trans zQ),cf ((gP.trans zQ).get s5)]
  simp only [ag]
  refine Ry (FM (Rh.trans zQ)) (ig (gP.trans zQ)) lb Yz Ob tR ?_
  intro rd sd mD ay ird isd
  simp only [dY,fg,fy,ag]
  have zR:EX mD (mD++[.arr 105 [(.bool false),(.slice none 0 0)]]):=EX.append _ _
  have Hg:(mD++[ak.arr 105 [(.bool false),(.slice none 0 0)]])[mD.length]?=some (.arr 105 [(.bool false),(.slice none 0 0)]):=bO
  generalize mD++[ak.arr 105 [(.bool false),(.slice none 0 0)]]=pO at zR Hg⊢
  have Cv:EX pO (pO++[.arr 105 [(.bool false),(.slice none 0 0)]]):=EX.append _ _
  have s15:(pO++[ak.arr 105 [(.bool false),(.slice none 0 0)]])[pO.length]?=some (.arr 105 [(.bool false),(.slice none 0 0)]):=bO
  generalize pO++[ak.arr 105 [(.bool false),(.slice none 0 0)]]=ES at Cv s15⊢
  have QG:=Cv.get Hg
  obtain ⟨qd,rfl,Bl⟩:=ird
  obtain ⟨zd,rfl,hzd⟩:=isd
  have YM:mD.length≠pO.length:=by have:=(List.getElem?_eq_some_iff.1 Hg).1;omega
  rw [dX QG]
  simp only [aD]
  have ahS:=zR.trans Cv
  have t15:(ES.set mD.length (.arr 105 [B (decide (b / (Nat.gcd a.natAbs b.natAbs:Int)<0)),qd]))[pO.length]?=some (.arr 105 [(.bool false),(.slice none 0 0)]):=by rw [List.getElem?_set_ne YM];exact s15
  have t14:(ES.set mD.length (.arr 105 [B (decide (b / (Nat.gcd a.natAbs b.natAbs:Int)<0)),qd]))[mD.length]?=some (.arr 105 [B (decide (b / (Nat.gcd a.natAbs b.natAbs:Int)<0)),qd]):=cJ QG
  have ZF:=(Bl.mono ahS).bG QG (.arr 105 [B (decide (b / (Nat.gcd a.natAbs b.natAbs:Int)<0)),qd])
  have xs3:EX mD (ES.set mD.length (.arr 105 [B (decide (b / (Nat.gcd a.natAbs b.natAbs:Int)<0)),qd])):=ahS.set (Nat.le_refl _) _
  generalize ES.set mD.length (.arr 105 [B (decide (b / (Nat.gcd a.natAbs b.natAbs:Int)<0)),qd])=Mh at t15 t14 ZF xs3⊢
  rw [dX t15]
  simp only [aD]
  have ahB:(Mh.set pO.length (.arr 105 [B (decide ((0:Int)<0)),zd]))[mD.length]?=some (.arr 105 [B (decide (b / (Nat.gcd a.natAbs b.natAbs:Int)<0)),qd]):=by rw [List.getElem?_set_ne (fun e=>YM e.symm)];exact t14
  have ZG:=ZF.bG t15 (.arr 105 [B (decide ((0:Int)<0)),zd])
  have YL:mD.length≤pO.length:=by have:=(List.getElem?_eq_some_iff.1 Hg).1;omega
  have HY:EX mD (Mh.set pO.length (.arr 105 [B (decide ((0:Int)<0)),zd])):=xs3.set YL _
  generalize Mh.set pO.length (.arr 105 [B (decide ((0:Int)<0)),zd])=g17 at ahB ZG HY⊢
  rw [cf ((ay.trans HY).get t9'),cf ahB]
  simp only [ag]
  have ahV:=Rh.trans (zQ.trans (ay.trans HY))
  exact LU ⟨qn,rfl,ZI.mono (ay.trans HY)⟩ ⟨qd,rfl,ZG⟩ (x0.trans ahV) oR (ahV.get p2) hk

theorem aiS {va vb:Value} {a b c d:Int} {h:ae} {K:Value→ae→Prop} (ha:gp h va a b) (hb:gp h vb c d) (la:a.natAbs<bj) (lb:b.natAbs<bj) (lc:c.natAbs<bj) (ld:d.natAbs<bj) (BF:(a*d).natAbs<bj) (b0:0<b*c) (lbc:(b*c).natAbs<bj)
  (hk:∀r h',EX h h'→gp h' r (a*d / (Nat.gcd (a*d).natAbs (b*c).natAbs:Int)) (b*c / (Nat.gcd (a*d).natAbs (b*c).natAbs:Int))→K r h'):aj Tryz.prog 77 [va,vb] h K:=by
 obtain ⟨u,w,rfl,hu,hw⟩:=ha
 obtain ⟨u2,w2,rfl,nZ,nj⟩:=hb
 refine f77 ?_
 have e1:∀(g:ae) (s t:Bool) (v w:Value),bc 107 g (.agg #[B s,v,B t,w])=some (pt g.length 0,g++[.arr 107 [B s,v,B t,w]]):=fun _ _ _ _ _=>rfl
 have e3:∀(g:ae),aW 107 [(.bool false),(.slice none 0 0),(.bool false),(.slice none 0 0)] g=some (pt g.length 0,g++[.arr 107 z4]):=fun _=>rfl
 simp only [Kq,e1,e3,aD]
 have q0:EX h (h++[.arr 107 [B (decide (a<0)),u,B (decide (b<0)),w]]):=EX.append _ _
 have p0:(h++[ak.arr 107 [B (decide (a<0)),u,B (decide (b<0)),w]])[h.length]?=some (.arr 107 [B (decide (a<0)),u,B (decide (b<0)),w]):=bO
 generalize h++[ak.arr 107 [B (decide (a<0)),u,B (decide (b<0)),w]]=ga at q0 p0⊢
 have q1:EX ga (ga++[.arr 107 [B (decide (c<0)),u2,B (decide (d<0)),w2]]):=EX.append _ _
 have p1:(ga++[ak.arr 107 [B (decide (c<0)),u2,B (decide (d<0)),w2]])[ga.length]?=some (.arr 107 [B (decide (c<0)),u2,B (decide (d<0)),w2]):=bO
 generalize ga++[ak.arr 107 [B (decide (c<0)),u2,B (decide (d<0)),w2]]=gb at q1 p1⊢
 have q2:EX gb (gb++[.arr 107 z4]):=EX.append _ _
 have p2:(gb++[ak.arr 107 z4])[gb.length]?=some (.arr 107 z4):=bO
 generalize gb++[ak.arr 107 z4]=gc at q2 p2⊢
 have k0:=(q1.trans q2).get p0
 have k1:=q2.get p1
 have x0:=q0.trans (q1.trans q2)
 have oR:h.length≤gb.length:=(q0.trans q1).1
 simp only [bN,Nat.zero_add,ag]
 rw [iO k0,jT k1]
 simp only [ag,true_and]
 refine qK (a:=a) (b:=d) ⟨u,rfl,hu.mono x0⟩ ⟨w2,rfl,nj.mono x0⟩ la ld ?_
 intro r1 g4 x4 i1
 rw [jT (x4.get k0),iO (x4.get k1)]
 simp only [jT k0,iO k1,ag,true_and]
 refine qK (a:=b) (b:=c) ⟨w,rfl,(hw.mono x0).mono x4⟩ ⟨u2,rfl,(nZ.mono x0).mono x4⟩ lb lc ?_
 intro r2 g5 x5 i2
 refine Rq (i1.mono x5) i2 BF b0 lbc ?_
 intro r g6 x6 ir
 have cg:=x4.trans (x5.trans x6)
 have g2:=cg.get p2
 obtain ⟨y,z,rfl,hy,hz⟩:=ir
 exact pN g2 (hk _ _ ((x0.trans cg).set oR _) ⟨y,z,rfl,hy.bG g2 _,hz.bG g2 _⟩)

end Go.Proofs.YtelmdbpaoifmoaaGreat


namespace Go.Proofs.YtelmdbpaoifmoaaGreat
open Go.Sim
variable (P : Program) (K : VK)
/-! F81: (pommel/num.Rat).Sign -/
noncomputable section
variable (a0 : Value) (h : ae)
def acL:=bp Tryz.prog 81 [[],[]]
@[irreducible] def Xj:=bw acL
theorem k81:acL=some (6,Xj,[.tmp 2]):=by kernel_rfl
def Ks:Prop:=
 OH (bc 107 h a0) fun a1 h_1=>
 OP (aE 0 a1) fun x3=>
 OP (af true 2 h_1 x3) fun x4=>
 aj P 109 [x4] h_1 fun x5 h_2=>
 K x5 h_2
theorem e81:ai P Xj (aO [.tmp 2] K) (bk [a0]) h=Ks P K a0 h:=by kernel_rfl
theorem f81 {K:VK} {a0:Value} {h:ae} (H:Ks Tryz.prog K a0 h):aj Tryz.prog 81 [a0] h K:=
 bD k81 (Nat.le_of_ble_eq_true rfl) ((e81 Tryz.prog K a0 h).mpr H)
end
/-! F84: (pommel/num.Rat).Fits -/
noncomputable section
variable (a0 x1 a2 az aM : Value) (h : ae)
def acO:=bp Tryz.prog 84 [[],[1,2,12],[12,19],[]]
@[irreducible] def Ej:=bw acO
@[irreducible] def Xm:=Ej.r.l.r.l
@[irreducible] def ao0:=Ej.r.r
@[irreducible] def ao1:=Xm.r.l
theorem k84:acO=some (21,Ej,[.tmp 4]):=by kernel_rfl
def Tv (_P:Program) (K:VK):aq:=aO [.tmp 4] K
def Tw:aq:=aC (ai P ao0 (Tv P K)) (Tv P K)
def afo:Prop:=au (ai P Xm (Tw P K)) [1,2,12] [x1,a2,az] h
def PU:Prop:=au (ai P ao1 (Tw P K)) [12,19] [az,aM] h
theorem agR:PU P K az aM h=
 (OP (bK az aM (.bool false)) fun aT=>
 K aT h):=aw (by kernel_rfl)
theorem axM:afo P K x1 a2 az h=
 (bU az true
 (OP (aE 2 a2) fun ay=>
 OP (aE 1 ay) fun aP=>
 OP (af false 1 h aP) fun a9=>
 aj P 89 [a9] h fun aX h_1=>
 OP (fe aX) fun bH=>
 OP (ah .leq bH x1) fun aM=>
 PU P K az aM h_1)
 (PU P K az undef h)):=aw (by kernel_rfl)
def Kv:Prop:=
 OH (bc 107 h a0) fun a2 h_1=>
 OP (aE 0 a2) fun x5=>
 OP (aE 1 x5) fun x6=>
 OP (af false 1 h_1 x6) fun x7=>
 aj P 89 [x7] h_1 fun x8 h_2=>
 OP (fe x8) fun x9=>
 OP (ah .leq x9 x1) fun ax=>
 afo P K x1 a2 ax h_2
theorem e84:ai P Ej (aO [.tmp 4] K) (bk [a0,x1]) h=Kv P K a0 x1 h:=by kernel_rfl
theorem f84 {K:VK} {a0 x1:Value} {h:ae} (H:Kv Tryz.prog K a0 x1 h):aj Tryz.prog 84 [a0,x1] h K:=
 bD k84 (Nat.le_of_ble_eq_true rfl) ((e84 Tryz.prog K a0 x1 h).mpr H)
end
/-! F86: (pommel/num.Rat).Cmp -/
noncomputable section
variable (a0 b1 : Value) (h : ae)
def acQ:=bp Tryz.prog 86 [[],[]]
@[irreducible] def Xo:=bw acQ
theorem k86:acQ=some (16,Xo,[.tmp 4]):=by kernel_rfl
def Kx:Prop:=
 OH (bc 107 h a0) fun a2 h_1=>
 OH (bc 107 h_1 b1) fun b3 h_2=>
 OP (aE 0 a2) fun x5=>
 OP (af true 2 h_2 x5) fun x6=>
 (True)∧
 OP (aE 2 b3) fun x7=>
 OP (af true 2 h_2 x7) fun x8=>
 (True)∧
 aj P 107 [x6,x8] h_2 fun x9 h_3=>
 (True)∧
 OP (aE 0 b3) fun aF=>
 OP (af true 2 h_3 aF) fun ax=>
 (af true 2 h_2 aF=some ax∧True)∧
 OP (aE 2 a2) fun az=>
 OP (af true 2 h_3 az) fun ay=>
 (af true 2 h_2 az=some ay∧True)∧
 aj P 107 [ax,ay] h_3 fun aP h_4=>
 (True)∧
 aj P 111 [x9,aP] h_4 fun a9 h_5=>
 (True)∧
 K a9 h_5
theorem e86:ai P Xo (aO [.tmp 4] K) (bk [a0,b1]) h=Kx P K a0 b1 h:=by kernel_rfl
theorem f86 {K:VK} {a0 b1:Value} {h:ae} (H:Kx Tryz.prog K a0 b1 h):aj Tryz.prog 86 [a0,b1] h K:=
 bD k86 (Nat.le_of_ble_eq_true rfl) ((e86 Tryz.prog K a0 b1 h).mpr H)
end
/-! F87: (pommel/num.Rat).Add -/
noncomputable section
variable (a0 b1 a2 b3 x4 x7 x9 : Value) (h : ae)
def acR:=bp Tryz.prog 87 [[],[2,3,4,7],[2,3,4,7,9],[],[],[],[]]
@[irreducible] def Au:=bw acR
@[irreducible] def Xp:=Au.r.l.l.r.l
@[irreducible] def ao5:=Au.r.l.r
@[irreducible] def ao4:=Au.r.r
@[irreducible] def ao6:=Xp.r.l
theorem k87:acR=some (34,Au,[.cell true 4 4]):=by kernel_rfl
def Tx (_P:Program) (K:VK):aq:=aO [.cell true 4 4] K
def Ty:aq:=aC (ai P ao4 (Tx P K)) (Tx P K)
def Tz:aq:=aC (ai P ao5 (Ty P K)) (Ty P K)
def afr:Prop:=au (ai P Xp (Tz P K)) [2,3,4,7] [a2,b3,x4,x7] h
def GJ:Prop:=au (ai P ao6 (Tz P K)) [2,3,4,7,9] [a2,b3,x4,x7,x9] h
theorem axQ:GJ P K a2 b3 x4 x7 x9 h=
 (OP (bK x7 x9 (.bool false)) fun aF=>
 aL aF
 (OP (aE 0 a2) fun ax=>
 OP (af true 2 h ax) fun az=>
 OP (aE 0 b3) fun ay=>
 OP (af true 2 h ay) fun aP=>
 aj P 113 [az,aP] h fun a9 h_1=>
 aj P 112 [a9] h_1 fun aX h_2=>
 OH (aJ 4 h_2 x4 aX) fun _ h_3=>
 OP (af true 4 h_3 x4) fun r0=>
 K r0 h_3)
 (OP (aE 0 a2) fun bH=>
 OP (af true 2 h bH) fun aN=>
 (True)∧
 OP (aE 2 b3) fun aM=>
 OP (af true 2 h aM) fun aT=>
 (True)∧
 aj P 107 [aN,aT] h fun bf h_1=>
 (True)∧
 OP (aE 0 b3) fun bt=>
 OP (af true 2 h_1 bt) fun bV=>
 (af true 2 h bt=some bV∧True)∧
 OP (aE 2 a2) fun bC=>
 OP (af true 2 h_1 bC) fun bL=>
 (af true 2 h bC=some bL∧True)∧
 aj P 107 [bV,bL] h_1 fun cF h_2=>
 (True)∧
 aj P 113 [bf,cF] h_2 fun bR h_3=>
 (True)∧
 OP (aE 2 a2) fun bE=>
 OP (af true 2 h_3 bE) fun bZ=>
 (af true 2 h bE=some bZ∧af true 2 h_1 bE=some bZ∧af true 2 h_2 bE=some bZ∧True)∧
 OP (aE 2 b3) fun cP=>
 OP (af true 2 h_3 cP) fun bY=>
 (af true 2 h cP=some bY∧af true 2 h_1 cP=some bY∧af true 2 h_2 cP=some bY∧True)∧
 aj P 107 [bZ,bY] h_3 fun cM h_4=>
 (True)∧
 aj P 106 [bR,cM] h_4 fun dJ h_5=>
 (True)∧
 OH (aJ 4 h_5 x4 dJ) fun _ h_6=>
 (True)∧
 OP (af true 4 h_6 x4) fun r0=>
 K r0 h_6)):=aw (by kernel_rfl)
theorem axP:afr P K a2 b3 x4 x7 h=
 (bU x7 true
 (OP (af true 4 h b3) fun x8=>
 aj P 90 [x8] h fun x9 h_1=>
 GJ P K a2 b3 x4 x7 x9 h_1)
 (GJ P K a2 b3 x4 x7 undef h)):=aw (by kernel_rfl)
def Ky:Prop:=
 OH (bc 107 h a0) fun a2 h_1=>
 OH (bc 107 h_1 b1) fun b3 h_2=>
 OH (aW 107 [(.bool false),(.slice none 0 0),(.bool false),(.slice none 0 0)] h_2) fun x4 h_3=>
 OP (af true 4 h_3 a2) fun x5=>
 aj P 90 [x5] h_3 fun x6 h_4=>
 afr P K a2 b3 x4 x6 h_4
theorem e87:ai P Au (aO [.cell true 4 4] K) (bk [a0,b1]) h=Ky P K a0 b1 h:=by kernel_rfl
theorem f87 {K:VK} {a0 b1:Value} {h:ae} (H:Ky Tryz.prog K a0 b1 h):aj Tryz.prog 87 [a0,b1] h K:=
 bD k87 (Nat.le_of_ble_eq_true rfl) ((e87 Tryz.prog K a0 b1 h).mpr H)
end
/-! F88: (pommel/num.Rat).Mul -/
noncomputable section
variable (a0 b1 a2 b3 x4 x7 x9 : Value) (h : ae)
def acS:=bp Tryz.prog 88 [[],[2,3,4,7],[2,3,4,7,9],[],[],[],[]]
@[irreducible] def Av:=bw acS
@[irreducible] def Xq:=Av.r.l.l.r.l
@[irreducible] def ao8:=Av.r.l.r
@[irreducible] def ao7:=Av.r.r
@[irreducible] def ao9:=Xq.r.l
theorem k88:acS=some (28,Av,[.cell true 4 4]):=by kernel_rfl
def TA (_P:Program) (K:VK):aq:=aO [.cell true 4 4] K
def TC:aq:=aC (ai P ao7 (TA P K)) (TA P K)
def TD:aq:=aC (ai P ao8 (TC P K)) (TC P K)
def afs:Prop:=au (ai P Xq (TD P K)) [2,3,4,7] [a2,b3,x4,x7] h
def GK:Prop:=au (ai P ao9 (TD P K)) [2,3,4,7,9] [a2,b3,x4,x7,x9] h
theorem axS:GK P K a2 b3 x4 x7 x9 h=
 (OP (bK x7 x9 (.bool false)) fun aF=>
 aL aF
 (OP (aE 0 a2) fun ax=>
 OP (af true 2 h ax) fun az=>
 OP (aE 0 b3) fun ay=>
 OP (af true 2 h ay) fun aP=>
 aj P 107 [az,aP] h fun a9 h_1=>
 aj P 112 [a9] h_1 fun aX h_2=>
 OH (aJ 4 h_2 x4 aX) fun _ h_3=>
 OP (af true 4 h_3 x4) fun r0=>
 K r0 h_3)
 (OP (aE 0 a2) fun bH=>
 OP (af true 2 h bH) fun aN=>
 (True)∧
 OP (aE 0 b3) fun aM=>
 OP (af true 2 h aM) fun aT=>
 (True)∧
 aj P 107 [aN,aT] h fun bf h_1=>
 (True)∧
 OP (aE 2 a2) fun bt=>
 OP (af true 2 h_1 bt) fun bV=>
 (af true 2 h bt=some bV∧True)∧
 OP (aE 2 b3) fun bC=>
 OP (af true 2 h_1 bC) fun bL=>
 (af true 2 h bC=some bL∧True)∧
 aj P 107 [bV,bL] h_1 fun cF h_2=>
 (True)∧
 aj P 106 [bf,cF] h_2 fun bR h_3=>
 (True)∧
 OH (aJ 4 h_3 x4 bR) fun _ h_4=>
 (True)∧
 OP (af true 4 h_4 x4) fun r0=>
 K r0 h_4)):=aw (by kernel_rfl)
theorem axR:afs P K a2 b3 x4 x7 h=
 (bU x7 true
 (OP (af true 4 h b3) fun x8=>
 aj P 90 [x8] h fun x9 h_1=>
 GK P K a2 b3 x4 x7 x9 h_1)
 (GK P K a2 b3 x4 x7 undef h)):=aw (by kernel_rfl)
def Kz:Prop:=
 OH (bc 107 h a0) fun a2 h_1=>
 OH (bc 107 h_1 b1) fun b3 h_2=>
 OH (aW 107 [(.bool false),(.slice none 0 0),(.bool false),(.slice none 0 0)] h_2) fun x4 h_3=>
 OP (af true 4 h_3 a2) fun x5=>
 aj P 90 [x5] h_3 fun x6 h_4=>
 afs P K a2 b3 x4 x6 h_4
theorem e88:ai P Av (aO [.cell true 4 4] K) (bk [a0,b1]) h=Kz P K a0 b1 h:=by kernel_rfl
theorem f88 {K:VK} {a0 b1:Value} {h:ae} (H:Kz Tryz.prog K a0 b1 h):aj Tryz.prog 88 [a0,b1] h K:=
 bD k88 (Nat.le_of_ble_eq_true rfl) ((e88 Tryz.prog K a0 b1 h).mpr H)
end
end Go.Proofs.YtelmdbpaoifmoaaGreat

namespace Go.Proofs.YtelmdbpaoifmoaaGreat
open Go.Sim

def RV (h:ae) (v:Value) (q:Rat):Prop:=gp h v q.num (q.den:Int)
theorem RV.mono {h h':ae} {v:Value} {q:Rat} (x:EX h h') (p:RV h v q):RV h' v q:=gp.mono x p

def cA (k:Nat) (q:Rat):Prop:=q.num.natAbs<10^k∧q.den<10^k

def aaE:Nat:=900
theorem auU:(10:Nat)^aaE≤bj:=by unfold bj;decide+kernel

theorem ny {k:Nat} (h:k≤900):10^k≤bj:=Nat.le_trans (Nat.pow_le_pow_right (by decide) (show k≤aaE from h)) auU

theorem mul_pow {a b i j:Nat} (ha:a<10^i) (hb:b<10^j):a*b<10^(i+j):=by
 rw [Nat.pow_add]
 exact Nat.mul_lt_mul'' ha hb

theorem wY {N:Int} {D:Nat} (hD:0<D):(mkRat N D).num=N / (Nat.gcd N.natAbs D:Int)∧(mkRat N D).den=D / Nat.gcd N.natAbs D:=by
 rw [←Rat.normalize_eq_mkRat (by omega:D≠0),Rat.normalize_eq]
 exact ⟨rfl,rfl⟩

theorem Rs {va vb:Value} {N:Int} {D:Nat} {h:ae} {K:Value→ae→Prop} (ha:dn h va N) (hb:dn h vb (D:Int)) (la:N.natAbs<bj) (d0:0<D) (lb:D<bj) (hk:∀r h',EX h h'→RV h' r (mkRat N D)→K r h'):aj Tryz.prog 106 [va,vb] h K:=by
 refine Rq ha hb la (by omega) (by rw [Int.natAbs_natCast];exact lb) ?_
 intro r h' x hr
 refine hk r h' x ?_
 obtain ⟨e1,e2⟩:=wY (N:=N) d0
 unfold RV
 rw [e1,e2,Int.natCast_ediv]
 rw [Int.natAbs_natCast] at hr
 exact hr

theorem cA.dU {k:Nat} {q:Rat} (h:cA k q) (hk:k≤900):q.num.natAbs<bj∧q.den<bj:=by
 have:=ny hk
 exact ⟨Nat.lt_of_lt_of_le h.1 this,Nat.lt_of_lt_of_le h.2 this⟩

theorem vm {i j:Nat} {p q:Rat} (hp:cA i p) (hq:cA j q):(p.num*q.den).natAbs<10^(i+j)∧(q.num*p.den).natAbs<10^(i+j)∧p.den*q.den<10^(i+j)∧(p.num*q.num).natAbs<10^(i+j):=by
 refine ⟨?_,?_,mul_pow hp.2 hq.2,?_⟩
 ·rw [Int.natAbs_mul,Int.natAbs_natCast];exact mul_pow hp.1 hq.2
 ·rw [Int.natAbs_mul,Int.natAbs_natCast,Nat.mul_comm];exact mul_pow hp.2 hq.1
 ·rw [Int.natAbs_mul];exact mul_pow hp.1 hq.1

theorem aa7 (n:Int):(mkRat n 1).num=n∧(mkRat n 1).den=1:=by
 obtain ⟨e1,e2⟩:=wY (N:=n) (D:=1) (by decide)
 rw [Nat.gcd_one_right] at e1 e2
 exact ⟨by rw [e1];simp,by rw [e2]⟩

theorem KI (p q:Rat):p+q=mkRat (p.num*q.den+q.num*p.den) (p.den*q.den):=by rw [Rat.add_def,Rat.normalize_eq_mkRat]
theorem Oj (p q:Rat):p*q=mkRat (p.num*q.num) (p.den*q.den):=by rw [Rat.mul_def,Rat.normalize_eq_mkRat]

section
variable {va vb : Value} {p q : Rat} {i j : Nat} {h : ae} {K : Value → ae → Prop}

theorem Ij (ha:RV h va p) (hb:RV h vb q) (sp:cA i p) (sq:cA j q) (dO:i+j≤800) (hk:∀r h',EX h h'→RV h' r (p+q)→K r h'):aj Tryz.prog 87 [va,vb] h K:=by
 obtain ⟨u,w,rfl,hu,hw⟩:=ha
 obtain ⟨u2,w2,rfl,nZ,nj⟩:=hb
 have pd:=p.den_pos
 have qd:=q.den_pos
 obtain ⟨sN,rk⟩:=sp.dU (by omega)
 obtain ⟨sO,rl⟩:=sq.dU (by omega)
 obtain ⟨c1,c2,c3,_⟩:=vm sp sq
 have cb:=ny (k:=i+j) (by omega)
 have cb1:=ny (k:=i+j+1) (by omega)
 have hO:decide ((p.den:Int)<0)=false:=decide_eq_false (by omega)
 have iz:decide ((q.den:Int)<0)=false:=decide_eq_false (by omega)
 rw [Int.natAbs_natCast] at hw nj
 rw [hO,iz]
 refine f87 ?_
 have e1:∀(g:ae) (s t:Bool) (v w:Value),bc 107 g (.agg #[B s,v,B t,w])=some (pt g.length 0,g++[.arr 107 [B s,v,B t,w]]):=fun _ _ _ _ _=>rfl
 have e3:∀(g:ae),aW 107 [(.bool false),(.slice none 0 0),(.bool false),(.slice none 0 0)] g=some (pt g.length 0,g++[.arr 107 z4]):=fun _=>rfl
 simp only [Ky,e1,e3,aD]
 have q0:EX h (h++[.arr 107 [B (decide (p.num<0)),u,B false,w]]):=EX.append _ _
 have p0:(h++[ak.arr 107 [B (decide (p.num<0)),u,B false,w]])[h.length]?=some (.arr 107 [B (decide (p.num<0)),u,B false,w]):=bO
 generalize h++[ak.arr 107 [B (decide (p.num<0)),u,B false,w]]=ga at q0 p0⊢
 have q1:EX ga (ga++[.arr 107 [B (decide (q.num<0)),u2,B false,w2]]):=EX.append _ _
 have p1:(ga++[ak.arr 107 [B (decide (q.num<0)),u2,B false,w2]])[ga.length]?=some (.arr 107 [B (decide (q.num<0)),u2,B false,w2]):=bO
 generalize ga++[ak.arr 107 [B (decide (q.num<0)),u2,B false,w2]]=gb at q1 p1⊢
 have q2:EX gb (gb++[.arr 107 z4]):=EX.append _ _
 have p2:(gb++[ak.arr 107 z4])[gb.length]?=some (.arr 107 z4):=bO
 generalize gb++[ak.arr 107 z4]=gc at q2 p2⊢
 have k0:=(q1.trans q2).get p0
 have k1:=q2.get p1
 have x0:=q0.trans (q1.trans q2)
 have oR:h.length≤gb.length:=(q0.trans q1).1
 have done:∀{N:Int} {D:Nat} {r:Value} {g:ae},EX gc g→RV g r (mkRat N D)→p+q=mkRat N D→OH (aJ 4 g (pt gb.length 0) r) fun _ h_3=>OP (af true 4 h_3 (pt gb.length 0)) fun r0=>K r0 h_3:=by
  intro N D r g xg hr he
  rw [←he] at hr
  have g2:=xg.get p2
  obtain ⟨y,z,rfl,hy,hz⟩:=hr
  exact pN g2 (hk _ _ ((x0.trans xg).set oR _) ⟨y,z,rfl,hy.bG g2 _,hz.bG g2 _⟩)
 simp only [gA k0,ag]
 refine zW (hw.mono x0) rk ?_
 intro g4 x4
 have ql:=x4.get k0
 have jo:=x4.get k1
 have Cp:=x0.trans x4
 rw [axP]
 have whole:∀t u':Value,bK t u' (.bool false)=some (B (decide (p.den=1)&&decide (q.den=1)))→∀{g5:ae},EX g4 g5→GJ Tryz.prog K (pt h.length 0) (pt ga.length 0) (pt gb.length 0) t u' g5:=by
  intro t u' ht g5 x5
  have k0:=x5.get ql
  have k1:=x5.get jo
  have oA:=Cp.trans x5
  have bW:=x4.trans x5
  rw [axQ,ht]
  simp only [ag]
  by_cases jN:p.den=1∧q.den=1
  ·rw [decide_eq_true jN.1,decide_eq_true jN.2]
   simp only [Bool.and_true,dd,bN,Nat.zero_add,ag]
   rw [iO k0]
   simp only [ag]
   rw [iO k1]
   simp only [ag]
   refine H8 (a:=p.num) (b:=q.num) ⟨u,rfl,hu.mono oA⟩ ⟨u2,rfl,nZ.mono oA⟩ sN sO ?_
   intro r1 g6 x6 i1
   refine Rv i1 ?_
   intro r2 g7 x7 i2
   obtain ⟨n1,n2⟩:=aa7 (p.num+q.num)
   refine done (N:=p.num+q.num) (D:=1) (bW.trans (x6.trans x7)) (by unfold RV;rw [n1,n2];exact i2) ?_
   rw [KI,jN.1,jN.2]
   simp
  ·have hf:(decide (p.den=1)&&decide (q.den=1))=false:=by
    rw [Bool.and_eq_false_iff,decide_eq_false_iff_not,decide_eq_false_iff_not]
    by_cases h1:p.den=1
    ·exact .inr fun h2=>jN ⟨h1,h2⟩
    ·exact .inl h1
   rw [hf]
   have lX:∀{g:ae},EX g5 g→af true 2 g (pt h.length 0)=some (.agg #[B (decide (p.num<0)),u]):=fun x=>iO (x.get k0)
   have sL:∀{g:ae},EX g5 g→af true 2 g (pt h.length 2)=some (.agg #[B false,w]):=fun x=>jT (x.get k0)
   have FU:∀{g:ae},EX g5 g→af true 2 g (pt ga.length 0)=some (.agg #[B (decide (q.num<0)),u2]):=fun x=>iO (x.get k1)
   have wO:∀{g:ae},EX g5 g→af true 2 g (pt ga.length 2)=some (.agg #[B false,w2]):=fun x=>jT (x.get k1)
   have iw:∀{g:ae},EX g5 g→dn g (.agg #[B false,w]) (p.den:Int):=fun x=>dn.nat (hw.mono (oA.trans x))
   have FN:∀{g:ae},EX g5 g→dn g (.agg #[B false,w2]) (q.den:Int):=fun x=>dn.nat (nj.mono (oA.trans x))
   simp only [c7,bN,Nat.zero_add,ag,lX (EX.refl g5),wO (EX.refl g5),true_and]
   refine qK (a:=p.num) (b:=(q.den:Int)) ⟨u,rfl,hu.mono oA⟩ (FN (EX.refl g5)) sN (by rw [Int.natAbs_natCast];exact rl) ?_
   intro r1 g6 x6 i1
   simp only [FU x6,FU (EX.refl g5),sL x6,sL (EX.refl g5),ag,true_and]
   refine qK (a:=q.num) (b:=(p.den:Int)) ⟨u2,rfl,(nZ.mono oA).mono x6⟩ (iw x6) sO (by rw [Int.natAbs_natCast];exact rk) ?_
   intro r2 g7 x7 i2
   have fD:=x6.trans x7
   refine H8 (i1.mono x7) i2 (by omega) (by omega) ?_
   intro r3 g8 x8 i3
   have eG:=fD.trans x8
   simp only [sL eG,sL fD,wO eG,wO x6,wO fD,ag,true_and]
   refine qK (iw eG) (FN eG) (by rw [Int.natAbs_natCast];exact rk) (by rw [Int.natAbs_natCast];exact rl) ?_
   intro r4 g9 x9 i4
   rw [←Int.natCast_mul] at i4
   have FB:(p.num*q.den+q.num*p.den).natAbs<bj:=by
    have h1:10^(i+j+1)=10^(i+j)*10:=Nat.pow_succ ..
    generalize 10^(i+j)=Z at*
    omega
   refine Rs (i3.mono x9) i4 FB (Nat.mul_pos pd qd) (Nat.lt_of_lt_of_le c3 cb) ?_
   intro r mC aF ir
   exact done (bW.trans (eG.trans (x9.trans aF))) ir (KI p q)
 by_cases h1:p.den=1
 ·rw [decide_eq_true h1]
  simp only [eO,gA jo,ag]
  refine zW (nj.mono Cp) rl ?_
  intro g5 x5
  refine whole _ _ ?_ x5
  rw [h1];simp
 ·rw [decide_eq_false h1]
  simp only [ie]
  refine whole _ _ ?_ (EX.refl g4)
  rw [decide_eq_false h1];simp

end
end Go.Proofs.YtelmdbpaoifmoaaGreat


namespace Go.Proofs.YtelmdbpaoifmoaaGreat
open Go.Sim

section
variable {va vb : Value} {p q : Rat} {i j : Nat} {h : ae} {K : Value → ae → Prop}

theorem C88 (ha:RV h va p) (hb:RV h vb q) (sp:cA i p) (sq:cA j q) (dO:i+j≤800) (hk:∀r h',EX h h'→RV h' r (p*q)→K r h'):aj Tryz.prog 88 [va,vb] h K:=by
 obtain ⟨u,w,rfl,hu,hw⟩:=ha
 obtain ⟨u2,w2,rfl,nZ,nj⟩:=hb
 have pd:=p.den_pos
 have qd:=q.den_pos
 obtain ⟨sN,rk⟩:=sp.dU (by omega)
 obtain ⟨sO,rl⟩:=sq.dU (by omega)
 obtain ⟨_,_,c3,c4⟩:=vm sp sq
 have cb:=ny (k:=i+j) (by omega)
 have hO:decide ((p.den:Int)<0)=false:=decide_eq_false (by omega)
 have iz:decide ((q.den:Int)<0)=false:=decide_eq_false (by omega)
 rw [Int.natAbs_natCast] at hw nj
 rw [hO,iz]
 refine f88 ?_
 have e1:∀(g:ae) (s t:Bool) (v w:Value),bc 107 g (.agg #[B s,v,B t,w])=some (pt g.length 0,g++[.arr 107 [B s,v,B t,w]]):=fun _ _ _ _ _=>rfl
 have e3:∀(g:ae),aW 107 [(.bool false),(.slice none 0 0),(.bool false),(.slice none 0 0)] g=some (pt g.length 0,g++[.arr 107 z4]):=fun _=>rfl
 simp only [Kz,e1,e3,aD]
 have q0:EX h (h++[.arr 107 [B (decide (p.num<0)),u,B false,w]]):=EX.append _ _
 have p0:(h++[ak.arr 107 [B (decide (p.num<0)),u,B false,w]])[h.length]?=some (.arr 107 [B (decide (p.num<0)),u,B false,w]):=bO
 generalize h++[ak.arr 107 [B (decide (p.num<0)),u,B false,w]]=ga at q0 p0⊢
 have q1:EX ga (ga++[.arr 107 [B (decide (q.num<0)),u2,B false,w2]]):=EX.append _ _
 have p1:(ga++[ak.arr 107 [B (decide (q.num<0)),u2,B false,w2]])[ga.length]?=some (.arr 107 [B (decide (q.num<0)),u2,B false,w2]):=bO
 generalize ga++[ak.arr 107 [B (decide (q.num<0)),u2,B false,w2]]=gb at q1 p1⊢
 have q2:EX gb (gb++[.arr 107 z4]):=EX.append _ _
 have p2:(gb++[ak.arr 107 z4])[gb.length]?=some (.arr 107 z4):=bO
 generalize gb++[ak.arr 107 z4]=gc at q2 p2⊢
 have k0:=(q1.trans q2).get p0
 have k1:=q2.get p1
 have x0:=q0.trans (q1.trans q2)
 have oR:h.length≤gb.length:=(q0.trans q1).1
 have done:∀{N:Int} {D:Nat} {r:Value} {g:ae},EX gc g→RV g r (mkRat N D)→p*q=mkRat N D→OH (aJ 4 g (pt gb.length 0) r) fun _ h_3=>OP (af true 4 h_3 (pt gb.length 0)) fun r0=>K r0 h_3:=by
  intro N D r g xg hr he
  rw [←he] at hr
  have g2:=xg.get p2
  obtain ⟨y,z,rfl,hy,hz⟩:=hr
  exact pN g2 (hk _ _ ((x0.trans xg).set oR _) ⟨y,z,rfl,hy.bG g2 _,hz.bG g2 _⟩)
 simp only [gA k0,ag]
 refine zW (hw.mono x0) rk ?_
 intro g4 x4
 have ql:=x4.get k0
 have jo:=x4.get k1
 have Cp:=x0.trans x4
 rw [axR]
 have whole:∀t u':Value,bK t u' (.bool false)=some (B (decide (p.den=1)&&decide (q.den=1)))→∀{g5:ae},EX g4 g5→GK Tryz.prog K (pt h.length 0) (pt ga.length 0) (pt gb.length 0) t u' g5:=by
  intro t u' ht g5 x5
  have k0:=x5.get ql
  have k1:=x5.get jo
  have oA:=Cp.trans x5
  have bW:=x4.trans x5
  rw [axS,ht]
  simp only [ag]
  by_cases jN:p.den=1∧q.den=1
  ·rw [decide_eq_true jN.1,decide_eq_true jN.2]
   simp only [Bool.and_true,dd,bN,Nat.zero_add,ag]
   rw [iO k0]
   simp only [ag]
   rw [iO k1]
   simp only [ag]
   refine qK (a:=p.num) (b:=q.num) ⟨u,rfl,hu.mono oA⟩ ⟨u2,rfl,nZ.mono oA⟩ sN sO ?_
   intro r1 g6 x6 i1
   refine Rv i1 ?_
   intro r2 g7 x7 i2
   obtain ⟨n1,n2⟩:=aa7 (p.num*q.num)
   refine done (N:=p.num*q.num) (D:=1) (bW.trans (x6.trans x7)) (by unfold RV;rw [n1,n2];exact i2) ?_
   rw [Oj,jN.1,jN.2]
  ·have hf:(decide (p.den=1)&&decide (q.den=1))=false:=by
    rw [Bool.and_eq_false_iff,decide_eq_false_iff_not,decide_eq_false_iff_not]
    by_cases h1:p.den=1
    ·exact .inr fun h2=>jN ⟨h1,h2⟩
    ·exact .inl h1
   rw [hf]
   have lX:∀{g:ae},EX g5 g→af true 2 g (pt h.length 0)=some (.agg #[B (decide (p.num<0)),u]):=fun x=>iO (x.get k0)
   have sL:∀{g:ae},EX g5 g→af true 2 g (pt h.length 2)=some (.agg #[B false,w]):=fun x=>jT (x.get k0)
   have FU:∀{g:ae},EX g5 g→af true 2 g (pt ga.length 0)=some (.agg #[B (decide (q.num<0)),u2]):=fun x=>iO (x.get k1)
   have wO:∀{g:ae},EX g5 g→af true 2 g (pt ga.length 2)=some (.agg #[B false,w2]):=fun x=>jT (x.get k1)
   have iw:∀{g:ae},EX g5 g→dn g (.agg #[B false,w]) (p.den:Int):=fun x=>dn.nat (hw.mono (oA.trans x))
   have FN:∀{g:ae},EX g5 g→dn g (.agg #[B false,w2]) (q.den:Int):=fun x=>dn.nat (nj.mono (oA.trans x))
   simp only [c7,bN,Nat.zero_add,ag,lX (EX.refl g5),FU (EX.refl g5),true_and]
   refine qK (a:=p.num) (b:=q.num) ⟨u,rfl,hu.mono oA⟩ ⟨u2,rfl,nZ.mono oA⟩ sN sO ?_
   intro r1 g6 x6 i1
   simp only [sL x6,sL (EX.refl g5),wO x6,wO (EX.refl g5),ag,true_and]
   refine qK (iw x6) (FN x6) (by rw [Int.natAbs_natCast];exact rk) (by rw [Int.natAbs_natCast];exact rl) ?_
   intro r2 g7 x7 i2
   rw [←Int.natCast_mul] at i2
   have fD:=x6.trans x7
   refine Rs (i1.mono x7) i2 (Nat.lt_of_lt_of_le c4 cb) (Nat.mul_pos pd qd) (Nat.lt_of_lt_of_le c3 cb) ?_
   intro r mC aF ir
   exact done (bW.trans (fD.trans aF)) ir (Oj p q)
 by_cases h1:p.den=1
 ·rw [decide_eq_true h1]
  simp only [eO,gA jo,ag]
  refine zW (nj.mono Cp) rl ?_
  intro g5 x5
  refine whole _ _ ?_ x5
  rw [h1];simp
 ·rw [decide_eq_false h1]
  simp only [ie]
  refine whole _ _ ?_ (EX.refl g4)
  rw [decide_eq_false h1];simp

def mA (p q:Rat):Int:=if p=q then 0 else if p<q then -1 else 1

theorem apJ (p q:Rat):(if p.num*q.den-q.num*p.den=0 then 0 else if p.num*q.den-q.num*p.den<0 then -1 else 1:Int)=mA p q:=by
 unfold mA
 have h1:p=q↔p.num*q.den-q.num*p.den=0:=by
  constructor
  ·rintro rfl;omega
  ·intro h
   refine Rat.le_antisymm ?_ ?_ <;> rw [Rat.le_iff] <;> omega
 have h2:p<q↔p.num*q.den-q.num*p.den<0:=by rw [Rat.lt_iff];omega
 by_cases e1:p=q
 ·rw [if_pos e1,if_pos (h1.1 e1)]
 ·rw [if_neg e1,if_neg (fun h=>e1 (h1.2 h))]
  by_cases e2:p<q
  ·rw [if_pos e2,if_pos (h2.1 e2)]
  ·rw [if_neg e2,if_neg (fun h=>e2 (h2.2 h))]

theorem R4 (ha:RV h va p) (hb:RV h vb q) (sp:cA i p) (sq:cA j q) (dO:i+j≤800) (hk:∀h',EX h h'→K (I (mA p q)) h'):aj Tryz.prog 86 [va,vb] h K:=by
 obtain ⟨u,w,rfl,hu,hw⟩:=ha
 obtain ⟨u2,w2,rfl,nZ,nj⟩:=hb
 obtain ⟨sN,rk⟩:=sp.dU (by omega)
 obtain ⟨sO,rl⟩:=sq.dU (by omega)
 obtain ⟨c1,c2,_,_⟩:=vm sp sq
 have cb:=ny (k:=i+j) (by omega)
 have hO:decide ((p.den:Int)<0)=false:=decide_eq_false (by omega)
 have iz:decide ((q.den:Int)<0)=false:=decide_eq_false (by omega)
 rw [Int.natAbs_natCast] at hw nj
 rw [hO,iz]
 refine f86 ?_
 have e1:∀(g:ae) (s t:Bool) (v w:Value),bc 107 g (.agg #[B s,v,B t,w])=some (pt g.length 0,g++[.arr 107 [B s,v,B t,w]]):=fun _ _ _ _ _=>rfl
 simp only [Kx,e1,aD]
 have q0:EX h (h++[.arr 107 [B (decide (p.num<0)),u,B false,w]]):=EX.append _ _
 have p0:(h++[ak.arr 107 [B (decide (p.num<0)),u,B false,w]])[h.length]?=some (.arr 107 [B (decide (p.num<0)),u,B false,w]):=bO
 generalize h++[ak.arr 107 [B (decide (p.num<0)),u,B false,w]]=ga at q0 p0⊢
 have q1:EX ga (ga++[.arr 107 [B (decide (q.num<0)),u2,B false,w2]]):=EX.append _ _
 have p1:(ga++[ak.arr 107 [B (decide (q.num<0)),u2,B false,w2]])[ga.length]?=some (.arr 107 [B (decide (q.num<0)),u2,B false,w2]):=bO
 generalize ga++[ak.arr 107 [B (decide (q.num<0)),u2,B false,w2]]=gb at q1 p1⊢
 have k0:=q1.get p0
 have x0:=q0.trans q1
 simp only [bN,Nat.zero_add,ag,iO k0,jT p1,true_and]
 refine qK (a:=p.num) (b:=(q.den:Int)) ⟨u,rfl,hu.mono x0⟩ (dn.nat (nj.mono x0)) sN (by rw [Int.natAbs_natCast];exact rl) ?_
 intro r1 g6 x6 i1
 simp only [iO (x6.get p1),iO p1,jT (x6.get k0),jT k0,ag,true_and]
 refine qK (a:=q.num) (b:=(p.den:Int)) ⟨u2,rfl,(nZ.mono x0).mono x6⟩ (dn.nat ((hw.mono x0).mono x6)) sO (by rw [Int.natAbs_natCast];exact rk) ?_
 intro r2 g7 x7 i2
 refine H7 (i1.mono x7) i2 (Nat.lt_of_lt_of_le c1 cb) (Nat.lt_of_lt_of_le c2 cb) ?_
 intro g8 x8
 rw [apJ]
 exact hk g8 (x0.trans (x6.trans (x7.trans x8)))

theorem X3 {p q:Rat} (hq:0<q.num):p / q=mkRat (p.num*q.den) (p.den*q.num.toNat):=by
 have h1:=Rat.mkRat_self p
 have h2:=Rat.mkRat_self q
 rw [Rat.mkRat_eq_div] at h1 h2
 rw [Rat.mkRat_eq_div,Rat.intCast_mul,Rat.natCast_mul]
 have h3:((q.num.toNat:Nat):Rat)=(q.num:Rat):=by
  rw [←Rat.intCast_natCast,Int.toNat_of_nonneg (by omega)]
 have h4:((q.den:Nat):Int)=(q.den:Int):=rfl
 rw [h3,Rat.intCast_natCast]
 have d1:((p.den:Nat):Rat)≠0:=by
  have:=p.den_nz
  intro h
  exact this (by exact_mod_cast h)
 have d2:((q.den:Nat):Rat)≠0:=by
  have:=q.den_nz
  intro h
  exact this (by exact_mod_cast h)
 have d3:(q.num:Rat)≠0:=by
  intro h
  have:q.num=0:=by exact_mod_cast h
  omega
 generalize (p.num:Rat)=a at*
 generalize (q.num:Rat)=b at*
 generalize ((p.den:Nat):Rat)=c at*
 generalize ((q.den:Nat):Rat)=d at*
 rw [←h1,←h2]
 grind

theorem aiT (ha:RV h va p) (hb:RV h vb q) (hq:0<q.num) (sp:cA i p) (sq:cA j q) (dO:i+j≤800) (hk:∀r h',EX h h'→RV h' r (p / q)→K r h'):aj Tryz.prog 77 [va,vb] h K:=by
 obtain ⟨sN,rk⟩:=sp.dU (by omega)
 obtain ⟨sO,rl⟩:=sq.dU (by omega)
 obtain ⟨c1,c2,_,_⟩:=vm sp sq
 have cb:=ny (k:=i+j) (by omega)
 have pd:=p.den_pos
 have gU:(0:Int)<(p.den:Int)*q.num:=Int.mul_pos (by omega) hq
 obtain ⟨m,hm⟩:∃m:Nat,q.num=(m:Int):=⟨q.num.toNat,by omega⟩
 have hN:((p.den:Int)*q.num).natAbs=p.den*q.num.toNat:=by rw [Int.natAbs_mul,Int.natAbs_natCast];congr 1;omega
 refine aiS ha hb sN (by rw [Int.natAbs_natCast];exact rk) sO (by rw [Int.natAbs_natCast];exact rl) (Nat.lt_of_lt_of_le c1 cb) gU (by rw [Int.mul_comm];exact Nat.lt_of_lt_of_le c2 cb) ?_
 intro r h' x hr
 refine hk r h' x ?_
 have hD:0<p.den*q.num.toNat:=Nat.mul_pos pd (by omega)
 obtain ⟨e1,e2⟩:=wY (N:=p.num*q.den) hD
 unfold RV
 rw [X3 hq,e1,e2,Int.natCast_ediv,Int.natCast_mul,Int.toNat_of_nonneg (by omega)]
 rw [hN] at hr
 exact hr

theorem xw {n:Int} (h1: -9223372036854775808≤n) (h2:n<9223372036854775808) (hk:∀r h',EX h h'→RV h' r (n:Rat)→K r h'):aj Tryz.prog 75 [I n] h K:=by
 refine C75 h1 h2 ?_
 intro r h' x hr
 exact hk r h' x hr

end
end Go.Proofs.YtelmdbpaoifmoaaGreat


namespace Go.Proofs.YtelmdbpaoifmoaaGreat
open Go.Sim

section
variable {va vb : Value} {p q : Rat} {i j : Nat} {h : ae} {K : Value → ae → Prop}

theorem cA.neg {k:Nat} {q:Rat} (h:cA k q):cA k (-q):=by
 unfold cA at*
 rw [Rat.neg_num,Rat.neg_den,Int.natAbs_neg]
 exact h

theorem RY (ha:RV h va p) (hk:∀h',EX h h'→K (I (iN p.num)) h'):aj Tryz.prog 81 [va] h K:=by
 obtain ⟨u,w,rfl,hu,hw⟩:=ha
 refine f81 ?_
 have e1:∀(g:ae) (s t:Bool) (v w:Value),bc 107 g (.agg #[B s,v,B t,w])=some (pt g.length 0,g++[.arr 107 [B s,v,B t,w]]):=fun _ _ _ _ _=>rfl
 simp only [Ks,e1,aD]
 generalize decide ((p.den:Int)<0)=t1 at*
 have q0:EX h (h++[.arr 107 [B (decide (p.num<0)),u,B t1,w]]):=EX.append _ _
 have p0:(h++[ak.arr 107 [B (decide (p.num<0)),u,B t1,w]])[h.length]?=some (.arr 107 [B (decide (p.num<0)),u,B t1,w]):=bO
 generalize h++[ak.arr 107 [B (decide (p.num<0)),u,B t1,w]]=ga at q0 p0⊢
 simp only [bN,Nat.zero_add,ag,iO p0]
 refine Ru (a:=p.num) ⟨u,rfl,hu.mono q0⟩ ?_
 intro h' x'
 exact hk h' (q0.trans x')

end
end Go.Proofs.YtelmdbpaoifmoaaGreat


namespace Go.Proofs.YtelmdbpaoifmoaaGreat
open Go.Sim

theorem ai1 {s:List UInt8} {h:ae} {K:Value→ae→Prop} (h0:0<s.length) (h1:s.length≤4000) (h2:s.head?=some 48→s.length=1)
  (hk:hI s→∀r h',EX h h'→ZV h' r (cY s)→K (.tuple #[r,B true]) h')
  (fG:¬hI s→∀h',EX h h'→K (.tuple #[.agg #[B false,.slice none 0 0],B false]) h'):aj Tryz.prog 99 [S s] h K:=by
 refine f99 ?_
 have e2:∀g:ae,aW 35 [(.bool false),(.slice none 0 0)] g=some (pt g.length 0,g++[.arr 35 [(.bool false),(.slice none 0 0)]]):=fun _=>rfl
 have e3:cN [(.bool false),(.slice none 0 0)] []=some (.agg #[B false,.slice none 0 0]):=rfl
 have pT:(s[0].toNat:Int)=48→s.length≤1:=by
  intro h3
  refine Nat.le_of_eq (h2 ?_)
  rw [List.head?_eq_getElem?,List.getElem?_eq_getElem h0]
  congr 1
  apply UInt8.toNat_inj.1
  show s[0].toNat=48
  omega
 have i0:=rj (a:=s) (i:=0) h0 .i64
 simp only [Int.natCast_zero] at i0
 simp only [C9,e2,aD,jq,ag,cK]
 rw [decide_eq_false (show ¬(s.length:Int)<1 by omega)]
 simp only [Qq,dF,jq,ag,eT]
 rw [decide_eq_false (show ¬(s.length:Int)>4000 by omega)]
 simp only [G3,cV,ag,G4,dF,i0]
 have after:∀t:Value,t=B false→B4 Tryz.prog K (S s) (pt h.length 0) (B false) t (h++[.arr 35 [(.bool false),(.slice none 0 0)]]):=by
  rintro _ rfl
  rw [Qn]
  simp only [cV,ag,c7,e3,e2,aD,List.length_append,List.length_cons,List.length_nil,Nat.zero_add]
  have g1:(h++[ak.arr 35 [(.bool false),(.slice none 0 0)]]++[ak.arr 35 [(.bool false),(.slice none 0 0)]])[h.length+1]?=some (.arr 35 [(.bool false),(.slice none 0 0)]):=by simp
  have g0:(h++[ak.arr 35 [(.bool false),(.slice none 0 0)]]++[ak.arr 35 [(.bool false),(.slice none 0 0)]])[h.length]?=some (.arr 35 [(.bool false),(.slice none 0 0)]):=by simp
  have x1:EX h (h++[ak.arr 35 [(.bool false),(.slice none 0 0)]]++[ak.arr 35 [(.bool false),(.slice none 0 0)]]):=(EX.append _ _).push _
  have yD:(h++[ak.arr 35 [(.bool false),(.slice none 0 0)]]++[ak.arr 35 [(.bool false),(.slice none 0 0)]]).length=h.length+2:=by simp
  generalize h++[ak.arr 35 [(.bool false),(.slice none 0 0)]]++[ak.arr 35 [(.bool false),(.slice none 0 0)]]=hA at*
  rw [dX g1]
  simp only [aD,jq,ag]
  have fail:∀g:ae,EX h g→g[h.length]?=some (.arr 35 [.bool false,.slice none 0 0])→¬hI s→(OP (cN [(.bool false),(.slice none 0 0)] []) fun dK=>OH (aJ 2 g (pt h.length 0) dK) fun _ h_1=>OP (af true 2 h_1 (pt h.length 0)) fun r0=>K (.tuple #[r0,(.bool false)]) h_1):=by
   intro g x k hn
   simp only [e3,ag]
   rw [dX k]
   simp only [aD]
   rw [cf (cJ k),ag]
   exact fG hn _ (x.set (Nat.le_refl _) _)
  refine db (σ:=Int×List Nat×Value×ae) (fun p=>[I p.1]) (fun p=>p.2.2.2)
   (fun p=>h.length+2≤p.2.2.2.length∧EX h p.2.2.2∧p.2.2.2[h.length]?=some (.arr 35 [.bool false,.slice none 0 0])∧p.2.2.2[h.length+1]?=some (.arr 35 [B false,p.2.2.1])∧mo (h.length+2) p.2.2.2 p.2.2.1 p.2.1∧bX 10000 p.2.1∧p.1=(s.length:Int)-4*(p.2.1.length:Int)∧ -4<p.1∧val 10000 p.2.1+10000^p.2.1.length*cY (s.take p.1.toNat)=cY s∧hI (s.drop p.1.toNat)) (fun p=>(p.1+4).toNat)
   ((s.length:Int),[],.slice none 0 0,hA.set (h.length+1) (.arr 35 [B false,.slice none 0 0])) rfl rfl
   ⟨by simp [yD],x1.set (by omega) _,by rw [List.getElem?_set_ne (by omega)];exact g0,cJ g1,.inl ⟨rfl,rfl⟩,fun _ hx=>by simp at hx,by simp,by simp;omega,by simp [val],by simp [hI]⟩ ?_
  rintro ⟨uX,os,v,hx⟩ ⟨hlen,hex,k0,k1,gM,dV,hat,arE,bQ,yy⟩ L hL
  simp only at hlen hex k0 k1 gM dV hat arE bQ yy hL⊢
  rw [ax1]
  have e4:IntKind.wrap .i64 (uX-4)=uX-4:=wrap64 (by omega) (by omega)
  simp only [eT,ag,bS]
  refine ⟨fun pX=>?_,fun hle=>?_⟩
  ·simp only [eW,ag,e4,auc]
   obtain ⟨lo,dC⟩:∃lo:Nat,max 0 (uX-4)=(lo:Int):=⟨(max 0 (uX-4)).toNat,by omega⟩
   obtain ⟨a,ha⟩:∃a:Nat,uX=(a:Int):=⟨uX.toNat,by omega⟩
   subst ha
   rw [dC]
   have qY:a≤s.length:=by omega
   have Zp:lo≤a:=by omega
   have aAI:lo=a-4:=by omega
   refine db (σ:=Nat×Nat) (fun p=>[I p.1,I p.2]) (fun _=>hx) (fun p=>lo≤p.2∧p.2≤a∧p.1=cY ((s.take p.2).drop lo)∧hI ((s.take p.2).drop lo)) (fun p=>a-p.2)
    (0,lo) rfl rfl ⟨Nat.le_refl _,Zp,by rw [List.drop_of_length_le (by rw [List.length_take];omega)];rfl,by
     show hI ((s.take lo).drop lo)
     rw [List.drop_of_length_le (by rw [List.length_take];omega)];intro c hc;simp at hc⟩ ?_
   rintro ⟨d,i⟩ ⟨hi1,lP,Fc,kR⟩ L2 fX
   simp only at hi1 lP Fc kR fX⊢
   have aB:=uE kR
   have Zo:((s.take i).drop lo).length=i-lo:=by rw [List.length_drop,List.length_take];omega
   rw [Zo] at aB
   have hp:(10:Nat)^(i-lo)≤10^4:=Nat.pow_le_pow_right (by decide) (by omega)
   have tR:d<10000:=by rw [Fc];omega
   rw [ax2]
   simp only [cK,ag,bS]
   refine ⟨fun hia=>?_,fun hia=>?_⟩
   ·have nf:i<s.length:=by omega
    have ix:=rj (a:=s) (i:=i) nf .i64
    have FY:ah .lss (cv s[i]) (.int .u8 48)=some (B (decide ((s[i].toNat:Int)<48))):=rfl
    have E0:ah .gtr (cv s[i]) (.int .u8 57)=some (B (decide ((s[i].toNat:Int)>57))):=rfl
    by_cases Y5:48≤s[i].toNat∧s[i].toNat≤57
    rotate_left
    ·have qZ:¬hI s:=fun hd=>Y5 (hd _ (List.getElem_mem nf))
     simp only [ix,ag,FY]
     by_cases jA:s[i].toNat<48
     ·simp only [decide_eq_true (show (s[i].toNat:Int)<48 by omega),Qo,eY,Qp,dh,ag,dd]
      exact fail _ hex k0 qZ
     ·simp only [decide_eq_false (show ¬(s[i].toNat:Int)<48 by omega),Qo,dF,ix,ag,E0,decide_eq_true (show (s[i].toNat:Int)>57 by omega),Qp,cV,dd]
      exact fail _ hex k0 qZ
    have QJ:ah .sub (cv s[i]) (.int .u8 48)=some (.int .u8 (IntKind.wrap .u8 ((s[i].toNat:Int)-48))):=rfl
    have w8:IntKind.wrap .u8 ((s[i].toNat:Int)-48)=((s[i].toNat-48:Nat):Int):=by
     have e:IntKind.wrap .u8 ((s[i].toNat:Int)-48)=((s[i].toNat:Int)-48)%256:=by simp [IntKind.wrap,IntKind.bits,IntKind.signed]
     rw [e];omega
    have w64:IntKind.wrap .i64 ((s[i].toNat-48:Nat):Int)=((s[i].toNat-48:Nat):Int):=wrap64 (by omega) (by omega)
    have w10:IntKind.wrap .i64 ((10:Int)*(d:Int))=((10*d:Nat):Int):=by rw [wrap64 (by omega) (by omega)];omega
    have wad:IntKind.wrap .i64 (((10*d:Nat):Int)+((s[i].toNat-48:Nat):Int))=((10*d+(s[i].toNat-48):Nat):Int):=by rw [wrap64 (by omega) (by omega)];omega
    simp only [ix,ag,FY,decide_eq_false (show ¬(s[i].toNat:Int)<48 by omega),Qo,dF,E0,decide_eq_false (show ¬(s[i].toNat:Int)>57 by omega),Qp,cV,c7,tC,w10,QJ,w8,jy,w64,cC,wad,inc i (by omega),true_and]
    refine fX (10*d+(s[i].toNat-48),i+1) ⟨by show lo≤i+1;omega,by show i+1≤a;omega,?_,?_⟩ (by show a-(i+1)<a-i;omega)
    rotate_left
    ·show hI ((s.take (i+1)).drop lo)
     rw [List.take_succ_eq_append_getElem nf,List.drop_append_of_le_length (by rw [List.length_take];omega)]
     intro c hc
     rcases List.mem_append.1 hc with hc | hc
     ·exact kR c hc
     ·rw [List.mem_singleton.1 hc];exact Y5
    show 10*d+(s[i].toNat-48)=cY ((s.take (i+1)).drop lo)
    rw [List.take_succ_eq_append_getElem nf,List.drop_append_of_le_length (by rw [List.length_take];omega),xm,HG,←Fc]
    simp
    omega
   ·have arV:i=a:=by omega
    subst arV
    rw [ax3]
    have ld:af false 1 hx (pt (h.length+1) 1)=some v:=by simp [af,aQ,k1,ck]
    simp only [bN,Nat.zero_add,ag,ld]
    refine Ub hlen gM (by omega) ?_
    intro v' bJ hs kU rh
    have jo:bJ[h.length+1]?=some (.arr 35 [B false,v]):=by rw [hs _ (by omega)];exact k1
    rw [pq jo (by simp) rh.ds.one.1 rh.ds.one.2]
    have e5:IntKind.wrap .i64 ((i:Int)-4)=(i:Int)-4:=wrap64 (by omega) (by omega)
    simp only [aD,List.set_cons_succ,List.set_cons_zero,ax4,eW,ag,e5,true_and]
    have el:(os++[d]).length=os.length+1:=by simp
    refine hL ((i:Int)-4,os++[d],v',bJ.set (h.length+1) (.arr 35 [B false,v'])) ⟨?_,?_,?_,cJ jo,rh.set (by omega) _,dV.append (fun y hy=>by simp at hy;omega),by rw [el];show (i:Int)-4=_;omega,by show -4<(i:Int)-4;omega,?_,?_⟩ (by show ((i:Int)-4+4).toNat<((i:Int)+4).toNat;omega)
    ·rw [List.length_set];exact kU
    ·refine EX.set ⟨by have:=hex.1;omega,fun j hj=>?_⟩ (by omega) _
     rw [hs j (by omega)];exact hex.2 j hj
    ·rw [List.getElem?_set_ne (by omega),hs _ (by omega)];exact k0
    rotate_left
    ·show hI (s.drop ((i:Int)-4).toNat)
     have LW:((i:Int)-4).toNat=lo:=by omega
     have et:(i:Int).toNat=i:=by omega
     rw [et] at yy
     rw [LW]
     have wy:s.drop lo=(s.take i).drop lo++s.drop i:=by
      conv=>lhs;rw [←List.take_append_drop i s]
      rw [List.drop_append_of_le_length (by rw [List.length_take];omega)]
     rw [wy]
     intro c hc
     rcases List.mem_append.1 hc with hc | hc
     ·exact kR c hc
     ·exact yy c hc
    ·show val 10000 (os++[d])+10000^(os++[d]).length*cY (s.take ((i:Int)-4).toNat)=cY s
     rw [el,lj,←bQ,Nat.pow_succ]
     have et:(i:Int).toNat=i:=by omega
     have LW:((i:Int)-4).toNat=lo:=by omega
     rw [et,LW]
     have wy:s.take i=s.take lo++(s.take i).drop lo:=by
      conv=>lhs;rw [←List.take_append_drop lo (s.take i)]
      rw [List.take_take,Nat.min_eq_left Zp]
     rw [wy,xm,Zo,←Fc]
     simp only [val,Nat.mul_zero,Nat.add_zero]
     have ar3:cY (s.take lo)*10^(i-lo)=10000*cY (s.take lo):=by
      by_cases h4:4≤i
      ·have:i-lo=4:=by omega
       rw [this,Nat.mul_comm]
      ·have:lo=0:=by omega
       subst this
       simp [cY]
     rw [ar3]
     generalize 10000^os.length=P
     generalize cY (s.take lo)=w
     generalize val 10000 os=q
     clear hL fX gM rh
     grind
  ·rw [ax5,cf k1]
   simp only [ag]
   have lM:uX.toNat=0:=by omega
   rw [lM] at bQ yy
   rw [List.drop_zero] at yy
   have hk:=hk yy
   have asF:val 10000 os=cY s:=by simpa [cY] using bQ
   refine uK gM.ds dV (by omega) ?_
   intro r h5 x5 zr
   simp only [Bool.false_eq_true,if_false,asF] at zr
   obtain ⟨q,rfl,hq⟩:=id zr
   have g':=x5.get k0
   refine vB (K:=fun v h=>K (.tuple #[v,B true]) h) g' (hk _ _ ((hex.trans x5).set (Nat.le_refl _) _) (zr.bG g' _))
 by_cases jA:(s[0].toNat:Int)=48
 ·have yD:=pT jA
  have e5:ah .eql (cv s[0]) (.int .u8 48)=some (B true):=by
   show some (B (decide ((s[0].toNat:Int)=48)))=_
   rw [decide_eq_true jA]
  simp only [e5,ag,Ca,eO,jq,eT,decide_eq_false (show ¬(s.length:Int)>1 by omega),Cb,dF,dh]
  exact after _ rfl
 ·have e5:ah .eql (cv s[0]) (.int .u8 48)=some (B false):=by
   show some (B (decide ((s[0].toNat:Int)=48)))=_
   rw [decide_eq_false jA]
  simp only [e5,ag,Ca,ie,Cb,dF,cV]
  exact after _ rfl


def fF (s:List UInt8):Bool:=((decide (0<s.length)&&decide (s.length≤4000))&& !(decide (s.head?=some 48)&&decide (1<s.length)))&&s.all fun c=>decide (48≤c.toNat)&&decide (c.toNat≤57)

theorem oK {s:List UInt8}:fF s=true↔(0<s.length∧s.length≤4000)∧(s.head?=some 48→s.length=1)∧hI s:=by
 unfold fF hI
 simp only [Bool.and_eq_true,decide_eq_true_eq,Bool.not_eq_true',Bool.and_eq_false_iff,decide_eq_false_iff_not,List.all_eq_true]
 constructor
 ·rintro ⟨⟨h1,h2⟩,h3⟩
  refine ⟨h1,fun h=>?_,h3⟩
  rcases h2 with h2 | h2
  ·exact absurd h h2
  ·omega
 ·rintro ⟨h1,h2,h3⟩
  refine ⟨⟨h1,?_⟩,h3⟩
  by_cases h:s.head?=some 48
  ·have:=h2 h
   exact .inr (by omega)
  ·exact .inl h

theorem ai2 {s:List UInt8} {h:ae} {K:Value→ae→Prop}
  (hk:fF s=true→∀r h',EX h h'→ZV h' r (cY s)→K (.tuple #[r,B true]) h')
  (fG:fF s=false→∀h',EX h h'→K (.tuple #[.agg #[B false,.slice none 0 0],B false]) h'):aj Tryz.prog 99 [S s] h K:=by
 by_cases hb:(0<s.length∧s.length≤4000)∧(s.head?=some 48→s.length=1)
 ·refine ai1 hb.1.1 hb.1.2 hb.2 (fun hd=>hk (oK.2 ⟨hb.1,hb.2,hd⟩)) fun hd=>fG ?_
  cases e:fF s with
  | false=>rfl
  | true=>exact absurd (oK.1 e).2.2 hd
 have cU:fF s=false:=by
  cases e:fF s with
  | false=>rfl
  | true=>exact absurd ⟨(oK.1 e).1,(oK.1 e).2.1⟩ hb
 refine f99 ?_
 have e2:∀g:ae,aW 35 [(.bool false),(.slice none 0 0)] g=some (pt g.length 0,g++[.arr 35 [(.bool false),(.slice none 0 0)]]):=fun _=>rfl
 have e3:cN [(.bool false),(.slice none 0 0)] []=some (.agg #[B false,.slice none 0 0]):=rfl
 simp only [C9,e2,aD,jq,ag,cK]
 have k0:=bO (h:=h) (o:=.arr 35 [(.bool false),(.slice none 0 0)])
 have x0:EX h (h++[.arr 35 [(.bool false),(.slice none 0 0)]]):=EX.append _ _
 have after:∀t:Value,B4 Tryz.prog K (S s) (pt h.length 0) (B true) t (h++[.arr 35 [(.bool false),(.slice none 0 0)]]):=by
  intro t
  rw [Qn]
  simp only [dh,ag,dd,e3]
  rw [dX k0]
  simp only [aD]
  rw [cf (cJ k0),ag]
  exact fG cU _ (x0.set (Nat.le_refl _) _)
 by_cases h0:s.length=0
 ·rw [decide_eq_true (show (s.length:Int)<1 by omega)]
  simp only [Qq,eY,G3,dh,ag,G4,Ca,Cb,tm]
  exact after _
 rw [decide_eq_false (show ¬(s.length:Int)<1 by omega)]
 simp only [Qq,dF,jq,ag,eT]
 by_cases h1:s.length>4000
 ·rw [decide_eq_true (show (s.length:Int)>4000 by omega)]
  simp only [G3,cV,ag,G4,eY,Ca,Cb,tm]
  exact after _
 rw [decide_eq_false (show ¬(s.length:Int)>4000 by omega)]
 have i0:=rj (a:=s) (i:=0) (by omega) .i64
 simp only [Int.natCast_zero] at i0
 have h2:s.head?=some 48∧1<s.length:=by
  by_cases h:s.head?=some 48∧1<s.length
  ·exact h
  ·refine absurd ⟨⟨by omega,by omega⟩,fun h3=>?_⟩ hb
   have:¬1<s.length:=fun h4=>h ⟨h3,h4⟩
   omega
 have hc:(s[0]'(by omega)).toNat=48:=by
  have:=h2.1
  rw [List.head?_eq_getElem?,List.getElem?_eq_getElem (by omega)] at this
  injection this with this
  rw [this];rfl
 have e5:ah .eql (cv (s[0]'(by omega))) (.int .u8 48)=some (B true):=by
  show some (B (decide (((s[0]'(by omega)).toNat:Int)=48)))=_
  rw [decide_eq_true (by omega)]
 simp only [G3,cV,ag,G4,dF,i0,e5,Ca,eO,jq,eT,decide_eq_true (show (s.length:Int)>1 by omega),Cb,dh,Qn,dd,e3]
 rw [dX k0]
 simp only [aD]
 rw [cf (cJ k0),ag]
 exact fG cU _ (x0.set (Nat.le_refl _) _)

end Go.Proofs.YtelmdbpaoifmoaaGreat


namespace Go.Proofs.YtelmdbpaoifmoaaGreat
open Go.Sim
variable (P : Program) (K : VK)
/-! F51: pommel/pommelref01.DivQ -/
noncomputable section
variable (a0 b1 : Value) (h : ae)
def acr:=bp Tryz.prog 51 [[],[]]
@[irreducible] def WA:=bw acr
theorem k51:acr=some (16,WA,[.cell true 4 4]):=by kernel_rfl
def Kb:Prop:=
 OH (bc 37 h a0) fun a2 h_1=>
 OH (bc 37 h_1 b1) fun b3 h_2=>
 OH (aW 37 [(.bool false),(.slice none 0 0),(.bool false),(.slice none 0 0)] h_2) fun x4 h_3=>
 OP (aE 0 a2) fun x5=>
 OP (af true 2 h_3 x5) fun x6=>
 (True)∧
 OP (aE 2 b3) fun x7=>
 OP (af true 2 h_3 x7) fun x8=>
 (True)∧
 aj P 71 [x6,x8] h_3 fun x9 h_4=>
 (True)∧
 OP (aE 2 a2) fun aF=>
 OP (af true 2 h_4 aF) fun ax=>
 (af true 2 h_3 aF=some ax∧True)∧
 OP (aE 0 b3) fun az=>
 OP (af true 2 h_4 az) fun ay=>
 (af true 2 h_3 az=some ay∧True)∧
 aj P 71 [ax,ay] h_4 fun aP h_5=>
 (True)∧
 aj P 54 [x9,aP] h_5 fun a9 h_6=>
 (True)∧
 OH (aJ 4 h_6 x4 a9) fun _ h_7=>
 (True)∧
 OP (af true 4 h_7 x4) fun r0=>
 K r0 h_7
theorem e51:ai P WA (aO [.cell true 4 4] K) (bk [a0,b1]) h=Kb P K a0 b1 h:=by kernel_rfl
theorem f51 {K:VK} {a0 b1:Value} {h:ae} (H:Kb Tryz.prog K a0 b1 h):aj Tryz.prog 51 [a0,b1] h K:=
 bD k51 (Nat.le_of_ble_eq_true rfl) ((e51 Tryz.prog K a0 b1 h).mpr H)
end
/-! F52: pommel/pommelref01.SubQ -/
noncomputable section
variable (a0 b1 : Value) (h : ae)
def acs:=bp Tryz.prog 52 [[],[]]
@[irreducible] def WB:=bw acs
theorem k52:acs=some (22,WB,[.cell true 4 4]):=by kernel_rfl
def Kc:Prop:=
 OH (bc 37 h a0) fun a2 h_1=>
 OH (bc 37 h_1 b1) fun b3 h_2=>
 OH (aW 37 [(.bool false),(.slice none 0 0),(.bool false),(.slice none 0 0)] h_2) fun x4 h_3=>
 OP (aE 0 a2) fun x5=>
 OP (af true 2 h_3 x5) fun x6=>
 (True)∧
 OP (aE 2 b3) fun x7=>
 OP (af true 2 h_3 x7) fun x8=>
 (True)∧
 aj P 71 [x6,x8] h_3 fun x9 h_4=>
 (True)∧
 OP (aE 0 b3) fun aF=>
 OP (af true 2 h_4 aF) fun ax=>
 (af true 2 h_3 aF=some ax∧True)∧
 OP (aE 2 a2) fun az=>
 OP (af true 2 h_4 az) fun ay=>
 (af true 2 h_3 az=some ay∧True)∧
 aj P 71 [ax,ay] h_4 fun aP h_5=>
 (True)∧
 aj P 92 [x9,aP] h_5 fun a9 h_6=>
 (True)∧
 OP (aE 2 a2) fun aX=>
 OP (af true 2 h_6 aX) fun bH=>
 (af true 2 h_3 aX=some bH∧af true 2 h_4 aX=some bH∧af true 2 h_5 aX=some bH∧True)∧
 OP (aE 2 b3) fun aN=>
 OP (af true 2 h_6 aN) fun aM=>
 (af true 2 h_3 aN=some aM∧af true 2 h_4 aN=some aM∧af true 2 h_5 aN=some aM∧True)∧
 aj P 71 [bH,aM] h_6 fun aT h_7=>
 (True)∧
 OP (cN [(.bool false),(.slice none 0 0),(.bool false),(.slice none 0 0)] [(0,2,a9),(2,2,aT)]) fun bf=>
 OH (aJ 4 h_7 x4 bf) fun _ h_8=>
 (True)∧
 OP (af true 4 h_8 x4) fun r0=>
 K r0 h_8
theorem e52:ai P WB (aO [.cell true 4 4] K) (bk [a0,b1]) h=Kc P K a0 b1 h:=by kernel_rfl
theorem f52 {K:VK} {a0 b1:Value} {h:ae} (H:Kc Tryz.prog K a0 b1 h):aj Tryz.prog 52 [a0,b1] h K:=
 bD k52 (Nat.le_of_ble_eq_true rfl) ((e52 Tryz.prog K a0 b1 h).mpr H)
end
/-! F54: pommel/pommelref01.Over -/
noncomputable section
variable (n0 d1 n2 d3 x4 : Value) (h : ae)
def acv:=bp Tryz.prog 54 [[],[],[2,3,4],[]]
@[irreducible] def Lh:=bw acv
@[irreducible] def aol:=Lh.r.r.l
theorem k54:acv=some (14,Lh,[.cell true 4 4]):=by kernel_rfl
def akT (_P:Program) (K:VK):aq:=aO [.cell true 4 4] K
def PE:Prop:=au (ai P aol (akT P K)) [2,3,4] [n2,d3,x4] h
theorem aw4:PE P K n2 d3 x4 h=
 (OP (af true 2 h n2) fun ax=>
 OP (af true 2 h d3) fun az=>
 OP (cN [(.bool false),(.slice none 0 0),(.bool false),(.slice none 0 0)] [(0,2,ax),(2,2,az)]) fun ay=>
 OH (aJ 4 h x4 ay) fun _ h_1=>
 OP (af true 4 h_1 x4) fun r0=>
 K r0 h_1):=aw (by kernel_rfl)
def Ke:Prop:=
 OH (bc 35 h n0) fun n2 h_1=>
 OH (bc 35 h_1 d1) fun d3 h_2=>
 OH (aW 37 [(.bool false),(.slice none 0 0),(.bool false),(.slice none 0 0)] h_2) fun x4 h_3=>
 OP (aE 0 d3) fun x5=>
 OP (af false 1 h_3 x5) fun x6=>
 aL x6
 (OP (af true 2 h_3 n2) fun x7=>
 (True)∧
 aj P 95 [x7] h_3 fun x8 h_4=>
 (True)∧
 OP (af true 2 h_4 d3) fun x9=>
 (af true 2 h_3 d3=some x9∧True)∧
 aj P 95 [x9] h_4 fun aF h_5=>
 (True)∧
 OH (aJ 2 h_5 n2 x8) fun _ h_6=>
 (True)∧
 OH (aJ 2 h_6 d3 aF) fun _ h_7=>
 (True)∧
 PE P K n2 d3 x4 h_7)
 (PE P K n2 d3 x4 h_3)
theorem e54:ai P Lh (aO [.cell true 4 4] K) (bk [n0,d1]) h=Ke P K n0 d1 h:=by kernel_rfl
theorem f54 {K:VK} {n0 d1:Value} {h:ae} (H:Ke Tryz.prog K n0 d1 h):aj Tryz.prog 54 [n0,d1] h K:=
 bD k54 (Nat.le_of_ble_eq_true rfl) ((e54 Tryz.prog K n0 d1 h).mpr H)
end
end Go.Proofs.YtelmdbpaoifmoaaGreat
