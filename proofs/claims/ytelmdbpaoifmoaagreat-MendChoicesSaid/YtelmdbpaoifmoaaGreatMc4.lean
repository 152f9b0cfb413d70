/-
  Part 4 of the texts behind a statement of this seat: ZN1, ZN2, Ct28, Ct29, Ct30, Ct31, Ct32, Ct33, ZR1, Ct34, Ct35, Ct36.
-/
import Derived.Test.YtelmdbpaoifmoaaGreatProg
import Derived.KernelRfl
import Derived.Test.YtelmdbpaoifmoaaGreatMc3
namespace Go.Proofs.YtelmdbpaoifmoaaGreat
open Go.Sim
variable (P : Program) (K : VK)
/-! F105: pommel/num.Of -/
noncomputable section
variable (n0 x2 u3 : Value) (h : ae)
def abT:=bw Tryz.prog 105 [[],[],[],[0,2,3],[]]
@[irreducible] def Ln:=bE abT
@[irreducible] def am2:=Ln.r.r.r.l
theorem at2:abT=some (20,Ln,[.cell true 2 2]):=by kernel_rfl
def ajM (_P:Program) (K:VK):ar:=aR [.cell true 2 2] K
def GH:Prop:=av (aj P am2 (ajM P K)) [0,2,3] [n0,x2,u3] h
theorem avV:GH P K n0 x2 u3 h=
 (OP (ai .lss n0 (.int .i64 (0))) fun ay=>
 OP (df .u32 u3) fun aA=>
 OP (ai .shr u3 (.int .u64 (32))) fun bc=>
 OP (df .u32 bc) fun a9=>
 OH (dh 177 2 [(.int .u32 (0))] h [(0,1,aA),(1,1,a9)]) fun bQ h_1=>
 ak P 118 [bQ] h_1 fun aQ h_2=>
 ak P 117 [ay,aQ] h_2 fun aN h_3=>
 OH (aI 2 h_3 x2 aN) fun _ h_4=>
 OP (af true 2 h_4 x2) fun r0=>
 K r0 h_4):=ax (by kernel_rfl)
def JI:Prop:=
 OH (aX 105 [(.bool false),(.slice none 0 0)] h) fun x2 h_1=>
 OP (df .u64 n0) fun x5=>
 OP (ai .lss n0 (.int .i64 (0))) fun x7=>
 aM x7
 (OP (fA .neg x5) fun x9=>
 GH P K n0 x2 x9 h_1)
 (GH P K n0 x2 x5 h_1)
theorem aqM:aj P Ln (aR [.cell true 2 2] K) (bp [n0]) h=JI P K n0 h:=by kernel_rfl
theorem f105 {K:VK} {n0:Value} {h:ae} (H:JI Tryz.prog K n0 h):ak Tryz.prog 105 [n0] h K:=
 bF at2 (Nat.le_of_ble_eq_true rfl) ((aqM Tryz.prog K n0 h).mpr H)
end
/-! F107: (pommel/num.Int).Mul -/
noncomputable section
variable (a0 b1 : Value) (h : ae)
def abV:=bw Tryz.prog 107 [[],[]]
@[irreducible] def U4:=bE abV
theorem at4:abV=some (16,U4,[.cell true 2 4]):=by kernel_rfl
def JK:Prop:=
 OH (bk 105 h a0) fun a2 h_1=>
 OH (bk 105 h_1 b1) fun b3 h_2=>
 OH (aX 105 [(.bool false),(.slice none 0 0)] h_2) fun x4 h_3=>
 OP (aK 0 a2) fun x5=>
 OP (af false 1 h_3 x5) fun x6=>
 (True)∧
 OP (aK 0 b3) fun x7=>
 OP (af false 1 h_3 x7) fun x8=>
 (True)∧
 OP (rI true x6 x8) fun x9=>
 OP (aK 1 a2) fun aG=>
 OP (af false 1 h_3 aG) fun ay=>
 (True)∧
 OP (aK 1 b3) fun az=>
 OP (af false 1 h_3 az) fun aA=>
 (True)∧
 ak P 122 [ay,aA] h_3 fun aP h_4=>
 (af false 1 h_4 x5=some x6∧af false 1 h_4 x7=some x8∧True)∧
 ak P 117 [x9,aP] h_4 fun bc h_5=>
 (True)∧
 OH (aI 2 h_5 x4 bc) fun _ h_6=>
 (True)∧
 OP (af true 2 h_6 x4) fun r0=>
 K r0 h_6
theorem aqO:aj P U4 (aR [.cell true 2 4] K) (bp [a0,b1]) h=JK P K a0 b1 h:=by kernel_rfl
theorem f107 {K:VK} {a0 b1:Value} {h:ae} (H:JK Tryz.prog K a0 b1 h):ak Tryz.prog 107 [a0,b1] h K:=
 bF at4 (Nat.le_of_ble_eq_true rfl) ((aqO Tryz.prog K a0 b1 h).mpr H)
end
/-! F109: (pommel/num.Int).Sign -/
noncomputable section
variable (a0 : Value) (h : ae)
def abX:=bw Tryz.prog 109 [[],[],[],[],[],[],[]]
@[irreducible] def Vc:=bE abX
theorem at7:abX=some (11,Vc,[.tmp 2]):=by kernel_rfl
def JM (_:Program) (K:VK) (a0:Value) (h:ae):Prop:=
 OH (bk 105 h a0) fun a1 h_1=>
 OP (aK 1 a1) fun x4=>
 OP (af false 1 h_1 x4) fun x5=>
 OP (aY x5) fun x6=>
 OP (ai .eql x6 (.int .i64 (0))) fun x7=>
 aM x7
 (K (.int .i64 (0)) h_1)
 (OP (aK 0 a1) fun x9=>
 OP (af false 1 h_1 x9) fun aG=>
 aM aG
 (K (.int .i64 (-1)) h_1)
 (K (.int .i64 (1)) h_1))
theorem aqQ:aj P Vc (aR [.tmp 2] K) (bp [a0]) h=JM P K a0 h:=by kernel_rfl
theorem f109 {K:VK} {a0:Value} {h:ae} (H:JM Tryz.prog K a0 h):ak Tryz.prog 109 [a0] h K:=
 bF at7 (Nat.le_of_ble_eq_true rfl) ((aqQ Tryz.prog K a0 h).mpr H)
end
/-! F111: (pommel/num.Int).Cmp -/
noncomputable section
variable (a0 b1 : Value) (h : ae)
def ab0:=bw Tryz.prog 111 [[],[]]
@[irreducible] def Ve:=bE ab0
theorem at9:ab0=some (9,Ve,[.tmp 4]):=by kernel_rfl
def JP:Prop:=
 OH (bk 105 h a0) fun a2 h_1=>
 OH (bk 105 h_1 b1) fun b3 h_2=>
 OP (af true 2 h_2 a2) fun x5=>
 OP (af true 2 h_2 b3) fun x6=>
 ak P 127 [x5,x6] h_2 fun x7 h_3=>
 ak P 109 [x7] h_3 fun x8 h_4=>
 K x8 h_4
theorem aqS:aj P Ve (aR [.tmp 4] K) (bp [a0,b1]) h=JP P K a0 b1 h:=by kernel_rfl
theorem f111 {K:VK} {a0 b1:Value} {h:ae} (H:JP Tryz.prog K a0 b1 h):ak Tryz.prog 111 [a0,b1] h K:=
 bF at9 (Nat.le_of_ble_eq_true rfl) ((aqS Tryz.prog K a0 b1 h).mpr H)
end
/-! F112: pommel/num.FromInt -/
noncomputable section
variable (n0 : Value) (h : ae)
def ab1:=bw Tryz.prog 112 [[],[]]
@[irreducible] def Vg:=bE ab1
theorem aua:ab1=some (6,Vg,[.cell true 4 2]):=by kernel_rfl
def JQ:Prop:=
 OH (bk 105 h n0) fun n1 h_1=>
 OH (aX 107 [(.bool false),(.slice none 0 0),(.bool false),(.slice none 0 0)] h_1) fun x2 h_2=>
 OP (af true 2 h_2 n1) fun x3=>
 (True)∧
 ak P 105 [(.int .i64 (1))] h_2 fun x4 h_3=>
 (af true 2 h_3 n1=some x3∧True)∧
 OP (cT [(.bool false),(.slice none 0 0),(.bool false),(.slice none 0 0)] [(0,2,x3),(2,2,x4)]) fun x5=>
 OH (aI 4 h_3 x2 x5) fun _ h_4=>
 (True)∧
 OP (af true 4 h_4 x2) fun r0=>
 K r0 h_4
theorem aqT:aj P Vg (aR [.cell true 4 2] K) (bp [n0]) h=JQ P K n0 h:=by kernel_rfl
theorem f112 {K:VK} {n0:Value} {h:ae} (H:JQ Tryz.prog K n0 h):ak Tryz.prog 112 [n0] h K:=
 bF aua (Nat.le_of_ble_eq_true rfl) ((aqT Tryz.prog K n0 h).mpr H)
end
/-! F113: (pommel/num.Int).Add -/
noncomputable section
variable (a0 b1 : Value) (h : ae)
def ab2:=bw Tryz.prog 113 [[],[],[],[],[],[],[]]
@[irreducible] def Vh:=bE ab2
theorem aub:ab2=some (42,Vh,[.cell true 2 4]):=by kernel_rfl
def JR:Prop:=
 OH (bk 105 h a0) fun a2 h_1=>
 OH (bk 105 h_1 b1) fun b3 h_2=>
 OH (aX 105 [(.bool false),(.slice none 0 0)] h_2) fun x4 h_3=>
 OP (aK 0 a2) fun x6=>
 OP (af false 1 h_3 x6) fun x7=>
 OP (aK 0 b3) fun x8=>
 OP (af false 1 h_3 x8) fun x9=>
 OP (rI false x7 x9) fun aG=>
 aM aG
 (OP (aK 0 a2) fun ay=>
 OP (af false 1 h_3 ay) fun az=>
 (True)∧
 OP (aK 1 a2) fun aA=>
 OP (af false 1 h_3 aA) fun aP=>
 (True)∧
 OP (aK 1 b3) fun bc=>
 OP (af false 1 h_3 bc) fun a9=>
 (True)∧
 ak P 128 [aP,a9] h_3 fun bQ h_4=>
 (af false 1 h_4 ay=some az∧True)∧
 ak P 117 [az,bQ] h_4 fun aQ h_5=>
 (True)∧
 OH (aI 2 h_5 x4 aQ) fun _ h_6=>
 (True)∧
 OP (af true 2 h_6 x4) fun r0=>
 K r0 h_6)
 (OP (aK 1 a2) fun aW=>
 OP (af false 1 h_3 aW) fun bm=>
 OP (aK 1 b3) fun bJ=>
 OP (af false 1 h_3 bJ) fun cF=>
 ak P 126 [bm,cF] h_3 fun bM h_4=>
 OP (ai .geq bM (.int .i64 (0))) fun bt=>
 aM bt
 (OP (aK 0 a2) fun bC=>
 OP (af false 1 h_4 bC) fun bD=>
 (True)∧
 OP (aK 1 a2) fun bU=>
 OP (af false 1 h_4 bU) fun cA=>
 (True)∧
 OP (aK 1 b3) fun cR=>
 OP (af false 1 h_4 cR) fun ca=>
 (True)∧
 ak P 129 [cA,ca] h_4 fun cO h_5=>
 (af false 1 h_5 bC=some bD∧True)∧
 ak P 117 [bD,cO] h_5 fun dI h_6=>
 (True)∧
 OH (aI 2 h_6 x4 dI) fun _ h_7=>
 (True)∧
 OP (af true 2 h_7 x4) fun r0=>
 K r0 h_7)
 (OP (aK 0 b3) fun bX=>
 OP (af false 1 h_4 bX) fun dd=>
 (True)∧
 OP (aK 1 b3) fun cJ=>
 OP (af false 1 h_4 cJ) fun dT=>
 (True)∧
 OP (aK 1 a2) fun cV=>
 OP (af false 1 h_4 cV) fun dR=>
 (True)∧
 ak P 129 [dT,dR] h_4 fun dJ h_5=>
 (af false 1 h_5 bX=some dd∧True)∧
 ak P 117 [dd,dJ] h_5 fun dC h_6=>
 (True)∧
 OH (aI 2 h_6 x4 dC) fun _ h_7=>
 (True)∧
 OP (af true 2 h_7 x4) fun r0=>
 K r0 h_7))
theorem aqU:aj P Vh (aR [.cell true 2 4] K) (bp [a0,b1]) h=JR P K a0 b1 h:=by kernel_rfl
theorem f113 {K:VK} {a0 b1:Value} {h:ae} (H:JR Tryz.prog K a0 b1 h):ak Tryz.prog 113 [a0,b1] h K:=
 bF aub (Nat.le_of_ble_eq_true rfl) ((aqU Tryz.prog K a0 b1 h).mpr H)
end
/-! F114: pommel/num.byWord -/
noncomputable section
variable (a0 w1 x6 x7 i8 : Value) (L1 : LQ) (xs : List Value) (h : ae)
def ab3:=bw Tryz.prog 114 [[],[],[],[],[0,1,6],[7,8],[],[],[],[],[6,7],[]]
@[irreducible] def DI:=bE ab3
@[irreducible] def anb:=DI.r.r.r.l.r.l.l
@[irreducible] def Vi:=DI.r.r.r.r
@[irreducible] def ana:=Vi.l
theorem auc:ab3=some (44,DI,[.tmp 4,.tmp 5]):=by kernel_rfl
def IT (_P:Program) (K:VK):ar:=aR [.tmp 4,.tmp 5] K
def ajR:ar:=aD (aj P Vi (IT P K)) (IT P K)
def ajS:ar:=bz 0 (ajR P K)
def ajT:ar:=aD (fun f' aS=>(([0,1,6]:List Nat).map f':List Value)=[a0,w1,x6]∧L1 (([7,8]:List Nat).map f') aS) (ajS P K)
def adU:Prop:=av (aj P anb (ajT P K a0 w1 x6 L1)) ([0,1,6]++[7,8]) ([a0,w1,x6]++xs) h
def adT:Prop:=av (aj P ana (IT P K)) [6,7] [x6,x7] h
theorem av2 (a0 w1 x6:Value) (L1:LQ) (x7 i8:Value) (h:ae):adU P K a0 w1 x6 L1 [x7,i8] h=
 (OP (ai .geq i8 (.int .i64 (0))) fun bQ=>
 aM bQ
 (OP (ai .shl x7 (.int .u64 (32))) fun bm=>
 OP (aU 1 a0 i8) fun bM=>
 OP (af false 1 h bM) fun bt=>
 OP (df .u64 bt) fun bC=>
 OP (ai .or bm bC) fun bD=>
 OP (df .u64 w1) fun cO=>
 OP (ai .quo bD cO) fun dI=>
 OP (df .u32 dI) fun bX=>
 OP (df .u64 w1) fun dT=>
 OP (ai .rem bD dT) fun cV=>
 OP (aU 1 x6 i8) fun dR=>
 OH (aI 1 h dR bX) fun _ h_1=>
 (True)∧
 OP (ai .sub i8 (.int .i64 (1))) fun aN=>
 ([a0,w1,x6]:List Value)=[a0,w1,x6]∧L1 [cV,aN] h_1)
 (adT P K x6 x7 h)):=ax (by kernel_rfl)
theorem av1:adT P K x6 x7 h=
 (ak P 118 [x6] h fun dC h_1=>
 OP (df .u32 x7) fun bO=>
 K (.tuple #[dC,bO]) h_1):=ax (by kernel_rfl)
def JS:Prop:=
 OP (aY a0) fun ay=>
 OH (kR 177 4 [(.int .u32 (0))] h ay ay) fun az h_1=>
 OP (aY a0) fun aP=>
 OP (ai .sub aP (.int .i64 (1))) fun bc=>
 cG [(.int .u64 (0)),bc] h_1 fun L1 xs hx=>
 adU P K a0 w1 az L1 xs hx
theorem aqV:aj P DI (aR [.tmp 4,.tmp 5] K) (bp [a0,w1]) h=JS P K a0 w1 h:=by kernel_rfl
theorem f114 {K:VK} {a0 w1:Value} {h:ae} (H:JS Tryz.prog K a0 w1 h):ak Tryz.prog 114 [a0,w1] h K:=
 bF auc (Nat.le_of_ble_eq_true rfl) ((aqV Tryz.prog K a0 w1 h).mpr H)
end
/-! F115: slices.Reverse[[]byte,byte] -/
noncomputable section
variable (s0 i2 j3 : Value) (L1 : LQ) (xs : List Value) (h : ae)
def ab4:=bw Tryz.prog 115 [[],[0],[2,3],[],[],[]]
@[irreducible] def Lp:=bE ab4
@[irreducible] def anc:=Lp.r.l.l
theorem aud:ab4=some (28,Lp,[]):=by kernel_rfl
def ajU (_P:Program) (K:VK):ar:=aR [] K
def ajV:ar:=bz 0 (ajU P K)
def ajW:ar:=aD (fun f' aS=>(([0]:List Nat).map f':List Value)=[s0]∧L1 (([2,3]:List Nat).map f') aS) (ajV P K)
def adV:Prop:=av (aj P anc (ajW P K s0 L1)) ([0]++[2,3]) ([s0]++xs) h
theorem av3 (s0:Value) (L1:LQ) (i2 j3:Value) (h:ae):adV P K s0 L1 [i2,j3] h=
 (OP (ai .lss i2 j3) fun x9=>
 aM x9
 (OP (aU 1 s0 j3) fun aW=>
 OP (af false 1 h aW) fun bm=>
 (True)∧
 OP (aU 1 s0 i2) fun bM=>
 OP (af false 1 h bM) fun bt=>
 (True)∧
 OP (aU 1 s0 i2) fun bC=>
 OH (aI 1 h bC bm) fun _ h_1=>
 (True)∧
 OP (aU 1 s0 j3) fun bD=>
 OH (aI 1 h_1 bD bt) fun _ h_2=>
 (True)∧
 OP (ai .add i2 (.int .i64 (1))) fun ay=>
 OP (ai .sub j3 (.int .i64 (1))) fun aA=>
 ([s0]:List Value)=[s0]∧L1 [ay,aA] h_2)
 (K (.tuple #[]) h)):=ax (by kernel_rfl)
def JT:Prop:=
 OP (aY s0) fun x5=>
 OP (ai .sub x5 (.int .i64 (1))) fun x6=>
 cG [(.int .i64 (0)),x6] h fun L1 xs hx=>
 adV P K s0 L1 xs hx
theorem aqW:aj P Lp (aR [] K) (bp [s0]) h=JT P K s0 h:=by kernel_rfl
theorem f115 {K:VK} {s0:Value} {h:ae} (H:JT Tryz.prog K s0 h):ak Tryz.prog 115 [s0] h K:=
 bF aud (Nat.le_of_ble_eq_true rfl) ((aqW Tryz.prog K s0 h).mpr H)
end
/-! F117: pommel/num.made -/
noncomputable section
variable (x0 x1 x4 x6 x9 : Value) (h : ae)
def ab5:=bw Tryz.prog 117 [[],[1,4,6],[1,4,6,9],[]]
@[irreducible] def DJ:=bE ab5
@[irreducible] def Vj:=DJ.r.l.r.l
@[irreducible] def ane:=DJ.r.r
@[irreducible] def anf:=Vj.r.l
theorem aue:ab5=some (13,DJ,[.cell true 2 4]):=by kernel_rfl
def SO (_P:Program) (K:VK):ar:=aR [.cell true 2 4] K
def SP:ar:=aD (aj P ane (SO P K)) (SO P K)
def adW:Prop:=av (aj P Vj (SP P K)) [1,4,6] [x1,x4,x6] h
def B6:Prop:=av (aj P anf (SP P K)) [1,4,6,9] [x1,x4,x6,x9] h
theorem agx:B6 P K x1 x4 x6 x9 h=
 (OP (bL x6 x9 (.bool false)) fun aG=>
 OP (cT [(.bool false),(.slice none 0 0)] [(0,1,aG),(1,1,x1)]) fun az=>
 OH (aI 2 h x4 az) fun _ h_1=>
 OP (af true 2 h_1 x4) fun r0=>
 K r0 h_1):=ax (by kernel_rfl)
theorem av4:adW P K x1 x4 x6 h=
 (bZ x6 true
 (OP (aY x1) fun x8=>
 OP (ai .gtr x8 (.int .i64 (0))) fun x9=>
 B6 P K x1 x4 x6 x9 h)
 (B6 P K x1 x4 x6 undef h)):=ax (by kernel_rfl)
def JU:Prop:=
 OH (aX 105 [(.bool false),(.slice none 0 0)] h) fun x4 h_1=>
 adW P K x1 x4 x0 h_1
theorem aqX:aj P DJ (aR [.cell true 2 4] K) (bp [x0,x1]) h=JU P K x0 x1 h:=by kernel_rfl
theorem f117 {K:VK} {x0 x1:Value} {h:ae} (H:JU Tryz.prog K x0 x1 h):ak Tryz.prog 117 [x0,x1] h K:=
 bF aue (Nat.le_of_ble_eq_true rfl) ((aqX Tryz.prog K x0 x1 h).mpr H)
end
/-! F118: pommel/num.trim -/
noncomputable section
variable (x0 x6 aA : Value) (L1 : LQ) (xs : List Value) (h : ae)
def ab6:=bw Tryz.prog 118 [[],[],[0],[0,6],[0,6,13],[],[],[0],[]]
@[irreducible] def DK:=bE ab6
@[irreducible] def DL:=DK.r.l.l.l
@[irreducible] def Vk:=DK.r.r
@[irreducible] def Vl:=DL.l.l.r.l
@[irreducible] def anj:=DL.l.r
@[irreducible] def ani:=DL.r
@[irreducible] def anh:=Vk.l
@[irreducible] def ang:=Vl.r.l
theorem auf:ab6=some (21,DK,[.tmp 2]):=by kernel_rfl
def IU (_P:Program) (K:VK):ar:=aR [.tmp 2] K
def ajX:ar:=aD (aj P Vk (IU P K)) (IU P K)
def ajY:ar:=bz 0 (ajX P K)
def IV:ar:=aD (fun f' aS=>(([]:List Nat).map f':List Value)=[]∧L1 (([0]:List Nat).map f') aS) (ajY P K)
def SQ:ar:=aD (aj P ani (IV P K L1)) (IV P K L1)
def SR:ar:=aD (aj P anj (SQ P K L1)) (SQ P K L1)
def adX:Prop:=av (aj P DL (IV P K L1)) ([]++[0]) ([]++xs) h
def adY:Prop:=av (aj P Vl (SR P K L1)) [0,6] [x0,x6] h
def Pq:Prop:=av (aj P ang (SR P K L1)) [0,6,13] [x0,x6,aA] h
def Pr:Prop:=av (aj P anh (IU P K)) [0] [x0] h
theorem agy:Pq P K x0 x6 aA L1 h=
 (OP (bL x6 aA (.bool false)) fun aP=>
 aM aP
 (OP (aY x0) fun bQ=>
 OP (ai .sub bQ (.int .i64 (1))) fun aQ=>
 OP (j5 177 1 x0 none (some aQ)) fun aN=>
 ([]:List Value)=[]∧L1 [aN] h)
 (Pr P K x0 h)):=ax (by kernel_rfl)
theorem agz:adY P K x0 x6 L1 h=
 (bZ x6 true
 (OP (aY x0) fun x9=>
 OP (ai .sub x9 (.int .i64 (1))) fun aG=>
 OP (aU 1 x0 aG) fun ay=>
 OP (af false 1 h ay) fun az=>
 OP (ai .eql az (.int .u32 (0))) fun aA=>
 Pq P K x0 x6 aA L1 h)
 (Pq P K x0 x6 undef L1 h)):=ax (by kernel_rfl)
theorem av6 (L1:LQ) (x0:Value) (h:ae):adX P K L1 [x0] h=
 (OP (aY x0) fun x4=>
 OP (ai .gtr x4 (.int .i64 (0))) fun x5=>
 adY P K x0 x5 L1 h):=ax (by kernel_rfl)
theorem av5:Pr P K x0 h=
 (K x0 h):=ax (by kernel_rfl)
def Uq:Prop:=
 cG [x0] h fun L1 xs hx=>
 adX P K L1 xs hx
theorem aqY:aj P DK (aR [.tmp 2] K) (bp [x0]) h=Uq P K x0 h:=by kernel_rfl
theorem f118 {K:VK} {x0:Value} {h:ae} (H:Uq Tryz.prog K x0 h):ak Tryz.prog 118 [x0] h K:=
 bF auf (Nat.le_of_ble_eq_true rfl) ((aqY Tryz.prog K x0 h).mpr H)
end
/-! F119: (pommel/num.Int).Neg -/
noncomputable section
variable (a0 : Value) (h : ae)
def ab7:=bw Tryz.prog 119 [[],[]]
@[irreducible] def Vm:=bE ab7
theorem aug:ab7=some (9,Vm,[.cell true 2 2]):=by kernel_rfl
def JV:Prop:=
 OH (bk 105 h a0) fun a1 h_1=>
 OH (aX 105 [(.bool false),(.slice none 0 0)] h_1) fun x2 h_2=>
 OP (aK 0 a1) fun x3=>
 OP (af false 1 h_2 x3) fun x4=>
 OP (fA .not x4) fun x5=>
 OP (aK 1 a1) fun x6=>
 OP (af false 1 h_2 x6) fun x7=>
 ak P 117 [x5,x7] h_2 fun x8 h_3=>
 OH (aI 2 h_3 x2 x8) fun _ h_4=>
 OP (af true 2 h_4 x2) fun r0=>
 K r0 h_4
theorem aqZ:aj P Vm (aR [.cell true 2 2] K) (bp [a0]) h=JV P K a0 h:=by kernel_rfl
theorem f119 {K:VK} {a0:Value} {h:ae} (H:JV Tryz.prog K a0 h):ak Tryz.prog 119 [a0] h K:=
 bF aug (Nat.le_of_ble_eq_true rfl) ((aqZ Tryz.prog K a0 h).mpr H)
end
/-! F122: pommel/num.times -/
noncomputable section
variable (a0 b1 x5 i6 x7 x8 aQ aN aW bt bC bD : Value) (L1 L2 : LQ) (xs : List Value) (h : ae)
def aca:=bw Tryz.prog 122 [[],[],[],[1,5,18,19],[20],[],[],[],[],[],[1,5,6,7,18,19,20,25,26],[8,27],[],[],[],[],[],[1,5,6,8,18,19,20],[1,5,18,19,20],[5],[]]
@[irreducible] def DQ:=bE aca
@[irreducible] def DR:=DQ.r.r.l.r.l.l
@[irreducible] def Vx:=DQ.r.r.r
@[irreducible] def anx:=DR.r.r.l.l.r.r.l.r.l.l
@[irreducible] def Vw:=DR.r.r.l.l.r.r.r
@[irreducible] def Vy:=DR.r.r.r
@[irreducible] def anB:=Vx.l
@[irreducible] def anz:=Vw.l
@[irreducible] def anA:=Vy.l
theorem auj:aca=some (68,DQ,[.tmp 4]):=by kernel_rfl
def I1 (_P:Program) (K:VK):ar:=aR [.tmp 4] K
def aka:ar:=aD (aj P Vx (I1 P K)) (I1 P K)
def akb:ar:=bz 0 (aka P K)
def CU:ar:=aD (fun f' aS=>(([1,5,18,19]:List Nat).map f':List Value)=[b1,x5,aQ,aN]∧L1 (([20]:List Nat).map f') aS) (akb P K)
def akc:ar:=aD (aj P Vy (CU P K b1 x5 aQ aN L1)) (CU P K b1 x5 aQ aN L1)
def I2:ar:=bz 1 (akc P K b1 x5 aQ aN L1)
def aj7:ar:=aD (aj P Vw (I2 P K b1 x5 aQ aN L1)) (I2 P K b1 x5 aQ aN L1)
def aj8:ar:=bz 2 (aj7 P K b1 x5 aQ aN L1)
def aj9:ar:=aD (fun f' aS=>(([1,5,6,7,18,19,20,25,26]:List Nat).map f':List Value)=[b1,x5,i6,x7,aQ,aN,aW,bt,bC]∧L2 (([8,27]:List Nat).map f') aS) (aj8 P K b1 x5 aQ aN L1)
def aed:Prop:=av (aj P DR (CU P K b1 x5 aQ aN L1)) ([1,5,18,19]++[20]) ([b1,x5,aQ,aN]++xs) h
def ad9:Prop:=av (aj P anx (aj9 P K b1 x5 i6 x7 aQ aN aW bt bC L1 L2)) ([1,5,6,7,18,19,20,25,26]++[8,27]) ([b1,x5,i6,x7,aQ,aN,aW,bt,bC]++xs) h
def aea:Prop:=av (aj P anz (I2 P K b1 x5 aQ aN L1)) [1,5,6,8,18,19,20] [b1,x5,i6,x8,aQ,aN,aW] h
def aeb:Prop:=av (aj P anA (CU P K b1 x5 aQ aN L1)) [1,5,18,19,20] [b1,x5,aQ,aN,aW] h
def aec:Prop:=av (aj P anB (I1 P K)) [5] [x5] h
theorem awj (b1 x5 i6 x7 aQ aN aW bt bC:Value) (L1 L2:LQ) (x8 bD:Value) (h:ae):ad9 P K b1 x5 i6 x7 aQ aN aW bt bC L1 L2 [x8,bD] h=
 (OP (ai .lss bD bC) fun bU=>
 aM bU
 (OP (aU 1 bt bD) fun cR=>
 OP (af false 1 h cR) fun ca=>
 OP (df .u64 x7) fun dI=>
 OP (df .u64 ca) fun dd=>
 OP (ai .mul dI dd) fun cJ=>
 OP (ai .add i6 bD) fun dJ=>
 OP (aU 1 x5 dJ) fun dC=>
 OP (af false 1 h dC) fun dn=>
 OP (df .u64 dn) fun bO=>
 OP (ai .add cJ bO) fun ba=>
 OP (ai .add ba x8) fun cd=>
 OP (ai .add i6 bD) fun dD=>
 OP (df .u32 cd) fun dS=>
 OP (ai .shr cd (.int .u64 (32))) fun cS=>
 OP (aU 1 x5 dD) fun gv=>
 OH (aI 1 h gv dS) fun _ h_1=>
 OP (ai .add bD (.int .i64 (1))) fun gh=>
 ([b1,x5,i6,x7,aQ,aN,aW,bt,bC]:List Value)=[b1,x5,i6,x7,aQ,aN,aW,bt,bC]∧L2 [cS,gh] h_1)
 (aea P K b1 x5 i6 x8 aQ aN aW L1 h)):=ax (by kernel_rfl)
theorem awk:aea P K b1 x5 i6 x8 aQ aN aW L1 h=
 (OP (aY b1) fun gJ=>
 OP (ai .add i6 gJ) fun hX=>
 OP (df .u32 x8) fun iL=>
 OP (aU 1 x5 hX) fun gW=>
 OH (aI 1 h gW iL) fun _ h_1=>
 aeb P K b1 x5 aQ aN aW L1 h_1):=ax (by kernel_rfl)
theorem awl:aeb P K b1 x5 aQ aN aW L1 h=
 (OP (ai .add aW (.int .i64 (1))) fun fv=>
 ([b1,x5,aQ,aN]:List Value)=[b1,x5,aQ,aN]∧L1 [fv] h):=ax (by kernel_rfl)
theorem awn (b1 x5 aQ aN:Value) (L1:LQ) (aW:Value) (h:ae):aed P K b1 x5 aQ aN L1 [aW] h=
 (OP (ai .lss aW aN) fun bm=>
 aM bm
 (OP (aU 1 aQ aW) fun cF=>
 OP (af false 1 h cF) fun bM=>
 OP (aY b1) fun bC=>
 cG [(.int .u64 (0)),(.int .i64 (0))] h fun L2 xs hx=>
 ad9 P K b1 x5 aW bM aQ aN aW b1 bC L1 L2 xs hx)
 (aec P K x5 h)):=ax (by kernel_rfl)
theorem awm:aec P K x5 h=
 (ak P 118 [x5] h fun fK h_1=>
 K fK h_1):=ax (by kernel_rfl)
def JY:Prop:=
 OP (aY a0) fun aA=>
 OP (aY b1) fun bc=>
 OP (ai .add aA bc) fun a9=>
 OH (kR 177 4 [(.int .u32 (0))] h a9 a9) fun bQ h_1=>
 OP (aY a0) fun aN=>
 cG [(.int .i64 (0))] h_1 fun L1 xs hx=>
 aed P K b1 bQ a0 aN L1 xs hx
theorem aq2:aj P DQ (aR [.tmp 4] K) (bp [a0,b1]) h=JY P K a0 b1 h:=by kernel_rfl
theorem f122 {K:VK} {a0 b1:Value} {h:ae} (H:JY Tryz.prog K a0 b1 h):ak Tryz.prog 122 [a0,b1] h K:=
 bF auj (Nat.le_of_ble_eq_true rfl) ((aq2 Tryz.prog K a0 b1 h).mpr H)
end
/-! F126: pommel/num.compare -/
noncomputable section
variable (a0 b1 i5 : Value) (L1 : LQ) (xs : List Value) (h : ae)
def acf:=bw Tryz.prog 126 [[],[],[],[],[],[],[],[],[0,1],[5],[],[],[],[],[],[],[],[],[],[]]
@[irreducible] def DW:=bE acf
@[irreducible] def anK:=DW.r.r.l.r.l.l
@[irreducible] def anL:=DW.r.r.r
theorem aun:acf=some (41,DW,[.tmp 4]):=by kernel_rfl
def S6 (_P:Program) (K:VK):ar:=aR [.tmp 4] K
def akn:ar:=aD (aj P anL (S6 P K)) (S6 P K)
def akl:ar:=bz 0 (akn P K)
def akm:ar:=aD (fun f' aS=>(([0,1]:List Nat).map f':List Value)=[a0,b1]∧L1 (([5]:List Nat).map f') aS) (akl P K)
def aem:Prop:=av (aj P anK (akm P K a0 b1 L1)) ([0,1]++[5]) ([a0,b1]++xs) h
theorem awu (a0 b1:Value) (L1:LQ) (i5:Value) (h:ae):aem P K a0 b1 L1 [i5] h=
 (OP (ai .geq i5 (.int .i64 (0))) fun aW=>
 aM aW
 (OP (aU 1 a0 i5) fun bt=>
 OP (af false 1 h bt) fun bC=>
 (True)∧
 OP (aU 1 b1 i5) fun cA=>
 OP (af false 1 h cA) fun cR=>
 (True)∧
 OP (ai .neq bC cR) fun ca=>
 aM ca
 (OP (aU 1 a0 i5) fun bX=>
 OP (af false 1 h bX) fun dd=>
 (True)∧
 OP (aU 1 b1 i5) fun cV=>
 OP (af false 1 h cV) fun dR=>
 (True)∧
 OP (ai .lss dd dR) fun dJ=>
 aM dJ
 (K (.int .i64 (-1)) h)
 (K (.int .i64 (1)) h))
 (OP (ai .sub i5 (.int .i64 (1))) fun bJ=>
 ([a0,b1]:List Value)=[a0,b1]∧L1 [bJ] h))
 (K (.int .i64 (0)) h)):=ax (by kernel_rfl)
def J2:Prop:=
 OP (aY a0) fun x7=>
 OP (aY b1) fun x9=>
 OP (ai .neq x7 x9) fun aG=>
 aM aG
 (OP (aY a0) fun az=>
 OP (aY b1) fun aP=>
 OP (ai .lss az aP) fun bc=>
 aM bc
 (K (.int .i64 (-1)) h)
 (K (.int .i64 (1)) h))
 (OP (aY a0) fun bQ=>
 OP (ai .sub bQ (.int .i64 (1))) fun aQ=>
 cG [aQ] h fun L1 xs hx=>
 aem P K a0 b1 L1 xs hx)
theorem aq6:aj P DW (aR [.tmp 4] K) (bp [a0,b1]) h=J2 P K a0 b1 h:=by kernel_rfl
theorem f126 {K:VK} {a0 b1:Value} {h:ae} (H:J2 Tryz.prog K a0 b1 h):ak Tryz.prog 126 [a0,b1] h K:=
 bF aun (Nat.le_of_ble_eq_true rfl) ((aq6 Tryz.prog K a0 b1 h).mpr H)
end
/-! F127: (pommel/num.Int).Sub -/
noncomputable section
variable (a0 b1 : Value) (h : ae)
def acg:=bw Tryz.prog 127 [[],[]]
@[irreducible] def VL:=bE acg
theorem auo:acg=some (9,VL,[.cell true 2 4]):=by kernel_rfl
def J3:Prop:=
 OH (bk 105 h a0) fun a2 h_1=>
 OH (bk 105 h_1 b1) fun b3 h_2=>
 OH (aX 105 [(.bool false),(.slice none 0 0)] h_2) fun x4 h_3=>
 OP (af true 2 h_3 a2) fun x5=>
 (True)∧
 OP (af true 2 h_3 b3) fun x6=>
 (True)∧
 ak P 119 [x6] h_3 fun x7 h_4=>
 (af true 2 h_4 a2=some x5∧True)∧
 ak P 113 [x5,x7] h_4 fun x8 h_5=>
 (True)∧
 OH (aI 2 h_5 x4 x8) fun _ h_6=>
 (True)∧
 OP (af true 2 h_6 x4) fun r0=>
 K r0 h_6
theorem aq7:aj P VL (aR [.cell true 2 4] K) (bp [a0,b1]) h=J3 P K a0 b1 h:=by kernel_rfl
theorem f127 {K:VK} {a0 b1:Value} {h:ae} (H:J3 Tryz.prog K a0 b1 h):ak Tryz.prog 127 [a0,b1] h K:=
 bF auo (Nat.le_of_ble_eq_true rfl) ((aq7 Tryz.prog K a0 b1 h).mpr H)
end
/-! F128: pommel/num.plus -/
noncomputable section
variable (a0 b1 x5 x6 i7 y8 bm bJ : Value) (L1 : LQ) (xs : List Value) (h : ae)
def ach:=bw Tryz.prog 128 [[],[],[0,1],[],[],[],[0,1,5,21],[6,22],[],[],[],[],[],[0,1,5,6,7,8,21,22],[0,1,5,6,21,22],[0,5,6],[],[]]
@[irreducible] def Ls:=bE ach
@[irreducible] def Lu:=Ls.r.r.l
@[irreducible] def Lt:=Lu.r.r.l.r.l.l
@[irreducible] def VN:=Lu.r.r.r
@[irreducible] def anM:=Lt.r.r.l.l.r.r.r.l
@[irreducible] def VM:=Lt.r.r.r
@[irreducible] def anO:=VN.l
@[irreducible] def anN:=VM.l
theorem aup:ach=some (54,Ls,[.tmp 4]):=by kernel_rfl
def CV (_P:Program) (K:VK):ar:=aR [.tmp 4] K
def akq:ar:=aD (aj P VN (CV P K)) (CV P K)
def akr:ar:=bz 0 (akq P K)
def CW:ar:=aD (fun f' aS=>(([0,1,5,21]:List Nat).map f':List Value)=[a0,b1,x5,bm]∧L1 (([6,22]:List Nat).map f') aS) (akr P K)
def ako:ar:=aD (aj P VM (CW P K a0 b1 x5 bm L1)) (CW P K a0 b1 x5 bm L1)
def akp:ar:=bz 1 (ako P K a0 b1 x5 bm L1)
def GL:Prop:=av (aj P Lu (CV P K)) [0,1] [a0,b1] h
def aen:Prop:=av (aj P Lt (CW P K a0 b1 x5 bm L1)) ([0,1,5,21]++[6,22]) ([a0,b1,x5,bm]++xs) h
def GK:Prop:=av (aj P anM (akp P K a0 b1 x5 bm L1)) [0,1,5,6,7,8,21,22] [a0,b1,x5,x6,i7,y8,bm,bJ] h
def aeo:Prop:=av (aj P anN (CW P K a0 b1 x5 bm L1)) [0,1,5,6,21,22] [a0,b1,x5,x6,bm,bJ] h
def aep:Prop:=av (aj P anO (CV P K)) [0,5,6] [a0,x5,x6] h
theorem aww:GK P K a0 b1 x5 x6 i7 y8 bm bJ L1 h=
 (OP (aU 1 a0 i7) fun cV=>
 OP (af false 1 h cV) fun dR=>
 ak P 133 [dR,y8,x6] h fun dn h_1=>
 OP (cC 0 dn) fun bO=>
 OP (cC 1 dn) fun ba=>
 OP (aU 1 x5 i7) fun cj=>
 OH (aI 1 h_1 cj bO) fun _ h_2=>
 aeo P K a0 b1 x5 ba bm bJ L1 h_2):=ax (by kernel_rfl)
theorem awx:aeo P K a0 b1 x5 x6 bm bJ L1 h=
 (OP (ai .add bJ (.int .i64 (1))) fun cd=>
 ([a0,b1,x5,bm]:List Value)=[a0,b1,x5,bm]∧L1 [x6,cd] h):=ax (by kernel_rfl)
theorem awv (a0 b1 x5 bm:Value) (L1:LQ) (x6 bJ:Value) (h:ae):aen P K a0 b1 x5 bm L1 [x6,bJ] h=
 (OP (ai .lss bJ bm) fun cF=>
 aM cF
 (OP (aY b1) fun bD=>
 OP (ai .lss bJ bD) fun bU=>
 aM bU
 (OP (aU 1 b1 bJ) fun ca=>
 OP (af false 1 h ca) fun cO=>
 GK P K a0 b1 x5 x6 bJ cO bm bJ L1 h)
 (GK P K a0 b1 x5 x6 bJ (.int .u32 (0)) bm bJ L1 h))
 (aep P K a0 x5 x6 h)):=ax (by kernel_rfl)
theorem awy:aep P K a0 x5 x6 h=
 (OP (aY a0) fun fT=>
 OP (aU 1 x5 fT) fun eP=>
 OH (aI 1 h eP x6) fun _ h_1=>
 ak P 118 [x5] h_1 fun jB h_2=>
 K jB h_2):=ax (by kernel_rfl)
theorem awz:GL P K a0 b1 h=
 (OP (aY a0) fun bQ=>
 OP (ai .add bQ (.int .i64 (1))) fun aQ=>
 OH (kR 177 4 [(.int .u32 (0))] h aQ aQ) fun aN h_1=>
 OP (aY a0) fun bm=>
 cG [(.int .u32 (0)),(.int .i64 (0))] h_1 fun L1 xs hx=>
 aen P K a0 b1 aN bm L1 xs hx):=ax (by kernel_rfl)
def J4:Prop:=
 OP (aY a0) fun aG=>
 OP (aY b1) fun az=>
 OP (ai .lss aG az) fun aA=>
 aM aA
 (GL P K b1 a0 h)
 (GL P K a0 b1 h)
theorem aq8:aj P Ls (aR [.tmp 4] K) (bp [a0,b1]) h=J4 P K a0 b1 h:=by kernel_rfl
theorem f128 {K:VK} {a0 b1:Value} {h:ae} (H:J4 Tryz.prog K a0 b1 h):ak Tryz.prog 128 [a0,b1] h K:=
 bF aup (Nat.le_of_ble_eq_true rfl) ((aq8 Tryz.prog K a0 b1 h).mpr H)
end
/-! F129: pommel/num.minus -/
noncomputable section
variable (a0 b1 x5 x6 i7 y8 aA aP : Value) (L1 : LQ) (xs : List Value) (h : ae)
def aci:=bw Tryz.prog 129 [[],[],[],[],[0,1,5,13],[6,14],[],[],[],[],[],[0,1,5,6,7,8,13,14],[0,1,5,6,13,14],[5],[]]
@[irreducible] def DX:=bE aci
@[irreducible] def Lv:=DX.r.r.r.l.r.l.l
@[irreducible] def VP:=DX.r.r.r.r
@[irreducible] def anP:=Lv.r.r.l.l.r.r.r.l
@[irreducible] def VO:=Lv.r.r.r
@[irreducible] def anR:=VP.l
@[irreducible] def anQ:=VO.l
theorem auq:aci=some (41,DX,[.tmp 4]):=by kernel_rfl
def I5 (_P:Program) (K:VK):ar:=aR [.tmp 4] K
def aku:ar:=aD (aj P VP (I5 P K)) (I5 P K)
def akv:ar:=bz 0 (aku P K)
def CY:ar:=aD (fun f' aS=>(([0,1,5,13]:List Nat).map f':List Value)=[a0,b1,x5,aA]∧L1 (([6,14]:List Nat).map f') aS) (akv P K)
def aks:ar:=aD (aj P VO (CY P K a0 b1 x5 aA L1)) (CY P K a0 b1 x5 aA L1)
def akt:ar:=bz 1 (aks P K a0 b1 x5 aA L1)
def aes:Prop:=av (aj P Lv (CY P K a0 b1 x5 aA L1)) ([0,1,5,13]++[6,14]) ([a0,b1,x5,aA]++xs) h
def GM:Prop:=av (aj P anP (akt P K a0 b1 x5 aA L1)) [0,1,5,6,7,8,13,14] [a0,b1,x5,x6,i7,y8,aA,aP] h
def aeq:Prop:=av (aj P anQ (CY P K a0 b1 x5 aA L1)) [0,1,5,6,13,14] [a0,b1,x5,x6,aA,aP] h
def aer:Prop:=av (aj P anR (I5 P K)) [5] [x5] h
theorem awA:GM P K a0 b1 x5 x6 i7 y8 aA aP L1 h=
 (OP (aU 1 a0 i7) fun cR=>
 OP (af false 1 h cR) fun ca=>
 ak P 134 [ca,y8,x6] h fun bX h_1=>
 OP (cC 0 bX) fun dd=>
 OP (cC 1 bX) fun cJ=>
 OP (aU 1 x5 i7) fun dT=>
 OH (aI 1 h_1 dT dd) fun _ h_2=>
 aeq P K a0 b1 x5 cJ aA aP L1 h_2):=ax (by kernel_rfl)
theorem awB:aeq P K a0 b1 x5 x6 aA aP L1 h=
 (OP (ai .add aP (.int .i64 (1))) fun cV=>
 ([a0,b1,x5,aA]:List Value)=[a0,b1,x5,aA]∧L1 [x6,cV] h):=ax (by kernel_rfl)
theorem awD (a0 b1 x5 aA:Value) (L1:LQ) (x6 aP:Value) (h:ae):aes P K a0 b1 x5 aA L1 [x6,aP] h=
 (OP (ai .lss aP aA) fun bc=>
 aM bc
 (OP (aY b1) fun aN=>
 OP (ai .lss aP aN) fun aW=>
 aM aW
 (OP (aU 1 b1 aP) fun cF=>
 OP (af false 1 h cF) fun bM=>
 GM P K a0 b1 x5 x6 aP bM aA aP L1 h)
 (GM P K a0 b1 x5 x6 aP (.int .u32 (0)) aA aP L1 h))
 (aer P K x5 h)):=ax (by kernel_rfl)
theorem awC:aer P K x5 h=
 (ak P 118 [x5] h fun dJ h_1=>
 K dJ h_1):=ax (by kernel_rfl)
def J5:Prop:=
 OP (aY a0) fun aG=>
 OH (kR 177 4 [(.int .u32 (0))] h aG aG) fun ay h_1=>
 OP (aY a0) fun aA=>
 cG [(.int .u32 (0)),(.int .i64 (0))] h_1 fun L1 xs hx=>
 aes P K a0 b1 ay aA L1 xs hx
theorem aq9:aj P DX (aR [.tmp 4] K) (bp [a0,b1]) h=J5 P K a0 b1 h:=by kernel_rfl
theorem f129 {K:VK} {a0 b1:Value} {h:ae} (H:J5 Tryz.prog K a0 b1 h):ak Tryz.prog 129 [a0,b1] h K:=
 bF auq (Nat.le_of_ble_eq_true rfl) ((aq9 Tryz.prog K a0 b1 h).mpr H)
end
/-! F133: math/bits.Add32 -/
noncomputable section
variable (x0 y1 x2 : Value) (h : ae)
def aco:=bw Tryz.prog 133 [[],[],[],[]]
@[irreducible] def VT:=bE aco
theorem auu:aco=some (22,VT,[.tmp 6,.tmp 7]):=by kernel_rfl
def J9 (_:Program) (K:VK) (x0 y1 x2:Value) (h:ae):Prop:=
 OP (df .u64 x0) fun aG=>
 OP (df .u64 y1) fun az=>
 OP (ai .add aG az) fun aA=>
 OP (df .u64 x2) fun bc=>
 OP (ai .add aA bc) fun a9=>
 OP (df .u32 a9) fun aQ=>
 OP (ai .shr a9 (.int .u64 (32))) fun aW=>
 OP (df .u32 aW) fun bm=>
 K (.tuple #[aQ,bm]) h
theorem ard:aj P VT (aR [.tmp 6,.tmp 7] K) (bp [x0,y1,x2]) h=J9 P K x0 y1 x2 h:=by kernel_rfl
theorem f133 {K:VK} {x0 y1 x2:Value} {h:ae} (H:J9 Tryz.prog K x0 y1 x2 h):ak Tryz.prog 133 [x0,y1,x2] h K:=
 bF auu (Nat.le_of_ble_eq_true rfl) ((ard Tryz.prog K x0 y1 x2 h).mpr H)
end
/-! F134: math/bits.Sub32 -/
noncomputable section
variable (x0 y1 x2 : Value) (h : ae)
def acp:=bw Tryz.prog 134 [[],[],[]]
@[irreducible] def VU:=bE acp
theorem auv:acp=some (25,VU,[.tmp 6,.tmp 7]):=by kernel_rfl
def Ka (_:Program) (K:VK) (x0 y1 x2:Value) (h:ae):Prop:=
 OP (ai .sub x0 y1) fun aG=>
 OP (ai .sub aG x2) fun az=>
 OP (fA .xor x0) fun aP=>
 OP (ai .and aP y1) fun a9=>
 OP (ai .xor x0 y1) fun aN=>
 OP (fA .xor aN) fun aW=>
 OP (ai .and aW az) fun bJ=>
 OP (ai .or a9 bJ) fun cF=>
 OP (ai .shr cF (.int .u64 (31))) fun bM=>
 K (.tuple #[az,bM]) h
theorem arf:aj P VU (aR [.tmp 6,.tmp 7] K) (bp [x0,y1,x2]) h=Ka P K x0 y1 x2 h:=by kernel_rfl
theorem f134 {K:VK} {x0 y1 x2:Value} {h:ae} (H:Ka Tryz.prog K x0 y1 x2 h):ak Tryz.prog 134 [x0,y1,x2] h K:=
 bF auv (Nat.le_of_ble_eq_true rfl) ((arf Tryz.prog K x0 y1 x2 h).mpr H)
end
end Go.Proofs.YtelmdbpaoifmoaaGreat

namespace Go.Proofs.YtelmdbpaoifmoaaGreat
open Go.Sim
variable (P : Program) (K : VK)
/-! F75: pommel/num.Whole -/
noncomputable section
variable (n0 : Value) (h : ae)
def ac4:=bw Tryz.prog 75 [[],[]]
@[irreducible] def Xw:=bE ac4
theorem k75:ac4=some (7,Xw,[.cell true 4 2]):=by kernel_rfl
def KN:Prop:=
 OH (aX 107 [(.bool false),(.slice none 0 0),(.bool false),(.slice none 0 0)] h) fun x2 h_1=>
 ak P 105 [n0] h_1 fun x4 h_2=>
 ak P 105 [(.int .i64 (1))] h_2 fun x5 h_3=>
 OP (cT [(.bool false),(.slice none 0 0),(.bool false),(.slice none 0 0)] [(0,2,x4),(2,2,x5)]) fun x6=>
 OH (aI 4 h_3 x2 x6) fun _ h_4=>
 OP (af true 4 h_4 x2) fun r0=>
 K r0 h_4
theorem e75:aj P Xw (aR [.cell true 4 2] K) (bp [n0]) h=KN P K n0 h:=by kernel_rfl
theorem f75 {K:VK} {n0:Value} {h:ae} (H:KN Tryz.prog K n0 h):ak Tryz.prog 75 [n0] h K:=
 bF k75 (Nat.le_of_ble_eq_true rfl) ((e75 Tryz.prog K n0 h).mpr H)
end
/-! F77: (pommel/num.Rat).Div -/
noncomputable section
variable (a0 b1 : Value) (h : ae)
def ac6:=bw Tryz.prog 77 [[],[]]
@[irreducible] def Xy:=bE ac6
theorem k77:ac6=some (16,Xy,[.cell true 4 4]):=by kernel_rfl
def KO:Prop:=
 OH (bk 107 h a0) fun a2 h_1=>
 OH (bk 107 h_1 b1) fun b3 h_2=>
 OH (aX 107 [(.bool false),(.slice none 0 0),(.bool false),(.slice none 0 0)] h_2) fun x4 h_3=>
 OP (aK 0 a2) fun x5=>
 OP (af true 2 h_3 x5) fun x6=>
 (True)∧
 OP (aK 2 b3) fun x7=>
 OP (af true 2 h_3 x7) fun x8=>
 (True)∧
 ak P 107 [x6,x8] h_3 fun x9 h_4=>
 (True)∧
 OP (aK 2 a2) fun aG=>
 OP (af true 2 h_4 aG) fun ay=>
 (af true 2 h_3 aG=some ay∧True)∧
 OP (aK 0 b3) fun az=>
 OP (af true 2 h_4 az) fun aA=>
 (af true 2 h_3 az=some aA∧True)∧
 ak P 107 [ay,aA] h_4 fun aP h_5=>
 (True)∧
 ak P 106 [x9,aP] h_5 fun bc h_6=>
 (True)∧
 OH (aI 4 h_6 x4 bc) fun _ h_7=>
 (True)∧
 OP (af true 4 h_7 x4) fun r0=>
 K r0 h_7
theorem e77:aj P Xy (aR [.cell true 4 4] K) (bp [a0,b1]) h=KO P K a0 b1 h:=by kernel_rfl
theorem f77 {K:VK} {a0 b1:Value} {h:ae} (H:KO Tryz.prog K a0 b1 h):ak Tryz.prog 77 [a0,b1] h K:=
 bF k77 (Nat.le_of_ble_eq_true rfl) ((e77 Tryz.prog K a0 b1 h).mpr H)
end
/-! F89: pommel/num.text -/
noncomputable section
variable (x0 b3 q4 r5 i6 aW bM bC bD : Value) (L1 L2 : LQ) (xs : List Value) (h : ae)
def adi:=bw Tryz.prog 89 [[],[],[],[],[],[],[0,3],[],[],[],[],[4],[3,5,6],[3,4,5,6,20],[3,4,5,6,20,24],[3,4,5,6,20,24,26],[3,4,5,6,20,27],[],[],[],[],[3,4],[3],[],[]]
@[irreducible] def EB:=bE adi
@[irreducible] def LP:=EB.r.r.r.l.l.l
@[irreducible] def XN:=EB.r.r.r.r
@[irreducible] def EC:=LP.r.l.r.l.r.l.l
@[irreducible] def XI:=LP.r.l.r.r
@[irreducible] def apL:=XN.l
@[irreducible] def XJ:=EC.l.l.r.l
@[irreducible] def apI:=EC.l.r
@[irreducible] def apH:=EC.r
@[irreducible] def apK:=XI.l
@[irreducible] def XK:=XJ.r.l
@[irreducible] def XL:=XK.r.l
@[irreducible] def apJ:=XL.r.l
theorem k89:adi=some (45,EB,[.tmp 2]):=by kernel_rfl
def Jt (_P:Program) (K:VK):ar:=aR [.tmp 2] K
def amf:ar:=aD (aj P XN (Jt P K)) (Jt P K)
def amg:ar:=bz 0 (amf P K)
def T6:ar:=aD (fun f' aS=>(([]:List Nat).map f':List Value)=[]∧L1 (([0,3]:List Nat).map f') aS) (amg P K)
def Ju:ar:=bz 1 (T6 P K L1)
def amd:ar:=aD (aj P XI (Ju P K L1)) (Ju P K L1)
def ame:ar:=bz 2 (amd P K L1)
def Jv:ar:=aD (fun f' aS=>(([4]:List Nat).map f':List Value)=[q4]∧L2 (([3,5,6]:List Nat).map f') aS) (ame P K L1)
def T5:ar:=aD (aj P apH (Jv P K q4 L1 L2)) (Jv P K q4 L1 L2)
def Dd:ar:=aD (aj P apI (T5 P K q4 L1 L2)) (T5 P K q4 L1 L2)
def afT:Prop:=av (aj P LP (T6 P K L1)) ([]++[0,3]) ([]++xs) h
def afQ:Prop:=av (aj P EC (Jv P K q4 L1 L2)) ([4]++[3,5,6]) ([q4]++xs) h
def afR:Prop:=av (aj P XJ (Dd P K q4 L1 L2)) [3,4,5,6,20] [b3,q4,r5,i6,aW] h
def Qa:Prop:=av (aj P XK (Dd P K q4 L1 L2)) [3,4,5,6,20,24] [b3,q4,r5,i6,aW,bM] h
def Qb:Prop:=av (aj P XL (Dd P K q4 L1 L2)) [3,4,5,6,20,24,26] [b3,q4,r5,i6,aW,bM,bC] h
def Qc:Prop:=av (aj P apJ (Dd P K q4 L1 L2)) [3,4,5,6,20,27] [b3,q4,r5,i6,aW,bD] h
def G4:Prop:=av (aj P apK (Ju P K L1)) [3,4] [b3,q4] h
def afS:Prop:=av (aj P apL (Jt P K)) [3] [b3] h
theorem Hm:Qc P K b3 q4 r5 i6 aW bD L1 L2 h=
 (OP (bL aW bD (.bool false)) fun bU=>
 aM bU
 (OP (ai .rem r5 (.int .u32 (10))) fun dI=>
 OP (ai .add (.int .u32 (48)) dI) fun bX=>
 OP (df .u8 bX) fun dd=>
 OH (dh 5 1 [(.int .u8 (0))] h [(0,1,dd)]) fun cJ h_1=>
 OH (dj 5 1 1 h_1 b3 cJ) fun dT h_2=>
 OP (ai .quo r5 (.int .u32 (10))) fun dR=>
 OP (ai .add i6 (.int .i64 (1))) fun cR=>
 ([q4]:List Value)=[q4]∧L2 [dT,dR,cR] h_2)
 (G4 P K b3 q4 L1 h)):=ax (by kernel_rfl)
theorem Hl:Qb P K b3 q4 r5 i6 aW bM bC L1 L2 h=
 (bZ aW true
 (OP (bL bM (.bool true) bC) fun bD=>
 Qc P K b3 q4 r5 i6 aW bD L1 L2 h)
 (Qc P K b3 q4 r5 i6 aW undef L1 L2 h)):=ax (by kernel_rfl)
theorem QH:Qa P K b3 q4 r5 i6 aW bM L1 L2 h=
 (bZ bM false
 (OP (ai .gtr r5 (.int .u32 (0))) fun bC=>
 Qb P K b3 q4 r5 i6 aW bM bC L1 L2 h)
 (Qb P K b3 q4 r5 i6 aW bM undef L1 L2 h)):=ax (by kernel_rfl)
theorem ahd:afR P K b3 q4 r5 i6 aW L1 L2 h=
 (bZ aW true
 (OP (aY q4) fun bJ=>
 OP (ai .gtr bJ (.int .i64 (0))) fun cF=>
 Qa P K b3 q4 r5 i6 aW cF L1 L2 h)
 (Qa P K b3 q4 r5 i6 aW undef L1 L2 h)):=ax (by kernel_rfl)
theorem ayt (q4:Value) (L1 L2:LQ) (b3 r5 i6:Value) (h:ae):afQ P K q4 L1 L2 [b3,r5,i6] h=
 (OP (ai .lss i6 (.int .i64 (9))) fun aN=>
 afR P K b3 q4 r5 i6 aN L1 L2 h):=ax (by kernel_rfl)
theorem ayu:G4 P K b3 q4 L1 h=
 (([]:List Value)=[]∧L1 [q4,b3] h):=ax (by kernel_rfl)
theorem ayw (L1:LQ) (x0 b3:Value) (h:ae):afT P K L1 [x0,b3] h=
 (OP (aY x0) fun ay=>
 OP (ai .gtr ay (.int .i64 (0))) fun az=>
 aM az
 (ak P 114 [x0,(.int .u32 (1000000000))] h fun bc h_1=>
 OP (cC 0 bc) fun a9=>
 OP (cC 1 bc) fun bQ=>
 cG [b3,bQ,(.int .i64 (0))] h_1 fun L2 xs hx=>
 afQ P K a9 L1 L2 xs hx)
 (afS P K b3 h)):=ax (by kernel_rfl)
theorem ayv:afS P K b3 h=
 (ak P 115 [b3] h fun _ h_1=>
 OP (rH h_1 b3) fun ba=>
 K ba h_1):=ax (by kernel_rfl)
def KZ:Prop:=
 OP (aY x0) fun x8=>
 OP (ai .eql x8 (.int .i64 (0))) fun x9=>
 aM x9
 (K (.string ⟨#[48]⟩) h)
 (cG [x0,(.slice none 0 0)] h fun L1 xs hx=>
 afT P K L1 xs hx)
theorem e89:aj P EB (aR [.tmp 2] K) (bp [x0]) h=KZ P K x0 h:=by kernel_rfl
theorem f89 {K:VK} {x0:Value} {h:ae} (H:KZ Tryz.prog K x0 h):ak Tryz.prog 89 [x0] h K:=
 bF k89 (Nat.le_of_ble_eq_true rfl) ((e89 Tryz.prog K x0 h).mpr H)
end
/-! F90: (pommel/num.Rat).Integer -/
noncomputable section
variable (a0 a1 x8 aP : Value) (h : ae)
def adk:=bw Tryz.prog 90 [[],[1,8],[8,14],[]]
@[irreducible] def ED:=bE adk
@[irreducible] def XO:=ED.r.l.r.l
@[irreducible] def apM:=ED.r.r
@[irreducible] def apN:=XO.r.l
theorem k90:adk=some (16,ED,[.tmp 2]):=by kernel_rfl
def T7 (_P:Program) (K:VK):ar:=aR [.tmp 2] K
def T8:ar:=aD (aj P apM (T7 P K)) (T7 P K)
def afU:Prop:=av (aj P XO (T8 P K)) [1,8] [a1,x8] h
def Qd:Prop:=av (aj P apN (T8 P K)) [8,14] [x8,aP] h
theorem QJ:Qd P K x8 aP h=
 (OP (bL x8 aP (.bool false)) fun bc=>
 K bc h):=ax (by kernel_rfl)
theorem QI:afU P K a1 x8 h=
 (bZ x8 true
 (OP (aK 2 a1) fun x9=>
 OP (aK 1 x9) fun aG=>
 OP (af false 1 h aG) fun ay=>
 OP (aU 1 ay (.int .i64 (0))) fun az=>
 OP (af false 1 h az) fun aA=>
 OP (ai .eql aA (.int .u32 (1))) fun aP=>
 Qd P K x8 aP h)
 (Qd P K x8 undef h)):=ax (by kernel_rfl)
def Dl:Prop:=
 OH (bk 107 h a0) fun a1 h_1=>
 OP (aK 2 a1) fun x3=>
 OP (aK 1 x3) fun x4=>
 OP (af false 1 h_1 x4) fun x5=>
 OP (aY x5) fun x6=>
 OP (ai .eql x6 (.int .i64 (1))) fun x7=>
 afU P K a1 x7 h_1
theorem e90:aj P ED (aR [.tmp 2] K) (bp [a0]) h=Dl P K a0 h:=by kernel_rfl
theorem f90 {K:VK} {a0:Value} {h:ae} (H:Dl Tryz.prog K a0 h):ak Tryz.prog 90 [a0] h K:=
 bF k90 (Nat.le_of_ble_eq_true rfl) ((e90 Tryz.prog K a0 h).mpr H)
end
/-! F106: pommel/num.Ratio -/
noncomputable section
variable (x0 x1 x2 x3 x4 : Value) (h : ae)
def abU:=bw Tryz.prog 106 [[],[],[2,3,4],[],[],[],[],[],[],[]]
@[irreducible] def Lo:=bE abU
@[irreducible] def am3:=Lo.r.r.l
theorem at3:abU=some (41,Lo,[.cell true 4 4]):=by kernel_rfl
def ajN (_P:Program) (K:VK):ar:=aR [.cell true 4 4] K
def Pk:Prop:=av (aj P am3 (ajN P K)) [2,3,4] [x2,x3,x4] h
theorem avW:Pk P K x2 x3 x4 h=
 (OP (af true 2 h x2) fun a9=>
 OP (af true 2 h x3) fun bQ=>
 ak P 120 [a9,bQ] h fun aQ h_1=>
 OH (aX 105 [(.bool false),(.slice none 0 0)] h_1) fun g5 h_2=>
 OH (aI 2 h_2 g5 aQ) fun _ h_3=>
 OP (af true 2 h_3 g5) fun aN=>
 (True)∧
 ak P 105 [(.int .i64 (1))] h_3 fun aW h_4=>
 (af true 2 h_4 g5=some aN∧True)∧
 ak P 111 [aN,aW] h_4 fun bm h_5=>
 (True)∧
 OP (ai .eql bm (.int .i64 (0))) fun bJ=>
 aM bJ
 (OP (af true 2 h_5 x2) fun cF=>
 OP (af true 2 h_5 x3) fun bM=>
 OP (cT [(.bool false),(.slice none 0 0),(.bool false),(.slice none 0 0)] [(0,2,cF),(2,2,bM)]) fun bt=>
 OH (aI 4 h_5 x4 bt) fun _ h_6=>
 OP (af true 4 h_6 x4) fun r0=>
 K r0 h_6)
 (OP (af true 2 h_5 x2) fun bD=>
 OP (af true 2 h_5 g5) fun bU=>
 ak P 121 [bD,bU] h_5 fun cA h_6=>
 OP (cC 0 cA) fun cR=>
 OP (cC 1 cA) fun ca=>
 OH (aX 105 [(.bool false),(.slice none 0 0)] h_6) fun n6 h_7=>
 OH (aX 105 [(.bool false),(.slice none 0 0)] h_7) fun x7 h_8=>
 OH (aI 2 h_8 n6 cR) fun _ h_9=>
 OH (aI 2 h_9 x7 ca) fun _ h_10=>
 OP (af true 2 h_10 x3) fun dI=>
 OP (af true 2 h_10 g5) fun bX=>
 ak P 121 [dI,bX] h_10 fun dd h_11=>
 OP (cC 0 dd) fun cJ=>
 OP (cC 1 dd) fun dT=>
 OH (aX 105 [(.bool false),(.slice none 0 0)] h_11) fun d8 h_12=>
 OH (aX 105 [(.bool false),(.slice none 0 0)] h_12) fun x9 h_13=>
 OH (aI 2 h_13 d8 cJ) fun _ h_14=>
 OH (aI 2 h_14 x9 dT) fun _ h_15=>
 OP (af true 2 h_15 n6) fun cV=>
 OP (af true 2 h_15 d8) fun dR=>
 OP (cT [(.bool false),(.slice none 0 0),(.bool false),(.slice none 0 0)] [(0,2,cV),(2,2,dR)]) fun dJ=>
 OH (aI 4 h_15 x4 dJ) fun _ h_16=>
 OP (af true 4 h_16 x4) fun r0=>
 K r0 h_16)):=ax (by kernel_rfl)
def JJ:Prop:=
 OH (bk 105 h x0) fun x2 h_1=>
 OH (bk 105 h_1 x1) fun x3 h_2=>
 OH (aX 107 [(.bool false),(.slice none 0 0),(.bool false),(.slice none 0 0)] h_2) fun x4 h_3=>
 OP (aK 0 x3) fun aG=>
 OP (af false 1 h_3 aG) fun ay=>
 aM ay
 (OP (af true 2 h_3 x2) fun az=>
 (True)∧
 ak P 119 [az] h_3 fun aA h_4=>
 (True)∧
 OP (af true 2 h_4 x3) fun aP=>
 (af true 2 h_3 x3=some aP∧True)∧
 ak P 119 [aP] h_4 fun bc h_5=>
 (True)∧
 OH (aI 2 h_5 x2 aA) fun _ h_6=>
 (True)∧
 OH (aI 2 h_6 x3 bc) fun _ h_7=>
 (True)∧
 Pk P K x2 x3 x4 h_7)
 (Pk P K x2 x3 x4 h_3)
theorem aqN:aj P Lo (aR [.cell true 4 4] K) (bp [x0,x1]) h=JJ P K x0 x1 h:=by kernel_rfl
theorem f106 {K:VK} {x0 x1:Value} {h:ae} (H:JJ Tryz.prog K x0 x1 h):ak Tryz.prog 106 [x0,x1] h K:=
 bF at3 (Nat.le_of_ble_eq_true rfl) ((aqN Tryz.prog K x0 x1 h).mpr H)
end
/-! F120: (pommel/num.Int).Gcd -/
noncomputable section
variable (a0 b1 x4 x5 y6 : Value) (L1 : LQ) (xs : List Value) (h : ae)
def ab8:=bw Tryz.prog 120 [[],[],[4],[5,6],[],[],[],[4,5],[]]
@[irreducible] def DP:=bE ab8
@[irreducible] def ant:=DP.r.r.l.l.l
@[irreducible] def Vt:=DP.r.r.r
@[irreducible] def ans:=Vt.l
theorem auh:ab8=some (26,DP,[.cell true 2 4]):=by kernel_rfl
def IZ (_P:Program) (K:VK):ar:=aR [.cell true 2 4] K
def aj4:ar:=aD (aj P Vt (IZ P K)) (IZ P K)
def aj5:ar:=bz 0 (aj4 P K)
def aj6:ar:=aD (fun f' aS=>(([4]:List Nat).map f':List Value)=[x4]∧L1 (([5,6]:List Nat).map f') aS) (aj5 P K)
def ad7:Prop:=av (aj P ant (aj6 P K x4 L1)) ([4]++[5,6]) ([x4]++xs) h
def ad6:Prop:=av (aj P ans (IZ P K)) [4,5] [x4,x5] h
theorem awf (x4:Value) (L1:LQ) (x5 y6:Value) (h:ae):ad7 P K x4 L1 [x5,y6] h=
 (OP (aY y6) fun aP=>
 OP (ai .gtr aP (.int .i64 (0))) fun bc=>
 aM bc
 (ak P 130 [x5,y6] h fun aN h_1=>
 OP (cC 0 aN) fun _=>
 OP (cC 1 aN) fun bm=>
 ([x4]:List Value)=[x4]∧L1 [y6,bm] h_1)
 (ad6 P K x4 x5 h)):=ax (by kernel_rfl)
theorem awe:ad6 P K x4 x5 h=
 (ak P 117 [(.bool false),x5] h fun bt h_1=>
 OH (aI 2 h_1 x4 bt) fun _ h_2=>
 OP (af true 2 h_2 x4) fun r0=>
 K r0 h_2):=ax (by kernel_rfl)
def JW:Prop:=
 OH (bk 105 h a0) fun a2 h_1=>
 OH (bk 105 h_1 b1) fun b3 h_2=>
 OH (aX 105 [(.bool false),(.slice none 0 0)] h_2) fun x4 h_3=>
 OP (aK 1 a2) fun x9=>
 OP (af false 1 h_3 x9) fun aG=>
 (True)∧
 OP (aK 1 b3) fun ay=>
 OP (af false 1 h_3 ay) fun az=>
 (True)∧
 cG [aG,az] h_3 fun L1 xs hx=>
 ad7 P K x4 L1 xs hx
theorem aq0:aj P DP (aR [.cell true 2 4] K) (bp [a0,b1]) h=JW P K a0 b1 h:=by kernel_rfl
theorem f120 {K:VK} {a0 b1:Value} {h:ae} (H:JW Tryz.prog K a0 b1 h):ak Tryz.prog 120 [a0,b1] h K:=
 bF auh (Nat.le_of_ble_eq_true rfl) ((aq0 Tryz.prog K a0 b1 h).mpr H)
end
/-! F121: (pommel/num.Int).Quo -/
noncomputable section
variable (a0 b1 a2 b3 x4 x5 x8 y9 cO dT : Value) (h : ae)
def ab9:=bw Tryz.prog 121 [[],[],[],[2,3,4,5,8,9,32],[3,4,5,8,9,32,37],[],[4,5,8,9],[]]
@[irreducible] def At:=bE ab9
@[irreducible] def Vv:=At.r.r.r.l.l.r.l
@[irreducible] def anv:=At.r.r.r.l.r
@[irreducible] def Vu:=At.r.r.r.r
@[irreducible] def anw:=Vv.r.l
@[irreducible] def anu:=Vu.l
theorem aui:ab9=some (47,At,[.cell true 2 4,.cell true 2 5]):=by kernel_rfl
def I0 (_P:Program) (K:VK):ar:=aR [.cell true 2 4,.cell true 2 5] K
def SY:ar:=aD (aj P Vu (I0 P K)) (I0 P K)
def SZ:ar:=aD (aj P anv (SY P K)) (SY P K)
def ad8:Prop:=av (aj P Vv (SZ P K)) [2,3,4,5,8,9,32] [a2,b3,x4,x5,x8,y9,cO] h
def Pt:Prop:=av (aj P anw (SZ P K)) [3,4,5,8,9,32,37] [b3,x4,x5,x8,y9,cO,dT] h
def Ps:Prop:=av (aj P anu (I0 P K)) [4,5,8,9] [x4,x5,x8,y9] h
theorem awi:Pt P K b3 x4 x5 x8 y9 cO dT h=
 (OP (bL cO dT (.bool false)) fun cV=>
 aM cV
 (OP (af true 2 h x8) fun dR=>
 (True)∧
 ak P 105 [(.int .i64 (1))] h fun dJ h_1=>
 (af true 2 h_1 x8=some dR∧True)∧
 ak P 127 [dR,dJ] h_1 fun dC h_2=>
 (True)∧
 OP (af true 2 h_2 y9) fun dn=>
 (af true 2 h y9=some dn∧af true 2 h_1 y9=some dn∧True)∧
 OP (af true 2 h_2 b3) fun bO=>
 (af true 2 h b3=some bO∧af true 2 h_1 b3=some bO∧True)∧
 ak P 113 [dn,bO] h_2 fun ba h_3=>
 (True)∧
 OH (aI 2 h_3 x8 dC) fun _ h_4=>
 (True)∧
 OH (aI 2 h_4 y9 ba) fun _ h_5=>
 (True)∧
 Ps P K x4 x5 x8 y9 h_5)
 (Ps P K x4 x5 x8 y9 h)):=ax (by kernel_rfl)
theorem awh:ad8 P K a2 b3 x4 x5 x8 y9 cO h=
 (bZ cO true
 (OP (aK 0 a2) fun dI=>
 OP (af false 1 h dI) fun bX=>
 OP (aK 0 b3) fun dd=>
 OP (af false 1 h dd) fun cJ=>
 OP (rI true bX cJ) fun dT=>
 Pt P K b3 x4 x5 x8 y9 cO dT h)
 (Pt P K b3 x4 x5 x8 y9 cO undef h)):=ax (by kernel_rfl)
theorem awg:Ps P K x4 x5 x8 y9 h=
 (OP (af true 2 h x8) fun cj=>
 (True)∧
 OP (af true 2 h y9) fun cd=>
 (True)∧
 OH (aI 2 h x4 cj) fun _ h_1=>
 (af true 2 h_1 y9=some cd∧True)∧
 OH (aI 2 h_1 x5 cd) fun _ h_2=>
 (True)∧
 OP (af true 2 h_2 x4) fun r0=>
 OP (af true 2 h_2 x5) fun r1=>
 K (.tuple #[r0,r1]) h_2):=ax (by kernel_rfl)
def JX:Prop:=
 OH (bk 105 h a0) fun a2 h_1=>
 OH (bk 105 h_1 b1) fun b3 h_2=>
 OH (aX 105 [(.bool false),(.slice none 0 0)] h_2) fun x4 h_3=>
 OH (aX 105 [(.bool false),(.slice none 0 0)] h_3) fun x5 h_4=>
 OP (aK 1 a2) fun ay=>
 OP (af false 1 h_4 ay) fun az=>
 OP (aK 1 b3) fun aA=>
 OP (af false 1 h_4 aA) fun aP=>
 ak P 130 [az,aP] h_4 fun bc h_5=>
 OP (cC 0 bc) fun a9=>
 OP (cC 1 bc) fun bQ=>
 OH (aX 105 [(.bool false),(.slice none 0 0)] h_5) fun x8 h_6=>
 OP (dH h_6 x8) fun u=>
 (True)∧
 OH (aX 105 [(.bool false),(.slice none 0 0)] h_6) fun y9 h_7=>
 OP (dH h_7 y9) fun x1=>
 (dH h_7 x8=some u∧True)∧
 OP (aK 0 a2) fun aQ=>
 OP (af false 1 h_7 aQ) fun aN=>
 (af false 1 h_5 aQ=some aN∧af false 1 h_6 aQ=some aN∧True)∧
 OP (aK 0 b3) fun aW=>
 OP (af false 1 h_7 aW) fun bm=>
 (af false 1 h_5 aW=some bm∧af false 1 h_6 aW=some bm∧True)∧
 OP (rI true aN bm) fun bJ=>
 ak P 117 [bJ,a9] h_7 fun bM h_8=>
 (dH h_8 x8=some u∧dH h_8 y9=some x1∧True)∧
 OP (aK 0 a2) fun bt=>
 OP (af false 1 h_8 bt) fun bC=>
 (af false 1 h_5 bt=some bC∧af false 1 h_6 bt=some bC∧af false 1 h_7 bt=some bC∧True)∧
 ak P 117 [bC,bQ] h_8 fun bU h_9=>
 (dH h_9 x8=some u∧dH h_9 y9=some x1∧True)∧
 OH (aI 2 h_9 x8 bM) fun _ h_10=>
 (True)∧
 OH (aI 2 h_10 y9 bU) fun _ h_11=>
 (True)∧
 OP (aY bQ) fun cR=>
 OP (ai .gtr cR (.int .i64 (0))) fun ca=>
 ad8 P K a2 b3 x4 x5 x8 y9 ca h_11
theorem aq1:aj P At (aR [.cell true 2 4,.cell true 2 5] K) (bp [a0,b1]) h=JX P K a0 b1 h:=by kernel_rfl
theorem f121 {K:VK} {a0 b1:Value} {h:ae} (H:JX Tryz.prog K a0 b1 h):ak Tryz.prog 121 [a0,b1] h K:=
 bF aui (Nat.le_of_ble_eq_true rfl) ((aq1 Tryz.prog K a0 b1 h).mpr H)
end
/-! F130: pommel/num.part -/
noncomputable section
variable (a0 b1 x8 v9 pP pK nL wY : Value) (L1 : LQ) (xs : List Value) (h : ae)
def ack:=bw Tryz.prog 130 [[],[],[],[],[],[],[],[],[],[],[],[],[],[8,9,10,11,12],[13],[],[],[],[8,10,11,12],[]]
@[irreducible] def DZ:=bE ack
@[irreducible] def anS:=DZ.r.r.r.r.r.r.r.l.r.l.l
@[irreducible] def VQ:=DZ.r.r.r.r.r.r.r.r
@[irreducible] def anT:=VQ.l
theorem aur:ack=some (85,DZ,[.tmp 4,.tmp 5]):=by kernel_rfl
def I6 (_P:Program) (K:VK):ar:=aR [.tmp 4,.tmp 5] K
def akw:ar:=aD (aj P VQ (I6 P K)) (I6 P K)
def akx:ar:=bz 0 (akw P K)
def aky:ar:=aD (fun f' aS=>(([8,9,10,11,12]:List Nat).map f':List Value)=[x8,v9,pP,pK,nL]∧L1 (([13]:List Nat).map f') aS) (akx P K)
def Pz:Prop:=av (aj P anS (aky P K x8 v9 pP pK nL L1)) ([8,9,10,11,12]++[13]) ([x8,v9,pP,pK,nL]++xs) h
def aet:Prop:=av (aj P anT (I6 P K)) [8,10,11,12] [x8,pP,pK,nL] h
theorem awE (x8 v9 pP pK nL:Value) (L1:LQ) (wY:Value) (h:ae):Pz P K x8 v9 pP pK nL L1 [wY] h=
 (OP (ai .geq wY (.int .i64 (0))) fun lN=>
 aM lN
 (OP (ai .add wY pK) fun gX=>
 OP (ai .add gX (.int .i64 (1))) fun lO=>
 OP (j5 177 1 pP (some wY) (some lO)) fun qY=>
 ak P 137 [qY,v9] h fun iM h_1=>
 OP (aU 1 nL wY) fun gy=>
 OH (aI 1 h_1 gy iM) fun _ h_2=>
 OP (ai .sub wY (.int .i64 (1))) fun gW=>
 ([x8,v9,pP,pK,nL]:List Value)=[x8,v9,pP,pK,nL]∧L1 [gW] h_2)
 (aet P K x8 pP pK nL h)):=ax (by kernel_rfl)
theorem awF:aet P K x8 pP pK nL h=
 (ak P 118 [nL] h fun eB h_1=>
 (True)∧
 OP (j5 177 1 pP none (some pK)) fun hY=>
 ak P 118 [hY] h_1 fun eY h_2=>
 (True)∧
 ak P 138 [eY,x8] h_2 fun gK h_3=>
 (True)∧
 K (.tuple #[eB,gK]) h_3):=ax (by kernel_rfl)
def Dk:Prop:=
 ak P 126 [a0,b1] h fun a9 h_1=>
 OP (ai .lss a9 (.int .i64 (0))) fun bQ=>
 aM bQ
 (OH (dj 177 1 4 h_1 (.slice none 0 0) a0) fun aN h_2=>
 K (.tuple #[(.slice none 0 0),aN]) h_2)
 (OP (aY b1) fun bm=>
 OP (ai .eql bm (.int .i64 (1))) fun bJ=>
 aM bJ
 (OP (aU 1 b1 (.int .i64 (0))) fun bC=>
 OP (af false 1 h_1 bC) fun bD=>
 ak P 114 [a0,bD] h_1 fun bU h_2=>
 OP (cC 0 bU) fun cA=>
 OP (cC 1 bU) fun cR=>
 OH (dh 177 1 [(.int .u32 (0))] h_2 [(0,1,cR)]) fun dI h_3=>
 ak P 118 [dI] h_3 fun bX h_4=>
 K (.tuple #[cA,bX]) h_4)
 (OP (aY b1) fun dT=>
 OP (ai .sub dT (.int .i64 (1))) fun cV=>
 OP (aU 1 b1 cV) fun dR=>
 OP (af false 1 h_1 dR) fun dJ=>
 ak P 135 [dJ] h_1 fun dC h_2=>
 ak P 136 [b1,dC] h_2 fun ba h_3=>
 ak P 118 [ba] h_3 fun cj h_4=>
 ak P 136 [a0,dC] h_4 fun eX h_5=>
 OP (aY cj) fun dD=>
 OP (aY a0) fun dS=>
 OP (ai .sub dS dD) fun cS=>
 OP (ai .add cS (.int .i64 (1))) fun gv=>
 OH (kR 177 4 [(.int .u32 (0))] h_5 gv gv) fun gh h_6=>
 OP (aY a0) fun gV=>
 OP (ai .sub gV dD) fun gJ=>
 cG [gJ] h_6 fun L1 xs hx=>
 Pz P K dC cj eX dD gh L1 xs hx))
theorem ara:aj P DZ (aR [.tmp 4,.tmp 5] K) (bp [a0,b1]) h=Dk P K a0 b1 h:=by kernel_rfl
theorem f130 {K:VK} {a0 b1:Value} {h:ae} (H:Dk Tryz.prog K a0 b1 h):ak Tryz.prog 130 [a0,b1] h K:=
 bF aur (Nat.le_of_ble_eq_true rfl) ((ara Tryz.prog K a0 b1 h).mpr H)
end
end Go.Proofs.YtelmdbpaoifmoaaGreat

namespace Go.Proofs.YtelmdbpaoifmoaaGreat
open Go.Sim

def bu:Nat:=4294967296^100

theorem abh {n:Nat} (h:n<4294967296^20):n<bu:=Nat.lt_of_lt_of_le h (Nat.pow_le_pow_right (by decide) (by decide))

theorem nU {xs:List Nat} (h:Canon 4294967296 xs) (hv:val 4294967296 xs<bu):xs.length≤100:=h.len (by decide) hv

def DS (e:TypeId) (k:IntKind) (h:ae) (v:Value) (xs:List Nat):Prop:=
 (v=.slice none 0 0∧xs=[])∨∃i,v=sl e i 0 xs.length∧(xs=[]∨∃rest,aO h i=some (xs.map (fun d:Nat=>Value.int k (d:Int))++rest))

theorem DS.mono {e:TypeId} {k:IntKind} {h h':ae} {v:Value} {xs:List Nat} (x:EX h h') (p:DS e k h v xs):DS e k h' v xs:=
 p.imp id fun ⟨i,a,b⟩=>⟨i,a,b.imp id fun ⟨r,c⟩=>⟨r,x.cells c⟩⟩

theorem DS.len {e:TypeId} {k:IntKind} {h:ae} {v:Value} {xs:List Nat} (p:DS e k h v xs):aY v=some (I xs.length):=by
 rcases p with ⟨rfl,rfl⟩ | ⟨i,rfl,_⟩ <;> rfl

theorem DS.get {e:TypeId} {k:IntKind} {h:ae} {v:Value} {xs:List Nat} (p:DS e k h v xs) {j:Nat} (hj:j<xs.length):∃i,aU 1 v (I j)=some (pt i j)∧af false 1 h (pt i j)=some (.int k (xs[j]:Int)):=by
 rcases p with ⟨_,rfl⟩ | ⟨i,rfl,hc⟩
 ·simp at hj
 ·obtain ⟨r,hc⟩:=hc.resolve_left (by rintro rfl;simp at hj)
  refine ⟨i,kZ hj,?_⟩
  have:(xs.map (fun d:Nat=>Value.int k (d:Int))++r)[j]?=some (.int k (xs[j]:Int)):=by rw [List.getElem?_append_left (by simpa using hj)];simp [hj]
  simp [af,hc,ck,this]

theorem DS.nil (e:TypeId) (k:IntKind) (h:ae):DS e k h (.slice none 0 0) []:=.inl ⟨rfl,rfl⟩

theorem DS.one {e:TypeId} {k:IntKind} {h:ae} {v:Value} {xs:List Nat} (p:DS e k h v xs):gS v=true∧cZ v=[v]:=by
 rcases p with ⟨rfl,_⟩ | ⟨i,rfl,_⟩ <;> exact ⟨rfl,rfl⟩

theorem DS.pop {e:TypeId} {k:IntKind} {h:ae} {v:Value} {xs:List Nat} (p:DS e k h v xs) {n:Nat} (hn:n≤xs.length):∃v',j5 e 1 v none (some (I n))=some v'∧DS e k h v' (xs.take n):=by
 rcases p with ⟨rfl,rfl⟩ | ⟨i,rfl,hc⟩
 ·simp at hn;subst hn
  exact ⟨_,rfl,.inl ⟨rfl,rfl⟩⟩
 ·refine ⟨sl e i 0 n,?_,.inr ⟨i,by rw [List.length_take,Nat.min_eq_left hn],?_⟩⟩
  ·simp [j5,sl,pG,qL,hn]
  ·rcases hc with rfl | ⟨r,hc⟩
   ·left;simp
   ·right
    refine ⟨(xs.drop n).map (fun d:Nat=>Value.int k (d:Int))++r,?_⟩
    rw [hc,←List.append_assoc,←List.map_append,List.take_append_drop]

def cX (h:ae) (v:Value) (n:Nat):Prop:=∃xs,DS 177 .u32 h v xs∧Canon 4294967296 xs∧val 4294967296 xs=n

theorem cX.mono {h h':ae} {v:Value} {n:Nat} (x:EX h h') (p:cX h v n):cX h' v n:=let ⟨xs,a,b,c⟩:=p;⟨xs,a.mono x,b,c⟩

theorem pV {h:ae} {K:Value→ae→Prop} {v:Value} {xs:List Nat} (p:DS 177 .u32 h v xs) (hl:b9 4294967296 xs) (hs:xs.length≤1000) (hk:∀v',cX h v' (val 4294967296 xs)→K v' h):ak Tryz.prog 118 [v] h K:=by
 refine f118 ?_
 refine dc (σ:=Value×List Nat) (fun p=>[p.1]) (fun _=>h) (fun q=>DS 177 .u32 h q.1 q.2∧b9 4294967296 q.2∧val 4294967296 q.2=val 4294967296 xs∧q.2.length≤1000) (fun q=>q.2.length) (v,xs) rfl rfl ⟨p,hl,rfl,hs⟩ ?_
 rintro ⟨v,ys⟩ ⟨p,hl,hv,hs⟩ L hL
 simp only at p hl hv hs hL⊢
 rw [av6]
 have done:Canon 4294967296 ys→Pr Tryz.prog K v h:=by
  intro hc
  rw [av5]
  exact hk v ⟨ys,p,hc,hv⟩
 simp only [p.len,ah,fe]
 by_cases h0:ys.length=0
 ·have:ys=[]:=List.length_eq_zero_iff.1 h0
  rw [decide_eq_false (show ¬(0:Int)<(ys.length:Int) by omega)]
  simp only [agz,iz,agy,cY,ah,dp]
  exact done (by rw [this];exact Canon.nil 4294967296)
 ·rw [decide_eq_true (show (0:Int)<(ys.length:Int) by omega)]
  have e1:IntKind.wrap .i64 ((ys.length:Int)-1)=((ys.length-1:Nat):Int):=by rw [wrap64 (by omega) (by omega)];omega
  obtain ⟨i,g1,g2⟩:=p.get (j:=ys.length-1) (by omega)
  simp only [agz,fy,p.len,ah,fz,e1,g1,g2,fX,agy,dA,bK]
  refine ⟨fun hz=>?_,fun hz=>?_⟩
  ·obtain ⟨v',h1,h2⟩:=p.pop (n:=ys.length-1) (by omega)
   simp only [h1,ah,true_and]
   have ati:ys=ys.take (ys.length-1)++[0]:=by
    have:=List.take_succ_eq_append_getElem (l:=ys) (i:=ys.length-1) (by omega)
    rw [show ys.length-1+1=ys.length by omega,List.take_length] at this
    have pF:ys[ys.length-1]=0:=by omega
    rw [pF] at this
    exact this
   refine hL (v',ys.take (ys.length-1)) ⟨h2,hl.mono fun y hy=>List.mem_of_mem_take hy,?_,by rw [List.length_take];omega⟩ (by simp;omega)
   rw [←hv]
   conv=>rhs;rw [ati]
   rw [lM]
   simp [val]
  ·exact done (EI hl fun h1 hc=>hz (by rw [hc];rfl))

/-- Fresh digits at the end of the heap. -/
abbrev hd (h:ae) (os:List Nat):ae:=h++[.arr 177 (os.map fun d:Nat=>Value.int .u32 (d:Int))]

theorem xd {h:ae} {n:Nat} (hn:n≤1000):kR 177 4 [.int .u32 0] h (I n) (I n)=some (sl 177 h.length 0 n,hd h (List.replicate n 0)):=by
 have hz:∀m,gL [Value.int .u32 0] m=(List.replicate m 0).map fun d:Nat=>Value.int .u32 (d:Int):=by
  intro m
  induction m with
  | zero=>rfl
  | succ m ih=>
   have:gL [Value.int .u32 0] (m+1)=Value.int .u32 0::gL [Value.int .u32 0] m:=by simp [gL,List.replicate_succ]
   rw [this,ih,List.replicate_succ];rfl
 simp only [kR]
 rw [if_pos ⟨by omega,by omega,by omega,by omega⟩,Int.toNat_natCast,hz]

theorem M9 (h:ae) (os:List Nat):(hd h os)[h.length]?=some (.arr 177 (os.map fun d:Nat=>Value.int .u32 (d:Int))):=by simp [hd]

theorem sI {h:ae} {os:List Nat} {j:Nat} (d:Nat) (hj:j<os.length):aI 1 (hd h os) (pt h.length j) (.int .u32 (d:Int))=some (undef,hd h (os.set j d)):=by
 rw [oL (M9 h os) (by simpa using hj) rfl rfl]
 simp [hd,List.map_set]

theorem Zz {h:ae} {os:List Nat} {j:Nat} (hj:j<os.length):af false 1 (hd h os) (pt h.length j)=some (.int .u32 (os[j]:Int)):=by
 simp [af,aO,ck,hj]

theorem wa (h:ae) (os:List Nat):DS 177 .u32 (hd h os) (sl 177 h.length 0 os.length) os:=.inr ⟨h.length,rfl,.inr ⟨[],by simp [aO,hd]⟩⟩

theorem jt (h:ae) (os:List Nat):EX h (hd h os):=EX.append _ _

theorem jA {n:Int} (h1:0≤n) (h2:n<18446744073709551616):IntKind.wrap .u64 n=n:=by
 have e:IntKind.wrap .u64 n=n%18446744073709551616:=by simp [IntKind.wrap,IntKind.bits,IntKind.signed]
 rw [e];omega
theorem uS (n:Int):IntKind.wrap .u32 n=n%4294967296:=by simp [IntKind.wrap,IntKind.bits,IntKind.signed]
theorem mA {n:Int} (h1:0≤n) (h2:n<4294967296):IntKind.wrap .u32 n=n:=by rw [uS];omega

theorem xv (s:Nat):ai .shr (.int .u64 (s:Int)) (.int .u64 32)=some (.int .u64 ((s / 4294967296:Nat):Int)):=by
 simp only [ai,oD]
 rw [if_neg (by omega)]
 have:(min (32:Int).toNat IntKind.u64.bits)=32:=rfl
 rw [this]
 have e2:(2:Int)^32=4294967296:=by decide
 rw [e2,Int.fdiv_eq_ediv_of_nonneg _ (by omega)]
 congr 2

theorem Sc {x y c:Nat} {h:ae} {K:Value→ae→Prop} (hx:x<4294967296) (hy:y<4294967296) (hc:c≤1) (hk:K (.tuple #[.int .u32 (((x+y+c)%4294967296:Nat):Int),.int .u32 (((x+y+c) / 4294967296:Nat):Int)]) h):
  ak Tryz.prog 133 [.int .u32 (x:Int),.int .u32 (y:Int),.int .u32 (c:Int)] h K:=by
 refine f133 ?_
 have e1:IntKind.wrap .u64 ((x:Int)+(y:Int))=((x+y:Nat):Int):=by rw [jA (by omega) (by omega)];omega
 have e2:IntKind.wrap .u64 (((x+y:Nat):Int)+(c:Int))=((x+y+c:Nat):Int):=by rw [jA (by omega) (by omega)];omega
 have e3:IntKind.wrap .u32 ((x+y+c:Nat):Int)=(((x+y+c)%4294967296:Nat):Int):=by rw [uS];omega
 simp only [J9,jU,ah,cD]
 rw [jA (n:=(x:Int)) (by omega) (by omega),jA (n:=(y:Int)) (by omega) (by omega),e1,jA (n:=(c:Int)) (by omega) (by omega),e2]
 simp only [xv,ah,jU,e3]
 rw [mA (by omega) (by omega)]
 exact hk

theorem R9 {va vb:Value} {xs ys:List Nat} {h:ae} {K:Value→ae→Prop} (hx:DS 177 .u32 h va xs) (hy:DS 177 .u32 h vb ys) (lx:b9 4294967296 xs) (ly:b9 4294967296 ys) (hle:ys.length≤xs.length) (hlen:xs.length≤200)
  (hk:∀v h',EX h h'→cX h' v (val 4294967296 xs+val 4294967296 ys)→K v h'):GL Tryz.prog K va vb h:=by
 rw [awz]
 simp only [hx.len,ah,cD,inc xs.length (by omega),xd (show xs.length+1≤1000 by omega),aE]
 have hW:0<4294967296:=by decide
 refine dc (σ:=Nat×Nat×List Nat) (fun p=>[.int .u32 (p.1:Int),I p.2.1]) (fun p=>hd h p.2.2)
  (fun p=>p.2.1≤xs.length∧p.1≤1∧p.2.2.length=xs.length+1∧b9 4294967296 p.2.2∧(∀j (hj:j<p.2.2.length),p.2.1≤j→p.2.2[j]=0)∧val 4294967296 p.2.2+4294967296^p.2.1*p.1=val 4294967296 (xs.take p.2.1)+val 4294967296 (ys.take p.2.1)) (fun p=>xs.length-p.2.1)
  (0,0,List.replicate (xs.length+1) 0) rfl rfl ⟨by simp,by simp,by simp,b9.tH hW _,by simp,by simp [uQ,val]⟩ ?_
 rintro ⟨c,i,os⟩ ⟨hi,hc,fP,eI,hz,bS⟩ L hL
 simp only at hi hc fP eI hz bS hL⊢
 rw [awv]
 have bG:=hx.mono (jt h os)
 have oA:=hy.mono (jt h os)
 simp only [cI,ah,bK]
 refine ⟨fun aC=>?_,fun cH=>?_⟩
 ·have bf:i<xs.length:=by omega
  obtain ⟨ia,a1,a2⟩:=bG.get bf
  have fY:xs[i]<4294967296:=lx _ (List.getElem_mem bf)
  have go:∀y:Nat,y<4294967296→val 4294967296 (ys.take (i+1))=val 4294967296 (ys.take i)+4294967296^i*y→GK Tryz.prog K va vb (sl 177 h.length 0 (xs.length+1)) (.int .u32 (c:Int)) (I i) (.int .u32 (y:Int)) (I xs.length) (I i) L (hd h os):=by
   intro y je wM
   rw [aww]
   simp only [a1,ah,a2]
   refine Sc fY je hc ?_
   simp only [eJ,fq,fC,ah,kZ (show i<xs.length+1 by omega)]
   rw [sI _ (by omega)]
   simp only [aE,awx,cD,ah,inc i (by omega),true_and]
   have mQ:(xs[i]+y+c)%4294967296<4294967296:=Nat.mod_lt _ hW
   have hdiv:(xs[i]+y+c) / 4294967296≤1:=by omega
   refine hL ((xs[i]+y+c) / 4294967296,i+1,os.set i ((xs[i]+y+c)%4294967296)) ⟨by show i+1≤xs.length;omega,hdiv,by show (os.set i _).length=_;rw [List.length_set];exact fP,eI.set mQ i,?_,?_⟩ (by show xs.length-(i+1)<xs.length-i;omega)
   ·intro j hj dG
    show (os.set i _)[j]=0
    have Nl:i≠j:=by have:i+1≤j:=dG;omega
    rw [List.getElem_set_ne Nl]
    exact hz j (by simpa using hj) (by have:i+1≤j:=dG;omega)
   ·show val 4294967296 (os.set i _)+4294967296^(i+1)*_=val 4294967296 (xs.take (i+1))+val 4294967296 (ys.take (i+1))
    have h1:=qW 4294967296 os i ((xs[i]+y+c)%4294967296) (by omega)
    rw [hz i (by omega) (Nat.le_refl _)] at h1
    rw [gT 4294967296 xs bf,wM,Nat.pow_succ]
    have h2:=Nat.mod_add_div (xs[i]+y+c) 4294967296
    generalize (xs[i]+y+c)%4294967296=m at*
    generalize (xs[i]+y+c) / 4294967296=q at*
    generalize 4294967296^i=P at*
    generalize hWW:4294967296=w at*
    grind
  simp only [oA.len,ah,cI,bK]
  refine ⟨fun ZS=>?_,fun ZI=>?_⟩
  ·have wm:i<ys.length:=by omega
   obtain ⟨ib,b1,b2⟩:=oA.get wm
   simp only [b1,ah,b2]
   exact go _ (ly _ (List.getElem_mem wm)) (gT 4294967296 ys wm)
  ·have:=go 0 (by decide) (by rw [List.take_of_length_le (by omega),List.take_of_length_le (by omega)];simp)
   simpa using this
 ·have:i=xs.length:=by omega
  subst this
  rw [awy]
  simp only [bG.len,ah,kZ (show xs.length<xs.length+1 by omega)]
  rw [sI _ (by omega)]
  simp only [aE]
  have h1:=qW 4294967296 os xs.length c (by omega)
  rw [hz xs.length (by omega) (Nat.le_refl _)] at h1
  have hv:val 4294967296 (os.set xs.length c)=val 4294967296 xs+val 4294967296 ys:=by
   rw [List.take_length,List.take_of_length_le hle] at bS
   omega
  have hcW:c<4294967296:=Nat.lt_of_le_of_lt hc (by decide)
  have e:sl 177 h.length 0 (xs.length+1)=sl 177 h.length 0 (os.set xs.length c).length:=by rw [List.length_set,fP]
  rw [e]
  refine pV (wa h _) (eI.set hcW _) (by rw [List.length_set];omega) ?_
  intro v' hm
  rw [hv] at hm
  exact hk v' _ (jt h _) hm

theorem R8 {va vb:Value} {a b:Nat} {h:ae} {K:Value→ae→Prop} (ha:cX h va a) (hb:cX h vb b) (la:a<bu) (lb:b<bu) (hk:∀v h',EX h h'→cX h' v (a+b)→K v h'):ak Tryz.prog 128 [va,vb] h K:=by
 obtain ⟨xs,dx,cx,rfl⟩:=ha
 obtain ⟨ys,dy,cy,rfl⟩:=hb
 have l1:=nU cx la
 have l2:=nU cy lb
 refine f128 ?_
 simp only [J4,dx.len,dy.len,ah,cI,bK]
 refine ⟨fun aC=>?_,fun cH=>?_⟩
 ·refine R9 dy dx cy.1 cx.1 (by omega) (by omega) ?_
  rw [Nat.add_comm (val 4294967296 ys)]
  exact hk
 ·exact R9 dx dy cx.1 cy.1 (by omega) (by omega) hk

end Go.Proofs.YtelmdbpaoifmoaaGreat


namespace Go.Proofs.YtelmdbpaoifmoaaGreat
open Go.Sim

theorem vE (X:BitVec 32):BitVec.ofInt IntKind.u32.bits (X.toNat:Int)=X:=by
 show BitVec.ofInt 32 (X.toNat:Int)=X
 rw [BitVec.ofInt_natCast,BitVec.ofNat_toNat,BitVec.setWidth_eq]

theorem Aq (X:BitVec 32):X.toNat<4294967296:=X.isLt

theorem amu (X Y:BitVec 32):ai .and (.int .u32 (X.toNat:Int)) (.int .u32 (Y.toNat:Int))=some (.int .u32 ((X &&& Y).toNat:Int)):=by
 have h:=Aq (X &&& Y)
 have e:(BitVec.ofInt IntKind.u32.bits (X.toNat:Int) &&& BitVec.ofInt IntKind.u32.bits (Y.toNat:Int)).toNat=(X &&& Y).toNat:=by rw [vE,vE];rfl
 simp only [ai,gn,if_true]
 rw [e,mA (by omega) (by omega)]

theorem avo (X Y:BitVec 32):ai .or (.int .u32 (X.toNat:Int)) (.int .u32 (Y.toNat:Int))=some (.int .u32 ((X ||| Y).toNat:Int)):=by
 have h:=Aq (X ||| Y)
 have e:(BitVec.ofInt IntKind.u32.bits (X.toNat:Int) ||| BitVec.ofInt IntKind.u32.bits (Y.toNat:Int)).toNat=(X ||| Y).toNat:=by rw [vE,vE];rfl
 simp only [ai,gn,if_true]
 rw [e,mA (by omega) (by omega)]

theorem aA5 (X Y:BitVec 32):ai .xor (.int .u32 (X.toNat:Int)) (.int .u32 (Y.toNat:Int))=some (.int .u32 ((X^^^Y).toNat:Int)):=by
 have h:=Aq (X^^^Y)
 have e:(BitVec.ofInt IntKind.u32.bits (X.toNat:Int)^^^BitVec.ofInt IntKind.u32.bits (Y.toNat:Int)).toNat=(X^^^Y).toNat:=by rw [vE,vE];rfl
 simp only [ai,gn,if_true]
 rw [e,mA (by omega) (by omega)]

theorem avb (X:BitVec 32):fA .xor (.int .u32 (X.toNat:Int))=some (.int .u32 ((~~~X).toNat:Int)):=by
 have h:=Aq (~~~X)
 have e:(BitVec.ofInt IntKind.u32.bits (if IntKind.u32.signed=true then -1 else IntKind.u32.max)^^^BitVec.ofInt IntKind.u32.bits (X.toNat:Int)).toNat=(~~~X).toNat:=by
  rw [vE]
  show (BitVec.ofInt 32 4294967295^^^X).toNat=_
  rw [show BitVec.ofInt 32 4294967295=BitVec.allOnes 32 from by decide,BitVec.allOnes_xor]
 simp only [fA]
 rw [e,mA (by omega) (by omega)]

theorem aAm (Z:BitVec 32):ai .shr (.int .u32 (Z.toNat:Int)) (.int .u64 31)=some (.int .u32 ((if Z.msb then 1 else 0:Nat):Int)):=by
 have h:=Aq Z
 simp only [ai,oD]
 rw [if_neg (by omega)]
 have:(min (31:Int).toNat IntKind.u32.bits)=31:=rfl
 rw [this]
 have e2:(2:Int)^31=2147483648:=by decide
 rw [e2,Int.fdiv_eq_ediv_of_nonneg _ (by omega),BitVec.msb_eq_decide]
 congr 2
 by_cases hz:2^31≤Z.toNat
 ·simp [hz];omega
 ·simp [hz];omega

theorem Sd {x y b:Nat} {h:ae} {K:Value→ae→Prop} (hx:x<4294967296) (hy:y<4294967296) (hb:b≤1) (hk:K (.tuple #[.int .u32 (((x+4294967296+4294967296-y-b)%4294967296:Nat):Int),.int .u32 ((if x<y+b then 1 else 0:Nat):Int)]) h):
  ak Tryz.prog 134 [.int .u32 (x:Int),.int .u32 (y:Int),.int .u32 (b:Int)] h K:=by
 refine f134 ?_
 obtain ⟨X,rfl⟩:∃X:BitVec 32,x=X.toNat:=⟨BitVec.ofNat 32 x,by rw [BitVec.toNat_ofNat];exact (Nat.mod_eq_of_lt hx).symm⟩
 obtain ⟨Y,rfl⟩:∃Y:BitVec 32,y=Y.toNat:=⟨BitVec.ofNat 32 y,by rw [BitVec.toNat_ofNat];exact (Nat.mod_eq_of_lt hy).symm⟩
 obtain ⟨D,hD⟩:∃D:BitVec 32,D.toNat=(X.toNat+4294967296+4294967296-Y.toNat-b)%4294967296:=⟨BitVec.ofNat 32 _,by rw [BitVec.toNat_ofNat]⟩
 have e1:IntKind.wrap .u32 (IntKind.wrap .u32 ((X.toNat:Int)-(Y.toNat:Int))-(b:Int))=(D.toNat:Int):=by
  rw [uS,uS,hD];omega
 simp only [Ka,fz,ah,e1,avb,amu,aA5,avo,aAm]
 rw [←hD] at hk
 have e2:(if (~~~X &&& Y ||| ~~~(X^^^Y) &&& D).msb then 1 else 0:Nat)=if X.toNat<Y.toNat+b then 1 else 0:=by
  rw [BitVec.msb_or,BitVec.msb_and,BitVec.msb_and,BitVec.msb_not,BitVec.msb_not,BitVec.msb_xor,BitVec.msb_eq_decide X,BitVec.msb_eq_decide Y,BitVec.msb_eq_decide D]
  by_cases c1:2^(32-1)≤X.toNat <;> by_cases c2:2^(32-1)≤Y.toNat <;> by_cases c3:2^(32-1)≤D.toNat <;> simp [c1,c2,c3] <;> omega
 rw [e2]
 exact hk

theorem Sa {va vb:Value} {a b:Nat} {h:ae} {K:Value→ae→Prop} (ha:cX h va a) (hb:cX h vb b) (la:a<bu) (gB:b≤a) (hk:∀v h',EX h h'→cX h' v (a-b)→K v h'):ak Tryz.prog 129 [va,vb] h K:=by
 obtain ⟨xs,hx,cx,rfl⟩:=ha
 obtain ⟨ys,hy,cy,rfl⟩:=hb
 have l1:=nU cx la
 have l2:=nU cy (Nat.lt_of_le_of_lt gB la)
 have hle:ys.length≤xs.length:=by
  apply Classical.byContradiction
  intro hc
  have:=Canon.xc (by decide) cx cy (by omega)
  omega
 refine f129 ?_
 simp only [J5,hx.len,ah,xd (show xs.length≤1000 by omega),aE]
 have hW:(0:Nat)<4294967296:=by decide
 refine dc (σ:=Nat×Nat×List Nat) (fun p=>[.int .u32 (p.1:Int),I p.2.1]) (fun p=>hd h p.2.2)
  (fun p=>p.2.1≤xs.length∧p.1≤1∧p.2.2.length=xs.length∧b9 4294967296 p.2.2∧(∀j (hj:j<p.2.2.length),p.2.1≤j→p.2.2[j]=0)∧val 4294967296 p.2.2+val 4294967296 (ys.take p.2.1)=val 4294967296 (xs.take p.2.1)+4294967296^p.2.1*p.1) (fun p=>xs.length-p.2.1)
  (0,0,List.replicate xs.length 0) rfl rfl ⟨by simp,by simp,by simp,b9.tH hW _,by simp,by simp [uQ,val]⟩ ?_
 rintro ⟨c,i,os⟩ ⟨hi,hc,fP,eI,hz,bS⟩ L hL
 simp only at hi hc fP eI hz bS hL⊢
 rw [awD]
 have bG:=hx.mono (jt h os)
 have oA:=hy.mono (jt h os)
 simp only [cI,ah,bK]
 refine ⟨fun aC=>?_,fun cH=>?_⟩
 ·have bf:i<xs.length:=by omega
  obtain ⟨ia,a1,a2⟩:=bG.get bf
  have fY:xs[i]<4294967296:=cx.1 _ (List.getElem_mem bf)
  have go:∀y:Nat,y<4294967296→val 4294967296 (ys.take (i+1))=val 4294967296 (ys.take i)+4294967296^i*y→GM Tryz.prog K va vb (sl 177 h.length 0 xs.length) (.int .u32 (c:Int)) (I i) (.int .u32 (y:Int)) (I xs.length) (I i) L (hd h os):=by
   intro y je wM
   rw [awA]
   simp only [a1,ah,a2]
   refine Sd fY je hc ?_
   simp only [eJ,fq,fC,ah,kZ bf]
   rw [sI _ (by omega)]
   simp only [aE,awB,cD,ah,inc i (by omega),true_and]
   have mQ:(xs[i]+4294967296+4294967296-y-c)%4294967296<4294967296:=Nat.mod_lt _ hW
   have jW:(if xs[i]<y+c then 1 else 0)≤1:=by split <;> omega
   have hs:(xs[i]+4294967296+4294967296-y-c)%4294967296+y+c=xs[i]+4294967296*(if xs[i]<y+c then 1 else 0):=by
    split <;> omega
   refine hL ((if xs[i]<y+c then 1 else 0),i+1,os.set i ((xs[i]+4294967296+4294967296-y-c)%4294967296)) ⟨by show i+1≤xs.length;omega,jW,by show (os.set i _).length=_;rw [List.length_set];exact fP,eI.set mQ i,?_,?_⟩ (by show xs.length-(i+1)<xs.length-i;omega)
   ·intro j hj dG
    show (os.set i _)[j]=0
    have Nl:i≠j:=by have:i+1≤j:=dG;omega
    rw [List.getElem_set_ne Nl]
    exact hz j (by simpa using hj) (by have:i+1≤j:=dG;omega)
   ·show val 4294967296 (os.set i _)+val 4294967296 (ys.take (i+1))=val 4294967296 (xs.take (i+1))+4294967296^(i+1)*_
    have h1:=qW 4294967296 os i ((xs[i]+4294967296+4294967296-y-c)%4294967296) (by omega)
    rw [hz i (by omega) (Nat.le_refl _)] at h1
    rw [gT 4294967296 xs bf,wM,Nat.pow_succ]
    generalize (xs[i]+4294967296+4294967296-y-c)%4294967296=m at*
    generalize (if xs[i]<y+c then 1 else 0)=q at*
    generalize 4294967296^i=P at*
    generalize (4294967296:Nat)=w at*
    grind
  simp only [oA.len,ah,cI,bK]
  refine ⟨fun ZS=>?_,fun ZI=>?_⟩
  ·have wm:i<ys.length:=by omega
   obtain ⟨ib,b1,b2⟩:=oA.get wm
   simp only [b1,ah,b2]
   exact go _ (cy.1 _ (List.getElem_mem wm)) (gT 4294967296 ys wm)
  ·have:=go 0 (by decide) (by rw [List.take_of_length_le (by omega),List.take_of_length_le (by omega)];simp)
   simpa using this
 ·have:i=xs.length:=by omega
  subst this
  rw [awC]
  rw [List.take_length,List.take_of_length_le hle] at bS
  have aC:=kT eI
  rw [fP] at aC
  have pf:c=0:=by
   apply Classical.byContradiction
   intro br
   have:c=1:=by omega
   subst this
   omega
  subst pf
  have hv:val 4294967296 os=val 4294967296 xs-val 4294967296 ys:=by omega
  have e:sl 177 h.length 0 xs.length=sl 177 h.length 0 os.length:=by rw [fP]
  rw [e]
  refine pV (wa h _) eI (by omega) ?_
  intro v' hm
  rw [hv] at hm
  exact hk v' _ (jt h _) hm

def kS (a b:Nat):Int:=if a<b then -1 else if b<a then 1 else 0

theorem Ib {B:Nat} {xs ys:List Nat} (lx:b9 B xs) (_:b9 B ys) (hl:xs.length=ys.length) {i:Nat} (hi:i<xs.length) (hd:xs.drop (i+1)=ys.drop (i+1)) (h:xs[i]<ys[i]'(by omega)):val B xs<val B ys:=by
 have e1:xs=xs.take i++xs[i]::xs.drop (i+1):=by rw [←List.drop_eq_getElem_cons hi,List.take_append_drop]
 have e2:ys=ys.take i++ys[i]'(by omega)::ys.drop (i+1):=by rw [←List.drop_eq_getElem_cons (by omega),List.take_append_drop]
 have v1:val B xs=val B (xs.take i)+B^i*(xs[i]+B*val B (xs.drop (i+1))):=by
  conv=>lhs;rw [e1]
  rw [lM,List.length_take,Nat.min_eq_left (by omega)];rfl
 have v2:val B ys=val B (ys.take i)+B^i*(ys[i]'(by omega)+B*val B (ys.drop (i+1))):=by
  conv=>lhs;rw [e2]
  rw [lM,List.length_take,Nat.min_eq_left (by omega)];rfl
 rw [v1,v2,hd]
 have h1:=kT (lx.mono (ys:=xs.take i) fun y hy=>List.mem_of_mem_take hy)
 rw [List.length_take,Nat.min_eq_left (by omega)] at h1
 have h2:B^i*(xs[i]+1+B*val B (ys.drop (i+1)))≤B^i*(ys[i]'(by omega)+B*val B (ys.drop (i+1))):=Nat.mul_le_mul_left _ (by omega)
 generalize B^i=P at*
 generalize B*val B (ys.drop (i+1))=Q at*
 generalize val B (xs.take i)=u at*
 generalize val B (ys.take i)=v at*
 have h3:P*(xs[i]+1+Q)=P*(xs[i]+Q)+P:=by grind
 omega

theorem CI {va vb:Value} {a b:Nat} {h:ae} {K:Value→ae→Prop} (ha:cX h va a) (hb:cX h vb b) (la:a<bu) (lb:b<bu) (hk:K (I (kS a b)) h):ak Tryz.prog 126 [va,vb] h K:=by
 obtain ⟨xs,hx,cx,rfl⟩:=ha
 obtain ⟨ys,hy,cy,rfl⟩:=hb
 have l1:=nU cx la
 have l2:=nU cy lb
 have less:val 4294967296 xs<val 4294967296 ys→K (.int .i64 (-1)) h:=fun h1=>by unfold kS at hk;rw [if_pos h1] at hk;exact hk
 have more:val 4294967296 ys<val 4294967296 xs→K (.int .i64 1) h:=fun h1=>by unfold kS at hk;rw [if_neg (by omega),if_pos h1] at hk;exact hk
 have same:val 4294967296 xs=val 4294967296 ys→K (.int .i64 0) h:=fun h1=>by unfold kS at hk;rw [if_neg (by omega),if_neg (by omega)] at hk;exact hk
 refine f126 ?_
 simp only [J2,hx.len,hy.len,ah,ng,CQ,cI,bK]
 refine ⟨fun br=>⟨fun aC=>less (Canon.xc (by decide) cx cy (by omega)),fun cH=>more (Canon.xc (by decide) cy cx (by omega))⟩,fun he=>?_⟩
 have fk:xs.length=ys.length:=by omega
 simp only [fz,ah]
 have e1:IntKind.wrap .i64 ((xs.length:Int)-1)=(xs.length:Int)-1:=by rw [wrap64 (by omega) (by omega)]
 rw [e1]
 refine dc (σ:=Nat) (fun i=>[I ((i:Int)-1)]) (fun _=>h) (fun i=>i≤xs.length∧xs.drop i=ys.drop i) (fun i=>i) xs.length rfl rfl ⟨Nat.le_refl _,by rw [List.drop_length,fk,List.drop_length]⟩ ?_
 rintro i ⟨hi,qq⟩ L hL
 rw [awu]
 simp only [kl,ah,bK]
 refine ⟨fun cH=>?_,fun aC=>?_⟩
 ·obtain ⟨j,rfl⟩:∃j,i=j+1:=⟨i-1,by omega⟩
  have ej:(((j+1:Nat):Int)-1)=(j:Int):=by omega
  rw [ej]
  obtain ⟨ia,a1,a2⟩:=hx.get (j:=j) (by omega)
  obtain ⟨ib,b1,b2⟩:=hy.get (j:=j) (by omega)
  simp only [a1,a2,b1,b2,ah,true_and,ng,CQ,cI,bK]
  refine ⟨fun br=>⟨fun aC=>less (Ib cx.1 cy.1 fk (i:=j) (by omega) qq (by omega)),fun cH=>more (Ib cy.1 cx.1 fk.symm (i:=j) (by omega) qq.symm (by omega))⟩,fun heq=>?_⟩
  simp only [fz,ah]
  rw [wrap64 (by omega) (by omega)]
  refine hL j ⟨by omega,?_⟩ (by omega)
  rw [List.drop_eq_getElem_cons (by omega),List.drop_eq_getElem_cons (show j<ys.length by omega),qq]
  congr 1
  omega
 ·have:i=0:=by omega
  subst this
  rw [List.drop_zero,List.drop_zero] at qq
  exact same (by rw [qq])

end Go.Proofs.YtelmdbpaoifmoaaGreat


namespace Go.Proofs.YtelmdbpaoifmoaaGreat
open Go.Sim

theorem Gp {x y:Nat} (hx:x<4294967296) (hy:y<4294967296):x*y≤18446744065119617025:=by
 have:=Nat.mul_le_mul (show x≤4294967295 by omega) (show y≤4294967295 by omega)
 omega

theorem R6 {va vb:Value} {a b:Nat} {h:ae} {K:Value→ae→Prop} (ha:cX h va a) (hb:cX h vb b) (la:a<bu) (lb:b<bu) (hk:∀v h',EX h h'→cX h' v (a*b)→K v h'):ak Tryz.prog 122 [va,vb] h K:=by
 obtain ⟨xs,hx,cx,rfl⟩:=ha
 obtain ⟨ys,hy,cy,rfl⟩:=hb
 have l1:=nU cx la
 have l2:=nU cy lb
 have hW:(0:Nat)<4294967296:=by decide
 refine f122 ?_
 have e0:IntKind.wrap .i64 ((xs.length:Int)+(ys.length:Int))=((xs.length+ys.length:Nat):Int):=by rw [wrap64 (by omega) (by omega)];omega
 simp only [JY,hx.len,hy.len,ah,cD,e0,xd (show xs.length+ys.length≤1000 by omega),aE]
 refine dc (σ:=Nat×List Nat) (fun p=>[I p.1]) (fun p=>hd h p.2)
  (fun p=>p.1≤xs.length∧p.2.length=xs.length+ys.length∧b9 4294967296 p.2∧(∀j (hj:j<p.2.length),p.1+ys.length≤j→p.2[j]=0)∧val 4294967296 p.2=val 4294967296 (xs.take p.1)*val 4294967296 ys) (fun p=>xs.length-p.1)
  (0,List.replicate (xs.length+ys.length) 0) rfl rfl ⟨by simp,by simp,b9.tH hW _,by simp,by simp [uQ,val]⟩ ?_
 rintro ⟨i,os⟩ ⟨hi,fP,eI,hz,bS⟩ L hL
 simp only at hi fP eI hz bS hL⊢
 rw [awn]
 have bG:=hx.mono (jt h os)
 simp only [cI,ah,bK]
 refine ⟨fun aC=>?_,fun cH=>?_⟩
 ·have bf:i<xs.length:=by omega
  obtain ⟨ia,a1,a2⟩:=bG.get bf
  have fY:xs[i]<4294967296:=cx.1 _ (List.getElem_mem bf)
  simp only [a1,ah,a2,(hy.mono (jt h os)).len]
  have wJ:=gT 4294967296 xs bf
  generalize xs[i]=x at fY wJ
  refine dc (σ:=Nat×Nat×List Nat) (fun p=>[.int .u64 (p.1:Int),I p.2.1]) (fun p=>hd h p.2.2)
   (fun p=>p.2.1≤ys.length∧p.1<4294967296∧p.2.2.length=xs.length+ys.length∧b9 4294967296 p.2.2∧(∀j (hj:j<p.2.2.length),i+ys.length≤j→p.2.2[j]=0)∧val 4294967296 p.2.2+4294967296^(i+p.2.1)*p.1=val 4294967296 os+4294967296^i*(x*val 4294967296 (ys.take p.2.1))) (fun p=>ys.length-p.2.1)
   (0,0,os) rfl rfl ⟨by simp,hW,fP,eI,hz,by simp [val]⟩ ?_
  rintro ⟨c,j,ps⟩ ⟨hj,hc,kP,sR,uu,uo⟩ L2 gP
  simp only at hj hc kP sR uu uo gP⊢
  rw [awj]
  have oA:=hy.mono (jt h ps)
  simp only [cI,ah,bK]
  refine ⟨fun ky=>?_,fun Nf=>?_⟩
  ·have pj:j<ys.length:=by omega
   obtain ⟨ib,b1,b2⟩:=oA.get pj
   have je:ys[j]<4294967296:=cy.1 _ (List.getElem_mem pj)
   have hyt:=gT 4294967296 ys pj
   generalize ys[j]=y at b2 je hyt
   have nz:i+j<ps.length:=by omega
   have asU:ps[i+j]<4294967296:=sR _ (List.getElem_mem nz)
   have hxy:=Gp fY je
   have jZ:=qW 4294967296 ps (i+j) ((x*y+ps[i+j]+c)%4294967296) nz
   have ei:IntKind.wrap .i64 ((i:Int)+(j:Int))=((i+j:Nat):Int):=by rw [wrap64 (by omega) (by omega)];omega
   have Ma:((x:Int)*(y:Int))=((x*y:Nat):Int):=by simp
   simp only [b1,ah,b2,jU]
   rw [jA (n:=(x:Int)) (by omega) (by omega),jA (n:=(y:Int)) (by omega) (by omega)]
   simp only [tR,ah,Ma,cD,ei]
   rw [jA (n:=((x*y:Nat):Int)) (by omega) (by omega)]
   rw [kZ (show i+j<xs.length+ys.length by omega)]
   simp only [ah,Zz nz,jU]
   rw [jA (n:=(ps[i+j]:Int)) (by omega) (by omega)]
   have e1:IntKind.wrap .u64 (((x*y:Nat):Int)+(ps[i+j]:Int))=((x*y+ps[i+j]:Nat):Int):=by rw [jA (by omega) (by omega)];omega
   have e2:IntKind.wrap .u64 (((x*y+ps[i+j]:Nat):Int)+(c:Int))=((x*y+ps[i+j]+c:Nat):Int):=by rw [jA (by omega) (by omega)];omega
   have e3:IntKind.wrap .u32 ((x*y+ps[i+j]+c:Nat):Int)=(((x*y+ps[i+j]+c)%4294967296:Nat):Int):=by rw [uS];omega
   simp only [cD,ah,e1,e2,jU,e3,xv]
   rw [sI _ nz]
   simp only [aE,inc j (by omega),true_and]
   have mQ:(x*y+ps[i+j]+c)%4294967296<4294967296:=Nat.mod_lt _ hW
   have jX:=Nat.mod_add_div (x*y+ps[i+j]+c) 4294967296
   have hdiv:(x*y+ps[i+j]+c) / 4294967296<4294967296:=by omega
   refine gP ((x*y+ps[i+j]+c) / 4294967296,j+1,ps.set (i+j) ((x*y+ps[i+j]+c)%4294967296)) ⟨by show j+1≤ys.length;omega,hdiv,by show (ps.set _ _).length=_;rw [List.length_set];exact kP,sR.set mQ _,?_,?_⟩ (by show ys.length-(j+1)<ys.length-j;omega)
   ·intro k sM FD
    show (ps.set (i+j) _)[k]=0
    have br:i+j≠k:=by omega
    rw [List.getElem_set_ne br]
    exact uu k (by simpa using sM) FD
   ·show val 4294967296 (ps.set (i+j) _)+4294967296^(i+(j+1))*_=val 4294967296 os+4294967296^i*(x*val 4294967296 (ys.take (j+1)))
    rw [hyt,←Nat.add_assoc,Nat.pow_succ]
    rw [Nat.pow_add] at jZ uo⊢
    generalize ps[i+j]=o at*
    generalize (x*y+o+c)%4294967296=m at*
    generalize (x*y+o+c) / 4294967296=q at*
    generalize val 4294967296 (ys.take j)=v at*
    generalize val 4294967296 (ps.set (i+j) m)=s1 at*
    generalize val 4294967296 ps=s0 at*
    generalize val 4294967296 os=s2 at*
    generalize 4294967296^i=P at*
    generalize 4294967296^j=Q at*
    generalize (4294967296:Nat)=w at*
    clear gP hL hx hy bG oA b1 b2
    have h1:P*Q*(m+w*q)=P*Q*(x*y+o+c):=by rw [jX]
    grind
  ·have:j=ys.length:=by omega
   subst this
   rw [awk]
   have ei:IntKind.wrap .i64 ((i:Int)+(ys.length:Int))=((i+ys.length:Nat):Int):=by rw [wrap64 (by omega) (by omega)];omega
   simp only [oA.len,ah,cD,ei,jU]
   rw [mA (n:=(c:Int)) (by omega) (by omega),kZ (show i+ys.length<xs.length+ys.length by omega)]
   simp only [ah]
   have nz:i+ys.length<ps.length:=by omega
   rw [sI _ nz]
   simp only [aE,awl,cD,ah,inc i (by omega),true_and]
   have jZ:=qW 4294967296 ps (i+ys.length) c nz
   rw [uu _ nz (Nat.le_refl _)] at jZ
   rw [List.take_length] at uo
   refine hL (i+1,ps.set (i+ys.length) c) ⟨by show i+1≤xs.length;omega,by show (ps.set _ _).length=_;rw [List.length_set];exact kP,sR.set hc _,?_,?_⟩ (by show xs.length-(i+1)<xs.length-i;omega)
   ·intro k sM FD
    show (ps.set (i+ys.length) _)[k]=0
    have aBs:i+1+ys.length≤k:=FD
    have br:i+ys.length≠k:=by omega
    rw [List.getElem_set_ne br]
    exact uu k (by simpa using sM) (by omega)
   ·show val 4294967296 (ps.set (i+ys.length) c)=val 4294967296 (xs.take (i+1))*val 4294967296 ys
    rw [wJ,Nat.add_mul,←bS,Nat.mul_assoc,←uo]
    omega
 ·have:i=xs.length:=by omega
  subst this
  rw [awm]
  rw [List.take_length] at bS
  have e:sl 177 h.length 0 (xs.length+ys.length)=sl 177 h.length 0 os.length:=by rw [fP]
  rw [e]
  refine pV (wa h _) eI (by omega) ?_
  intro v' hm
  rw [bS] at hm
  exact hk v' _ (jt h _) hm


def dE (h:ae) (val:Value) (z:Int):Prop:=∃v,val=.agg #[B (decide (z<0)),v]∧cX h v z.natAbs

theorem dE.mono {h h':ae} {v:Value} {z:Int} (x:EX h h') (p:dE h v z):dE h' v z:=let ⟨w,a,b⟩:=p;⟨w,a,b.mono x⟩

theorem cX.nE {h:ae} {v:Value} {n:Nat} (p:cX h v n):∃l:Nat,aY v=some (I l)∧(0<l↔0<n):=by
 obtain ⟨xs,d,c,rfl⟩:=p
 refine ⟨xs.length,d.len,?_⟩
 constructor
 ·intro h0
  have:=Canon.low (by decide) c (by rintro rfl;simp at h0)
  have:0<4294967296^(xs.length-1):=Nat.pow_pos (by decide)
  omega
 ·intro h0
  cases xs with
  | nil=>simp [val] at h0
  | cons x xs=>simp

theorem cX.bH {h:ae} {v:Value} {n j:Nat} {e:TypeId} {b:Bool} {r:List Value} (p:cX h v n) (hj:h[j]?=some (.arr e (.bool b::r))) (o:aq):cX (h.set j o) v n:=by
 obtain ⟨xs,d,c,hv⟩:=p
 refine ⟨xs,?_,c,hv⟩
 rcases d with d | ⟨i,h1,h2⟩
 ·exact .inl d
 ·refine .inr ⟨i,h1,?_⟩
  rcases h2 with h2 | ⟨rest,h2⟩
  ·exact .inl h2
  ·cases xs with
   | nil=>exact .inl rfl
   | cons x xs=>
    right
    refine ⟨rest,?_⟩
    have br:j≠i:=by
     rintro rfl
     unfold aO at h2
     rw [hj] at h2
     simp at h2
    unfold aO at h2⊢
    rw [List.getElem?_set_ne br]
    exact h2

theorem dE.bH {h:ae} {v:Value} {z:Int} {j:Nat} {e:TypeId} {b:Bool} {r:List Value} (p:dE h v z) (hj:h[j]?=some (.arr e (.bool b::r))) (o:aq):dE (h.set j o) v z:=
 let ⟨w,a,q⟩:=p;⟨w,a,q.bH hj o⟩

theorem ef {h:ae} {i:Nat} {e:TypeId} {a b x y:Value} (hg:h[i]?=some (.arr e [a,b])):aI 2 h (pt i 0) (.agg #[x,y])=some (undef,h.set i (.arr e [x,y])):=by
 simp [aI,ta,hg,gS,cZ,Value.cells,setAt]

theorem cn {h:ae} {i:Nat} {e:TypeId} {a b:Value} (hg:h[i]?=some (.arr e [a,b])):af true 2 h (pt i 0)=some (.agg #[a,b]):=by
 simp [af,aO,hg,ck]

theorem cM {h:ae} {i:Nat} {o o':aq} (hg:h[i]?=some o'):(h.set i o)[i]?=some o:=by
 rw [List.getElem?_set_self (List.getElem?_eq_some_iff.1 hg).1]

theorem pU {v:Value} {n:Nat} {b:Bool} {h:ae} {K:Value→ae→Prop} (hm:cX h v n) (hk:∀h',EX h h'→K (.agg #[B (b&&decide (0<n)),v]) h'):ak Tryz.prog 117 [B b,v] h K:=by
 refine f117 ?_
 have al:aX 105 [(.bool false),(.slice none 0 0)] h=some (pt h.length 0,h++[.arr 105 [(.bool false),(.slice none 0 0)]]):=rfl
 simp only [JU,al,aE]
 obtain ⟨l,h1,h2⟩:=hm.nE
 have hg:(h++[aq.arr 105 [(.bool false),(.slice none 0 0)]])[h.length]?=some (.arr 105 [(.bool false),(.slice none 0 0)]):=bR
 have hx:EX h (h++[aq.arr 105 [(.bool false),(.slice none 0 0)]]):=EX.append _ _
 have fin:B6 Tryz.prog K v (pt h.length 0) (B b) (B (decide (0<l))) (h++[aq.arr 105 [(.bool false),(.slice none 0 0)]])∧(b=false→B6 Tryz.prog K v (pt h.length 0) (B b) undef (h++[aq.arr 105 [(.bool false),(.slice none 0 0)]])):=by
  have one:∀c:Bool,c=(b&&decide (0<n))→OP (cT [(.bool false),(.slice none 0 0)] [(0,1,B c),(1,1,v)]) fun az=>OH (aI 2 (h++[aq.arr 105 [(.bool false),(.slice none 0 0)]]) (pt h.length 0) az) fun _ h_1=>OP (af true 2 h_1 (pt h.length 0)) fun r0=>K r0 h_1:=by
   rintro c rfl
   have eb:cT [(.bool false),(.slice none 0 0)] [(0,1,B (b&&decide (0<n))),(1,1,v)]=some (.agg #[B (b&&decide (0<n)),v]):=by
    obtain ⟨xs,d,_,_⟩:=hm
    rcases d with ⟨rfl,_⟩ | ⟨i,rfl,_⟩ <;> rfl
   simp only [eb,ah]
   rw [ef hg]
   simp only [aE]
   rw [cn (cM hg)]
   simp only [ah]
   exact hk _ (hx.set (Nat.le_refl _) _)
  constructor
  ·rw [agx]
   cases b with
   | true=>simp only [dA,ah];exact one _ (by simp [h2])
   | false=>simp only [cY,ah];exact one _ (by simp)
  ·rintro rfl
   rw [agx]
   simp only [cY,ah]
   exact one _ (by simp)
 rw [av4]
 have e0:decide ((0:Int)<(l:Int))=decide (0<l):=by
  by_cases h0:0<l
  ·simp [h0]
  ·simp [h0]
 cases b with
 | true=>
  simp only [fy,h1,ah,fe,e0]
  exact fin.1
 | false=>
  simp only [iz]
  exact fin.2 rfl

end Go.Proofs.YtelmdbpaoifmoaaGreat


namespace Go.Proofs.YtelmdbpaoifmoaaGreat
open Go.Sim

theorem tZ {h':ae} {j:Nat} {b0 v0 b v:Value} {K:Value→ae→Prop} (hg:h'[j]?=some (.arr 105 [b0,v0])) (hk:K (.agg #[b,v]) (h'.set j (.arr 105 [b,v]))):
  OH (aI 2 h' (pt j 0) (.agg #[b,v])) fun _ h6=>OP (af true 2 h6 (pt j 0)) fun r0=>K r0 h6:=by
 rw [ef hg]
 simp only [aE]
 rw [cn (cM hg)]
 exact ah.2 hk

structure aiC (h:ae) (va vb:Value) (sa sb:Bool) (h3:ae):Prop where
 ex:EX h h3
 a0:af false 1 h3 (pt h.length 0)=some (B sa)
 a1:af false 1 h3 (pt h.length 1)=some va
 b0:af false 1 h3 (pt (h.length+1) 0)=some (B sb)
 b1:af false 1 h3 (pt (h.length+1) 1)=some vb
 a2:af true 2 h3 (pt h.length 0)=some (.agg #[B sa,va])
 b2:af true 2 h3 (pt (h.length+1) 0)=some (.agg #[B sb,vb])
 out:h3[h.length+2]?=some (.arr 105 [.bool false,.slice none 0 0])

theorem Dt {h:ae} {va vb:Value} {sa sb:Bool} {K:Value→Value→Value→ae→Prop} (hk:∀h3,aiC h va vb sa sb h3→K (pt h.length 0) (pt (h.length+1) 0) (pt (h.length+2) 0) h3):
  OH (bk 105 h (.agg #[B sa,va])) fun a2 h_1=>OH (bk 105 h_1 (.agg #[B sb,vb])) fun b3 h_2=>OH (aX 105 [(.bool false),(.slice none 0 0)] h_2) fun x4 h_3=>K a2 b3 x4 h_3:=by
 have e1:∀(g:ae) (s:Bool) (v:Value),bk 105 g (.agg #[B s,v])=some (pt g.length 0,g++[.arr 105 [B s,v]]):=fun _ _ _=>rfl
 have e2:∀(g:ae),aX 105 [(.bool false),(.slice none 0 0)] g=some (pt g.length 0,g++[.arr 105 [(.bool false),(.slice none 0 0)]]):=fun _=>rfl
 simp only [e1,e2,aE,List.length_append,List.length_cons,List.length_nil]
 have g0:(h++[aq.arr 105 [B sa,va]]++[aq.arr 105 [B sb,vb]]++[aq.arr 105 [(.bool false),(.slice none 0 0)]])[h.length]?=some (.arr 105 [B sa,va]):=by simp
 have g1:(h++[aq.arr 105 [B sa,va]]++[aq.arr 105 [B sb,vb]]++[aq.arr 105 [(.bool false),(.slice none 0 0)]])[h.length+1]?=some (.arr 105 [B sb,vb]):=by simp
 have g2:(h++[aq.arr 105 [B sa,va]]++[aq.arr 105 [B sb,vb]]++[aq.arr 105 [(.bool false),(.slice none 0 0)]])[h.length+2]?=some (.arr 105 [(.bool false),(.slice none 0 0)]):=by simp
 refine hk _ ⟨((EX.append _ _).push _).push _,?_,?_,?_,?_,cn g0,cn g1,g2⟩
 ·simp [af,aO,ck]
 ·simp [af,aO,ck]
 ·simp [af,aO,ck]
 ·simp [af,aO,ck]

theorem z9 {n:Int} {h:ae} {K:Value→ae→Prop} (h1: -9223372036854775808≤n) (h2:n<9223372036854775808) (hk:∀r h',EX h h'→dE h' r n→K r h'):ak Tryz.prog 105 [I n] h K:=by
 refine f105 ?_
 have e2:aX 105 [(.bool false),(.slice none 0 0)] h=some (pt h.length 0,h++[.arr 105 [(.bool false),(.slice none 0 0)]]):=rfl
 simp only [JI,e2,aE]
 have x1:EX h (h++[aq.arr 105 [(.bool false),(.slice none 0 0)]]):=EX.append _ _
 have g1:(h++[aq.arr 105 [(.bool false),(.slice none 0 0)]])[h.length]?=some (.arr 105 [(.bool false),(.slice none 0 0)]):=bR
 generalize h++[aq.arr 105 [(.bool false),(.slice none 0 0)]]=hA at x1 g1⊢
 have go:∀u:Nat,u=n.natAbs→GH Tryz.prog K (I n) (pt h.length 0) (.int .u64 (u:Int)) hA:=by
  intro u hu
  rw [avV]
  have ew:IntKind.wrap .u32 (u:Int)=((u%4294967296:Nat):Int):=by rw [uS];omega
  simp only [cI,ah,jU,xv,ew]
  rw [mA (n:=((u / 4294967296:Nat):Int)) (by omega) (by omega)]
  have mk:dh 177 2 [.int .u32 0] hA [(0,1,.int .u32 ((u%4294967296:Nat):Int)),(1,1,.int .u32 ((u / 4294967296:Nat):Int))]=some (sl 177 hA.length 0 2,hd hA [u%4294967296,u / 4294967296]):=rfl
  simp only [mk,aE]
  have hl:b9 4294967296 [u%4294967296,u / 4294967296]:=by
   intro x hx
   simp at hx
   rcases hx with rfl | rfl <;> omega
  refine pV (wa hA [u%4294967296,u / 4294967296]) hl (by simp) ?_
  intro v hv
  have bS:val 4294967296 [u%4294967296,u / 4294967296]=n.natAbs:=by simp [val];omega
  rw [bS] at hv
  refine pU hv ?_
  intro h' x'
  have xx:=(jt hA [u%4294967296,u / 4294967296]).trans x'
  have g':=xx.get g1
  refine tZ g' (hk _ _ ((x1.trans xx).set (Nat.le_refl _) _) ⟨v,?_,(hv.mono x').bH g' _⟩)
  have:(decide (n<0)&&decide (0<n.natAbs))=decide (n<0):=by
   by_cases hn:n<0
   ·simp [hn];omega
   ·simp [hn]
  rw [this]
 simp only [jU,ah,cI,bK]
 refine ⟨fun hn=>?_,fun hn=>?_⟩
 ·have e3:fA .neg (.int .u64 (IntKind.wrap .u64 n))=some (.int .u64 ((n.natAbs:Nat):Int)):=by
   have e:∀m:Int,IntKind.wrap .u64 m=m%18446744073709551616:=fun m=>by simp [IntKind.wrap,IntKind.bits,IntKind.signed]
   simp only [fA]
   rw [e,e]
   congr 2
   omega
  simp only [e3,ah]
  exact go _ rfl
 ·have:IntKind.wrap .u64 n=((n.natAbs:Nat):Int):=by rw [jA (by omega) (by omega)];omega
  rw [this]
  exact go _ rfl

theorem aiK {va:Value} {a:Int} {h:ae} {K:Value→ae→Prop} (ha:dE h va a) (hk:∀r h',EX h h'→dE h' r (-a)→K r h'):ak Tryz.prog 119 [va] h K:=by
 obtain ⟨v,rfl,hv⟩:=ha
 refine f119 ?_
 have e1:bk 105 h (.agg #[B (decide (a<0)),v])=some (pt h.length 0,h++[.arr 105 [B (decide (a<0)),v]]):=rfl
 simp only [JV,e1,aE]
 have l0:af false 1 (h++[.arr 105 [B (decide (a<0)),v]]) (pt h.length 0)=some (B (decide (a<0))):=uI rfl
 have l1:af false 1 (h++[.arr 105 [B (decide (a<0)),v]]) (pt h.length 1)=some v:=uI rfl
 have x1:EX h (h++[.arr 105 [B (decide (a<0)),v]]):=EX.append _ _
 generalize h++[aq.arr 105 [B (decide (a<0)),v]]=h1 at l0 l1 x1⊢
 have e2:aX 105 [(.bool false),(.slice none 0 0)] h1=some (pt h1.length 0,h1++[.arr 105 [(.bool false),(.slice none 0 0)]]):=rfl
 have x2:EX h1 (h1++[aq.arr 105 [(.bool false),(.slice none 0 0)]]):=EX.append _ _
 have g1:(h1++[aq.arr 105 [(.bool false),(.slice none 0 0)]])[h1.length]?=some (.arr 105 [(.bool false),(.slice none 0 0)]):=bR
 simp only [e2,aE]
 generalize h1++[aq.arr 105 [(.bool false),(.slice none 0 0)]]=h2 at x2 g1⊢
 simp only [bW,Nat.add_zero,Nat.zero_add,ah,EX.load x2 l0,EX.load x2 l1,nO]
 have pD:=hv.mono (x1.trans x2)
 refine pU pD ?_
 intro h' x'
 have g':=x'.get g1
 refine tZ g' (hk _ _ (((x1.trans x2).trans x').set x1.1 _) ⟨v,?_,?_⟩)
 ·have:(!decide (a<0)&&decide (0<a.natAbs))=decide (-a<0):=by
   by_cases h0:a<0
   ·rw [decide_eq_true h0,decide_eq_false (show ¬-a<0 by omega)];rfl
   ·by_cases h3:a=0
    ·subst h3;rfl
    ·rw [decide_eq_false h0,decide_eq_true (show 0<a.natAbs by omega),decide_eq_true (show -a<0 by omega)];rfl
  rw [this]
 ·have:(-a).natAbs=a.natAbs:=by omega
  rw [this]
  exact (pD.mono x').bH g' _

theorem Iv {va vb:Value} {a b:Int} {h:ae} {K:Value→ae→Prop} (ha:dE h va a) (hb:dE h vb b) (la:a.natAbs<bu) (lb:b.natAbs<bu) (hk:∀r h',EX h h'→dE h' r (a+b)→K r h'):ak Tryz.prog 113 [va,vb] h K:=by
 obtain ⟨v,rfl,hv⟩:=ha
 obtain ⟨w,rfl,hw⟩:=hb
 refine f113 ?_
 unfold JR
 refine Dt ?_
 intro h3 x
 have sW:=hv.mono x.ex
 have sY:=hw.mono x.ex
 simp only [bW,Nat.add_zero,Nat.zero_add,ah,x.a0,x.a1,x.b0,x.b1,AM,Bool.false_eq_true,if_false]
 refine xH (fun he=>?_) fun br=>?_
 ·have hs:decide (a<0)=decide (b<0):=by simpa using he
  have dw:(a<0↔b<0):=by simpa using hs
  simp only [true_and]
  refine R8 sW sY la lb ?_
  intro u h4 x4 hu
  refine ⟨⟨EX.load x4 x.a0,trivial⟩,?_⟩
  refine pU hu ?_
  intro h5 x5
  have g':=(x4.trans x5).get x.out
  refine tZ g' (hk _ _ (((x.ex.trans x4).trans x5).set (by omega) _) ⟨u,?_,?_⟩)
  ·have:(decide (a<0)&&decide (0<a.natAbs+b.natAbs))=decide (a+b<0):=by
    by_cases h0:a<0
    ·rw [decide_eq_true h0,decide_eq_true (show 0<a.natAbs+b.natAbs by omega),decide_eq_true (show a+b<0 by omega)];rfl
    ·rw [decide_eq_false h0,decide_eq_false (show ¬a+b<0 by omega)];rfl
   rw [this]
  ·have:(a+b).natAbs=a.natAbs+b.natAbs:=by omega
   rw [this]
   exact (hu.mono x5).bH g' _
 ·have hs:decide (a<0)≠decide (b<0):=by simpa using br
  have dw:¬(a<0↔b<0):=fun h=>hs (decide_eq_decide.2 h)
  refine CI sW sY la lb ?_
  simp only [kl,ah,bK]
  refine ⟨fun cH=>?_,fun aC=>?_⟩
  ·have hle:b.natAbs≤a.natAbs:=by
    apply Classical.byContradiction
    intro hc
    unfold kS at cH
    rw [if_pos (by omega)] at cH
    omega
   simp only [x.a0,x.a1,x.b1,ah,true_and]
   refine Sa sW sY la hle ?_
   intro u h4 x4 hu
   refine ⟨⟨EX.load x4 x.a0,trivial⟩,?_⟩
   refine pU hu ?_
   intro h5 x5
   have g':=(x4.trans x5).get x.out
   refine tZ g' (hk _ _ (((x.ex.trans x4).trans x5).set (by omega) _) ⟨u,?_,?_⟩)
   ·have:(decide (a<0)&&decide (0<a.natAbs-b.natAbs))=decide (a+b<0):=by
     by_cases h0:a<0
     ·by_cases h6:0<a.natAbs-b.natAbs
      ·rw [decide_eq_true h0,decide_eq_true h6,decide_eq_true (show a+b<0 by omega)];rfl
      ·rw [decide_eq_true h0,decide_eq_false h6,decide_eq_false (show ¬a+b<0 by omega)];rfl
     ·rw [decide_eq_false h0,decide_eq_false (show ¬a+b<0 by omega)];rfl
    rw [this]
   ·have:(a+b).natAbs=a.natAbs-b.natAbs:=by omega
    rw [this]
    exact (hu.mono x5).bH g' _
  ·have hle:a.natAbs≤b.natAbs:=by
    apply Classical.byContradiction
    intro hc
    unfold kS at aC
    rw [if_neg (by omega),if_pos (by omega)] at aC
    omega
   simp only [x.b0,x.a1,x.b1,ah,true_and]
   refine Sa sY sW lb hle ?_
   intro u h4 x4 hu
   refine ⟨⟨EX.load x4 x.b0,trivial⟩,?_⟩
   refine pU hu ?_
   intro h5 x5
   have g':=(x4.trans x5).get x.out
   refine tZ g' (hk _ _ (((x.ex.trans x4).trans x5).set (by omega) _) ⟨u,?_,?_⟩)
   ·have:(decide (b<0)&&decide (0<b.natAbs-a.natAbs))=decide (a+b<0):=by
     by_cases h0:b<0
     ·by_cases h6:0<b.natAbs-a.natAbs
      ·rw [decide_eq_true h0,decide_eq_true h6,decide_eq_true (show a+b<0 by omega)];rfl
      ·rw [decide_eq_true h0,decide_eq_false h6,decide_eq_false (show ¬a+b<0 by omega)];rfl
     ·rw [decide_eq_false h0,decide_eq_false (show ¬a+b<0 by omega)];rfl
    rw [this]
   ·have:(a+b).natAbs=b.natAbs-a.natAbs:=by omega
    rw [this]
    exact (hu.mono x5).bH g' _

theorem aiN {va vb:Value} {a b:Int} {h:ae} {K:Value→ae→Prop} (ha:dE h va a) (hb:dE h vb b) (la:a.natAbs<bu) (lb:b.natAbs<bu) (hk:∀r h',EX h h'→dE h' r (a-b)→K r h'):ak Tryz.prog 127 [va,vb] h K:=by
 have pb:=ha
 have n7:=hb
 obtain ⟨v,rfl,hv⟩:=ha
 obtain ⟨w,rfl,hw⟩:=hb
 refine f127 ?_
 unfold J3
 refine Dt ?_
 intro h3 x
 simp only [ah,x.a2,x.b2,true_and]
 refine aiK (n7.mono x.ex) ?_
 intro r1 h4 x4 i1
 refine ⟨⟨EX.load x4 x.a2,trivial⟩,?_⟩
 refine Iv (pb.mono (x.ex.trans x4)) i1 la (by rw [Int.natAbs_neg];exact lb) ?_
 intro r2 h5 x5 i2
 have g':=(x4.trans x5).get x.out
 obtain ⟨u,rfl,hu⟩:=id i2
 refine tZ g' (hk _ _ (((x.ex.trans x4).trans x5).set (by omega) _) ?_)
 rw [Int.sub_eq_add_neg]
 exact i2.bH g' _

theorem q9 {va vb:Value} {a b:Int} {h:ae} {K:Value→ae→Prop} (ha:dE h va a) (hb:dE h vb b) (la:a.natAbs<bu) (lb:b.natAbs<bu) (hk:∀r h',EX h h'→dE h' r (a*b)→K r h'):ak Tryz.prog 107 [va,vb] h K:=by
 obtain ⟨v,rfl,hv⟩:=ha
 obtain ⟨w,rfl,hw⟩:=hb
 refine f107 ?_
 unfold JK
 refine Dt ?_
 intro h3 x
 have sW:=hv.mono x.ex
 have sY:=hw.mono x.ex
 simp only [bW,Nat.add_zero,Nat.zero_add,ah,x.a0,x.a1,x.b0,x.b1,AM,if_true,true_and]
 refine R6 sW sY la lb ?_
 intro u h4 x4 hu
 refine ⟨⟨EX.load x4 x.a0,EX.load x4 x.b0,trivial⟩,?_⟩
 refine pU hu ?_
 intro h5 x5
 have g':=(x4.trans x5).get x.out
 refine tZ g' (hk _ _ (((x.ex.trans x4).trans x5).set (by omega) _) ⟨u,?_,?_⟩)
 ·have:((!(decide (a<0)==decide (b<0)))&&decide (0<a.natAbs*b.natAbs))=decide (a*b<0):=by
   rcases Int.lt_trichotomy a 0 with h1 | h1 | h1
   ·rcases Int.lt_trichotomy b 0 with h2 | h2 | h2
    ·have:=Int.mul_pos_of_neg_of_neg h1 h2
     rw [decide_eq_true h1,decide_eq_true h2,decide_eq_false (show ¬a*b<0 by omega)];rfl
    ·subst h2;simp
    ·have:=Int.mul_neg_of_neg_of_pos h1 h2
     have h3:0<a.natAbs*b.natAbs:=Nat.mul_pos (by omega) (by omega)
     rw [decide_eq_true h1,decide_eq_false (show ¬b<0 by omega),decide_eq_true h3,decide_eq_true this];rfl
   ·subst h1;simp
   ·rcases Int.lt_trichotomy b 0 with h2 | h2 | h2
    ·have:=Int.mul_neg_of_pos_of_neg h1 h2
     have h3:0<a.natAbs*b.natAbs:=Nat.mul_pos (by omega) (by omega)
     rw [decide_eq_false (show ¬a<0 by omega),decide_eq_true h2,decide_eq_true h3,decide_eq_true this];rfl
    ·subst h2;simp
    ·have:=Int.mul_pos h1 h2
     rw [decide_eq_false (show ¬a<0 by omega),decide_eq_false (show ¬b<0 by omega),decide_eq_false (show ¬a*b<0 by omega)];rfl
  rw [this]
 ·rw [Int.natAbs_mul]
  exact (hu.mono x5).bH g' _

end Go.Proofs.YtelmdbpaoifmoaaGreat


namespace Go.Proofs.YtelmdbpaoifmoaaGreat
open Go.Sim

theorem HK {r:Nat} (hr:r<4294967296):ai .shl (.int .u64 (r:Int)) (.int .u64 32)=some (.int .u64 ((r*4294967296:Nat):Int)):=by
 simp only [ai,oD]
 rw [if_neg (by omega)]
 have:(min (32:Int).toNat IntKind.u64.bits)=32:=rfl
 rw [this]
 have e2:(2:Int)^32=4294967296:=by decide
 rw [e2,jA (by omega) (by omega)]
 congr 2

theorem GB {r x:Nat} (hr:r<4294967296) (hx:x<4294967296):ai .or (.int .u64 ((r*4294967296:Nat):Int)) (.int .u64 (x:Int))=some (.int .u64 ((r*4294967296+x:Nat):Int)):=by
 have e:(BitVec.ofInt IntKind.u64.bits ((r*4294967296:Nat):Int) ||| BitVec.ofInt IntKind.u64.bits (x:Int)).toNat=r*4294967296+x:=by
  show (BitVec.ofInt 64 ((r*4294967296:Nat):Int) ||| BitVec.ofInt 64 (x:Int)).toNat=_
  rw [BitVec.ofInt_natCast,BitVec.ofInt_natCast,BitVec.toNat_or,BitVec.toNat_ofNat,BitVec.toNat_ofNat,Nat.mod_eq_of_lt (by omega),Nat.mod_eq_of_lt (by omega)]
  have:=Nat.two_pow_add_eq_or_of_lt (i:=32) (b:=x) (by omega) r
  rw [Nat.mul_comm r]
  exact this.symm
 simp only [ai,gn,if_true]
 rw [e,jA (by omega) (by omega)]

theorem ahj {a b:Nat} (hb:b≠0) (ha:a<18446744073709551616):ai .quo (.int .u64 (a:Int)) (.int .u64 (b:Int))=some (.int .u64 ((a / b:Nat):Int)):=by
 have h:¬((b:Int)=0):=by omega
 have h2:a / b≤a:=Nat.div_le_self _ _
 simp only [ai,gn,if_true,if_neg h]
 have e:(a:Int).tdiv (b:Int)=((a / b:Nat):Int):=rfl
 rw [e]
 generalize a / b=q at*
 rw [jA (by omega) (by omega)]

theorem RZ {va:Value} {a w:Nat} {h:ae} {K:Value→ae→Prop} (ha:cX h va a) (la:a<bu) (w0:0<w) (wW:w<4294967296) (hk:∀v h',EX h h'→cX h' v (a / w)→K (.tuple #[v,.int .u32 ((a%w:Nat):Int)]) h'):
  ak Tryz.prog 114 [va,.int .u32 (w:Int)] h K:=by
 obtain ⟨xs,hx,cx,rfl⟩:=ha
 have l1:=nU cx la
 have hW:(0:Nat)<4294967296:=by decide
 refine f114 ?_
 have e1:IntKind.wrap .i64 ((xs.length:Int)-1)=(xs.length:Int)-1:=by rw [wrap64 (by omega) (by omega)]
 simp only [JS,hx.len,ah,xd (show xs.length≤1000 by omega),aE,fz,e1]
 refine dc (σ:=Nat×Nat×List Nat) (fun p=>[.int .u64 (p.1:Int),I ((p.2.1:Int)-1)]) (fun p=>hd h p.2.2)
  (fun p=>p.2.1≤xs.length∧p.1<w∧p.2.2.length=xs.length∧b9 4294967296 p.2.2∧val 4294967296 (xs.drop p.2.1)=w*val 4294967296 (p.2.2.drop p.2.1)+p.1) (fun p=>p.2.1)
  (0,xs.length,List.replicate xs.length 0) rfl rfl ⟨Nat.le_refl _,w0,by simp,b9.tH hW _,by simp [val]⟩ ?_
 rintro ⟨r,i,os⟩ ⟨hi,hr,fP,eI,bS⟩ L hL
 simp only at hi hr fP eI bS hL⊢
 rw [av2]
 have bG:=hx.mono (jt h os)
 simp only [kl,ah,bK]
 refine ⟨fun cH=>?_,fun aC=>?_⟩
 ·obtain ⟨j,rfl⟩:∃j,i=j+1:=⟨i-1,by omega⟩
  have ej:(((j+1:Nat):Int)-1)=(j:Int):=by omega
  rw [ej]
  obtain ⟨ia,a1,a2⟩:=bG.get (j:=j) (by omega)
  have fY:xs[j]'(by omega)<4294967296:=cx.1 _ (List.getElem_mem _)
  have ZB:xs.drop j=xs[j]'(by omega)::xs.drop (j+1):=List.drop_eq_getElem_cons (by omega)
  generalize xs[j]'(by omega)=x at a2 fY ZB
  simp only [HK (show r<4294967296 by omega),ah,a1,a2,jU]
  rw [jA (n:=(x:Int)) (by omega) (by omega)]
  simp only [GB (show r<4294967296 by omega) fY,ah]
  rw [jA (n:=(w:Int)) (by omega) (by omega)]
  have ht:r*4294967296+x<w*4294967296:=by omega
  have hq:(r*4294967296+x) / w<4294967296:=(Nat.div_lt_iff_lt_mul w0).2 (by omega)
  have hm:=Nat.mod_lt (r*4294967296+x) w0
  have jX:=Nat.div_add_mod (r*4294967296+x) w
  rw [ahj (by omega) (by omega),Hp _ _ _ (by omega)]
  generalize (r*4294967296+x) / w=q at*
  generalize (r*4294967296+x)%w=m at*
  simp only [ah,jU]
  rw [mA (n:=(q:Int)) (by omega) (by omega),kZ (show j<xs.length by omega)]
  simp only [ah]
  rw [sI _ (by omega)]
  simp only [aE,fz,ah,true_and]
  rw [wrap64 (n:=(j:Int)-1) (by omega) (by omega)]
  refine hL (m,j,os.set j q) ⟨by show j≤xs.length;omega,hm,by show (os.set _ _).length=_;rw [List.length_set];exact fP,eI.set hq _,?_⟩ (by show j<j+1;omega)
  show val 4294967296 (xs.drop j)=w*val 4294967296 ((os.set j q).drop j)+m
  have oa:(os.set j q).drop j=q::os.drop (j+1):=by
   rw [List.drop_eq_getElem_cons (by rw [List.length_set];omega),List.getElem_set_self,List.drop_set_of_lt (by omega)]
  rw [ZB,oa]
  simp only [val]
  rw [bS]
  generalize val 4294967296 (os.drop (j+1))=Q at*
  generalize (4294967296:Nat)=W at*
  clear hL hx bG a1 a2 bS
  grind
 ·have:i=0:=by omega
  subst this
  rw [List.drop_zero,List.drop_zero] at bS
  rw [av1]
  have e:sl 177 h.length 0 xs.length=sl 177 h.length 0 os.length:=by rw [fP]
  rw [e]
  refine pV (wa h _) eI (by omega) ?_
  intro v' hm
  simp only [jU,ah]
  rw [mA (n:=(r:Int)) (by omega) (by omega)]
  have h1:val 4294967296 xs / w=val 4294967296 os:=by
   rw [bS,Nat.mul_add_div w0,Nat.div_eq_of_lt hr,Nat.add_zero]
  have h2:val 4294967296 xs%w=r:=by
   rw [bS,Nat.mul_add_mod,Nat.mod_eq_of_lt hr]
  have:=hk v' _ (jt h os) (by rw [h1];exact hm)
  rw [h2] at this
  exact this

theorem aiJ {h:ae} {id:Nat} {xs:List UInt8} {K:Value→ae→Prop} (bN:h[id]?=some (.arr 5 (xs.map cv))) (hn:xs.length≤100000) (hk:K (.tuple #[]) (hb h id xs.reverse)):ak Tryz.prog 115 [sl 5 id 0 xs.length] h K:=by
 have gD:=(List.getElem?_eq_some_iff.1 bN).1
 have e0:h=hb h id xs:=by
  apply List.ext_getElem?
  intro j
  by_cases hj:id=j
  ·subst hj;rw [Fq gD,bN]
  ·rw [List.getElem?_set_ne hj]
 refine f115 ?_
 have e1:aY (sl 5 id 0 xs.length)=some (I xs.length):=rfl
 have e2:IntKind.wrap .i64 ((xs.length:Int)-1)=(xs.length:Int)-1:=by rw [wrap64 (by omega) (by omega)]
 simp only [JT,e1,ah,fz,e2]
 refine dc (σ:=Nat×List UInt8) (fun p=>[I p.1,I ((xs.length:Int)-1-p.1)]) (fun p=>hb h id p.2) (fun p=>p.1≤xs.length∧p.2.length=xs.length∧∀k (hk:k<p.2.length) (sM:k<xs.length),p.2[k]=if k<p.1∨xs.length-p.1≤k then xs[xs.length-1-k]'(by omega) else xs[k]) (fun p=>xs.length-p.1)
  (0,xs) (by simp) e0.symm ⟨by simp,rfl,fun k h1 h2=>by simp;intro h3;omega⟩ ?_
 rintro ⟨i,ys⟩ ⟨hi,hl,hy⟩ L hL
 simp only at hi hl hy hL⊢
 rw [av3]
 simp only [cI,ah,bK]
 refine ⟨fun aC=>?_,fun cH=>?_⟩
 ·obtain ⟨j,hj⟩:∃j:Nat,(xs.length:Int)-1-i=j:=⟨xs.length-1-i,by omega⟩
  rw [hj]
  have sL:j=xs.length-1-i:=by omega
  have a1:=kZ (id:=id) (e:=5) (n:=xs.length) (j:=j) (by omega)
  have a2:=kZ (id:=id) (e:=5) (n:=xs.length) (j:=i) (by omega)
  have g1:ys[j]?=some (ys[j]'(by omega)):=List.getElem?_eq_getElem (by omega)
  have g2:ys[i]?=some (ys[i]'(by omega)):=List.getElem?_eq_getElem (by omega)
  simp only [a1,a2,ah,Zo gD g1,Zo gD g2,true_and]
  rw [Zp gD _ (by omega)]
  simp only [aE]
  rw [Zp gD _ (by rw [List.length_set];omega)]
  simp only [aE,cD,fz,ah,inc i (by omega)]
  have ej:IntKind.wrap .i64 ((j:Int)-1)=(xs.length:Int)-1-((i+1:Nat):Int):=by rw [wrap64 (by omega) (by omega)];omega
  rw [ej]
  refine hL (i+1,(ys.set i (ys[j]'(by omega))).set j (ys[i]'(by omega))) ⟨by show i+1≤xs.length;omega,by simp [hl],?_⟩ (by show xs.length-(i+1)<xs.length-i;omega)
  intro k kN sM
  show ((ys.set i (ys[j]'(by omega))).set j (ys[i]'(by omega)))[k]=if k<i+1∨xs.length-(i+1)≤k then xs[xs.length-1-k]'(by omega) else xs[k]
  have hyi:=hy i (by omega) (by omega)
  have hyj:=hy j (by omega) (by omega)
  rw [if_neg (by omega)] at hyi hyj
  by_cases pn:j=k
  ·subst pn
   rw [List.getElem_set_self,if_pos (by omega),hyi]
   congr 1;omega
  ·rw [List.getElem_set_ne pn]
   by_cases FG:i=k
   ·subst FG
    rw [List.getElem_set_self,if_pos (by omega),hyj]
    congr 1
   ·rw [List.getElem_set_ne FG,hy k (by omega) sM]
    by_cases hc:k<i∨xs.length-i≤k
    ·rw [if_pos hc,if_pos (by omega)]
    ·rw [if_neg hc,if_neg (by omega)]
 ·have:ys=xs.reverse:=by
   apply List.ext_getElem (by simp [hl])
   intro k h1 h2
   rw [hy k h1 (by omega),List.getElem_reverse]
   split
   ·rfl
   ·congr 1;omega
  rw [this]
  exact hk


def rp (n:Nat):List Nat:=if h:n=0 then [] else n%10::rp (n / 10)
termination_by n
decreasing_by omega

theorem Mb (n:Nat):Canon 10 (rp n)∧val 10 (rp n)=n:=by
 induction n using Nat.strongRecOn with
 | ind n ih=>
  rw [rp]
  by_cases h:n=0
  ·subst h;exact ⟨Canon.nil 10,rfl⟩
  ·rw [dif_neg h]
   obtain ⟨h1,h2⟩:=ih (n / 10) (by omega)
   refine ⟨⟨?_,?_⟩,?_⟩
   ·intro x hx
    rcases List.mem_cons.1 hx with rfl | hx
    ·omega
    ·exact h1.1 x hx
   ·cases hd:rp (n / 10) with
    | nil=>
     rw [hd] at h2
     simp [val] at h2
     simp
     omega
    | cons y ys=>
     rw [List.getLast?_cons_cons,←hd]
     exact h1.2
   ·simp only [val,h2];omega

def kK (d:Nat):UInt8:=UInt8.ofNat (48+d)
theorem EV {d:Nat} (h:d<10):(kK d).toNat=48+d:=by simp [kK,UInt8.toNat_ofNat'];omega

def lj (n:Nat):List UInt8:=if n=0 then [48] else ((rp n).map kK).reverse

def Gd:Nat:=1000
theorem UL:bu≤10^Gd:=by decide+kernel

end Go.Proofs.YtelmdbpaoifmoaaGreat


namespace Go.Proofs.YtelmdbpaoifmoaaGreat
open Go.Sim

theorem cvd {d:Nat} (h:d<10):(.int .u8 ((48+d:Nat):Int):Value)=cv (kK d):=by rw [cv,EV h]

theorem avz (k:Nat):0<10^k:=Nat.pow_pos (by decide)

theorem abc {b n m:Nat} (hm:0<m) (h:10^b*m≤n) (hn:n<bu):b<1000:=by
 have h1:10^b≤10^b*m:=Nat.le_mul_of_pos_right _ hm
 show b<Gd
 have h2:10^b<10^Gd:=Nat.lt_of_le_of_lt (Nat.le_trans h1 h) (Nat.lt_of_lt_of_le hn UL)
 exact (Nat.pow_lt_pow_iff_right (by decide)).1 h2

theorem amw {h0 hx:ae} {v z:Value} {x:UInt8} {bs:List UInt8} {K:Value→ae→Prop} (o:fW h0.length hx 5 v (bs.map cv)) (hex:EX h0 hx) (hl:bs.length≤100000)
  (hk:∀v' bG,EX h0 bG→fW h0.length bG 5 v' ((bs++[x]).map cv)→(∀q n,cX hx q n→cX bG q n)→K v' bG):
  OH (dh 5 1 [z] hx [(0,1,cv x)]) fun a h2=>OH (dj 5 1 1 h2 v a) K:=by
 refine Dr o (by simp;omega) (by simp [maxLen];omega) rfl rfl ?_
 intro hA bG _ hlen FF iR
 simp only [aE]
 refine hk _ _ ⟨by have:=hex.1;omega,fun j hj=>?_⟩ (.inr ⟨hx.length+1,by have:=hex.1;omega,by simp,by simpa using iR⟩) ?_
 ·rw [FF j (by have:=hex.1;omega) fun n hv=>?_]
  ·exact hex.2 j hj
  ·have:=(o.lt hv).1;omega
 ·rintro q n ⟨xs,d,c,hv⟩
  refine ⟨xs,?_,c,hv⟩
  rcases d with d | ⟨i,h1,h2⟩
  ·exact .inl d
  ·refine .inr ⟨i,h1,?_⟩
   rcases h2 with h2 | ⟨r,h2⟩
   ·exact .inl h2
   ·cases xs with
    | nil=>exact .inl rfl
    | cons y ys=>
     right
     refine ⟨r,?_⟩
     have bf:i<hx.length:=by
      apply Classical.byContradiction
      intro hc
      unfold aO at h2
      rw [List.getElem?_eq_none (by omega)] at h2
      simp at h2
     unfold aO at h2⊢
     rw [FF i bf fun n wK=>?_]
     ·exact h2
     ·have hg:=(o.lt wK).2.2
      rw [hg] at h2
      cases bs with
      | nil=>simp at h2
      | cons b bs=>simp [cv] at h2

theorem Su {va:Value} {n:Nat} {h:ae} {K:Value→ae→Prop} (ha:cX h va n) (la:n<bu) (hk:∀h',EX h h'→K (S (lj n)) h'):ak Tryz.prog 89 [va] h K:=by
 refine f89 ?_
 obtain ⟨l0,e0,e1⟩:=ha.nE
 simp only [KZ,e0,ah,fX,bK]
 refine ⟨fun hz=>?_,fun hnz=>?_⟩
 ·have:n=0:=by omega
  subst this
  exact hk h (EX.refl h)
 ·have nw:0<n:=by omega
  refine dc (σ:=Value×Nat×Value×List Nat×ae) (fun p=>[p.1,p.2.2.1]) (fun p=>p.2.2.2.2)
   (fun p=>EX h p.2.2.2.2∧cX p.2.2.2.2 p.1 p.2.1∧fW h.length p.2.2.2.2 5 p.2.2.1 ((p.2.2.2.1.map kK).map cv)∧b9 10 p.2.2.2.1∧val 10 p.2.2.2.1+10^p.2.2.2.1.length*p.2.1=n∧(p.2.1=0→Canon 10 p.2.2.2.1)) (fun p=>p.2.1)
   (va,n,.slice none 0 0,[],h) rfl rfl ⟨EX.refl h,ha,.inl ⟨rfl,rfl⟩,fun x hx=>by simp at hx,by simp [val],fun h0=>by have h0:n=0:=h0;omega⟩ ?_
  rintro ⟨v,m,bv,b,hx⟩ ⟨hex,hm,gQ,eI,bS,A9⟩ L hL
  simp only at hex hm gQ eI bS A9 hL⊢
  rw [ayw]
  obtain ⟨l,f0,f1⟩:=hm.nE
  simp only [f0,ah,fe,bK]
  refine ⟨fun aC=>?_,fun cH=>?_⟩
  ·have mP:0<m:=by omega
   have hmb:m<bu:=by
    refine Nat.lt_of_le_of_lt ?_ la
    have:m≤10^b.length*m:=Nat.le_mul_of_pos_left _ (avz _)
    omega
   have vX:=abc (b:=b.length) mP (by omega) la
   refine RZ hm hmb (w:=1000000000) (by decide) (by decide) ?_
   intro q h1 x1 hq
   simp only [eJ,fq,fC,ah]
   have asW:fW h.length h1 5 bv ((b.map kK).map cv):=gQ.dN fun d k hv hd=>by
    have:=(gQ.lt hv).2.1
    exact x1.2 d this
   have as0:m / 1000000000<m:=Nat.div_lt_self mP (by decide)
   have jX:=Nat.div_add_mod m 1000000000
   have NJ:=Nat.mod_lt m (show 1000000000>0 by decide)
   generalize m / 1000000000=qn at*
   generalize m%1000000000=r0 at*
   have hqq:=hq
   refine dc (σ:=Value×List Nat×Nat×Nat×ae) (fun p=>[p.1,.int .u32 (p.2.2.1:Int),I p.2.2.2.1]) (fun p=>p.2.2.2.2)
    (fun p=>EX h p.2.2.2.2∧cX p.2.2.2.2 q qn∧fW h.length p.2.2.2.2 5 p.1 ((p.2.1.map kK).map cv)∧b9 10 p.2.1∧p.2.2.2.1≤9∧p.2.2.1<10^(9-p.2.2.2.1)∧p.2.1.length≤b.length+p.2.2.2.1∧val 10 p.2.1+10^p.2.1.length*(p.2.2.1+10^(9-p.2.2.2.1)*qn)=n∧(qn=0→p.2.2.1=0→Canon 10 p.2.1)) (fun p=>9-p.2.2.2.1)
    (bv,b,r0,0,h1) rfl rfl ⟨hex.trans x1,hq,asW,eI,by simp,by simpa using NJ,by simp,?_,?_⟩ ?_
   ·show val 10 b+10^b.length*(r0+10^(9-0)*qn)=n
    have:r0+10^(9-0)*qn=m:=by
     show r0+1000000000*qn=m
     omega
    rw [this];exact bS
   ·intro h1 h2
    have h1:qn=0:=h1
    have h2:r0=0:=h2
    subst h1;subst h2
    omega
   rintro ⟨EU,c,r,i,hy⟩ ⟨Nc,FT,NC,FI,hi,hr,fh,BB,M6⟩ L2 gP
   simp only at Nc FT NC FI hi hr fh BB M6 gP⊢
   rw [ayt]
   -- leaving
   have stop:r=0→(i=9∨qn=0)→G4 Tryz.prog K EU q L hy:=by
    intro qB pz
    rw [ayu]
    refine ⟨rfl,hL (q,qn,EU,c,hy) ⟨Nc,FT,NC,FI,?_,fun h0=>M6 h0 qB⟩ as0⟩
    show val 10 c+10^c.length*qn=n
    rw [qB,Nat.zero_add] at BB
    rcases pz with h9 | h0
    ·subst h9;simpa using BB
    ·subst h0;simpa using BB
   simp only [cI,ah]
   by_cases hi9:i<9
   ·rw [decide_eq_true (show (i:Int)<9 by omega)]
    simp only [ahd,fy]
    obtain ⟨l2,g0,g1⟩:=FT.nE
    simp only [g0,ah,fe]
    -- one digit more
    have step:(0<qn∨0<r)→aM (B true)
      (OP (ai .rem (.int .u32 (r:Int)) (.int .u32 (10))) fun dI=>
      OP (ai .add (.int .u32 (48)) dI) fun bX=>
      OP (df .u8 bX) fun dd=>
      OH (dh 5 1 [(.int .u8 (0))] hy [(0,1,dd)]) fun cJ h_1=>
      OH (dj 5 1 1 h_1 EU cJ) fun dT h_2=>
      OP (ai .quo (.int .u32 (r:Int)) (.int .u32 (10))) fun dR=>
      OP (ai .add (I i) (.int .i64 (1))) fun cR=>
      True∧L2 [dT,dR,cR] h_2)
      (G4 Tryz.prog K EU q L hy):=by
     intro pz
     have hrW:r<4294967296:=Nat.lt_of_lt_of_le hr (Nat.le_trans (Nat.pow_le_pow_right (by decide) (show 9-i≤9 by omega)) (by decide))
     have ed:IntKind.wrap .u32 ((48:Int)+((r%10:Nat):Int))=((48+r%10:Nat):Int):=by rw [mA (by omega) (by omega)];omega
     have arB:ai .quo (.int .u32 (r:Int)) (.int .u32 10)=some (.int .u32 ((r / 10:Nat):Int)):=by
      have np:¬((10:Int)=0):=by omega
      simp only [ai,gn,if_true,if_neg np]
      have e:(r:Int).tdiv 10=((r / 10:Nat):Int):=rfl
      rw [e,mA (by omega) (by omega)]
     simp only [di]
     rw [show (.int .u32 10:Value)=.int .u32 ((10:Nat):Int) from rfl,Hp _ _ _ (by decide)]
     simp only [ah,cD,ed,jU]
     rw [aAC (by omega) (by omega),cvd (show r%10<10 by omega)]
     refine amw (x:=kK (r%10)) NC Nc (by simp;omega) ?_
     intro v' bG asu rG FF
     rw [show (.int .u32 ((10:Nat):Int):Value)=.int .u32 10 from rfl,arB]
     simp only [ah,inc i (by omega),true_and]
     have fJ:cX bG q qn:=FF q qn FT
     refine gP (v',c++[r%10],r / 10,i+1,bG) ⟨asu,fJ,by simpa using rG,FI.append (fun x hx=>by simp at hx;omega),by show i+1≤9;omega,?_,by show (c++[r%10]).length≤b.length+(i+1);simp;omega,?_,?_⟩ (by show 9-(i+1)<9-i;omega)
     ·show r / 10<10^(9-(i+1))
      rw [show 9-i=(9-(i+1))+1 by omega,Nat.pow_succ] at hr
      exact (Nat.div_lt_iff_lt_mul (by decide)).2 hr
     ·show val 10 (c++[r%10])+10^(c++[r%10]).length*(r / 10+10^(9-(i+1))*qn)=n
      rw [lM,List.length_append,List.length_singleton,Nat.pow_succ]
      rw [show 9-i=(9-(i+1))+1 by omega,Nat.pow_succ] at BB
      have jX:=Nat.div_add_mod r 10
      simp only [val,Nat.mul_zero,Nat.add_zero]
      generalize r / 10=r1 at*
      generalize r%10=d at*
      generalize 10^c.length=P at*
      generalize 10^(9-(i+1))=Q at*
      generalize val 10 c=V at*
      clear hL gP hr M6 bS stop
      subst jX
      grind
     ·intro h1 h2
      have h2:r / 10=0:=h2
      refine EI (FI.append (fun x hx=>by simp at hx;omega)) ?_
      intro _
      have:0<r:=by rcases pz with h | h;omega;exact h
      simp
      omega
    by_cases yL:0<qn
    ·rw [decide_eq_true (show (0:Int)<(l2:Int) by omega)]
     simp only [QH,eZ,Hl,dA,ah,fy,Hm]
     exact step (.inl yL)
    ·rw [decide_eq_false (show ¬(0:Int)<(l2:Int) by omega)]
     simp only [QH,dO,fe,ah]
     by_cases qB:0<r
     ·rw [decide_eq_true (show (0:Int)<(r:Int) by omega)]
      simp only [Hl,fy,cY,ah,Hm,dA]
      exact step (.inr qB)
     ·rw [decide_eq_false (show ¬(0:Int)<(r:Int) by omega)]
      simp only [Hl,fy,cY,ah,Hm,dA,dp]
      exact stop (by omega) (.inr (by omega))
   ·have:i=9:=by omega
    subst this
    rw [decide_eq_false (show ¬((9:Nat):Int)<9 by omega)]
    simp only [ahd,iz,QH,u7,Hl,Hm,cY,ah,dp]
    exact stop (by simpa using hr) (.inl rfl)
  ·have mP:m=0:=by omega
   subst mP
   have hc:=A9 rfl
   rw [Nat.mul_zero,Nat.add_zero] at bS
   have hb:b=rp n:=Canon.unique (by decide) hc (Mb n).1 (by rw [bS,(Mb n).2])
   have Zt:b≠[]:=by rintro rfl;simp [val] at bS;omega
   have vX:b.length≤2000:=by
    have h1:=Canon.low (by decide) hc Zt
    have h2:=abc (b:=b.length-1) (m:=1) (n:=n) (by decide) (by omega) la
    omega
   rw [ayv]
   obtain ⟨id,gD,hv,hg⟩:∃id,h.length≤id∧bv=sl 5 id 0 (b.map kK).length∧hx[id]?=some (.arr 5 ((b.map kK).map cv)):=by
    rcases gQ with ⟨_,h0⟩ | ⟨id,h1,h2,h3⟩
    ·exact absurd (by simpa using h0) Zt
    ·exact ⟨id,h1,by simpa using h2,h3⟩
   rw [hv]
   refine aiJ hg (by simp;omega) ?_
   have asE:=(List.getElem?_eq_some_iff.1 hg).1
   have b2:rH (Go.Proofs.YtelmdbpaoifmoaaGreat.hb hx id (b.map kK).reverse) (sl 5 id 0 (b.map kK).length)=some (S (b.map kK).reverse):=by
    refine xX (b:=0) (e:=5) (l:=(b.map kK).reverse) (.inr ⟨id,Nat.zero_le _,by simp,?_⟩)
    rw [Fq asE]
   simp only [b2,ah]
   have:(b.map kK).reverse=lj n:=by unfold lj;rw [if_neg (by omega),hb]
   rw [this]
   exact hk _ (hex.set gD _)

end Go.Proofs.YtelmdbpaoifmoaaGreat


namespace Go.Proofs.YtelmdbpaoifmoaaGreat
open Go.Sim
variable (P : Program) (K : VK)
/-! F20: pommel/pommelref01.Whole -/
noncomputable section
variable (v0 : Value) (h : ae)
def acA:=bw Tryz.prog 20 [[],[]]
@[irreducible] def Wn:=bE acA
theorem k20:acA=some (7,Wn,[.cell true 4 2]):=by kernel_rfl
def Kk:Prop:=
 OH (aX 37 [(.bool false),(.slice none 0 0),(.bool false),(.slice none 0 0)] h) fun x2 h_1=>
 ak P 55 [v0] h_1 fun x4 h_2=>
 ak P 55 [(.int .i64 (1))] h_2 fun x5 h_3=>
 OP (cT [(.bool false),(.slice none 0 0),(.bool false),(.slice none 0 0)] [(0,2,x4),(2,2,x5)]) fun x6=>
 OH (aI 4 h_3 x2 x6) fun _ h_4=>
 OP (af true 4 h_4 x2) fun r0=>
 K r0 h_4
theorem e20:aj P Wn (aR [.cell true 4 2] K) (bp [v0]) h=Kk P K v0 h:=by kernel_rfl
theorem f20 {K:VK} {v0:Value} {h:ae} (H:Kk Tryz.prog K v0 h):ak Tryz.prog 20 [v0] h K:=
 bF k20 (Nat.le_of_ble_eq_true rfl) ((e20 Tryz.prog K v0 h).mpr H)
end
/-! F26: pommel/pommelref01.AddQ -/
noncomputable section
variable (a0 b1 : Value) (h : ae)
def acD:=bw Tryz.prog 26 [[],[]]
@[irreducible] def Wq:=bE acD
theorem k26:acD=some (22,Wq,[.cell true 4 4]):=by kernel_rfl
def Kn:Prop:=
 OH (bk 37 h a0) fun a2 h_1=>
 OH (bk 37 h_1 b1) fun b3 h_2=>
 OH (aX 37 [(.bool false),(.slice none 0 0),(.bool false),(.slice none 0 0)] h_2) fun x4 h_3=>
 OP (aK 0 a2) fun x5=>
 OP (af true 2 h_3 x5) fun x6=>
 (True)∧
 OP (aK 2 b3) fun x7=>
 OP (af true 2 h_3 x7) fun x8=>
 (True)∧
 ak P 71 [x6,x8] h_3 fun x9 h_4=>
 (True)∧
 OP (aK 0 b3) fun aG=>
 OP (af true 2 h_4 aG) fun ay=>
 (af true 2 h_3 aG=some ay∧True)∧
 OP (aK 2 a2) fun az=>
 OP (af true 2 h_4 az) fun aA=>
 (af true 2 h_3 az=some aA∧True)∧
 ak P 71 [ay,aA] h_4 fun aP h_5=>
 (True)∧
 ak P 70 [x9,aP] h_5 fun bc h_6=>
 (True)∧
 OP (aK 2 a2) fun a9=>
 OP (af true 2 h_6 a9) fun bQ=>
 (af true 2 h_3 a9=some bQ∧af true 2 h_4 a9=some bQ∧af true 2 h_5 a9=some bQ∧True)∧
 OP (aK 2 b3) fun aQ=>
 OP (af true 2 h_6 aQ) fun aN=>
 (af true 2 h_3 aQ=some aN∧af true 2 h_4 aQ=some aN∧af true 2 h_5 aQ=some aN∧True)∧
 ak P 71 [bQ,aN] h_6 fun aW h_7=>
 (True)∧
 OP (cT [(.bool false),(.slice none 0 0),(.bool false),(.slice none 0 0)] [(0,2,bc),(2,2,aW)]) fun bm=>
 OH (aI 4 h_7 x4 bm) fun _ h_8=>
 (True)∧
 OP (af true 4 h_8 x4) fun r0=>
 K r0 h_8
theorem e26:aj P Wq (aR [.cell true 4 4] K) (bp [a0,b1]) h=Kn P K a0 b1 h:=by kernel_rfl
theorem f26 {K:VK} {a0 b1:Value} {h:ae} (H:Kn Tryz.prog K a0 b1 h):ak Tryz.prog 26 [a0,b1] h K:=
 bF k26 (Nat.le_of_ble_eq_true rfl) ((e26 Tryz.prog K a0 b1 h).mpr H)
end
/-! F27: pommel/pommelref01.MulQ -/
noncomputable section
variable (a0 b1 : Value) (h : ae)
def acE:=bw Tryz.prog 27 [[],[]]
@[irreducible] def Wr:=bE acE
theorem k27:acE=some (16,Wr,[.cell true 4 4]):=by kernel_rfl
def Ko:Prop:=
 OH (bk 37 h a0) fun a2 h_1=>
 OH (bk 37 h_1 b1) fun b3 h_2=>
 OH (aX 37 [(.bool false),(.slice none 0 0),(.bool false),(.slice none 0 0)] h_2) fun x4 h_3=>
 OP (aK 0 a2) fun x5=>
 OP (af true 2 h_3 x5) fun x6=>
 (True)∧
 OP (aK 0 b3) fun x7=>
 OP (af true 2 h_3 x7) fun x8=>
 (True)∧
 ak P 71 [x6,x8] h_3 fun x9 h_4=>
 (True)∧
 OP (aK 2 a2) fun aG=>
 OP (af true 2 h_4 aG) fun ay=>
 (af true 2 h_3 aG=some ay∧True)∧
 OP (aK 2 b3) fun az=>
 OP (af true 2 h_4 az) fun aA=>
 (af true 2 h_3 az=some aA∧True)∧
 ak P 71 [ay,aA] h_4 fun aP h_5=>
 (True)∧
 OP (cT [(.bool false),(.slice none 0 0),(.bool false),(.slice none 0 0)] [(0,2,x9),(2,2,aP)]) fun bc=>
 OH (aI 4 h_5 x4 bc) fun _ h_6=>
 (True)∧
 OP (af true 4 h_6 x4) fun r0=>
 K r0 h_6
theorem e27:aj P Wr (aR [.cell true 4 4] K) (bp [a0,b1]) h=Ko P K a0 b1 h:=by kernel_rfl
theorem f27 {K:VK} {a0 b1:Value} {h:ae} (H:Ko Tryz.prog K a0 b1 h):ak Tryz.prog 27 [a0,b1] h K:=
 bF k27 (Nat.le_of_ble_eq_true rfl) ((e27 Tryz.prog K a0 b1 h).mpr H)
end
/-! F28: pommel/pommelref01.Of -/
noncomputable section
variable (x0 : Value) (h : ae)
def acF:=bw Tryz.prog 28 [[],[],[]]
@[irreducible] def Ws:=bE acF
theorem k28:acF=some (11,Ws,[.cell true 4 2]):=by kernel_rfl
def Kp:Prop:=
 OH (aX 37 [(.bool false),(.slice none 0 0),(.bool false),(.slice none 0 0)] h) fun x2 h_1=>
 ak P 67 [x0] h_1 fun x7 h_2=>
 OP (cC 0 x7) fun x8=>
 OP (cC 1 x7) fun _=>
 OH (aX 37 [(.bool false),(.slice none 0 0),(.bool false),(.slice none 0 0)] h_2) fun q3 h_3=>
 OH (aI 4 h_3 q3 x8) fun _ h_4=>
 OP (af true 4 h_4 q3) fun aG=>
 OH (aI 4 h_4 x2 aG) fun _ h_5=>
 OP (af true 4 h_5 x2) fun r0=>
 K r0 h_5
theorem e28:aj P Ws (aR [.cell true 4 2] K) (bp [x0]) h=Kp P K x0 h:=by kernel_rfl
theorem f28 {K:VK} {x0:Value} {h:ae} (H:Kp Tryz.prog K x0 h):ak Tryz.prog 28 [x0] h K:=
 bF k28 (Nat.le_of_ble_eq_true rfl) ((e28 Tryz.prog K x0 h).mpr H)
end
/-! F48: pommel/pommelref01.Sign -/
noncomputable section
variable (a0 : Value) (h : ae)
def acN:=bw Tryz.prog 48 [[],[],[],[],[],[],[],[]]
@[irreducible] def WR:=bE acN
theorem k48:acN=some (9,WR,[.tmp 2]):=by kernel_rfl
def Kx (_:Program) (K:VK) (a0:Value) (h:ae):Prop:=
 OH (bk 35 h a0) fun a1 h_1=>
 OP (aK 1 a1) fun x3=>
 OP (af false 1 h_1 x3) fun x4=>
 OP (aY x4) fun x5=>
 OP (ai .eql x5 (.int .i64 (0))) fun x6=>
 aM x6
 (K (.int .i64 (0)) h_1)
 (OP (aK 0 a1) fun x7=>
 OP (af false 1 h_1 x7) fun x8=>
 aM x8
 (K (.int .i64 (-1)) h_1)
 (K (.int .i64 (1)) h_1))
theorem e48:aj P WR (aR [.tmp 2] K) (bp [a0]) h=Kx P K a0 h:=by kernel_rfl
theorem f48 {K:VK} {a0:Value} {h:ae} (H:Kx Tryz.prog K a0 h):ak Tryz.prog 48 [a0] h K:=
 bF k48 (Nat.le_of_ble_eq_true rfl) ((e48 Tryz.prog K a0 h).mpr H)
end
/-! F55: pommel/pommelref01.Int -/
noncomputable section
variable (v0 x2 z3 d4 : Value) (L1 : LQ) (xs : List Value) (h : ae)
def acS:=bw Tryz.prog 55 [[],[],[2,3],[0],[],[],[],[],[0,2,3,4],[],[2,3],[]]
@[irreducible] def Eh:=bE acS
@[irreducible] def WW:=Eh.r.r.l.l.l
@[irreducible] def WV:=Eh.r.r.r
@[irreducible] def aoO:=WW.r.l.r.r.l
@[irreducible] def aoP:=WV.l
theorem k55:acS=some (25,Eh,[.cell true 2 2]):=by kernel_rfl
def Jh (_P:Program) (K:VK):ar:=aR [.cell true 2 2] K
def alr:ar:=aD (aj P WV (Jh P K)) (Jh P K)
def als:ar:=bz 0 (alr P K)
def Tu:ar:=aD (fun f' aS=>(([2,3]:List Nat).map f':List Value)=[x2,z3]∧L1 (([0]:List Nat).map f') aS) (als P K)
def alu:ar:=bz 1 (Tu P K x2 z3 L1)
def ae7:Prop:=av (aj P WW (Tu P K x2 z3 L1)) ([2,3]++[0]) ([x2,z3]++xs) h
def GZ:Prop:=av (aj P aoO (alu P K x2 z3 L1)) [0,2,3,4] [v0,x2,z3,d4] h
def ae6:Prop:=av (aj P aoP (Jh P K)) [2,3] [x2,z3] h
theorem axB:GZ P K v0 x2 z3 d4 L1 h=
 (OP (aK 1 z3) fun a9=>
 OP (af false 1 h a9) fun bQ=>
 OH (dh 3 1 [(.int .i64 (0))] h [(0,1,d4)]) fun aN h_1=>
 OH (dj 3 1 8 h_1 bQ aN) fun aW h_2=>
 OP (aK 1 z3) fun bm=>
 OH (aI 1 h_2 bm aW) fun _ h_3=>
 OP (ai .quo v0 (.int .i64 (10000))) fun cF=>
 ([x2,z3]:List Value)=[x2,z3]∧L1 [cF] h_3):=ax (by kernel_rfl)
theorem axD (x2 z3:Value) (L1:LQ) (v0:Value) (h:ae):ae7 P K x2 z3 L1 [v0] h=
 (OP (ai .neq v0 (.int .i64 (0))) fun x9=>
 aM x9
 (OP (ai .rem v0 (.int .i64 (10000))) fun ay=>
 OP (ai .lss ay (.int .i64 (0))) fun aA=>
 aM aA
 (OP (fA .neg ay) fun bc=>
 GZ P K v0 x2 z3 bc L1 h)
 (GZ P K v0 x2 z3 ay L1 h))
 (ae6 P K x2 z3 h)):=ax (by kernel_rfl)
theorem axC:ae6 P K x2 z3 h=
 (OP (af true 2 h z3) fun bM=>
 OH (aI 2 h x2 bM) fun _ h_1=>
 OP (af true 2 h_1 x2) fun r0=>
 K r0 h_1):=ax (by kernel_rfl)
def KC:Prop:=
 OH (aX 35 [(.bool false),(.slice none 0 0)] h) fun x2 h_1=>
 OP (ai .lss v0 (.int .i64 (0))) fun x6=>
 OP (cT [(.bool false),(.slice none 0 0)] [(0,1,x6)]) fun x7=>
 OH (aX 35 [(.bool false),(.slice none 0 0)] h_1) fun z3 h_2=>
 OH (aI 2 h_2 z3 x7) fun _ h_3=>
 cG [v0] h_3 fun L1 xs hx=>
 ae7 P K x2 z3 L1 xs hx
theorem e55:aj P Eh (aR [.cell true 2 2] K) (bp [v0]) h=KC P K v0 h:=by kernel_rfl
theorem f55 {K:VK} {v0:Value} {h:ae} (H:KC Tryz.prog K v0 h):ak Tryz.prog 55 [v0] h K:=
 bF k55 (Nat.le_of_ble_eq_true rfl) ((e55 Tryz.prog K v0 h).mpr H)
end
/-! F67: pommel/pommelref01.Parse -/
noncomputable section
variable (x0 x2 s4 x5 x6 i7 n8 x9 d10 bm bM eY gK fc gY : Value) (L1 : LQ) (xs : List Value) (h : ae)
def acW:=bw Tryz.prog 67 [[],[],[],[],[],[2,4,5,21],[2,4,5,21,24],[],[2,4,5],[],[],[2,4,5],[6,7],[],[],[],[2,4,5,6,7],[2,4,5,6],[],[],[],[],[],[],[],[2,5,8,9,10],[2,5,8,10,82],[2,5,8,10,82,84],[2,5,8,10,82,84,88],[2,5,8,10,82,89],[],[],[],[],[2,8,10],[]]
@[irreducible] def Ay:=bE acW
@[irreducible] def Xb:=Ay.r.r.r.l.l.r.l
@[irreducible] def ao1:=Ay.r.r.r.l.r
@[irreducible] def Xa:=Ay.r.r.r.r
@[irreducible] def aoW:=Xb.r.l
@[irreducible] def LG:=Xa.l
@[irreducible] def W4:=LG.r.l.r.l.l
@[irreducible] def W3:=LG.r.r
@[irreducible] def aoX:=W4.r.r.l
@[irreducible] def W5:=W3.l
@[irreducible] def El:=W5.r.r.r.l
@[irreducible] def W7:=El.l.l.r.l
@[irreducible] def aoY:=El.l.r
@[irreducible] def W6:=El.r
@[irreducible] def W8:=W7.r.l
@[irreducible] def ao0:=W6.r.l
@[irreducible] def W9:=W8.r.l
@[irreducible] def aoZ:=W9.r.l
theorem k67:acW=some (98,Ay,[.cell true 4 2,.tmp 3]):=by kernel_rfl
def ra (_P:Program) (K:VK):ar:=aR [.cell true 4 2,.tmp 3] K
def Tz:ar:=aD (aj P Xa (ra P K)) (ra P K)
def TA:ar:=aD (aj P ao1 (Tz P K)) (Tz P K)
def alB:ar:=aD (aj P W3 (ra P K)) (ra P K)
def alC:ar:=bz 0 (alB P K)
def Tx:ar:=aD (fun f' aS=>(([2,4,5]:List Nat).map f':List Value)=[x2,s4,x5]∧L1 (([6,7]:List Nat).map f') aS) (alC P K)
def Ty:ar:=aD (aj P W6 (ra P K)) (ra P K)
def C8:ar:=aD (aj P aoY (Ty P K)) (Ty P K)
def afg:Prop:=av (aj P Xb (TA P K)) [2,4,5,21] [x2,s4,x5,bm] h
def PX:Prop:=av (aj P aoW (TA P K)) [2,4,5,21,24] [x2,s4,x5,bm,bM] h
def G0:Prop:=av (aj P LG (ra P K)) [2,4,5] [x2,s4,x5] h
def afd:Prop:=av (aj P W4 (Tx P K x2 s4 x5 L1)) ([2,4,5]++[6,7]) ([x2,s4,x5]++xs) h
def PY:Prop:=av (aj P aoX (Tx P K x2 s4 x5 L1)) [2,4,5,6,7] [x2,s4,x5,x6,i7] h
def afe:Prop:=av (aj P W5 (ra P K)) [2,4,5,6] [x2,s4,x5,x6] h
def xm:Prop:=av (aj P El (ra P K)) [2,5,8,9,10] [x2,x5,n8,x9,d10] h
def aff:Prop:=av (aj P W7 (C8 P K)) [2,5,8,10,82] [x2,x5,n8,d10,eY] h
def PZ:Prop:=av (aj P W8 (C8 P K)) [2,5,8,10,82,84] [x2,x5,n8,d10,eY,gK] h
def P0:Prop:=av (aj P W9 (C8 P K)) [2,5,8,10,82,84,88] [x2,x5,n8,d10,eY,gK,fc] h
def Ce:Prop:=av (aj P aoZ (C8 P K)) [2,5,8,10,82,89] [x2,x5,n8,d10,eY,gY] h
def P1:Prop:=av (aj P ao0 (ra P K)) [2,8,10] [x2,n8,d10] h
theorem ag1:PX P K x2 s4 x5 bm bM h=
 (OP (bL bm bM (.bool false)) fun bt=>
 aM bt
 (OP (jK s4 (some (.int .i64 (1))) none) fun bD=>
 G0 P K x2 bD (.bool true) h)
 (G0 P K x2 s4 x5 h)):=ax (by kernel_rfl)
theorem axQ:afg P K x2 s4 x5 bm h=
 (bZ bm true
 (OP (iT s4 (.int .i64 (0))) fun cF=>
 OP (ai .eql cF (.int .u8 (45))) fun bM=>
 PX P K x2 s4 x5 bm bM h)
 (PX P K x2 s4 x5 bm undef h)):=ax (by kernel_rfl)
theorem axM:PY P K x2 s4 x5 x6 i7 L1 h=
 (OP (ai .sub i7 (.int .i64 (1))) fun cJ=>
 ([x2,s4,x5]:List Value)=[x2,s4,x5]∧L1 [x6,cJ] h):=ax (by kernel_rfl)
theorem axL (x2 s4 x5:Value) (L1:LQ) (x6 i7:Value) (h:ae):afd P K x2 s4 x5 L1 [x6,i7] h=
 (OP (ai .geq i7 (.int .i64 (0))) fun bX=>
 aM bX
 (OP (iT s4 i7) fun dR=>
 OP (ai .eql dR (.int .u8 (47))) fun dJ=>
 aM dJ
 (PY P K x2 s4 x5 i7 i7 L1 h)
 (PY P K x2 s4 x5 x6 i7 L1 h))
 (afe P K x2 s4 x5 x6 h)):=ax (by kernel_rfl)
theorem ag3:Ce P K x2 x5 n8 d10 eY gY h=
 (OP (bL eY (.bool true) gY) fun kW=>
 aM kW
 (OP (cT [(.bool false),(.slice none 0 0),(.bool false),(.slice none 0 0)] []) fun hZ=>
 OH (aI 4 h x2 hZ) fun _ h_1=>
 OP (af true 4 h_1 x2) fun r0=>
 K (.tuple #[r0,(.bool false)]) h_1)
 (aM x5
 (OP (af true 2 h n8) fun tF=>
 ak P 95 [tF] h fun RG h_1=>
 OH (aI 2 h_1 n8 RG) fun _ h_2=>
 P1 P K x2 n8 d10 h_2)
 (P1 P K x2 n8 d10 h))):=ax (by kernel_rfl)
theorem QF:P0 P K x2 x5 n8 d10 eY gK fc h=
 (bZ eY false
 (OP (bL gK fc (.bool false)) fun gY=>
 Ce P K x2 x5 n8 d10 eY gY h)
 (Ce P K x2 x5 n8 d10 eY undef h)):=ax (by kernel_rfl)
theorem ag2:PZ P K x2 x5 n8 d10 eY gK h=
 (bZ gK true
 (OP (aK 1 n8) fun ke=>
 OP (af false 1 h ke) fun kV=>
 OP (aY kV) fun tE=>
 OP (ai .eql tE (.int .i64 (0))) fun fc=>
 P0 P K x2 x5 n8 d10 eY gK fc h)
 (P0 P K x2 x5 n8 d10 eY gK undef h)):=ax (by kernel_rfl)
theorem axP:aff P K x2 x5 n8 d10 eY h=
 (bZ eY false
 (PZ P K x2 x5 n8 d10 eY x5 h)
 (PZ P K x2 x5 n8 d10 eY undef h)):=ax (by kernel_rfl)
theorem ag4:P1 P K x2 n8 d10 h=
 (OP (af true 2 h n8) fun zU=>
 OP (af true 2 h d10) fun RH=>
 OP (cT [(.bool false),(.slice none 0 0),(.bool false),(.slice none 0 0)] [(0,2,zU),(2,2,RH)]) fun CD=>
 OH (aI 4 h x2 CD) fun _ h_1=>
 OP (af true 4 h_1 x2) fun r0=>
 K (.tuple #[r0,(.bool true)]) h_1):=ax (by kernel_rfl)
theorem axO:xm P K x2 x5 n8 x9 d10 h=
 (OP (fA .not x9) fun hY=>
 aff P K x2 x5 n8 d10 hY h):=ax (by kernel_rfl)
theorem axN:afe P K x2 s4 x5 x6 h=
 (OP (jK s4 none (some x6)) fun cj=>
 ak P 99 [cj] h fun cd h_1=>
 OP (cC 0 cd) fun gU=>
 OP (cC 1 cd) fun eX=>
 OH (aX 35 [(.bool false),(.slice none 0 0)] h_1) fun n8 h_2=>
 OH (aI 2 h_2 n8 gU) fun _ h_3=>
 ak P 55 [(.int .i64 (1))] h_3 fun fT h_4=>
 OH (aX 35 [(.bool false),(.slice none 0 0)] h_4) fun d10 h_5=>
 OH (aI 2 h_5 d10 fT) fun _ h_6=>
 OP (fS s4) fun dS=>
 OP (ai .lss x6 dS) fun jB=>
 aM jB
 (OP (ai .add x6 (.int .i64 (1))) fun dK=>
 OP (jK s4 (some dK) none) fun gV=>
 ak P 99 [gV] h_6 fun eQ h_7=>
 OP (cC 0 eQ) fun gJ=>
 OP (cC 1 eQ) fun hX=>
 OH (aX 35 [(.bool false),(.slice none 0 0)] h_7) fun ay h_8=>
 OH (aI 2 h_8 ay gJ) fun _ h_9=>
 OP (fA .not hX) fun iL=>
 bZ iL false
 (OP (af true 2 h_9 ay) fun fv=>
 (True)∧
 ak P 55 [(.int .i64 (2))] h_9 fun oN h_10=>
 (af true 2 h_10 ay=some fv∧True)∧
 ak P 72 [fv,oN] h_10 fun fK h_11=>
 (True)∧
 OP (ai .lss fK (.int .i64 (0))) fun gj=>
 OP (bL iL (.bool true) gj) fun gw=>
 bZ gw false
 (OP (af true 2 h_11 n8) fun gX=>
 (True)∧
 OP (af true 2 h_11 ay) fun lO=>
 (True)∧
 ak P 68 [gX,lO] h_11 fun qY h_12=>
 (True)∧
 ak P 55 [(.int .i64 (1))] h_12 fun jQ h_13=>
 (True)∧
 ak P 72 [qY,jQ] h_13 fun iM h_14=>
 (True)∧
 OP (ai .neq iM (.int .i64 (0))) fun gy=>
 OP (bL gw (.bool true) gy) fun jm=>
 aM jm
 (OP (cT [(.bool false),(.slice none 0 0),(.bool false),(.slice none 0 0)] []) fun eB=>
 OH (aI 4 h_14 x2 eB) fun _ h_15=>
 OP (af true 4 h_15 x2) fun r0=>
 K (.tuple #[r0,(.bool false)]) h_15)
 (OP (af true 2 h_14 ay) fun iX=>
 OH (aI 2 h_14 d10 iX) fun _ h_15=>
 xm P K x2 x5 n8 eX d10 h_15))
 ((True)∧
 (True)∧
 (True)∧
 OP (bL gw (.bool true) undef) fun jm=>
 aM jm
 (OP (cT [(.bool false),(.slice none 0 0),(.bool false),(.slice none 0 0)] []) fun eB=>
 OH (aI 4 h_11 x2 eB) fun _ h_12=>
 OP (af true 4 h_12 x2) fun r0=>
 K (.tuple #[r0,(.bool false)]) h_12)
 (OP (af true 2 h_11 ay) fun iX=>
 OH (aI 2 h_11 d10 iX) fun _ h_12=>
 xm P K x2 x5 n8 eX d10 h_12)))
 ((True)∧
 (True)∧
 OP (bL iL (.bool true) undef) fun gw=>
 bZ gw false
 (OP (af true 2 h_9 n8) fun gX=>
 (True)∧
 OP (af true 2 h_9 ay) fun lO=>
 (True)∧
 ak P 68 [gX,lO] h_9 fun qY h_10=>
 (True)∧
 ak P 55 [(.int .i64 (1))] h_10 fun jQ h_11=>
 (True)∧
 ak P 72 [qY,jQ] h_11 fun iM h_12=>
 (True)∧
 OP (ai .neq iM (.int .i64 (0))) fun gy=>
 OP (bL gw (.bool true) gy) fun jm=>
 aM jm
 (OP (cT [(.bool false),(.slice none 0 0),(.bool false),(.slice none 0 0)] []) fun eB=>
 OH (aI 4 h_12 x2 eB) fun _ h_13=>
 OP (af true 4 h_13 x2) fun r0=>
 K (.tuple #[r0,(.bool false)]) h_13)
 (OP (af true 2 h_12 ay) fun iX=>
 OH (aI 2 h_12 d10 iX) fun _ h_13=>
 xm P K x2 x5 n8 eX d10 h_13))
 ((True)∧
 (True)∧
 (True)∧
 OP (bL gw (.bool true) undef) fun jm=>
 aM jm
 (OP (cT [(.bool false),(.slice none 0 0),(.bool false),(.slice none 0 0)] []) fun eB=>
 OH (aI 4 h_9 x2 eB) fun _ h_10=>
 OP (af true 4 h_10 x2) fun r0=>
 K (.tuple #[r0,(.bool false)]) h_10)
 (OP (af true 2 h_9 ay) fun iX=>
 OH (aI 2 h_9 d10 iX) fun _ h_10=>
 xm P K x2 x5 n8 eX d10 h_10))))
 (xm P K x2 x5 n8 eX d10 h_6)):=ax (by kernel_rfl)
theorem axK:G0 P K x2 s4 x5 h=
 (OP (fS s4) fun cA=>
 OP (fS s4) fun ca=>
 OP (ai .sub ca (.int .i64 (1))) fun cO=>
 cG [cA,cO] h fun L1 xs hx=>
 afd P K x2 s4 x5 L1 xs hx):=ax (by kernel_rfl)
def KF:Prop:=
 OH (aX 37 [(.bool false),(.slice none 0 0),(.bool false),(.slice none 0 0)] h) fun x2 h_1=>
 OP (fS x0) fun bc=>
 OP (ai .gtr bc (.int .i64 (8002))) fun a9=>
 aM a9
 (OP (cT [(.bool false),(.slice none 0 0),(.bool false),(.slice none 0 0)] []) fun bQ=>
 OH (aI 4 h_1 x2 bQ) fun _ h_2=>
 OP (af true 4 h_2 x2) fun r0=>
 K (.tuple #[r0,(.bool false)]) h_2)
 (OP (fS x0) fun aN=>
 OP (ai .gtr aN (.int .i64 (0))) fun aW=>
 afg P K x2 x0 (.bool false) aW h_1)
theorem e67:aj P Ay (aR [.cell true 4 2,.tmp 3] K) (bp [x0]) h=KF P K x0 h:=by kernel_rfl
theorem f67 {K:VK} {x0:Value} {h:ae} (H:KF Tryz.prog K x0 h):ak Tryz.prog 67 [x0] h K:=
 bF k67 (Nat.le_of_ble_eq_true rfl) ((e67 Tryz.prog K x0 h).mpr H)
end
/-! F70: pommel/pommelref01.Add -/
noncomputable section
variable (a0 b1 : Value) (h : ae)
def acZ:=bw Tryz.prog 70 [[],[],[],[],[],[],[],[]]
@[irreducible] def Xh:=bE acZ
theorem k70:acZ=some (43,Xh,[.cell true 2 4]):=by kernel_rfl
def KI:Prop:=
 OH (bk 35 h a0) fun a2 h_1=>
 OH (bk 35 h_1 b1) fun b3 h_2=>
 OH (aX 35 [(.bool false),(.slice none 0 0)] h_2) fun x4 h_3=>
 OP (aK 0 a2) fun x5=>
 OP (af false 1 h_3 x5) fun x6=>
 OP (aK 0 b3) fun x7=>
 OP (af false 1 h_3 x7) fun x8=>
 OP (rI false x6 x8) fun x9=>
 aM x9
 (OP (aK 0 a2) fun aG=>
 OP (af false 1 h_3 aG) fun ay=>
 (True)∧
 OP (aK 1 a2) fun az=>
 OP (af false 1 h_3 az) fun aA=>
 (True)∧
 OP (aK 1 b3) fun aP=>
 OP (af false 1 h_3 aP) fun bc=>
 (True)∧
 ak P 104 [aA,bc] h_3 fun a9 h_4=>
 (af false 1 h_4 aG=some ay∧True)∧
 OP (cT [(.bool false),(.slice none 0 0)] [(0,1,ay),(1,1,a9)]) fun bQ=>
 ak P 100 [bQ] h_4 fun aQ h_5=>
 (True)∧
 OH (aI 2 h_5 x4 aQ) fun _ h_6=>
 (True)∧
 OP (af true 2 h_6 x4) fun r0=>
 K r0 h_6)
 (OP (aK 1 a2) fun aN=>
 OP (af false 1 h_3 aN) fun aW=>
 OP (aK 1 b3) fun bm=>
 OP (af false 1 h_3 bm) fun bJ=>
 ak P 101 [aW,bJ] h_3 fun cF h_4=>
 OP (ai .geq cF (.int .i64 (0))) fun bM=>
 aM bM
 (OP (aK 0 a2) fun bt=>
 OP (af false 1 h_4 bt) fun bC=>
 (True)∧
 OP (aK 1 a2) fun bD=>
 OP (af false 1 h_4 bD) fun bU=>
 (True)∧
 OP (aK 1 b3) fun cA=>
 OP (af false 1 h_4 cA) fun cR=>
 (True)∧
 ak P 103 [bU,cR] h_4 fun ca h_5=>
 (af false 1 h_5 bt=some bC∧True)∧
 OP (cT [(.bool false),(.slice none 0 0)] [(0,1,bC),(1,1,ca)]) fun cO=>
 ak P 100 [cO] h_5 fun dI h_6=>
 (True)∧
 OH (aI 2 h_6 x4 dI) fun _ h_7=>
 (True)∧
 OP (af true 2 h_7 x4) fun r0=>
 K r0 h_7)
 (OP (aK 0 b3) fun bX=>
 OP (af false 1 h_4 bX) fun dd=>
 (True)∧
 OP (aK 1 b3) fun cJ=>
 OP (af false 1 h_4 cJ) fun dT=>
 (True)∧
 OP (aK 1 a2) fun cV=>
 OP (af false 1 h_4 cV) fun dR=>
 (True)∧
 ak P 103 [dT,dR] h_4 fun dJ h_5=>
 (af false 1 h_5 bX=some dd∧True)∧
 OP (cT [(.bool false),(.slice none 0 0)] [(0,1,dd),(1,1,dJ)]) fun dC=>
 ak P 100 [dC] h_5 fun dn h_6=>
 (True)∧
 OH (aI 2 h_6 x4 dn) fun _ h_7=>
 (True)∧
 OP (af true 2 h_7 x4) fun r0=>
 K r0 h_7))
theorem e70:aj P Xh (aR [.cell true 2 4] K) (bp [a0,b1]) h=KI P K a0 b1 h:=by kernel_rfl
theorem f70 {K:VK} {a0 b1:Value} {h:ae} (H:KI Tryz.prog K a0 b1 h):ak Tryz.prog 70 [a0,b1] h K:=
 bF k70 (Nat.le_of_ble_eq_true rfl) ((e70 Tryz.prog K a0 b1 h).mpr H)
end
/-! F71: pommel/pommelref01.Mul -/
noncomputable section
variable (a0 b1 a2 b3 x4 x5 i6 x7 k8 s9 ca dI : Value) (L1 L2 : LQ) (xs : List Value) (h : ae)
def ac0:=bw Tryz.prog 71 [[],[],[],[2,3,4,5],[6],[],[],[],[],[2,3,4,5,6],[7,8],[2,3,4,5,6,7,8,31],[2,3,4,5,6,7,8,31,33],[],[],[],[],[2,3,4,5,6,8,9],[2,3,4,5,6,7,8],[2,3,4,5,6],[2,3,4,5],[]]
@[irreducible] def Er:=bE ac0
@[irreducible] def LI:=Er.r.r.l.r.l.l
@[irreducible] def Xk:=Er.r.r.r
@[irreducible] def Es:=LI.r.l.l.r.r.l.l
@[irreducible] def Xl:=LI.r.r
@[irreducible] def apf:=Xk.l
@[irreducible] def Xi:=Es.l.l.r.l
@[irreducible] def apa:=Es.l.r
@[irreducible] def LH:=Es.r
@[irreducible] def ape:=Xl.l
@[irreducible] def apb:=Xi.r.l
@[irreducible] def apc:=LH.l.l.r.r.l
@[irreducible] def Xj:=LH.r
@[irreducible] def apd:=Xj.l
theorem k71:ac0=some (80,Er,[.cell true 2 4]):=by kernel_rfl
def Jm (_P:Program) (K:VK):ar:=aR [.cell true 2 4] K
def alQ:ar:=aD (aj P Xk (Jm P K)) (Jm P K)
def alR:ar:=bz 0 (alQ P K)
def Db:ar:=aD (fun f' aS=>(([2,3,4,5]:List Nat).map f':List Value)=[a2,b3,x4,x5]∧L1 (([6]:List Nat).map f') aS) (alR P K)
def alS:ar:=aD (aj P Xl (Db P K a2 b3 x4 x5 L1)) (Db P K a2 b3 x4 x5 L1)
def alM:ar:=bz 1 (alS P K a2 b3 x4 x5 L1)
def alN:ar:=bz 2 (alM P K a2 b3 x4 x5 L1)
def xN:ar:=aD (fun f' aS=>(([2,3,4,5,6]:List Nat).map f':List Value)=[a2,b3,x4,x5,i6]∧L2 (([7,8]:List Nat).map f') aS) (alN P K a2 b3 x4 x5 L1)
def TE:ar:=aD (aj P LH (xN P K a2 b3 x4 x5 i6 L1 L2)) (xN P K a2 b3 x4 x5 i6 L1 L2)
def TF:ar:=aD (aj P apa (TE P K a2 b3 x4 x5 i6 L1 L2)) (TE P K a2 b3 x4 x5 i6 L1 L2)
def alO:ar:=aD (aj P Xj (xN P K a2 b3 x4 x5 i6 L1 L2)) (xN P K a2 b3 x4 x5 i6 L1 L2)
def alP:ar:=bz 3 (alO P K a2 b3 x4 x5 i6 L1 L2)
def aft:Prop:=av (aj P LI (Db P K a2 b3 x4 x5 L1)) ([2,3,4,5]++[6]) ([a2,b3,x4,x5]++xs) h
def afp:Prop:=av (aj P Es (xN P K a2 b3 x4 x5 i6 L1 L2)) ([2,3,4,5,6]++[7,8]) ([a2,b3,x4,x5,i6]++xs) h
def afq:Prop:=av (aj P Xi (TF P K a2 b3 x4 x5 i6 L1 L2)) [2,3,4,5,6,7,8,31] [a2,b3,x4,x5,i6,x7,k8,ca] h
def P2:Prop:=av (aj P apb (TF P K a2 b3 x4 x5 i6 L1 L2)) [2,3,4,5,6,7,8,31,33] [a2,b3,x4,x5,i6,x7,k8,ca,dI] h
def uK:Prop:=av (aj P apc (alP P K a2 b3 x4 x5 i6 L1 L2)) [2,3,4,5,6,8,9] [a2,b3,x4,x5,i6,k8,s9] h
def afr:Prop:=av (aj P apd (xN P K a2 b3 x4 x5 i6 L1 L2)) [2,3,4,5,6,7,8] [a2,b3,x4,x5,i6,x7,k8] h
def P3:Prop:=av (aj P ape (Db P K a2 b3 x4 x5 L1)) [2,3,4,5,6] [a2,b3,x4,x5,i6] h
def afs:Prop:=av (aj P apf (Jm P K)) [2,3,4,5] [a2,b3,x4,x5] h
theorem ag6:P2 P K a2 b3 x4 x5 i6 x7 k8 ca dI L1 L2 h=
 (OP (bL ca (.bool true) dI) fun bX=>
 aM bX
 (OP (ai .add i6 k8) fun dJ=>
 OP (aU 1 x5 dJ) fun dC=>
 OP (af false 1 h dC) fun dn=>
 OP (ai .add dn x7) fun ba=>
 OP (aK 1 b3) fun cd=>
 OP (af false 1 h cd) fun gU=>
 OP (aY gU) fun eX=>
 OP (ai .lss k8 eX) fun fT=>
 aM fT
 (OP (aK 1 a2) fun eP=>
 OP (af false 1 h eP) fun dS=>
 (True)∧
 OP (aU 1 dS i6) fun cS=>
 OP (af false 1 h cS) fun gv=>
 (True)∧
 OP (aK 1 b3) fun gh=>
 OP (af false 1 h gh) fun dK=>
 (True)∧
 OP (aU 1 dK k8) fun eQ=>
 OP (af false 1 h eQ) fun gJ=>
 (True)∧
 OP (ai .mul gv gJ) fun hX=>
 OP (ai .add ba hX) fun lN=>
 uK P K a2 b3 x4 x5 i6 k8 lN L1 L2 h)
 (uK P K a2 b3 x4 x5 i6 k8 ba L1 L2 h))
 (P3 P K a2 b3 x4 x5 i6 L1 h)):=ax (by kernel_rfl)
theorem ag5:afq P K a2 b3 x4 x5 i6 x7 k8 ca L1 L2 h=
 (bZ ca false
 (OP (ai .gtr x7 (.int .i64 (0))) fun dI=>
 P2 P K a2 b3 x4 x5 i6 x7 k8 ca dI L1 L2 h)
 (P2 P K a2 b3 x4 x5 i6 x7 k8 ca undef L1 L2 h)):=ax (by kernel_rfl)
theorem ax0:uK P K a2 b3 x4 x5 i6 k8 s9 L1 L2 h=
 (OP (ai .add i6 k8) fun oN=>
 OP (ai .rem s9 (.int .i64 (10000))) fun gj=>
 OP (ai .quo s9 (.int .i64 (10000))) fun jP=>
 OP (aU 1 x5 oN) fun gX=>
 OH (aI 1 h gX gj) fun _ h_1=>
 afr P K a2 b3 x4 x5 i6 jP k8 L1 L2 h_1):=ax (by kernel_rfl)
theorem ax1:afr P K a2 b3 x4 x5 i6 x7 k8 L1 L2 h=
 (OP (ai .add k8 (.int .i64 (1))) fun cJ=>
 ([a2,b3,x4,x5,i6]:List Value)=[a2,b3,x4,x5,i6]∧L2 [x7,cJ] h):=ax (by kernel_rfl)
theorem axZ (a2 b3 x4 x5 i6:Value) (L1 L2:LQ) (x7 k8:Value) (h:ae):afp P K a2 b3 x4 x5 i6 L1 L2 [x7,k8] h=
 (OP (aK 1 b3) fun bD=>
 OP (af false 1 h bD) fun bU=>
 OP (aY bU) fun cA=>
 OP (ai .lss k8 cA) fun cR=>
 afq P K a2 b3 x4 x5 i6 x7 k8 cR L1 L2 h):=ax (by kernel_rfl)
theorem ax2:P3 P K a2 b3 x4 x5 i6 L1 h=
 (OP (ai .add i6 (.int .i64 (1))) fun bt=>
 ([a2,b3,x4,x5]:List Value)=[a2,b3,x4,x5]∧L1 [bt] h):=ax (by kernel_rfl)
theorem ax4 (a2 b3 x4 x5:Value) (L1:LQ) (i6:Value) (h:ae):aft P K a2 b3 x4 x5 L1 [i6] h=
 (OP (aK 1 a2) fun aW=>
 OP (af false 1 h aW) fun bm=>
 OP (aY bm) fun bJ=>
 OP (ai .lss i6 bJ) fun cF=>
 aM cF
 (cG [(.int .i64 (0)),(.int .i64 (0))] h fun L2 xs hx=>
 afp P K a2 b3 x4 x5 i6 L1 L2 xs hx)
 (afs P K a2 b3 x4 x5 h)):=ax (by kernel_rfl)
theorem ax3:afs P K a2 b3 x4 x5 h=
 (OP (aK 0 a2) fun lO=>
 OP (af false 1 h lO) fun qY=>
 OP (aK 0 b3) fun jQ=>
 OP (af false 1 h jQ) fun iM=>
 OP (rI true qY iM) fun gy=>
 OP (cT [(.bool false),(.slice none 0 0)] [(0,1,gy),(1,1,x5)]) fun eB=>
 ak P 100 [eB] h fun iX h_1=>
 OH (aI 2 h_1 x4 iX) fun _ h_2=>
 OP (af true 2 h_2 x4) fun r0=>
 K r0 h_2):=ax (by kernel_rfl)
def KJ:Prop:=
 OH (bk 35 h a0) fun a2 h_1=>
 OH (bk 35 h_1 b1) fun b3 h_2=>
 OH (aX 35 [(.bool false),(.slice none 0 0)] h_2) fun x4 h_3=>
 OP (aK 1 a2) fun aG=>
 OP (af false 1 h_3 aG) fun ay=>
 OP (aY ay) fun az=>
 OP (aK 1 b3) fun aA=>
 OP (af false 1 h_3 aA) fun aP=>
 OP (aY aP) fun bc=>
 OP (ai .add az bc) fun a9=>
 OP (ai .add a9 (.int .i64 (1))) fun bQ=>
 OH (kR 3 8 [(.int .i64 (0))] h_3 bQ bQ) fun aQ h_4=>
 cG [(.int .i64 (0))] h_4 fun L1 xs hx=>
 aft P K a2 b3 x4 aQ L1 xs hx
theorem e71:aj P Er (aR [.cell true 2 4] K) (bp [a0,b1]) h=KJ P K a0 b1 h:=by kernel_rfl
theorem f71 {K:VK} {a0 b1:Value} {h:ae} (H:KJ Tryz.prog K a0 b1 h):ak Tryz.prog 71 [a0,b1] h K:=
 bF k71 (Nat.le_of_ble_eq_true rfl) ((e71 Tryz.prog K a0 b1 h).mpr H)
end
/-! F72: pommel/pommelref01.Cmp -/
noncomputable section
variable (a0 b1 : Value) (h : ae)
def ac1:=bw Tryz.prog 72 [[],[]]
@[irreducible] def Xm:=bE ac1
theorem k72:ac1=some (9,Xm,[.tmp 4]):=by kernel_rfl
def KK:Prop:=
 OH (bk 35 h a0) fun a2 h_1=>
 OH (bk 35 h_1 b1) fun b3 h_2=>
 OP (af true 2 h_2 a2) fun x5=>
 OP (af true 2 h_2 b3) fun x6=>
 ak P 92 [x5,x6] h_2 fun x7 h_3=>
 ak P 48 [x7] h_3 fun x8 h_4=>
 K x8 h_4
theorem e72:aj P Xm (aR [.tmp 4] K) (bp [a0,b1]) h=KK P K a0 b1 h:=by kernel_rfl
theorem f72 {K:VK} {a0 b1:Value} {h:ae} (H:KK Tryz.prog K a0 b1 h):ak Tryz.prog 72 [a0,b1] h K:=
 bF k72 (Nat.le_of_ble_eq_true rfl) ((e72 Tryz.prog K a0 b1 h).mpr H)
end
/-! F92: pommel/pommelref01.Sub -/
noncomputable section
variable (a0 b1 : Value) (h : ae)
def adl:=bw Tryz.prog 92 [[],[]]
@[irreducible] def XP:=bE adl
theorem k92:adl=some (9,XP,[.cell true 2 4]):=by kernel_rfl
def K0:Prop:=
 OH (bk 35 h a0) fun a2 h_1=>
 OH (bk 35 h_1 b1) fun b3 h_2=>
 OH (aX 35 [(.bool false),(.slice none 0 0)] h_2) fun x4 h_3=>
 OP (af true 2 h_3 a2) fun x5=>
 (True)∧
 OP (af true 2 h_3 b3) fun x6=>
 (True)∧
 ak P 95 [x6] h_3 fun x7 h_4=>
 (af true 2 h_4 a2=some x5∧True)∧
 ak P 70 [x5,x7] h_4 fun x8 h_5=>
 (True)∧
 OH (aI 2 h_5 x4 x8) fun _ h_6=>
 (True)∧
 OP (af true 2 h_6 x4) fun r0=>
 K r0 h_6
theorem e92:aj P XP (aR [.cell true 2 4] K) (bp [a0,b1]) h=K0 P K a0 b1 h:=by kernel_rfl
theorem f92 {K:VK} {a0 b1:Value} {h:ae} (H:K0 Tryz.prog K a0 b1 h):ak Tryz.prog 92 [a0,b1] h K:=
 bF k92 (Nat.le_of_ble_eq_true rfl) ((e92 Tryz.prog K a0 b1 h).mpr H)
end
/-! F94: pommel/pommelref01.Abs -/
noncomputable section
variable (a0 : Value) (h : ae)
def adm:=bw Tryz.prog 94 [[],[],[]]
@[irreducible] def XQ:=bE adm
theorem k94:adm=some (5,XQ,[.cell true 2 2]):=by kernel_rfl
def K1 (_:Program) (K:VK) (a0:Value) (h:ae):Prop:=
 OH (bk 35 h a0) fun a1 h_1=>
 OH (aX 35 [(.bool false),(.slice none 0 0)] h_1) fun x2 h_2=>
 OP (aK 0 a1) fun x3=>
 OH (aI 1 h_2 x3 (.bool false)) fun _ h_3=>
 OP (af true 2 h_3 a1) fun x4=>
 OH (aI 2 h_3 x2 x4) fun _ h_4=>
 OP (af true 2 h_4 x2) fun r0=>
 K r0 h_4
theorem e94:aj P XQ (aR [.cell true 2 2] K) (bp [a0]) h=K1 P K a0 h:=by kernel_rfl
theorem f94 {K:VK} {a0:Value} {h:ae} (H:K1 Tryz.prog K a0 h):ak Tryz.prog 94 [a0] h K:=
 bF k94 (Nat.le_of_ble_eq_true rfl) ((e94 Tryz.prog K a0 h).mpr H)
end
/-! F95: pommel/pommelref01.Neg -/
noncomputable section
variable (a0 a1 x2 x6 aG : Value) (h : ae)
def adn:=bw Tryz.prog 95 [[],[1,2,6],[1,2,6,10],[],[]]
@[irreducible] def EE:=bE adn
@[irreducible] def XR:=EE.r.l.r.l
@[irreducible] def apO:=EE.r.r
@[irreducible] def apP:=XR.r.l
theorem k95:adn=some (14,EE,[.cell true 2 2]):=by kernel_rfl
def Ua (_P:Program) (K:VK):ar:=aR [.cell true 2 2] K
def Ub:ar:=aD (aj P apO (Ua P K)) (Ua P K)
def afV:Prop:=av (aj P XR (Ub P K)) [1,2,6] [a1,x2,x6] h
def Qe:Prop:=av (aj P apP (Ub P K)) [1,2,6,10] [a1,x2,x6,aG] h
theorem ahf:Qe P K a1 x2 x6 aG h=
 (OP (bL x6 aG (.bool false)) fun ay=>
 OP (aK 0 a1) fun az=>
 OH (aI 1 h az ay) fun _ h_1=>
 OP (af true 2 h_1 a1) fun aA=>
 OH (aI 2 h_1 x2 aA) fun _ h_2=>
 OP (af true 2 h_2 x2) fun r0=>
 K r0 h_2):=ax (by kernel_rfl)
theorem ahe:afV P K a1 x2 x6 h=
 (bZ x6 true
 (OP (aK 1 a1) fun x7=>
 OP (af false 1 h x7) fun x8=>
 OP (aY x8) fun x9=>
 OP (ai .gtr x9 (.int .i64 (0))) fun aG=>
 Qe P K a1 x2 x6 aG h)
 (Qe P K a1 x2 x6 undef h)):=ax (by kernel_rfl)
def K3:Prop:=
 OH (bk 35 h a0) fun a1 h_1=>
 OH (aX 35 [(.bool false),(.slice none 0 0)] h_1) fun x2 h_2=>
 OP (aK 0 a1) fun x3=>
 OP (af false 1 h_2 x3) fun x4=>
 OP (fA .not x4) fun x5=>
 afV P K a1 x2 x5 h_2
theorem e95:aj P EE (aR [.cell true 2 2] K) (bp [a0]) h=K3 P K a0 h:=by kernel_rfl
theorem f95 {K:VK} {a0:Value} {h:ae} (H:K3 Tryz.prog K a0 h):ak Tryz.prog 95 [a0] h K:=
 bF k95 (Nat.le_of_ble_eq_true rfl) ((e95 Tryz.prog K a0 h).mpr H)
end
/-! F99: pommel/pommelref01.digits -/
noncomputable section
variable (s0 x2 z4 x5 d6 i7 ay aP a9 aW cF bM cd dD : Value) (L1 L2 : LQ) (xs : List Value) (h : ae)
def adp:=bw Tryz.prog 99 [[],[0,2,11],[0,2,11,14],[0,2,16],[0,2,16,20],[0,2,16,20,23],[0,2,16,24],[],[],[],[],[],[0,2,4],[5],[],[],[],[],[0,2,4,5],[6,7],[],[],[0,2,4,5,6,7,46],[0,2,4,5,6,7,46,50],[],[],[],[],[0,2,4,5,6],[0,2,4,5],[2,4],[]]
@[irreducible] def AB:=bE adp
@[irreducible] def XZ:=AB.r.l.l.r.l
@[irreducible] def apR:=AB.r.l.r
@[irreducible] def LR:=AB.r.r
@[irreducible] def X0:=XZ.r.l
@[irreducible] def EF:=LR.r.l.r.l.l
@[irreducible] def XV:=LR.r.r
@[irreducible] def X1:=X0.r.l
@[irreducible] def AD:=EF.r.l.l.r.l.r.l.l
@[irreducible] def XX:=EF.r.l.l.r.r
@[irreducible] def XW:=EF.r.r
@[irreducible] def apY:=XV.l
@[irreducible] def XT:=X1.r.l
@[irreducible] def XY:=AD.r.l.l.l.l.r.l
@[irreducible] def apU:=AD.r.l.l.l.r
@[irreducible] def apT:=AD.r.l.l.r
@[irreducible] def apS:=AD.r.r
@[irreducible] def apW:=XX.l
@[irreducible] def apX:=XW.l
@[irreducible] def XU:=XT.r.l
@[irreducible] def apV:=XY.r.l
@[irreducible] def apQ:=XU.r.l
theorem k99:adp=some (69,AB,[.cell true 2 2,.tmp 3]):=by kernel_rfl
def Ah (_P:Program) (K:VK):ar:=aR [.cell true 2 2,.tmp 3] K
def Uc:ar:=aD (aj P LR (Ah P K)) (Ah P K)
def xP:ar:=aD (aj P apR (Uc P K)) (Uc P K)
def amh:ar:=aD (aj P XV (Ah P K)) (Ah P K)
def ami:ar:=bz 0 (amh P K)
def De:ar:=aD (fun f' aS=>(([0,2,4]:List Nat).map f':List Value)=[s0,x2,z4]∧L1 (([5]:List Nat).map f') aS) (ami P K)
def amj:ar:=aD (aj P XW (De P K s0 x2 z4 L1)) (De P K s0 x2 z4 L1)
def Jw:ar:=bz 1 (amj P K s0 x2 z4 L1)
def amk:ar:=aD (aj P XX (Jw P K s0 x2 z4 L1)) (Jw P K s0 x2 z4 L1)
def aml:ar:=bz 2 (amk P K s0 x2 z4 L1)
def Jx:ar:=aD (fun f' aS=>(([0,2,4,5]:List Nat).map f':List Value)=[s0,x2,z4,x5]∧L2 (([6,7]:List Nat).map f') aS) (aml P K s0 x2 z4 L1)
def amm:ar:=aD (aj P apS (Jx P K s0 x2 z4 x5 L1 L2)) (Jx P K s0 x2 z4 x5 L1 L2)
def Ud:ar:=bz 3 (amm P K s0 x2 z4 x5 L1 L2)
def Ue:ar:=aD (aj P apT (Ud P K s0 x2 z4 x5 L1 L2)) (Ud P K s0 x2 z4 x5 L1 L2)
def Uf:ar:=aD (aj P apU (Ue P K s0 x2 z4 x5 L1 L2)) (Ue P K s0 x2 z4 x5 L1 L2)
def af2:Prop:=av (aj P XZ (xP P K)) [0,2,11] [s0,x2,ay] h
def Qi:Prop:=av (aj P X0 (xP P K)) [0,2,11,14] [s0,x2,ay,aP] h
def af3:Prop:=av (aj P X1 (xP P K)) [0,2,16] [s0,x2,a9] h
def Qf:Prop:=av (aj P XT (xP P K)) [0,2,16,20] [s0,x2,a9,aW] h
def Qg:Prop:=av (aj P XU (xP P K)) [0,2,16,20,23] [s0,x2,a9,aW,cF] h
def Cg:Prop:=av (aj P apQ (xP P K)) [0,2,16,24] [s0,x2,a9,bM] h
def afW:Prop:=av (aj P EF (De P K s0 x2 z4 L1)) ([0,2,4]++[5]) ([s0,x2,z4]++xs) h
def afX:Prop:=av (aj P AD (Jx P K s0 x2 z4 x5 L1 L2)) ([0,2,4,5]++[6,7]) ([s0,x2,z4,x5]++xs) h
def afY:Prop:=av (aj P XY (Uf P K s0 x2 z4 x5 L1 L2)) [0,2,4,5,6,7,46] [s0,x2,z4,x5,d6,i7,cd] h
def Qh:Prop:=av (aj P apV (Uf P K s0 x2 z4 x5 L1 L2)) [0,2,4,5,6,7,46,50] [s0,x2,z4,x5,d6,i7,cd,dD] h
def afZ:Prop:=av (aj P apW (Jw P K s0 x2 z4 L1)) [0,2,4,5,6] [s0,x2,z4,x5,d6] h
def af0:Prop:=av (aj P apX (De P K s0 x2 z4 L1)) [0,2,4,5] [s0,x2,z4,x5] h
def af1:Prop:=av (aj P apY (Ah P K)) [2,4] [x2,z4] h
theorem QK:Cg P K s0 x2 a9 bM h=
 (OP (bL a9 (.bool true) bM) fun bt=>
 aM bt
 (OP (cT [(.bool false),(.slice none 0 0)] []) fun bC=>
 OH (aI 2 h x2 bC) fun _ h_1=>
 OP (af true 2 h_1 x2) fun r0=>
 K (.tuple #[r0,(.bool false)]) h_1)
 (OP (cT [(.bool false),(.slice none 0 0)] []) fun bD=>
 OH (aX 35 [(.bool false),(.slice none 0 0)] h) fun z4 h_1=>
 OH (aI 2 h_1 z4 bD) fun _ h_2=>
 OP (fS s0) fun cA=>
 cG [cA] h_2 fun L1 xs hx=>
 afW P K s0 x2 z4 L1 xs hx)):=ax (by kernel_rfl)
theorem Cn:Qg P K s0 x2 a9 aW cF h=
 (bZ a9 false
 (OP (bL aW cF (.bool false)) fun bM=>
 Cg P K s0 x2 a9 bM h)
 (Cg P K s0 x2 a9 undef h)):=ax (by kernel_rfl)
theorem Cm:Qf P K s0 x2 a9 aW h=
 (bZ aW true
 (OP (fS s0) fun bJ=>
 OP (ai .gtr bJ (.int .i64 (1))) fun cF=>
 Qg P K s0 x2 a9 aW cF h)
 (Qg P K s0 x2 a9 aW undef h)):=ax (by kernel_rfl)
theorem Ho:af3 P K s0 x2 a9 h=
 (bZ a9 false
 (OP (iT s0 (.int .i64 (0))) fun aQ=>
 OP (ai .eql aQ (.int .u8 (48))) fun aN=>
 Qf P K s0 x2 a9 aN h)
 (Qf P K s0 x2 a9 undef h)):=ax (by kernel_rfl)
theorem Hn:Qi P K s0 x2 ay aP h=
 (OP (bL ay (.bool true) aP) fun bc=>
 af3 P K s0 x2 bc h):=ax (by kernel_rfl)
theorem QO:af2 P K s0 x2 ay h=
 (bZ ay false
 (OP (fS s0) fun aA=>
 OP (ai .gtr aA (.int .i64 (4000))) fun aP=>
 Qi P K s0 x2 ay aP h)
 (Qi P K s0 x2 ay undef h)):=ax (by kernel_rfl)
theorem QN:Qh P K s0 x2 z4 x5 d6 i7 cd dD L1 L2 h=
 (OP (bL cd (.bool true) dD) fun eP=>
 aM eP
 (OP (cT [(.bool false),(.slice none 0 0)] []) fun dS=>
 OH (aI 2 h x2 dS) fun _ h_1=>
 OP (af true 2 h_1 x2) fun r0=>
 K (.tuple #[r0,(.bool false)]) h_1)
 (OP (ai .mul (.int .i64 (10)) d6) fun cS=>
 OP (iT s0 i7) fun dK=>
 OP (ai .sub dK (.int .u8 (48))) fun gV=>
 OP (df .i64 gV) fun eQ=>
 OP (ai .add cS eQ) fun gJ=>
 OP (ai .add i7 (.int .i64 (1))) fun dC=>
 ([s0,x2,z4,x5]:List Value)=[s0,x2,z4,x5]∧L2 [gJ,dC] h)):=ax (by kernel_rfl)
theorem QM:afY P K s0 x2 z4 x5 d6 i7 cd L1 L2 h=
 (bZ cd false
 (OP (iT s0 i7) fun fT=>
 OP (ai .gtr fT (.int .u8 (57))) fun dD=>
 Qh P K s0 x2 z4 x5 d6 i7 cd dD L1 L2 h)
 (Qh P K s0 x2 z4 x5 d6 i7 cd undef L1 L2 h)):=ax (by kernel_rfl)
theorem ayy (s0 x2 z4 x5:Value) (L1 L2:LQ) (d6 i7:Value) (h:ae):afX P K s0 x2 z4 x5 L1 L2 [d6,i7] h=
 (OP (ai .lss i7 x5) fun dR=>
 aM dR
 (OP (iT s0 i7) fun ba=>
 OP (ai .lss ba (.int .u8 (48))) fun cj=>
 afY P K s0 x2 z4 x5 d6 i7 cj L1 L2 h)
 (afZ P K s0 x2 z4 x5 d6 L1 h)):=ax (by kernel_rfl)
theorem ayz:afZ P K s0 x2 z4 x5 d6 L1 h=
 (OP (aK 1 z4) fun hX=>
 OP (af false 1 h hX) fun lN=>
 OH (dh 3 1 [(.int .i64 (0))] h [(0,1,d6)]) fun gW h_1=>
 OH (dj 3 1 8 h_1 lN gW) fun fv h_2=>
 OP (aK 1 z4) fun oN=>
 OH (aI 1 h_2 oN fv) fun _ h_3=>
 af0 P K s0 x2 z4 x5 L1 h_3):=ax (by kernel_rfl)
theorem ayA:af0 P K s0 x2 z4 x5 L1 h=
 (OP (ai .sub x5 (.int .i64 (4))) fun dI=>
 ([s0,x2,z4]:List Value)=[s0,x2,z4]∧L1 [dI] h):=ax (by kernel_rfl)
theorem ayx (s0 x2 z4:Value) (L1:LQ) (x5:Value) (h:ae):afW P K s0 x2 z4 L1 [x5] h=
 (OP (ai .gtr x5 (.int .i64 (0))) fun ca=>
 aM ca
 (OP (ai .sub x5 (.int .i64 (4))) fun dd=>
 OP (rJ true [(.int .i64 (0)),dd]) fun cJ=>
 cG [(.int .i64 (0)),cJ] h fun L2 xs hx=>
 afX P K s0 x2 z4 x5 L1 L2 xs hx)
 (af1 P K x2 z4 h)):=ax (by kernel_rfl)
theorem ayB:af1 P K x2 z4 h=
 (OP (af true 2 h z4) fun fK=>
 ak P 100 [fK] h fun gj h_1=>
 OH (aI 2 h_1 x2 gj) fun _ h_2=>
 OP (af true 2 h_2 x2) fun r0=>
 K (.tuple #[r0,(.bool true)]) h_2):=ax (by kernel_rfl)
def Dm:Prop:=
 OH (aX 35 [(.bool false),(.slice none 0 0)] h) fun x2 h_1=>
 OP (fS s0) fun x9=>
 OP (ai .lss x9 (.int .i64 (1))) fun aG=>
 af2 P K s0 x2 aG h_1
theorem e99:aj P AB (aR [.cell true 2 2,.tmp 3] K) (bp [s0]) h=Dm P K s0 h:=by kernel_rfl
theorem f99 {K:VK} {s0:Value} {h:ae} (H:Dm Tryz.prog K s0 h):ak Tryz.prog 99 [s0] h K:=
 bF k99 (Nat.le_of_ble_eq_true rfl) ((e99 Tryz.prog K s0 h).mpr H)
end
/-! F100: pommel/pommelref01.lean -/
noncomputable section
variable (z0 z1 x2 n3 x9 a9 cA ca : Value) (L1 : LQ) (xs : List Value) (h : ae)
def abO:=bw Tryz.prog 100 [[],[],[1,2],[3],[1,2,3,9],[1,2,3,9,16],[],[],[1,2,3],[],[1,2,3,29],[1,2,29,31],[],[]]
@[irreducible] def Dy:=bE abO
@[irreducible] def Dz:=Dy.r.r.l.l.l
@[irreducible] def UR:=Dy.r.r.r
@[irreducible] def US:=Dz.l.l.r.l
@[irreducible] def amR:=Dz.l.r
@[irreducible] def amQ:=Dz.r
@[irreducible] def Lk:=UR.l
@[irreducible] def amN:=US.r.l
@[irreducible] def UQ:=Lk.r.l.r.l
@[irreducible] def amO:=Lk.r.r
@[irreducible] def amP:=UQ.r.l
theorem atX:abO=some (35,Dy,[.cell true 2 2]):=by kernel_rfl
def Ae (_P:Program) (K:VK):ar:=aR [.cell true 2 2] K
def ajB:ar:=aD (aj P UR (Ae P K)) (Ae P K)
def ajC:ar:=bz 0 (ajB P K)
def IN:ar:=aD (fun f' aS=>(([1,2]:List Nat).map f':List Value)=[z1,x2]∧L1 (([3]:List Nat).map f') aS) (ajC P K)
def SE:ar:=aD (aj P amQ (IN P K z1 x2 L1)) (IN P K z1 x2 L1)
def SF:ar:=aD (aj P amR (SE P K z1 x2 L1)) (SE P K z1 x2 L1)
def SD:ar:=aD (aj P amO (Ae P K)) (Ae P K)
def adG:Prop:=av (aj P Dz (IN P K z1 x2 L1)) ([1,2]++[3]) ([z1,x2]++xs) h
def adH:Prop:=av (aj P US (SF P K z1 x2 L1)) [1,2,3,9] [z1,x2,n3,x9] h
def Pd:Prop:=av (aj P amN (SF P K z1 x2 L1)) [1,2,3,9,16] [z1,x2,n3,x9,a9] h
def Pe:Prop:=av (aj P Lk (Ae P K)) [1,2,3] [z1,x2,n3] h
def adF:Prop:=av (aj P UQ (SD P K)) [1,2,3,29] [z1,x2,n3,cA] h
def Pf:Prop:=av (aj P amP (SD P K)) [1,2,29,31] [z1,x2,cA,ca] h
theorem agn:Pd P K z1 x2 n3 x9 a9 L1 h=
 (OP (bL x9 a9 (.bool false)) fun bQ=>
 aM bQ
 (OP (ai .sub n3 (.int .i64 (1))) fun aN=>
 ([z1,x2]:List Value)=[z1,x2]∧L1 [aN] h)
 (Pe P K z1 x2 n3 h)):=ax (by kernel_rfl)
theorem agq:adH P K z1 x2 n3 x9 L1 h=
 (bZ x9 true
 (OP (aK 1 z1) fun aG=>
 OP (af false 1 h aG) fun ay=>
 OP (ai .sub n3 (.int .i64 (1))) fun aA=>
 OP (aU 1 ay aA) fun aP=>
 OP (af false 1 h aP) fun bc=>
 OP (ai .eql bc (.int .i64 (0))) fun a9=>
 Pd P K z1 x2 n3 x9 a9 L1 h)
 (Pd P K z1 x2 n3 x9 undef L1 h)):=ax (by kernel_rfl)
theorem avJ (z1 x2:Value) (L1:LQ) (n3:Value) (h:ae):adG P K z1 x2 L1 [n3] h=
 (OP (ai .gtr n3 (.int .i64 (0))) fun x8=>
 adH P K z1 x2 n3 x8 L1 h):=ax (by kernel_rfl)
theorem agp:Pf P K z1 x2 cA ca h=
 (OP (bL cA ca (.bool false)) fun cO=>
 OP (aK 0 z1) fun dI=>
 OH (aI 1 h dI cO) fun _ h_1=>
 OP (af true 2 h_1 z1) fun bX=>
 OH (aI 2 h_1 x2 bX) fun _ h_2=>
 OP (af true 2 h_2 x2) fun r0=>
 K r0 h_2):=ax (by kernel_rfl)
theorem ago:adF P K z1 x2 n3 cA h=
 (bZ cA true
 (OP (ai .gtr n3 (.int .i64 (0))) fun ca=>
 Pf P K z1 x2 cA ca h)
 (Pf P K z1 x2 cA undef h)):=ax (by kernel_rfl)
theorem avI:Pe P K z1 x2 n3 h=
 (OH (dh 3 0 [(.int .i64 (0))] h []) fun aW h_1=>
 OP (aK 1 z1) fun bm=>
 OP (af false 1 h_1 bm) fun bJ=>
 OP (j5 3 1 bJ none (some n3)) fun bM=>
 OH (dj 3 1 8 h_1 aW bM) fun bt h_2=>
 OP (aK 1 z1) fun bC=>
 OH (aI 1 h_2 bC bt) fun _ h_3=>
 OP (aK 0 z1) fun bD=>
 OP (af false 1 h_3 bD) fun bU=>
 adF P K z1 x2 n3 bU h_3):=ax (by kernel_rfl)
def JD:Prop:=
 OH (bk 35 h z0) fun z1 h_1=>
 OH (aX 35 [(.bool false),(.slice none 0 0)] h_1) fun x2 h_2=>
 OP (aK 1 z1) fun x4=>
 OP (af false 1 h_2 x4) fun x5=>
 OP (aY x5) fun x6=>
 cG [x6] h_2 fun L1 xs hx=>
 adG P K z1 x2 L1 xs hx
theorem aqH:aj P Dy (aR [.cell true 2 2] K) (bp [z0]) h=JD P K z0 h:=by kernel_rfl
theorem f100 {K:VK} {z0:Value} {h:ae} (H:JD Tryz.prog K z0 h):ak Tryz.prog 100 [z0] h K:=
 bF atX (Nat.le_of_ble_eq_true rfl) ((aqH Tryz.prog K z0 h).mpr H)
end
/-! F101: pommel/pommelref01.sizes -/
noncomputable section
variable (a0 b1 i5 : Value) (L1 : LQ) (xs : List Value) (h : ae)
def abP:=bw Tryz.prog 101 [[],[],[],[],[],[],[],[],[0,1],[5],[],[],[],[],[],[],[],[],[],[]]
@[irreducible] def DA:=bE abP
@[irreducible] def amS:=DA.r.r.l.r.l.l
@[irreducible] def amT:=DA.r.r.r
theorem atY:abP=some (41,DA,[.tmp 4]):=by kernel_rfl
def SG (_P:Program) (K:VK):ar:=aR [.tmp 4] K
def ajF:ar:=aD (aj P amT (SG P K)) (SG P K)
def ajD:ar:=bz 0 (ajF P K)
def ajE:ar:=aD (fun f' aS=>(([0,1]:List Nat).map f':List Value)=[a0,b1]∧L1 (([5]:List Nat).map f') aS) (ajD P K)
def adI:Prop:=av (aj P amS (ajE P K a0 b1 L1)) ([0,1]++[5]) ([a0,b1]++xs) h
theorem avK (a0 b1:Value) (L1:LQ) (i5:Value) (h:ae):adI P K a0 b1 L1 [i5] h=
 (OP (ai .geq i5 (.int .i64 (0))) fun aW=>
 aM aW
 (OP (aU 1 a0 i5) fun bt=>
 OP (af false 1 h bt) fun bC=>
 (True)∧
 OP (aU 1 b1 i5) fun cA=>
 OP (af false 1 h cA) fun cR=>
 (True)∧
 OP (ai .lss bC cR) fun ca=>
 aM ca
 (K (.int .i64 (-1)) h)
 (OP (aU 1 a0 i5) fun bX=>
 OP (af false 1 h bX) fun dd=>
 (True)∧
 OP (aU 1 b1 i5) fun cV=>
 OP (af false 1 h cV) fun dR=>
 (True)∧
 OP (ai .gtr dd dR) fun dJ=>
 aM dJ
 (K (.int .i64 (1)) h)
 (OP (ai .sub i5 (.int .i64 (1))) fun bJ=>
 ([a0,b1]:List Value)=[a0,b1]∧L1 [bJ] h)))
 (K (.int .i64 (0)) h)):=ax (by kernel_rfl)
def JE:Prop:=
 OP (aY a0) fun x7=>
 OP (aY b1) fun x9=>
 OP (ai .neq x7 x9) fun aG=>
 aM aG
 (OP (aY a0) fun az=>
 OP (aY b1) fun aP=>
 OP (ai .lss az aP) fun bc=>
 aM bc
 (K (.int .i64 (-1)) h)
 (K (.int .i64 (1)) h))
 (OP (aY a0) fun bQ=>
 OP (ai .sub bQ (.int .i64 (1))) fun aQ=>
 cG [aQ] h fun L1 xs hx=>
 adI P K a0 b1 L1 xs hx)
theorem aqI:aj P DA (aR [.tmp 4] K) (bp [a0,b1]) h=JE P K a0 b1 h:=by kernel_rfl
theorem f101 {K:VK} {a0 b1:Value} {h:ae} (H:JE Tryz.prog K a0 b1 h):ak Tryz.prog 101 [a0,b1] h K:=
 bF atY (Nat.le_of_ble_eq_true rfl) ((aqI Tryz.prog K a0 b1 h).mpr H)
end
/-! F102: pommel/pommelref01.times -/
noncomputable section
variable (a0 d1 : Value) (h : ae)
def abQ:=bw Tryz.prog 102 [[],[]]
@[irreducible] def UT:=bE abQ
theorem atZ:abQ=some (12,UT,[.tmp 4]):=by kernel_rfl
def JF:Prop:=
 OP (cT [(.bool false),(.slice none 0 0)] [(1,1,a0)]) fun x6=>
 ak P 55 [d1] h fun x8 h_1=>
 ak P 71 [x6,x8] h_1 fun x9 h_2=>
 ak P 100 [x9] h_2 fun aG h_3=>
 OP (wP false 1 1 aG) fun ay=>
 K ay h_3
theorem aqJ:aj P UT (aR [.tmp 4] K) (bp [a0,d1]) h=JF P K a0 d1 h:=by kernel_rfl
theorem f102 {K:VK} {a0 d1:Value} {h:ae} (H:JF Tryz.prog K a0 d1 h):ak Tryz.prog 102 [a0,d1] h K:=
 bF atZ (Nat.le_of_ble_eq_true rfl) ((aqJ Tryz.prog K a0 d1 h).mpr H)
end
/-! F103: pommel/pommelref01.less -/
noncomputable section
variable (a0 b1 x5 x6 i7 s8 : Value) (L1 : LQ) (xs : List Value) (h : ae)
def abR:=bw Tryz.prog 103 [[],[],[],[0,1],[5,6,7],[],[],[],[],[0,1,5,7,8],[],[],[0,1,5,6,7,8],[0,1,5,6,7],[5],[]]
@[irreducible] def DB:=bE abR
@[irreducible] def Ll:=DB.r.r.l.r.l.l
@[irreducible] def UW:=DB.r.r.r
@[irreducible] def UU:=Ll.r.l.l.r.r.l
@[irreducible] def UX:=Ll.r.r
@[irreducible] def amW:=UW.l
@[irreducible] def amU:=UU.r.r.l
@[irreducible] def amV:=UX.l
theorem at0:abR=some (41,DB,[.tmp 4]):=by kernel_rfl
def IP (_P:Program) (K:VK):ar:=aR [.tmp 4] K
def ajG:ar:=aD (aj P UW (IP P K)) (IP P K)
def ajH:ar:=bz 0 (ajG P K)
def CS:ar:=aD (fun f' aS=>(([0,1]:List Nat).map f':List Value)=[a0,b1]∧L1 (([5,6,7]:List Nat).map f') aS) (ajH P K)
def ajI:ar:=aD (aj P UX (CS P K a0 b1 L1)) (CS P K a0 b1 L1)
def SH:ar:=bz 1 (ajI P K a0 b1 L1)
def adL:Prop:=av (aj P Ll (CS P K a0 b1 L1)) ([0,1]++[5,6,7]) ([a0,b1]++xs) h
def GD:Prop:=av (aj P UU (SH P K a0 b1 L1)) [0,1,5,7,8] [a0,b1,x5,i7,s8] h
def GF:Prop:=av (aj P amU (SH P K a0 b1 L1)) [0,1,5,6,7,8] [a0,b1,x5,x6,i7,s8] h
def adJ:Prop:=av (aj P amV (CS P K a0 b1 L1)) [0,1,5,6,7] [a0,b1,x5,x6,i7] h
def adK:Prop:=av (aj P amW (IP P K)) [5] [x5] h
theorem avM:GF P K a0 b1 x5 x6 i7 s8 L1 h=
 (OH (dh 3 1 [(.int .i64 (0))] h [(0,1,s8)]) fun cV h_1=>
 OH (dj 3 1 8 h_1 x5 cV) fun dR h_2=>
 adJ P K a0 b1 dR x6 i7 L1 h_2):=ax (by kernel_rfl)
theorem avL:GD P K a0 b1 x5 i7 s8 L1 h=
 (OP (ai .lss s8 (.int .i64 (0))) fun dI=>
 aM dI
 (OP (ai .add s8 (.int .i64 (10000))) fun dd=>
 GF P K a0 b1 x5 (.int .i64 (1)) i7 dd L1 h)
 (GF P K a0 b1 x5 (.int .i64 (0)) i7 s8 L1 h)):=ax (by kernel_rfl)
theorem avN:adJ P K a0 b1 x5 x6 i7 L1 h=
 (OP (ai .add i7 (.int .i64 (1))) fun bc=>
 ([a0,b1]:List Value)=[a0,b1]∧L1 [x5,x6,bc] h):=ax (by kernel_rfl)
theorem avP (a0 b1:Value) (L1:LQ) (x5 x6 i7:Value) (h:ae):adL P K a0 b1 L1 [x5,x6,i7] h=
 (OP (aY a0) fun az=>
 OP (ai .lss i7 az) fun aA=>
 aM aA
 (OP (aU 1 a0 i7) fun aQ=>
 OP (af false 1 h aQ) fun aN=>
 OP (ai .sub aN x6) fun bm=>
 OP (aY b1) fun bM=>
 OP (ai .lss i7 bM) fun bt=>
 aM bt
 (OP (aU 1 b1 i7) fun cA=>
 OP (af false 1 h cA) fun cR=>
 OP (ai .sub bm cR) fun ca=>
 GD P K a0 b1 x5 i7 ca L1 h)
 (GD P K a0 b1 x5 i7 bm L1 h))
 (adK P K x5 h)):=ax (by kernel_rfl)
theorem avO:adK P K x5 h=
 (K x5 h):=ax (by kernel_rfl)
def JG:Prop:=
 OH (dh 3 0 [(.int .i64 (0))] h []) fun x9 h_1=>
 cG [x9,(.int .i64 (0)),(.int .i64 (0))] h_1 fun L1 xs hx=>
 adL P K a0 b1 L1 xs hx
theorem aqK:aj P DB (aR [.tmp 4] K) (bp [a0,b1]) h=JG P K a0 b1 h:=by kernel_rfl
theorem f103 {K:VK} {a0 b1:Value} {h:ae} (H:JG Tryz.prog K a0 b1 h):ak Tryz.prog 103 [a0,b1] h K:=
 bF at0 (Nat.le_of_ble_eq_true rfl) ((aqK Tryz.prog K a0 b1 h).mpr H)
end
/-! F104: pommel/pommelref01.plus -/
noncomputable section
variable (a0 b1 x5 x6 i7 s8 aP aQ aW bJ : Value) (L1 : LQ) (xs : List Value) (h : ae)
def abS:=bw Tryz.prog 104 [[],[],[],[0,1],[5,6,7],[0,1,5,6,7,14],[0,1,5,6,7,14,18],[0,1,5,6,7,20],[0,1,5,6,7,20,22],[],[],[],[],[0,1,5,7,8],[],[0,1,5,7,8],[0,1,5,6,7],[5],[]]
@[irreducible] def DC:=bE abS
@[irreducible] def DD:=DC.r.r.l.r.l.l
@[irreducible] def U3:=DC.r.r.r
@[irreducible] def UY:=DD.l.l.r.l
@[irreducible] def am1:=DD.l.r
@[irreducible] def Lm:=DD.r
@[irreducible] def am0:=U3.l
@[irreducible] def UZ:=UY.r.l
@[irreducible] def U2:=Lm.l.l.r.r.l
@[irreducible] def U1:=Lm.r
@[irreducible] def U0:=UZ.r.l
@[irreducible] def amY:=U2.r.l
@[irreducible] def amZ:=U1.l
@[irreducible] def amX:=U0.r.l
theorem at1:abS=some (55,DC,[.tmp 4]):=by kernel_rfl
def IQ (_P:Program) (K:VK):ar:=aR [.tmp 4] K
def ajK:ar:=aD (aj P U3 (IQ P K)) (IQ P K)
def ajL:ar:=bz 0 (ajK P K)
def xI:ar:=aD (fun f' aS=>(([0,1]:List Nat).map f':List Value)=[a0,b1]∧L1 (([5,6,7]:List Nat).map f') aS) (ajL P K)
def SJ:ar:=aD (aj P Lm (xI P K a0 b1 L1)) (xI P K a0 b1 L1)
def CT:ar:=aD (aj P am1 (SJ P K a0 b1 L1)) (SJ P K a0 b1 L1)
def ajJ:ar:=aD (aj P U1 (xI P K a0 b1 L1)) (xI P K a0 b1 L1)
def SI:ar:=bz 1 (ajJ P K a0 b1 L1)
def adP:Prop:=av (aj P DD (xI P K a0 b1 L1)) ([0,1]++[5,6,7]) ([a0,b1]++xs) h
def adM:Prop:=av (aj P UY (CT P K a0 b1 L1)) [0,1,5,6,7,14] [a0,b1,x5,x6,i7,aP] h
def Pg:Prop:=av (aj P UZ (CT P K a0 b1 L1)) [0,1,5,6,7,14,18] [a0,b1,x5,x6,i7,aP,aQ] h
def adN:Prop:=av (aj P U0 (CT P K a0 b1 L1)) [0,1,5,6,7,20] [a0,b1,x5,x6,i7,aW] h
def Ph:Prop:=av (aj P amX (CT P K a0 b1 L1)) [0,1,5,6,7,20,22] [a0,b1,x5,x6,i7,aW,bJ] h
def zx:Prop:=av (aj P U2 (SI P K a0 b1 L1)) [0,1,5,7,8] [a0,b1,x5,i7,s8] h
def GG:Prop:=av (aj P amY (SI P K a0 b1 L1)) [0,1,5,7,8] [a0,b1,x5,i7,s8] h
def adO:Prop:=av (aj P amZ (xI P K a0 b1 L1)) [0,1,5,6,7] [a0,b1,x5,x6,i7] h
def Pj:Prop:=av (aj P am0 (IQ P K)) [5] [x5] h
theorem Hi:Ph P K a0 b1 x5 x6 i7 aW bJ L1 h=
 (OP (bL aW (.bool true) bJ) fun cF=>
 aM cF
 (OP (aY a0) fun cA=>
 OP (ai .lss i7 cA) fun cR=>
 aM cR
 (OP (aU 1 a0 i7) fun bX=>
 OP (af false 1 h bX) fun dd=>
 OP (ai .add x6 dd) fun cJ=>
 zx P K a0 b1 x5 i7 cJ L1 h)
 (zx P K a0 b1 x5 i7 x6 L1 h))
 (Pj P K x5 h)):=ax (by kernel_rfl)
theorem Qy:adN P K a0 b1 x5 x6 i7 aW L1 h=
 (bZ aW false
 (OP (ai .gtr x6 (.int .i64 (0))) fun bJ=>
 Ph P K a0 b1 x5 x6 i7 aW bJ L1 h)
 (Ph P K a0 b1 x5 x6 i7 aW undef L1 h)):=ax (by kernel_rfl)
theorem Qx:Pg P K a0 b1 x5 x6 i7 aP aQ L1 h=
 (OP (bL aP (.bool true) aQ) fun aN=>
 adN P K a0 b1 x5 x6 i7 aN L1 h):=ax (by kernel_rfl)
theorem agr:adM P K a0 b1 x5 x6 i7 aP L1 h=
 (bZ aP false
 (OP (aY b1) fun bQ=>
 OP (ai .lss i7 bQ) fun aQ=>
 Pg P K a0 b1 x5 x6 i7 aP aQ L1 h)
 (Pg P K a0 b1 x5 x6 i7 aP undef L1 h)):=ax (by kernel_rfl)
theorem avR:GG P K a0 b1 x5 i7 s8 L1 h=
 (OP (ai .rem s8 (.int .i64 (10000))) fun fT=>
 OH (dh 3 1 [(.int .i64 (0))] h [(0,1,fT)]) fun dD h_1=>
 OH (dj 3 1 8 h_1 x5 dD) fun eP h_2=>
 OP (ai .quo s8 (.int .i64 (10000))) fun jB=>
 adO P K a0 b1 eP jB i7 L1 h_2):=ax (by kernel_rfl)
theorem avQ:zx P K a0 b1 x5 i7 s8 L1 h=
 (OP (aY b1) fun dR=>
 OP (ai .lss i7 dR) fun dJ=>
 aM dJ
 (OP (aU 1 b1 i7) fun ba=>
 OP (af false 1 h ba) fun cj=>
 OP (ai .add s8 cj) fun cd=>
 GG P K a0 b1 x5 i7 cd L1 h)
 (GG P K a0 b1 x5 i7 s8 L1 h)):=ax (by kernel_rfl)
theorem avS:adO P K a0 b1 x5 x6 i7 L1 h=
 (OP (ai .add i7 (.int .i64 (1))) fun bt=>
 ([a0,b1]:List Value)=[a0,b1]∧L1 [x5,x6,bt] h):=ax (by kernel_rfl)
theorem avU (a0 b1:Value) (L1:LQ) (x5 x6 i7:Value) (h:ae):adP P K a0 b1 L1 [x5,x6,i7] h=
 (OP (aY a0) fun az=>
 OP (ai .lss i7 az) fun aA=>
 adM P K a0 b1 x5 x6 i7 aA L1 h):=ax (by kernel_rfl)
theorem avT:Pj P K x5 h=
 (K x5 h):=ax (by kernel_rfl)
def JH:Prop:=
 OH (dh 3 0 [(.int .i64 (0))] h []) fun x9 h_1=>
 cG [x9,(.int .i64 (0)),(.int .i64 (0))] h_1 fun L1 xs hx=>
 adP P K a0 b1 L1 xs hx
theorem aqL:aj P DC (aR [.tmp 4] K) (bp [a0,b1]) h=JH P K a0 b1 h:=by kernel_rfl
theorem f104 {K:VK} {a0 b1:Value} {h:ae} (H:JH Tryz.prog K a0 b1 h):ak Tryz.prog 104 [a0,b1] h K:=
 bF at1 (Nat.le_of_ble_eq_true rfl) ((aqL Tryz.prog K a0 b1 h).mpr H)
end
end Go.Proofs.YtelmdbpaoifmoaaGreat

namespace Go.Proofs.YtelmdbpaoifmoaaGreat
open Go.Sim

theorem amF:bu≤10000^250:=by decide+kernel
theorem p7 {xs:List Nat} (h:Canon 10000 xs) (hv:val 10000 xs<bu):xs.length≤250:=h.len (by decide) (Nat.lt_of_lt_of_le hv amF)

def mE (b:Nat) (hx:ae) (v:Value) (os:List Nat):Prop:=fW b hx 3 v (os.map fun d:Nat=>I d)

theorem mE.ds {b:Nat} {hx:ae} {v:Value} {os:List Nat} (o:mE b hx v os):DS 3 .i64 hx v os:=by
 rcases o with ⟨h1,h2⟩ | ⟨i,_,h2,h3⟩
 ·exact .inl ⟨h1,by simpa using h2⟩
 ·refine .inr ⟨i,by rw [h2,List.length_map],.inr ⟨[],?_⟩⟩
  simp [aO,h3]

theorem DS.cells {e:TypeId} {k:IntKind} {h:ae} {v:Value} {xs:List Nat} (p:DS e k h v xs):jj h 1 v=some (xs.map fun d:Nat=>Value.int k (d:Int))∧mU v=some xs.length:=by
 rcases p with ⟨rfl,rfl⟩ | ⟨i,rfl,hc⟩
 ·exact ⟨rfl,rfl⟩
 ·refine ⟨?_,rfl⟩
  unfold jj sl
  simp only
  by_cases hz:xs.length=0
  ·rw [if_pos hz]
   have:xs=[]:=List.length_eq_zero_iff.1 hz
   subst this
   rfl
  ·obtain ⟨r,hc⟩:=hc.resolve_left (by rintro rfl;simp at hz)
   rw [if_neg hz,hc]
   simp only [Option.bind_some]
   rw [if_pos (by simp)]
   have:((xs.map (fun d:Nat=>Value.int k (d:Int))++r).drop 0).take (xs.length*1)=xs.map fun d:Nat=>Value.int k (d:Int):=by
    rw [List.drop_zero,Nat.mul_one,List.take_append_of_le_length (by simp),List.take_of_length_le (by simp)]
   rw [this]

def eR (h:ae) (v:Value) (n:Nat):Prop:=∃xs,DS 3 .i64 h v xs∧Canon 10000 xs∧val 10000 xs=n
theorem eR.mono {h h':ae} {v:Value} {n:Nat} (x:EX h h') (p:eR h v n):eR h' v n:=let ⟨xs,a,b,c⟩:=p;⟨xs,a.mono x,b,c⟩

theorem DS.bH {e e':TypeId} {k:IntKind} {h:ae} {v:Value} {xs:List Nat} {j:Nat} {b:Bool} {r:List Value} (d:DS e k h v xs) (hj:h[j]?=some (.arr e' (.bool b::r))) (o:aq):DS e k (h.set j o) v xs:=by
 rcases d with d | ⟨i,h1,h2⟩
 ·exact .inl d
 ·refine .inr ⟨i,h1,?_⟩
  rcases h2 with h2 | ⟨rest,h2⟩
  ·exact .inl h2
  ·cases xs with
   | nil=>exact .inl rfl
   | cons x xs=>
    right
    refine ⟨rest,?_⟩
    have br:j≠i:=by
     rintro rfl
     unfold aO at h2
     rw [hj] at h2
     simp at h2
    unfold aO at h2⊢
    rw [List.getElem?_set_ne br]
    exact h2

theorem eR.bH {h:ae} {v:Value} {n j:Nat} {e:TypeId} {b:Bool} {r:List Value} (p:eR h v n) (hj:h[j]?=some (.arr e (.bool b::r))) (o:aq):eR (h.set j o) v n:=
 let ⟨xs,d,c,hv⟩:=p;⟨xs,d.bH hj o,c,hv⟩

def ZV (h:ae) (val:Value) (z:Int):Prop:=∃v,val=.agg #[B (decide (z<0)),v]∧eR h v z.natAbs
theorem ZV.mono {h h':ae} {v:Value} {z:Int} (x:EX h h') (p:ZV h v z):ZV h' v z:=let ⟨w,a,b⟩:=p;⟨w,a,b.mono x⟩
theorem ZV.bH {h:ae} {v:Value} {z:Int} {j:Nat} {e:TypeId} {b:Bool} {r:List Value} (p:ZV h v z) (hj:h[j]?=some (.arr e (.bool b::r))) (o:aq):ZV (h.set j o) v z:=
 let ⟨w,a,q⟩:=p;⟨w,a,q.bH hj o⟩

theorem Lc {h0 hx:ae} {v:Value} {os:List Nat} {d:Nat} {K:Value→ae→Prop} (o:mE h0.length hx v os) (hex:EX h0 hx) (hl:os.length≤10000)
  (hk:∀v' bG,EX h0 bG→mE h0.length bG v' (os++[d])→K v' bG):OH (dh 3 1 [.int .i64 0] hx [(0,1,I d)]) fun a h2=>OH (dj 3 1 8 h2 v a) K:=by
 refine UD o hex (by simp;omega) (by simp [maxLen];omega) rfl rfl ?_
 intro v' bG h1 h2
 exact hk v' bG h1 (by unfold mE;simpa using h2)

theorem RP {s:Bool} {v:Value} {xs:List Nat} {h:ae} {K:Value→ae→Prop} (hd:DS 3 .i64 h v xs) (hl:b9 10000 xs) (hs:xs.length≤1000)
  (hk:∀r h',EX h h'→ZV h' r (if s then -(val 10000 xs:Int) else val 10000 xs)→(∃b i n,r=.agg #[B b,sl 3 i 0 n]∧h.length≤i)→K r h'):ak Tryz.prog 100 [.agg #[B s,v]] h K:=by
 refine f100 ?_
 have e1:bk 35 h (.agg #[B s,v])=some (pt h.length 0,h++[.arr 35 [B s,v]]):=rfl
 have e2:∀g:ae,aX 35 [(.bool false),(.slice none 0 0)] g=some (pt g.length 0,g++[.arr 35 [(.bool false),(.slice none 0 0)]]):=fun _=>rfl
 simp only [JD,e1,aE,e2,List.length_append,List.length_cons,List.length_nil]
 have g0:(h++[aq.arr 35 [B s,v]]++[aq.arr 35 [(.bool false),(.slice none 0 0)]])[h.length]?=some (.arr 35 [B s,v]):=by simp
 have g1:(h++[aq.arr 35 [B s,v]]++[aq.arr 35 [(.bool false),(.slice none 0 0)]])[h.length+1]?=some (.arr 35 [(.bool false),(.slice none 0 0)]):=by simp
 have x1:EX h (h++[aq.arr 35 [B s,v]]++[aq.arr 35 [(.bool false),(.slice none 0 0)]]):=(EX.append _ _).push _
 have hlen:(h++[aq.arr 35 [B s,v]]++[aq.arr 35 [(.bool false),(.slice none 0 0)]]).length=h.length+2:=by simp
 generalize h++[aq.arr 35 [B s,v]]++[aq.arr 35 [(.bool false),(.slice none 0 0)]]=h1 at g0 g1 x1 hlen⊢
 have pJ:af false 1 h1 (pt h.length 1)=some v:=by simp [af,aO,g0,ck]
 have iD:=hd.mono x1
 simp only [bW,Nat.zero_add,ah,pJ,iD.len]
 refine dc (σ:=Nat) (fun n=>[I n]) (fun _=>h1) (fun n=>n≤xs.length∧val 10000 (xs.take n)=val 10000 xs) (fun n=>n) xs.length rfl rfl ⟨Nat.le_refl _,by rw [List.take_length]⟩ ?_
 rintro n ⟨hn,bS⟩ L hL
 rw [avJ]
 -- ft end
 have fin:Canon 10000 (xs.take n)→Pe Tryz.prog K (pt h.length 0) (pt (h.length+1) 0) (I n) h1:=by
  intro hc
  rw [avI]
  have mk:dh 3 0 [.int .i64 0] h1 []=some (sl 3 h1.length 0 0,h1++[.arr 3 []]):=rfl
  have x2:EX h1 (h1++[.arr 3 []]):=EX.append _ _
  obtain ⟨v',p1,p2⟩:=(iD.mono x2).pop hn
  obtain ⟨c1,c2⟩:=p2.cells
  have wy:(xs.take n).length=n:=by rw [List.length_take];omega
  simp only [mk,aE,bW,Nat.zero_add,ah,EX.load x2 pJ,p1]
  -- copied
  have app:∃w h3,dj 3 1 8 (h1++[.arr 3 []]) (sl 3 h1.length 0 0) v'=some (w,h3)∧EX h1 h3∧DS 3 .i64 h3 w (xs.take n)∧∃i n,w=sl 3 i 0 n∧h.length≤i:=by
   by_cases nw:n=0
   ·subst nw
    refine ⟨sl 3 h1.length 0 0,h1++[.arr 3 []],?_,x2,.inr ⟨h1.length,by simp,.inl (by simp)⟩,h1.length,0,rfl,by omega⟩
    simp [dj,c1,c2,sl]
   ·refine ⟨sl 3 (h1.length+1) 0 n,(h1++[aq.arr 3 []]).set h1.length .dead++[.arr 3 ((xs.take n).map fun d:Nat=>I d)],?_,(x2.set (Nat.le_refl _) _).push _,.inr ⟨h1.length+1,by rw [wy],.inr ⟨[],?_⟩⟩,h1.length+1,n,rfl,by omega⟩
    ·have hg:(h1++[aq.arr 3 []])[h1.length]?=some (.arr 3 []):=bR
     simp only [dj,c1,c2,wy]
     simp only [sl,hg]
     rw [if_pos ⟨trivial,trivial,by simp,by omega,by unfold maxLen;omega⟩,if_neg nw]
     simp
    ·unfold aO
     rw [List.getElem?_append_right (by simp)]
     simp
  obtain ⟨w,h3,a1,a2,a3,wi,wn,hwi,hwl⟩:=app
  simp only [a1,aE]
  have MG:=a2.get g0
  have vR:=a2.get g1
  rw [oL MG (by simp) a3.one.1 a3.one.2]
  simp only [aE,List.set_cons_succ,List.set_cons_zero]
  have k0:(h3.set h.length (.arr 35 [B s,w]))[h.length]?=some (.arr 35 [B s,w]):=cM MG
  have k1:(h3.set h.length (.arr 35 [B s,w]))[h.length+1]?=some (.arr 35 [(.bool false),(.slice none 0 0)]):=by rw [List.getElem?_set_ne (by omega)];exact vR
  have d1:=a3.bH MG (.arr 35 [B s,w])
  have x3:EX h (h3.set h.length (.arr 35 [B s,w])):=(x1.trans a2).set (Nat.le_refl _) _
  generalize h3.set h.length (.arr 35 [B s,w])=h4 at k0 k1 d1 x3⊢
  have nD:af false 1 h4 (pt h.length 0)=some (B s):=by simp [af,aO,k0,ck]
  simp only [nD,ah]
  have last:∀c:Bool,c=(s&&decide (0<n))→OH (aI 1 h4 (pt h.length 0) (B c)) fun _ h_1=>OP (af true 2 h_1 (pt h.length 0)) fun bX=>OH (aI 2 h_1 (pt (h.length+1) 0) bX) fun _ h_2=>OP (af true 2 h_2 (pt (h.length+1) 0)) fun r0=>K r0 h_2:=by
   rintro c rfl
   rw [oL k0 (by simp) rfl rfl]
   simp only [aE,List.set_cons_zero]
   rw [cn (cM k0)]
   simp only [ah]
   have m1:(h4.set h.length (.arr 35 [B (s&&decide (0<n)),w]))[h.length+1]?=some (.arr 35 [(.bool false),(.slice none 0 0)]):=by rw [List.getElem?_set_ne (by omega)];exact k1
   rw [ef m1]
   simp only [aE]
   rw [cn (cM m1)]
   simp only [ah]
   refine hk _ _ ((x3.set (Nat.le_refl _) _).set (by omega) _) ⟨w,?_,(xs.take n),(d1.bH k0 _).bH m1 _,hc,?_⟩ ⟨_,wi,wn,by rw [hwi],hwl⟩
   ·have Y9:(0<n↔0<val 10000 xs):=by
     rw [←bS]
     constructor
     ·intro h0
      have:=Canon.low (by decide) hc (by intro h;rw [h] at wy;simp at wy;omega)
      have:0<10000^((xs.take n).length-1):=Nat.pow_pos (by decide)
      omega
     ·intro h0
      by_cases nw:n=0
      ·subst nw;simp [val] at h0
      ·omega
    have:(s&&decide (0<n))=decide ((if s=true then -(val 10000 xs:Int) else (val 10000 xs:Int))<0):=by
     cases s with
     | true=>
      by_cases h0:0<n
      ·have:=Y9.1 h0
       rw [decide_eq_true h0,decide_eq_true (by simp;omega)];rfl
      ·have:¬0<val 10000 xs:=fun h=>h0 (Y9.2 h)
       rw [decide_eq_false h0,decide_eq_false (by simp;omega)];rfl
     | false=>simp
    rw [this]
   ·rw [bS];cases s <;> simp
  cases s with
  | true=>
   simp only [ago,fy,fe,ah,agp,dA,bW,Nat.add_zero]
   refine last _ ?_
   rw [Bool.true_and]
   by_cases h0:0<n
   ·simp [h0]
   ·simp [h0]
  | false=>
   simp only [ago,iz,agp,cY,ah,bW,Nat.add_zero]
   exact last _ rfl
 simp only [fe,ah]
 by_cases nw:n=0
 ·subst nw
  rw [decide_eq_false (show ¬(0:Int)<((0:Nat):Int) by omega)]
  simp only [agq,iz,agn,cY,ah,dp]
  exact fin (by simpa using Canon.nil 10000)
 ·rw [decide_eq_true (show (0:Int)<(n:Int) by omega)]
  have e3:IntKind.wrap .i64 ((n:Int)-1)=((n-1:Nat):Int):=by rw [wrap64 (by omega) (by omega)];omega
  obtain ⟨i,p1,p2⟩:=iD.get (j:=n-1) (by omega)
  simp only [agq,fy,bW,Nat.zero_add,ah,pJ,fz,e3,p1,p2,fX,agn,dA,bK]
  refine ⟨fun hz=>?_,fun hz=>?_⟩
  ·simp only [true_and]
   refine hL (n-1) ⟨by omega,?_⟩ (by omega)
   have:=gT 10000 xs (i:=n-1) (by omega)
   rw [show n-1+1=n by omega] at this
   have pF:xs[n-1]'(by omega)=0:=by omega
   rw [pF,Nat.mul_zero] at this
   omega
  ·refine fin (EI (hl.mono fun y hy=>List.mem_of_mem_take hy) ?_)
   intro h1 h2
   rw [List.getElem_take] at h2
   simp only [List.length_take] at h2
   apply hz
   have hm:min n xs.length-1=n-1:=by omega
   simp only [hm] at h2
   omega

theorem uW {s:Bool} {v:Value} {xs:List Nat} {h:ae} {K:Value→ae→Prop} (hd:DS 3 .i64 h v xs) (hl:b9 10000 xs) (hs:xs.length≤1000)
  (hk:∀r h',EX h h'→ZV h' r (if s then -(val 10000 xs:Int) else val 10000 xs)→K r h'):ak Tryz.prog 100 [.agg #[B s,v]] h K:=
 RP hd hl hs fun r h' x z _=>hk r h' x z

end Go.Proofs.YtelmdbpaoifmoaaGreat


namespace Go.Proofs.YtelmdbpaoifmoaaGreat
open Go.Sim

theorem QP {a b:Nat} (hb:b≠0) (ha:a<9223372036854775808):ai .quo (.int .i64 (a:Int)) (.int .i64 (b:Int))=some (I ((a / b:Nat):Int)):=by
 have h:¬((b:Int)=0):=by omega
 have h2:a / b≤a:=Nat.div_le_self _ _
 simp only [ai,gn,if_true,if_neg h]
 have e:(a:Int).tdiv (b:Int)=((a / b:Nat):Int):=rfl
 rw [e]
 generalize a / b=q at*
 rw [wrap64 (by omega) (by omega)]

theorem OO (h:ae):dh 3 0 [.int .i64 0] h []=some (sl 3 h.length 0 0,h++[.arr 3 []]):=rfl

theorem adE (h:ae):mE h.length (h++[.arr 3 []]) (sl 3 h.length 0 0) []:=.inr ⟨h.length,Nat.le_refl _,rfl,by simp⟩

theorem aiF {va vb:Value} {xs ys:List Nat} {h:ae} {K:Value→ae→Prop} (hx:DS 3 .i64 h va xs) (hy:DS 3 .i64 h vb ys) (lx:b9 10000 xs) (ly:b9 10000 ys) (sx:xs.length≤400) (sy:ys.length≤400)
  (hk:∀v h' os,EX h h'→DS 3 .i64 h' v os→b9 10000 os→os.length≤500→val 10000 os=val 10000 xs+val 10000 ys→K v h'):ak Tryz.prog 104 [va,vb] h K:=by
 refine f104 ?_
 simp only [JH,OO,aE]
 refine dc (σ:=Value×Nat×List Nat×ae) (fun p=>[p.1,I p.2.1,I p.2.2.1.length]) (fun p=>p.2.2.2)
  (fun p=>EX h p.2.2.2∧mE h.length p.2.2.2 p.1 p.2.2.1∧p.2.1≤1∧b9 10000 p.2.2.1∧p.2.2.1.length≤max xs.length ys.length+1∧(p.2.2.1.length=max xs.length ys.length+1→p.2.1=0)∧val 10000 p.2.2.1+10000^p.2.2.1.length*p.2.1=val 10000 (xs.take p.2.2.1.length)+val 10000 (ys.take p.2.2.1.length)) (fun p=>max xs.length ys.length+1-p.2.2.1.length)
  (sl 3 h.length 0 0,0,[],h++[.arr 3 []]) rfl rfl ⟨EX.append _ _,adE h,by simp,fun x hx=>by simp at hx,by simp,by simp,by simp [val]⟩ ?_
 rintro ⟨v,c,os,bG⟩ ⟨hex,gQ,hc,eI,hlen,Fz,bS⟩ L hL
 simp only at hex gQ hc eI hlen Fz bS hL⊢
 rw [avU]
 have dx:=hx.mono hex
 have dy:=hy.mono hex
 -- one digit
 have AK:∀(x y:Nat),x<10000→y<10000→(os.length<max xs.length ys.length∨0<c)→val 10000 (xs.take (os.length+1))=val 10000 (xs.take os.length)+10000^os.length*x→val 10000 (ys.take (os.length+1))=val 10000 (ys.take os.length)+10000^os.length*y→
   (x=0∧y=0∨os.length<max xs.length ys.length)→GG Tryz.prog K va vb v (I os.length) (I ((c+x+y:Nat):Int)) L bG:=by
  intro x y fY je pz e1 e2 FH
  rw [avR]
  rw [show (.int .i64 10000:Value)=.int .i64 ((10000:Nat):Int) from rfl,Hp _ _ _ (by decide)]
  simp only [ah]
  refine Lc gQ hex (by omega) ?_
  intro v' h2 x2 o2
  rw [QP (by decide) (by omega)]
  simp only [ah,avS,cD,inc os.length (by omega),true_and]
  have aBv:os.length<max xs.length ys.length+1:=by
   rcases pz with h | h
   ·omega
   ·apply Classical.byContradiction
    intro M5
    have:=Fz (by omega)
    omega
  have hm:(c+x+y)%10000<10000:=Nat.mod_lt _ (by decide)
  have jX:=Nat.mod_add_div (c+x+y) 10000
  have el:(os++[(c+x+y)%10000]).length=os.length+1:=by simp
  have:=hL (v',(c+x+y) / 10000,os++[(c+x+y)%10000],h2) ⟨x2,o2,by show (c+x+y) / 10000≤1;omega,eI.append (fun z hz=>by simp at hz;omega),by rw [el];omega,?_,?_⟩ (by rw [el];omega)
  ·rw [el] at this
   exact this
  ·intro h9
   rw [el] at h9
   show (c+x+y) / 10000=0
   rcases FH with ⟨rfl,rfl⟩ | h
   ·omega
   ·omega
  ·rw [el]
   show val 10000 (os++[(c+x+y)%10000])+10000^(os.length+1)*((c+x+y) / 10000)=_
   rw [lM,e1,e2,Nat.pow_succ]
   simp only [val,Nat.mul_zero,Nat.add_zero]
   generalize (c+x+y) / 10000=q at*
   generalize (c+x+y)%10000=m at*
   generalize 10000^os.length=P at*
   generalize val 10000 os=V at*
   clear hL dx dy hx hy gQ
   grind
 have next:(os.length<max xs.length ys.length∨0<c)→OP (aY va) fun cA=>OP (ai .lss (I os.length) cA) fun cR=>aM cR
   (OP (aU 1 va (I os.length)) fun bX=>OP (af false 1 bG bX) fun dd=>OP (ai .add (I c) dd) fun cJ=>zx Tryz.prog K va vb v (I os.length) cJ L bG)
   (zx Tryz.prog K va vb v (I os.length) (I c) L bG):=by
  intro pz
  have second:∀x:Nat,x<10000→val 10000 (xs.take (os.length+1))=val 10000 (xs.take os.length)+10000^os.length*x→(x=0∨os.length<xs.length)→zx Tryz.prog K va vb v (I os.length) (I ((c+x:Nat):Int)) L bG:=by
   intro x fY e1 BE
   rw [avQ]
   simp only [dy.len,ah,cI,bK]
   refine ⟨fun aC=>?_,fun cH=>?_⟩
   ·obtain ⟨i,g1,g2⟩:=dy.get (j:=os.length) (by omega)
    have je:=ly _ (List.getElem_mem (show os.length<ys.length by omega))
    have e2:=gT 10000 ys (i:=os.length) (by omega)
    generalize ys[os.length]'(by omega)=y at g2 je e2
    have ea:IntKind.wrap .i64 (((c+x:Nat):Int)+(y:Int))=((c+x+y:Nat):Int):=by rw [wrap64 (by omega) (by omega)];omega
    simp only [g1,ah,g2,cD,ea]
    exact AK x y fY je pz e1 e2 (.inr (by omega))
   ·have:=AK x 0 fY (by decide) pz e1 (by rw [List.take_of_length_le (by omega),List.take_of_length_le (by omega)];simp) (by rcases BE with h | h;exact .inl ⟨h,rfl⟩;exact .inr (by omega))
    simpa using this
  simp only [dx.len,ah,cI,bK]
  refine ⟨fun aC=>?_,fun cH=>?_⟩
  ·obtain ⟨i,g1,g2⟩:=dx.get (j:=os.length) (by omega)
   have fY:=lx _ (List.getElem_mem (show os.length<xs.length by omega))
   have e1:=gT 10000 xs (i:=os.length) (by omega)
   generalize xs[os.length]'(by omega)=x at g2 fY e1
   have ea:IntKind.wrap .i64 ((c:Int)+(x:Int))=((c+x:Nat):Int):=by rw [wrap64 (by omega) (by omega)];omega
   simp only [g1,ah,g2,cD,ea]
   exact second x fY e1 (.inr (by omega))
  ·have:=second 0 (by decide) (by rw [List.take_of_length_le (by omega),List.take_of_length_le (by omega)];simp) (.inl rfl)
   simpa using this
 have done:¬(os.length<max xs.length ys.length∨0<c)→Pj Tryz.prog K v bG:=by
  intro cW
  rw [avT]
  refine hk v bG os hex gQ.ds eI (by omega) ?_
  have pf:c=0:=by omega
  rw [pf,Nat.mul_zero,Nat.add_zero,List.take_of_length_le (by omega),List.take_of_length_le (by omega)] at bS
  exact bS
 simp only [dx.len,ah,cI]
 by_cases h1:os.length<xs.length
 ·rw [decide_eq_true (show (os.length:Int)<(xs.length:Int) by omega)]
  simp only [agr,eZ,Qx,dA,ah,Qy,Hi,di]
  exact next (.inl (by omega))
 ·rw [decide_eq_false (show ¬(os.length:Int)<(xs.length:Int) by omega)]
  simp only [agr,dO,dy.len,ah,cI]
  by_cases h2:os.length<ys.length
  ·rw [decide_eq_true (show (os.length:Int)<(ys.length:Int) by omega)]
   simp only [Qx,cY,ah,Qy,eZ,Hi,dA,di]
   exact next (.inl (by omega))
  ·rw [decide_eq_false (show ¬(os.length:Int)<(ys.length:Int) by omega)]
   simp only [Qx,cY,ah,Qy,dO,fe]
   by_cases h3:0<c
   ·rw [decide_eq_true (show (0:Int)<(c:Int) by omega)]
    simp only [Hi,cY,ah,di]
    exact next (.inr h3)
   ·rw [decide_eq_false (show ¬(0:Int)<(c:Int) by omega)]
    simp only [Hi,cY,ah,dp]
    exact done (by omega)

theorem It {va vb:Value} {xs ys:List Nat} {h:ae} {K:Value→ae→Prop} (hx:DS 3 .i64 h va xs) (hy:DS 3 .i64 h vb ys) (lx:b9 10000 xs) (ly:b9 10000 ys) (sx:xs.length≤400) (hyx:ys.length≤xs.length) (hle:val 10000 ys≤val 10000 xs)
  (hk:∀v h' os,EX h h'→DS 3 .i64 h' v os→b9 10000 os→os.length≤500→val 10000 os=val 10000 xs-val 10000 ys→K v h'):ak Tryz.prog 103 [va,vb] h K:=by
 refine f103 ?_
 simp only [JG,OO,aE]
 refine dc (σ:=Value×Nat×List Nat×ae) (fun p=>[p.1,I p.2.1,I p.2.2.1.length]) (fun p=>p.2.2.2)
  (fun p=>EX h p.2.2.2∧mE h.length p.2.2.2 p.1 p.2.2.1∧p.2.1≤1∧b9 10000 p.2.2.1∧p.2.2.1.length≤xs.length∧val 10000 p.2.2.1+val 10000 (ys.take p.2.2.1.length)=val 10000 (xs.take p.2.2.1.length)+10000^p.2.2.1.length*p.2.1) (fun p=>xs.length-p.2.2.1.length)
  (sl 3 h.length 0 0,0,[],h++[.arr 3 []]) rfl rfl ⟨EX.append _ _,adE h,by simp,fun x hx=>by simp at hx,by simp,by simp [val]⟩ ?_
 rintro ⟨v,c,os,bG⟩ ⟨hex,gQ,hc,eI,hlen,bS⟩ L hL
 simp only at hex gQ hc eI hlen bS hL⊢
 rw [avP]
 have dx:=hx.mono hex
 have dy:=hy.mono hex
 simp only [dx.len,ah,cI,bK]
 refine ⟨fun aC=>?_,fun cH=>?_⟩
 ·have bf:os.length<xs.length:=by omega
  obtain ⟨i,g1,g2⟩:=dx.get bf
  have fY:=lx _ (List.getElem_mem bf)
  have e1:=gT 10000 xs bf
  generalize xs[os.length]=x at g2 fY e1
  have AK:∀y:Nat,y<10000→val 10000 (ys.take (os.length+1))=val 10000 (ys.take os.length)+10000^os.length*y→GD Tryz.prog K va vb v (I os.length) (I ((x:Int)-c-y)) L bG:=by
   intro y je e2
   rw [avL]
   have go:∀d b:Nat,d<10000→b≤1→d+y+c=x+10000*b→GF Tryz.prog K va vb v (I b) (I os.length) (I d) L bG:=by
    intro d b hd hb he
    rw [avM]
    refine Lc gQ hex (by omega) ?_
    intro v' h2 x2 o2
    simp only [avN,cD,ah,inc os.length (by omega),true_and]
    have el:(os++[d]).length=os.length+1:=by simp
    have:=hL (v',b,os++[d],h2) ⟨x2,o2,hb,eI.append (fun z hz=>by simp at hz;omega),by rw [el];omega,?_⟩ (by rw [el];omega)
    ·rw [el] at this
     exact this
    ·rw [el]
     show val 10000 (os++[d])+_=_
     rw [lM,e1,e2,Nat.pow_succ]
     simp only [val,Nat.mul_zero,Nat.add_zero]
     generalize 10000^os.length=P at*
     generalize val 10000 os=V at*
     clear hL dx dy hx hy gQ
     grind
   simp only [cI,ah,bK]
   refine ⟨fun mR=>?_,fun fQ=>?_⟩
   ·obtain ⟨d,hd⟩:∃d:Nat,(x:Int)-c-y+10000=d:=⟨((x:Int)-c-y+10000).toNat,by omega⟩
    simp only [cD,ah,hd]
    rw [wrap64 (by omega) (by omega)]
    exact go d 1 (by omega) (by omega) (by omega)
   ·obtain ⟨d,hd⟩:∃d:Nat,(x:Int)-c-y=d:=⟨((x:Int)-c-y).toNat,by omega⟩
    rw [hd]
    exact go d 0 (by omega) (by omega) (by omega)
  simp only [g1,ah,g2,fz,dy.len,cI,bK]
  rw [wrap64 (n:=(x:Int)-c) (by omega) (by omega)]
  refine ⟨fun ZS=>?_,fun ZI=>?_⟩
  ·obtain ⟨i',k1,k2⟩:=dy.get (j:=os.length) (by omega)
   have je:=ly _ (List.getElem_mem (show os.length<ys.length by omega))
   have e2:=gT 10000 ys (i:=os.length) (by omega)
   generalize ys[os.length]'(by omega)=y at k2 je e2
   simp only [k1,ah,k2,fz]
   rw [wrap64 (by omega) (by omega)]
   exact AK y je e2
  ·have:=AK 0 (by decide) (by rw [List.take_of_length_le (by omega),List.take_of_length_le (by omega)];simp)
   simpa using this
 ·have hl:os.length=xs.length:=by omega
  rw [avO]
  rw [hl,List.take_length,List.take_of_length_le hyx] at bS
  have aC:=kT eI
  rw [hl] at aC
  have pf:c=0:=by
   apply Classical.byContradiction
   intro br
   have:c=1:=by omega
   subst this
   omega
  subst pf
  exact hk v bG os hex gQ.ds eI (by omega) (by omega)

theorem RQ {va vb:Value} {a b:Nat} {h:ae} {K:Value→ae→Prop} (ha:eR h va a) (hb:eR h vb b) (la:a<bu) (lb:b<bu) (hk:K (I (kS a b)) h):ak Tryz.prog 101 [va,vb] h K:=by
 obtain ⟨xs,hx,cx,rfl⟩:=ha
 obtain ⟨ys,hy,cy,rfl⟩:=hb
 have l1:=p7 cx la
 have l2:=p7 cy lb
 have less:val 10000 xs<val 10000 ys→K (.int .i64 (-1)) h:=fun h1=>by unfold kS at hk;rw [if_pos h1] at hk;exact hk
 have more:val 10000 ys<val 10000 xs→K (.int .i64 1) h:=fun h1=>by unfold kS at hk;rw [if_neg (by omega),if_pos h1] at hk;exact hk
 have same:val 10000 xs=val 10000 ys→K (.int .i64 0) h:=fun h1=>by unfold kS at hk;rw [if_neg (by omega),if_neg (by omega)] at hk;exact hk
 refine f101 ?_
 simp only [JE,hx.len,hy.len,ah,ng,CQ,cI,bK]
 refine ⟨fun br=>⟨fun aC=>less (Canon.xc (by decide) cx cy (by omega)),fun cH=>more (Canon.xc (by decide) cy cx (by omega))⟩,fun he=>?_⟩
 have fk:xs.length=ys.length:=by omega
 simp only [fz,ah]
 have e1:IntKind.wrap .i64 ((xs.length:Int)-1)=(xs.length:Int)-1:=by rw [wrap64 (by omega) (by omega)]
 rw [e1]
 refine dc (σ:=Nat) (fun i=>[I ((i:Int)-1)]) (fun _=>h) (fun i=>i≤xs.length∧xs.drop i=ys.drop i) (fun i=>i) xs.length rfl rfl ⟨Nat.le_refl _,by rw [List.drop_length,fk,List.drop_length]⟩ ?_
 rintro i ⟨hi,qq⟩ L hL
 rw [avK]
 simp only [kl,ah,bK]
 refine ⟨fun cH=>?_,fun aC=>?_⟩
 ·obtain ⟨j,rfl⟩:∃j,i=j+1:=⟨i-1,by omega⟩
  have ej:(((j+1:Nat):Int)-1)=(j:Int):=by omega
  rw [ej]
  obtain ⟨ia,a1,a2⟩:=hx.get (j:=j) (by omega)
  obtain ⟨ib,b1,b2⟩:=hy.get (j:=j) (by omega)
  simp only [a1,a2,b1,b2,ah,true_and,cI,bK]
  refine ⟨fun aC=>less (Ib cx.1 cy.1 fk (i:=j) (by omega) qq (by omega)),fun cH=>?_⟩
  simp only [fe,ah,bK]
  refine ⟨fun qw=>more (Ib cy.1 cx.1 fk.symm (i:=j) (by omega) qq.symm (by omega)),fun hle=>?_⟩
  simp only [fz,ah]
  rw [wrap64 (by omega) (by omega)]
  refine hL j ⟨by omega,?_⟩ (by omega)
  rw [List.drop_eq_getElem_cons (by omega),List.drop_eq_getElem_cons (show j<ys.length by omega),qq]
  congr 1
  omega
 ·have:i=0:=by omega
  subst this
  rw [List.drop_zero,List.drop_zero] at qq
  exact same (by rw [qq])

end Go.Proofs.YtelmdbpaoifmoaaGreat


namespace Go.Proofs.YtelmdbpaoifmoaaGreat
open Go.Sim

theorem vN {h':ae} {j:Nat} {b0 v0 b v:Value} {K:Value→ae→Prop} (hg:h'[j]?=some (.arr 35 [b0,v0])) (hk:K (.agg #[b,v]) (h'.set j (.arr 35 [b,v]))):
  OH (aI 2 h' (pt j 0) (.agg #[b,v])) fun _ h6=>OP (af true 2 h6 (pt j 0)) fun r0=>K r0 h6:=by
 rw [ef hg]
 simp only [aE]
 rw [cn (cM hg)]
 exact ah.2 hk

structure aiD (h:ae) (va vb:Value) (sa sb:Bool) (h3:ae):Prop where
 ex:EX h h3
 a0:af false 1 h3 (pt h.length 0)=some (B sa)
 a1:af false 1 h3 (pt h.length 1)=some va
 b0:af false 1 h3 (pt (h.length+1) 0)=some (B sb)
 b1:af false 1 h3 (pt (h.length+1) 1)=some vb
 a2:af true 2 h3 (pt h.length 0)=some (.agg #[B sa,va])
 b2:af true 2 h3 (pt (h.length+1) 0)=some (.agg #[B sb,vb])
 out:h3[h.length+2]?=some (.arr 35 [.bool false,.slice none 0 0])

theorem Du {h:ae} {va vb:Value} {sa sb:Bool} {K:Value→Value→Value→ae→Prop} (hk:∀h3,aiD h va vb sa sb h3→K (pt h.length 0) (pt (h.length+1) 0) (pt (h.length+2) 0) h3):
  OH (bk 35 h (.agg #[B sa,va])) fun a2 h_1=>OH (bk 35 h_1 (.agg #[B sb,vb])) fun b3 h_2=>OH (aX 35 [(.bool false),(.slice none 0 0)] h_2) fun x4 h_3=>K a2 b3 x4 h_3:=by
 have e1:∀(g:ae) (s:Bool) (v:Value),bk 35 g (.agg #[B s,v])=some (pt g.length 0,g++[.arr 35 [B s,v]]):=fun _ _ _=>rfl
 have e2:∀(g:ae),aX 35 [(.bool false),(.slice none 0 0)] g=some (pt g.length 0,g++[.arr 35 [(.bool false),(.slice none 0 0)]]):=fun _=>rfl
 simp only [e1,e2,aE,List.length_append,List.length_cons,List.length_nil]
 have g0:(h++[aq.arr 35 [B sa,va]]++[aq.arr 35 [B sb,vb]]++[aq.arr 35 [(.bool false),(.slice none 0 0)]])[h.length]?=some (.arr 35 [B sa,va]):=by simp
 have g1:(h++[aq.arr 35 [B sa,va]]++[aq.arr 35 [B sb,vb]]++[aq.arr 35 [(.bool false),(.slice none 0 0)]])[h.length+1]?=some (.arr 35 [B sb,vb]):=by simp
 have g2:(h++[aq.arr 35 [B sa,va]]++[aq.arr 35 [B sb,vb]]++[aq.arr 35 [(.bool false),(.slice none 0 0)]])[h.length+2]?=some (.arr 35 [(.bool false),(.slice none 0 0)]):=by simp
 refine hk _ ⟨((EX.append _ _).push _).push _,?_,?_,?_,?_,cn g0,cn g1,g2⟩
 ·simp [af,aO,ck]
 ·simp [af,aO,ck]
 ·simp [af,aO,ck]
 ·simp [af,aO,ck]

theorem Lj {b:Bool} {e:TypeId} {k:IntKind} {h:ae} {v:Value} {xs:List Nat} (d:DS e k h v xs):cT [(.bool false),(.slice none 0 0)] [(0,1,B b),(1,1,v)]=some (.agg #[B b,v]):=by
 rcases d with ⟨rfl,_⟩ | ⟨i,rfl,_⟩ <;> rfl

theorem Sq {va vb:Value} {a b:Int} {h:ae} {K:Value→ae→Prop} (ha:ZV h va a) (hb:ZV h vb b) (la:a.natAbs<bu) (lb:b.natAbs<bu) (hk:∀r h',EX h h'→ZV h' r (a+b)→K r h'):ak Tryz.prog 70 [va,vb] h K:=by
 obtain ⟨v,rfl,hv⟩:=ha
 obtain ⟨w,rfl,hw⟩:=hb
 refine f70 ?_
 unfold KI
 refine Du ?_
 intro h3 x
 have sW:=hv.mono x.ex
 have sY:=hw.mono x.ex
 obtain ⟨xs,dx,cx,ex⟩:=id sW
 obtain ⟨ys,dy,cy,ey⟩:=id sY
 have l1:=p7 cx (by rw [ex];exact la)
 have l2:=p7 cy (by rw [ey];exact lb)
 simp only [bW,Nat.add_zero,Nat.zero_add,ah,x.a0,x.a1,x.b0,x.b1,AM,Bool.false_eq_true,if_false]
 -- ft result,put in its place
 have put:∀(s:Bool) (u:Value) (os:List Nat) (h4:ae) (z:Int),EX h3 h4→DS 3 .i64 h4 u os→b9 10000 os→os.length≤500→(if s then -(val 10000 os:Int) else (val 10000 os:Int))=z→z=a+b→
   OP (cT [(.bool false),(.slice none 0 0)] [(0,1,B s),(1,1,u)]) fun bQ=>ak Tryz.prog 100 [bQ] h4 fun aQ h_5=>OH (aI 2 h_5 (pt (h.length+2) 0) aQ) fun _ h_6=>OP (af true 2 h_6 (pt (h.length+2) 0)) fun r0=>K r0 h_6:=by
  intro s u os h4 z x4 d4 l4 s4 hz mi
  simp only [Lj d4,ah]
  refine uW d4 l4 (by omega) ?_
  intro r h5 x5 zr
  rw [hz,mi] at zr
  obtain ⟨q,rfl,hq⟩:=id zr
  have g':=(x4.trans x5).get x.out
  exact vN g' (hk _ _ (((x.ex.trans x4).trans x5).set (by omega) _) (zr.bH g' _))
 refine xH (fun he=>?_) fun br=>?_
 ·have hs:decide (a<0)=decide (b<0):=by simpa using he
  have dw:(a<0↔b<0):=by simpa using hs
  simp only [true_and]
  refine aiF dx dy cx.1 cy.1 (by omega) (by omega) ?_
  intro u h4 os x4 d4 l4 s4 v4
  refine ⟨⟨EX.load x4 x.a0,trivial⟩,?_⟩
  have:=put (decide (a<0)) u os h4 _ x4 d4 l4 s4 rfl (by
   rw [v4,ex,ey]
   by_cases h0:a<0
   ·rw [decide_eq_true h0];simp;omega
   ·rw [decide_eq_false h0];simp;omega)
  simpa using this
 ·have hs:decide (a<0)≠decide (b<0):=by simpa using br
  have dw:¬(a<0↔b<0):=fun h=>hs (decide_eq_decide.2 h)
  refine RQ sW sY la lb ?_
  simp only [kl,ah,bK]
  have ll:∀{p q:List Nat},Canon 10000 p→Canon 10000 q→val 10000 q≤val 10000 p→q.length≤p.length:=by
   intro p q cp cq FQ
   apply Classical.byContradiction
   intro hc
   have:=Canon.xc (by decide) cp cq (by omega)
   omega
  refine ⟨fun cH=>?_,fun aC=>?_⟩
  ·have hle:b.natAbs≤a.natAbs:=by
    apply Classical.byContradiction
    intro hc
    unfold kS at cH
    rw [if_pos (by omega)] at cH
    omega
   simp only [x.a0,x.a1,x.b1,ah,true_and]
   refine It dx dy cx.1 cy.1 (by omega) (ll cx cy (by omega)) (by omega) ?_
   intro u h4 os x4 d4 l4 s4 v4
   refine ⟨⟨EX.load x4 x.a0,trivial⟩,?_⟩
   have:=put (decide (a<0)) u os h4 _ x4 d4 l4 s4 rfl (by
    rw [v4,ex,ey]
    by_cases h0:a<0
    ·rw [decide_eq_true h0];simp;omega
    ·rw [decide_eq_false h0];simp;omega)
   simpa using this
  ·have hle:a.natAbs≤b.natAbs:=by
    apply Classical.byContradiction
    intro hc
    unfold kS at aC
    rw [if_neg (by omega),if_pos (by omega)] at aC
    omega
   simp only [x.b0,x.a1,x.b1,ah,true_and]
   refine It dy dx cy.1 cx.1 (by omega) (ll cy cx (by omega)) (by omega) ?_
   intro u h4 os x4 d4 l4 s4 v4
   refine ⟨⟨EX.load x4 x.b0,trivial⟩,?_⟩
   have:=put (decide (b<0)) u os h4 _ x4 d4 l4 s4 rfl (by
    rw [v4,ex,ey]
    by_cases h0:b<0
    ·rw [decide_eq_true h0];simp;omega
    ·rw [decide_eq_false h0];simp;omega)
   simpa using this

theorem eR.nE {h:ae} {v:Value} {n:Nat} (p:eR h v n):∃l:Nat,aY v=some (I l)∧(0<l↔0<n):=by
 obtain ⟨xs,d,c,rfl⟩:=p
 refine ⟨xs.length,d.len,?_⟩
 constructor
 ·intro h0
  have:=Canon.low (by decide) c (by rintro rfl;simp at h0)
  have:0<10000^(xs.length-1):=Nat.pow_pos (by decide)
  omega
 ·intro h0
  cases xs with
  | nil=>simp [val] at h0
  | cons x xs=>simp

theorem Sw {va:Value} {a:Int} {h:ae} {K:Value→ae→Prop} (ha:ZV h va a) (hk:∀r h',EX h h'→ZV h' r (-a)→K r h'):ak Tryz.prog 95 [va] h K:=by
 obtain ⟨v,rfl,hv⟩:=ha
 refine f95 ?_
 have e1:bk 35 h (.agg #[B (decide (a<0)),v])=some (pt h.length 0,h++[.arr 35 [B (decide (a<0)),v]]):=rfl
 have e2:∀(g:ae),aX 35 [(.bool false),(.slice none 0 0)] g=some (pt g.length 0,g++[.arr 35 [(.bool false),(.slice none 0 0)]]):=fun _=>rfl
 simp only [K3,e1,e2,aE,List.length_append,List.length_cons,List.length_nil]
 have g0:(h++[aq.arr 35 [B (decide (a<0)),v]]++[aq.arr 35 [(.bool false),(.slice none 0 0)]])[h.length]?=some (.arr 35 [B (decide (a<0)),v]):=by simp
 have g1:(h++[aq.arr 35 [B (decide (a<0)),v]]++[aq.arr 35 [(.bool false),(.slice none 0 0)]])[h.length+1]?=some (.arr 35 [(.bool false),(.slice none 0 0)]):=by simp
 have x1:EX h (h++[aq.arr 35 [B (decide (a<0)),v]]++[aq.arr 35 [(.bool false),(.slice none 0 0)]]):=(EX.append _ _).push _
 generalize h++[aq.arr 35 [B (decide (a<0)),v]]++[aq.arr 35 [(.bool false),(.slice none 0 0)]]=h1 at g0 g1 x1⊢
 have l0:af false 1 h1 (pt h.length 0)=some (B (decide (a<0))):=by simp [af,aO,g0,ck]
 have l1:af false 1 h1 (pt h.length 1)=some v:=by simp [af,aO,g0,ck]
 have kA:=hv.mono x1
 obtain ⟨l,n1,n2⟩:=kA.nE
 have last:∀c:Bool,c=decide (-a<0)→OH (aI 1 h1 (pt h.length 0) (B c)) fun _ h_1=>OP (af true 2 h_1 (pt h.length 0)) fun aA=>OH (aI 2 h_1 (pt (h.length+1) 0) aA) fun _ h_2=>OP (af true 2 h_2 (pt (h.length+1) 0)) fun r0=>K r0 h_2:=by
  rintro c rfl
  rw [oL g0 (by simp) rfl rfl]
  simp only [aE,List.set_cons_zero]
  rw [cn (cM g0)]
  simp only [ah]
  have m1:(h1.set h.length (.arr 35 [B (decide (-a<0)),v]))[h.length+1]?=some (.arr 35 [(.bool false),(.slice none 0 0)]):=by rw [List.getElem?_set_ne (by omega)];exact g1
  refine vN m1 (hk _ _ ((x1.set (Nat.le_refl _) _).set (by omega) _) ⟨v,rfl,?_⟩)
  have:(-a).natAbs=a.natAbs:=by omega
  rw [this]
  exact (kA.bH g0 _).bH m1 _
 simp only [bW,Nat.add_zero,ah,l0,nO]
 by_cases h0:a<0
 ·rw [decide_eq_true h0]
  simp only [Bool.not_true,ahe,iz,ahf,cY,ah,bW,Nat.add_zero]
  rw [decide_eq_true h0] at*
  exact last _ (by simp;omega)
 ·rw [decide_eq_false h0]
  simp only [Bool.not_false,ahe,fy,bW,Nat.zero_add,ah,l1,n1,fe,ahf,dA,Nat.add_zero]
  refine last _ ?_
  rw [decide_eq_decide]
  omega

theorem CL {va vb:Value} {a b:Int} {h:ae} {K:Value→ae→Prop} (ha:ZV h va a) (hb:ZV h vb b) (la:a.natAbs<bu) (lb:b.natAbs<bu) (hk:∀r h',EX h h'→ZV h' r (a-b)→K r h'):ak Tryz.prog 92 [va,vb] h K:=by
 have pb:=ha
 have n7:=hb
 obtain ⟨v,rfl,hv⟩:=ha
 obtain ⟨w,rfl,hw⟩:=hb
 refine f92 ?_
 unfold K0
 refine Du ?_
 intro h3 x
 simp only [ah,x.a2,x.b2,true_and]
 refine Sw (n7.mono x.ex) ?_
 intro r1 h4 x4 i1
 refine ⟨⟨EX.load x4 x.a2,trivial⟩,?_⟩
 refine Sq (pb.mono (x.ex.trans x4)) i1 la (by rw [Int.natAbs_neg];exact lb) ?_
 intro r2 h5 x5 i2
 have g':=(x4.trans x5).get x.out
 obtain ⟨u,rfl,hu⟩:=id i2
 refine vN g' (hk _ _ (((x.ex.trans x4).trans x5).set (by omega) _) ?_)
 rw [Int.sub_eq_add_neg]
 exact i2.bH g' _

def iU (z:Int):Int:=if z=0 then 0 else if z<0 then -1 else 1

theorem Iz {va:Value} {a:Int} {h:ae} {K:Value→ae→Prop} (ha:ZV h va a) (hk:∀h',EX h h'→K (I (iU a)) h'):ak Tryz.prog 48 [va] h K:=by
 obtain ⟨v,rfl,hv⟩:=ha
 refine f48 ?_
 have e1:bk 35 h (.agg #[B (decide (a<0)),v])=some (pt h.length 0,h++[.arr 35 [B (decide (a<0)),v]]):=rfl
 simp only [Kx,e1,aE]
 have l0:af false 1 (h++[.arr 35 [B (decide (a<0)),v]]) (pt h.length 0)=some (B (decide (a<0))):=uI rfl
 have l1:af false 1 (h++[.arr 35 [B (decide (a<0)),v]]) (pt h.length 1)=some v:=uI rfl
 have x1:EX h (h++[.arr 35 [B (decide (a<0)),v]]):=EX.append _ _
 obtain ⟨l,n1,n2⟩:=hv.nE
 have bV:=hk _ x1
 unfold iU at bV
 simp only [bW,Nat.zero_add,Nat.add_zero,ah,l1,n1,fX,bK,l0]
 refine ⟨fun h0=>?_,fun h0=>⟨fun hn=>?_,fun hn=>?_⟩⟩
 ·rw [if_pos (by omega)] at bV;exact bV
 ·rw [if_neg (by omega),if_pos hn] at bV;exact bV
 ·rw [if_neg (by omega),if_neg hn] at bV;exact bV

theorem ID {va vb:Value} {a b:Int} {h:ae} {K:Value→ae→Prop} (ha:ZV h va a) (hb:ZV h vb b) (la:a.natAbs<bu) (lb:b.natAbs<bu) (hk:∀h',EX h h'→K (I (iU (a-b))) h'):ak Tryz.prog 72 [va,vb] h K:=by
 have pb:=ha
 have n7:=hb
 obtain ⟨v,rfl,hv⟩:=ha
 obtain ⟨w,rfl,hw⟩:=hb
 refine f72 ?_
 have e1:∀(g:ae) (s:Bool) (v:Value),bk 35 g (.agg #[B s,v])=some (pt g.length 0,g++[.arr 35 [B s,v]]):=fun _ _ _=>rfl
 simp only [KK,e1,aE,List.length_append,List.length_cons,List.length_nil]
 have g0:(h++[aq.arr 35 [B (decide (a<0)),v]]++[aq.arr 35 [B (decide (b<0)),w]])[h.length]?=some (.arr 35 [B (decide (a<0)),v]):=by simp
 have g1:(h++[aq.arr 35 [B (decide (a<0)),v]]++[aq.arr 35 [B (decide (b<0)),w]])[h.length+1]?=some (.arr 35 [B (decide (b<0)),w]):=by simp
 have x1:EX h (h++[aq.arr 35 [B (decide (a<0)),v]]++[aq.arr 35 [B (decide (b<0)),w]]):=(EX.append _ _).push _
 simp only [Nat.zero_add,cn g0,cn g1,ah]
 refine CL (pb.mono x1) (n7.mono x1) la lb ?_
 intro r h2 x2 zr
 refine Iz zr ?_
 intro h3 x3
 exact hk h3 ((x1.trans x2).trans x3)

end Go.Proofs.YtelmdbpaoifmoaaGreat

