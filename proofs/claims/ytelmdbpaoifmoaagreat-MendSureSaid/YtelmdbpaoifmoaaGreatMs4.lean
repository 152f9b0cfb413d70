/-
  Part 4 of the texts behind a statement of this seat: ZN1, ZN2, Ct28, Ct29, Ct30, Ct31, Ct32, Ct33, ZR1, Ct34, Ct35, Ct36, Ct37, Ct38, Ct39, Ct40.
-/
import Derived.Test.YtelmdbpaoifmoaaGreatProg
import Derived.KernelRfl
import Derived.Test.YtelmdbpaoifmoaaGreatMs3
open Classical (byContradiction)
open Go.Proofs.Tryz (prog)
open List (drop_eq_getElem_cons drop_zero getElem?_set_ne getElem_mem getElem_set_ne length_append length_cons length_nil length_set length_take replicate take_length take_of_length_le)
open Nat (add_zero le_refl mod_lt mul_zero pow_pos pow_succ zero_add)
namespace Go.Proofs.YtelmdbpaoifmoaaGreat
open Go.Sim
section
variable (P : Program) (K : VK)
noncomputable section
variable (n0 x2 u3 : Value) (h : ae)
def agV:=bK prog 105 [[],[],[],[0,2,3],[]]
@[irreducible] def O7:=bR agV
@[irreducible] def arH:=O7.r.r.r.l
theorem ayD:agV=some (20,O7,[.cell true 2 2]):=by kernel_rfl
def aoo (_P:Program) (K:VK):ar:=aS [.cell true 2 2] K
def Kt:Prop:=ax (aj P arH (aoo P K)) [0,2,3] [n0,x2,u3] h
theorem aAI:Kt P K n0 x2 u3 h=
 (OP (ai .lss n0 (.int .i64 (0))) fun au=>
 OP (dm .u32 u3) fun aD=>
 OP (ai .shr u3 (.int .u64 (32))) fun bj=>
 OP (dm .u32 bj) fun bM=>
 OH (cZ 177 2 [(.int .u32 (0))] h [(0,1,aD),(1,1,bM)]) fun bU z1=>
 aq P 118 [bU] z1 fun aO z2=>
 aq P 117 [au,aO] z2 fun aP z3=>
 OH (aK 2 z3 x2 aP) fun _ z4=>
 OP (af true 2 z4 x2) fun r0=>
 K r0 z4):=az (by kernel_rfl)
def Ni:Prop:=
 OH (ba 105 [(.bool false),(.slice none 0 0)] h) fun x2 z1=>
 OP (dm .u64 n0) fun x5=>
 OP (ai .lss n0 (.int .i64 (0))) fun x7=>
 aQ x7
 (OP (gZ .neg x5) fun x9=>
 Kt P K n0 x2 x9 z1)
 (Kt P K n0 x2 x5 z1)
theorem avg:aj P O7 (aS [.cell true 2 2] K) (bG [n0]) h=Ni P K n0 h:=by kernel_rfl
theorem f105 {K:VK} {n0:Value} {h:ae} (H:Ni prog K n0 h):aq prog 105 [n0] h K:=
 bT ayD (bP rfl) ((avg prog K n0 h).mpr H)
end
noncomputable section
variable (a0 b1 : Value) (h : ae)
def agX:=bK prog 107 [[],[]]
@[irreducible] def ZC:=bR agX
theorem ayF:agX=some (16,ZC,[.cell true 2 4]):=by kernel_rfl
def Nk:Prop:=
 OH (bC 105 h a0) fun a2 z1=>
 OH (bC 105 z1 b1) fun b3 z2=>
 OH (ba 105 [(.bool false),(.slice none 0 0)] z2) fun x4 z3=>
 OP (aJ 0 a2) fun x5=>
 OP (af false 1 z3 x5) fun x6=>
 (True)∧
 OP (aJ 0 b3) fun x7=>
 OP (af false 1 z3 x7) fun x8=>
 (True)∧
 OP (uR true x6 x8) fun x9=>
 OP (aJ 1 a2) fun aM=>
 OP (af false 1 z3 aM) fun au=>
 (True)∧
 OP (aJ 1 b3) fun aA=>
 OP (af false 1 z3 aA) fun aD=>
 (True)∧
 aq P 122 [au,aD] z3 fun aL z4=>
 (af false 1 z4 x5=some x6∧af false 1 z4 x7=some x8∧True)∧
 aq P 117 [x9,aL] z4 fun bj z5=>
 (True)∧
 OH (aK 2 z5 x4 bj) fun _ z6=>
 (True)∧
 OP (af true 2 z6 x4) fun r0=>
 K r0 z6
theorem avi:aj P ZC (aS [.cell true 2 4] K) (bG [a0,b1]) h=Nk P K a0 b1 h:=by kernel_rfl
theorem f107 {K:VK} {a0 b1:Value} {h:ae} (H:Nk prog K a0 b1 h):aq prog 107 [a0,b1] h K:=
 bT ayF (bP rfl) ((avi prog K a0 b1 h).mpr H)
end
noncomputable section
variable (a0 : Value) (h : ae)
def agZ:=bK prog 109 [[],[],[],[],[],[],[]]
@[irreducible] def ZK:=bR agZ
theorem ayH:agZ=some (11,ZK,[.tmp 2]):=by kernel_rfl
def Nm (_:Program) (K:VK) (a0:Value) (h:ae):Prop:=
 OH (bC 105 h a0) fun a1 z1=>
 OP (aJ 1 a1) fun x4=>
 OP (af false 1 z1 x4) fun x5=>
 OP (bc x5) fun x6=>
 OP (ai .eql x6 (.int .i64 (0))) fun x7=>
 aQ x7
 (K (.int .i64 (0)) z1)
 (OP (aJ 0 a1) fun x9=>
 OP (af false 1 z1 x9) fun aM=>
 aQ aM
 (K (.int .i64 (-1)) z1)
 (K (.int .i64 (1)) z1))
theorem avk:aj P ZK (aS [.tmp 2] K) (bG [a0]) h=Nm P K a0 h:=by kernel_rfl
theorem f109 {K:VK} {a0:Value} {h:ae} (H:Nm prog K a0 h):aq prog 109 [a0] h K:=
 bT ayH (bP rfl) ((avk prog K a0 h).mpr H)
end
noncomputable section
variable (a0 b1 : Value) (h : ae)
def ag1:=bK prog 111 [[],[]]
@[irreducible] def ZM:=bR ag1
theorem ayJ:ag1=some (9,ZM,[.tmp 4]):=by kernel_rfl
def No:Prop:=
 OH (bC 105 h a0) fun a2 z1=>
 OH (bC 105 z1 b1) fun b3 z2=>
 OP (af true 2 z2 a2) fun x5=>
 OP (af true 2 z2 b3) fun x6=>
 aq P 127 [x5,x6] z2 fun x7 z3=>
 aq P 109 [x7] z3 fun x8 z4=>
 K x8 z4
theorem avm:aj P ZM (aS [.tmp 4] K) (bG [a0,b1]) h=No P K a0 b1 h:=by kernel_rfl
theorem f111 {K:VK} {a0 b1:Value} {h:ae} (H:No prog K a0 b1 h):aq prog 111 [a0,b1] h K:=
 bT ayJ (bP rfl) ((avm prog K a0 b1 h).mpr H)
end
noncomputable section
variable (n0 : Value) (h : ae)
def ag2:=bK prog 112 [[],[]]
@[irreducible] def ZN:=bR ag2
theorem ayK:ag2=some (6,ZN,[.cell true 4 2]):=by kernel_rfl
def Np:Prop:=
 OH (bC 105 h n0) fun n1 z1=>
 OH (ba 107 [(.bool false),(.slice none 0 0),(.bool false),(.slice none 0 0)] z1) fun x2 z2=>
 OP (af true 2 z2 n1) fun x3=>
 (True)∧
 aq P 105 [(.int .i64 (1))] z2 fun x4 z3=>
 (af true 2 z3 n1=some x3∧True)∧
 OP (dW [(.bool false),(.slice none 0 0),(.bool false),(.slice none 0 0)] [(0,2,x3),(2,2,x4)]) fun x5=>
 OH (aK 4 z3 x2 x5) fun _ z4=>
 (True)∧
 OP (af true 4 z4 x2) fun r0=>
 K r0 z4
theorem avn:aj P ZN (aS [.cell true 4 2] K) (bG [n0]) h=Np P K n0 h:=by kernel_rfl
theorem f112 {K:VK} {n0:Value} {h:ae} (H:Np prog K n0 h):aq prog 112 [n0] h K:=
 bT ayK (bP rfl) ((avn prog K n0 h).mpr H)
end
noncomputable section
variable (a0 b1 : Value) (h : ae)
def ag3:=bK prog 113 [[],[],[],[],[],[],[]]
@[irreducible] def ZO:=bR ag3
theorem ayL:ag3=some (42,ZO,[.cell true 2 4]):=by kernel_rfl
def Nq:Prop:=
 OH (bC 105 h a0) fun a2 z1=>
 OH (bC 105 z1 b1) fun b3 z2=>
 OH (ba 105 [(.bool false),(.slice none 0 0)] z2) fun x4 z3=>
 OP (aJ 0 a2) fun x6=>
 OP (af false 1 z3 x6) fun x7=>
 OP (aJ 0 b3) fun x8=>
 OP (af false 1 z3 x8) fun x9=>
 OP (uR false x7 x9) fun aM=>
 aQ aM
 (OP (aJ 0 a2) fun au=>
 OP (af false 1 z3 au) fun aA=>
 (True)∧
 OP (aJ 1 a2) fun aD=>
 OP (af false 1 z3 aD) fun aL=>
 (True)∧
 OP (aJ 1 b3) fun bj=>
 OP (af false 1 z3 bj) fun bM=>
 (True)∧
 aq P 128 [aL,bM] z3 fun bU z4=>
 (af false 1 z4 au=some aA∧True)∧
 aq P 117 [aA,bU] z4 fun aO z5=>
 (True)∧
 OH (aK 2 z5 x4 aO) fun _ z6=>
 (True)∧
 OP (af true 2 z6 x4) fun r0=>
 K r0 z6)
 (OP (aJ 1 a2) fun aZ=>
 OP (af false 1 z3 aZ) fun bf=>
 OP (aJ 1 b3) fun bH=>
 OP (af false 1 z3 bH) fun cX=>
 aq P 126 [bf,cX] z3 fun bD z4=>
 OP (ai .geq bD (.int .i64 (0))) fun bV=>
 aQ bV
 (OP (aJ 0 a2) fun cF=>
 OP (af false 1 z4 cF) fun bn=>
 (True)∧
 OP (aJ 1 a2) fun bz=>
 OP (af false 1 z4 bz) fun bN=>
 (True)∧
 OP (aJ 1 b3) fun dD=>
 OP (af false 1 z4 dD) fun cG=>
 (True)∧
 aq P 129 [bN,cG] z4 fun bk z5=>
 (af false 1 z5 cF=some bn∧True)∧
 aq P 117 [bn,bk] z5 fun br z6=>
 (True)∧
 OH (aK 2 z6 x4 br) fun _ z7=>
 (True)∧
 OP (af true 2 z7 x4) fun r0=>
 K r0 z7)
 (OP (aJ 0 b3) fun bE=>
 OP (af false 1 z4 bE) fun de=>
 (True)∧
 OP (aJ 1 b3) fun dE=>
 OP (af false 1 z4 dE) fun eQ=>
 (True)∧
 OP (aJ 1 a2) fun dF=>
 OP (af false 1 z4 dF) fun eI=>
 (True)∧
 aq P 129 [eQ,eI] z4 fun ee z5=>
 (af false 1 z5 bE=some de∧True)∧
 aq P 117 [de,ee] z5 fun dG z6=>
 (True)∧
 OH (aK 2 z6 x4 dG) fun _ z7=>
 (True)∧
 OP (af true 2 z7 x4) fun r0=>
 K r0 z7))
theorem avo:aj P ZO (aS [.cell true 2 4] K) (bG [a0,b1]) h=Nq P K a0 b1 h:=by kernel_rfl
theorem f113 {K:VK} {a0 b1:Value} {h:ae} (H:Nq prog K a0 b1 h):aq prog 113 [a0,b1] h K:=
 bT ayL (bP rfl) ((avo prog K a0 b1 h).mpr H)
end
noncomputable section
variable (a0 w1 x6 x7 i8 : Value) (L1 : LQ) (xs : List Value) (h : ae)
def ag4:=bK prog 114 [[],[],[],[],[0,1,6],[7,8],[],[],[],[],[6,7],[]]
@[irreducible] def Hf:=bR ag4
@[irreducible] def arQ:=Hf.r.r.r.l.r.l.l
@[irreducible] def ZP:=Hf.r.r.r.r
@[irreducible] def arP:=ZP.l
theorem ayM:ag4=some (44,Hf,[.tmp 4,.tmp 5]):=by kernel_rfl
def Mw (_P:Program) (K:VK):ar:=aS [.tmp 4,.tmp 5] K
def aot:ar:=aF (aj P ZP (Mw P K)) (Mw P K)
def aou:ar:=bI 0 (aot P K)
def aov:ar:=aF (fun f' aU=>(([0,1,6]:List Nat).map f':List Value)=[a0,w1,x6]∧L1 (([7,8]:List Nat).map f') aU) (aou P K)
def aiW:Prop:=ax (aj P arQ (aov P K a0 w1 x6 L1)) ([0,1,6]++[7,8]) ([a0,w1,x6]++xs) h
def aiV:Prop:=ax (aj P arP (Mw P K)) [6,7] [x6,x7] h
theorem aAP (a0 w1 x6:Value) (L1:LQ) (x7 i8:Value) (h:ae):aiW P K a0 w1 x6 L1 [x7,i8] h=
 (OP (ai .geq i8 (.int .i64 (0))) fun bU=>
 aQ bU
 (OP (ai .shl x7 (.int .u64 (32))) fun bf=>
 OP (aY 1 a0 i8) fun bD=>
 OP (af false 1 h bD) fun bV=>
 OP (dm .u64 bV) fun cF=>
 OP (ai .or bf cF) fun bn=>
 OP (dm .u64 w1) fun bk=>
 OP (ai .quo bn bk) fun br=>
 OP (dm .u32 br) fun bE=>
 OP (dm .u64 w1) fun eQ=>
 OP (ai .rem bn eQ) fun dF=>
 OP (aY 1 x6 i8) fun eI=>
 OH (aK 1 h eI bE) fun _ z1=>
 (True)∧
 OP (ai .sub i8 (.int .i64 (1))) fun aP=>
 ([a0,w1,x6]:List Value)=[a0,w1,x6]∧L1 [dF,aP] z1)
 (aiV P K x6 x7 h)):=az (by kernel_rfl)
theorem aAO:aiV P K x6 x7 h=
 (aq P 118 [x6] h fun dG z1=>
 OP (dm .u32 x7) fun bO=>
 K (.tuple #[dG,bO]) z1):=az (by kernel_rfl)
def Nr:Prop:=
 OP (bc a0) fun au=>
 OH (lE 177 4 [(.int .u32 (0))] h au au) fun aA z1=>
 OP (bc a0) fun aL=>
 OP (ai .sub aL (.int .i64 (1))) fun bj=>
 cJ [(.int .u64 (0)),bj] z1 fun L1 xs hx=>
 aiW P K a0 w1 aA L1 xs hx
theorem avp:aj P Hf (aS [.tmp 4,.tmp 5] K) (bG [a0,w1]) h=Nr P K a0 w1 h:=by kernel_rfl
theorem f114 {K:VK} {a0 w1:Value} {h:ae} (H:Nr prog K a0 w1 h):aq prog 114 [a0,w1] h K:=
 bT ayM (bP rfl) ((avp prog K a0 w1 h).mpr H)
end
noncomputable section
variable (s0 i2 j3 : Value) (L1 : LQ) (xs : List Value) (h : ae)
def ag5:=bK prog 115 [[],[0],[2,3],[],[],[]]
@[irreducible] def O9:=bR ag5
@[irreducible] def arR:=O9.r.l.l
theorem ayN:ag5=some (28,O9,[]):=by kernel_rfl
def aow (_P:Program) (K:VK):ar:=aS [] K
def aox:ar:=bI 0 (aow P K)
def aoy:ar:=aF (fun f' aU=>(([0]:List Nat).map f':List Value)=[s0]∧L1 (([2,3]:List Nat).map f') aU) (aox P K)
def aiX:Prop:=ax (aj P arR (aoy P K s0 L1)) ([0]++[2,3]) ([s0]++xs) h
theorem aAQ (s0:Value) (L1:LQ) (i2 j3:Value) (h:ae):aiX P K s0 L1 [i2,j3] h=
 (OP (ai .lss i2 j3) fun x9=>
 aQ x9
 (OP (aY 1 s0 j3) fun aZ=>
 OP (af false 1 h aZ) fun bf=>
 (True)∧
 OP (aY 1 s0 i2) fun bD=>
 OP (af false 1 h bD) fun bV=>
 (True)∧
 OP (aY 1 s0 i2) fun cF=>
 OH (aK 1 h cF bf) fun _ z1=>
 (True)∧
 OP (aY 1 s0 j3) fun bn=>
 OH (aK 1 z1 bn bV) fun _ z2=>
 (True)∧
 OP (ai .add i2 (.int .i64 (1))) fun au=>
 OP (ai .sub j3 (.int .i64 (1))) fun aD=>
 ([s0]:List Value)=[s0]∧L1 [au,aD] z2)
 (K (.tuple #[]) h)):=az (by kernel_rfl)
def Ns:Prop:=
 OP (bc s0) fun x5=>
 OP (ai .sub x5 (.int .i64 (1))) fun x6=>
 cJ [(.int .i64 (0)),x6] h fun L1 xs hx=>
 aiX P K s0 L1 xs hx
theorem avq:aj P O9 (aS [] K) (bG [s0]) h=Ns P K s0 h:=by kernel_rfl
theorem f115 {K:VK} {s0:Value} {h:ae} (H:Ns prog K s0 h):aq prog 115 [s0] h K:=
 bT ayN (bP rfl) ((avq prog K s0 h).mpr H)
end
noncomputable section
variable (x0 x1 x4 x6 x9 : Value) (h : ae)
def ag7:=bK prog 117 [[],[1,4,6],[1,4,6,9],[]]
@[irreducible] def Hg:=bR ag7
@[irreducible] def ZR:=Hg.r.l.r.l
@[irreducible] def arS:=Hg.r.r
@[irreducible] def arT:=ZR.r.l
theorem ayP:ag7=some (13,Hg,[.cell true 2 4]):=by kernel_rfl
def Xt (_P:Program) (K:VK):ar:=aS [.cell true 2 4] K
def Xu:ar:=aF (aj P arS (Xt P K)) (Xt P K)
def aiY:Prop:=ax (aj P ZR (Xu P K)) [1,4,6] [x1,x4,x6] h
def Fu:Prop:=ax (aj P arT (Xu P K)) [1,4,6,9] [x1,x4,x6,x9] h
theorem alC:Fu P K x1 x4 x6 x9 h=
 (OP (ck x6 x9 (.bool false)) fun aM=>
 OP (dW [(.bool false),(.slice none 0 0)] [(0,1,aM),(1,1,x1)]) fun aA=>
 OH (aK 2 h x4 aA) fun _ z1=>
 OP (af true 2 z1 x4) fun r0=>
 K r0 z1):=az (by kernel_rfl)
theorem aAR:aiY P K x1 x4 x6 h=
 (cE x6 true
 (OP (bc x1) fun x8=>
 OP (ai .gtr x8 (.int .i64 (0))) fun x9=>
 Fu P K x1 x4 x6 x9 h)
 (Fu P K x1 x4 x6 undef h)):=az (by kernel_rfl)
def Nu:Prop:=
 OH (ba 105 [(.bool false),(.slice none 0 0)] h) fun x4 z1=>
 aiY P K x1 x4 x0 z1
theorem avs:aj P Hg (aS [.cell true 2 4] K) (bG [x0,x1]) h=Nu P K x0 x1 h:=by kernel_rfl
theorem f117 {K:VK} {x0 x1:Value} {h:ae} (H:Nu prog K x0 x1 h):aq prog 117 [x0,x1] h K:=
 bT ayP (bP rfl) ((avs prog K x0 x1 h).mpr H)
end
noncomputable section
variable (x0 x6 aD : Value) (L1 : LQ) (xs : List Value) (h : ae)
def ag8:=bK prog 118 [[],[],[0],[0,6],[0,6,13],[],[],[0],[]]
@[irreducible] def Hi:=bR ag8
@[irreducible] def Hj:=Hi.r.l.l.l
@[irreducible] def ZS:=Hi.r.r
@[irreducible] def ZT:=Hj.l.l.r.l
@[irreducible] def arX:=Hj.l.r
@[irreducible] def arW:=Hj.r
@[irreducible] def arV:=ZS.l
@[irreducible] def arU:=ZT.r.l
theorem ayQ:ag8=some (21,Hi,[.tmp 2]):=by kernel_rfl
def Mx (_P:Program) (K:VK):ar:=aS [.tmp 2] K
def aoz:ar:=aF (aj P ZS (Mx P K)) (Mx P K)
def aoA:ar:=bI 0 (aoz P K)
def My:ar:=aF (fun f' aU=>(([]:List Nat).map f':List Value)=[]∧L1 (([0]:List Nat).map f') aU) (aoA P K)
def Xv:ar:=aF (aj P arW (My P K L1)) (My P K L1)
def Xw:ar:=aF (aj P arX (Xv P K L1)) (Xv P K L1)
def aiZ:Prop:=ax (aj P Hj (My P K L1)) ([]++[0]) ([]++xs) h
def ai0:Prop:=ax (aj P ZT (Xw P K L1)) [0,6] [x0,x6] h
def TE:Prop:=ax (aj P arU (Xw P K L1)) [0,6,13] [x0,x6,aD] h
def TF:Prop:=ax (aj P arV (Mx P K)) [0] [x0] h
theorem alD:TE P K x0 x6 aD L1 h=
 (OP (ck x6 aD (.bool false)) fun aL=>
 aQ aL
 (OP (bc x0) fun bU=>
 OP (ai .sub bU (.int .i64 (1))) fun aO=>
 OP (mJ 177 1 x0 none (some aO)) fun aP=>
 ([]:List Value)=[]∧L1 [aP] h)
 (TF P K x0 h)):=az (by kernel_rfl)
theorem alE:ai0 P K x0 x6 L1 h=
 (cE x6 true
 (OP (bc x0) fun x9=>
 OP (ai .sub x9 (.int .i64 (1))) fun aM=>
 OP (aY 1 x0 aM) fun au=>
 OP (af false 1 h au) fun aA=>
 OP (ai .eql aA (.int .u32 (0))) fun aD=>
 TE P K x0 x6 aD L1 h)
 (TE P K x0 x6 undef L1 h)):=az (by kernel_rfl)
theorem aAT (L1:LQ) (x0:Value) (h:ae):aiZ P K L1 [x0] h=
 (OP (bc x0) fun x4=>
 OP (ai .gtr x4 (.int .i64 (0))) fun x5=>
 ai0 P K x0 x5 L1 h):=az (by kernel_rfl)
theorem aAS:TF P K x0 h=
 (K x0 h):=az (by kernel_rfl)
def YO:Prop:=
 cJ [x0] h fun L1 xs hx=>
 aiZ P K L1 xs hx
theorem avt:aj P Hi (aS [.tmp 2] K) (bG [x0]) h=YO P K x0 h:=by kernel_rfl
theorem f118 {K:VK} {x0:Value} {h:ae} (H:YO prog K x0 h):aq prog 118 [x0] h K:=
 bT ayQ (bP rfl) ((avt prog K x0 h).mpr H)
end
noncomputable section
variable (a0 : Value) (h : ae)
def ag9:=bK prog 119 [[],[]]
@[irreducible] def ZU:=bR ag9
theorem ayR:ag9=some (9,ZU,[.cell true 2 2]):=by kernel_rfl
def Nv:Prop:=
 OH (bC 105 h a0) fun a1 z1=>
 OH (ba 105 [(.bool false),(.slice none 0 0)] z1) fun x2 z2=>
 OP (aJ 0 a1) fun x3=>
 OP (af false 1 z2 x3) fun x4=>
 OP (gZ .not x4) fun x5=>
 OP (aJ 1 a1) fun x6=>
 OP (af false 1 z2 x6) fun x7=>
 aq P 117 [x5,x7] z2 fun x8 z3=>
 OH (aK 2 z3 x2 x8) fun _ z4=>
 OP (af true 2 z4 x2) fun r0=>
 K r0 z4
theorem avu:aj P ZU (aS [.cell true 2 2] K) (bG [a0]) h=Nv P K a0 h:=by kernel_rfl
theorem f119 {K:VK} {a0:Value} {h:ae} (H:Nv prog K a0 h):aq prog 119 [a0] h K:=
 bT ayR (bP rfl) ((avu prog K a0 h).mpr H)
end
noncomputable section
variable (a0 b1 x5 i6 x7 x8 aO aP aZ bV cF bn : Value) (L1 L2 : LQ) (xs : List Value) (h : ae)
def ahd:=bK prog 122 [[],[],[],[1,5,18,19],[20],[],[],[],[],[],[1,5,6,7,18,19,20,25,26],[8,27],[],[],[],[],[],[1,5,6,8,18,19,20],[1,5,18,19,20],[5],[]]
@[irreducible] def Hl:=bR ahd
@[irreducible] def Hm:=Hl.r.r.l.r.l.l
@[irreducible] def Z0:=Hl.r.r.r
@[irreducible] def ar3:=Hm.r.r.l.l.r.r.l.r.l.l
@[irreducible] def ZZ:=Hm.r.r.l.l.r.r.r
@[irreducible] def Z1:=Hm.r.r.r
@[irreducible] def ar6:=Z0.l
@[irreducible] def ar4:=ZZ.l
@[irreducible] def ar5:=Z1.l
theorem ayU:ahd=some (68,Hl,[.tmp 4]):=by kernel_rfl
def MB (_P:Program) (K:VK):ar:=aS [.tmp 4] K
def aoH:ar:=aF (aj P Z0 (MB P K)) (MB P K)
def aoI:ar:=bI 0 (aoH P K)
def Gt:ar:=aF (fun f' aU=>(([1,5,18,19]:List Nat).map f':List Value)=[b1,x5,aO,aP]∧L1 (([20]:List Nat).map f') aU) (aoI P K)
def aoJ:ar:=aF (aj P Z1 (Gt P K b1 x5 aO aP L1)) (Gt P K b1 x5 aO aP L1)
def MC:ar:=bI 1 (aoJ P K b1 x5 aO aP L1)
def aoE:ar:=aF (aj P ZZ (MC P K b1 x5 aO aP L1)) (MC P K b1 x5 aO aP L1)
def aoF:ar:=bI 2 (aoE P K b1 x5 aO aP L1)
def aoG:ar:=aF (fun f' aU=>(([1,5,6,7,18,19,20,25,26]:List Nat).map f':List Value)=[b1,x5,i6,x7,aO,aP,aZ,bV,cF]∧L2 (([8,27]:List Nat).map f') aU) (aoF P K b1 x5 aO aP L1)
def ai8:Prop:=ax (aj P Hm (Gt P K b1 x5 aO aP L1)) ([1,5,18,19]++[20]) ([b1,x5,aO,aP]++xs) h
def ai4:Prop:=ax (aj P ar3 (aoG P K b1 x5 i6 x7 aO aP aZ bV cF L1 L2)) ([1,5,6,7,18,19,20,25,26]++[8,27]) ([b1,x5,i6,x7,aO,aP,aZ,bV,cF]++xs) h
def ai5:Prop:=ax (aj P ar4 (MC P K b1 x5 aO aP L1)) [1,5,6,8,18,19,20] [b1,x5,i6,x8,aO,aP,aZ] h
def ai6:Prop:=ax (aj P ar5 (Gt P K b1 x5 aO aP L1)) [1,5,18,19,20] [b1,x5,aO,aP,aZ] h
def ai7:Prop:=ax (aj P ar6 (MB P K)) [5] [x5] h
theorem aAZ (b1 x5 i6 x7 aO aP aZ bV cF:Value) (L1 L2:LQ) (x8 bn:Value) (h:ae):ai4 P K b1 x5 i6 x7 aO aP aZ bV cF L1 L2 [x8,bn] h=
 (OP (ai .lss bn cF) fun bz=>
 aQ bz
 (OP (aY 1 bV bn) fun dD=>
 OP (af false 1 h dD) fun cG=>
 OP (dm .u64 x7) fun br=>
 OP (dm .u64 cG) fun de=>
 OP (ai .mul br de) fun dE=>
 OP (ai .add i6 bn) fun ee=>
 OP (aY 1 x5 ee) fun dG=>
 OP (af false 1 h dG) fun ef=>
 OP (dm .u64 ef) fun bO=>
 OP (ai .add dE bO) fun bp=>
 OP (ai .add bp x8) fun dU=>
 OP (ai .add i6 bn) fun bW=>
 OP (dm .u32 dU) fun cV=>
 OP (ai .shr dU (.int .u64 (32))) fun cM=>
 OP (aY 1 x5 bW) fun eR=>
 OH (aK 1 h eR cV) fun _ z1=>
 OP (ai .add bn (.int .i64 (1))) fun gR=>
 ([b1,x5,i6,x7,aO,aP,aZ,bV,cF]:List Value)=[b1,x5,i6,x7,aO,aP,aZ,bV,cF]∧L2 [cM,gR] z1)
 (ai5 P K b1 x5 i6 x8 aO aP aZ L1 h)):=az (by kernel_rfl)
theorem aA0:ai5 P K b1 x5 i6 x8 aO aP aZ L1 h=
 (OP (bc b1) fun jT=>
 OP (ai .add i6 jT) fun gf=>
 OP (dm .u32 x8) fun jU=>
 OP (aY 1 x5 gf) fun jA=>
 OH (aK 1 h jA jU) fun _ z1=>
 ai6 P K b1 x5 aO aP aZ L1 z1):=az (by kernel_rfl)
theorem aA1:ai6 P K b1 x5 aO aP aZ L1 h=
 (OP (ai .add aZ (.int .i64 (1))) fun iD=>
 ([b1,x5,aO,aP]:List Value)=[b1,x5,aO,aP]∧L1 [iD] h):=az (by kernel_rfl)
theorem aA3 (b1 x5 aO aP:Value) (L1:LQ) (aZ:Value) (h:ae):ai8 P K b1 x5 aO aP L1 [aZ] h=
 (OP (ai .lss aZ aP) fun bf=>
 aQ bf
 (OP (aY 1 aO aZ) fun cX=>
 OP (af false 1 h cX) fun bD=>
 OP (bc b1) fun cF=>
 cJ [(.int .u64 (0)),(.int .i64 (0))] h fun L2 xs hx=>
 ai4 P K b1 x5 aZ bD aO aP aZ b1 cF L1 L2 xs hx)
 (ai7 P K x5 h)):=az (by kernel_rfl)
theorem aA2:ai7 P K x5 h=
 (aq P 118 [x5] h fun fR z1=>
 K fR z1):=az (by kernel_rfl)
def Nz:Prop:=
 OP (bc a0) fun aD=>
 OP (bc b1) fun bj=>
 OP (ai .add aD bj) fun bM=>
 OH (lE 177 4 [(.int .u32 (0))] h bM bM) fun bU z1=>
 OP (bc a0) fun aP=>
 cJ [(.int .i64 (0))] z1 fun L1 xs hx=>
 ai8 P K b1 bU a0 aP L1 xs hx
theorem avx:aj P Hl (aS [.tmp 4] K) (bG [a0,b1]) h=Nz P K a0 b1 h:=by kernel_rfl
theorem f122 {K:VK} {a0 b1:Value} {h:ae} (H:Nz prog K a0 b1 h):aq prog 122 [a0,b1] h K:=
 bT ayU (bP rfl) ((avx prog K a0 b1 h).mpr H)
end
noncomputable section
variable (a0 b1 i5 : Value) (L1 : LQ) (xs : List Value) (h : ae)
def ahh:=bK prog 126 [[],[],[],[],[],[],[],[],[0,1],[5],[],[],[],[],[],[],[],[],[],[]]
@[irreducible] def Hq:=bR ahh
@[irreducible] def asf:=Hq.r.r.l.r.l.l
@[irreducible] def ash:=Hq.r.r.r
theorem ayY:ahh=some (41,Hq,[.tmp 4]):=by kernel_rfl
def XE (_P:Program) (K:VK):ar:=aS [.tmp 4] K
def aoU:ar:=aF (aj P ash (XE P K)) (XE P K)
def aoS:ar:=bI 0 (aoU P K)
def aoT:ar:=aF (fun f' aU=>(([0,1]:List Nat).map f':List Value)=[a0,b1]∧L1 (([5]:List Nat).map f') aU) (aoS P K)
def ajh:Prop:=ax (aj P asf (aoT P K a0 b1 L1)) ([0,1]++[5]) ([a0,b1]++xs) h
theorem aBa (a0 b1:Value) (L1:LQ) (i5:Value) (h:ae):ajh P K a0 b1 L1 [i5] h=
 (OP (ai .geq i5 (.int .i64 (0))) fun aZ=>
 aQ aZ
 (OP (aY 1 a0 i5) fun bV=>
 OP (af false 1 h bV) fun cF=>
 (True)∧
 OP (aY 1 b1 i5) fun bN=>
 OP (af false 1 h bN) fun dD=>
 (True)∧
 OP (ai .neq cF dD) fun cG=>
 aQ cG
 (OP (aY 1 a0 i5) fun bE=>
 OP (af false 1 h bE) fun de=>
 (True)∧
 OP (aY 1 b1 i5) fun dF=>
 OP (af false 1 h dF) fun eI=>
 (True)∧
 OP (ai .lss de eI) fun ee=>
 aQ ee
 (K (.int .i64 (-1)) h)
 (K (.int .i64 (1)) h))
 (OP (ai .sub i5 (.int .i64 (1))) fun bH=>
 ([a0,b1]:List Value)=[a0,b1]∧L1 [bH] h))
 (K (.int .i64 (0)) h)):=az (by kernel_rfl)
def ND:Prop:=
 OP (bc a0) fun x7=>
 OP (bc b1) fun x9=>
 OP (ai .neq x7 x9) fun aM=>
 aQ aM
 (OP (bc a0) fun aA=>
 OP (bc b1) fun aL=>
 OP (ai .lss aA aL) fun bj=>
 aQ bj
 (K (.int .i64 (-1)) h)
 (K (.int .i64 (1)) h))
 (OP (bc a0) fun bU=>
 OP (ai .sub bU (.int .i64 (1))) fun aO=>
 cJ [aO] h fun L1 xs hx=>
 ajh P K a0 b1 L1 xs hx)
theorem avB:aj P Hq (aS [.tmp 4] K) (bG [a0,b1]) h=ND P K a0 b1 h:=by kernel_rfl
theorem f126 {K:VK} {a0 b1:Value} {h:ae} (H:ND prog K a0 b1 h):aq prog 126 [a0,b1] h K:=
 bT ayY (bP rfl) ((avB prog K a0 b1 h).mpr H)
end
noncomputable section
variable (a0 b1 : Value) (h : ae)
def ahi:=bK prog 127 [[],[]]
@[irreducible] def aad:=bR ahi
theorem ayZ:ahi=some (9,aad,[.cell true 2 4]):=by kernel_rfl
def NF:Prop:=
 OH (bC 105 h a0) fun a2 z1=>
 OH (bC 105 z1 b1) fun b3 z2=>
 OH (ba 105 [(.bool false),(.slice none 0 0)] z2) fun x4 z3=>
 OP (af true 2 z3 a2) fun x5=>
 (True)∧
 OP (af true 2 z3 b3) fun x6=>
 (True)∧
 aq P 119 [x6] z3 fun x7 z4=>
 (af true 2 z4 a2=some x5∧True)∧
 aq P 113 [x5,x7] z4 fun x8 z5=>
 (True)∧
 OH (aK 2 z5 x4 x8) fun _ z6=>
 (True)∧
 OP (af true 2 z6 x4) fun r0=>
 K r0 z6
theorem avC:aj P aad (aS [.cell true 2 4] K) (bG [a0,b1]) h=NF P K a0 b1 h:=by kernel_rfl
theorem f127 {K:VK} {a0 b1:Value} {h:ae} (H:NF prog K a0 b1 h):aq prog 127 [a0,b1] h K:=
 bT ayZ (bP rfl) ((avC prog K a0 b1 h).mpr H)
end
noncomputable section
variable (a0 b1 x5 x6 i7 y8 bf bH : Value) (L1 : LQ) (xs : List Value) (h : ae)
def ahj:=bK prog 128 [[],[],[0,1],[],[],[],[0,1,5,21],[6,22],[],[],[],[],[],[0,1,5,6,7,8,21,22],[0,1,5,6,21,22],[0,5,6],[],[]]
@[irreducible] def Pc:=bR ahj
@[irreducible] def Pe:=Pc.r.r.l
@[irreducible] def Pd:=Pe.r.r.l.r.l.l
@[irreducible] def aaf:=Pe.r.r.r
@[irreducible] def asi:=Pd.r.r.l.l.r.r.r.l
@[irreducible] def aae:=Pd.r.r.r
@[irreducible] def asl:=aaf.l
@[irreducible] def asj:=aae.l
theorem ay0:ahj=some (54,Pc,[.tmp 4]):=by kernel_rfl
def Gu (_P:Program) (K:VK):ar:=aS [.tmp 4] K
def aoX:ar:=aF (aj P aaf (Gu P K)) (Gu P K)
def aoY:ar:=bI 0 (aoX P K)
def Gv:ar:=aF (fun f' aU=>(([0,1,5,21]:List Nat).map f':List Value)=[a0,b1,x5,bf]∧L1 (([6,22]:List Nat).map f') aU) (aoY P K)
def aoV:ar:=aF (aj P aae (Gv P K a0 b1 x5 bf L1)) (Gv P K a0 b1 x5 bf L1)
def aoW:ar:=bI 1 (aoV P K a0 b1 x5 bf L1)
def Kv:Prop:=ax (aj P Pe (Gu P K)) [0,1] [a0,b1] h
def aji:Prop:=ax (aj P Pd (Gv P K a0 b1 x5 bf L1)) ([0,1,5,21]++[6,22]) ([a0,b1,x5,bf]++xs) h
def Ku:Prop:=ax (aj P asi (aoW P K a0 b1 x5 bf L1)) [0,1,5,6,7,8,21,22] [a0,b1,x5,x6,i7,y8,bf,bH] h
def ajj:Prop:=ax (aj P asj (Gv P K a0 b1 x5 bf L1)) [0,1,5,6,21,22] [a0,b1,x5,x6,bf,bH] h
def ajk:Prop:=ax (aj P asl (Gu P K)) [0,5,6] [a0,x5,x6] h
theorem aBc:Ku P K a0 b1 x5 x6 i7 y8 bf bH L1 h=
 (OP (aY 1 a0 i7) fun dF=>
 OP (af false 1 h dF) fun eI=>
 aq P 133 [eI,y8,x6] h fun ef z1=>
 OP (cf 0 ef) fun bO=>
 OP (cf 1 ef) fun bp=>
 OP (aY 1 x5 i7) fun cH=>
 OH (aK 1 z1 cH bO) fun _ z2=>
 ajj P K a0 b1 x5 bp bf bH L1 z2):=az (by kernel_rfl)
theorem aBd:ajj P K a0 b1 x5 x6 bf bH L1 h=
 (OP (ai .add bH (.int .i64 (1))) fun dU=>
 ([a0,b1,x5,bf]:List Value)=[a0,b1,x5,bf]∧L1 [x6,dU] h):=az (by kernel_rfl)
theorem aBb (a0 b1 x5 bf:Value) (L1:LQ) (x6 bH:Value) (h:ae):aji P K a0 b1 x5 bf L1 [x6,bH] h=
 (OP (ai .lss bH bf) fun cX=>
 aQ cX
 (OP (bc b1) fun bn=>
 OP (ai .lss bH bn) fun bz=>
 aQ bz
 (OP (aY 1 b1 bH) fun cG=>
 OP (af false 1 h cG) fun bk=>
 Ku P K a0 b1 x5 x6 bH bk bf bH L1 h)
 (Ku P K a0 b1 x5 x6 bH (.int .u32 (0)) bf bH L1 h))
 (ajk P K a0 x5 x6 h)):=az (by kernel_rfl)
theorem aBe:ajk P K a0 x5 x6 h=
 (OP (bc a0) fun fQ=>
 OP (aY 1 x5 fQ) fun cd=>
 OH (aK 1 h cd x6) fun _ z1=>
 aq P 118 [x5] z1 fun kh z2=>
 K kh z2):=az (by kernel_rfl)
theorem aBf:Kv P K a0 b1 h=
 (OP (bc a0) fun bU=>
 OP (ai .add bU (.int .i64 (1))) fun aO=>
 OH (lE 177 4 [(.int .u32 (0))] h aO aO) fun aP z1=>
 OP (bc a0) fun bf=>
 cJ [(.int .u32 (0)),(.int .i64 (0))] z1 fun L1 xs hx=>
 aji P K a0 b1 aP bf L1 xs hx):=az (by kernel_rfl)
def NG:Prop:=
 OP (bc a0) fun aM=>
 OP (bc b1) fun aA=>
 OP (ai .lss aM aA) fun aD=>
 aQ aD
 (Kv P K b1 a0 h)
 (Kv P K a0 b1 h)
theorem avD:aj P Pc (aS [.tmp 4] K) (bG [a0,b1]) h=NG P K a0 b1 h:=by kernel_rfl
theorem f128 {K:VK} {a0 b1:Value} {h:ae} (H:NG prog K a0 b1 h):aq prog 128 [a0,b1] h K:=
 bT ay0 (bP rfl) ((avD prog K a0 b1 h).mpr H)
end
noncomputable section
variable (a0 b1 x5 x6 i7 y8 aD aL : Value) (L1 : LQ) (xs : List Value) (h : ae)
def ahk:=bK prog 129 [[],[],[],[],[0,1,5,13],[6,14],[],[],[],[],[],[0,1,5,6,7,8,13,14],[0,1,5,6,13,14],[5],[]]
@[irreducible] def Hr:=bR ahk
@[irreducible] def Pf:=Hr.r.r.r.l.r.l.l
@[irreducible] def aah:=Hr.r.r.r.r
@[irreducible] def asm:=Pf.r.r.l.l.r.r.r.l
@[irreducible] def aag:=Pf.r.r.r
@[irreducible] def aso:=aah.l
@[irreducible] def asn:=aag.l
theorem ay1:ahk=some (41,Hr,[.tmp 4]):=by kernel_rfl
def MF (_P:Program) (K:VK):ar:=aS [.tmp 4] K
def ao1:ar:=aF (aj P aah (MF P K)) (MF P K)
def ao2:ar:=bI 0 (ao1 P K)
def Gw:ar:=aF (fun f' aU=>(([0,1,5,13]:List Nat).map f':List Value)=[a0,b1,x5,aD]∧L1 (([6,14]:List Nat).map f') aU) (ao2 P K)
def aoZ:ar:=aF (aj P aag (Gw P K a0 b1 x5 aD L1)) (Gw P K a0 b1 x5 aD L1)
def ao0:ar:=bI 1 (aoZ P K a0 b1 x5 aD L1)
def ajn:Prop:=ax (aj P Pf (Gw P K a0 b1 x5 aD L1)) ([0,1,5,13]++[6,14]) ([a0,b1,x5,aD]++xs) h
def Kw:Prop:=ax (aj P asm (ao0 P K a0 b1 x5 aD L1)) [0,1,5,6,7,8,13,14] [a0,b1,x5,x6,i7,y8,aD,aL] h
def ajl:Prop:=ax (aj P asn (Gw P K a0 b1 x5 aD L1)) [0,1,5,6,13,14] [a0,b1,x5,x6,aD,aL] h
def ajm:Prop:=ax (aj P aso (MF P K)) [5] [x5] h
theorem aBg:Kw P K a0 b1 x5 x6 i7 y8 aD aL L1 h=
 (OP (aY 1 a0 i7) fun dD=>
 OP (af false 1 h dD) fun cG=>
 aq P 134 [cG,y8,x6] h fun bE z1=>
 OP (cf 0 bE) fun de=>
 OP (cf 1 bE) fun dE=>
 OP (aY 1 x5 i7) fun eQ=>
 OH (aK 1 z1 eQ de) fun _ z2=>
 ajl P K a0 b1 x5 dE aD aL L1 z2):=az (by kernel_rfl)
theorem aBh:ajl P K a0 b1 x5 x6 aD aL L1 h=
 (OP (ai .add aL (.int .i64 (1))) fun dF=>
 ([a0,b1,x5,aD]:List Value)=[a0,b1,x5,aD]∧L1 [x6,dF] h):=az (by kernel_rfl)
theorem aBj (a0 b1 x5 aD:Value) (L1:LQ) (x6 aL:Value) (h:ae):ajn P K a0 b1 x5 aD L1 [x6,aL] h=
 (OP (ai .lss aL aD) fun bj=>
 aQ bj
 (OP (bc b1) fun aP=>
 OP (ai .lss aL aP) fun aZ=>
 aQ aZ
 (OP (aY 1 b1 aL) fun cX=>
 OP (af false 1 h cX) fun bD=>
 Kw P K a0 b1 x5 x6 aL bD aD aL L1 h)
 (Kw P K a0 b1 x5 x6 aL (.int .u32 (0)) aD aL L1 h))
 (ajm P K x5 h)):=az (by kernel_rfl)
theorem aBi:ajm P K x5 h=
 (aq P 118 [x5] h fun ee z1=>
 K ee z1):=az (by kernel_rfl)
def NH:Prop:=
 OP (bc a0) fun aM=>
 OH (lE 177 4 [(.int .u32 (0))] h aM aM) fun au z1=>
 OP (bc a0) fun aD=>
 cJ [(.int .u32 (0)),(.int .i64 (0))] z1 fun L1 xs hx=>
 ajn P K a0 b1 au aD L1 xs hx
theorem avE:aj P Hr (aS [.tmp 4] K) (bG [a0,b1]) h=NH P K a0 b1 h:=by kernel_rfl
theorem f129 {K:VK} {a0 b1:Value} {h:ae} (H:NH prog K a0 b1 h):aq prog 129 [a0,b1] h K:=
 bT ay1 (bP rfl) ((avE prog K a0 b1 h).mpr H)
end
noncomputable section
variable (x0 y1 x2 : Value) (h : ae)
def aho:=bK prog 133 [[],[],[],[]]
@[irreducible] def aam:=bR aho
theorem ay5:aho=some (22,aam,[.tmp 6,.tmp 7]):=by kernel_rfl
def NK (_:Program) (K:VK) (x0 y1 x2:Value) (h:ae):Prop:=
 OP (dm .u64 x0) fun aM=>
 OP (dm .u64 y1) fun aA=>
 OP (ai .add aM aA) fun aD=>
 OP (dm .u64 x2) fun bj=>
 OP (ai .add aD bj) fun bM=>
 OP (dm .u32 bM) fun aO=>
 OP (ai .shr bM (.int .u64 (32))) fun aZ=>
 OP (dm .u32 aZ) fun bf=>
 K (.tuple #[aO,bf]) h
theorem avI:aj P aam (aS [.tmp 6,.tmp 7] K) (bG [x0,y1,x2]) h=NK P K x0 y1 x2 h:=by kernel_rfl
theorem f133 {K:VK} {x0 y1 x2:Value} {h:ae} (H:NK prog K x0 y1 x2 h):aq prog 133 [x0,y1,x2] h K:=
 bT ay5 (bP rfl) ((avI prog K x0 y1 x2 h).mpr H)
end
noncomputable section
variable (x0 y1 x2 : Value) (h : ae)
def ahp:=bK prog 134 [[],[],[]]
@[irreducible] def aan:=bR ahp
theorem ay6:ahp=some (25,aan,[.tmp 6,.tmp 7]):=by kernel_rfl
def NL (_:Program) (K:VK) (x0 y1 x2:Value) (h:ae):Prop:=
 OP (ai .sub x0 y1) fun aM=>
 OP (ai .sub aM x2) fun aA=>
 OP (gZ .xor x0) fun aL=>
 OP (ai .and aL y1) fun bM=>
 OP (ai .xor x0 y1) fun aP=>
 OP (gZ .xor aP) fun aZ=>
 OP (ai .and aZ aA) fun bH=>
 OP (ai .or bM bH) fun cX=>
 OP (ai .shr cX (.int .u64 (31))) fun bD=>
 K (.tuple #[aA,bD]) h
theorem avJ:aj P aan (aS [.tmp 6,.tmp 7] K) (bG [x0,y1,x2]) h=NL P K x0 y1 x2 h:=by kernel_rfl
theorem f134 {K:VK} {x0 y1 x2:Value} {h:ae} (H:NL prog K x0 y1 x2 h):aq prog 134 [x0,y1,x2] h K:=
 bT ay6 (bP rfl) ((avJ prog K x0 y1 x2 h).mpr H)
end
end
section
variable (P : Program) (K : VK)
noncomputable section
variable (a0 a1 s4 : Value) (h : ae)
def ahH:=bK prog 45 [[],[],[],[],[],[],[1,4],[],[],[],[],[],[],[],[]]
@[irreducible] def Po:=bR ahH
@[irreducible] def as4:=Po.r.r.r.r.l
theorem k45:ahH=some (32,Po,[.tmp 2,.tmp 3]):=by kernel_rfl
def apG (_P:Program) (K:VK):ar:=aS [.tmp 2,.tmp 3] K
def KE:Prop:=ax (aj P as4 (apG P K)) [1,4] [a1,s4] h
theorem aBV:KE P K a1 s4 h=
 (OP (af true 4 h a1) fun aO=>
 aq P 90 [aO] h fun aP z1=>
 aQ aP
 (K (.tuple #[s4,(.int .i64 (0))]) z1)
 (OP (aJ 2 a1) fun bf=>
 OP (aJ 1 bf) fun bH=>
 OP (af false 1 z1 bH) fun cX=>
 aq P 89 [cX] z1 fun bD z2=>
 OP (jP bD) fun cF=>
 OP (ai .gtr cF (.int .i64 (4000))) fun bn=>
 aQ bn
 (K (.tuple #[(.string ⟨#[]⟩),(.int .i64 (4))]) z2)
 (OP (ai .add s4 (.string ⟨#[47]⟩)) fun bN=>
 OP (ai .add bN bD) fun cG=>
 K (.tuple #[cG,(.int .i64 (0))]) z2))):=az (by kernel_rfl)
def N2:Prop:=
 OH (bC 107 h a0) fun a1 z1=>
 OP (aJ 0 a1) fun x6=>
 OP (aJ 1 x6) fun x7=>
 OP (af false 1 z1 x7) fun x8=>
 aq P 89 [x8] z1 fun x9 z2=>
 OP (jP x9) fun au=>
 OP (ai .gtr au (.int .i64 (4000))) fun aA=>
 aQ aA
 (K (.tuple #[(.string ⟨#[]⟩),(.int .i64 (4))]) z2)
 (OP (aJ 0 a1) fun aD=>
 OP (aJ 0 aD) fun aL=>
 OP (af false 1 z2 aL) fun bj=>
 aQ bj
 (OP (ai .add (.string ⟨#[45]⟩) x9) fun bU=>
 KE P K a1 bU z2)
 (KE P K a1 x9 z2))
theorem e45:aj P Po (aS [.tmp 2,.tmp 3] K) (bG [a0]) h=N2 P K a0 h:=by kernel_rfl
theorem f45 {K:VK} {a0:Value} {h:ae} (H:N2 prog K a0 h):aq prog 45 [a0] h K:=
 bT k45 (bP rfl) ((e45 prog K a0 h).mpr H)
end
noncomputable section
variable (n0 : Value) (h : ae)
def ahZ:=bK prog 75 [[],[]]
@[irreducible] def c75:=bR ahZ
theorem k75:ahZ=some (7,c75,[.cell true 4 2]):=by kernel_rfl
def Oj:Prop:=
 OH (ba 107 [(.bool false),(.slice none 0 0),(.bool false),(.slice none 0 0)] h) fun x2 z1=>
 aq P 105 [n0] z1 fun x4 z2=>
 aq P 105 [(.int .i64 (1))] z2 fun x5 z3=>
 OP (dW [(.bool false),(.slice none 0 0),(.bool false),(.slice none 0 0)] [(0,2,x4),(2,2,x5)]) fun x6=>
 OH (aK 4 z3 x2 x6) fun _ z4=>
 OP (af true 4 z4 x2) fun r0=>
 K r0 z4
theorem e75:aj P c75 (aS [.cell true 4 2] K) (bG [n0]) h=Oj P K n0 h:=by kernel_rfl
theorem f75 {K:VK} {n0:Value} {h:ae} (H:Oj prog K n0 h):aq prog 75 [n0] h K:=
 bT k75 (bP rfl) ((e75 prog K n0 h).mpr H)
end
noncomputable section
variable (a0 b1 : Value) (h : ae)
def ah1:=bK prog 77 [[],[]]
@[irreducible] def c77:=bR ah1
theorem k77:ah1=some (16,c77,[.cell true 4 4]):=by kernel_rfl
def Ok:Prop:=
 OH (bC 107 h a0) fun a2 z1=>
 OH (bC 107 z1 b1) fun b3 z2=>
 OH (ba 107 [(.bool false),(.slice none 0 0),(.bool false),(.slice none 0 0)] z2) fun x4 z3=>
 OP (aJ 0 a2) fun x5=>
 OP (af true 2 z3 x5) fun x6=>
 (True)∧
 OP (aJ 2 b3) fun x7=>
 OP (af true 2 z3 x7) fun x8=>
 (True)∧
 aq P 107 [x6,x8] z3 fun x9 z4=>
 (True)∧
 OP (aJ 2 a2) fun aM=>
 OP (af true 2 z4 aM) fun au=>
 (af true 2 z3 aM=some au∧True)∧
 OP (aJ 0 b3) fun aA=>
 OP (af true 2 z4 aA) fun aD=>
 (af true 2 z3 aA=some aD∧True)∧
 aq P 107 [au,aD] z4 fun aL z5=>
 (True)∧
 aq P 106 [x9,aL] z5 fun bj z6=>
 (True)∧
 OH (aK 4 z6 x4 bj) fun _ z7=>
 (True)∧
 OP (af true 4 z7 x4) fun r0=>
 K r0 z7
theorem e77:aj P c77 (aS [.cell true 4 4] K) (bG [a0,b1]) h=Ok P K a0 b1 h:=by kernel_rfl
theorem f77 {K:VK} {a0 b1:Value} {h:ae} (H:Ok prog K a0 b1 h):aq prog 77 [a0,b1] h K:=
 bT k77 (bP rfl) ((e77 prog K a0 b1 h).mpr H)
end
noncomputable section
variable (x0 b3 q4 r5 i6 aZ bD cF bn : Value) (L1 L2 : LQ) (xs : List Value) (h : ae)
def aib:=bK prog 89 [[],[],[],[],[],[],[0,3],[],[],[],[],[4],[3,5,6],[3,4,5,6,20],[3,4,5,6,20,24],[3,4,5,6,20,24,26],[3,4,5,6,20,27],[],[],[],[],[3,4],[3],[],[]]
@[irreducible] def H8:=bR aib
@[irreducible] def PD:=H8.r.r.r.l.l.l
@[irreducible] def acp:=H8.r.r.r.r
@[irreducible] def H9:=PD.r.l.r.l.r.l.l
@[irreducible] def ack:=PD.r.l.r.r
@[irreducible] def aus:=acp.l
@[irreducible] def acm:=H9.l.l.r.l
@[irreducible] def aup:=H9.l.r
@[irreducible] def auo:=H9.r
@[irreducible] def aur:=ack.l
@[irreducible] def acn:=acm.r.l
@[irreducible] def aco:=acn.r.l
@[irreducible] def auq:=aco.r.l
theorem k89:aib=some (45,H8,[.tmp 2]):=by kernel_rfl
def M3 (_P:Program) (K:VK):ar:=aS [.tmp 2] K
def aqR:ar:=aF (aj P acp (M3 P K)) (M3 P K)
def aqS:ar:=bI 0 (aqR P K)
def YD:ar:=aF (fun f' aU=>(([]:List Nat).map f':List Value)=[]∧L1 (([0,3]:List Nat).map f') aU) (aqS P K)
def M4:ar:=bI 1 (YD P K L1)
def aqP:ar:=aF (aj P ack (M4 P K L1)) (M4 P K L1)
def aqQ:ar:=bI 2 (aqP P K L1)
def M5:ar:=aF (fun f' aU=>(([4]:List Nat).map f':List Value)=[q4]∧L2 (([3,5,6]:List Nat).map f') aU) (aqQ P K L1)
def YC:ar:=aF (aj P auo (M5 P K q4 L1 L2)) (M5 P K q4 L1 L2)
def GL:ar:=aF (aj P aup (YC P K q4 L1 L2)) (YC P K q4 L1 L2)
def akX:Prop:=ax (aj P PD (YD P K L1)) ([]++[0,3]) ([]++xs) h
def akU:Prop:=ax (aj P H9 (M5 P K q4 L1 L2)) ([4]++[3,5,6]) ([q4]++xs) h
def akV:Prop:=ax (aj P acm (GL P K q4 L1 L2)) [3,4,5,6,20] [b3,q4,r5,i6,aZ] h
def UG:Prop:=ax (aj P acn (GL P K q4 L1 L2)) [3,4,5,6,20,24] [b3,q4,r5,i6,aZ,bD] h
def UH:Prop:=ax (aj P aco (GL P K q4 L1 L2)) [3,4,5,6,20,24,26] [b3,q4,r5,i6,aZ,bD,cF] h
def UI:Prop:=ax (aj P auq (GL P K q4 L1 L2)) [3,4,5,6,20,27] [b3,q4,r5,i6,aZ,bn] h
def KS:Prop:=ax (aj P aur (M4 P K L1)) [3,4] [b3,q4] h
def akW:Prop:=ax (aj P aus (M3 P K)) [3] [b3] h
theorem K7:UI P K b3 q4 r5 i6 aZ bn L1 L2 h=
 (OP (ck aZ bn (.bool false)) fun bz=>
 aQ bz
 (OP (ai .rem r5 (.int .u32 (10))) fun br=>
 OP (ai .add (.int .u32 (48)) br) fun bE=>
 OP (dm .u8 bE) fun de=>
 OH (cZ 5 1 [(.int .u8 (0))] h [(0,1,de)]) fun dE z1=>
 OH (dI 5 1 1 z1 b3 dE) fun eQ z2=>
 OP (ai .quo r5 (.int .u32 (10))) fun eI=>
 OP (ai .add i6 (.int .i64 (1))) fun dD=>
 ([q4]:List Value)=[q4]∧L2 [eQ,eI,dD] z2)
 (KS P K b3 q4 L1 h)):=az (by kernel_rfl)
theorem K6:UH P K b3 q4 r5 i6 aZ bD cF L1 L2 h=
 (cE aZ true
 (OP (ck bD (.bool true) cF) fun bn=>
 UI P K b3 q4 r5 i6 aZ bn L1 L2 h)
 (UI P K b3 q4 r5 i6 aZ undef L1 L2 h)):=az (by kernel_rfl)
theorem Vg:UG P K b3 q4 r5 i6 aZ bD L1 L2 h=
 (cE bD false
 (OP (ai .gtr r5 (.int .u32 (0))) fun cF=>
 UH P K b3 q4 r5 i6 aZ bD cF L1 L2 h)
 (UH P K b3 q4 r5 i6 aZ bD undef L1 L2 h)):=az (by kernel_rfl)
theorem amh:akV P K b3 q4 r5 i6 aZ L1 L2 h=
 (cE aZ true
 (OP (bc q4) fun bH=>
 OP (ai .gtr bH (.int .i64 (0))) fun cX=>
 UG P K b3 q4 r5 i6 aZ cX L1 L2 h)
 (UG P K b3 q4 r5 i6 aZ undef L1 L2 h)):=az (by kernel_rfl)
theorem aDl (q4:Value) (L1 L2:LQ) (b3 r5 i6:Value) (h:ae):akU P K q4 L1 L2 [b3,r5,i6] h=
 (OP (ai .lss i6 (.int .i64 (9))) fun aP=>
 akV P K b3 q4 r5 i6 aP L1 L2 h):=az (by kernel_rfl)
theorem aDm:KS P K b3 q4 L1 h=
 (([]:List Value)=[]∧L1 [q4,b3] h):=az (by kernel_rfl)
theorem aDo (L1:LQ) (x0 b3:Value) (h:ae):akX P K L1 [x0,b3] h=
 (OP (bc x0) fun au=>
 OP (ai .gtr au (.int .i64 (0))) fun aA=>
 aQ aA
 (aq P 114 [x0,(.int .u32 (1000000000))] h fun bj z1=>
 OP (cf 0 bj) fun bM=>
 OP (cf 1 bj) fun bU=>
 cJ [b3,bU,(.int .i64 (0))] z1 fun L2 xs hx=>
 akU P K bM L1 L2 xs hx)
 (akW P K b3 h)):=az (by kernel_rfl)
theorem aDn:akW P K b3 h=
 (aq P 115 [b3] h fun _ z1=>
 OP (se z1 b3) fun bp=>
 K bp z1):=az (by kernel_rfl)
def Ox:Prop:=
 OP (bc x0) fun x8=>
 OP (ai .eql x8 (.int .i64 (0))) fun x9=>
 aQ x9
 (K (.string ⟨#[48]⟩) h)
 (cJ [x0,(.slice none 0 0)] h fun L1 xs hx=>
 akX P K L1 xs hx)
theorem e89:aj P H8 (aS [.tmp 2] K) (bG [x0]) h=Ox P K x0 h:=by kernel_rfl
theorem f89 {K:VK} {x0:Value} {h:ae} (H:Ox prog K x0 h):aq prog 89 [x0] h K:=
 bT k89 (bP rfl) ((e89 prog K x0 h).mpr H)
end
noncomputable section
variable (a0 a1 x8 aL : Value) (h : ae)
def aic:=bK prog 90 [[],[1,8],[8,14],[]]
@[irreducible] def Ia:=bR aic
@[irreducible] def acq:=Ia.r.l.r.l
@[irreducible] def aut:=Ia.r.r
@[irreducible] def auu:=acq.r.l
theorem k90:aic=some (16,Ia,[.tmp 2]):=by kernel_rfl
def YE (_P:Program) (K:VK):ar:=aS [.tmp 2] K
def YF:ar:=aF (aj P aut (YE P K)) (YE P K)
def akY:Prop:=ax (aj P acq (YF P K)) [1,8] [a1,x8] h
def UJ:Prop:=ax (aj P auu (YF P K)) [8,14] [x8,aL] h
theorem Vi:UJ P K x8 aL h=
 (OP (ck x8 aL (.bool false)) fun bj=>
 K bj h):=az (by kernel_rfl)
theorem Vh:akY P K a1 x8 h=
 (cE x8 true
 (OP (aJ 2 a1) fun x9=>
 OP (aJ 1 x9) fun aM=>
 OP (af false 1 h aM) fun au=>
 OP (aY 1 au (.int .i64 (0))) fun aA=>
 OP (af false 1 h aA) fun aD=>
 OP (ai .eql aD (.int .u32 (1))) fun aL=>
 UJ P K x8 aL h)
 (UJ P K x8 undef h)):=az (by kernel_rfl)
def GQ:Prop:=
 OH (bC 107 h a0) fun a1 z1=>
 OP (aJ 2 a1) fun x3=>
 OP (aJ 1 x3) fun x4=>
 OP (af false 1 z1 x4) fun x5=>
 OP (bc x5) fun x6=>
 OP (ai .eql x6 (.int .i64 (1))) fun x7=>
 akY P K a1 x7 z1
theorem e90:aj P Ia (aS [.tmp 2] K) (bG [a0]) h=GQ P K a0 h:=by kernel_rfl
theorem f90 {K:VK} {a0:Value} {h:ae} (H:GQ prog K a0 h):aq prog 90 [a0] h K:=
 bT k90 (bP rfl) ((e90 prog K a0 h).mpr H)
end
noncomputable section
variable (x0 x1 x2 x3 x4 : Value) (h : ae)
def agW:=bK prog 106 [[],[],[2,3,4],[],[],[],[],[],[],[]]
@[irreducible] def O8:=bR agW
@[irreducible] def arI:=O8.r.r.l
theorem ayE:agW=some (41,O8,[.cell true 4 4]):=by kernel_rfl
def aop (_P:Program) (K:VK):ar:=aS [.cell true 4 4] K
def Tx:Prop:=ax (aj P arI (aop P K)) [2,3,4] [x2,x3,x4] h
theorem aAJ:Tx P K x2 x3 x4 h=
 (OP (af true 2 h x2) fun bM=>
 OP (af true 2 h x3) fun bU=>
 aq P 120 [bM,bU] h fun aO z1=>
 OH (ba 105 [(.bool false),(.slice none 0 0)] z1) fun g5 z2=>
 OH (aK 2 z2 g5 aO) fun _ z3=>
 OP (af true 2 z3 g5) fun aP=>
 (True)∧
 aq P 105 [(.int .i64 (1))] z3 fun aZ z4=>
 (af true 2 z4 g5=some aP∧True)∧
 aq P 111 [aP,aZ] z4 fun bf z5=>
 (True)∧
 OP (ai .eql bf (.int .i64 (0))) fun bH=>
 aQ bH
 (OP (af true 2 z5 x2) fun cX=>
 OP (af true 2 z5 x3) fun bD=>
 OP (dW [(.bool false),(.slice none 0 0),(.bool false),(.slice none 0 0)] [(0,2,cX),(2,2,bD)]) fun bV=>
 OH (aK 4 z5 x4 bV) fun _ z6=>
 OP (af true 4 z6 x4) fun r0=>
 K r0 z6)
 (OP (af true 2 z5 x2) fun bn=>
 OP (af true 2 z5 g5) fun bz=>
 aq P 121 [bn,bz] z5 fun bN z6=>
 OP (cf 0 bN) fun dD=>
 OP (cf 1 bN) fun cG=>
 OH (ba 105 [(.bool false),(.slice none 0 0)] z6) fun n6 z7=>
 OH (ba 105 [(.bool false),(.slice none 0 0)] z7) fun x7 z8=>
 OH (aK 2 z8 n6 dD) fun _ z9=>
 OH (aK 2 z9 x7 cG) fun _ nv=>
 OP (af true 2 nv x3) fun br=>
 OP (af true 2 nv g5) fun bE=>
 aq P 121 [br,bE] nv fun de ry=>
 OP (cf 0 de) fun dE=>
 OP (cf 1 de) fun eQ=>
 OH (ba 105 [(.bool false),(.slice none 0 0)] ry) fun d8 yO=>
 OH (ba 105 [(.bool false),(.slice none 0 0)] yO) fun x9 Bg=>
 OH (aK 2 Bg d8 dE) fun _ Da=>
 OH (aK 2 Da x9 eQ) fun _ pz=>
 OP (af true 2 pz n6) fun dF=>
 OP (af true 2 pz d8) fun eI=>
 OP (dW [(.bool false),(.slice none 0 0),(.bool false),(.slice none 0 0)] [(0,2,dF),(2,2,eI)]) fun ee=>
 OH (aK 4 pz x4 ee) fun _ vI=>
 OP (af true 4 vI x4) fun r0=>
 K r0 vI)):=az (by kernel_rfl)
def Nj:Prop:=
 OH (bC 105 h x0) fun x2 z1=>
 OH (bC 105 z1 x1) fun x3 z2=>
 OH (ba 107 [(.bool false),(.slice none 0 0),(.bool false),(.slice none 0 0)] z2) fun x4 z3=>
 OP (aJ 0 x3) fun aM=>
 OP (af false 1 z3 aM) fun au=>
 aQ au
 (OP (af true 2 z3 x2) fun aA=>
 (True)∧
 aq P 119 [aA] z3 fun aD z4=>
 (True)∧
 OP (af true 2 z4 x3) fun aL=>
 (af true 2 z3 x3=some aL∧True)∧
 aq P 119 [aL] z4 fun bj z5=>
 (True)∧
 OH (aK 2 z5 x2 aD) fun _ z6=>
 (True)∧
 OH (aK 2 z6 x3 bj) fun _ z7=>
 (True)∧
 Tx P K x2 x3 x4 z7)
 (Tx P K x2 x3 x4 z3)
theorem avh:aj P O8 (aS [.cell true 4 4] K) (bG [x0,x1]) h=Nj P K x0 x1 h:=by kernel_rfl
theorem f106 {K:VK} {x0 x1:Value} {h:ae} (H:Nj prog K x0 x1 h):aq prog 106 [x0,x1] h K:=
 bT ayE (bP rfl) ((avh prog K x0 x1 h).mpr H)
end
noncomputable section
variable (a0 b1 x4 x5 y6 : Value) (L1 : LQ) (xs : List Value) (h : ae)
def ahb:=bK prog 120 [[],[],[4],[5,6],[],[],[],[4,5],[]]
@[irreducible] def zl:=bR ahb
@[irreducible] def arZ:=zl.r.r.l.l.l
@[irreducible] def ZW:=zl.r.r.r
@[irreducible] def arY:=ZW.l
theorem ayS:ahb=some (26,zl,[.cell true 2 4]):=by kernel_rfl
def Mz (_P:Program) (K:VK):ar:=aS [.cell true 2 4] K
def aoB:ar:=aF (aj P ZW (Mz P K)) (Mz P K)
def aoC:ar:=bI 0 (aoB P K)
def aoD:ar:=aF (fun f' aU=>(([4]:List Nat).map f':List Value)=[x4]∧L1 (([5,6]:List Nat).map f') aU) (aoC P K)
def ai2:Prop:=ax (aj P arZ (aoD P K x4 L1)) ([4]++[5,6]) ([x4]++xs) h
def ai1:Prop:=ax (aj P arY (Mz P K)) [4,5] [x4,x5] h
theorem aAV (x4:Value) (L1:LQ) (x5 y6:Value) (h:ae):ai2 P K x4 L1 [x5,y6] h=
 (OP (bc y6) fun aL=>
 OP (ai .gtr aL (.int .i64 (0))) fun bj=>
 aQ bj
 (aq P 130 [x5,y6] h fun aP z1=>
 OP (cf 0 aP) fun _=>
 OP (cf 1 aP) fun bf=>
 ([x4]:List Value)=[x4]∧L1 [y6,bf] z1)
 (ai1 P K x4 x5 h)):=az (by kernel_rfl)
theorem aAU:ai1 P K x4 x5 h=
 (aq P 117 [(.bool false),x5] h fun bV z1=>
 OH (aK 2 z1 x4 bV) fun _ z2=>
 OP (af true 2 z2 x4) fun r0=>
 K r0 z2):=az (by kernel_rfl)
def Nx:Prop:=
 OH (bC 105 h a0) fun a2 z1=>
 OH (bC 105 z1 b1) fun b3 z2=>
 OH (ba 105 [(.bool false),(.slice none 0 0)] z2) fun x4 z3=>
 OP (aJ 1 a2) fun x9=>
 OP (af false 1 z3 x9) fun aM=>
 (True)∧
 OP (aJ 1 b3) fun au=>
 OP (af false 1 z3 au) fun aA=>
 (True)∧
 cJ [aM,aA] z3 fun L1 xs hx=>
 ai2 P K x4 L1 xs hx
theorem avv:aj P zl (aS [.cell true 2 4] K) (bG [a0,b1]) h=Nx P K a0 b1 h:=by kernel_rfl
theorem f120 {K:VK} {a0 b1:Value} {h:ae} (H:Nx prog K a0 b1 h):aq prog 120 [a0,b1] h K:=
 bT ayS (bP rfl) ((avv prog K a0 b1 h).mpr H)
end
noncomputable section
variable (a0 b1 a2 b3 x4 x5 x8 y9 bk eQ : Value) (h : ae)
def ahc:=bK prog 121 [[],[],[],[2,3,4,5,8,9,32],[3,4,5,8,9,32,37],[],[4,5,8,9],[]]
@[irreducible] def DG:=bR ahc
@[irreducible] def ZY:=DG.r.r.r.l.l.r.l
@[irreducible] def ar1:=DG.r.r.r.l.r
@[irreducible] def ZX:=DG.r.r.r.r
@[irreducible] def ar2:=ZY.r.l
@[irreducible] def ar0:=ZX.l
theorem ayT:ahc=some (47,DG,[.cell true 2 4,.cell true 2 5]):=by kernel_rfl
def MA (_P:Program) (K:VK):ar:=aS [.cell true 2 4,.cell true 2 5] K
def Xx:ar:=aF (aj P ZX (MA P K)) (MA P K)
def Xy:ar:=aF (aj P ar1 (Xx P K)) (Xx P K)
def ai3:Prop:=ax (aj P ZY (Xy P K)) [2,3,4,5,8,9,32] [a2,b3,x4,x5,x8,y9,bk] h
def TI:Prop:=ax (aj P ar2 (Xy P K)) [3,4,5,8,9,32,37] [b3,x4,x5,x8,y9,bk,eQ] h
def TH:Prop:=ax (aj P ar0 (MA P K)) [4,5,8,9] [x4,x5,x8,y9] h
theorem aAY:TI P K b3 x4 x5 x8 y9 bk eQ h=
 (OP (ck bk eQ (.bool false)) fun dF=>
 aQ dF
 (OP (af true 2 h x8) fun eI=>
 (True)∧
 aq P 105 [(.int .i64 (1))] h fun ee z1=>
 (af true 2 z1 x8=some eI∧True)∧
 aq P 127 [eI,ee] z1 fun dG z2=>
 (True)∧
 OP (af true 2 z2 y9) fun ef=>
 (af true 2 h y9=some ef∧af true 2 z1 y9=some ef∧True)∧
 OP (af true 2 z2 b3) fun bO=>
 (af true 2 h b3=some bO∧af true 2 z1 b3=some bO∧True)∧
 aq P 113 [ef,bO] z2 fun bp z3=>
 (True)∧
 OH (aK 2 z3 x8 dG) fun _ z4=>
 (True)∧
 OH (aK 2 z4 y9 bp) fun _ z5=>
 (True)∧
 TH P K x4 x5 x8 y9 z5)
 (TH P K x4 x5 x8 y9 h)):=az (by kernel_rfl)
theorem aAX:ai3 P K a2 b3 x4 x5 x8 y9 bk h=
 (cE bk true
 (OP (aJ 0 a2) fun br=>
 OP (af false 1 h br) fun bE=>
 OP (aJ 0 b3) fun de=>
 OP (af false 1 h de) fun dE=>
 OP (uR true bE dE) fun eQ=>
 TI P K b3 x4 x5 x8 y9 bk eQ h)
 (TI P K b3 x4 x5 x8 y9 bk undef h)):=az (by kernel_rfl)
theorem aAW:TH P K x4 x5 x8 y9 h=
 (OP (af true 2 h x8) fun cH=>
 (True)∧
 OP (af true 2 h y9) fun dU=>
 (True)∧
 OH (aK 2 h x4 cH) fun _ z1=>
 (af true 2 z1 y9=some dU∧True)∧
 OH (aK 2 z1 x5 dU) fun _ z2=>
 (True)∧
 OP (af true 2 z2 x4) fun r0=>
 OP (af true 2 z2 x5) fun r1=>
 K (.tuple #[r0,r1]) z2):=az (by kernel_rfl)
def Ny:Prop:=
 OH (bC 105 h a0) fun a2 z1=>
 OH (bC 105 z1 b1) fun b3 z2=>
 OH (ba 105 [(.bool false),(.slice none 0 0)] z2) fun x4 z3=>
 OH (ba 105 [(.bool false),(.slice none 0 0)] z3) fun x5 z4=>
 OP (aJ 1 a2) fun au=>
 OP (af false 1 z4 au) fun aA=>
 OP (aJ 1 b3) fun aD=>
 OP (af false 1 z4 aD) fun aL=>
 aq P 130 [aA,aL] z4 fun bj z5=>
 OP (cf 0 bj) fun bM=>
 OP (cf 1 bj) fun bU=>
 OH (ba 105 [(.bool false),(.slice none 0 0)] z5) fun x8 z6=>
 OP (er z6 x8) fun u=>
 (True)∧
 OH (ba 105 [(.bool false),(.slice none 0 0)] z6) fun y9 z7=>
 OP (er z7 y9) fun x1=>
 (er z7 x8=some u∧True)∧
 OP (aJ 0 a2) fun aO=>
 OP (af false 1 z7 aO) fun aP=>
 (af false 1 z5 aO=some aP∧af false 1 z6 aO=some aP∧True)∧
 OP (aJ 0 b3) fun aZ=>
 OP (af false 1 z7 aZ) fun bf=>
 (af false 1 z5 aZ=some bf∧af false 1 z6 aZ=some bf∧True)∧
 OP (uR true aP bf) fun bH=>
 aq P 117 [bH,bM] z7 fun bD z8=>
 (er z8 x8=some u∧er z8 y9=some x1∧True)∧
 OP (aJ 0 a2) fun bV=>
 OP (af false 1 z8 bV) fun cF=>
 (af false 1 z5 bV=some cF∧af false 1 z6 bV=some cF∧af false 1 z7 bV=some cF∧True)∧
 aq P 117 [cF,bU] z8 fun bz z9=>
 (er z9 x8=some u∧er z9 y9=some x1∧True)∧
 OH (aK 2 z9 x8 bD) fun _ nv=>
 (True)∧
 OH (aK 2 nv y9 bz) fun _ ry=>
 (True)∧
 OP (bc bU) fun dD=>
 OP (ai .gtr dD (.int .i64 (0))) fun cG=>
 ai3 P K a2 b3 x4 x5 x8 y9 cG ry
theorem avw:aj P DG (aS [.cell true 2 4,.cell true 2 5] K) (bG [a0,b1]) h=Ny P K a0 b1 h:=by kernel_rfl
theorem f121 {K:VK} {a0 b1:Value} {h:ae} (H:Ny prog K a0 b1 h):aq prog 121 [a0,b1] h K:=
 bT ayT (bP rfl) ((avw prog K a0 b1 h).mpr H)
end
noncomputable section
variable (a0 b1 x8 v9 sB nk sr uV : Value) (L1 : LQ) (xs : List Value) (h : ae)
def ahl:=bK prog 130 [[],[],[],[],[],[],[],[],[],[],[],[],[],[8,9,10,11,12],[13],[],[],[],[8,10,11,12],[]]
@[irreducible] def Hs:=bR ahl
@[irreducible] def ass:=Hs.r.r.r.r.r.r.r.l.r.l.l
@[irreducible] def aaj:=Hs.r.r.r.r.r.r.r.r
@[irreducible] def ast:=aaj.l
theorem ay2:ahl=some (85,Hs,[.tmp 4,.tmp 5]):=by kernel_rfl
def MG (_P:Program) (K:VK):ar:=aS [.tmp 4,.tmp 5] K
def ao4:ar:=aF (aj P aaj (MG P K)) (MG P K)
def ao5:ar:=bI 0 (ao4 P K)
def ao6:ar:=aF (fun f' aU=>(([8,9,10,11,12]:List Nat).map f':List Value)=[x8,v9,sB,nk,sr]∧L1 (([13]:List Nat).map f') aU) (ao5 P K)
def TQ:Prop:=ax (aj P ass (ao6 P K x8 v9 sB nk sr L1)) ([8,9,10,11,12]++[13]) ([x8,v9,sB,nk,sr]++xs) h
def ajo:Prop:=ax (aj P ast (MG P K)) [8,10,11,12] [x8,sB,nk,sr] h
theorem aBl (x8 v9 sB nk sr:Value) (L1:LQ) (uV:Value) (h:ae):TQ P K x8 v9 sB nk sr L1 [uV] h=
 (OP (ai .geq uV (.int .i64 (0))) fun kW=>
 aQ kW
 (OP (ai .add uV nk) fun gw=>
 OP (ai .add gw (.int .i64 (1))) fun rr=>
 OP (mJ 177 1 sB (some uV) (some rr)) fun tZ=>
 aq P 137 [tZ,v9] h fun mQ z1=>
 OP (aY 1 sr uV) fun jV=>
 OH (aK 1 z1 jV mQ) fun _ z2=>
 OP (ai .sub uV (.int .i64 (1))) fun jA=>
 ([x8,v9,sB,nk,sr]:List Value)=[x8,v9,sB,nk,sr]∧L1 [jA] z2)
 (ajo P K x8 sB nk sr h)):=az (by kernel_rfl)
theorem aBm:ajo P K x8 sB nk sr h=
 (aq P 118 [sr] h fun fB z1=>
 (True)∧
 OP (mJ 177 1 sB none (some nk)) fun jW=>
 aq P 118 [jW] z1 fun nS z2=>
 (True)∧
 aq P 138 [nS,x8] z2 fun ki z3=>
 (True)∧
 K (.tuple #[fB,ki]) z3):=az (by kernel_rfl)
def GP:Prop:=
 aq P 126 [a0,b1] h fun bM z1=>
 OP (ai .lss bM (.int .i64 (0))) fun bU=>
 aQ bU
 (OH (dI 177 1 4 z1 (.slice none 0 0) a0) fun aP z2=>
 K (.tuple #[(.slice none 0 0),aP]) z2)
 (OP (bc b1) fun bf=>
 OP (ai .eql bf (.int .i64 (1))) fun bH=>
 aQ bH
 (OP (aY 1 b1 (.int .i64 (0))) fun cF=>
 OP (af false 1 z1 cF) fun bn=>
 aq P 114 [a0,bn] z1 fun bz z2=>
 OP (cf 0 bz) fun bN=>
 OP (cf 1 bz) fun dD=>
 OH (cZ 177 1 [(.int .u32 (0))] z2 [(0,1,dD)]) fun br z3=>
 aq P 118 [br] z3 fun bE z4=>
 K (.tuple #[bN,bE]) z4)
 (OP (bc b1) fun eQ=>
 OP (ai .sub eQ (.int .i64 (1))) fun dF=>
 OP (aY 1 b1 dF) fun eI=>
 OP (af false 1 z1 eI) fun ee=>
 aq P 135 [ee] z1 fun dG z2=>
 aq P 136 [b1,dG] z2 fun bp z3=>
 aq P 118 [bp] z3 fun cH z4=>
 aq P 136 [a0,dG] z4 fun fz z5=>
 OP (bc cH) fun bW=>
 OP (bc a0) fun cV=>
 OP (ai .sub cV bW) fun cM=>
 OP (ai .add cM (.int .i64 (1))) fun eR=>
 OH (lE 177 4 [(.int .u32 (0))] z5 eR eR) fun gR z6=>
 OP (bc a0) fun cK=>
 OP (ai .sub cK bW) fun jT=>
 cJ [jT] z6 fun L1 xs hx=>
 TQ P K dG cH fz bW gR L1 xs hx))
theorem avF:aj P Hs (aS [.tmp 4,.tmp 5] K) (bG [a0,b1]) h=GP P K a0 b1 h:=by kernel_rfl
theorem f130 {K:VK} {a0 b1:Value} {h:ae} (H:GP prog K a0 b1 h):aq prog 130 [a0,b1] h K:=
 bT ay2 (bP rfl) ((avF prog K a0 b1 h).mpr H)
end
end
section
def cw:Nat:=4294967296^100
theorem aga {n:Nat} (h:n<4294967296^20):n<cw:=Nat.lt_of_lt_of_le h (Nat.pow_le_pow_right (by decide) (by decide))
theorem qq {xs:List Nat} (h:di 4294967296 xs) (hv:val 4294967296 xs<cw):xs.length≤100:=h.len (by decide) hv
def DS (e:TypeId) (k:IntKind) (h:ae) (v:Value) (xs:List Nat):Prop:=
 (v=.slice none 0 0∧xs=[])∨∃i,v=sl e i 0 xs.length∧(xs=[]∨∃rest,aR h i=some (xs.map (fun d:Nat=>Value.int k (d:Int))++rest))
theorem DS.mono {e:TypeId} {k:IntKind} {h h':ae} {v:Value} {xs:List Nat} (x:EX h h') (p:DS e k h v xs):DS e k h' v xs:=
 p.imp id fun ⟨i,a,b⟩=>⟨i,a,b.imp id fun ⟨r,c⟩=>⟨r,x.cells c⟩⟩
theorem DS.len {e:TypeId} {k:IntKind} {h:ae} {v:Value} {xs:List Nat} (p:DS e k h v xs):bc v=some (I xs.length):=by
 rcases p with ⟨rfl,rfl⟩ | ⟨i,rfl,_⟩ <;> rfl
theorem DS.get {e:TypeId} {k:IntKind} {h:ae} {v:Value} {xs:List Nat} (p:DS e k h v xs) {j:Nat} (hj:j<xs.length):∃i,aY 1 v (I j)=some (pt i j)∧af false 1 h (pt i j)=some (.int k (xs[j]:Int)):=by
 rcases p with ⟨_,rfl⟩ | ⟨i,rfl,hc⟩
 ·simp at hj
 ·obtain ⟨r,hc⟩:=hc.resolve_left (by rintro rfl;simp at hj)
  refine ⟨i,nz hj,?_⟩
  have:(xs.map (fun d:Nat=>Value.int k (d:Int))++r)[j]?=some (.int k (xs[j]:Int)):=by rw [List.getElem?_append_left (by simpa using hj)];simp [hj]
  simp [af,hc,cm,this]
theorem DS.nil (e:TypeId) (k:IntKind) (h:ae):DS e k h (.slice none 0 0) []:=.inl ⟨rfl,rfl⟩
theorem DS.one {e:TypeId} {k:IntKind} {h:ae} {v:Value} {xs:List Nat} (p:DS e k h v xs):fP v=true∧cR v=[v]:=by
 rcases p with ⟨rfl,_⟩ | ⟨i,rfl,_⟩ <;> exact ⟨rfl,rfl⟩
theorem DS.pop {e:TypeId} {k:IntKind} {h:ae} {v:Value} {xs:List Nat} (p:DS e k h v xs) {n:Nat} (hn:n≤xs.length):∃v',mJ e 1 v none (some (I n))=some v'∧DS e k h v' (xs.take n):=by
 rcases p with ⟨rfl,rfl⟩ | ⟨i,rfl,hc⟩
 ·simp at hn;subst hn
  exact ⟨_,rfl,.inl ⟨rfl,rfl⟩⟩
 ·refine ⟨sl e i 0 n,?_,.inr ⟨i,by rw [length_take,Nat.min_eq_left hn],?_⟩⟩
  ·simp [mJ,sl,sf,tI,hn]
  ·rcases hc with rfl | ⟨r,hc⟩
   ·left;simp
   ·right
    refine ⟨(xs.drop n).map (fun d:Nat=>Value.int k (d:Int))++r,?_⟩
    rw [hc,←List.append_assoc,←List.map_append,List.take_append_drop]
def dw (h:ae) (v:Value) (n:Nat):Prop:=∃xs,DS 177 .u32 h v xs∧di 4294967296 xs∧val 4294967296 xs=n
theorem dw.mono {h h':ae} {v:Value} {n:Nat} (x:EX h h') (p:dw h v n):dw h' v n:=let ⟨xs,a,b,c⟩:=p;⟨xs,a.mono x,b,c⟩
theorem sG {h:ae} {K:Value→ae→Prop} {v:Value} {xs:List Nat} (p:DS 177 .u32 h v xs) (hl:cn 4294967296 xs) (hs:xs.length≤1000) (hk:∀v',dw h v' (val 4294967296 xs)→K v' h):aq prog 118 [v] h K:=by
 refine f118 ?_
 refine dL (σ:=Value×List Nat) (fun p=>[p.1]) (fun _=>h) (fun q=>DS 177 .u32 h q.1 q.2∧cn 4294967296 q.2∧val 4294967296 q.2=val 4294967296 xs∧q.2.length≤1000) (fun q=>q.2.length) (v,xs) rfl rfl ⟨p,hl,rfl,hs⟩ ?_
 rintro ⟨v,ys⟩ ⟨p,hl,hv,hs⟩ L hL
 simp only at p hl hv hs hL⊢
 rw [aAT]
 have done:di 4294967296 ys→TF prog K v h:=by
  intro hc
  rw [aAS]
  exact hk v ⟨ys,p,hc,hv⟩
 simp only [p.len,ah,gj]
 by_cases h0:ys.length=0
 ·have:ys=[]:=List.length_eq_zero_iff.1 h0
  rw [aT (show ¬(0:Int)<(ys.length:Int) by omega)]
  simp only [alE,kZ,alD,c8,ah,dP]
  exact done (by rw [this];exact di.nil 4294967296)
 ·rw [aW (show (0:Int)<(ys.length:Int) by omega)]
  have e1:IntKind.wrap .i64 ((ys.length:Int)-1)=((ys.length-1:Nat):Int):=by rw [wrap64 (by omega) (by omega)];omega
  obtain ⟨i,g1,g2⟩:=p.get (j:=ys.length-1) (by omega)
  simp only [alE,iY,p.len,ah,gU,e1,g1,g2,jo,alD,dZ,cj]
  refine ⟨fun hz=>?_,fun hz=>?_⟩
  ·obtain ⟨v',h1,h2⟩:=p.pop (n:=ys.length-1) (by omega)
   simp only [h1,ah,true_and]
   have axZ:ys=ys.take (ys.length-1)++[0]:=by
    have:=List.take_succ_eq_append_getElem (l:=ys) (i:=ys.length-1) (by omega)
    rw [show ys.length-1+1=ys.length by omega,take_length] at this
    have uQ:ys[ys.length-1]=0:=by omega
    rw [uQ] at this
    exact this
   refine hL (v',ys.take (ys.length-1)) ⟨h2,hl.mono fun y hy=>List.mem_of_mem_take hy,?_,by rw [length_take];omega⟩ (by simp;omega)
   rw [←hv]
   conv=>rhs;rw [axZ]
   rw [oJ]
   simp [val]
  ·exact done (Ik hl fun h1 hc=>hz (by rw [hc];rfl))
/-- Fresh digits at the end of the heap. -/
abbrev hd (h:ae) (os:List Nat):ae:=h++[.arr 177 (os.map fun d:Nat=>Value.int .u32 (d:Int))]
theorem AJ {h:ae} {n:Nat} (hn:n≤1000):lE 177 4 [.int .u32 0] h (I n) (I n)=some (sl 177 h.length 0 n,hd h (replicate n 0)):=by
 have hz:∀m,gy [Value.int .u32 0] m=(replicate m 0).map fun d:Nat=>Value.int .u32 (d:Int):=by
  intro m
  induction m with
  | zero=>rfl
  | succ m ih=>
   have:gy [Value.int .u32 0] (m+1)=Value.int .u32 0::gy [Value.int .u32 0] m:=by simp [gy,List.replicate_succ]
   rw [this,ih,List.replicate_succ];rfl
 simp only [lE]
 rw [if_pos ⟨by omega,by omega,by omega,by omega⟩,Int.toNat_natCast,hz]
theorem QT (h:ae) (os:List Nat):(hd h os)[h.length]?=some (.arr 177 (os.map fun d:Nat=>Value.int .u32 (d:Int))):=by simp [hd]
theorem wg {h:ae} {os:List Nat} {j:Nat} (d:Nat) (hj:j<os.length):aK 1 (hd h os) (pt h.length j) (.int .u32 (d:Int))=some (undef,hd h (os.set j d)):=by
 rw [pj (QT h os) (by simpa using hj) rfl rfl]
 simp [hd,List.map_set]
theorem ad6 {h:ae} {os:List Nat} {j:Nat} (hj:j<os.length):af false 1 (hd h os) (pt h.length j)=some (.int .u32 (os[j]:Int)):=by
 simp [af,aR,cm,hj]
theorem zO (h:ae) (os:List Nat):DS 177 .u32 (hd h os) (sl 177 h.length 0 os.length) os:=.inr ⟨h.length,rfl,.inr ⟨[],by simp [aR,hd]⟩⟩
theorem kR (h:ae) (os:List Nat):EX h (hd h os):=EX.append _ _
theorem kV {n:Int} (h1:0≤n) (h2:n<18446744073709551616):IntKind.wrap .u64 n=n:=by
 have e:IntKind.wrap .u64 n=n%18446744073709551616:=by simp [IntKind.wrap,IntKind.bits,IntKind.signed]
 rw [e];omega
theorem yI (n:Int):IntKind.wrap .u32 n=n%4294967296:=by simp [IntKind.wrap,IntKind.bits,IntKind.signed]
theorem oK {n:Int} (h1:0≤n) (h2:n<4294967296):IntKind.wrap .u32 n=n:=by rw [yI];omega
theorem A3 (s:Nat):ai .shr (.int .u64 (s:Int)) (.int .u64 32)=some (.int .u64 ((s / 4294967296:Nat):Int)):=by
 simp only [ai,qT]
 rw [if_neg (by omega)]
 have:(min (32:Int).toNat IntKind.u64.bits)=32:=rfl
 rw [this]
 have e2:(2:Int)^32=4294967296:=by decide
 rw [e2,Int.fdiv_eq_ediv_of_nonneg _ (by omega)]
 congr 2
theorem WV {x y c:Nat} {h:ae} {K:Value→ae→Prop} (hx:x<4294967296) (hy:y<4294967296) (hc:c≤1) (hk:K (.tuple #[.int .u32 (((x+y+c)%4294967296:Nat):Int),.int .u32 (((x+y+c) / 4294967296:Nat):Int)]) h):
  aq prog 133 [.int .u32 (x:Int),.int .u32 (y:Int),.int .u32 (c:Int)] h K:=by
 refine f133 ?_
 have e1:IntKind.wrap .u64 ((x:Int)+(y:Int))=((x+y:Nat):Int):=by rw [kV (by omega) (by omega)];omega
 have e2:IntKind.wrap .u64 (((x+y:Nat):Int)+(c:Int))=((x+y+c:Nat):Int):=by rw [kV (by omega) (by omega)];omega
 have e3:IntKind.wrap .u32 ((x+y+c:Nat):Int)=(((x+y+c)%4294967296:Nat):Int):=by rw [yI];omega
 simp only [NK,lj,ah,cA]
 rw [kV (n:=(x:Int)) (by omega) (by omega),kV (n:=(y:Int)) (by omega) (by omega),e1,kV (n:=(c:Int)) (by omega) (by omega),e2]
 simp only [A3,ah,lj,e3]
 rw [oK (by omega) (by omega)]
 exact hk
theorem WS {va vb:Value} {xs ys:List Nat} {h:ae} {K:Value→ae→Prop} (hx:DS 177 .u32 h va xs) (hy:DS 177 .u32 h vb ys) (lx:cn 4294967296 xs) (ly:cn 4294967296 ys) (hle:ys.length≤xs.length) (hlen:xs.length≤200)
  (hk:∀v h',EX h h'→dw h' v (val 4294967296 xs+val 4294967296 ys)→K v h'):Kv prog K va vb h:=by
 rw [aBf]
 simp only [hx.len,ah,cA,fk xs.length (by omega),AJ (show xs.length+1≤1000 by omega),aE]
 have hW:0<4294967296:=by decide
 refine dL (σ:=Nat×Nat×List Nat) (fun p=>[.int .u32 (p.1:Int),I p.2.1]) (fun p=>hd h p.2.2)
  (fun p=>p.2.1≤xs.length∧p.1≤1∧p.2.2.length=xs.length+1∧cn 4294967296 p.2.2∧(∀j (hj:j<p.2.2.length),p.2.1≤j→p.2.2[j]=0)∧val 4294967296 p.2.2+4294967296^p.2.1*p.1=val 4294967296 (xs.take p.2.1)+val 4294967296 (ys.take p.2.1)) (fun p=>xs.length-p.2.1)
  (0,0,replicate (xs.length+1) 0) rfl rfl ⟨by simp,by simp,by simp,cn.xr hW _,by simp,by simp [yG,val]⟩ ?_
 rintro ⟨c,i,os⟩ ⟨hi,hc,gX,fC,hz,ca⟩ L hL
 simp only at hi hc gX fC hz ca hL⊢
 rw [aBb]
 have bY:=hx.mono (kR h os)
 have qQ:=hy.mono (kR h os)
 simp only [cN,ah,cj]
 refine ⟨fun aB=>?_,fun cL=>?_⟩
 ·have b6:i<xs.length:=by omega
  obtain ⟨ia,a1,a2⟩:=bY.get b6
  have iz:xs[i]<4294967296:=lx _ (getElem_mem b6)
  have go:∀y:Nat,y<4294967296→val 4294967296 (ys.take (i+1))=val 4294967296 (ys.take i)+4294967296^i*y→Ku prog K va vb (sl 177 h.length 0 (xs.length+1)) (.int .u32 (c:Int)) (I i) (.int .u32 (y:Int)) (I xs.length) (I i) L (hd h os):=by
   intro y kA An
   rw [aBc]
   simp only [a1,ah,a2]
   refine WV iz kA hc ?_
   simp only [eL,fx,fF,ah,nz (show i<xs.length+1 by omega)]
   rw [wg _ (by omega)]
   simp only [aE,aBd,cA,ah,fk i (by omega),true_and]
   have oY:(xs[i]+y+c)%4294967296<4294967296:=mod_lt _ hW
   have wh:(xs[i]+y+c) / 4294967296≤1:=by omega
   refine hL ((xs[i]+y+c) / 4294967296,i+1,os.set i ((xs[i]+y+c)%4294967296)) ⟨by show i+1≤xs.length;omega,wh,by show (os.set i _).length=_;rw [length_set];exact gX,fC.set oY i,?_,?_⟩ (by show xs.length-(i+1)<xs.length-i;omega)
   ·intro j hj fX
    show (os.set i _)[j]=0
    have Q6:i≠j:=by have:i+1≤j:=fX;omega
    rw [getElem_set_ne Q6]
    exact hz j (by simpa using hj) (by have:i+1≤j:=fX;omega)
   ·show val 4294967296 (os.set i _)+4294967296^(i+1)*_=val 4294967296 (xs.take (i+1))+val 4294967296 (ys.take (i+1))
    have h1:=tW 4294967296 os i ((xs[i]+y+c)%4294967296) (by omega)
    rw [hz i (by omega) (le_refl _)] at h1
    rw [ji 4294967296 xs b6,An,pow_succ]
    have h2:=Nat.mod_add_div (xs[i]+y+c) 4294967296
    generalize (xs[i]+y+c)%4294967296=m at*
    generalize (xs[i]+y+c) / 4294967296=q at*
    generalize 4294967296^i=P at*
    generalize hWW:4294967296=w at*
    grind
  simp only [qQ.len,ah,cN,cj]
  refine ⟨fun hly=>?_,fun hgy=>?_⟩
  ·have zW:i<ys.length:=by omega
   obtain ⟨ib,b1,b2⟩:=qQ.get zW
   simp only [b1,ah,b2]
   exact go _ (ly _ (getElem_mem zW)) (ji 4294967296 ys zW)
  ·have:=go 0 (by decide) (by rw [take_of_length_le (by omega),take_of_length_le (by omega)];simp)
   simpa using this
 ·have:i=xs.length:=by omega
  subst this
  rw [aBe]
  simp only [bY.len,ah,nz (show xs.length<xs.length+1 by omega)]
  rw [wg _ (by omega)]
  simp only [aE]
  have h1:=tW 4294967296 os xs.length c (by omega)
  rw [hz xs.length (by omega) (le_refl _)] at h1
  have hv:val 4294967296 (os.set xs.length c)=val 4294967296 xs+val 4294967296 ys:=by
   rw [take_length,take_of_length_le hle] at ca
   omega
  have hcW:c<4294967296:=Nat.lt_of_le_of_lt hc (by decide)
  have e:sl 177 h.length 0 (xs.length+1)=sl 177 h.length 0 (os.set xs.length c).length:=by rw [length_set,gX]
  rw [e]
  refine sG (zO h _) (fC.set hcW _) (by rw [length_set];omega) ?_
  intro v' hm
  rw [hv] at hm
  exact hk v' _ (kR h _) hm
theorem WR {va vb:Value} {a b:Nat} {h:ae} {K:Value→ae→Prop} (ha:dw h va a) (hb:dw h vb b) (la:a<cw) (lb:b<cw) (hk:∀v h',EX h h'→dw h' v (a+b)→K v h'):aq prog 128 [va,vb] h K:=by
 obtain ⟨xs,dx,cx,rfl⟩:=ha
 obtain ⟨ys,dy,cy,rfl⟩:=hb
 have l1:=qq cx la
 have l2:=qq cy lb
 refine f128 ?_
 simp only [NG,dx.len,dy.len,ah,cN,cj]
 refine ⟨fun aB=>?_,fun cL=>?_⟩
 ·refine WS dy dx cy.1 cx.1 (by omega) (by omega) ?_
  rw [Nat.add_comm (val 4294967296 ys)]
  exact hk
 ·exact WS dx dy cx.1 cy.1 (by omega) (by omega) hk
end
section
theorem zj (X:BitVec 32):BitVec.ofInt IntKind.u32.bits (X.toNat:Int)=X:=by
 show BitVec.ofInt 32 (X.toNat:Int)=X
 rw [BitVec.ofInt_natCast,BitVec.ofNat_toNat,BitVec.setWidth_eq]
theorem DC (X:BitVec 32):X.toNat<4294967296:=X.isLt
theorem aq8 (X Y:BitVec 32):ai .and (.int .u32 (X.toNat:Int)) (.int .u32 (Y.toNat:Int))=some (.int .u32 ((X &&& Y).toNat:Int)):=by
 have h:=DC (X &&& Y)
 have e:(BitVec.ofInt IntKind.u32.bits (X.toNat:Int) &&& BitVec.ofInt IntKind.u32.bits (Y.toNat:Int)).toNat=(X &&& Y).toNat:=by rw [zj,zj];rfl
 simp only [ai,gY,if_true]
 rw [e,oK (by omega) (by omega)]
theorem az5 (X Y:BitVec 32):ai .or (.int .u32 (X.toNat:Int)) (.int .u32 (Y.toNat:Int))=some (.int .u32 ((X ||| Y).toNat:Int)):=by
 have h:=DC (X ||| Y)
 have e:(BitVec.ofInt IntKind.u32.bits (X.toNat:Int) ||| BitVec.ofInt IntKind.u32.bits (Y.toNat:Int)).toNat=(X ||| Y).toNat:=by rw [zj,zj];rfl
 simp only [ai,gY,if_true]
 rw [e,oK (by omega) (by omega)]
theorem aFP (X Y:BitVec 32):ai .xor (.int .u32 (X.toNat:Int)) (.int .u32 (Y.toNat:Int))=some (.int .u32 ((X^^^Y).toNat:Int)):=by
 have h:=DC (X^^^Y)
 have e:(BitVec.ofInt IntKind.u32.bits (X.toNat:Int)^^^BitVec.ofInt IntKind.u32.bits (Y.toNat:Int)).toNat=(X^^^Y).toNat:=by rw [zj,zj];rfl
 simp only [ai,gY,if_true]
 rw [e,oK (by omega) (by omega)]
theorem azN (X:BitVec 32):gZ .xor (.int .u32 (X.toNat:Int))=some (.int .u32 ((~~~X).toNat:Int)):=by
 have h:=DC (~~~X)
 have e:(BitVec.ofInt IntKind.u32.bits (if IntKind.u32.signed=true then -1 else IntKind.u32.max)^^^BitVec.ofInt IntKind.u32.bits (X.toNat:Int)).toNat=(~~~X).toNat:=by
  rw [zj]
  show (BitVec.ofInt 32 4294967295^^^X).toNat=_
  rw [show BitVec.ofInt 32 4294967295=BitVec.allOnes 32 from by decide,BitVec.allOnes_xor]
 simp only [gZ]
 rw [e,oK (by omega) (by omega)]
theorem aFf (Z:BitVec 32):ai .shr (.int .u32 (Z.toNat:Int)) (.int .u64 31)=some (.int .u32 ((if Z.msb then 1 else 0:Nat):Int)):=by
 have h:=DC Z
 simp only [ai,qT]
 rw [if_neg (by omega)]
 have:(min (31:Int).toNat IntKind.u32.bits)=31:=rfl
 rw [this]
 have e2:(2:Int)^31=2147483648:=by decide
 rw [e2,Int.fdiv_eq_ediv_of_nonneg _ (by omega),BitVec.msb_eq_decide]
 congr 2
 by_cases hz:2^31≤Z.toNat
 ·simp [hz];omega
 ·simp [hz];omega
theorem WW {x y b:Nat} {h:ae} {K:Value→ae→Prop} (hx:x<4294967296) (hy:y<4294967296) (hb:b≤1) (hk:K (.tuple #[.int .u32 (((x+4294967296+4294967296-y-b)%4294967296:Nat):Int),.int .u32 ((if x<y+b then 1 else 0:Nat):Int)]) h):
  aq prog 134 [.int .u32 (x:Int),.int .u32 (y:Int),.int .u32 (b:Int)] h K:=by
 refine f134 ?_
 obtain ⟨X,rfl⟩:∃X:BitVec 32,x=X.toNat:=⟨BitVec.ofNat 32 x,by rw [BitVec.toNat_ofNat];exact (Nat.mod_eq_of_lt hx).symm⟩
 obtain ⟨Y,rfl⟩:∃Y:BitVec 32,y=Y.toNat:=⟨BitVec.ofNat 32 y,by rw [BitVec.toNat_ofNat];exact (Nat.mod_eq_of_lt hy).symm⟩
 obtain ⟨D,hD⟩:∃D:BitVec 32,D.toNat=(X.toNat+4294967296+4294967296-Y.toNat-b)%4294967296:=⟨BitVec.ofNat 32 _,by rw [BitVec.toNat_ofNat]⟩
 have e1:IntKind.wrap .u32 (IntKind.wrap .u32 ((X.toNat:Int)-(Y.toNat:Int))-(b:Int))=(D.toNat:Int):=by
  rw [yI,yI,hD];omega
 simp only [NL,gU,ah,e1,azN,aq8,aFP,az5,aFf]
 rw [←hD] at hk
 have e2:(if (~~~X &&& Y ||| ~~~(X^^^Y) &&& D).msb then 1 else 0:Nat)=if X.toNat<Y.toNat+b then 1 else 0:=by
  rw [BitVec.msb_or,BitVec.msb_and,BitVec.msb_and,BitVec.msb_not,BitVec.msb_not,BitVec.msb_xor,BitVec.msb_eq_decide X,BitVec.msb_eq_decide Y,BitVec.msb_eq_decide D]
  by_cases c1:2^(32-1)≤X.toNat <;> by_cases c2:2^(32-1)≤Y.toNat <;> by_cases c3:2^(32-1)≤D.toNat <;> simp [c1,c2,c3] <;> omega
 rw [e2]
 exact hk
theorem WT {va vb:Value} {a b:Nat} {h:ae} {K:Value→ae→Prop} (ha:dw h va a) (hb:dw h vb b) (la:a<cw) (gn:b≤a) (hk:∀v h',EX h h'→dw h' v (a-b)→K v h'):aq prog 129 [va,vb] h K:=by
 obtain ⟨xs,hx,cx,rfl⟩:=ha
 obtain ⟨ys,hy,cy,rfl⟩:=hb
 have l1:=qq cx la
 have l2:=qq cy (Nat.lt_of_le_of_lt gn la)
 have hle:ys.length≤xs.length:=by
  apply byContradiction
  intro hc
  have:=di.AI (by decide) cx cy (by omega)
  omega
 refine f129 ?_
 simp only [NH,hx.len,ah,AJ (show xs.length≤1000 by omega),aE]
 have hW:(0:Nat)<4294967296:=by decide
 refine dL (σ:=Nat×Nat×List Nat) (fun p=>[.int .u32 (p.1:Int),I p.2.1]) (fun p=>hd h p.2.2)
  (fun p=>p.2.1≤xs.length∧p.1≤1∧p.2.2.length=xs.length∧cn 4294967296 p.2.2∧(∀j (hj:j<p.2.2.length),p.2.1≤j→p.2.2[j]=0)∧val 4294967296 p.2.2+val 4294967296 (ys.take p.2.1)=val 4294967296 (xs.take p.2.1)+4294967296^p.2.1*p.1) (fun p=>xs.length-p.2.1)
  (0,0,replicate xs.length 0) rfl rfl ⟨by simp,by simp,by simp,cn.xr hW _,by simp,by simp [yG,val]⟩ ?_
 rintro ⟨c,i,os⟩ ⟨hi,hc,gX,fC,hz,ca⟩ L hL
 simp only at hi hc gX fC hz ca hL⊢
 rw [aBj]
 have bY:=hx.mono (kR h os)
 have qQ:=hy.mono (kR h os)
 simp only [cN,ah,cj]
 refine ⟨fun aB=>?_,fun cL=>?_⟩
 ·have b6:i<xs.length:=by omega
  obtain ⟨ia,a1,a2⟩:=bY.get b6
  have iz:xs[i]<4294967296:=cx.1 _ (getElem_mem b6)
  have go:∀y:Nat,y<4294967296→val 4294967296 (ys.take (i+1))=val 4294967296 (ys.take i)+4294967296^i*y→Kw prog K va vb (sl 177 h.length 0 xs.length) (.int .u32 (c:Int)) (I i) (.int .u32 (y:Int)) (I xs.length) (I i) L (hd h os):=by
   intro y kA An
   rw [aBg]
   simp only [a1,ah,a2]
   refine WW iz kA hc ?_
   simp only [eL,fx,fF,ah,nz b6]
   rw [wg _ (by omega)]
   simp only [aE,aBh,cA,ah,fk i (by omega),true_and]
   have oY:(xs[i]+4294967296+4294967296-y-c)%4294967296<4294967296:=mod_lt _ hW
   have lU:(if xs[i]<y+c then 1 else 0)≤1:=by split <;> omega
   have hs:(xs[i]+4294967296+4294967296-y-c)%4294967296+y+c=xs[i]+4294967296*(if xs[i]<y+c then 1 else 0):=by
    split <;> omega
   refine hL ((if xs[i]<y+c then 1 else 0),i+1,os.set i ((xs[i]+4294967296+4294967296-y-c)%4294967296)) ⟨by show i+1≤xs.length;omega,lU,by show (os.set i _).length=_;rw [length_set];exact gX,fC.set oY i,?_,?_⟩ (by show xs.length-(i+1)<xs.length-i;omega)
   ·intro j hj fX
    show (os.set i _)[j]=0
    have Q6:i≠j:=by have:i+1≤j:=fX;omega
    rw [getElem_set_ne Q6]
    exact hz j (by simpa using hj) (by have:i+1≤j:=fX;omega)
   ·show val 4294967296 (os.set i _)+val 4294967296 (ys.take (i+1))=val 4294967296 (xs.take (i+1))+4294967296^(i+1)*_
    have h1:=tW 4294967296 os i ((xs[i]+4294967296+4294967296-y-c)%4294967296) (by omega)
    rw [hz i (by omega) (le_refl _)] at h1
    rw [ji 4294967296 xs b6,An,pow_succ]
    generalize (xs[i]+4294967296+4294967296-y-c)%4294967296=m at*
    generalize (if xs[i]<y+c then 1 else 0)=q at*
    generalize 4294967296^i=P at*
    generalize (4294967296:Nat)=w at*
    grind
  simp only [qQ.len,ah,cN,cj]
  refine ⟨fun hly=>?_,fun hgy=>?_⟩
  ·have zW:i<ys.length:=by omega
   obtain ⟨ib,b1,b2⟩:=qQ.get zW
   simp only [b1,ah,b2]
   exact go _ (cy.1 _ (getElem_mem zW)) (ji 4294967296 ys zW)
  ·have:=go 0 (by decide) (by rw [take_of_length_le (by omega),take_of_length_le (by omega)];simp)
   simpa using this
 ·have:i=xs.length:=by omega
  subst this
  rw [aBi]
  rw [take_length,take_of_length_le hle] at ca
  have aB:=nr fC
  rw [gX] at aB
  have zJ:c=0:=by
   apply byContradiction
   intro bm
   have:c=1:=by omega
   subst this
   omega
  subst zJ
  have hv:val 4294967296 os=val 4294967296 xs-val 4294967296 ys:=by omega
  have e:sl 177 h.length 0 xs.length=sl 177 h.length 0 os.length:=by rw [gX]
  rw [e]
  refine sG (zO h _) fC (by omega) ?_
  intro v' hm
  rw [hv] at hm
  exact hk v' _ (kR h _) hm
def nm (a b:Nat):Int:=if a<b then -1 else if b<a then 1 else 0
theorem LO {B:Nat} {xs ys:List Nat} (lx:cn B xs) (_:cn B ys) (hl:xs.length=ys.length) {i:Nat} (hi:i<xs.length) (hd:xs.drop (i+1)=ys.drop (i+1)) (h:xs[i]<ys[i]'(by omega)):val B xs<val B ys:=by
 have e1:xs=xs.take i++xs[i]::xs.drop (i+1):=by rw [←drop_eq_getElem_cons hi,List.take_append_drop]
 have e2:ys=ys.take i++ys[i]'(by omega)::ys.drop (i+1):=by rw [←drop_eq_getElem_cons (by omega),List.take_append_drop]
 have v1:val B xs=val B (xs.take i)+B^i*(xs[i]+B*val B (xs.drop (i+1))):=by
  conv=>lhs;rw [e1]
  rw [oJ,length_take,Nat.min_eq_left (by omega)];rfl
 have v2:val B ys=val B (ys.take i)+B^i*(ys[i]'(by omega)+B*val B (ys.drop (i+1))):=by
  conv=>lhs;rw [e2]
  rw [oJ,length_take,Nat.min_eq_left (by omega)];rfl
 rw [v1,v2,hd]
 have h1:=nr (lx.mono (ys:=xs.take i) fun y hy=>List.mem_of_mem_take hy)
 rw [length_take,Nat.min_eq_left (by omega)] at h1
 have h2:B^i*(xs[i]+1+B*val B (ys.drop (i+1)))≤B^i*(ys[i]'(by omega)+B*val B (ys.drop (i+1))):=Nat.mul_le_mul_left _ (by omega)
 generalize B^i=P at*
 generalize B*val B (ys.drop (i+1))=Q at*
 generalize val B (xs.take i)=u at*
 generalize val B (ys.take i)=v at*
 have h3:P*(xs[i]+1+Q)=P*(xs[i]+Q)+P:=by grind
 omega
theorem Gi {va vb:Value} {a b:Nat} {h:ae} {K:Value→ae→Prop} (ha:dw h va a) (hb:dw h vb b) (la:a<cw) (lb:b<cw) (hk:K (I (nm a b)) h):aq prog 126 [va,vb] h K:=by
 obtain ⟨xs,hx,cx,rfl⟩:=ha
 obtain ⟨ys,hy,cy,rfl⟩:=hb
 have l1:=qq cx la
 have l2:=qq cy lb
 have less:val 4294967296 xs<val 4294967296 ys→K (.int .i64 (-1)) h:=fun h1=>by unfold nm at hk;rw [if_pos h1] at hk;exact hk
 have more:val 4294967296 ys<val 4294967296 xs→K (.int .i64 1) h:=fun h1=>by unfold nm at hk;rw [if_neg (by omega),if_pos h1] at hk;exact hk
 have same:val 4294967296 xs=val 4294967296 ys→K (.int .i64 0) h:=fun h1=>by unfold nm at hk;rw [if_neg (by omega),if_neg (by omega)] at hk;exact hk
 refine f126 ?_
 simp only [ND,hx.len,hy.len,ah,qo,Gp,cN,cj]
 refine ⟨fun bm=>⟨fun aB=>less (di.AI (by decide) cx cy (by omega)),fun cL=>more (di.AI (by decide) cy cx (by omega))⟩,fun he=>?_⟩
 have fK:xs.length=ys.length:=by omega
 simp only [gU,ah]
 have e1:IntKind.wrap .i64 ((xs.length:Int)-1)=(xs.length:Int)-1:=by rw [wrap64 (by omega) (by omega)]
 rw [e1]
 refine dL (σ:=Nat) (fun i=>[I ((i:Int)-1)]) (fun _=>h) (fun i=>i≤xs.length∧xs.drop i=ys.drop i) (fun i=>i) xs.length rfl rfl ⟨le_refl _,by rw [List.drop_length,fK,List.drop_length]⟩ ?_
 rintro i ⟨hi,ta⟩ L hL
 rw [aBa]
 simp only [nA,ah,cj]
 refine ⟨fun cL=>?_,fun aB=>?_⟩
 ·obtain ⟨j,rfl⟩:∃j,i=j+1:=⟨i-1,by omega⟩
  have ej:(((j+1:Nat):Int)-1)=(j:Int):=by omega
  rw [ej]
  obtain ⟨ia,a1,a2⟩:=hx.get (j:=j) (by omega)
  obtain ⟨ib,b1,b2⟩:=hy.get (j:=j) (by omega)
  simp only [a1,a2,b1,b2,ah,true_and,qo,Gp,cN,cj]
  refine ⟨fun bm=>⟨fun aB=>less (LO cx.1 cy.1 fK (i:=j) (by omega) ta (by omega)),fun cL=>more (LO cy.1 cx.1 fK.symm (i:=j) (by omega) ta.symm (by omega))⟩,fun heq=>?_⟩
  simp only [gU,ah]
  rw [wrap64 (by omega) (by omega)]
  refine hL j ⟨by omega,?_⟩ (by omega)
  rw [drop_eq_getElem_cons (by omega),drop_eq_getElem_cons (show j<ys.length by omega),ta]
  congr 1
  omega
 ·have:i=0:=by omega
  subst this
  rw [drop_zero,drop_zero] at ta
  exact same (by rw [ta])
end
section
theorem Ka {x y:Nat} (hx:x<4294967296) (hy:y<4294967296):x*y≤18446744065119617025:=by
 have:=Nat.mul_le_mul (show x≤4294967295 by omega) (show y≤4294967295 by omega)
 omega
theorem WO {va vb:Value} {a b:Nat} {h:ae} {K:Value→ae→Prop} (ha:dw h va a) (hb:dw h vb b) (la:a<cw) (lb:b<cw) (hk:∀v h',EX h h'→dw h' v (a*b)→K v h'):aq prog 122 [va,vb] h K:=by
 obtain ⟨xs,hx,cx,rfl⟩:=ha
 obtain ⟨ys,hy,cy,rfl⟩:=hb
 have l1:=qq cx la
 have l2:=qq cy lb
 have hW:(0:Nat)<4294967296:=by decide
 refine f122 ?_
 have e0:IntKind.wrap .i64 ((xs.length:Int)+(ys.length:Int))=((xs.length+ys.length:Nat):Int):=by rw [wrap64 (by omega) (by omega)];omega
 simp only [Nz,hx.len,hy.len,ah,cA,e0,AJ (show xs.length+ys.length≤1000 by omega),aE]
 refine dL (σ:=Nat×List Nat) (fun p=>[I p.1]) (fun p=>hd h p.2)
  (fun p=>p.1≤xs.length∧p.2.length=xs.length+ys.length∧cn 4294967296 p.2∧(∀j (hj:j<p.2.length),p.1+ys.length≤j→p.2[j]=0)∧val 4294967296 p.2=val 4294967296 (xs.take p.1)*val 4294967296 ys) (fun p=>xs.length-p.1)
  (0,replicate (xs.length+ys.length) 0) rfl rfl ⟨by simp,by simp,cn.xr hW _,by simp,by simp [yG,val]⟩ ?_
 rintro ⟨i,os⟩ ⟨hi,gX,fC,hz,ca⟩ L hL
 simp only at hi gX fC hz ca hL⊢
 rw [aA3]
 have bY:=hx.mono (kR h os)
 simp only [cN,ah,cj]
 refine ⟨fun aB=>?_,fun cL=>?_⟩
 ·have b6:i<xs.length:=by omega
  obtain ⟨ia,a1,a2⟩:=bY.get b6
  have iz:xs[i]<4294967296:=cx.1 _ (getElem_mem b6)
  simp only [a1,ah,a2,(hy.mono (kR h os)).len]
  have Aj:=ji 4294967296 xs b6
  generalize xs[i]=x at iz Aj
  refine dL (σ:=Nat×Nat×List Nat) (fun p=>[.int .u64 (p.1:Int),I p.2.1]) (fun p=>hd h p.2.2)
   (fun p=>p.2.1≤ys.length∧p.1<4294967296∧p.2.2.length=xs.length+ys.length∧cn 4294967296 p.2.2∧(∀j (hj:j<p.2.2.length),i+ys.length≤j→p.2.2[j]=0)∧val 4294967296 p.2.2+4294967296^(i+p.2.1)*p.1=val 4294967296 os+4294967296^i*(x*val 4294967296 (ys.take p.2.1))) (fun p=>ys.length-p.2.1)
   (0,0,os) rfl rfl ⟨by simp,hW,gX,fC,hz,by simp [val]⟩ ?_
  rintro ⟨c,j,ps⟩ ⟨hj,hc,j5,wA,yk,yj⟩ L2 gV
  simp only at hj hc j5 wA yk yj gV⊢
  rw [aAZ]
  have qQ:=hy.mono (kR h ps)
  simp only [cN,ah,cj]
  refine ⟨fun kr=>?_,fun Q2=>?_⟩
  ·have m9:j<ys.length:=by omega
   obtain ⟨ib,b1,b2⟩:=qQ.get m9
   have kA:ys[j]<4294967296:=cy.1 _ (getElem_mem m9)
   have hyt:=ji 4294967296 ys m9
   generalize ys[j]=y at b2 kA hyt
   have pR:i+j<ps.length:=by omega
   have axs:ps[i+j]<4294967296:=wA _ (getElem_mem pR)
   have hxy:=Ka iz kA
   have lX:=tW 4294967296 ps (i+j) ((x*y+ps[i+j]+c)%4294967296) pR
   have ei:IntKind.wrap .i64 ((i:Int)+(j:Int))=((i+j:Nat):Int):=by rw [wrap64 (by omega) (by omega)];omega
   have PY:((x:Int)*(y:Int))=((x*y:Nat):Int):=by simp
   simp only [b1,ah,b2,lj]
   rw [kV (n:=(x:Int)) (by omega) (by omega),kV (n:=(y:Int)) (by omega) (by omega)]
   simp only [vP,ah,PY,cA,ei]
   rw [kV (n:=((x*y:Nat):Int)) (by omega) (by omega)]
   rw [nz (show i+j<xs.length+ys.length by omega)]
   simp only [ah,ad6 pR,lj]
   rw [kV (n:=(ps[i+j]:Int)) (by omega) (by omega)]
   have e1:IntKind.wrap .u64 (((x*y:Nat):Int)+(ps[i+j]:Int))=((x*y+ps[i+j]:Nat):Int):=by rw [kV (by omega) (by omega)];omega
   have e2:IntKind.wrap .u64 (((x*y+ps[i+j]:Nat):Int)+(c:Int))=((x*y+ps[i+j]+c:Nat):Int):=by rw [kV (by omega) (by omega)];omega
   have e3:IntKind.wrap .u32 ((x*y+ps[i+j]+c:Nat):Int)=(((x*y+ps[i+j]+c)%4294967296:Nat):Int):=by rw [yI];omega
   simp only [cA,ah,e1,e2,lj,e3,A3]
   rw [wg _ pR]
   simp only [aE,fk j (by omega),true_and]
   have oY:(x*y+ps[i+j]+c)%4294967296<4294967296:=mod_lt _ hW
   have lV:=Nat.mod_add_div (x*y+ps[i+j]+c) 4294967296
   have wh:(x*y+ps[i+j]+c) / 4294967296<4294967296:=by omega
   refine gV ((x*y+ps[i+j]+c) / 4294967296,j+1,ps.set (i+j) ((x*y+ps[i+j]+c)%4294967296)) ⟨by show j+1≤ys.length;omega,wh,by show (ps.set _ _).length=_;rw [length_set];exact j5,wA.set oY _,?_,?_⟩ (by show ys.length-(j+1)<ys.length-j;omega)
   ·intro k tg pO
    show (ps.set (i+j) _)[k]=0
    have bm:i+j≠k:=by omega
    rw [getElem_set_ne bm]
    exact yk k (by simpa using tg) pO
   ·show val 4294967296 (ps.set (i+j) _)+4294967296^(i+(j+1))*_=val 4294967296 os+4294967296^i*(x*val 4294967296 (ys.take (j+1)))
    rw [hyt,←Nat.add_assoc,pow_succ]
    rw [Nat.pow_add] at lX yj⊢
    generalize ps[i+j]=o at*
    generalize (x*y+o+c)%4294967296=m at*
    generalize (x*y+o+c) / 4294967296=q at*
    generalize val 4294967296 (ys.take j)=v at*
    generalize val 4294967296 (ps.set (i+j) m)=s1 at*
    generalize val 4294967296 ps=s0 at*
    generalize val 4294967296 os=s2 at*
    generalize 4294967296^i=P at*
    generalize 4294967296^j=Q at*
    generalize (4294967296:Nat)=w at*
    clear gV hL hx hy bY qQ b1 b2
    have h1:P*Q*(m+w*q)=P*Q*(x*y+o+c):=by rw [lV]
    grind
  ·have:j=ys.length:=by omega
   subst this
   rw [aA0]
   have ei:IntKind.wrap .i64 ((i:Int)+(ys.length:Int))=((i+ys.length:Nat):Int):=by rw [wrap64 (by omega) (by omega)];omega
   simp only [qQ.len,ah,cA,ei,lj]
   rw [oK (n:=(c:Int)) (by omega) (by omega),nz (show i+ys.length<xs.length+ys.length by omega)]
   simp only [ah]
   have pR:i+ys.length<ps.length:=by omega
   rw [wg _ pR]
   simp only [aE,aA1,cA,ah,fk i (by omega),true_and]
   have lX:=tW 4294967296 ps (i+ys.length) c pR
   rw [yk _ pR (le_refl _)] at lX
   rw [take_length] at yj
   refine hL (i+1,ps.set (i+ys.length) c) ⟨by show i+1≤xs.length;omega,by show (ps.set _ _).length=_;rw [length_set];exact j5,wA.set hc _,?_,?_⟩ (by show xs.length-(i+1)<xs.length-i;omega)
   ·intro k tg pO
    show (ps.set (i+ys.length) _)[k]=0
    have aGd:i+1+ys.length≤k:=pO
    have bm:i+ys.length≠k:=by omega
    rw [getElem_set_ne bm]
    exact yk k (by simpa using tg) (by omega)
   ·show val 4294967296 (ps.set (i+ys.length) c)=val 4294967296 (xs.take (i+1))*val 4294967296 ys
    rw [Aj,Nat.add_mul,←ca,Nat.mul_assoc,←yj]
    omega
 ·have:i=xs.length:=by omega
  subst this
  rw [aA2]
  rw [take_length] at ca
  have e:sl 177 h.length 0 (xs.length+ys.length)=sl 177 h.length 0 os.length:=by rw [gX]
  rw [e]
  refine sG (zO h _) fC (by omega) ?_
  intro v' hm
  rw [ca] at hm
  exact hk v' _ (kR h _) hm
def dQ (h:ae) (val:Value) (z:Int):Prop:=∃v,val=.agg #[B (decide (z<0)),v]∧dw h v z.natAbs
theorem dQ.mono {h h':ae} {v:Value} {z:Int} (x:EX h h') (p:dQ h v z):dQ h' v z:=let ⟨w,a,b⟩:=p;⟨w,a,b.mono x⟩
theorem dw.so {h:ae} {v:Value} {n:Nat} (p:dw h v n):∃l:Nat,bc v=some (I l)∧(0<l↔0<n):=by
 obtain ⟨xs,d,c,rfl⟩:=p
 refine ⟨xs.length,d.len,?_⟩
 constructor
 ·intro h0
  have:=di.low (by decide) c (by rintro rfl;simp at h0)
  have:0<4294967296^(xs.length-1):=pow_pos (by decide)
  omega
 ·intro h0
  cases xs with
  | nil=>simp [val] at h0
  | cons x xs=>simp
theorem dw.bS {h:ae} {v:Value} {n j:Nat} {e:TypeId} {b:Bool} {r:List Value} (p:dw h v n) (hj:h[j]?=some (.arr e (.bool b::r))) (o:ak):dw (h.set j o) v n:=by
 obtain ⟨xs,d,c,hv⟩:=p
 refine ⟨xs,?_,c,hv⟩
 rcases d with d | ⟨i,h1,h2⟩
 ·exact .inl d
 ·refine .inr ⟨i,h1,?_⟩
  rcases h2 with h2 | ⟨rest,h2⟩
  ·exact .inl h2
  ·cases xs with
   | nil=>exact .inl rfl
   | cons x xs=>
    right
    refine ⟨rest,?_⟩
    have bm:j≠i:=by
     rintro rfl
     unfold aR at h2
     rw [hj] at h2
     simp at h2
    unfold aR at h2⊢
    rw [getElem?_set_ne bm]
    exact h2
theorem dQ.bS {h:ae} {v:Value} {z:Int} {j:Nat} {e:TypeId} {b:Bool} {r:List Value} (p:dQ h v z) (hj:h[j]?=some (.arr e (.bool b::r))) (o:ak):dQ (h.set j o) v z:=
 let ⟨w,a,q⟩:=p;⟨w,a,q.bS hj o⟩
theorem gP {h:ae} {i:Nat} {e:TypeId} {a b x y:Value} (hg:h[i]?=some (.arr e [a,b])):aK 2 h (pt i 0) (.agg #[x,y])=some (undef,h.set i (.arr e [x,y])):=by
 simp [aK,qU,hg,fP,cR,Value.cells,setAt]
theorem dC {h:ae} {i:Nat} {e:TypeId} {a b:Value} (hg:h[i]?=some (.arr e [a,b])):af true 2 h (pt i 0)=some (.agg #[a,b]):=by
 simp [af,aR,hg,cm]
theorem cU {h:ae} {i:Nat} {o o':ak} (hg:h[i]?=some o'):(h.set i o)[i]?=some o:=by
 rw [List.getElem?_set_self (bL hg).1]
theorem sF {v:Value} {n:Nat} {b:Bool} {h:ae} {K:Value→ae→Prop} (hm:dw h v n) (hk:∀h',EX h h'→K (.agg #[B (b&&decide (0<n)),v]) h'):aq prog 117 [B b,v] h K:=by
 refine f117 ?_
 have al:ba 105 [(.bool false),(.slice none 0 0)] h=some (pt h.length 0,h++[.arr 105 [(.bool false),(.slice none 0 0)]]):=rfl
 simp only [Nu,al,aE]
 obtain ⟨l,h1,h2⟩:=hm.so
 have hg:(h++[ak.arr 105 [(.bool false),(.slice none 0 0)]])[h.length]?=some (.arr 105 [(.bool false),(.slice none 0 0)]):=bZ
 have hx:EX h (h++[ak.arr 105 [(.bool false),(.slice none 0 0)]]):=EX.append _ _
 have fin:Fu prog K v (pt h.length 0) (B b) (B (decide (0<l))) (h++[ak.arr 105 [(.bool false),(.slice none 0 0)]])∧(b=false→Fu prog K v (pt h.length 0) (B b) undef (h++[ak.arr 105 [(.bool false),(.slice none 0 0)]])):=by
  have one:∀c:Bool,c=(b&&decide (0<n))→OP (dW [(.bool false),(.slice none 0 0)] [(0,1,B c),(1,1,v)]) fun aA=>OH (aK 2 (h++[ak.arr 105 [(.bool false),(.slice none 0 0)]]) (pt h.length 0) aA) fun _ h_1=>OP (af true 2 h_1 (pt h.length 0)) fun r0=>K r0 h_1:=by
   rintro c rfl
   have eb:dW [(.bool false),(.slice none 0 0)] [(0,1,B (b&&decide (0<n))),(1,1,v)]=some (.agg #[B (b&&decide (0<n)),v]):=by
    obtain ⟨xs,d,_,_⟩:=hm
    rcases d with ⟨rfl,_⟩ | ⟨i,rfl,_⟩ <;> rfl
   simp only [eb,ah]
   rw [gP hg]
   simp only [aE]
   rw [dC (cU hg)]
   simp only [ah]
   exact hk _ (hx.set (le_refl _) _)
  constructor
  ·rw [alC]
   cases b with
   | true=>simp only [dZ,ah];exact one _ (by simp [h2])
   | false=>simp only [c8,ah];exact one _ (by simp)
  ·rintro rfl
   rw [alC]
   simp only [c8,ah]
   exact one _ (by simp)
 rw [aAR]
 have e0:decide ((0:Int)<(l:Int))=decide (0<l):=by
  by_cases h0:0<l
  ·simp [h0]
  ·simp [h0]
 cases b with
 | true=>
  simp only [iY,h1,ah,gj,e0]
  exact fin.1
 | false=>
  simp only [kZ]
  exact fin.2 rfl
end
section
theorem uE {h':ae} {j:Nat} {b0 v0 b v:Value} {K:Value→ae→Prop} (hg:h'[j]?=some (.arr 105 [b0,v0])) (hk:K (.agg #[b,v]) (h'.set j (.arr 105 [b,v]))):
  OH (aK 2 h' (pt j 0) (.agg #[b,v])) fun _ h6=>OP (af true 2 h6 (pt j 0)) fun r0=>K r0 h6:=by
 rw [gP hg]
 simp only [aE]
 rw [dC (cU hg)]
 exact ah.2 hk
structure anC (h:ae) (va vb:Value) (sa sb:Bool) (h3:ae):Prop where
 ex:EX h h3
 a0:af false 1 h3 (pt h.length 0)=some (B sa)
 a1:af false 1 h3 (pt h.length 1)=some va
 b0:af false 1 h3 (pt (h.length+1) 0)=some (B sb)
 b1:af false 1 h3 (pt (h.length+1) 1)=some vb
 a2:af true 2 h3 (pt h.length 0)=some (.agg #[B sa,va])
 b2:af true 2 h3 (pt (h.length+1) 0)=some (.agg #[B sb,vb])
 out:h3[h.length+2]?=some (.arr 105 [.bool false,.slice none 0 0])
theorem G0 {h:ae} {va vb:Value} {sa sb:Bool} {K:Value→Value→Value→ae→Prop} (hk:∀h3,anC h va vb sa sb h3→K (pt h.length 0) (pt (h.length+1) 0) (pt (h.length+2) 0) h3):
  OH (bC 105 h (.agg #[B sa,va])) fun a2 h_1=>OH (bC 105 h_1 (.agg #[B sb,vb])) fun b3 h_2=>OH (ba 105 [(.bool false),(.slice none 0 0)] h_2) fun x4 h_3=>K a2 b3 x4 h_3:=by
 have e1:∀(g:ae) (s:Bool) (v:Value),bC 105 g (.agg #[B s,v])=some (pt g.length 0,g++[.arr 105 [B s,v]]):=fun _ _ _=>rfl
 have e2:∀(g:ae),ba 105 [(.bool false),(.slice none 0 0)] g=some (pt g.length 0,g++[.arr 105 [(.bool false),(.slice none 0 0)]]):=fun _=>rfl
 simp only [e1,e2,aE,length_append,length_cons,length_nil]
 have g0:(h++[ak.arr 105 [B sa,va]]++[ak.arr 105 [B sb,vb]]++[ak.arr 105 [(.bool false),(.slice none 0 0)]])[h.length]?=some (.arr 105 [B sa,va]):=by simp
 have g1:(h++[ak.arr 105 [B sa,va]]++[ak.arr 105 [B sb,vb]]++[ak.arr 105 [(.bool false),(.slice none 0 0)]])[h.length+1]?=some (.arr 105 [B sb,vb]):=by simp
 have g2:(h++[ak.arr 105 [B sa,va]]++[ak.arr 105 [B sb,vb]]++[ak.arr 105 [(.bool false),(.slice none 0 0)]])[h.length+2]?=some (.arr 105 [(.bool false),(.slice none 0 0)]):=by simp
 refine hk _ ⟨((EX.append _ _).push _).push _,?_,?_,?_,?_,dC g0,dC g1,g2⟩
 ·simp [af,aR,cm]
 ·simp [af,aR,cm]
 ·simp [af,aR,cm]
 ·simp [af,aR,cm]
theorem De {n:Int} {h:ae} {K:Value→ae→Prop} (h1: -9223372036854775808≤n) (h2:n<9223372036854775808) (hk:∀r h',EX h h'→dQ h' r n→K r h'):aq prog 105 [I n] h K:=by
 refine f105 ?_
 have e2:ba 105 [(.bool false),(.slice none 0 0)] h=some (pt h.length 0,h++[.arr 105 [(.bool false),(.slice none 0 0)]]):=rfl
 simp only [Ni,e2,aE]
 have x1:EX h (h++[ak.arr 105 [(.bool false),(.slice none 0 0)]]):=EX.append _ _
 have g1:(h++[ak.arr 105 [(.bool false),(.slice none 0 0)]])[h.length]?=some (.arr 105 [(.bool false),(.slice none 0 0)]):=bZ
 generalize h++[ak.arr 105 [(.bool false),(.slice none 0 0)]]=hA at x1 g1⊢
 have go:∀u:Nat,u=n.natAbs→Kt prog K (I n) (pt h.length 0) (.int .u64 (u:Int)) hA:=by
  intro u hu
  rw [aAI]
  have ew:IntKind.wrap .u32 (u:Int)=((u%4294967296:Nat):Int):=by rw [yI];omega
  simp only [cN,ah,lj,A3,ew]
  rw [oK (n:=((u / 4294967296:Nat):Int)) (by omega) (by omega)]
  have mk:cZ 177 2 [.int .u32 0] hA [(0,1,.int .u32 ((u%4294967296:Nat):Int)),(1,1,.int .u32 ((u / 4294967296:Nat):Int))]=some (sl 177 hA.length 0 2,hd hA [u%4294967296,u / 4294967296]):=rfl
  simp only [mk,aE]
  have hl:cn 4294967296 [u%4294967296,u / 4294967296]:=by
   intro x hx
   simp at hx
   rcases hx with rfl | rfl <;> omega
  refine sG (zO hA [u%4294967296,u / 4294967296]) hl (by simp) ?_
  intro v hv
  have ca:val 4294967296 [u%4294967296,u / 4294967296]=n.natAbs:=by simp [val];omega
  rw [ca] at hv
  refine sF hv ?_
  intro h' x'
  have xx:=(kR hA [u%4294967296,u / 4294967296]).trans x'
  have g':=xx.get g1
  refine uE g' (hk _ _ ((x1.trans xx).set (le_refl _) _) ⟨v,?_,(hv.mono x').bS g' _⟩)
  have:(decide (n<0)&&decide (0<n.natAbs))=decide (n<0):=by
   by_cases hn:n<0
   ·simp [hn];omega
   ·simp [hn]
  rw [this]
 simp only [lj,ah,cN,cj]
 refine ⟨fun hn=>?_,fun hn=>?_⟩
 ·have e3:gZ .neg (.int .u64 (IntKind.wrap .u64 n))=some (.int .u64 ((n.natAbs:Nat):Int)):=by
   have e:∀m:Int,IntKind.wrap .u64 m=m%18446744073709551616:=fun m=>by simp [IntKind.wrap,IntKind.bits,IntKind.signed]
   simp only [gZ]
   rw [e,e]
   congr 2
   omega
  simp only [e3,ah]
  exact go _ rfl
 ·have:IntKind.wrap .u64 n=((n.natAbs:Nat):Int):=by rw [kV (by omega) (by omega)];omega
  rw [this]
  exact go _ rfl
theorem WL {va:Value} {a:Int} {h:ae} {K:Value→ae→Prop} (ha:dQ h va a) (hk:∀r h',EX h h'→dQ h' r (-a)→K r h'):aq prog 119 [va] h K:=by
 obtain ⟨v,rfl,hv⟩:=ha
 refine f119 ?_
 have e1:bC 105 h (.agg #[B (decide (a<0)),v])=some (pt h.length 0,h++[.arr 105 [B (decide (a<0)),v]]):=rfl
 simp only [Nv,e1,aE]
 have l0:af false 1 (h++[.arr 105 [B (decide (a<0)),v]]) (pt h.length 0)=some (B (decide (a<0))):=nL rfl
 have l1:af false 1 (h++[.arr 105 [B (decide (a<0)),v]]) (pt h.length 1)=some v:=nL rfl
 have x1:EX h (h++[.arr 105 [B (decide (a<0)),v]]):=EX.append _ _
 generalize h++[ak.arr 105 [B (decide (a<0)),v]]=h1 at l0 l1 x1⊢
 have e2:ba 105 [(.bool false),(.slice none 0 0)] h1=some (pt h1.length 0,h1++[.arr 105 [(.bool false),(.slice none 0 0)]]):=rfl
 have x2:EX h1 (h1++[ak.arr 105 [(.bool false),(.slice none 0 0)]]):=EX.append _ _
 have g1:(h1++[ak.arr 105 [(.bool false),(.slice none 0 0)]])[h1.length]?=some (.arr 105 [(.bool false),(.slice none 0 0)]):=bZ
 simp only [e2,aE]
 generalize h1++[ak.arr 105 [(.bool false),(.slice none 0 0)]]=h2 at x2 g1⊢
 simp only [b9,add_zero,zero_add,ah,EX.load x2 l0,EX.load x2 l1,oI]
 have pU:=hv.mono (x1.trans x2)
 refine sF pU ?_
 intro h' x'
 have g':=x'.get g1
 refine uE g' (hk _ _ (((x1.trans x2).trans x').set x1.1 _) ⟨v,?_,?_⟩)
 ·have:(!decide (a<0)&&decide (0<a.natAbs))=decide (-a<0):=by
   by_cases h0:a<0
   ·rw [aW h0,aT (show ¬-a<0 by omega)];rfl
   ·by_cases h3:a=0
    ·subst h3;rfl
    ·rw [aT h0,aW (show 0<a.natAbs by omega),aW (show -a<0 by omega)];rfl
  rw [this]
 ·have:(-a).natAbs=a.natAbs:=by omega
  rw [this]
  exact (pU.mono x').bS g' _
theorem Me {va vb:Value} {a b:Int} {h:ae} {K:Value→ae→Prop} (ha:dQ h va a) (hb:dQ h vb b) (la:a.natAbs<cw) (lb:b.natAbs<cw) (hk:∀r h',EX h h'→dQ h' r (a+b)→K r h'):aq prog 113 [va,vb] h K:=by
 obtain ⟨v,rfl,hv⟩:=ha
 obtain ⟨w,rfl,hw⟩:=hb
 refine f113 ?_
 unfold Nq
 refine G0 ?_
 intro h3 x
 have wF:=hv.mono x.ex
 have oC:=hw.mono x.ex
 simp only [b9,add_zero,zero_add,ah,x.a0,x.a1,x.b0,x.b1,D4,Bool.false_eq_true,if_false]
 refine uf (fun he=>?_) fun bm=>?_
 ·have hs:decide (a<0)=decide (b<0):=by simpa using he
  have dT:(a<0↔b<0):=by simpa using hs
  simp only [true_and]
  refine WR wF oC la lb ?_
  intro u h4 x4 hu
  refine ⟨⟨EX.load x4 x.a0,trivial⟩,?_⟩
  refine sF hu ?_
  intro h5 x5
  have g':=(x4.trans x5).get x.out
  refine uE g' (hk _ _ (((x.ex.trans x4).trans x5).set (by omega) _) ⟨u,?_,?_⟩)
  ·have:(decide (a<0)&&decide (0<a.natAbs+b.natAbs))=decide (a+b<0):=by
    by_cases h0:a<0
    ·rw [aW h0,aW (show 0<a.natAbs+b.natAbs by omega),aW (show a+b<0 by omega)];rfl
    ·rw [aT h0,aT (show ¬a+b<0 by omega)];rfl
   rw [this]
  ·have:(a+b).natAbs=a.natAbs+b.natAbs:=by omega
   rw [this]
   exact (hu.mono x5).bS g' _
 ·have hs:decide (a<0)≠decide (b<0):=by simpa using bm
  have dT:¬(a<0↔b<0):=fun h=>hs (decide_eq_decide.2 h)
  refine Gi wF oC la lb ?_
  simp only [nA,ah,cj]
  refine ⟨fun cL=>?_,fun aB=>?_⟩
  ·have hle:b.natAbs≤a.natAbs:=by
    apply byContradiction
    intro hc
    unfold nm at cL
    rw [if_pos (by omega)] at cL
    omega
   simp only [x.a0,x.a1,x.b1,ah,true_and]
   refine WT wF oC la hle ?_
   intro u h4 x4 hu
   refine ⟨⟨EX.load x4 x.a0,trivial⟩,?_⟩
   refine sF hu ?_
   intro h5 x5
   have g':=(x4.trans x5).get x.out
   refine uE g' (hk _ _ (((x.ex.trans x4).trans x5).set (by omega) _) ⟨u,?_,?_⟩)
   ·have:(decide (a<0)&&decide (0<a.natAbs-b.natAbs))=decide (a+b<0):=by
     by_cases h0:a<0
     ·by_cases h6:0<a.natAbs-b.natAbs
      ·rw [aW h0,aW h6,aW (show a+b<0 by omega)];rfl
      ·rw [aW h0,aT h6,aT (show ¬a+b<0 by omega)];rfl
     ·rw [aT h0,aT (show ¬a+b<0 by omega)];rfl
    rw [this]
   ·have:(a+b).natAbs=a.natAbs-b.natAbs:=by omega
    rw [this]
    exact (hu.mono x5).bS g' _
  ·have hle:a.natAbs≤b.natAbs:=by
    apply byContradiction
    intro hc
    unfold nm at aB
    rw [if_neg (by omega),if_pos (by omega)] at aB
    omega
   simp only [x.b0,x.a1,x.b1,ah,true_and]
   refine WT oC wF lb hle ?_
   intro u h4 x4 hu
   refine ⟨⟨EX.load x4 x.b0,trivial⟩,?_⟩
   refine sF hu ?_
   intro h5 x5
   have g':=(x4.trans x5).get x.out
   refine uE g' (hk _ _ (((x.ex.trans x4).trans x5).set (by omega) _) ⟨u,?_,?_⟩)
   ·have:(decide (b<0)&&decide (0<b.natAbs-a.natAbs))=decide (a+b<0):=by
     by_cases h0:b<0
     ·by_cases h6:0<b.natAbs-a.natAbs
      ·rw [aW h0,aW h6,aW (show a+b<0 by omega)];rfl
      ·rw [aW h0,aT h6,aT (show ¬a+b<0 by omega)];rfl
     ·rw [aT h0,aT (show ¬a+b<0 by omega)];rfl
    rw [this]
   ·have:(a+b).natAbs=b.natAbs-a.natAbs:=by omega
    rw [this]
    exact (hu.mono x5).bS g' _
theorem anL {va vb:Value} {a b:Int} {h:ae} {K:Value→ae→Prop} (ha:dQ h va a) (hb:dQ h vb b) (la:a.natAbs<cw) (lb:b.natAbs<cw) (hk:∀r h',EX h h'→dQ h' r (a-b)→K r h'):aq prog 127 [va,vb] h K:=by
 have oh:=ha
 have qC:=hb
 obtain ⟨v,rfl,hv⟩:=ha
 obtain ⟨w,rfl,hw⟩:=hb
 refine f127 ?_
 unfold NF
 refine G0 ?_
 intro h3 x
 simp only [ah,x.a2,x.b2,true_and]
 refine WL (qC.mono x.ex) ?_
 intro r1 h4 x4 i1
 refine ⟨⟨EX.load x4 x.a2,trivial⟩,?_⟩
 refine Me (oh.mono (x.ex.trans x4)) i1 la (by rw [Int.natAbs_neg];exact lb) ?_
 intro r2 h5 x5 i2
 have g':=(x4.trans x5).get x.out
 obtain ⟨u,rfl,hu⟩:=id i2
 refine uE g' (hk _ _ (((x.ex.trans x4).trans x5).set (by omega) _) ?_)
 rw [Int.sub_eq_add_neg]
 exact i2.bS g' _
theorem uc {va vb:Value} {a b:Int} {h:ae} {K:Value→ae→Prop} (ha:dQ h va a) (hb:dQ h vb b) (la:a.natAbs<cw) (lb:b.natAbs<cw) (hk:∀r h',EX h h'→dQ h' r (a*b)→K r h'):aq prog 107 [va,vb] h K:=by
 obtain ⟨v,rfl,hv⟩:=ha
 obtain ⟨w,rfl,hw⟩:=hb
 refine f107 ?_
 unfold Nk
 refine G0 ?_
 intro h3 x
 have wF:=hv.mono x.ex
 have oC:=hw.mono x.ex
 simp only [b9,add_zero,zero_add,ah,x.a0,x.a1,x.b0,x.b1,D4,if_true,true_and]
 refine WO wF oC la lb ?_
 intro u h4 x4 hu
 refine ⟨⟨EX.load x4 x.a0,EX.load x4 x.b0,trivial⟩,?_⟩
 refine sF hu ?_
 intro h5 x5
 have g':=(x4.trans x5).get x.out
 refine uE g' (hk _ _ (((x.ex.trans x4).trans x5).set (by omega) _) ⟨u,?_,?_⟩)
 ·have:((!(decide (a<0)==decide (b<0)))&&decide (0<a.natAbs*b.natAbs))=decide (a*b<0):=by
   rcases Int.lt_trichotomy a 0 with h1 | h1 | h1
   ·rcases Int.lt_trichotomy b 0 with h2 | h2 | h2
    ·have:=Int.mul_pos_of_neg_of_neg h1 h2
     rw [aW h1,aW h2,aT (show ¬a*b<0 by omega)];rfl
    ·subst h2;simp
    ·have:=Int.mul_neg_of_neg_of_pos h1 h2
     have h3:0<a.natAbs*b.natAbs:=Nat.mul_pos (by omega) (by omega)
     rw [aW h1,aT (show ¬b<0 by omega),aW h3,aW this];rfl
   ·subst h1;simp
   ·rcases Int.lt_trichotomy b 0 with h2 | h2 | h2
    ·have:=Int.mul_neg_of_pos_of_neg h1 h2
     have h3:0<a.natAbs*b.natAbs:=Nat.mul_pos (by omega) (by omega)
     rw [aT (show ¬a<0 by omega),aW h2,aW h3,aW this];rfl
    ·subst h2;simp
    ·have:=Int.mul_pos h1 h2
     rw [aT (show ¬a<0 by omega),aT (show ¬b<0 by omega),aT (show ¬a*b<0 by omega)];rfl
  rw [this]
 ·rw [Int.natAbs_mul]
  exact (hu.mono x5).bS g' _
end
section
theorem Lp {r:Nat} (hr:r<4294967296):ai .shl (.int .u64 (r:Int)) (.int .u64 32)=some (.int .u64 ((r*4294967296:Nat):Int)):=by
 simp only [ai,qT]
 rw [if_neg (by omega)]
 have:(min (32:Int).toNat IntKind.u64.bits)=32:=rfl
 rw [this]
 have e2:(2:Int)^32=4294967296:=by decide
 rw [e2,kV (by omega) (by omega)]
 congr 2
theorem Ko {r x:Nat} (hr:r<4294967296) (hx:x<4294967296):ai .or (.int .u64 ((r*4294967296:Nat):Int)) (.int .u64 (x:Int))=some (.int .u64 ((r*4294967296+x:Nat):Int)):=by
 have e:(BitVec.ofInt IntKind.u64.bits ((r*4294967296:Nat):Int) ||| BitVec.ofInt IntKind.u64.bits (x:Int)).toNat=r*4294967296+x:=by
  show (BitVec.ofInt 64 ((r*4294967296:Nat):Int) ||| BitVec.ofInt 64 (x:Int)).toNat=_
  rw [BitVec.ofInt_natCast,BitVec.ofInt_natCast,BitVec.toNat_or,BitVec.toNat_ofNat,BitVec.toNat_ofNat,Nat.mod_eq_of_lt (by omega),Nat.mod_eq_of_lt (by omega)]
  have:=Nat.two_pow_add_eq_or_of_lt (i:=32) (b:=x) (by omega) r
  rw [Nat.mul_comm r]
  exact this.symm
 simp only [ai,gY,if_true]
 rw [e,kV (by omega) (by omega)]
theorem amm {a b:Nat} (hb:b≠0) (ha:a<18446744073709551616):ai .quo (.int .u64 (a:Int)) (.int .u64 (b:Int))=some (.int .u64 ((a / b:Nat):Int)):=by
 have h:¬((b:Int)=0):=by omega
 have h2:a / b≤a:=Nat.div_le_self _ _
 simp only [ai,gY,if_true,if_neg h]
 have e:(a:Int).tdiv (b:Int)=((a / b:Nat):Int):=rfl
 rw [e]
 generalize a / b=q at*
 rw [kV (by omega) (by omega)]
theorem WK {va:Value} {a w:Nat} {h:ae} {K:Value→ae→Prop} (ha:dw h va a) (la:a<cw) (w0:0<w) (wW:w<4294967296) (hk:∀v h',EX h h'→dw h' v (a / w)→K (.tuple #[v,.int .u32 ((a%w:Nat):Int)]) h'):
  aq prog 114 [va,.int .u32 (w:Int)] h K:=by
 obtain ⟨xs,hx,cx,rfl⟩:=ha
 have l1:=qq cx la
 have hW:(0:Nat)<4294967296:=by decide
 refine f114 ?_
 have e1:IntKind.wrap .i64 ((xs.length:Int)-1)=(xs.length:Int)-1:=by rw [wrap64 (by omega) (by omega)]
 simp only [Nr,hx.len,ah,AJ (show xs.length≤1000 by omega),aE,gU,e1]
 refine dL (σ:=Nat×Nat×List Nat) (fun p=>[.int .u64 (p.1:Int),I ((p.2.1:Int)-1)]) (fun p=>hd h p.2.2)
  (fun p=>p.2.1≤xs.length∧p.1<w∧p.2.2.length=xs.length∧cn 4294967296 p.2.2∧val 4294967296 (xs.drop p.2.1)=w*val 4294967296 (p.2.2.drop p.2.1)+p.1) (fun p=>p.2.1)
  (0,xs.length,replicate xs.length 0) rfl rfl ⟨le_refl _,w0,by simp,cn.xr hW _,by simp [val]⟩ ?_
 rintro ⟨r,i,os⟩ ⟨hi,hr,gX,fC,ca⟩ L hL
 simp only at hi hr gX fC ca hL⊢
 rw [aAP]
 have bY:=hx.mono (kR h os)
 simp only [nA,ah,cj]
 refine ⟨fun cL=>?_,fun aB=>?_⟩
 ·obtain ⟨j,rfl⟩:∃j,i=j+1:=⟨i-1,by omega⟩
  have ej:(((j+1:Nat):Int)-1)=(j:Int):=by omega
  rw [ej]
  obtain ⟨ia,a1,a2⟩:=bY.get (j:=j) (by omega)
  have iz:xs[j]'(by omega)<4294967296:=cx.1 _ (getElem_mem _)
  have hdx:xs.drop j=xs[j]'(by omega)::xs.drop (j+1):=drop_eq_getElem_cons (by omega)
  generalize xs[j]'(by omega)=x at a2 iz hdx
  simp only [Lp (show r<4294967296 by omega),ah,a1,a2,lj]
  rw [kV (n:=(x:Int)) (by omega) (by omega)]
  simp only [Ko (show r<4294967296 by omega) iz,ah]
  rw [kV (n:=(w:Int)) (by omega) (by omega)]
  have ht:r*4294967296+x<w*4294967296:=by omega
  have hq:(r*4294967296+x) / w<4294967296:=(Nat.div_lt_iff_lt_mul w0).2 (by omega)
  have hm:=mod_lt (r*4294967296+x) w0
  have lV:=Nat.div_add_mod (r*4294967296+x) w
  rw [amm (by omega) (by omega),AY _ _ _ (by omega)]
  generalize (r*4294967296+x) / w=q at*
  generalize (r*4294967296+x)%w=m at*
  simp only [ah,lj]
  rw [oK (n:=(q:Int)) (by omega) (by omega),nz (show j<xs.length by omega)]
  simp only [ah]
  rw [wg _ (by omega)]
  simp only [aE,gU,ah,true_and]
  rw [wrap64 (n:=(j:Int)-1) (by omega) (by omega)]
  refine hL (m,j,os.set j q) ⟨by show j≤xs.length;omega,hm,by show (os.set _ _).length=_;rw [length_set];exact gX,fC.set hq _,?_⟩ (by show j<j+1;omega)
  show val 4294967296 (xs.drop j)=w*val 4294967296 ((os.set j q).drop j)+m
  have hdo:(os.set j q).drop j=q::os.drop (j+1):=by
   rw [drop_eq_getElem_cons (by rw [length_set];omega),List.getElem_set_self,List.drop_set_of_lt (by omega)]
  rw [hdx,hdo]
  simp only [val]
  rw [ca]
  generalize val 4294967296 (os.drop (j+1))=Q at*
  generalize (4294967296:Nat)=W at*
  clear hL hx bY a1 a2 ca
  grind
 ·have:i=0:=by omega
  subst this
  rw [drop_zero,drop_zero] at ca
  rw [aAO]
  have e:sl 177 h.length 0 xs.length=sl 177 h.length 0 os.length:=by rw [gX]
  rw [e]
  refine sG (zO h _) fC (by omega) ?_
  intro v' hm
  simp only [lj,ah]
  rw [oK (n:=(r:Int)) (by omega) (by omega)]
  have h1:val 4294967296 xs / w=val 4294967296 os:=by
   rw [ca,Nat.mul_add_div w0,Nat.div_eq_of_lt hr,add_zero]
  have h2:val 4294967296 xs%w=r:=by
   rw [ca,Nat.mul_add_mod,Nat.mod_eq_of_lt hr]
  have:=hk v' _ (kR h os) (by rw [h1];exact hm)
  rw [h2] at this
  exact this
theorem anH {h:ae} {id:Nat} {xs:List UInt8} {K:Value→ae→Prop} (bQ:h[id]?=some (.arr 5 (xs.map cv))) (hn:xs.length≤100000) (hk:K (.tuple #[]) (hb h id xs.reverse)):aq prog 115 [sl 5 id 0 xs.length] h K:=by
 have iQ:=(bL bQ).1
 have e0:h=hb h id xs:=by
  apply List.ext_getElem?
  intro j
  by_cases hj:id=j
  ·subst hj;rw [I2 iQ,bQ]
  ·rw [getElem?_set_ne hj]
 refine f115 ?_
 have e1:bc (sl 5 id 0 xs.length)=some (I xs.length):=rfl
 have e2:IntKind.wrap .i64 ((xs.length:Int)-1)=(xs.length:Int)-1:=by rw [wrap64 (by omega) (by omega)]
 simp only [Ns,e1,ah,gU,e2]
 refine dL (σ:=Nat×List UInt8) (fun p=>[I p.1,I ((xs.length:Int)-1-p.1)]) (fun p=>hb h id p.2) (fun p=>p.1≤xs.length∧p.2.length=xs.length∧∀k (hk:k<p.2.length) (tg:k<xs.length),p.2[k]=if k<p.1∨xs.length-p.1≤k then xs[xs.length-1-k]'(by omega) else xs[k]) (fun p=>xs.length-p.1)
  (0,xs) (by simp) e0.symm ⟨by simp,rfl,fun k h1 h2=>by simp;intro h3;omega⟩ ?_
 rintro ⟨i,ys⟩ ⟨hi,hl,hy⟩ L hL
 simp only at hi hl hy hL⊢
 rw [aAQ]
 simp only [cN,ah,cj]
 refine ⟨fun aB=>?_,fun cL=>?_⟩
 ·obtain ⟨j,hj⟩:∃j:Nat,(xs.length:Int)-1-i=j:=⟨xs.length-1-i,by omega⟩
  rw [hj]
  have wm:j=xs.length-1-i:=by omega
  have a1:=nz (id:=id) (e:=5) (n:=xs.length) (j:=j) (by omega)
  have a2:=nz (id:=id) (e:=5) (n:=xs.length) (j:=i) (by omega)
  have g1:ys[j]?=some (ys[j]'(by omega)):=List.getElem?_eq_getElem (by omega)
  have g2:ys[i]?=some (ys[i]'(by omega)):=List.getElem?_eq_getElem (by omega)
  simp only [a1,a2,ah,adU iQ g1,adU iQ g2,true_and]
  rw [adV iQ _ (by omega)]
  simp only [aE]
  rw [adV iQ _ (by rw [length_set];omega)]
  simp only [aE,cA,gU,ah,fk i (by omega)]
  have ej:IntKind.wrap .i64 ((j:Int)-1)=(xs.length:Int)-1-((i+1:Nat):Int):=by rw [wrap64 (by omega) (by omega)];omega
  rw [ej]
  refine hL (i+1,(ys.set i (ys[j]'(by omega))).set j (ys[i]'(by omega))) ⟨by show i+1≤xs.length;omega,by simp [hl],?_⟩ (by show xs.length-(i+1)<xs.length-i;omega)
  intro k nc tg
  show ((ys.set i (ys[j]'(by omega))).set j (ys[i]'(by omega)))[k]=if k<i+1∨xs.length-(i+1)≤k then xs[xs.length-1-k]'(by omega) else xs[k]
  have JE:=hy i (by omega) (by omega)
  have hyj:=hy j (by omega) (by omega)
  rw [if_neg (by omega)] at JE hyj
  by_cases rQ:j=k
  ·subst rQ
   rw [List.getElem_set_self,if_pos (by omega),JE]
   congr 1;omega
  ·rw [getElem_set_ne rQ]
   by_cases hki:i=k
   ·subst hki
    rw [List.getElem_set_self,if_pos (by omega),hyj]
    congr 1
   ·rw [getElem_set_ne hki,hy k (by omega) tg]
    by_cases hc:k<i∨xs.length-i≤k
    ·rw [if_pos hc,if_pos (by omega)]
    ·rw [if_neg hc,if_neg (by omega)]
 ·have:ys=xs.reverse:=by
   apply List.ext_getElem (by simp [hl])
   intro k h1 h2
   rw [hy k h1 (by omega),List.getElem_reverse]
   split
   ·rfl
   ·congr 1;omega
  rw [this]
  exact hk
def uB (n:Nat):List Nat:=if h:n=0 then [] else n%10::uB (n / 10)
termination_by n
decreasing_by omega
theorem Iu (n:Nat):di 10 (uB n)∧val 10 (uB n)=n:=by
 induction n using Nat.strongRecOn with
 | ind n ih=>
  rw [uB]
  by_cases h:n=0
  ·subst h;exact ⟨di.nil 10,rfl⟩
  ·rw [dif_neg h]
   obtain ⟨h1,h2⟩:=ih (n / 10) (by omega)
   refine ⟨⟨?_,?_⟩,?_⟩
   ·intro x hx
    rcases List.mem_cons.1 hx with rfl | hx
    ·omega
    ·exact h1.1 x hx
   ·cases hd:uB (n / 10) with
    | nil=>
     rw [hd] at h2
     simp [val] at h2
     simp
     omega
    | cons y ys=>
     rw [List.getLast?_cons_cons,←hd]
     exact h1.2
   ·simp only [val,h2];omega
def jc (d:Nat):UInt8:=UInt8.ofNat (48+d)
theorem vT {d:Nat} (h:d<10):(jc d).toNat=48+d:=by simp [jc,UInt8.toNat_ofNat'];omega
def dS (n:Nat):List UInt8:=if n=0 then [48] else ((uB n).map jc).reverse
def JS:Nat:=1000
theorem Ze:cw≤10^JS:=by decide+kernel
end
section
theorem DV {d:Nat} (h:d<10):(.int .u8 ((48+d:Nat):Int):Value)=cv (jc d):=by rw [cv,vT h]
theorem aAl (k:Nat):0<10^k:=pow_pos (by decide)
theorem afY {b n m:Nat} (hm:0<m) (h:10^b*m≤n) (hn:n<cw):b<1000:=by
 have h1:10^b≤10^b*m:=Nat.le_mul_of_pos_right _ hm
 show b<JS
 have h2:10^b<10^JS:=Nat.lt_of_le_of_lt (Nat.le_trans h1 h) (Nat.lt_of_lt_of_le hn Ze)
 exact (Nat.pow_lt_pow_iff_right (by decide)).1 h2
theorem arb {h0 hx:ae} {v z:Value} {x:UInt8} {bs:List UInt8} {K:Value→ae→Prop} (o:fU h0.length hx 5 v (bs.map cv)) (hex:EX h0 hx) (hl:bs.length≤100000)
  (hk:∀v' bY,EX h0 bY→fU h0.length bY 5 v' ((bs++[x]).map cv)→(∀q n,dw hx q n→dw bY q n)→K v' bY):
  OH (cZ 5 1 [z] hx [(0,1,cv x)]) fun a h2=>OH (dI 5 1 1 h2 v a) K:=by
 refine Dz o (by simp;omega) (by simp [maxLen];omega) rfl rfl ?_
 intro hA bY _ hlen Je jw
 simp only [aE]
 refine hk _ _ ⟨by have:=hex.1;omega,fun j hj=>?_⟩ (.inr ⟨hx.length+1,by have:=hex.1;omega,by simp,by simpa using jw⟩) ?_
 ·rw [Je j (by have:=hex.1;omega) fun n hv=>?_]
  ·exact hex.2 j hj
  ·have:=(o.lt hv).1;omega
 ·rintro q n ⟨xs,d,c,hv⟩
  refine ⟨xs,?_,c,hv⟩
  rcases d with d | ⟨i,h1,h2⟩
  ·exact .inl d
  ·refine .inr ⟨i,h1,?_⟩
   rcases h2 with h2 | ⟨r,h2⟩
   ·exact .inl h2
   ·cases xs with
    | nil=>exact .inl rfl
    | cons y ys=>
     right
     refine ⟨r,?_⟩
     have b6:i<hx.length:=by
      apply byContradiction
      intro hc
      unfold aR at h2
      rw [List.getElem?_eq_none (by omega)] at h2
      simp at h2
     unfold aR at h2⊢
     rw [Je i b6 fun n Ak=>?_]
     ·exact h2
     ·have hg:=(o.lt Ak).2.2
      rw [hg] at h2
      cases bs with
      | nil=>simp at h2
      | cons b bs=>simp [cv] at h2
theorem Gk {va:Value} {n:Nat} {h:ae} {K:Value→ae→Prop} (ha:dw h va n) (la:n<cw) (hk:∀h',EX h h'→K (S (dS n)) h'):aq prog 89 [va] h K:=by
 refine f89 ?_
 obtain ⟨l0,e0,e1⟩:=ha.so
 simp only [Ox,e0,ah,jo,cj]
 refine ⟨fun hz=>?_,fun hnz=>?_⟩
 ·have:n=0:=by omega
  subst this
  exact hk h (EX.refl h)
 ·have oz:0<n:=by omega
  refine dL (σ:=Value×Nat×Value×List Nat×ae) (fun p=>[p.1,p.2.2.1]) (fun p=>p.2.2.2.2)
   (fun p=>EX h p.2.2.2.2∧dw p.2.2.2.2 p.1 p.2.1∧fU h.length p.2.2.2.2 5 p.2.2.1 ((p.2.2.2.1.map jc).map cv)∧cn 10 p.2.2.2.1∧val 10 p.2.2.2.1+10^p.2.2.2.1.length*p.2.1=n∧(p.2.1=0→di 10 p.2.2.2.1)) (fun p=>p.2.1)
   (va,n,.slice none 0 0,[],h) rfl rfl ⟨EX.refl h,ha,.inl ⟨rfl,rfl⟩,fun x hx=>by simp at hx,by simp [val],fun h0=>by have h0:n=0:=h0;omega⟩ ?_
  rintro ⟨v,m,bv,b,hx⟩ ⟨hex,hm,ky,fC,ca,zK⟩ L hL
  simp only at hex hm ky fC ca zK hL⊢
  rw [aDo]
  obtain ⟨l,f0,f1⟩:=hm.so
  simp only [f0,ah,gj,cj]
  refine ⟨fun aB=>?_,fun cL=>?_⟩
  ·have qH:0<m:=by omega
   have Rj:m<cw:=by
    refine Nat.lt_of_le_of_lt ?_ la
    have:m≤10^b.length*m:=Nat.le_mul_of_pos_left _ (aAl _)
    omega
   have uJ:=afY (b:=b.length) qH (by omega) la
   refine WK hm Rj (w:=1000000000) (by decide) (by decide) ?_
   intro q h1 x1 hq
   simp only [eL,fx,fF,ah]
   have axu:fU h.length h1 5 bv ((b.map jc).map cv):=ky.dR fun d k hv hd=>by
    have:=(ky.lt hv).2.1
    exact x1.2 d this
   have axA:m / 1000000000<m:=Nat.div_lt_self qH (by decide)
   have lV:=Nat.div_add_mod m 1000000000
   have Cl:=mod_lt m (show 1000000000>0 by decide)
   generalize m / 1000000000=qn at*
   generalize m%1000000000=r0 at*
   have hqq:=hq
   refine dL (σ:=Value×List Nat×Nat×Nat×ae) (fun p=>[p.1,.int .u32 (p.2.2.1:Int),I p.2.2.2.1]) (fun p=>p.2.2.2.2)
    (fun p=>EX h p.2.2.2.2∧dw p.2.2.2.2 q qn∧fU h.length p.2.2.2.2 5 p.1 ((p.2.1.map jc).map cv)∧cn 10 p.2.1∧p.2.2.2.1≤9∧p.2.2.1<10^(9-p.2.2.2.1)∧p.2.1.length≤b.length+p.2.2.2.1∧val 10 p.2.1+10^p.2.1.length*(p.2.2.1+10^(9-p.2.2.2.1)*qn)=n∧(qn=0→p.2.2.1=0→di 10 p.2.1)) (fun p=>9-p.2.2.2.1)
    (bv,b,r0,0,h1) rfl rfl ⟨hex.trans x1,hq,axu,fC,by simp,by simpa using Cl,by simp,?_,?_⟩ ?_
   ·show val 10 b+10^b.length*(r0+10^(9-0)*qn)=n
    have:r0+10^(9-0)*qn=m:=by
     show r0+1000000000*qn=m
     omega
    rw [this];exact ca
   ·intro h1 h2
    have h1:qn=0:=h1
    have h2:r0=0:=h2
    subst h1;subst h2
    omega
   rintro ⟨Is,c,r,i,hy⟩ ⟨Q0,Jx,Rt,Jh,hi,hr,fO,EO,QQ⟩ L2 gV
   simp only at Q0 Jx Rt Jh hi hr fO EO QQ gV⊢
   rw [aDl]
   -- leaving
   have stop:r=0→(i=9∨qn=0)→KS prog K Is q L hy:=by
    intro qN rT
    rw [aDm]
    refine ⟨rfl,hL (q,qn,Is,c,hy) ⟨Q0,Jx,Rt,Jh,?_,fun h0=>QQ h0 qN⟩ axA⟩
    show val 10 c+10^c.length*qn=n
    rw [qN,zero_add] at EO
    rcases rT with h9 | h0
    ·subst h9;simpa using EO
    ·subst h0;simpa using EO
   simp only [cN,ah]
   by_cases hi9:i<9
   ·rw [aW (show (i:Int)<9 by omega)]
    simp only [amh,iY]
    obtain ⟨l2,g0,g1⟩:=Jx.so
    simp only [g0,ah,gj]
    -- one Iv more
    have step:(0<qn∨0<r)→aQ (B true)
      (OP (ai .rem (.int .u32 (r:Int)) (.int .u32 (10))) fun br=>
      OP (ai .add (.int .u32 (48)) br) fun bE=>
      OP (dm .u8 bE) fun de=>
      OH (cZ 5 1 [(.int .u8 (0))] hy [(0,1,de)]) fun dE h_1=>
      OH (dI 5 1 1 h_1 Is dE) fun eQ h_2=>
      OP (ai .quo (.int .u32 (r:Int)) (.int .u32 (10))) fun eI=>
      OP (ai .add (I i) (.int .i64 (1))) fun dD=>
      True∧L2 [eQ,eI,dD] h_2)
      (KS prog K Is q L hy):=by
     intro rT
     have hrW:r<4294967296:=Nat.lt_of_lt_of_le hr (Nat.le_trans (Nat.pow_le_pow_right (by decide) (show 9-i≤9 by omega)) (by decide))
     have ed:IntKind.wrap .u32 ((48:Int)+((r%10:Nat):Int))=((48+r%10:Nat):Int):=by rw [oK (by omega) (by omega)];omega
     have av3:ai .quo (.int .u32 (r:Int)) (.int .u32 10)=some (.int .u32 ((r / 10:Nat):Int)):=by
      have lT:¬((10:Int)=0):=by omega
      simp only [ai,gY,if_true,if_neg lT]
      have e:(r:Int).tdiv 10=((r / 10:Nat):Int):=rfl
      rw [e,oK (by omega) (by omega)]
     simp only [dM]
     rw [show (.int .u32 10:Value)=.int .u32 ((10:Nat):Int) from rfl,AY _ _ _ (by decide)]
     simp only [ah,cA,ed,lj]
     rw [anq (by omega) (by omega),DV (show r%10<10 by omega)]
     refine arb (x:=jc (r%10)) Rt Q0 (by simp;omega) ?_
     intro v' bY awZ EF Je
     rw [show (.int .u32 ((10:Nat):Int):Value)=.int .u32 10 from rfl,av3]
     simp only [ah,fk i (by omega),true_and]
     have gL:dw bY q qn:=Je q qn Jx
     refine gV (v',c++[r%10],r / 10,i+1,bY) ⟨awZ,gL,by simpa using EF,Jh.append (fun x hx=>by simp at hx;omega),by show i+1≤9;omega,?_,by show (c++[r%10]).length≤b.length+(i+1);simp;omega,?_,?_⟩ (by show 9-(i+1)<9-i;omega)
     ·show r / 10<10^(9-(i+1))
      rw [show 9-i=(9-(i+1))+1 by omega,pow_succ] at hr
      exact (Nat.div_lt_iff_lt_mul (by decide)).2 hr
     ·show val 10 (c++[r%10])+10^(c++[r%10]).length*(r / 10+10^(9-(i+1))*qn)=n
      rw [oJ,length_append,List.length_singleton,pow_succ]
      rw [show 9-i=(9-(i+1))+1 by omega,pow_succ] at EO
      have lV:=Nat.div_add_mod r 10
      simp only [val,mul_zero,add_zero]
      generalize r / 10=r1 at*
      generalize r%10=d at*
      generalize 10^c.length=P at*
      generalize 10^(9-(i+1))=Q at*
      generalize val 10 c=V at*
      clear hL gV hr QQ ca stop
      subst lV
      grind
     ·intro h1 h2
      have h2:r / 10=0:=h2
      refine Ik (Jh.append (fun x hx=>by simp at hx;omega)) ?_
      intro _
      have:0<r:=by rcases rT with h | h;omega;exact h
      simp
      omega
    by_cases Cj:0<qn
    ·rw [aW (show (0:Int)<(l2:Int) by omega)]
     simp only [Vg,fT,K6,dZ,ah,iY,K7]
     exact step (.inl Cj)
    ·rw [aT (show ¬(0:Int)<(l2:Int) by omega)]
     simp only [Vg,eJ,gj,ah]
     by_cases qN:0<r
     ·rw [aW (show (0:Int)<(r:Int) by omega)]
      simp only [K6,iY,c8,ah,K7,dZ]
      exact step (.inr qN)
     ·rw [aT (show ¬(0:Int)<(r:Int) by omega)]
      simp only [K6,iY,c8,ah,K7,dZ,dP]
      exact stop (by omega) (.inr (by omega))
   ·have:i=9:=by omega
    subst this
    rw [aT (show ¬((9:Nat):Int)<9 by omega)]
    simp only [amh,kZ,Vg,Mq,K6,K7,c8,ah,dP]
    exact stop (by simpa using hr) (.inl rfl)
  ·have qH:m=0:=by omega
   subst qH
   have hc:=zK rfl
   rw [mul_zero,add_zero] at ca
   have hb:b=uB n:=di.unique (by decide) hc (Iu n).1 (by rw [ca,(Iu n).2])
   have adY:b≠[]:=by rintro rfl;simp [val] at ca;omega
   have uJ:b.length≤2000:=by
    have h1:=di.low (by decide) hc adY
    have h2:=afY (b:=b.length-1) (m:=1) (n:=n) (by decide) (by omega) la
    omega
   rw [aDn]
   obtain ⟨id,iQ,hv,hg⟩:∃id,h.length≤id∧bv=sl 5 id 0 (b.map jc).length∧hx[id]?=some (.arr 5 ((b.map jc).map cv)):=by
    rcases ky with ⟨_,h0⟩ | ⟨id,h1,h2,h3⟩
    ·exact absurd (by simpa using h0) adY
    ·exact ⟨id,h1,by simpa using h2,h3⟩
   rw [hv]
   refine anH hg (by simp;omega) ?_
   have aw7:=(bL hg).1
   have b2:se (Go.Proofs.YtelmdbpaoifmoaaGreat.hb hx id (b.map jc).reverse) (sl 5 id 0 (b.map jc).length)=some (S (b.map jc).reverse):=by
    refine ze (b:=0) (e:=5) (l:=(b.map jc).reverse) (.inr ⟨id,Nat.zero_le _,by simp,?_⟩)
    rw [I2 aw7]
   simp only [b2,ah]
   have:(b.map jc).reverse=dS n:=by unfold dS;rw [if_neg (by omega),hb]
   rw [this]
   exact hk _ (hex.set iQ _)
end
section
variable (P : Program) (K : VK)
noncomputable section
variable (v0 : Value) (h : ae)
def ahC:=bK prog 20 [[],[]]
@[irreducible] def c20:=bR ahC
theorem k20:ahC=some (7,c20,[.cell true 4 2]):=by kernel_rfl
def NY:Prop:=
 OH (ba 37 [(.bool false),(.slice none 0 0),(.bool false),(.slice none 0 0)] h) fun x2 z1=>
 aq P 55 [v0] z1 fun x4 z2=>
 aq P 55 [(.int .i64 (1))] z2 fun x5 z3=>
 OP (dW [(.bool false),(.slice none 0 0),(.bool false),(.slice none 0 0)] [(0,2,x4),(2,2,x5)]) fun x6=>
 OH (aK 4 z3 x2 x6) fun _ z4=>
 OP (af true 4 z4 x2) fun r0=>
 K r0 z4
theorem e20:aj P c20 (aS [.cell true 4 2] K) (bG [v0]) h=NY P K v0 h:=by kernel_rfl
theorem f20 {K:VK} {v0:Value} {h:ae} (H:NY prog K v0 h):aq prog 20 [v0] h K:=
 bT k20 (bP rfl) ((e20 prog K v0 h).mpr H)
end
noncomputable section
variable (v0 x2 z3 d4 : Value) (L1 : LQ) (xs : List Value) (h : ae)
def ahK:=bK prog 55 [[],[],[2,3],[0],[],[],[],[],[0,2,3,4],[],[2,3],[]]
@[irreducible] def HG:=bR ahK
@[irreducible] def abk:=HG.r.r.l.l.l
@[irreducible] def abj:=HG.r.r.r
@[irreducible] def ati:=abk.r.l.r.r.l
@[irreducible] def atj:=abj.l
theorem k55:ahK=some (25,HG,[.cell true 2 2]):=by kernel_rfl
def MO (_P:Program) (K:VK):ar:=aS [.cell true 2 2] K
def apQ:ar:=aF (aj P abj (MO P K)) (MO P K)
def apR:ar:=bI 0 (apQ P K)
def X2:ar:=aF (fun f' aU=>(([2,3]:List Nat).map f':List Value)=[x2,z3]∧L1 (([0]:List Nat).map f') aU) (apR P K)
def apS:ar:=bI 1 (X2 P K x2 z3 L1)
def ajW:Prop:=ax (aj P abk (X2 P K x2 z3 L1)) ([2,3]++[0]) ([x2,z3]++xs) h
def KL:Prop:=ax (aj P ati (apS P K x2 z3 L1)) [0,2,3,4] [v0,x2,z3,d4] h
def ajV:Prop:=ax (aj P atj (MO P K)) [2,3] [x2,z3] h
theorem aCl:KL P K v0 x2 z3 d4 L1 h=
 (OP (aJ 1 z3) fun bM=>
 OP (af false 1 h bM) fun bU=>
 OH (cZ 3 1 [(.int .i64 (0))] h [(0,1,d4)]) fun aP h_1=>
 OH (dI 3 1 8 h_1 bU aP) fun aZ h_2=>
 OP (aJ 1 z3) fun bf=>
 OH (aK 1 h_2 bf aZ) fun _ h_3=>
 OP (ai .quo v0 (.int .i64 (10000))) fun cX=>
 ([x2,z3]:List Value)=[x2,z3]∧L1 [cX] h_3):=az (by kernel_rfl)
theorem aCn (x2 z3:Value) (L1:LQ) (v0:Value) (h:ae):ajW P K x2 z3 L1 [v0] h=
 (OP (ai .neq v0 (.int .i64 (0))) fun x9=>
 aQ x9
 (OP (ai .rem v0 (.int .i64 (10000))) fun au=>
 OP (ai .lss au (.int .i64 (0))) fun aD=>
 aQ aD
 (OP (gZ .neg au) fun bj=>
 KL P K v0 x2 z3 bj L1 h)
 (KL P K v0 x2 z3 au L1 h))
 (ajV P K x2 z3 h)):=az (by kernel_rfl)
theorem aCm:ajV P K x2 z3 h=
 (OP (af true 2 h z3) fun bD=>
 OH (aK 2 h x2 bD) fun _ h_1=>
 OP (af true 2 h_1 x2) fun r0=>
 K r0 h_1):=az (by kernel_rfl)
def N5:Prop:=
 OH (ba 35 [(.bool false),(.slice none 0 0)] h) fun x2 h_1=>
 OP (ai .lss v0 (.int .i64 (0))) fun x6=>
 OP (dW [(.bool false),(.slice none 0 0)] [(0,1,x6)]) fun x7=>
 OH (ba 35 [(.bool false),(.slice none 0 0)] h_1) fun z3 h_2=>
 OH (aK 2 h_2 z3 x7) fun _ h_3=>
 cJ [v0] h_3 fun L1 xs hx=>
 ajW P K x2 z3 L1 xs hx
theorem e55:aj P HG (aS [.cell true 2 2] K) (bG [v0]) h=N5 P K v0 h:=by kernel_rfl
theorem f55 {K:VK} {v0:Value} {h:ae} (H:N5 prog K v0 h):aq prog 55 [v0] h K:=
 bT k55 (bP rfl) ((e55 prog K v0 h).mpr H)
end
noncomputable section
variable (a0 b1 : Value) (h : ae)
def ahV:=bK prog 70 [[],[],[],[],[],[],[],[]]
@[irreducible] def c70:=bR ahV
theorem k70:ahV=some (43,c70,[.cell true 2 4]):=by kernel_rfl
def Of:Prop:=
 OH (bC 35 h a0) fun a2 z1=>
 OH (bC 35 z1 b1) fun b3 z2=>
 OH (ba 35 [(.bool false),(.slice none 0 0)] z2) fun x4 z3=>
 OP (aJ 0 a2) fun x5=>
 OP (af false 1 z3 x5) fun x6=>
 OP (aJ 0 b3) fun x7=>
 OP (af false 1 z3 x7) fun x8=>
 OP (uR false x6 x8) fun x9=>
 aQ x9
 (OP (aJ 0 a2) fun aM=>
 OP (af false 1 z3 aM) fun au=>
 (True)∧
 OP (aJ 1 a2) fun aA=>
 OP (af false 1 z3 aA) fun aD=>
 (True)∧
 OP (aJ 1 b3) fun aL=>
 OP (af false 1 z3 aL) fun bj=>
 (True)∧
 aq P 104 [aD,bj] z3 fun bM z4=>
 (af false 1 z4 aM=some au∧True)∧
 OP (dW [(.bool false),(.slice none 0 0)] [(0,1,au),(1,1,bM)]) fun bU=>
 aq P 100 [bU] z4 fun aO z5=>
 (True)∧
 OH (aK 2 z5 x4 aO) fun _ z6=>
 (True)∧
 OP (af true 2 z6 x4) fun r0=>
 K r0 z6)
 (OP (aJ 1 a2) fun aP=>
 OP (af false 1 z3 aP) fun aZ=>
 OP (aJ 1 b3) fun bf=>
 OP (af false 1 z3 bf) fun bH=>
 aq P 101 [aZ,bH] z3 fun cX z4=>
 OP (ai .geq cX (.int .i64 (0))) fun bD=>
 aQ bD
 (OP (aJ 0 a2) fun bV=>
 OP (af false 1 z4 bV) fun cF=>
 (True)∧
 OP (aJ 1 a2) fun bn=>
 OP (af false 1 z4 bn) fun bz=>
 (True)∧
 OP (aJ 1 b3) fun bN=>
 OP (af false 1 z4 bN) fun dD=>
 (True)∧
 aq P 103 [bz,dD] z4 fun cG z5=>
 (af false 1 z5 bV=some cF∧True)∧
 OP (dW [(.bool false),(.slice none 0 0)] [(0,1,cF),(1,1,cG)]) fun bk=>
 aq P 100 [bk] z5 fun br z6=>
 (True)∧
 OH (aK 2 z6 x4 br) fun _ z7=>
 (True)∧
 OP (af true 2 z7 x4) fun r0=>
 K r0 z7)
 (OP (aJ 0 b3) fun bE=>
 OP (af false 1 z4 bE) fun de=>
 (True)∧
 OP (aJ 1 b3) fun dE=>
 OP (af false 1 z4 dE) fun eQ=>
 (True)∧
 OP (aJ 1 a2) fun dF=>
 OP (af false 1 z4 dF) fun eI=>
 (True)∧
 aq P 103 [eQ,eI] z4 fun ee z5=>
 (af false 1 z5 bE=some de∧True)∧
 OP (dW [(.bool false),(.slice none 0 0)] [(0,1,de),(1,1,ee)]) fun dG=>
 aq P 100 [dG] z5 fun ef z6=>
 (True)∧
 OH (aK 2 z6 x4 ef) fun _ z7=>
 (True)∧
 OP (af true 2 z7 x4) fun r0=>
 K r0 z7))
theorem e70:aj P c70 (aS [.cell true 2 4] K) (bG [a0,b1]) h=Of P K a0 b1 h:=by kernel_rfl
theorem f70 {K:VK} {a0 b1:Value} {h:ae} (H:Of prog K a0 b1 h):aq prog 70 [a0,b1] h K:=
 bT k70 (bP rfl) ((e70 prog K a0 b1 h).mpr H)
end
noncomputable section
variable (a0 b1 a2 b3 x4 x5 i6 x7 k8 s9 cG br : Value) (L1 L2 : LQ) (xs : List Value) (h : ae)
def ahW:=bK prog 71 [[],[],[],[2,3,4,5],[6],[],[],[],[],[2,3,4,5,6],[7,8],[2,3,4,5,6,7,8,31],[2,3,4,5,6,7,8,31,33],[],[],[],[],[2,3,4,5,6,8,9],[2,3,4,5,6,7,8],[2,3,4,5,6],[2,3,4,5],[]]
@[irreducible] def HU:=bR ahW
@[irreducible] def Py:=HU.r.r.l.r.l.l
@[irreducible] def abX:=HU.r.r.r
@[irreducible] def HV:=Py.r.l.l.r.r.l.l
@[irreducible] def abY:=Py.r.r
@[irreducible] def atX:=abX.l
@[irreducible] def abV:=HV.l.l.r.l
@[irreducible] def atS:=HV.l.r
@[irreducible] def Px:=HV.r
@[irreducible] def atW:=abY.l
@[irreducible] def atT:=abV.r.l
@[irreducible] def atU:=Px.l.l.r.r.l
@[irreducible] def abW:=Px.r
@[irreducible] def atV:=abW.l
theorem k71:ahW=some (80,HU,[.cell true 2 4]):=by kernel_rfl
def MV (_P:Program) (K:VK):ar:=aS [.cell true 2 4] K
def aqs:ar:=aF (aj P abX (MV P K)) (MV P K)
def aqt:ar:=bI 0 (aqs P K)
def GJ:ar:=aF (fun f' aU=>(([2,3,4,5]:List Nat).map f':List Value)=[a2,b3,x4,x5]∧L1 (([6]:List Nat).map f') aU) (aqt P K)
def aqu:ar:=aF (aj P abY (GJ P K a2 b3 x4 x5 L1)) (GJ P K a2 b3 x4 x5 L1)
def aqo:ar:=bI 1 (aqu P K a2 b3 x4 x5 L1)
def aqp:ar:=bI 2 (aqo P K a2 b3 x4 x5 L1)
def Bt:ar:=aF (fun f' aU=>(([2,3,4,5,6]:List Nat).map f':List Value)=[a2,b3,x4,x5,i6]∧L2 (([7,8]:List Nat).map f') aU) (aqp P K a2 b3 x4 x5 L1)
def Yi:ar:=aF (aj P Px (Bt P K a2 b3 x4 x5 i6 L1 L2)) (Bt P K a2 b3 x4 x5 i6 L1 L2)
def Yj:ar:=aF (aj P atS (Yi P K a2 b3 x4 x5 i6 L1 L2)) (Yi P K a2 b3 x4 x5 i6 L1 L2)
def aqq:ar:=aF (aj P abW (Bt P K a2 b3 x4 x5 i6 L1 L2)) (Bt P K a2 b3 x4 x5 i6 L1 L2)
def aqr:ar:=bI 3 (aqq P K a2 b3 x4 x5 i6 L1 L2)
def akx:Prop:=ax (aj P Py (GJ P K a2 b3 x4 x5 L1)) ([2,3,4,5]++[6]) ([a2,b3,x4,x5]++xs) h
def akt:Prop:=ax (aj P HV (Bt P K a2 b3 x4 x5 i6 L1 L2)) ([2,3,4,5,6]++[7,8]) ([a2,b3,x4,x5,i6]++xs) h
def aku:Prop:=ax (aj P abV (Yj P K a2 b3 x4 x5 i6 L1 L2)) [2,3,4,5,6,7,8,31] [a2,b3,x4,x5,i6,x7,k8,cG] h
def Uy:Prop:=ax (aj P atT (Yj P K a2 b3 x4 x5 i6 L1 L2)) [2,3,4,5,6,7,8,31,33] [a2,b3,x4,x5,i6,x7,k8,cG,br] h
def yz:Prop:=ax (aj P atU (aqr P K a2 b3 x4 x5 i6 L1 L2)) [2,3,4,5,6,8,9] [a2,b3,x4,x5,i6,k8,s9] h
def akv:Prop:=ax (aj P atV (Bt P K a2 b3 x4 x5 i6 L1 L2)) [2,3,4,5,6,7,8] [a2,b3,x4,x5,i6,x7,k8] h
def Uz:Prop:=ax (aj P atW (GJ P K a2 b3 x4 x5 L1)) [2,3,4,5,6] [a2,b3,x4,x5,i6] h
def akw:Prop:=ax (aj P atX (MV P K)) [2,3,4,5] [a2,b3,x4,x5] h
theorem ama:Uy P K a2 b3 x4 x5 i6 x7 k8 cG br L1 L2 h=
 (OP (ck cG (.bool true) br) fun bE=>
 aQ bE
 (OP (ai .add i6 k8) fun ee=>
 OP (aY 1 x5 ee) fun dG=>
 OP (af false 1 h dG) fun ef=>
 OP (ai .add ef x7) fun bp=>
 OP (aJ 1 b3) fun dU=>
 OP (af false 1 h dU) fun mP=>
 OP (bc mP) fun fz=>
 OP (ai .lss k8 fz) fun fQ=>
 aQ fQ
 (OP (aJ 1 a2) fun cd=>
 OP (af false 1 h cd) fun cV=>
 (True)∧
 OP (aY 1 cV i6) fun cM=>
 OP (af false 1 h cM) fun eR=>
 (True)∧
 OP (aJ 1 b3) fun gR=>
 OP (af false 1 h gR) fun cQ=>
 (True)∧
 OP (aY 1 cQ k8) fun dO=>
 OP (af false 1 h dO) fun jT=>
 (True)∧
 OP (ai .mul eR jT) fun gf=>
 OP (ai .add bp gf) fun kW=>
 yz P K a2 b3 x4 x5 i6 k8 kW L1 L2 h)
 (yz P K a2 b3 x4 x5 i6 k8 bp L1 L2 h))
 (Uz P K a2 b3 x4 x5 i6 L1 h)):=az (by kernel_rfl)
theorem al9:aku P K a2 b3 x4 x5 i6 x7 k8 cG L1 L2 h=
 (cE cG false
 (OP (ai .gtr x7 (.int .i64 (0))) fun br=>
 Uy P K a2 b3 x4 x5 i6 x7 k8 cG br L1 L2 h)
 (Uy P K a2 b3 x4 x5 i6 x7 k8 cG undef L1 L2 h)):=az (by kernel_rfl)
theorem aCS:yz P K a2 b3 x4 x5 i6 k8 s9 L1 L2 h=
 (OP (ai .add i6 k8) fun kX=>
 OP (ai .rem s9 (.int .i64 (10000))) fun gS=>
 OP (ai .quo s9 (.int .i64 (10000))) fun jI=>
 OP (aY 1 x5 kX) fun gw=>
 OH (aK 1 h gw gS) fun _ z1=>
 akv P K a2 b3 x4 x5 i6 jI k8 L1 L2 z1):=az (by kernel_rfl)
theorem aCT:akv P K a2 b3 x4 x5 i6 x7 k8 L1 L2 h=
 (OP (ai .add k8 (.int .i64 (1))) fun dE=>
 ([a2,b3,x4,x5,i6]:List Value)=[a2,b3,x4,x5,i6]∧L2 [x7,dE] h):=az (by kernel_rfl)
theorem aCR (a2 b3 x4 x5 i6:Value) (L1 L2:LQ) (x7 k8:Value) (h:ae):akt P K a2 b3 x4 x5 i6 L1 L2 [x7,k8] h=
 (OP (aJ 1 b3) fun bn=>
 OP (af false 1 h bn) fun bz=>
 OP (bc bz) fun bN=>
 OP (ai .lss k8 bN) fun dD=>
 aku P K a2 b3 x4 x5 i6 x7 k8 dD L1 L2 h):=az (by kernel_rfl)
theorem aCU:Uz P K a2 b3 x4 x5 i6 L1 h=
 (OP (ai .add i6 (.int .i64 (1))) fun bV=>
 ([a2,b3,x4,x5]:List Value)=[a2,b3,x4,x5]∧L1 [bV] h):=az (by kernel_rfl)
theorem aCW (a2 b3 x4 x5:Value) (L1:LQ) (i6:Value) (h:ae):akx P K a2 b3 x4 x5 L1 [i6] h=
 (OP (aJ 1 a2) fun aZ=>
 OP (af false 1 h aZ) fun bf=>
 OP (bc bf) fun bH=>
 OP (ai .lss i6 bH) fun cX=>
 aQ cX
 (cJ [(.int .i64 (0)),(.int .i64 (0))] h fun L2 xs hx=>
 akt P K a2 b3 x4 x5 i6 L1 L2 xs hx)
 (akw P K a2 b3 x4 x5 h)):=az (by kernel_rfl)
theorem aCV:akw P K a2 b3 x4 x5 h=
 (OP (aJ 0 a2) fun rr=>
 OP (af false 1 h rr) fun tZ=>
 OP (aJ 0 b3) fun kK=>
 OP (af false 1 h kK) fun mQ=>
 OP (uR true tZ mQ) fun jV=>
 OP (dW [(.bool false),(.slice none 0 0)] [(0,1,jV),(1,1,x5)]) fun fB=>
 aq P 100 [fB] h fun ub z1=>
 OH (aK 2 z1 x4 ub) fun _ z2=>
 OP (af true 2 z2 x4) fun r0=>
 K r0 z2):=az (by kernel_rfl)
def Og:Prop:=
 OH (bC 35 h a0) fun a2 z1=>
 OH (bC 35 z1 b1) fun b3 z2=>
 OH (ba 35 [(.bool false),(.slice none 0 0)] z2) fun x4 z3=>
 OP (aJ 1 a2) fun aM=>
 OP (af false 1 z3 aM) fun au=>
 OP (bc au) fun aA=>
 OP (aJ 1 b3) fun aD=>
 OP (af false 1 z3 aD) fun aL=>
 OP (bc aL) fun bj=>
 OP (ai .add aA bj) fun bM=>
 OP (ai .add bM (.int .i64 (1))) fun bU=>
 OH (lE 3 8 [(.int .i64 (0))] z3 bU bU) fun aO z4=>
 cJ [(.int .i64 (0))] z4 fun L1 xs hx=>
 akx P K a2 b3 x4 aO L1 xs hx
theorem e71:aj P HU (aS [.cell true 2 4] K) (bG [a0,b1]) h=Og P K a0 b1 h:=by kernel_rfl
theorem f71 {K:VK} {a0 b1:Value} {h:ae} (H:Og prog K a0 b1 h):aq prog 71 [a0,b1] h K:=
 bT k71 (bP rfl) ((e71 prog K a0 b1 h).mpr H)
end
noncomputable section
variable (a0 b1 : Value) (h : ae)
def aid:=bK prog 92 [[],[]]
@[irreducible] def c92:=bR aid
theorem k92:aid=some (9,c92,[.cell true 2 4]):=by kernel_rfl
def Oy:Prop:=
 OH (bC 35 h a0) fun a2 z1=>
 OH (bC 35 z1 b1) fun b3 z2=>
 OH (ba 35 [(.bool false),(.slice none 0 0)] z2) fun x4 z3=>
 OP (af true 2 z3 a2) fun x5=>
 (True)∧
 OP (af true 2 z3 b3) fun x6=>
 (True)∧
 aq P 95 [x6] z3 fun x7 z4=>
 (af true 2 z4 a2=some x5∧True)∧
 aq P 70 [x5,x7] z4 fun x8 z5=>
 (True)∧
 OH (aK 2 z5 x4 x8) fun _ z6=>
 (True)∧
 OP (af true 2 z6 x4) fun r0=>
 K r0 z6
theorem e92:aj P c92 (aS [.cell true 2 4] K) (bG [a0,b1]) h=Oy P K a0 b1 h:=by kernel_rfl
theorem f92 {K:VK} {a0 b1:Value} {h:ae} (H:Oy prog K a0 b1 h):aq prog 92 [a0,b1] h K:=
 bT k92 (bP rfl) ((e92 prog K a0 b1 h).mpr H)
end
noncomputable section
variable (z0 z1 s3 i4 : Value) (L1 : LQ) (xs : List Value) (h : ae)
def aie:=bK prog 93 [[],[],[],[],[],[],[1],[3,4],[],[],[],[],[],[3],[],[3],[],[],[3],[]]
@[irreducible] def Ib:=bR aie
@[irreducible] def auy:=Ib.r.r.r.l.r.l.l
@[irreducible] def acu:=Ib.r.r.r.r
@[irreducible] def PE:=acu.l
@[irreducible] def auv:=PE.l.l.l
@[irreducible] def acs:=PE.r
@[irreducible] def auw:=acs.l
theorem k93:aie=some (53,Ib,[.tmp 2]):=by kernel_rfl
def Bv (_P:Program) (K:VK):ar:=aS [.tmp 2] K
def aqW:ar:=aF (aj P acu (Bv P K)) (Bv P K)
def aqX:ar:=bI 0 (aqW P K)
def aqY:ar:=aF (fun f' aU=>(([1]:List Nat).map f':List Value)=[z1]∧L1 (([3,4]:List Nat).map f') aU) (aqX P K)
def aqT:ar:=aF (aj P acs (Bv P K)) (Bv P K)
def aqU:ar:=bI 2 (aqT P K)
def aqV:ar:=aF (fun f' aU=>(([]:List Nat).map f':List Value)=[]∧L1 (([3]:List Nat).map f') aU) (aqU P K)
def ak2:Prop:=ax (aj P auy (aqY P K z1 L1)) ([1]++[3,4]) ([z1]++xs) h
def akZ:Prop:=ax (aj P PE (Bv P K)) [3] [s3] h
def ak0:Prop:=ax (aj P auv (aqV P K L1)) ([]++[3]) ([]++xs) h
def ak1:Prop:=ax (aj P auw (Bv P K)) [3] [s3] h
theorem aDs (z1:Value) (L1:LQ) (s3 i4:Value) (h:ae):ak2 P K z1 L1 [s3,i4] h=
 (OP (ai .geq i4 (.int .i64 (0))) fun bM=>
 aQ bM
 (OP (aJ 1 z1) fun aP=>
 OP (af false 1 h aP) fun aZ=>
 OP (aY 1 aZ i4) fun bH=>
 OP (af false 1 h bH) fun cX=>
 OP (ai .quo cX (.int .i64 (1000))) fun bV=>
 OP (ai .add (.int .i64 (48)) bV) fun cF=>
 OP (dm .u8 cF) fun bn=>
 OP (ai .quo cX (.int .i64 (100))) fun bN=>
 OP (ai .rem bN (.int .i64 (10))) fun dD=>
 OP (ai .add (.int .i64 (48)) dD) fun cG=>
 OP (dm .u8 cG) fun bk=>
 OP (ai .quo cX (.int .i64 (10))) fun bE=>
 OP (ai .rem bE (.int .i64 (10))) fun de=>
 OP (ai .add (.int .i64 (48)) de) fun dE=>
 OP (dm .u8 dE) fun eQ=>
 OP (ai .rem cX (.int .i64 (10))) fun eI=>
 OP (ai .add (.int .i64 (48)) eI) fun ee=>
 OP (dm .u8 ee) fun dG=>
 OH (cZ 5 4 [(.int .u8 (0))] h [(0,1,bn),(1,1,bk),(2,1,eQ),(3,1,dG)]) fun ef h_1=>
 OP (se h_1 ef) fun bO=>
 OP (ai .add s3 bO) fun dU=>
 OP (ai .sub i4 (.int .i64 (1))) fun aO=>
 ([z1]:List Value)=[z1]∧L1 [dU,aO] h_1)
 (akZ P K s3 h)):=az (by kernel_rfl)
theorem aDq (L1:LQ) (s3:Value) (h:ae):ak0 P K L1 [s3] h=
 (OP (nh s3 (.int .i64 (0))) fun fz=>
 OP (ai .eql fz (.int .u8 (48))) fun fQ=>
 aQ fQ
 (OP (nJ s3 (some (.int .i64 (1))) none) fun cd=>
 ([]:List Value)=[]∧L1 [cd] h)
 (ak1 P K s3 h)):=az (by kernel_rfl)
theorem aDr:ak1 P K s3 h=
 (K s3 h):=az (by kernel_rfl)
theorem aDp:akZ P K s3 h=
 (cJ [s3] h fun L1 xs hx=>
 ak0 P K L1 xs hx):=az (by kernel_rfl)
def Oz:Prop:=
 OH (bC 35 h z0) fun z1 h_1=>
 OP (aJ 1 z1) fun x7=>
 OP (af false 1 h_1 x7) fun x8=>
 OP (bc x8) fun x9=>
 OP (ai .eql x9 (.int .i64 (0))) fun aM=>
 aQ aM
 (K (.string ⟨#[48]⟩) h_1)
 (OP (aJ 1 z1) fun au=>
 OP (af false 1 h_1 au) fun aA=>
 OP (bc aA) fun aD=>
 OP (ai .sub aD (.int .i64 (1))) fun aL=>
 cJ [(.string ⟨#[]⟩),aL] h_1 fun L1 xs hx=>
 ak2 P K z1 L1 xs hx)
theorem e93:aj P Ib (aS [.tmp 2] K) (bG [z0]) h=Oz P K z0 h:=by kernel_rfl
theorem f93 {K:VK} {z0:Value} {h:ae} (H:Oz prog K z0 h):aq prog 93 [z0] h K:=
 bT k93 (bP rfl) ((e93 prog K z0 h).mpr H)
end
noncomputable section
variable (a0 : Value) (h : ae)
def aif:=bK prog 94 [[],[],[]]
@[irreducible] def c94:=bR aif
theorem k94:aif=some (5,c94,[.cell true 2 2]):=by kernel_rfl
def OA (_:Program) (K:VK) (a0:Value) (h:ae):Prop:=
 OH (bC 35 h a0) fun a1 z1=>
 OH (ba 35 [(.bool false),(.slice none 0 0)] z1) fun x2 z2=>
 OP (aJ 0 a1) fun x3=>
 OH (aK 1 z2 x3 (.bool false)) fun _ z3=>
 OP (af true 2 z3 a1) fun x4=>
 OH (aK 2 z3 x2 x4) fun _ z4=>
 OP (af true 2 z4 x2) fun r0=>
 K r0 z4
theorem e94:aj P c94 (aS [.cell true 2 2] K) (bG [a0]) h=OA P K a0 h:=by kernel_rfl
theorem f94 {K:VK} {a0:Value} {h:ae} (H:OA prog K a0 h):aq prog 94 [a0] h K:=
 bT k94 (bP rfl) ((e94 prog K a0 h).mpr H)
end
noncomputable section
variable (a0 a1 x2 x6 aM : Value) (h : ae)
def aih:=bK prog 95 [[],[1,2,6],[1,2,6,10],[],[]]
@[irreducible] def Ic:=bR aih
@[irreducible] def acw:=Ic.r.l.r.l
@[irreducible] def auz:=Ic.r.r
@[irreducible] def auA:=acw.r.l
theorem k95:aih=some (14,Ic,[.cell true 2 2]):=by kernel_rfl
def YG (_P:Program) (K:VK):ar:=aS [.cell true 2 2] K
def YH:ar:=aF (aj P auz (YG P K)) (YG P K)
def ak3:Prop:=ax (aj P acw (YH P K)) [1,2,6] [a1,x2,x6] h
def UK:Prop:=ax (aj P auA (YH P K)) [1,2,6,10] [a1,x2,x6,aM] h
theorem amj:UK P K a1 x2 x6 aM h=
 (OP (ck x6 aM (.bool false)) fun au=>
 OP (aJ 0 a1) fun aA=>
 OH (aK 1 h aA au) fun _ z1=>
 OP (af true 2 z1 a1) fun aD=>
 OH (aK 2 z1 x2 aD) fun _ z2=>
 OP (af true 2 z2 x2) fun r0=>
 K r0 z2):=az (by kernel_rfl)
theorem ami:ak3 P K a1 x2 x6 h=
 (cE x6 true
 (OP (aJ 1 a1) fun x7=>
 OP (af false 1 h x7) fun x8=>
 OP (bc x8) fun x9=>
 OP (ai .gtr x9 (.int .i64 (0))) fun aM=>
 UK P K a1 x2 x6 aM h)
 (UK P K a1 x2 x6 undef h)):=az (by kernel_rfl)
def OB:Prop:=
 OH (bC 35 h a0) fun a1 z1=>
 OH (ba 35 [(.bool false),(.slice none 0 0)] z1) fun x2 z2=>
 OP (aJ 0 a1) fun x3=>
 OP (af false 1 z2 x3) fun x4=>
 OP (gZ .not x4) fun x5=>
 ak3 P K a1 x2 x5 z2
theorem e95:aj P Ic (aS [.cell true 2 2] K) (bG [a0]) h=OB P K a0 h:=by kernel_rfl
theorem f95 {K:VK} {a0:Value} {h:ae} (H:OB prog K a0 h):aq prog 95 [a0] h K:=
 bT k95 (bP rfl) ((e95 prog K a0 h).mpr H)
end
noncomputable section
variable (z0 z1 x2 n3 x9 bM bN cG : Value) (L1 : LQ) (xs : List Value) (h : ae)
def agQ:=bK prog 100 [[],[],[1,2],[3],[1,2,3,9],[1,2,3,9,16],[],[],[1,2,3],[],[1,2,3,29],[1,2,29,31],[],[]]
@[irreducible] def G6:=bR agQ
@[irreducible] def G7:=G6.r.r.l.l.l
@[irreducible] def Zr:=G6.r.r.r
@[irreducible] def Zs:=G7.l.l.r.l
@[irreducible] def arw:=G7.l.r
@[irreducible] def arv:=G7.r
@[irreducible] def O4:=Zr.l
@[irreducible] def ars:=Zs.r.l
@[irreducible] def Zq:=O4.r.l.r.l
@[irreducible] def art:=O4.r.r
@[irreducible] def aru:=Zq.r.l
theorem ayy:agQ=some (35,G6,[.cell true 2 2]):=by kernel_rfl
def Dm (_P:Program) (K:VK):ar:=aS [.cell true 2 2] K
def aod:ar:=aF (aj P Zr (Dm P K)) (Dm P K)
def aoe:ar:=bI 0 (aod P K)
def Mt:ar:=aF (fun f' aU=>(([1,2]:List Nat).map f':List Value)=[z1,x2]∧L1 (([3]:List Nat).map f') aU) (aoe P K)
def Xk:ar:=aF (aj P arv (Mt P K z1 x2 L1)) (Mt P K z1 x2 L1)
def Xl:ar:=aF (aj P arw (Xk P K z1 x2 L1)) (Xk P K z1 x2 L1)
def Xj:ar:=aF (aj P art (Dm P K)) (Dm P K)
def aiI:Prop:=ax (aj P G7 (Mt P K z1 x2 L1)) ([1,2]++[3]) ([z1,x2]++xs) h
def aiJ:Prop:=ax (aj P Zs (Xl P K z1 x2 L1)) [1,2,3,9] [z1,x2,n3,x9] h
def Tq:Prop:=ax (aj P ars (Xl P K z1 x2 L1)) [1,2,3,9,16] [z1,x2,n3,x9,bM] h
def Ts:Prop:=ax (aj P O4 (Dm P K)) [1,2,3] [z1,x2,n3] h
def aiH:Prop:=ax (aj P Zq (Xj P K)) [1,2,3,29] [z1,x2,n3,bN] h
def Tt:Prop:=ax (aj P aru (Xj P K)) [1,2,29,31] [z1,x2,bN,cG] h
theorem alr:Tq P K z1 x2 n3 x9 bM L1 h=
 (OP (ck x9 bM (.bool false)) fun bU=>
 aQ bU
 (OP (ai .sub n3 (.int .i64 (1))) fun aP=>
 ([z1,x2]:List Value)=[z1,x2]∧L1 [aP] h)
 (Ts P K z1 x2 n3 h)):=az (by kernel_rfl)
theorem alv:aiJ P K z1 x2 n3 x9 L1 h=
 (cE x9 true
 (OP (aJ 1 z1) fun aM=>
 OP (af false 1 h aM) fun au=>
 OP (ai .sub n3 (.int .i64 (1))) fun aD=>
 OP (aY 1 au aD) fun aL=>
 OP (af false 1 h aL) fun bj=>
 OP (ai .eql bj (.int .i64 (0))) fun bM=>
 Tq P K z1 x2 n3 x9 bM L1 h)
 (Tq P K z1 x2 n3 x9 undef L1 h)):=az (by kernel_rfl)
theorem aAw (z1 x2:Value) (L1:LQ) (n3:Value) (h:ae):aiI P K z1 x2 L1 [n3] h=
 (OP (ai .gtr n3 (.int .i64 (0))) fun x8=>
 aiJ P K z1 x2 n3 x8 L1 h):=az (by kernel_rfl)
theorem alu:Tt P K z1 x2 bN cG h=
 (OP (ck bN cG (.bool false)) fun bk=>
 OP (aJ 0 z1) fun br=>
 OH (aK 1 h br bk) fun _ h_1=>
 OP (af true 2 h_1 z1) fun bE=>
 OH (aK 2 h_1 x2 bE) fun _ h_2=>
 OP (af true 2 h_2 x2) fun r0=>
 K r0 h_2):=az (by kernel_rfl)
theorem als:aiH P K z1 x2 n3 bN h=
 (cE bN true
 (OP (ai .gtr n3 (.int .i64 (0))) fun cG=>
 Tt P K z1 x2 bN cG h)
 (Tt P K z1 x2 bN undef h)):=az (by kernel_rfl)
theorem aAv:Ts P K z1 x2 n3 h=
 (OH (cZ 3 0 [(.int .i64 (0))] h []) fun aZ h_1=>
 OP (aJ 1 z1) fun bf=>
 OP (af false 1 h_1 bf) fun bH=>
 OP (mJ 3 1 bH none (some n3)) fun bD=>
 OH (dI 3 1 8 h_1 aZ bD) fun bV h_2=>
 OP (aJ 1 z1) fun cF=>
 OH (aK 1 h_2 cF bV) fun _ h_3=>
 OP (aJ 0 z1) fun bn=>
 OP (af false 1 h_3 bn) fun bz=>
 aiH P K z1 x2 n3 bz h_3):=az (by kernel_rfl)
def Nc:Prop:=
 OH (bC 35 h z0) fun z1 h_1=>
 OH (ba 35 [(.bool false),(.slice none 0 0)] h_1) fun x2 h_2=>
 OP (aJ 1 z1) fun x4=>
 OP (af false 1 h_2 x4) fun x5=>
 OP (bc x5) fun x6=>
 cJ [x6] h_2 fun L1 xs hx=>
 aiI P K z1 x2 L1 xs hx
theorem avb:aj P G6 (aS [.cell true 2 2] K) (bG [z0]) h=Nc P K z0 h:=by kernel_rfl
theorem f100 {K:VK} {z0:Value} {h:ae} (H:Nc prog K z0 h):aq prog 100 [z0] h K:=
 bT ayy (bP rfl) ((avb prog K z0 h).mpr H)
end
noncomputable section
variable (a0 b1 i5 : Value) (L1 : LQ) (xs : List Value) (h : ae)
def agR:=bK prog 101 [[],[],[],[],[],[],[],[],[0,1],[5],[],[],[],[],[],[],[],[],[],[]]
@[irreducible] def G8:=bR agR
@[irreducible] def arx:=G8.r.r.l.r.l.l
@[irreducible] def ary:=G8.r.r.r
theorem ayz:agR=some (41,G8,[.tmp 4]):=by kernel_rfl
def Xm (_P:Program) (K:VK):ar:=aS [.tmp 4] K
def aoh:ar:=aF (aj P ary (Xm P K)) (Xm P K)
def aof:ar:=bI 0 (aoh P K)
def aog:ar:=aF (fun f' aU=>(([0,1]:List Nat).map f':List Value)=[a0,b1]∧L1 (([5]:List Nat).map f') aU) (aof P K)
def aiK:Prop:=ax (aj P arx (aog P K a0 b1 L1)) ([0,1]++[5]) ([a0,b1]++xs) h
theorem aAx (a0 b1:Value) (L1:LQ) (i5:Value) (h:ae):aiK P K a0 b1 L1 [i5] h=
 (OP (ai .geq i5 (.int .i64 (0))) fun aZ=>
 aQ aZ
 (OP (aY 1 a0 i5) fun bV=>
 OP (af false 1 h bV) fun cF=>
 (True)∧
 OP (aY 1 b1 i5) fun bN=>
 OP (af false 1 h bN) fun dD=>
 (True)∧
 OP (ai .lss cF dD) fun cG=>
 aQ cG
 (K (.int .i64 (-1)) h)
 (OP (aY 1 a0 i5) fun bE=>
 OP (af false 1 h bE) fun de=>
 (True)∧
 OP (aY 1 b1 i5) fun dF=>
 OP (af false 1 h dF) fun eI=>
 (True)∧
 OP (ai .gtr de eI) fun ee=>
 aQ ee
 (K (.int .i64 (1)) h)
 (OP (ai .sub i5 (.int .i64 (1))) fun bH=>
 ([a0,b1]:List Value)=[a0,b1]∧L1 [bH] h)))
 (K (.int .i64 (0)) h)):=az (by kernel_rfl)
def Nd:Prop:=
 OP (bc a0) fun x7=>
 OP (bc b1) fun x9=>
 OP (ai .neq x7 x9) fun aM=>
 aQ aM
 (OP (bc a0) fun aA=>
 OP (bc b1) fun aL=>
 OP (ai .lss aA aL) fun bj=>
 aQ bj
 (K (.int .i64 (-1)) h)
 (K (.int .i64 (1)) h))
 (OP (bc a0) fun bU=>
 OP (ai .sub bU (.int .i64 (1))) fun aO=>
 cJ [aO] h fun L1 xs hx=>
 aiK P K a0 b1 L1 xs hx)
theorem avc:aj P G8 (aS [.tmp 4] K) (bG [a0,b1]) h=Nd P K a0 b1 h:=by kernel_rfl
theorem f101 {K:VK} {a0 b1:Value} {h:ae} (H:Nd prog K a0 b1 h):aq prog 101 [a0,b1] h K:=
 bT ayz (bP rfl) ((avc prog K a0 b1 h).mpr H)
end
noncomputable section
variable (a0 d1 : Value) (h : ae)
def agS:=bK prog 102 [[],[]]
@[irreducible] def DF:=bR agS
theorem ayA:agS=some (12,DF,[.tmp 4]):=by kernel_rfl
def Nf:Prop:=
 OP (dW [(.bool false),(.slice none 0 0)] [(1,1,a0)]) fun x6=>
 aq P 55 [d1] h fun x8 z1=>
 aq P 71 [x6,x8] z1 fun x9 z2=>
 aq P 100 [x9] z2 fun aM z3=>
 OP (Aq false 1 1 aM) fun au=>
 K au z3
theorem avd:aj P DF (aS [.tmp 4] K) (bG [a0,d1]) h=Nf P K a0 d1 h:=by kernel_rfl
theorem f102 {K:VK} {a0 d1:Value} {h:ae} (H:Nf prog K a0 d1 h):aq prog 102 [a0,d1] h K:=
 bT ayA (bP rfl) ((avd prog K a0 d1 h).mpr H)
end
noncomputable section
variable (a0 b1 x5 x6 i7 s8 : Value) (L1 : LQ) (xs : List Value) (h : ae)
def agT:=bK prog 103 [[],[],[],[0,1],[5,6,7],[],[],[],[],[0,1,5,7,8],[],[],[0,1,5,6,7,8],[0,1,5,6,7],[5],[]]
@[irreducible] def G9:=bR agT
@[irreducible] def O5:=G9.r.r.l.r.l.l
@[irreducible] def Zu:=G9.r.r.r
@[irreducible] def Zt:=O5.r.l.l.r.r.l
@[irreducible] def Zv:=O5.r.r
@[irreducible] def arB:=Zu.l
@[irreducible] def arz:=Zt.r.r.l
@[irreducible] def arA:=Zv.l
theorem ayB:agT=some (41,G9,[.tmp 4]):=by kernel_rfl
def Mu (_P:Program) (K:VK):ar:=aS [.tmp 4] K
def aoi:ar:=aF (aj P Zu (Mu P K)) (Mu P K)
def aoj:ar:=bI 0 (aoi P K)
def Gr:ar:=aF (fun f' aU=>(([0,1]:List Nat).map f':List Value)=[a0,b1]∧L1 (([5,6,7]:List Nat).map f') aU) (aoj P K)
def aok:ar:=aF (aj P Zv (Gr P K a0 b1 L1)) (Gr P K a0 b1 L1)
def Xn:ar:=bI 1 (aok P K a0 b1 L1)
def aiN:Prop:=ax (aj P O5 (Gr P K a0 b1 L1)) ([0,1]++[5,6,7]) ([a0,b1]++xs) h
def Kq:Prop:=ax (aj P Zt (Xn P K a0 b1 L1)) [0,1,5,7,8] [a0,b1,x5,i7,s8] h
def Kr:Prop:=ax (aj P arz (Xn P K a0 b1 L1)) [0,1,5,6,7,8] [a0,b1,x5,x6,i7,s8] h
def aiL:Prop:=ax (aj P arA (Gr P K a0 b1 L1)) [0,1,5,6,7] [a0,b1,x5,x6,i7] h
def aiM:Prop:=ax (aj P arB (Mu P K)) [5] [x5] h
theorem aAz:Kr P K a0 b1 x5 x6 i7 s8 L1 h=
 (OH (cZ 3 1 [(.int .i64 (0))] h [(0,1,s8)]) fun dF z1=>
 OH (dI 3 1 8 z1 x5 dF) fun eI z2=>
 aiL P K a0 b1 eI x6 i7 L1 z2):=az (by kernel_rfl)
theorem aAy:Kq P K a0 b1 x5 i7 s8 L1 h=
 (OP (ai .lss s8 (.int .i64 (0))) fun br=>
 aQ br
 (OP (ai .add s8 (.int .i64 (10000))) fun de=>
 Kr P K a0 b1 x5 (.int .i64 (1)) i7 de L1 h)
 (Kr P K a0 b1 x5 (.int .i64 (0)) i7 s8 L1 h)):=az (by kernel_rfl)
theorem aAA:aiL P K a0 b1 x5 x6 i7 L1 h=
 (OP (ai .add i7 (.int .i64 (1))) fun bj=>
 ([a0,b1]:List Value)=[a0,b1]∧L1 [x5,x6,bj] h):=az (by kernel_rfl)
theorem aAC (a0 b1:Value) (L1:LQ) (x5 x6 i7:Value) (h:ae):aiN P K a0 b1 L1 [x5,x6,i7] h=
 (OP (bc a0) fun aA=>
 OP (ai .lss i7 aA) fun aD=>
 aQ aD
 (OP (aY 1 a0 i7) fun aO=>
 OP (af false 1 h aO) fun aP=>
 OP (ai .sub aP x6) fun bf=>
 OP (bc b1) fun bD=>
 OP (ai .lss i7 bD) fun bV=>
 aQ bV
 (OP (aY 1 b1 i7) fun bN=>
 OP (af false 1 h bN) fun dD=>
 OP (ai .sub bf dD) fun cG=>
 Kq P K a0 b1 x5 i7 cG L1 h)
 (Kq P K a0 b1 x5 i7 bf L1 h))
 (aiM P K x5 h)):=az (by kernel_rfl)
theorem aAB:aiM P K x5 h=
 (K x5 h):=az (by kernel_rfl)
def Ng:Prop:=
 OH (cZ 3 0 [(.int .i64 (0))] h []) fun x9 z1=>
 cJ [x9,(.int .i64 (0)),(.int .i64 (0))] z1 fun L1 xs hx=>
 aiN P K a0 b1 L1 xs hx
theorem ave:aj P G9 (aS [.tmp 4] K) (bG [a0,b1]) h=Ng P K a0 b1 h:=by kernel_rfl
theorem f103 {K:VK} {a0 b1:Value} {h:ae} (H:Ng prog K a0 b1 h):aq prog 103 [a0,b1] h K:=
 bT ayB (bP rfl) ((ave prog K a0 b1 h).mpr H)
end
noncomputable section
variable (a0 b1 x5 x6 i7 s8 aL aO aZ bH : Value) (L1 : LQ) (xs : List Value) (h : ae)
def agU:=bK prog 104 [[],[],[],[0,1],[5,6,7],[0,1,5,6,7,14],[0,1,5,6,7,14,18],[0,1,5,6,7,20],[0,1,5,6,7,20,22],[],[],[],[],[0,1,5,7,8],[],[0,1,5,7,8],[0,1,5,6,7],[5],[]]
@[irreducible] def Ha:=bR agU
@[irreducible] def Hb:=Ha.r.r.l.r.l.l
@[irreducible] def ZB:=Ha.r.r.r
@[irreducible] def Zw:=Hb.l.l.r.l
@[irreducible] def arG:=Hb.l.r
@[irreducible] def O6:=Hb.r
@[irreducible] def arF:=ZB.l
@[irreducible] def Zx:=Zw.r.l
@[irreducible] def ZA:=O6.l.l.r.r.l
@[irreducible] def Zz:=O6.r
@[irreducible] def Zy:=Zx.r.l
@[irreducible] def arD:=ZA.r.l
@[irreducible] def arE:=Zz.l
@[irreducible] def arC:=Zy.r.l
theorem ayC:agU=some (55,Ha,[.tmp 4]):=by kernel_rfl
def Mv (_P:Program) (K:VK):ar:=aS [.tmp 4] K
def aom:ar:=aF (aj P ZB (Mv P K)) (Mv P K)
def aon:ar:=bI 0 (aom P K)
def Bm:ar:=aF (fun f' aU=>(([0,1]:List Nat).map f':List Value)=[a0,b1]∧L1 (([5,6,7]:List Nat).map f') aU) (aon P K)
def Xp:ar:=aF (aj P O6 (Bm P K a0 b1 L1)) (Bm P K a0 b1 L1)
def Gs:ar:=aF (aj P arG (Xp P K a0 b1 L1)) (Xp P K a0 b1 L1)
def aol:ar:=aF (aj P Zz (Bm P K a0 b1 L1)) (Bm P K a0 b1 L1)
def Xo:ar:=bI 1 (aol P K a0 b1 L1)
def aiR:Prop:=ax (aj P Hb (Bm P K a0 b1 L1)) ([0,1]++[5,6,7]) ([a0,b1]++xs) h
def aiO:Prop:=ax (aj P Zw (Gs P K a0 b1 L1)) [0,1,5,6,7,14] [a0,b1,x5,x6,i7,aL] h
def Tu:Prop:=ax (aj P Zx (Gs P K a0 b1 L1)) [0,1,5,6,7,14,18] [a0,b1,x5,x6,i7,aL,aO] h
def aiP:Prop:=ax (aj P Zy (Gs P K a0 b1 L1)) [0,1,5,6,7,20] [a0,b1,x5,x6,i7,aZ] h
def Tv:Prop:=ax (aj P arC (Gs P K a0 b1 L1)) [0,1,5,6,7,20,22] [a0,b1,x5,x6,i7,aZ,bH] h
def CJ:Prop:=ax (aj P ZA (Xo P K a0 b1 L1)) [0,1,5,7,8] [a0,b1,x5,i7,s8] h
def Ks:Prop:=ax (aj P arD (Xo P K a0 b1 L1)) [0,1,5,7,8] [a0,b1,x5,i7,s8] h
def aiQ:Prop:=ax (aj P arE (Bm P K a0 b1 L1)) [0,1,5,6,7] [a0,b1,x5,x6,i7] h
def Tw:Prop:=ax (aj P arF (Mv P K)) [5] [x5] h
theorem K0:Tv P K a0 b1 x5 x6 i7 aZ bH L1 h=
 (OP (ck aZ (.bool true) bH) fun cX=>
 aQ cX
 (OP (bc a0) fun bN=>
 OP (ai .lss i7 bN) fun dD=>
 aQ dD
 (OP (aY 1 a0 i7) fun bE=>
 OP (af false 1 h bE) fun de=>
 OP (ai .add x6 de) fun dE=>
 CJ P K a0 b1 x5 i7 dE L1 h)
 (CJ P K a0 b1 x5 i7 x6 L1 h))
 (Tw P K x5 h)):=az (by kernel_rfl)
theorem U2:aiP P K a0 b1 x5 x6 i7 aZ L1 h=
 (cE aZ false
 (OP (ai .gtr x6 (.int .i64 (0))) fun bH=>
 Tv P K a0 b1 x5 x6 i7 aZ bH L1 h)
 (Tv P K a0 b1 x5 x6 i7 aZ undef L1 h)):=az (by kernel_rfl)
theorem UZ:Tu P K a0 b1 x5 x6 i7 aL aO L1 h=
 (OP (ck aL (.bool true) aO) fun aP=>
 aiP P K a0 b1 x5 x6 i7 aP L1 h):=az (by kernel_rfl)
theorem alw:aiO P K a0 b1 x5 x6 i7 aL L1 h=
 (cE aL false
 (OP (bc b1) fun bU=>
 OP (ai .lss i7 bU) fun aO=>
 Tu P K a0 b1 x5 x6 i7 aL aO L1 h)
 (Tu P K a0 b1 x5 x6 i7 aL undef L1 h)):=az (by kernel_rfl)
theorem aAE:Ks P K a0 b1 x5 i7 s8 L1 h=
 (OP (ai .rem s8 (.int .i64 (10000))) fun fQ=>
 OH (cZ 3 1 [(.int .i64 (0))] h [(0,1,fQ)]) fun bW z1=>
 OH (dI 3 1 8 z1 x5 bW) fun cd z2=>
 OP (ai .quo s8 (.int .i64 (10000))) fun kh=>
 aiQ P K a0 b1 cd kh i7 L1 z2):=az (by kernel_rfl)
theorem aAD:CJ P K a0 b1 x5 i7 s8 L1 h=
 (OP (bc b1) fun eI=>
 OP (ai .lss i7 eI) fun ee=>
 aQ ee
 (OP (aY 1 b1 i7) fun bp=>
 OP (af false 1 h bp) fun cH=>
 OP (ai .add s8 cH) fun dU=>
 Ks P K a0 b1 x5 i7 dU L1 h)
 (Ks P K a0 b1 x5 i7 s8 L1 h)):=az (by kernel_rfl)
theorem aAF:aiQ P K a0 b1 x5 x6 i7 L1 h=
 (OP (ai .add i7 (.int .i64 (1))) fun bV=>
 ([a0,b1]:List Value)=[a0,b1]∧L1 [x5,x6,bV] h):=az (by kernel_rfl)
theorem aAH (a0 b1:Value) (L1:LQ) (x5 x6 i7:Value) (h:ae):aiR P K a0 b1 L1 [x5,x6,i7] h=
 (OP (bc a0) fun aA=>
 OP (ai .lss i7 aA) fun aD=>
 aiO P K a0 b1 x5 x6 i7 aD L1 h):=az (by kernel_rfl)
theorem aAG:Tw P K x5 h=
 (K x5 h):=az (by kernel_rfl)
def Nh:Prop:=
 OH (cZ 3 0 [(.int .i64 (0))] h []) fun x9 z1=>
 cJ [x9,(.int .i64 (0)),(.int .i64 (0))] z1 fun L1 xs hx=>
 aiR P K a0 b1 L1 xs hx
theorem avf:aj P Ha (aS [.tmp 4] K) (bG [a0,b1]) h=Nh P K a0 b1 h:=by kernel_rfl
theorem f104 {K:VK} {a0 b1:Value} {h:ae} (H:Nh prog K a0 b1 h):aq prog 104 [a0,b1] h K:=
 bT ayC (bP rfl) ((avf prog K a0 b1 h).mpr H)
end
end
section
theorem arj:cw≤10000^250:=by decide+kernel
theorem rF {xs:List Nat} (h:di 10000 xs) (hv:val 10000 xs<cw):xs.length≤250:=h.len (by decide) (Nat.lt_of_lt_of_le hv arj)
def pD (b:Nat) (hx:ae) (v:Value) (os:List Nat):Prop:=fU b hx 3 v (os.map fun d:Nat=>I d)
theorem pD.ds {b:Nat} {hx:ae} {v:Value} {os:List Nat} (o:pD b hx v os):DS 3 .i64 hx v os:=by
 rcases o with ⟨h1,h2⟩ | ⟨i,_,h2,h3⟩
 ·exact .inl ⟨h1,by simpa using h2⟩
 ·refine .inr ⟨i,by rw [h2,List.length_map],.inr ⟨[],?_⟩⟩
  simp [aR,h3]
theorem DS.cells {e:TypeId} {k:IntKind} {h:ae} {v:Value} {xs:List Nat} (p:DS e k h v xs):j8 h 1 v=some (xs.map fun d:Nat=>Value.int k (d:Int))∧pe v=some xs.length:=by
 rcases p with ⟨rfl,rfl⟩ | ⟨i,rfl,hc⟩
 ·exact ⟨rfl,rfl⟩
 ·refine ⟨?_,rfl⟩
  unfold j8 sl
  simp only
  by_cases hz:xs.length=0
  ·rw [if_pos hz]
   have:xs=[]:=List.length_eq_zero_iff.1 hz
   subst this
   rfl
  ·obtain ⟨r,hc⟩:=hc.resolve_left (by rintro rfl;simp at hz)
   rw [if_neg hz,hc]
   simp only [Option.bind_some]
   rw [if_pos (by simp)]
   have:((xs.map (fun d:Nat=>Value.int k (d:Int))++r).drop 0).take (xs.length*1)=xs.map fun d:Nat=>Value.int k (d:Int):=by
    rw [drop_zero,Nat.mul_one,List.take_append_of_le_length (by simp),take_of_length_le (by simp)]
   rw [this]
def gJ (h:ae) (v:Value) (n:Nat):Prop:=∃xs,DS 3 .i64 h v xs∧di 10000 xs∧val 10000 xs=n
theorem gJ.mono {h h':ae} {v:Value} {n:Nat} (x:EX h h') (p:gJ h v n):gJ h' v n:=let ⟨xs,a,b,c⟩:=p;⟨xs,a.mono x,b,c⟩
theorem DS.bS {e e':TypeId} {k:IntKind} {h:ae} {v:Value} {xs:List Nat} {j:Nat} {b:Bool} {r:List Value} (d:DS e k h v xs) (hj:h[j]?=some (.arr e' (.bool b::r))) (o:ak):DS e k (h.set j o) v xs:=by
 rcases d with d | ⟨i,h1,h2⟩
 ·exact .inl d
 ·refine .inr ⟨i,h1,?_⟩
  rcases h2 with h2 | ⟨rest,h2⟩
  ·exact .inl h2
  ·cases xs with
   | nil=>exact .inl rfl
   | cons x xs=>
    right
    refine ⟨rest,?_⟩
    have bm:j≠i:=by
     rintro rfl
     unfold aR at h2
     rw [hj] at h2
     simp at h2
    unfold aR at h2⊢
    rw [getElem?_set_ne bm]
    exact h2
theorem gJ.bS {h:ae} {v:Value} {n j:Nat} {e:TypeId} {b:Bool} {r:List Value} (p:gJ h v n) (hj:h[j]?=some (.arr e (.bool b::r))) (o:ak):gJ (h.set j o) v n:=
 let ⟨xs,d,c,hv⟩:=p;⟨xs,d.bS hj o,c,hv⟩
def ZV (h:ae) (val:Value) (z:Int):Prop:=∃v,val=.agg #[B (decide (z<0)),v]∧gJ h v z.natAbs
theorem ZV.mono {h h':ae} {v:Value} {z:Int} (x:EX h h') (p:ZV h v z):ZV h' v z:=let ⟨w,a,b⟩:=p;⟨w,a,b.mono x⟩
theorem ZV.bS {h:ae} {v:Value} {z:Int} {j:Nat} {e:TypeId} {b:Bool} {r:List Value} (p:ZV h v z) (hj:h[j]?=some (.arr e (.bool b::r))) (o:ak):ZV (h.set j o) v z:=
 let ⟨w,a,q⟩:=p;⟨w,a,q.bS hj o⟩
theorem ON {h0 hx:ae} {v:Value} {os:List Nat} {d:Nat} {K:Value→ae→Prop} (o:pD h0.length hx v os) (hex:EX h0 hx) (hl:os.length≤10000)
  (hk:∀v' bY,EX h0 bY→pD h0.length bY v' (os++[d])→K v' bY):OH (cZ 3 1 [.int .i64 0] hx [(0,1,I d)]) fun a h2=>OH (dI 3 1 8 h2 v a) K:=by
 refine OM o hex (by simp;omega) (by simp [maxLen];omega) rfl rfl ?_
 intro v' bY h1 h2
 exact hk v' bY h1 (by unfold pD;simpa using h2)
theorem WB {s:Bool} {v:Value} {xs:List Nat} {h:ae} {K:Value→ae→Prop} (hd:DS 3 .i64 h v xs) (hl:cn 10000 xs) (hs:xs.length≤1000)
  (hk:∀r h',EX h h'→ZV h' r (if s then -(val 10000 xs:Int) else val 10000 xs)→(∃b i n,r=.agg #[B b,sl 3 i 0 n]∧h.length≤i)→K r h'):aq prog 100 [.agg #[B s,v]] h K:=by
 refine f100 ?_
 have e1:bC 35 h (.agg #[B s,v])=some (pt h.length 0,h++[.arr 35 [B s,v]]):=rfl
 have e2:∀g:ae,ba 35 [(.bool false),(.slice none 0 0)] g=some (pt g.length 0,g++[.arr 35 [(.bool false),(.slice none 0 0)]]):=fun _=>rfl
 simp only [Nc,e1,aE,e2,length_append,length_cons,length_nil]
 have g0:(h++[ak.arr 35 [B s,v]]++[ak.arr 35 [(.bool false),(.slice none 0 0)]])[h.length]?=some (.arr 35 [B s,v]):=by simp
 have g1:(h++[ak.arr 35 [B s,v]]++[ak.arr 35 [(.bool false),(.slice none 0 0)]])[h.length+1]?=some (.arr 35 [(.bool false),(.slice none 0 0)]):=by simp
 have x1:EX h (h++[ak.arr 35 [B s,v]]++[ak.arr 35 [(.bool false),(.slice none 0 0)]]):=(EX.append _ _).push _
 have hlen:(h++[ak.arr 35 [B s,v]]++[ak.arr 35 [(.bool false),(.slice none 0 0)]]).length=h.length+2:=by simp
 generalize h++[ak.arr 35 [B s,v]]++[ak.arr 35 [(.bool false),(.slice none 0 0)]]=h1 at g0 g1 x1 hlen⊢
 have qX:af false 1 h1 (pt h.length 1)=some v:=by simp [af,aR,g0,cm]
 have mC:=hd.mono x1
 simp only [b9,zero_add,ah,qX,mC.len]
 refine dL (σ:=Nat) (fun n=>[I n]) (fun _=>h1) (fun n=>n≤xs.length∧val 10000 (xs.take n)=val 10000 xs) (fun n=>n) xs.length rfl rfl ⟨le_refl _,by rw [take_length]⟩ ?_
 rintro n ⟨hn,ca⟩ L hL
 rw [aAw]
 -- gv end
 have fin:di 10000 (xs.take n)→Ts prog K (pt h.length 0) (pt (h.length+1) 0) (I n) h1:=by
  intro hc
  rw [aAv]
  have mk:cZ 3 0 [.int .i64 0] h1 []=some (sl 3 h1.length 0 0,h1++[.arr 3 []]):=rfl
  have x2:EX h1 (h1++[.arr 3 []]):=EX.append _ _
  obtain ⟨v',p1,p2⟩:=(mC.mono x2).pop hn
  obtain ⟨c1,c2⟩:=p2.cells
  have Ab:(xs.take n).length=n:=by rw [length_take];omega
  simp only [mk,aE,b9,zero_add,ah,EX.load x2 qX,p1]
  -- copied
  have app:∃w h3,dI 3 1 8 (h1++[.arr 3 []]) (sl 3 h1.length 0 0) v'=some (w,h3)∧EX h1 h3∧DS 3 .i64 h3 w (xs.take n)∧∃i n,w=sl 3 i 0 n∧h.length≤i:=by
   by_cases oz:n=0
   ·subst oz
    refine ⟨sl 3 h1.length 0 0,h1++[.arr 3 []],?_,x2,.inr ⟨h1.length,by simp,.inl (by simp)⟩,h1.length,0,rfl,by omega⟩
    simp [dI,c1,c2,sl]
   ·refine ⟨sl 3 (h1.length+1) 0 n,(h1++[ak.arr 3 []]).set h1.length .dead++[.arr 3 ((xs.take n).map fun d:Nat=>I d)],?_,(x2.set (le_refl _) _).push _,.inr ⟨h1.length+1,by rw [Ab],.inr ⟨[],?_⟩⟩,h1.length+1,n,rfl,by omega⟩
    ·have hg:(h1++[ak.arr 3 []])[h1.length]?=some (.arr 3 []):=bZ
     simp only [dI,c1,c2,Ab]
     simp only [sl,hg]
     rw [if_pos ⟨trivial,trivial,by simp,by omega,by unfold maxLen;omega⟩,if_neg oz]
     simp
    ·unfold aR
     rw [List.getElem?_append_right (by simp)]
     simp
  obtain ⟨w,h3,a1,a2,a3,wi,wn,hwi,hwl⟩:=app
  simp only [a1,aE]
  have Qt:=a2.get g0
  have zz:=a2.get g1
  rw [pj Qt (by simp) a3.one.1 a3.one.2]
  simp only [aE,List.set_cons_succ,List.set_cons_zero]
  have k0:(h3.set h.length (.arr 35 [B s,w]))[h.length]?=some (.arr 35 [B s,w]):=cU Qt
  have k1:(h3.set h.length (.arr 35 [B s,w]))[h.length+1]?=some (.arr 35 [(.bool false),(.slice none 0 0)]):=by rw [getElem?_set_ne (by omega)];exact zz
  have d1:=a3.bS Qt (.arr 35 [B s,w])
  have x3:EX h (h3.set h.length (.arr 35 [B s,w])):=(x1.trans a2).set (le_refl _) _
  generalize h3.set h.length (.arr 35 [B s,w])=h4 at k0 k1 d1 x3⊢
  have pY:af false 1 h4 (pt h.length 0)=some (B s):=by simp [af,aR,k0,cm]
  simp only [pY,ah]
  have last:∀c:Bool,c=(s&&decide (0<n))→OH (aK 1 h4 (pt h.length 0) (B c)) fun _ h_1=>OP (af true 2 h_1 (pt h.length 0)) fun bE=>OH (aK 2 h_1 (pt (h.length+1) 0) bE) fun _ h_2=>OP (af true 2 h_2 (pt (h.length+1) 0)) fun r0=>K r0 h_2:=by
   rintro c rfl
   rw [pj k0 (by simp) rfl rfl]
   simp only [aE,List.set_cons_zero]
   rw [dC (cU k0)]
   simp only [ah]
   have m1:(h4.set h.length (.arr 35 [B (s&&decide (0<n)),w]))[h.length+1]?=some (.arr 35 [(.bool false),(.slice none 0 0)]):=by rw [getElem?_set_ne (by omega)];exact k1
   rw [gP m1]
   simp only [aE]
   rw [dC (cU m1)]
   simp only [ah]
   refine hk _ _ ((x3.set (le_refl _) _).set (by omega) _) ⟨w,?_,(xs.take n),(d1.bS k0 _).bS m1 _,hc,?_⟩ ⟨_,wi,wn,by rw [hwi],hwl⟩
   ·have h0n:(0<n↔0<val 10000 xs):=by
     rw [←ca]
     constructor
     ·intro h0
      have:=di.low (by decide) hc (by intro h;rw [h] at Ab;simp at Ab;omega)
      have:0<10000^((xs.take n).length-1):=pow_pos (by decide)
      omega
     ·intro h0
      by_cases oz:n=0
      ·subst oz;simp [val] at h0
      ·omega
    have:(s&&decide (0<n))=decide ((if s=true then -(val 10000 xs:Int) else (val 10000 xs:Int))<0):=by
     cases s with
     | true=>
      by_cases h0:0<n
      ·have:=h0n.1 h0
       rw [aW h0,aW (by simp;omega)];rfl
      ·have:¬0<val 10000 xs:=fun h=>h0 (h0n.2 h)
       rw [aT h0,aT (by simp;omega)];rfl
     | false=>simp
    rw [this]
   ·rw [ca];cases s <;> simp
  cases s with
  | true=>
   simp only [als,iY,gj,ah,alu,dZ,b9,add_zero]
   refine last _ ?_
   rw [Bool.true_and]
   by_cases h0:0<n
   ·simp [h0]
   ·simp [h0]
  | false=>
   simp only [als,kZ,alu,c8,ah,b9,add_zero]
   exact last _ rfl
 simp only [gj,ah]
 by_cases oz:n=0
 ·subst oz
  rw [aT (show ¬(0:Int)<((0:Nat):Int) by omega)]
  simp only [alv,kZ,alr,c8,ah,dP]
  exact fin (by simpa using di.nil 10000)
 ·rw [aW (show (0:Int)<(n:Int) by omega)]
  have e3:IntKind.wrap .i64 ((n:Int)-1)=((n-1:Nat):Int):=by rw [wrap64 (by omega) (by omega)];omega
  obtain ⟨i,p1,p2⟩:=mC.get (j:=n-1) (by omega)
  simp only [alv,iY,b9,zero_add,ah,qX,gU,e3,p1,p2,jo,alr,dZ,cj]
  refine ⟨fun hz=>?_,fun hz=>?_⟩
  ·simp only [true_and]
   refine hL (n-1) ⟨by omega,?_⟩ (by omega)
   have:=ji 10000 xs (i:=n-1) (by omega)
   rw [show n-1+1=n by omega] at this
   have uQ:xs[n-1]'(by omega)=0:=by omega
   rw [uQ,mul_zero] at this
   omega
  ·refine fin (Ik (hl.mono fun y hy=>List.mem_of_mem_take hy) ?_)
   intro h1 h2
   rw [List.getElem_take] at h2
   simp only [length_take] at h2
   apply hz
   have hm:min n xs.length-1=n-1:=by omega
   simp only [hm] at h2
   omega
theorem Bj {s:Bool} {v:Value} {xs:List Nat} {h:ae} {K:Value→ae→Prop} (hd:DS 3 .i64 h v xs) (hl:cn 10000 xs) (hs:xs.length≤1000)
  (hk:∀r h',EX h h'→ZV h' r (if s then -(val 10000 xs:Int) else val 10000 xs)→K r h'):aq prog 100 [.agg #[B s,v]] h K:=
 WB hd hl hs fun r h' x z _=>hk r h' x z
end
section
theorem CN {a b:Nat} (hb:b≠0) (ha:a<9223372036854775808):ai .quo (.int .i64 (a:Int)) (.int .i64 (b:Int))=some (I ((a / b:Nat):Int)):=by
 have h:¬((b:Int)=0):=by omega
 have h2:a / b≤a:=Nat.div_le_self _ _
 simp only [ai,gY,if_true,if_neg h]
 have e:(a:Int).tdiv (b:Int)=((a / b:Nat):Int):=rfl
 rw [e]
 generalize a / b=q at*
 rw [wrap64 (by omega) (by omega)]
theorem SV (h:ae):cZ 3 0 [.int .i64 0] h []=some (sl 3 h.length 0 0,h++[.arr 3 []]):=rfl
theorem aiF (h:ae):pD h.length (h++[.arr 3 []]) (sl 3 h.length 0 0) []:=.inr ⟨h.length,le_refl _,rfl,by simp⟩
theorem anE {va vb:Value} {xs ys:List Nat} {h:ae} {K:Value→ae→Prop} (hx:DS 3 .i64 h va xs) (hy:DS 3 .i64 h vb ys) (lx:cn 10000 xs) (ly:cn 10000 ys) (sx:xs.length≤400) (sy:ys.length≤400)
  (hk:∀v h' os,EX h h'→DS 3 .i64 h' v os→cn 10000 os→os.length≤500→val 10000 os=val 10000 xs+val 10000 ys→K v h'):aq prog 104 [va,vb] h K:=by
 refine f104 ?_
 simp only [Nh,SV,aE]
 refine dL (σ:=Value×Nat×List Nat×ae) (fun p=>[p.1,I p.2.1,I p.2.2.1.length]) (fun p=>p.2.2.2)
  (fun p=>EX h p.2.2.2∧pD h.length p.2.2.2 p.1 p.2.2.1∧p.2.1≤1∧cn 10000 p.2.2.1∧p.2.2.1.length≤max xs.length ys.length+1∧(p.2.2.1.length=max xs.length ys.length+1→p.2.1=0)∧val 10000 p.2.2.1+10000^p.2.2.1.length*p.2.1=val 10000 (xs.take p.2.2.1.length)+val 10000 (ys.take p.2.2.1.length)) (fun p=>max xs.length ys.length+1-p.2.2.1.length)
  (sl 3 h.length 0 0,0,[],h++[.arr 3 []]) rfl rfl ⟨EX.append _ _,aiF h,by simp,fun x hx=>by simp at hx,by simp,by simp,by simp [val]⟩ ?_
 rintro ⟨v,c,os,bY⟩ ⟨hex,ky,hc,fC,hlen,zS,ca⟩ L hL
 simp only at hex ky hc fC hlen zS ca hL⊢
 rw [aAH]
 have dx:=hx.mono hex
 have dy:=hy.mono hex
 -- one Iv
 have DX:∀(x y:Nat),x<10000→y<10000→(os.length<max xs.length ys.length∨0<c)→val 10000 (xs.take (os.length+1))=val 10000 (xs.take os.length)+10000^os.length*x→val 10000 (ys.take (os.length+1))=val 10000 (ys.take os.length)+10000^os.length*y→
   (x=0∧y=0∨os.length<max xs.length ys.length)→Ks prog K va vb v (I os.length) (I ((c+x+y:Nat):Int)) L bY:=by
  intro x y iz kA rT e1 e2 Jf
  rw [aAE]
  rw [show (.int .i64 10000:Value)=.int .i64 ((10000:Nat):Int) from rfl,AY _ _ _ (by decide)]
  simp only [ah]
  refine ON ky hex (by omega) ?_
  intro v' h2 x2 o2
  rw [CN (by decide) (by omega)]
  simp only [ah,aAF,cA,fk os.length (by omega),true_and]
  have aGh:os.length<max xs.length ys.length+1:=by
   rcases rT with h | h
   ·omega
   ·apply byContradiction
    intro QP
    have:=zS (by omega)
    omega
  have hm:(c+x+y)%10000<10000:=mod_lt _ (by decide)
  have lV:=Nat.mod_add_div (c+x+y) 10000
  have el:(os++[(c+x+y)%10000]).length=os.length+1:=by simp
  have:=hL (v',(c+x+y) / 10000,os++[(c+x+y)%10000],h2) ⟨x2,o2,by show (c+x+y) / 10000≤1;omega,fC.append (fun z hz=>by simp at hz;omega),by rw [el];omega,?_,?_⟩ (by rw [el];omega)
  ·rw [el] at this
   exact this
  ·intro h9
   rw [el] at h9
   show (c+x+y) / 10000=0
   rcases Jf with ⟨rfl,rfl⟩ | h
   ·omega
   ·omega
  ·rw [el]
   show val 10000 (os++[(c+x+y)%10000])+10000^(os.length+1)*((c+x+y) / 10000)=_
   rw [oJ,e1,e2,pow_succ]
   simp only [val,mul_zero,add_zero]
   generalize (c+x+y) / 10000=q at*
   generalize (c+x+y)%10000=m at*
   generalize 10000^os.length=P at*
   generalize val 10000 os=V at*
   clear hL dx dy hx hy ky
   grind
 have next:(os.length<max xs.length ys.length∨0<c)→OP (bc va) fun bN=>OP (ai .lss (I os.length) bN) fun dD=>aQ dD
   (OP (aY 1 va (I os.length)) fun bE=>OP (af false 1 bY bE) fun de=>OP (ai .add (I c) de) fun dE=>CJ prog K va vb v (I os.length) dE L bY)
   (CJ prog K va vb v (I os.length) (I c) L bY):=by
  intro rT
  have amN:∀x:Nat,x<10000→val 10000 (xs.take (os.length+1))=val 10000 (xs.take os.length)+10000^os.length*x→(x=0∨os.length<xs.length)→CJ prog K va vb v (I os.length) (I ((c+x:Nat):Int)) L bY:=by
   intro x iz e1 rZ
   rw [aAD]
   simp only [dy.len,ah,cN,cj]
   refine ⟨fun aB=>?_,fun cL=>?_⟩
   ·obtain ⟨i,g1,g2⟩:=dy.get (j:=os.length) (by omega)
    have kA:=ly _ (getElem_mem (show os.length<ys.length by omega))
    have e2:=ji 10000 ys (i:=os.length) (by omega)
    generalize ys[os.length]'(by omega)=y at g2 kA e2
    have ea:IntKind.wrap .i64 (((c+x:Nat):Int)+(y:Int))=((c+x+y:Nat):Int):=by rw [wrap64 (by omega) (by omega)];omega
    simp only [g1,ah,g2,cA,ea]
    exact DX x y iz kA rT e1 e2 (.inr (by omega))
   ·have:=DX x 0 iz (by decide) rT e1 (by rw [take_of_length_le (by omega),take_of_length_le (by omega)];simp) (by rcases rZ with h | h;exact .inl ⟨h,rfl⟩;exact .inr (by omega))
    simpa using this
  simp only [dx.len,ah,cN,cj]
  refine ⟨fun aB=>?_,fun cL=>?_⟩
  ·obtain ⟨i,g1,g2⟩:=dx.get (j:=os.length) (by omega)
   have iz:=lx _ (getElem_mem (show os.length<xs.length by omega))
   have e1:=ji 10000 xs (i:=os.length) (by omega)
   generalize xs[os.length]'(by omega)=x at g2 iz e1
   have ea:IntKind.wrap .i64 ((c:Int)+(x:Int))=((c+x:Nat):Int):=by rw [wrap64 (by omega) (by omega)];omega
   simp only [g1,ah,g2,cA,ea]
   exact amN x iz e1 (.inr (by omega))
  ·have:=amN 0 (by decide) (by rw [take_of_length_le (by omega),take_of_length_le (by omega)];simp) (.inl rfl)
   simpa using this
 have done:¬(os.length<max xs.length ys.length∨0<c)→Tw prog K v bY:=by
  intro dB
  rw [aAG]
  refine hk v bY os hex ky.ds fC (by omega) ?_
  have zJ:c=0:=by omega
  rw [zJ,mul_zero,add_zero,take_of_length_le (by omega),take_of_length_le (by omega)] at ca
  exact ca
 simp only [dx.len,ah,cN]
 by_cases h1:os.length<xs.length
 ·rw [aW (show (os.length:Int)<(xs.length:Int) by omega)]
  simp only [alw,fT,UZ,dZ,ah,U2,K0,dM]
  exact next (.inl (by omega))
 ·rw [aT (show ¬(os.length:Int)<(xs.length:Int) by omega)]
  simp only [alw,eJ,dy.len,ah,cN]
  by_cases h2:os.length<ys.length
  ·rw [aW (show (os.length:Int)<(ys.length:Int) by omega)]
   simp only [UZ,c8,ah,U2,fT,K0,dZ,dM]
   exact next (.inl (by omega))
  ·rw [aT (show ¬(os.length:Int)<(ys.length:Int) by omega)]
   simp only [UZ,c8,ah,U2,eJ,gj]
   by_cases h3:0<c
   ·rw [aW (show (0:Int)<(c:Int) by omega)]
    simp only [K0,c8,ah,dM]
    exact next (.inr h3)
   ·rw [aT (show ¬(0:Int)<(c:Int) by omega)]
    simp only [K0,c8,ah,dP]
    exact done (by omega)
theorem Mc {va vb:Value} {xs ys:List Nat} {h:ae} {K:Value→ae→Prop} (hx:DS 3 .i64 h va xs) (hy:DS 3 .i64 h vb ys) (lx:cn 10000 xs) (ly:cn 10000 ys) (sx:xs.length≤400) (hyx:ys.length≤xs.length) (hle:val 10000 ys≤val 10000 xs)
  (hk:∀v h' os,EX h h'→DS 3 .i64 h' v os→cn 10000 os→os.length≤500→val 10000 os=val 10000 xs-val 10000 ys→K v h'):aq prog 103 [va,vb] h K:=by
 refine f103 ?_
 simp only [Ng,SV,aE]
 refine dL (σ:=Value×Nat×List Nat×ae) (fun p=>[p.1,I p.2.1,I p.2.2.1.length]) (fun p=>p.2.2.2)
  (fun p=>EX h p.2.2.2∧pD h.length p.2.2.2 p.1 p.2.2.1∧p.2.1≤1∧cn 10000 p.2.2.1∧p.2.2.1.length≤xs.length∧val 10000 p.2.2.1+val 10000 (ys.take p.2.2.1.length)=val 10000 (xs.take p.2.2.1.length)+10000^p.2.2.1.length*p.2.1) (fun p=>xs.length-p.2.2.1.length)
  (sl 3 h.length 0 0,0,[],h++[.arr 3 []]) rfl rfl ⟨EX.append _ _,aiF h,by simp,fun x hx=>by simp at hx,by simp,by simp [val]⟩ ?_
 rintro ⟨v,c,os,bY⟩ ⟨hex,ky,hc,fC,hlen,ca⟩ L hL
 simp only at hex ky hc fC hlen ca hL⊢
 rw [aAC]
 have dx:=hx.mono hex
 have dy:=hy.mono hex
 simp only [dx.len,ah,cN,cj]
 refine ⟨fun aB=>?_,fun cL=>?_⟩
 ·have b6:os.length<xs.length:=by omega
  obtain ⟨i,g1,g2⟩:=dx.get b6
  have iz:=lx _ (getElem_mem b6)
  have e1:=ji 10000 xs b6
  generalize xs[os.length]=x at g2 iz e1
  have DX:∀y:Nat,y<10000→val 10000 (ys.take (os.length+1))=val 10000 (ys.take os.length)+10000^os.length*y→Kq prog K va vb v (I os.length) (I ((x:Int)-c-y)) L bY:=by
   intro y kA e2
   rw [aAy]
   have go:∀d b:Nat,d<10000→b≤1→d+y+c=x+10000*b→Kr prog K va vb v (I b) (I os.length) (I d) L bY:=by
    intro d b hd hb he
    rw [aAz]
    refine ON ky hex (by omega) ?_
    intro v' h2 x2 o2
    simp only [aAA,cA,ah,fk os.length (by omega),true_and]
    have el:(os++[d]).length=os.length+1:=by simp
    have:=hL (v',b,os++[d],h2) ⟨x2,o2,hb,fC.append (fun z hz=>by simp at hz;omega),by rw [el];omega,?_⟩ (by rw [el];omega)
    ·rw [el] at this
     exact this
    ·rw [el]
     show val 10000 (os++[d])+_=_
     rw [oJ,e1,e2,pow_succ]
     simp only [val,mul_zero,add_zero]
     generalize 10000^os.length=P at*
     generalize val 10000 os=V at*
     clear hL dx dy hx hy ky
     grind
   simp only [cN,ah,cj]
   refine ⟨fun gW=>?_,fun iF=>?_⟩
   ·obtain ⟨d,hd⟩:∃d:Nat,(x:Int)-c-y+10000=d:=⟨((x:Int)-c-y+10000).toNat,by omega⟩
    simp only [cA,ah,hd]
    rw [wrap64 (by omega) (by omega)]
    exact go d 1 (by omega) (by omega) (by omega)
   ·obtain ⟨d,hd⟩:∃d:Nat,(x:Int)-c-y=d:=⟨((x:Int)-c-y).toNat,by omega⟩
    rw [hd]
    exact go d 0 (by omega) (by omega) (by omega)
  simp only [g1,ah,g2,gU,dy.len,cN,cj]
  rw [wrap64 (n:=(x:Int)-c) (by omega) (by omega)]
  refine ⟨fun hly=>?_,fun hgy=>?_⟩
  ·obtain ⟨i',k1,k2⟩:=dy.get (j:=os.length) (by omega)
   have kA:=ly _ (getElem_mem (show os.length<ys.length by omega))
   have e2:=ji 10000 ys (i:=os.length) (by omega)
   generalize ys[os.length]'(by omega)=y at k2 kA e2
   simp only [k1,ah,k2,gU]
   rw [wrap64 (by omega) (by omega)]
   exact DX y kA e2
  ·have:=DX 0 (by decide) (by rw [take_of_length_le (by omega),take_of_length_le (by omega)];simp)
   simpa using this
 ·have hl:os.length=xs.length:=by omega
  rw [aAB]
  rw [hl,take_length,take_of_length_le hyx] at ca
  have aB:=nr fC
  rw [hl] at aB
  have zJ:c=0:=by
   apply byContradiction
   intro bm
   have:c=1:=by omega
   subst this
   omega
  subst zJ
  exact hk v bY os hex ky.ds fC (by omega) (by omega)
theorem WC {va vb:Value} {a b:Nat} {h:ae} {K:Value→ae→Prop} (ha:gJ h va a) (hb:gJ h vb b) (la:a<cw) (lb:b<cw) (hk:K (I (nm a b)) h):aq prog 101 [va,vb] h K:=by
 obtain ⟨xs,hx,cx,rfl⟩:=ha
 obtain ⟨ys,hy,cy,rfl⟩:=hb
 have l1:=rF cx la
 have l2:=rF cy lb
 have less:val 10000 xs<val 10000 ys→K (.int .i64 (-1)) h:=fun h1=>by unfold nm at hk;rw [if_pos h1] at hk;exact hk
 have more:val 10000 ys<val 10000 xs→K (.int .i64 1) h:=fun h1=>by unfold nm at hk;rw [if_neg (by omega),if_pos h1] at hk;exact hk
 have same:val 10000 xs=val 10000 ys→K (.int .i64 0) h:=fun h1=>by unfold nm at hk;rw [if_neg (by omega),if_neg (by omega)] at hk;exact hk
 refine f101 ?_
 simp only [Nd,hx.len,hy.len,ah,qo,Gp,cN,cj]
 refine ⟨fun bm=>⟨fun aB=>less (di.AI (by decide) cx cy (by omega)),fun cL=>more (di.AI (by decide) cy cx (by omega))⟩,fun he=>?_⟩
 have fK:xs.length=ys.length:=by omega
 simp only [gU,ah]
 have e1:IntKind.wrap .i64 ((xs.length:Int)-1)=(xs.length:Int)-1:=by rw [wrap64 (by omega) (by omega)]
 rw [e1]
 refine dL (σ:=Nat) (fun i=>[I ((i:Int)-1)]) (fun _=>h) (fun i=>i≤xs.length∧xs.drop i=ys.drop i) (fun i=>i) xs.length rfl rfl ⟨le_refl _,by rw [List.drop_length,fK,List.drop_length]⟩ ?_
 rintro i ⟨hi,ta⟩ L hL
 rw [aAx]
 simp only [nA,ah,cj]
 refine ⟨fun cL=>?_,fun aB=>?_⟩
 ·obtain ⟨j,rfl⟩:∃j,i=j+1:=⟨i-1,by omega⟩
  have ej:(((j+1:Nat):Int)-1)=(j:Int):=by omega
  rw [ej]
  obtain ⟨ia,a1,a2⟩:=hx.get (j:=j) (by omega)
  obtain ⟨ib,b1,b2⟩:=hy.get (j:=j) (by omega)
  simp only [a1,a2,b1,b2,ah,true_and,cN,cj]
  refine ⟨fun aB=>less (LO cx.1 cy.1 fK (i:=j) (by omega) ta (by omega)),fun cL=>?_⟩
  simp only [gj,ah,cj]
  refine ⟨fun uN=>more (LO cy.1 cx.1 fK.symm (i:=j) (by omega) ta.symm (by omega)),fun hle=>?_⟩
  simp only [gU,ah]
  rw [wrap64 (by omega) (by omega)]
  refine hL j ⟨by omega,?_⟩ (by omega)
  rw [drop_eq_getElem_cons (by omega),drop_eq_getElem_cons (show j<ys.length by omega),ta]
  congr 1
  omega
 ·have:i=0:=by omega
  subst this
  rw [drop_zero,drop_zero] at ta
  exact same (by rw [ta])
end
section
theorem BR {h':ae} {j:Nat} {b0 v0 b v:Value} {K:Value→ae→Prop} (hg:h'[j]?=some (.arr 35 [b0,v0])) (hk:K (.agg #[b,v]) (h'.set j (.arr 35 [b,v]))):
  OH (aK 2 h' (pt j 0) (.agg #[b,v])) fun _ h6=>OP (af true 2 h6 (pt j 0)) fun r0=>K r0 h6:=by
 rw [gP hg]
 simp only [aE]
 rw [dC (cU hg)]
 exact ah.2 hk
structure anD (h:ae) (va vb:Value) (sa sb:Bool) (h3:ae):Prop where
 ex:EX h h3
 a0:af false 1 h3 (pt h.length 0)=some (B sa)
 a1:af false 1 h3 (pt h.length 1)=some va
 b0:af false 1 h3 (pt (h.length+1) 0)=some (B sb)
 b1:af false 1 h3 (pt (h.length+1) 1)=some vb
 a2:af true 2 h3 (pt h.length 0)=some (.agg #[B sa,va])
 b2:af true 2 h3 (pt (h.length+1) 0)=some (.agg #[B sb,vb])
 out:h3[h.length+2]?=some (.arr 35 [.bool false,.slice none 0 0])
theorem G1 {h:ae} {va vb:Value} {sa sb:Bool} {K:Value→Value→Value→ae→Prop} (hk:∀h3,anD h va vb sa sb h3→K (pt h.length 0) (pt (h.length+1) 0) (pt (h.length+2) 0) h3):
  OH (bC 35 h (.agg #[B sa,va])) fun a2 h_1=>OH (bC 35 h_1 (.agg #[B sb,vb])) fun b3 h_2=>OH (ba 35 [(.bool false),(.slice none 0 0)] h_2) fun x4 h_3=>K a2 b3 x4 h_3:=by
 have e1:∀(g:ae) (s:Bool) (v:Value),bC 35 g (.agg #[B s,v])=some (pt g.length 0,g++[.arr 35 [B s,v]]):=fun _ _ _=>rfl
 have e2:∀(g:ae),ba 35 [(.bool false),(.slice none 0 0)] g=some (pt g.length 0,g++[.arr 35 [(.bool false),(.slice none 0 0)]]):=fun _=>rfl
 simp only [e1,e2,aE,length_append,length_cons,length_nil]
 have g0:(h++[ak.arr 35 [B sa,va]]++[ak.arr 35 [B sb,vb]]++[ak.arr 35 [(.bool false),(.slice none 0 0)]])[h.length]?=some (.arr 35 [B sa,va]):=by simp
 have g1:(h++[ak.arr 35 [B sa,va]]++[ak.arr 35 [B sb,vb]]++[ak.arr 35 [(.bool false),(.slice none 0 0)]])[h.length+1]?=some (.arr 35 [B sb,vb]):=by simp
 have g2:(h++[ak.arr 35 [B sa,va]]++[ak.arr 35 [B sb,vb]]++[ak.arr 35 [(.bool false),(.slice none 0 0)]])[h.length+2]?=some (.arr 35 [(.bool false),(.slice none 0 0)]):=by simp
 refine hk _ ⟨((EX.append _ _).push _).push _,?_,?_,?_,?_,dC g0,dC g1,g2⟩
 ·simp [af,aR,cm]
 ·simp [af,aR,cm]
 ·simp [af,aR,cm]
 ·simp [af,aR,cm]
theorem O1 {b:Bool} {e:TypeId} {k:IntKind} {h:ae} {v:Value} {xs:List Nat} (d:DS e k h v xs):dW [(.bool false),(.slice none 0 0)] [(0,1,B b),(1,1,v)]=some (.agg #[B b,v]):=by
 rcases d with ⟨rfl,_⟩ | ⟨i,rfl,_⟩ <;> rfl
theorem C70 {va vb:Value} {a b:Int} {h:ae} {K:Value→ae→Prop} (ha:ZV h va a) (hb:ZV h vb b) (la:a.natAbs<cw) (lb:b.natAbs<cw) (hk:∀r h',EX h h'→ZV h' r (a+b)→K r h'):aq prog 70 [va,vb] h K:=by
 obtain ⟨v,rfl,hv⟩:=ha
 obtain ⟨w,rfl,hw⟩:=hb
 refine f70 ?_
 unfold Of
 refine G1 ?_
 intro h3 x
 have wF:=hv.mono x.ex
 have oC:=hw.mono x.ex
 obtain ⟨xs,dx,cx,ex⟩:=id wF
 obtain ⟨ys,dy,cy,ey⟩:=id oC
 have l1:=rF cx (by rw [ex];exact la)
 have l2:=rF cy (by rw [ey];exact lb)
 simp only [b9,add_zero,zero_add,ah,x.a0,x.a1,x.b0,x.b1,D4,Bool.false_eq_true,if_false]
 -- gv result,put in its place
 have put:∀(s:Bool) (u:Value) (os:List Nat) (h4:ae) (z:Int),EX h3 h4→DS 3 .i64 h4 u os→cn 10000 os→os.length≤500→(if s then -(val 10000 os:Int) else (val 10000 os:Int))=z→z=a+b→
   OP (dW [(.bool false),(.slice none 0 0)] [(0,1,B s),(1,1,u)]) fun bU=>aq prog 100 [bU] h4 fun aO h_5=>OH (aK 2 h_5 (pt (h.length+2) 0) aO) fun _ h_6=>OP (af true 2 h_6 (pt (h.length+2) 0)) fun r0=>K r0 h_6:=by
  intro s u os h4 z x4 d4 l4 s4 hz oD
  simp only [O1 d4,ah]
  refine Bj d4 l4 (by omega) ?_
  intro r h5 x5 zr
  rw [hz,oD] at zr
  obtain ⟨q,rfl,hq⟩:=id zr
  have g':=(x4.trans x5).get x.out
  exact BR g' (hk _ _ (((x.ex.trans x4).trans x5).set (by omega) _) (zr.bS g' _))
 refine uf (fun he=>?_) fun bm=>?_
 ·have hs:decide (a<0)=decide (b<0):=by simpa using he
  have dT:(a<0↔b<0):=by simpa using hs
  simp only [true_and]
  refine anE dx dy cx.1 cy.1 (by omega) (by omega) ?_
  intro u h4 os x4 d4 l4 s4 v4
  refine ⟨⟨EX.load x4 x.a0,trivial⟩,?_⟩
  have:=put (decide (a<0)) u os h4 _ x4 d4 l4 s4 rfl (by
   rw [v4,ex,ey]
   by_cases h0:a<0
   ·rw [aW h0];simp;omega
   ·rw [aT h0];simp;omega)
  simpa using this
 ·have hs:decide (a<0)≠decide (b<0):=by simpa using bm
  have dT:¬(a<0↔b<0):=fun h=>hs (decide_eq_decide.2 h)
  refine WC wF oC la lb ?_
  simp only [nA,ah,cj]
  have ll:∀{p q:List Nat},di 10000 p→di 10000 q→val 10000 q≤val 10000 p→q.length≤p.length:=by
   intro p q cp cq Jw
   apply byContradiction
   intro hc
   have:=di.AI (by decide) cp cq (by omega)
   omega
  refine ⟨fun cL=>?_,fun aB=>?_⟩
  ·have hle:b.natAbs≤a.natAbs:=by
    apply byContradiction
    intro hc
    unfold nm at cL
    rw [if_pos (by omega)] at cL
    omega
   simp only [x.a0,x.a1,x.b1,ah,true_and]
   refine Mc dx dy cx.1 cy.1 (by omega) (ll cx cy (by omega)) (by omega) ?_
   intro u h4 os x4 d4 l4 s4 v4
   refine ⟨⟨EX.load x4 x.a0,trivial⟩,?_⟩
   have:=put (decide (a<0)) u os h4 _ x4 d4 l4 s4 rfl (by
    rw [v4,ex,ey]
    by_cases h0:a<0
    ·rw [aW h0];simp;omega
    ·rw [aT h0];simp;omega)
   simpa using this
  ·have hle:a.natAbs≤b.natAbs:=by
    apply byContradiction
    intro hc
    unfold nm at aB
    rw [if_neg (by omega),if_pos (by omega)] at aB
    omega
   simp only [x.b0,x.a1,x.b1,ah,true_and]
   refine Mc dy dx cy.1 cx.1 (by omega) (ll cy cx (by omega)) (by omega) ?_
   intro u h4 os x4 d4 l4 s4 v4
   refine ⟨⟨EX.load x4 x.b0,trivial⟩,?_⟩
   have:=put (decide (b<0)) u os h4 _ x4 d4 l4 s4 rfl (by
    rw [v4,ex,ey]
    by_cases h0:b<0
    ·rw [aW h0];simp;omega
    ·rw [aT h0];simp;omega)
   simpa using this
theorem gJ.so {h:ae} {v:Value} {n:Nat} (p:gJ h v n):∃l:Nat,bc v=some (I l)∧(0<l↔0<n):=by
 obtain ⟨xs,d,c,rfl⟩:=p
 refine ⟨xs.length,d.len,?_⟩
 constructor
 ·intro h0
  have:=di.low (by decide) c (by rintro rfl;simp at h0)
  have:0<10000^(xs.length-1):=pow_pos (by decide)
  omega
 ·intro h0
  cases xs with
  | nil=>simp [val] at h0
  | cons x xs=>simp
theorem C95 {va:Value} {a:Int} {h:ae} {K:Value→ae→Prop} (ha:ZV h va a) (hk:∀r h',EX h h'→ZV h' r (-a)→K r h'):aq prog 95 [va] h K:=by
 obtain ⟨v,rfl,hv⟩:=ha
 refine f95 ?_
 have e1:bC 35 h (.agg #[B (decide (a<0)),v])=some (pt h.length 0,h++[.arr 35 [B (decide (a<0)),v]]):=rfl
 have e2:∀(g:ae),ba 35 [(.bool false),(.slice none 0 0)] g=some (pt g.length 0,g++[.arr 35 [(.bool false),(.slice none 0 0)]]):=fun _=>rfl
 simp only [OB,e1,e2,aE,length_append,length_cons,length_nil]
 have g0:(h++[ak.arr 35 [B (decide (a<0)),v]]++[ak.arr 35 [(.bool false),(.slice none 0 0)]])[h.length]?=some (.arr 35 [B (decide (a<0)),v]):=by simp
 have g1:(h++[ak.arr 35 [B (decide (a<0)),v]]++[ak.arr 35 [(.bool false),(.slice none 0 0)]])[h.length+1]?=some (.arr 35 [(.bool false),(.slice none 0 0)]):=by simp
 have x1:EX h (h++[ak.arr 35 [B (decide (a<0)),v]]++[ak.arr 35 [(.bool false),(.slice none 0 0)]]):=(EX.append _ _).push _
 generalize h++[ak.arr 35 [B (decide (a<0)),v]]++[ak.arr 35 [(.bool false),(.slice none 0 0)]]=h1 at g0 g1 x1⊢
 have l0:af false 1 h1 (pt h.length 0)=some (B (decide (a<0))):=by simp [af,aR,g0,cm]
 have l1:af false 1 h1 (pt h.length 1)=some v:=by simp [af,aR,g0,cm]
 have tu:=hv.mono x1
 obtain ⟨l,n1,n2⟩:=tu.so
 have last:∀c:Bool,c=decide (-a<0)→OH (aK 1 h1 (pt h.length 0) (B c)) fun _ h_1=>OP (af true 2 h_1 (pt h.length 0)) fun aD=>OH (aK 2 h_1 (pt (h.length+1) 0) aD) fun _ h_2=>OP (af true 2 h_2 (pt (h.length+1) 0)) fun r0=>K r0 h_2:=by
  rintro c rfl
  rw [pj g0 (by simp) rfl rfl]
  simp only [aE,List.set_cons_zero]
  rw [dC (cU g0)]
  simp only [ah]
  have m1:(h1.set h.length (.arr 35 [B (decide (-a<0)),v]))[h.length+1]?=some (.arr 35 [(.bool false),(.slice none 0 0)]):=by rw [getElem?_set_ne (by omega)];exact g1
  refine BR m1 (hk _ _ ((x1.set (le_refl _) _).set (by omega) _) ⟨v,rfl,?_⟩)
  have:(-a).natAbs=a.natAbs:=by omega
  rw [this]
  exact (tu.bS g0 _).bS m1 _
 simp only [b9,add_zero,ah,l0,oI]
 by_cases h0:a<0
 ·rw [aW h0]
  simp only [Bool.not_true,ami,kZ,amj,c8,ah,b9,add_zero]
  rw [aW h0] at*
  exact last _ (by simp;omega)
 ·rw [aT h0]
  simp only [Bool.not_false,ami,iY,b9,zero_add,ah,l1,n1,gj,amj,dZ,add_zero]
  refine last _ ?_
  rw [decide_eq_decide]
  omega
theorem W9 {va vb:Value} {a b:Int} {h:ae} {K:Value→ae→Prop} (ha:ZV h va a) (hb:ZV h vb b) (la:a.natAbs<cw) (lb:b.natAbs<cw) (hk:∀r h',EX h h'→ZV h' r (a-b)→K r h'):aq prog 92 [va,vb] h K:=by
 have oh:=ha
 have qC:=hb
 obtain ⟨v,rfl,hv⟩:=ha
 obtain ⟨w,rfl,hw⟩:=hb
 refine f92 ?_
 unfold Oy
 refine G1 ?_
 intro h3 x
 simp only [ah,x.a2,x.b2,true_and]
 refine C95 (qC.mono x.ex) ?_
 intro r1 h4 x4 i1
 refine ⟨⟨EX.load x4 x.a2,trivial⟩,?_⟩
 refine C70 (oh.mono (x.ex.trans x4)) i1 la (by rw [Int.natAbs_neg];exact lb) ?_
 intro r2 h5 x5 i2
 have g':=(x4.trans x5).get x.out
 obtain ⟨u,rfl,hu⟩:=id i2
 refine BR g' (hk _ _ (((x.ex.trans x4).trans x5).set (by omega) _) ?_)
 rw [Int.sub_eq_add_neg]
 exact i2.bS g' _
def EZ (z:Int):Int:=if z=0 then 0 else if z<0 then -1 else 1
end
section
theorem arc {b:Nat} {hx:ae} {v:Value} {os:List Nat} {d:Nat} {K:Value→ae→Prop} (hb:b≤hx.length) (o:pD b hx v os) (hl:os.length≤10000)
  (hk:∀v' bY,(∀d,d<b→bY[d]?=hx[d]?)→b≤bY.length→pD b bY v' (os++[d])→K v' bY):OH (cZ 3 1 [.int .i64 0] hx [(0,1,I d)]) fun a h2=>OH (dI 3 1 8 h2 v a) K:=by
 have hlen:(hx.take b).length=b:=by rw [length_take];omega
 have hex:EX (hx.take b) hx:=by
  refine ⟨by omega,fun i hi=>?_⟩
  rw [List.getElem?_take_of_lt (by omega)]
 refine ON (h0:=hx.take b) (by rw [hlen];exact o) hex hl ?_
 intro v' bY x o'
 rw [hlen] at o'
 refine hk v' bY (fun d hd=>?_) (by have:=x.1;omega) o'
 rw [x.2 d (by omega),List.getElem?_take_of_lt hd]
theorem pD.set {b j:Nat} {hx:ae} {v:Value} {os:List Nat} (o:pD b hx v os) (hj:j<b) (x:ak):pD b (hx.set j x) v os:=
 fU.dR o fun d _ _ hd=>by rw [getElem?_set_ne (by omega)]
theorem aDG {a:Int} {b:Nat} (hb:b≠0):ai .rem (.int .i64 a) (.int .i64 (b:Int))=some (I (a.tmod b)):=by
 have h:¬((b:Int)=0):=by omega
 simp only [ai,gY,if_true,if_neg h]
theorem aDx {a:Int} {b:Nat} (hb:b≠0) (h1: -9223372036854775808<a) (h2:a<9223372036854775808):ai .quo (.int .i64 a) (.int .i64 (b:Int))=some (I (a.tdiv b)):=by
 have h:¬((b:Int)=0):=by omega
 have h3:(a.tdiv b).natAbs≤a.natAbs:=by
  rw [Int.natAbs_tdiv,Int.natAbs_natCast];exact Nat.div_le_self _ _
 simp only [ai,gY,if_true,if_neg h]
 rw [wrap64 (by omega) (by omega)]
theorem Bl {z:Int} {h:ae} {K:Value→ae→Prop} (hz:z.natAbs<1000000000000000000) (hk:∀r h',EX h h'→ZV h' r z→K r h'):aq prog 55 [I z] h K:=by
 refine f55 ?_
 have e2:∀g:ae,ba 35 [(.bool false),(.slice none 0 0)] g=some (pt g.length 0,g++[.arr 35 [(.bool false),(.slice none 0 0)]]):=fun _=>rfl
 have e3:∀b:Bool,dW [(.bool false),(.slice none 0 0)] [(0,1,B b)]=some (.agg #[B b,.slice none 0 0]):=fun _=>rfl
 simp only [N5,e2,aE,cN,ah,e3,length_append,length_cons,length_nil]
 have g1:(h++[ak.arr 35 [(.bool false),(.slice none 0 0)]]++[ak.arr 35 [(.bool false),(.slice none 0 0)]])[h.length+1]?=some (.arr 35 [(.bool false),(.slice none 0 0)]):=by simp
 have g0:(h++[ak.arr 35 [(.bool false),(.slice none 0 0)]]++[ak.arr 35 [(.bool false),(.slice none 0 0)]])[h.length]?=some (.arr 35 [(.bool false),(.slice none 0 0)]):=by simp
 have x1:EX h (h++[ak.arr 35 [(.bool false),(.slice none 0 0)]]++[ak.arr 35 [(.bool false),(.slice none 0 0)]]):=(EX.append _ _).push _
 have Rf:(h++[ak.arr 35 [(.bool false),(.slice none 0 0)]]++[ak.arr 35 [(.bool false),(.slice none 0 0)]]).length=h.length+2:=by simp
 generalize h++[ak.arr 35 [(.bool false),(.slice none 0 0)]]++[ak.arr 35 [(.bool false),(.slice none 0 0)]]=h1 at*
 simp only [zero_add]
 rw [gP g1]
 simp only [aE]
 refine dL (σ:=Int×List Nat×Value×ae) (fun p=>[I p.1]) (fun p=>p.2.2.2)
  (fun p=>h.length+2≤p.2.2.2.length∧EX h p.2.2.2∧p.2.2.2[h.length]?=some (.arr 35 [.bool false,.slice none 0 0])∧p.2.2.2[h.length+1]?=some (.arr 35 [B (decide (z<0)),p.2.2.1])∧pD (h.length+2) p.2.2.2 p.2.2.1 p.2.1∧cn 10000 p.2.1∧p.2.1.length≤5∧p.1.natAbs<10000^(5-p.2.1.length)∧val 10000 p.2.1+10000^p.2.1.length*p.1.natAbs=z.natAbs∧(p.1=0→di 10000 p.2.1)) (fun p=>p.1.natAbs)
  (z,[],.slice none 0 0,h1.set (h.length+1) (.arr 35 [B (decide (z<0)),.slice none 0 0])) rfl rfl
  ⟨by simp [Rf],x1.set (by omega) _,by rw [getElem?_set_ne (by omega)];exact g0,cU g1,.inl ⟨rfl,rfl⟩,fun _ hx=>by simp at hx,by simp,by simp;omega,by simp [val],fun _=>di.nil _⟩ ?_
 rintro ⟨a,os,v,hx⟩ ⟨hlen,hex,k0,k1,ky,fC,gX,gn,ca,zK⟩ L hL
 simp only at hlen hex k0 k1 ky fC gX gn ca zK hL⊢
 rw [aCn]
 simp only [qo,ah,Gp]
 refine ⟨fun bm=>?_,fun heq=>?_⟩
 ·have oh:a≠0:=bm
  have aGq:a.natAbs≤z.natAbs:=by
   have:1*a.natAbs≤10000^os.length*a.natAbs:=Nat.mul_le_mul_right _ (pow_pos (by decide))
   omega
  have aGk:os.length<5:=by
   apply byContradiction
   intro hc
   have:5-os.length=0:=by omega
   rw [this] at gn
   omega
  have oY:(a.tmod 10000).natAbs=a.natAbs%10000:=Int.natAbs_tmod _ _
  have wh:(a.tdiv 10000).natAbs=a.natAbs / 10000:=Int.natAbs_tdiv _ _
  have step:KL prog K (I a) (pt h.length 0) (pt (h.length+1) 0) (I ((a.natAbs%10000:Nat):Int)) L hx:=by
   rw [aCl]
   have ld:af false 1 hx (pt (h.length+1) 1)=some v:=by simp [af,aR,k1,cm]
   simp only [b9,zero_add,ah,ld]
   refine arc hlen ky (by omega) ?_
   intro v' bY hs oX EF
   have kC:bY[h.length+1]?=some (.arr 35 [B (decide (z<0)),v]):=by rw [hs _ (by omega)];exact k1
   rw [pj kC (by simp) EF.ds.one.1 EF.ds.one.2]
   simp only [aE,List.set_cons_succ,List.set_cons_zero]
   rw [show (.int .i64 10000:Value)=.int .i64 ((10000:Nat):Int) from rfl,aDx (by decide) (by omega) (by omega)]
   simp only [ah,true_and]
   have lV:=Nat.mod_add_div a.natAbs 10000
   have el:(os++[a.natAbs%10000]).length=os.length+1:=by simp
   have hm:a.natAbs%10000<10000:=mod_lt _ (by decide)
   have I7:(a.tdiv ((10000:Nat):Int)).natAbs=a.natAbs / 10000:=wh
   refine hL (a.tdiv ((10000:Nat):Int),os++[a.natAbs%10000],v',bY.set (h.length+1) (.arr 35 [B (decide (z<0)),v'])) ⟨?_,?_,?_,cU kC,EF.set (by omega) _,fC.append (fun y hy=>by simp at hy;omega),by rw [el];omega,?_,?_,?_⟩ ?_
   ·rw [length_set];exact oX
   ·refine EX.set ⟨by have:=hex.1;omega,fun i hi=>?_⟩ (by omega) _
    rw [hs i (by omega)];exact hex.2 i hi
   ·rw [getElem?_set_ne (by omega),hs _ (by omega)];exact k0
   ·show (a.tdiv ((10000:Nat):Int)).natAbs<_
    rw [el,I7]
    have:5-os.length=(5-(os.length+1))+1:=by omega
    rw [this,pow_succ] at gn
    exact Nat.div_lt_of_lt_mul (by rw [Nat.mul_comm];exact gn)
   ·show val 10000 (os++[a.natAbs%10000])+10000^(os++[a.natAbs%10000]).length*(a.tdiv ((10000:Nat):Int)).natAbs=_
    rw [el,oJ,I7,←ca,pow_succ]
    simp only [val,mul_zero,add_zero]
    have:=congrArg (10000^os.length*·) lV
    rw [Nat.mul_add] at this
    rw [←this,Nat.mul_assoc,Nat.add_assoc]
   ·intro h0
    have rM:a.natAbs / 10000=0:=by
     have h0b:a.tdiv ((10000:Nat):Int)=0:=h0
     rw [←I7,h0b];rfl
    refine Ik (fC.append (fun y hy=>by simp at hy;omega)) ?_
    intro h1 h2
    simp only [el,Nat.add_sub_cancel] at h2
    rw [List.getElem_append_right (le_refl _)] at h2
    simp at h2
    omega
   ·show (a.tdiv ((10000:Nat):Int)).natAbs<a.natAbs
    rw [I7]
    exact Nat.div_lt_self (by omega) (by decide)
  rw [show (.int .i64 10000:Value)=.int .i64 ((10000:Nat):Int) from rfl,aDG (by decide)]
  simp only [ah,cN,cj]
  have aGj:(a.tmod ((10000:Nat):Int)).natAbs=a.natAbs%10000:=oY
  refine ⟨fun hn=>?_,fun hn=>?_⟩
  ·have e4:gZ .neg (I (a.tmod ((10000:Nat):Int)))=some (I (-(a.tmod ((10000:Nat):Int)))):=by
    simp only [gZ]
    rw [wrap64 (by omega) (by omega),Int.zero_sub]
   rw [e4]
   simp only [ah]
   rw [show -(a.tmod ((10000:Nat):Int))=((a.natAbs%10000:Nat):Int) by omega]
   exact step
  ·rw [show a.tmod ((10000:Nat):Int)=((a.natAbs%10000:Nat):Int) by omega]
   exact step
 ·have ha:a=0:=heq
  subst ha
  rw [aCm]
  rw [dC k1]
  simp only [ah]
  rw [gP k0]
  simp only [aE]
  rw [dC (cU k0)]
  refine ah.2 (hk _ _ (hex.set (le_refl _) _) ⟨v,rfl,os,ky.ds.bS k0 _,zK rfl,?_⟩)
  simpa using ca
abbrev hz (h:ae) (os:List Nat):ae:=h++[.arr 3 (os.map fun d:Nat=>I d)]
theorem agk {h:ae} {n:Nat} (hn:n≤1000):lE 3 8 [.int .i64 0] h (I n) (I n)=some (sl 3 h.length 0 n,hz h (replicate n 0)):=by
 have Ao:∀m,gy [Value.int .i64 0] m=(replicate m 0).map fun d:Nat=>I d:=by
  intro m
  induction m with
  | zero=>rfl
  | succ m ih=>
   have:gy [Value.int .i64 0] (m+1)=Value.int .i64 0::gy [Value.int .i64 0] m:=by simp [gy,List.replicate_succ]
   rw [this,ih,List.replicate_succ];rfl
 simp only [lE]
 rw [if_pos ⟨by omega,by omega,by omega,by omega⟩,Int.toNat_natCast,Ao]
theorem afg (h:ae) (os:List Nat):(hz h os)[h.length]?=some (.arr 3 (os.map fun d:Nat=>I d)):=by simp [hz]
theorem ax8 {h:ae} {os:List Nat} {j:Nat} (d:Nat) (hj:j<os.length):aK 1 (hz h os) (pt h.length j) (I d)=some (undef,hz h (os.set j d)):=by
 rw [pj (afg h os) (by simpa using hj) rfl rfl]
 simp [hz,List.map_set]
theorem ax7 {h:ae} {os:List Nat} {j:Nat} (hj:j<os.length):af false 1 (hz h os) (pt h.length j)=some (I os[j]):=by
 simp [af,aR,cm,hj]
theorem aff (h:ae) (os:List Nat):DS 3 .i64 (hz h os) (sl 3 h.length 0 os.length) os:=.inr ⟨h.length,rfl,.inr ⟨[],by simp [aR,hz]⟩⟩
theorem wI (h:ae) (os:List Nat):EX h (hz h os):=EX.append _ _
theorem azI {x y:Nat} (hx:x<10000) (hy:y<10000):x*y≤99980001:=by
 have:=Nat.mul_le_mul (show x≤9999 by omega) (show y≤9999 by omega)
 omega
theorem aEB (a b:Int):(if (!(decide (a<0)==decide (b<0)))=true then -((a.natAbs*b.natAbs:Nat):Int) else ((a.natAbs*b.natAbs:Nat):Int))=a*b:=by
 have ea:(a.natAbs:Int)=if a<0 then -a else a:=by split <;> omega
 have eb:(b.natAbs:Int)=if b<0 then -b else b:=by split <;> omega
 rw [Int.natCast_mul,ea,eb]
 by_cases h1:a<0 <;> by_cases h2:b<0 <;> simp [h1,h2,Int.neg_mul,Int.mul_neg]
theorem C71 {va vb:Value} {a b:Int} {h:ae} {K:Value→ae→Prop} (ha:ZV h va a) (hb:ZV h vb b) (la:a.natAbs<cw) (lb:b.natAbs<cw) (hk:∀r h',EX h h'→ZV h' r (a*b)→K r h'):aq prog 71 [va,vb] h K:=by
 obtain ⟨v,rfl,hv⟩:=ha
 obtain ⟨w,rfl,hw⟩:=hb
 refine f71 ?_
 unfold Og
 refine G1 ?_
 intro h3 x
 obtain ⟨xs,dx,cx,ex⟩:=hv.mono x.ex
 obtain ⟨ys,dy,cy,ey⟩:=hw.mono x.ex
 have l1:=rF cx (by rw [ex];exact la)
 have l2:=rF cy (by rw [ey];exact lb)
 have hB:(0:Nat)<10000:=by decide
 have e0:IntKind.wrap .i64 ((xs.length:Int)+(ys.length:Int))=((xs.length+ys.length:Nat):Int):=by rw [wrap64 (by omega) (by omega)];omega
 simp only [b9,zero_add,ah,x.a1,x.b1,dx.len,dy.len,cA,e0,fk (xs.length+ys.length) (by omega),agk (show xs.length+ys.length+1≤1000 by omega),aE]
 refine dL (σ:=Nat×List Nat) (fun p=>[I p.1]) (fun p=>hz h3 p.2)
  (fun p=>p.1≤xs.length∧p.2.length=xs.length+ys.length+1∧cn 10000 p.2∧(∀j (hj:j<p.2.length),p.1+ys.length≤j→p.2[j]=0)∧val 10000 p.2=val 10000 (xs.take p.1)*val 10000 ys) (fun p=>xs.length-p.1)
  (0,replicate (xs.length+ys.length+1) 0) rfl rfl ⟨by simp,by simp,cn.xr hB _,by simp,by simp [yG,val]⟩ ?_
 rintro ⟨i,os⟩ ⟨hi,gX,fC,Ao,ca⟩ L hL
 simp only at hi gX fC Ao ca hL⊢
 have Cz:∀ps,af false 1 (hz h3 ps) (pt h.length 1)=some v:=fun ps=>EX.load (wI h3 ps) x.a1
 have Az:∀ps,af false 1 (hz h3 ps) (pt (h.length+1) 1)=some w:=fun ps=>EX.load (wI h3 ps) x.b1
 rw [aCW]
 simp only [b9,zero_add,Cz,dx.len,cN,ah,cj]
 refine ⟨fun aB=>?_,fun cL=>?_⟩
 ·have b6:i<xs.length:=by omega
  have iz:xs[i]<10000:=cx.1 _ (getElem_mem b6)
  have Aj:=ji 10000 xs b6
  refine dL (σ:=Nat×Nat×List Nat) (fun p=>[I p.1,I p.2.1]) (fun p=>hz h3 p.2.2)
   (fun p=>p.2.1≤ys.length+1∧(p.2.1=ys.length+1→p.1=0)∧p.1<10000∧p.2.2.length=xs.length+ys.length+1∧cn 10000 p.2.2∧(∀j (hj:j<p.2.2.length),i+ys.length+1≤j→p.2.2[j]=0)∧(p.2.1≤ys.length→∀j (hj:j<p.2.2.length),i+ys.length≤j→p.2.2[j]=0)∧val 10000 p.2.2+10000^(i+p.2.1)*p.1=val 10000 os+10000^i*(xs[i]*val 10000 (ys.take p.2.1))) (fun p=>ys.length+1-p.2.1)
   (0,0,os) rfl rfl ⟨by simp,by simp,hB,gX,fC,fun j hj h=>Ao j hj (by omega),fun _=>Ao,by simp [val]⟩ ?_
  rintro ⟨c,k,ps⟩ ⟨hZ,hkc,hc,j5,wA,yk,Rw,yj⟩ L2 gV
  simp only at hZ hkc hc j5 wA yk Rw yj gV⊢
  have dx':=dx.mono (wI h3 ps)
  have dy':=dy.mono (wI h3 ps)
  have pR:i+k<ps.length:=by omega
  have axs:ps[i+k]<10000:=wA _ (getElem_mem pR)
  have ei:IntKind.wrap .i64 ((i:Int)+(k:Int))=((i+k:Nat):Int):=by rw [wrap64 (by omega) (by omega)];omega
  -- gv next Iv
  have step:∀p:Nat,p≤99980001→k<ys.length+1→(k=ys.length→p=0)→xs[i]*val 10000 (ys.take (k+1))=xs[i]*val 10000 (ys.take k)+10000^k*p→
    yz prog K (pt h.length 0) (pt (h.length+1) 0) (pt (h.length+2) 0) (sl 3 h3.length 0 (xs.length+ys.length+1)) (I i) (I k) (I ((ps[i+k]+c+p:Nat):Int)) L L2 (hz h3 ps):=by
   intro p hp ie hkp hpv
   rw [aCS]
   have lX:=tW 10000 ps (i+k) ((ps[i+k]+c+p)%10000) pR
   have oY:(ps[i+k]+c+p)%10000<10000:=mod_lt _ hB
   have lV:=Nat.mod_add_div (ps[i+k]+c+p) 10000
   have wh:(ps[i+k]+c+p) / 10000<10000:=by omega
   have zS:k=ys.length→(ps[i+k]+c+p) / 10000=0:=by
    intro zY
    have:=Rw (by omega) (i+k) pR (by omega)
    rw [this,hkp zY]
    omega
   simp only [cA,ei,ah]
   rw [show (.int .i64 10000:Value)=.int .i64 ((10000:Nat):Int) from rfl,AY _ _ _ (by decide),CN (by decide) (by omega)]
   simp only [ah]
   rw [nz (show i+k<xs.length+ys.length+1 by omega)]
   simp only [ah]
   rw [ax8 _ pR]
   simp only [aE,aCT,cA,ah,fk k (by omega),true_and]
   refine gV ((ps[i+k]+c+p) / 10000,k+1,ps.set (i+k) ((ps[i+k]+c+p)%10000)) ⟨by show k+1≤ys.length+1;omega,fun h=>zS (by simp only at h;omega),wh,by show (ps.set _ _).length=_;rw [length_set];exact j5,wA.set oY _,?_,?_,?_⟩ (by show ys.length+1-(k+1)<ys.length+1-k;omega)
   ·intro j hj fX
    show (ps.set (i+k) _)[j]=0
    rw [getElem_set_ne (by omega)]
    exact yk j (by simpa using hj) fX
   ·intro nc j hj fX
    have tg:k+1≤ys.length:=nc
    show (ps.set (i+k) _)[j]=0
    rw [getElem_set_ne (by omega)]
    exact Rw (by omega) j (by simpa using hj) fX
   ·show val 10000 (ps.set (i+k) _)+10000^(i+(k+1))*_=val 10000 os+10000^i*(xs[i]*val 10000 (ys.take (k+1)))
    rw [hpv,←Nat.add_assoc,pow_succ]
    rw [Nat.pow_add] at lX yj⊢
    generalize ps[i+k]=o at*
    generalize (o+c+p)%10000=m at*
    generalize (o+c+p) / 10000=q at*
    generalize xs[i]*val 10000 (ys.take k)=v at*
    generalize val 10000 (ps.set (i+k) m)=s1 at*
    generalize val 10000 ps=s0 at*
    generalize val 10000 os=s2 at*
    generalize 10000^i=P at*
    generalize 10000^k=Q at*
    clear gV hL dx dy dx' dy' hv hw x Cz Az
    have h1:P*Q*(m+10000*q)=P*Q*(o+c+p):=by rw [lV]
    grind
  have body:k<ys.length+1→OP (ai .add (I i) (I k)) fun ee=>OP (aY 1 (sl 3 h3.length 0 (xs.length+ys.length+1)) ee) fun dG=>OP (af false 1 (hz h3 ps) dG) fun ef=>OP (ai .add ef (I c)) fun bp=>
    OP (bc w) fun fz=>OP (ai .lss (I k) fz) fun fQ=>aQ fQ
     (OP (aY 1 v (I i)) fun cM=>OP (af false 1 (hz h3 ps) cM) fun eR=>OP (aY 1 w (I k)) fun dO=>OP (af false 1 (hz h3 ps) dO) fun jT=>OP (ai .mul eR jT) fun gf=>OP (ai .add bp gf) fun kW=>
      yz prog K (pt h.length 0) (pt (h.length+1) 0) (pt (h.length+2) 0) (sl 3 h3.length 0 (xs.length+ys.length+1)) (I i) (I k) kW L L2 (hz h3 ps))
     (yz prog K (pt h.length 0) (pt (h.length+1) 0) (pt (h.length+2) 0) (sl 3 h3.length 0 (xs.length+ys.length+1)) (I i) (I k) bp L L2 (hz h3 ps)):=by
   intro ie
   have e1:IntKind.wrap .i64 ((ps[i+k]:Int)+(c:Int))=((ps[i+k]+c:Nat):Int):=by rw [wrap64 (by omega) (by omega)];omega
   simp only [cA,ei,ah]
   rw [nz (show i+k<xs.length+ys.length+1 by omega)]
   simp only [ah,ax7 pR,cA,e1,dy.len,cN,cj]
   refine ⟨fun kr=>?_,fun Q2=>?_⟩
   ·have Rd:k<ys.length:=by omega
    obtain ⟨ia,a1,a2⟩:=dx'.get b6
    obtain ⟨ib,b1,b2⟩:=dy'.get Rd
    have kA:ys[k]<10000:=cy.1 _ (getElem_mem Rd)
    have hxy:=azI iz kA
    have PY:((xs[i]:Int)*(ys[k]:Int))=((xs[i]*ys[k]:Nat):Int):=by simp
    have e2:IntKind.wrap .i64 ((ps[i+k]+c:Nat)+(xs[i]*ys[k]:Nat):Int)=((ps[i+k]+c+xs[i]*ys[k]:Nat):Int):=by rw [wrap64 (by omega) (by omega)];omega
    simp only [a1,a2,b1,b2,ah,vP,PY]
    rw [wrap64 (n:=((xs[i]*ys[k]:Nat):Int)) (by omega) (by omega)]
    simp only [cA,ah,e2]
    refine step (xs[i]*ys[k]) hxy ie (fun h=>by omega) ?_
    rw [ji 10000 ys Rd]
    grind
   ·have zY:k=ys.length:=by omega
    have:=step 0 (by omega) ie (fun _=>rfl) (by rw [zY,take_length,take_of_length_le (by omega)];rfl)
    simpa using this
  rw [aCR]
  simp only [b9,zero_add,Az,dy.len,cN,ah]
  have other:∀t:Bool,(t=true→k<ys.length+1)→(t=false→ys.length≤k∧c=0)→aQ (B t) (OP (ai .add (I i) (I k)) fun ee=>OP (aY 1 (sl 3 h3.length 0 (xs.length+ys.length+1)) ee) fun dG=>OP (af false 1 (hz h3 ps) dG) fun ef=>OP (ai .add ef (I c)) fun bp=>
    OP (bc w) fun fz=>OP (ai .lss (I k) fz) fun fQ=>aQ fQ
     (OP (aY 1 v (I i)) fun cM=>OP (af false 1 (hz h3 ps) cM) fun eR=>OP (aY 1 w (I k)) fun dO=>OP (af false 1 (hz h3 ps) dO) fun jT=>OP (ai .mul eR jT) fun gf=>OP (ai .add bp gf) fun kW=>
      yz prog K (pt h.length 0) (pt (h.length+1) 0) (pt (h.length+2) 0) (sl 3 h3.length 0 (xs.length+ys.length+1)) (I i) (I k) kW L L2 (hz h3 ps))
     (yz prog K (pt h.length 0) (pt (h.length+1) 0) (pt (h.length+2) 0) (sl 3 h3.length 0 (xs.length+ys.length+1)) (I i) (I k) bp L L2 (hz h3 ps)))
    (Uz prog K (pt h.length 0) (pt (h.length+1) 0) (pt (h.length+2) 0) (sl 3 h3.length 0 (xs.length+ys.length+1)) (I i) L (hz h3 ps)):=by
   intro t h1 h2
   refine uf (fun he=>body (h1 (by simpa using he))) fun bm=>?_
   obtain ⟨B0,rfl⟩:=h2 (by simpa using bm)
   rw [aCU]
   simp only [cA,ah,fk i (by omega),true_and]
   have aw2:val 10000 (ys.take k)=val 10000 ys:=by rw [take_of_length_le B0]
   refine hL (i+1,ps) ⟨by show i+1≤xs.length;omega,j5,wA,fun j hj fX=>yk j hj (by have:i+1+ys.length≤j:=fX;omega),?_⟩ (by show xs.length-(i+1)<xs.length-i;omega)
   show val 10000 ps=val 10000 (xs.take (i+1))*val 10000 ys
   rw [Aj,Nat.add_mul,←ca,Nat.mul_assoc,←aw2,←yj]
   omega
  by_cases ie:k<ys.length
  ·rw [aW (show (k:Int)<(ys.length:Int) by omega)]
   simp only [al9,fT,ama,dZ,ah,b9,zero_add,Cz,Az,true_and]
   exact other true (fun _=>by omega) (fun h=>by cases h)
  ·rw [aT (show ¬(k:Int)<(ys.length:Int) by omega)]
   simp only [al9,eJ,ama,gj,c8,ah,b9,zero_add,Cz,Az,true_and]
   exact other _ (fun h=>by
    have h0:(0:Int)<(c:Int):=by simpa using h
    apply byContradiction
    intro QP
    have:=hkc (by omega)
    omega) (fun h=>by
    have h0:¬(0:Int)<(c:Int):=by simpa using h
    omega)
 ·have:i=xs.length:=by omega
  subst this
  rw [aCV]
  rw [take_length] at ca
  have pY:af false 1 (hz h3 os) (pt h.length 0)=some (B (decide (a<0))):=EX.load (wI h3 os) x.a0
  have qX:af false 1 (hz h3 os) (pt (h.length+1) 0)=some (B (decide (b<0))):=EX.load (wI h3 os) x.b0
  have e:sl 3 h3.length 0 (xs.length+ys.length+1)=sl 3 h3.length 0 os.length:=by rw [gX]
  simp only [b9,zero_add,ah,pY,qX,D4,if_true,e]
  simp only [O1 (aff h3 os),ah]
  refine Bj (aff h3 os) fC (by omega) ?_
  intro r h5 x5 zr
  have hzv:(if (!(decide (a<0)==decide (b<0)))=true then -(val 10000 os:Int) else (val 10000 os:Int))=a*b:=by
   rw [ca,ex,ey]
   exact aEB a b
  rw [hzv] at zr
  obtain ⟨q,rfl,hq⟩:=id zr
  have g':=((wI h3 os).trans x5).get x.out
  exact BR g' (hk _ _ (((x.ex.trans (wI h3 os)).trans x5).set (by omega) _) (zr.bS g' _))
end
section
def QZ (h:ae) (val:Value) (a b:Int):Prop:=∃u w,val=.agg #[B (decide (a<0)),u,B (decide (b<0)),w]∧gJ h u a.natAbs∧gJ h w b.natAbs
theorem QZ.mono {h h':ae} {v:Value} {a b:Int} (x:EX h h') (p:QZ h v a b):QZ h' v a b:=let ⟨u,w,e,m,n⟩:=p;⟨u,w,e,m.mono x,n.mono x⟩
theorem QZ.bS {h:ae} {v:Value} {a b:Int} {j:Nat} {e:TypeId} {s:Bool} {r:List Value} (p:QZ h v a b) (hj:h[j]?=some (.arr e (.bool s::r))) (o:ak):QZ (h.set j o) v a b:=
 let ⟨u,w,e,m,n⟩:=p;⟨u,w,e,m.bS hj o,n.bS hj o⟩
theorem rj {h:ae} {i:Nat} {e:TypeId} {a b c d x y z w:Value} (hg:h[i]?=some (.arr e [a,b,c,d])):aK 4 h (pt i 0) (.agg #[x,y,z,w])=some (undef,h.set i (.arr e [x,y,z,w])):=by
 simp [aK,qU,hg,fP,cR,Value.cells,setAt]
theorem jh {h:ae} {i:Nat} {e:TypeId} {a b c d:Value} (hg:h[i]?=some (.arr e [a,b,c,d])):af true 4 h (pt i 0)=some (.agg #[a,b,c,d]):=by
 simp [af,aR,hg,cm]
theorem lI {h:ae} {i:Nat} {e:TypeId} {a b c d:Value} (hg:h[i]?=some (.arr e [a,b,c,d])):af true 2 h (pt i 0)=some (.agg #[a,b]):=by
 simp [af,aR,hg,cm]
theorem nj {h:ae} {i:Nat} {e:TypeId} {a b c d:Value} (hg:h[i]?=some (.arr e [a,b,c,d])):af true 2 h (pt i 2)=some (.agg #[c,d]):=by
 simp [af,aR,hg,cm]
theorem sS {h':ae} {j:Nat} {e:TypeId} {b0 v0 c0 w0 a b c d:Value} {K:Value→ae→Prop} (hg:h'[j]?=some (.arr e [b0,v0,c0,w0])) (hk:K (.agg #[a,b,c,d]) (h'.set j (.arr e [a,b,c,d]))):
  OH (aK 4 h' (pt j 0) (.agg #[a,b,c,d])) fun _ h6=>OP (af true 4 h6 (pt j 0)) fun r0=>K r0 h6:=by
 rw [rj hg]
 simp only [aE]
 rw [jh (cU hg)]
 exact ah.2 hk
theorem G4 {b c:Bool} {e e':TypeId} {k k':IntKind} {h h':ae} {v w:Value} {xs ys:List Nat} (d:DS e k h v xs) (d':DS e' k' h' w ys):
  dW [(.bool false),(.slice none 0 0),(.bool false),(.slice none 0 0)] [(0,2,.agg #[B b,v]),(2,2,.agg #[B c,w])]=some (.agg #[B b,v,B c,w]):=by
 rcases d with ⟨rfl,_⟩ | ⟨i,rfl,_⟩ <;> rcases d' with ⟨rfl,_⟩ | ⟨i',rfl,_⟩ <;> rfl
abbrev z4:List Value:=[(.bool false),(.slice none 0 0),(.bool false),(.slice none 0 0)]
theorem ac8 {h h':ae} {j:Nat} {va vb:Value} {a b:Int} {K:Value→ae→Prop} (ha:ZV h' va a) (hb:ZV h' vb b) (x:EX h h') (hj:h.length≤j) (hg:h'[j]?=some (.arr 37 z4)) (hk:∀r h',EX h h'→QZ h' r a b→K r h'):
  OP (dW [(.bool false),(.slice none 0 0),(.bool false),(.slice none 0 0)] [(0,2,va),(2,2,vb)]) fun bj=>OH (aK 4 h' (pt j 0) bj) fun _ h6=>OP (af true 4 h6 (pt j 0)) fun r0=>K r0 h6:=by
 obtain ⟨u,rfl,hu⟩:=ha
 obtain ⟨w,rfl,hw⟩:=hb
 obtain ⟨xs,dx,cx⟩:=id hu
 obtain ⟨ys,dy,cy⟩:=id hw
 rw [G4 dx dy]
 exact ah.2 (sS hg (hk _ _ (x.set hj _) ⟨u,w,rfl,hu.bS hg _,hw.bS hg _⟩))
theorem C20 {z:Int} {h:ae} {K:Value→ae→Prop} (hz:z.natAbs<1000000000000000000) (hk:∀r h',EX h h'→QZ h' r z 1→K r h'):aq prog 20 [I z] h K:=by
 refine f20 ?_
 have e1:ba 37 [(.bool false),(.slice none 0 0),(.bool false),(.slice none 0 0)] h=some (pt h.length 0,h++[.arr 37 z4]):=rfl
 simp only [NY,e1,aE]
 refine Bl hz ?_
 intro r1 h1 x1 z1
 refine Bl (z:=1) (by decide) ?_
 intro r2 h2 x2 z2
 exact ac8 (z1.mono x2) z2 ((EX.append _ _).trans (x1.trans x2)) (le_refl _) ((x1.trans x2).get bZ) hk
structure aFT (h:ae) (a b c d a' b' c' d':Value) (h3:ae):Prop where
 ex:EX h h3
 a0:af true 2 h3 (pt h.length 0)=some (.agg #[a,b])
 a2:af true 2 h3 (pt h.length 2)=some (.agg #[c,d])
 b0:af true 2 h3 (pt (h.length+1) 0)=some (.agg #[a',b'])
 b2:af true 2 h3 (pt (h.length+1) 2)=some (.agg #[c',d'])
 a4:af true 4 h3 (pt h.length 0)=some (.agg #[a,b,c,d])
 b4:af true 4 h3 (pt (h.length+1) 0)=some (.agg #[a',b',c',d'])
 out:h3[h.length+2]?=some (.arr 37 z4)
end
section
def fa (s:List UInt8):Nat:=s.foldl (fun d c=>10*d+(c.toNat-48)) 0
theorem Wb:∀(s:List UInt8) (a:Nat),s.foldl (fun d c=>10*d+(c.toNat-48)) a=a*10^s.length+fa s
 | [],a=>by simp [fa]
 | c::s,a=>by
  have h1:=Wb s (10*a+(c.toNat-48))
  have h2:=Wb s (10*0+(c.toNat-48))
  have e:fa (c::s)=s.foldl (fun d c=>10*d+(c.toNat-48)) (10*0+(c.toNat-48)):=rfl
  rw [e,h2,List.foldl_cons,h1,length_cons,pow_succ]
  generalize 10^s.length=P
  generalize c.toNat-48=d
  generalize fa s=w
  grind
theorem F0 (s t:List UInt8):fa (s++t)=fa s*10^t.length+fa t:=by
 show (s++t).foldl _ 0=_
 rw [List.foldl_append,Wb]
 rfl
theorem Wc (c:UInt8):fa [c]=c.toNat-48:=by simp [fa]
def qu (s:List UInt8):Prop:=∀c∈s,48≤c.toNat∧c.toNat≤57
theorem LM (c:UInt8) (s:List UInt8):fa (c::s)=(c.toNat-48)*10^s.length+fa s:=by
 have:=F0 [c] s
 rw [Wc] at this
 exact this
theorem CZ:∀{s:List UInt8},qu s→fa s<10^s.length
 | [],_=>by simp [fa]
 | c::s,h=>by
  have h1:=CZ (s:=s) fun x hx=>h x (by simp [hx])
  have h2:=h c (by simp)
  rw [LM,length_cons,pow_succ]
  have h3:=Nat.mul_le_mul_right (10^s.length) (show c.toNat-48≤9 by omega)
  omega
end
section
theorem Wd:∀{ds:List Nat},cn 10 ds→fa ((ds.map jc).reverse)=val 10 ds
 | [],_=>rfl
 | d::ds,h=>by
  have h1:=Wd (ds:=ds) fun y hy=>h y (by simp [hy])
  have h2:=h d (by simp)
  rw [List.map_cons,List.reverse_cons,F0,Wc,h1,vT h2]
  simp only [val,List.length_singleton,Nat.pow_one]
  omega
theorem xK {n:Nat} (hn:n<cw):qu (dS n)∧0<(dS n).length∧(dS n).length≤1000∧((dS n).head?=some 48→(dS n).length=1)∧fa (dS n)=n:=by
 obtain ⟨hc,hv⟩:=Iu n
 by_cases h0:n=0
 ·subst h0
  have:dS 0=[48]:=rfl
  rw [this]
  exact ⟨fun c hc=>by simp at hc;subst hc;decide,by simp,by simp,by simp,rfl⟩
 ·have e:dS n=((uB n).map jc).reverse:=by unfold dS;rw [if_neg h0]
  have bm:uB n≠[]:=by
   intro h
   rw [h] at hv
   exact h0 hv.symm
  rw [e]
  refine ⟨?_,?_,?_,?_,?_⟩
  ·intro c QO
   simp only [List.mem_reverse,List.mem_map] at QO
   obtain ⟨d,hd,rfl⟩:=QO
   rw [vT (hc.1 d hd)]
   have:=hc.1 d hd
   omega
  ·simp only [List.length_reverse,List.length_map]
   exact List.length_pos_iff.2 bm
  ·simp only [List.length_reverse,List.length_map]
   show _≤JS
   refine hc.len (by decide) ?_
   rw [hv]
   exact Nat.lt_of_lt_of_le hn Ze
  ·intro qB
   exfalso
   rw [List.head?_reverse,List.getLast?_map] at qB
   cases hl:(uB n).getLast? with
   | none=>rw [hl] at qB;simp at qB
   | some d=>
    rw [hl] at qB
    have hd:d<10:=hc.1 d (List.mem_of_getLast? hl)
    have h3:jc d=48:=by simpa using qB
    have h4:=congrArg UInt8.toNat h3
    rw [vT hd] at h4
    have h5:(48:UInt8).toNat=48:=rfl
    rw [h5] at h4
    have:d=0:=by omega
    subst this
    exact hc.2 hl
  ·rw [Wd hc.1,hv]
def iU (z:Int):List UInt8:=if z<0 then 45::dS z.natAbs else dS z.natAbs
end
end Go.Proofs.YtelmdbpaoifmoaaGreat
