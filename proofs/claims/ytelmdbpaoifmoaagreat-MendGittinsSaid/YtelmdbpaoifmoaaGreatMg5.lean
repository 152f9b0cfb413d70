/-
  Part 5 of the texts behind a statement of this seat: ZR2, Ct45, Ct46, Ct47, Zq1, Sp18, ZN3, Kd1, Kd2, Kd3, Kd4, Kd5, Kd6, Ct41, Zq2, Zq3, Kd7, ZN4, Kd8, Kd9, Kd10, Zp1, ZR3.
-/
import Derived.Test.YtelmdbpaoifmoaaGreatProg
import Derived.KernelRfl
import Derived.Test.YtelmdbpaoifmoaaGreatMg4
open Bool (false_eq_true)
open Classical (byContradiction)
open Go.Proofs.Tryz (prog)
open Int (natAbs_mul natAbs_natCast)
open List (getElem?_eq_getElem getElem?_set_ne getElem_mem length_append length_cons length_nil length_set length_take mem_of_mem_take replicate set_set take_of_length_le)
open Nat (add_mul add_zero div_add_mod gcd le_refl lt_of_lt_of_le min_eq_left mod_eq_of_lt mod_lt mul_assoc mul_comm mul_le_mul_left mul_le_mul_right mul_zero pow_add pow_le_pow_right pow_pos pow_succ zero_add zero_le)
namespace Go.Proofs.YtelmdbpaoifmoaaGreat
open Go.Sim
section
variable (P : Program) (K : VK)
noncomputable section
variable (x0 x1 : Value) (h : ae)
def agy:=bz prog 17 [[],[]]
@[irreducible] def wJ:=bI agy
theorem k17:agy=some (11,wJ,[.cell true 4 4]):=by kernel_rfl
def M9:Prop:=
 OH (aV 37 [(.bool false),(.slice none 0 0),(.bool false),(.slice none 0 0)] h) fun x4 z1=>
 aj P 55 [x0] z1 fun x6 z2=>
 aj P 55 [x1] z2 fun x8 z3=>
 aj P 54 [x6,x8] z3 fun x9 z4=>
 aj P 25 [x9] z4 fun aM z5=>
 OH (aE 4 z5 x4 aM) fun _ z6=>
 OP (af true 4 z6 x4) fun r0=>
 K r0 z6
theorem e17:ak P wJ (aS [.cell true 4 4] K) (bt [x0,x1]) h=M9 P K x0 x1 h:=by kernel_rfl
theorem f17 {K:VK} {x0 x1:Value} {h:ae} (H:M9 prog K x0 x1 h):aj prog 17 [x0,x1] h K:=
 bJ k17 (bH rfl) ((e17 prog K x0 x1 h).mpr H)
end
noncomputable section
variable (q0 : Value) (h : ae)
def agE:=bz prog 25 [[],[],[],[],[]]
@[irreducible] def ZN:=bI agE
theorem k25:agE=some (30,ZN,[.cell true 4 2]):=by kernel_rfl
def Ng:Prop:=
 OH (bm 37 h q0) fun q1 z1=>
 OH (aV 37 [(.bool false),(.slice none 0 0),(.bool false),(.slice none 0 0)] z1) fun x2 z2=>
 OP (aL 0 q1) fun x8=>
 OP (af true 2 z2 x8) fun x9=>
 OP (aL 2 q1) fun aM=>
 OP (af true 2 z2 aM) fun au=>
 aj P 68 [x9,au] z2 fun aB z3=>
 OH (aV 35 [(.bool false),(.slice none 0 0)] z3) fun g3 z4=>
 OH (aE 2 z4 g3 aB) fun _ z5=>
 OP (aL 0 q1) fun aH=>
 OP (af true 2 z5 aH) fun ba=>
 OP (af true 2 z5 g3) fun bk=>
 aj P 69 [ba,bk] z5 fun bM z6=>
 OP (b9 0 bM) fun aP=>
 OP (b9 1 bM) fun aO=>
 OH (aV 35 [(.bool false),(.slice none 0 0)] z6) fun n4 z7=>
 OH (aV 35 [(.bool false),(.slice none 0 0)] z7) fun x5 z8=>
 OH (aE 2 z8 n4 aP) fun _ z9=>
 OH (aE 2 z9 x5 aO) fun _ jd=>
 OP (aL 2 q1) fun aY=>
 OP (af true 2 jd aY) fun bE=>
 OP (af true 2 jd g3) fun ck=>
 aj P 69 [bE,ck] jd fun bu jY=>
 OP (b9 0 bu) fun bY=>
 OP (b9 1 bu) fun cg=>
 OH (aV 35 [(.bool false),(.slice none 0 0)] jY) fun d6 mE=>
 OH (aV 35 [(.bool false),(.slice none 0 0)] mE) fun x7 pX=>
 OH (aE 2 pX d6 bY) fun _ uD=>
 OH (aE 2 uD x7 cg) fun _ lY=>
 OP (af true 2 lY n4) fun bW=>
 OP (af true 2 lY d6) fun cC=>
 OP (dc [(.bool false),(.slice none 0 0),(.bool false),(.slice none 0 0)] [(0,2,bW),(2,2,cC)]) fun cG=>
 OH (aE 4 lY x2 cG) fun _ uE=>
 OP (af true 4 uE x2) fun r0=>
 K r0 uE
theorem e25:ak P ZN (aS [.cell true 4 2] K) (bt [q0]) h=Ng P K q0 h:=by kernel_rfl
theorem f25 {K:VK} {q0:Value} {h:ae} (H:Ng prog K q0 h):aj prog 25 [q0] h K:=
 bJ k25 (bH rfl) ((e25 prog K q0 h).mpr H)
end
noncomputable section
variable (a0 b1 : Value) (h : ae)
def agI:=bz prog 29 [[],[]]
@[irreducible] def ZR:=bI agI
theorem k29:agI=some (16,ZR,[.tmp 4]):=by kernel_rfl
def Nk:Prop:=
 OH (bm 37 h a0) fun a2 z1=>
 OH (bm 37 z1 b1) fun b3 z2=>
 OP (aL 0 a2) fun x5=>
 OP (af true 2 z2 x5) fun x6=>
 (True)∧
 OP (aL 2 b3) fun x7=>
 OP (af true 2 z2 x7) fun x8=>
 (True)∧
 aj P 71 [x6,x8] z2 fun x9 z3=>
 (True)∧
 OP (aL 0 b3) fun aM=>
 OP (af true 2 z3 aM) fun au=>
 (af true 2 z2 aM=some au∧True)∧
 OP (aL 2 a2) fun aB=>
 OP (af true 2 z3 aB) fun aA=>
 (af true 2 z2 aB=some aA∧True)∧
 aj P 71 [au,aA] z3 fun aH z4=>
 (True)∧
 aj P 72 [x9,aH] z4 fun ba z5=>
 (True)∧
 K ba z5
theorem e29:ak P ZR (aS [.tmp 4] K) (bt [a0,b1]) h=Nk P K a0 b1 h:=by kernel_rfl
theorem f29 {K:VK} {a0 b1:Value} {h:ae} (H:Nk prog K a0 b1 h):aj prog 29 [a0,b1] h K:=
 bJ k29 (bH rfl) ((e29 prog K a0 b1 h).mpr H)
end
noncomputable section
variable (q0 q1 s4 d5 aP aY : Value) (h : ae)
def agN:=bz prog 53 [[],[],[],[1,4,5,18],[1,4,5,18,21],[],[],[],[],[4,5],[],[4],[]]
@[irreducible] def C2:=bI agN
@[irreducible] def aaa:=C2.r.r.r.l.l.r.l
@[irreducible] def arG:=C2.r.r.r.l.r
@[irreducible] def Z9:=C2.r.r.r.r
@[irreducible] def arH:=aaa.r.l
@[irreducible] def Z8:=Z9.r.l
@[irreducible] def arF:=Z8.r.l
theorem k53:agN=some (35,C2,[.tmp 2,.tmp 3]):=by kernel_rfl
def FT (_P:Program) (K:VK):ar:=aS [.tmp 2,.tmp 3] K
def Xb:ar:=aF (ak P Z9 (FT P K)) (FT P K)
def Xc:ar:=aF (ak P arG (Xb P K)) (Xb P K)
def aiO:Prop:=ay (ak P aaa (Xc P K)) [1,4,5,18] [q1,s4,d5,aP] h
def Tm:Prop:=ay (ak P arH (Xc P K)) [1,4,5,18,21] [q1,s4,d5,aP,aY] h
def JU:Prop:=ay (ak P Z8 (FT P K)) [4,5] [s4,d5] h
def Tl:Prop:=ay (ak P arF (FT P K)) [4] [s4] h
theorem aAP:Tm P K q1 s4 d5 aP aY h=
 (OP (bP aP (.bool true) aY) fun bE=>
 aQ bE
 (K (.tuple #[(.string ⟨#[]⟩),(.bool false)]) h)
 (OP (aL 0 q1) fun ck=>
 OP (aL 0 ck) fun bu=>
 OP (af false 1 h bu) fun bY=>
 aQ bY
 (OP (ai .add (.string ⟨#[45]⟩) s4) fun bW=>
 JU P K bW d5 h)
 (JU P K s4 d5 h))):=az (by kernel_rfl)
theorem aAO:aiO P K q1 s4 d5 aP h=
 (cm aP false
 (OP (gv d5) fun aW=>
 OP (ai .gtr aW (.int .i64 (4000))) fun aY=>
 Tm P K q1 s4 d5 aP aY h)
 (Tm P K q1 s4 d5 aP undef h)):=az (by kernel_rfl)
theorem akW:Tl P K s4 h=
 (K (.tuple #[s4,(.bool true)]) h):=az (by kernel_rfl)
theorem aAN:JU P K s4 d5 h=
 (OP (ai .neq d5 (.string ⟨#[49]⟩)) fun cG=>
 aQ cG
 (OP (ai .add (.string ⟨#[47]⟩) d5) fun cO=>
 OP (ai .add s4 cO) fun dB=>
 Tl P K dB h)
 (Tl P K s4 h)):=az (by kernel_rfl)
def Np:Prop:=
 OH (bm 37 h q0) fun q1 z1=>
 OP (af true 4 z1 q1) fun x6=>
 aj P 25 [x6] z1 fun x7 z2=>
 OH (aE 4 z2 q1 x7) fun _ z3=>
 OP (aL 0 q1) fun x8=>
 OP (af true 2 z3 x8) fun x9=>
 (True)∧
 aj P 94 [x9] z3 fun aM z4=>
 (True)∧
 aj P 93 [aM] z4 fun au z5=>
 (True)∧
 OP (aL 2 q1) fun aB=>
 OP (af true 2 z5 aB) fun aA=>
 (af true 2 z3 aB=some aA∧af true 2 z4 aB=some aA∧True)∧
 aj P 93 [aA] z5 fun aH z6=>
 (True)∧
 OP (gv au) fun bk=>
 OP (ai .gtr bk (.int .i64 (4000))) fun bM=>
 aiO P K q1 au aH bM z6
theorem e53:ak P C2 (aS [.tmp 2,.tmp 3] K) (bt [q0]) h=Np P K q0 h:=by kernel_rfl
theorem f53 {K:VK} {q0:Value} {h:ae} (H:Np prog K q0 h):aj prog 53 [q0] h K:=
 bJ k53 (bH rfl) ((e53 prog K q0 h).mpr H)
end
noncomputable section
variable (a0 b1 a2 b3 x4 : Value) (L1 : LQ) (xs : List Value) (h : ae)
def ag0:=bz prog 68 [[],[],[2,3,4],[],[],[],[],[2,4],[]]
@[irreducible] def G7:=bI ag0
@[irreducible] def asd:=G7.r.r.l.l.l
@[irreducible] def aaF:=G7.r.r.r
@[irreducible] def asc:=aaF.l
theorem k68:ag0=some (24,G7,[.cell true 2 4]):=by kernel_rfl
def L8 (_P:Program) (K:VK):ar:=aS [.cell true 2 4] K
def aoS:ar:=aF (ak P aaF (L8 P K)) (L8 P K)
def aoT:ar:=bN 0 (aoS P K)
def aoU:ar:=aF (fun f' aT=>(([2,3,4]:List Nat).map f':List Value)=[a2,b3,x4]∧L1 (([]:List Nat).map f') aT) (aoT P K)
def ajd:Prop:=ay (ak P asd (aoU P K a2 b3 x4 L1)) ([2,3,4]++[]) ([a2,b3,x4]++xs) h
def ajc:Prop:=ay (ak P asc (L8 P K)) [2,4] [a2,x4] h
theorem aBq:ajd P K a2 b3 x4 L1 [] h=
 (OP (aL 1 b3) fun au=>
 OP (af false 1 h au) fun aB=>
 OP (bj aB) fun aA=>
 OP (ai .gtr aA (.int .i64 (0))) fun aH=>
 aQ aH
 (OP (af true 2 h a2) fun bk=>
 OP (af true 2 h b3) fun bM=>
 aj P 69 [bk,bM] h fun aP z1=>
 OP (b9 0 aP) fun aO=>
 OP (b9 1 aP) fun aW=>
 OH (aV 35 [(.bool false),(.slice none 0 0)] z1) fun x5 z2=>
 OH (aV 35 [(.bool false),(.slice none 0 0)] z2) fun x6 z3=>
 OH (aE 2 z3 x5 aO) fun _ z4=>
 OH (aE 2 z4 x6 aW) fun _ z5=>
 OP (af true 2 z5 b3) fun aY=>
 (True)∧
 OP (af true 2 z5 x6) fun bE=>
 (True)∧
 OH (aE 2 z5 a2 aY) fun _ z6=>
 (af true 2 z6 x6=some bE∧True)∧
 OH (aE 2 z6 b3 bE) fun _ z7=>
 (True)∧
 ([a2,b3,x4]:List Value)=[a2,b3,x4]∧L1 [] z7)
 (ajc P K a2 x4 h)):=az (by kernel_rfl)
theorem aBp:ajc P K a2 x4 h=
 (OP (af true 2 h a2) fun ck=>
 OH (aE 2 h x4 ck) fun _ z1=>
 OP (af true 2 z1 x4) fun r0=>
 K r0 z1):=az (by kernel_rfl)
def NA:Prop:=
 OH (bm 35 h a0) fun a2 z1=>
 OH (bm 35 z1 b1) fun b3 z2=>
 OH (aV 35 [(.bool false),(.slice none 0 0)] z2) fun x4 z3=>
 OP (af true 2 z3 a2) fun x7=>
 (True)∧
 aj P 94 [x7] z3 fun x8 z4=>
 (True)∧
 OP (af true 2 z4 b3) fun x9=>
 (af true 2 z3 b3=some x9∧True)∧
 aj P 94 [x9] z4 fun aM z5=>
 (True)∧
 OH (aE 2 z5 a2 x8) fun _ z6=>
 (True)∧
 OH (aE 2 z6 b3 aM) fun _ z7=>
 (True)∧
 cM [] z7 fun L1 xs hx=>
 ajd P K a2 b3 x4 L1 xs hx
theorem e68:ak P G7 (aS [.cell true 2 4] K) (bt [a0,b1]) h=NA P K a0 b1 h:=by kernel_rfl
theorem f68 {K:VK} {a0 b1:Value} {h:ae} (H:NA prog K a0 b1 h):aj prog 68 [a0,b1] h K:=
 bJ k68 (bH rfl) ((e68 prog K a0 b1 h).mpr H)
end
noncomputable section
variable (a0 b1 a2 b3 x4 x5 q6 x7 i8 x9 aM aB aA fw gI : Value) (L1 L2 : LQ) (xs : List Value) (h : ae)
def ag1:=bz prog 69 [[],[],[],[2,3,4,5,6],[7,8],[],[],[],[],[2,3,4,5,6,7,8],[9,10],[],[],[],[],[2,3,4,5,6,7,8,9],[],[2,3,4,5,6,7,8],[2,3,4,5,6,7],[],[3,4,5,12,13,78],[3,4,5,12,13,78,82],[],[],[],[]]
@[irreducible] def G8:=bI ag1
@[irreducible] def Ha:=G8.r.r.l.r.l.l
@[irreducible] def aaI:=G8.r.r.r
@[irreducible] def ase:=Ha.r.l.l.r.r.l.l.l
@[irreducible] def aaG:=Ha.r.l.l.r.r.r
@[irreducible] def aaJ:=Ha.r.r
@[irreducible] def G9:=aaI.l
@[irreducible] def asf:=aaG.l
@[irreducible] def ash:=aaJ.l
@[irreducible] def aaH:=G9.r.l.l.r.l
@[irreducible] def asj:=G9.r.l.r
@[irreducible] def asi:=G9.r.r
@[irreducible] def asl:=aaH.r.l
theorem k69:ag1=some (92,G8,[.cell true 2 4,.cell true 2 5]):=by kernel_rfl
def CG (_P:Program) (K:VK):ar:=aS [.cell true 2 4,.cell true 2 5] K
def aoY:ar:=aF (ak P aaI (CG P K)) (CG P K)
def aoZ:ar:=bN 0 (aoY P K)
def FX:ar:=aF (fun f' aT=>(([2,3,4,5,6]:List Nat).map f':List Value)=[a2,b3,x4,x5,q6]∧L1 (([7,8]:List Nat).map f') aT) (aoZ P K)
def ao0:ar:=aF (ak P aaJ (FX P K a2 b3 x4 x5 q6 L1)) (FX P K a2 b3 x4 x5 q6 L1)
def L9:ar:=bN 1 (ao0 P K a2 b3 x4 x5 q6 L1)
def aoV:ar:=aF (ak P aaG (L9 P K a2 b3 x4 x5 q6 L1)) (L9 P K a2 b3 x4 x5 q6 L1)
def aoW:ar:=bN 2 (aoV P K a2 b3 x4 x5 q6 L1)
def aoX:ar:=aF (fun f' aT=>(([2,3,4,5,6,7,8]:List Nat).map f':List Value)=[a2,b3,x4,x5,q6,x7,i8]∧L2 (([9,10]:List Nat).map f') aT) (aoW P K a2 b3 x4 x5 q6 L1)
def Xq:ar:=aF (ak P asi (CG P K)) (CG P K)
def Xr:ar:=aF (ak P asj (Xq P K)) (Xq P K)
def ajj:Prop:=ay (ak P Ha (FX P K a2 b3 x4 x5 q6 L1)) ([2,3,4,5,6]++[7,8]) ([a2,b3,x4,x5,q6]++xs) h
def aje:Prop:=ay (ak P ase (aoX P K a2 b3 x4 x5 q6 x7 i8 L1 L2)) ([2,3,4,5,6,7,8]++[9,10]) ([a2,b3,x4,x5,q6,x7,i8]++xs) h
def ajf:Prop:=ay (ak P asf (L9 P K a2 b3 x4 x5 q6 L1)) [2,3,4,5,6,7,8,9] [a2,b3,x4,x5,q6,x7,i8,x9] h
def ajg:Prop:=ay (ak P ash (FX P K a2 b3 x4 x5 q6 L1)) [2,3,4,5,6,7,8] [a2,b3,x4,x5,q6,x7,i8] h
def ajh:Prop:=ay (ak P G9 (CG P K)) [2,3,4,5,6,7] [a2,b3,x4,x5,q6,x7] h
def aji:Prop:=ay (ak P aaH (Xr P K)) [3,4,5,12,13,78] [b3,x4,x5,aB,aA,fw] h
def EV:Prop:=ay (ak P asl (Xr P K)) [3,4,5,12,13,78,82] [b3,x4,x5,aB,aA,fw,gI] h
theorem aBr (a2 b3 x4 x5 q6 x7 i8:Value) (L1 L2:LQ) (x9 aM:Value) (h:ae):aje P K a2 b3 x4 x5 q6 x7 i8 L1 L2 [x9,aM] h=
 (OP (ai .sub aM x9) fun dU=>
 OP (ai .gtr dU (.int .i64 (1))) fun ef=>
 aQ ef
 (OP (ai .add x9 aM) fun bG=>
 OP (ai .quo bG (.int .i64 (2))) fun cI=>
 OP (aL 1 b3) fun dm=>
 OP (af false 1 h dm) fun nK=>
 aj P 102 [nK,cI] h fun gB z1=>
 aj P 101 [gB,x7] z1 fun cD z2=>
 OP (ai .leq cD (.int .i64 (0))) fun cX=>
 aQ cX
 (([a2,b3,x4,x5,q6,x7,i8]:List Value)=[a2,b3,x4,x5,q6,x7,i8]∧L2 [cI,aM] z2)
 (([a2,b3,x4,x5,q6,x7,i8]:List Value)=[a2,b3,x4,x5,q6,x7,i8]∧L2 [x9,cI] z2))
 (ajf P K a2 b3 x4 x5 q6 x7 i8 x9 L1 h)):=az (by kernel_rfl)
theorem aBs:ajf P K a2 b3 x4 x5 q6 x7 i8 x9 L1 h=
 (OP (bc 1 q6 i8) fun fW=>
 OH (aE 1 h fW x9) fun _ z1=>
 OP (aL 1 b3) fun kn=>
 OP (af false 1 z1 kn) fun fQ=>
 aj P 102 [fQ,x9] z1 fun ko z2=>
 aj P 103 [x7,ko] z2 fun iY z3=>
 OP (dc [(.bool false),(.slice none 0 0)] [(1,1,iY)]) fun gf=>
 aj P 100 [gf] z3 fun kQ z4=>
 OP (zt false 1 1 kQ) fun gh=>
 ajg P K a2 b3 x4 x5 q6 gh i8 L1 z4):=az (by kernel_rfl)
theorem aBt:ajg P K a2 b3 x4 x5 q6 x7 i8 L1 h=
 (OP (ai .sub i8 (.int .i64 (1))) fun cg=>
 ([a2,b3,x4,x5,q6]:List Value)=[a2,b3,x4,x5,q6]∧L1 [x7,cg] h):=az (by kernel_rfl)
theorem aBw (a2 b3 x4 x5 q6:Value) (L1:LQ) (x7 i8:Value) (h:ae):ajj P K a2 b3 x4 x5 q6 L1 [x7,i8] h=
 (OP (ai .geq i8 (.int .i64 (0))) fun bu=>
 aQ bu
 (OP (aL 1 a2) fun bW=>
 OP (af false 1 h bW) fun cC=>
 OP (bc 1 cC i8) fun dj=>
 OP (af false 1 h dj) fun cA=>
 OH (dH 3 1 [(.int .i64 (0))] h [(0,1,cA)]) fun cO z1=>
 OH (dT 3 1 8 z1 cO x7) fun cP z2=>
 OP (dc [(.bool false),(.slice none 0 0)] [(1,1,cP)]) fun cZ=>
 aj P 100 [cZ] z2 fun cT z3=>
 OP (zt false 1 1 cT) fun fm=>
 cM [(.int .i64 (0)),(.int .i64 (10000))] z3 fun L2 xs hx=>
 aje P K a2 b3 x4 x5 q6 fm i8 L1 L2 xs hx)
 (ajh P K a2 b3 x4 x5 q6 x7 h)):=az (by kernel_rfl)
theorem Uj:EV P K b3 x4 x5 aB aA fw gI h=
 (OP (bP fw gI (.bool false)) fun lX=>
 aQ lX
 (OP (af true 2 h aB) fun gJ=>
 (True)∧
 aj P 55 [(.int .i64 (1))] h fun rW z1=>
 (af true 2 z1 aB=some gJ∧True)∧
 aj P 92 [gJ,rW] z1 fun nL z2=>
 (True)∧
 OP (af true 2 z2 b3) fun rX=>
 (af true 2 h b3=some rX∧af true 2 z1 b3=some rX∧True)∧
 OP (af true 2 z2 aA) fun nM=>
 (af true 2 h aA=some nM∧af true 2 z1 aA=some nM∧True)∧
 aj P 92 [rX,nM] z2 fun iZ z3=>
 (True)∧
 OH (aE 2 z3 x4 nL) fun _ z4=>
 (True)∧
 OH (aE 2 z4 x5 iZ) fun _ z5=>
 (True)∧
 OP (af true 2 z5 x4) fun r0=>
 OP (af true 2 z5 x5) fun r1=>
 K (.tuple #[r0,r1]) z5)
 (OP (af true 2 h aB) fun oC=>
 (True)∧
 OP (af true 2 h aA) fun gS=>
 (True)∧
 OH (aE 2 h x4 oC) fun _ z1=>
 (af true 2 z1 aA=some gS∧True)∧
 OH (aE 2 z1 x5 gS) fun _ z2=>
 (True)∧
 OP (af true 2 z2 x4) fun r0=>
 OP (af true 2 z2 x5) fun r1=>
 K (.tuple #[r0,r1]) z2)):=az (by kernel_rfl)
theorem aBv:aji P K b3 x4 x5 aB aA fw h=
 (cm fw true
 (OP (aL 1 aA) fun jW=>
 OP (af false 1 h jW) fun qY=>
 OP (bj qY) fun jK=>
 OP (ai .gtr jK (.int .i64 (0))) fun gI=>
 EV P K b3 x4 x5 aB aA fw gI h)
 (EV P K b3 x4 x5 aB aA fw undef h)):=az (by kernel_rfl)
theorem aBu:ajh P K a2 b3 x4 x5 q6 x7 h=
 (OP (aL 0 a2) fun gj=>
 OP (af false 1 h gj) fun fM=>
 OP (dc [(.bool false),(.slice none 0 0)] [(0,1,fM),(1,1,q6)]) fun iC=>
 aj P 100 [iC] h fun lW z1=>
 OP (dc [(.bool false),(.slice none 0 0)] [(1,1,x7)]) fun jI=>
 aj P 100 [jI] z1 fun jJ z2=>
 OH (aV 35 [(.bool false),(.slice none 0 0)] z2) fun aB z3=>
 OH (aV 35 [(.bool false),(.slice none 0 0)] z3) fun aA z4=>
 OH (aE 2 z4 aB lW) fun _ z5=>
 OH (aE 2 z5 aA jJ) fun _ z6=>
 OP (aL 0 a2) fun kr=>
 OP (af false 1 z6 kr) fun iN=>
 aji P K b3 x4 x5 aB aA iN z6):=az (by kernel_rfl)
def NB:Prop:=
 OH (bm 35 h a0) fun a2 z1=>
 OH (bm 35 z1 b1) fun b3 z2=>
 OH (aV 35 [(.bool false),(.slice none 0 0)] z2) fun x4 z3=>
 OH (aV 35 [(.bool false),(.slice none 0 0)] z3) fun x5 z4=>
 OP (aL 1 a2) fun aH=>
 OP (af false 1 z4 aH) fun ba=>
 OP (bj ba) fun bk=>
 OH (mV 3 8 [(.int .i64 (0))] z4 bk bk) fun bM z5=>
 OH (dH 3 0 [(.int .i64 (0))] z5 []) fun aP z6=>
 OP (aL 1 a2) fun aO=>
 OP (af false 1 z6 aO) fun aW=>
 OP (bj aW) fun aY=>
 OP (ai .sub aY (.int .i64 (1))) fun bE=>
 cM [aP,bE] z6 fun L1 xs hx=>
 ajj P K a2 b3 x4 x5 bM L1 xs hx
theorem e69:ak P G8 (aS [.cell true 2 4,.cell true 2 5] K) (bt [a0,b1]) h=NB P K a0 b1 h:=by kernel_rfl
theorem f69 {K:VK} {a0 b1:Value} {h:ae} (H:NB prog K a0 b1 h):aj prog 69 [a0,b1] h K:=
 bJ k69 (bH rfl) ((e69 prog K a0 b1 h).mpr H)
end
end
section
theorem Gl {e:TypeId} {k:IntKind} {h:ae} {v:Value} {xs:List Nat} (d:DS e k h v xs):dc [(.bool false),(.slice none 0 0)] [(1,1,v)]=some (.agg #[B false,v]):=by
 rcases d with ⟨rfl,_⟩ | ⟨i,rfl,_⟩ <;> rfl
theorem PO (b:Bool) (v:Value):zt false 1 1 (.agg #[B b,v])=some v:=rfl
theorem ph {n:Nat} (h:n<10000^201):n<br:=by
 refine lt_of_lt_of_le h ?_
 unfold br
 decide+kernel
theorem fD.Fi {h:ae} {v:Value} {n:Nat} (p:fD h v n):ZV h (.agg #[B false,v]) (n:Int):=⟨v,by rw [aU (by omega)],by simpa using p⟩
theorem VO {v:Value} {n d:Nat} {h:ae} {K:Value→ae→Prop} (hv:fD h v n) (hn:n<10000^200) (hd:d≤10000) (hk:∀r h',EX h h'→fD h' r (n*d)→K r h'):aj prog 102 [v,I d] h K:=by
 have vA:n<br:=ph (by
  have:(10000:Nat)^201=10000^200*10000:=by decide+kernel
  omega)
 have awe:n*d<br:=by
  refine ph ?_
  have h1:n*d≤n*10000:=mul_le_mul_left _ hd
  have:(10000:Nat)^201=10000^200*10000:=by decide+kernel
  omega
 refine f102 ?_
 obtain ⟨xs,dx,cx⟩:=id hv
 simp only [Mv,Gl dx,ah]
 refine uG (z:=d) (by omega) ?_
 intro r1 h1 x1 z1
 refine wy (hv.Fi.mono x1) z1 (by simpa using vA) (by have:=ph (n:=10000) (by decide+kernel);simp;omega) ?_
 intro r2 h2 x2 z2
 obtain ⟨u,rfl,hu⟩:=z2
 have e1:((n:Int)*(d:Int)).natAbs=n*d:=by rw [natAbs_mul];simp
 rw [e1] at hu
 have e2:decide ((n:Int)*(d:Int)<0)=false:=by
  have oT:(n:Int)*(d:Int)=((n*d:Nat):Int):=by simp
  exact aU (by omega)
 rw [e2]
 obtain ⟨ys,dy,cy,vy⟩:=hu
 have ly:=rh cy (by rw [vy];exact awe)
 refine xM dy cy.1 (by omega) ?_
 intro r3 h3 x3 z3
 simp only [false_eq_true,if_false,vy] at z3
 obtain ⟨w,rfl,hw⟩:=z3
 rw [PO]
 rw [natAbs_natCast] at hw
 exact ah.2 (hk _ _ ((x1.trans x2).trans x3) hw)
theorem fD.ax0 {h h':ae} {n i m:Nat} (p:fD h (sl 3 i 0 m) n) (hi:h'[i]?=h[i]?):fD h' (sl 3 i 0 m) n:=by
 obtain ⟨xs,d,c,v⟩:=p
 refine ⟨xs,?_,c,v⟩
 rcases d with ⟨h1,h2⟩ | ⟨j,h1,h2⟩
 ·cases h1
 ·obtain ⟨rfl,rfl⟩:=UU h1
  refine .inr ⟨i,rfl,h2.imp id ?_⟩
  rintro ⟨r,hr⟩
  refine ⟨r,?_⟩
  unfold aR at hr⊢
  rw [hi];exact hr
theorem atG {h:ae} {v:Value} {ys:List Nat} {d:Nat} {K:Value→ae→Prop} (p:DS 3 .i64 h v ys) (hl:ys.length≤1000) (hk:∀r h',EX h h'→DS 3 .i64 h' r (d::ys)→K r h'):
  OH (dH 3 1 [.int .i64 0] h [(0,1,I d)]) fun a h1=>OH (dT 3 1 8 h1 a v) K:=by
 have e1:dH 3 1 [.int .i64 0] h [(0,1,I d)]=some (sl 3 h.length 0 1,h++[.arr 3 [I d]]):=rfl
 rw [e1]
 simp only [aC]
 obtain ⟨c1,c2⟩:=(p.mono (EX.append h [.arr 3 [I d]])).cells
 by_cases oh:ys.length=0
 ·have:ys=[]:=List.length_eq_zero_iff.1 oh
  subst this
  have e2:dT 3 1 8 (h++[.arr 3 [I d]]) (sl 3 h.length 0 1) v=some (sl 3 h.length 0 1,h++[.arr 3 [I d]]):=by
   simp [dT,c1,c2,sl,maxLen]
  rw [e2]
  simp only [aC]
  exact hk _ _ (EX.append _ _) (.inr ⟨h.length,rfl,.inr ⟨[],by simp [aR]⟩⟩)
 ·have hg:(h++[aq.arr 3 [I d]])[h.length]?=some (.arr 3 [I d]):=bn
  have e2:dT 3 1 8 (h++[.arr 3 [I d]]) (sl 3 h.length 0 1) v=some (sl 3 (h.length+1) 0 (1+ys.length),(h++[aq.arr 3 [I d]]).set h.length .dead++[.arr 3 ([I d]++ys.map fun d:Nat=>I d)]):=by
   simp only [dT,c1,c2]
   simp only [sl,hg]
   rw [if_pos ⟨trivial,trivial,by simp,by omega,by unfold maxLen;omega⟩,if_neg oh]
   simp
  rw [e2]
  simp only [aC]
  refine hk _ _ (((EX.append _ _).set (le_refl _) _).push _) (.inr ⟨h.length+1,by rw [length_cons,Nat.add_comm 1],.inr ⟨[],?_⟩⟩)
  unfold aR
  rw [List.getElem?_append_right (by simp)]
  simp
theorem al5 (B:Nat) (xs:List Nat) {i:Nat} (hi:i<xs.length):val B (xs.drop i)=xs[i]+B*val B (xs.drop (i+1)):=by
 rw [List.drop_eq_getElem_cons hi];rfl
theorem alJ {a b:Nat}:m8 a b≤0↔a≤b:=by
 unfold m8
 split
 ·constructor <;> omega
 ·split <;> constructor <;> omega
theorem Lp {va vb:Value} {a b:Int} {h:ae} {K:Value→ae→Prop} (ha:ZV h va a) (hb:ZV h vb b) (oO:0<b) (la:a.natAbs<10000^199) (lb:b.natAbs<10000^199)
  (hk:∀r s h',EX h h'→ZV h' r (a / b)→ZV h' s (a%b)→K (.tuple #[r,s]) h'):aj prog 69 [va,vb] h K:=by
 obtain ⟨v,rfl,hv⟩:=ha
 obtain ⟨w,rfl,hw⟩:=hb
 have aFh:(10000:Nat)^200=10000^199*10000:=by decide+kernel
 have aFi:(10000:Nat)^201=10000^200*10000:=by decide+kernel
 refine f69 ?_
 unfold NB
 refine Gj ?_
 intro h3 x
 obtain ⟨B,hBb⟩:∃B:Nat,b=B:=⟨b.toNat,by omega⟩
 subst hBb
 have hB0:0<B:=by omega
 have hBl:B<10000^199:=by simpa using lb
 obtain ⟨xs,dx,cx,ex⟩:=hv.mono x.ex
 have l1:=rh cx (by rw [ex];exact ph (by omega))
 have hwB:fD h3 w B:=by have:=hw.mono x.ex;simpa using this
 have e2:aV 35 [(.bool false),(.slice none 0 0)] h3=some (pt h3.length 0,h3++[.arr 35 [(.bool false),(.slice none 0 0)]]):=rfl
 simp only [e2,aC,cn,zero_add]
 have x4:EX h3 (h3++[.arr 35 [(.bool false),(.slice none 0 0)]]):=EX.append _ _
 have g5:(h3++[aq.arr 35 [(.bool false),(.slice none 0 0)]])[h3.length]?=some (.arr 35 [(.bool false),(.slice none 0 0)]):=bn
 have qp:h.length+2<h3.length:=(bK x.out).1
 generalize hh4:h3++[aq.arr 35 [(.bool false),(.slice none 0 0)]]=h4 at x4 g5⊢
 have hl4:h4.length=h3.length+1:=by rw [←hh4];simp
 clear hh4
 have Pr:=dx.mono x4
 simp only [EX.load x4 x.a1,ah,Pr.len,afg (show xs.length≤1000 by omega),aC,Si]
 have e6:IntKind.wrap .i64 ((xs.length:Int)-1)=(xs.length:Int)-1:=wrap64 (by omega) (by omega)
 have x6:EX h4 (hz h4 (replicate xs.length 0)++[.arr 3 []]):=(vJ h4 _).push _
 simp only [EX.load (x4.trans x6) x.a1,ah,Pr.len,gq,e6]
 have Bt:(hz h4 (replicate xs.length 0)++[aq.arr 3 []])[h4.length]?=some (.arr 3 ((replicate xs.length 0).map fun d:Nat=>I d)):=by
  rw [List.getElem?_append_left (by simp [hz])];exact aek _ _
 have sM:fD (hz h4 (replicate xs.length 0)++[aq.arr 3 []]) (sl 3 (hz h4 (replicate xs.length 0)).length 0 0) 0:=⟨[],.inr ⟨_,rfl,.inl rfl⟩,dw.nil _,rfl⟩
 refine dL (σ:=Nat×Nat×Value×List Nat×ae) (fun p=>[p.2.2.1,I ((p.1:Int)-1)]) (fun p=>p.2.2.2.2)
  (fun p=>p.1≤xs.length∧EX h4 p.2.2.2.2∧p.2.2.2.2[h4.length]?=some (.arr 3 (p.2.2.2.1.map fun d:Nat=>I d))∧p.2.2.2.1.length=xs.length∧cd 10000 p.2.2.2.1∧fD p.2.2.2.2 p.2.2.1 p.2.1∧p.2.1<B∧val 10000 (p.2.2.2.1.drop p.1)*B+p.2.1=val 10000 (xs.drop p.1)) (fun p=>p.1)
  (xs.length,0,_,replicate xs.length 0,_) rfl rfl ⟨le_refl _,x6,Bt,by simp,cd.wx (by decide) _,sM,hB0,by simp [val]⟩ ?_
 rintro ⟨i,R,rv,qs,g⟩ ⟨hi,xg,hq,qv,QY,hR,hRB,bT⟩ L hL
 simp only at hi xg hq qv QY hR hRB bT hL⊢
 have BN:∀{g'},EX h4 g'→af false 1 g' (pt h.length 1)=some v:=fun y=>EX.load (x4.trans y) x.a1
 have zF:∀{g'},EX h4 g'→af false 1 g' (pt (h.length+1) 1)=some w:=fun y=>EX.load (x4.trans y) x.b1
 rw [aBw]
 simp only [nS,ah,bX]
 refine ⟨fun cK=>?_,fun aD=>?_⟩
 ·obtain ⟨j,rfl⟩:∃j,i=j+1:=⟨i-1,by omega⟩
  have ej:((j+1:Nat):Int)-1=(j:Int):=by omega
  have xa:j<xs.length:=by omega
  obtain ⟨ia,a1,a2⟩:=(Pr.mono xg).get xa
  have Rn:xs[j]<10000:=cx.1 _ (getElem_mem xa)
  have I0:=al5 10000 xs xa
  rw [ej]
  simp only [cn,zero_add,BN xg,ah,a1,a2]
  obtain ⟨rs,dr,cr,vr⟩:=id hR
  have lr:=rh cr (by rw [vr];exact ph (by omega))
  refine atG dr (by omega) ?_
  intro r1 g1 y1 d1
  simp only [Gl d1,ah]
  refine VM d1 (fun z hz=>by
   rcases List.mem_cons.1 hz with rfl | hz
   ·exact Rn
   ·exact cr.1 z hz) (by simp;omega) ?_
  rintro r2 g2 y2 z2 ⟨fb,fi,fn,rfl,hfi⟩
  have ev:val 10000 (xs[j]::rs)=xs[j]+10000*R:=by simp only [val,vr]
  simp only [false_eq_true,if_false,ev] at z2
  obtain ⟨rw2,By,IW⟩:=z2
  injection By with By
  injection By with By
  simp only [List.cons.injEq,and_true] at By
  obtain ⟨_,rfl⟩:=By
  rw [PO]
  have Ra:fD g2 (sl 3 fi 0 fn) (xs[j]+10000*R):=by
   rw [natAbs_natCast] at IW
   exact IW
  have aE4:h4.length<fi:=by
   have h9:=(bK hq).1
   have h8:=y1.1
   omega
  simp only [ah]
  have hR':xs[j]+10000*R<10000*B:=by omega
  generalize hRR:xs[j]+10000*R=R' at Ra hR'
  have ng:EX h4 g2:=(xg.trans y1).trans y2
  refine dL (σ:=Nat×Nat×ae) (fun p=>[I p.1,I p.2.1]) (fun p=>p.2.2) (fun p=>p.1<p.2.1∧p.2.1≤10000∧EX g2 p.2.2∧p.1*B≤R'∧R'<p.2.1*B) (fun p=>p.2.1-p.1)
   (0,10000,g2) rfl rfl ⟨by show 0<10000;decide,le_refl _,EX.refl _,by simp,hR'⟩ ?_
  rintro ⟨lo,od,g3⟩ ⟨hlh,hh,y3,eD,ji⟩ L2 hZ
  simp only at hlh hh y3 eD ji hZ⊢
  have qZ:EX h4 g3:=ng.trans y3
  rw [aBr]
  have e7:IntKind.wrap .i64 ((od:Int)-(lo:Int))=((od-lo:Nat):Int):=by rw [wrap64 (by omega) (by omega)];omega
  have e8:IntKind.wrap .i64 ((lo:Int)+(od:Int))=((lo+od:Nat):Int):=by rw [wrap64 (by omega) (by omega)];omega
  simp only [gq,e7,ah,fN,bX]
  refine ⟨fun sG=>?_,fun hle=>?_⟩
  ·simp only [cQ,e8,ah]
   rw [show (.int .i64 2:Value)=.int .i64 ((2:Nat):Int) from rfl,B6 (by decide) (by omega)]
   simp only [ah,cn,zero_add,zF qZ]
   have hm:(lo+od) / 2≤10000:=by omega
   refine VO ((hwB.mono x4).mono qZ) (by omega) hm ?_
   intro r4 g4 y4 m4
   have Bg:B*((lo+od) / 2)<br:=by
    refine ph ?_
    have:=mul_le_mul_left B hm
    omega
   refine VN (a:=B*((lo+od) / 2)) (b:=R') m4 ((Ra.mono y3).mono y4) Bg (ph (by omega)) ?_
   simp only [AM,ah,bX,true_and]
   generalize hmm:(lo+od) / 2=mid at*
   have vp:lo<mid∧mid<od:=by omega
   refine ⟨fun h0=>?_,fun h0=>?_⟩
   ·have:=alJ.1 h0
    exact hZ (mid,od,g4) ⟨vp.2,hh,y3.trans y4,by show mid*B≤R';rw [mul_comm];exact this,ji⟩ (by show od-mid<od-lo;omega)
   ·have:¬B*mid≤R':=fun h9=>h0 (alJ.2 h9)
    exact hZ (lo,mid,g4) ⟨vp.1,by show mid≤10000;omega,y3.trans y4,eD,by show R'<mid*B;rw [mul_comm];omega⟩ (by show mid-lo<od-lo;omega)
  ·have hhl:od=lo+1:=by omega
   subst hhl
   have hRl:R'<lo*B+B:=by rw [Nat.succ_mul] at ji;exact ji
   rw [aBs]
   have hq3:g3[h4.length]?=some (.arr 3 (qs.map fun d:Nat=>I d)):=by
    rw [←hq]
    have vg:=(bK hq).1
    rw [((y1.trans y2).trans y3).2 _ vg]
   have ad:bc 1 (sl 3 h4.length 0 xs.length) (I j)=some (pt h4.length j):=mL xa
   simp only [ad,ah]
   rw [pW hq3 (by simp;omega) rfl rfl]
   simp only [aC]
   have es:(qs.map fun d:Nat=>I d).set j (I lo)=(qs.set j lo).map fun d:Nat=>I d:=by rw [List.map_set]
   rw [es]
   have nh:EX h4 (g3.set h4.length (.arr 3 ((qs.set j lo).map fun d:Nat=>I d))):=qZ.set (le_refl _) _
   have QW:(g3.set h4.length (.arr 3 ((qs.set j lo).map fun d:Nat=>I d)))[h4.length]?=some (.arr 3 ((qs.set j lo).map fun d:Nat=>I d)):=cj hq3
   -- gR rest aEV not lie there
   have adV:fD (g3.set h4.length (.arr 3 ((qs.set j lo).map fun d:Nat=>I d))) (sl 3 fi 0 fn) R':=(Ra.mono y3).ax0 (by rw [getElem?_set_ne (by omega)])
   generalize g3.set h4.length (.arr 3 ((qs.set j lo).map fun d:Nat=>I d))=g5 at nh QW adV⊢
   simp only [cn,zero_add,zF nh,ah]
   refine VO ((hwB.mono x4).mono nh) (by omega) (by omega) ?_
   intro r6 g6 y6 m6
   obtain ⟨us,du,cu,vu⟩:=adV.mono y6
   obtain ⟨ts,dt,ct,vt⟩:=m6
   have avs:B*lo≤R':=by rw [mul_comm];exact eD
   have lu:=rh cu (by rw [vu];exact ph (by omega))
   refine Lj du dt cu.1 ct.1 (by omega) ?_ (by rw [vu,vt];exact avs) ?_
   ·apply byContradiction
    intro hc
    have:=dw.zM (by decide) cu ct (by omega)
    omega
   intro r7 g7 os y7 d7 l7 s7 v7
   simp only [Gl d7,ah]
   refine xM d7 l7 (by omega) ?_
   intro r8 g8 y8 z8
   simp only [false_eq_true,if_false] at z8
   obtain ⟨rw8,rfl,awu⟩:=z8
   rw [PO]
   simp only [ah]
   have Pw:IntKind.wrap .i64 ((j:Int)-1)=(j:Int)-1:=wrap64 (by omega) (by omega)
   simp only [aBt,gq,Pw,ah,true_and]
   have av3:lo<10000:=by omega
   have hv7:val 10000 os=R' -B*lo:=by omega
   have awv:fD g8 rw8 (R' -B*lo):=by rw [←hv7];simpa using awu
   have hBB:B*lo=lo*B:=mul_comm _ _
   refine hL (j,R' -B*lo,rw8,qs.set j lo,g8) ⟨by show j≤xs.length;omega,((nh.trans y6).trans y7).trans y8,?_,by rw [length_set];exact qv,QY.set av3 _,awv,by show R' -B*lo<B;omega,?_⟩ (by show j<j+1;omega)
   ·have vg:=(bK QW).1
    show g8[h4.length]?=_
    rw [((y6.trans y7).trans y8).2 _ vg];exact QW
   ·show val 10000 ((qs.set j lo).drop j)*B+(R' -B*lo)=val 10000 (xs.drop j)
    have hd:(qs.set j lo).drop j=lo::qs.drop (j+1):=by
     rw [List.drop_eq_getElem_cons (by rw [length_set];omega),List.getElem_set_self]
     congr 1
     rw [List.drop_set_of_lt (by omega)]
    rw [hd,I0,←bT]
    simp only [val]
    have h1:(lo+10000*val 10000 (qs.drop (j+1)))*B=lo*B+10000*(val 10000 (qs.drop (j+1))*B):=by rw [add_mul,mul_assoc]
    rw [h1]
    omega
 ·have Bo:i=0:=by omega
  subst Bo
  simp only [List.drop_zero] at bT
  rw [aBu]
  have oz:∀{g'},EX h4 g'→af false 1 g' (pt h.length 0)=some (Go.Sim.B (decide (a<0))):=fun y=>EX.load (x4.trans y) x.a0
  have dq:DS 3 .i64 g (sl 3 h4.length 0 xs.length) qs:=by
   rw [←qv]
   exact .inr ⟨h4.length,rfl,.inr ⟨[],by simp [aR,hq]⟩⟩
  simp only [cn,add_zero,oz xg,ah,Ol dq]
  refine xM dq QY (by omega) ?_
  intro r1 g1 y1 z1
  generalize hQ:val 10000 qs=Q at z1 bT
  obtain ⟨rs,dr,cr,vr⟩:=hR.mono y1
  have lr:=rh cr (by rw [vr];exact ph (by omega))
  simp only [Gl dr,ah]
  refine xM dr cr.1 (by omega) ?_
  intro r2 g2 y2 z2
  simp only [false_eq_true,if_false,vr] at z2
  have z1:=z1.mono y2
  have ng:EX h4 g2:=(xg.trans y1).trans y2
  have pH:h3.length+1≤g2.length:=by have:=ng.1;omega
  obtain ⟨uq,rfl,gG⟩:=id z1
  obtain ⟨ur,rfl,qx⟩:=id z2
  have e3:∀g':ae,aV 35 [(.bool false),(.slice none 0 0)] g'=some (pt g'.length 0,g'++[.arr 35 [(.bool false),(.slice none 0 0)]]):=fun _=>rfl
  simp only [e3,aC,length_append,length_cons,length_nil,zero_add]
  have k0:(g2++[aq.arr 35 [(.bool false),(.slice none 0 0)]]++[aq.arr 35 [(.bool false),(.slice none 0 0)]])[g2.length]?=some (.arr 35 [(.bool false),(.slice none 0 0)]):=by simp
  have k1:(g2++[aq.arr 35 [(.bool false),(.slice none 0 0)]]++[aq.arr 35 [(.bool false),(.slice none 0 0)]])[g2.length+1]?=some (.arr 35 [(.bool false),(.slice none 0 0)]):=by simp
  have y3:EX g2 (g2++[aq.arr 35 [(.bool false),(.slice none 0 0)]]++[aq.arr 35 [(.bool false),(.slice none 0 0)]]):=(EX.append _ _).push _
  generalize g2++[aq.arr 35 [(.bool false),(.slice none 0 0)]]++[aq.arr 35 [(.bool false),(.slice none 0 0)]]=g3 at k0 k1 y3⊢
  rw [fk k0]
  simp only [aC]
  have y4:EX g2 (g3.set g2.length (.arr 35 [Go.Sim.B (decide ((if decide (a<0)=true then -(Q:Int) else (Q:Int))<0)),uq])):=y3.set (le_refl _) _
  have sU:=cj (o:=.arr 35 [Go.Sim.B (decide ((if decide (a<0)=true then -(Q:Int) else (Q:Int))<0)),uq]) k0
  have kI:(g3.set g2.length (.arr 35 [Go.Sim.B (decide ((if decide (a<0)=true then -(Q:Int) else (Q:Int))<0)),uq]))[g2.length+1]?=some (.arr 35 [(.bool false),(.slice none 0 0)]):=by rw [getElem?_set_ne (by omega)];exact k1
  generalize g3.set g2.length (.arr 35 [Go.Sim.B (decide ((if decide (a<0)=true then -(Q:Int) else (Q:Int))<0)),uq])=g4 at y4 sU kI⊢
  rw [fk kI]
  simp only [aC]
  have y5:EX g2 (g4.set (g2.length+1) (.arr 35 [Go.Sim.B (decide ((R:Int)<0)),ur])):=y4.set (by omega) _
  have m1:=cj (o:=.arr 35 [Go.Sim.B (decide ((R:Int)<0)),ur]) kI
  have m0:(g4.set (g2.length+1) (.arr 35 [Go.Sim.B (decide ((R:Int)<0)),ur]))[g2.length]?=some (.arr 35 [Go.Sim.B (decide ((if decide (a<0)=true then -(Q:Int) else (Q:Int))<0)),uq]):=by rw [getElem?_set_ne (by omega)];exact sU
  generalize g4.set (g2.length+1) (.arr 35 [Go.Sim.B (decide ((R:Int)<0)),ur])=sv at y5 m0 m1⊢
  have nh:EX h4 sv:=ng.trans y5
  have Ld:EX h sv:=(x.ex.trans x4).trans nh
  have o4:=nh.get (x4.get x.out)
  have o5:=nh.get g5
  have zq:=z1.mono y5
  have zr:=z2.mono y5
  have zb:ZV sv (.agg #[Go.Sim.B (decide ((B:Int)<0)),w]) (B:Int):=⟨w,rfl,(hw.mono x.ex).mono (x4.trans nh)⟩
  have hQv:Q*B+R=a.natAbs:=by rw [bT,ex]
  -- gR two results
  have put:∀(r s:Value) (g6:ae),EX sv g6→ZV g6 r (a / (B:Int))→ZV g6 s (a%(B:Int))→OH (aE 2 g6 (pt (h.length+2) 0) r) fun _ h_1=>OH (aE 2 h_1 (pt h3.length 0) s) fun _ h_2=>OP (af true 2 h_2 (pt (h.length+2) 0)) fun r0=>OP (af true 2 h_2 (pt h3.length 0)) fun r1=>K (.tuple #[r0,r1]) h_2:=by
   rintro r s g6 y6 Fw Lh
   obtain ⟨u1,rfl,hu1⟩:=id Fw
   obtain ⟨u2,rfl,pK⟩:=id Lh
   have n4:=y6.get o4
   have n5:=y6.get o5
   rw [fk n4]
   simp only [aC]
   have Js:(g6.set (h.length+2) (.arr 35 [Go.Sim.B (decide (a / (B:Int)<0)),u1]))[h3.length]?=some (.arr 35 [.bool false,.slice none 0 0]):=by rw [getElem?_set_ne (by omega)];exact n5
   rw [fk Js]
   simp only [aC]
   have p4:((g6.set (h.length+2) (.arr 35 [Go.Sim.B (decide (a / (B:Int)<0)),u1])).set h3.length (.arr 35 [Go.Sim.B (decide (a%(B:Int)<0)),u2]))[h.length+2]?=some (.arr 35 [Go.Sim.B (decide (a / (B:Int)<0)),u1]):=by
    rw [getElem?_set_ne (by omega)];exact cj n4
   rw [cL p4,ah,cL (cj Js),ah]
   exact hk _ _ _ (((Ld.trans y6).set (by omega) _).set (by omega) _) ((Fw.bL n4 _).bL Js _) ((Lh.bL n4 _).bL Js _)
  have avt:(0:Int)<(B:Int):=by omega
  have un:∀q r:Int,r+(B:Int)*q=a→0≤r→r<(B:Int)→a / (B:Int)=q∧a%(B:Int)=r:=fun q r h1 h2 h3=>(Int.ediv_emod_unique avt).2 ⟨h1,h2,h3⟩
  have Qd:((Q*B:Nat):Int)=(B:Int)*(Q:Int):=by rw [Int.natCast_mul,Int.mul_comm]
  -- nothing to be aFz
  have plain:(0≤a∨R=0)→EV prog K (pt (h.length+1) 0) (pt (h.length+2) 0) (pt h3.length 0) (pt g2.length 0) (pt (g2.length+1) 0) (Go.Sim.B false) undef sv∧EV prog K (pt (h.length+1) 0) (pt (h.length+2) 0) (pt h3.length 0) (pt g2.length 0) (pt (g2.length+1) 0) (Go.Sim.B true) (Go.Sim.B false) sv:=by
   intro hc
   have D8:a / (B:Int)=(if decide (a<0)=true then -(Q:Int) else (Q:Int))∧a%(B:Int)=(R:Int):=by
    by_cases jk:a<0
    ·have hR0:R=0:=by omega
     rw [a9 jk,if_pos rfl]
     refine un _ _ ?_ (by omega) (by omega)
     rw [Int.mul_neg,←Qd]
     omega
    ·rw [aU jk,if_neg (by simp)]
     refine un _ _ ?_ (by omega) (by omega)
     rw [←Qd]
     omega
   have tail:OP (af true 2 sv (pt g2.length 0)) fun oC=>OP (af true 2 sv (pt (g2.length+1) 0)) fun gS=>OH (aE 2 sv (pt (h.length+2) 0) oC) fun _ h_1=>(af true 2 h_1 (pt (g2.length+1) 0)=some gS)∧OH (aE 2 h_1 (pt h3.length 0) gS) fun _ h_2=>OP (af true 2 h_2 (pt (h.length+2) 0)) fun r0=>OP (af true 2 h_2 (pt h3.length 0)) fun r1=>K (.tuple #[r0,r1]) h_2:=by
    have:=put _ _ sv (EX.refl _) (by rw [D8.1];exact zq) (by rw [D8.2];exact zr)
    rw [cL m0,ah,cL m1,ah]
    rw [fk o4] at this⊢
    simp only [aC] at this⊢
    refine ⟨?_,this⟩
    refine cL (e:=35) ?_
    rw [getElem?_set_ne (by omega)]
    exact m1
   constructor
   ·rw [Uj]
    simp only [dI,ah,dV,true_and,and_true]
    exact tail
   ·rw [Uj]
    simp only [eW,ah,dV,true_and,and_true]
    exact tail
  have RZ:af false 1 sv (pt (g2.length+1) 1)=some ur:=by simp [af,aR,m1,cf]
  obtain ⟨l,p1,p2⟩:=(qx.mono y5).pN
  have p2':0<l↔0<R:=by simpa using p2
  simp only [oz nh,ah,aBv]
  by_cases jk:a<0
  ·rw [a9 jk]
   simp only [jt,cn,Nat.add_comm 0 1,RZ,ah,p1,fN]
   by_cases hR0:R=0
   ·rw [aU (by omega)]
    exact (plain (.inr hR0)).2
   ·rw [a9 (by omega),Uj]
    have aE2:a.natAbs<br:=ph (by omega)
    have aE0:Q≤a.natAbs:=by
     have:Q*1≤Q*B:=mul_le_mul_left _ hB0
     omega
    have DX:(1:Int).natAbs<br:=ae8 (by decide+kernel)
    simp only [eW,ah,dX,cL m0,true_and]
    refine uG (z:=1) (by decide) ?_
    intro r6 g6 y6 z6
    refine ⟨⟨EX.load y6 (cL m0),trivial⟩,?_⟩
    have RX:∀{g'},EX h4 g'→af true 2 g' (pt (h.length+1) 0)=some (.agg #[Go.Sim.B (decide ((B:Int)<0)),w]):=fun y=>EX.load (x4.trans y) x.b2
    refine Lu (zq.mono y6) z6 (by rw [a9 jk,if_pos rfl];omega) DX ?_
    intro r7 g7 y7 z7
    have xg7:=(nh.trans y6).trans y7
    simp only [RX nh,RX (nh.trans y6),RX xg7,ah,cL m1,EX.load y6 (cL m1),EX.load (y6.trans y7) (cL m1),true_and,and_true]
    refine Lu (zb.mono (y6.trans y7)) (zr.mono (y6.trans y7)) (by have:=ph (n:=B) (by omega);simpa using this) (by have:=ph (n:=R) (by omega);simpa using this) ?_
    intro r8 g8 y8 z8
    have D8:=un (-(Q:Int)-1) ((B:Int)-(R:Int)) (by
     rw [Int.mul_sub,Int.mul_neg,←Qd,Int.mul_one]
     omega) (by omega) (by omega)
    rw [a9 jk,if_pos rfl] at z7
    exact put _ _ g8 ((y6.trans y7).trans y8) (by rw [D8.1];exact z7.mono y8) (by rw [D8.2];exact z8)
  ·rw [aU jk]
   simp only [lj]
   exact (plain (.inl (by omega))).1
end
section
theorem Lv {va:Value} {a:Int} {h:ae} {K:Value→ae→Prop} (ha:ZV h va a) (hk:∀u h',EX h h'→fD h' u a.natAbs→K (.agg #[B false,u]) h'):aj prog 94 [va] h K:=by
 obtain ⟨v,rfl,hv⟩:=ha
 refine f94 ?_
 have e1:bm 35 h (.agg #[B (decide (a<0)),v])=some (pt h.length 0,h++[.arr 35 [B (decide (a<0)),v]]):=rfl
 have e2:∀g':ae,aV 35 [(.bool false),(.slice none 0 0)] g'=some (pt g'.length 0,g'++[.arr 35 [(.bool false),(.slice none 0 0)]]):=fun _=>rfl
 simp only [NX,e1,e2,aC,length_append,length_cons,length_nil,zero_add]
 have k0:(h++[aq.arr 35 [B (decide (a<0)),v]]++[aq.arr 35 [(.bool false),(.slice none 0 0)]])[h.length]?=some (.arr 35 [B (decide (a<0)),v]):=by simp
 have k1:(h++[aq.arr 35 [B (decide (a<0)),v]]++[aq.arr 35 [(.bool false),(.slice none 0 0)]])[h.length+1]?=some (.arr 35 [(.bool false),(.slice none 0 0)]):=by simp
 have x1:EX h (h++[aq.arr 35 [B (decide (a<0)),v]]++[aq.arr 35 [(.bool false),(.slice none 0 0)]]):=(EX.append _ _).push _
 generalize h++[aq.arr 35 [B (decide (a<0)),v]]++[aq.arr 35 [(.bool false),(.slice none 0 0)]]=h1 at k0 k1 x1⊢
 simp only [cn,add_zero,ah]
 rw [pW k0 (by simp) rfl rfl]
 simp only [aC,List.set_cons_zero]
 have kI:(h1.set h.length (.arr 35 [B false,v]))[h.length+1]?=some (.arr 35 [(.bool false),(.slice none 0 0)]):=by rw [getElem?_set_ne (by omega)];exact k1
 rw [cL (cj k0)]
 simp only [ah]
 exact yp kI (hk _ _ ((x1.set (le_refl _) _).set (by omega) _) (((hv.mono x1).bL k0 _).bL kI _))
theorem Wn {va vb:Value} {a b:Int} {h:ae} {K:Value→ae→Prop} (ha:ZV h va a) (hb:ZV h vb b) (la:a.natAbs<10000^199) (lb:b.natAbs<10000^199)
  (hk:∀u h',EX h h'→fD h' u (gcd a.natAbs b.natAbs)→K (.agg #[B false,u]) h'):aj prog 68 [va,vb] h K:=by
 have oa:=ha
 have oO:=hb
 obtain ⟨v,rfl,hv⟩:=ha
 obtain ⟨w,rfl,hw⟩:=hb
 refine f68 ?_
 have e1:∀(g:ae) (s:Bool) (v:Value),bm 35 g (.agg #[B s,v])=some (pt g.length 0,g++[.arr 35 [B s,v]]):=fun _ _ _=>rfl
 have e2:∀g':ae,aV 35 [(.bool false),(.slice none 0 0)] g'=some (pt g'.length 0,g'++[.arr 35 [(.bool false),(.slice none 0 0)]]):=fun _=>rfl
 simp only [NA,e1,e2,aC,length_append,length_cons,length_nil,zero_add]
 have k0:(h++[aq.arr 35 [B (decide (a<0)),v]]++[aq.arr 35 [B (decide (b<0)),w]]++[aq.arr 35 [(.bool false),(.slice none 0 0)]])[h.length]?=some (.arr 35 [B (decide (a<0)),v]):=by simp
 have k1:(h++[aq.arr 35 [B (decide (a<0)),v]]++[aq.arr 35 [B (decide (b<0)),w]]++[aq.arr 35 [(.bool false),(.slice none 0 0)]])[h.length+1]?=some (.arr 35 [B (decide (b<0)),w]):=by simp
 have k2:(h++[aq.arr 35 [B (decide (a<0)),v]]++[aq.arr 35 [B (decide (b<0)),w]]++[aq.arr 35 [(.bool false),(.slice none 0 0)]])[h.length+2]?=some (.arr 35 [(.bool false),(.slice none 0 0)]):=by simp
 have x1:EX h (h++[aq.arr 35 [B (decide (a<0)),v]]++[aq.arr 35 [B (decide (b<0)),w]]++[aq.arr 35 [(.bool false),(.slice none 0 0)]]):=((EX.append _ _).push _).push _
 generalize h++[aq.arr 35 [B (decide (a<0)),v]]++[aq.arr 35 [B (decide (b<0)),w]]++[aq.arr 35 [(.bool false),(.slice none 0 0)]]=h1 at k0 k1 k2 x1⊢
 rw [cL k0]
 simp only [ah,true_and]
 refine Lv (oa.mono x1) ?_
 intro u2 h2 x2 m2
 simp only [cL k1,EX.load x2 (cL k1),ah,true_and]
 refine Lv (oO.mono (x1.trans x2)) ?_
 intro u3 h3 x3 m3
 have sU:=(x2.trans x3).get k0
 have kI:=(x2.trans x3).get k1
 have Em:=(x2.trans x3).get k2
 have aA:=(x1.trans x2).trans x3
 have m2:=m2.mono x3
 rw [fk sU]
 simp only [aC]
 have q1:(h3.set h.length (.arr 35 [B false,u2]))[h.length+1]?=some (.arr 35 [B (decide (b<0)),w]):=by rw [getElem?_set_ne (by omega)];exact kI
 rw [fk q1]
 simp only [aC]
 refine dL (σ:=Nat×Nat×Value×Value×ae) (fun _=>[]) (fun p=>p.2.2.2.2)
  (fun p=>EX h p.2.2.2.2∧p.2.2.2.2[h.length]?=some (.arr 35 [B false,p.2.2.1])∧p.2.2.2.2[h.length+1]?=some (.arr 35 [B false,p.2.2.2.1])∧p.2.2.2.2[h.length+2]?=some (.arr 35 [.bool false,.slice none 0 0])∧fD p.2.2.2.2 p.2.2.1 p.1∧fD p.2.2.2.2 p.2.2.2.1 p.2.1∧p.1<10000^199∧p.2.1<10000^199∧gcd p.1 p.2.1=gcd a.natAbs b.natAbs) (fun p=>p.2.1)
  (a.natAbs,b.natAbs,u2,u3,(h3.set h.length (.arr 35 [B false,u2])).set (h.length+1) (.arr 35 [B false,u3])) rfl rfl
  ⟨(aA.set (le_refl _) _).set (by omega) _,by rw [getElem?_set_ne (by omega)];exact cj sU,cj q1,by rw [getElem?_set_ne (by omega),getElem?_set_ne (by omega)];exact Em,(m2.bL sU _).bL q1 _,(m3.bL sU _).bL q1 _,la,lb,rfl⟩ ?_
 rintro ⟨x,y,ux,uy,g⟩ ⟨xg,j0,j1,j2,mx,my,lx,ly,hg⟩ L hL
 simp only at xg j0 j1 j2 mx my lx ly hg hL⊢
 rw [aBq]
 obtain ⟨l,p1,p2⟩:=my.pN
 have ld:af false 1 g (pt (h.length+1) 1)=some uy:=by simp [af,aR,j1,cf]
 simp only [cn,zero_add,ld,ah,p1,fN,bX]
 refine ⟨fun sG=>?_,fun hle=>?_⟩
 ·have hy:0<y:=p2.1 (by omega)
  rw [cL j0,ah,cL j1,ah]
  refine Lp mx.Fi my.Fi (by omega) (by simpa using lx) (by simpa using ly) ?_
  intro r s g1 y1 zr zs
  obtain ⟨u5,rfl,hu5⟩:=id zr
  obtain ⟨u6,hs6,hu6⟩:=id zs
  have jm:decide ((x:Int)%(y:Int)<0)=false:=aU (by have:=Int.emod_nonneg (x:Int) (show (y:Int)≠0 by omega);omega)
  rw [jm] at hs6
  subst hs6
  have hmv:((x:Int)%(y:Int)).natAbs=x%y:=by
   rw [←Int.natCast_emod,natAbs_natCast]
  rw [hmv] at hu6
  have gl:h.length+2<g1.length:=by
   have:=(bK j2).1
   have:=y1.1
   omega
  simp only [eQ,ft,fv,ah,e2,aC,length_append,length_cons,length_nil,zero_add]
  have n0:(g1++[aq.arr 35 [(.bool false),(.slice none 0 0)]]++[aq.arr 35 [(.bool false),(.slice none 0 0)]])[g1.length]?=some (.arr 35 [(.bool false),(.slice none 0 0)]):=by simp
  have n1:(g1++[aq.arr 35 [(.bool false),(.slice none 0 0)]]++[aq.arr 35 [(.bool false),(.slice none 0 0)]])[g1.length+1]?=some (.arr 35 [(.bool false),(.slice none 0 0)]):=by simp
  have y2:EX g1 (g1++[aq.arr 35 [(.bool false),(.slice none 0 0)]]++[aq.arr 35 [(.bool false),(.slice none 0 0)]]):=(EX.append _ _).push _
  generalize g1++[aq.arr 35 [(.bool false),(.slice none 0 0)]]++[aq.arr 35 [(.bool false),(.slice none 0 0)]]=g2 at n0 n1 y2⊢
  rw [fk n0]
  simp only [aC]
  have Jr:(g2.set g1.length (.arr 35 [B (decide ((x:Int) / (y:Int)<0)),u5]))[g1.length+1]?=some (.arr 35 [(.bool false),(.slice none 0 0)]):=by rw [getElem?_set_ne (by omega)];exact n1
  rw [fk Jr]
  simp only [aC]
  have y3:EX g1 ((g2.set g1.length (.arr 35 [B (decide ((x:Int) / (y:Int)<0)),u5])).set (g1.length+1) (.arr 35 [B false,u6])):=(y2.set (le_refl _) _).set (by omega) _
  have n6:=cj (o:=.arr 35 [B false,u6]) Jr
  generalize (g2.set g1.length (.arr 35 [B (decide ((x:Int) / (y:Int)<0)),u5])).set (g1.length+1) (.arr 35 [B false,u6])=g3 at y3 n6⊢
  have i0:=(y1.trans y3).get j0
  have i1:=(y1.trans y3).get j1
  have i2:=(y1.trans y3).get j2
  rw [cL i1]
  simp only [ah,true_and,cL n6]
  rw [fk i0]
  simp only [aC,and_true]
  have s6:(g3.set h.length (.arr 35 [B false,uy]))[g1.length+1]?=some (.arr 35 [B false,u6]):=by rw [getElem?_set_ne (by omega)];exact n6
  have s1:(g3.set h.length (.arr 35 [B false,uy]))[h.length+1]?=some (.arr 35 [B false,uy]):=by rw [getElem?_set_ne (by omega)];exact i1
  refine ⟨cL s6,?_⟩
  rw [fk s1]
  simp only [aC]
  have aD:x%y<y:=mod_lt _ hy
  refine hL (y,x%y,uy,u6,(g3.set h.length (.arr 35 [B false,uy])).set (h.length+1) (.arr 35 [B false,u6])) ⟨(((xg.trans y1).trans y3).set (le_refl _) _).set (by omega) _,?_,cj s1,?_,(((my.mono y1).mono y3).bL i0 _).bL s1 _,(((hu6.mono y3)).bL i0 _).bL s1 _,ly,by show x%y<_;omega,?_⟩ aD
  ·show ((g3.set h.length _).set (h.length+1) _)[h.length]?=_
   rw [getElem?_set_ne (by omega)];exact cj i0
  ·show ((g3.set h.length _).set (h.length+1) _)[h.length+2]?=_
   rw [getElem?_set_ne (by omega),getElem?_set_ne (by omega)];exact i2
  ·show gcd y (x%y)=_
   rw [←hg,Nat.gcd_comm x y,Nat.gcd_rec y x,Nat.gcd_comm]
 ·have hy:y=0:=by
   apply byContradiction
   intro hc
   have:=p2.2 (by omega)
   omega
  subst hy
  rw [aBp,cL j0]
  simp only [ah]
  rw [Nat.gcd_zero_right] at hg
  subst hg
  exact yp j2 (hk _ _ (xg.set (by omega) _) (mx.bL j2 _))
theorem Lm {va:Value} {a b:Int} {h:ae} {K:Value→ae→Prop} (ha:QZ h va a b) (hb:0<b) (la:a.natAbs<10000^199) (lb:b.natAbs<10000^199)
  (hk:∀r h',EX h h'→QZ h' r (a / (gcd a.natAbs b.natAbs:Int)) (b / (gcd a.natAbs b.natAbs:Int))→K r h'):aj prog 25 [va] h K:=by
 obtain ⟨u,w,rfl,hu,hw⟩:=ha
 refine f25 ?_
 have e1:bm 37 h (.agg #[B (decide (a<0)),u,B (decide (b<0)),w])=some (pt h.length 0,h++[.arr 37 [B (decide (a<0)),u,B (decide (b<0)),w]]):=rfl
 have e2:∀g':ae,aV 35 [(.bool false),(.slice none 0 0)] g'=some (pt g'.length 0,g'++[.arr 35 [(.bool false),(.slice none 0 0)]]):=fun _=>rfl
 have e4:∀g':ae,aV 37 [(.bool false),(.slice none 0 0),(.bool false),(.slice none 0 0)] g'=some (pt g'.length 0,g'++[.arr 37 z4]):=fun _=>rfl
 simp only [Ng,e1,e4,aC,length_append,length_cons,length_nil,zero_add]
 have k0:(h++[aq.arr 37 [B (decide (a<0)),u,B (decide (b<0)),w]]++[aq.arr 37 z4])[h.length]?=some (.arr 37 [B (decide (a<0)),u,B (decide (b<0)),w]):=by simp
 have k1:(h++[aq.arr 37 [B (decide (a<0)),u,B (decide (b<0)),w]]++[aq.arr 37 z4])[h.length+1]?=some (.arr 37 z4):=by simp
 have x1:EX h (h++[aq.arr 37 [B (decide (a<0)),u,B (decide (b<0)),w]]++[aq.arr 37 z4]):=(EX.append _ _).push _
 generalize h++[aq.arr 37 [B (decide (a<0)),u,B (decide (b<0)),w]]++[aq.arr 37 z4]=h1 at k0 k1 x1⊢
 have za:ZV h1 (.agg #[B (decide (a<0)),u]) a:=⟨u,rfl,hu.mono x1⟩
 have zb:ZV h1 (.agg #[B (decide (b<0)),w]) b:=⟨w,rfl,hw.mono x1⟩
 simp only [cn,add_zero,zero_add,jE k0,kJ k0,ah]
 refine Wn za zb la lb ?_
 intro ug h2 x2 mg
 have avL:0<gcd a.natAbs b.natAbs:=Nat.gcd_pos_of_pos_right _ (by omega)
 have Qx:gcd a.natAbs b.natAbs≤b.natAbs:=Nat.le_of_dvd (by omega) (Nat.gcd_dvd_right _ _)
 generalize gcd a.natAbs b.natAbs=g at mg avL Qx hk
 have zg:=mg.Fi
 simp only [e2,aC]
 rw [fk bn]
 simp only [aC]
 have x3:EX h2 ((h2++[aq.arr 35 [(.bool false),(.slice none 0 0)]]).set h2.length (.arr 35 [B false,ug])):=EX.set (EX.append _ _) (le_refl _) _
 have k3:((h2++[aq.arr 35 [(.bool false),(.slice none 0 0)]]).set h2.length (.arr 35 [B false,ug]))[h2.length]?=some (.arr 35 [B false,ug]):=cj bn
 generalize (h2++[aq.arr 35 [(.bool false),(.slice none 0 0)]]).set h2.length (.arr 35 [B false,ug])=h3 at x3 k3⊢
 have aA:=x2.trans x3
 simp only [EX.load aA (jE k0),cL k3,ah]
 have lg:((g:Nat):Int).natAbs<10000^199:=by rw [natAbs_natCast];omega
 refine Lp (za.mono aA) (zg.mono x3) (by omega) la lg ?_
 intro r s h4 x4 zr zs
 obtain ⟨ur,rfl,hur⟩:=id zr
 obtain ⟨us,rfl,BC⟩:=id zs
 simp only [eQ,ft,fv,ah,length_append,length_cons,length_nil,zero_add]
 have n0:(h4++[aq.arr 35 [(.bool false),(.slice none 0 0)]]++[aq.arr 35 [(.bool false),(.slice none 0 0)]])[h4.length]?=some (.arr 35 [(.bool false),(.slice none 0 0)]):=by simp
 have n1:(h4++[aq.arr 35 [(.bool false),(.slice none 0 0)]]++[aq.arr 35 [(.bool false),(.slice none 0 0)]])[h4.length+1]?=some (.arr 35 [(.bool false),(.slice none 0 0)]):=by simp
 have y2:EX h4 (h4++[aq.arr 35 [(.bool false),(.slice none 0 0)]]++[aq.arr 35 [(.bool false),(.slice none 0 0)]]):=(EX.append _ _).push _
 generalize h4++[aq.arr 35 [(.bool false),(.slice none 0 0)]]++[aq.arr 35 [(.bool false),(.slice none 0 0)]]=h5 at n0 n1 y2⊢
 rw [fk n0]
 simp only [aC]
 have Jr:(h5.set h4.length (.arr 35 [B (decide (a / (g:Int)<0)),ur]))[h4.length+1]?=some (.arr 35 [(.bool false),(.slice none 0 0)]):=by rw [getElem?_set_ne (by omega)];exact n1
 rw [fk Jr]
 simp only [aC]
 have y3:EX h4 ((h5.set h4.length (.arr 35 [B (decide (a / (g:Int)<0)),ur])).set (h4.length+1) (.arr 35 [B (decide (a%(g:Int)<0)),us])):=(y2.set (le_refl _) _).set (by omega) _
 have n0':((h5.set h4.length (.arr 35 [B (decide (a / (g:Int)<0)),ur])).set (h4.length+1) (.arr 35 [B (decide (a%(g:Int)<0)),us]))[h4.length]?=some (.arr 35 [B (decide (a / (g:Int)<0)),ur]):=by rw [getElem?_set_ne (by omega)];exact cj n0
 generalize (h5.set h4.length (.arr 35 [B (decide (a / (g:Int)<0)),ur])).set (h4.length+1) (.arr 35 [B (decide (a%(g:Int)<0)),us])=h6 at y3 n0'⊢
 have bk:=(aA.trans x4).trans y3
 have cT:=x4.trans y3
 simp only [EX.load bk (kJ k0),EX.load cT (cL k3),ah]
 refine Lp (zb.mono bk) (zg.mono (x3.trans cT)) (by omega) lb lg ?_
 intro r' s' h7 x7 Fw Lh
 obtain ⟨Fk,rfl,aFk⟩:=id Fw
 obtain ⟨KX,rfl,aFl⟩:=id Lh
 simp only [eQ,ft,fv,ah]
 have m0:(h7++[aq.arr 35 [(.bool false),(.slice none 0 0)]]++[aq.arr 35 [(.bool false),(.slice none 0 0)]])[h7.length]?=some (.arr 35 [(.bool false),(.slice none 0 0)]):=by simp
 have m1:(h7++[aq.arr 35 [(.bool false),(.slice none 0 0)]]++[aq.arr 35 [(.bool false),(.slice none 0 0)]])[h7.length+1]?=some (.arr 35 [(.bool false),(.slice none 0 0)]):=by simp
 have w2:EX h7 (h7++[aq.arr 35 [(.bool false),(.slice none 0 0)]]++[aq.arr 35 [(.bool false),(.slice none 0 0)]]):=(EX.append _ _).push _
 generalize h7++[aq.arr 35 [(.bool false),(.slice none 0 0)]]++[aq.arr 35 [(.bool false),(.slice none 0 0)]]=h8 at m0 m1 w2⊢
 rw [fk m0]
 simp only [aC]
 have Jl:(h8.set h7.length (.arr 35 [B (decide (b / (g:Int)<0)),Fk]))[h7.length+1]?=some (.arr 35 [(.bool false),(.slice none 0 0)]):=by rw [getElem?_set_ne (by omega)];exact m1
 rw [fk Jl]
 simp only [aC]
 have w3:EX h7 ((h8.set h7.length (.arr 35 [B (decide (b / (g:Int)<0)),Fk])).set (h7.length+1) (.arr 35 [B (decide (b%(g:Int)<0)),KX])):=(w2.set (le_refl _) _).set (by omega) _
 have m0':((h8.set h7.length (.arr 35 [B (decide (b / (g:Int)<0)),Fk])).set (h7.length+1) (.arr 35 [B (decide (b%(g:Int)<0)),KX]))[h7.length]?=some (.arr 35 [B (decide (b / (g:Int)<0)),Fk]):=by rw [getElem?_set_ne (by omega)];exact cj m0
 generalize (h8.set h7.length (.arr 35 [B (decide (b / (g:Int)<0)),Fk])).set (h7.length+1) (.arr 35 [B (decide (b%(g:Int)<0)),KX])=h9 at w3 m0'⊢
 have fM:=x7.trans w3
 rw [EX.load fM (cL n0'),ah,cL m0',ah]
 exact AX (zr.mono (y3.trans fM)) (Fw.mono w3) (x1.trans (bk.trans fM)) (by omega) ((bk.trans fM).get k1) hk
theorem atK {s:List UInt8} {n:Nat} (hd:ka s) (hv:dM s=n) (hn:0<n) (hh:s.head?≠some 48):s=cE n:=by
 have e1:((s.reverse.map fun c:UInt8=>c.toNat-48).map iR).reverse=s:=by
  rw [List.map_map]
  have:s.reverse.map (iR ∘ fun c:UInt8=>c.toNat-48)=s.reverse:=by
   conv=>rhs;rw [←List.map_id s.reverse]
   apply List.map_congr_left
   intro c hc
   have h1:=hd c (by simpa using hc)
   apply UInt8.toNat_inj.1
   simp only [Function.comp,id]
   rw [uQ (by omega)]
   omega
  rw [this,List.reverse_reverse]
 have fe:cd 10 (s.reverse.map fun c:UInt8=>c.toNat-48):=by
  intro x hx
  obtain ⟨c,hc,rfl⟩:=List.mem_map.1 hx
  have h1:=hd c (by simpa using hc)
  omega
 have bT:val 10 (s.reverse.map fun c:UInt8=>c.toNat-48)=n:=by
  rw [←Vl fe,e1,hv]
 have yD:dw 10 (s.reverse.map fun c:UInt8=>c.toNat-48):=by
  refine ⟨fe,?_⟩
  rw [List.getLast?_map,List.getLast?_reverse]
  intro hc
  cases hs:s.head? with
  | none=>rw [hs] at hc;cases hc
  | some c=>
   rw [hs] at hc
   have Qg:c.toNat-48=0:=by simpa using hc
   have rA:c∈s:=List.mem_of_mem_head? hs
   have h1:=hd c rA
   apply hh
   rw [hs]
   congr 1
   apply UInt8.toNat_inj.1
   show c.toNat=48
   omega
 obtain ⟨d1,d2⟩:=HI n
 have:=dw.unique (by decide) yD d1 (by rw [bT,d2])
 unfold cE
 rw [if_neg (by omega),←this,e1]
end
section
/-- Four digits. -/
def four (d:Nat):List UInt8:=[iR (d / 1000),iR (d / 100%10),iR (d / 10%10),iR (d%10)]
theorem avd {d:Nat} (hd:d<10000):ka (four d)∧dM (four d)=d:=by
 have h1:=uQ (d:=d / 1000) (by omega)
 have h2:=uQ (d:=d / 100%10) (by omega)
 have h3:=uQ (d:=d / 10%10) (by omega)
 have h4:=uQ (d:=d%10) (by omega)
 constructor
 ·intro c hc
  simp only [four,List.mem_cons,List.not_mem_nil,or_false] at hc
  rcases hc with rfl | rfl | rfl | rfl <;> omega
 ·simp only [four,KZ,h1,h2,h3,h4,length_cons,length_nil]
  simp only [dM,List.foldl_nil]
  omega
theorem Wt {va:Value} {n:Nat} {h:ae} {K:Value→ae→Prop} (ha:ZV h va n) (hn:n<br) (hk:∀h',EX h h'→K (S (cE n)) h'):aj prog 93 [va] h K:=by
 obtain ⟨v,rfl,hv⟩:=ha
 rw [natAbs_natCast] at hv
 refine f93 ?_
 have e1:bm 35 h (.agg #[B (decide ((n:Int)<0)),v])=some (pt h.length 0,h++[.arr 35 [B (decide ((n:Int)<0)),v]]):=rfl
 simp only [NW,e1,aC]
 have x1:EX h (h++[aq.arr 35 [B (decide ((n:Int)<0)),v]]):=EX.append _ _
 have ld:af false 1 (h++[aq.arr 35 [B (decide ((n:Int)<0)),v]]) (pt h.length 1)=some v:=sV rfl
 generalize h++[aq.arr 35 [B (decide ((n:Int)<0)),v]]=h1 at x1 ld⊢
 obtain ⟨xs,dx,cx,vx⟩:=hv.mono x1
 have lx:=rh cx (by rw [vx];exact hn)
 simp only [cn,zero_add,ld,ah,dx.len,jA,bX]
 refine ⟨fun h0=>?_,fun bp=>?_⟩
 ·have:xs=[]:=List.length_eq_zero_iff.1 (by omega)
  subst this
  have oh:n=0:=vx.symm
  subst oh
  exact hk _ x1
 ·have xo:0<xs.length:=by omega
  have av8:0<n:=by
   apply byContradiction
   intro hc
   have:=dw.zero (by decide) cx (by omega)
   rw [this] at xo
   simp at xo
  have e2:IntKind.wrap .i64 ((xs.length:Int)-1)=(xs.length:Int)-1:=wrap64 (by omega) (by omega)
  simp only [gq,e2,ah]
  refine dL (σ:=Nat×List UInt8×ae) (fun p=>[S p.2.1,I ((p.1:Int)-1)]) (fun p=>p.2.2)
   (fun p=>p.1≤xs.length∧EX h1 p.2.2∧ka p.2.1∧dM p.2.1=val 10000 (xs.drop p.1)∧p.2.1.length=4*(xs.length-p.1)) (fun p=>p.1)
   (xs.length,[],h1) rfl rfl ⟨le_refl _,EX.refl _,fun c hc=>by simp at hc,by simp [dM,val],by simp⟩ ?_
  rintro ⟨i,s,g⟩ ⟨hi,xg,hd,tT,qB⟩ L hL
  simp only at hi xg hd tT qB hL⊢
  rw [aCl]
  simp only [nS,ah,bX]
  refine ⟨fun cK=>?_,fun aD=>?_⟩
  ·obtain ⟨j,rfl⟩:∃j,i=j+1:=⟨i-1,by omega⟩
   have ej:((j+1:Nat):Int)-1=(j:Int):=by omega
   have xa:j<xs.length:=by omega
   obtain ⟨ia,a1,a2⟩:=(dx.mono xg).get xa
   have hd4:xs[j]<10000:=cx.1 _ (getElem_mem xa)
   have I0:=al5 10000 xs xa
   rw [ej]
   generalize wZ:xs[j]=d at a2 hd4 I0
   simp only [cn,zero_add,EX.load xg ld,ah,a1,a2]
   rw [show (.int .i64 1000:Value)=.int .i64 ((1000:Nat):Int) from rfl,show (.int .i64 100:Value)=.int .i64 ((100:Nat):Int) from rfl,show (.int .i64 10:Value)=.int .i64 ((10:Nat):Int) from rfl]
   rw [B6 (by decide) (by omega),B6 (b:=100) (by decide) (by omega),B6 (b:=10) (by decide) (by omega)]
   simp only [ah]
   rw [Aa _ _ _ (by decide),Aa _ _ _ (by decide),Aa _ _ _ (by decide)]
   have w:∀q:Nat,q<10→IntKind.wrap .i64 (48+(q:Int))=((48+q:Nat):Int):=fun q hq=>by rw [wrap64 (by omega) (by omega)];omega
   have w8:∀q:Nat,q<10→IntKind.wrap .u8 ((48+q:Nat):Int)=((48+q:Nat):Int):=fun q hq=>ama (by omega) (by omega)
   simp only [ah,cQ,jN,w _ (show d / 1000<10 by omega),w8 _ (show d / 1000<10 by omega),w _ (show d / 100%10<10 by omega),w8 _ (show d / 100%10<10 by omega),w _ (show d / 10%10<10 by omega),w8 _ (show d / 10%10<10 by omega),w _ (show d%10<10 by omega),w8 _ (show d%10<10 by omega)]
   rw [Di (show d / 1000<10 by omega),Di (show d / 100%10<10 by omega),Di (show d / 10%10<10 by omega),Di (show d%10<10 by omega)]
   have mk:dH 5 4 [.int .u8 0] g [(0,1,cv (iR (d / 1000))),(1,1,cv (iR (d / 100%10))),(2,1,cv (iR (d / 10%10))),(3,1,cv (iR (d%10)))]=some (sl 5 g.length 0 4,g++[.arr 5 ((four d).map cv)]):=rfl
   have yg:EX g (g++[aq.arr 5 ((four d).map cv)]):=EX.append _ _
   have bs:rL (g++[aq.arr 5 ((four d).map cv)]) (sl 5 g.length 0 4)=some (S (four d)):=yb (b:=g.length) (e:=5) (.inr ⟨g.length,le_refl _,rfl,bn⟩)
   obtain ⟨f1,f2⟩:=avd hd4
   have f3:(four d).length=4:=rfl
   simp only [mk,aC,bs,ah]
   rw [yd s (four d) (by rw [f3];unfold maxLen;omega)]
   have Pw:IntKind.wrap .i64 ((j:Int)-1)=(j:Int)-1:=wrap64 (by omega) (by omega)
   simp only [ah,gq,Pw,true_and]
   refine hL (j,s++four d,g++[aq.arr 5 ((four d).map cv)]) ⟨by show j≤xs.length;omega,xg.trans yg,fun c hc=>(List.mem_append.1 hc).elim (hd c) (f1 c),?_,by show (s++four d).length=_;rw [length_append,f3];omega⟩ (by show j<j+1;omega)
   show dM (s++four d)=val 10000 (xs.drop j)
   rw [Ah,f2,f3,I0,tT]
   omega
  ·have Bo:i=0:=by omega
   subst Bo
   simp only [List.drop_zero,vx] at tT
   rw [aCi]
   refine dL (σ:=List UInt8) (fun s=>[S s]) (fun _=>g) (fun s=>ka s∧dM s=n∧s.length≤1000) (fun s=>s.length) s rfl rfl ⟨hd,tT,by omega⟩ ?_
   rintro t ⟨td,tv,tl⟩ L2 hZ
   rw [aCj]
   cases t with
   | nil=>simp [dM] at tv;omega
   | cons c t=>
    have ix:=vL (a:=c::t) (i:=0) (by simp) .i64
    have ix':jP (S (c::t)) (.int .i64 0)=some (cv c):=ix
    have eq:ai .eql (cv c) (.int .u8 48)=some (B (decide ((c.toNat:Int)=48))):=rfl
    simp only [ix',ah,eq,bX]
    refine ⟨fun mO=>?_,fun mO=>?_⟩
    ·have aDz:=B9 (a:=c::t) (n:=1) (by simp) .i64
     have aDA:kV (S (c::t)) (some (.int .i64 1)) none=some (S t):=aDz
     simp only [aDA,ah,true_and]
     refine hZ t ⟨fun x hx=>td x (by simp [hx]),?_,by simp at tl;omega⟩ (by simp)
     rw [KZ] at tv
     have:c.toNat-48=0:=by omega
     rw [this] at tv
     omega
    ·rw [aCk]
     have:=atK td tv av8 (by
      simp only [List.head?_cons,ne_eq,Option.some.injEq]
      rintro rfl
      exact mO rfl)
     rw [this]
     exact hk _ (x1.trans xg)
end
section
theorem Aj {b:Nat} (h:b<4294967296):b<br:=ae8 (lt_of_lt_of_le h (by decide))
theorem KD {a b:Nat}:m8 a b<0↔a<b:=by
 unfold m8
 constructor
 ·intro h
  apply byContradiction
  intro hn
  rw [if_neg hn] at h
  split at h <;> omega
 ·intro h;rw [if_pos h];decide
theorem amx {va vb:Value} {a b:Nat} {h:ae} {K:Value→ae→Prop} (ha:dD h va a) (hb:dD h vb b) (la:a<br) (b0:0<b) (lb:b<4294967296) (hk:∀q r h',EX h h'→dD h' q (a / b)→dD h' r (a%b)→K (.tuple #[q,r]) h'):
  aj prog 130 [va,vb] h K:=by
 refine f130 ?_
 unfold F6
 refine Fx ha hb la (Aj lb) ?_
 simp only [cW,ah,bX]
 refine ⟨fun aD=>?_,fun cK=>?_⟩
 ·have gX:=KD.1 aD
  have oa:=ha
  obtain ⟨xs,d,c,rfl⟩:=ha
  obtain ⟨s1,s2⟩:=d.cells
  have lx:=qg c la
  have hq:∀g,dD g (.slice none 0 0) (val 4294967296 xs / b):=fun g=>⟨[],DS.nil _ _ _,⟨fun x hx=>by simp at hx,by simp⟩,by rw [Nat.div_eq_of_lt gX];rfl⟩
  by_cases h0:xs.length=0
  ·have e:dT 177 1 4 h (.slice none 0 0) va=some (.slice none 0 0,h):=by
    simp only [dT,s1,s2]
    rw [if_pos h0]
   simp only [e,aC]
   have:xs=[]:=List.length_eq_zero_iff.1 h0
   subst this
   exact hk _ _ h (EX.refl h) (hq h) ⟨[],DS.nil _ _ _,c,by rw [mod_eq_of_lt gX]⟩
  ·have e:dT 177 1 4 h (.slice none 0 0) va=some (sl 177 h.length 0 xs.length,h++[.arr 177 (xs.map fun d:Nat=>Value.int .u32 (d:Int))]):=by
    simp only [dT,s1,s2]
    rw [if_neg h0,if_pos ⟨by omega,by unfold maxLen;omega⟩]
   simp only [e,aC]
   refine hk _ _ _ (EX.append _ _) (hq _) ⟨xs,.inr ⟨h.length,rfl,.inr ⟨[],?_⟩⟩,c,by rw [mod_eq_of_lt gX]⟩
   simp [aR]
 ·have gX:b≤a:=by
   apply byContradiction
   intro hc
   exact cK (KD.2 (by omega))
  obtain ⟨ys,d,c,hy⟩:=id hb
  have hlen:ys.length=1:=by
   have h1:ys.length≤1:=c.len (k:=1) (by decide) (by rw [hy];simpa using lb)
   have h2:ys≠[]:=by rintro rfl;simp [val] at hy;omega
   have:0<ys.length:=List.length_pos_iff.2 h2
   omega
  obtain ⟨y,rfl⟩:∃y,ys=[y]:=by
   match ys,hlen with
   | [y],_=>exact ⟨y,rfl⟩
  have qE:y=b:=by simpa [val] using hy
  subst qE
  obtain ⟨i,g1,g2⟩:=d.get (j:=0) (by simp)
  have yv:bc 1 vb (.int .i64 (0))=some (pt i 0):=g1
  have R8:bj vb=some (I 1):=d.len
  simp only [R8,ah,jA,decide_true,dX,yv,g2,List.getElem_cons_zero]
  refine VU ha la b0 lb ?_
  intro q h2 x2 hq
  have mk:∀(g:ae) (r:Nat),dH 177 1 [(.int .u32 (0))] g [(0,1,.int .u32 (r:Int))]=some (sl 177 g.length 0 1,g++[.arr 177 [.int .u32 (r:Int)]]):=fun _ _=>rfl
  simp only [eQ,ft,fv,ah,mk,aC]
  have x3:EX h2 (h2++[.arr 177 [.int .u32 ((a%y:Nat):Int)]]):=EX.append _ _
  have dr:DS 177 .u32 (h2++[.arr 177 [.int .u32 ((a%y:Nat):Int)]]) (sl 177 h2.length 0 1) [a%y]:=.inr ⟨h2.length,rfl,.inr ⟨[],by simp [aR]⟩⟩
  have hm:a%y<y:=mod_lt _ b0
  refine sf dr (fun x hx=>by rw [List.mem_singleton.1 hx];omega) (by simp) ?_
  intro v' kG
  have e:val 4294967296 [a%y]=a%y:=by simp [val]
  rw [e] at kG
  exact hk _ _ _ (x2.trans x3) (hq.mono x3) kG
theorem VS {va:Value} {a:Int} {h:ae} {K:Value→ae→Prop} (ha:dR h va a) (hk:∀h',EX h h'→K (I (if a=0 then 0 else if a<0 then -1 else 1)) h'):aj prog 109 [va] h K:=by
 obtain ⟨v,rfl,hv⟩:=ha
 refine f109 ?_
 have e1:bm 105 h (.agg #[B (decide (a<0)),v])=some (pt h.length 0,h++[.arr 105 [B (decide (a<0)),v]]):=rfl
 have x1:EX h (h++[.arr 105 [B (decide (a<0)),v]]):=EX.append _ _
 have l1:af false 1 (h++[aq.arr 105 [B (decide (a<0)),v]]) (pt h.length 1)=some v:=sV rfl
 have l0:af false 1 (h++[aq.arr 105 [B (decide (a<0)),v]]) (pt h.length 0)=some (B (decide (a<0))):=sV rfl
 obtain ⟨l,e2,e3⟩:=hv.pN
 simp only [MC,e1,aC,cn,zero_add,add_zero,ah,l1,l0,e2,jA,bX]
 refine ⟨fun hz=>?_,fun hz=>⟨fun hn=>?_,fun hn=>?_⟩⟩
 ·have:=hk _ x1
  rw [if_pos (by omega)] at this
  exact this
 ·have:=hk _ x1
  rw [if_neg (by omega),if_pos hn] at this
  exact this
 ·have:=hk _ x1
  rw [if_neg (by omega),if_neg hn] at this
  exact this
theorem Lk {va vb:Value} {a b:Int} {h:ae} {K:Value→ae→Prop} (ha:dR h va a) (hb:dR h vb b) (la:a.natAbs<br) (lb:b.natAbs<br) (hk:∀h',EX h h'→K (I (if a-b=0 then 0 else if a-b<0 then -1 else 1)) h'):aj prog 111 [va,vb] h K:=by
 have oa:=ha
 have oO:=hb
 obtain ⟨v,rfl,hv⟩:=ha
 obtain ⟨w,rfl,hw⟩:=hb
 refine f111 ?_
 have e1:∀(g:ae) (s:Bool) (v:Value),bm 105 g (.agg #[B s,v])=some (pt g.length 0,g++[.arr 105 [B s,v]]):=fun _ _ _=>rfl
 simp only [ME,e1,aC]
 have g0:(h++[aq.arr 105 [B (decide (a<0)),v]]++[aq.arr 105 [B (decide (b<0)),w]])[h.length]?=some (.arr 105 [B (decide (a<0)),v]):=by simp
 have g1:(h++[aq.arr 105 [B (decide (a<0)),v]]++[aq.arr 105 [B (decide (b<0)),w]])[(h++[aq.arr 105 [B (decide (a<0)),v]]).length]?=some (.arr 105 [B (decide (b<0)),w]):=bn
 have x1:EX h (h++[aq.arr 105 [B (decide (a<0)),v]]++[aq.arr 105 [B (decide (b<0)),w]]):=(EX.append _ _).push _
 generalize h++[aq.arr 105 [B (decide (a<0)),v]]++[aq.arr 105 [B (decide (b<0)),w]]=h1 at g0 g1 x1⊢
 rw [cL g0,cL g1]
 simp only [ah]
 refine amw (oa.mono x1) (oO.mono x1) la lb ?_
 intro r h2 x2 hr
 exact VS hr fun h3 x3=>hk h3 (x1.trans (x2.trans x3))
theorem dR.nat {h:ae} {v:Value} {n:Nat} (p:dD h v n):dR h (.agg #[B false,v]) (n:Int):=⟨v,by rw [aU (by omega)],by rwa [natAbs_natCast]⟩
end
end Go.Proofs.YtelmdbpaoifmoaaGreat
namespace Go.Sim
section
theorem aEg {B:Nat} {xs:List Nat} (h:cd B xs) {n:Nat} (hn:xs.length=n+2):∃l,l<B^n∧val B xs=l+(xs[n]+xs[n+1]*B)*B^n:=by
 refine ⟨val B (xs.take n),?_,?_⟩
 ·have:=m9 (xs:=xs.take n) (h.mono fun y hy=>mem_of_mem_take hy)
  rwa [length_take,min_eq_left (by omega)] at this
 ·have h1:=iX B xs (i:=n) (by omega)
  have h2:=iX B xs (i:=n+1) (by omega)
  rw [take_of_length_le (by omega),h1] at h2
  rw [h2,pow_succ]
  generalize B^n=P
  grind
theorem aEf {B:Nat} {xs:List Nat} (h:cd B xs) {n:Nat} (hn:xs.length=n+3):∃l,l<B^n∧val B xs=l+(xs[n]+(xs[n+1]+xs[n+2]*B)*B)*B^n:=by
 refine ⟨val B (xs.take n),?_,?_⟩
 ·have:=m9 (xs:=xs.take n) (h.mono fun y hy=>mem_of_mem_take hy)
  rwa [length_take,min_eq_left (by omega)] at this
 ·have h1:=iX B xs (i:=n) (by omega)
  have h2:=iX B xs (i:=n+1) (by omega)
  have h3:=iX B xs (i:=n+2) (by omega)
  rw [take_of_length_le (by omega),h2,h1] at h3
  rw [h3,show B^(n+2)=B^n*B*B from by rw [pow_succ,pow_succ],pow_succ]
  generalize B^n=P
  grind
def mid (us:List Nat) (j:Nat) (xs:List Nat):List Nat:=us.take j++(xs++us.drop (j+xs.length))
theorem BP {us:List Nat} {j:Nat} {xs:List Nat} (h:j+xs.length≤us.length):(mid us j xs).length=us.length:=by
 unfold mid
 simp only [length_append,length_take,List.length_drop]
 omega
theorem afl {us:List Nat} {j k:Nat} {xs:List Nat} (hj:j≤us.length) (h:xs.length≤k):(mid us j xs)[j+k]?=us[j+k]?:=by
 unfold mid
 rw [List.getElem?_append_right (by rw [length_take];omega),length_take,min_eq_left hj,Nat.add_sub_cancel_left,List.getElem?_append_right h,List.getElem?_drop]
 congr 1
 omega
theorem ayr {us:List Nat} {j k:Nat} {xs:List Nat} (hj:j≤us.length) (h:k<xs.length):(mid us j xs)[j+k]?=xs[k]?:=by
 unfold mid
 rw [List.getElem?_append_right (by rw [length_take];omega),length_take,min_eq_left hj,Nat.add_sub_cancel_left,List.getElem?_append_left h]
theorem Jn {us:List Nat} {j d:Nat} {xs:List Nat} (h:j+xs.length<us.length):(mid us j xs).set (j+xs.length) d=mid us j (xs++[d]):=by
 unfold mid
 rw [List.set_append_right _ _ (by rw [length_take];omega),length_take,min_eq_left (by omega),Nat.add_sub_cancel_left,List.set_append_right _ _ (le_refl _),Nat.sub_self,List.drop_eq_getElem_cons h,List.set_cons_zero,length_append,List.append_assoc]
 rfl
theorem afm (us:List Nat) (j:Nat):mid us j []=us:=by unfold mid;simp
theorem ayq {us:List Nat} {j:Nat} {xs ys:List Nat} (hj:j+xs.length≤us.length) (h:ys.length=xs.length):mid (mid us j xs) j ys=mid us j ys:=by
 unfold mid
 have e1:(us.take j++(xs++us.drop (j+xs.length))).take j=us.take j:=by
  rw [List.take_append_of_le_length (by rw [length_take];omega),List.take_take,Nat.min_self]
 have e2:(us.take j++(xs++us.drop (j+xs.length))).drop (j+ys.length)=us.drop (j+ys.length):=by
  rw [h,←List.append_assoc,List.drop_append_of_le_length (by rw [length_append,length_take];omega),List.drop_eq_nil_of_le (by rw [length_append,length_take];omega),List.nil_append]
 rw [e1,e2]
section
variable {B P U V ul vl u2 v2 top v1 : Nat}
theorem avq (hU:U=ul+(u2+top*B)*P) (rG:ul<P) (pK:u2<B) (hV:V=vl+(v2+v1*B)*P) (h1:0<v1):U / V≤top / v1:=by
 rw [Nat.le_div_iff_mul_le h1]
 have h2:U / V*V≤U:=Nat.div_mul_le_self U V
 generalize U / V=q at*
 apply byContradiction
 intro hn
 have h3:top+1≤q*v1:=by omega
 have h4:(top+1)*(B*P)≤q*v1*(B*P):=mul_le_mul_right _ h3
 have h5:q*v1*(B*P)≤q*V:=by
  rw [hV]
  have:q*(vl+(v2+v1*B)*P)=q*v1*(B*P)+q*(vl+v2*P):=by grind
  omega
 have h6:U<(top+1)*(B*P):=by
  have e1:(top+1)*(B*P)=top*B*P+B*P:=by grind
  have e2:(u2+top*B)*P=u2*P+top*B*P:=by grind
  have e3:(u2+1)*P≤B*P:=mul_le_mul_right _ (by omega)
  have e4:(u2+1)*P=u2*P+P:=by grind
  omega
 omega
theorem avp {g r:Nat} (hU:U=ul+(u2+top*B)*P) (rG:ul<P) (hV:V=vl+(v2+v1*B)*P) (tN:U<V*B) (hg:g*v1+r=top) (hq:U / V≤g) (pB:B≤g∨r*B+u2<g*v2):U / V+1≤g:=by
 have hV0:0<V:=by
  apply Nat.pos_of_ne_zero
  intro e
  rw [e] at tN
  omega
 have QX:U / V<B:=by rw [Nat.div_lt_iff_lt_mul hV0,mul_comm];exact tN
 rcases pB with hb | hb
 ·omega
 have h2:U / V*V≤U:=Nat.div_mul_le_self U V
 generalize U / V=q at*
 apply byContradiction
 intro hn
 have hqg:q=g:=by omega
 subst hqg
 have h3:q*((v2+v1*B)*P)≤q*V:=by rw [hV];exact mul_le_mul_left _ (by omega)
 have h4:q*(v2+v1*B)*P<(u2+top*B+1)*P:=by
  have e1:q*((v2+v1*B)*P)=q*(v2+v1*B)*P:=by grind
  have e2:(u2+top*B+1)*P=(u2+top*B)*P+P:=by grind
  omega
 have h5:q*(v2+v1*B)<u2+top*B+1:=Nat.lt_of_mul_lt_mul_right h4
 rw [←hg] at h5
 have e3:q*(v2+v1*B)=q*v2+q*v1*B:=by grind
 have e4:(q*v1+r)*B=q*v1*B+r*B:=by grind
 omega
theorem acM {g r:Nat} (hU:U=ul+(u2+top*B)*P) (hV:V=vl+(v2+v1*B)*P) (rI:vl<P) (h1:0<v1) (hg:g*v1+r=top) (pD:g<B) (aG:g*v2≤r*B+u2):g*V<U+V:=by
 have e1:g*V=g*vl+(g*v2+g*v1*B)*P:=by rw [hV];grind
 have e2:top*B=g*v1*B+r*B:=by rw [←hg];grind
 have e3:(g*v2+g*v1*B)*P≤(u2+top*B)*P:=mul_le_mul_right _ (by omega)
 have e4:g*vl<V:=by
  have a1:g*vl≤g*P:=mul_le_mul_left _ (by omega)
  have hP:0<P:=by omega
  have a2:g*P<B*P:=Nat.mul_lt_mul_of_pos_right pD hP
  have a3:B*P≤v1*B*P:=by
   have:1*(B*P)≤v1*(B*P):=mul_le_mul_right _ h1
   rw [mul_assoc]
   omega
  have a4:(v2+v1*B)*P=v2*P+v1*B*P:=by grind
  omega
 omega
theorem aD0 {un w:Nat} (hB:0<B) (hU:U=ul+(u2+top*B)*P) (sO:top=w+un*B) (hV:V=vl+(v2+v1*B)*P) (rI:vl<P) (qC:v2<B) (tN:U<V*B):un≤v1:=by
 apply byContradiction
 intro hn
 have h1:(v1+1)*(B*P)*B≤un*(B*P)*B:=mul_le_mul_right _ (mul_le_mul_right _ (by omega))
 have h2:un*(B*P)*B≤U:=by
  rw [hU,sO]
  have:(u2+(w+un*B)*B)*P=(u2+w*B)*P+un*(B*P)*B:=by grind
  omega
 have h3:V<(v1+1)*(B*P):=by
  have e1:(v1+1)*(B*P)=v1*B*P+B*P:=by grind
  have e2:(v2+v1*B)*P=v2*P+v1*B*P:=by grind
  have e3:(v2+1)*P≤B*P:=mul_le_mul_right _ (by omega)
  have e4:(v2+1)*P=v2*P+P:=by grind
  omega
 have h4:V*B<(v1+1)*(B*P)*B:=Nat.mul_lt_mul_of_pos_right h3 hB
 omega
end
end
end Go.Sim
namespace Go.Proofs.YtelmdbpaoifmoaaGreat
open Go.Sim
section
variable (P : Program) (K : VK)
noncomputable section
variable (x0 : Value) (h : ae)
def agq:=bz prog 135 [[],[]]
@[irreducible] def Zv:=bI agq
theorem axS:agq=some (6,Zv,[.tmp 2]):=by kernel_rfl
def M0:Prop:=
 aj P 141 [x0] h fun x4 z1=>
 OP (ai .sub (.int .i64 (32)) x4) fun x5=>
 K x5 z1
theorem aut:ak P Zv (aS [.tmp 2] K) (bt [x0]) h=M0 P K x0 h:=by kernel_rfl
theorem f135 {K:VK} {x0:Value} {h:ae} (H:M0 prog K x0 h):aj prog 135 [x0] h K:=
 bJ axS (bH rfl) ((aut prog K x0 h).mpr H)
end
noncomputable section
variable (x0 n1 x5 aA aH ba : Value) (L1 : LQ) (xs : List Value) (h : ae)
def agr:=bz prog 136 [[],[],[],[1,5,13,14],[15],[],[],[],[],[],[],[5],[]]
@[irreducible] def GM:=bI agr
@[irreducible] def aq4:=GM.r.r.l.r.l.l
@[irreducible] def Zw:=GM.r.r.r
@[irreducible] def aq3:=Zw.l
theorem axT:agr=some (41,GM,[.tmp 4]):=by kernel_rfl
def LV (_P:Program) (K:VK):ar:=aS [.tmp 4] K
def anT:ar:=aF (ak P Zw (LV P K)) (LV P K)
def anU:ar:=bN 0 (anT P K)
def anV:ar:=aF (fun f' aT=>(([1,5,13,14]:List Nat).map f':List Value)=[n1,x5,aA,aH]∧L1 (([15]:List Nat).map f') aT) (anU P K)
def aiu:Prop:=ay (ak P aq4 (anV P K n1 x5 aA aH L1)) ([1,5,13,14]++[15]) ([n1,x5,aA,aH]++xs) h
def ait:Prop:=ay (ak P aq3 (LV P K)) [5] [x5] h
theorem aAh (n1 x5 aA aH:Value) (L1:LQ) (ba:Value) (h:ae):aiu P K n1 x5 aA aH L1 [ba] h=
 (OP (ai .lss ba aH) fun bk=>
 aQ bk
 (OP (bc 1 aA ba) fun aP=>
 OP (af false 1 h aP) fun aO=>
 OP (dh .u64 aO) fun aY=>
 OP (ai .shl aY n1) fun ck=>
 OP (bc 1 x5 ba) fun cg=>
 OP (af false 1 h cg) fun bW=>
 OP (dh .u32 ck) fun cG=>
 OP (ai .or bW cG) fun dj=>
 OP (bc 1 x5 ba) fun cA=>
 OH (aE 1 h cA dj) fun _ z1=>
 OP (ai .add ba (.int .i64 (1))) fun cP=>
 OP (ai .shr ck (.int .u64 (32))) fun cT=>
 OP (dh .u32 cT) fun fm=>
 OP (bc 1 x5 cP) fun dC=>
 OH (aE 1 z1 dC fm) fun _ z2=>
 OP (ai .add ba (.int .i64 (1))) fun eJ=>
 ([n1,x5,aA,aH]:List Value)=[n1,x5,aA,aH]∧L1 [eJ] z2)
 (ait P K x5 h)):=az (by kernel_rfl)
theorem aAg:ait P K x5 h=
 (K x5 h):=az (by kernel_rfl)
def M1:Prop:=
 OP (bj x0) fun aM=>
 OP (ai .add aM (.int .i64 (1))) fun au=>
 OH (mV 177 4 [(.int .u32 (0))] h au au) fun aB z1=>
 OP (bj x0) fun aH=>
 cM [(.int .i64 (0))] z1 fun L1 xs hx=>
 aiu P K n1 aB x0 aH L1 xs hx
theorem auu:ak P GM (aS [.tmp 4] K) (bt [x0,n1]) h=M1 P K x0 n1 h:=by kernel_rfl
theorem f136 {K:VK} {x0 n1:Value} {h:ae} (H:M1 prog K x0 n1 h):aj prog 136 [x0,n1] h K:=
 bJ axT (bH rfl) ((auu prog K x0 n1 h).mpr H)
end
noncomputable section
variable (u0 v1 n5 x7 x8 x9 aM aA lX gJ nc An : Value) (L1 : LQ) (xs : List Value) (h : ae)
def ags:=bz prog 137 [[],[],[],[],[0,1,5],[7,8],[],[],[],[],[],[0,1,5,7],[],[],[0,1,5,7,83],[9,10,84],[],[],[],[],[],[],[0,1,5,7,9,10],[],[],[],[],[],[0,1,5,7,132],[13,133],[],[],[],[],[0,5,7,13],[7],[]]
@[irreducible] def GN:=bI ags
@[irreducible] def aq9:=GN.r.r.r.r.l.l.l
@[irreducible] def ZA:=GN.r.r.r.r.r
@[irreducible] def OB:=ZA.l
@[irreducible] def aq5:=OB.r.l.r.l.l
@[irreducible] def Zx:=OB.r.r
@[irreducible] def GO:=Zx.l
@[irreducible] def aq6:=GO.r.l.r.l.r.r.l.r.l.l
@[irreducible] def Zz:=GO.r.l.r.l.r.r.r
@[irreducible] def Zy:=GO.r.r
@[irreducible] def aq7:=Zz.l
@[irreducible] def aq8:=Zy.l
theorem axU:ags=some (162,GN,[.tmp 4]):=by kernel_rfl
def uJ (_P:Program) (K:VK):ar:=aS [.tmp 4] K
def an2:ar:=aF (ak P ZA (uJ P K)) (uJ P K)
def an3:ar:=bN 0 (an2 P K)
def an4:ar:=aF (fun f' aT=>(([0,1,5]:List Nat).map f':List Value)=[u0,v1,n5]∧L1 (([7,8]:List Nat).map f') aT) (an3 P K)
def anW:ar:=aF (ak P Zx (uJ P K)) (uJ P K)
def anX:ar:=bN 2 (anW P K)
def anY:ar:=aF (fun f' aT=>(([0,1,5,7,83]:List Nat).map f':List Value)=[u0,v1,n5,x7,lX]∧L1 (([9,10,84]:List Nat).map f') aT) (anX P K)
def LW:ar:=aF (ak P Zy (uJ P K)) (uJ P K)
def anZ:ar:=aF (ak P Zz (LW P K)) (LW P K)
def an0:ar:=bN 4 (anZ P K)
def an1:ar:=aF (fun f' aT=>(([0,1,5,7,132]:List Nat).map f':List Value)=[u0,v1,n5,x7,nc]∧L1 (([13,133]:List Nat).map f') aT) (an0 P K)
def aiy:Prop:=ay (ak P aq9 (an4 P K u0 v1 n5 L1)) ([0,1,5]++[7,8]) ([u0,v1,n5]++xs) h
def xz:Prop:=ay (ak P OB (uJ P K)) [0,1,5,7] [u0,v1,n5,x7] h
def aiv:Prop:=ay (ak P aq5 (anY P K u0 v1 n5 x7 lX L1)) ([0,1,5,7,83]++[9,10,84]) ([u0,v1,n5,x7,lX]++xs) h
def aiw:Prop:=ay (ak P GO (uJ P K)) [0,1,5,7,9,10] [u0,v1,n5,x7,x9,aM] h
def S9:Prop:=ay (ak P aq6 (an1 P K u0 v1 n5 x7 nc L1)) ([0,1,5,7,132]++[13,133]) ([u0,v1,n5,x7,nc]++xs) h
def aix:Prop:=ay (ak P aq7 (LW P K)) [0,5,7,13] [u0,n5,x7,aA] h
def EM:Prop:=ay (ak P aq8 (uJ P K)) [7] [x7] h
theorem aAo (u0 v1 n5:Value) (L1:LQ) (x7 x8:Value) (h:ae):aiy P K u0 v1 n5 L1 [x7,x8] h=
 (OP (ai .shr x7 (.int .u64 (32))) fun nK=>
 OP (ai .gtr nK (.int .u64 (0))) fun fC=>
 cm fC false
 (OP (ai .sub n5 (.int .i64 (2))) fun kP=>
 OP (bc 1 v1 kP) fun df=>
 OP (af false 1 h df) fun gD=>
 (True)∧
 OP (dh .u64 gD) fun iM=>
 OP (ai .mul x7 iM) fun eO=>
 OP (ai .shl x8 (.int .u64 (32))) fun fI=>
 OP (ai .sub n5 (.int .i64 (2))) fun lV=>
 OP (bc 1 u0 lV) fun ko=>
 OP (af false 1 h ko) fun iY=>
 (True)∧
 OP (dh .u64 iY) fun gf=>
 OP (ai .or fI gf) fun kQ=>
 OP (ai .gtr eO kQ) fun gh=>
 OP (bP fC (.bool true) gh) fun gj=>
 aQ gj
 (OP (ai .sub x7 (.int .u64 (1))) fun mD=>
 OP (ai .sub n5 (.int .i64 (1))) fun jI=>
 OP (bc 1 v1 jI) fun jJ=>
 OP (af false 1 h jJ) fun kr=>
 OP (dh .u64 kr) fun iN=>
 OP (ai .add x8 iN) fun fw=>
 OP (ai .shr fw (.int .u64 (32))) fun qY=>
 OP (ai .gtr qY (.int .u64 (0))) fun jK=>
 aQ jK
 (xz P K u0 v1 n5 mD h)
 (([u0,v1,n5]:List Value)=[u0,v1,n5]∧L1 [mD,fw] h))
 (xz P K u0 v1 n5 x7 h))
 (OP (bP fC (.bool true) undef) fun gj=>
 aQ gj
 (OP (ai .sub x7 (.int .u64 (1))) fun mD=>
 OP (ai .sub n5 (.int .i64 (1))) fun jI=>
 OP (bc 1 v1 jI) fun jJ=>
 OP (af false 1 h jJ) fun kr=>
 OP (dh .u64 kr) fun iN=>
 OP (ai .add x8 iN) fun fw=>
 OP (ai .shr fw (.int .u64 (32))) fun qY=>
 OP (ai .gtr qY (.int .u64 (0))) fun jK=>
 aQ jK
 (xz P K u0 v1 n5 mD h)
 (([u0,v1,n5]:List Value)=[u0,v1,n5]∧L1 [mD,fw] h))
 (xz P K u0 v1 n5 x7 h))):=az (by kernel_rfl)
theorem aAj (u0 v1 n5 x7 lX:Value) (L1:LQ) (x9 aM gJ:Value) (h:ae):aiv P K u0 v1 n5 x7 lX L1 [x9,aM,gJ] h=
 (OP (ai .lss gJ lX) fun rW=>
 aQ rW
 (OP (bc 1 v1 gJ) fun oC=>
 OP (af false 1 h oC) fun gS=>
 OP (dh .u64 gS) fun tq=>
 OP (ai .mul x7 tq) fun jX=>
 OP (ai .add jX x9) fun Lc=>
 OP (ai .shr Lc (.int .u64 (32))) fun wo=>
 OP (bc 1 u0 gJ) fun Ak=>
 OP (af false 1 h Ak) fun qX=>
 OP (dh .u32 Lc) fun Al=>
 aj P 134 [qX,Al,aM] h fun Am z1=>
 OP (b9 0 Am) fun Vt=>
 OP (b9 1 Am) fun aEm=>
 OP (bc 1 u0 gJ) fun Fs=>
 OH (aE 1 z1 Fs Vt) fun _ z2=>
 OP (ai .add gJ (.int .i64 (1))) fun aEn=>
 ([u0,v1,n5,x7,lX]:List Value)=[u0,v1,n5,x7,lX]∧L1 [wo,aEm,aEn] z2)
 (aiw P K u0 v1 n5 x7 x9 aM h)):=az (by kernel_rfl)
theorem aAl (u0 v1 n5 x7 nc:Value) (L1:LQ) (aA An:Value) (h:ae):S9 P K u0 v1 n5 x7 nc L1 [aA,An] h=
 (OP (ai .lss An nc) fun aEu=>
 aQ aEu
 (OP (bc 1 u0 An) fun aEv=>
 OP (af false 1 h aEv) fun aEw=>
 (True)∧
 OP (bc 1 v1 An) fun aEx=>
 OP (af false 1 h aEx) fun aEy=>
 (True)∧
 aj P 133 [aEw,aEy,aA] h fun amf z1=>
 (True)∧
 OP (b9 0 amf) fun aEz=>
 OP (b9 1 amf) fun aEA=>
 OP (bc 1 u0 An) fun aEB=>
 OH (aE 1 z1 aEB aEz) fun _ z2=>
 (True)∧
 OP (ai .add An (.int .i64 (1))) fun aEC=>
 ([u0,v1,n5,x7,nc]:List Value)=[u0,v1,n5,x7,nc]∧L1 [aEA,aEC] z2)
 (aix P K u0 n5 x7 aA h)):=az (by kernel_rfl)
theorem aAm:aix P K u0 n5 x7 aA h=
 (OP (bc 1 u0 n5) fun aED=>
 OP (af false 1 h aED) fun aEE=>
 OP (ai .add aEE aA) fun aEF=>
 OP (bc 1 u0 n5) fun aEG=>
 OH (aE 1 h aEG aEF) fun _ z1=>
 EM P K x7 z1):=az (by kernel_rfl)
theorem aAn:EM P K x7 h=
 (OP (dh .u32 x7) fun aEH=>
 K aEH h):=az (by kernel_rfl)
theorem aAk:aiw P K u0 v1 n5 x7 x9 aM h=
 (OP (bc 1 u0 n5) fun Vu=>
 OP (af false 1 h Vu) fun uB=>
 OP (dh .u32 x9) fun Vv=>
 aj P 134 [uB,Vv,aM] h fun xL z1=>
 OP (b9 0 xL) fun Vw=>
 OP (b9 1 xL) fun Vx=>
 OP (bc 1 u0 n5) fun Vy=>
 OH (aE 1 z1 Vy Vw) fun _ z2=>
 OP (ai .gtr Vx (.int .u32 (0))) fun Vz=>
 aQ Vz
 (OP (ai .sub x7 (.int .u64 (1))) fun VA=>
 OP (bj v1) fun nc=>
 cM [(.int .u32 (0)),(.int .i64 (0))] z2 fun L1 xs hx=>
 S9 P K u0 v1 n5 VA nc L1 xs hx)
 (EM P K x7 z2)):=az (by kernel_rfl)
theorem aAi:xz P K u0 v1 n5 x7 h=
 (OP (bj v1) fun lX=>
 cM [(.int .u64 (0)),(.int .u32 (0)),(.int .i64 (0))] h fun L1 xs hx=>
 aiv P K u0 v1 n5 x7 lX L1 xs hx):=az (by kernel_rfl)
def M3:Prop:=
 OP (bj v1) fun bk=>
 OP (bc 1 u0 bk) fun aO=>
 OP (af false 1 h aO) fun aW=>
 (True)∧
 OP (dh .u64 aW) fun aY=>
 OP (ai .shl aY (.int .u64 (32))) fun bE=>
 OP (ai .sub bk (.int .i64 (1))) fun bY=>
 OP (bc 1 u0 bY) fun cg=>
 OP (af false 1 h cg) fun bW=>
 (True)∧
 OP (dh .u64 bW) fun cC=>
 OP (ai .or bE cC) fun cG=>
 OP (ai .sub bk (.int .i64 (1))) fun dB=>
 OP (bc 1 v1 dB) fun cP=>
 OP (af false 1 h cP) fun cZ=>
 (True)∧
 OP (dh .u64 cZ) fun cT=>
 OP (ai .quo cG cT) fun fm=>
 OP (ai .sub bk (.int .i64 (1))) fun ef=>
 OP (bc 1 v1 ef) fun eL=>
 OP (af false 1 h eL) fun bV=>
 (True)∧
 OP (dh .u64 bV) fun bG=>
 OP (ai .rem cG bG) fun cI=>
 cM [fm,cI] h fun L1 xs hx=>
 aiy P K u0 v1 bk L1 xs hx
theorem auv:ak P GN (aS [.tmp 4] K) (bt [u0,v1]) h=M3 P K u0 v1 h:=by kernel_rfl
theorem f137 {K:VK} {u0 v1:Value} {h:ae} (H:M3 prog K u0 v1 h):aj prog 137 [u0,v1] h K:=
 bJ axU (bH rfl) ((auv prog K u0 v1 h).mpr H)
end
noncomputable section
variable (x0 n1 x5 i6 t7 aB aA : Value) (L1 : LQ) (xs : List Value) (h : ae)
def agt:=bz prog 138 [[],[],[],[0,1,5,12],[13],[],[],[],[],[],[0,1,5,6,7,12,13],[0,1,5,12,13],[5],[]]
@[irreducible] def GP:=bI agt
@[irreducible] def OC:=GP.r.r.l.r.l.l
@[irreducible] def ZB:=GP.r.r.r
@[irreducible] def ara:=OC.r.r.l.l.r.r.r.l
@[irreducible] def ZC:=OC.r.r.r
@[irreducible] def arc:=ZB.l
@[irreducible] def arb:=ZC.l
theorem axV:agt=some (45,GP,[.tmp 4]):=by kernel_rfl
def LX (_P:Program) (K:VK):ar:=aS [.tmp 4] K
def an6:ar:=aF (ak P ZB (LX P K)) (LX P K)
def an7:ar:=bN 0 (an6 P K)
def FN:ar:=aF (fun f' aT=>(([0,1,5,12]:List Nat).map f':List Value)=[x0,n1,x5,aB]∧L1 (([13]:List Nat).map f') aT) (an7 P K)
def an8:ar:=aF (ak P ZC (FN P K x0 n1 x5 aB L1)) (FN P K x0 n1 x5 aB L1)
def an5:ar:=bN 1 (an8 P K x0 n1 x5 aB L1)
def aiB:Prop:=ay (ak P OC (FN P K x0 n1 x5 aB L1)) ([0,1,5,12]++[13]) ([x0,n1,x5,aB]++xs) h
def JN:Prop:=ay (ak P ara (an5 P K x0 n1 x5 aB L1)) [0,1,5,6,7,12,13] [x0,n1,x5,i6,t7,aB,aA] h
def aiz:Prop:=ay (ak P arb (FN P K x0 n1 x5 aB L1)) [0,1,5,12,13] [x0,n1,x5,aB,aA] h
def aiA:Prop:=ay (ak P arc (LX P K)) [5] [x5] h
theorem aAp:JN P K x0 n1 x5 i6 t7 aB aA L1 h=
 (OP (ai .shr t7 n1) fun eJ=>
 OP (dh .u32 eJ) fun dU=>
 OP (bc 1 x5 i6) fun ef=>
 OH (aE 1 h ef dU) fun _ z1=>
 aiz P K x0 n1 x5 aB aA L1 z1):=az (by kernel_rfl)
theorem aAq:aiz P K x0 n1 x5 aB aA L1 h=
 (OP (ai .add aA (.int .i64 (1))) fun eL=>
 ([x0,n1,x5,aB]:List Value)=[x0,n1,x5,aB]∧L1 [eL] h):=az (by kernel_rfl)
theorem aAs (x0 n1 x5 aB:Value) (L1:LQ) (aA:Value) (h:ae):aiB P K x0 n1 x5 aB L1 [aA] h=
 (OP (ai .lss aA aB) fun aH=>
 aQ aH
 (OP (bc 1 x0 aA) fun aP=>
 OP (af false 1 h aP) fun aO=>
 OP (dh .u64 aO) fun aW=>
 OP (ai .add aA (.int .i64 (1))) fun bE=>
 OP (bj x0) fun bu=>
 OP (ai .lss bE bu) fun bY=>
 aQ bY
 (OP (ai .add aA (.int .i64 (1))) fun cG=>
 OP (bc 1 x0 cG) fun dj=>
 OP (af false 1 h dj) fun cA=>
 OP (dh .u64 cA) fun cO=>
 OP (ai .shl cO (.int .u64 (32))) fun dB=>
 OP (ai .or aW dB) fun cP=>
 JN P K x0 n1 x5 aA cP aB aA L1 h)
 (JN P K x0 n1 x5 aA aW aB aA L1 h))
 (aiA P K x5 h)):=az (by kernel_rfl)
theorem aAr:aiA P K x5 h=
 (aj P 118 [x5] h fun bG z1=>
 K bG z1):=az (by kernel_rfl)
def M4:Prop:=
 OP (bj x0) fun x9=>
 OH (mV 177 4 [(.int .u32 (0))] h x9 x9) fun aM z1=>
 OP (bj x0) fun aB=>
 cM [(.int .i64 (0))] z1 fun L1 xs hx=>
 aiB P K x0 n1 aM aB L1 xs hx
theorem auw:ak P GP (aS [.tmp 4] K) (bt [x0,n1]) h=M4 P K x0 n1 h:=by kernel_rfl
theorem f138 {K:VK} {x0 n1:Value} {h:ae} (H:M4 prog K x0 n1 h):aj prog 138 [x0,n1] h K:=
 bJ axV (bH rfl) ((auw prog K x0 n1 h).mpr H)
end
noncomputable section
variable (x0 n2 : Value) (h : ae)
def agw:=bz prog 141 [[],[],[],[0,2],[],[],[0,2],[]]
@[irreducible] def OE:=bI agw
@[irreducible] def ZF:=OE.r.r.l
@[irreducible] def arl:=ZF.r.l
theorem axY:agw=some (19,OE,[.tmp 2]):=by kernel_rfl
def W4 (_P:Program) (K:VK):ar:=aS [.tmp 2] K
def JO:Prop:=ay (ak P ZF (W4 P K)) [0,2] [x0,n2] h
def JP:Prop:=ay (ak P arl (W4 P K)) [0,2] [x0,n2] h
theorem aAy:JP P K x0 n2 h=
 (OP (dh .u8 x0) fun ba=>
 OP (jP (.string ⟨#[0,1,2,2,3,3,3,3,4,4,4,4,4,4,4,4,5,5,5,5,5,5,5,5,5,5,5,5,5,5,5,5,6,6,6,6,6,6,6,6,6,6,6,6,6,6,6,6,6,6,6,6,6,6,6,6,6,6,6,6,6,6,6,6,7,7,7,7,7,7,7,7,7,7,7,7,7,7,7,7,7,7,7,7,7,7,7,7,7,7,7,7,7,7,7,7,7,7,7,7,7,7,7,7,7,7,7,7,7,7,7,7,7,7,7,7,7,7,7,7,7,7,7,7,7,7,7,7,8,8,8,8,8,8,8,8,8,8,8,8,8,8,8,8,8,8,8,8,8,8,8,8,8,8,8,8,8,8,8,8,8,8,8,8,8,8,8,8,8,8,8,8,8,8,8,8,8,8,8,8,8,8,8,8,8,8,8,8,8,8,8,8,8,8,8,8,8,8,8,8,8,8,8,8,8,8,8,8,8,8,8,8,8,8,8,8,8,8,8,8,8,8,8,8,8,8,8,8,8,8,8,8,8,8,8,8,8,8,8,8,8,8,8,8,8,8,8,8,8,8,8,8,8,8,8,8]⟩) ba) fun bk=>
 OP (dh .i64 bk) fun bM=>
 OP (ai .add n2 bM) fun aP=>
 K aP h):=az (by kernel_rfl)
theorem aAx:JO P K x0 n2 h=
 (OP (ai .geq x0 (.int .u32 (256))) fun x8=>
 aQ x8
 (OP (ai .shr x0 (.int .u64 (8))) fun aM=>
 OP (ai .add n2 (.int .i64 (8))) fun aB=>
 JP P K aM aB h)
 (JP P K x0 n2 h)):=az (by kernel_rfl)
def M7:Prop:=
 OP (ai .geq x0 (.int .u32 (65536))) fun x4=>
 aQ x4
 (OP (ai .shr x0 (.int .u64 (16))) fun x6=>
 JO P K x6 (.int .i64 (16)) h)
 (JO P K x0 (.int .i64 (0)) h)
theorem auA:ak P OE (aS [.tmp 2] K) (bt [x0]) h=M7 P K x0 h:=by kernel_rfl
theorem f141 {K:VK} {x0:Value} {h:ae} (H:M7 prog K x0 h):aj prog 141 [x0] h K:=
 bJ axY (bH rfl) ((auA prog K x0 h).mpr H)
end
end
section
def wv (us:List Nat):List Value:=us.map fun d:Nat=>Value.int .u32 (d:Int)
theorem amc (us:List Nat):(wv us).length=us.length:=by simp [wv]
theorem re {e:TypeId} {id o n k:Nat} (hk:k<n):bc 1 (sl e id o n) (I k)=some (pt id (o+k)):=by
 have:(0:Int)≤(k:Int)∧(k:Int)<(n:Int):=by omega
 simp [sl,bc,this]
theorem Dc {g:ae} {iv id:Nat} {o:aq} (h:iv≠id):aR (g.set id o) iv=aR g iv:=by
 unfold aR
 rw [getElem?_set_ne h.symm]
theorem CQ {g:ae} {id k d:Nat} {us:List Nat} {rest:List Value} (hg:aR g id=some (wv us++rest)) (hk:us[k]?=some d):af false 1 g (pt id k)=some (.int .u32 (d:Int)):=by
 have aD:=(bK hk).1
 have:(wv us++rest)[k]?=some (.int .u32 (d:Int)):=by
  rw [List.getElem?_append_left (by rw [amc];exact aD)]
  simp [wv,hk]
 simp [af,hg,cf,this]
theorem xY {g:ae} {id k d:Nat} {us:List Nat} (hg:g[id]?=some (.arr 177 (wv us))) (hk:us[k]?=some d):af false 1 g (pt id k)=some (.int .u32 (d:Int)):=
 CQ (rest:=[]) (by rw [List.append_nil];simp [aR,hg]) hk
theorem CR {g:ae} {id k:Nat} (d:Nat) {us:List Nat} (hg:g[id]?=some (.arr 177 (wv us))) (hk:k<us.length):aE 1 g (pt id k) (.int .u32 (d:Int))=some (undef,g.set id (.arr 177 (wv (us.set k d)))):=by
 rw [pW hg (by rw [amc];exact hk) rfl rfl]
 congr 3
 simp [wv,List.map_set]
theorem aCA {a b:Nat} (hb:b≠0) (_:a<18446744073709551616):ai .rem (.int .u64 (a:Int)) (.int .u64 (b:Int))=some (.int .u64 ((a%b:Nat):Int)):=by
 have h:¬((b:Int)=0):=by omega
 have h2:a%b≤a:=Nat.mod_le _ _
 simp only [ai,hI,if_true,if_neg h]
 have e:(a:Int).tmod (b:Int)=((a%b:Nat):Int):=rfl
 rw [e]
theorem tF {d:Nat} (h:d<4294967296):dh .u64 (.int .u32 (d:Int))=some (.int .u64 (d:Int)):=by rw [jN,kO (by omega) (by omega)]
theorem afE {a b:Nat} (h:a*b<18446744073709551616):ai .mul (.int .u64 (a:Int)) (.int .u64 (b:Int))=some (.int .u64 ((a*b:Nat):Int)):=by
 rw [wI,←Int.natCast_mul,kO (by omega) (by omega)]
theorem X9 {a b:Nat} (h:a+b<18446744073709551616):ai .add (.int .u64 (a:Int)) (.int .u64 (b:Int))=some (.int .u64 ((a+b:Nat):Int)):=by
 rw [cQ,←Int.natCast_add,kO (by omega) (by omega)]
theorem abT {a:Nat} (h:0<a) (h2:a<18446744073709551616):ai .sub (.int .u64 (a:Int)) (.int .u64 1)=some (.int .u64 ((a-1:Nat):Int)):=by
 rw [gq,show (a:Int)-1=((a-1:Nat):Int) by omega,kO (by omega) (by omega)]
theorem Dh (t:Nat):dh .u32 (.int .u64 (t:Int))=some (.int .u32 ((t%4294967296:Nat):Int)):=by rw [jN,xK];congr 2
theorem V8 {x y b:Nat} {h:ae} {K:Value→ae→Prop} (hx:x<4294967296) (hy:y<4294967296) (hb:b≤1)
  (hk:∀d b':Nat,d<4294967296→b'≤1→d+y+b=x+b'*4294967296→K (.tuple #[.int .u32 (d:Int),.int .u32 (b':Int)]) h):aj prog 134 [.int .u32 (x:Int),.int .u32 (y:Int),.int .u32 (b:Int)] h K:=by
 refine V7 hx hy hb (hk _ _ ?_ ?_ ?_)
 ·exact mod_lt _ (by decide)
 ·split <;> omega
 ·split <;> omega
theorem ax3 {P X V Y x c a b:Nat} (h:Y+c*P=X+V) (e:4294967296*a+b=x+c) (ha:a=0∨a=1):Y+P*b+P*4294967296=X+P*x+V∨Y+P*b=X+P*x+V:=by
 have e1:P*(4294967296*a+b)=P*(x+c):=by rw [e]
 rcases ha with rfl | rfl
 ·right;grind
 ·left;grind
section
variable {h : ae} {K : Value → ae → Prop} {id iv j m : Nat} {us vs ud : List Nat} {rest : List Value}
theorem amB {g:ae} {q:Value} {xs:List Nat} (kg:g[id]?=some (.arr 177 (wv us))) (kv:aR g iv=some (wv vs++rest)) (bp:iv≠id) (hn:vs.length=m+2) (hm:m≤1000) (hx:xs.length=m+3) (hj:j+(m+3)≤us.length)
  (hu:∀k,k≤m+2→us[j+k]?=xs[k]?) (lx:cd 4294967296 xs) (lv:cd 4294967296 vs)
  (hk:∀ys,ys.length=m+3→cd 4294967296 ys→(val 4294967296 ys+4294967296^(m+3)=val 4294967296 xs+val 4294967296 vs∨val 4294967296 ys=val 4294967296 xs+val 4294967296 vs)→
   EM prog K q (g.set id (.arr 177 (wv (mid us j ys))))):
  cM [(.int .u32 (0)),(.int .i64 (0))] g fun L1 xs hx=>S9 prog K (sl 177 id j (m+3)) (sl 177 iv 0 (m+2)) (I (m+2:Nat)) q (I (m+2:Nat)) L1 xs hx:=by
 refine dL (σ:=List Nat×Nat) (fun p=>[.int .u32 (p.2:Int),I p.1.length]) (fun p=>g.set id (.arr 177 (wv (mid us j p.1))))
  (fun p=>p.1.length≤m+2∧cd 4294967296 p.1∧p.2≤1∧val 4294967296 p.1+p.2*4294967296^p.1.length=val 4294967296 (xs.take p.1.length)+val 4294967296 (vs.take p.1.length)) (fun p=>m+2-p.1.length)
  ([],0) rfl (by rw [afm];exact (List.ext_getElem? fun i=>by
   rw [List.getElem?_set]
   split
   ·rename_i e;subst e
    rw [kg,if_pos (bK kg).1]
   ·rfl)) ⟨zero_le _,fun y hy=>by simp at hy,zero_le _,by simp [val]⟩ ?_
 rintro ⟨ys,c⟩ ⟨kf,ly,hc,bT⟩ L hL
 simp only at kf ly hc bT hL⊢
 have vN:(g.set id (.arr 177 (wv (mid us j ys))))[id]?=some (.arr 177 (wv (mid us j ys))):=cj kg
 have RQ:aR (g.set id (.arr 177 (wv (mid us j ys)))) iv=some (wv vs++rest):=by rw [Dc bp];exact kv
 rw [aAl]
 simp only [cW,ah,bX]
 have D9:∀k,ys.length≤k→k≤m+2→(mid us j ys)[j+k]?=xs[k]?:=fun k h1 h2=>by rw [afl (by omega) h1,hu k h2]
 refine ⟨fun aD=>?_,fun cK=>?_⟩
 ·have hy:ys.length<m+2:=by omega
  have xq:xs[ys.length]?=some (xs[ys.length]'(by omega)):=getElem?_eq_getElem (by omega)
  have Ri:vs[ys.length]?=some (vs[ys.length]'(by omega)):=getElem?_eq_getElem (by omega)
  have bx:=lx _ (getElem_mem (l:=xs) (n:=ys.length) (by omega))
  have bv:=lv _ (getElem_mem (l:=vs) (n:=ys.length) (by omega))
  have tx:=iX 4294967296 xs (i:=ys.length) (by omega)
  have tv:=iX 4294967296 vs (i:=ys.length) (by omega)
  generalize xs[ys.length]'(by omega)=x at*
  generalize vs[ys.length]'(by omega)=v at*
  have ld:=xY vN ((D9 _ (le_refl _) (by omega)).trans xq)
  have Et:=CQ RQ Ri
  simp only [re (show ys.length<m+3 by omega),re (show ys.length<m+2 by omega),zero_add,ah,ld,Et,true_and]
  refine V6 bx bv hc ?_
  simp only [eQ,ft,fv,ah]
  rw [CR _ vN (by rw [BP (by omega)];omega),Jn (by omega),set_set]
  have:=hL (ys++[(x+v+c)%4294967296],(x+v+c) / 4294967296) ⟨by simp;omega,ly.append (fun y hy=>by simp at hy;omega),by show (x+v+c) / 4294967296≤1;omega,by
   simp only [length_append,length_cons,length_nil,zero_add]
   rw [nJ,tx,tv,pow_succ]
   simp only [val,mul_zero,add_zero]
   have lG:=div_add_mod (x+v+c) 4294967296
   generalize (x+v+c) / 4294967296=a at*
   generalize (x+v+c)%4294967296=b at*
   generalize 4294967296^ys.length=P at*
   have:P*(4294967296*a+b)=P*(x+v+c):=by rw [lG]
   grind⟩ (by simp;omega)
  simp only [aC,cQ,fA ys.length (by omega),ah]
  simpa using this
 ·have hy:ys.length=m+2:=by omega
  have xq:xs[m+2]?=some (xs[m+2]'(by omega)):=getElem?_eq_getElem (by omega)
  have bx:=lx _ (getElem_mem (l:=xs) (n:=m+2) (by omega))
  have tx:=iX 4294967296 xs (i:=m+2) (by omega)
  rw [take_of_length_le (by omega)] at tx
  generalize xs[m+2]'(by omega)=x at*
  have ld:=xY vN ((D9 (m+2) (by omega) (by omega)).trans xq)
  rw [aAm]
  have ea:ai .add (.int .u32 (x:Int)) (.int .u32 (c:Int))=some (.int .u32 (((x+c)%4294967296:Nat):Int)):=by
   rw [cQ,←Int.natCast_add,xK];congr 2
  simp only [re (show m+2<m+3 by omega),ah,ld,ea]
  have lJ:=Jn (us:=us) (j:=j) (d:=(x+c)%4294967296) (xs:=ys) (by omega)
  rw [hy] at lJ
  rw [CR _ vN (by rw [BP (by omega)];omega),lJ,set_set]
  simp only [aC]
  rw [hy,take_of_length_le (by omega:vs.length≤m+2)] at bT
  refine hk _ (by simp;omega) (ly.append (fun y hy=>by simp at hy;omega)) ?_
  rw [nJ,hy,tx]
  simp only [val,mul_zero,add_zero]
  have lG:=div_add_mod (x+c) 4294967296
  have h01:(x+c) / 4294967296≤1:=by omega
  rw [pow_succ]
  exact ax3 bT lG (by omega)
theorem azm (B m:Nat):B^(m+3)=B^(m+2)*B:=pow_succ ..
theorem aDM {P A X V g v x carry borrow y c' x' b':Nat} (h:X+g*V=A+(carry+borrow)*P) (e:4294967296*c'+y=g*v+carry) (s:x'+y+borrow=x+b'*4294967296):
  X+P*x'+g*(V+P*v)=A+P*x+(c'+b')*(P*4294967296):=by
 have e1:P*(4294967296*c'+y)=P*(g*v+carry):=by rw [e]
 have e2:P*(x'+y+borrow)=P*(x+b'*4294967296):=by rw [s]
 grind
theorem aDN {P A X V g x carry borrow x' b':Nat} (h:X+g*V=A+(carry+borrow)*P) (s:x'+carry+borrow=x+b'*4294967296):X+P*x'+g*V=A+P*x+b'*(P*4294967296):=by
 have e2:P*(x'+carry+borrow)=P*(x+b'*4294967296):=by rw [s]
 grind
theorem Wa {gs:Nat} (kg:h[id]?=some (.arr 177 (wv us))) (kv:aR h iv=some (wv vs++rest)) (bp:iv≠id) (hn:vs.length=m+2) (hm:m≤1000) (hx:ud.length=m+3) (hj:j+(m+3)≤us.length)
  (hu:∀k,k≤m+2→us[j+k]?=ud[k]?) (lu:cd 4294967296 ud) (lv:cd 4294967296 vs) (pD:gs<4294967296) (h1:val 4294967296 ud / val 4294967296 vs≤gs) (h2:gs*val 4294967296 vs<val 4294967296 ud+val 4294967296 vs) (V0:0<val 4294967296 vs)
  (hk:∀rs,rs.length=m+3→cd 4294967296 rs→val 4294967296 rs=val 4294967296 ud%val 4294967296 vs→K (.int .u32 ((val 4294967296 ud / val 4294967296 vs:Nat):Int)) (h.set id (.arr 177 (wv (mid us j rs))))):
  xz prog K (sl 177 id j (m+3)) (sl 177 iv 0 (m+2)) (I (m+2:Nat)) (.int .u64 (gs:Int)) h:=by
 have lJ:h=h.set id (.arr 177 (wv us)):=List.ext_getElem? fun i=>by
  rw [List.getElem?_set]
  split
  ·rename_i e;subst e
   rw [kg,if_pos (bK kg).1]
  ·rfl
 have Jk:bj (sl 177 iv 0 (m+2))=some (I (m+2:Nat)):=rfl
 rw [aAi]
 simp only [Jk,ah]
 refine dL (σ:=List Nat×Nat×Nat) (fun p=>[.int .u64 (p.2.1:Int),.int .u32 (p.2.2:Int),I p.1.length]) (fun p=>h.set id (.arr 177 (wv (mid us j p.1))))
  (fun p=>p.1.length≤m+2∧cd 4294967296 p.1∧p.2.1<4294967296∧p.2.2≤1∧val 4294967296 p.1+gs*val 4294967296 (vs.take p.1.length)=val 4294967296 (ud.take p.1.length)+(p.2.1+p.2.2)*4294967296^p.1.length) (fun p=>m+2-p.1.length)
  ([],0,0) rfl (by rw [afm];exact lJ.symm) ⟨zero_le _,fun y hy=>by simp at hy,by decide,zero_le _,by simp [val]⟩ ?_
 rintro ⟨xs,c,bo⟩ ⟨gZ,lx,hc,Qf,bT⟩ L hL
 simp only at gZ lx hc Qf bT hL⊢
 have vN:(h.set id (.arr 177 (wv (mid us j xs))))[id]?=some (.arr 177 (wv (mid us j xs))):=cj kg
 have RQ:aR (h.set id (.arr 177 (wv (mid us j xs)))) iv=some (wv vs++rest):=by rw [Dc bp];exact kv
 have D9:∀k,xs.length≤k→k≤m+2→(mid us j xs)[j+k]?=ud[k]?:=fun k h1 h2=>by rw [afl (by omega) h1,hu k h2]
 rw [aAj]
 simp only [cW,ah,bX]
 refine ⟨fun aD=>?_,fun cK=>?_⟩
 ·have hy:xs.length<m+2:=by omega
  have Rg:ud[xs.length]?=some (ud[xs.length]'(by omega)):=getElem?_eq_getElem (by omega)
  have Ri:vs[xs.length]?=some (vs[xs.length]'(by omega)):=getElem?_eq_getElem (by omega)
  have bx:=lu _ (getElem_mem (l:=ud) (n:=xs.length) (by omega))
  have bv:=lv _ (getElem_mem (l:=vs) (n:=xs.length) (by omega))
  have tx:=iX 4294967296 ud (i:=xs.length) (by omega)
  have tv:=iX 4294967296 vs (i:=xs.length) (by omega)
  generalize ud[xs.length]'(by omega)=x at*
  generalize vs[xs.length]'(by omega)=v at*
  have ld:=xY vN ((D9 _ (le_refl _) (by omega)).trans Rg)
  have Et:=CQ RQ Ri
  have hgv:=Jq pD bv
  simp only [re (show xs.length<m+3 by omega),re (show xs.length<m+2 by omega),zero_add,ah,ld,Et,tF bv,afE (show gs*v<18446744073709551616 by omega),X9 (show gs*v+c<18446744073709551616 by omega),Af,Dh]
  have lG:=div_add_mod (gs*v+c) 4294967296
  have hym:(gs*v+c)%4294967296<4294967296:=mod_lt _ (by decide)
  have hyd:(gs*v+c) / 4294967296<4294967296:=by omega
  refine V8 bx hym Qf ?_
  intro d b2 hd DG wY
  simp only [eQ,ft,fv,ah]
  rw [CR _ vN (by rw [BP (by omega)];omega),Jn (by omega),set_set]
  generalize (gs*v+c) / 4294967296=c2 at*
  generalize (gs*v+c)%4294967296=y at*
  have:=hL (xs++[d],c2,b2) ⟨by simp;omega,lx.append (fun z hz=>by simp at hz;omega),hyd,DG,by
   simp only [length_append,length_cons,length_nil,zero_add]
   rw [nJ,tx,tv,pow_succ]
   simp only [val,mul_zero,add_zero]
   exact aDM bT lG wY⟩ (by simp;omega)
  simp only [aC,cQ,fA xs.length (by omega),ah,true_and]
  simpa using this
 ·have hy:xs.length=m+2:=by omega
  have Rg:ud[m+2]?=some (ud[m+2]'(by omega)):=getElem?_eq_getElem (by omega)
  have bx:=lu _ (getElem_mem (l:=ud) (n:=m+2) (by omega))
  have tx:=iX 4294967296 ud (i:=m+2) (by omega)
  rw [take_of_length_le (by omega)] at tx
  generalize ud[m+2]'(by omega)=x at*
  have ld:=xY vN ((D9 (m+2) (by omega) (by omega)).trans Rg)
  rw [aAk]
  simp only [re (show m+2<m+3 by omega),ah,ld,Dh,mod_eq_of_lt hc]
  refine V8 bx hc Qf ?_
  intro d b2 hd DG wY
  simp only [eQ,ft,fv,ah]
  have adZ:=Jn (us:=us) (j:=j) (d:=d) (xs:=xs) (by omega)
  rw [hy] at adZ
  rw [CR _ vN (by rw [BP (by omega)];omega),adZ,set_set]
  simp only [aC]
  rw [hy,take_of_length_le (by omega:vs.length≤m+2)] at bT
  have Sf:cd 4294967296 (xs++[d]):=lx.append (fun z hz=>by simp at hz;omega)
  have pH:(xs++[d]).length=m+3:=by simp;omega
  have qC:val 4294967296 (xs++[d])+gs*val 4294967296 vs=val 4294967296 ud+b2*4294967296^(m+3):=by
   rw [nJ,hy,tx]
   simp only [val,mul_zero,add_zero]
   rw [azm]
   exact aDN bT wY
  generalize xs++[d]=xn at*
  have aE3:=div_add_mod (val 4294967296 ud) (val 4294967296 vs)
  have vp:=mod_lt (val 4294967296 ud) V0
  have xp:=m9 Sf
  rw [pH] at xp
  generalize hQ:val 4294967296 ud / val 4294967296 vs=Q at*
  generalize hR:val 4294967296 ud%val 4294967296 vs=R at*
  have QX:Q<4294967296:=by omega
  have HT:∀{a:Nat} {g:ae},a<4294967296→K (.int .u32 (a:Int)) g→EM prog K (.int .u64 (a:Int)) g:=by
   intro a g ha hK
   rw [aAn,Dh,ah,mod_eq_of_lt ha]
   exact hK
  rcases (show b2=1∨b2=0 by omega) with rfl | rfl
  ·skip
   have hgV:val 4294967296 ud<gs*val 4294967296 vs:=by omega
   have ID:gs=Q+1:=by
    have:gs<Q+2:=by
     apply byContradiction
     intro hn
     have h3:(Q+2)*val 4294967296 vs≤gs*val 4294967296 vs:=mul_le_mul_right _ (by omega)
     rw [add_mul,mul_comm Q] at h3
     omega
    have h4:gs≠Q:=by
     intro e
     rw [e,mul_comm] at hgV
     omega
    omega
   have bg:ai .gtr (.int .u32 ((1:Nat):Int)) (.int .u32 0)=some (B true):=rfl
   simp only [bg,ah,dX,abT (show 0<gs by omega) (show gs<18446744073709551616 by omega),Jk]
   refine amB (us:=mid us j xn) (xs:=xn) (cj kg) (by rw [Dc bp];exact kv) bp hn hm pH (by rw [BP (by omega)];omega) (fun k hk=>ayr (by omega) (by omega)) Sf lv ?_
   intro ys kf ly zl
   rw [set_set,ayq (by omega) (by omega)]
   have qE:=m9 ly
   rw [kf] at qE
   have QP:gs*val 4294967296 vs=val 4294967296 vs*(Q)+val 4294967296 vs:=by rw [ID,add_mul,mul_comm Q];omega
   have hyr:val 4294967296 ys=R:=by
    rw [Nat.one_mul] at qC
    rcases zl with zl | zl <;> omega
   rw [show gs-1=Q by omega]
   exact HT QX (hk ys kf ly hyr)
  ·have ID:gs=Q:=by
    have:gs≤Q:=by rw [←hQ];exact (Nat.le_div_iff_mul_le V0).2 (by omega)
    omega
   have bg:ai .gtr (.int .u32 ((0:Nat):Int)) (.int .u32 0)=some (B false):=rfl
   simp only [bg,ah,dV]
   have hxr:val 4294967296 xn=R:=by
    rw [ID,mul_comm] at qC
    omega
   rw [ID]
   exact HT QX (hk xn pH Sf hxr)
end
end
section
theorem avo (a b:Nat):ai .gtr (.int .u64 (a:Int)) (.int .u64 (b:Int))=some (B (decide (b<a))):=by
 rw [fN];congr 2;rw [decide_eq_decide];omega
theorem adn {a:Nat}:ai .gtr (.int .u64 ((a / 4294967296:Nat):Int)) (.int .u64 0)=some (B (decide (4294967296≤a))):=by
 rw [fN];congr 2;rw [decide_eq_decide]
 have:4294967296≤a↔0<a / 4294967296:=by omega
 rw [this]
 omega
section
variable {h : ae} {K : Value → ae → Prop} {id iv j m : Nat} {us vs ud : List Nat} {rest : List Value}
theorem amA {v1:Nat} (kg:h[id]?=some (.arr 177 (wv us))) (kv:aR h iv=some (wv vs++rest)) (bp:iv≠id) (hn:vs.length=m+2) (hm:m≤1000) (hx:ud.length=m+3) (hj:j+(m+3)≤us.length)
  (hu:∀k,k≤m+2→us[j+k]?=ud[k]?) (lu:cd 4294967296 ud) (lv:cd 4294967296 vs) (rH:vs[m+1]?=some v1) (ji:2147483648≤v1) (tN:val 4294967296 ud<val 4294967296 vs*4294967296)
  (hk:∀rs,rs.length=m+3→cd 4294967296 rs→val 4294967296 rs=val 4294967296 ud%val 4294967296 vs→K (.int .u32 ((val 4294967296 ud / val 4294967296 vs:Nat):Int)) (h.set id (.arr 177 (wv (mid us j rs))))):
  aj prog 137 [sl 177 id j (m+3),sl 177 iv 0 (m+2)] h K:=by
 obtain ⟨ul,rG,eU⟩:=aEf lu hx
 obtain ⟨vl,rI,eV⟩:=aEg lv hn
 have hu0:us[j+m]?=some (ud[m]'(by omega)):=by rw [hu m (by omega)];exact getElem?_eq_getElem _
 have hu1:us[j+(m+1)]?=some (ud[m+1]'(by omega)):=by rw [hu (m+1) (by omega)];exact getElem?_eq_getElem _
 have pK:us[j+(m+2)]?=some (ud[m+2]'(by omega)):=by rw [hu (m+2) (by omega)];exact getElem?_eq_getElem _
 have b0:=lu _ (getElem_mem (l:=ud) (n:=m) (by omega))
 have b1:=lu _ (getElem_mem (l:=ud) (n:=m+1) (by omega))
 have b2:=lu _ (getElem_mem (l:=ud) (n:=m+2) (by omega))
 have IZ:vs[m]?=some (vs[m]'(by omega)):=getElem?_eq_getElem _
 have c0:=lv _ (getElem_mem (l:=vs) (n:=m) (by omega))
 have c1:=lv _ (getElem_mem (l:=vs) (n:=m+1) (by omega))
 have e1:vs[m+1]'(by omega)=v1:=by
  rw [getElem?_eq_getElem (by omega)] at rH
  injection rH
 rw [e1] at c1 eV
 generalize ud[m]'(by omega)=t0 at*
 generalize ud[m+1]'(by omega)=t1 at*
 generalize ud[m+2]'(by omega)=t2 at*
 generalize vs[m]'(by omega)=v2 at*
 have hP:0<4294967296^m:=pow_pos (by decide)
 have ach:t1+t2*4294967296=t2*4294967296+t1:=Nat.add_comm ..
 rw [ach] at eU
 have V0:0<val 4294967296 vs:=by
  apply Nat.pos_of_ne_zero
  intro e
  rw [e,Nat.zero_mul] at tN
  omega
 have D5:=aD0 (by decide) eU ach.symm eV rI c0 tN
 have avJ:=avq eU rG b0 eV (by omega)
 have oz:=xY kg hu0
 have qK:=xY kg hu1
 have vQ:=xY kg pK
 have lv0:=CQ kv IZ
 have lv1:=CQ kv rH
 have Jk:bj (sl 177 iv 0 (m+2))=some (I (m+2:Nat)):=rfl
 have s1:ai .sub (I (m+2:Nat)) (.int .i64 1)=some (I (m+1:Nat)):=by rw [gq,wrap64 (by omega) (by omega)];congr 2;omega
 have s2:ai .sub (I (m+2:Nat)) (.int .i64 2)=some (I (m:Nat)):=by rw [gq,wrap64 (by omega) (by omega)];congr 2;omega
 have D6:t2*4294967296+t1<18446744073709551616:=by omega
 refine f137 ?_
 unfold M3
 simp only [Jk,ah,re (show m+2<m+3 by omega),vQ,true_and,tF b2,KE b2,s1,re (show m+1<m+3 by omega),qK,tF b1,JB b2 b1,re (show m+1<m+2 by omega),zero_add,lv1,tF c1,alh (show v1≠0 by omega) D6,aCA (show v1≠0 by omega) D6]
 generalize sO:t2*4294967296+t1=top at*
 have lG:=div_add_mod top v1
 have vp:=mod_lt top (show 0<v1 by omega)
 have hg0:top / v1≤4294967297:=by
  have:top / v1<4294967298:=by
   rw [Nat.div_lt_iff_lt_mul (by omega)]
   omega
  omega
 refine dL (σ:=Nat×Nat) (fun p=>[.int .u64 (p.1:Int),.int .u64 (p.2:Int)]) (fun _=>h) (fun p=>p.1*v1+p.2=top∧p.2<4294967296∧p.1≤4294967297∧val 4294967296 ud / val 4294967296 vs≤p.1) (fun p=>4294967296-p.2)
  (top / v1,top%v1) rfl rfl ⟨by show top / v1*v1+top%v1=top;rw [mul_comm];exact lG,by show top%v1<4294967296;omega,hg0,avJ⟩ ?_
 rintro ⟨g,r⟩ ⟨Qz,hr,hg,hq⟩ L hL
 simp only at Qz hr hg hq hL⊢
 have down:(4294967296≤g∨r*4294967296+t0<g*v2)→(OP (ai .sub (.int .u64 (g:Int)) (.int .u64 (1))) fun mD=>
   OP (ai .sub (I (m+2:Nat)) (.int .i64 (1))) fun jI=>
   OP (bc 1 (sl 177 iv 0 (m+2)) jI) fun jJ=>
   OP (af false 1 h jJ) fun kr=>
   OP (dh .u64 kr) fun iN=>
   OP (ai .add (.int .u64 (r:Int)) iN) fun fw=>
   OP (ai .shr fw (.int .u64 (32))) fun qY=>
   OP (ai .gtr qY (.int .u64 (0))) fun jK=>
   aQ jK
    (xz prog K (sl 177 id j (m+3)) (sl 177 iv 0 (m+2)) (I (m+2:Nat)) mD h)
    (([sl 177 id j (m+3),sl 177 iv 0 (m+2),I (m+2:Nat)]:List Value)=[sl 177 id j (m+3),sl 177 iv 0 (m+2),I (m+2:Nat)]∧L [mD,fw] h)):=by
  intro pB
  have hd:=avp eU rG eV tN Qz hq pB
  have jm:0<g:=by generalize val 4294967296 ud / val 4294967296 vs=Q at*;omega
  have hq1:val 4294967296 ud / val 4294967296 vs≤g-1:=by generalize val 4294967296 ud / val 4294967296 vs=Q at*;omega
  have adk:(g-1)*v1+(r+v1)=top:=by
   rw [Nat.sub_mul,Nat.one_mul]
   have:v1≤g*v1:=Nat.le_mul_of_pos_left v1 jm
   omega
  simp only [abT jm (show g<18446744073709551616 by omega),ah,s1,re (show m+1<m+2 by omega),zero_add,lv1,tF c1,X9 (show r+v1<18446744073709551616 by omega),Af,adn,bX]
  refine ⟨fun cK=>?_,fun aD=>⟨trivial,hL (g-1,r+v1) ⟨adk,by show r+v1<4294967296;omega,by show g-1≤4294967297;omega,hq1⟩ (by show 4294967296-(r+v1)<4294967296-r;omega)⟩⟩
  have pD:g-1<4294967296:=by
   apply byContradiction
   intro hn
   have h3:4294967296*v1≤(g-1)*v1:=mul_le_mul_right _ (by omega)
   have h4:t2*4294967296≤v1*4294967296:=mul_le_mul_right _ D5
   omega
  refine Wa kg kv bp hn hm hx hj hu lu lv pD hq1 (acM eU eV rI (by omega) adk pD ?_) V0 hk
  have h5:=Jq pD c0
  have h6:4294967296*4294967296≤(r+v1)*4294967296:=mul_le_mul_right _ cK
  omega
 have last:g<4294967296→g*v2≤r*4294967296+t0→xz prog K (sl 177 id j (m+3)) (sl 177 iv 0 (m+2)) (I (m+2:Nat)) (.int .u64 (g:Int)) h:=fun pD aG=>
  Wa kg kv bp hn hm hx hj hu lu lv pD hq (acM eU eV rI (by omega) Qz pD aG) V0 hk
 rw [aAo]
 simp only [Af,ah,adn]
 by_cases pD:4294967296≤g
 ·rw [a9 pD]
  simp only [gn,eW,ah,dX]
  simpa only [true_and] using down (.inl pD)
 ·rw [aU pD]
  have adj:g<4294967296:=by omega
  have hgv:=Jq adj c0
  simp only [eB,s2,ah,re (show m<m+2 by omega),re (show m<m+3 by omega),zero_add,lv0,oz,true_and,tF c0,tF b0,afE (show g*v2<18446744073709551616 by omega),KE hr,JB hr b0,avo,dI,bX]
  exact ⟨fun pB=>by simpa only [true_and] using down (.inr pB),fun aG=>last adj (by omega)⟩
end
end
section
theorem UQ (k k2:IntKind) {s n:Nat} (hn:n≤k.bits) (hb:n<1000):ai .shr (.int k (s:Int)) (.int k2 (n:Int))=some (.int k ((s / 2^n:Nat):Int)):=by
 simp only [ai,qG]
 rw [if_neg (by omega)]
 have:min ((n:Int).toNat) k.bits=n:=by omega
 rw [this,Int.fdiv_eq_ediv_of_nonneg _ (by have:(0:Int)<2^n:=Int.pow_pos (by decide);omega)]
 congr 2
theorem aDv (k2:IntKind) {x n:Nat} (hn:n<32) (hx:x<4294967296):ai .shl (.int .u64 (x:Int)) (.int k2 (n:Int))=some (.int .u64 ((x*2^n:Nat):Int)):=by
 have h2:2^n≤2^31:=pow_le_pow_right (by decide) (by omega)
 have h3:x*2^n≤4294967295*2^31:=Nat.mul_le_mul (by omega) h2
 have h4:x*2^n<18446744073709551616:=by omega
 simp only [ai,qG]
 rw [if_neg (by omega)]
 have:min ((n:Int).toNat) IntKind.u64.bits=n:=by
  have:IntKind.u64.bits=64:=rfl
  omega
 have e:(x:Int)*2^n=((x*2^n:Nat):Int):=by simp
 rw [this,e,kO (by omega) (by omega)]
theorem ay1 {s a q:Nat} (hs:s≤31) (ha:a<2^s) (hq:2^s*q<4294967296):ai .or (.int .u32 (a:Int)) (.int .u32 ((2^s*q:Nat):Int))=some (.int .u32 ((2^s*q+a:Nat):Int)):=by
 have h2:2^s≤2^31:=pow_le_pow_right (by decide) hs
 have IX:2^s*q+a<4294967296:=by
  have h3:q<2^(32-s):=by
   apply byContradiction
   intro hn
   have:2^s*2^(32-s)≤2^s*q:=mul_le_mul_left _ (by omega)
   rw [←pow_add,show s+(32-s)=32 by omega] at this
   omega
  have h4:2^s*(q+1)≤2^s*2^(32-s):=mul_le_mul_left _ (by omega)
  rw [←pow_add,show s+(32-s)=32 by omega,Nat.mul_add] at h4
  omega
 have e:(BitVec.ofInt IntKind.u32.bits (a:Int) ||| BitVec.ofInt IntKind.u32.bits ((2^s*q:Nat):Int)).toNat=2^s*q+a:=by
  show (BitVec.ofInt 32 (a:Int) ||| BitVec.ofInt 32 ((2^s*q:Nat):Int)).toNat=_
  rw [BitVec.ofInt_natCast,BitVec.ofInt_natCast,BitVec.toNat_or,BitVec.toNat_ofNat,BitVec.toNat_ofNat,mod_eq_of_lt (by omega),mod_eq_of_lt (by omega),Nat.or_comm]
  exact (Nat.two_pow_add_eq_or_of_lt ha q).symm
 simp only [ai,hI,if_true]
 rw [e,oA (by omega) (by omega)]
def pO (x:Nat):Nat:=if x=0 then 0 else x.log2+1
def Vb:Value:=(.string ⟨#[0,1,2,2,3,3,3,3,4,4,4,4,4,4,4,4,5,5,5,5,5,5,5,5,5,5,5,5,5,5,5,5,6,6,6,6,6,6,6,6,6,6,6,6,6,6,6,6,6,6,6,6,6,6,6,6,6,6,6,6,6,6,6,6,7,7,7,7,7,7,7,7,7,7,7,7,7,7,7,7,7,7,7,7,7,7,7,7,7,7,7,7,7,7,7,7,7,7,7,7,7,7,7,7,7,7,7,7,7,7,7,7,7,7,7,7,7,7,7,7,7,7,7,7,7,7,7,7,8,8,8,8,8,8,8,8,8,8,8,8,8,8,8,8,8,8,8,8,8,8,8,8,8,8,8,8,8,8,8,8,8,8,8,8,8,8,8,8,8,8,8,8,8,8,8,8,8,8,8,8,8,8,8,8,8,8,8,8,8,8,8,8,8,8,8,8,8,8,8,8,8,8,8,8,8,8,8,8,8,8,8,8,8,8,8,8,8,8,8,8,8,8,8,8,8,8,8,8,8,8,8,8,8,8,8,8,8,8,8,8,8,8,8,8,8,8,8,8,8,8,8,8,8,8,8,8]⟩)
theorem aDV:((List.range 256).map fun x:Nat=>jP Vb (.int .u8 (x:Int)))=(List.range 256).map fun x:Nat=>some (.int .u8 (pO x:Int)):=by kernel_rfl
theorem aDW {x:Nat} (h:x<256):jP Vb (.int .u8 (x:Int))=some (.int .u8 (pO x:Int)):=by
 have:=congrArg (fun l=>l[x]?) aDV
 simpa [h] using this
theorem ax8 {x:Nat} (h:0<x):1≤pO x∧2^(pO x-1)≤x∧x<2^pO x:=by
 unfold pO
 rw [if_neg (by omega)]
 refine ⟨by omega,?_,Nat.lt_log2_self⟩
 rw [Nat.add_sub_cancel]
 exact Nat.log2_self_le (by omega)
theorem amE {x:Nat} {h:ae} {K:Value→ae→Prop} (h0:0<x) (hx:x<4294967296) (hk:∀n:Nat,1≤n→n≤32→2^(n-1)≤x→x<2^n→K (I n) h):aj prog 141 [.int .u32 (x:Int)] h K:=by
 refine f141 ?_
 have last:∀{y n0:Nat},0<y→y<256→n0≤24→2^n0*y≤x→x<2^n0*(y+1)→JP prog K (.int .u32 (y:Int)) (I n0) h:=by
  intro y n0 y0 aEK oh eD ji
  rw [aAy]
  have cv:dh .u8 (.int .u32 (y:Int))=some (.int .u8 (y:Int)):=by
   rw [jN];congr 2
   have e:IntKind.wrap .u8 (y:Int)=(y:Int)%256:=by simp [IntKind.wrap,IntKind.bits,IntKind.signed]
   rw [e];omega
  obtain ⟨l1,l2,l3⟩:=ax8 y0
  have l8:pO y≤8:=by
   apply byContradiction
   intro hn
   have:2^8≤2^(pO y-1):=pow_le_pow_right (by decide) (by omega)
   omega
  have ix:=aDW aEK
  have w1:dh .i64 (.int .u8 (pO y:Int))=some (I (pO y)):=by rw [jN,wrap64 (by omega) (by omega)]
  have w2:ai .add (I n0) (I (pO y))=some (I (n0+pO y:Nat)):=by rw [cQ,wrap64 (by omega) (by omega)];congr 2 <;> omega
  unfold Vb at ix
  rw [cv,ah,ix,ah,w1,ah,w2,ah]
  refine hk _ (by omega) (by omega) ?_ ?_
  ·rw [show n0+pO y-1=n0+(pO y-1) by omega,pow_add]
   exact Nat.le_trans (mul_le_mul_left _ l2) eD
  ·rw [pow_add]
   exact lt_of_lt_of_le ji (mul_le_mul_left _ l3)
 have mid:∀{y n0:Nat},0<y→y<65536→n0≤16→2^n0*y≤x→x<2^n0*(y+1)→JO prog K (.int .u32 (y:Int)) (I n0) h:=by
  intro y n0 y0 y65 oh eD ji
  rw [aAx]
  simp only [nS,ah,bX]
  refine ⟨fun cK=>?_,fun aD=>last y0 (by omega) (by omega) eD ji⟩
  have sh:ai .shr (.int .u32 (y:Int)) (.int .u64 8)=some (.int .u32 ((y / 2^8:Nat):Int)):=UQ .u32 .u64 (n:=8) (by decide) (by decide)
  have w2:ai .add (I n0) (.int .i64 8)=some (I (n0+8:Nat)):=by rw [cQ,wrap64 (by omega) (by omega)];congr 2
  simp only [sh,ah,w2]
  have lG:=div_add_mod y 256
  have vp:=mod_lt y (show 0<256 by decide)
  refine last (y:=y / 2^8) (by omega) (by omega) (by omega) ?_ ?_
  ·rw [pow_add,mul_assoc]
   exact Nat.le_trans (mul_le_mul_left _ (by omega)) eD
  ·rw [pow_add,mul_assoc]
   exact lt_of_lt_of_le ji (mul_le_mul_left _ (by omega))
 unfold M7
 simp only [nS,ah,bX]
 refine ⟨fun cK=>?_,fun aD=>mid (n0:=0) h0 (by omega) (by decide) (by simp) (by simp)⟩
 have sh:ai .shr (.int .u32 (x:Int)) (.int .u64 16)=some (.int .u32 ((x / 2^16:Nat):Int)):=UQ .u32 .u64 (n:=16) (by decide) (by decide)
 simp only [sh,ah]
 have lG:=div_add_mod x 65536
 have vp:=mod_lt x (show 0<65536 by decide)
 exact mid (n0:=16) (y:=x / 2^16) (by omega) (by omega) (by decide) (by omega) (by omega)
theorem amz {x:Nat} {h:ae} {K:Value→ae→Prop} (h0:0<x) (hx:x<4294967296) (hk:∀s:Nat,s≤31→2147483648≤x*2^s→x*2^s<4294967296→K (I s) h):aj prog 135 [.int .u32 (x:Int)] h K:=by
 refine f135 ?_
 unfold M0
 refine amE h0 hx ?_
 intro n h1 h32 eD ji
 have e:ai .sub (.int .i64 32) (I n)=some (I (32-n:Nat)):=by rw [gq,wrap64 (by omega) (by omega)];congr 2;omega
 simp only [e,ah]
 have p1:2^(n-1)*2^(32-n)=2147483648:=by rw [←pow_add,show n-1+(32-n)=31 by omega]
 have p2:2^n*2^(32-n)=4294967296:=by rw [←pow_add,show n+(32-n)=32 by omega]
 refine hk _ (by omega) ?_ ?_
 ·rw [←p1];exact mul_le_mul_right _ eD
 ·rw [←p2];exact Nat.mul_lt_mul_of_pos_right ji (pow_pos (by decide))
end
section
theorem Kf {s:Nat} (hs:s≤31):(4294967296:Nat)=2^s*2^(32-s):=by rw [←pow_add,show s+(32-s)=32 by omega]
theorem aEa {s x:Nat} (hs:s≤31) (hx:x<4294967296):(∃q,x*2^s%4294967296=2^s*q)∧x*2^s / 4294967296<2^s:=by
 have e:=Kf hs
 have p0:0<2^s:=pow_pos (by decide)
 refine ⟨⟨x%2^(32-s),?_⟩,?_⟩
 ·rw [e,mul_comm x,Nat.mul_mod_mul_left]
 ·rw [Nat.div_lt_iff_lt_mul (by decide),mul_comm x]
  exact Nat.mul_lt_mul_of_pos_left hx p0
theorem aEb {P c t d e X Y:Nat} (h1:X+P*c=Y+P*(d+c)) (h2:4294967296*e+d=t):X+P*4294967296*e=Y+P*t:=by
 rw [←h2]
 grind
theorem V9 {v:Value} {xs:List Nat} {s:Nat} {h:ae} {K:Value→ae→Prop} (hx:DS 177 .u32 h v xs) (lx:cd 4294967296 xs) (hs:s≤31) (hl:xs.length≤200)
  (hk:∀os,os.length=xs.length+1→cd 4294967296 os→val 4294967296 os=val 4294967296 xs*2^s→K (sl 177 h.length 0 (xs.length+1)) (hd h os)):aj prog 136 [v,I s] h K:=by
 refine f136 ?_
 have e1:IntKind.wrap .i64 ((xs.length:Int)+1)=((xs.length+1:Nat):Int):=by rw [wrap64 (by omega) (by omega)];omega
 simp only [M1,hx.len,ah,cQ,e1,zN (show xs.length+1≤1000 by omega),aC]
 have p0:0<2^s:=pow_pos (by decide)
 refine dL (σ:=List Nat×Nat) (fun p=>[I p.2]) (fun p=>hd h p.1) (fun p=>p.2≤xs.length∧p.1.length=xs.length+1∧cd 4294967296 p.1∧val 4294967296 p.1=val 4294967296 (xs.take p.2)*2^s∧
   (∀k,p.2<k→k≤xs.length→p.1[k]?=some 0)∧∃c,p.1[p.2]?=some c∧c<2^s) (fun p=>xs.length-p.2)
  (replicate (xs.length+1) 0,0) rfl rfl ⟨zero_le _,by simp,cd.wx (by decide) _,by simp [xI,val],fun k _ (h2:k≤xs.length)=>by rw [List.getElem?_replicate,if_pos (by omega)],0,by simp,p0⟩ ?_
 rintro ⟨os,i⟩ ⟨hi,gO,lo,bT,hz,c,hc,qm⟩ L hL
 simp only at hi gO lo bT hz hc qm hL⊢
 rw [aAh]
 simp only [cW,ah,bX]
 refine ⟨fun aD=>?_,fun cK=>?_⟩
 ·have bC:i<xs.length:=by omega
  obtain ⟨b,r1,r2⟩:=hx.get bC
  have xp:=lx _ (getElem_mem bC)
  have tx:=iX 4294967296 xs bC
  have Ur:af false 1 (hd h os) (pt b i)=some (.int .u32 (xs[i]:Int)):=(kC h os).load r2
  generalize xs[i]=x at*
  obtain ⟨⟨q,hq⟩,DZ⟩:=aEa hs xp
  have hcv:os[i]'(by omega)=c:=by
   rw [getElem?_eq_getElem (by omega)] at hc
   injection hc
  have ld:=ac9 (h:=h) (os:=os) (j:=i) (by omega)
  rw [hcv] at ld
  have hqb:2^s*q<4294967296:=by rw [←hq];exact mod_lt _ (by decide)
  have hqc:2^s*q+c<4294967296:=by
   have e:=Kf hs
   have h3:q<2^(32-s):=by
    apply byContradiction
    intro hn
    have:2^s*2^(32-s)≤2^s*q:=mul_le_mul_left _ (by omega)
    omega
   have h4:2^s*(q+1)≤2^s*2^(32-s):=mul_le_mul_left _ (by omega)
   rw [Nat.mul_add] at h4
   omega
  have ea:bc 1 (sl 177 h.length 0 (xs.length+1)) (I i)=some (pt h.length i):=mL (by omega)
  have ea2:bc 1 (sl 177 h.length 0 (xs.length+1)) (I (i+1:Nat))=some (pt h.length (i+1)):=mL (by omega)
  have II:=div_add_mod (x*2^s) 4294967296
  have oP:x*2^s / 4294967296<4294967296:=by
   have:2^s≤2^31:=pow_le_pow_right (by decide) hs
   omega
  have wi:IntKind.wrap .i64 ((i:Int)+1)=((i+1:Nat):Int):=by rw [wrap64 (by omega) (by omega)];omega
  simp only [r1,Ur,ah,tF xp,aDv .i64 (show s<32 by omega) xp,ea,ld,Dh,hq,ay1 hs qm hqb,u7 _ (show i<os.length by omega),aC,cQ,wi,Af,ea2,mod_eq_of_lt oP,
   u7 _ (show i+1<(os.set i (2^s*q+c)).length by rw [length_set];omega),true_and]
  have v1:=tk 4294967296 os i (2^s*q+c) (by omega)
  have v2:=tk 4294967296 (os.set i (2^s*q+c)) (i+1) (x*2^s / 4294967296) (by rw [length_set];omega)
  have pM:=hz (i+1) (by omega) (by omega)
  have ov:(os.set i (2^s*q+c))[i+1]'(by rw [length_set];omega)=0:=by
   rw [List.getElem_set_ne (by omega)]
   rw [getElem?_eq_getElem (by omega)] at pM
   injection pM
  rw [hcv] at v1
  rw [ov,mul_zero,add_zero,pow_succ] at v2
  rw [hq] at II
  refine hL ((os.set i (2^s*q+c)).set (i+1) (x*2^s / 4294967296),i+1) ⟨by show i+1≤_;omega,by simp [gO],(lo.set hqc i).set oP (i+1),?_,fun k h1 h2=>?_,_,List.getElem?_set_self (by rw [length_set];omega),DZ⟩ (by show xs.length-(i+1)<xs.length-i;omega)
  ·show val 4294967296 ((os.set i (2^s*q+c)).set (i+1) (x*2^s / 4294967296))=val 4294967296 (xs.take (i+1))*2^s
   rw [v2,aEb v1 II,tx,add_mul,←bT,mul_assoc (4294967296^i) x]
  ·have h1:i+1<k:=h1
   rw [getElem?_set_ne (by omega),getElem?_set_ne (by omega)]
   exact hz k (by omega) h2
 ·have fY:i=xs.length:=by omega
  subst fY
  rw [List.take_length] at bT
  rw [aAg]
  exact hk os gO lo bT
theorem K1 (B:Nat) (xs:List Nat) {i:Nat} (hi:i≤xs.length):val B xs=val B (xs.take i)+B^i*val B (xs.drop i):=by
 have:=nJ B (xs.take i) (xs.drop i)
 rwa [List.take_append_drop,length_take,min_eq_left hi] at this
theorem atO {s x y Z:Nat} (hs:s≤31):(x+4294967296*(y+4294967296*Z)) / 2^s%4294967296=(x+y*4294967296) / 2^s%4294967296:=by
 have e:=Kf hs
 have p0:0<2^s:=pow_pos (by decide)
 have:x+4294967296*(y+4294967296*Z)=x+y*4294967296+2^s*(4294967296*(2^(32-s)*Z)):=by
  generalize 2^s=a at*
  generalize 2^(32-s)=b at*
  grind
 rw [this,Nat.add_mul_div_left _ _ p0,Nat.add_mul_mod_self_left]
theorem amC {v:Value} {xs:List Nat} {s:Nat} {h:ae} {K:Value→ae→Prop} (hx:DS 177 .u32 h v xs) (lx:cd 4294967296 xs) (hs:s≤31) (hl:xs.length≤200)
  (hk:∀v' h',EX h h'→dD h' v' (val 4294967296 xs / 2^s)→K v' h'):aj prog 138 [v,I s] h K:=by
 refine f138 ?_
 simp only [M4,hx.len,ah,zN (show xs.length≤1000 by omega),aC]
 refine dL (σ:=List Nat×Nat) (fun p=>[I p.2]) (fun p=>hd h p.1) (fun p=>p.2≤xs.length∧p.1.length=xs.length∧cd 4294967296 p.1∧val 4294967296 p.1=val 4294967296 xs / 2^s%4294967296^p.2∧
   ∀k,p.2≤k→k<xs.length→p.1[k]?=some 0) (fun p=>xs.length-p.2)
  (replicate xs.length 0,0) rfl rfl ⟨zero_le _,by simp,cd.wx (by decide) _,by simp [xI,Nat.mod_one],fun k _ (h2:k<xs.length)=>by rw [List.getElem?_replicate,if_pos h2]⟩ ?_
 rintro ⟨os,i⟩ ⟨hi,gO,lo,bT,hz⟩ L hL
 simp only at hi gO lo bT hz hL⊢
 rw [aAs]
 simp only [cW,ah,bX]
 refine ⟨fun aD=>?_,fun cK=>?_⟩
 ·have bC:i<xs.length:=by omega
  obtain ⟨b,r1,r2⟩:=hx.get bC
  have xp:=lx _ (getElem_mem bC)
  have Ur:af false 1 (hd h os) (pt b i)=some (.int .u32 (xs[i]:Int)):=(kC h os).load r2
  have wi:IntKind.wrap .i64 ((i:Int)+1)=((i+1:Nat):Int):=by rw [wrap64 (by omega) (by omega)];omega
  have ea:bc 1 (sl 177 h.length 0 xs.length) (I i)=some (pt h.length i):=mL (by omega)
  -- uz gR HL is
  have fin:∀t:Nat,t / 2^s%4294967296=val 4294967296 (xs.drop i) / 2^s%4294967296→JN prog K v (I s) (sl 177 h.length 0 xs.length) (I i) (.int .u64 (t:Int)) (I xs.length) (I i) L (hd h os):=by
   intro t ht
   rw [aAp]
   simp only [UQ .u64 .i64 (s:=t) (n:=s) (by have:IntKind.u64.bits=64:=rfl;omega) (by omega),ah,Dh,ea,u7 _ (show i<os.length by omega),aC,aAq,cQ,wi,true_and]
   have oP:t / 2^s%4294967296<4294967296:=mod_lt _ (by decide)
   refine hL (os.set i (t / 2^s%4294967296),i+1) ⟨by show i+1≤_;omega,by simp [gO],lo.set oP i,?_,fun k h1 h2=>?_⟩ (by show xs.length-(i+1)<xs.length-i;omega)
   ·show val 4294967296 (os.set i (t / 2^s%4294967296))=val 4294967296 xs / 2^s%4294967296^(i+1)
    have v1:=tk 4294967296 os i (t / 2^s%4294967296) (by omega)
    have pM:=hz i (le_refl _) bC
    have ov:os[i]'(by omega)=0:=by
     rw [getElem?_eq_getElem (by omega)] at pM
     injection pM
    rw [ov,mul_zero,add_zero,bT] at v1
    rw [v1,ht,Nat.mod_pow_succ,Nat.div_div_eq_div_mul,mul_comm (2^s),←Nat.div_div_eq_div_mul]
    congr 3
    rw [K1 4294967296 xs hi]
    have sL:=m9 (xs:=xs.take i) (lx.mono fun y hy=>mem_of_mem_take hy)
    rw [length_take,min_eq_left hi] at sL
    have hB:0<4294967296^i:=pow_pos (by decide)
    rw [Nat.add_mul_div_left _ _ hB,Nat.div_eq_of_lt sL,zero_add]
   ·have h1:i+1≤k:=h1
    rw [getElem?_set_ne (by omega)]
    exact hz k (by omega) h2
  have ed:xs.drop i=xs[i]::xs.drop (i+1):=List.drop_eq_getElem_cons bC
  simp only [r1,Ur,ah,tF xp,cQ,wi,hx.len,cW,bX]
  refine ⟨fun mm=>?_,fun Qu=>?_⟩
  ·have QC:i+1<xs.length:=by omega
   obtain ⟨b2,s1,s2⟩:=hx.get QC
   have qE:=lx _ (getElem_mem QC)
   have s2':af false 1 (hd h os) (pt b2 (i+1))=some (.int .u32 (xs[i+1]:Int)):=(kC h os).load s2
   have eor:ai .or (.int .u64 (xs[i]:Int)) (.int .u64 ((xs[i+1]*4294967296:Nat):Int))=some (.int .u64 ((xs[i]+xs[i+1]*4294967296:Nat):Int)):=by
    have:=JB qE xp
    simp only [ai,hI,if_true] at this⊢
    rw [BitVec.or_comm,this,Nat.add_comm]
   simp only [s1,s2',ah,tF qE,KE qE,eor]
   refine fin _ ?_
   rw [ed,List.drop_eq_getElem_cons QC]
   simp only [val]
   rw [atO hs]
  ·refine fin _ ?_
   rw [ed,List.drop_eq_nil_of_le (by omega)]
   simp [val]
 ·have fY:i=xs.length:=by omega
  subst fY
  have aD:val 4294967296 xs / 2^s<4294967296^xs.length:=Nat.lt_of_le_of_lt (Nat.div_le_self ..) (m9 lx)
  rw [mod_eq_of_lt aD] at bT
  rw [aAr]
  have wZ:DS 177 .u32 (hd h os) (sl 177 h.length 0 xs.length) os:=by rw [←gO];exact yG h os
  refine sf wZ lo (by omega) ?_
  intro v' kG
  rw [bT] at kG
  exact hk v' _ (kC h os) kG
end
section
theorem atL {A Q V low D P:Nat} (hA:A=low+P*D+Q*V):A=low+P*(D%V)+(Q+P*(D / V))*V:=by
 have:=div_add_mod D V
 have e:P*(V*(D / V)+D%V)=P*D:=by rw [this]
 rw [hA,add_mul]
 have e2:P*(V*(D / V)+D%V)=P*(D / V)*V+P*(D%V):=by grind
 omega
theorem aDX {B n U l d:Nat} (h:U=l+B^n*d) (hU:U<B^n):d=0:=by
 apply byContradiction
 intro bp
 have:B^n*1≤B^n*d:=mul_le_mul_left _ (by omega)
 generalize B^n=Z at*
 omega
theorem aD1 {B j m U V L D X T:Nat} (h1:U=L+B^j*D) (h2:D=X+B^(m+3)*T) (hV:V<B^(m+2)) (hB:0<B) (aD:U<V*B^(j+1)):T=0:=by
 apply byContradiction
 intro bp
 have a1:B^(m+3)*1≤B^(m+3)*T:=mul_le_mul_left _ (by omega)
 have a2:B^j*B^(m+3)≤B^j*D:=mul_le_mul_left _ (by rw [h2];generalize B^(m+3)*T=z at*;omega)
 have a3:V*B^(j+1)<B^(m+2)*B^(j+1):=Nat.mul_lt_mul_of_pos_right hV (pow_pos hB)
 rw [←pow_add] at a2 a3
 rw [show m+2+(j+1)=j+(m+3) by omega] at a3
 generalize B^(j+(m+3))=z at*
 generalize V*B^(j+1)=w at*
 generalize B^j*D=y at*
 omega
theorem apY {B j V L D U:Nat} (h1:U=L+B^j*D) (aD:U<V*B^(j+1)):D<V*B:=by
 apply byContradiction
 intro bp
 have a1:B^j*(V*B)≤B^j*D:=mul_le_mul_left _ (by omega)
 have a2:V*B^(j+1)=B^j*(V*B):=by
  rw [pow_succ]
  generalize B^j=z
  rw [←mul_assoc,mul_comm _ z,mul_assoc]
 rw [a2] at aD
 generalize B^j*(V*B)=w at*
 generalize B^j*D=y at*
 omega
theorem ax7 {B j L r V:Nat} (hL:L<B^j) (hr:r<V):L+B^j*r<V*B^j:=by
 have:B^j*(r+1)≤B^j*V:=mul_le_mul_left _ hr
 rw [Nat.mul_add,Nat.mul_one] at this
 rw [mul_comm V]
 generalize B^j*V=w at*
 generalize B^j*r=y at*
 generalize B^j=z at*
 omega
theorem ayI {n b s top:Nat} {vs ys:List Nat} (cv:dw 4294967296 vs) (ly:cd 4294967296 ys) (hn:ys.length=n+1) (sO:ys[n]?=some top) (hb:val 4294967296 ys=b) (hv:val 4294967296 vs=b*2^s) (hs:s≤31) (h1:2147483648≤top*2^s) (h2:top*2^s<4294967296):
  vs.length=n+1∧∃v1,vs[n]?=some v1∧2147483648≤v1:=by
 have te:ys[n]'(by omega)=top:=by
  rw [getElem?_eq_getElem (by omega)] at sO
  injection sO
 have tv:=iX 4294967296 ys (i:=n) (by omega)
 rw [take_of_length_le (by omega),te,hb] at tv
 have sL:=m9 (xs:=ys.take n) (ly.mono fun y hy=>mem_of_mem_take hy)
 rw [length_take,min_eq_left (by omega)] at sL
 generalize val 4294967296 (ys.take n)=l at*
 have hP:0<4294967296^n:=pow_pos (by decide)
 have eD:2147483648*4294967296^n≤b*2^s:=by
  have e1:top*2^s*4294967296^n≤b*2^s:=by
   rw [tv,add_mul]
   have:4294967296^n*top*2^s=top*2^s*4294967296^n:=by
    rw [mul_assoc,mul_comm]
   omega
  exact Nat.le_trans (mul_le_mul_right _ h1) e1
 have ji:b*2^s<4294967296^(n+1):=by
  have e:=Kf hs
  have p0:0<2^s:=pow_pos (by decide)
  have t1:top+1≤2^(32-s):=by
   apply byContradiction
   intro hn
   have:2^s*2^(32-s)≤2^s*top:=mul_le_mul_left _ (by omega)
   rw [mul_comm (2^s) top] at this
   omega
  have t2:b<(top+1)*4294967296^n:=by
   rw [tv,add_mul,Nat.one_mul,mul_comm top]
   omega
  have t3:b*2^s<(top+1)*4294967296^n*2^s:=Nat.mul_lt_mul_of_pos_right t2 p0
  have t4:(top+1)*4294967296^n*2^s≤2^(32-s)*4294967296^n*2^s:=mul_le_mul_right _ (mul_le_mul_right _ t1)
  have t5:2^(32-s)*4294967296^n*2^s=4294967296^n*(2^s*2^(32-s)):=by
   generalize 2^(32-s)=x
   generalize 2^s=y
   generalize 4294967296^n=z
   grind
  rw [t5,←e,←pow_succ] at t4
  omega
 have hle:vs.length≤n+1:=cv.len (by decide) (by rw [hv];exact ji)
 have cK:n<vs.length:=by
  have h3:=m9 cv.1
  rw [hv] at h3
  have h4:4294967296^n<4294967296^vs.length:=by
   have:1*4294967296^n≤2147483648*4294967296^n:=mul_le_mul_right _ (by decide)
   omega
  exact (Nat.pow_lt_pow_iff_right (by decide)).1 h4
 refine ⟨by omega,vs[n],getElem?_eq_getElem cK,?_⟩
 have t2:=iX 4294967296 vs (i:=n) cK
 rw [take_of_length_le (by omega),hv] at t2
 have pH:=m9 (xs:=vs.take n) (cv.1.mono fun y hy=>mem_of_mem_take hy)
 rw [length_take,min_eq_left (by omega)] at pH
 apply byContradiction
 intro hc
 have:4294967296^n*(vs[n]+1)≤4294967296^n*2147483648:=mul_le_mul_left _ (by omega)
 rw [Nat.mul_add,Nat.mul_one,mul_comm _ 2147483648] at this
 omega
theorem aDD {id N l r:Nat} (h1:l≤r) (h2:r≤N):mo 177 1 (sl 177 id 0 N) (some (I l)) (some (I r))=some (sl 177 id l (r-l)):=by
 simp [mo,sl,rM,sX,h1,h2]
theorem aDE {id N r:Nat} (h2:r≤N):mo 177 1 (sl 177 id 0 N) none (some (I r))=some (sl 177 id 0 r):=by
 simp [mo,sl,rM,sX,h2]
section
variable {h : ae} {K : Value → ae → Prop}
theorem amy {g:ae} {id iq iv m s nq A:Nat} {vs us:List Nat} {rest:List Value} {v1:Nat} (iG:h.length≤id) (hiq:h.length≤iq) (bp:iv≠id) (av7:iv≠iq) (adJ:id≠iq) (hn:vs.length=m+2) (hm:m≤1000) (hs:s≤31)
  (lv:cd 4294967296 vs) (rH:vs[m+1]?=some v1) (ji:2147483648≤v1) (rG:us.length=nq+1+(m+2)) (hnq:nq≤200) (vk:m≤150) (lu:cd 4294967296 us) (hA:val 4294967296 us=A) (Io:A<val 4294967296 vs*4294967296^(nq+1))
  (hx:EX h g) (ku:g[id]?=some (.arr 177 (wv us))) (kq:g[iq]?=some (.arr 177 (wv (replicate (nq+1) 0)))) (kv:aR g iv=some (wv vs++rest))
  (hk:∀q r h',EX h h'→dD h' q (A / val 4294967296 vs)→dD h' r (A%val 4294967296 vs / 2^s)→K (.tuple #[q,r]) h'):
  cM [I nq] g fun L1 xs hx=>S8 prog K (I s) (sl 177 iv 0 (m+2)) (sl 177 id 0 (nq+1+(m+2))) (I (m+2:Nat)) (sl 177 iq 0 (nq+1)) L1 xs hx:=by
 have V0:0<val 4294967296 vs:=by
  apply Nat.pos_of_ne_zero
  intro e
  rw [e,Nat.zero_mul] at Io
  omega
 have Vn:=m9 lv
 rw [hn] at Vn
 refine dL (σ:=Nat×List Nat×List Nat×ae) (fun p=>[I ((p.1:Int)-1)]) (fun p=>p.2.2.2)
  (fun p=>p.1≤nq+1∧EX h p.2.2.2∧p.2.1.length=nq+1+(m+2)∧cd 4294967296 p.2.1∧p.2.2.1.length=nq+1∧cd 4294967296 p.2.2.1∧(∀k,k<p.1→p.2.2.1[k]?=some 0)∧
   A=val 4294967296 p.2.1+val 4294967296 p.2.2.1*val 4294967296 vs∧val 4294967296 p.2.1<val 4294967296 vs*4294967296^p.1∧
   p.2.2.2[id]?=some (.arr 177 (wv p.2.1))∧p.2.2.2[iq]?=some (.arr 177 (wv p.2.2.1))∧aR p.2.2.2 iv=some (wv vs++rest)) (fun p=>p.1)
  (nq+1,us,replicate (nq+1) 0,g) (by simp) rfl ⟨le_refl _,hx,rG,lu,by simp,cd.wx (by decide) _,fun k (hk:k<nq+1)=>by rw [List.getElem?_replicate,if_pos hk],by show A=_;rw [hA,xI];simp,by show val 4294967296 us<_;rw [hA];exact Io,ku,kq,kv⟩ ?_
 clear ku kq kv hx lu hA rG us g
 rintro ⟨jn,us,qs,g⟩ ⟨vh,hx,rG,lu,qv,lq,hz,hA,aD,ku,kq,kv⟩ L hL
 simp only at vh hx rG lu qv lq hz hA aD ku kq kv hL⊢
 rw [aAe]
 simp only [nS,ah,bX]
 refine ⟨fun cK=>?_,fun jk=>?_⟩
 ·obtain ⟨j,rfl⟩:∃j,jn=j+1:=⟨jn-1,by omega⟩
  have ej:((j+1:Nat):Int)-1=(j:Int):=by omega
  have w1:ai .add (I j) (I (m+2:Nat))=some (I (j+(m+2):Nat)):=by rw [cQ,wrap64 (by omega) (by omega)];congr 2
  have w2:ai .add (I (j+(m+2):Nat)) (.int .i64 1)=some (I (j+(m+3):Nat)):=by rw [cQ,wrap64 (by omega) (by omega)];congr 2
  have w3:ai .sub (I j) (.int .i64 1)=some (I ((j:Int)-1)):=by rw [gq,wrap64 (by omega) (by omega)]
  have w4:j+(m+3)-j=m+3:=by omega
  rw [ej]
  simp only [w1,w2,ah,aDD (show j≤j+(m+3) by omega) (show j+(m+3)≤nq+1+(m+2) by omega),w4]
  have oP:((us.drop j).take (m+3)).length=m+3:=by rw [length_take,List.length_drop];omega
  have hud:∀k,k≤m+2→us[j+k]?=((us.drop j).take (m+3))[k]?:=by
   intro k hk
   rw [List.getElem?_take_of_lt (by omega),List.getElem?_drop]
  have lud:cd 4294967296 ((us.drop j).take (m+3)):=lu.mono fun y hy=>List.mem_of_mem_drop (mem_of_mem_take hy)
  -- gR number:uz is below,uz is aEU,and nothing aEO
  have mh:=K1 4294967296 us (i:=j) (by omega)
  have yF:=K1 4294967296 (us.drop j) (i:=m+3) (by rw [List.length_drop];omega)
  have sL:=m9 (xs:=us.take j) (lu.mono fun y hy=>mem_of_mem_take hy)
  rw [length_take,min_eq_left (by omega)] at sL
  have sO:val 4294967296 ((us.drop j).drop (m+3))=0:=aD1 mh yF Vn (by decide) aD
  rw [sO,mul_zero,add_zero] at yF
  rw [yF] at mh
  have tN:val 4294967296 ((us.drop j).take (m+3))<val 4294967296 vs*4294967296:=apY mh aD
  refine amA ku kv bp hn hm oP (by omega) hud lud lv rH ji tN ?_
  intro rs Q6 lr hrv
  have kq':(g.set id (.arr 177 (wv (mid us j rs))))[iq]?=some (.arr 177 (wv qs)):=by rw [getElem?_set_ne adJ];exact kq
  have auD:bc 1 (sl 177 iq 0 (nq+1)) (I j)=some (pt iq j):=mL (by omega)
  simp only [auD,ah,CR _ kq' (show j<qs.length by omega),aC,w3,true_and]
  have DZ:val 4294967296 ((us.drop j).take (m+3)) / val 4294967296 vs<4294967296:=by
   rw [Nat.div_lt_iff_lt_mul V0,mul_comm];exact tN
  have hmr:val 4294967296 (mid us j rs)=val 4294967296 (us.take j)+4294967296^j*(val 4294967296 ((us.drop j).take (m+3))%val 4294967296 vs):=by
   unfold mid
   rw [nJ,nJ,length_take,min_eq_left (by omega),hrv,Q6]
   have:us.drop (j+(m+3))=(us.drop j).drop (m+3):=by rw [List.drop_drop]
   rw [this,sO,mul_zero,add_zero]
  have pM:=hz j (by omega)
  have ov:qs[j]'(by omega)=0:=by
   rw [getElem?_eq_getElem (by omega)] at pM
   injection pM
  have hqs:=tk 4294967296 qs j (val 4294967296 ((us.drop j).take (m+3)) / val 4294967296 vs) (by omega)
  rw [ov,mul_zero,add_zero] at hqs
  have oS:=mod_lt (val 4294967296 ((us.drop j).take (m+3))) V0
  refine hL (j,mid us j rs,qs.set j (val 4294967296 ((us.drop j).take (m+3)) / val 4294967296 vs),_) ⟨by show j≤_;omega,(hx.set iG _).set hiq _,by rw [BP (by omega)];exact rG,?_,by rw [length_set];exact qv,lq.set DZ j,fun k hk=>?_,?_,?_,?_,cj kq',?_⟩ (by show j<j+1;omega)
  ·unfold mid
   exact (lu.mono fun y hy=>mem_of_mem_take hy).append (lr.append (lu.mono fun y hy=>List.mem_of_mem_drop hy))
  ·have hk:k<j:=hk
   rw [getElem?_set_ne (by omega)]
   exact hz k (by omega)
  ·show A=val 4294967296 (mid us j rs)+val 4294967296 (qs.set j _)*val 4294967296 vs
   rw [hmr,hqs]
   refine atL ?_
   rw [hA,mh]
  ·show val 4294967296 (mid us j rs)<val 4294967296 vs*4294967296^j
   rw [hmr]
   exact ax7 sL oS
  ·rw [getElem?_set_ne adJ.symm];exact cj ku
  ·rw [Dc av7,Dc bp];exact kv
 ·have nB:jn=0:=by omega
  subst nB
  rw [Nat.pow_zero,Nat.mul_one] at aD
  have hQ:A / val 4294967296 vs=val 4294967296 qs:=by rw [hA,Nat.add_mul_div_right _ _ V0,Nat.div_eq_of_lt aD,zero_add]
  have hR:A%val 4294967296 vs=val 4294967296 us:=by rw [hA,Nat.add_mul_mod_self_right,mod_eq_of_lt aD]
  have hdq:DS 177 .u32 g (sl 177 iq 0 (nq+1)) qs:=.inr ⟨iq,by rw [qv],.inr ⟨[],by rw [List.append_nil];simp [aR,kq,wv]⟩⟩
  rw [aAf]
  refine sf hdq lq (by omega) ?_
  intro q hq
  have IY:val 4294967296 (us.take (m+2))=val 4294967296 us:=by
   have hd:=K1 4294967296 us (i:=m+2) (by omega)
   have:val 4294967296 (us.drop (m+2))=0:=aDX hd (Nat.lt_trans aD Vn)
   rw [this,mul_zero,add_zero] at hd
   exact hd.symm
  have yI:DS 177 .u32 g (sl 177 id 0 (m+2)) (us.take (m+2)):=.inr ⟨id,by rw [length_take,min_eq_left (by omega)],.inr ⟨wv (us.drop (m+2)),by
   simp only [aR,ku]
   congr 1
   show wv us=wv (us.take (m+2))++wv (us.drop (m+2))
   unfold wv
   rw [←List.map_append,List.take_append_drop]⟩⟩
  simp only [true_and,aDE (show m+2≤nq+1+(m+2) by omega),ah]
  refine sf yI (lu.mono fun y hy=>mem_of_mem_take hy) (by rw [length_take];omega) ?_
  intro r0 sM
  rw [IY] at sM
  obtain ⟨zs,dz,cz,hz⟩:=sM
  have lz:zs.length≤m+2:=cz.len (by decide) (by rw [hz];exact Nat.lt_trans aD Vn)
  refine amC dz cz.1 hs (by omega) ?_
  intro r h' x' hr
  rw [hz,←hR] at hr
  rw [←hQ] at hq
  exact hk q r h' (hx.trans x') (hq.mono x') hr
end
end
section
theorem aDG {B a P Q s n l V:Nat} (ha:a<P*B^(n-1)) (hV:2147483648*P≤V) (hB:2^s≤2147483648) (hl:l=n) (hQ:Q=B^(n-1)) (_h:1≤n):a*2^s<V*Q:=by
 have _:=hl
 have h1:a*2^s<P*B^(n-1)*2^s:=Nat.mul_lt_mul_of_pos_right ha (pow_pos (by decide))
 have h2:P*B^(n-1)*2^s≤P*B^(n-1)*2147483648:=mul_le_mul_left _ hB
 have h3:2147483648*P*B^(n-1)≤V*B^(n-1):=mul_le_mul_right _ hV
 have e:P*B^(n-1)*2147483648=2147483648*P*B^(n-1):=by
  generalize B^(n-1)=z
  rw [mul_comm,←mul_assoc]
 rw [hQ]
 generalize V*B^(n-1)=x at*
 omega
theorem V5 {va vb:Value} {a b:Nat} {h:ae} {K:Value→ae→Prop} (ha:dD h va a) (hb:dD h vb b) (la:a<br) (lb:b<br) (b0:0<b) (hk:∀q r h',EX h h'→dD h' q (a / b)→dD h' r (a%b)→K (.tuple #[q,r]) h'):
  aj prog 130 [va,vb] h K:=by
 by_cases Iu:b<4294967296
 ·exact amx ha hb la b0 Iu hk
 refine f130 ?_
 unfold F6
 refine Fx ha hb la lb ?_
 simp only [cW,ah,bX]
 refine ⟨fun aD=>?_,fun cK=>?_⟩
 ·have gX:=KD.1 aD
  have oa:=ha
  obtain ⟨xs,d,c,rfl⟩:=ha
  obtain ⟨s1,s2⟩:=d.cells
  have lx:=qg c la
  have hq:∀g,dD g (.slice none 0 0) (val 4294967296 xs / b):=fun g=>⟨[],DS.nil _ _ _,⟨fun x hx=>by simp at hx,by simp⟩,by rw [Nat.div_eq_of_lt gX];rfl⟩
  by_cases h0:xs.length=0
  ·have e:dT 177 1 4 h (.slice none 0 0) va=some (.slice none 0 0,h):=by
    simp only [dT,s1,s2]
    rw [if_pos h0]
   simp only [e,aC]
   have:xs=[]:=List.length_eq_zero_iff.1 h0
   subst this
   exact hk _ _ h (EX.refl h) (hq h) ⟨[],DS.nil _ _ _,c,by rw [mod_eq_of_lt gX]⟩
  ·have e:dT 177 1 4 h (.slice none 0 0) va=some (sl 177 h.length 0 xs.length,h++[.arr 177 (xs.map fun d:Nat=>Value.int .u32 (d:Int))]):=by
    simp only [dT,s1,s2]
    rw [if_neg h0,if_pos ⟨by omega,by unfold maxLen;omega⟩]
   simp only [e,aC]
   refine hk _ _ _ (EX.append _ _) (hq _) ⟨xs,.inr ⟨h.length,rfl,.inr ⟨[],?_⟩⟩,c,by rw [mod_eq_of_lt gX]⟩
   simp [aR]
 have gX:b≤a:=by
  apply byContradiction
  intro hc
  exact cK (KD.2 (by omega))
 obtain ⟨xs,dx,cx,Rl⟩:=ha
 obtain ⟨ys,dy,cy,qE⟩:=hb
 have lx:=qg cx (by rw [Rl];exact la)
 have ly:=qg cy (by rw [qE];exact lb)
 have kf:=m9 cy.1
 rw [qE] at kf
 obtain ⟨m,hm⟩:∃m,ys.length=m+2:=by
  refine ⟨ys.length-2,?_⟩
  have:¬ys.length≤1:=by
   intro h1
   have:4294967296^ys.length≤4294967296^1:=pow_le_pow_right (by decide) h1
   rw [Nat.pow_one] at this
   generalize 4294967296^ys.length=z at*
   omega
  omega
 have awM:ys≠[]:=by rintro rfl;simp at hm
 have aeh:=dw.low (by decide) cy awM
 have gZ:=m9 cx.1
 rw [Rl] at gZ
 rw [qE] at aeh
 have hlen:ys.length≤xs.length:=by
  have:4294967296^(ys.length-1)<4294967296^xs.length:=Nat.lt_of_le_of_lt aeh (Nat.lt_of_le_of_lt gX gZ)
  have:=(Nat.pow_lt_pow_iff_right (show 1<4294967296 by decide)).1 this
  omega
 -- gR aEZ HL
 obtain ⟨ib,g1,g2⟩:=dy.get (j:=m+1) (by omega)
 have sO:ys[m+1]?=some (ys[m+1]'(by omega)):=getElem?_eq_getElem (by omega)
 have D6:=cy.1 _ (getElem_mem (l:=ys) (n:=m+1) (by omega))
 have vG:0<ys[m+1]'(by omega):=by
  apply Nat.pos_of_ne_zero
  intro e
  refine cy.2 ?_
  rw [List.getLast?_eq_getElem?,hm,show m+2-1=m+1 by omega,sO,e]
 have R8:bj vb=some (I (m+2:Nat)):=by rw [dy.len,hm]
 have s1:ai .sub (I (m+2:Nat)) (.int .i64 1)=some (I (m+1:Nat)):=by rw [gq,wrap64 (by omega) (by omega)];congr 2;omega
 simp only [R8,ah,jA,aU (show ¬(((m+2:Nat):Int)=1) by omega),dV,s1,g1,g2]
 generalize ys[m+1]'(by omega)=top at*
 refine amz vG D6 ?_
 intro s hs h1 h2
 refine V9 dy cy.1 hs (by omega) ?_
 intro gA ol1 lo1 rH
 rw [qE] at rH
 have d1:DS 177 .u32 (hd h gA) (sl 177 h.length 0 (ys.length+1)) gA:=by rw [←ol1];exact yG h gA
 refine sf d1 lo1 (by omega) ?_
 intro v' kG
 rw [rH] at kG
 obtain ⟨vs,dv,cv,zj⟩:=kG
 obtain ⟨rI,v1,Rh,ad5⟩:=ayI (n:=m+1) cv cy.1 hm sO qE zj hs h1 h2
 obtain ⟨iv,avT,rest,kv⟩:∃i,v'=sl 177 i 0 (m+2)∧∃rest,aR (hd h gA) i=some (wv vs++rest):=by
  rcases dv with ⟨_,h0⟩ | ⟨i,e1,e2⟩
  ·rw [h0] at rI;simp at rI
  ·rcases e2 with h0 | ⟨r,hr⟩
   ·rw [h0] at rI;simp at rI
   ·exact ⟨i,by rw [e1,rI],r,hr⟩
 subst avT
 have aE9:iv<(hd h gA).length:=by
  unfold aR at kv
  apply byContradiction
  intro hn
  rw [List.getElem?_eq_none (by omega)] at kv
  cases kv
 refine V9 (dx.mono (kC h gA)) cx.1 hs (by omega) ?_
 intro BX ol2 lo2 qC
 rw [Rl] at qC
 have x2:=kC (hd h gA) BX
 have k2:=Qm (hd h gA) BX
 have l2:(hd (hd h gA) BX).length=(hd h gA).length+1:=by simp [hd]
 have kv2:=x2.cells kv
 have Et:bj (sl 177 iv 0 (m+2))=some (I (m+2:Nat)):=rfl
 obtain ⟨nq,hnq⟩:∃nq,xs.length=nq+(m+2):=⟨xs.length-(m+2),by omega⟩
 have w1:ai .sub (I (xs.length:Nat)) (I (m+2:Nat))=some (I nq):=by rw [gq,wrap64 (by omega) (by omega)];congr 2;omega
 have w2:ai .add (I nq) (.int .i64 1)=some (I (nq+1:Nat)):=by rw [cQ,wrap64 (by omega) (by omega)];congr 2
 simp only [Et,ah,dx.len,w1,w2,zN (show nq+1≤1000 by omega),aC]
 have x3:=kC (hd (hd h gA) BX) (replicate (nq+1) 0)
 have k3:=Qm (hd (hd h gA) BX) (replicate (nq+1) 0)
 have Em:=x3.get k2
 have kv3:=x3.cells kv2
 have xA:=(kC h gA).trans (x2.trans x3)
 have yP:=(kC h gA).1
 generalize hd (hd (hd h gA) BX) (replicate (nq+1) 0)=g3 at*
 have eN:xs.length+1=nq+1+(m+2):=by omega
 rw [eN]
 have awy:2^s≤2147483648:=pow_le_pow_right (show 0<2 by decide) hs
 have avu:2147483648*4294967296^(m+1)≤val 4294967296 vs:=by
  have tv:=iX 4294967296 vs (i:=m+1) (by omega)
  rw [take_of_length_le (by omega)] at tv
  have e1:vs[m+1]'(by omega)=v1:=by
   rw [getElem?_eq_getElem (by omega)] at Rh
   injection Rh
  rw [e1] at tv
  rw [tv,mul_comm]
  have:4294967296^(m+1)*2147483648≤4294967296^(m+1)*v1:=mul_le_mul_left _ ad5
  generalize 4294967296^(m+1)*v1=z at*
  omega
 have Io:a*2^s<val 4294967296 vs*4294967296^(nq+1):=by
  have awK:a<4294967296^(m+1)*4294967296^(nq+1):=by
   rw [←pow_add,show m+1+(nq+1)=xs.length by omega];exact gZ
  exact aDG (n:=nq+2) (l:=nq+2) (by simpa using awK) avu awy rfl (by simp) (by omega)
 have X8:0<2^s:=pow_pos (by decide)
 refine amy (h:=h) (A:=a*2^s) (by omega) (by omega) (by omega) (by omega) (by omega) rI (by omega) hs cv.1 Rh ad5 (by omega) (by omega) (by omega) lo2 qC Io xA Em k3 kv3 ?_
 intro q r h' x' hq hr
 rw [zj,Nat.mul_div_mul_right _ _ X8] at hq
 rw [zj,Nat.mul_mod_mul_right,Nat.mul_div_cancel _ X8] at hr
 exact hk q r h' x' hq hr
end
section
def gV (h:ae) (val:Value) (a b:Int):Prop:=∃u w,val=.agg #[B (decide (a<0)),u,B (decide (b<0)),w]∧dD h u a.natAbs∧dD h w b.natAbs
theorem VT {va:Value} {a:Int} {h:ae} {K:Value→ae→Prop} (ha:dR h va a) (hk:∀r h',EX h h'→gV h' r a 1→K r h'):aj prog 112 [va] h K:=by
 obtain ⟨v,rfl,hv⟩:=ha
 refine f112 ?_
 have e1:bm 105 h (.agg #[B (decide (a<0)),v])=some (pt h.length 0,h++[.arr 105 [B (decide (a<0)),v]]):=rfl
 have e2:∀g:ae,aV 107 [(.bool false),(.slice none 0 0),(.bool false),(.slice none 0 0)] g=some (pt g.length 0,g++[.arr 107 z4]):=fun _=>rfl
 simp only [MF,e1,e2,aC,length_append,length_cons,length_nil]
 have g0:(h++[aq.arr 105 [B (decide (a<0)),v]]++[aq.arr 107 z4])[h.length]?=some (.arr 105 [B (decide (a<0)),v]):=by simp
 have g1:(h++[aq.arr 105 [B (decide (a<0)),v]]++[aq.arr 107 z4])[h.length+1]?=some (.arr 107 z4):=by simp
 have x1:EX h (h++[aq.arr 105 [B (decide (a<0)),v]]++[aq.arr 107 z4]):=(EX.append _ _).push _
 generalize h++[aq.arr 105 [B (decide (a<0)),v]]++[aq.arr 107 z4]=h1 at g0 g1 x1⊢
 rw [cL g0]
 simp only [ah,true_and]
 refine Cx (by decide) (by decide) ?_
 intro r2 h2 x2 i2
 obtain ⟨w,rfl,hw⟩:=id i2
 refine ⟨⟨EX.load x2 (cL g0),trivial⟩,?_⟩
 have qC:=(hv.mono x1).mono x2
 obtain ⟨xs,dx,cx⟩:=id qC
 obtain ⟨ys,dy,cy⟩:=id hw
 rw [Gk dx dy]
 simp only [ah,zero_add]
 have g2:=x2.get g1
 exact rk g2 (hk _ _ ((x1.trans x2).set (by omega) _) ⟨v,w,rfl,qC.bL g2 _,hw.bL g2 _⟩)
theorem C90 {u w:Value} {s:Bool} {h:ae} {K:Value→ae→Prop} (hw:dD h w 1) (hk:∀h',EX h h'→K (B true) h'):aj prog 90 [.agg #[B s,u,B false,w]] h K:=by
 refine f90 ?_
 have e1:bm 107 h (.agg #[B s,u,B false,w])=some (pt h.length 0,h++[.arr 107 [B s,u,B false,w]]):=rfl
 simp only [F7,e1,aC]
 have x1:EX h (h++[aq.arr 107 [B s,u,B false,w]]):=EX.append _ _
 have l3:af false 1 (h++[aq.arr 107 [B s,u,B false,w]]) (pt h.length 3)=some w:=sV rfl
 obtain ⟨xs,dx,cx,vx⟩:=hw.mono x1
 have hx1:xs=[1]:=dw.unique (by decide) cx ⟨fun y hy=>by simp at hy;subst hy;decide,by simp⟩ (by rw [vx];rfl)
 subst hx1
 obtain ⟨i,g1,g2⟩:=dx.get (j:=0) (by simp)
 have yv:bc 1 w (I 0)=some (pt i 0):=g1
 simp only [cn,zero_add,ah,l3,dx.len,List.length_singleton,jA,Ul]
 rw [a9 (show ((1:Nat):Int)=1 by rfl)]
 simp only [jt,ah,yv,g2,jA,Um,eW]
 exact hk _ x1
end
section
theorem gV.mono {h h':ae} {v:Value} {a b:Int} (x:EX h h') (p:gV h v a b):gV h' v a b:=let ⟨u,w,e,m,n⟩:=p;⟨u,w,e,m.mono x,n.mono x⟩
theorem gV.bL {h:ae} {v:Value} {a b:Int} {j:Nat} {e:TypeId} {s:Bool} {r:List Value} (p:gV h v a b) (hj:h[j]?=some (.arr e (.bool s::r))) (o:aq):gV (h.set j o) v a b:=
 let ⟨u,w,e,m,n⟩:=p;⟨u,w,e,m.bL hj o,n.bL hj o⟩
theorem HY {h h':ae} {j:Nat} {va vb:Value} {a b:Int} {K:Value→ae→Prop} (ha:dR h' va a) (hb:dR h' vb b) (x:EX h h') (hj:h.length≤j) (hg:h'[j]?=some (.arr 107 z4)) (hk:∀r h',EX h h'→gV h' r a b→K r h'):
  OP (dc [(.bool false),(.slice none 0 0),(.bool false),(.slice none 0 0)] [(0,2,va),(2,2,vb)]) fun bY=>OH (aE 4 h' (pt j 0) bY) fun _ h_6=>OP (af true 4 h_6 (pt j 0)) fun r0=>K r0 h_6:=by
 obtain ⟨v,rfl,hv⟩:=ha
 obtain ⟨w,rfl,hw⟩:=hb
 obtain ⟨xs,dx,_⟩:=id hv
 obtain ⟨ys,dy,_⟩:=id hw
 rw [Gk dx dy]
 simp only [ah]
 exact rk hg (hk _ _ (x.set hj _) ⟨v,w,rfl,hv.bL hg _,hw.bL hg _⟩)
theorem C75 {n:Int} {h:ae} {K:Value→ae→Prop} (h1: -9223372036854775808≤n) (h2:n<9223372036854775808) (hk:∀r h',EX h h'→gV h' r n 1→K r h'):aj prog 75 [I n] h K:=by
 refine f75 ?_
 have e1:aV 107 [(.bool false),(.slice none 0 0),(.bool false),(.slice none 0 0)] h=some (pt h.length 0,h++[.arr 107 z4]):=rfl
 simp only [NI,e1,aC]
 have x0:EX h (h++[.arr 107 z4]):=EX.append _ _
 have g0:(h++[aq.arr 107 z4])[h.length]?=some (.arr 107 z4):=bn
 generalize h++[aq.arr 107 z4]=ga at x0 g0⊢
 refine Cx h1 h2 ?_
 intro r h3 x3 i3
 refine Cx (by decide) (by decide) ?_
 intro s h4 x4 i4
 exact HY (i3.mono x4) i4 (x0.trans (x3.trans x4)) (le_refl _) ((x3.trans x4).get g0) hk
theorem avg {a b:Int} (b0:0<b):0<(gcd a.natAbs b.natAbs:Int)∧(gcd a.natAbs b.natAbs:Int)≤b:=by
 have h1:0<gcd a.natAbs b.natAbs:=Nat.gcd_pos_of_pos_right _ (by omega)
 have h2:gcd a.natAbs b.natAbs≤b.natAbs:=Nat.gcd_le_right _ (by omega)
 omega
end
section
theorem Cy {u w:Value} {s:Bool} {b:Nat} {h:ae} {K:Value→ae→Prop} (hw:dD h w b) (lb:b<br) (hk:∀h',EX h h'→K (B (decide (b=1))) h'):aj prog 90 [.agg #[B s,u,B false,w]] h K:=by
 by_cases h1:b=1
 ·subst h1
  exact C90 hw hk
 rw [aU h1] at hk
 refine f90 ?_
 have e1:bm 107 h (.agg #[B s,u,B false,w])=some (pt h.length 0,h++[.arr 107 [B s,u,B false,w]]):=rfl
 simp only [F7,e1,aC]
 have x1:EX h (h++[aq.arr 107 [B s,u,B false,w]]):=EX.append _ _
 have l3:af false 1 (h++[aq.arr 107 [B s,u,B false,w]]) (pt h.length 3)=some w:=sV rfl
 obtain ⟨xs,dx,cx,vx⟩:=hw.mono x1
 simp only [cn,zero_add,ah,l3,dx.len,jA]
 by_cases hl:xs.length=1
 ·obtain ⟨y,rfl⟩:∃y,xs=[y]:=by
   match xs,hl with
   | [y],_=>exact ⟨y,rfl⟩
  have hy:y=b:=by simpa [val] using vx
  subst hy
  obtain ⟨i,g1,g2⟩:=dx.get (j:=0) (by simp)
  have yv:bc 1 w (.int .i64 (0))=some (pt i 0):=g1
  rw [a9 (show ((([y]:List Nat).length:Nat):Int)=1 from rfl),Ul]
  simp only [jt,cn,zero_add,ah,l3,yv,g2,List.getElem_cons_zero,jA]
  rw [aU (show ¬((y:Int)=1) by omega),Um]
  simp only [eW,ah]
  exact hk _ x1
 ·rw [aU (show ¬((xs.length:Int)=1) by omega),Ul]
  simp only [lj]
  rw [Um]
  simp only [dI,ah]
  exact hk _ x1
def mZ (a b:Int):List UInt8:=if b=1 then gQ a else gQ a++47::cE b.natAbs
theorem afN {a:Int} (la:a.natAbs<br):(gQ a).length≤1001:=by
 have:=(tG la).2.2.1
 unfold gQ
 split <;> simp <;> omega
theorem Wg {va:Value} {a b:Int} {h:ae} {K:Value→ae→Prop} (ha:gV h va a b) (b0:0<b) (la:a.natAbs<br) (lb:b.natAbs<br) (hk:∀h',EX h h'→K (.tuple #[S (mZ a b),I 0]) h'):aj prog 45 [va] h K:=by
 obtain ⟨u,w,rfl,hu,hw⟩:=ha
 have vF:decide (b<0)=false:=aU (by omega)
 rw [vF]
 refine f45 ?_
 have e1:bm 107 h (.agg #[B (decide (a<0)),u,B false,w])=some (pt h.length 0,h++[.arr 107 [B (decide (a<0)),u,B false,w]]):=rfl
 simp only [Nn,e1,aC]
 have x1:EX h (h++[aq.arr 107 [B (decide (a<0)),u,B false,w]]):=EX.append _ _
 have l1:af false 1 (h++[aq.arr 107 [B (decide (a<0)),u,B false,w]]) (pt h.length 1)=some u:=sV rfl
 have l0:af false 1 (h++[aq.arr 107 [B (decide (a<0)),u,B false,w]]) (pt h.length 0)=some (B (decide (a<0))):=sV rfl
 have g0:(h++[aq.arr 107 [B (decide (a<0)),u,B false,w]])[h.length]?=some (.arr 107 [B (decide (a<0)),u,B false,w]):=bn
 generalize h++[aq.arr 107 [B (decide (a<0)),u,B false,w]]=h1 at x1 l1 l0 g0⊢
 obtain ⟨d1,d2,d3,d4,d5⟩:=tG la
 obtain ⟨c1,c2,c3,c4,c5⟩:=tG lb
 simp only [cn,zero_add,add_zero,ah,l1]
 refine FB (hu.mono x1) la ?_
 intro h2 x2
 simp only [lN,ah,fN,aU (show ¬((cE a.natAbs).length:Int)>4000 by omega),dV,EX.load x2 l0]
 have last:JT prog K (pt h.length 0) (S (gQ a)) h2:=by
  rw [aAM,hO (x2.get g0)]
  simp only [ah]
  refine Cy ((hw.mono x1).mono x2) lb ?_
  intro h3 x3
  simp only [bX]
  refine ⟨fun h9=>?_,fun h9=>?_⟩
  ·have e:mZ a b=gQ a:=by unfold mZ;rw [if_pos (by omega)]
   rw [←e]
   exact hk _ ((x1.trans x2).trans x3)
  ·have l3:af false 1 h3 (pt h.length 3)=some w:=by simp [af,aR,(x2.trans x3).get g0,cf]
   simp only [cn,zero_add,ah,l3]
   refine FB (((hw.mono x1).mono x2).mono x3) lb ?_
   intro h4 x4
   have nl:=afN la
   have a1:ai .add (S (gQ a)) (.string ⟨#[47]⟩)=some (S (gQ a++[47])):=yd (a:=gQ a) (b:=[47]) (by simp [maxLen];omega)
   have a2:ai .add (S (gQ a++[47])) (S (cE b.natAbs))=some (S (gQ a++[47]++cE b.natAbs)):=yd (a:=gQ a++[47]) (b:=cE b.natAbs) (by simp [maxLen];omega)
   simp only [lN,ah,fN,aU (show ¬((cE b.natAbs).length:Int)>4000 by omega),dV,a1,a2]
   have e:mZ a b=gQ a++[47]++cE b.natAbs:=by unfold mZ;rw [if_neg (by omega)];simp
   rw [←e]
   exact hk _ ((x1.trans x2).trans (x3.trans x4))
 by_cases jk:a<0
 ·rw [a9 jk]
  have:gQ a=45::cE a.natAbs:=by unfold gQ;rw [if_pos jk]
  have ad:ai .add (.string ⟨#[45]⟩) (S (cE a.natAbs))=some (S (gQ a)):=by
   rw [this]
   exact yd (a:=[45]) (b:=cE a.natAbs) (by simp [maxLen];omega)
  simp only [dX,ad,ah]
  exact last
 ·rw [aU jk]
  have:gQ a=cE a.natAbs:=by unfold gQ;rw [if_neg jk]
  rw [this] at last
  simp only [dV]
  exact last
end
section
theorem VW {va vb:Value} {a b:Int} {h:ae} {K:Value→ae→Prop} (ha:dR h va a) (hb:dR h vb b) (la:a.natAbs<br) (lb:b.natAbs<br) (hk:∀r h',EX h h'→dR h' r (gcd a.natAbs b.natAbs:Nat)→K r h'):aj prog 120 [va,vb] h K:=by
 obtain ⟨v,rfl,hv⟩:=ha
 obtain ⟨w,rfl,hw⟩:=hb
 refine f120 ?_
 unfold MM
 refine Gi ?_
 intro h3 x
 simp only [cn,zero_add,ah,x.a1,x.b1,true_and]
 refine dL (σ:=Value×Value×Nat×Nat×ae) (fun q=>[q.1,q.2.1]) (fun q=>q.2.2.2.2) (fun q=>(dD q.2.2.2.2 q.1 q.2.2.1∧dD q.2.2.2.2 q.2.1 q.2.2.2.1)∧(q.2.2.1<br∧q.2.2.2.1<br)∧gcd q.2.2.1 q.2.2.2.1=gcd a.natAbs b.natAbs∧EX h3 q.2.2.2.2) (fun q=>q.2.2.2.1)
  (v,w,a.natAbs,b.natAbs,h3) rfl rfl ⟨⟨hv.mono x.ex,hw.mono x.ex⟩,⟨la,lb⟩,rfl,EX.refl _⟩ ?_
 rintro ⟨vx,vy,m,n,g⟩ ⟨⟨hm,hn⟩,⟨lm,ln⟩,hg,xg⟩ L hL
 simp only at hm hn lm ln hg xg hL⊢
 rw [azP]
 obtain ⟨l,e1,e2⟩:=hn.pN
 simp only [e1,ah,fN,bX]
 refine ⟨fun hp=>?_,fun hz=>?_⟩
 ·have n0:0<n:=e2.1 (by omega)
  refine V5 hm hn lm ln n0 ?_
  intro q r g2 x2 hq hr
  simp only [eQ,ft,fv,ah,true_and]
  have oS:m%n<n:=mod_lt _ n0
  refine hL (vy,r,n,m%n,g2) ⟨⟨hn.mono x2,hr⟩,⟨ln,by show m%n<_;omega⟩,?_,xg.trans x2⟩ oS
  show gcd n (m%n)=_
  rw [←hg,Nat.gcd_comm m n,Nat.gcd_rec n m,Nat.gcd_comm]
 ·have n0:n=0:=by
   apply byContradiction
   intro bp
   have:=e2.2 (by omega)
   omega
  subst n0
  rw [azO]
  rw [Nat.gcd_zero_right] at hg
  refine se hm ?_
  intro h5 x5
  have g':=(xg.trans x5).get x.out
  rw [Bool.false_and]
  refine wQ g' (hk _ _ (((x.ex.trans xg).trans x5).set (by omega) _) ?_)
  rw [←hg]
  exact (dR.nat (hm.mono x5)).bL g' _
theorem VX {va vb:Value} {a b:Int} {h:ae} {K:Value→ae→Prop} (ha:dR h va a) (hb:dR h vb b) (la:a.natAbs<br) (b0:0<b) (lb:b.natAbs<br) (hd:b ∣ a) (hk:∀r s h',EX h h'→dR h' r (a / b)→dR h' s 0→K (.tuple #[r,s]) h'):aj prog 121 [va,vb] h K:=by
 obtain ⟨v,rfl,hv⟩:=ha
 obtain ⟨w,rfl,hw⟩:=hb
 have vF:decide (b<0)=false:=aU (by omega)
 obtain ⟨c,rfl⟩:=hd
 have u9:b*c / b=c:=Int.mul_ediv_cancel_left c (by omega)
 rw [u9] at hk
 have gX:(b*c).natAbs=b.natAbs*c.natAbs:=natAbs_mul b c
 have oO:0<b.natAbs:=by omega
 have hq:(b*c).natAbs / b.natAbs=c.natAbs:=by rw [gX];exact Nat.mul_div_cancel_left _ oO
 have hr:(b*c).natAbs%b.natAbs=0:=by rw [gX];exact Nat.mul_mod_right _ _
 have jk:(decide (b*c<0)&&decide (0<c.natAbs))=decide (c<0):=by
  by_cases hc:c<0
  ·rw [a9 hc,a9 (show 0<c.natAbs by omega),a9 (Int.mul_neg_of_pos_of_neg b0 hc)];rfl
  ·have:0≤b*c:=Int.mul_nonneg (by omega) (by omega)
   rw [aU hc,aU (by omega)];rfl
 refine f121 ?_
 have e1:∀(g:ae) (s:Bool) (v:Value),bm 105 g (.agg #[B s,v])=some (pt g.length 0,g++[.arr 105 [B s,v]]):=fun _ _ _=>rfl
 have e2:∀(g:ae),aV 105 [(.bool false),(.slice none 0 0)] g=some (pt g.length 0,g++[.arr 105 [(.bool false),(.slice none 0 0)]]):=fun _=>rfl
 have ob:∀{g:ae} {i:Nat},g[i]?=some (.arr 105 [(.bool false),(.slice none 0 0)])→dZ g (pt i 0)=some (.agg #[.int .i64 105,.bool false,.slice none 0 0]):=by
  intro g i hi
  simp [dZ,zw,hi,py,sY]
 rw [vF]
 simp only [MN,e1,e2,aC]
 have q0:EX h (h++[.arr 105 [B (decide (b*c<0)),v]]):=EX.append _ _
 have p0:(h++[aq.arr 105 [B (decide (b*c<0)),v]])[h.length]?=some (.arr 105 [B (decide (b*c<0)),v]):=bn
 generalize h++[aq.arr 105 [B (decide (b*c<0)),v]]=ga at q0 p0⊢
 have q1:EX ga (ga++[.arr 105 [B false,w]]):=EX.append _ _
 have p1:(ga++[aq.arr 105 [B false,w]])[ga.length]?=some (.arr 105 [B false,w]):=bn
 generalize ga++[aq.arr 105 [B false,w]]=gb at q1 p1⊢
 have q2:EX gb (gb++[.arr 105 [(.bool false),(.slice none 0 0)]]):=EX.append _ _
 have p2:(gb++[aq.arr 105 [(.bool false),(.slice none 0 0)]])[gb.length]?=some (.arr 105 [(.bool false),(.slice none 0 0)]):=bn
 generalize gb++[aq.arr 105 [(.bool false),(.slice none 0 0)]]=gc at q2 p2⊢
 have q3:EX gc (gc++[.arr 105 [(.bool false),(.slice none 0 0)]]):=EX.append _ _
 have p3:(gc++[aq.arr 105 [(.bool false),(.slice none 0 0)]])[gc.length]?=some (.arr 105 [(.bool false),(.slice none 0 0)]):=bn
 generalize gc++[aq.arr 105 [(.bool false),(.slice none 0 0)]]=gd at q3 p3⊢
 have E5:=q1.trans (q2.trans q3)
 have E4:=q0.trans E5
 have k0:=E5.get p0
 have k1:=(q2.trans q3).get p1
 have k2:=q3.get p2
 have la1:∀{g:ae},EX gd g→af false 1 g (pt h.length 1)=some v:=fun x=>by simp [af,aR,x.get k0,cf]
 have Je:∀{g:ae},EX gd g→af false 1 g (pt h.length 0)=some (B (decide (b*c<0))):=fun x=>by simp [af,aR,x.get k0,cf]
 have lb1:∀{g:ae},EX gd g→af false 1 g (pt ga.length 1)=some w:=fun x=>by simp [af,aR,x.get k1,cf]
 have RT:∀{g:ae},EX gd g→af false 1 g (pt ga.length 0)=some (B false):=fun x=>by simp [af,aR,x.get k1,cf]
 simp only [cn,zero_add,add_zero,ah,la1 (EX.refl gd),lb1 (EX.refl gd)]
 refine V5 (hv.mono E4) (hw.mono E4) la lb oO ?_
 intro q r g5 x5 mq mr
 rw [hq] at mq
 rw [hr] at mr
 simp only [eQ,ft,fv,ah]
 have y1:EX g5 (g5++[.arr 105 [(.bool false),(.slice none 0 0)]]):=EX.append _ _
 have s1:(g5++[aq.arr 105 [(.bool false),(.slice none 0 0)]])[g5.length]?=some (.arr 105 [(.bool false),(.slice none 0 0)]):=bn
 have wa:(g5++[aq.arr 105 [(.bool false),(.slice none 0 0)]]).length=g5.length+1:=by simp
 generalize g5++[aq.arr 105 [(.bool false),(.slice none 0 0)]]=g6 at y1 s1 wa⊢
 have y2:EX g6 (g6++[.arr 105 [(.bool false),(.slice none 0 0)]]):=EX.append _ _
 have s2:(g6++[aq.arr 105 [(.bool false),(.slice none 0 0)]])[g6.length]?=some (.arr 105 [(.bool false),(.slice none 0 0)]):=bn
 generalize g6++[aq.arr 105 [(.bool false),(.slice none 0 0)]]=g7 at y2 s2⊢
 have UH:=y2.get s1
 have wu:=y1.trans y2
 have z5:=x5
 have z6:=x5.trans y1
 have z7:=x5.trans wu
 simp only [ob s1,ob UH,ob s2,ah,true_and,Je z5,Je z6,Je z7,RT z5,RT z6,RT z7,Dn,if_true]
 have hx:(!(decide (b*c<0)==false))=decide (b*c<0):=by cases decide (b*c<0) <;> rfl
 rw [hx]
 refine se (mq.mono wu) ?_
 intro g8 x8
 rw [jk]
 simp only [ob (x8.get UH),ob (x8.get s2),true_and,Je (z7.trans x8),ah]
 refine se ((mr.mono wu).mono x8) ?_
 intro g9 x9
 have iZ:=x8.trans x9
 have t1:=iZ.get UH
 have t2:=iZ.get s2
 have bp:g5.length≠g6.length:=by omega
 simp only [ob t1,ob t2,true_and,aU (show ¬(0<0) by decide),Bool.and_false]
 rw [fk t1]
 simp only [aC]
 have KU:(g9.set g5.length (.arr 105 [B (decide (c<0)),q]))[g6.length]?=some (.arr 105 [(.bool false),(.slice none 0 0)]):=by rw [getElem?_set_ne bp];exact t2
 rw [fk KU]
 simp only [aC]
 obtain ⟨l,l1,l2⟩:=mr.pN
 have l0:l=0:=by
  apply byContradiction
  intro hc
  have:=l2.1 (by omega)
  omega
 subst l0
 simp only [l1,ah,fN]
 rw [aU (show ¬((0:Int)<((0:Nat):Int)) by decide)]
 rw [azR]
 simp only [lj]
 rw [azS]
 have pk:bP (B false) undef (.bool false)=some (B false):=rfl
 simp only [pk,ah,dV]
 rw [azQ]
 have u1:((g9.set g5.length (.arr 105 [B (decide (c<0)),q])).set g6.length (.arr 105 [B false,r]))[g5.length]?=some (.arr 105 [B (decide (c<0)),q]):=by
  rw [getElem?_set_ne (fun e=>bp e.symm)];exact cj t1
 have u2:((g9.set g5.length (.arr 105 [B (decide (c<0)),q])).set g6.length (.arr 105 [B false,r]))[g6.length]?=some (.arr 105 [B false,r]):=cj KU
 have hgd:gd.length≤g5.length:=x5.1
 have xo:EX h ((g9.set g5.length (.arr 105 [B (decide (c<0)),q])).set g6.length (.arr 105 [B false,r])):=
  (((E4.trans z7).trans iZ).set (by have:=E4.1;omega) _).set (by have:=E4.1;omega) _
 have lgb:gb.length<gd.length:=by
  have:=(bK k2).1;exact this
 have lgc:gc.length<gd.length:=(bK p3).1
 have w2:((g9.set g5.length (.arr 105 [B (decide (c<0)),q])).set g6.length (.arr 105 [B false,r]))[gb.length]?=some (.arr 105 [(.bool false),(.slice none 0 0)]):=by
  rw [getElem?_set_ne (by omega),getElem?_set_ne (by omega)];exact (z7.trans iZ).get k2
 have w3:((g9.set g5.length (.arr 105 [B (decide (c<0)),q])).set g6.length (.arr 105 [B false,r]))[gc.length]?=some (.arr 105 [(.bool false),(.slice none 0 0)]):=by
  rw [getElem?_set_ne (by omega),getElem?_set_ne (by omega)];exact (z7.trans iZ).get p3
 have mqf:dD ((g9.set g5.length (.arr 105 [B (decide (c<0)),q])).set g6.length (.arr 105 [B false,r])) q c.natAbs:=(((mq.mono wu).mono iZ).bL t1 _).bL KU _
 have mrf:dD ((g9.set g5.length (.arr 105 [B (decide (c<0)),q])).set g6.length (.arr 105 [B false,r])) r 0:=(((mr.mono wu).mono iZ).bL t1 _).bL KU _
 generalize (g9.set g5.length (.arr 105 [B (decide (c<0)),q])).set g6.length (.arr 105 [B false,r])=gz at u1 u2 xo w2 w3 mqf mrf⊢
 rw [cL u1,cL u2]
 simp only [ah,true_and]
 rw [fk w2]
 simp only [aC]
 have hbc:gb.length≠gc.length:=by
  have:=(bK p2).1;omega
 have KW:(gz.set gb.length (.arr 105 [B (decide (c<0)),q]))[g6.length]?=some (.arr 105 [B false,r]):=by rw [getElem?_set_ne (by omega)];exact u2
 have K6:(gz.set gb.length (.arr 105 [B (decide (c<0)),q]))[gc.length]?=some (.arr 105 [(.bool false),(.slice none 0 0)]):=by rw [getElem?_set_ne hbc];exact w3
 rw [cL KW,fk K6]
 simp only [true_and,aC]
 have n2:((gz.set gb.length (.arr 105 [B (decide (c<0)),q])).set gc.length (.arr 105 [B false,r]))[gb.length]?=some (.arr 105 [B (decide (c<0)),q]):=by
  rw [getElem?_set_ne (fun e=>hbc e.symm)];exact cj w2
 rw [cL n2,cL (cj K6)]
 simp only [ah]
 have pI:h.length≤gb.length:=(q0.trans q1).1
 refine hk _ _ _ ((xo.set pI _).set (by have:=(bK p2).1;omega) _) ⟨q,rfl,(mqf.bL w2 _).bL K6 _⟩ ⟨r,rfl,(mrf.bL w2 _).bL K6 _⟩
theorem VP {va vb:Value} {a b:Int} {h:ae} {K:Value→ae→Prop} (ha:dR h va a) (hb:dR h vb b) (la:a.natAbs<br) (b0:0<b) (lb:b.natAbs<br)
  (hk:∀r h',EX h h'→gV h' r (a / (gcd a.natAbs b.natAbs:Int)) (b / (gcd a.natAbs b.natAbs:Int))→K r h'):aj prog 106 [va,vb] h K:=by
 obtain ⟨v,rfl,hv⟩:=ha
 obtain ⟨w,rfl,hw⟩:=hb
 have vF:decide (b<0)=false:=aU (by omega)
 obtain ⟨g1p,aEY⟩:=avg (a:=a) b0
 have Qn:(gcd a.natAbs b.natAbs:Int) ∣ a:=Int.gcd_dvd_left ..
 have wY:(gcd a.natAbs b.natAbs:Int) ∣ b:=Int.gcd_dvd_right ..
 refine f106 ?_
 have e1:∀(g:ae) (s:Bool) (v:Value),bm 105 g (.agg #[B s,v])=some (pt g.length 0,g++[.arr 105 [B s,v]]):=fun _ _ _=>rfl
 have e2:∀(g:ae),aV 105 [(.bool false),(.slice none 0 0)] g=some (pt g.length 0,g++[.arr 105 [(.bool false),(.slice none 0 0)]]):=fun _=>rfl
 have e3:∀(g:ae),aV 107 [(.bool false),(.slice none 0 0),(.bool false),(.slice none 0 0)] g=some (pt g.length 0,g++[.arr 107 z4]):=fun _=>rfl
 simp only [Mz,e1,e3,aC]
 have q0:EX h (h++[.arr 105 [B (decide (a<0)),v]]):=EX.append _ _
 have p0:(h++[aq.arr 105 [B (decide (a<0)),v]])[h.length]?=some (.arr 105 [B (decide (a<0)),v]):=bn
 generalize h++[aq.arr 105 [B (decide (a<0)),v]]=ga at q0 p0⊢
 have q1:EX ga (ga++[.arr 105 [B (decide (b<0)),w]]):=EX.append _ _
 have p1:(ga++[aq.arr 105 [B (decide (b<0)),w]])[ga.length]?=some (.arr 105 [B (decide (b<0)),w]):=bn
 generalize ga++[aq.arr 105 [B (decide (b<0)),w]]=gb at q1 p1⊢
 have q2:EX gb (gb++[.arr 107 z4]):=EX.append _ _
 have p2:(gb++[aq.arr 107 z4])[gb.length]?=some (.arr 107 z4):=bn
 generalize gb++[aq.arr 107 z4]=gc at q2 p2⊢
 have k0:=(q1.trans q2).get p0
 have k1:=q2.get p1
 have x0:=q0.trans (q1.trans q2)
 have pI:h.length≤gb.length:=(q0.trans q1).1
 have R4:∀{g:ae},EX gc g→af true 2 g (pt h.length 0)=some (.agg #[B (decide (a<0)),v]):=fun x=>cL (x.get k0)
 have RY:∀{g:ae},EX gc g→af true 2 g (pt ga.length 0)=some (.agg #[B (decide (b<0)),w]):=fun x=>cL (x.get k1)
 have I7:∀{g:ae},EX gc g→dR g (.agg #[B (decide (a<0)),v]) a:=fun x=>⟨v,rfl,hv.mono (x0.trans x)⟩
 have I8:∀{g:ae},EX gc g→dR g (.agg #[B (decide (b<0)),w]) b:=fun x=>⟨w,rfl,hw.mono (x0.trans x)⟩
 have l1:af false 1 gc (pt ga.length 0)=some (B (decide (b<0))):=by simp [af,aR,k1,cf]
 simp only [cn,add_zero,ah,l1]
 rw [vF]
 simp only [dV]
 rw [azD]
 rw [R4 (EX.refl gc),RY (EX.refl gc)]
 simp only [ah]
 refine VW (I7 (EX.refl gc)) (I8 (EX.refl gc)) la lb ?_
 intro r g3 x3 ir
 simp only [e2,aC]
 have y4:EX g3 (g3++[.arr 105 [(.bool false),(.slice none 0 0)]]):=EX.append _ _
 have s4:(g3++[aq.arr 105 [(.bool false),(.slice none 0 0)]])[g3.length]?=some (.arr 105 [(.bool false),(.slice none 0 0)]):=bn
 generalize g3++[aq.arr 105 [(.bool false),(.slice none 0 0)]]=g4 at y4 s4⊢
 obtain ⟨u,rfl,hu⟩:=ir
 have hu4:=(hu.mono y4).bL s4 (.arr 105 [B (decide ((gcd a.natAbs b.natAbs:Int)<0)),u])
 rw [fk s4]
 simp only [aC]
 have vg:gc.length≤g3.length:=x3.1
 have x5:EX gc (g4.set g3.length (.arr 105 [B (decide ((gcd a.natAbs b.natAbs:Int)<0)),u])):=(x3.trans y4).set vg _
 have s5:(g4.set g3.length (.arr 105 [B (decide ((gcd a.natAbs b.natAbs:Int)<0)),u]))[g3.length]?=some (.arr 105 [B (decide ((gcd a.natAbs b.natAbs:Int)<0)),u]):=cj s4
 generalize g4.set g3.length (.arr 105 [B (decide ((gcd a.natAbs b.natAbs:Int)<0)),u])=g5 at x5 s5 hu4⊢
 have ig:∀{g:ae},EX g5 g→dR g (.agg #[B (decide ((gcd a.natAbs b.natAbs:Int)<0)),u]) (gcd a.natAbs b.natAbs:Int):=fun x=>⟨u,rfl,hu4.mono x⟩
 rw [cL s5]
 simp only [ah,true_and]
 refine Cx (by decide) (by decide) ?_
 intro one g6 x6 i1
 rw [cL (x6.get s5)]
 simp only [true_and]
 have R9:((gcd a.natAbs b.natAbs:Int)).natAbs<br:=by rw [natAbs_natCast];have:=Nat.gcd_le_right a.natAbs (show 0<b.natAbs by omega);omega
 refine Lk (ig x6) i1 R9 (by rw [show (1:Int).natAbs=1 from rfl];exact Aj (by decide)) ?_
 intro g7 x7
 have eO:=x6.trans x7
 have wq:=x5.trans eO
 simp only [jA,ah,bX]
 refine ⟨fun h1=>?_,fun h1=>?_⟩
 ·have w9:(gcd a.natAbs b.natAbs:Int)=1:=by
   split at h1
   ·omega
   ·split at h1 <;> omega
  rw [R4 wq,RY wq]
  simp only [ah]
  rw [w9,Int.ediv_one,Int.ediv_one] at hk
  exact HY (I7 wq) (I8 wq) (x0.trans wq) pI (wq.get p2) hk
 ·rw [R4 wq,cL (eO.get s5)]
  simp only [ah]
  refine VX (I7 wq) (ig eO) la g1p R9 Qn ?_
  intro rn sn g8 x8 irn isn
  simp only [eQ,ft,fv,ah]
  have y9:EX g8 (g8++[.arr 105 [(.bool false),(.slice none 0 0)]]):=EX.append _ _
  have s9:(g8++[aq.arr 105 [(.bool false),(.slice none 0 0)]])[g8.length]?=some (.arr 105 [(.bool false),(.slice none 0 0)]):=bn
  generalize g8++[aq.arr 105 [(.bool false),(.slice none 0 0)]]=g9 at y9 s9⊢
  have VF:EX g9 (g9++[.arr 105 [(.bool false),(.slice none 0 0)]]):=EX.append _ _
  have kZ:(g9++[aq.arr 105 [(.bool false),(.slice none 0 0)]])[g9.length]?=some (.arr 105 [(.bool false),(.slice none 0 0)]):=bn
  generalize g9++[aq.arr 105 [(.bool false),(.slice none 0 0)]]=gW at VF kZ⊢
  have UK:=VF.get s9
  obtain ⟨qn,rfl,qw⟩:=irn
  obtain ⟨zn,rfl,hzn⟩:=isn
  have h98:g8.length≠g9.length:=by have:=(bK s9).1;omega
  rw [fk UK]
  simp only [aC]
  have t10:(gW.set g8.length (.arr 105 [B (decide (a / (gcd a.natAbs b.natAbs:Int)<0)),qn]))[g9.length]?=some (.arr 105 [(.bool false),(.slice none 0 0)]):=by rw [getElem?_set_ne h98];exact kZ
  have t9:(gW.set g8.length (.arr 105 [B (decide (a / (gcd a.natAbs b.natAbs:Int)<0)),qn]))[g8.length]?=some (.arr 105 [B (decide (a / (gcd a.natAbs b.natAbs:Int)<0)),qn]):=cj UK
  have amh:=y9.trans VF
  have adS:=(qw.mono amh).bL UK (.arr 105 [B (decide (a / (gcd a.natAbs b.natAbs:Int)<0)),qn])
  have VC:=wq.trans x8
  have fW:=eO.trans x8
  have xs1:EX g8 (gW.set g8.length (.arr 105 [B (decide (a / (gcd a.natAbs b.natAbs:Int)<0)),qn])):=amh.set (le_refl _) _
  generalize gW.set g8.length (.arr 105 [B (decide (a / (gcd a.natAbs b.natAbs:Int)<0)),qn])=pz at t10 t9 adS xs1⊢
  rw [fk t10]
  simp only [aC]
  have t9':(pz.set g9.length (.arr 105 [B (decide ((0:Int)<0)),zn]))[g8.length]?=some (.arr 105 [B (decide (a / (gcd a.natAbs b.natAbs:Int)<0)),qn]):=by rw [getElem?_set_ne (fun e=>h98 e.symm)];exact t9
  have adT:=adS.bL t10 (.arr 105 [B (decide ((0:Int)<0)),zn])
  have h89:g8.length≤g9.length:=by have:=(bK s9).1;omega
  have Cs:EX g8 (pz.set g9.length (.arr 105 [B (decide ((0:Int)<0)),zn])):=xs1.set h89 _
  generalize pz.set g9.length (.arr 105 [B (decide ((0:Int)<0)),zn])=A2 at t9' adT Cs⊢
  rw [RY (VC.trans Cs),cL ((fW.trans Cs).get s5)]
  simp only [ah]
  refine VX (I8 (VC.trans Cs)) (ig (fW.trans Cs)) lb g1p R9 wY ?_
  intro rd sd nv aA ird isd
  simp only [eQ,ft,fv,ah]
  have y14:EX nv (nv++[.arr 105 [(.bool false),(.slice none 0 0)]]):=EX.append _ _
  have Ky:(nv++[aq.arr 105 [(.bool false),(.slice none 0 0)]])[nv.length]?=some (.arr 105 [(.bool false),(.slice none 0 0)]):=bn
  generalize nv++[aq.arr 105 [(.bool false),(.slice none 0 0)]]=pA at y14 Ky⊢
  have VG:EX pA (pA++[.arr 105 [(.bool false),(.slice none 0 0)]]):=EX.append _ _
  have xF:(pA++[aq.arr 105 [(.bool false),(.slice none 0 0)]])[pA.length]?=some (.arr 105 [(.bool false),(.slice none 0 0)]):=bn
  generalize pA++[aq.arr 105 [(.bool false),(.slice none 0 0)]]=uU at VG xF⊢
  have UJ:=VG.get Ky
  obtain ⟨qd,rfl,DZ⟩:=ird
  obtain ⟨zd,rfl,hzd⟩:=isd
  have acO:nv.length≠pA.length:=by have:=(bK Ky).1;omega
  rw [fk UJ]
  simp only [aC]
  have ame:=y14.trans VG
  have t15:(uU.set nv.length (.arr 105 [B (decide (b / (gcd a.natAbs b.natAbs:Int)<0)),qd]))[pA.length]?=some (.arr 105 [(.bool false),(.slice none 0 0)]):=by rw [getElem?_set_ne acO];exact xF
  have t14:(uU.set nv.length (.arr 105 [B (decide (b / (gcd a.natAbs b.natAbs:Int)<0)),qd]))[nv.length]?=some (.arr 105 [B (decide (b / (gcd a.natAbs b.natAbs:Int)<0)),qd]):=cj UJ
  have adQ:=(DZ.mono ame).bL UJ (.arr 105 [B (decide (b / (gcd a.natAbs b.natAbs:Int)<0)),qd])
  have xs3:EX nv (uU.set nv.length (.arr 105 [B (decide (b / (gcd a.natAbs b.natAbs:Int)<0)),qd])):=ame.set (le_refl _) _
  generalize uU.set nv.length (.arr 105 [B (decide (b / (gcd a.natAbs b.natAbs:Int)<0)),qd])=Ic at t15 t14 adQ xs3⊢
  rw [fk t15]
  simp only [aC]
  have alW:(Ic.set pA.length (.arr 105 [B (decide ((0:Int)<0)),zd]))[nv.length]?=some (.arr 105 [B (decide (b / (gcd a.natAbs b.natAbs:Int)<0)),qd]):=by rw [getElem?_set_ne (fun e=>acO e.symm)];exact t14
  have adR:=adQ.bL t15 (.arr 105 [B (decide ((0:Int)<0)),zd])
  have h13:nv.length≤pA.length:=by have:=(bK Ky).1;omega
  have Le:EX nv (Ic.set pA.length (.arr 105 [B (decide ((0:Int)<0)),zd])):=xs3.set h13 _
  generalize Ic.set pA.length (.arr 105 [B (decide ((0:Int)<0)),zd])=g17 at alW adR Le⊢
  rw [cL ((aA.trans Le).get t9'),cL alW]
  simp only [ah]
  have ami:=VC.trans (Cs.trans (aA.trans Le))
  exact HY ⟨qn,rfl,adT.mono (aA.trans Le)⟩ ⟨qd,rfl,adR⟩ (x0.trans ami) pI (ami.get p2) hk
theorem amR {va vb:Value} {a b c d:Int} {h:ae} {K:Value→ae→Prop} (ha:gV h va a b) (hb:gV h vb c d) (la:a.natAbs<br) (lb:b.natAbs<br) (lc:c.natAbs<br) (ld:d.natAbs<br) (En:(a*d).natAbs<br) (b0:0<b*c) (lbc:(b*c).natAbs<br)
  (hk:∀r h',EX h h'→gV h' r (a*d / (gcd (a*d).natAbs (b*c).natAbs:Int)) (b*c / (gcd (a*d).natAbs (b*c).natAbs:Int))→K r h'):aj prog 77 [va,vb] h K:=by
 obtain ⟨u,w,rfl,hu,hw⟩:=ha
 obtain ⟨u2,w2,rfl,pK,oW⟩:=hb
 refine f77 ?_
 have e1:∀(g:ae) (s t:Bool) (v w:Value),bm 107 g (.agg #[B s,v,B t,w])=some (pt g.length 0,g++[.arr 107 [B s,v,B t,w]]):=fun _ _ _ _ _=>rfl
 have e3:∀(g:ae),aV 107 [(.bool false),(.slice none 0 0),(.bool false),(.slice none 0 0)] g=some (pt g.length 0,g++[.arr 107 z4]):=fun _=>rfl
 simp only [NJ,e1,e3,aC]
 have q0:EX h (h++[.arr 107 [B (decide (a<0)),u,B (decide (b<0)),w]]):=EX.append _ _
 have p0:(h++[aq.arr 107 [B (decide (a<0)),u,B (decide (b<0)),w]])[h.length]?=some (.arr 107 [B (decide (a<0)),u,B (decide (b<0)),w]):=bn
 generalize h++[aq.arr 107 [B (decide (a<0)),u,B (decide (b<0)),w]]=ga at q0 p0⊢
 have q1:EX ga (ga++[.arr 107 [B (decide (c<0)),u2,B (decide (d<0)),w2]]):=EX.append _ _
 have p1:(ga++[aq.arr 107 [B (decide (c<0)),u2,B (decide (d<0)),w2]])[ga.length]?=some (.arr 107 [B (decide (c<0)),u2,B (decide (d<0)),w2]):=bn
 generalize ga++[aq.arr 107 [B (decide (c<0)),u2,B (decide (d<0)),w2]]=gb at q1 p1⊢
 have q2:EX gb (gb++[.arr 107 z4]):=EX.append _ _
 have p2:(gb++[aq.arr 107 z4])[gb.length]?=some (.arr 107 z4):=bn
 generalize gb++[aq.arr 107 z4]=gc at q2 p2⊢
 have k0:=(q1.trans q2).get p0
 have k1:=q2.get p1
 have x0:=q0.trans (q1.trans q2)
 have pI:h.length≤gb.length:=(q0.trans q1).1
 simp only [cn,zero_add,ah]
 rw [jE k0,kJ k1]
 simp only [ah,true_and]
 refine tu (a:=a) (b:=d) ⟨u,rfl,hu.mono x0⟩ ⟨w2,rfl,oW.mono x0⟩ la ld ?_
 intro r1 g4 x4 i1
 rw [kJ (x4.get k0),jE (x4.get k1)]
 simp only [kJ k0,jE k1,ah,true_and]
 refine tu (a:=b) (b:=c) ⟨w,rfl,(hw.mono x0).mono x4⟩ ⟨u2,rfl,(pK.mono x0).mono x4⟩ lb lc ?_
 intro r2 g5 x5 i2
 refine VP (i1.mono x5) i2 En b0 lbc ?_
 intro r g6 x6 ir
 have dm:=x4.trans (x5.trans x6)
 have g2:=dm.get p2
 obtain ⟨y,z,rfl,hy,hz⟩:=ir
 exact rk g2 (hk _ _ ((x0.trans dm).set pI _) ⟨y,z,rfl,hy.bL g2 _,hz.bL g2 _⟩)
end
section
variable (P : Program) (K : VK)
noncomputable section
variable (a0 : Value) (h : ae)
def ahb:=bz prog 81 [[],[]]
@[irreducible] def c81:=bI ahb
theorem k81:ahb=some (6,c81,[.tmp 2]):=by kernel_rfl
def NL:Prop:=
 OH (bm 107 h a0) fun a1 z1=>
 OP (aL 0 a1) fun x3=>
 OP (af true 2 z1 x3) fun x4=>
 aj P 109 [x4] z1 fun x5 z2=>
 K x5 z2
theorem e81:ak P c81 (aS [.tmp 2] K) (bt [a0]) h=NL P K a0 h:=by kernel_rfl
theorem f81 {K:VK} {a0:Value} {h:ae} (H:NL prog K a0 h):aj prog 81 [a0] h K:=
 bJ k81 (bH rfl) ((e81 prog K a0 h).mpr H)
end
noncomputable section
variable (a0 x1 a2 aB aO : Value) (h : ae)
def ahe:=bz prog 84 [[],[1,2,12],[12,19],[]]
@[irreducible] def Hl:=bI ahe
@[irreducible] def abg:=Hl.r.l.r.l
@[irreducible] def asP:=Hl.r.r
@[irreducible] def asQ:=abg.r.l
theorem k84:ahe=some (21,Hl,[.tmp 4]):=by kernel_rfl
def XF (_P:Program) (K:VK):ar:=aS [.tmp 4] K
def XG:ar:=aF (ak P asP (XF P K)) (XF P K)
def ajN:Prop:=ay (ak P abg (XG P K)) [1,2,12] [x1,a2,aB] h
def TM:Prop:=ay (ak P asQ (XG P K)) [12,19] [aB,aO] h
theorem alc:TM P K aB aO h=
 (OP (bP aB aO (.bool false)) fun aW=>
 K aW h):=az (by kernel_rfl)
theorem aB7:ajN P K x1 a2 aB h=
 (cm aB true
 (OP (aL 2 a2) fun aA=>
 OP (aL 1 aA) fun aH=>
 OP (af false 1 h aH) fun ba=>
 aj P 89 [ba] h fun bk z1=>
 OP (gv bk) fun bM=>
 OP (ai .leq bM x1) fun aO=>
 TM P K aB aO z1)
 (TM P K aB undef h)):=az (by kernel_rfl)
def NO:Prop:=
 OH (bm 107 h a0) fun a2 z1=>
 OP (aL 0 a2) fun x5=>
 OP (aL 1 x5) fun x6=>
 OP (af false 1 z1 x6) fun x7=>
 aj P 89 [x7] z1 fun x8 z2=>
 OP (gv x8) fun x9=>
 OP (ai .leq x9 x1) fun au=>
 ajN P K x1 a2 au z2
theorem e84:ak P Hl (aS [.tmp 4] K) (bt [a0,x1]) h=NO P K a0 x1 h:=by kernel_rfl
theorem f84 {K:VK} {a0 x1:Value} {h:ae} (H:NO prog K a0 x1 h):aj prog 84 [a0,x1] h K:=
 bJ k84 (bH rfl) ((e84 prog K a0 x1 h).mpr H)
end
noncomputable section
variable (a0 b1 : Value) (h : ae)
def ahg:=bz prog 86 [[],[]]
@[irreducible] def Hn:=bI ahg
theorem k86:ahg=some (16,Hn,[.tmp 4]):=by kernel_rfl
def NQ:Prop:=
 OH (bm 107 h a0) fun a2 z1=>
 OH (bm 107 z1 b1) fun b3 z2=>
 OP (aL 0 a2) fun x5=>
 OP (af true 2 z2 x5) fun x6=>
 (True)∧
 OP (aL 2 b3) fun x7=>
 OP (af true 2 z2 x7) fun x8=>
 (True)∧
 aj P 107 [x6,x8] z2 fun x9 z3=>
 (True)∧
 OP (aL 0 b3) fun aM=>
 OP (af true 2 z3 aM) fun au=>
 (af true 2 z2 aM=some au∧True)∧
 OP (aL 2 a2) fun aB=>
 OP (af true 2 z3 aB) fun aA=>
 (af true 2 z2 aB=some aA∧True)∧
 aj P 107 [au,aA] z3 fun aH z4=>
 (True)∧
 aj P 111 [x9,aH] z4 fun ba z5=>
 (True)∧
 K ba z5
theorem e86:ak P Hn (aS [.tmp 4] K) (bt [a0,b1]) h=NQ P K a0 b1 h:=by kernel_rfl
theorem f86 {K:VK} {a0 b1:Value} {h:ae} (H:NQ prog K a0 b1 h):aj prog 86 [a0,b1] h K:=
 bJ k86 (bH rfl) ((e86 prog K a0 b1 h).mpr H)
end
noncomputable section
variable (a0 b1 a2 b3 x4 x7 x9 : Value) (h : ae)
def ahh:=bz prog 87 [[],[2,3,4,7],[2,3,4,7,9],[],[],[],[]]
@[irreducible] def C5:=bI ahh
@[irreducible] def abi:=C5.r.l.l.r.l
@[irreducible] def asU:=C5.r.l.r
@[irreducible] def asT:=C5.r.r
@[irreducible] def asV:=abi.r.l
theorem k87:ahh=some (34,C5,[.cell true 4 4]):=by kernel_rfl
def XH (_P:Program) (K:VK):ar:=aS [.cell true 4 4] K
def XI:ar:=aF (ak P asT (XH P K)) (XH P K)
def XJ:ar:=aF (ak P asU (XI P K)) (XI P K)
def ajQ:Prop:=ay (ak P abi (XJ P K)) [2,3,4,7] [a2,b3,x4,x7] h
def J4:Prop:=ay (ak P asV (XJ P K)) [2,3,4,7,9] [a2,b3,x4,x7,x9] h
theorem aCb:J4 P K a2 b3 x4 x7 x9 h=
 (OP (bP x7 x9 (.bool false)) fun aM=>
 aQ aM
 (OP (aL 0 a2) fun au=>
 OP (af true 2 h au) fun aB=>
 OP (aL 0 b3) fun aA=>
 OP (af true 2 h aA) fun aH=>
 aj P 113 [aB,aH] h fun ba z1=>
 aj P 112 [ba] z1 fun bk z2=>
 OH (aE 4 z2 x4 bk) fun _ z3=>
 OP (af true 4 z3 x4) fun r0=>
 K r0 z3)
 (OP (aL 0 a2) fun bM=>
 OP (af true 2 h bM) fun aP=>
 (True)∧
 OP (aL 2 b3) fun aO=>
 OP (af true 2 h aO) fun aW=>
 (True)∧
 aj P 107 [aP,aW] h fun aY z1=>
 (True)∧
 OP (aL 0 b3) fun bE=>
 OP (af true 2 z1 bE) fun ck=>
 (af true 2 h bE=some ck∧True)∧
 OP (aL 2 a2) fun bu=>
 OP (af true 2 z1 bu) fun bY=>
 (af true 2 h bu=some bY∧True)∧
 aj P 107 [ck,bY] z1 fun cg z2=>
 (True)∧
 aj P 113 [aY,cg] z2 fun bW z3=>
 (True)∧
 OP (aL 2 a2) fun cC=>
 OP (af true 2 z3 cC) fun cG=>
 (af true 2 h cC=some cG∧af true 2 z1 cC=some cG∧af true 2 z2 cC=some cG∧True)∧
 OP (aL 2 b3) fun dj=>
 OP (af true 2 z3 dj) fun cA=>
 (af true 2 h dj=some cA∧af true 2 z1 dj=some cA∧af true 2 z2 dj=some cA∧True)∧
 aj P 107 [cG,cA] z3 fun cO z4=>
 (True)∧
 aj P 106 [bW,cO] z4 fun dB z5=>
 (True)∧
 OH (aE 4 z5 x4 dB) fun _ z6=>
 (True)∧
 OP (af true 4 z6 x4) fun r0=>
 K r0 z6)):=az (by kernel_rfl)
theorem aCa:ajQ P K a2 b3 x4 x7 h=
 (cm x7 true
 (OP (af true 4 h b3) fun x8=>
 aj P 90 [x8] h fun x9 z1=>
 J4 P K a2 b3 x4 x7 x9 z1)
 (J4 P K a2 b3 x4 x7 undef h)):=az (by kernel_rfl)
def NR:Prop:=
 OH (bm 107 h a0) fun a2 z1=>
 OH (bm 107 z1 b1) fun b3 z2=>
 OH (aV 107 [(.bool false),(.slice none 0 0),(.bool false),(.slice none 0 0)] z2) fun x4 z3=>
 OP (af true 4 z3 a2) fun x5=>
 aj P 90 [x5] z3 fun x6 z4=>
 ajQ P K a2 b3 x4 x6 z4
theorem e87:ak P C5 (aS [.cell true 4 4] K) (bt [a0,b1]) h=NR P K a0 b1 h:=by kernel_rfl
theorem f87 {K:VK} {a0 b1:Value} {h:ae} (H:NR prog K a0 b1 h):aj prog 87 [a0,b1] h K:=
 bJ k87 (bH rfl) ((e87 prog K a0 b1 h).mpr H)
end
noncomputable section
variable (a0 b1 a2 b3 x4 x7 x9 : Value) (h : ae)
def ahi:=bz prog 88 [[],[2,3,4,7],[2,3,4,7,9],[],[],[],[]]
@[irreducible] def C7:=bI ahi
@[irreducible] def abj:=C7.r.l.l.r.l
@[irreducible] def asX:=C7.r.l.r
@[irreducible] def asW:=C7.r.r
@[irreducible] def asY:=abj.r.l
theorem k88:ahi=some (28,C7,[.cell true 4 4]):=by kernel_rfl
def XK (_P:Program) (K:VK):ar:=aS [.cell true 4 4] K
def XL:ar:=aF (ak P asW (XK P K)) (XK P K)
def XN:ar:=aF (ak P asX (XL P K)) (XL P K)
def ajR:Prop:=ay (ak P abj (XN P K)) [2,3,4,7] [a2,b3,x4,x7] h
def J5:Prop:=ay (ak P asY (XN P K)) [2,3,4,7,9] [a2,b3,x4,x7,x9] h
theorem aCd:J5 P K a2 b3 x4 x7 x9 h=
 (OP (bP x7 x9 (.bool false)) fun aM=>
 aQ aM
 (OP (aL 0 a2) fun au=>
 OP (af true 2 h au) fun aB=>
 OP (aL 0 b3) fun aA=>
 OP (af true 2 h aA) fun aH=>
 aj P 107 [aB,aH] h fun ba z1=>
 aj P 112 [ba] z1 fun bk z2=>
 OH (aE 4 z2 x4 bk) fun _ z3=>
 OP (af true 4 z3 x4) fun r0=>
 K r0 z3)
 (OP (aL 0 a2) fun bM=>
 OP (af true 2 h bM) fun aP=>
 (True)∧
 OP (aL 0 b3) fun aO=>
 OP (af true 2 h aO) fun aW=>
 (True)∧
 aj P 107 [aP,aW] h fun aY z1=>
 (True)∧
 OP (aL 2 a2) fun bE=>
 OP (af true 2 z1 bE) fun ck=>
 (af true 2 h bE=some ck∧True)∧
 OP (aL 2 b3) fun bu=>
 OP (af true 2 z1 bu) fun bY=>
 (af true 2 h bu=some bY∧True)∧
 aj P 107 [ck,bY] z1 fun cg z2=>
 (True)∧
 aj P 106 [aY,cg] z2 fun bW z3=>
 (True)∧
 OH (aE 4 z3 x4 bW) fun _ z4=>
 (True)∧
 OP (af true 4 z4 x4) fun r0=>
 K r0 z4)):=az (by kernel_rfl)
theorem aCc:ajR P K a2 b3 x4 x7 h=
 (cm x7 true
 (OP (af true 4 h b3) fun x8=>
 aj P 90 [x8] h fun x9 z1=>
 J5 P K a2 b3 x4 x7 x9 z1)
 (J5 P K a2 b3 x4 x7 undef h)):=az (by kernel_rfl)
def NT:Prop:=
 OH (bm 107 h a0) fun a2 z1=>
 OH (bm 107 z1 b1) fun b3 z2=>
 OH (aV 107 [(.bool false),(.slice none 0 0),(.bool false),(.slice none 0 0)] z2) fun x4 z3=>
 OP (af true 4 z3 a2) fun x5=>
 aj P 90 [x5] z3 fun x6 z4=>
 ajR P K a2 b3 x4 x6 z4
theorem e88:ak P C7 (aS [.cell true 4 4] K) (bt [a0,b1]) h=NT P K a0 b1 h:=by kernel_rfl
theorem f88 {K:VK} {a0 b1:Value} {h:ae} (H:NT prog K a0 b1 h):aj prog 88 [a0,b1] h K:=
 bJ k88 (bH rfl) ((e88 prog K a0 b1 h).mpr H)
end
noncomputable section
variable (a0 b1 : Value) (h : ae)
def ahp:=bz prog 96 [[],[]]
@[irreducible] def c96:=bI ahp
theorem k96:ahp=some (9,c96,[.cell true 4 4]):=by kernel_rfl
def NZ:Prop:=
 OH (bm 107 h a0) fun a2 z1=>
 OH (bm 107 z1 b1) fun b3 z2=>
 OH (aV 107 [(.bool false),(.slice none 0 0),(.bool false),(.slice none 0 0)] z2) fun x4 z3=>
 OP (af true 4 z3 a2) fun x5=>
 (True)∧
 OP (af true 4 z3 b3) fun x6=>
 (True)∧
 aj P 116 [x6] z3 fun x7 z4=>
 (af true 4 z4 a2=some x5∧True)∧
 aj P 87 [x5,x7] z4 fun x8 z5=>
 (True)∧
 OH (aE 4 z5 x4 x8) fun _ z6=>
 (True)∧
 OP (af true 4 z6 x4) fun r0=>
 K r0 z6
theorem e96:ak P c96 (aS [.cell true 4 4] K) (bt [a0,b1]) h=NZ P K a0 b1 h:=by kernel_rfl
theorem f96 {K:VK} {a0 b1:Value} {h:ae} (H:NZ prog K a0 b1 h):aj prog 96 [a0,b1] h K:=
 bJ k96 (bH rfl) ((e96 prog K a0 b1 h).mpr H)
end
noncomputable section
variable (a0 : Value) (h : ae)
def af5:=bz prog 116 [[],[]]
@[irreducible] def YZ:=bI af5
theorem axz:af5=some (9,YZ,[.cell true 4 2]):=by kernel_rfl
def MJ:Prop:=
 OH (bm 107 h a0) fun a1 z1=>
 OH (aV 107 [(.bool false),(.slice none 0 0),(.bool false),(.slice none 0 0)] z1) fun x2 z2=>
 OP (aL 0 a1) fun x3=>
 OP (af true 2 z2 x3) fun x4=>
 (True)∧
 aj P 119 [x4] z2 fun x5 z3=>
 (True)∧
 OP (aL 2 a1) fun x6=>
 OP (af true 2 z3 x6) fun x7=>
 (af true 2 z2 x6=some x7∧True)∧
 OP (dc [(.bool false),(.slice none 0 0),(.bool false),(.slice none 0 0)] [(0,2,x5),(2,2,x7)]) fun x8=>
 OH (aE 4 z3 x2 x8) fun _ z4=>
 (True)∧
 OP (af true 4 z4 x2) fun r0=>
 K r0 z4
theorem aua:ak P YZ (aS [.cell true 4 2] K) (bt [a0]) h=MJ P K a0 h:=by kernel_rfl
theorem f116 {K:VK} {a0:Value} {h:ae} (H:MJ prog K a0 h):aj prog 116 [a0] h K:=
 bJ axz (bH rfl) ((aua prog K a0 h).mpr H)
end
end
section
def RV (h:ae) (v:Value) (q:Rat):Prop:=gV h v q.num (q.den:Int)
theorem RV.mono {h h':ae} {v:Value} {q:Rat} (x:EX h h') (p:RV h v q):RV h' v q:=gV.mono x p
def bO (k:Nat) (q:Rat):Prop:=q.num.natAbs<10^k∧q.den<10^k
def aeM:Nat:=900
theorem azj:(10:Nat)^aeM≤br:=by unfold br;decide+kernel
theorem rR {k:Nat} (h:k≤900):10^k≤br:=Nat.le_trans (pow_le_pow_right (by decide) (show k≤aeM from h)) azj
theorem Ez {a b i j:Nat} (ha:a<10^i) (hb:b<10^j):a*b<10^(i+j):=by
 rw [pow_add]
 exact Nat.mul_lt_mul'' ha hb
theorem zP {N:Int} {D:Nat} (hD:0<D):(mkRat N D).num=N / (gcd N.natAbs D:Int)∧(mkRat N D).den=D / gcd N.natAbs D:=by
 rw [←Rat.normalize_eq_mkRat (by omega:D≠0),Rat.normalize_eq]
 exact ⟨rfl,rfl⟩
theorem VQ {va vb:Value} {N:Int} {D:Nat} {h:ae} {K:Value→ae→Prop} (ha:dR h va N) (hb:dR h vb (D:Int)) (la:N.natAbs<br) (d0:0<D) (lb:D<br) (hk:∀r h',EX h h'→RV h' r (mkRat N D)→K r h'):aj prog 106 [va,vb] h K:=by
 refine VP ha hb la (by omega) (by rw [natAbs_natCast];exact lb) ?_
 intro r h' x hr
 refine hk r h' x ?_
 obtain ⟨e1,e2⟩:=zP (N:=N) d0
 unfold RV
 rw [e1,e2,Int.natCast_ediv]
 rw [natAbs_natCast] at hr
 exact hr
theorem bO.gL {k:Nat} {q:Rat} (h:bO k q) (hk:k≤900):q.num.natAbs<br∧q.den<br:=by
 have:=rR hk
 exact ⟨lt_of_lt_of_le h.1 this,lt_of_lt_of_le h.2 this⟩
theorem yl {i j:Nat} {p q:Rat} (hp:bO i p) (hq:bO j q):(p.num*q.den).natAbs<10^(i+j)∧(q.num*p.den).natAbs<10^(i+j)∧p.den*q.den<10^(i+j)∧(p.num*q.num).natAbs<10^(i+j):=by
 refine ⟨?_,?_,Ez hp.2 hq.2,?_⟩
 ·rw [natAbs_mul,natAbs_natCast];exact Ez hp.1 hq.2
 ·rw [natAbs_mul,natAbs_natCast,mul_comm];exact Ez hp.2 hq.1
 ·rw [natAbs_mul];exact Ez hp.1 hq.1
theorem aft (n:Int):(mkRat n 1).num=n∧(mkRat n 1).den=1:=by
 obtain ⟨e1,e2⟩:=zP (N:=n) (D:=1) (by decide)
 rw [Nat.gcd_one_right] at e1 e2
 exact ⟨by rw [e1];simp,by rw [e2]⟩
theorem N3 (p q:Rat):p+q=mkRat (p.num*q.den+q.num*p.den) (p.den*q.den):=by rw [Rat.add_def,Rat.normalize_eq_mkRat]
theorem Sj (p q:Rat):p*q=mkRat (p.num*q.num) (p.den*q.den):=by rw [Rat.mul_def,Rat.normalize_eq_mkRat]
section
variable {va vb : Value} {p q : Rat} {i j : Nat} {h : ae} {K : Value → ae → Prop}
theorem xO (ha:RV h va p) (hb:RV h vb q) (sp:bO i p) (sq:bO j q) (eC:i+j≤800) (hk:∀r h',EX h h'→RV h' r (p+q)→K r h'):aj prog 87 [va,vb] h K:=by
 obtain ⟨u,w,rfl,hu,hw⟩:=ha
 obtain ⟨u2,w2,rfl,pK,oW⟩:=hb
 have pd:=p.den_pos
 have qd:=q.den_pos
 obtain ⟨vU,tY⟩:=sp.gL (by omega)
 obtain ⟨vV,tZ⟩:=sq.gL (by omega)
 obtain ⟨c1,c2,c3,_⟩:=yl sp sq
 have cb:=rR (k:=i+j) (by omega)
 have cb1:=rR (k:=i+j+1) (by omega)
 have iU:decide ((p.den:Int)<0)=false:=aU (by omega)
 have jD:decide ((q.den:Int)<0)=false:=aU (by omega)
 rw [natAbs_natCast] at hw oW
 rw [iU,jD]
 refine f87 ?_
 have e1:∀(g:ae) (s t:Bool) (v w:Value),bm 107 g (.agg #[B s,v,B t,w])=some (pt g.length 0,g++[.arr 107 [B s,v,B t,w]]):=fun _ _ _ _ _=>rfl
 have e3:∀(g:ae),aV 107 [(.bool false),(.slice none 0 0),(.bool false),(.slice none 0 0)] g=some (pt g.length 0,g++[.arr 107 z4]):=fun _=>rfl
 simp only [NR,e1,e3,aC]
 have q0:EX h (h++[.arr 107 [B (decide (p.num<0)),u,B false,w]]):=EX.append _ _
 have p0:(h++[aq.arr 107 [B (decide (p.num<0)),u,B false,w]])[h.length]?=some (.arr 107 [B (decide (p.num<0)),u,B false,w]):=bn
 generalize h++[aq.arr 107 [B (decide (p.num<0)),u,B false,w]]=ga at q0 p0⊢
 have q1:EX ga (ga++[.arr 107 [B (decide (q.num<0)),u2,B false,w2]]):=EX.append _ _
 have p1:(ga++[aq.arr 107 [B (decide (q.num<0)),u2,B false,w2]])[ga.length]?=some (.arr 107 [B (decide (q.num<0)),u2,B false,w2]):=bn
 generalize ga++[aq.arr 107 [B (decide (q.num<0)),u2,B false,w2]]=gb at q1 p1⊢
 have q2:EX gb (gb++[.arr 107 z4]):=EX.append _ _
 have p2:(gb++[aq.arr 107 z4])[gb.length]?=some (.arr 107 z4):=bn
 generalize gb++[aq.arr 107 z4]=gc at q2 p2⊢
 have k0:=(q1.trans q2).get p0
 have k1:=q2.get p1
 have x0:=q0.trans (q1.trans q2)
 have pI:h.length≤gb.length:=(q0.trans q1).1
 have done:∀{N:Int} {D:Nat} {r:Value} {g:ae},EX gc g→RV g r (mkRat N D)→p+q=mkRat N D→OH (aE 4 g (pt gb.length 0) r) fun _ h_3=>OP (af true 4 h_3 (pt gb.length 0)) fun r0=>K r0 h_3:=by
  intro N D r g xg hr he
  rw [←he] at hr
  have g2:=xg.get p2
  obtain ⟨y,z,rfl,hy,hz⟩:=hr
  exact rk g2 (hk _ _ ((x0.trans xg).set pI _) ⟨y,z,rfl,hy.bL g2 _,hz.bL g2 _⟩)
 simp only [hO k0,ah]
 refine Cy (hw.mono x0) tY ?_
 intro g4 x4
 have sU:=x4.get k0
 have kI:=x4.get k1
 have Fo:=x0.trans x4
 rw [aCa]
 have whole:∀t u':Value,bP t u' (.bool false)=some (B (decide (p.den=1)&&decide (q.den=1)))→∀{g5:ae},EX g4 g5→J4 prog K (pt h.length 0) (pt ga.length 0) (pt gb.length 0) t u' g5:=by
  intro t u' ht g5 x5
  have k0:=x5.get sU
  have k1:=x5.get kI
  have qW:=Fo.trans x5
  have cI:=x4.trans x5
  rw [aCb,ht]
  simp only [ah]
  by_cases mP:p.den=1∧q.den=1
  ·rw [a9 mP.1,a9 mP.2]
   simp only [Bool.and_true,dX,cn,zero_add,ah]
   rw [jE k0]
   simp only [ah]
   rw [jE k1]
   simp only [ah]
   refine Ll (a:=p.num) (b:=q.num) ⟨u,rfl,hu.mono qW⟩ ⟨u2,rfl,pK.mono qW⟩ vU vV ?_
   intro r1 g6 x6 i1
   refine VT i1 ?_
   intro r2 g7 x7 i2
   obtain ⟨n1,n2⟩:=aft (p.num+q.num)
   refine done (N:=p.num+q.num) (D:=1) (cI.trans (x6.trans x7)) (by unfold RV;rw [n1,n2];exact i2) ?_
   rw [N3,mP.1,mP.2]
   simp
  ·have hf:(decide (p.den=1)&&decide (q.den=1))=false:=by
    rw [Bool.and_eq_false_iff,decide_eq_false_iff_not,decide_eq_false_iff_not]
    by_cases h1:p.den=1
    ·exact .inr fun h2=>mP ⟨h1,h2⟩
    ·exact .inl h1
   rw [hf]
   have oz:∀{g:ae},EX g5 g→af true 2 g (pt h.length 0)=some (.agg #[B (decide (p.num<0)),u]):=fun x=>jE (x.get k0)
   have vQ:∀{g:ae},EX g5 g→af true 2 g (pt h.length 2)=some (.agg #[B false,w]):=fun x=>kJ (x.get k0)
   have Jf:∀{g:ae},EX g5 g→af true 2 g (pt ga.length 0)=some (.agg #[B (decide (q.num<0)),u2]):=fun x=>jE (x.get k1)
   have zG:∀{g:ae},EX g5 g→af true 2 g (pt ga.length 2)=some (.agg #[B false,w2]):=fun x=>kJ (x.get k1)
   have iw:∀{g:ae},EX g5 g→dR g (.agg #[B false,w]) (p.den:Int):=fun x=>dR.nat (hw.mono (qW.trans x))
   have I9:∀{g:ae},EX g5 g→dR g (.agg #[B false,w2]) (q.den:Int):=fun x=>dR.nat (oW.mono (qW.trans x))
   simp only [dV,cn,zero_add,ah,oz (EX.refl g5),zG (EX.refl g5),true_and]
   refine tu (a:=p.num) (b:=(q.den:Int)) ⟨u,rfl,hu.mono qW⟩ (I9 (EX.refl g5)) vU (by rw [natAbs_natCast];exact tZ) ?_
   intro r1 g6 x6 i1
   simp only [Jf x6,Jf (EX.refl g5),vQ x6,vQ (EX.refl g5),ah,true_and]
   refine tu (a:=q.num) (b:=(p.den:Int)) ⟨u2,rfl,(pK.mono qW).mono x6⟩ (iw x6) vV (by rw [natAbs_natCast];exact tY) ?_
   intro r2 g7 x7 i2
   have gh:=x6.trans x7
   refine Ll (i1.mono x7) i2 (by omega) (by omega) ?_
   intro r3 g8 x8 i3
   have gj:=gh.trans x8
   simp only [vQ gj,vQ gh,zG gj,zG x6,zG gh,ah,true_and]
   refine tu (iw gj) (I9 gj) (by rw [natAbs_natCast];exact tY) (by rw [natAbs_natCast];exact tZ) ?_
   intro r4 g9 x9 i4
   rw [←Int.natCast_mul] at i4
   have IX:(p.num*q.den+q.num*p.den).natAbs<br:=by
    have h1:10^(i+j+1)=10^(i+j)*10:=pow_succ ..
    generalize 10^(i+j)=Z at*
    omega
   refine VQ (i3.mono x9) i4 IX (Nat.mul_pos pd qd) (lt_of_lt_of_le c3 cb) ?_
   intro r gW aM ir
   exact done (cI.trans (gj.trans (x9.trans aM))) ir (N3 p q)
 by_cases h1:p.den=1
 ·rw [a9 h1]
  simp only [jt,hO kI,ah]
  refine Cy (oW.mono Fo) tZ ?_
  intro g5 x5
  refine whole _ _ ?_ x5
  rw [h1];simp
 ·rw [aU h1]
  simp only [lj]
  refine whole _ _ ?_ (EX.refl g4)
  rw [aU h1];simp
end
end
section
section
variable {va vb : Value} {p q : Rat} {i j : Nat} {h : ae} {K : Value → ae → Prop}
theorem Lt (ha:RV h va p) (hb:RV h vb q) (sp:bO i p) (sq:bO j q) (eC:i+j≤800) (hk:∀r h',EX h h'→RV h' r (p*q)→K r h'):aj prog 88 [va,vb] h K:=by
 obtain ⟨u,w,rfl,hu,hw⟩:=ha
 obtain ⟨u2,w2,rfl,pK,oW⟩:=hb
 have pd:=p.den_pos
 have qd:=q.den_pos
 obtain ⟨vU,tY⟩:=sp.gL (by omega)
 obtain ⟨vV,tZ⟩:=sq.gL (by omega)
 obtain ⟨_,_,c3,c4⟩:=yl sp sq
 have cb:=rR (k:=i+j) (by omega)
 have iU:decide ((p.den:Int)<0)=false:=aU (by omega)
 have jD:decide ((q.den:Int)<0)=false:=aU (by omega)
 rw [natAbs_natCast] at hw oW
 rw [iU,jD]
 refine f88 ?_
 have e1:∀(g:ae) (s t:Bool) (v w:Value),bm 107 g (.agg #[B s,v,B t,w])=some (pt g.length 0,g++[.arr 107 [B s,v,B t,w]]):=fun _ _ _ _ _=>rfl
 have e3:∀(g:ae),aV 107 [(.bool false),(.slice none 0 0),(.bool false),(.slice none 0 0)] g=some (pt g.length 0,g++[.arr 107 z4]):=fun _=>rfl
 simp only [NT,e1,e3,aC]
 have q0:EX h (h++[.arr 107 [B (decide (p.num<0)),u,B false,w]]):=EX.append _ _
 have p0:(h++[aq.arr 107 [B (decide (p.num<0)),u,B false,w]])[h.length]?=some (.arr 107 [B (decide (p.num<0)),u,B false,w]):=bn
 generalize h++[aq.arr 107 [B (decide (p.num<0)),u,B false,w]]=ga at q0 p0⊢
 have q1:EX ga (ga++[.arr 107 [B (decide (q.num<0)),u2,B false,w2]]):=EX.append _ _
 have p1:(ga++[aq.arr 107 [B (decide (q.num<0)),u2,B false,w2]])[ga.length]?=some (.arr 107 [B (decide (q.num<0)),u2,B false,w2]):=bn
 generalize ga++[aq.arr 107 [B (decide (q.num<0)),u2,B false,w2]]=gb at q1 p1⊢
 have q2:EX gb (gb++[.arr 107 z4]):=EX.append _ _
 have p2:(gb++[aq.arr 107 z4])[gb.length]?=some (.arr 107 z4):=bn
 generalize gb++[aq.arr 107 z4]=gc at q2 p2⊢
 have k0:=(q1.trans q2).get p0
 have k1:=q2.get p1
 have x0:=q0.trans (q1.trans q2)
 have pI:h.length≤gb.length:=(q0.trans q1).1
 have done:∀{N:Int} {D:Nat} {r:Value} {g:ae},EX gc g→RV g r (mkRat N D)→p*q=mkRat N D→OH (aE 4 g (pt gb.length 0) r) fun _ h_3=>OP (af true 4 h_3 (pt gb.length 0)) fun r0=>K r0 h_3:=by
  intro N D r g xg hr he
  rw [←he] at hr
  have g2:=xg.get p2
  obtain ⟨y,z,rfl,hy,hz⟩:=hr
  exact rk g2 (hk _ _ ((x0.trans xg).set pI _) ⟨y,z,rfl,hy.bL g2 _,hz.bL g2 _⟩)
 simp only [hO k0,ah]
 refine Cy (hw.mono x0) tY ?_
 intro g4 x4
 have sU:=x4.get k0
 have kI:=x4.get k1
 have Fo:=x0.trans x4
 rw [aCc]
 have whole:∀t u':Value,bP t u' (.bool false)=some (B (decide (p.den=1)&&decide (q.den=1)))→∀{g5:ae},EX g4 g5→J5 prog K (pt h.length 0) (pt ga.length 0) (pt gb.length 0) t u' g5:=by
  intro t u' ht g5 x5
  have k0:=x5.get sU
  have k1:=x5.get kI
  have qW:=Fo.trans x5
  have cI:=x4.trans x5
  rw [aCd,ht]
  simp only [ah]
  by_cases mP:p.den=1∧q.den=1
  ·rw [a9 mP.1,a9 mP.2]
   simp only [Bool.and_true,dX,cn,zero_add,ah]
   rw [jE k0]
   simp only [ah]
   rw [jE k1]
   simp only [ah]
   refine tu (a:=p.num) (b:=q.num) ⟨u,rfl,hu.mono qW⟩ ⟨u2,rfl,pK.mono qW⟩ vU vV ?_
   intro r1 g6 x6 i1
   refine VT i1 ?_
   intro r2 g7 x7 i2
   obtain ⟨n1,n2⟩:=aft (p.num*q.num)
   refine done (N:=p.num*q.num) (D:=1) (cI.trans (x6.trans x7)) (by unfold RV;rw [n1,n2];exact i2) ?_
   rw [Sj,mP.1,mP.2]
  ·have hf:(decide (p.den=1)&&decide (q.den=1))=false:=by
    rw [Bool.and_eq_false_iff,decide_eq_false_iff_not,decide_eq_false_iff_not]
    by_cases h1:p.den=1
    ·exact .inr fun h2=>mP ⟨h1,h2⟩
    ·exact .inl h1
   rw [hf]
   have oz:∀{g:ae},EX g5 g→af true 2 g (pt h.length 0)=some (.agg #[B (decide (p.num<0)),u]):=fun x=>jE (x.get k0)
   have vQ:∀{g:ae},EX g5 g→af true 2 g (pt h.length 2)=some (.agg #[B false,w]):=fun x=>kJ (x.get k0)
   have Jf:∀{g:ae},EX g5 g→af true 2 g (pt ga.length 0)=some (.agg #[B (decide (q.num<0)),u2]):=fun x=>jE (x.get k1)
   have zG:∀{g:ae},EX g5 g→af true 2 g (pt ga.length 2)=some (.agg #[B false,w2]):=fun x=>kJ (x.get k1)
   have iw:∀{g:ae},EX g5 g→dR g (.agg #[B false,w]) (p.den:Int):=fun x=>dR.nat (hw.mono (qW.trans x))
   have I9:∀{g:ae},EX g5 g→dR g (.agg #[B false,w2]) (q.den:Int):=fun x=>dR.nat (oW.mono (qW.trans x))
   simp only [dV,cn,zero_add,ah,oz (EX.refl g5),Jf (EX.refl g5),true_and]
   refine tu (a:=p.num) (b:=q.num) ⟨u,rfl,hu.mono qW⟩ ⟨u2,rfl,pK.mono qW⟩ vU vV ?_
   intro r1 g6 x6 i1
   simp only [vQ x6,vQ (EX.refl g5),zG x6,zG (EX.refl g5),ah,true_and]
   refine tu (iw x6) (I9 x6) (by rw [natAbs_natCast];exact tY) (by rw [natAbs_natCast];exact tZ) ?_
   intro r2 g7 x7 i2
   rw [←Int.natCast_mul] at i2
   have gh:=x6.trans x7
   refine VQ (i1.mono x7) i2 (lt_of_lt_of_le c4 cb) (Nat.mul_pos pd qd) (lt_of_lt_of_le c3 cb) ?_
   intro r gW aM ir
   exact done (cI.trans (gh.trans aM)) ir (Sj p q)
 by_cases h1:p.den=1
 ·rw [a9 h1]
  simp only [jt,hO kI,ah]
  refine Cy (oW.mono Fo) tZ ?_
  intro g5 x5
  refine whole _ _ ?_ x5
  rw [h1];simp
 ·rw [aU h1]
  simp only [lj]
  refine whole _ _ ?_ (EX.refl g4)
  rw [aU h1];simp
def mc (p q:Rat):Int:=if p=q then 0 else if p<q then -1 else 1
theorem aty (p q:Rat):(if p.num*q.den-q.num*p.den=0 then 0 else if p.num*q.den-q.num*p.den<0 then -1 else 1:Int)=mc p q:=by
 unfold mc
 have h1:p=q↔p.num*q.den-q.num*p.den=0:=by
  constructor
  ·rintro rfl;omega
  ·intro h
   refine Rat.le_antisymm ?_ ?_ <;> rw [Rat.le_iff] <;> omega
 have h2:p<q↔p.num*q.den-q.num*p.den<0:=by rw [Rat.lt_iff];omega
 by_cases e1:p=q
 ·rw [if_pos e1,if_pos (h1.1 e1)]
 ·rw [if_neg e1,if_neg (fun h=>e1 (h1.2 h))]
  by_cases e2:p<q
  ·rw [if_pos e2,if_pos (h2.1 e2)]
  ·rw [if_neg e2,if_neg (fun h=>e2 (h2.2 h))]
theorem FA (ha:RV h va p) (hb:RV h vb q) (sp:bO i p) (sq:bO j q) (eC:i+j≤800) (hk:∀h',EX h h'→K (I (mc p q)) h'):aj prog 86 [va,vb] h K:=by
 obtain ⟨u,w,rfl,hu,hw⟩:=ha
 obtain ⟨u2,w2,rfl,pK,oW⟩:=hb
 obtain ⟨vU,tY⟩:=sp.gL (by omega)
 obtain ⟨vV,tZ⟩:=sq.gL (by omega)
 obtain ⟨c1,c2,_,_⟩:=yl sp sq
 have cb:=rR (k:=i+j) (by omega)
 have iU:decide ((p.den:Int)<0)=false:=aU (by omega)
 have jD:decide ((q.den:Int)<0)=false:=aU (by omega)
 rw [natAbs_natCast] at hw oW
 rw [iU,jD]
 refine f86 ?_
 have e1:∀(g:ae) (s t:Bool) (v w:Value),bm 107 g (.agg #[B s,v,B t,w])=some (pt g.length 0,g++[.arr 107 [B s,v,B t,w]]):=fun _ _ _ _ _=>rfl
 simp only [NQ,e1,aC]
 have q0:EX h (h++[.arr 107 [B (decide (p.num<0)),u,B false,w]]):=EX.append _ _
 have p0:(h++[aq.arr 107 [B (decide (p.num<0)),u,B false,w]])[h.length]?=some (.arr 107 [B (decide (p.num<0)),u,B false,w]):=bn
 generalize h++[aq.arr 107 [B (decide (p.num<0)),u,B false,w]]=ga at q0 p0⊢
 have q1:EX ga (ga++[.arr 107 [B (decide (q.num<0)),u2,B false,w2]]):=EX.append _ _
 have p1:(ga++[aq.arr 107 [B (decide (q.num<0)),u2,B false,w2]])[ga.length]?=some (.arr 107 [B (decide (q.num<0)),u2,B false,w2]):=bn
 generalize ga++[aq.arr 107 [B (decide (q.num<0)),u2,B false,w2]]=gb at q1 p1⊢
 have k0:=q1.get p0
 have x0:=q0.trans q1
 simp only [cn,zero_add,ah,jE k0,kJ p1,true_and]
 refine tu (a:=p.num) (b:=(q.den:Int)) ⟨u,rfl,hu.mono x0⟩ (dR.nat (oW.mono x0)) vU (by rw [natAbs_natCast];exact tZ) ?_
 intro r1 g6 x6 i1
 simp only [jE (x6.get p1),jE p1,kJ (x6.get k0),kJ k0,ah,true_and]
 refine tu (a:=q.num) (b:=(p.den:Int)) ⟨u2,rfl,(pK.mono x0).mono x6⟩ (dR.nat ((hw.mono x0).mono x6)) vV (by rw [natAbs_natCast];exact tY) ?_
 intro r2 g7 x7 i2
 refine Lk (i1.mono x7) i2 (lt_of_lt_of_le c1 cb) (lt_of_lt_of_le c2 cb) ?_
 intro g8 x8
 rw [aty]
 exact hk g8 (x0.trans (x6.trans (x7.trans x8)))
theorem ab1 {p q:Rat} (hq:0<q.num):p / q=mkRat (p.num*q.den) (p.den*q.num.toNat):=by
 have h1:=Rat.mkRat_self p
 have h2:=Rat.mkRat_self q
 rw [Rat.mkRat_eq_div] at h1 h2
 rw [Rat.mkRat_eq_div,Rat.intCast_mul,Rat.natCast_mul]
 have h3:((q.num.toNat:Nat):Rat)=(q.num:Rat):=by
  rw [←Rat.intCast_natCast,Int.toNat_of_nonneg (by omega)]
 have h4:((q.den:Nat):Int)=(q.den:Int):=rfl
 rw [h3,Rat.intCast_natCast]
 have d1:((p.den:Nat):Rat)≠0:=by
  have:=p.den_nz
  intro h
  exact this (by exact_mod_cast h)
 have d2:((q.den:Nat):Rat)≠0:=by
  have:=q.den_nz
  intro h
  exact this (by exact_mod_cast h)
 have d3:(q.num:Rat)≠0:=by
  intro h
  have:q.num=0:=by exact_mod_cast h
  omega
 generalize (p.num:Rat)=a at*
 generalize (q.num:Rat)=b at*
 generalize ((p.den:Nat):Rat)=c at*
 generalize ((q.den:Nat):Rat)=d at*
 rw [←h1,←h2]
 grind
theorem Wr (ha:RV h va p) (hb:RV h vb q) (hq:0<q.num) (sp:bO i p) (sq:bO j q) (eC:i+j≤800) (hk:∀r h',EX h h'→RV h' r (p / q)→K r h'):aj prog 77 [va,vb] h K:=by
 obtain ⟨vU,tY⟩:=sp.gL (by omega)
 obtain ⟨vV,tZ⟩:=sq.gL (by omega)
 obtain ⟨c1,c2,_,_⟩:=yl sp sq
 have cb:=rR (k:=i+j) (by omega)
 have pd:=p.den_pos
 have jm:(0:Int)<(p.den:Int)*q.num:=Int.mul_pos (by omega) hq
 obtain ⟨m,hm⟩:∃m:Nat,q.num=(m:Int):=⟨q.num.toNat,by omega⟩
 have hN:((p.den:Int)*q.num).natAbs=p.den*q.num.toNat:=by rw [natAbs_mul,natAbs_natCast];congr 1;omega
 refine amR ha hb vU (by rw [natAbs_natCast];exact tY) vV (by rw [natAbs_natCast];exact tZ) (lt_of_lt_of_le c1 cb) jm (by rw [Int.mul_comm];exact lt_of_lt_of_le c2 cb) ?_
 intro r h' x hr
 refine hk r h' x ?_
 have hD:0<p.den*q.num.toNat:=Nat.mul_pos pd (by omega)
 obtain ⟨e1,e2⟩:=zP (N:=p.num*q.den) hD
 unfold RV
 rw [ab1 hq,e1,e2,Int.natCast_ediv,Int.natCast_mul,Int.toNat_of_nonneg (by omega)]
 rw [hN] at hr
 exact hr
theorem tw {n:Int} (h1: -9223372036854775808≤n) (h2:n<9223372036854775808) (hk:∀r h',EX h h'→RV h' r (n:Rat)→K r h'):aj prog 75 [I n] h K:=by
 refine C75 h1 h2 ?_
 intro r h' x hr
 exact hk r h' x hr
end
end
section
section
variable {va vb : Value} {p q : Rat} {i j : Nat} {h : ae} {K : Value → ae → Prop}
theorem bO.neg {k:Nat} {q:Rat} (h:bO k q):bO k (-q):=by
 unfold bO at*
 rw [Rat.neg_num,Rat.neg_den,Int.natAbs_neg]
 exact h
theorem amt (ha:RV h va p) (hk:∀r h',EX h h'→RV h' r (-p)→K r h'):aj prog 116 [va] h K:=by
 obtain ⟨u,w,rfl,hu,hw⟩:=ha
 have iU:decide ((p.den:Int)<0)=false:=aU (by omega)
 rw [natAbs_natCast] at hw
 rw [iU]
 refine f116 ?_
 have e1:∀(g:ae) (s t:Bool) (v w:Value),bm 107 g (.agg #[B s,v,B t,w])=some (pt g.length 0,g++[.arr 107 [B s,v,B t,w]]):=fun _ _ _ _ _=>rfl
 have e3:∀(g:ae),aV 107 [(.bool false),(.slice none 0 0),(.bool false),(.slice none 0 0)] g=some (pt g.length 0,g++[.arr 107 z4]):=fun _=>rfl
 simp only [MJ,e1,e3,aC]
 have q0:EX h (h++[.arr 107 [B (decide (p.num<0)),u,B false,w]]):=EX.append _ _
 have p0:(h++[aq.arr 107 [B (decide (p.num<0)),u,B false,w]])[h.length]?=some (.arr 107 [B (decide (p.num<0)),u,B false,w]):=bn
 generalize h++[aq.arr 107 [B (decide (p.num<0)),u,B false,w]]=ga at q0 p0⊢
 have q2:EX ga (ga++[.arr 107 z4]):=EX.append _ _
 have p2:(ga++[aq.arr 107 z4])[ga.length]?=some (.arr 107 z4):=bn
 generalize ga++[aq.arr 107 z4]=gc at q2 p2⊢
 have k0:=q2.get p0
 have x0:=q0.trans q2
 simp only [cn,zero_add,ah,jE k0,true_and]
 refine VV (a:=p.num) ⟨u,rfl,hu.mono x0⟩ ?_
 intro r1 g6 x6 i1
 simp only [kJ (x6.get k0),kJ k0,ah,true_and]
 have iw:dR g6 (.agg #[B false,w]) (p.den:Int):=dR.nat ((hw.mono x0).mono x6)
 refine HY i1 iw (x0.trans x6) (by have:=q0.1;omega) (x6.get p2) ?_
 intro r h' x hr
 refine hk r h' x ?_
 unfold RV
 rw [Rat.neg_num,Rat.neg_den]
 exact hr
theorem C96 (ha:RV h va p) (hb:RV h vb q) (sp:bO i p) (sq:bO j q) (eC:i+j≤800) (hk:∀r h',EX h h'→RV h' r (p-q)→K r h'):aj prog 96 [va,vb] h K:=by
 have oa:=ha
 have oO:=hb
 obtain ⟨u,w,rfl,hu,hw⟩:=ha
 obtain ⟨u2,w2,rfl,pK,oW⟩:=hb
 refine f96 ?_
 have e1:∀(g:ae) (s t:Bool) (v w:Value),bm 107 g (.agg #[B s,v,B t,w])=some (pt g.length 0,g++[.arr 107 [B s,v,B t,w]]):=fun _ _ _ _ _=>rfl
 have e3:∀(g:ae),aV 107 [(.bool false),(.slice none 0 0),(.bool false),(.slice none 0 0)] g=some (pt g.length 0,g++[.arr 107 z4]):=fun _=>rfl
 simp only [NZ,e1,e3,aC]
 generalize decide ((p.den:Int)<0)=t1 at*
 generalize decide ((q.den:Int)<0)=t2 at*
 have q0:EX h (h++[.arr 107 [B (decide (p.num<0)),u,B t1,w]]):=EX.append _ _
 have p0:(h++[aq.arr 107 [B (decide (p.num<0)),u,B t1,w]])[h.length]?=some (.arr 107 [B (decide (p.num<0)),u,B t1,w]):=bn
 generalize h++[aq.arr 107 [B (decide (p.num<0)),u,B t1,w]]=ga at q0 p0⊢
 have q1:EX ga (ga++[.arr 107 [B (decide (q.num<0)),u2,B t2,w2]]):=EX.append _ _
 have p1:(ga++[aq.arr 107 [B (decide (q.num<0)),u2,B t2,w2]])[ga.length]?=some (.arr 107 [B (decide (q.num<0)),u2,B t2,w2]):=bn
 generalize ga++[aq.arr 107 [B (decide (q.num<0)),u2,B t2,w2]]=gb at q1 p1⊢
 have q2:EX gb (gb++[.arr 107 z4]):=EX.append _ _
 have p2:(gb++[aq.arr 107 z4])[gb.length]?=some (.arr 107 z4):=bn
 generalize gb++[aq.arr 107 z4]=gc at q2 p2⊢
 have k0:=(q1.trans q2).get p0
 have k1:=q2.get p1
 have x0:=q0.trans (q1.trans q2)
 have pI:h.length≤gb.length:=(q0.trans q1).1
 simp only [hO k0,hO k1,ah,true_and]
 refine amt (oO.mono x0) ?_
 intro r1 g6 x6 i1
 simp only [hO (x6.get k0),true_and]
 refine xO ((oa.mono x0).mono x6) i1 sp sq.neg eC ?_
 intro r g7 x7 ir
 rw [←Rat.sub_eq_add_neg] at ir
 have gh:=x6.trans x7
 have g2:=gh.get p2
 obtain ⟨y,z,rfl,hy,hz⟩:=ir
 exact rk g2 (hk _ _ ((x0.trans gh).set pI _) ⟨y,z,rfl,hy.bL g2 _,hz.bL g2 _⟩)
theorem Ws (ha:RV h va p) (hk:∀h',EX h h'→K (I (lL p.num)) h'):aj prog 81 [va] h K:=by
 obtain ⟨u,w,rfl,hu,hw⟩:=ha
 refine f81 ?_
 have e1:∀(g:ae) (s t:Bool) (v w:Value),bm 107 g (.agg #[B s,v,B t,w])=some (pt g.length 0,g++[.arr 107 [B s,v,B t,w]]):=fun _ _ _ _ _=>rfl
 simp only [NL,e1,aC]
 generalize decide ((p.den:Int)<0)=t1 at*
 have q0:EX h (h++[.arr 107 [B (decide (p.num<0)),u,B t1,w]]):=EX.append _ _
 have p0:(h++[aq.arr 107 [B (decide (p.num<0)),u,B t1,w]])[h.length]?=some (.arr 107 [B (decide (p.num<0)),u,B t1,w]):=bn
 generalize h++[aq.arr 107 [B (decide (p.num<0)),u,B t1,w]]=ga at q0 p0⊢
 simp only [cn,zero_add,ah,jE p0]
 refine VS (a:=p.num) ⟨u,rfl,hu.mono q0⟩ ?_
 intro h' x'
 exact hk h' (q0.trans x')
end
end
section
theorem amS {s:List UInt8} {h:ae} {K:Value→ae→Prop} (h0:0<s.length) (h1:s.length≤4000) (h2:s.head?=some 48→s.length=1)
  (hk:ka s→∀r h',EX h h'→ZV h' r (dM s)→K (.tuple #[r,B true]) h')
  (gF:¬ka s→∀h',EX h h'→K (.tuple #[.agg #[B false,.slice none 0 0],B false]) h'):aj prog 99 [S s] h K:=by
 refine f99 ?_
 have e2:∀g:ae,aV 35 [(.bool false),(.slice none 0 0)] g=some (pt g.length 0,g++[.arr 35 [(.bool false),(.slice none 0 0)]]):=fun _=>rfl
 have e3:dc [(.bool false),(.slice none 0 0)] []=some (.agg #[B false,.slice none 0 0]):=rfl
 have uY:(s[0].toNat:Int)=48→s.length≤1:=by
  intro h3
  refine Nat.le_of_eq (h2 ?_)
  rw [List.head?_eq_getElem?,getElem?_eq_getElem h0]
  congr 1
  apply UInt8.toNat_inj.1
  show s[0].toNat=48
  omega
 have i0:=vL (a:=s) (i:=0) h0 .i64
 simp only [Int.natCast_zero] at i0
 simp only [F8,e2,aC,lN,ah,cW]
 rw [aU (show ¬(s.length:Int)<1 by omega)]
 simp only [Uq,eB,lN,ah,fN]
 rw [aU (show ¬(s.length:Int)>4000 by omega)]
 simp only [Kk,dI,ah,Kl,eB,i0]
 have after:∀t:Value,t=B false→EW prog K (S s) (pt h.length 0) (B false) t (h++[.arr 35 [(.bool false),(.slice none 0 0)]]):=by
  rintro _ rfl
  rw [Un]
  simp only [dI,ah,dV,e3,e2,aC,length_append,length_cons,length_nil,zero_add]
  have g1:(h++[aq.arr 35 [(.bool false),(.slice none 0 0)]]++[aq.arr 35 [(.bool false),(.slice none 0 0)]])[h.length+1]?=some (.arr 35 [(.bool false),(.slice none 0 0)]):=by simp
  have g0:(h++[aq.arr 35 [(.bool false),(.slice none 0 0)]]++[aq.arr 35 [(.bool false),(.slice none 0 0)]])[h.length]?=some (.arr 35 [(.bool false),(.slice none 0 0)]):=by simp
  have x1:EX h (h++[aq.arr 35 [(.bool false),(.slice none 0 0)]]++[aq.arr 35 [(.bool false),(.slice none 0 0)]]):=(EX.append _ _).push _
  have yP:(h++[aq.arr 35 [(.bool false),(.slice none 0 0)]]++[aq.arr 35 [(.bool false),(.slice none 0 0)]]).length=h.length+2:=by simp
  generalize h++[aq.arr 35 [(.bool false),(.slice none 0 0)]]++[aq.arr 35 [(.bool false),(.slice none 0 0)]]=hA at*
  rw [fk g1]
  simp only [aC,lN,ah]
  have fail:∀g:ae,EX h g→g[h.length]?=some (.arr 35 [.bool false,.slice none 0 0])→¬ka s→(OP (dc [(.bool false),(.slice none 0 0)] []) fun cX=>OH (aE 2 g (pt h.length 0) cX) fun _ h_1=>OP (af true 2 h_1 (pt h.length 0)) fun r0=>K (.tuple #[r0,(.bool false)]) h_1):=by
   intro g x k hn
   simp only [e3,ah]
   rw [fk k]
   simp only [aC]
   rw [cL (cj k),ah]
   exact gF hn _ (x.set (le_refl _) _)
  refine dL (σ:=Int×List Nat×Value×ae) (fun p=>[I p.1]) (fun p=>p.2.2.2)
   (fun p=>h.length+2≤p.2.2.2.length∧EX h p.2.2.2∧p.2.2.2[h.length]?=some (.arr 35 [.bool false,.slice none 0 0])∧p.2.2.2[h.length+1]?=some (.arr 35 [B false,p.2.2.1])∧oG (h.length+2) p.2.2.2 p.2.2.1 p.2.1∧cd 10000 p.2.1∧p.1=(s.length:Int)-4*(p.2.1.length:Int)∧ -4<p.1∧val 10000 p.2.1+10000^p.2.1.length*dM (s.take p.1.toNat)=dM s∧ka (s.drop p.1.toNat)) (fun p=>(p.1+4).toNat)
   ((s.length:Int),[],.slice none 0 0,hA.set (h.length+1) (.arr 35 [B false,.slice none 0 0])) rfl rfl
   ⟨by simp [yP],x1.set (by omega) _,by rw [getElem?_set_ne (by omega)];exact g0,cj g1,.inl ⟨rfl,rfl⟩,fun _ hx=>by simp at hx,by simp,by simp;omega,by simp [val],by simp [ka]⟩ ?_
  rintro ⟨xZ,os,v,hx⟩ ⟨hlen,hex,k0,k1,iT,fe,hat,avw,bT,Bi⟩ L hL
  simp only at hlen hex k0 k1 iT fe hat avw bT Bi hL⊢
  rw [aCm]
  have e4:IntKind.wrap .i64 (xZ-4)=xZ-4:=wrap64 (by omega) (by omega)
  simp only [fN,ah,bX]
  refine ⟨fun sG=>?_,fun hle=>?_⟩
  ·simp only [gq,ah,e4,ayk]
   obtain ⟨lo,eD⟩:∃lo:Nat,max 0 (xZ-4)=(lo:Int):=⟨(max 0 (xZ-4)).toNat,by omega⟩
   obtain ⟨a,ha⟩:∃a:Nat,xZ=(a:Int):=⟨xZ.toNat,by omega⟩
   subst ha
   rw [eD]
   have qj:a≤s.length:=by omega
   have ady:lo≤a:=by omega
   have aFd:lo=a-4:=by omega
   refine dL (σ:=Nat×Nat) (fun p=>[I p.1,I p.2]) (fun _=>hx) (fun p=>lo≤p.2∧p.2≤a∧p.1=dM ((s.take p.2).drop lo)∧ka ((s.take p.2).drop lo)) (fun p=>a-p.2)
    (0,lo) rfl rfl ⟨le_refl _,ady,by rw [List.drop_of_length_le (by rw [length_take];omega)];rfl,by
     show ka ((s.take lo).drop lo)
     rw [List.drop_of_length_le (by rw [length_take];omega)];intro c hc;simp at hc⟩ ?_
   rintro ⟨d,i⟩ ⟨hi1,od,Iz,nz⟩ L2 hZ
   simp only at hi1 od Iz nz hZ⊢
   have aD:=Ai nz
   have adx:((s.take i).drop lo).length=i-lo:=by rw [List.length_drop,length_take];omega
   rw [adx] at aD
   have hp:(10:Nat)^(i-lo)≤10^4:=pow_le_pow_right (by decide) (by omega)
   have wY:d<10000:=by rw [Iz];omega
   rw [aCn]
   simp only [cW,ah,bX]
   refine ⟨fun Bp=>?_,fun Bp=>?_⟩
   ·have pF:i<s.length:=by omega
    have ix:=vL (a:=s) (i:=i) pF .i64
    have Es:ai .lss (cv s[i]) (.int .u8 48)=some (B (decide ((s[i].toNat:Int)<48))):=rfl
    have Il:ai .gtr (cv s[i]) (.int .u8 57)=some (B (decide ((s[i].toNat:Int)>57))):=rfl
    by_cases uZ:48≤s[i].toNat∧s[i].toNat≤57
    rotate_left
    ·have pB:¬ka s:=fun hd=>uZ (hd _ (getElem_mem pF))
     simp only [ix,ah,Es]
     by_cases mO:s[i].toNat<48
     ·simp only [a9 (show (s[i].toNat:Int)<48 by omega),Uo,gn,Up,eW,ah,dX]
      exact fail _ hex k0 pB
     ·simp only [aU (show ¬(s[i].toNat:Int)<48 by omega),Uo,eB,ix,ah,Il,a9 (show (s[i].toNat:Int)>57 by omega),Up,dI,dX]
      exact fail _ hex k0 pB
    have UO:ai .sub (cv s[i]) (.int .u8 48)=some (.int .u8 (IntKind.wrap .u8 ((s[i].toNat:Int)-48))):=rfl
    have w8:IntKind.wrap .u8 ((s[i].toNat:Int)-48)=((s[i].toNat-48:Nat):Int):=by
     have e:IntKind.wrap .u8 ((s[i].toNat:Int)-48)=((s[i].toNat:Int)-48)%256:=by simp [IntKind.wrap,IntKind.bits,IntKind.signed]
     rw [e];omega
    have w64:IntKind.wrap .i64 ((s[i].toNat-48:Nat):Int)=((s[i].toNat-48:Nat):Int):=wrap64 (by omega) (by omega)
    have w10:IntKind.wrap .i64 ((10:Int)*(d:Int))=((10*d:Nat):Int):=by rw [wrap64 (by omega) (by omega)];omega
    have wad:IntKind.wrap .i64 (((10*d:Nat):Int)+((s[i].toNat-48:Nat):Int))=((10*d+(s[i].toNat-48):Nat):Int):=by rw [wrap64 (by omega) (by omega)];omega
    simp only [ix,ah,Es,aU (show ¬(s[i].toNat:Int)<48 by omega),Uo,eB,Il,aU (show ¬(s[i].toNat:Int)>57 by omega),Up,dI,dV,wI,w10,UO,w8,jN,w64,cQ,wad,fA i (by omega),true_and]
    refine hZ (10*d+(s[i].toNat-48),i+1) ⟨by show lo≤i+1;omega,by show i+1≤a;omega,?_,?_⟩ (by show a-(i+1)<a-i;omega)
    rotate_left
    ·show ka ((s.take (i+1)).drop lo)
     rw [List.take_succ_eq_append_getElem pF,List.drop_append_of_le_length (by rw [length_take];omega)]
     intro c hc
     rcases List.mem_append.1 hc with hc | hc
     ·exact nz c hc
     ·rw [List.mem_singleton.1 hc];exact uZ
    show 10*d+(s[i].toNat-48)=dM ((s.take (i+1)).drop lo)
    rw [List.take_succ_eq_append_getElem pF,List.drop_append_of_le_length (by rw [length_take];omega),Ah,K0,←Iz]
    simp
    omega
   ·have avO:i=a:=by omega
    subst avO
    rw [aCo]
    have ld:af false 1 hx (pt (h.length+1) 1)=some v:=by simp [af,aR,k1,cf]
    simp only [cn,zero_add,ah,ld]
    refine Yi hlen iT (by omega) ?_
    intro v' bR hs lH tS
    have kI:bR[h.length+1]?=some (.arr 35 [B false,v]):=by rw [hs _ (by omega)];exact k1
    rw [pW kI (by simp) tS.ds.one.1 tS.ds.one.2]
    have e5:IntKind.wrap .i64 ((i:Int)-4)=(i:Int)-4:=wrap64 (by omega) (by omega)
    simp only [aC,List.set_cons_succ,List.set_cons_zero,aCp,gq,ah,e5,true_and]
    have el:(os++[d]).length=os.length+1:=by simp
    refine hL ((i:Int)-4,os++[d],v',bR.set (h.length+1) (.arr 35 [B false,v'])) ⟨?_,?_,?_,cj kI,tS.set (by omega) _,fe.append (fun y hy=>by simp at hy;omega),by rw [el];show (i:Int)-4=_;omega,by show -4<(i:Int)-4;omega,?_,?_⟩ (by show ((i:Int)-4+4).toNat<((i:Int)+4).toNat;omega)
    ·rw [length_set];exact lH
    ·refine EX.set ⟨by have:=hex.1;omega,fun j hj=>?_⟩ (by omega) _
     rw [hs j (by omega)];exact hex.2 j hj
    ·rw [getElem?_set_ne (by omega),hs _ (by omega)];exact k0
    rotate_left
    ·show ka (s.drop ((i:Int)-4).toNat)
     have PB:((i:Int)-4).toNat=lo:=by omega
     have et:(i:Int).toNat=i:=by omega
     rw [et] at Bi
     rw [PB]
     have zf:s.drop lo=(s.take i).drop lo++s.drop i:=by
      conv=>lhs;rw [←List.take_append_drop i s]
      rw [List.drop_append_of_le_length (by rw [length_take];omega)]
     rw [zf]
     intro c hc
     rcases List.mem_append.1 hc with hc | hc
     ·exact nz c hc
     ·exact Bi c hc
    ·show val 10000 (os++[d])+10000^(os++[d]).length*dM (s.take ((i:Int)-4).toNat)=dM s
     rw [el,nJ,←bT,pow_succ]
     have et:(i:Int).toNat=i:=by omega
     have PB:((i:Int)-4).toNat=lo:=by omega
     rw [et,PB]
     have zf:s.take i=s.take lo++(s.take i).drop lo:=by
      conv=>lhs;rw [←List.take_append_drop lo (s.take i)]
      rw [List.take_take,min_eq_left ady]
     rw [zf,Ah,adx,←Iz]
     simp only [val,mul_zero,add_zero]
     have av2:dM (s.take lo)*10^(i-lo)=10000*dM (s.take lo):=by
      by_cases h4:4≤i
      ·have:i-lo=4:=by omega
       rw [this,mul_comm]
      ·have:lo=0:=by omega
       subst this
       simp [dM]
     rw [av2]
     generalize 10000^os.length=P
     generalize dM (s.take lo)=w
     generalize val 10000 os=q
     clear hL hZ iT tS
     grind
  ·rw [aCq,cL k1]
   simp only [ah]
   have nZ:xZ.toNat=0:=by omega
   rw [nZ] at bT Bi
   rw [List.drop_zero] at Bi
   have hk:=hk Bi
   have awI:val 10000 os=dM s:=by simpa [dM] using bT
   refine xM iT.ds fe (by omega) ?_
   intro r h5 x5 zr
   simp only [false_eq_true,if_false,awI] at zr
   obtain ⟨q,rfl,hq⟩:=id zr
   have g':=x5.get k0
   refine yp (K:=fun v h=>K (.tuple #[v,B true]) h) g' (hk _ _ ((hex.trans x5).set (le_refl _) _) (zr.bL g' _))
 by_cases mO:(s[0].toNat:Int)=48
 ·have yP:=uY mO
  have e5:ai .eql (cv s[0]) (.int .u8 48)=some (B true):=by
   show some (B (decide ((s[0].toNat:Int)=48)))=_
   rw [a9 mO]
  simp only [e5,ah,E6,jt,lN,fN,aU (show ¬(s.length:Int)>1 by omega),E7,eB,eW]
  exact after _ rfl
 ·have e5:ai .eql (cv s[0]) (.int .u8 48)=some (B false):=by
   show some (B (decide ((s[0].toNat:Int)=48)))=_
   rw [aU mO]
  simp only [e5,ah,E6,lj,E7,eB,dI]
  exact after _ rfl
def gE (s:List UInt8):Bool:=((decide (0<s.length)&&decide (s.length≤4000))&& !(decide (s.head?=some 48)&&decide (1<s.length)))&&s.all fun c=>decide (48≤c.toNat)&&decide (c.toNat≤57)
theorem tK {s:List UInt8}:gE s=true↔(0<s.length∧s.length≤4000)∧(s.head?=some 48→s.length=1)∧ka s:=by
 unfold gE ka
 simp only [Bool.and_eq_true,decide_eq_true_eq,Bool.not_eq_true',Bool.and_eq_false_iff,decide_eq_false_iff_not,List.all_eq_true]
 constructor
 ·rintro ⟨⟨h1,h2⟩,h3⟩
  refine ⟨h1,fun h=>?_,h3⟩
  rcases h2 with h2 | h2
  ·exact absurd h h2
  ·omega
 ·rintro ⟨h1,h2,h3⟩
  refine ⟨⟨h1,?_⟩,h3⟩
  by_cases h:s.head?=some 48
  ·have:=h2 h
   exact .inr (by omega)
  ·exact .inl h
theorem amT {s:List UInt8} {h:ae} {K:Value→ae→Prop}
  (hk:gE s=true→∀r h',EX h h'→ZV h' r (dM s)→K (.tuple #[r,B true]) h')
  (gF:gE s=false→∀h',EX h h'→K (.tuple #[.agg #[B false,.slice none 0 0],B false]) h'):aj prog 99 [S s] h K:=by
 by_cases hb:(0<s.length∧s.length≤4000)∧(s.head?=some 48→s.length=1)
 ·refine amS hb.1.1 hb.1.2 hb.2 (fun hd=>hk (tK.2 ⟨hb.1,hb.2,hd⟩)) fun hd=>gF ?_
  cases e:gE s with
  | false=>rfl
  | true=>exact absurd (tK.1 e).2.2 hd
 have dG:gE s=false:=by
  cases e:gE s with
  | false=>rfl
  | true=>exact absurd ⟨(tK.1 e).1,(tK.1 e).2.1⟩ hb
 refine f99 ?_
 have e2:∀g:ae,aV 35 [(.bool false),(.slice none 0 0)] g=some (pt g.length 0,g++[.arr 35 [(.bool false),(.slice none 0 0)]]):=fun _=>rfl
 have e3:dc [(.bool false),(.slice none 0 0)] []=some (.agg #[B false,.slice none 0 0]):=rfl
 simp only [F8,e2,aC,lN,ah,cW]
 have k0:=bn (h:=h) (o:=.arr 35 [(.bool false),(.slice none 0 0)])
 have x0:EX h (h++[.arr 35 [(.bool false),(.slice none 0 0)]]):=EX.append _ _
 have after:∀t:Value,EW prog K (S s) (pt h.length 0) (B true) t (h++[.arr 35 [(.bool false),(.slice none 0 0)]]):=by
  intro t
  rw [Un]
  simp only [eW,ah,dX,e3]
  rw [fk k0]
  simp only [aC]
  rw [cL (cj k0),ah]
  exact gF dG _ (x0.set (le_refl _) _)
 by_cases h0:s.length=0
 ·rw [a9 (show (s.length:Int)<1 by omega)]
  simp only [Uq,gn,Kk,eW,ah,Kl,E6,E7,As]
  exact after _
 rw [aU (show ¬(s.length:Int)<1 by omega)]
 simp only [Uq,eB,lN,ah,fN]
 by_cases h1:s.length>4000
 ·rw [a9 (show (s.length:Int)>4000 by omega)]
  simp only [Kk,dI,ah,Kl,gn,E6,E7,As]
  exact after _
 rw [aU (show ¬(s.length:Int)>4000 by omega)]
 have i0:=vL (a:=s) (i:=0) (by omega) .i64
 simp only [Int.natCast_zero] at i0
 have h2:s.head?=some 48∧1<s.length:=by
  by_cases h:s.head?=some 48∧1<s.length
  ·exact h
  ·refine absurd ⟨⟨by omega,by omega⟩,fun h3=>?_⟩ hb
   have:¬1<s.length:=fun h4=>h ⟨h3,h4⟩
   omega
 have hc:(s[0]'(by omega)).toNat=48:=by
  have:=h2.1
  rw [List.head?_eq_getElem?,getElem?_eq_getElem (by omega)] at this
  injection this with this
  rw [this];rfl
 have e5:ai .eql (cv (s[0]'(by omega))) (.int .u8 48)=some (B true):=by
  show some (B (decide (((s[0]'(by omega)).toNat:Int)=48)))=_
  rw [a9 (by omega)]
 simp only [Kk,dI,ah,Kl,eB,i0,e5,E6,jt,lN,fN,a9 (show (s.length:Int)>1 by omega),E7,eW,Un,dX,e3]
 rw [fk k0]
 simp only [aC]
 rw [cL (cj k0),ah]
 exact gF dG _ (x0.set (le_refl _) _)
end
section
variable (P : Program) (K : VK)
noncomputable section
variable (n0 d1 n2 d3 x4 : Value) (h : ae)
def agO:=bz prog 54 [[],[],[2,3,4],[]]
@[irreducible] def OK:=bI agO
@[irreducible] def arI:=OK.r.r.l
theorem k54:agO=some (14,OK,[.cell true 4 4]):=by kernel_rfl
def aoq (_P:Program) (K:VK):ar:=aS [.cell true 4 4] K
def Tn:Prop:=ay (ak P arI (aoq P K)) [2,3,4] [n2,d3,x4] h
theorem aAQ:Tn P K n2 d3 x4 h=
 (OP (af true 2 h n2) fun au=>
 OP (af true 2 h d3) fun aB=>
 OP (dc [(.bool false),(.slice none 0 0),(.bool false),(.slice none 0 0)] [(0,2,au),(2,2,aB)]) fun aA=>
 OH (aE 4 h x4 aA) fun _ z1=>
 OP (af true 4 z1 x4) fun r0=>
 K r0 z1):=az (by kernel_rfl)
def Nq:Prop:=
 OH (bm 35 h n0) fun n2 z1=>
 OH (bm 35 z1 d1) fun d3 z2=>
 OH (aV 37 [(.bool false),(.slice none 0 0),(.bool false),(.slice none 0 0)] z2) fun x4 z3=>
 OP (aL 0 d3) fun x5=>
 OP (af false 1 z3 x5) fun x6=>
 aQ x6
 (OP (af true 2 z3 n2) fun x7=>
 (True)∧
 aj P 95 [x7] z3 fun x8 z4=>
 (True)∧
 OP (af true 2 z4 d3) fun x9=>
 (af true 2 z3 d3=some x9∧True)∧
 aj P 95 [x9] z4 fun aM z5=>
 (True)∧
 OH (aE 2 z5 n2 x8) fun _ z6=>
 (True)∧
 OH (aE 2 z6 d3 aM) fun _ z7=>
 (True)∧
 Tn P K n2 d3 x4 z7)
 (Tn P K n2 d3 x4 z3)
theorem e54:ak P OK (aS [.cell true 4 4] K) (bt [n0,d1]) h=Nq P K n0 d1 h:=by kernel_rfl
theorem f54 {K:VK} {n0 d1:Value} {h:ae} (H:Nq prog K n0 d1 h):aj prog 54 [n0,d1] h K:=
 bJ k54 (bH rfl) ((e54 prog K n0 d1 h).mpr H)
end
end
end Go.Proofs.YtelmdbpaoifmoaaGreat
