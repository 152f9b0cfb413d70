/-
  Part 4 of the texts behind a statement of this seat: ZN2, Ct28, Ct29, Ct30, Ct31, Ct32, Ct33, ZR1, Ct34, Ct35, Ct36, Ct37, Ct38, Ct39, Ct40.
-/
import Derived.Test.YtelmdbpaoifmoaaGreatProg
import Derived.KernelRfl
import Derived.Test.YtelmdbpaoifmoaaGreatMg3
open Classical (byContradiction)
open Go.Proofs.Tryz (prog)
open List (drop_eq_getElem_cons drop_zero getElem?_set_ne getElem_mem getElem_set_ne length_append length_cons length_nil length_set length_take replicate take_length take_of_length_le)
open Nat (add_zero le_refl mod_lt mul_zero pow_pos pow_succ zero_add)
namespace Go.Proofs.YtelmdbpaoifmoaaGreat
open Go.Sim
section
variable (P : Program) (K : VK)
noncomputable section
variable (a0 a1 s4 : Value) (h : ae)
def agL:=bz prog 45 [[],[],[],[],[],[],[1,4],[],[],[],[],[],[],[],[]]
@[irreducible] def OJ:=bI agL
@[irreducible] def arE:=OJ.r.r.r.r.l
theorem k45:agL=some (32,OJ,[.tmp 2,.tmp 3]):=by kernel_rfl
def aop (_P:Program) (K:VK):ar:=aS [.tmp 2,.tmp 3] K
def JT:Prop:=ay (ak P arE (aop P K)) [1,4] [a1,s4] h
theorem aAM:JT P K a1 s4 h=
 (OP (af true 4 h a1) fun aP=>
 aj P 90 [aP] h fun aO z1=>
 aQ aO
 (K (.tuple #[s4,(.int .i64 (0))]) z1)
 (OP (aL 2 a1) fun aY=>
 OP (aL 1 aY) fun bE=>
 OP (af false 1 z1 bE) fun ck=>
 aj P 89 [ck] z1 fun bu z2=>
 OP (gv bu) fun cg=>
 OP (ai .gtr cg (.int .i64 (4000))) fun bW=>
 aQ bW
 (K (.tuple #[(.string ⟨#[]⟩),(.int .i64 (4))]) z2)
 (OP (ai .add s4 (.string ⟨#[47]⟩)) fun cG=>
 OP (ai .add cG bu) fun cA=>
 K (.tuple #[cA,(.int .i64 (0))]) z2))):=az (by kernel_rfl)
def Nn:Prop:=
 OH (bm 107 h a0) fun a1 z1=>
 OP (aL 0 a1) fun x6=>
 OP (aL 1 x6) fun x7=>
 OP (af false 1 z1 x7) fun x8=>
 aj P 89 [x8] z1 fun x9 z2=>
 OP (gv x9) fun au=>
 OP (ai .gtr au (.int .i64 (4000))) fun aB=>
 aQ aB
 (K (.tuple #[(.string ⟨#[]⟩),(.int .i64 (4))]) z2)
 (OP (aL 0 a1) fun aA=>
 OP (aL 0 aA) fun aH=>
 OP (af false 1 z2 aH) fun ba=>
 aQ ba
 (OP (ai .add (.string ⟨#[45]⟩) x9) fun bM=>
 JT P K a1 bM z2)
 (JT P K a1 x9 z2))
theorem e45:ak P OJ (aS [.tmp 2,.tmp 3] K) (bt [a0]) h=Nn P K a0 h:=by kernel_rfl
theorem f45 {K:VK} {a0:Value} {h:ae} (H:Nn prog K a0 h):aj prog 45 [a0] h K:=
 bJ k45 (bH rfl) ((e45 prog K a0 h).mpr H)
end
noncomputable section
variable (n0 : Value) (h : ae)
def ag7:=bz prog 75 [[],[]]
@[irreducible] def c75:=bI ag7
theorem k75:ag7=some (7,c75,[.cell true 4 2]):=by kernel_rfl
def NI:Prop:=
 OH (aV 107 [(.bool false),(.slice none 0 0),(.bool false),(.slice none 0 0)] h) fun x2 z1=>
 aj P 105 [n0] z1 fun x4 z2=>
 aj P 105 [(.int .i64 (1))] z2 fun x5 z3=>
 OP (dc [(.bool false),(.slice none 0 0),(.bool false),(.slice none 0 0)] [(0,2,x4),(2,2,x5)]) fun x6=>
 OH (aE 4 z3 x2 x6) fun _ z4=>
 OP (af true 4 z4 x2) fun r0=>
 K r0 z4
theorem e75:ak P c75 (aS [.cell true 4 2] K) (bt [n0]) h=NI P K n0 h:=by kernel_rfl
theorem f75 {K:VK} {n0:Value} {h:ae} (H:NI prog K n0 h):aj prog 75 [n0] h K:=
 bJ k75 (bH rfl) ((e75 prog K n0 h).mpr H)
end
noncomputable section
variable (a0 b1 : Value) (h : ae)
def ag9:=bz prog 77 [[],[]]
@[irreducible] def c77:=bI ag9
theorem k77:ag9=some (16,c77,[.cell true 4 4]):=by kernel_rfl
def NJ:Prop:=
 OH (bm 107 h a0) fun a2 z1=>
 OH (bm 107 z1 b1) fun b3 z2=>
 OH (aV 107 [(.bool false),(.slice none 0 0),(.bool false),(.slice none 0 0)] z2) fun x4 z3=>
 OP (aL 0 a2) fun x5=>
 OP (af true 2 z3 x5) fun x6=>
 (True)∧
 OP (aL 2 b3) fun x7=>
 OP (af true 2 z3 x7) fun x8=>
 (True)∧
 aj P 107 [x6,x8] z3 fun x9 z4=>
 (True)∧
 OP (aL 2 a2) fun aM=>
 OP (af true 2 z4 aM) fun au=>
 (af true 2 z3 aM=some au∧True)∧
 OP (aL 0 b3) fun aB=>
 OP (af true 2 z4 aB) fun aA=>
 (af true 2 z3 aB=some aA∧True)∧
 aj P 107 [au,aA] z4 fun aH z5=>
 (True)∧
 aj P 106 [x9,aH] z5 fun ba z6=>
 (True)∧
 OH (aE 4 z6 x4 ba) fun _ z7=>
 (True)∧
 OP (af true 4 z7 x4) fun r0=>
 K r0 z7
theorem e77:ak P c77 (aS [.cell true 4 4] K) (bt [a0,b1]) h=NJ P K a0 b1 h:=by kernel_rfl
theorem f77 {K:VK} {a0 b1:Value} {h:ae} (H:NJ prog K a0 b1 h):aj prog 77 [a0,b1] h K:=
 bJ k77 (bH rfl) ((e77 prog K a0 b1 h).mpr H)
end
noncomputable section
variable (x0 b3 q4 r5 i6 aW bu cg bW : Value) (L1 L2 : LQ) (xs : List Value) (h : ae)
def ahj:=bz prog 89 [[],[],[],[],[],[],[0,3],[],[],[],[],[4],[3,5,6],[3,4,5,6,20],[3,4,5,6,20,24],[3,4,5,6,20,24,26],[3,4,5,6,20,27],[],[],[],[],[3,4],[3],[],[]]
@[irreducible] def Ho:=bI ahj
@[irreducible] def OZ:=Ho.r.r.r.l.l.l
@[irreducible] def abo:=Ho.r.r.r.r
@[irreducible] def Hp:=OZ.r.l.r.l.r.l.l
@[irreducible] def abk:=OZ.r.l.r.r
@[irreducible] def as3:=abo.l
@[irreducible] def abl:=Hp.l.l.r.l
@[irreducible] def as0:=Hp.l.r
@[irreducible] def asZ:=Hp.r
@[irreducible] def as2:=abk.l
@[irreducible] def abm:=abl.r.l
@[irreducible] def abn:=abm.r.l
@[irreducible] def as1:=abn.r.l
theorem k89:ahj=some (45,Ho,[.tmp 2]):=by kernel_rfl
def Mi (_P:Program) (K:VK):ar:=aS [.tmp 2] K
def apB:ar:=aF (ak P abo (Mi P K)) (Mi P K)
def apC:ar:=bN 0 (apB P K)
def XP:ar:=aF (fun f' aT=>(([]:List Nat).map f':List Value)=[]∧L1 (([0,3]:List Nat).map f') aT) (apC P K)
def Mj:ar:=bN 1 (XP P K L1)
def apz:ar:=aF (ak P abk (Mj P K L1)) (Mj P K L1)
def apA:ar:=bN 2 (apz P K L1)
def Mk:ar:=aF (fun f' aT=>(([4]:List Nat).map f':List Value)=[q4]∧L2 (([3,5,6]:List Nat).map f') aT) (apA P K L1)
def XO:ar:=aF (ak P asZ (Mk P K q4 L1 L2)) (Mk P K q4 L1 L2)
def F1:ar:=aF (ak P as0 (XO P K q4 L1 L2)) (XO P K q4 L1 L2)
def ajV:Prop:=ay (ak P OZ (XP P K L1)) ([]++[0,3]) ([]++xs) h
def ajS:Prop:=ay (ak P Hp (Mk P K q4 L1 L2)) ([4]++[3,5,6]) ([q4]++xs) h
def ajT:Prop:=ay (ak P abl (F1 P K q4 L1 L2)) [3,4,5,6,20] [b3,q4,r5,i6,aW] h
def TN:Prop:=ay (ak P abm (F1 P K q4 L1 L2)) [3,4,5,6,20,24] [b3,q4,r5,i6,aW,bu] h
def TO:Prop:=ay (ak P abn (F1 P K q4 L1 L2)) [3,4,5,6,20,24,26] [b3,q4,r5,i6,aW,bu,cg] h
def TP:Prop:=ay (ak P as1 (F1 P K q4 L1 L2)) [3,4,5,6,20,27] [b3,q4,r5,i6,aW,bW] h
def J6:Prop:=ay (ak P as2 (Mj P K L1)) [3,4] [b3,q4] h
def ajU:Prop:=ay (ak P as3 (Mi P K)) [3] [b3] h
theorem Kj:TP P K b3 q4 r5 i6 aW bW L1 L2 h=
 (OP (bP aW bW (.bool false)) fun cC=>
 aQ cC
 (OP (ai .rem r5 (.int .u32 (10))) fun dB=>
 OP (ai .add (.int .u32 (48)) dB) fun cP=>
 OP (dh .u8 cP) fun cZ=>
 OH (dH 5 1 [(.int .u8 (0))] h [(0,1,cZ)]) fun cT z1=>
 OH (dT 5 1 1 z1 b3 cT) fun fm z2=>
 OP (ai .quo r5 (.int .u32 (10))) fun eJ=>
 OP (ai .add i6 (.int .i64 (1))) fun dj=>
 ([q4]:List Value)=[q4]∧L2 [fm,eJ,dj] z2)
 (J6 P K b3 q4 L1 h)):=az (by kernel_rfl)
theorem Ki:TO P K b3 q4 r5 i6 aW bu cg L1 L2 h=
 (cm aW true
 (OP (bP bu (.bool true) cg) fun bW=>
 TP P K b3 q4 r5 i6 aW bW L1 L2 h)
 (TP P K b3 q4 r5 i6 aW undef L1 L2 h)):=az (by kernel_rfl)
theorem Uk:TN P K b3 q4 r5 i6 aW bu L1 L2 h=
 (cm bu false
 (OP (ai .gtr r5 (.int .u32 (0))) fun cg=>
 TO P K b3 q4 r5 i6 aW bu cg L1 L2 h)
 (TO P K b3 q4 r5 i6 aW bu undef L1 L2 h)):=az (by kernel_rfl)
theorem ald:ajT P K b3 q4 r5 i6 aW L1 L2 h=
 (cm aW true
 (OP (bj q4) fun bE=>
 OP (ai .gtr bE (.int .i64 (0))) fun ck=>
 TN P K b3 q4 r5 i6 aW ck L1 L2 h)
 (TN P K b3 q4 r5 i6 aW undef L1 L2 h)):=az (by kernel_rfl)
theorem aCe (q4:Value) (L1 L2:LQ) (b3 r5 i6:Value) (h:ae):ajS P K q4 L1 L2 [b3,r5,i6] h=
 (OP (ai .lss i6 (.int .i64 (9))) fun aO=>
 ajT P K b3 q4 r5 i6 aO L1 L2 h):=az (by kernel_rfl)
theorem aCf:J6 P K b3 q4 L1 h=
 (([]:List Value)=[]∧L1 [q4,b3] h):=az (by kernel_rfl)
theorem aCh (L1:LQ) (x0 b3:Value) (h:ae):ajV P K L1 [x0,b3] h=
 (OP (bj x0) fun au=>
 OP (ai .gtr au (.int .i64 (0))) fun aB=>
 aQ aB
 (aj P 114 [x0,(.int .u32 (1000000000))] h fun ba z1=>
 OP (b9 0 ba) fun bk=>
 OP (b9 1 ba) fun bM=>
 cM [b3,bM,(.int .i64 (0))] z1 fun L2 xs hx=>
 ajS P K bk L1 L2 xs hx)
 (ajU P K b3 h)):=az (by kernel_rfl)
theorem aCg:ajU P K b3 h=
 (aj P 115 [b3] h fun _ z1=>
 OP (rL z1 b3) fun bG=>
 K bG z1):=az (by kernel_rfl)
def NU:Prop:=
 OP (bj x0) fun x8=>
 OP (ai .eql x8 (.int .i64 (0))) fun x9=>
 aQ x9
 (K (.string ⟨#[48]⟩) h)
 (cM [x0,(.slice none 0 0)] h fun L1 xs hx=>
 ajV P K L1 xs hx)
theorem e89:ak P Ho (aS [.tmp 2] K) (bt [x0]) h=NU P K x0 h:=by kernel_rfl
theorem f89 {K:VK} {x0:Value} {h:ae} (H:NU prog K x0 h):aj prog 89 [x0] h K:=
 bJ k89 (bH rfl) ((e89 prog K x0 h).mpr H)
end
noncomputable section
variable (a0 a1 x8 aH : Value) (h : ae)
def ahk:=bz prog 90 [[],[1,8],[8,14],[]]
@[irreducible] def Hq:=bI ahk
@[irreducible] def abp:=Hq.r.l.r.l
@[irreducible] def as4:=Hq.r.r
@[irreducible] def as5:=abp.r.l
theorem k90:ahk=some (16,Hq,[.tmp 2]):=by kernel_rfl
def XQ (_P:Program) (K:VK):ar:=aS [.tmp 2] K
def XR:ar:=aF (ak P as4 (XQ P K)) (XQ P K)
def ajW:Prop:=ay (ak P abp (XR P K)) [1,8] [a1,x8] h
def TQ:Prop:=ay (ak P as5 (XR P K)) [8,14] [x8,aH] h
theorem Um:TQ P K x8 aH h=
 (OP (bP x8 aH (.bool false)) fun ba=>
 K ba h):=az (by kernel_rfl)
theorem Ul:ajW P K a1 x8 h=
 (cm x8 true
 (OP (aL 2 a1) fun x9=>
 OP (aL 1 x9) fun aM=>
 OP (af false 1 h aM) fun au=>
 OP (bc 1 au (.int .i64 (0))) fun aB=>
 OP (af false 1 h aB) fun aA=>
 OP (ai .eql aA (.int .u32 (1))) fun aH=>
 TQ P K x8 aH h)
 (TQ P K x8 undef h)):=az (by kernel_rfl)
def F7:Prop:=
 OH (bm 107 h a0) fun a1 z1=>
 OP (aL 2 a1) fun x3=>
 OP (aL 1 x3) fun x4=>
 OP (af false 1 z1 x4) fun x5=>
 OP (bj x5) fun x6=>
 OP (ai .eql x6 (.int .i64 (1))) fun x7=>
 ajW P K a1 x7 z1
theorem e90:ak P Hq (aS [.tmp 2] K) (bt [a0]) h=F7 P K a0 h:=by kernel_rfl
theorem f90 {K:VK} {a0:Value} {h:ae} (H:F7 prog K a0 h):aj prog 90 [a0] h K:=
 bJ k90 (bH rfl) ((e90 prog K a0 h).mpr H)
end
noncomputable section
variable (x0 x1 x2 x3 x4 : Value) (h : ae)
def afV:=bz prog 106 [[],[],[2,3,4],[],[],[],[],[],[],[]]
@[irreducible] def Ot:=bI afV
@[irreducible] def aqm:=Ot.r.r.l
theorem axp:afV=some (41,Ot,[.cell true 4 4]):=by kernel_rfl
def ana (_P:Program) (K:VK):ar:=aS [.cell true 4 4] K
def SP:Prop:=ay (ak P aqm (ana P K)) [2,3,4] [x2,x3,x4] h
theorem azD:SP P K x2 x3 x4 h=
 (OP (af true 2 h x2) fun bk=>
 OP (af true 2 h x3) fun bM=>
 aj P 120 [bk,bM] h fun aP z1=>
 OH (aV 105 [(.bool false),(.slice none 0 0)] z1) fun g5 z2=>
 OH (aE 2 z2 g5 aP) fun _ z3=>
 OP (af true 2 z3 g5) fun aO=>
 (True)∧
 aj P 105 [(.int .i64 (1))] z3 fun aW z4=>
 (af true 2 z4 g5=some aO∧True)∧
 aj P 111 [aO,aW] z4 fun aY z5=>
 (True)∧
 OP (ai .eql aY (.int .i64 (0))) fun bE=>
 aQ bE
 (OP (af true 2 z5 x2) fun ck=>
 OP (af true 2 z5 x3) fun bu=>
 OP (dc [(.bool false),(.slice none 0 0),(.bool false),(.slice none 0 0)] [(0,2,ck),(2,2,bu)]) fun bY=>
 OH (aE 4 z5 x4 bY) fun _ z6=>
 OP (af true 4 z6 x4) fun r0=>
 K r0 z6)
 (OP (af true 2 z5 x2) fun bW=>
 OP (af true 2 z5 g5) fun cC=>
 aj P 121 [bW,cC] z5 fun cG z6=>
 OP (b9 0 cG) fun dj=>
 OP (b9 1 cG) fun cA=>
 OH (aV 105 [(.bool false),(.slice none 0 0)] z6) fun n6 z7=>
 OH (aV 105 [(.bool false),(.slice none 0 0)] z7) fun x7 z8=>
 OH (aE 2 z8 n6 dj) fun _ z9=>
 OH (aE 2 z9 x7 cA) fun _ jd=>
 OP (af true 2 jd x3) fun dB=>
 OP (af true 2 jd g5) fun cP=>
 aj P 121 [dB,cP] jd fun cZ jY=>
 OP (b9 0 cZ) fun cT=>
 OP (b9 1 cZ) fun fm=>
 OH (aV 105 [(.bool false),(.slice none 0 0)] jY) fun d8 mE=>
 OH (aV 105 [(.bool false),(.slice none 0 0)] mE) fun x9 pX=>
 OH (aE 2 pX d8 cT) fun _ uD=>
 OH (aE 2 uD x9 fm) fun _ lY=>
 OP (af true 2 lY n6) fun dC=>
 OP (af true 2 lY d8) fun eJ=>
 OP (dc [(.bool false),(.slice none 0 0),(.bool false),(.slice none 0 0)] [(0,2,dC),(2,2,eJ)]) fun dU=>
 OH (aE 4 lY x4 dU) fun _ uE=>
 OP (af true 4 uE x4) fun r0=>
 K r0 uE)):=az (by kernel_rfl)
def Mz:Prop:=
 OH (bm 105 h x0) fun x2 z1=>
 OH (bm 105 z1 x1) fun x3 z2=>
 OH (aV 107 [(.bool false),(.slice none 0 0),(.bool false),(.slice none 0 0)] z2) fun x4 z3=>
 OP (aL 0 x3) fun aM=>
 OP (af false 1 z3 aM) fun au=>
 aQ au
 (OP (af true 2 z3 x2) fun aB=>
 (True)∧
 aj P 119 [aB] z3 fun aA z4=>
 (True)∧
 OP (af true 2 z4 x3) fun aH=>
 (af true 2 z3 x3=some aH∧True)∧
 aj P 119 [aH] z4 fun ba z5=>
 (True)∧
 OH (aE 2 z5 x2 aA) fun _ z6=>
 (True)∧
 OH (aE 2 z6 x3 ba) fun _ z7=>
 (True)∧
 SP P K x2 x3 x4 z7)
 (SP P K x2 x3 x4 z3)
theorem atZ:ak P Ot (aS [.cell true 4 4] K) (bt [x0,x1]) h=Mz P K x0 x1 h:=by kernel_rfl
theorem f106 {K:VK} {x0 x1:Value} {h:ae} (H:Mz prog K x0 x1 h):aj prog 106 [x0,x1] h K:=
 bJ axp (bH rfl) ((atZ prog K x0 x1 h).mpr H)
end
noncomputable section
variable (a0 b1 x4 x5 y6 : Value) (L1 : LQ) (xs : List Value) (h : ae)
def af9:=bz prog 120 [[],[],[4],[5,6],[],[],[],[4,5],[]]
@[irreducible] def GC:=bI af9
@[irreducible] def aqD:=GC.r.r.l.l.l
@[irreducible] def Y4:=GC.r.r.r
@[irreducible] def aqC:=Y4.l
theorem axD:af9=some (26,GC,[.cell true 2 4]):=by kernel_rfl
def LJ (_P:Program) (K:VK):ar:=aS [.cell true 2 4] K
def ann:ar:=aF (ak P Y4 (LJ P K)) (LJ P K)
def ano:ar:=bN 0 (ann P K)
def anp:ar:=aF (fun f' aT=>(([4]:List Nat).map f':List Value)=[x4]∧L1 (([5,6]:List Nat).map f') aT) (ano P K)
def ah5:Prop:=ay (ak P aqD (anp P K x4 L1)) ([4]++[5,6]) ([x4]++xs) h
def ah4:Prop:=ay (ak P aqC (LJ P K)) [4,5] [x4,x5] h
theorem azP (x4:Value) (L1:LQ) (x5 y6:Value) (h:ae):ah5 P K x4 L1 [x5,y6] h=
 (OP (bj y6) fun aH=>
 OP (ai .gtr aH (.int .i64 (0))) fun ba=>
 aQ ba
 (aj P 130 [x5,y6] h fun aO z1=>
 OP (b9 0 aO) fun _=>
 OP (b9 1 aO) fun aY=>
 ([x4]:List Value)=[x4]∧L1 [y6,aY] z1)
 (ah4 P K x4 x5 h)):=az (by kernel_rfl)
theorem azO:ah4 P K x4 x5 h=
 (aj P 117 [(.bool false),x5] h fun bY z1=>
 OH (aE 2 z1 x4 bY) fun _ z2=>
 OP (af true 2 z2 x4) fun r0=>
 K r0 z2):=az (by kernel_rfl)
def MM:Prop:=
 OH (bm 105 h a0) fun a2 z1=>
 OH (bm 105 z1 b1) fun b3 z2=>
 OH (aV 105 [(.bool false),(.slice none 0 0)] z2) fun x4 z3=>
 OP (aL 1 a2) fun x9=>
 OP (af false 1 z3 x9) fun aM=>
 (True)∧
 OP (aL 1 b3) fun au=>
 OP (af false 1 z3 au) fun aB=>
 (True)∧
 cM [aM,aB] z3 fun L1 xs hx=>
 ah5 P K x4 L1 xs hx
theorem aue:ak P GC (aS [.cell true 2 4] K) (bt [a0,b1]) h=MM P K a0 b1 h:=by kernel_rfl
theorem f120 {K:VK} {a0 b1:Value} {h:ae} (H:MM prog K a0 b1 h):aj prog 120 [a0,b1] h K:=
 bJ axD (bH rfl) ((aue prog K a0 b1 h).mpr H)
end
noncomputable section
variable (a0 b1 a2 b3 x4 x5 x8 y9 cO fm : Value) (h : ae)
def aga:=bz prog 121 [[],[],[],[2,3,4,5,8,9,32],[3,4,5,8,9,32,37],[],[4,5,8,9],[]]
@[irreducible] def CY:=bI aga
@[irreducible] def Y6:=CY.r.r.r.l.l.r.l
@[irreducible] def aqF:=CY.r.r.r.l.r
@[irreducible] def Y5:=CY.r.r.r.r
@[irreducible] def aqG:=Y6.r.l
@[irreducible] def aqE:=Y5.l
theorem axE:aga=some (47,CY,[.cell true 2 4,.cell true 2 5]):=by kernel_rfl
def LM (_P:Program) (K:VK):ar:=aS [.cell true 2 4,.cell true 2 5] K
def WT:ar:=aF (ak P Y5 (LM P K)) (LM P K)
def WU:ar:=aF (ak P aqF (WT P K)) (WT P K)
def ah6:Prop:=ay (ak P Y6 (WU P K)) [2,3,4,5,8,9,32] [a2,b3,x4,x5,x8,y9,cO] h
def S0:Prop:=ay (ak P aqG (WU P K)) [3,4,5,8,9,32,37] [b3,x4,x5,x8,y9,cO,fm] h
def SZ:Prop:=ay (ak P aqE (LM P K)) [4,5,8,9] [x4,x5,x8,y9] h
theorem azS:S0 P K b3 x4 x5 x8 y9 cO fm h=
 (OP (bP cO fm (.bool false)) fun dC=>
 aQ dC
 (OP (af true 2 h x8) fun eJ=>
 (True)∧
 aj P 105 [(.int .i64 (1))] h fun dU z1=>
 (af true 2 z1 x8=some eJ∧True)∧
 aj P 127 [eJ,dU] z1 fun ef z2=>
 (True)∧
 OP (af true 2 z2 y9) fun eL=>
 (af true 2 h y9=some eL∧af true 2 z1 y9=some eL∧True)∧
 OP (af true 2 z2 b3) fun bV=>
 (af true 2 h b3=some bV∧af true 2 z1 b3=some bV∧True)∧
 aj P 113 [eL,bV] z2 fun bG z3=>
 (True)∧
 OH (aE 2 z3 x8 ef) fun _ z4=>
 (True)∧
 OH (aE 2 z4 y9 bG) fun _ z5=>
 (True)∧
 SZ P K x4 x5 x8 y9 z5)
 (SZ P K x4 x5 x8 y9 h)):=az (by kernel_rfl)
theorem azR:ah6 P K a2 b3 x4 x5 x8 y9 cO h=
 (cm cO true
 (OP (aL 0 a2) fun dB=>
 OP (af false 1 h dB) fun cP=>
 OP (aL 0 b3) fun cZ=>
 OP (af false 1 h cZ) fun cT=>
 OP (tU true cP cT) fun fm=>
 S0 P K b3 x4 x5 x8 y9 cO fm h)
 (S0 P K b3 x4 x5 x8 y9 cO undef h)):=az (by kernel_rfl)
theorem azQ:SZ P K x4 x5 x8 y9 h=
 (OP (af true 2 h x8) fun cI=>
 (True)∧
 OP (af true 2 h y9) fun dm=>
 (True)∧
 OH (aE 2 h x4 cI) fun _ z1=>
 (af true 2 z1 y9=some dm∧True)∧
 OH (aE 2 z1 x5 dm) fun _ z2=>
 (True)∧
 OP (af true 2 z2 x4) fun r0=>
 OP (af true 2 z2 x5) fun r1=>
 K (.tuple #[r0,r1]) z2):=az (by kernel_rfl)
def MN:Prop:=
 OH (bm 105 h a0) fun a2 z1=>
 OH (bm 105 z1 b1) fun b3 z2=>
 OH (aV 105 [(.bool false),(.slice none 0 0)] z2) fun x4 z3=>
 OH (aV 105 [(.bool false),(.slice none 0 0)] z3) fun x5 z4=>
 OP (aL 1 a2) fun au=>
 OP (af false 1 z4 au) fun aB=>
 OP (aL 1 b3) fun aA=>
 OP (af false 1 z4 aA) fun aH=>
 aj P 130 [aB,aH] z4 fun ba z5=>
 OP (b9 0 ba) fun bk=>
 OP (b9 1 ba) fun bM=>
 OH (aV 105 [(.bool false),(.slice none 0 0)] z5) fun x8 z6=>
 OP (dZ z6 x8) fun u=>
 (True)∧
 OH (aV 105 [(.bool false),(.slice none 0 0)] z6) fun y9 z7=>
 OP (dZ z7 y9) fun x1=>
 (dZ z7 x8=some u∧True)∧
 OP (aL 0 a2) fun aP=>
 OP (af false 1 z7 aP) fun aO=>
 (af false 1 z5 aP=some aO∧af false 1 z6 aP=some aO∧True)∧
 OP (aL 0 b3) fun aW=>
 OP (af false 1 z7 aW) fun aY=>
 (af false 1 z5 aW=some aY∧af false 1 z6 aW=some aY∧True)∧
 OP (tU true aO aY) fun bE=>
 aj P 117 [bE,bk] z7 fun bu z8=>
 (dZ z8 x8=some u∧dZ z8 y9=some x1∧True)∧
 OP (aL 0 a2) fun bY=>
 OP (af false 1 z8 bY) fun cg=>
 (af false 1 z5 bY=some cg∧af false 1 z6 bY=some cg∧af false 1 z7 bY=some cg∧True)∧
 aj P 117 [cg,bM] z8 fun cC z9=>
 (dZ z9 x8=some u∧dZ z9 y9=some x1∧True)∧
 OH (aE 2 z9 x8 bu) fun _ jd=>
 (True)∧
 OH (aE 2 jd y9 cC) fun _ jY=>
 (True)∧
 OP (bj bM) fun dj=>
 OP (ai .gtr dj (.int .i64 (0))) fun cA=>
 ah6 P K a2 b3 x4 x5 x8 y9 cA jY
theorem auf:ak P CY (aS [.cell true 2 4,.cell true 2 5] K) (bt [a0,b1]) h=MN P K a0 b1 h:=by kernel_rfl
theorem f121 {K:VK} {a0 b1:Value} {h:ae} (H:MN prog K a0 b1 h):aj prog 121 [a0,b1] h K:=
 bJ axE (bH rfl) ((auf prog K a0 b1 h).mpr H)
end
noncomputable section
variable (a0 b1 x8 v9 rV mX rS tX : Value) (L1 : LQ) (xs : List Value) (h : ae)
def agl:=bz prog 130 [[],[],[],[],[],[],[],[],[],[],[],[],[],[8,9,10,11,12],[13],[],[],[],[8,10,11,12],[]]
@[irreducible] def GL:=bI agl
@[irreducible] def aq1:=GL.r.r.r.r.r.r.r.l.r.l.l
@[irreducible] def Zq:=GL.r.r.r.r.r.r.r.r
@[irreducible] def aq2:=Zq.l
theorem axN:agl=some (85,GL,[.tmp 4,.tmp 5]):=by kernel_rfl
def LU (_P:Program) (K:VK):ar:=aS [.tmp 4,.tmp 5] K
def anQ:ar:=aF (ak P Zq (LU P K)) (LU P K)
def anR:ar:=bN 0 (anQ P K)
def anS:ar:=aF (fun f' aT=>(([8,9,10,11,12]:List Nat).map f':List Value)=[x8,v9,rV,mX,rS]∧L1 (([13]:List Nat).map f') aT) (anR P K)
def S8:Prop:=ay (ak P aq1 (anS P K x8 v9 rV mX rS L1)) ([8,9,10,11,12]++[13]) ([x8,v9,rV,mX,rS]++xs) h
def ais:Prop:=ay (ak P aq2 (LU P K)) [8,10,11,12] [x8,rV,mX,rS] h
theorem aAe (x8 v9 rV mX rS:Value) (L1:LQ) (tX:Value) (h:ae):S8 P K x8 v9 rV mX rS L1 [tX] h=
 (OP (ai .geq tX (.int .i64 (0))) fun lV=>
 aQ lV
 (OP (ai .add tX mX) fun iC=>
 OP (ai .add iC (.int .i64 (1))) fun lW=>
 OP (mo 177 1 rV (some tX) (some lW)) fun nf=>
 aj P 137 [nf,v9] h fun jJ z1=>
 OP (bc 1 rS tX) fun kr=>
 OH (aE 1 z1 kr jJ) fun _ z2=>
 OP (ai .sub tX (.int .i64 (1))) fun iY=>
 ([x8,v9,rV,mX,rS]:List Value)=[x8,v9,rV,mX,rS]∧L1 [iY] z2)
 (ais P K x8 rV mX rS h)):=az (by kernel_rfl)
theorem aAf:ais P K x8 rV mX rS h=
 (aj P 118 [rS] h fun fw z1=>
 (True)∧
 OP (mo 177 1 rV none (some mX)) fun jK=>
 aj P 118 [jK] z1 fun gI z2=>
 (True)∧
 aj P 138 [gI,x8] z2 fun gJ z3=>
 (True)∧
 K (.tuple #[fw,gJ]) z3):=az (by kernel_rfl)
def F6:Prop:=
 aj P 126 [a0,b1] h fun bk z1=>
 OP (ai .lss bk (.int .i64 (0))) fun bM=>
 aQ bM
 (OH (dT 177 1 4 z1 (.slice none 0 0) a0) fun aO z2=>
 K (.tuple #[(.slice none 0 0),aO]) z2)
 (OP (bj b1) fun aY=>
 OP (ai .eql aY (.int .i64 (1))) fun bE=>
 aQ bE
 (OP (bc 1 b1 (.int .i64 (0))) fun cg=>
 OP (af false 1 z1 cg) fun bW=>
 aj P 114 [a0,bW] z1 fun cC z2=>
 OP (b9 0 cC) fun cG=>
 OP (b9 1 cC) fun dj=>
 OH (dH 177 1 [(.int .u32 (0))] z2 [(0,1,dj)]) fun dB z3=>
 aj P 118 [dB] z3 fun cP z4=>
 K (.tuple #[cG,cP]) z4)
 (OP (bj b1) fun fm=>
 OP (ai .sub fm (.int .i64 (1))) fun dC=>
 OP (bc 1 b1 dC) fun eJ=>
 OP (af false 1 z1 eJ) fun dU=>
 aj P 135 [dU] z1 fun ef z2=>
 aj P 136 [b1,ef] z2 fun bG z3=>
 aj P 118 [bG] z3 fun cI z4=>
 aj P 136 [a0,ef] z4 fun fC z5=>
 OP (bj cI) fun bS=>
 OP (bj a0) fun cX=>
 OP (ai .sub cX bS) fun df=>
 OP (ai .add df (.int .i64 (1))) fun gD=>
 OH (mV 177 4 [(.int .u32 (0))] z5 gD gD) fun iM z6=>
 OP (bj a0) fun fW=>
 OP (ai .sub fW bS) fun kn=>
 cM [kn] z6 fun L1 xs hx=>
 S8 P K ef cI fC bS iM L1 xs hx))
theorem auo:ak P GL (aS [.tmp 4,.tmp 5] K) (bt [a0,b1]) h=F6 P K a0 b1 h:=by kernel_rfl
theorem f130 {K:VK} {a0 b1:Value} {h:ae} (H:F6 prog K a0 b1 h):aj prog 130 [a0,b1] h K:=
 bJ axN (bH rfl) ((auo prog K a0 b1 h).mpr H)
end
end
section
def br:Nat:=4294967296^100
theorem ae8 {n:Nat} (h:n<4294967296^20):n<br:=Nat.lt_of_lt_of_le h (Nat.pow_le_pow_right (by decide) (by decide))
theorem qg {xs:List Nat} (h:dw 4294967296 xs) (hv:val 4294967296 xs<br):xs.length≤100:=h.len (by decide) hv
def DS (e:TypeId) (k:IntKind) (h:ae) (v:Value) (xs:List Nat):Prop:=
 (v=.slice none 0 0∧xs=[])∨∃i,v=sl e i 0 xs.length∧(xs=[]∨∃rest,aR h i=some (xs.map (fun d:Nat=>Value.int k (d:Int))++rest))
theorem DS.mono {e:TypeId} {k:IntKind} {h h':ae} {v:Value} {xs:List Nat} (x:EX h h') (p:DS e k h v xs):DS e k h' v xs:=
 p.imp id fun ⟨i,a,b⟩=>⟨i,a,b.imp id fun ⟨r,c⟩=>⟨r,x.cells c⟩⟩
theorem DS.len {e:TypeId} {k:IntKind} {h:ae} {v:Value} {xs:List Nat} (p:DS e k h v xs):bj v=some (I xs.length):=by
 rcases p with ⟨rfl,rfl⟩ | ⟨i,rfl,_⟩ <;> rfl
theorem DS.get {e:TypeId} {k:IntKind} {h:ae} {v:Value} {xs:List Nat} (p:DS e k h v xs) {j:Nat} (hj:j<xs.length):∃i,bc 1 v (I j)=some (pt i j)∧af false 1 h (pt i j)=some (.int k (xs[j]:Int)):=by
 rcases p with ⟨_,rfl⟩ | ⟨i,rfl,hc⟩
 ·simp at hj
 ·obtain ⟨r,hc⟩:=hc.resolve_left (by rintro rfl;simp at hj)
  refine ⟨i,mL hj,?_⟩
  have:(xs.map (fun d:Nat=>Value.int k (d:Int))++r)[j]?=some (.int k (xs[j]:Int)):=by rw [List.getElem?_append_left (by simpa using hj)];simp [hj]
  simp [af,hc,cf,this]
theorem DS.nil (e:TypeId) (k:IntKind) (h:ae):DS e k h (.slice none 0 0) []:=.inl ⟨rfl,rfl⟩
theorem DS.one {e:TypeId} {k:IntKind} {h:ae} {v:Value} {xs:List Nat} (p:DS e k h v xs):iA v=true∧de v=[v]:=by
 rcases p with ⟨rfl,_⟩ | ⟨i,rfl,_⟩ <;> exact ⟨rfl,rfl⟩
theorem DS.pop {e:TypeId} {k:IntKind} {h:ae} {v:Value} {xs:List Nat} (p:DS e k h v xs) {n:Nat} (hn:n≤xs.length):∃v',mo e 1 v none (some (I n))=some v'∧DS e k h v' (xs.take n):=by
 rcases p with ⟨rfl,rfl⟩ | ⟨i,rfl,hc⟩
 ·simp at hn;subst hn
  exact ⟨_,rfl,.inl ⟨rfl,rfl⟩⟩
 ·refine ⟨sl e i 0 n,?_,.inr ⟨i,by rw [length_take,Nat.min_eq_left hn],?_⟩⟩
  ·simp [mo,sl,rM,sX,hn]
  ·rcases hc with rfl | ⟨r,hc⟩
   ·left;simp
   ·right
    refine ⟨(xs.drop n).map (fun d:Nat=>Value.int k (d:Int))++r,?_⟩
    rw [hc,←List.append_assoc,←List.map_append,List.take_append_drop]
def dD (h:ae) (v:Value) (n:Nat):Prop:=∃xs,DS 177 .u32 h v xs∧dw 4294967296 xs∧val 4294967296 xs=n
theorem dD.mono {h h':ae} {v:Value} {n:Nat} (x:EX h h') (p:dD h v n):dD h' v n:=let ⟨xs,a,b,c⟩:=p;⟨xs,a.mono x,b,c⟩
theorem sf {h:ae} {K:Value→ae→Prop} {v:Value} {xs:List Nat} (p:DS 177 .u32 h v xs) (hl:cd 4294967296 xs) (hs:xs.length≤1000) (hk:∀v',dD h v' (val 4294967296 xs)→K v' h):aj prog 118 [v] h K:=by
 refine f118 ?_
 refine dL (σ:=Value×List Nat) (fun p=>[p.1]) (fun _=>h) (fun q=>DS 177 .u32 h q.1 q.2∧cd 4294967296 q.2∧val 4294967296 q.2=val 4294967296 xs∧q.2.length≤1000) (fun q=>q.2.length) (v,xs) rfl rfl ⟨p,hl,rfl,hs⟩ ?_
 rintro ⟨v,ys⟩ ⟨p,hl,hv,hs⟩ L hL
 simp only at p hl hv hs hL⊢
 rw [azN]
 have done:dw 4294967296 ys→SY prog K v h:=by
  intro hc
  rw [azM]
  exact hk v ⟨ys,p,hc,hv⟩
 simp only [p.len,ah,fN]
 by_cases h0:ys.length=0
 ·have:ys=[]:=List.length_eq_zero_iff.1 h0
  rw [aU (show ¬(0:Int)<(ys.length:Int) by omega)]
  simp only [akE,lj,akD,dI,ah,dV]
  exact done (by rw [this];exact dw.nil 4294967296)
 ·rw [a9 (show (0:Int)<(ys.length:Int) by omega)]
  have e1:IntKind.wrap .i64 ((ys.length:Int)-1)=((ys.length-1:Nat):Int):=by rw [wrap64 (by omega) (by omega)];omega
  obtain ⟨i,g1,g2⟩:=p.get (j:=ys.length-1) (by omega)
  simp only [akE,jt,p.len,ah,gq,e1,g1,g2,jA,akD,eW,bX]
  refine ⟨fun hz=>?_,fun hz=>?_⟩
  ·obtain ⟨v',h1,h2⟩:=p.pop (n:=ys.length-1) (by omega)
   simp only [h1,ah,true_and]
   have awF:ys=ys.take (ys.length-1)++[0]:=by
    have:=List.take_succ_eq_append_getElem (l:=ys) (i:=ys.length-1) (by omega)
    rw [show ys.length-1+1=ys.length by omega,take_length] at this
    have rK:ys[ys.length-1]=0:=by omega
    rw [rK] at this
    exact this
   refine hL (v',ys.take (ys.length-1)) ⟨h2,hl.mono fun y hy=>List.mem_of_mem_take hy,?_,by rw [length_take];omega⟩ (by simp;omega)
   rw [←hv]
   conv=>rhs;rw [awF]
   rw [nJ]
   simp [val]
  ·exact done (Hv hl fun h1 hc=>hz (by rw [hc];rfl))
/-- Fresh digits at the end of the heap. -/
abbrev hd (h:ae) (os:List Nat):ae:=h++[.arr 177 (os.map fun d:Nat=>Value.int .u32 (d:Int))]
theorem zN {h:ae} {n:Nat} (hn:n≤1000):mV 177 4 [.int .u32 0] h (I n) (I n)=some (sl 177 h.length 0 n,hd h (replicate n 0)):=by
 have hz:∀m,iO [Value.int .u32 0] m=(replicate m 0).map fun d:Nat=>Value.int .u32 (d:Int):=by
  intro m
  induction m with
  | zero=>rfl
  | succ m ih=>
   have:iO [Value.int .u32 0] (m+1)=Value.int .u32 0::iO [Value.int .u32 0] m:=by simp [iO,List.replicate_succ]
   rw [this,ih,List.replicate_succ];rfl
 simp only [mV]
 rw [if_pos ⟨by omega,by omega,by omega,by omega⟩,Int.toNat_natCast,hz]
theorem Qm (h:ae) (os:List Nat):(hd h os)[h.length]?=some (.arr 177 (os.map fun d:Nat=>Value.int .u32 (d:Int))):=by simp [hd]
theorem u7 {h:ae} {os:List Nat} {j:Nat} (d:Nat) (hj:j<os.length):aE 1 (hd h os) (pt h.length j) (.int .u32 (d:Int))=some (undef,hd h (os.set j d)):=by
 rw [pW (Qm h os) (by simpa using hj) rfl rfl]
 simp [hd,List.map_set]
theorem ac9 {h:ae} {os:List Nat} {j:Nat} (hj:j<os.length):af false 1 (hd h os) (pt h.length j)=some (.int .u32 (os[j]:Int)):=by
 simp [af,aR,cf,hj]
theorem yG (h:ae) (os:List Nat):DS 177 .u32 (hd h os) (sl 177 h.length 0 os.length) os:=.inr ⟨h.length,rfl,.inr ⟨[],by simp [aR,hd]⟩⟩
theorem kC (h:ae) (os:List Nat):EX h (hd h os):=EX.append _ _
theorem kO {n:Int} (h1:0≤n) (h2:n<18446744073709551616):IntKind.wrap .u64 n=n:=by
 have e:IntKind.wrap .u64 n=n%18446744073709551616:=by simp [IntKind.wrap,IntKind.bits,IntKind.signed]
 rw [e];omega
theorem xK (n:Int):IntKind.wrap .u32 n=n%4294967296:=by simp [IntKind.wrap,IntKind.bits,IntKind.signed]
theorem oA {n:Int} (h1:0≤n) (h2:n<4294967296):IntKind.wrap .u32 n=n:=by rw [xK];omega
theorem Af (s:Nat):ai .shr (.int .u64 (s:Int)) (.int .u64 32)=some (.int .u64 ((s / 4294967296:Nat):Int)):=by
 simp only [ai,qG]
 rw [if_neg (by omega)]
 have:(min (32:Int).toNat IntKind.u64.bits)=32:=rfl
 rw [this]
 have e2:(2:Int)^32=4294967296:=by decide
 rw [e2,Int.fdiv_eq_ediv_of_nonneg _ (by omega)]
 congr 2
theorem V6 {x y c:Nat} {h:ae} {K:Value→ae→Prop} (hx:x<4294967296) (hy:y<4294967296) (hc:c≤1) (hk:K (.tuple #[.int .u32 (((x+y+c)%4294967296:Nat):Int),.int .u32 (((x+y+c) / 4294967296:Nat):Int)]) h):
  aj prog 133 [.int .u32 (x:Int),.int .u32 (y:Int),.int .u32 (c:Int)] h K:=by
 refine f133 ?_
 have e1:IntKind.wrap .u64 ((x:Int)+(y:Int))=((x+y:Nat):Int):=by rw [kO (by omega) (by omega)];omega
 have e2:IntKind.wrap .u64 (((x+y:Nat):Int)+(c:Int))=((x+y+c:Nat):Int):=by rw [kO (by omega) (by omega)];omega
 have e3:IntKind.wrap .u32 ((x+y+c:Nat):Int)=(((x+y+c)%4294967296:Nat):Int):=by rw [xK];omega
 simp only [MY,jN,ah,cQ]
 rw [kO (n:=(x:Int)) (by omega) (by omega),kO (n:=(y:Int)) (by omega) (by omega),e1,kO (n:=(c:Int)) (by omega) (by omega),e2]
 simp only [Af,ah,jN,e3]
 rw [oA (by omega) (by omega)]
 exact hk
theorem V3 {va vb:Value} {xs ys:List Nat} {h:ae} {K:Value→ae→Prop} (hx:DS 177 .u32 h va xs) (hy:DS 177 .u32 h vb ys) (lx:cd 4294967296 xs) (ly:cd 4294967296 ys) (hle:ys.length≤xs.length) (hlen:xs.length≤200)
  (hk:∀v h',EX h h'→dD h' v (val 4294967296 xs+val 4294967296 ys)→K v h'):JL prog K va vb h:=by
 rw [az9]
 simp only [hx.len,ah,cQ,fA xs.length (by omega),zN (show xs.length+1≤1000 by omega),aC]
 have hW:0<4294967296:=by decide
 refine dL (σ:=Nat×Nat×List Nat) (fun p=>[.int .u32 (p.1:Int),I p.2.1]) (fun p=>hd h p.2.2)
  (fun p=>p.2.1≤xs.length∧p.1≤1∧p.2.2.length=xs.length+1∧cd 4294967296 p.2.2∧(∀j (hj:j<p.2.2.length),p.2.1≤j→p.2.2[j]=0)∧val 4294967296 p.2.2+4294967296^p.2.1*p.1=val 4294967296 (xs.take p.2.1)+val 4294967296 (ys.take p.2.1)) (fun p=>xs.length-p.2.1)
  (0,0,replicate (xs.length+1) 0) rfl rfl ⟨by simp,by simp,by simp,cd.wx hW _,by simp,by simp [xI,val]⟩ ?_
 rintro ⟨c,i,os⟩ ⟨hi,hc,gO,fe,hz,bT⟩ L hL
 simp only at hi hc gO fe hz bT hL⊢
 rw [az5]
 have bR:=hx.mono (kC h os)
 have qD:=hy.mono (kC h os)
 simp only [cW,ah,bX]
 refine ⟨fun aD=>?_,fun cK=>?_⟩
 ·have bC:i<xs.length:=by omega
  obtain ⟨ia,a1,a2⟩:=bR.get bC
  have gZ:xs[i]<4294967296:=lx _ (getElem_mem bC)
  have go:∀y:Nat,y<4294967296→val 4294967296 (ys.take (i+1))=val 4294967296 (ys.take i)+4294967296^i*y→JK prog K va vb (sl 177 h.length 0 (xs.length+1)) (.int .u32 (c:Int)) (I i) (.int .u32 (y:Int)) (I xs.length) (I i) L (hd h os):=by
   intro y kf zl
   rw [az6]
   simp only [a1,ah,a2]
   refine V6 gZ kf hc ?_
   simp only [eQ,ft,fv,ah,mL (show i<xs.length+1 by omega)]
   rw [u7 _ (by omega)]
   simp only [aC,az7,cQ,ah,fA i (by omega),true_and]
   have oS:(xs[i]+y+c)%4294967296<4294967296:=mod_lt _ hW
   have u9:(xs[i]+y+c) / 4294967296≤1:=by omega
   refine hL ((xs[i]+y+c) / 4294967296,i+1,os.set i ((xs[i]+y+c)%4294967296)) ⟨by show i+1≤xs.length;omega,u9,by show (os.set i _).length=_;rw [length_set];exact gO,fe.set oS i,?_,?_⟩ (by show xs.length-(i+1)<xs.length-i;omega)
   ·intro j hj eC
    show (os.set i _)[j]=0
    have QA:i≠j:=by have:i+1≤j:=eC;omega
    rw [getElem_set_ne QA]
    exact hz j (by simpa using hj) (by have:i+1≤j:=eC;omega)
   ·show val 4294967296 (os.set i _)+4294967296^(i+1)*_=val 4294967296 (xs.take (i+1))+val 4294967296 (ys.take (i+1))
    have h1:=tk 4294967296 os i ((xs[i]+y+c)%4294967296) (by omega)
    rw [hz i (by omega) (le_refl _)] at h1
    rw [iX 4294967296 xs bC,zl,pow_succ]
    have h2:=Nat.mod_add_div (xs[i]+y+c) 4294967296
    generalize (xs[i]+y+c)%4294967296=m at*
    generalize (xs[i]+y+c) / 4294967296=q at*
    generalize 4294967296^i=P at*
    generalize hWW:4294967296=w at*
    grind
  simp only [qD.len,ah,cW,bX]
  refine ⟨fun hly=>?_,fun hgy=>?_⟩
  ·have yN:i<ys.length:=by omega
   obtain ⟨ib,b1,b2⟩:=qD.get yN
   simp only [b1,ah,b2]
   exact go _ (ly _ (getElem_mem yN)) (iX 4294967296 ys yN)
  ·have:=go 0 (by decide) (by rw [take_of_length_le (by omega),take_of_length_le (by omega)];simp)
   simpa using this
 ·have:i=xs.length:=by omega
  subst this
  rw [az8]
  simp only [bR.len,ah,mL (show xs.length<xs.length+1 by omega)]
  rw [u7 _ (by omega)]
  simp only [aC]
  have h1:=tk 4294967296 os xs.length c (by omega)
  rw [hz xs.length (by omega) (le_refl _)] at h1
  have hv:val 4294967296 (os.set xs.length c)=val 4294967296 xs+val 4294967296 ys:=by
   rw [take_length,take_of_length_le hle] at bT
   omega
  have hcW:c<4294967296:=Nat.lt_of_le_of_lt hc (by decide)
  have e:sl 177 h.length 0 (xs.length+1)=sl 177 h.length 0 (os.set xs.length c).length:=by rw [length_set,gO]
  rw [e]
  refine sf (yG h _) (fe.set hcW _) (by rw [length_set];omega) ?_
  intro v' hm
  rw [hv] at hm
  exact hk v' _ (kC h _) hm
theorem V1 {va vb:Value} {a b:Nat} {h:ae} {K:Value→ae→Prop} (ha:dD h va a) (hb:dD h vb b) (la:a<br) (lb:b<br) (hk:∀v h',EX h h'→dD h' v (a+b)→K v h'):aj prog 128 [va,vb] h K:=by
 obtain ⟨xs,dx,cx,rfl⟩:=ha
 obtain ⟨ys,dy,cy,rfl⟩:=hb
 have l1:=qg cx la
 have l2:=qg cy lb
 refine f128 ?_
 simp only [MU,dx.len,dy.len,ah,cW,bX]
 refine ⟨fun aD=>?_,fun cK=>?_⟩
 ·refine V3 dy dx cy.1 cx.1 (by omega) (by omega) ?_
  rw [Nat.add_comm (val 4294967296 ys)]
  exact hk
 ·exact V3 dx dy cx.1 cy.1 (by omega) (by omega) hk
end
section
theorem yh (X:BitVec 32):BitVec.ofInt IntKind.u32.bits (X.toNat:Int)=X:=by
 show BitVec.ofInt 32 (X.toNat:Int)=X
 rw [BitVec.ofInt_natCast,BitVec.ofNat_toNat,BitVec.setWidth_eq]
theorem CT (X:BitVec 32):X.toNat<4294967296:=X.isLt
theorem apT (X Y:BitVec 32):ai .and (.int .u32 (X.toNat:Int)) (.int .u32 (Y.toNat:Int))=some (.int .u32 ((X &&& Y).toNat:Int)):=by
 have h:=CT (X &&& Y)
 have e:(BitVec.ofInt IntKind.u32.bits (X.toNat:Int) &&& BitVec.ofInt IntKind.u32.bits (Y.toNat:Int)).toNat=(X &&& Y).toNat:=by rw [yh,yh];rfl
 simp only [ai,hI,if_true]
 rw [e,oA (by omega) (by omega)]
theorem ay0 (X Y:BitVec 32):ai .or (.int .u32 (X.toNat:Int)) (.int .u32 (Y.toNat:Int))=some (.int .u32 ((X ||| Y).toNat:Int)):=by
 have h:=CT (X ||| Y)
 have e:(BitVec.ofInt IntKind.u32.bits (X.toNat:Int) ||| BitVec.ofInt IntKind.u32.bits (Y.toNat:Int)).toNat=(X ||| Y).toNat:=by rw [yh,yh];rfl
 simp only [ai,hI,if_true]
 rw [e,oA (by omega) (by omega)]
theorem aEJ (X Y:BitVec 32):ai .xor (.int .u32 (X.toNat:Int)) (.int .u32 (Y.toNat:Int))=some (.int .u32 ((X^^^Y).toNat:Int)):=by
 have h:=CT (X^^^Y)
 have e:(BitVec.ofInt IntKind.u32.bits (X.toNat:Int)^^^BitVec.ofInt IntKind.u32.bits (Y.toNat:Int)).toNat=(X^^^Y).toNat:=by rw [yh,yh];rfl
 simp only [ai,hI,if_true]
 rw [e,oA (by omega) (by omega)]
theorem ayJ (X:BitVec 32):gw .xor (.int .u32 (X.toNat:Int))=some (.int .u32 ((~~~X).toNat:Int)):=by
 have h:=CT (~~~X)
 have e:(BitVec.ofInt IntKind.u32.bits (if IntKind.u32.signed=true then -1 else IntKind.u32.max)^^^BitVec.ofInt IntKind.u32.bits (X.toNat:Int)).toNat=(~~~X).toNat:=by
  rw [yh]
  show (BitVec.ofInt 32 4294967295^^^X).toNat=_
  rw [show BitVec.ofInt 32 4294967295=BitVec.allOnes 32 from by decide,BitVec.allOnes_xor]
 simp only [gw]
 rw [e,oA (by omega) (by omega)]
theorem aDZ (Z:BitVec 32):ai .shr (.int .u32 (Z.toNat:Int)) (.int .u64 31)=some (.int .u32 ((if Z.msb then 1 else 0:Nat):Int)):=by
 have h:=CT Z
 simp only [ai,qG]
 rw [if_neg (by omega)]
 have:(min (31:Int).toNat IntKind.u32.bits)=31:=rfl
 rw [this]
 have e2:(2:Int)^31=2147483648:=by decide
 rw [e2,Int.fdiv_eq_ediv_of_nonneg _ (by omega),BitVec.msb_eq_decide]
 congr 2
 by_cases hz:2^31≤Z.toNat
 ·simp [hz];omega
 ·simp [hz];omega
theorem V7 {x y b:Nat} {h:ae} {K:Value→ae→Prop} (hx:x<4294967296) (hy:y<4294967296) (hb:b≤1) (hk:K (.tuple #[.int .u32 (((x+4294967296+4294967296-y-b)%4294967296:Nat):Int),.int .u32 ((if x<y+b then 1 else 0:Nat):Int)]) h):
  aj prog 134 [.int .u32 (x:Int),.int .u32 (y:Int),.int .u32 (b:Int)] h K:=by
 refine f134 ?_
 obtain ⟨X,rfl⟩:∃X:BitVec 32,x=X.toNat:=⟨BitVec.ofNat 32 x,by rw [BitVec.toNat_ofNat];exact (Nat.mod_eq_of_lt hx).symm⟩
 obtain ⟨Y,rfl⟩:∃Y:BitVec 32,y=Y.toNat:=⟨BitVec.ofNat 32 y,by rw [BitVec.toNat_ofNat];exact (Nat.mod_eq_of_lt hy).symm⟩
 obtain ⟨D,hD⟩:∃D:BitVec 32,D.toNat=(X.toNat+4294967296+4294967296-Y.toNat-b)%4294967296:=⟨BitVec.ofNat 32 _,by rw [BitVec.toNat_ofNat]⟩
 have e1:IntKind.wrap .u32 (IntKind.wrap .u32 ((X.toNat:Int)-(Y.toNat:Int))-(b:Int))=(D.toNat:Int):=by
  rw [xK,xK,hD];omega
 simp only [MZ,gq,ah,e1,ayJ,apT,aEJ,ay0,aDZ]
 rw [←hD] at hk
 have e2:(if (~~~X &&& Y ||| ~~~(X^^^Y) &&& D).msb then 1 else 0:Nat)=if X.toNat<Y.toNat+b then 1 else 0:=by
  rw [BitVec.msb_or,BitVec.msb_and,BitVec.msb_and,BitVec.msb_not,BitVec.msb_not,BitVec.msb_xor,BitVec.msb_eq_decide X,BitVec.msb_eq_decide Y,BitVec.msb_eq_decide D]
  by_cases c1:2^(32-1)≤X.toNat <;> by_cases c2:2^(32-1)≤Y.toNat <;> by_cases c3:2^(32-1)≤D.toNat <;> simp [c1,c2,c3] <;> omega
 rw [e2]
 exact hk
theorem V4 {va vb:Value} {a b:Nat} {h:ae} {K:Value→ae→Prop} (ha:dD h va a) (hb:dD h vb b) (la:a<br) (gX:b≤a) (hk:∀v h',EX h h'→dD h' v (a-b)→K v h'):aj prog 129 [va,vb] h K:=by
 obtain ⟨xs,hx,cx,rfl⟩:=ha
 obtain ⟨ys,hy,cy,rfl⟩:=hb
 have l1:=qg cx la
 have l2:=qg cy (Nat.lt_of_le_of_lt gX la)
 have hle:ys.length≤xs.length:=by
  apply byContradiction
  intro hc
  have:=dw.zM (by decide) cx cy (by omega)
  omega
 refine f129 ?_
 simp only [MV,hx.len,ah,zN (show xs.length≤1000 by omega),aC]
 have hW:(0:Nat)<4294967296:=by decide
 refine dL (σ:=Nat×Nat×List Nat) (fun p=>[.int .u32 (p.1:Int),I p.2.1]) (fun p=>hd h p.2.2)
  (fun p=>p.2.1≤xs.length∧p.1≤1∧p.2.2.length=xs.length∧cd 4294967296 p.2.2∧(∀j (hj:j<p.2.2.length),p.2.1≤j→p.2.2[j]=0)∧val 4294967296 p.2.2+val 4294967296 (ys.take p.2.1)=val 4294967296 (xs.take p.2.1)+4294967296^p.2.1*p.1) (fun p=>xs.length-p.2.1)
  (0,0,replicate xs.length 0) rfl rfl ⟨by simp,by simp,by simp,cd.wx hW _,by simp,by simp [xI,val]⟩ ?_
 rintro ⟨c,i,os⟩ ⟨hi,hc,gO,fe,hz,bT⟩ L hL
 simp only at hi hc gO fe hz bT hL⊢
 rw [aAd]
 have bR:=hx.mono (kC h os)
 have qD:=hy.mono (kC h os)
 simp only [cW,ah,bX]
 refine ⟨fun aD=>?_,fun cK=>?_⟩
 ·have bC:i<xs.length:=by omega
  obtain ⟨ia,a1,a2⟩:=bR.get bC
  have gZ:xs[i]<4294967296:=cx.1 _ (getElem_mem bC)
  have go:∀y:Nat,y<4294967296→val 4294967296 (ys.take (i+1))=val 4294967296 (ys.take i)+4294967296^i*y→JM prog K va vb (sl 177 h.length 0 xs.length) (.int .u32 (c:Int)) (I i) (.int .u32 (y:Int)) (I xs.length) (I i) L (hd h os):=by
   intro y kf zl
   rw [aAa]
   simp only [a1,ah,a2]
   refine V7 gZ kf hc ?_
   simp only [eQ,ft,fv,ah,mL bC]
   rw [u7 _ (by omega)]
   simp only [aC,aAb,cQ,ah,fA i (by omega),true_and]
   have oS:(xs[i]+4294967296+4294967296-y-c)%4294967296<4294967296:=mod_lt _ hW
   have mP:(if xs[i]<y+c then 1 else 0)≤1:=by split <;> omega
   have hs:(xs[i]+4294967296+4294967296-y-c)%4294967296+y+c=xs[i]+4294967296*(if xs[i]<y+c then 1 else 0):=by
    split <;> omega
   refine hL ((if xs[i]<y+c then 1 else 0),i+1,os.set i ((xs[i]+4294967296+4294967296-y-c)%4294967296)) ⟨by show i+1≤xs.length;omega,mP,by show (os.set i _).length=_;rw [length_set];exact gO,fe.set oS i,?_,?_⟩ (by show xs.length-(i+1)<xs.length-i;omega)
   ·intro j hj eC
    show (os.set i _)[j]=0
    have QA:i≠j:=by have:i+1≤j:=eC;omega
    rw [getElem_set_ne QA]
    exact hz j (by simpa using hj) (by have:i+1≤j:=eC;omega)
   ·show val 4294967296 (os.set i _)+val 4294967296 (ys.take (i+1))=val 4294967296 (xs.take (i+1))+4294967296^(i+1)*_
    have h1:=tk 4294967296 os i ((xs[i]+4294967296+4294967296-y-c)%4294967296) (by omega)
    rw [hz i (by omega) (le_refl _)] at h1
    rw [iX 4294967296 xs bC,zl,pow_succ]
    generalize (xs[i]+4294967296+4294967296-y-c)%4294967296=m at*
    generalize (if xs[i]<y+c then 1 else 0)=q at*
    generalize 4294967296^i=P at*
    generalize (4294967296:Nat)=w at*
    grind
  simp only [qD.len,ah,cW,bX]
  refine ⟨fun hly=>?_,fun hgy=>?_⟩
  ·have yN:i<ys.length:=by omega
   obtain ⟨ib,b1,b2⟩:=qD.get yN
   simp only [b1,ah,b2]
   exact go _ (cy.1 _ (getElem_mem yN)) (iX 4294967296 ys yN)
  ·have:=go 0 (by decide) (by rw [take_of_length_le (by omega),take_of_length_le (by omega)];simp)
   simpa using this
 ·have:i=xs.length:=by omega
  subst this
  rw [aAc]
  rw [take_length,take_of_length_le hle] at bT
  have aD:=m9 fe
  rw [gO] at aD
  have uY:c=0:=by
   apply byContradiction
   intro bp
   have:c=1:=by omega
   subst this
   omega
  subst uY
  have hv:val 4294967296 os=val 4294967296 xs-val 4294967296 ys:=by omega
  have e:sl 177 h.length 0 xs.length=sl 177 h.length 0 os.length:=by rw [gO]
  rw [e]
  refine sf (yG h _) fe (by omega) ?_
  intro v' hm
  rw [hv] at hm
  exact hk v' _ (kC h _) hm
def m8 (a b:Nat):Int:=if a<b then -1 else if b<a then 1 else 0
theorem K3 {B:Nat} {xs ys:List Nat} (lx:cd B xs) (_:cd B ys) (hl:xs.length=ys.length) {i:Nat} (hi:i<xs.length) (hd:xs.drop (i+1)=ys.drop (i+1)) (h:xs[i]<ys[i]'(by omega)):val B xs<val B ys:=by
 have e1:xs=xs.take i++xs[i]::xs.drop (i+1):=by rw [←drop_eq_getElem_cons hi,List.take_append_drop]
 have e2:ys=ys.take i++ys[i]'(by omega)::ys.drop (i+1):=by rw [←drop_eq_getElem_cons (by omega),List.take_append_drop]
 have v1:val B xs=val B (xs.take i)+B^i*(xs[i]+B*val B (xs.drop (i+1))):=by
  conv=>lhs;rw [e1]
  rw [nJ,length_take,Nat.min_eq_left (by omega)];rfl
 have v2:val B ys=val B (ys.take i)+B^i*(ys[i]'(by omega)+B*val B (ys.drop (i+1))):=by
  conv=>lhs;rw [e2]
  rw [nJ,length_take,Nat.min_eq_left (by omega)];rfl
 rw [v1,v2,hd]
 have h1:=m9 (lx.mono (ys:=xs.take i) fun y hy=>List.mem_of_mem_take hy)
 rw [length_take,Nat.min_eq_left (by omega)] at h1
 have h2:B^i*(xs[i]+1+B*val B (ys.drop (i+1)))≤B^i*(ys[i]'(by omega)+B*val B (ys.drop (i+1))):=Nat.mul_le_mul_left _ (by omega)
 generalize B^i=P at*
 generalize B*val B (ys.drop (i+1))=Q at*
 generalize val B (xs.take i)=u at*
 generalize val B (ys.take i)=v at*
 have h3:P*(xs[i]+1+Q)=P*(xs[i]+Q)+P:=by grind
 omega
theorem Fx {va vb:Value} {a b:Nat} {h:ae} {K:Value→ae→Prop} (ha:dD h va a) (hb:dD h vb b) (la:a<br) (lb:b<br) (hk:K (I (m8 a b)) h):aj prog 126 [va,vb] h K:=by
 obtain ⟨xs,hx,cx,rfl⟩:=ha
 obtain ⟨ys,hy,cy,rfl⟩:=hb
 have l1:=qg cx la
 have l2:=qg cy lb
 have less:val 4294967296 xs<val 4294967296 ys→K (.int .i64 (-1)) h:=fun h1=>by unfold m8 at hk;rw [if_pos h1] at hk;exact hk
 have more:val 4294967296 ys<val 4294967296 xs→K (.int .i64 1) h:=fun h1=>by unfold m8 at hk;rw [if_neg (by omega),if_pos h1] at hk;exact hk
 have same:val 4294967296 xs=val 4294967296 ys→K (.int .i64 0) h:=fun h1=>by unfold m8 at hk;rw [if_neg (by omega),if_neg (by omega)] at hk;exact hk
 refine f126 ?_
 simp only [MS,hx.len,hy.len,ah,rf,FF,cW,bX]
 refine ⟨fun bp=>⟨fun aD=>less (dw.zM (by decide) cx cy (by omega)),fun cK=>more (dw.zM (by decide) cy cx (by omega))⟩,fun he=>?_⟩
 have fK:xs.length=ys.length:=by omega
 simp only [gq,ah]
 have e1:IntKind.wrap .i64 ((xs.length:Int)-1)=(xs.length:Int)-1:=by rw [wrap64 (by omega) (by omega)]
 rw [e1]
 refine dL (σ:=Nat) (fun i=>[I ((i:Int)-1)]) (fun _=>h) (fun i=>i≤xs.length∧xs.drop i=ys.drop i) (fun i=>i) xs.length rfl rfl ⟨le_refl _,by rw [List.drop_length,fK,List.drop_length]⟩ ?_
 rintro i ⟨hi,oQ⟩ L hL
 rw [az4]
 simp only [nS,ah,bX]
 refine ⟨fun cK=>?_,fun aD=>?_⟩
 ·obtain ⟨j,rfl⟩:∃j,i=j+1:=⟨i-1,by omega⟩
  have ej:(((j+1:Nat):Int)-1)=(j:Int):=by omega
  rw [ej]
  obtain ⟨ia,a1,a2⟩:=hx.get (j:=j) (by omega)
  obtain ⟨ib,b1,b2⟩:=hy.get (j:=j) (by omega)
  simp only [a1,a2,b1,b2,ah,true_and,rf,FF,cW,bX]
  refine ⟨fun bp=>⟨fun aD=>less (K3 cx.1 cy.1 fK (i:=j) (by omega) oQ (by omega)),fun cK=>more (K3 cy.1 cx.1 fK.symm (i:=j) (by omega) oQ.symm (by omega))⟩,fun heq=>?_⟩
  simp only [gq,ah]
  rw [wrap64 (by omega) (by omega)]
  refine hL j ⟨by omega,?_⟩ (by omega)
  rw [drop_eq_getElem_cons (by omega),drop_eq_getElem_cons (show j<ys.length by omega),oQ]
  congr 1
  omega
 ·have:i=0:=by omega
  subst this
  rw [drop_zero,drop_zero] at oQ
  exact same (by rw [oQ])
end
section
theorem Jq {x y:Nat} (hx:x<4294967296) (hy:y<4294967296):x*y≤18446744065119617025:=by
 have:=Nat.mul_le_mul (show x≤4294967295 by omega) (show y≤4294967295 by omega)
 omega
theorem VY {va vb:Value} {a b:Nat} {h:ae} {K:Value→ae→Prop} (ha:dD h va a) (hb:dD h vb b) (la:a<br) (lb:b<br) (hk:∀v h',EX h h'→dD h' v (a*b)→K v h'):aj prog 122 [va,vb] h K:=by
 obtain ⟨xs,hx,cx,rfl⟩:=ha
 obtain ⟨ys,hy,cy,rfl⟩:=hb
 have l1:=qg cx la
 have l2:=qg cy lb
 have hW:(0:Nat)<4294967296:=by decide
 refine f122 ?_
 have e0:IntKind.wrap .i64 ((xs.length:Int)+(ys.length:Int))=((xs.length+ys.length:Nat):Int):=by rw [wrap64 (by omega) (by omega)];omega
 simp only [MO,hx.len,hy.len,ah,cQ,e0,zN (show xs.length+ys.length≤1000 by omega),aC]
 refine dL (σ:=Nat×List Nat) (fun p=>[I p.1]) (fun p=>hd h p.2)
  (fun p=>p.1≤xs.length∧p.2.length=xs.length+ys.length∧cd 4294967296 p.2∧(∀j (hj:j<p.2.length),p.1+ys.length≤j→p.2[j]=0)∧val 4294967296 p.2=val 4294967296 (xs.take p.1)*val 4294967296 ys) (fun p=>xs.length-p.1)
  (0,replicate (xs.length+ys.length) 0) rfl rfl ⟨by simp,by simp,cd.wx hW _,by simp,by simp [xI,val]⟩ ?_
 rintro ⟨i,os⟩ ⟨hi,gO,fe,hz,bT⟩ L hL
 simp only at hi gO fe hz bT hL⊢
 rw [azX]
 have bR:=hx.mono (kC h os)
 simp only [cW,ah,bX]
 refine ⟨fun aD=>?_,fun cK=>?_⟩
 ·have bC:i<xs.length:=by omega
  obtain ⟨ia,a1,a2⟩:=bR.get bC
  have gZ:xs[i]<4294967296:=cx.1 _ (getElem_mem bC)
  simp only [a1,ah,a2,(hy.mono (kC h os)).len]
  have zi:=iX 4294967296 xs bC
  generalize xs[i]=x at gZ zi
  refine dL (σ:=Nat×Nat×List Nat) (fun p=>[.int .u64 (p.1:Int),I p.2.1]) (fun p=>hd h p.2.2)
   (fun p=>p.2.1≤ys.length∧p.1<4294967296∧p.2.2.length=xs.length+ys.length∧cd 4294967296 p.2.2∧(∀j (hj:j<p.2.2.length),i+ys.length≤j→p.2.2[j]=0)∧val 4294967296 p.2.2+4294967296^(i+p.2.1)*p.1=val 4294967296 os+4294967296^i*(x*val 4294967296 (ys.take p.2.1))) (fun p=>ys.length-p.2.1)
   (0,0,os) rfl rfl ⟨by simp,hW,gO,fe,hz,by simp [val]⟩ ?_
  rintro ⟨c,j,ps⟩ ⟨hj,hc,mT,vD,xf,xe⟩ L2 hZ
  simp only at hj hc mT vD xf xe hZ⊢
  rw [azT]
  have qD:=hy.mono (kC h ps)
  simp only [cW,ah,bX]
  refine ⟨fun mm=>?_,fun Qu=>?_⟩
  ·have pG:j<ys.length:=by omega
   obtain ⟨ib,b1,b2⟩:=qD.get pG
   have kf:ys[j]<4294967296:=cy.1 _ (getElem_mem pG)
   have hyt:=iX 4294967296 ys pG
   generalize ys[j]=y at b2 kf hyt
   have pJ:i+j<ps.length:=by omega
   have awa:ps[i+j]<4294967296:=vD _ (getElem_mem pJ)
   have hxy:=Jq gZ kf
   have lJ:=tk 4294967296 ps (i+j) ((x*y+ps[i+j]+c)%4294967296) pJ
   have ei:IntKind.wrap .i64 ((i:Int)+(j:Int))=((i+j:Nat):Int):=by rw [wrap64 (by omega) (by omega)];omega
   have Pl:((x:Int)*(y:Int))=((x*y:Nat):Int):=by simp
   simp only [b1,ah,b2,jN]
   rw [kO (n:=(x:Int)) (by omega) (by omega),kO (n:=(y:Int)) (by omega) (by omega)]
   simp only [wI,ah,Pl,cQ,ei]
   rw [kO (n:=((x*y:Nat):Int)) (by omega) (by omega)]
   rw [mL (show i+j<xs.length+ys.length by omega)]
   simp only [ah,ac9 pJ,jN]
   rw [kO (n:=(ps[i+j]:Int)) (by omega) (by omega)]
   have e1:IntKind.wrap .u64 (((x*y:Nat):Int)+(ps[i+j]:Int))=((x*y+ps[i+j]:Nat):Int):=by rw [kO (by omega) (by omega)];omega
   have e2:IntKind.wrap .u64 (((x*y+ps[i+j]:Nat):Int)+(c:Int))=((x*y+ps[i+j]+c:Nat):Int):=by rw [kO (by omega) (by omega)];omega
   have e3:IntKind.wrap .u32 ((x*y+ps[i+j]+c:Nat):Int)=(((x*y+ps[i+j]+c)%4294967296:Nat):Int):=by rw [xK];omega
   simp only [cQ,ah,e1,e2,jN,e3,Af]
   rw [u7 _ pJ]
   simp only [aC,fA j (by omega),true_and]
   have oS:(x*y+ps[i+j]+c)%4294967296<4294967296:=mod_lt _ hW
   have lG:=Nat.mod_add_div (x*y+ps[i+j]+c) 4294967296
   have u9:(x*y+ps[i+j]+c) / 4294967296<4294967296:=by omega
   refine hZ ((x*y+ps[i+j]+c) / 4294967296,j+1,ps.set (i+j) ((x*y+ps[i+j]+c)%4294967296)) ⟨by show j+1≤ys.length;omega,u9,by show (ps.set _ _).length=_;rw [length_set];exact mT,vD.set oS _,?_,?_⟩ (by show ys.length-(j+1)<ys.length-j;omega)
   ·intro k sI pE
    show (ps.set (i+j) _)[k]=0
    have bp:i+j≠k:=by omega
    rw [getElem_set_ne bp]
    exact xf k (by simpa using sI) pE
   ·show val 4294967296 (ps.set (i+j) _)+4294967296^(i+(j+1))*_=val 4294967296 os+4294967296^i*(x*val 4294967296 (ys.take (j+1)))
    rw [hyt,←Nat.add_assoc,pow_succ]
    rw [Nat.pow_add] at lJ xe⊢
    generalize ps[i+j]=o at*
    generalize (x*y+o+c)%4294967296=m at*
    generalize (x*y+o+c) / 4294967296=q at*
    generalize val 4294967296 (ys.take j)=v at*
    generalize val 4294967296 (ps.set (i+j) m)=s1 at*
    generalize val 4294967296 ps=s0 at*
    generalize val 4294967296 os=s2 at*
    generalize 4294967296^i=P at*
    generalize 4294967296^j=Q at*
    generalize (4294967296:Nat)=w at*
    clear hZ hL hx hy bR qD b1 b2
    have h1:P*Q*(m+w*q)=P*Q*(x*y+o+c):=by rw [lG]
    grind
  ·have:j=ys.length:=by omega
   subst this
   rw [azU]
   have ei:IntKind.wrap .i64 ((i:Int)+(ys.length:Int))=((i+ys.length:Nat):Int):=by rw [wrap64 (by omega) (by omega)];omega
   simp only [qD.len,ah,cQ,ei,jN]
   rw [oA (n:=(c:Int)) (by omega) (by omega),mL (show i+ys.length<xs.length+ys.length by omega)]
   simp only [ah]
   have pJ:i+ys.length<ps.length:=by omega
   rw [u7 _ pJ]
   simp only [aC,azV,cQ,ah,fA i (by omega),true_and]
   have lJ:=tk 4294967296 ps (i+ys.length) c pJ
   rw [xf _ pJ (le_refl _)] at lJ
   rw [take_length] at xe
   refine hL (i+1,ps.set (i+ys.length) c) ⟨by show i+1≤xs.length;omega,by show (ps.set _ _).length=_;rw [length_set];exact mT,vD.set hc _,?_,?_⟩ (by show xs.length-(i+1)<xs.length-i;omega)
   ·intro k sI pE
    show (ps.set (i+ys.length) _)[k]=0
    have aE8:i+1+ys.length≤k:=pE
    have bp:i+ys.length≠k:=by omega
    rw [getElem_set_ne bp]
    exact xf k (by simpa using sI) (by omega)
   ·show val 4294967296 (ps.set (i+ys.length) c)=val 4294967296 (xs.take (i+1))*val 4294967296 ys
    rw [zi,Nat.add_mul,←bT,Nat.mul_assoc,←xe]
    omega
 ·have:i=xs.length:=by omega
  subst this
  rw [azW]
  rw [take_length] at bT
  have e:sl 177 h.length 0 (xs.length+ys.length)=sl 177 h.length 0 os.length:=by rw [gO]
  rw [e]
  refine sf (yG h _) fe (by omega) ?_
  intro v' hm
  rw [bT] at hm
  exact hk v' _ (kC h _) hm
def dR (h:ae) (val:Value) (z:Int):Prop:=∃v,val=.agg #[B (decide (z<0)),v]∧dD h v z.natAbs
theorem dR.mono {h h':ae} {v:Value} {z:Int} (x:EX h h') (p:dR h v z):dR h' v z:=let ⟨w,a,b⟩:=p;⟨w,a,b.mono x⟩
theorem dD.pN {h:ae} {v:Value} {n:Nat} (p:dD h v n):∃l:Nat,bj v=some (I l)∧(0<l↔0<n):=by
 obtain ⟨xs,d,c,rfl⟩:=p
 refine ⟨xs.length,d.len,?_⟩
 constructor
 ·intro h0
  have:=dw.low (by decide) c (by rintro rfl;simp at h0)
  have:0<4294967296^(xs.length-1):=pow_pos (by decide)
  omega
 ·intro h0
  cases xs with
  | nil=>simp [val] at h0
  | cons x xs=>simp
theorem dD.bL {h:ae} {v:Value} {n j:Nat} {e:TypeId} {b:Bool} {r:List Value} (p:dD h v n) (hj:h[j]?=some (.arr e (.bool b::r))) (o:aq):dD (h.set j o) v n:=by
 obtain ⟨xs,d,c,hv⟩:=p
 refine ⟨xs,?_,c,hv⟩
 rcases d with d | ⟨i,h1,h2⟩
 ·exact .inl d
 ·refine .inr ⟨i,h1,?_⟩
  rcases h2 with h2 | ⟨rest,h2⟩
  ·exact .inl h2
  ·cases xs with
   | nil=>exact .inl rfl
   | cons x xs=>
    right
    refine ⟨rest,?_⟩
    have bp:j≠i:=by
     rintro rfl
     unfold aR at h2
     rw [hj] at h2
     simp at h2
    unfold aR at h2⊢
    rw [getElem?_set_ne bp]
    exact h2
theorem dR.bL {h:ae} {v:Value} {z:Int} {j:Nat} {e:TypeId} {b:Bool} {r:List Value} (p:dR h v z) (hj:h[j]?=some (.arr e (.bool b::r))) (o:aq):dR (h.set j o) v z:=
 let ⟨w,a,q⟩:=p;⟨w,a,q.bL hj o⟩
theorem fk {h:ae} {i:Nat} {e:TypeId} {a b x y:Value} (hg:h[i]?=some (.arr e [a,b])):aE 2 h (pt i 0) (.agg #[x,y])=some (undef,h.set i (.arr e [x,y])):=by
 simp [aE,vK,hg,iA,de,Value.cells,setAt]
theorem cL {h:ae} {i:Nat} {e:TypeId} {a b:Value} (hg:h[i]?=some (.arr e [a,b])):af true 2 h (pt i 0)=some (.agg #[a,b]):=by
 simp [af,aR,hg,cf]
theorem cj {h:ae} {i:Nat} {o o':aq} (hg:h[i]?=some o'):(h.set i o)[i]?=some o:=by
 rw [List.getElem?_set_self (bK hg).1]
theorem se {v:Value} {n:Nat} {b:Bool} {h:ae} {K:Value→ae→Prop} (hm:dD h v n) (hk:∀h',EX h h'→K (.agg #[B (b&&decide (0<n)),v]) h'):aj prog 117 [B b,v] h K:=by
 refine f117 ?_
 have al:aV 105 [(.bool false),(.slice none 0 0)] h=some (pt h.length 0,h++[.arr 105 [(.bool false),(.slice none 0 0)]]):=rfl
 simp only [MK,al,aC]
 obtain ⟨l,h1,h2⟩:=hm.pN
 have hg:(h++[aq.arr 105 [(.bool false),(.slice none 0 0)]])[h.length]?=some (.arr 105 [(.bool false),(.slice none 0 0)]):=bn
 have hx:EX h (h++[aq.arr 105 [(.bool false),(.slice none 0 0)]]):=EX.append _ _
 have fin:EK prog K v (pt h.length 0) (B b) (B (decide (0<l))) (h++[aq.arr 105 [(.bool false),(.slice none 0 0)]])∧(b=false→EK prog K v (pt h.length 0) (B b) undef (h++[aq.arr 105 [(.bool false),(.slice none 0 0)]])):=by
  have one:∀c:Bool,c=(b&&decide (0<n))→OP (dc [(.bool false),(.slice none 0 0)] [(0,1,B c),(1,1,v)]) fun aB=>OH (aE 2 (h++[aq.arr 105 [(.bool false),(.slice none 0 0)]]) (pt h.length 0) aB) fun _ h_1=>OP (af true 2 h_1 (pt h.length 0)) fun r0=>K r0 h_1:=by
   rintro c rfl
   have eb:dc [(.bool false),(.slice none 0 0)] [(0,1,B (b&&decide (0<n))),(1,1,v)]=some (.agg #[B (b&&decide (0<n)),v]):=by
    obtain ⟨xs,d,_,_⟩:=hm
    rcases d with ⟨rfl,_⟩ | ⟨i,rfl,_⟩ <;> rfl
   simp only [eb,ah]
   rw [fk hg]
   simp only [aC]
   rw [cL (cj hg)]
   simp only [ah]
   exact hk _ (hx.set (le_refl _) _)
  constructor
  ·rw [akC]
   cases b with
   | true=>simp only [eW,ah];exact one _ (by simp [h2])
   | false=>simp only [dI,ah];exact one _ (by simp)
  ·rintro rfl
   rw [akC]
   simp only [dI,ah]
   exact one _ (by simp)
 rw [azL]
 have e0:decide ((0:Int)<(l:Int))=decide (0<l):=by
  by_cases h0:0<l
  ·simp [h0]
  ·simp [h0]
 cases b with
 | true=>
  simp only [jt,h1,ah,fN,e0]
  exact fin.1
 | false=>
  simp only [lj]
  exact fin.2 rfl
end
section
theorem wQ {h':ae} {j:Nat} {b0 v0 b v:Value} {K:Value→ae→Prop} (hg:h'[j]?=some (.arr 105 [b0,v0])) (hk:K (.agg #[b,v]) (h'.set j (.arr 105 [b,v]))):
  OH (aE 2 h' (pt j 0) (.agg #[b,v])) fun _ h6=>OP (af true 2 h6 (pt j 0)) fun r0=>K r0 h6:=by
 rw [fk hg]
 simp only [aC]
 rw [cL (cj hg)]
 exact ah.2 hk
structure amm (h:ae) (va vb:Value) (sa sb:Bool) (h3:ae):Prop where
 ex:EX h h3
 a0:af false 1 h3 (pt h.length 0)=some (B sa)
 a1:af false 1 h3 (pt h.length 1)=some va
 b0:af false 1 h3 (pt (h.length+1) 0)=some (B sb)
 b1:af false 1 h3 (pt (h.length+1) 1)=some vb
 a2:af true 2 h3 (pt h.length 0)=some (.agg #[B sa,va])
 b2:af true 2 h3 (pt (h.length+1) 0)=some (.agg #[B sb,vb])
 out:h3[h.length+2]?=some (.arr 105 [.bool false,.slice none 0 0])
theorem Gi {h:ae} {va vb:Value} {sa sb:Bool} {K:Value→Value→Value→ae→Prop} (hk:∀h3,amm h va vb sa sb h3→K (pt h.length 0) (pt (h.length+1) 0) (pt (h.length+2) 0) h3):
  OH (bm 105 h (.agg #[B sa,va])) fun a2 h_1=>OH (bm 105 h_1 (.agg #[B sb,vb])) fun b3 h_2=>OH (aV 105 [(.bool false),(.slice none 0 0)] h_2) fun x4 h_3=>K a2 b3 x4 h_3:=by
 have e1:∀(g:ae) (s:Bool) (v:Value),bm 105 g (.agg #[B s,v])=some (pt g.length 0,g++[.arr 105 [B s,v]]):=fun _ _ _=>rfl
 have e2:∀(g:ae),aV 105 [(.bool false),(.slice none 0 0)] g=some (pt g.length 0,g++[.arr 105 [(.bool false),(.slice none 0 0)]]):=fun _=>rfl
 simp only [e1,e2,aC,length_append,length_cons,length_nil]
 have g0:(h++[aq.arr 105 [B sa,va]]++[aq.arr 105 [B sb,vb]]++[aq.arr 105 [(.bool false),(.slice none 0 0)]])[h.length]?=some (.arr 105 [B sa,va]):=by simp
 have g1:(h++[aq.arr 105 [B sa,va]]++[aq.arr 105 [B sb,vb]]++[aq.arr 105 [(.bool false),(.slice none 0 0)]])[h.length+1]?=some (.arr 105 [B sb,vb]):=by simp
 have g2:(h++[aq.arr 105 [B sa,va]]++[aq.arr 105 [B sb,vb]]++[aq.arr 105 [(.bool false),(.slice none 0 0)]])[h.length+2]?=some (.arr 105 [(.bool false),(.slice none 0 0)]):=by simp
 refine hk _ ⟨((EX.append _ _).push _).push _,?_,?_,?_,?_,cL g0,cL g1,g2⟩
 ·simp [af,aR,cf]
 ·simp [af,aR,cf]
 ·simp [af,aR,cf]
 ·simp [af,aR,cf]
theorem Cx {n:Int} {h:ae} {K:Value→ae→Prop} (h1: -9223372036854775808≤n) (h2:n<9223372036854775808) (hk:∀r h',EX h h'→dR h' r n→K r h'):aj prog 105 [I n] h K:=by
 refine f105 ?_
 have e2:aV 105 [(.bool false),(.slice none 0 0)] h=some (pt h.length 0,h++[.arr 105 [(.bool false),(.slice none 0 0)]]):=rfl
 simp only [My,e2,aC]
 have x1:EX h (h++[aq.arr 105 [(.bool false),(.slice none 0 0)]]):=EX.append _ _
 have g1:(h++[aq.arr 105 [(.bool false),(.slice none 0 0)]])[h.length]?=some (.arr 105 [(.bool false),(.slice none 0 0)]):=bn
 generalize h++[aq.arr 105 [(.bool false),(.slice none 0 0)]]=hA at x1 g1⊢
 have go:∀u:Nat,u=n.natAbs→JI prog K (I n) (pt h.length 0) (.int .u64 (u:Int)) hA:=by
  intro u hu
  rw [azC]
  have ew:IntKind.wrap .u32 (u:Int)=((u%4294967296:Nat):Int):=by rw [xK];omega
  simp only [cW,ah,jN,Af,ew]
  rw [oA (n:=((u / 4294967296:Nat):Int)) (by omega) (by omega)]
  have mk:dH 177 2 [.int .u32 0] hA [(0,1,.int .u32 ((u%4294967296:Nat):Int)),(1,1,.int .u32 ((u / 4294967296:Nat):Int))]=some (sl 177 hA.length 0 2,hd hA [u%4294967296,u / 4294967296]):=rfl
  simp only [mk,aC]
  have hl:cd 4294967296 [u%4294967296,u / 4294967296]:=by
   intro x hx
   simp at hx
   rcases hx with rfl | rfl <;> omega
  refine sf (yG hA [u%4294967296,u / 4294967296]) hl (by simp) ?_
  intro v hv
  have bT:val 4294967296 [u%4294967296,u / 4294967296]=n.natAbs:=by simp [val];omega
  rw [bT] at hv
  refine se hv ?_
  intro h' x'
  have xx:=(kC hA [u%4294967296,u / 4294967296]).trans x'
  have g':=xx.get g1
  refine wQ g' (hk _ _ ((x1.trans xx).set (le_refl _) _) ⟨v,?_,(hv.mono x').bL g' _⟩)
  have:(decide (n<0)&&decide (0<n.natAbs))=decide (n<0):=by
   by_cases hn:n<0
   ·simp [hn];omega
   ·simp [hn]
  rw [this]
 simp only [jN,ah,cW,bX]
 refine ⟨fun hn=>?_,fun hn=>?_⟩
 ·have e3:gw .neg (.int .u64 (IntKind.wrap .u64 n))=some (.int .u64 ((n.natAbs:Nat):Int)):=by
   have e:∀m:Int,IntKind.wrap .u64 m=m%18446744073709551616:=fun m=>by simp [IntKind.wrap,IntKind.bits,IntKind.signed]
   simp only [gw]
   rw [e,e]
   congr 2
   omega
  simp only [e3,ah]
  exact go _ rfl
 ·have:IntKind.wrap .u64 n=((n.natAbs:Nat):Int):=by rw [kO (by omega) (by omega)];omega
  rw [this]
  exact go _ rfl
theorem VV {va:Value} {a:Int} {h:ae} {K:Value→ae→Prop} (ha:dR h va a) (hk:∀r h',EX h h'→dR h' r (-a)→K r h'):aj prog 119 [va] h K:=by
 obtain ⟨v,rfl,hv⟩:=ha
 refine f119 ?_
 have e1:bm 105 h (.agg #[B (decide (a<0)),v])=some (pt h.length 0,h++[.arr 105 [B (decide (a<0)),v]]):=rfl
 simp only [ML,e1,aC]
 have l0:af false 1 (h++[.arr 105 [B (decide (a<0)),v]]) (pt h.length 0)=some (B (decide (a<0))):=sV rfl
 have l1:af false 1 (h++[.arr 105 [B (decide (a<0)),v]]) (pt h.length 1)=some v:=sV rfl
 have x1:EX h (h++[.arr 105 [B (decide (a<0)),v]]):=EX.append _ _
 generalize h++[aq.arr 105 [B (decide (a<0)),v]]=h1 at l0 l1 x1⊢
 have e2:aV 105 [(.bool false),(.slice none 0 0)] h1=some (pt h1.length 0,h1++[.arr 105 [(.bool false),(.slice none 0 0)]]):=rfl
 have x2:EX h1 (h1++[aq.arr 105 [(.bool false),(.slice none 0 0)]]):=EX.append _ _
 have g1:(h1++[aq.arr 105 [(.bool false),(.slice none 0 0)]])[h1.length]?=some (.arr 105 [(.bool false),(.slice none 0 0)]):=bn
 simp only [e2,aC]
 generalize h1++[aq.arr 105 [(.bool false),(.slice none 0 0)]]=h2 at x2 g1⊢
 simp only [cn,add_zero,zero_add,ah,EX.load x2 l0,EX.load x2 l1,qV]
 have qC:=hv.mono (x1.trans x2)
 refine se qC ?_
 intro h' x'
 have g':=x'.get g1
 refine wQ g' (hk _ _ (((x1.trans x2).trans x').set x1.1 _) ⟨v,?_,?_⟩)
 ·have:(!decide (a<0)&&decide (0<a.natAbs))=decide (-a<0):=by
   by_cases h0:a<0
   ·rw [a9 h0,aU (show ¬-a<0 by omega)];rfl
   ·by_cases h3:a=0
    ·subst h3;rfl
    ·rw [aU h0,a9 (show 0<a.natAbs by omega),a9 (show -a<0 by omega)];rfl
  rw [this]
 ·have:(-a).natAbs=a.natAbs:=by omega
  rw [this]
  exact (qC.mono x').bL g' _
theorem Ll {va vb:Value} {a b:Int} {h:ae} {K:Value→ae→Prop} (ha:dR h va a) (hb:dR h vb b) (la:a.natAbs<br) (lb:b.natAbs<br) (hk:∀r h',EX h h'→dR h' r (a+b)→K r h'):aj prog 113 [va,vb] h K:=by
 obtain ⟨v,rfl,hv⟩:=ha
 obtain ⟨w,rfl,hw⟩:=hb
 refine f113 ?_
 unfold MG
 refine Gi ?_
 intro h3 x
 have vH:=hv.mono x.ex
 have rJ:=hw.mono x.ex
 simp only [cn,add_zero,zero_add,ah,x.a0,x.a1,x.b0,x.b1,Dn,Bool.false_eq_true,if_false]
 refine At (fun he=>?_) fun bp=>?_
 ·have hs:decide (a<0)=decide (b<0):=by simpa using he
  have dP:(a<0↔b<0):=by simpa using hs
  simp only [true_and]
  refine V1 vH rJ la lb ?_
  intro u h4 x4 hu
  refine ⟨⟨EX.load x4 x.a0,trivial⟩,?_⟩
  refine se hu ?_
  intro h5 x5
  have g':=(x4.trans x5).get x.out
  refine wQ g' (hk _ _ (((x.ex.trans x4).trans x5).set (by omega) _) ⟨u,?_,?_⟩)
  ·have:(decide (a<0)&&decide (0<a.natAbs+b.natAbs))=decide (a+b<0):=by
    by_cases h0:a<0
    ·rw [a9 h0,a9 (show 0<a.natAbs+b.natAbs by omega),a9 (show a+b<0 by omega)];rfl
    ·rw [aU h0,aU (show ¬a+b<0 by omega)];rfl
   rw [this]
  ·have:(a+b).natAbs=a.natAbs+b.natAbs:=by omega
   rw [this]
   exact (hu.mono x5).bL g' _
 ·have hs:decide (a<0)≠decide (b<0):=by simpa using bp
  have dP:¬(a<0↔b<0):=fun h=>hs (decide_eq_decide.2 h)
  refine Fx vH rJ la lb ?_
  simp only [nS,ah,bX]
  refine ⟨fun cK=>?_,fun aD=>?_⟩
  ·have hle:b.natAbs≤a.natAbs:=by
    apply byContradiction
    intro hc
    unfold m8 at cK
    rw [if_pos (by omega)] at cK
    omega
   simp only [x.a0,x.a1,x.b1,ah,true_and]
   refine V4 vH rJ la hle ?_
   intro u h4 x4 hu
   refine ⟨⟨EX.load x4 x.a0,trivial⟩,?_⟩
   refine se hu ?_
   intro h5 x5
   have g':=(x4.trans x5).get x.out
   refine wQ g' (hk _ _ (((x.ex.trans x4).trans x5).set (by omega) _) ⟨u,?_,?_⟩)
   ·have:(decide (a<0)&&decide (0<a.natAbs-b.natAbs))=decide (a+b<0):=by
     by_cases h0:a<0
     ·by_cases h6:0<a.natAbs-b.natAbs
      ·rw [a9 h0,a9 h6,a9 (show a+b<0 by omega)];rfl
      ·rw [a9 h0,aU h6,aU (show ¬a+b<0 by omega)];rfl
     ·rw [aU h0,aU (show ¬a+b<0 by omega)];rfl
    rw [this]
   ·have:(a+b).natAbs=a.natAbs-b.natAbs:=by omega
    rw [this]
    exact (hu.mono x5).bL g' _
  ·have hle:a.natAbs≤b.natAbs:=by
    apply byContradiction
    intro hc
    unfold m8 at aD
    rw [if_neg (by omega),if_pos (by omega)] at aD
    omega
   simp only [x.b0,x.a1,x.b1,ah,true_and]
   refine V4 rJ vH lb hle ?_
   intro u h4 x4 hu
   refine ⟨⟨EX.load x4 x.b0,trivial⟩,?_⟩
   refine se hu ?_
   intro h5 x5
   have g':=(x4.trans x5).get x.out
   refine wQ g' (hk _ _ (((x.ex.trans x4).trans x5).set (by omega) _) ⟨u,?_,?_⟩)
   ·have:(decide (b<0)&&decide (0<b.natAbs-a.natAbs))=decide (a+b<0):=by
     by_cases h0:b<0
     ·by_cases h6:0<b.natAbs-a.natAbs
      ·rw [a9 h0,a9 h6,a9 (show a+b<0 by omega)];rfl
      ·rw [a9 h0,aU h6,aU (show ¬a+b<0 by omega)];rfl
     ·rw [aU h0,aU (show ¬a+b<0 by omega)];rfl
    rw [this]
   ·have:(a+b).natAbs=b.natAbs-a.natAbs:=by omega
    rw [this]
    exact (hu.mono x5).bL g' _
theorem amw {va vb:Value} {a b:Int} {h:ae} {K:Value→ae→Prop} (ha:dR h va a) (hb:dR h vb b) (la:a.natAbs<br) (lb:b.natAbs<br) (hk:∀r h',EX h h'→dR h' r (a-b)→K r h'):aj prog 127 [va,vb] h K:=by
 have oa:=ha
 have oO:=hb
 obtain ⟨v,rfl,hv⟩:=ha
 obtain ⟨w,rfl,hw⟩:=hb
 refine f127 ?_
 unfold MT
 refine Gi ?_
 intro h3 x
 simp only [ah,x.a2,x.b2,true_and]
 refine VV (oO.mono x.ex) ?_
 intro r1 h4 x4 i1
 refine ⟨⟨EX.load x4 x.a2,trivial⟩,?_⟩
 refine Ll (oa.mono (x.ex.trans x4)) i1 la (by rw [Int.natAbs_neg];exact lb) ?_
 intro r2 h5 x5 i2
 have g':=(x4.trans x5).get x.out
 obtain ⟨u,rfl,hu⟩:=id i2
 refine wQ g' (hk _ _ (((x.ex.trans x4).trans x5).set (by omega) _) ?_)
 rw [Int.sub_eq_add_neg]
 exact i2.bL g' _
theorem tu {va vb:Value} {a b:Int} {h:ae} {K:Value→ae→Prop} (ha:dR h va a) (hb:dR h vb b) (la:a.natAbs<br) (lb:b.natAbs<br) (hk:∀r h',EX h h'→dR h' r (a*b)→K r h'):aj prog 107 [va,vb] h K:=by
 obtain ⟨v,rfl,hv⟩:=ha
 obtain ⟨w,rfl,hw⟩:=hb
 refine f107 ?_
 unfold MA
 refine Gi ?_
 intro h3 x
 have vH:=hv.mono x.ex
 have rJ:=hw.mono x.ex
 simp only [cn,add_zero,zero_add,ah,x.a0,x.a1,x.b0,x.b1,Dn,if_true,true_and]
 refine VY vH rJ la lb ?_
 intro u h4 x4 hu
 refine ⟨⟨EX.load x4 x.a0,EX.load x4 x.b0,trivial⟩,?_⟩
 refine se hu ?_
 intro h5 x5
 have g':=(x4.trans x5).get x.out
 refine wQ g' (hk _ _ (((x.ex.trans x4).trans x5).set (by omega) _) ⟨u,?_,?_⟩)
 ·have:((!(decide (a<0)==decide (b<0)))&&decide (0<a.natAbs*b.natAbs))=decide (a*b<0):=by
   rcases Int.lt_trichotomy a 0 with h1 | h1 | h1
   ·rcases Int.lt_trichotomy b 0 with h2 | h2 | h2
    ·have:=Int.mul_pos_of_neg_of_neg h1 h2
     rw [a9 h1,a9 h2,aU (show ¬a*b<0 by omega)];rfl
    ·subst h2;simp
    ·have:=Int.mul_neg_of_neg_of_pos h1 h2
     have h3:0<a.natAbs*b.natAbs:=Nat.mul_pos (by omega) (by omega)
     rw [a9 h1,aU (show ¬b<0 by omega),a9 h3,a9 this];rfl
   ·subst h1;simp
   ·rcases Int.lt_trichotomy b 0 with h2 | h2 | h2
    ·have:=Int.mul_neg_of_pos_of_neg h1 h2
     have h3:0<a.natAbs*b.natAbs:=Nat.mul_pos (by omega) (by omega)
     rw [aU (show ¬a<0 by omega),a9 h2,a9 h3,a9 this];rfl
    ·subst h2;simp
    ·have:=Int.mul_pos h1 h2
     rw [aU (show ¬a<0 by omega),aU (show ¬b<0 by omega),aU (show ¬a*b<0 by omega)];rfl
  rw [this]
 ·rw [Int.natAbs_mul]
  exact (hu.mono x5).bL g' _
end
section
theorem KE {r:Nat} (hr:r<4294967296):ai .shl (.int .u64 (r:Int)) (.int .u64 32)=some (.int .u64 ((r*4294967296:Nat):Int)):=by
 simp only [ai,qG]
 rw [if_neg (by omega)]
 have:(min (32:Int).toNat IntKind.u64.bits)=32:=rfl
 rw [this]
 have e2:(2:Int)^32=4294967296:=by decide
 rw [e2,kO (by omega) (by omega)]
 congr 2
theorem JB {r x:Nat} (hr:r<4294967296) (hx:x<4294967296):ai .or (.int .u64 ((r*4294967296:Nat):Int)) (.int .u64 (x:Int))=some (.int .u64 ((r*4294967296+x:Nat):Int)):=by
 have e:(BitVec.ofInt IntKind.u64.bits ((r*4294967296:Nat):Int) ||| BitVec.ofInt IntKind.u64.bits (x:Int)).toNat=r*4294967296+x:=by
  show (BitVec.ofInt 64 ((r*4294967296:Nat):Int) ||| BitVec.ofInt 64 (x:Int)).toNat=_
  rw [BitVec.ofInt_natCast,BitVec.ofInt_natCast,BitVec.toNat_or,BitVec.toNat_ofNat,BitVec.toNat_ofNat,Nat.mod_eq_of_lt (by omega),Nat.mod_eq_of_lt (by omega)]
  have:=Nat.two_pow_add_eq_or_of_lt (i:=32) (b:=x) (by omega) r
  rw [Nat.mul_comm r]
  exact this.symm
 simp only [ai,hI,if_true]
 rw [e,kO (by omega) (by omega)]
theorem alh {a b:Nat} (hb:b≠0) (ha:a<18446744073709551616):ai .quo (.int .u64 (a:Int)) (.int .u64 (b:Int))=some (.int .u64 ((a / b:Nat):Int)):=by
 have h:¬((b:Int)=0):=by omega
 have h2:a / b≤a:=Nat.div_le_self _ _
 simp only [ai,hI,if_true,if_neg h]
 have e:(a:Int).tdiv (b:Int)=((a / b:Nat):Int):=rfl
 rw [e]
 generalize a / b=q at*
 rw [kO (by omega) (by omega)]
theorem VU {va:Value} {a w:Nat} {h:ae} {K:Value→ae→Prop} (ha:dD h va a) (la:a<br) (w0:0<w) (wW:w<4294967296) (hk:∀v h',EX h h'→dD h' v (a / w)→K (.tuple #[v,.int .u32 ((a%w:Nat):Int)]) h'):
  aj prog 114 [va,.int .u32 (w:Int)] h K:=by
 obtain ⟨xs,hx,cx,rfl⟩:=ha
 have l1:=qg cx la
 have hW:(0:Nat)<4294967296:=by decide
 refine f114 ?_
 have e1:IntKind.wrap .i64 ((xs.length:Int)-1)=(xs.length:Int)-1:=by rw [wrap64 (by omega) (by omega)]
 simp only [MH,hx.len,ah,zN (show xs.length≤1000 by omega),aC,gq,e1]
 refine dL (σ:=Nat×Nat×List Nat) (fun p=>[.int .u64 (p.1:Int),I ((p.2.1:Int)-1)]) (fun p=>hd h p.2.2)
  (fun p=>p.2.1≤xs.length∧p.1<w∧p.2.2.length=xs.length∧cd 4294967296 p.2.2∧val 4294967296 (xs.drop p.2.1)=w*val 4294967296 (p.2.2.drop p.2.1)+p.1) (fun p=>p.2.1)
  (0,xs.length,replicate xs.length 0) rfl rfl ⟨le_refl _,w0,by simp,cd.wx hW _,by simp [val]⟩ ?_
 rintro ⟨r,i,os⟩ ⟨hi,hr,gO,fe,bT⟩ L hL
 simp only at hi hr gO fe bT hL⊢
 rw [azJ]
 have bR:=hx.mono (kC h os)
 simp only [nS,ah,bX]
 refine ⟨fun cK=>?_,fun aD=>?_⟩
 ·obtain ⟨j,rfl⟩:∃j,i=j+1:=⟨i-1,by omega⟩
  have ej:(((j+1:Nat):Int)-1)=(j:Int):=by omega
  rw [ej]
  obtain ⟨ia,a1,a2⟩:=bR.get (j:=j) (by omega)
  have gZ:xs[j]'(by omega)<4294967296:=cx.1 _ (getElem_mem _)
  have hdx:xs.drop j=xs[j]'(by omega)::xs.drop (j+1):=drop_eq_getElem_cons (by omega)
  generalize xs[j]'(by omega)=x at a2 gZ hdx
  simp only [KE (show r<4294967296 by omega),ah,a1,a2,jN]
  rw [kO (n:=(x:Int)) (by omega) (by omega)]
  simp only [JB (show r<4294967296 by omega) gZ,ah]
  rw [kO (n:=(w:Int)) (by omega) (by omega)]
  have ht:r*4294967296+x<w*4294967296:=by omega
  have hq:(r*4294967296+x) / w<4294967296:=(Nat.div_lt_iff_lt_mul w0).2 (by omega)
  have hm:=mod_lt (r*4294967296+x) w0
  have lG:=Nat.div_add_mod (r*4294967296+x) w
  rw [alh (by omega) (by omega),Aa _ _ _ (by omega)]
  generalize (r*4294967296+x) / w=q at*
  generalize (r*4294967296+x)%w=m at*
  simp only [ah,jN]
  rw [oA (n:=(q:Int)) (by omega) (by omega),mL (show j<xs.length by omega)]
  simp only [ah]
  rw [u7 _ (by omega)]
  simp only [aC,gq,ah,true_and]
  rw [wrap64 (n:=(j:Int)-1) (by omega) (by omega)]
  refine hL (m,j,os.set j q) ⟨by show j≤xs.length;omega,hm,by show (os.set _ _).length=_;rw [length_set];exact gO,fe.set hq _,?_⟩ (by show j<j+1;omega)
  show val 4294967296 (xs.drop j)=w*val 4294967296 ((os.set j q).drop j)+m
  have qo:(os.set j q).drop j=q::os.drop (j+1):=by
   rw [drop_eq_getElem_cons (by rw [length_set];omega),List.getElem_set_self,List.drop_set_of_lt (by omega)]
  rw [hdx,qo]
  simp only [val]
  rw [bT]
  generalize val 4294967296 (os.drop (j+1))=Q at*
  generalize (4294967296:Nat)=W at*
  clear hL hx bR a1 a2 bT
  grind
 ·have:i=0:=by omega
  subst this
  rw [drop_zero,drop_zero] at bT
  rw [azI]
  have e:sl 177 h.length 0 xs.length=sl 177 h.length 0 os.length:=by rw [gO]
  rw [e]
  refine sf (yG h _) fe (by omega) ?_
  intro v' hm
  simp only [jN,ah]
  rw [oA (n:=(r:Int)) (by omega) (by omega)]
  have h1:val 4294967296 xs / w=val 4294967296 os:=by
   rw [bT,Nat.mul_add_div w0,Nat.div_eq_of_lt hr,add_zero]
  have h2:val 4294967296 xs%w=r:=by
   rw [bT,Nat.mul_add_mod,Nat.mod_eq_of_lt hr]
  have:=hk v' _ (kC h os) (by rw [h1];exact hm)
  rw [h2] at this
  exact this
theorem ams {h:ae} {id:Nat} {xs:List UInt8} {K:Value→ae→Prop} (bU:h[id]?=some (.arr 5 (xs.map cv))) (hn:xs.length≤100000) (hk:K (.tuple #[]) (hb h id xs.reverse)):aj prog 115 [sl 5 id 0 xs.length] h K:=by
 have iG:=(bK bU).1
 have e0:h=hb h id xs:=by
  apply List.ext_getElem?
  intro j
  by_cases hj:id=j
  ·subst hj;rw [Is iG,bU]
  ·rw [getElem?_set_ne hj]
 refine f115 ?_
 have e1:bj (sl 5 id 0 xs.length)=some (I xs.length):=rfl
 have e2:IntKind.wrap .i64 ((xs.length:Int)-1)=(xs.length:Int)-1:=by rw [wrap64 (by omega) (by omega)]
 simp only [MI,e1,ah,gq,e2]
 refine dL (σ:=Nat×List UInt8) (fun p=>[I p.1,I ((xs.length:Int)-1-p.1)]) (fun p=>hb h id p.2) (fun p=>p.1≤xs.length∧p.2.length=xs.length∧∀k (hk:k<p.2.length) (sI:k<xs.length),p.2[k]=if k<p.1∨xs.length-p.1≤k then xs[xs.length-1-k]'(by omega) else xs[k]) (fun p=>xs.length-p.1)
  (0,xs) (by simp) e0.symm ⟨by simp,rfl,fun k h1 h2=>by simp;intro h3;omega⟩ ?_
 rintro ⟨i,ys⟩ ⟨hi,hl,hy⟩ L hL
 simp only at hi hl hy hL⊢
 rw [azK]
 simp only [cW,ah,bX]
 refine ⟨fun aD=>?_,fun cK=>?_⟩
 ·obtain ⟨j,hj⟩:∃j:Nat,(xs.length:Int)-1-i=j:=⟨xs.length-1-i,by omega⟩
  rw [hj]
  have vh:j=xs.length-1-i:=by omega
  have a1:=mL (id:=id) (e:=5) (n:=xs.length) (j:=j) (by omega)
  have a2:=mL (id:=id) (e:=5) (n:=xs.length) (j:=i) (by omega)
  have g1:ys[j]?=some (ys[j]'(by omega)):=List.getElem?_eq_getElem (by omega)
  have g2:ys[i]?=some (ys[i]'(by omega)):=List.getElem?_eq_getElem (by omega)
  simp only [a1,a2,ah,ac0 iG g1,ac0 iG g2,true_and]
  rw [ac1 iG _ (by omega)]
  simp only [aC]
  rw [ac1 iG _ (by rw [length_set];omega)]
  simp only [aC,cQ,gq,ah,fA i (by omega)]
  have ej:IntKind.wrap .i64 ((j:Int)-1)=(xs.length:Int)-1-((i+1:Nat):Int):=by rw [wrap64 (by omega) (by omega)];omega
  rw [ej]
  refine hL (i+1,(ys.set i (ys[j]'(by omega))).set j (ys[i]'(by omega))) ⟨by show i+1≤xs.length;omega,by simp [hl],?_⟩ (by show xs.length-(i+1)<xs.length-i;omega)
  intro k mR sI
  show ((ys.set i (ys[j]'(by omega))).set j (ys[i]'(by omega)))[k]=if k<i+1∨xs.length-(i+1)≤k then xs[xs.length-1-k]'(by omega) else xs[k]
  have hyi:=hy i (by omega) (by omega)
  have hyj:=hy j (by omega) (by omega)
  rw [if_neg (by omega)] at hyi hyj
  by_cases rz:j=k
  ·subst rz
   rw [List.getElem_set_self,if_pos (by omega),hyi]
   congr 1;omega
  ·rw [getElem_set_ne rz]
   by_cases hki:i=k
   ·subst hki
    rw [List.getElem_set_self,if_pos (by omega),hyj]
    congr 1
   ·rw [getElem_set_ne hki,hy k (by omega) sI]
    by_cases hc:k<i∨xs.length-i≤k
    ·rw [if_pos hc,if_pos (by omega)]
    ·rw [if_neg hc,if_neg (by omega)]
 ·have:ys=xs.reverse:=by
   apply List.ext_getElem (by simp [hl])
   intro k h1 h2
   rw [hy k h1 (by omega),List.getElem_reverse]
   split
   ·rfl
   ·congr 1;omega
  rw [this]
  exact hk
def tJ (n:Nat):List Nat:=if h:n=0 then [] else n%10::tJ (n / 10)
termination_by n
decreasing_by omega
theorem HI (n:Nat):dw 10 (tJ n)∧val 10 (tJ n)=n:=by
 induction n using Nat.strongRecOn with
 | ind n ih=>
  rw [tJ]
  by_cases h:n=0
  ·subst h;exact ⟨dw.nil 10,rfl⟩
  ·rw [dif_neg h]
   obtain ⟨h1,h2⟩:=ih (n / 10) (by omega)
   refine ⟨⟨?_,?_⟩,?_⟩
   ·intro x hx
    rcases List.mem_cons.1 hx with rfl | hx
    ·omega
    ·exact h1.1 x hx
   ·cases hd:tJ (n / 10) with
    | nil=>
     rw [hd] at h2
     simp [val] at h2
     simp
     omega
    | cons y ys=>
     rw [List.getLast?_cons_cons,←hd]
     exact h1.2
   ·simp only [val,h2];omega
def iR (d:Nat):UInt8:=UInt8.ofNat (48+d)
theorem uQ {d:Nat} (h:d<10):(iR d).toNat=48+d:=by simp [iR,UInt8.toNat_ofNat'];omega
def cE (n:Nat):List UInt8:=if n=0 then [48] else ((tJ n).map iR).reverse
def Jc:Nat:=1000
theorem Yp:br≤10^Jc:=by decide+kernel
end
section
theorem Di {d:Nat} (h:d<10):(.int .u8 ((48+d:Nat):Int):Value)=cv (iR d):=by rw [cv,uQ h]
theorem aze (k:Nat):0<10^k:=pow_pos (by decide)
theorem ae0 {b n m:Nat} (hm:0<m) (h:10^b*m≤n) (hn:n<br):b<1000:=by
 have h1:10^b≤10^b*m:=Nat.le_mul_of_pos_right _ hm
 show b<Jc
 have h2:10^b<10^Jc:=Nat.lt_of_le_of_lt (Nat.le_trans h1 h) (Nat.lt_of_lt_of_le hn Yp)
 exact (Nat.pow_lt_pow_iff_right (by decide)).1 h2
theorem apV {h0 hx:ae} {v z:Value} {x:UInt8} {bs:List UInt8} {K:Value→ae→Prop} (o:fE h0.length hx 5 v (bs.map cv)) (hex:EX h0 hx) (hl:bs.length≤100000)
  (hk:∀v' bR,EX h0 bR→fE h0.length bR 5 v' ((bs++[x]).map cv)→(∀q n,dD hx q n→dD bR q n)→K v' bR):
  OH (dH 5 1 [z] hx [(0,1,cv x)]) fun a h2=>OH (dT 5 1 1 h2 v a) K:=by
 refine Ge o (by simp;omega) (by simp [maxLen];omega) rfl rfl ?_
 intro hA bR _ hlen IF jO
 simp only [aC]
 refine hk _ _ ⟨by have:=hex.1;omega,fun j hj=>?_⟩ (.inr ⟨hx.length+1,by have:=hex.1;omega,by simp,by simpa using jO⟩) ?_
 ·rw [IF j (by have:=hex.1;omega) fun n hv=>?_]
  ·exact hex.2 j hj
  ·have:=(o.lt hv).1;omega
 ·rintro q n ⟨xs,d,c,hv⟩
  refine ⟨xs,?_,c,hv⟩
  rcases d with d | ⟨i,h1,h2⟩
  ·exact .inl d
  ·refine .inr ⟨i,h1,?_⟩
   rcases h2 with h2 | ⟨r,h2⟩
   ·exact .inl h2
   ·cases xs with
    | nil=>exact .inl rfl
    | cons y ys=>
     right
     refine ⟨r,?_⟩
     have bC:i<hx.length:=by
      apply byContradiction
      intro hc
      unfold aR at h2
      rw [List.getElem?_eq_none (by omega)] at h2
      simp at h2
     unfold aR at h2⊢
     rw [IF i bC fun n zj=>?_]
     ·exact h2
     ·have hg:=(o.lt zj).2.2
      rw [hg] at h2
      cases bs with
      | nil=>simp at h2
      | cons b bs=>simp [cv] at h2
theorem FB {va:Value} {n:Nat} {h:ae} {K:Value→ae→Prop} (ha:dD h va n) (la:n<br) (hk:∀h',EX h h'→K (S (cE n)) h'):aj prog 89 [va] h K:=by
 refine f89 ?_
 obtain ⟨l0,e0,e1⟩:=ha.pN
 simp only [NU,e0,ah,jA,bX]
 refine ⟨fun hz=>?_,fun hnz=>?_⟩
 ·have:n=0:=by omega
  subst this
  exact hk h (EX.refl h)
 ·have oh:0<n:=by omega
  refine dL (σ:=Value×Nat×Value×List Nat×ae) (fun p=>[p.1,p.2.2.1]) (fun p=>p.2.2.2.2)
   (fun p=>EX h p.2.2.2.2∧dD p.2.2.2.2 p.1 p.2.1∧fE h.length p.2.2.2.2 5 p.2.2.1 ((p.2.2.2.1.map iR).map cv)∧cd 10 p.2.2.2.1∧val 10 p.2.2.2.1+10^p.2.2.2.1.length*p.2.1=n∧(p.2.1=0→dw 10 p.2.2.2.1)) (fun p=>p.2.1)
   (va,n,.slice none 0 0,[],h) rfl rfl ⟨EX.refl h,ha,.inl ⟨rfl,rfl⟩,fun x hx=>by simp at hx,by simp [val],fun h0=>by have h0:n=0:=h0;omega⟩ ?_
  rintro ⟨v,m,bv,b,hx⟩ ⟨hex,hm,iT,fe,bT,yD⟩ L hL
  simp only at hex hm iT fe bT yD hL⊢
  rw [aCh]
  obtain ⟨l,f0,f1⟩:=hm.pN
  simp only [f0,ah,fN,bX]
  refine ⟨fun aD=>?_,fun cK=>?_⟩
  ·have qq:0<m:=by omega
   have hmb:m<br:=by
    refine Nat.lt_of_le_of_lt ?_ la
    have:m≤10^b.length*m:=Nat.le_mul_of_pos_left _ (aze _)
    omega
   have It:=ae0 (b:=b.length) qq (by omega) la
   refine VU hm hmb (w:=1000000000) (by decide) (by decide) ?_
   intro q h1 x1 hq
   simp only [eQ,ft,fv,ah]
   have awc:fE h.length h1 5 bv ((b.map iR).map cv):=iT.dY fun d k hv hd=>by
    have:=(iT.lt hv).2.1
    exact x1.2 d this
   have awg:m / 1000000000<m:=Nat.div_lt_self qq (by decide)
   have lG:=Nat.div_add_mod m 1000000000
   have Bx:=mod_lt m (show 1000000000>0 by decide)
   generalize m / 1000000000=qn at*
   generalize m%1000000000=r0 at*
   have hqq:=hq
   refine dL (σ:=Value×List Nat×Nat×Nat×ae) (fun p=>[p.1,.int .u32 (p.2.2.1:Int),I p.2.2.2.1]) (fun p=>p.2.2.2.2)
    (fun p=>EX h p.2.2.2.2∧dD p.2.2.2.2 q qn∧fE h.length p.2.2.2.2 5 p.1 ((p.2.1.map iR).map cv)∧cd 10 p.2.1∧p.2.2.2.1≤9∧p.2.2.1<10^(9-p.2.2.2.1)∧p.2.1.length≤b.length+p.2.2.2.1∧val 10 p.2.1+10^p.2.1.length*(p.2.2.1+10^(9-p.2.2.2.1)*qn)=n∧(qn=0→p.2.2.1=0→dw 10 p.2.1)) (fun p=>9-p.2.2.2.1)
    (bv,b,r0,0,h1) rfl rfl ⟨hex.trans x1,hq,awc,fe,by simp,by simpa using Bx,by simp,?_,?_⟩ ?_
   ·show val 10 b+10^b.length*(r0+10^(9-0)*qn)=n
    have:r0+10^(9-0)*qn=m:=by
     show r0+1000000000*qn=m
     omega
    rw [this];exact bT
   ·intro h1 h2
    have h1:qn=0:=h1
    have h2:r0=0:=h2
    subst h1;subst h2
    omega
   rintro ⟨HF,c,r,i,hy⟩ ⟨Qs,IU,QS,IG,hi,hr,fT,Ea,Qi⟩ L2 hZ
   simp only at Qs IU QS IG hi hr fT Ea Qi hZ⊢
   rw [aCe]
   -- leaving
   have stop:r=0→(i=9∨qn=0)→J6 prog K HF q L hy:=by
    intro sM rC
    rw [aCf]
    refine ⟨rfl,hL (q,qn,HF,c,hy) ⟨Qs,IU,QS,IG,?_,fun h0=>Qi h0 sM⟩ awg⟩
    show val 10 c+10^c.length*qn=n
    rw [sM,zero_add] at Ea
    rcases rC with h9 | h0
    ·subst h9;simpa using Ea
    ·subst h0;simpa using Ea
   simp only [cW,ah]
   by_cases hi9:i<9
   ·rw [a9 (show (i:Int)<9 by omega)]
    simp only [ald,jt]
    obtain ⟨l2,g0,g1⟩:=IU.pN
    simp only [g0,ah,fN]
    -- one HL more
    have step:(0<qn∨0<r)→aQ (B true)
      (OP (ai .rem (.int .u32 (r:Int)) (.int .u32 (10))) fun dB=>
      OP (ai .add (.int .u32 (48)) dB) fun cP=>
      OP (dh .u8 cP) fun cZ=>
      OH (dH 5 1 [(.int .u8 (0))] hy [(0,1,cZ)]) fun cT h_1=>
      OH (dT 5 1 1 h_1 HF cT) fun fm h_2=>
      OP (ai .quo (.int .u32 (r:Int)) (.int .u32 (10))) fun eJ=>
      OP (ai .add (I i) (.int .i64 (1))) fun dj=>
      True∧L2 [fm,eJ,dj] h_2)
      (J6 prog K HF q L hy):=by
     intro rC
     have hrW:r<4294967296:=Nat.lt_of_lt_of_le hr (Nat.le_trans (Nat.pow_le_pow_right (by decide) (show 9-i≤9 by omega)) (by decide))
     have ed:IntKind.wrap .u32 ((48:Int)+((r%10:Nat):Int))=((48+r%10:Nat):Int):=by rw [oA (by omega) (by omega)];omega
     have auN:ai .quo (.int .u32 (r:Int)) (.int .u32 10)=some (.int .u32 ((r / 10:Nat):Int)):=by
      have sA:¬((10:Int)=0):=by omega
      simp only [ai,hI,if_true,if_neg sA]
      have e:(r:Int).tdiv 10=((r / 10:Nat):Int):=rfl
      rw [e,oA (by omega) (by omega)]
     simp only [dX]
     rw [show (.int .u32 10:Value)=.int .u32 ((10:Nat):Int) from rfl,Aa _ _ _ (by decide)]
     simp only [ah,cQ,ed,jN]
     rw [ama (by omega) (by omega),Di (show r%10<10 by omega)]
     refine apV (x:=iR (r%10)) QS Qs (by simp;omega) ?_
     intro v' bR avH tS IF
     rw [show (.int .u32 ((10:Nat):Int):Value)=.int .u32 10 from rfl,auN]
     simp only [ah,fA i (by omega),true_and]
     have gG:dD bR q qn:=IF q qn IU
     refine hZ (v',c++[r%10],r / 10,i+1,bR) ⟨avH,gG,by simpa using tS,IG.append (fun x hx=>by simp at hx;omega),by show i+1≤9;omega,?_,by show (c++[r%10]).length≤b.length+(i+1);simp;omega,?_,?_⟩ (by show 9-(i+1)<9-i;omega)
     ·show r / 10<10^(9-(i+1))
      rw [show 9-i=(9-(i+1))+1 by omega,pow_succ] at hr
      exact (Nat.div_lt_iff_lt_mul (by decide)).2 hr
     ·show val 10 (c++[r%10])+10^(c++[r%10]).length*(r / 10+10^(9-(i+1))*qn)=n
      rw [nJ,length_append,List.length_singleton,pow_succ]
      rw [show 9-i=(9-(i+1))+1 by omega,pow_succ] at Ea
      have lG:=Nat.div_add_mod r 10
      simp only [val,mul_zero,add_zero]
      generalize r / 10=r1 at*
      generalize r%10=d at*
      generalize 10^c.length=P at*
      generalize 10^(9-(i+1))=Q at*
      generalize val 10 c=V at*
      clear hL hZ hr Qi bT stop
      subst lG
      grind
     ·intro h1 h2
      have h2:r / 10=0:=h2
      refine Hv (IG.append (fun x hx=>by simp at hx;omega)) ?_
      intro _
      have:0<r:=by rcases rC with h | h;omega;exact h
      simp
      omega
    by_cases Bt:0<qn
    ·rw [a9 (show (0:Int)<(l2:Int) by omega)]
     simp only [Uk,gn,Ki,eW,ah,jt,Kj]
     exact step (.inl Bt)
    ·rw [aU (show ¬(0:Int)<(l2:Int) by omega)]
     simp only [Uk,eB,fN,ah]
     by_cases sM:0<r
     ·rw [a9 (show (0:Int)<(r:Int) by omega)]
      simp only [Ki,jt,dI,ah,Kj,eW]
      exact step (.inr sM)
     ·rw [aU (show ¬(0:Int)<(r:Int) by omega)]
      simp only [Ki,jt,dI,ah,Kj,eW,dV]
      exact stop (by omega) (.inr (by omega))
   ·have:i=9:=by omega
    subst this
    rw [aU (show ¬((9:Nat):Int)<9 by omega)]
    simp only [ald,lj,Uk,As,Ki,Kj,dI,ah,dV]
    exact stop (by simpa using hr) (.inl rfl)
  ·have qq:m=0:=by omega
   subst qq
   have hc:=yD rfl
   rw [mul_zero,add_zero] at bT
   have hb:b=tJ n:=dw.unique (by decide) hc (HI n).1 (by rw [bT,(HI n).2])
   have ac4:b≠[]:=by rintro rfl;simp [val] at bT;omega
   have It:b.length≤2000:=by
    have h1:=dw.low (by decide) hc ac4
    have h2:=ae0 (b:=b.length-1) (m:=1) (n:=n) (by decide) (by omega) la
    omega
   rw [aCg]
   obtain ⟨id,iG,hv,hg⟩:∃id,h.length≤id∧bv=sl 5 id 0 (b.map iR).length∧hx[id]?=some (.arr 5 ((b.map iR).map cv)):=by
    rcases iT with ⟨_,h0⟩ | ⟨id,h1,h2,h3⟩
    ·exact absurd (by simpa using h0) ac4
    ·exact ⟨id,h1,by simpa using h2,h3⟩
   rw [hv]
   refine ams hg (by simp;omega) ?_
   have avP:=(bK hg).1
   have b2:rL (Go.Proofs.YtelmdbpaoifmoaaGreat.hb hx id (b.map iR).reverse) (sl 5 id 0 (b.map iR).length)=some (S (b.map iR).reverse):=by
    refine yb (b:=0) (e:=5) (l:=(b.map iR).reverse) (.inr ⟨id,Nat.zero_le _,by simp,?_⟩)
    rw [Is avP]
   simp only [b2,ah]
   have:(b.map iR).reverse=cE n:=by unfold cE;rw [if_neg (by omega),hb]
   rw [this]
   exact hk _ (hex.set iG _)
end
section
variable (P : Program) (K : VK)
noncomputable section
variable (v0 : Value) (h : ae)
def agA:=bz prog 20 [[],[]]
@[irreducible] def ZJ:=bI agA
theorem k20:agA=some (7,ZJ,[.cell true 4 2]):=by kernel_rfl
def Nb:Prop:=
 OH (aV 37 [(.bool false),(.slice none 0 0),(.bool false),(.slice none 0 0)] h) fun x2 z1=>
 aj P 55 [v0] z1 fun x4 z2=>
 aj P 55 [(.int .i64 (1))] z2 fun x5 z3=>
 OP (dc [(.bool false),(.slice none 0 0),(.bool false),(.slice none 0 0)] [(0,2,x4),(2,2,x5)]) fun x6=>
 OH (aE 4 z3 x2 x6) fun _ z4=>
 OP (af true 4 z4 x2) fun r0=>
 K r0 z4
theorem e20:ak P ZJ (aS [.cell true 4 2] K) (bt [v0]) h=Nb P K v0 h:=by kernel_rfl
theorem f20 {K:VK} {v0:Value} {h:ae} (H:Nb prog K v0 h):aj prog 20 [v0] h K:=
 bJ k20 (bH rfl) ((e20 prog K v0 h).mpr H)
end
noncomputable section
variable (a0 b1 : Value) (h : ae)
def agF:=bz prog 26 [[],[]]
@[irreducible] def ZO:=bI agF
theorem k26:agF=some (22,ZO,[.cell true 4 4]):=by kernel_rfl
def Nh:Prop:=
 OH (bm 37 h a0) fun a2 z1=>
 OH (bm 37 z1 b1) fun b3 z2=>
 OH (aV 37 [(.bool false),(.slice none 0 0),(.bool false),(.slice none 0 0)] z2) fun x4 z3=>
 OP (aL 0 a2) fun x5=>
 OP (af true 2 z3 x5) fun x6=>
 (True)∧
 OP (aL 2 b3) fun x7=>
 OP (af true 2 z3 x7) fun x8=>
 (True)∧
 aj P 71 [x6,x8] z3 fun x9 z4=>
 (True)∧
 OP (aL 0 b3) fun aM=>
 OP (af true 2 z4 aM) fun au=>
 (af true 2 z3 aM=some au∧True)∧
 OP (aL 2 a2) fun aB=>
 OP (af true 2 z4 aB) fun aA=>
 (af true 2 z3 aB=some aA∧True)∧
 aj P 71 [au,aA] z4 fun aH z5=>
 (True)∧
 aj P 70 [x9,aH] z5 fun ba z6=>
 (True)∧
 OP (aL 2 a2) fun bk=>
 OP (af true 2 z6 bk) fun bM=>
 (af true 2 z3 bk=some bM∧af true 2 z4 bk=some bM∧af true 2 z5 bk=some bM∧True)∧
 OP (aL 2 b3) fun aP=>
 OP (af true 2 z6 aP) fun aO=>
 (af true 2 z3 aP=some aO∧af true 2 z4 aP=some aO∧af true 2 z5 aP=some aO∧True)∧
 aj P 71 [bM,aO] z6 fun aW z7=>
 (True)∧
 OP (dc [(.bool false),(.slice none 0 0),(.bool false),(.slice none 0 0)] [(0,2,ba),(2,2,aW)]) fun aY=>
 OH (aE 4 z7 x4 aY) fun _ z8=>
 (True)∧
 OP (af true 4 z8 x4) fun r0=>
 K r0 z8
theorem e26:ak P ZO (aS [.cell true 4 4] K) (bt [a0,b1]) h=Nh P K a0 b1 h:=by kernel_rfl
theorem f26 {K:VK} {a0 b1:Value} {h:ae} (H:Nh prog K a0 b1 h):aj prog 26 [a0,b1] h K:=
 bJ k26 (bH rfl) ((e26 prog K a0 b1 h).mpr H)
end
noncomputable section
variable (a0 b1 : Value) (h : ae)
def agG:=bz prog 27 [[],[]]
@[irreducible] def ZP:=bI agG
theorem k27:agG=some (16,ZP,[.cell true 4 4]):=by kernel_rfl
def Ni:Prop:=
 OH (bm 37 h a0) fun a2 z1=>
 OH (bm 37 z1 b1) fun b3 z2=>
 OH (aV 37 [(.bool false),(.slice none 0 0),(.bool false),(.slice none 0 0)] z2) fun x4 z3=>
 OP (aL 0 a2) fun x5=>
 OP (af true 2 z3 x5) fun x6=>
 (True)∧
 OP (aL 0 b3) fun x7=>
 OP (af true 2 z3 x7) fun x8=>
 (True)∧
 aj P 71 [x6,x8] z3 fun x9 z4=>
 (True)∧
 OP (aL 2 a2) fun aM=>
 OP (af true 2 z4 aM) fun au=>
 (af true 2 z3 aM=some au∧True)∧
 OP (aL 2 b3) fun aB=>
 OP (af true 2 z4 aB) fun aA=>
 (af true 2 z3 aB=some aA∧True)∧
 aj P 71 [au,aA] z4 fun aH z5=>
 (True)∧
 OP (dc [(.bool false),(.slice none 0 0),(.bool false),(.slice none 0 0)] [(0,2,x9),(2,2,aH)]) fun ba=>
 OH (aE 4 z5 x4 ba) fun _ z6=>
 (True)∧
 OP (af true 4 z6 x4) fun r0=>
 K r0 z6
theorem e27:ak P ZP (aS [.cell true 4 4] K) (bt [a0,b1]) h=Ni P K a0 b1 h:=by kernel_rfl
theorem f27 {K:VK} {a0 b1:Value} {h:ae} (H:Ni prog K a0 b1 h):aj prog 27 [a0,b1] h K:=
 bJ k27 (bH rfl) ((e27 prog K a0 b1 h).mpr H)
end
noncomputable section
variable (x0 : Value) (h : ae)
def agH:=bz prog 28 [[],[],[]]
@[irreducible] def ZQ:=bI agH
theorem k28:agH=some (11,ZQ,[.cell true 4 2]):=by kernel_rfl
def Nj:Prop:=
 OH (aV 37 [(.bool false),(.slice none 0 0),(.bool false),(.slice none 0 0)] h) fun x2 z1=>
 aj P 67 [x0] z1 fun x7 z2=>
 OP (b9 0 x7) fun x8=>
 OP (b9 1 x7) fun _=>
 OH (aV 37 [(.bool false),(.slice none 0 0),(.bool false),(.slice none 0 0)] z2) fun q3 z3=>
 OH (aE 4 z3 q3 x8) fun _ z4=>
 OP (af true 4 z4 q3) fun aM=>
 OH (aE 4 z4 x2 aM) fun _ z5=>
 OP (af true 4 z5 x2) fun r0=>
 K r0 z5
theorem e28:ak P ZQ (aS [.cell true 4 2] K) (bt [x0]) h=Nj P K x0 h:=by kernel_rfl
theorem f28 {K:VK} {x0:Value} {h:ae} (H:Nj prog K x0 h):aj prog 28 [x0] h K:=
 bJ k28 (bH rfl) ((e28 prog K x0 h).mpr H)
end
noncomputable section
variable (a0 : Value) (h : ae)
def agM:=bz prog 48 [[],[],[],[],[],[],[],[]]
@[irreducible] def Z7:=bI agM
theorem k48:agM=some (9,Z7,[.tmp 2]):=by kernel_rfl
def No (_:Program) (K:VK) (a0:Value) (h:ae):Prop:=
 OH (bm 35 h a0) fun a1 z1=>
 OP (aL 1 a1) fun x3=>
 OP (af false 1 z1 x3) fun x4=>
 OP (bj x4) fun x5=>
 OP (ai .eql x5 (.int .i64 (0))) fun x6=>
 aQ x6
 (K (.int .i64 (0)) z1)
 (OP (aL 0 a1) fun x7=>
 OP (af false 1 z1 x7) fun x8=>
 aQ x8
 (K (.int .i64 (-1)) z1)
 (K (.int .i64 (1)) z1))
theorem e48:ak P Z7 (aS [.tmp 2] K) (bt [a0]) h=No P K a0 h:=by kernel_rfl
theorem f48 {K:VK} {a0:Value} {h:ae} (H:No prog K a0 h):aj prog 48 [a0] h K:=
 bJ k48 (bH rfl) ((e48 prog K a0 h).mpr H)
end
noncomputable section
variable (v0 x2 z3 d4 : Value) (L1 : LQ) (xs : List Value) (h : ae)
def agP:=bz prog 55 [[],[],[2,3],[0],[],[],[],[],[0,2,3,4],[],[2,3],[]]
@[irreducible] def GX:=bI agP
@[irreducible] def aac:=GX.r.r.l.l.l
@[irreducible] def aab:=GX.r.r.r
@[irreducible] def arJ:=aac.r.l.r.r.l
@[irreducible] def arK:=aab.l
theorem k55:agP=some (25,GX,[.cell true 2 2]):=by kernel_rfl
def L3 (_P:Program) (K:VK):ar:=aS [.cell true 2 2] K
def aor:ar:=aF (ak P aab (L3 P K)) (L3 P K)
def aos:ar:=bN 0 (aor P K)
def Xd:ar:=aF (fun f' aT=>(([2,3]:List Nat).map f':List Value)=[x2,z3]∧L1 (([0]:List Nat).map f') aT) (aos P K)
def aot:ar:=bN 1 (Xd P K x2 z3 L1)
def aiQ:Prop:=ay (ak P aac (Xd P K x2 z3 L1)) ([2,3]++[0]) ([x2,z3]++xs) h
def JV:Prop:=ay (ak P arJ (aot P K x2 z3 L1)) [0,2,3,4] [v0,x2,z3,d4] h
def aiP:Prop:=ay (ak P arK (L3 P K)) [2,3] [x2,z3] h
theorem aAR:JV P K v0 x2 z3 d4 L1 h=
 (OP (aL 1 z3) fun bk=>
 OP (af false 1 h bk) fun bM=>
 OH (dH 3 1 [(.int .i64 (0))] h [(0,1,d4)]) fun aO h_1=>
 OH (dT 3 1 8 h_1 bM aO) fun aW h_2=>
 OP (aL 1 z3) fun aY=>
 OH (aE 1 h_2 aY aW) fun _ h_3=>
 OP (ai .quo v0 (.int .i64 (10000))) fun ck=>
 ([x2,z3]:List Value)=[x2,z3]∧L1 [ck] h_3):=az (by kernel_rfl)
theorem aAT (x2 z3:Value) (L1:LQ) (v0:Value) (h:ae):aiQ P K x2 z3 L1 [v0] h=
 (OP (ai .neq v0 (.int .i64 (0))) fun x9=>
 aQ x9
 (OP (ai .rem v0 (.int .i64 (10000))) fun au=>
 OP (ai .lss au (.int .i64 (0))) fun aA=>
 aQ aA
 (OP (gw .neg au) fun ba=>
 JV P K v0 x2 z3 ba L1 h)
 (JV P K v0 x2 z3 au L1 h))
 (aiP P K x2 z3 h)):=az (by kernel_rfl)
theorem aAS:aiP P K x2 z3 h=
 (OP (af true 2 h z3) fun bu=>
 OH (aE 2 h x2 bu) fun _ h_1=>
 OP (af true 2 h_1 x2) fun r0=>
 K r0 h_1):=az (by kernel_rfl)
def Nr:Prop:=
 OH (aV 35 [(.bool false),(.slice none 0 0)] h) fun x2 h_1=>
 OP (ai .lss v0 (.int .i64 (0))) fun x6=>
 OP (dc [(.bool false),(.slice none 0 0)] [(0,1,x6)]) fun x7=>
 OH (aV 35 [(.bool false),(.slice none 0 0)] h_1) fun z3 h_2=>
 OH (aE 2 h_2 z3 x7) fun _ h_3=>
 cM [v0] h_3 fun L1 xs hx=>
 aiQ P K x2 z3 L1 xs hx
theorem e55:ak P GX (aS [.cell true 2 2] K) (bt [v0]) h=Nr P K v0 h:=by kernel_rfl
theorem f55 {K:VK} {v0:Value} {h:ae} (H:Nr prog K v0 h):aj prog 55 [v0] h K:=
 bJ k55 (bH rfl) ((e55 prog K v0 h).mpr H)
end
noncomputable section
variable (x0 x2 s4 x5 x6 i7 n8 x9 d10 aY bu gI gJ nM iZ : Value) (L1 : LQ) (xs : List Value) (h : ae)
def agZ:=bz prog 67 [[],[],[],[],[],[2,4,5,21],[2,4,5,21,24],[],[2,4,5],[],[],[2,4,5],[6,7],[],[],[],[2,4,5,6,7],[2,4,5,6],[],[],[],[],[],[],[],[2,5,8,9,10],[2,5,8,10,82],[2,5,8,10,82,84],[2,5,8,10,82,84,88],[2,5,8,10,82,89],[],[],[],[],[2,8,10],[]]
@[irreducible] def C4:=bI agZ
@[irreducible] def aaE:=C4.r.r.r.l.l.r.l
@[irreducible] def asb:=C4.r.r.r.l.r
@[irreducible] def aaD:=C4.r.r.r.r
@[irreducible] def ar6:=aaE.r.l
@[irreducible] def OR:=aaD.l
@[irreducible] def aax:=OR.r.l.r.l.l
@[irreducible] def aaw:=OR.r.r
@[irreducible] def ar7:=aax.r.r.l
@[irreducible] def aay:=aaw.l
@[irreducible] def G6:=aay.r.r.r.l
@[irreducible] def aaA:=G6.l.l.r.l
@[irreducible] def ar8:=G6.l.r
@[irreducible] def aaz:=G6.r
@[irreducible] def aaB:=aaA.r.l
@[irreducible] def asa:=aaz.r.l
@[irreducible] def aaC:=aaB.r.l
@[irreducible] def ar9:=aaC.r.l
theorem k67:agZ=some (98,C4,[.cell true 4 2,.tmp 3]):=by kernel_rfl
def tz (_P:Program) (K:VK):ar:=aS [.cell true 4 2,.tmp 3] K
def Xo:ar:=aF (ak P aaD (tz P K)) (tz P K)
def Xp:ar:=aF (ak P asb (Xo P K)) (Xo P K)
def aoQ:ar:=aF (ak P aaw (tz P K)) (tz P K)
def aoR:ar:=bN 0 (aoQ P K)
def Xm:ar:=aF (fun f' aT=>(([2,4,5]:List Nat).map f':List Value)=[x2,s4,x5]∧L1 (([6,7]:List Nat).map f') aT) (aoR P K)
def Xn:ar:=aF (ak P aaz (tz P K)) (tz P K)
def FW:ar:=aF (ak P ar8 (Xn P K)) (Xn P K)
def ajb:Prop:=ay (ak P aaE (Xp P K)) [2,4,5,21] [x2,s4,x5,aY] h
def Tq:Prop:=ay (ak P ar6 (Xp P K)) [2,4,5,21,24] [x2,s4,x5,aY,bu] h
def J3:Prop:=ay (ak P OR (tz P K)) [2,4,5] [x2,s4,x5] h
def ai8:Prop:=ay (ak P aax (Xm P K x2 s4 x5 L1)) ([2,4,5]++[6,7]) ([x2,s4,x5]++xs) h
def Ts:Prop:=ay (ak P ar7 (Xm P K x2 s4 x5 L1)) [2,4,5,6,7] [x2,s4,x5,x6,i7] h
def ai9:Prop:=ay (ak P aay (tz P K)) [2,4,5,6] [x2,s4,x5,x6] h
def zW:Prop:=ay (ak P G6 (tz P K)) [2,5,8,9,10] [x2,x5,n8,x9,d10] h
def aja:Prop:=ay (ak P aaA (FW P K)) [2,5,8,10,82] [x2,x5,n8,d10,gI] h
def Tt:Prop:=ay (ak P aaB (FW P K)) [2,5,8,10,82,84] [x2,x5,n8,d10,gI,gJ] h
def Tu:Prop:=ay (ak P aaC (FW P K)) [2,5,8,10,82,84,88] [x2,x5,n8,d10,gI,gJ,nM] h
def EU:Prop:=ay (ak P ar9 (FW P K)) [2,5,8,10,82,89] [x2,x5,n8,d10,gI,iZ] h
def Tv:Prop:=ay (ak P asa (tz P K)) [2,8,10] [x2,n8,d10] h
theorem ak1:Tq P K x2 s4 x5 aY bu h=
 (OP (bP aY bu (.bool false)) fun bY=>
 aQ bY
 (OP (kV s4 (some (.int .i64 (1))) none) fun bW=>
 J3 P K x2 bW (.bool true) h)
 (J3 P K x2 s4 x5 h)):=az (by kernel_rfl)
theorem aBo:ajb P K x2 s4 x5 aY h=
 (cm aY true
 (OP (jP s4 (.int .i64 (0))) fun ck=>
 OP (ai .eql ck (.int .u8 (45))) fun bu=>
 Tq P K x2 s4 x5 aY bu h)
 (Tq P K x2 s4 x5 aY undef h)):=az (by kernel_rfl)
theorem aBk:Ts P K x2 s4 x5 x6 i7 L1 h=
 (OP (ai .sub i7 (.int .i64 (1))) fun cT=>
 ([x2,s4,x5]:List Value)=[x2,s4,x5]∧L1 [x6,cT] h):=az (by kernel_rfl)
theorem aBj (x2 s4 x5:Value) (L1:LQ) (x6 i7:Value) (h:ae):ai8 P K x2 s4 x5 L1 [x6,i7] h=
 (OP (ai .geq i7 (.int .i64 (0))) fun cP=>
 aQ cP
 (OP (jP s4 i7) fun eJ=>
 OP (ai .eql eJ (.int .u8 (47))) fun dU=>
 aQ dU
 (Ts P K x2 s4 x5 i7 i7 L1 h)
 (Ts P K x2 s4 x5 x6 i7 L1 h))
 (ai9 P K x2 s4 x5 x6 h)):=az (by kernel_rfl)
theorem ak3:EU P K x2 x5 n8 d10 gI iZ h=
 (OP (bP gI (.bool true) iZ) fun oC=>
 aQ oC
 (OP (dc [(.bool false),(.slice none 0 0),(.bool false),(.slice none 0 0)] []) fun gS=>
 OH (aE 4 h x2 gS) fun _ z1=>
 OP (af true 4 z1 x2) fun r0=>
 K (.tuple #[r0,(.bool false)]) z1)
 (aQ x5
 (OP (af true 2 h n8) fun jX=>
 aj P 95 [jX] h fun x94 z1=>
 OH (aE 2 z1 n8 x94) fun _ z2=>
 Tv P K x2 n8 d10 z2)
 (Tv P K x2 n8 d10 h))):=az (by kernel_rfl)
theorem Ui:Tu P K x2 x5 n8 d10 gI gJ nM h=
 (cm gI false
 (OP (bP gJ nM (.bool false)) fun iZ=>
 EU P K x2 x5 n8 d10 gI iZ h)
 (EU P K x2 x5 n8 d10 gI undef h)):=az (by kernel_rfl)
theorem ak2:Tt P K x2 x5 n8 d10 gI gJ h=
 (cm gJ true
 (OP (aL 1 n8) fun rW=>
 OP (af false 1 h rW) fun nL=>
 OP (bj nL) fun rX=>
 OP (ai .eql rX (.int .i64 (0))) fun nM=>
 Tu P K x2 x5 n8 d10 gI gJ nM h)
 (Tu P K x2 x5 n8 d10 gI gJ undef h)):=az (by kernel_rfl)
theorem aBn:aja P K x2 x5 n8 d10 gI h=
 (cm gI false
 (Tt P K x2 x5 n8 d10 gI x5 h)
 (Tt P K x2 x5 n8 d10 gI undef h)):=az (by kernel_rfl)
theorem ak4:Tv P K x2 n8 d10 h=
 (OP (af true 2 h n8) fun Lc=>
 OP (af true 2 h d10) fun Fu=>
 OP (dc [(.bool false),(.slice none 0 0),(.bool false),(.slice none 0 0)] [(0,2,Lc),(2,2,Fu)]) fun wo=>
 OH (aE 4 h x2 wo) fun _ z1=>
 OP (af true 4 z1 x2) fun r0=>
 K (.tuple #[r0,(.bool true)]) z1):=az (by kernel_rfl)
theorem aBm:zW P K x2 x5 n8 x9 d10 h=
 (OP (gw .not x9) fun jK=>
 aja P K x2 x5 n8 d10 jK h):=az (by kernel_rfl)
theorem aBl:ai9 P K x2 s4 x5 x6 h=
 (OP (kV s4 none (some x6)) fun cI=>
 aj P 99 [cI] h fun dm z1=>
 OP (b9 0 dm) fun nK=>
 OP (b9 1 dm) fun fC=>
 OH (aV 35 [(.bool false),(.slice none 0 0)] z1) fun n8 z2=>
 OH (aE 2 z2 n8 nK) fun _ z3=>
 aj P 55 [(.int .i64 (1))] z3 fun gB z4=>
 OH (aV 35 [(.bool false),(.slice none 0 0)] z4) fun d10 z5=>
 OH (aE 2 z5 d10 gB) fun _ z6=>
 OP (gv s4) fun cX=>
 OP (ai .lss x6 cX) fun kP=>
 aQ kP
 (OP (ai .add x6 (.int .i64 (1))) fun eO=>
 OP (kV s4 (some eO) none) fun fW=>
 aj P 99 [fW] z6 fun fI z7=>
 OP (b9 0 fI) fun kn=>
 OP (b9 1 fI) fun fQ=>
 OH (aV 35 [(.bool false),(.slice none 0 0)] z7) fun au z8=>
 OH (aE 2 z8 au kn) fun _ z9=>
 OP (gw .not fQ) fun ko=>
 cm ko false
 (OP (af true 2 z9 au) fun gf=>
 (True)∧
 aj P 55 [(.int .i64 (2))] z9 fun kQ jd=>
 (af true 2 jd au=some gf∧True)∧
 aj P 72 [gf,kQ] jd fun gh jY=>
 (True)∧
 OP (ai .lss gh (.int .i64 (0))) fun gj=>
 OP (bP ko (.bool true) gj) fun fM=>
 cm fM false
 (OP (af true 2 jY n8) fun iC=>
 (True)∧
 OP (af true 2 jY au) fun lW=>
 (True)∧
 aj P 68 [iC,lW] jY fun nf mE=>
 (True)∧
 aj P 55 [(.int .i64 (1))] mE fun jI pX=>
 (True)∧
 aj P 72 [nf,jI] pX fun jJ uD=>
 (True)∧
 OP (ai .neq jJ (.int .i64 (0))) fun kr=>
 OP (bP fM (.bool true) kr) fun iN=>
 aQ iN
 (OP (dc [(.bool false),(.slice none 0 0),(.bool false),(.slice none 0 0)] []) fun fw=>
 OH (aE 4 uD x2 fw) fun _ lY=>
 OP (af true 4 lY x2) fun r0=>
 K (.tuple #[r0,(.bool false)]) lY)
 (OP (af true 2 uD au) fun jW=>
 OH (aE 2 uD d10 jW) fun _ lY=>
 zW P K x2 x5 n8 fC d10 lY))
 ((True)∧
 (True)∧
 (True)∧
 OP (bP fM (.bool true) undef) fun iN=>
 aQ iN
 (OP (dc [(.bool false),(.slice none 0 0),(.bool false),(.slice none 0 0)] []) fun fw=>
 OH (aE 4 jY x2 fw) fun _ mE=>
 OP (af true 4 mE x2) fun r0=>
 K (.tuple #[r0,(.bool false)]) mE)
 (OP (af true 2 jY au) fun jW=>
 OH (aE 2 jY d10 jW) fun _ mE=>
 zW P K x2 x5 n8 fC d10 mE)))
 ((True)∧
 (True)∧
 OP (bP ko (.bool true) undef) fun fM=>
 cm fM false
 (OP (af true 2 z9 n8) fun iC=>
 (True)∧
 OP (af true 2 z9 au) fun lW=>
 (True)∧
 aj P 68 [iC,lW] z9 fun nf jd=>
 (True)∧
 aj P 55 [(.int .i64 (1))] jd fun jI jY=>
 (True)∧
 aj P 72 [nf,jI] jY fun jJ mE=>
 (True)∧
 OP (ai .neq jJ (.int .i64 (0))) fun kr=>
 OP (bP fM (.bool true) kr) fun iN=>
 aQ iN
 (OP (dc [(.bool false),(.slice none 0 0),(.bool false),(.slice none 0 0)] []) fun fw=>
 OH (aE 4 mE x2 fw) fun _ pX=>
 OP (af true 4 pX x2) fun r0=>
 K (.tuple #[r0,(.bool false)]) pX)
 (OP (af true 2 mE au) fun jW=>
 OH (aE 2 mE d10 jW) fun _ pX=>
 zW P K x2 x5 n8 fC d10 pX))
 ((True)∧
 (True)∧
 (True)∧
 OP (bP fM (.bool true) undef) fun iN=>
 aQ iN
 (OP (dc [(.bool false),(.slice none 0 0),(.bool false),(.slice none 0 0)] []) fun fw=>
 OH (aE 4 z9 x2 fw) fun _ jd=>
 OP (af true 4 jd x2) fun r0=>
 K (.tuple #[r0,(.bool false)]) jd)
 (OP (af true 2 z9 au) fun jW=>
 OH (aE 2 z9 d10 jW) fun _ jd=>
 zW P K x2 x5 n8 fC d10 jd))))
 (zW P K x2 x5 n8 fC d10 z6)):=az (by kernel_rfl)
theorem aBi:J3 P K x2 s4 x5 h=
 (OP (gv s4) fun cG=>
 OP (gv s4) fun cA=>
 OP (ai .sub cA (.int .i64 (1))) fun cO=>
 cM [cG,cO] h fun L1 xs hx=>
 ai8 P K x2 s4 x5 L1 xs hx):=az (by kernel_rfl)
def Nz:Prop:=
 OH (aV 37 [(.bool false),(.slice none 0 0),(.bool false),(.slice none 0 0)] h) fun x2 z1=>
 OP (gv x0) fun ba=>
 OP (ai .gtr ba (.int .i64 (8002))) fun bk=>
 aQ bk
 (OP (dc [(.bool false),(.slice none 0 0),(.bool false),(.slice none 0 0)] []) fun bM=>
 OH (aE 4 z1 x2 bM) fun _ z2=>
 OP (af true 4 z2 x2) fun r0=>
 K (.tuple #[r0,(.bool false)]) z2)
 (OP (gv x0) fun aO=>
 OP (ai .gtr aO (.int .i64 (0))) fun aW=>
 ajb P K x2 x0 (.bool false) aW z1)
theorem e67:ak P C4 (aS [.cell true 4 2,.tmp 3] K) (bt [x0]) h=Nz P K x0 h:=by kernel_rfl
theorem f67 {K:VK} {x0:Value} {h:ae} (H:Nz prog K x0 h):aj prog 67 [x0] h K:=
 bJ k67 (bH rfl) ((e67 prog K x0 h).mpr H)
end
noncomputable section
variable (a0 b1 : Value) (h : ae)
def ag2:=bz prog 70 [[],[],[],[],[],[],[],[]]
@[irreducible] def c70:=bI ag2
theorem k70:ag2=some (43,c70,[.cell true 2 4]):=by kernel_rfl
def NC:Prop:=
 OH (bm 35 h a0) fun a2 z1=>
 OH (bm 35 z1 b1) fun b3 z2=>
 OH (aV 35 [(.bool false),(.slice none 0 0)] z2) fun x4 z3=>
 OP (aL 0 a2) fun x5=>
 OP (af false 1 z3 x5) fun x6=>
 OP (aL 0 b3) fun x7=>
 OP (af false 1 z3 x7) fun x8=>
 OP (tU false x6 x8) fun x9=>
 aQ x9
 (OP (aL 0 a2) fun aM=>
 OP (af false 1 z3 aM) fun au=>
 (True)∧
 OP (aL 1 a2) fun aB=>
 OP (af false 1 z3 aB) fun aA=>
 (True)∧
 OP (aL 1 b3) fun aH=>
 OP (af false 1 z3 aH) fun ba=>
 (True)∧
 aj P 104 [aA,ba] z3 fun bk z4=>
 (af false 1 z4 aM=some au∧True)∧
 OP (dc [(.bool false),(.slice none 0 0)] [(0,1,au),(1,1,bk)]) fun bM=>
 aj P 100 [bM] z4 fun aP z5=>
 (True)∧
 OH (aE 2 z5 x4 aP) fun _ z6=>
 (True)∧
 OP (af true 2 z6 x4) fun r0=>
 K r0 z6)
 (OP (aL 1 a2) fun aO=>
 OP (af false 1 z3 aO) fun aW=>
 OP (aL 1 b3) fun aY=>
 OP (af false 1 z3 aY) fun bE=>
 aj P 101 [aW,bE] z3 fun ck z4=>
 OP (ai .geq ck (.int .i64 (0))) fun bu=>
 aQ bu
 (OP (aL 0 a2) fun bY=>
 OP (af false 1 z4 bY) fun cg=>
 (True)∧
 OP (aL 1 a2) fun bW=>
 OP (af false 1 z4 bW) fun cC=>
 (True)∧
 OP (aL 1 b3) fun cG=>
 OP (af false 1 z4 cG) fun dj=>
 (True)∧
 aj P 103 [cC,dj] z4 fun cA z5=>
 (af false 1 z5 bY=some cg∧True)∧
 OP (dc [(.bool false),(.slice none 0 0)] [(0,1,cg),(1,1,cA)]) fun cO=>
 aj P 100 [cO] z5 fun dB z6=>
 (True)∧
 OH (aE 2 z6 x4 dB) fun _ z7=>
 (True)∧
 OP (af true 2 z7 x4) fun r0=>
 K r0 z7)
 (OP (aL 0 b3) fun cP=>
 OP (af false 1 z4 cP) fun cZ=>
 (True)∧
 OP (aL 1 b3) fun cT=>
 OP (af false 1 z4 cT) fun fm=>
 (True)∧
 OP (aL 1 a2) fun dC=>
 OP (af false 1 z4 dC) fun eJ=>
 (True)∧
 aj P 103 [fm,eJ] z4 fun dU z5=>
 (af false 1 z5 cP=some cZ∧True)∧
 OP (dc [(.bool false),(.slice none 0 0)] [(0,1,cZ),(1,1,dU)]) fun ef=>
 aj P 100 [ef] z5 fun eL z6=>
 (True)∧
 OH (aE 2 z6 x4 eL) fun _ z7=>
 (True)∧
 OP (af true 2 z7 x4) fun r0=>
 K r0 z7))
theorem e70:ak P c70 (aS [.cell true 2 4] K) (bt [a0,b1]) h=NC P K a0 b1 h:=by kernel_rfl
theorem f70 {K:VK} {a0 b1:Value} {h:ae} (H:NC prog K a0 b1 h):aj prog 70 [a0,b1] h K:=
 bJ k70 (bH rfl) ((e70 prog K a0 b1 h).mpr H)
end
noncomputable section
variable (a0 b1 a2 b3 x4 x5 i6 x7 k8 s9 cA dB : Value) (L1 L2 : LQ) (xs : List Value) (h : ae)
def ag3:=bz prog 71 [[],[],[],[2,3,4,5],[6],[],[],[],[],[2,3,4,5,6],[7,8],[2,3,4,5,6,7,8,31],[2,3,4,5,6,7,8,31,33],[],[],[],[],[2,3,4,5,6,8,9],[2,3,4,5,6,7,8],[2,3,4,5,6],[2,3,4,5],[]]
@[irreducible] def Hc:=bI ag3
@[irreducible] def OU:=Hc.r.r.l.r.l.l
@[irreducible] def aaX:=Hc.r.r.r
@[irreducible] def Hd:=OU.r.l.l.r.r.l.l
@[irreducible] def aaY:=OU.r.r
@[irreducible] def asx:=aaX.l
@[irreducible] def aaV:=Hd.l.l.r.l
@[irreducible] def ass:=Hd.l.r
@[irreducible] def OT:=Hd.r
@[irreducible] def asw:=aaY.l
@[irreducible] def ast:=aaV.r.l
@[irreducible] def asu:=OT.l.l.r.r.l
@[irreducible] def aaW:=OT.r
@[irreducible] def asv:=aaW.l
theorem k71:ag3=some (80,Hc,[.cell true 2 4]):=by kernel_rfl
def Mb (_P:Program) (K:VK):ar:=aS [.cell true 2 4] K
def apb:ar:=aF (ak P aaX (Mb P K)) (Mb P K)
def apc:ar:=bN 0 (apb P K)
def FZ:ar:=aF (fun f' aT=>(([2,3,4,5]:List Nat).map f':List Value)=[a2,b3,x4,x5]∧L1 (([6]:List Nat).map f') aT) (apc P K)
def apd:ar:=aF (ak P aaY (FZ P K a2 b3 x4 x5 L1)) (FZ P K a2 b3 x4 x5 L1)
def ao7:ar:=bN 1 (apd P K a2 b3 x4 x5 L1)
def ao8:ar:=bN 2 (ao7 P K a2 b3 x4 x5 L1)
def Ay:ar:=aF (fun f' aT=>(([2,3,4,5,6]:List Nat).map f':List Value)=[a2,b3,x4,x5,i6]∧L2 (([7,8]:List Nat).map f') aT) (ao8 P K a2 b3 x4 x5 L1)
def Xt:ar:=aF (ak P OT (Ay P K a2 b3 x4 x5 i6 L1 L2)) (Ay P K a2 b3 x4 x5 i6 L1 L2)
def Xu:ar:=aF (ak P ass (Xt P K a2 b3 x4 x5 i6 L1 L2)) (Xt P K a2 b3 x4 x5 i6 L1 L2)
def ao9:ar:=aF (ak P aaW (Ay P K a2 b3 x4 x5 i6 L1 L2)) (Ay P K a2 b3 x4 x5 i6 L1 L2)
def apa:ar:=bN 3 (ao9 P K a2 b3 x4 x5 i6 L1 L2)
def ajv:Prop:=ay (ak P OU (FZ P K a2 b3 x4 x5 L1)) ([2,3,4,5]++[6]) ([a2,b3,x4,x5]++xs) h
def ajr:Prop:=ay (ak P Hd (Ay P K a2 b3 x4 x5 i6 L1 L2)) ([2,3,4,5,6]++[7,8]) ([a2,b3,x4,x5,i6]++xs) h
def ajs:Prop:=ay (ak P aaV (Xu P K a2 b3 x4 x5 i6 L1 L2)) [2,3,4,5,6,7,8,31] [a2,b3,x4,x5,i6,x7,k8,cA] h
def TD:Prop:=ay (ak P ast (Xu P K a2 b3 x4 x5 i6 L1 L2)) [2,3,4,5,6,7,8,31,33] [a2,b3,x4,x5,i6,x7,k8,cA,dB] h
def xC:Prop:=ay (ak P asu (apa P K a2 b3 x4 x5 i6 L1 L2)) [2,3,4,5,6,8,9] [a2,b3,x4,x5,i6,k8,s9] h
def ajt:Prop:=ay (ak P asv (Ay P K a2 b3 x4 x5 i6 L1 L2)) [2,3,4,5,6,7,8] [a2,b3,x4,x5,i6,x7,k8] h
def TE:Prop:=ay (ak P asw (FZ P K a2 b3 x4 x5 L1)) [2,3,4,5,6] [a2,b3,x4,x5,i6] h
def aju:Prop:=ay (ak P asx (Mb P K)) [2,3,4,5] [a2,b3,x4,x5] h
theorem ak6:TD P K a2 b3 x4 x5 i6 x7 k8 cA dB L1 L2 h=
 (OP (bP cA (.bool true) dB) fun cP=>
 aQ cP
 (OP (ai .add i6 k8) fun dU=>
 OP (bc 1 x5 dU) fun ef=>
 OP (af false 1 h ef) fun eL=>
 OP (ai .add eL x7) fun bG=>
 OP (aL 1 b3) fun dm=>
 OP (af false 1 h dm) fun nK=>
 OP (bj nK) fun fC=>
 OP (ai .lss k8 fC) fun gB=>
 aQ gB
 (OP (aL 1 a2) fun cD=>
 OP (af false 1 h cD) fun cX=>
 (True)∧
 OP (bc 1 cX i6) fun df=>
 OP (af false 1 h df) fun gD=>
 (True)∧
 OP (aL 1 b3) fun iM=>
 OP (af false 1 h iM) fun eO=>
 (True)∧
 OP (bc 1 eO k8) fun fI=>
 OP (af false 1 h fI) fun kn=>
 (True)∧
 OP (ai .mul gD kn) fun fQ=>
 OP (ai .add bG fQ) fun lV=>
 xC P K a2 b3 x4 x5 i6 k8 lV L1 L2 h)
 (xC P K a2 b3 x4 x5 i6 k8 bG L1 L2 h))
 (TE P K a2 b3 x4 x5 i6 L1 h)):=az (by kernel_rfl)
theorem ak5:ajs P K a2 b3 x4 x5 i6 x7 k8 cA L1 L2 h=
 (cm cA false
 (OP (ai .gtr x7 (.int .i64 (0))) fun dB=>
 TD P K a2 b3 x4 x5 i6 x7 k8 cA dB L1 L2 h)
 (TD P K a2 b3 x4 x5 i6 x7 k8 cA undef L1 L2 h)):=az (by kernel_rfl)
theorem aBL:xC P K a2 b3 x4 x5 i6 k8 s9 L1 L2 h=
 (OP (ai .add i6 k8) fun kQ=>
 OP (ai .rem s9 (.int .i64 (10000))) fun gj=>
 OP (ai .quo s9 (.int .i64 (10000))) fun mD=>
 OP (bc 1 x5 kQ) fun iC=>
 OH (aE 1 h iC gj) fun _ z1=>
 ajt P K a2 b3 x4 x5 i6 mD k8 L1 L2 z1):=az (by kernel_rfl)
theorem aBM:ajt P K a2 b3 x4 x5 i6 x7 k8 L1 L2 h=
 (OP (ai .add k8 (.int .i64 (1))) fun cT=>
 ([a2,b3,x4,x5,i6]:List Value)=[a2,b3,x4,x5,i6]∧L2 [x7,cT] h):=az (by kernel_rfl)
theorem aBK (a2 b3 x4 x5 i6:Value) (L1 L2:LQ) (x7 k8:Value) (h:ae):ajr P K a2 b3 x4 x5 i6 L1 L2 [x7,k8] h=
 (OP (aL 1 b3) fun bW=>
 OP (af false 1 h bW) fun cC=>
 OP (bj cC) fun cG=>
 OP (ai .lss k8 cG) fun dj=>
 ajs P K a2 b3 x4 x5 i6 x7 k8 dj L1 L2 h):=az (by kernel_rfl)
theorem aBN:TE P K a2 b3 x4 x5 i6 L1 h=
 (OP (ai .add i6 (.int .i64 (1))) fun bY=>
 ([a2,b3,x4,x5]:List Value)=[a2,b3,x4,x5]∧L1 [bY] h):=az (by kernel_rfl)
theorem aBP (a2 b3 x4 x5:Value) (L1:LQ) (i6:Value) (h:ae):ajv P K a2 b3 x4 x5 L1 [i6] h=
 (OP (aL 1 a2) fun aW=>
 OP (af false 1 h aW) fun aY=>
 OP (bj aY) fun bE=>
 OP (ai .lss i6 bE) fun ck=>
 aQ ck
 (cM [(.int .i64 (0)),(.int .i64 (0))] h fun L2 xs hx=>
 ajr P K a2 b3 x4 x5 i6 L1 L2 xs hx)
 (aju P K a2 b3 x4 x5 h)):=az (by kernel_rfl)
theorem aBO:aju P K a2 b3 x4 x5 h=
 (OP (aL 0 a2) fun lW=>
 OP (af false 1 h lW) fun nf=>
 OP (aL 0 b3) fun jI=>
 OP (af false 1 h jI) fun jJ=>
 OP (tU true nf jJ) fun kr=>
 OP (dc [(.bool false),(.slice none 0 0)] [(0,1,kr),(1,1,x5)]) fun fw=>
 aj P 100 [fw] h fun jW z1=>
 OH (aE 2 z1 x4 jW) fun _ z2=>
 OP (af true 2 z2 x4) fun r0=>
 K r0 z2):=az (by kernel_rfl)
def ND:Prop:=
 OH (bm 35 h a0) fun a2 z1=>
 OH (bm 35 z1 b1) fun b3 z2=>
 OH (aV 35 [(.bool false),(.slice none 0 0)] z2) fun x4 z3=>
 OP (aL 1 a2) fun aM=>
 OP (af false 1 z3 aM) fun au=>
 OP (bj au) fun aB=>
 OP (aL 1 b3) fun aA=>
 OP (af false 1 z3 aA) fun aH=>
 OP (bj aH) fun ba=>
 OP (ai .add aB ba) fun bk=>
 OP (ai .add bk (.int .i64 (1))) fun bM=>
 OH (mV 3 8 [(.int .i64 (0))] z3 bM bM) fun aP z4=>
 cM [(.int .i64 (0))] z4 fun L1 xs hx=>
 ajv P K a2 b3 x4 aP L1 xs hx
theorem e71:ak P Hc (aS [.cell true 2 4] K) (bt [a0,b1]) h=ND P K a0 b1 h:=by kernel_rfl
theorem f71 {K:VK} {a0 b1:Value} {h:ae} (H:ND prog K a0 b1 h):aj prog 71 [a0,b1] h K:=
 bJ k71 (bH rfl) ((e71 prog K a0 b1 h).mpr H)
end
noncomputable section
variable (a0 b1 : Value) (h : ae)
def ag4:=bz prog 72 [[],[]]
@[irreducible] def c72:=bI ag4
theorem k72:ag4=some (9,c72,[.tmp 4]):=by kernel_rfl
def NF:Prop:=
 OH (bm 35 h a0) fun a2 z1=>
 OH (bm 35 z1 b1) fun b3 z2=>
 OP (af true 2 z2 a2) fun x5=>
 OP (af true 2 z2 b3) fun x6=>
 aj P 92 [x5,x6] z2 fun x7 z3=>
 aj P 48 [x7] z3 fun x8 z4=>
 K x8 z4
theorem e72:ak P c72 (aS [.tmp 4] K) (bt [a0,b1]) h=NF P K a0 b1 h:=by kernel_rfl
theorem f72 {K:VK} {a0 b1:Value} {h:ae} (H:NF prog K a0 b1 h):aj prog 72 [a0,b1] h K:=
 bJ k72 (bH rfl) ((e72 prog K a0 b1 h).mpr H)
end
noncomputable section
variable (a0 b1 : Value) (h : ae)
def ahl:=bz prog 92 [[],[]]
@[irreducible] def c92:=bI ahl
theorem k92:ahl=some (9,c92,[.cell true 2 4]):=by kernel_rfl
def NV:Prop:=
 OH (bm 35 h a0) fun a2 z1=>
 OH (bm 35 z1 b1) fun b3 z2=>
 OH (aV 35 [(.bool false),(.slice none 0 0)] z2) fun x4 z3=>
 OP (af true 2 z3 a2) fun x5=>
 (True)∧
 OP (af true 2 z3 b3) fun x6=>
 (True)∧
 aj P 95 [x6] z3 fun x7 z4=>
 (af true 2 z4 a2=some x5∧True)∧
 aj P 70 [x5,x7] z4 fun x8 z5=>
 (True)∧
 OH (aE 2 z5 x4 x8) fun _ z6=>
 (True)∧
 OP (af true 2 z6 x4) fun r0=>
 K r0 z6
theorem e92:ak P c92 (aS [.cell true 2 4] K) (bt [a0,b1]) h=NV P K a0 b1 h:=by kernel_rfl
theorem f92 {K:VK} {a0 b1:Value} {h:ae} (H:NV prog K a0 b1 h):aj prog 92 [a0,b1] h K:=
 bJ k92 (bH rfl) ((e92 prog K a0 b1 h).mpr H)
end
noncomputable section
variable (z0 z1 s3 i4 : Value) (L1 : LQ) (xs : List Value) (h : ae)
def ahm:=bz prog 93 [[],[],[],[],[],[],[1],[3,4],[],[],[],[],[],[3],[],[3],[],[],[3],[]]
@[irreducible] def Hr:=bI ahm
@[irreducible] def as8:=Hr.r.r.r.l.r.l.l
@[irreducible] def abt:=Hr.r.r.r.r
@[irreducible] def O0:=abt.l
@[irreducible] def as6:=O0.l.l.l
@[irreducible] def abr:=O0.r
@[irreducible] def as7:=abr.l
theorem k93:ahm=some (53,Hr,[.tmp 2]):=by kernel_rfl
def AA (_P:Program) (K:VK):ar:=aS [.tmp 2] K
def apG:ar:=aF (ak P abt (AA P K)) (AA P K)
def apH:ar:=bN 0 (apG P K)
def apI:ar:=aF (fun f' aT=>(([1]:List Nat).map f':List Value)=[z1]∧L1 (([3,4]:List Nat).map f') aT) (apH P K)
def apD:ar:=aF (ak P abr (AA P K)) (AA P K)
def apE:ar:=bN 2 (apD P K)
def apF:ar:=aF (fun f' aT=>(([]:List Nat).map f':List Value)=[]∧L1 (([3]:List Nat).map f') aT) (apE P K)
def aj0:Prop:=ay (ak P as8 (apI P K z1 L1)) ([1]++[3,4]) ([z1]++xs) h
def ajX:Prop:=ay (ak P O0 (AA P K)) [3] [s3] h
def ajY:Prop:=ay (ak P as6 (apF P K L1)) ([]++[3]) ([]++xs) h
def ajZ:Prop:=ay (ak P as7 (AA P K)) [3] [s3] h
theorem aCl (z1:Value) (L1:LQ) (s3 i4:Value) (h:ae):aj0 P K z1 L1 [s3,i4] h=
 (OP (ai .geq i4 (.int .i64 (0))) fun bk=>
 aQ bk
 (OP (aL 1 z1) fun aO=>
 OP (af false 1 h aO) fun aW=>
 OP (bc 1 aW i4) fun bE=>
 OP (af false 1 h bE) fun ck=>
 OP (ai .quo ck (.int .i64 (1000))) fun bY=>
 OP (ai .add (.int .i64 (48)) bY) fun cg=>
 OP (dh .u8 cg) fun bW=>
 OP (ai .quo ck (.int .i64 (100))) fun cG=>
 OP (ai .rem cG (.int .i64 (10))) fun dj=>
 OP (ai .add (.int .i64 (48)) dj) fun cA=>
 OP (dh .u8 cA) fun cO=>
 OP (ai .quo ck (.int .i64 (10))) fun cP=>
 OP (ai .rem cP (.int .i64 (10))) fun cZ=>
 OP (ai .add (.int .i64 (48)) cZ) fun cT=>
 OP (dh .u8 cT) fun fm=>
 OP (ai .rem ck (.int .i64 (10))) fun eJ=>
 OP (ai .add (.int .i64 (48)) eJ) fun dU=>
 OP (dh .u8 dU) fun ef=>
 OH (dH 5 4 [(.int .u8 (0))] h [(0,1,bW),(1,1,cO),(2,1,fm),(3,1,ef)]) fun eL h_1=>
 OP (rL h_1 eL) fun bV=>
 OP (ai .add s3 bV) fun dm=>
 OP (ai .sub i4 (.int .i64 (1))) fun aP=>
 ([z1]:List Value)=[z1]∧L1 [dm,aP] h_1)
 (ajX P K s3 h)):=az (by kernel_rfl)
theorem aCj (L1:LQ) (s3:Value) (h:ae):ajY P K L1 [s3] h=
 (OP (jP s3 (.int .i64 (0))) fun fC=>
 OP (ai .eql fC (.int .u8 (48))) fun gB=>
 aQ gB
 (OP (kV s3 (some (.int .i64 (1))) none) fun cD=>
 ([]:List Value)=[]∧L1 [cD] h)
 (ajZ P K s3 h)):=az (by kernel_rfl)
theorem aCk:ajZ P K s3 h=
 (K s3 h):=az (by kernel_rfl)
theorem aCi:ajX P K s3 h=
 (cM [s3] h fun L1 xs hx=>
 ajY P K L1 xs hx):=az (by kernel_rfl)
def NW:Prop:=
 OH (bm 35 h z0) fun z1 h_1=>
 OP (aL 1 z1) fun x7=>
 OP (af false 1 h_1 x7) fun x8=>
 OP (bj x8) fun x9=>
 OP (ai .eql x9 (.int .i64 (0))) fun aM=>
 aQ aM
 (K (.string ⟨#[48]⟩) h_1)
 (OP (aL 1 z1) fun au=>
 OP (af false 1 h_1 au) fun aB=>
 OP (bj aB) fun aA=>
 OP (ai .sub aA (.int .i64 (1))) fun aH=>
 cM [(.string ⟨#[]⟩),aH] h_1 fun L1 xs hx=>
 aj0 P K z1 L1 xs hx)
theorem e93:ak P Hr (aS [.tmp 2] K) (bt [z0]) h=NW P K z0 h:=by kernel_rfl
theorem f93 {K:VK} {z0:Value} {h:ae} (H:NW prog K z0 h):aj prog 93 [z0] h K:=
 bJ k93 (bH rfl) ((e93 prog K z0 h).mpr H)
end
noncomputable section
variable (a0 : Value) (h : ae)
def ahn:=bz prog 94 [[],[],[]]
@[irreducible] def c94:=bI ahn
theorem k94:ahn=some (5,c94,[.cell true 2 2]):=by kernel_rfl
def NX (_:Program) (K:VK) (a0:Value) (h:ae):Prop:=
 OH (bm 35 h a0) fun a1 z1=>
 OH (aV 35 [(.bool false),(.slice none 0 0)] z1) fun x2 z2=>
 OP (aL 0 a1) fun x3=>
 OH (aE 1 z2 x3 (.bool false)) fun _ z3=>
 OP (af true 2 z3 a1) fun x4=>
 OH (aE 2 z3 x2 x4) fun _ z4=>
 OP (af true 2 z4 x2) fun r0=>
 K r0 z4
theorem e94:ak P c94 (aS [.cell true 2 2] K) (bt [a0]) h=NX P K a0 h:=by kernel_rfl
theorem f94 {K:VK} {a0:Value} {h:ae} (H:NX prog K a0 h):aj prog 94 [a0] h K:=
 bJ k94 (bH rfl) ((e94 prog K a0 h).mpr H)
end
noncomputable section
variable (a0 a1 x2 x6 aM : Value) (h : ae)
def aho:=bz prog 95 [[],[1,2,6],[1,2,6,10],[],[]]
@[irreducible] def Hs:=bI aho
@[irreducible] def abv:=Hs.r.l.r.l
@[irreducible] def as9:=Hs.r.r
@[irreducible] def ata:=abv.r.l
theorem k95:aho=some (14,Hs,[.cell true 2 2]):=by kernel_rfl
def XS (_P:Program) (K:VK):ar:=aS [.cell true 2 2] K
def XT:ar:=aF (ak P as9 (XS P K)) (XS P K)
def aj1:Prop:=ay (ak P abv (XT P K)) [1,2,6] [a1,x2,x6] h
def TR:Prop:=ay (ak P ata (XT P K)) [1,2,6,10] [a1,x2,x6,aM] h
theorem alf:TR P K a1 x2 x6 aM h=
 (OP (bP x6 aM (.bool false)) fun au=>
 OP (aL 0 a1) fun aB=>
 OH (aE 1 h aB au) fun _ z1=>
 OP (af true 2 z1 a1) fun aA=>
 OH (aE 2 z1 x2 aA) fun _ z2=>
 OP (af true 2 z2 x2) fun r0=>
 K r0 z2):=az (by kernel_rfl)
theorem ale:aj1 P K a1 x2 x6 h=
 (cm x6 true
 (OP (aL 1 a1) fun x7=>
 OP (af false 1 h x7) fun x8=>
 OP (bj x8) fun x9=>
 OP (ai .gtr x9 (.int .i64 (0))) fun aM=>
 TR P K a1 x2 x6 aM h)
 (TR P K a1 x2 x6 undef h)):=az (by kernel_rfl)
def NY:Prop:=
 OH (bm 35 h a0) fun a1 z1=>
 OH (aV 35 [(.bool false),(.slice none 0 0)] z1) fun x2 z2=>
 OP (aL 0 a1) fun x3=>
 OP (af false 1 z2 x3) fun x4=>
 OP (gw .not x4) fun x5=>
 aj1 P K a1 x2 x5 z2
theorem e95:ak P Hs (aS [.cell true 2 2] K) (bt [a0]) h=NY P K a0 h:=by kernel_rfl
theorem f95 {K:VK} {a0:Value} {h:ae} (H:NY prog K a0 h):aj prog 95 [a0] h K:=
 bJ k95 (bH rfl) ((e95 prog K a0 h).mpr H)
end
noncomputable section
variable (s0 x2 z4 x5 d6 i7 au aH bk aW ck bu dm bS : Value) (L1 L2 : LQ) (xs : List Value) (h : ae)
def ahr:=bz prog 99 [[],[0,2,11],[0,2,11,14],[0,2,16],[0,2,16,20],[0,2,16,20,23],[0,2,16,24],[],[],[],[],[],[0,2,4],[5],[],[],[],[],[0,2,4,5],[6,7],[],[],[0,2,4,5,6,7,46],[0,2,4,5,6,7,46,50],[],[],[],[],[0,2,4,5,6],[0,2,4,5],[2,4],[]]
@[irreducible] def C8:=bI ahr
@[irreducible] def abE:=C8.r.l.l.r.l
@[irreducible] def atc:=C8.r.l.r
@[irreducible] def O1:=C8.r.r
@[irreducible] def abF:=abE.r.l
@[irreducible] def Ht:=O1.r.l.r.l.l
@[irreducible] def abA:=O1.r.r
@[irreducible] def abG:=abF.r.l
@[irreducible] def Da:=Ht.r.l.l.r.l.r.l.l
@[irreducible] def abC:=Ht.r.l.l.r.r
@[irreducible] def abB:=Ht.r.r
@[irreducible] def atj:=abA.l
@[irreducible] def aby:=abG.r.l
@[irreducible] def abD:=Da.r.l.l.l.l.r.l
@[irreducible] def atf:=Da.r.l.l.l.r
@[irreducible] def ate:=Da.r.l.l.r
@[irreducible] def atd:=Da.r.r
@[irreducible] def ath:=abC.l
@[irreducible] def ati:=abB.l
@[irreducible] def abz:=aby.r.l
@[irreducible] def atg:=abD.r.l
@[irreducible] def atb:=abz.r.l
theorem k99:ahr=some (69,C8,[.cell true 2 2,.tmp 3]):=by kernel_rfl
def CI (_P:Program) (K:VK):ar:=aS [.cell true 2 2,.tmp 3] K
def XU:ar:=aF (ak P O1 (CI P K)) (CI P K)
def AB:ar:=aF (ak P atc (XU P K)) (XU P K)
def apJ:ar:=aF (ak P abA (CI P K)) (CI P K)
def apK:ar:=bN 0 (apJ P K)
def F3:ar:=aF (fun f' aT=>(([0,2,4]:List Nat).map f':List Value)=[s0,x2,z4]∧L1 (([5]:List Nat).map f') aT) (apK P K)
def apL:ar:=aF (ak P abB (F3 P K s0 x2 z4 L1)) (F3 P K s0 x2 z4 L1)
def Ml:ar:=bN 1 (apL P K s0 x2 z4 L1)
def apM:ar:=aF (ak P abC (Ml P K s0 x2 z4 L1)) (Ml P K s0 x2 z4 L1)
def apN:ar:=bN 2 (apM P K s0 x2 z4 L1)
def Mm:ar:=aF (fun f' aT=>(([0,2,4,5]:List Nat).map f':List Value)=[s0,x2,z4,x5]∧L2 (([6,7]:List Nat).map f') aT) (apN P K s0 x2 z4 L1)
def apO:ar:=aF (ak P atd (Mm P K s0 x2 z4 x5 L1 L2)) (Mm P K s0 x2 z4 x5 L1 L2)
def XV:ar:=bN 3 (apO P K s0 x2 z4 x5 L1 L2)
def XW:ar:=aF (ak P ate (XV P K s0 x2 z4 x5 L1 L2)) (XV P K s0 x2 z4 x5 L1 L2)
def XX:ar:=aF (ak P atf (XW P K s0 x2 z4 x5 L1 L2)) (XW P K s0 x2 z4 x5 L1 L2)
def aj8:Prop:=ay (ak P abE (AB P K)) [0,2,11] [s0,x2,au] h
def TX:Prop:=ay (ak P abF (AB P K)) [0,2,11,14] [s0,x2,au,aH] h
def aj9:Prop:=ay (ak P abG (AB P K)) [0,2,16] [s0,x2,bk] h
def TU:Prop:=ay (ak P aby (AB P K)) [0,2,16,20] [s0,x2,bk,aW] h
def TV:Prop:=ay (ak P abz (AB P K)) [0,2,16,20,23] [s0,x2,bk,aW,ck] h
def EW:Prop:=ay (ak P atb (AB P K)) [0,2,16,24] [s0,x2,bk,bu] h
def aj2:Prop:=ay (ak P Ht (F3 P K s0 x2 z4 L1)) ([0,2,4]++[5]) ([s0,x2,z4]++xs) h
def aj3:Prop:=ay (ak P Da (Mm P K s0 x2 z4 x5 L1 L2)) ([0,2,4,5]++[6,7]) ([s0,x2,z4,x5]++xs) h
def aj4:Prop:=ay (ak P abD (XX P K s0 x2 z4 x5 L1 L2)) [0,2,4,5,6,7,46] [s0,x2,z4,x5,d6,i7,dm] h
def TW:Prop:=ay (ak P atg (XX P K s0 x2 z4 x5 L1 L2)) [0,2,4,5,6,7,46,50] [s0,x2,z4,x5,d6,i7,dm,bS] h
def aj5:Prop:=ay (ak P ath (Ml P K s0 x2 z4 L1)) [0,2,4,5,6] [s0,x2,z4,x5,d6] h
def aj6:Prop:=ay (ak P ati (F3 P K s0 x2 z4 L1)) [0,2,4,5] [s0,x2,z4,x5] h
def aj7:Prop:=ay (ak P atj (CI P K)) [2,4] [x2,z4] h
theorem Un:EW P K s0 x2 bk bu h=
 (OP (bP bk (.bool true) bu) fun bY=>
 aQ bY
 (OP (dc [(.bool false),(.slice none 0 0)] []) fun cg=>
 OH (aE 2 h x2 cg) fun _ h_1=>
 OP (af true 2 h_1 x2) fun r0=>
 K (.tuple #[r0,(.bool false)]) h_1)
 (OP (dc [(.bool false),(.slice none 0 0)] []) fun bW=>
 OH (aV 35 [(.bool false),(.slice none 0 0)] h) fun z4 h_1=>
 OH (aE 2 h_1 z4 bW) fun _ h_2=>
 OP (gv s0) fun cG=>
 cM [cG] h_2 fun L1 xs hx=>
 aj2 P K s0 x2 z4 L1 xs hx)):=az (by kernel_rfl)
theorem E7:TV P K s0 x2 bk aW ck h=
 (cm bk false
 (OP (bP aW ck (.bool false)) fun bu=>
 EW P K s0 x2 bk bu h)
 (EW P K s0 x2 bk undef h)):=az (by kernel_rfl)
theorem E6:TU P K s0 x2 bk aW h=
 (cm aW true
 (OP (gv s0) fun bE=>
 OP (ai .gtr bE (.int .i64 (1))) fun ck=>
 TV P K s0 x2 bk aW ck h)
 (TV P K s0 x2 bk aW undef h)):=az (by kernel_rfl)
theorem Kl:aj9 P K s0 x2 bk h=
 (cm bk false
 (OP (jP s0 (.int .i64 (0))) fun aP=>
 OP (ai .eql aP (.int .u8 (48))) fun aO=>
 TU P K s0 x2 bk aO h)
 (TU P K s0 x2 bk undef h)):=az (by kernel_rfl)
theorem Kk:TX P K s0 x2 au aH h=
 (OP (bP au (.bool true) aH) fun ba=>
 aj9 P K s0 x2 ba h):=az (by kernel_rfl)
theorem Uq:aj8 P K s0 x2 au h=
 (cm au false
 (OP (gv s0) fun aA=>
 OP (ai .gtr aA (.int .i64 (4000))) fun aH=>
 TX P K s0 x2 au aH h)
 (TX P K s0 x2 au undef h)):=az (by kernel_rfl)
theorem Up:TW P K s0 x2 z4 x5 d6 i7 dm bS L1 L2 h=
 (OP (bP dm (.bool true) bS) fun cD=>
 aQ cD
 (OP (dc [(.bool false),(.slice none 0 0)] []) fun cX=>
 OH (aE 2 h x2 cX) fun _ h_1=>
 OP (af true 2 h_1 x2) fun r0=>
 K (.tuple #[r0,(.bool false)]) h_1)
 (OP (ai .mul (.int .i64 (10)) d6) fun df=>
 OP (jP s0 i7) fun eO=>
 OP (ai .sub eO (.int .u8 (48))) fun fW=>
 OP (dh .i64 fW) fun fI=>
 OP (ai .add df fI) fun kn=>
 OP (ai .add i7 (.int .i64 (1))) fun ef=>
 ([s0,x2,z4,x5]:List Value)=[s0,x2,z4,x5]∧L2 [kn,ef] h)):=az (by kernel_rfl)
theorem Uo:aj4 P K s0 x2 z4 x5 d6 i7 dm L1 L2 h=
 (cm dm false
 (OP (jP s0 i7) fun gB=>
 OP (ai .gtr gB (.int .u8 (57))) fun bS=>
 TW P K s0 x2 z4 x5 d6 i7 dm bS L1 L2 h)
 (TW P K s0 x2 z4 x5 d6 i7 dm undef L1 L2 h)):=az (by kernel_rfl)
theorem aCn (s0 x2 z4 x5:Value) (L1 L2:LQ) (d6 i7:Value) (h:ae):aj3 P K s0 x2 z4 x5 L1 L2 [d6,i7] h=
 (OP (ai .lss i7 x5) fun eJ=>
 aQ eJ
 (OP (jP s0 i7) fun bG=>
 OP (ai .lss bG (.int .u8 (48))) fun cI=>
 aj4 P K s0 x2 z4 x5 d6 i7 cI L1 L2 h)
 (aj5 P K s0 x2 z4 x5 d6 L1 h)):=az (by kernel_rfl)
theorem aCo:aj5 P K s0 x2 z4 x5 d6 L1 h=
 (OP (aL 1 z4) fun fQ=>
 OP (af false 1 h fQ) fun lV=>
 OH (dH 3 1 [(.int .i64 (0))] h [(0,1,d6)]) fun iY h_1=>
 OH (dT 3 1 8 h_1 lV iY) fun gf h_2=>
 OP (aL 1 z4) fun kQ=>
 OH (aE 1 h_2 kQ gf) fun _ h_3=>
 aj6 P K s0 x2 z4 x5 L1 h_3):=az (by kernel_rfl)
theorem aCp:aj6 P K s0 x2 z4 x5 L1 h=
 (OP (ai .sub x5 (.int .i64 (4))) fun dB=>
 ([s0,x2,z4]:List Value)=[s0,x2,z4]∧L1 [dB] h):=az (by kernel_rfl)
theorem aCm (s0 x2 z4:Value) (L1:LQ) (x5:Value) (h:ae):aj2 P K s0 x2 z4 L1 [x5] h=
 (OP (ai .gtr x5 (.int .i64 (0))) fun cA=>
 aQ cA
 (OP (ai .sub x5 (.int .i64 (4))) fun cZ=>
 OP (xr true [(.int .i64 (0)),cZ]) fun cT=>
 cM [(.int .i64 (0)),cT] h fun L2 xs hx=>
 aj3 P K s0 x2 z4 x5 L1 L2 xs hx)
 (aj7 P K x2 z4 h)):=az (by kernel_rfl)
theorem aCq:aj7 P K x2 z4 h=
 (OP (af true 2 h z4) fun gh=>
 aj P 100 [gh] h fun gj h_1=>
 OH (aE 2 h_1 x2 gj) fun _ h_2=>
 OP (af true 2 h_2 x2) fun r0=>
 K (.tuple #[r0,(.bool true)]) h_2):=az (by kernel_rfl)
def F8:Prop:=
 OH (aV 35 [(.bool false),(.slice none 0 0)] h) fun x2 h_1=>
 OP (gv s0) fun x9=>
 OP (ai .lss x9 (.int .i64 (1))) fun aM=>
 aj8 P K s0 x2 aM h_1
theorem e99:ak P C8 (aS [.cell true 2 2,.tmp 3] K) (bt [s0]) h=F8 P K s0 h:=by kernel_rfl
theorem f99 {K:VK} {s0:Value} {h:ae} (H:F8 prog K s0 h):aj prog 99 [s0] h K:=
 bJ k99 (bH rfl) ((e99 prog K s0 h).mpr H)
end
noncomputable section
variable (z0 z1 x2 n3 x9 bk cG cA : Value) (L1 : LQ) (xs : List Value) (h : ae)
def afP:=bz prog 100 [[],[],[1,2],[3],[1,2,3,9],[1,2,3,9,16],[],[],[1,2,3],[],[1,2,3,29],[1,2,29,31],[],[]]
@[irreducible] def Gn:=bI afP
@[irreducible] def Gp:=Gn.r.r.l.l.l
@[irreducible] def YA:=Gn.r.r.r
@[irreducible] def YB:=Gp.l.l.r.l
@[irreducible] def aqa:=Gp.l.r
@[irreducible] def ap9:=Gp.r
@[irreducible] def Om:=YA.l
@[irreducible] def ap6:=YB.r.l
@[irreducible] def Yz:=Om.r.l.r.l
@[irreducible] def ap7:=Om.r.r
@[irreducible] def ap8:=Yz.r.l
theorem axj:afP=some (35,Gn,[.cell true 2 2]):=by kernel_rfl
def CD (_P:Program) (K:VK):ar:=aS [.cell true 2 2] K
def amY:ar:=aF (ak P YA (CD P K)) (CD P K)
def amZ:ar:=bN 0 (amY P K)
def LC:ar:=aF (fun f' aT=>(([1,2]:List Nat).map f':List Value)=[z1,x2]∧L1 (([3]:List Nat).map f') aT) (amZ P K)
def WE:ar:=aF (ak P ap9 (LC P K z1 x2 L1)) (LC P K z1 x2 L1)
def WG:ar:=aF (ak P aqa (WE P K z1 x2 L1)) (WE P K z1 x2 L1)
def WD:ar:=aF (ak P ap7 (CD P K)) (CD P K)
def ahL:Prop:=ay (ak P Gp (LC P K z1 x2 L1)) ([1,2]++[3]) ([z1,x2]++xs) h
def ahM:Prop:=ay (ak P YB (WG P K z1 x2 L1)) [1,2,3,9] [z1,x2,n3,x9] h
def SI:Prop:=ay (ak P ap6 (WG P K z1 x2 L1)) [1,2,3,9,16] [z1,x2,n3,x9,bk] h
def SJ:Prop:=ay (ak P Om (CD P K)) [1,2,3] [z1,x2,n3] h
def ahK:Prop:=ay (ak P Yz (WD P K)) [1,2,3,29] [z1,x2,n3,cG] h
def SL:Prop:=ay (ak P ap8 (WD P K)) [1,2,29,31] [z1,x2,cG,cA] h
theorem aks:SI P K z1 x2 n3 x9 bk L1 h=
 (OP (bP x9 bk (.bool false)) fun bM=>
 aQ bM
 (OP (ai .sub n3 (.int .i64 (1))) fun aO=>
 ([z1,x2]:List Value)=[z1,x2]∧L1 [aO] h)
 (SJ P K z1 x2 n3 h)):=az (by kernel_rfl)
theorem akv:ahM P K z1 x2 n3 x9 L1 h=
 (cm x9 true
 (OP (aL 1 z1) fun aM=>
 OP (af false 1 h aM) fun au=>
 OP (ai .sub n3 (.int .i64 (1))) fun aA=>
 OP (bc 1 au aA) fun aH=>
 OP (af false 1 h aH) fun ba=>
 OP (ai .eql ba (.int .i64 (0))) fun bk=>
 SI P K z1 x2 n3 x9 bk L1 h)
 (SI P K z1 x2 n3 x9 undef L1 h)):=az (by kernel_rfl)
theorem azq (z1 x2:Value) (L1:LQ) (n3:Value) (h:ae):ahL P K z1 x2 L1 [n3] h=
 (OP (ai .gtr n3 (.int .i64 (0))) fun x8=>
 ahM P K z1 x2 n3 x8 L1 h):=az (by kernel_rfl)
theorem aku:SL P K z1 x2 cG cA h=
 (OP (bP cG cA (.bool false)) fun cO=>
 OP (aL 0 z1) fun dB=>
 OH (aE 1 h dB cO) fun _ h_1=>
 OP (af true 2 h_1 z1) fun cP=>
 OH (aE 2 h_1 x2 cP) fun _ h_2=>
 OP (af true 2 h_2 x2) fun r0=>
 K r0 h_2):=az (by kernel_rfl)
theorem akt:ahK P K z1 x2 n3 cG h=
 (cm cG true
 (OP (ai .gtr n3 (.int .i64 (0))) fun cA=>
 SL P K z1 x2 cG cA h)
 (SL P K z1 x2 cG undef h)):=az (by kernel_rfl)
theorem azp:SJ P K z1 x2 n3 h=
 (OH (dH 3 0 [(.int .i64 (0))] h []) fun aW h_1=>
 OP (aL 1 z1) fun aY=>
 OP (af false 1 h_1 aY) fun bE=>
 OP (mo 3 1 bE none (some n3)) fun bu=>
 OH (dT 3 1 8 h_1 aW bu) fun bY h_2=>
 OP (aL 1 z1) fun cg=>
 OH (aE 1 h_2 cg bY) fun _ h_3=>
 OP (aL 0 z1) fun bW=>
 OP (af false 1 h_3 bW) fun cC=>
 ahK P K z1 x2 n3 cC h_3):=az (by kernel_rfl)
def Mt:Prop:=
 OH (bm 35 h z0) fun z1 h_1=>
 OH (aV 35 [(.bool false),(.slice none 0 0)] h_1) fun x2 h_2=>
 OP (aL 1 z1) fun x4=>
 OP (af false 1 h_2 x4) fun x5=>
 OP (bj x5) fun x6=>
 cM [x6] h_2 fun L1 xs hx=>
 ahL P K z1 x2 L1 xs hx
theorem atT:ak P Gn (aS [.cell true 2 2] K) (bt [z0]) h=Mt P K z0 h:=by kernel_rfl
theorem f100 {K:VK} {z0:Value} {h:ae} (H:Mt prog K z0 h):aj prog 100 [z0] h K:=
 bJ axj (bH rfl) ((atT prog K z0 h).mpr H)
end
noncomputable section
variable (a0 b1 i5 : Value) (L1 : LQ) (xs : List Value) (h : ae)
def afQ:=bz prog 101 [[],[],[],[],[],[],[],[],[0,1],[5],[],[],[],[],[],[],[],[],[],[]]
@[irreducible] def Gq:=bI afQ
@[irreducible] def aqb:=Gq.r.r.l.r.l.l
@[irreducible] def aqc:=Gq.r.r.r
theorem axk:afQ=some (41,Gq,[.tmp 4]):=by kernel_rfl
def WH (_P:Program) (K:VK):ar:=aS [.tmp 4] K
def am2:ar:=aF (ak P aqc (WH P K)) (WH P K)
def am0:ar:=bN 0 (am2 P K)
def am1:ar:=aF (fun f' aT=>(([0,1]:List Nat).map f':List Value)=[a0,b1]∧L1 (([5]:List Nat).map f') aT) (am0 P K)
def ahN:Prop:=ay (ak P aqb (am1 P K a0 b1 L1)) ([0,1]++[5]) ([a0,b1]++xs) h
theorem azr (a0 b1:Value) (L1:LQ) (i5:Value) (h:ae):ahN P K a0 b1 L1 [i5] h=
 (OP (ai .geq i5 (.int .i64 (0))) fun aW=>
 aQ aW
 (OP (bc 1 a0 i5) fun bY=>
 OP (af false 1 h bY) fun cg=>
 (True)∧
 OP (bc 1 b1 i5) fun cG=>
 OP (af false 1 h cG) fun dj=>
 (True)∧
 OP (ai .lss cg dj) fun cA=>
 aQ cA
 (K (.int .i64 (-1)) h)
 (OP (bc 1 a0 i5) fun cP=>
 OP (af false 1 h cP) fun cZ=>
 (True)∧
 OP (bc 1 b1 i5) fun dC=>
 OP (af false 1 h dC) fun eJ=>
 (True)∧
 OP (ai .gtr cZ eJ) fun dU=>
 aQ dU
 (K (.int .i64 (1)) h)
 (OP (ai .sub i5 (.int .i64 (1))) fun bE=>
 ([a0,b1]:List Value)=[a0,b1]∧L1 [bE] h)))
 (K (.int .i64 (0)) h)):=az (by kernel_rfl)
def Mu:Prop:=
 OP (bj a0) fun x7=>
 OP (bj b1) fun x9=>
 OP (ai .neq x7 x9) fun aM=>
 aQ aM
 (OP (bj a0) fun aB=>
 OP (bj b1) fun aH=>
 OP (ai .lss aB aH) fun ba=>
 aQ ba
 (K (.int .i64 (-1)) h)
 (K (.int .i64 (1)) h))
 (OP (bj a0) fun bM=>
 OP (ai .sub bM (.int .i64 (1))) fun aP=>
 cM [aP] h fun L1 xs hx=>
 ahN P K a0 b1 L1 xs hx)
theorem atU:ak P Gq (aS [.tmp 4] K) (bt [a0,b1]) h=Mu P K a0 b1 h:=by kernel_rfl
theorem f101 {K:VK} {a0 b1:Value} {h:ae} (H:Mu prog K a0 b1 h):aj prog 101 [a0,b1] h K:=
 bJ axk (bH rfl) ((atU prog K a0 b1 h).mpr H)
end
noncomputable section
variable (a0 d1 : Value) (h : ae)
def afR:=bz prog 102 [[],[]]
@[irreducible] def YC:=bI afR
theorem axl:afR=some (12,YC,[.tmp 4]):=by kernel_rfl
def Mv:Prop:=
 OP (dc [(.bool false),(.slice none 0 0)] [(1,1,a0)]) fun x6=>
 aj P 55 [d1] h fun x8 z1=>
 aj P 71 [x6,x8] z1 fun x9 z2=>
 aj P 100 [x9] z2 fun aM z3=>
 OP (zt false 1 1 aM) fun au=>
 K au z3
theorem atV:ak P YC (aS [.tmp 4] K) (bt [a0,d1]) h=Mv P K a0 d1 h:=by kernel_rfl
theorem f102 {K:VK} {a0 d1:Value} {h:ae} (H:Mv prog K a0 d1 h):aj prog 102 [a0,d1] h K:=
 bJ axl (bH rfl) ((atV prog K a0 d1 h).mpr H)
end
noncomputable section
variable (a0 b1 x5 x6 i7 s8 : Value) (L1 : LQ) (xs : List Value) (h : ae)
def afS:=bz prog 103 [[],[],[],[0,1],[5,6,7],[],[],[],[],[0,1,5,7,8],[],[],[0,1,5,6,7,8],[0,1,5,6,7],[5],[]]
@[irreducible] def Gr:=bI afS
@[irreducible] def On:=Gr.r.r.l.r.l.l
@[irreducible] def YE:=Gr.r.r.r
@[irreducible] def YD:=On.r.l.l.r.r.l
@[irreducible] def YF:=On.r.r
@[irreducible] def aqf:=YE.l
@[irreducible] def aqd:=YD.r.r.l
@[irreducible] def aqe:=YF.l
theorem axm:afS=some (41,Gr,[.tmp 4]):=by kernel_rfl
def LD (_P:Program) (K:VK):ar:=aS [.tmp 4] K
def am3:ar:=aF (ak P YE (LD P K)) (LD P K)
def am4:ar:=bN 0 (am3 P K)
def FH:ar:=aF (fun f' aT=>(([0,1]:List Nat).map f':List Value)=[a0,b1]∧L1 (([5,6,7]:List Nat).map f') aT) (am4 P K)
def am5:ar:=aF (ak P YF (FH P K a0 b1 L1)) (FH P K a0 b1 L1)
def WI:ar:=bN 1 (am5 P K a0 b1 L1)
def ahQ:Prop:=ay (ak P On (FH P K a0 b1 L1)) ([0,1]++[5,6,7]) ([a0,b1]++xs) h
def JF:Prop:=ay (ak P YD (WI P K a0 b1 L1)) [0,1,5,7,8] [a0,b1,x5,i7,s8] h
def JG:Prop:=ay (ak P aqd (WI P K a0 b1 L1)) [0,1,5,6,7,8] [a0,b1,x5,x6,i7,s8] h
def ahO:Prop:=ay (ak P aqe (FH P K a0 b1 L1)) [0,1,5,6,7] [a0,b1,x5,x6,i7] h
def ahP:Prop:=ay (ak P aqf (LD P K)) [5] [x5] h
theorem azt:JG P K a0 b1 x5 x6 i7 s8 L1 h=
 (OH (dH 3 1 [(.int .i64 (0))] h [(0,1,s8)]) fun dC z1=>
 OH (dT 3 1 8 z1 x5 dC) fun eJ z2=>
 ahO P K a0 b1 eJ x6 i7 L1 z2):=az (by kernel_rfl)
theorem azs:JF P K a0 b1 x5 i7 s8 L1 h=
 (OP (ai .lss s8 (.int .i64 (0))) fun dB=>
 aQ dB
 (OP (ai .add s8 (.int .i64 (10000))) fun cZ=>
 JG P K a0 b1 x5 (.int .i64 (1)) i7 cZ L1 h)
 (JG P K a0 b1 x5 (.int .i64 (0)) i7 s8 L1 h)):=az (by kernel_rfl)
theorem azu:ahO P K a0 b1 x5 x6 i7 L1 h=
 (OP (ai .add i7 (.int .i64 (1))) fun ba=>
 ([a0,b1]:List Value)=[a0,b1]∧L1 [x5,x6,ba] h):=az (by kernel_rfl)
theorem azw (a0 b1:Value) (L1:LQ) (x5 x6 i7:Value) (h:ae):ahQ P K a0 b1 L1 [x5,x6,i7] h=
 (OP (bj a0) fun aB=>
 OP (ai .lss i7 aB) fun aA=>
 aQ aA
 (OP (bc 1 a0 i7) fun aP=>
 OP (af false 1 h aP) fun aO=>
 OP (ai .sub aO x6) fun aY=>
 OP (bj b1) fun bu=>
 OP (ai .lss i7 bu) fun bY=>
 aQ bY
 (OP (bc 1 b1 i7) fun cG=>
 OP (af false 1 h cG) fun dj=>
 OP (ai .sub aY dj) fun cA=>
 JF P K a0 b1 x5 i7 cA L1 h)
 (JF P K a0 b1 x5 i7 aY L1 h))
 (ahP P K x5 h)):=az (by kernel_rfl)
theorem azv:ahP P K x5 h=
 (K x5 h):=az (by kernel_rfl)
def Mw:Prop:=
 OH (dH 3 0 [(.int .i64 (0))] h []) fun x9 z1=>
 cM [x9,(.int .i64 (0)),(.int .i64 (0))] z1 fun L1 xs hx=>
 ahQ P K a0 b1 L1 xs hx
theorem atW:ak P Gr (aS [.tmp 4] K) (bt [a0,b1]) h=Mw P K a0 b1 h:=by kernel_rfl
theorem f103 {K:VK} {a0 b1:Value} {h:ae} (H:Mw prog K a0 b1 h):aj prog 103 [a0,b1] h K:=
 bJ axm (bH rfl) ((atW prog K a0 b1 h).mpr H)
end
noncomputable section
variable (a0 b1 x5 x6 i7 s8 aH aP aW bE : Value) (L1 : LQ) (xs : List Value) (h : ae)
def afT:=bz prog 104 [[],[],[],[0,1],[5,6,7],[0,1,5,6,7,14],[0,1,5,6,7,14,18],[0,1,5,6,7,20],[0,1,5,6,7,20,22],[],[],[],[],[0,1,5,7,8],[],[0,1,5,7,8],[0,1,5,6,7],[5],[]]
@[irreducible] def Gs:=bI afT
@[irreducible] def Gt:=Gs.r.r.l.r.l.l
@[irreducible] def YL:=Gs.r.r.r
@[irreducible] def YG:=Gt.l.l.r.l
@[irreducible] def aqk:=Gt.l.r
@[irreducible] def Oo:=Gt.r
@[irreducible] def aqj:=YL.l
@[irreducible] def YH:=YG.r.l
@[irreducible] def YK:=Oo.l.l.r.r.l
@[irreducible] def YJ:=Oo.r
@[irreducible] def YI:=YH.r.l
@[irreducible] def aqh:=YK.r.l
@[irreducible] def aqi:=YJ.l
@[irreducible] def aqg:=YI.r.l
theorem axn:afT=some (55,Gs,[.tmp 4]):=by kernel_rfl
def LF (_P:Program) (K:VK):ar:=aS [.tmp 4] K
def am7:ar:=aF (ak P YL (LF P K)) (LF P K)
def am8:ar:=bN 0 (am7 P K)
def Au:ar:=aF (fun f' aT=>(([0,1]:List Nat).map f':List Value)=[a0,b1]∧L1 (([5,6,7]:List Nat).map f') aT) (am8 P K)
def WK:ar:=aF (ak P Oo (Au P K a0 b1 L1)) (Au P K a0 b1 L1)
def FI:ar:=aF (ak P aqk (WK P K a0 b1 L1)) (WK P K a0 b1 L1)
def am6:ar:=aF (ak P YJ (Au P K a0 b1 L1)) (Au P K a0 b1 L1)
def WJ:ar:=bN 1 (am6 P K a0 b1 L1)
def ahU:Prop:=ay (ak P Gt (Au P K a0 b1 L1)) ([0,1]++[5,6,7]) ([a0,b1]++xs) h
def ahR:Prop:=ay (ak P YG (FI P K a0 b1 L1)) [0,1,5,6,7,14] [a0,b1,x5,x6,i7,aH] h
def SM:Prop:=ay (ak P YH (FI P K a0 b1 L1)) [0,1,5,6,7,14,18] [a0,b1,x5,x6,i7,aH,aP] h
def ahS:Prop:=ay (ak P YI (FI P K a0 b1 L1)) [0,1,5,6,7,20] [a0,b1,x5,x6,i7,aW] h
def SN:Prop:=ay (ak P aqg (FI P K a0 b1 L1)) [0,1,5,6,7,20,22] [a0,b1,x5,x6,i7,aW,bE] h
def B0:Prop:=ay (ak P YK (WJ P K a0 b1 L1)) [0,1,5,7,8] [a0,b1,x5,i7,s8] h
def JH:Prop:=ay (ak P aqh (WJ P K a0 b1 L1)) [0,1,5,7,8] [a0,b1,x5,i7,s8] h
def ahT:Prop:=ay (ak P aqi (Au P K a0 b1 L1)) [0,1,5,6,7] [a0,b1,x5,x6,i7] h
def SO:Prop:=ay (ak P aqj (LF P K)) [5] [x5] h
theorem Kh:SN P K a0 b1 x5 x6 i7 aW bE L1 h=
 (OP (bP aW (.bool true) bE) fun ck=>
 aQ ck
 (OP (bj a0) fun cG=>
 OP (ai .lss i7 cG) fun dj=>
 aQ dj
 (OP (bc 1 a0 i7) fun cP=>
 OP (af false 1 h cP) fun cZ=>
 OP (ai .add x6 cZ) fun cT=>
 B0 P K a0 b1 x5 i7 cT L1 h)
 (B0 P K a0 b1 x5 i7 x6 L1 h))
 (SO P K x5 h)):=az (by kernel_rfl)
theorem Ud:ahS P K a0 b1 x5 x6 i7 aW L1 h=
 (cm aW false
 (OP (ai .gtr x6 (.int .i64 (0))) fun bE=>
 SN P K a0 b1 x5 x6 i7 aW bE L1 h)
 (SN P K a0 b1 x5 x6 i7 aW undef L1 h)):=az (by kernel_rfl)
theorem Uc:SM P K a0 b1 x5 x6 i7 aH aP L1 h=
 (OP (bP aH (.bool true) aP) fun aO=>
 ahS P K a0 b1 x5 x6 i7 aO L1 h):=az (by kernel_rfl)
theorem akw:ahR P K a0 b1 x5 x6 i7 aH L1 h=
 (cm aH false
 (OP (bj b1) fun bM=>
 OP (ai .lss i7 bM) fun aP=>
 SM P K a0 b1 x5 x6 i7 aH aP L1 h)
 (SM P K a0 b1 x5 x6 i7 aH undef L1 h)):=az (by kernel_rfl)
theorem azy:JH P K a0 b1 x5 i7 s8 L1 h=
 (OP (ai .rem s8 (.int .i64 (10000))) fun gB=>
 OH (dH 3 1 [(.int .i64 (0))] h [(0,1,gB)]) fun bS z1=>
 OH (dT 3 1 8 z1 x5 bS) fun cD z2=>
 OP (ai .quo s8 (.int .i64 (10000))) fun kP=>
 ahT P K a0 b1 cD kP i7 L1 z2):=az (by kernel_rfl)
theorem azx:B0 P K a0 b1 x5 i7 s8 L1 h=
 (OP (bj b1) fun eJ=>
 OP (ai .lss i7 eJ) fun dU=>
 aQ dU
 (OP (bc 1 b1 i7) fun bG=>
 OP (af false 1 h bG) fun cI=>
 OP (ai .add s8 cI) fun dm=>
 JH P K a0 b1 x5 i7 dm L1 h)
 (JH P K a0 b1 x5 i7 s8 L1 h)):=az (by kernel_rfl)
theorem azz:ahT P K a0 b1 x5 x6 i7 L1 h=
 (OP (ai .add i7 (.int .i64 (1))) fun bY=>
 ([a0,b1]:List Value)=[a0,b1]∧L1 [x5,x6,bY] h):=az (by kernel_rfl)
theorem azB (a0 b1:Value) (L1:LQ) (x5 x6 i7:Value) (h:ae):ahU P K a0 b1 L1 [x5,x6,i7] h=
 (OP (bj a0) fun aB=>
 OP (ai .lss i7 aB) fun aA=>
 ahR P K a0 b1 x5 x6 i7 aA L1 h):=az (by kernel_rfl)
theorem azA:SO P K x5 h=
 (K x5 h):=az (by kernel_rfl)
def Mx:Prop:=
 OH (dH 3 0 [(.int .i64 (0))] h []) fun x9 z1=>
 cM [x9,(.int .i64 (0)),(.int .i64 (0))] z1 fun L1 xs hx=>
 ahU P K a0 b1 L1 xs hx
theorem atX:ak P Gs (aS [.tmp 4] K) (bt [a0,b1]) h=Mx P K a0 b1 h:=by kernel_rfl
theorem f104 {K:VK} {a0 b1:Value} {h:ae} (H:Mx prog K a0 b1 h):aj prog 104 [a0,b1] h K:=
 bJ axn (bH rfl) ((atX prog K a0 b1 h).mpr H)
end
end
section
theorem ap0:br≤10000^250:=by decide+kernel
theorem rh {xs:List Nat} (h:dw 10000 xs) (hv:val 10000 xs<br):xs.length≤250:=h.len (by decide) (Nat.lt_of_lt_of_le hv ap0)
def oG (b:Nat) (hx:ae) (v:Value) (os:List Nat):Prop:=fE b hx 3 v (os.map fun d:Nat=>I d)
theorem oG.ds {b:Nat} {hx:ae} {v:Value} {os:List Nat} (o:oG b hx v os):DS 3 .i64 hx v os:=by
 rcases o with ⟨h1,h2⟩ | ⟨i,_,h2,h3⟩
 ·exact .inl ⟨h1,by simpa using h2⟩
 ·refine .inr ⟨i,by rw [h2,List.length_map],.inr ⟨[],?_⟩⟩
  simp [aR,h3]
theorem DS.cells {e:TypeId} {k:IntKind} {h:ae} {v:Value} {xs:List Nat} (p:DS e k h v xs):kL h 1 v=some (xs.map fun d:Nat=>Value.int k (d:Int))∧pP v=some xs.length:=by
 rcases p with ⟨rfl,rfl⟩ | ⟨i,rfl,hc⟩
 ·exact ⟨rfl,rfl⟩
 ·refine ⟨?_,rfl⟩
  unfold kL sl
  simp only
  by_cases hz:xs.length=0
  ·rw [if_pos hz]
   have:xs=[]:=List.length_eq_zero_iff.1 hz
   subst this
   rfl
  ·obtain ⟨r,hc⟩:=hc.resolve_left (by rintro rfl;simp at hz)
   rw [if_neg hz,hc]
   simp only [Option.bind_some]
   rw [if_pos (by simp)]
   have:((xs.map (fun d:Nat=>Value.int k (d:Int))++r).drop 0).take (xs.length*1)=xs.map fun d:Nat=>Value.int k (d:Int):=by
    rw [drop_zero,Nat.mul_one,List.take_append_of_le_length (by simp),take_of_length_le (by simp)]
   rw [this]
def fD (h:ae) (v:Value) (n:Nat):Prop:=∃xs,DS 3 .i64 h v xs∧dw 10000 xs∧val 10000 xs=n
theorem fD.mono {h h':ae} {v:Value} {n:Nat} (x:EX h h') (p:fD h v n):fD h' v n:=let ⟨xs,a,b,c⟩:=p;⟨xs,a.mono x,b,c⟩
theorem DS.bL {e e':TypeId} {k:IntKind} {h:ae} {v:Value} {xs:List Nat} {j:Nat} {b:Bool} {r:List Value} (d:DS e k h v xs) (hj:h[j]?=some (.arr e' (.bool b::r))) (o:aq):DS e k (h.set j o) v xs:=by
 rcases d with d | ⟨i,h1,h2⟩
 ·exact .inl d
 ·refine .inr ⟨i,h1,?_⟩
  rcases h2 with h2 | ⟨rest,h2⟩
  ·exact .inl h2
  ·cases xs with
   | nil=>exact .inl rfl
   | cons x xs=>
    right
    refine ⟨rest,?_⟩
    have bp:j≠i:=by
     rintro rfl
     unfold aR at h2
     rw [hj] at h2
     simp at h2
    unfold aR at h2⊢
    rw [getElem?_set_ne bp]
    exact h2
theorem fD.bL {h:ae} {v:Value} {n j:Nat} {e:TypeId} {b:Bool} {r:List Value} (p:fD h v n) (hj:h[j]?=some (.arr e (.bool b::r))) (o:aq):fD (h.set j o) v n:=
 let ⟨xs,d,c,hv⟩:=p;⟨xs,d.bL hj o,c,hv⟩
def ZV (h:ae) (val:Value) (z:Int):Prop:=∃v,val=.agg #[B (decide (z<0)),v]∧fD h v z.natAbs
theorem ZV.mono {h h':ae} {v:Value} {z:Int} (x:EX h h') (p:ZV h v z):ZV h' v z:=let ⟨w,a,b⟩:=p;⟨w,a,b.mono x⟩
theorem ZV.bL {h:ae} {v:Value} {z:Int} {j:Nat} {e:TypeId} {b:Bool} {r:List Value} (p:ZV h v z) (hj:h[j]?=some (.arr e (.bool b::r))) (o:aq):ZV (h.set j o) v z:=
 let ⟨w,a,q⟩:=p;⟨w,a,q.bL hj o⟩
theorem N9 {h0 hx:ae} {v:Value} {os:List Nat} {d:Nat} {K:Value→ae→Prop} (o:oG h0.length hx v os) (hex:EX h0 hx) (hl:os.length≤10000)
  (hk:∀v' bR,EX h0 bR→oG h0.length bR v' (os++[d])→K v' bR):OH (dH 3 1 [.int .i64 0] hx [(0,1,I d)]) fun a h2=>OH (dT 3 1 8 h2 v a) K:=by
 refine Gd o hex (by simp;omega) (by simp [maxLen];omega) rfl rfl ?_
 intro v' bR h1 h2
 exact hk v' bR h1 (by unfold oG;simpa using h2)
theorem VM {s:Bool} {v:Value} {xs:List Nat} {h:ae} {K:Value→ae→Prop} (hd:DS 3 .i64 h v xs) (hl:cd 10000 xs) (hs:xs.length≤1000)
  (hk:∀r h',EX h h'→ZV h' r (if s then -(val 10000 xs:Int) else val 10000 xs)→(∃b i n,r=.agg #[B b,sl 3 i 0 n]∧h.length≤i)→K r h'):aj prog 100 [.agg #[B s,v]] h K:=by
 refine f100 ?_
 have e1:bm 35 h (.agg #[B s,v])=some (pt h.length 0,h++[.arr 35 [B s,v]]):=rfl
 have e2:∀g:ae,aV 35 [(.bool false),(.slice none 0 0)] g=some (pt g.length 0,g++[.arr 35 [(.bool false),(.slice none 0 0)]]):=fun _=>rfl
 simp only [Mt,e1,aC,e2,length_append,length_cons,length_nil]
 have g0:(h++[aq.arr 35 [B s,v]]++[aq.arr 35 [(.bool false),(.slice none 0 0)]])[h.length]?=some (.arr 35 [B s,v]):=by simp
 have g1:(h++[aq.arr 35 [B s,v]]++[aq.arr 35 [(.bool false),(.slice none 0 0)]])[h.length+1]?=some (.arr 35 [(.bool false),(.slice none 0 0)]):=by simp
 have x1:EX h (h++[aq.arr 35 [B s,v]]++[aq.arr 35 [(.bool false),(.slice none 0 0)]]):=(EX.append _ _).push _
 have hlen:(h++[aq.arr 35 [B s,v]]++[aq.arr 35 [(.bool false),(.slice none 0 0)]]).length=h.length+2:=by simp
 generalize h++[aq.arr 35 [B s,v]]++[aq.arr 35 [(.bool false),(.slice none 0 0)]]=h1 at g0 g1 x1 hlen⊢
 have qK:af false 1 h1 (pt h.length 1)=some v:=by simp [af,aR,g0,cf]
 have mh:=hd.mono x1
 simp only [cn,zero_add,ah,qK,mh.len]
 refine dL (σ:=Nat) (fun n=>[I n]) (fun _=>h1) (fun n=>n≤xs.length∧val 10000 (xs.take n)=val 10000 xs) (fun n=>n) xs.length rfl rfl ⟨le_refl _,by rw [take_length]⟩ ?_
 rintro n ⟨hn,bT⟩ L hL
 rw [azq]
 -- gR end
 have fin:dw 10000 (xs.take n)→SJ prog K (pt h.length 0) (pt (h.length+1) 0) (I n) h1:=by
  intro hc
  rw [azp]
  have mk:dH 3 0 [.int .i64 0] h1 []=some (sl 3 h1.length 0 0,h1++[.arr 3 []]):=rfl
  have x2:EX h1 (h1++[.arr 3 []]):=EX.append _ _
  obtain ⟨v',p1,p2⟩:=(mh.mono x2).pop hn
  obtain ⟨c1,c2⟩:=p2.cells
  have yT:(xs.take n).length=n:=by rw [length_take];omega
  simp only [mk,aC,cn,zero_add,ah,EX.load x2 qK,p1]
  -- copied
  have app:∃w h3,dT 3 1 8 (h1++[.arr 3 []]) (sl 3 h1.length 0 0) v'=some (w,h3)∧EX h1 h3∧DS 3 .i64 h3 w (xs.take n)∧∃i n,w=sl 3 i 0 n∧h.length≤i:=by
   by_cases oh:n=0
   ·subst oh
    refine ⟨sl 3 h1.length 0 0,h1++[.arr 3 []],?_,x2,.inr ⟨h1.length,by simp,.inl (by simp)⟩,h1.length,0,rfl,by omega⟩
    simp [dT,c1,c2,sl]
   ·refine ⟨sl 3 (h1.length+1) 0 n,(h1++[aq.arr 3 []]).set h1.length .dead++[.arr 3 ((xs.take n).map fun d:Nat=>I d)],?_,(x2.set (le_refl _) _).push _,.inr ⟨h1.length+1,by rw [yT],.inr ⟨[],?_⟩⟩,h1.length+1,n,rfl,by omega⟩
    ·have hg:(h1++[aq.arr 3 []])[h1.length]?=some (.arr 3 []):=bn
     simp only [dT,c1,c2,yT]
     simp only [sl,hg]
     rw [if_pos ⟨trivial,trivial,by simp,by omega,by unfold maxLen;omega⟩,if_neg oh]
     simp
    ·unfold aR
     rw [List.getElem?_append_right (by simp)]
     simp
  obtain ⟨w,h3,a1,a2,a3,wi,wn,Rk,hwl⟩:=app
  simp only [a1,aC]
  have PX:=a2.get g0
  have yv:=a2.get g1
  rw [pW PX (by simp) a3.one.1 a3.one.2]
  simp only [aC,List.set_cons_succ,List.set_cons_zero]
  have k0:(h3.set h.length (.arr 35 [B s,w]))[h.length]?=some (.arr 35 [B s,w]):=cj PX
  have k1:(h3.set h.length (.arr 35 [B s,w]))[h.length+1]?=some (.arr 35 [(.bool false),(.slice none 0 0)]):=by rw [getElem?_set_ne (by omega)];exact yv
  have d1:=a3.bL PX (.arr 35 [B s,w])
  have x3:EX h (h3.set h.length (.arr 35 [B s,w])):=(x1.trans a2).set (le_refl _) _
  generalize h3.set h.length (.arr 35 [B s,w])=h4 at k0 k1 d1 x3⊢
  have oz:af false 1 h4 (pt h.length 0)=some (B s):=by simp [af,aR,k0,cf]
  simp only [oz,ah]
  have last:∀c:Bool,c=(s&&decide (0<n))→OH (aE 1 h4 (pt h.length 0) (B c)) fun _ h_1=>OP (af true 2 h_1 (pt h.length 0)) fun cP=>OH (aE 2 h_1 (pt (h.length+1) 0) cP) fun _ h_2=>OP (af true 2 h_2 (pt (h.length+1) 0)) fun r0=>K r0 h_2:=by
   rintro c rfl
   rw [pW k0 (by simp) rfl rfl]
   simp only [aC,List.set_cons_zero]
   rw [cL (cj k0)]
   simp only [ah]
   have m1:(h4.set h.length (.arr 35 [B (s&&decide (0<n)),w]))[h.length+1]?=some (.arr 35 [(.bool false),(.slice none 0 0)]):=by rw [getElem?_set_ne (by omega)];exact k1
   rw [fk m1]
   simp only [aC]
   rw [cL (cj m1)]
   simp only [ah]
   refine hk _ _ ((x3.set (le_refl _) _).set (by omega) _) ⟨w,?_,(xs.take n),(d1.bL k0 _).bL m1 _,hc,?_⟩ ⟨_,wi,wn,by rw [Rk],hwl⟩
   ·have h0n:(0<n↔0<val 10000 xs):=by
     rw [←bT]
     constructor
     ·intro h0
      have:=dw.low (by decide) hc (by intro h;rw [h] at yT;simp at yT;omega)
      have:0<10000^((xs.take n).length-1):=pow_pos (by decide)
      omega
     ·intro h0
      by_cases oh:n=0
      ·subst oh;simp [val] at h0
      ·omega
    have:(s&&decide (0<n))=decide ((if s=true then -(val 10000 xs:Int) else (val 10000 xs:Int))<0):=by
     cases s with
     | true=>
      by_cases h0:0<n
      ·have:=h0n.1 h0
       rw [a9 h0,a9 (by simp;omega)];rfl
      ·have:¬0<val 10000 xs:=fun h=>h0 (h0n.2 h)
       rw [aU h0,aU (by simp;omega)];rfl
     | false=>simp
    rw [this]
   ·rw [bT];cases s <;> simp
  cases s with
  | true=>
   simp only [akt,jt,fN,ah,aku,eW,cn,add_zero]
   refine last _ ?_
   rw [Bool.true_and]
   by_cases h0:0<n
   ·simp [h0]
   ·simp [h0]
  | false=>
   simp only [akt,lj,aku,dI,ah,cn,add_zero]
   exact last _ rfl
 simp only [fN,ah]
 by_cases oh:n=0
 ·subst oh
  rw [aU (show ¬(0:Int)<((0:Nat):Int) by omega)]
  simp only [akv,lj,aks,dI,ah,dV]
  exact fin (by simpa using dw.nil 10000)
 ·rw [a9 (show (0:Int)<(n:Int) by omega)]
  have e3:IntKind.wrap .i64 ((n:Int)-1)=((n-1:Nat):Int):=by rw [wrap64 (by omega) (by omega)];omega
  obtain ⟨i,p1,p2⟩:=mh.get (j:=n-1) (by omega)
  simp only [akv,jt,cn,zero_add,ah,qK,gq,e3,p1,p2,jA,aks,eW,bX]
  refine ⟨fun hz=>?_,fun hz=>?_⟩
  ·simp only [true_and]
   refine hL (n-1) ⟨by omega,?_⟩ (by omega)
   have:=iX 10000 xs (i:=n-1) (by omega)
   rw [show n-1+1=n by omega] at this
   have rK:xs[n-1]'(by omega)=0:=by omega
   rw [rK,mul_zero] at this
   omega
  ·refine fin (Hv (hl.mono fun y hy=>List.mem_of_mem_take hy) ?_)
   intro h1 h2
   rw [List.getElem_take] at h2
   simp only [length_take] at h2
   apply hz
   have hm:min n xs.length-1=n-1:=by omega
   simp only [hm] at h2
   omega
theorem xM {s:Bool} {v:Value} {xs:List Nat} {h:ae} {K:Value→ae→Prop} (hd:DS 3 .i64 h v xs) (hl:cd 10000 xs) (hs:xs.length≤1000)
  (hk:∀r h',EX h h'→ZV h' r (if s then -(val 10000 xs:Int) else val 10000 xs)→K r h'):aj prog 100 [.agg #[B s,v]] h K:=
 VM hd hl hs fun r h' x z _=>hk r h' x z
end
section
theorem B6 {a b:Nat} (hb:b≠0) (ha:a<9223372036854775808):ai .quo (.int .i64 (a:Int)) (.int .i64 (b:Int))=some (I ((a / b:Nat):Int)):=by
 have h:¬((b:Int)=0):=by omega
 have h2:a / b≤a:=Nat.div_le_self _ _
 simp only [ai,hI,if_true,if_neg h]
 have e:(a:Int).tdiv (b:Int)=((a / b:Nat):Int):=rfl
 rw [e]
 generalize a / b=q at*
 rw [wrap64 (by omega) (by omega)]
theorem Si (h:ae):dH 3 0 [.int .i64 0] h []=some (sl 3 h.length 0 0,h++[.arr 3 []]):=rfl
theorem ahG (h:ae):oG h.length (h++[.arr 3 []]) (sl 3 h.length 0 0) []:=.inr ⟨h.length,le_refl _,rfl,by simp⟩
theorem amp {va vb:Value} {xs ys:List Nat} {h:ae} {K:Value→ae→Prop} (hx:DS 3 .i64 h va xs) (hy:DS 3 .i64 h vb ys) (lx:cd 10000 xs) (ly:cd 10000 ys) (sx:xs.length≤400) (sy:ys.length≤400)
  (hk:∀v h' os,EX h h'→DS 3 .i64 h' v os→cd 10000 os→os.length≤500→val 10000 os=val 10000 xs+val 10000 ys→K v h'):aj prog 104 [va,vb] h K:=by
 refine f104 ?_
 simp only [Mx,Si,aC]
 refine dL (σ:=Value×Nat×List Nat×ae) (fun p=>[p.1,I p.2.1,I p.2.2.1.length]) (fun p=>p.2.2.2)
  (fun p=>EX h p.2.2.2∧oG h.length p.2.2.2 p.1 p.2.2.1∧p.2.1≤1∧cd 10000 p.2.2.1∧p.2.2.1.length≤max xs.length ys.length+1∧(p.2.2.1.length=max xs.length ys.length+1→p.2.1=0)∧val 10000 p.2.2.1+10000^p.2.2.1.length*p.2.1=val 10000 (xs.take p.2.2.1.length)+val 10000 (ys.take p.2.2.1.length)) (fun p=>max xs.length ys.length+1-p.2.2.1.length)
  (sl 3 h.length 0 0,0,[],h++[.arr 3 []]) rfl rfl ⟨EX.append _ _,ahG h,by simp,fun x hx=>by simp at hx,by simp,by simp,by simp [val]⟩ ?_
 rintro ⟨v,c,os,bR⟩ ⟨hex,iT,hc,fe,hlen,IB,bT⟩ L hL
 simp only at hex iT hc fe hlen IB bT hL⊢
 rw [azB]
 have dx:=hx.mono hex
 have dy:=hy.mono hex
 -- one HL
 have Dk:∀(x y:Nat),x<10000→y<10000→(os.length<max xs.length ys.length∨0<c)→val 10000 (xs.take (os.length+1))=val 10000 (xs.take os.length)+10000^os.length*x→val 10000 (ys.take (os.length+1))=val 10000 (ys.take os.length)+10000^os.length*y→
   (x=0∧y=0∨os.length<max xs.length ys.length)→JH prog K va vb v (I os.length) (I ((c+x+y:Nat):Int)) L bR:=by
  intro x y gZ kf rC e1 e2 Bq
  rw [azy]
  rw [show (.int .i64 10000:Value)=.int .i64 ((10000:Nat):Int) from rfl,Aa _ _ _ (by decide)]
  simp only [ah]
  refine N9 iT hex (by omega) ?_
  intro v' h2 x2 o2
  rw [B6 (by decide) (by omega)]
  simp only [ah,azz,cQ,fA os.length (by omega),true_and]
  have aFc:os.length<max xs.length ys.length+1:=by
   rcases rC with h | h
   ·omega
   ·apply byContradiction
    intro Qh
    have:=IB (by omega)
    omega
  have hm:(c+x+y)%10000<10000:=mod_lt _ (by decide)
  have lG:=Nat.mod_add_div (c+x+y) 10000
  have el:(os++[(c+x+y)%10000]).length=os.length+1:=by simp
  have:=hL (v',(c+x+y) / 10000,os++[(c+x+y)%10000],h2) ⟨x2,o2,by show (c+x+y) / 10000≤1;omega,fe.append (fun z hz=>by simp at hz;omega),by rw [el];omega,?_,?_⟩ (by rw [el];omega)
  ·rw [el] at this
   exact this
  ·intro h9
   rw [el] at h9
   show (c+x+y) / 10000=0
   rcases Bq with ⟨rfl,rfl⟩ | h
   ·omega
   ·omega
  ·rw [el]
   show val 10000 (os++[(c+x+y)%10000])+10000^(os.length+1)*((c+x+y) / 10000)=_
   rw [nJ,e1,e2,pow_succ]
   simp only [val,mul_zero,add_zero]
   generalize (c+x+y) / 10000=q at*
   generalize (c+x+y)%10000=m at*
   generalize 10000^os.length=P at*
   generalize val 10000 os=V at*
   clear hL dx dy hx hy iT
   grind
 have next:(os.length<max xs.length ys.length∨0<c)→OP (bj va) fun cG=>OP (ai .lss (I os.length) cG) fun dj=>aQ dj
   (OP (bc 1 va (I os.length)) fun cP=>OP (af false 1 bR cP) fun cZ=>OP (ai .add (I c) cZ) fun cT=>B0 prog K va vb v (I os.length) cT L bR)
   (B0 prog K va vb v (I os.length) (I c) L bR):=by
  intro rC
  have alG:∀x:Nat,x<10000→val 10000 (xs.take (os.length+1))=val 10000 (xs.take os.length)+10000^os.length*x→(x=0∨os.length<xs.length)→B0 prog K va vb v (I os.length) (I ((c+x:Nat):Int)) L bR:=by
   intro x gZ e1 xo
   rw [azx]
   simp only [dy.len,ah,cW,bX]
   refine ⟨fun aD=>?_,fun cK=>?_⟩
   ·obtain ⟨i,g1,g2⟩:=dy.get (j:=os.length) (by omega)
    have kf:=ly _ (getElem_mem (show os.length<ys.length by omega))
    have e2:=iX 10000 ys (i:=os.length) (by omega)
    generalize ys[os.length]'(by omega)=y at g2 kf e2
    have ea:IntKind.wrap .i64 (((c+x:Nat):Int)+(y:Int))=((c+x+y:Nat):Int):=by rw [wrap64 (by omega) (by omega)];omega
    simp only [g1,ah,g2,cQ,ea]
    exact Dk x y gZ kf rC e1 e2 (.inr (by omega))
   ·have:=Dk x 0 gZ (by decide) rC e1 (by rw [take_of_length_le (by omega),take_of_length_le (by omega)];simp) (by rcases xo with h | h;exact .inl ⟨h,rfl⟩;exact .inr (by omega))
    simpa using this
  simp only [dx.len,ah,cW,bX]
  refine ⟨fun aD=>?_,fun cK=>?_⟩
  ·obtain ⟨i,g1,g2⟩:=dx.get (j:=os.length) (by omega)
   have gZ:=lx _ (getElem_mem (show os.length<xs.length by omega))
   have e1:=iX 10000 xs (i:=os.length) (by omega)
   generalize xs[os.length]'(by omega)=x at g2 gZ e1
   have ea:IntKind.wrap .i64 ((c:Int)+(x:Int))=((c+x:Nat):Int):=by rw [wrap64 (by omega) (by omega)];omega
   simp only [g1,ah,g2,cQ,ea]
   exact alG x gZ e1 (.inr (by omega))
  ·have:=alG 0 (by decide) (by rw [take_of_length_le (by omega),take_of_length_le (by omega)];simp) (.inl rfl)
   simpa using this
 have done:¬(os.length<max xs.length ys.length∨0<c)→SO prog K v bR:=by
  intro dG
  rw [azA]
  refine hk v bR os hex iT.ds fe (by omega) ?_
  have uY:c=0:=by omega
  rw [uY,mul_zero,add_zero,take_of_length_le (by omega),take_of_length_le (by omega)] at bT
  exact bT
 simp only [dx.len,ah,cW]
 by_cases h1:os.length<xs.length
 ·rw [a9 (show (os.length:Int)<(xs.length:Int) by omega)]
  simp only [akw,gn,Uc,eW,ah,Ud,Kh,dX]
  exact next (.inl (by omega))
 ·rw [aU (show ¬(os.length:Int)<(xs.length:Int) by omega)]
  simp only [akw,eB,dy.len,ah,cW]
  by_cases h2:os.length<ys.length
  ·rw [a9 (show (os.length:Int)<(ys.length:Int) by omega)]
   simp only [Uc,dI,ah,Ud,gn,Kh,eW,dX]
   exact next (.inl (by omega))
  ·rw [aU (show ¬(os.length:Int)<(ys.length:Int) by omega)]
   simp only [Uc,dI,ah,Ud,eB,fN]
   by_cases h3:0<c
   ·rw [a9 (show (0:Int)<(c:Int) by omega)]
    simp only [Kh,dI,ah,dX]
    exact next (.inr h3)
   ·rw [aU (show ¬(0:Int)<(c:Int) by omega)]
    simp only [Kh,dI,ah,dV]
    exact done (by omega)
theorem Lj {va vb:Value} {xs ys:List Nat} {h:ae} {K:Value→ae→Prop} (hx:DS 3 .i64 h va xs) (hy:DS 3 .i64 h vb ys) (lx:cd 10000 xs) (ly:cd 10000 ys) (sx:xs.length≤400) (hyx:ys.length≤xs.length) (hle:val 10000 ys≤val 10000 xs)
  (hk:∀v h' os,EX h h'→DS 3 .i64 h' v os→cd 10000 os→os.length≤500→val 10000 os=val 10000 xs-val 10000 ys→K v h'):aj prog 103 [va,vb] h K:=by
 refine f103 ?_
 simp only [Mw,Si,aC]
 refine dL (σ:=Value×Nat×List Nat×ae) (fun p=>[p.1,I p.2.1,I p.2.2.1.length]) (fun p=>p.2.2.2)
  (fun p=>EX h p.2.2.2∧oG h.length p.2.2.2 p.1 p.2.2.1∧p.2.1≤1∧cd 10000 p.2.2.1∧p.2.2.1.length≤xs.length∧val 10000 p.2.2.1+val 10000 (ys.take p.2.2.1.length)=val 10000 (xs.take p.2.2.1.length)+10000^p.2.2.1.length*p.2.1) (fun p=>xs.length-p.2.2.1.length)
  (sl 3 h.length 0 0,0,[],h++[.arr 3 []]) rfl rfl ⟨EX.append _ _,ahG h,by simp,fun x hx=>by simp at hx,by simp,by simp [val]⟩ ?_
 rintro ⟨v,c,os,bR⟩ ⟨hex,iT,hc,fe,hlen,bT⟩ L hL
 simp only at hex iT hc fe hlen bT hL⊢
 rw [azw]
 have dx:=hx.mono hex
 have dy:=hy.mono hex
 simp only [dx.len,ah,cW,bX]
 refine ⟨fun aD=>?_,fun cK=>?_⟩
 ·have bC:os.length<xs.length:=by omega
  obtain ⟨i,g1,g2⟩:=dx.get bC
  have gZ:=lx _ (getElem_mem bC)
  have e1:=iX 10000 xs bC
  generalize xs[os.length]=x at g2 gZ e1
  have Dk:∀y:Nat,y<10000→val 10000 (ys.take (os.length+1))=val 10000 (ys.take os.length)+10000^os.length*y→JF prog K va vb v (I os.length) (I ((x:Int)-c-y)) L bR:=by
   intro y kf e2
   rw [azs]
   have go:∀d b:Nat,d<10000→b≤1→d+y+c=x+10000*b→JG prog K va vb v (I b) (I os.length) (I d) L bR:=by
    intro d b hd hb he
    rw [azt]
    refine N9 iT hex (by omega) ?_
    intro v' h2 x2 o2
    simp only [azu,cQ,ah,fA os.length (by omega),true_and]
    have el:(os++[d]).length=os.length+1:=by simp
    have:=hL (v',b,os++[d],h2) ⟨x2,o2,hb,fe.append (fun z hz=>by simp at hz;omega),by rw [el];omega,?_⟩ (by rw [el];omega)
    ·rw [el] at this
     exact this
    ·rw [el]
     show val 10000 (os++[d])+_=_
     rw [nJ,e1,e2,pow_succ]
     simp only [val,mul_zero,add_zero]
     generalize 10000^os.length=P at*
     generalize val 10000 os=V at*
     clear hL dx dy hx hy iT
     grind
   simp only [cW,ah,bX]
   refine ⟨fun jk=>?_,fun jm=>?_⟩
   ·obtain ⟨d,hd⟩:∃d:Nat,(x:Int)-c-y+10000=d:=⟨((x:Int)-c-y+10000).toNat,by omega⟩
    simp only [cQ,ah,hd]
    rw [wrap64 (by omega) (by omega)]
    exact go d 1 (by omega) (by omega) (by omega)
   ·obtain ⟨d,hd⟩:∃d:Nat,(x:Int)-c-y=d:=⟨((x:Int)-c-y).toNat,by omega⟩
    rw [hd]
    exact go d 0 (by omega) (by omega) (by omega)
  simp only [g1,ah,g2,gq,dy.len,cW,bX]
  rw [wrap64 (n:=(x:Int)-c) (by omega) (by omega)]
  refine ⟨fun hly=>?_,fun hgy=>?_⟩
  ·obtain ⟨i',k1,k2⟩:=dy.get (j:=os.length) (by omega)
   have kf:=ly _ (getElem_mem (show os.length<ys.length by omega))
   have e2:=iX 10000 ys (i:=os.length) (by omega)
   generalize ys[os.length]'(by omega)=y at k2 kf e2
   simp only [k1,ah,k2,gq]
   rw [wrap64 (by omega) (by omega)]
   exact Dk y kf e2
  ·have:=Dk 0 (by decide) (by rw [take_of_length_le (by omega),take_of_length_le (by omega)];simp)
   simpa using this
 ·have hl:os.length=xs.length:=by omega
  rw [azv]
  rw [hl,take_length,take_of_length_le hyx] at bT
  have aD:=m9 fe
  rw [hl] at aD
  have uY:c=0:=by
   apply byContradiction
   intro bp
   have:c=1:=by omega
   subst this
   omega
  subst uY
  exact hk v bR os hex iT.ds fe (by omega) (by omega)
theorem VN {va vb:Value} {a b:Nat} {h:ae} {K:Value→ae→Prop} (ha:fD h va a) (hb:fD h vb b) (la:a<br) (lb:b<br) (hk:K (I (m8 a b)) h):aj prog 101 [va,vb] h K:=by
 obtain ⟨xs,hx,cx,rfl⟩:=ha
 obtain ⟨ys,hy,cy,rfl⟩:=hb
 have l1:=rh cx la
 have l2:=rh cy lb
 have less:val 10000 xs<val 10000 ys→K (.int .i64 (-1)) h:=fun h1=>by unfold m8 at hk;rw [if_pos h1] at hk;exact hk
 have more:val 10000 ys<val 10000 xs→K (.int .i64 1) h:=fun h1=>by unfold m8 at hk;rw [if_neg (by omega),if_pos h1] at hk;exact hk
 have same:val 10000 xs=val 10000 ys→K (.int .i64 0) h:=fun h1=>by unfold m8 at hk;rw [if_neg (by omega),if_neg (by omega)] at hk;exact hk
 refine f101 ?_
 simp only [Mu,hx.len,hy.len,ah,rf,FF,cW,bX]
 refine ⟨fun bp=>⟨fun aD=>less (dw.zM (by decide) cx cy (by omega)),fun cK=>more (dw.zM (by decide) cy cx (by omega))⟩,fun he=>?_⟩
 have fK:xs.length=ys.length:=by omega
 simp only [gq,ah]
 have e1:IntKind.wrap .i64 ((xs.length:Int)-1)=(xs.length:Int)-1:=by rw [wrap64 (by omega) (by omega)]
 rw [e1]
 refine dL (σ:=Nat) (fun i=>[I ((i:Int)-1)]) (fun _=>h) (fun i=>i≤xs.length∧xs.drop i=ys.drop i) (fun i=>i) xs.length rfl rfl ⟨le_refl _,by rw [List.drop_length,fK,List.drop_length]⟩ ?_
 rintro i ⟨hi,oQ⟩ L hL
 rw [azr]
 simp only [nS,ah,bX]
 refine ⟨fun cK=>?_,fun aD=>?_⟩
 ·obtain ⟨j,rfl⟩:∃j,i=j+1:=⟨i-1,by omega⟩
  have ej:(((j+1:Nat):Int)-1)=(j:Int):=by omega
  rw [ej]
  obtain ⟨ia,a1,a2⟩:=hx.get (j:=j) (by omega)
  obtain ⟨ib,b1,b2⟩:=hy.get (j:=j) (by omega)
  simp only [a1,a2,b1,b2,ah,true_and,cW,bX]
  refine ⟨fun aD=>less (K3 cx.1 cy.1 fK (i:=j) (by omega) oQ (by omega)),fun cK=>?_⟩
  simp only [fN,ah,bX]
  refine ⟨fun sG=>more (K3 cy.1 cx.1 fK.symm (i:=j) (by omega) oQ.symm (by omega)),fun hle=>?_⟩
  simp only [gq,ah]
  rw [wrap64 (by omega) (by omega)]
  refine hL j ⟨by omega,?_⟩ (by omega)
  rw [drop_eq_getElem_cons (by omega),drop_eq_getElem_cons (show j<ys.length by omega),oQ]
  congr 1
  omega
 ·have:i=0:=by omega
  subst this
  rw [drop_zero,drop_zero] at oQ
  exact same (by rw [oQ])
end
section
theorem yp {h':ae} {j:Nat} {b0 v0 b v:Value} {K:Value→ae→Prop} (hg:h'[j]?=some (.arr 35 [b0,v0])) (hk:K (.agg #[b,v]) (h'.set j (.arr 35 [b,v]))):
  OH (aE 2 h' (pt j 0) (.agg #[b,v])) fun _ h6=>OP (af true 2 h6 (pt j 0)) fun r0=>K r0 h6:=by
 rw [fk hg]
 simp only [aC]
 rw [cL (cj hg)]
 exact ah.2 hk
structure amn (h:ae) (va vb:Value) (sa sb:Bool) (h3:ae):Prop where
 ex:EX h h3
 a0:af false 1 h3 (pt h.length 0)=some (B sa)
 a1:af false 1 h3 (pt h.length 1)=some va
 b0:af false 1 h3 (pt (h.length+1) 0)=some (B sb)
 b1:af false 1 h3 (pt (h.length+1) 1)=some vb
 a2:af true 2 h3 (pt h.length 0)=some (.agg #[B sa,va])
 b2:af true 2 h3 (pt (h.length+1) 0)=some (.agg #[B sb,vb])
 out:h3[h.length+2]?=some (.arr 35 [.bool false,.slice none 0 0])
theorem Gj {h:ae} {va vb:Value} {sa sb:Bool} {K:Value→Value→Value→ae→Prop} (hk:∀h3,amn h va vb sa sb h3→K (pt h.length 0) (pt (h.length+1) 0) (pt (h.length+2) 0) h3):
  OH (bm 35 h (.agg #[B sa,va])) fun a2 h_1=>OH (bm 35 h_1 (.agg #[B sb,vb])) fun b3 h_2=>OH (aV 35 [(.bool false),(.slice none 0 0)] h_2) fun x4 h_3=>K a2 b3 x4 h_3:=by
 have e1:∀(g:ae) (s:Bool) (v:Value),bm 35 g (.agg #[B s,v])=some (pt g.length 0,g++[.arr 35 [B s,v]]):=fun _ _ _=>rfl
 have e2:∀(g:ae),aV 35 [(.bool false),(.slice none 0 0)] g=some (pt g.length 0,g++[.arr 35 [(.bool false),(.slice none 0 0)]]):=fun _=>rfl
 simp only [e1,e2,aC,length_append,length_cons,length_nil]
 have g0:(h++[aq.arr 35 [B sa,va]]++[aq.arr 35 [B sb,vb]]++[aq.arr 35 [(.bool false),(.slice none 0 0)]])[h.length]?=some (.arr 35 [B sa,va]):=by simp
 have g1:(h++[aq.arr 35 [B sa,va]]++[aq.arr 35 [B sb,vb]]++[aq.arr 35 [(.bool false),(.slice none 0 0)]])[h.length+1]?=some (.arr 35 [B sb,vb]):=by simp
 have g2:(h++[aq.arr 35 [B sa,va]]++[aq.arr 35 [B sb,vb]]++[aq.arr 35 [(.bool false),(.slice none 0 0)]])[h.length+2]?=some (.arr 35 [(.bool false),(.slice none 0 0)]):=by simp
 refine hk _ ⟨((EX.append _ _).push _).push _,?_,?_,?_,?_,cL g0,cL g1,g2⟩
 ·simp [af,aR,cf]
 ·simp [af,aR,cf]
 ·simp [af,aR,cf]
 ·simp [af,aR,cf]
theorem Ol {b:Bool} {e:TypeId} {k:IntKind} {h:ae} {v:Value} {xs:List Nat} (d:DS e k h v xs):dc [(.bool false),(.slice none 0 0)] [(0,1,B b),(1,1,v)]=some (.agg #[B b,v]):=by
 rcases d with ⟨rfl,_⟩ | ⟨i,rfl,_⟩ <;> rfl
theorem Wo {va vb:Value} {a b:Int} {h:ae} {K:Value→ae→Prop} (ha:ZV h va a) (hb:ZV h vb b) (la:a.natAbs<br) (lb:b.natAbs<br) (hk:∀r h',EX h h'→ZV h' r (a+b)→K r h'):aj prog 70 [va,vb] h K:=by
 obtain ⟨v,rfl,hv⟩:=ha
 obtain ⟨w,rfl,hw⟩:=hb
 refine f70 ?_
 unfold NC
 refine Gj ?_
 intro h3 x
 have vH:=hv.mono x.ex
 have rJ:=hw.mono x.ex
 obtain ⟨xs,dx,cx,ex⟩:=id vH
 obtain ⟨ys,dy,cy,ey⟩:=id rJ
 have l1:=rh cx (by rw [ex];exact la)
 have l2:=rh cy (by rw [ey];exact lb)
 simp only [cn,add_zero,zero_add,ah,x.a0,x.a1,x.b0,x.b1,Dn,Bool.false_eq_true,if_false]
 -- gR result,put in its place
 have put:∀(s:Bool) (u:Value) (os:List Nat) (h4:ae) (z:Int),EX h3 h4→DS 3 .i64 h4 u os→cd 10000 os→os.length≤500→(if s then -(val 10000 os:Int) else (val 10000 os:Int))=z→z=a+b→
   OP (dc [(.bool false),(.slice none 0 0)] [(0,1,B s),(1,1,u)]) fun bM=>aj prog 100 [bM] h4 fun aP h_5=>OH (aE 2 h_5 (pt (h.length+2) 0) aP) fun _ h_6=>OP (af true 2 h_6 (pt (h.length+2) 0)) fun r0=>K r0 h_6:=by
  intro s u os h4 z x4 d4 l4 s4 hz ov
  simp only [Ol d4,ah]
  refine xM d4 l4 (by omega) ?_
  intro r h5 x5 zr
  rw [hz,ov] at zr
  obtain ⟨q,rfl,hq⟩:=id zr
  have g':=(x4.trans x5).get x.out
  exact yp g' (hk _ _ (((x.ex.trans x4).trans x5).set (by omega) _) (zr.bL g' _))
 refine At (fun he=>?_) fun bp=>?_
 ·have hs:decide (a<0)=decide (b<0):=by simpa using he
  have dP:(a<0↔b<0):=by simpa using hs
  simp only [true_and]
  refine amp dx dy cx.1 cy.1 (by omega) (by omega) ?_
  intro u h4 os x4 d4 l4 s4 v4
  refine ⟨⟨EX.load x4 x.a0,trivial⟩,?_⟩
  have:=put (decide (a<0)) u os h4 _ x4 d4 l4 s4 rfl (by
   rw [v4,ex,ey]
   by_cases h0:a<0
   ·rw [a9 h0];simp;omega
   ·rw [aU h0];simp;omega)
  simpa using this
 ·have hs:decide (a<0)≠decide (b<0):=by simpa using bp
  have dP:¬(a<0↔b<0):=fun h=>hs (decide_eq_decide.2 h)
  refine VN vH rJ la lb ?_
  simp only [nS,ah,bX]
  have ll:∀{p q:List Nat},dw 10000 p→dw 10000 q→val 10000 q≤val 10000 p→q.length≤p.length:=by
   intro p q cp cq IT
   apply byContradiction
   intro hc
   have:=dw.zM (by decide) cp cq (by omega)
   omega
  refine ⟨fun cK=>?_,fun aD=>?_⟩
  ·have hle:b.natAbs≤a.natAbs:=by
    apply byContradiction
    intro hc
    unfold m8 at cK
    rw [if_pos (by omega)] at cK
    omega
   simp only [x.a0,x.a1,x.b1,ah,true_and]
   refine Lj dx dy cx.1 cy.1 (by omega) (ll cx cy (by omega)) (by omega) ?_
   intro u h4 os x4 d4 l4 s4 v4
   refine ⟨⟨EX.load x4 x.a0,trivial⟩,?_⟩
   have:=put (decide (a<0)) u os h4 _ x4 d4 l4 s4 rfl (by
    rw [v4,ex,ey]
    by_cases h0:a<0
    ·rw [a9 h0];simp;omega
    ·rw [aU h0];simp;omega)
   simpa using this
  ·have hle:a.natAbs≤b.natAbs:=by
    apply byContradiction
    intro hc
    unfold m8 at aD
    rw [if_neg (by omega),if_pos (by omega)] at aD
    omega
   simp only [x.b0,x.a1,x.b1,ah,true_and]
   refine Lj dy dx cy.1 cx.1 (by omega) (ll cy cx (by omega)) (by omega) ?_
   intro u h4 os x4 d4 l4 s4 v4
   refine ⟨⟨EX.load x4 x.b0,trivial⟩,?_⟩
   have:=put (decide (b<0)) u os h4 _ x4 d4 l4 s4 rfl (by
    rw [v4,ex,ey]
    by_cases h0:b<0
    ·rw [a9 h0];simp;omega
    ·rw [aU h0];simp;omega)
   simpa using this
theorem fD.pN {h:ae} {v:Value} {n:Nat} (p:fD h v n):∃l:Nat,bj v=some (I l)∧(0<l↔0<n):=by
 obtain ⟨xs,d,c,rfl⟩:=p
 refine ⟨xs.length,d.len,?_⟩
 constructor
 ·intro h0
  have:=dw.low (by decide) c (by rintro rfl;simp at h0)
  have:0<10000^(xs.length-1):=pow_pos (by decide)
  omega
 ·intro h0
  cases xs with
  | nil=>simp [val] at h0
  | cons x xs=>simp
theorem Wu {va:Value} {a:Int} {h:ae} {K:Value→ae→Prop} (ha:ZV h va a) (hk:∀r h',EX h h'→ZV h' r (-a)→K r h'):aj prog 95 [va] h K:=by
 obtain ⟨v,rfl,hv⟩:=ha
 refine f95 ?_
 have e1:bm 35 h (.agg #[B (decide (a<0)),v])=some (pt h.length 0,h++[.arr 35 [B (decide (a<0)),v]]):=rfl
 have e2:∀(g:ae),aV 35 [(.bool false),(.slice none 0 0)] g=some (pt g.length 0,g++[.arr 35 [(.bool false),(.slice none 0 0)]]):=fun _=>rfl
 simp only [NY,e1,e2,aC,length_append,length_cons,length_nil]
 have g0:(h++[aq.arr 35 [B (decide (a<0)),v]]++[aq.arr 35 [(.bool false),(.slice none 0 0)]])[h.length]?=some (.arr 35 [B (decide (a<0)),v]):=by simp
 have g1:(h++[aq.arr 35 [B (decide (a<0)),v]]++[aq.arr 35 [(.bool false),(.slice none 0 0)]])[h.length+1]?=some (.arr 35 [(.bool false),(.slice none 0 0)]):=by simp
 have x1:EX h (h++[aq.arr 35 [B (decide (a<0)),v]]++[aq.arr 35 [(.bool false),(.slice none 0 0)]]):=(EX.append _ _).push _
 generalize h++[aq.arr 35 [B (decide (a<0)),v]]++[aq.arr 35 [(.bool false),(.slice none 0 0)]]=h1 at g0 g1 x1⊢
 have l0:af false 1 h1 (pt h.length 0)=some (B (decide (a<0))):=by simp [af,aR,g0,cf]
 have l1:af false 1 h1 (pt h.length 1)=some v:=by simp [af,aR,g0,cf]
 have rH:=hv.mono x1
 obtain ⟨l,n1,n2⟩:=rH.pN
 have last:∀c:Bool,c=decide (-a<0)→OH (aE 1 h1 (pt h.length 0) (B c)) fun _ h_1=>OP (af true 2 h_1 (pt h.length 0)) fun aA=>OH (aE 2 h_1 (pt (h.length+1) 0) aA) fun _ h_2=>OP (af true 2 h_2 (pt (h.length+1) 0)) fun r0=>K r0 h_2:=by
  rintro c rfl
  rw [pW g0 (by simp) rfl rfl]
  simp only [aC,List.set_cons_zero]
  rw [cL (cj g0)]
  simp only [ah]
  have m1:(h1.set h.length (.arr 35 [B (decide (-a<0)),v]))[h.length+1]?=some (.arr 35 [(.bool false),(.slice none 0 0)]):=by rw [getElem?_set_ne (by omega)];exact g1
  refine yp m1 (hk _ _ ((x1.set (le_refl _) _).set (by omega) _) ⟨v,rfl,?_⟩)
  have:(-a).natAbs=a.natAbs:=by omega
  rw [this]
  exact (rH.bL g0 _).bL m1 _
 simp only [cn,add_zero,ah,l0,qV]
 by_cases h0:a<0
 ·rw [a9 h0]
  simp only [Bool.not_true,ale,lj,alf,dI,ah,cn,add_zero]
  rw [a9 h0] at*
  exact last _ (by simp;omega)
 ·rw [aU h0]
  simp only [Bool.not_false,ale,jt,cn,zero_add,ah,l1,n1,fN,alf,eW,add_zero]
  refine last _ ?_
  rw [decide_eq_decide]
  omega
theorem Lu {va vb:Value} {a b:Int} {h:ae} {K:Value→ae→Prop} (ha:ZV h va a) (hb:ZV h vb b) (la:a.natAbs<br) (lb:b.natAbs<br) (hk:∀r h',EX h h'→ZV h' r (a-b)→K r h'):aj prog 92 [va,vb] h K:=by
 have oa:=ha
 have oO:=hb
 obtain ⟨v,rfl,hv⟩:=ha
 obtain ⟨w,rfl,hw⟩:=hb
 refine f92 ?_
 unfold NV
 refine Gj ?_
 intro h3 x
 simp only [ah,x.a2,x.b2,true_and]
 refine Wu (oO.mono x.ex) ?_
 intro r1 h4 x4 i1
 refine ⟨⟨EX.load x4 x.a2,trivial⟩,?_⟩
 refine Wo (oa.mono (x.ex.trans x4)) i1 la (by rw [Int.natAbs_neg];exact lb) ?_
 intro r2 h5 x5 i2
 have g':=(x4.trans x5).get x.out
 obtain ⟨u,rfl,hu⟩:=id i2
 refine yp g' (hk _ _ (((x.ex.trans x4).trans x5).set (by omega) _) ?_)
 rw [Int.sub_eq_add_neg]
 exact i2.bL g' _
def lL (z:Int):Int:=if z=0 then 0 else if z<0 then -1 else 1
theorem C48 {va:Value} {a:Int} {h:ae} {K:Value→ae→Prop} (ha:ZV h va a) (hk:∀h',EX h h'→K (I (lL a)) h'):aj prog 48 [va] h K:=by
 obtain ⟨v,rfl,hv⟩:=ha
 refine f48 ?_
 have e1:bm 35 h (.agg #[B (decide (a<0)),v])=some (pt h.length 0,h++[.arr 35 [B (decide (a<0)),v]]):=rfl
 simp only [No,e1,aC]
 have l0:af false 1 (h++[.arr 35 [B (decide (a<0)),v]]) (pt h.length 0)=some (B (decide (a<0))):=sV rfl
 have l1:af false 1 (h++[.arr 35 [B (decide (a<0)),v]]) (pt h.length 1)=some v:=sV rfl
 have x1:EX h (h++[.arr 35 [B (decide (a<0)),v]]):=EX.append _ _
 obtain ⟨l,n1,n2⟩:=hv.pN
 have ca:=hk _ x1
 unfold lL at ca
 simp only [cn,zero_add,add_zero,ah,l1,n1,jA,bX,l0]
 refine ⟨fun h0=>?_,fun h0=>⟨fun hn=>?_,fun hn=>?_⟩⟩
 ·rw [if_pos (by omega)] at ca;exact ca
 ·rw [if_neg (by omega),if_pos hn] at ca;exact ca
 ·rw [if_neg (by omega),if_neg hn] at ca;exact ca
theorem Lq {va vb:Value} {a b:Int} {h:ae} {K:Value→ae→Prop} (ha:ZV h va a) (hb:ZV h vb b) (la:a.natAbs<br) (lb:b.natAbs<br) (hk:∀h',EX h h'→K (I (lL (a-b))) h'):aj prog 72 [va,vb] h K:=by
 have oa:=ha
 have oO:=hb
 obtain ⟨v,rfl,hv⟩:=ha
 obtain ⟨w,rfl,hw⟩:=hb
 refine f72 ?_
 have e1:∀(g:ae) (s:Bool) (v:Value),bm 35 g (.agg #[B s,v])=some (pt g.length 0,g++[.arr 35 [B s,v]]):=fun _ _ _=>rfl
 simp only [NF,e1,aC,length_append,length_cons,length_nil]
 have g0:(h++[aq.arr 35 [B (decide (a<0)),v]]++[aq.arr 35 [B (decide (b<0)),w]])[h.length]?=some (.arr 35 [B (decide (a<0)),v]):=by simp
 have g1:(h++[aq.arr 35 [B (decide (a<0)),v]]++[aq.arr 35 [B (decide (b<0)),w]])[h.length+1]?=some (.arr 35 [B (decide (b<0)),w]):=by simp
 have x1:EX h (h++[aq.arr 35 [B (decide (a<0)),v]]++[aq.arr 35 [B (decide (b<0)),w]]):=(EX.append _ _).push _
 simp only [zero_add,cL g0,cL g1,ah]
 refine Lu (oa.mono x1) (oO.mono x1) la lb ?_
 intro r h2 x2 zr
 refine C48 zr ?_
 intro h3 x3
 exact hk h3 ((x1.trans x2).trans x3)
end
section
theorem Yi {b:Nat} {hx:ae} {v:Value} {os:List Nat} {d:Nat} {K:Value→ae→Prop} (hb:b≤hx.length) (o:oG b hx v os) (hl:os.length≤10000)
  (hk:∀v' bR,(∀d,d<b→bR[d]?=hx[d]?)→b≤bR.length→oG b bR v' (os++[d])→K v' bR):OH (dH 3 1 [.int .i64 0] hx [(0,1,I d)]) fun a h2=>OH (dT 3 1 8 h2 v a) K:=by
 have hlen:(hx.take b).length=b:=by rw [length_take];omega
 have hex:EX (hx.take b) hx:=by
  refine ⟨by omega,fun i hi=>?_⟩
  rw [List.getElem?_take_of_lt (by omega)]
 refine N9 (h0:=hx.take b) (by rw [hlen];exact o) hex hl ?_
 intro v' bR x o'
 rw [hlen] at o'
 refine hk v' bR (fun d hd=>?_) (by have:=x.1;omega) o'
 rw [x.2 d (by omega),List.getElem?_take_of_lt hd]
theorem oG.set {b j:Nat} {hx:ae} {v:Value} {os:List Nat} (o:oG b hx v os) (hj:j<b) (x:aq):oG b (hx.set j x) v os:=
 fE.dY o fun d _ _ hd=>by rw [getElem?_set_ne (by omega)]
theorem aCB {a:Int} {b:Nat} (hb:b≠0):ai .rem (.int .i64 a) (.int .i64 (b:Int))=some (I (a.tmod b)):=by
 have h:¬((b:Int)=0):=by omega
 simp only [ai,hI,if_true,if_neg h]
theorem aCu {a:Int} {b:Nat} (hb:b≠0) (h1: -9223372036854775808<a) (h2:a<9223372036854775808):ai .quo (.int .i64 a) (.int .i64 (b:Int))=some (I (a.tdiv b)):=by
 have h:¬((b:Int)=0):=by omega
 have h3:(a.tdiv b).natAbs≤a.natAbs:=by
  rw [Int.natAbs_tdiv,Int.natAbs_natCast];exact Nat.div_le_self _ _
 simp only [ai,hI,if_true,if_neg h]
 rw [wrap64 (by omega) (by omega)]
theorem uG {z:Int} {h:ae} {K:Value→ae→Prop} (hz:z.natAbs<1000000000000000000) (hk:∀r h',EX h h'→ZV h' r z→K r h'):aj prog 55 [I z] h K:=by
 refine f55 ?_
 have e2:∀g:ae,aV 35 [(.bool false),(.slice none 0 0)] g=some (pt g.length 0,g++[.arr 35 [(.bool false),(.slice none 0 0)]]):=fun _=>rfl
 have e3:∀b:Bool,dc [(.bool false),(.slice none 0 0)] [(0,1,B b)]=some (.agg #[B b,.slice none 0 0]):=fun _=>rfl
 simp only [Nr,e2,aC,cW,ah,e3,length_append,length_cons,length_nil]
 have g1:(h++[aq.arr 35 [(.bool false),(.slice none 0 0)]]++[aq.arr 35 [(.bool false),(.slice none 0 0)]])[h.length+1]?=some (.arr 35 [(.bool false),(.slice none 0 0)]):=by simp
 have g0:(h++[aq.arr 35 [(.bool false),(.slice none 0 0)]]++[aq.arr 35 [(.bool false),(.slice none 0 0)]])[h.length]?=some (.arr 35 [(.bool false),(.slice none 0 0)]):=by simp
 have x1:EX h (h++[aq.arr 35 [(.bool false),(.slice none 0 0)]]++[aq.arr 35 [(.bool false),(.slice none 0 0)]]):=(EX.append _ _).push _
 have yP:(h++[aq.arr 35 [(.bool false),(.slice none 0 0)]]++[aq.arr 35 [(.bool false),(.slice none 0 0)]]).length=h.length+2:=by simp
 generalize h++[aq.arr 35 [(.bool false),(.slice none 0 0)]]++[aq.arr 35 [(.bool false),(.slice none 0 0)]]=h1 at*
 simp only [zero_add]
 rw [fk g1]
 simp only [aC]
 refine dL (σ:=Int×List Nat×Value×ae) (fun p=>[I p.1]) (fun p=>p.2.2.2)
  (fun p=>h.length+2≤p.2.2.2.length∧EX h p.2.2.2∧p.2.2.2[h.length]?=some (.arr 35 [.bool false,.slice none 0 0])∧p.2.2.2[h.length+1]?=some (.arr 35 [B (decide (z<0)),p.2.2.1])∧oG (h.length+2) p.2.2.2 p.2.2.1 p.2.1∧cd 10000 p.2.1∧p.2.1.length≤5∧p.1.natAbs<10000^(5-p.2.1.length)∧val 10000 p.2.1+10000^p.2.1.length*p.1.natAbs=z.natAbs∧(p.1=0→dw 10000 p.2.1)) (fun p=>p.1.natAbs)
  (z,[],.slice none 0 0,h1.set (h.length+1) (.arr 35 [B (decide (z<0)),.slice none 0 0])) rfl rfl
  ⟨by simp [yP],x1.set (by omega) _,by rw [getElem?_set_ne (by omega)];exact g0,cj g1,.inl ⟨rfl,rfl⟩,fun _ hx=>by simp at hx,by simp,by simp;omega,by simp [val],fun _=>dw.nil _⟩ ?_
 rintro ⟨a,os,v,hx⟩ ⟨hlen,hex,k0,k1,iT,fe,gO,gX,bT,yD⟩ L hL
 simp only at hlen hex k0 k1 iT fe gO gX bT yD hL⊢
 rw [aAT]
 simp only [rf,ah,FF]
 refine ⟨fun bp=>?_,fun heq=>?_⟩
 ·have oa:a≠0:=bp
  have aFm:a.natAbs≤z.natAbs:=by
   have:1*a.natAbs≤10000^os.length*a.natAbs:=Nat.mul_le_mul_right _ (pow_pos (by decide))
   omega
  have aFg:os.length<5:=by
   apply byContradiction
   intro hc
   have:5-os.length=0:=by omega
   rw [this] at gX
   omega
  have oS:(a.tmod 10000).natAbs=a.natAbs%10000:=Int.natAbs_tmod _ _
  have u9:(a.tdiv 10000).natAbs=a.natAbs / 10000:=Int.natAbs_tdiv _ _
  have step:JV prog K (I a) (pt h.length 0) (pt (h.length+1) 0) (I ((a.natAbs%10000:Nat):Int)) L hx:=by
   rw [aAR]
   have ld:af false 1 hx (pt (h.length+1) 1)=some v:=by simp [af,aR,k1,cf]
   simp only [cn,zero_add,ah,ld]
   refine Yi hlen iT (by omega) ?_
   intro v' bR hs lH tS
   have kI:bR[h.length+1]?=some (.arr 35 [B (decide (z<0)),v]):=by rw [hs _ (by omega)];exact k1
   rw [pW kI (by simp) tS.ds.one.1 tS.ds.one.2]
   simp only [aC,List.set_cons_succ,List.set_cons_zero]
   rw [show (.int .i64 10000:Value)=.int .i64 ((10000:Nat):Int) from rfl,aCu (by decide) (by omega) (by omega)]
   simp only [ah,true_and]
   have lG:=Nat.mod_add_div a.natAbs 10000
   have el:(os++[a.natAbs%10000]).length=os.length+1:=by simp
   have hm:a.natAbs%10000<10000:=mod_lt _ (by decide)
   have Iy:(a.tdiv ((10000:Nat):Int)).natAbs=a.natAbs / 10000:=u9
   refine hL (a.tdiv ((10000:Nat):Int),os++[a.natAbs%10000],v',bR.set (h.length+1) (.arr 35 [B (decide (z<0)),v'])) ⟨?_,?_,?_,cj kI,tS.set (by omega) _,fe.append (fun y hy=>by simp at hy;omega),by rw [el];omega,?_,?_,?_⟩ ?_
   ·rw [length_set];exact lH
   ·refine EX.set ⟨by have:=hex.1;omega,fun i hi=>?_⟩ (by omega) _
    rw [hs i (by omega)];exact hex.2 i hi
   ·rw [getElem?_set_ne (by omega),hs _ (by omega)];exact k0
   ·show (a.tdiv ((10000:Nat):Int)).natAbs<_
    rw [el,Iy]
    have:5-os.length=(5-(os.length+1))+1:=by omega
    rw [this,pow_succ] at gX
    exact Nat.div_lt_of_lt_mul (by rw [Nat.mul_comm];exact gX)
   ·show val 10000 (os++[a.natAbs%10000])+10000^(os++[a.natAbs%10000]).length*(a.tdiv ((10000:Nat):Int)).natAbs=_
    rw [el,nJ,Iy,←bT,pow_succ]
    simp only [val,mul_zero,add_zero]
    have:=congrArg (10000^os.length*·) lG
    rw [Nat.mul_add] at this
    rw [←this,Nat.mul_assoc,Nat.add_assoc]
   ·intro h0
    have nZ:a.natAbs / 10000=0:=by
     have h0b:a.tdiv ((10000:Nat):Int)=0:=h0
     rw [←Iy,h0b];rfl
    refine Hv (fe.append (fun y hy=>by simp at hy;omega)) ?_
    intro h1 h2
    simp only [el,Nat.add_sub_cancel] at h2
    rw [List.getElem_append_right (le_refl _)] at h2
    simp at h2
    omega
   ·show (a.tdiv ((10000:Nat):Int)).natAbs<a.natAbs
    rw [Iy]
    exact Nat.div_lt_self (by omega) (by decide)
  rw [show (.int .i64 10000:Value)=.int .i64 ((10000:Nat):Int) from rfl,aCB (by decide)]
  simp only [ah,cW,bX]
  have aFe:(a.tmod ((10000:Nat):Int)).natAbs=a.natAbs%10000:=oS
  refine ⟨fun hn=>?_,fun hn=>?_⟩
  ·have e4:gw .neg (I (a.tmod ((10000:Nat):Int)))=some (I (-(a.tmod ((10000:Nat):Int)))):=by
    simp only [gw]
    rw [wrap64 (by omega) (by omega),Int.zero_sub]
   rw [e4]
   simp only [ah]
   rw [show -(a.tmod ((10000:Nat):Int))=((a.natAbs%10000:Nat):Int) by omega]
   exact step
  ·rw [show a.tmod ((10000:Nat):Int)=((a.natAbs%10000:Nat):Int) by omega]
   exact step
 ·have ha:a=0:=heq
  subst ha
  rw [aAS]
  rw [cL k1]
  simp only [ah]
  rw [fk k0]
  simp only [aC]
  rw [cL (cj k0)]
  refine ah.2 (hk _ _ (hex.set (le_refl _) _) ⟨v,rfl,os,iT.ds.bL k0 _,yD rfl,?_⟩)
  simpa using bT
abbrev hz (h:ae) (os:List Nat):ae:=h++[.arr 3 (os.map fun d:Nat=>I d)]
theorem afg {h:ae} {n:Nat} (hn:n≤1000):mV 3 8 [.int .i64 0] h (I n) (I n)=some (sl 3 h.length 0 n,hz h (replicate n 0)):=by
 have zm:∀m,iO [Value.int .i64 0] m=(replicate m 0).map fun d:Nat=>I d:=by
  intro m
  induction m with
  | zero=>rfl
  | succ m ih=>
   have:iO [Value.int .i64 0] (m+1)=Value.int .i64 0::iO [Value.int .i64 0] m:=by simp [iO,List.replicate_succ]
   rw [this,ih,List.replicate_succ];rfl
 simp only [mV]
 rw [if_pos ⟨by omega,by omega,by omega,by omega⟩,Int.toNat_natCast,zm]
theorem aek (h:ae) (os:List Nat):(hz h os)[h.length]?=some (.arr 3 (os.map fun d:Nat=>I d)):=by simp [hz]
theorem awP {h:ae} {os:List Nat} {j:Nat} (d:Nat) (hj:j<os.length):aE 1 (hz h os) (pt h.length j) (I d)=some (undef,hz h (os.set j d)):=by
 rw [pW (aek h os) (by simpa using hj) rfl rfl]
 simp [hz,List.map_set]
theorem awO {h:ae} {os:List Nat} {j:Nat} (hj:j<os.length):af false 1 (hz h os) (pt h.length j)=some (I os[j]):=by
 simp [af,aR,cf,hj]
theorem aej (h:ae) (os:List Nat):DS 3 .i64 (hz h os) (sl 3 h.length 0 os.length) os:=.inr ⟨h.length,rfl,.inr ⟨[],by simp [aR,hz]⟩⟩
theorem vJ (h:ae) (os:List Nat):EX h (hz h os):=EX.append _ _
theorem ayD {x y:Nat} (hx:x<10000) (hy:y<10000):x*y≤99980001:=by
 have:=Nat.mul_le_mul (show x≤9999 by omega) (show y≤9999 by omega)
 omega
theorem aDu (a b:Int):(if (!(decide (a<0)==decide (b<0)))=true then -((a.natAbs*b.natAbs:Nat):Int) else ((a.natAbs*b.natAbs:Nat):Int))=a*b:=by
 have ea:(a.natAbs:Int)=if a<0 then -a else a:=by split <;> omega
 have eb:(b.natAbs:Int)=if b<0 then -b else b:=by split <;> omega
 rw [Int.natCast_mul,ea,eb]
 by_cases h1:a<0 <;> by_cases h2:b<0 <;> simp [h1,h2,Int.neg_mul,Int.mul_neg]
theorem wy {va vb:Value} {a b:Int} {h:ae} {K:Value→ae→Prop} (ha:ZV h va a) (hb:ZV h vb b) (la:a.natAbs<br) (lb:b.natAbs<br) (hk:∀r h',EX h h'→ZV h' r (a*b)→K r h'):aj prog 71 [va,vb] h K:=by
 obtain ⟨v,rfl,hv⟩:=ha
 obtain ⟨w,rfl,hw⟩:=hb
 refine f71 ?_
 unfold ND
 refine Gj ?_
 intro h3 x
 obtain ⟨xs,dx,cx,ex⟩:=hv.mono x.ex
 obtain ⟨ys,dy,cy,ey⟩:=hw.mono x.ex
 have l1:=rh cx (by rw [ex];exact la)
 have l2:=rh cy (by rw [ey];exact lb)
 have hB:(0:Nat)<10000:=by decide
 have e0:IntKind.wrap .i64 ((xs.length:Int)+(ys.length:Int))=((xs.length+ys.length:Nat):Int):=by rw [wrap64 (by omega) (by omega)];omega
 simp only [cn,zero_add,ah,x.a1,x.b1,dx.len,dy.len,cQ,e0,fA (xs.length+ys.length) (by omega),afg (show xs.length+ys.length+1≤1000 by omega),aC]
 refine dL (σ:=Nat×List Nat) (fun p=>[I p.1]) (fun p=>hz h3 p.2)
  (fun p=>p.1≤xs.length∧p.2.length=xs.length+ys.length+1∧cd 10000 p.2∧(∀j (hj:j<p.2.length),p.1+ys.length≤j→p.2[j]=0)∧val 10000 p.2=val 10000 (xs.take p.1)*val 10000 ys) (fun p=>xs.length-p.1)
  (0,replicate (xs.length+ys.length+1) 0) rfl rfl ⟨by simp,by simp,cd.wx hB _,by simp,by simp [xI,val]⟩ ?_
 rintro ⟨i,os⟩ ⟨hi,gO,fe,zm,bT⟩ L hL
 simp only at hi gO fe zm bT hL⊢
 have BN:∀ps,af false 1 (hz h3 ps) (pt h.length 1)=some v:=fun ps=>EX.load (vJ h3 ps) x.a1
 have zF:∀ps,af false 1 (hz h3 ps) (pt (h.length+1) 1)=some w:=fun ps=>EX.load (vJ h3 ps) x.b1
 rw [aBP]
 simp only [cn,zero_add,BN,dx.len,cW,ah,bX]
 refine ⟨fun aD=>?_,fun cK=>?_⟩
 ·have bC:i<xs.length:=by omega
  have gZ:xs[i]<10000:=cx.1 _ (getElem_mem bC)
  have zi:=iX 10000 xs bC
  refine dL (σ:=Nat×Nat×List Nat) (fun p=>[I p.1,I p.2.1]) (fun p=>hz h3 p.2.2)
   (fun p=>p.2.1≤ys.length+1∧(p.2.1=ys.length+1→p.1=0)∧p.1<10000∧p.2.2.length=xs.length+ys.length+1∧cd 10000 p.2.2∧(∀j (hj:j<p.2.2.length),i+ys.length+1≤j→p.2.2[j]=0)∧(p.2.1≤ys.length→∀j (hj:j<p.2.2.length),i+ys.length≤j→p.2.2[j]=0)∧val 10000 p.2.2+10000^(i+p.2.1)*p.1=val 10000 os+10000^i*(xs[i]*val 10000 (ys.take p.2.1))) (fun p=>ys.length+1-p.2.1)
   (0,0,os) rfl rfl ⟨by simp,by simp,hB,gO,fe,fun j hj h=>zm j hj (by omega),fun _=>zm,by simp [val]⟩ ?_
  rintro ⟨c,k,ps⟩ ⟨gF,hkc,hc,mT,vD,xf,QT,xe⟩ L2 hZ
  simp only at gF hkc hc mT vD xf QT xe hZ⊢
  have dx':=dx.mono (vJ h3 ps)
  have dy':=dy.mono (vJ h3 ps)
  have pJ:i+k<ps.length:=by omega
  have awa:ps[i+k]<10000:=vD _ (getElem_mem pJ)
  have ei:IntKind.wrap .i64 ((i:Int)+(k:Int))=((i+k:Nat):Int):=by rw [wrap64 (by omega) (by omega)];omega
  -- gR next HL
  have step:∀p:Nat,p≤99980001→k<ys.length+1→(k=ys.length→p=0)→xs[i]*val 10000 (ys.take (k+1))=xs[i]*val 10000 (ys.take k)+10000^k*p→
    xC prog K (pt h.length 0) (pt (h.length+1) 0) (pt (h.length+2) 0) (sl 3 h3.length 0 (xs.length+ys.length+1)) (I i) (I k) (I ((ps[i+k]+c+p:Nat):Int)) L L2 (hz h3 ps):=by
   intro p hp gr hkp hpv
   rw [aBL]
   have lJ:=tk 10000 ps (i+k) ((ps[i+k]+c+p)%10000) pJ
   have oS:(ps[i+k]+c+p)%10000<10000:=mod_lt _ hB
   have lG:=Nat.mod_add_div (ps[i+k]+c+p) 10000
   have u9:(ps[i+k]+c+p) / 10000<10000:=by omega
   have IB:k=ys.length→(ps[i+k]+c+p) / 10000=0:=by
    intro sJ
    have:=QT (by omega) (i+k) pJ (by omega)
    rw [this,hkp sJ]
    omega
   simp only [cQ,ei,ah]
   rw [show (.int .i64 10000:Value)=.int .i64 ((10000:Nat):Int) from rfl,Aa _ _ _ (by decide),B6 (by decide) (by omega)]
   simp only [ah]
   rw [mL (show i+k<xs.length+ys.length+1 by omega)]
   simp only [ah]
   rw [awP _ pJ]
   simp only [aC,aBM,cQ,ah,fA k (by omega),true_and]
   refine hZ ((ps[i+k]+c+p) / 10000,k+1,ps.set (i+k) ((ps[i+k]+c+p)%10000)) ⟨by show k+1≤ys.length+1;omega,fun h=>IB (by simp only at h;omega),u9,by show (ps.set _ _).length=_;rw [length_set];exact mT,vD.set oS _,?_,?_,?_⟩ (by show ys.length+1-(k+1)<ys.length+1-k;omega)
   ·intro j hj eC
    show (ps.set (i+k) _)[j]=0
    rw [getElem_set_ne (by omega)]
    exact xf j (by simpa using hj) eC
   ·intro mR j hj eC
    have sI:k+1≤ys.length:=mR
    show (ps.set (i+k) _)[j]=0
    rw [getElem_set_ne (by omega)]
    exact QT (by omega) j (by simpa using hj) eC
   ·show val 10000 (ps.set (i+k) _)+10000^(i+(k+1))*_=val 10000 os+10000^i*(xs[i]*val 10000 (ys.take (k+1)))
    rw [hpv,←Nat.add_assoc,pow_succ]
    rw [Nat.pow_add] at lJ xe⊢
    generalize ps[i+k]=o at*
    generalize (o+c+p)%10000=m at*
    generalize (o+c+p) / 10000=q at*
    generalize xs[i]*val 10000 (ys.take k)=v at*
    generalize val 10000 (ps.set (i+k) m)=s1 at*
    generalize val 10000 ps=s0 at*
    generalize val 10000 os=s2 at*
    generalize 10000^i=P at*
    generalize 10000^k=Q at*
    clear hZ hL dx dy dx' dy' hv hw x BN zF
    have h1:P*Q*(m+10000*q)=P*Q*(o+c+p):=by rw [lG]
    grind
  have body:k<ys.length+1→OP (ai .add (I i) (I k)) fun dU=>OP (bc 1 (sl 3 h3.length 0 (xs.length+ys.length+1)) dU) fun ef=>OP (af false 1 (hz h3 ps) ef) fun eL=>OP (ai .add eL (I c)) fun bG=>
    OP (bj w) fun fC=>OP (ai .lss (I k) fC) fun gB=>aQ gB
     (OP (bc 1 v (I i)) fun df=>OP (af false 1 (hz h3 ps) df) fun gD=>OP (bc 1 w (I k)) fun fI=>OP (af false 1 (hz h3 ps) fI) fun kn=>OP (ai .mul gD kn) fun fQ=>OP (ai .add bG fQ) fun lV=>
      xC prog K (pt h.length 0) (pt (h.length+1) 0) (pt (h.length+2) 0) (sl 3 h3.length 0 (xs.length+ys.length+1)) (I i) (I k) lV L L2 (hz h3 ps))
     (xC prog K (pt h.length 0) (pt (h.length+1) 0) (pt (h.length+2) 0) (sl 3 h3.length 0 (xs.length+ys.length+1)) (I i) (I k) bG L L2 (hz h3 ps)):=by
   intro gr
   have e1:IntKind.wrap .i64 ((ps[i+k]:Int)+(c:Int))=((ps[i+k]+c:Nat):Int):=by rw [wrap64 (by omega) (by omega)];omega
   simp only [cQ,ei,ah]
   rw [mL (show i+k<xs.length+ys.length+1 by omega)]
   simp only [ah,awO pJ,cQ,e1,dy.len,cW,bX]
   refine ⟨fun mm=>?_,fun Qu=>?_⟩
   ·have QH:k<ys.length:=by omega
    obtain ⟨ia,a1,a2⟩:=dx'.get bC
    obtain ⟨ib,b1,b2⟩:=dy'.get QH
    have kf:ys[k]<10000:=cy.1 _ (getElem_mem QH)
    have hxy:=ayD gZ kf
    have Pl:((xs[i]:Int)*(ys[k]:Int))=((xs[i]*ys[k]:Nat):Int):=by simp
    have e2:IntKind.wrap .i64 ((ps[i+k]+c:Nat)+(xs[i]*ys[k]:Nat):Int)=((ps[i+k]+c+xs[i]*ys[k]:Nat):Int):=by rw [wrap64 (by omega) (by omega)];omega
    simp only [a1,a2,b1,b2,ah,wI,Pl]
    rw [wrap64 (n:=((xs[i]*ys[k]:Nat):Int)) (by omega) (by omega)]
    simp only [cQ,ah,e2]
    refine step (xs[i]*ys[k]) hxy gr (fun h=>by omega) ?_
    rw [iX 10000 ys QH]
    grind
   ·have sJ:k=ys.length:=by omega
    have:=step 0 (by omega) gr (fun _=>rfl) (by rw [sJ,take_length,take_of_length_le (by omega)];rfl)
    simpa using this
  rw [aBK]
  simp only [cn,zero_add,zF,dy.len,cW,ah]
  have other:∀t:Bool,(t=true→k<ys.length+1)→(t=false→ys.length≤k∧c=0)→aQ (B t) (OP (ai .add (I i) (I k)) fun dU=>OP (bc 1 (sl 3 h3.length 0 (xs.length+ys.length+1)) dU) fun ef=>OP (af false 1 (hz h3 ps) ef) fun eL=>OP (ai .add eL (I c)) fun bG=>
    OP (bj w) fun fC=>OP (ai .lss (I k) fC) fun gB=>aQ gB
     (OP (bc 1 v (I i)) fun df=>OP (af false 1 (hz h3 ps) df) fun gD=>OP (bc 1 w (I k)) fun fI=>OP (af false 1 (hz h3 ps) fI) fun kn=>OP (ai .mul gD kn) fun fQ=>OP (ai .add bG fQ) fun lV=>
      xC prog K (pt h.length 0) (pt (h.length+1) 0) (pt (h.length+2) 0) (sl 3 h3.length 0 (xs.length+ys.length+1)) (I i) (I k) lV L L2 (hz h3 ps))
     (xC prog K (pt h.length 0) (pt (h.length+1) 0) (pt (h.length+2) 0) (sl 3 h3.length 0 (xs.length+ys.length+1)) (I i) (I k) bG L L2 (hz h3 ps)))
    (TE prog K (pt h.length 0) (pt (h.length+1) 0) (pt (h.length+2) 0) (sl 3 h3.length 0 (xs.length+ys.length+1)) (I i) L (hz h3 ps)):=by
   intro t h1 h2
   refine At (fun he=>body (h1 (by simpa using he))) fun bp=>?_
   obtain ⟨A8,rfl⟩:=h2 (by simpa using bp)
   rw [aBN]
   simp only [cQ,ah,fA i (by omega),true_and]
   have avK:val 10000 (ys.take k)=val 10000 ys:=by rw [take_of_length_le A8]
   refine hL (i+1,ps) ⟨by show i+1≤xs.length;omega,mT,vD,fun j hj eC=>xf j hj (by have:i+1+ys.length≤j:=eC;omega),?_⟩ (by show xs.length-(i+1)<xs.length-i;omega)
   show val 10000 ps=val 10000 (xs.take (i+1))*val 10000 ys
   rw [zi,Nat.add_mul,←bT,Nat.mul_assoc,←avK,←xe]
   omega
  by_cases gr:k<ys.length
  ·rw [a9 (show (k:Int)<(ys.length:Int) by omega)]
   simp only [ak5,gn,ak6,eW,ah,cn,zero_add,BN,zF,true_and]
   exact other true (fun _=>by omega) (fun h=>by cases h)
  ·rw [aU (show ¬(k:Int)<(ys.length:Int) by omega)]
   simp only [ak5,eB,ak6,fN,dI,ah,cn,zero_add,BN,zF,true_and]
   exact other _ (fun h=>by
    have h0:(0:Int)<(c:Int):=by simpa using h
    apply byContradiction
    intro Qh
    have:=hkc (by omega)
    omega) (fun h=>by
    have h0:¬(0:Int)<(c:Int):=by simpa using h
    omega)
 ·have:i=xs.length:=by omega
  subst this
  rw [aBO]
  rw [take_length] at bT
  have oz:af false 1 (hz h3 os) (pt h.length 0)=some (B (decide (a<0))):=EX.load (vJ h3 os) x.a0
  have qK:af false 1 (hz h3 os) (pt (h.length+1) 0)=some (B (decide (b<0))):=EX.load (vJ h3 os) x.b0
  have e:sl 3 h3.length 0 (xs.length+ys.length+1)=sl 3 h3.length 0 os.length:=by rw [gO]
  simp only [cn,zero_add,ah,oz,qK,Dn,if_true,e]
  simp only [Ol (aej h3 os),ah]
  refine xM (aej h3 os) fe (by omega) ?_
  intro r h5 x5 zr
  have hzv:(if (!(decide (a<0)==decide (b<0)))=true then -(val 10000 os:Int) else (val 10000 os:Int))=a*b:=by
   rw [bT,ex,ey]
   exact aDu a b
  rw [hzv] at zr
  obtain ⟨q,rfl,hq⟩:=id zr
  have g':=((vJ h3 os).trans x5).get x.out
  exact yp g' (hk _ _ (((x.ex.trans (vJ h3 os)).trans x5).set (by omega) _) (zr.bL g' _))
end
section
def QZ (h:ae) (val:Value) (a b:Int):Prop:=∃u w,val=.agg #[B (decide (a<0)),u,B (decide (b<0)),w]∧fD h u a.natAbs∧fD h w b.natAbs
theorem QZ.mono {h h':ae} {v:Value} {a b:Int} (x:EX h h') (p:QZ h v a b):QZ h' v a b:=let ⟨u,w,e,m,n⟩:=p;⟨u,w,e,m.mono x,n.mono x⟩
theorem QZ.bL {h:ae} {v:Value} {a b:Int} {j:Nat} {e:TypeId} {s:Bool} {r:List Value} (p:QZ h v a b) (hj:h[j]?=some (.arr e (.bool s::r))) (o:aq):QZ (h.set j o) v a b:=
 let ⟨u,w,e,m,n⟩:=p;⟨u,w,e,m.bL hj o,n.bL hj o⟩
theorem nH {h:ae} {i:Nat} {e:TypeId} {a b c d x y z w:Value} (hg:h[i]?=some (.arr e [a,b,c,d])):aE 4 h (pt i 0) (.agg #[x,y,z,w])=some (undef,h.set i (.arr e [x,y,z,w])):=by
 simp [aE,vK,hg,iA,de,Value.cells,setAt]
theorem hO {h:ae} {i:Nat} {e:TypeId} {a b c d:Value} (hg:h[i]?=some (.arr e [a,b,c,d])):af true 4 h (pt i 0)=some (.agg #[a,b,c,d]):=by
 simp [af,aR,hg,cf]
theorem jE {h:ae} {i:Nat} {e:TypeId} {a b c d:Value} (hg:h[i]?=some (.arr e [a,b,c,d])):af true 2 h (pt i 0)=some (.agg #[a,b]):=by
 simp [af,aR,hg,cf]
theorem kJ {h:ae} {i:Nat} {e:TypeId} {a b c d:Value} (hg:h[i]?=some (.arr e [a,b,c,d])):af true 2 h (pt i 2)=some (.agg #[c,d]):=by
 simp [af,aR,hg,cf]
theorem rk {h':ae} {j:Nat} {e:TypeId} {b0 v0 c0 w0 a b c d:Value} {K:Value→ae→Prop} (hg:h'[j]?=some (.arr e [b0,v0,c0,w0])) (hk:K (.agg #[a,b,c,d]) (h'.set j (.arr e [a,b,c,d]))):
  OH (aE 4 h' (pt j 0) (.agg #[a,b,c,d])) fun _ h6=>OP (af true 4 h6 (pt j 0)) fun r0=>K r0 h6:=by
 rw [nH hg]
 simp only [aC]
 rw [hO (cj hg)]
 exact ah.2 hk
theorem Gk {b c:Bool} {e e':TypeId} {k k':IntKind} {h h':ae} {v w:Value} {xs ys:List Nat} (d:DS e k h v xs) (d':DS e' k' h' w ys):
  dc [(.bool false),(.slice none 0 0),(.bool false),(.slice none 0 0)] [(0,2,.agg #[B b,v]),(2,2,.agg #[B c,w])]=some (.agg #[B b,v,B c,w]):=by
 rcases d with ⟨rfl,_⟩ | ⟨i,rfl,_⟩ <;> rcases d' with ⟨rfl,_⟩ | ⟨i',rfl,_⟩ <;> rfl
abbrev z4:List Value:=[(.bool false),(.slice none 0 0),(.bool false),(.slice none 0 0)]
theorem AX {h h':ae} {j:Nat} {va vb:Value} {a b:Int} {K:Value→ae→Prop} (ha:ZV h' va a) (hb:ZV h' vb b) (x:EX h h') (hj:h.length≤j) (hg:h'[j]?=some (.arr 37 z4)) (hk:∀r h',EX h h'→QZ h' r a b→K r h'):
  OP (dc [(.bool false),(.slice none 0 0),(.bool false),(.slice none 0 0)] [(0,2,va),(2,2,vb)]) fun ba=>OH (aE 4 h' (pt j 0) ba) fun _ h6=>OP (af true 4 h6 (pt j 0)) fun r0=>K r0 h6:=by
 obtain ⟨u,rfl,hu⟩:=ha
 obtain ⟨w,rfl,hw⟩:=hb
 obtain ⟨xs,dx,cx⟩:=id hu
 obtain ⟨ys,dy,cy⟩:=id hw
 rw [Gk dx dy]
 exact ah.2 (rk hg (hk _ _ (x.set hj _) ⟨u,w,rfl,hu.bL hg _,hw.bL hg _⟩))
theorem C20 {z:Int} {h:ae} {K:Value→ae→Prop} (hz:z.natAbs<1000000000000000000) (hk:∀r h',EX h h'→QZ h' r z 1→K r h'):aj prog 20 [I z] h K:=by
 refine f20 ?_
 have e1:aV 37 [(.bool false),(.slice none 0 0),(.bool false),(.slice none 0 0)] h=some (pt h.length 0,h++[.arr 37 z4]):=rfl
 simp only [Nb,e1,aC]
 refine uG hz ?_
 intro r1 h1 x1 z1
 refine uG (z:=1) (by decide) ?_
 intro r2 h2 x2 z2
 exact AX (z1.mono x2) z2 ((EX.append _ _).trans (x1.trans x2)) (le_refl _) ((x1.trans x2).get bn) hk
structure amo (h:ae) (a b c d a' b' c' d':Value) (h3:ae):Prop where
 ex:EX h h3
 a0:af true 2 h3 (pt h.length 0)=some (.agg #[a,b])
 a2:af true 2 h3 (pt h.length 2)=some (.agg #[c,d])
 b0:af true 2 h3 (pt (h.length+1) 0)=some (.agg #[a',b'])
 b2:af true 2 h3 (pt (h.length+1) 2)=some (.agg #[c',d'])
 a4:af true 4 h3 (pt h.length 0)=some (.agg #[a,b,c,d])
 b4:af true 4 h3 (pt (h.length+1) 0)=some (.agg #[a',b',c',d'])
 out:h3[h.length+2]?=some (.arr 37 z4)
theorem Yu {h:ae} {s s' t t':Bool} {b d b' d':Value} {K:Value→Value→Value→ae→Prop} (hk:∀h3,amo h (B s) b (B s') d (B t) b' (B t') d' h3→K (pt h.length 0) (pt (h.length+1) 0) (pt (h.length+2) 0) h3):
  OH (bm 37 h (.agg #[B s,b,B s',d])) fun a2 h_1=>OH (bm 37 h_1 (.agg #[B t,b',B t',d'])) fun b3 h_2=>OH (aV 37 [(.bool false),(.slice none 0 0),(.bool false),(.slice none 0 0)] h_2) fun x4 h_3=>K a2 b3 x4 h_3:=by
 have e1:∀(g:ae) (s s':Bool) (b d:Value),bm 37 g (.agg #[B s,b,B s',d])=some (pt g.length 0,g++[.arr 37 [B s,b,B s',d]]):=fun _ _ _ _ _=>rfl
 have e2:∀(g:ae),aV 37 [(.bool false),(.slice none 0 0),(.bool false),(.slice none 0 0)] g=some (pt g.length 0,g++[.arr 37 z4]):=fun _=>rfl
 simp only [e1,e2,aC,length_append,length_cons,length_nil]
 have g0:(h++[aq.arr 37 [B s,b,B s',d]]++[aq.arr 37 [B t,b',B t',d']]++[aq.arr 37 z4])[h.length]?=some (.arr 37 [B s,b,B s',d]):=by simp
 have g1:(h++[aq.arr 37 [B s,b,B s',d]]++[aq.arr 37 [B t,b',B t',d']]++[aq.arr 37 z4])[h.length+1]?=some (.arr 37 [B t,b',B t',d']):=by simp
 have g2:(h++[aq.arr 37 [B s,b,B s',d]]++[aq.arr 37 [B t,b',B t',d']]++[aq.arr 37 z4])[h.length+2]?=some (.arr 37 z4):=by simp
 exact hk _ ⟨((EX.append _ _).push _).push _,jE g0,kJ g0,jE g1,kJ g1,hO g0,hO g1,g2⟩
theorem C27 {va vb:Value} {a b c d:Int} {h:ae} {K:Value→ae→Prop} (ha:QZ h va a b) (hb:QZ h vb c d) (la:a.natAbs<br) (lb:b.natAbs<br) (lc:c.natAbs<br) (ld:d.natAbs<br)
  (hk:∀r h',EX h h'→QZ h' r (a*c) (b*d)→K r h'):aj prog 27 [va,vb] h K:=by
 obtain ⟨u,w,rfl,hu,hw⟩:=ha
 obtain ⟨u',w',rfl,zh,oV⟩:=hb
 refine f27 ?_
 unfold Ni
 refine Yu ?_
 intro h3 x
 have za:ZV h3 (.agg #[B (decide (a<0)),u]) a:=⟨u,rfl,hu.mono x.ex⟩
 have zb:ZV h3 (.agg #[B (decide (b<0)),w]) b:=⟨w,rfl,hw.mono x.ex⟩
 have zc:ZV h3 (.agg #[B (decide (c<0)),u']) c:=⟨u',rfl,zh.mono x.ex⟩
 have zd:ZV h3 (.agg #[B (decide (d<0)),w']) d:=⟨w',rfl,oV.mono x.ex⟩
 simp only [cn,add_zero,zero_add,ah,x.a0,x.b0,true_and]
 refine wy za zc la lc ?_
 intro r4 h4 x4 Ap
 simp only [EX.load x4 x.a2,EX.load x4 x.b2,ah,x.a2,x.b2,true_and]
 refine wy (zb.mono x4) (zd.mono x4) lb ld ?_
 intro r5 h5 x5 z5
 exact AX (Ap.mono x5) z5 ((x.ex.trans x4).trans x5) (by omega) ((x4.trans x5).get x.out) hk
theorem C26 {va vb:Value} {a b c d:Int} {h:ae} {K:Value→ae→Prop} (ha:QZ h va a b) (hb:QZ h vb c d) (la:a.natAbs<br) (lb:b.natAbs<br) (lc:c.natAbs<br) (ld:d.natAbs<br) (En:(a*d).natAbs<br) (RW:(c*b).natAbs<br)
  (hk:∀r h',EX h h'→QZ h' r (a*d+c*b) (b*d)→K r h'):aj prog 26 [va,vb] h K:=by
 obtain ⟨u,w,rfl,hu,hw⟩:=ha
 obtain ⟨u',w',rfl,zh,oV⟩:=hb
 refine f26 ?_
 unfold Nh
 refine Yu ?_
 intro h3 x
 have za:ZV h3 (.agg #[B (decide (a<0)),u]) a:=⟨u,rfl,hu.mono x.ex⟩
 have zb:ZV h3 (.agg #[B (decide (b<0)),w]) b:=⟨w,rfl,hw.mono x.ex⟩
 have zc:ZV h3 (.agg #[B (decide (c<0)),u']) c:=⟨u',rfl,zh.mono x.ex⟩
 have zd:ZV h3 (.agg #[B (decide (d<0)),w']) d:=⟨w',rfl,oV.mono x.ex⟩
 simp only [cn,add_zero,zero_add,ah,x.a0,x.b2,true_and]
 refine wy za zd la ld ?_
 intro r4 h4 x4 Ap
 simp only [EX.load x4 x.a2,EX.load x4 x.b0,ah,x.a2,x.b0,true_and]
 refine wy (zc.mono x4) (zb.mono x4) lc lb ?_
 intro r5 h5 x5 z5
 refine Wo (Ap.mono x5) z5 En RW ?_
 intro r6 h6 x6 z6
 have dm:=(x4.trans x5).trans x6
 simp only [EX.load dm x.a2,EX.load dm x.b2,EX.load (x4.trans x5) x.a2,EX.load (x4.trans x5) x.b2,EX.load x4 x.b2,ah,true_and]
 refine wy (zb.mono dm) (zd.mono dm) lb ld ?_
 intro r7 h7 x7 z7
 exact AX (z6.mono x7) z7 ((x.ex.trans dm).trans x7) (by omega) ((dm.trans x7).get x.out) hk
end
section
def dM (s:List UInt8):Nat:=s.foldl (fun d c=>10*d+(c.toNat-48)) 0
theorem Vk:∀(s:List UInt8) (a:Nat),s.foldl (fun d c=>10*d+(c.toNat-48)) a=a*10^s.length+dM s
 | [],a=>by simp [dM]
 | c::s,a=>by
  have h1:=Vk s (10*a+(c.toNat-48))
  have h2:=Vk s (10*0+(c.toNat-48))
  have e:dM (c::s)=s.foldl (fun d c=>10*d+(c.toNat-48)) (10*0+(c.toNat-48)):=rfl
  rw [e,h2,List.foldl_cons,h1,length_cons,pow_succ]
  generalize 10^s.length=P
  generalize c.toNat-48=d
  generalize dM s=w
  grind
theorem Ah (s t:List UInt8):dM (s++t)=dM s*10^t.length+dM t:=by
 show (s++t).foldl _ 0=_
 rw [List.foldl_append,Vk]
 rfl
theorem K0 (c:UInt8):dM [c]=c.toNat-48:=by simp [dM]
def ka (s:List UInt8):Prop:=∀c∈s,48≤c.toNat∧c.toNat≤57
theorem KZ (c:UInt8) (s:List UInt8):dM (c::s)=(c.toNat-48)*10^s.length+dM s:=by
 have:=Ah [c] s
 rw [K0] at this
 exact this
theorem Ai:∀{s:List UInt8},ka s→dM s<10^s.length
 | [],_=>by simp [dM]
 | c::s,h=>by
  have h1:=Ai (s:=s) fun x hx=>h x (by simp [hx])
  have h2:=h c (by simp)
  rw [KZ,length_cons,pow_succ]
  have h3:=Nat.mul_le_mul_right (10^s.length) (show c.toNat-48≤9 by omega)
  omega
end
section
theorem Vl:∀{ds:List Nat},cd 10 ds→dM ((ds.map iR).reverse)=val 10 ds
 | [],_=>rfl
 | d::ds,h=>by
  have h1:=Vl (ds:=ds) fun y hy=>h y (by simp [hy])
  have h2:=h d (by simp)
  rw [List.map_cons,List.reverse_cons,Ah,K0,h1,uQ h2]
  simp only [val,List.length_singleton,Nat.pow_one]
  omega
theorem tG {n:Nat} (hn:n<br):ka (cE n)∧0<(cE n).length∧(cE n).length≤1000∧((cE n).head?=some 48→(cE n).length=1)∧dM (cE n)=n:=by
 obtain ⟨hc,hv⟩:=HI n
 by_cases h0:n=0
 ·subst h0
  have:cE 0=[48]:=rfl
  rw [this]
  exact ⟨fun c hc=>by simp at hc;subst hc;decide,by simp,by simp,by simp,rfl⟩
 ·have e:cE n=((tJ n).map iR).reverse:=by unfold cE;rw [if_neg h0]
  have bp:tJ n≠[]:=by
   intro h
   rw [h] at hv
   exact h0 hv.symm
  rw [e]
  refine ⟨?_,?_,?_,?_,?_⟩
  ·intro c Qg
   simp only [List.mem_reverse,List.mem_map] at Qg
   obtain ⟨d,hd,rfl⟩:=Qg
   rw [uQ (hc.1 d hd)]
   have:=hc.1 d hd
   omega
  ·simp only [List.length_reverse,List.length_map]
   exact List.length_pos_iff.2 bp
  ·simp only [List.length_reverse,List.length_map]
   show _≤Jc
   refine hc.len (by decide) ?_
   rw [hv]
   exact Nat.lt_of_lt_of_le hn Yp
  ·intro mO
   exfalso
   rw [List.head?_reverse,List.getLast?_map] at mO
   cases hl:(tJ n).getLast? with
   | none=>rw [hl] at mO;simp at mO
   | some d=>
    rw [hl] at mO
    have hd:d<10:=hc.1 d (List.mem_of_getLast? hl)
    have h3:iR d=48:=by simpa using mO
    have h4:=congrArg UInt8.toNat h3
    rw [uQ hd] at h4
    have h5:(48:UInt8).toNat=48:=rfl
    rw [h5] at h4
    have:d=0:=by omega
    subst this
    exact hc.2 hl
  ·rw [Vl hc.1,hv]
def gQ (z:Int):List UInt8:=if z<0 then 45::cE z.natAbs else cE z.natAbs
end
end Go.Proofs.YtelmdbpaoifmoaaGreat
