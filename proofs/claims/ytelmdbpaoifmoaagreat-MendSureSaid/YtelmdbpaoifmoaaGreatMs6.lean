/-
  Part 6 of the texts behind a statement of this seat: ZN5, Kp1, Kp2, Kp3, Kp4, Zp4, Zp5, ZMe10, Zs2, Sq27, ZM3, Sim33, Zs4, ZB, ZMe8, Sq21, ZMe9, ZMd, ZMe15, Sq23, Sq28, Sq29, ZSd, Zs6, Kp5, ZN6, Kp6, Kp7, Kp8, Kp9, ZN7, Kp10, Kp11, Kp12, Kq1, ZN8, Kq7, Kq8, Kr1, Kp13, Kp14.
-/
import Derived.Test.YtelmdbpaoifmoaaGreatProg
import Derived.KernelRfl
import Derived.Test.YtelmdbpaoifmoaaGreatMs5
open Bool (and_eq_true)
open Classical (byContradiction)
open Go.Proofs.Tryz (prog)
open Int (natAbs_natCast)
open List (Pairwise append_nil getD_eq_getElem?_getD getElem?_append_left getElem?_append_right getElem?_eq_getElem getElem?_set_ne getElem_mem length_append length_cons length_drop length_map length_take mem_append mem_cons mem_map mem_of_mem_drop mem_singleton replicate take_length take_succ_eq_append_getElem)
open Nat (add_zero gcd le_refl lt_of_lt_of_le pow_le_pow_right zero_add zero_le)
open Option (getD_some)
namespace Go.Proofs.YtelmdbpaoifmoaaGreat
open Go.Sim
section
variable (P : Program) (K : VK)
noncomputable section
variable (s0 x2 x6 x8 x9 aM au aA dF ef dU fz bW cV eR gR : Value) (h : ae)
def agY:=bK prog 108 [[],[],[],[],[],[],[],[2,6,8,9,10,11,38],[2,6,8,9,10,11,38,42],[2,6,8,9,10,11,12],[2,6,8,9,11,12,46],[2,6,8,9,11,46,48],[2,6,8,9,11,50],[2,6,8,9,11,50,52],[2,6,8,9,11,50,52,55],[2,6,8,9,11,50,56],[],[],[],[],[]]
@[irreducible] def Hc:=bR agY
@[irreducible] def ZD:=Hc.r.r.r.r.r.l.r.l.r.r.l
@[irreducible] def ZJ:=Hc.r.r.r.r.r.r
@[irreducible] def arJ:=ZD.r.l
@[irreducible] def Hd:=ZJ.l
@[irreducible] def ZE:=Hd.l.l.r.l
@[irreducible] def arL:=Hd.l.r
@[irreducible] def arK:=Hd.r
@[irreducible] def ZF:=ZE.r.l
@[irreducible] def ZG:=ZF.r.l
@[irreducible] def ZH:=ZG.r.l
@[irreducible] def ZI:=ZH.r.l
@[irreducible] def arM:=ZI.r.l
theorem ayG:agY=some (78,Hc,[.cell true 4 2,.tmp 3]):=by kernel_rfl
def Dn (_P:Program) (K:VK):ar:=aS [.cell true 4 2,.tmp 3] K
def Xr:ar:=aF (aj P ZJ (Dn P K)) (Dn P K)
def Xq:ar:=aF (aj P arK (Dn P K)) (Dn P K)
def Bn:ar:=aF (aj P arL (Xq P K)) (Xq P K)
def aiS:Prop:=ax (aj P ZD (Xr P K)) [2,6,8,9,10,11,38] [x2,x6,x8,x9,aM,au,dF] h
def Ty:Prop:=ax (aj P arJ (Xr P K)) [2,6,8,9,10,11,38,42] [x2,x6,x8,x9,aM,au,dF,ef] h
def Fs:Prop:=ax (aj P Hd (Dn P K)) [2,6,8,9,10,11,12] [x2,x6,x8,x9,aM,au,aA] h
def aiT:Prop:=ax (aj P ZE (Bn P K)) [2,6,8,9,11,12,46] [x2,x6,x8,x9,au,aA,dU] h
def Tz:Prop:=ax (aj P ZF (Bn P K)) [2,6,8,9,11,46,48] [x2,x6,x8,x9,au,dU,fz] h
def TA:Prop:=ax (aj P ZG (Bn P K)) [2,6,8,9,11,50] [x2,x6,x8,x9,au,bW] h
def TC:Prop:=ax (aj P ZH (Bn P K)) [2,6,8,9,11,50,52] [x2,x6,x8,x9,au,bW,cV] h
def TD:Prop:=ax (aj P ZI (Bn P K)) [2,6,8,9,11,50,52,55] [x2,x6,x8,x9,au,bW,cV,eR] h
def Ft:Prop:=ax (aj P arM (Bn P K)) [2,6,8,9,11,50,56] [x2,x6,x8,x9,au,bW,gR] h
theorem alx:Ty P K x2 x6 x8 x9 aM au dF ef h=
 (OP (ck dF ef (.bool false)) fun bO=>
 Fs P K x2 x6 x8 x9 aM au bO h):=az (by kernel_rfl)
theorem aAK:aiS P K x2 x6 x8 x9 aM au dF h=
 (cE dF true
 (OH (cZ 177 1 [(.int .u32 (0))] h [(0,1,(.int .u32 (1)))]) fun ee z1=>
 aq P 126 [au,ee] z1 fun dG z2=>
 OP (ai .gtr dG (.int .i64 (0))) fun ef=>
 Ty P K x2 x6 x8 x9 aM au dF ef z2)
 (Ty P K x2 x6 x8 x9 aM au dF undef h)):=az (by kernel_rfl)
theorem alB:Ft P K x2 x6 x8 x9 au bW gR h=
 (OP (ck bW (.bool true) gR) fun cQ=>
 aQ cQ
 (OP (dW [(.bool false),(.slice none 0 0),(.bool false),(.slice none 0 0)] []) fun cK=>
 OH (aK 4 h x2 cK) fun _ z1=>
 OP (af true 4 z1 x2) fun r0=>
 K (.tuple #[r0,(.bool false)]) z1)
 (aq P 117 [x8,x9] h fun gf z1=>
 aq P 117 [(.bool false),au] z1 fun jU z2=>
 OP (dW [(.bool false),(.slice none 0 0),(.bool false),(.slice none 0 0)] [(0,2,gf),(2,2,jU)]) fun jA=>
 OH (ba 107 [(.bool false),(.slice none 0 0),(.bool false),(.slice none 0 0)] z2) fun aD z3=>
 OH (aK 4 z3 aD jA) fun _ z4=>
 OP (af true 4 z4 aD) fun iD=>
 (True)∧
 OP (gZ .not x6) fun fR=>
 cE fR false
 (OP (aJ 0 aD) fun fA=>
 OP (af true 2 z4 fA) fun jI=>
 (True)∧
 OP (aJ 2 aD) fun gw=>
 OP (af true 2 z4 gw) fun rr=>
 (True)∧
 aq P 120 [jI,rr] z4 fun tZ z5=>
 (af true 4 z5 aD=some iD∧True)∧
 aq P 105 [(.int .i64 (1))] z5 fun kK z6=>
 (af true 4 z6 aD=some iD∧True)∧
 aq P 111 [tZ,kK] z6 fun mQ z7=>
 (af true 4 z7 aD=some iD∧True)∧
 OP (ai .eql mQ (.int .i64 (0))) fun jV=>
 OP (ck fR (.bool true) jV) fun lL=>
 OH (aK 4 z7 x2 iD) fun _ z8=>
 (True)∧
 OP (af true 4 z8 x2) fun r0=>
 K (.tuple #[r0,lL]) z8)
 ((af true 4 z4 aD=some iD∧True)∧
 (af true 4 z4 aD=some iD∧True)∧
 (af true 4 z4 aD=some iD∧True)∧
 OP (ck fR (.bool true) undef) fun lL=>
 OH (aK 4 z4 x2 iD) fun _ z5=>
 (True)∧
 OP (af true 4 z5 x2) fun r0=>
 K (.tuple #[r0,lL]) z5))):=az (by kernel_rfl)
theorem U3:TD P K x2 x6 x8 x9 au bW cV eR h=
 (cE bW false
 (OP (ck cV eR (.bool false)) fun gR=>
 Ft P K x2 x6 x8 x9 au bW gR h)
 (Ft P K x2 x6 x8 x9 au bW undef h)):=az (by kernel_rfl)
theorem alA:TC P K x2 x6 x8 x9 au bW cV h=
 (cE cV true
 (OP (bc x9) fun cM=>
 OP (ai .eql cM (.int .i64 (0))) fun eR=>
 TD P K x2 x6 x8 x9 au bW cV eR h)
 (TD P K x2 x6 x8 x9 au bW cV undef h)):=az (by kernel_rfl)
theorem alz:TA P K x2 x6 x8 x9 au bW h=
 (cE bW false
 (TC P K x2 x6 x8 x9 au bW x8 h)
 (TC P K x2 x6 x8 x9 au bW undef h)):=az (by kernel_rfl)
theorem aly:Tz P K x2 x6 x8 x9 au dU fz h=
 (OP (ck dU (.bool true) fz) fun fQ=>
 TA P K x2 x6 x8 x9 au fQ h):=az (by kernel_rfl)
theorem aAM:aiT P K x2 x6 x8 x9 au aA dU h=
 (cE dU false
 (OP (gZ .not aA) fun fz=>
 Tz P K x2 x6 x8 x9 au dU fz h)
 (Tz P K x2 x6 x8 x9 au dU undef h)):=az (by kernel_rfl)
theorem aAL:Fs P K x2 x6 x8 x9 aM au aA h=
 (OP (gZ .not aM) fun cH=>
 aiT P K x2 x6 x8 x9 au aA cH h):=az (by kernel_rfl)
def Nl:Prop:=
 OH (ba 107 [(.bool false),(.slice none 0 0),(.bool false),(.slice none 0 0)] h) fun x2 z1=>
 aq P 123 [s0,(.string ⟨#[47]⟩)] z1 fun bM z2=>
 OP (cf 0 bM) fun bU=>
 OP (cf 1 bM) fun aO=>
 OP (cf 2 bM) fun aP=>
 aq P 124 [bU,(.string ⟨#[45]⟩)] z2 fun bH z3=>
 OP (cf 0 bH) fun cX=>
 OP (cf 1 bH) fun bD=>
 aq P 125 [cX] z3 fun bn z4=>
 OP (cf 0 bn) fun bz=>
 OP (cf 1 bn) fun bN=>
 OH (cZ 177 1 [(.int .u32 (0))] z4 [(0,1,(.int .u32 (1)))]) fun dD z5=>
 aQ aP
 (aq P 125 [aO] z5 fun bE z6=>
 OP (cf 0 bE) fun de=>
 OP (cf 1 bE) fun dE=>
 aiS P K x2 aP bD bz bN de dE z6)
 (Fs P K x2 aP bD bz bN dD (.bool true) z5)
theorem avj:aj P Hc (aS [.cell true 4 2,.tmp 3] K) (bG [s0]) h=Nl P K s0 h:=by kernel_rfl
theorem f108 {K:VK} {s0:Value} {h:ae} (H:Nl prog K s0 h):aq prog 108 [s0] h K:=
 bT ayG (bP rfl) ((avj prog K s0 h).mpr H)
end
noncomputable section
variable (s0 x1 : Value) (h : ae)
def ahe:=bK prog 123 [[],[]]
@[irreducible] def Z2:=bR ahe
theorem ayV:ahe=some (13,Z2,[.tmp 4,.tmp 5,.tmp 6]):=by kernel_rfl
def NA:Prop:=
 aq P 131 [s0,x1] h fun x9 z1=>
 OP (cf 0 x9) fun aM=>
 OP (cf 1 x9) fun au=>
 OP (cf 2 x9) fun aA=>
 K (.tuple #[aM,au,aA]) z1
theorem avy:aj P Z2 (aS [.tmp 4,.tmp 5,.tmp 6] K) (bG [s0,x1]) h=NA P K s0 x1 h:=by kernel_rfl
theorem f123 {K:VK} {s0 x1:Value} {h:ae} (H:NA prog K s0 x1 h):aq prog 123 [s0,x1] h K:=
 bT ayV (bP rfl) ((avy prog K s0 x1 h).mpr H)
end
noncomputable section
variable (s0 x1 : Value) (h : ae)
def ahf:=bK prog 124 [[],[]]
@[irreducible] def Z3:=bR ahf
theorem ayW:ahf=some (11,Z3,[.tmp 4,.tmp 5]):=by kernel_rfl
def NB:Prop:=
 aq P 132 [s0,x1] h fun x8 z1=>
 OP (cf 0 x8) fun x9=>
 OP (cf 1 x8) fun aM=>
 K (.tuple #[x9,aM]) z1
theorem avz:aj P Z3 (aS [.tmp 4,.tmp 5] K) (bG [s0,x1]) h=NB P K s0 x1 h:=by kernel_rfl
theorem f124 {K:VK} {s0 x1:Value} {h:ae} (H:NB prog K s0 x1 h):aq prog 124 [s0,x1] h K:=
 bT ayW (bP rfl) ((avz prog K s0 x1 h).mpr H)
end
noncomputable section
variable (s0 i4 x5 n6 x7 x8 au aA aP cX bz bk de dE dF dG bW cd : Value) (L1 L2 : LQ) (xs : List Value) (h : ae)
def ahg:=bK prog 125 [[],[],[0,11],[12],[],[],[],[0,4,11,12,19],[0,11,12,19,23],[],[],[],[0],[0,28],[0,28,32],[0,28,32,35],[0,28,36],[0,38],[0,38,41],[],[],[],[],[],[0,5],[],[],[],[],[],[0,5,6,50],[7,8,51],[],[],[],[],[0,5,6,7,8],[],[5],[]]
@[irreducible] def Hn:=bR ahg
@[irreducible] def Hp:=Hn.r.l.r.l.l
@[irreducible] def Z5:=Hn.r.r
@[irreducible] def Z4:=Hp.r.r.l.l.r.l.r.l
@[irreducible] def ar7:=Hp.r.r.l.l.r.r
@[irreducible] def ase:=Hp.r.r.r
@[irreducible] def Ho:=Z5.l
@[irreducible] def ar8:=Z4.r.l
@[irreducible] def Z6:=Ho.l.l.r.l
@[irreducible] def ar9:=Ho.l.r
@[irreducible] def Pa:=Ho.r
@[irreducible] def Z7:=Z6.r.l
@[irreducible] def Pb:=Pa.r.l.l.l
@[irreducible] def aab:=Pa.r.r
@[irreducible] def Z8:=Z7.r.l
@[irreducible] def asb:=Pb.r.l.r.r.l.r.l.l
@[irreducible] def aac:=Pb.r.l.r.r.r
@[irreducible] def asd:=aab.l
@[irreducible] def Z9:=Z8.r.l
@[irreducible] def asc:=aac.l
@[irreducible] def aaa:=Z9.r.l
@[irreducible] def asa:=aaa.r.l
theorem ayX:ahg=some (77,Hn,[.tmp 2,.tmp 3]):=by kernel_rfl
def xu (_P:Program) (K:VK):ar:=aS [.tmp 2,.tmp 3] K
def aoK:ar:=aF (aj P Z5 (xu P K)) (xu P K)
def aoN:ar:=bI 0 (aoK P K)
def ME:ar:=aF (fun f' aU=>(([0,11]:List Nat).map f':List Value)=[s0,au]∧L1 (([12]:List Nat).map f') aU) (aoN P K)
def aoR:ar:=aF (aj P ase (ME P K s0 au L1)) (ME P K s0 au L1)
def XD:ar:=bI 1 (aoR P K s0 au L1)
def Xz:ar:=aF (aj P ar7 (XD P K s0 au L1)) (XD P K s0 au L1)
def XA:ar:=aF (aj P Pa (xu P K)) (xu P K)
def Bo:ar:=aF (aj P ar9 (XA P K)) (XA P K)
def aoL:ar:=aF (aj P aab (xu P K)) (xu P K)
def aoM:ar:=bI 2 (aoL P K)
def XB:ar:=aF (fun f' aU=>(([]:List Nat).map f':List Value)=[]∧L1 (([0,5]:List Nat).map f') aU) (aoM P K)
def MD:ar:=bI 3 (XB P K L1)
def aoO:ar:=aF (aj P aac (MD P K L1)) (MD P K L1)
def aoP:ar:=bI 4 (aoO P K L1)
def aoQ:ar:=aF (fun f' aU=>(([0,5,6,50]:List Nat).map f':List Value)=[s0,x5,n6,bW]∧L2 (([7,8,51]:List Nat).map f') aU) (aoP P K L1)
def aje:Prop:=ax (aj P Hp (ME P K s0 au L1)) ([0,11]++[12]) ([s0,au]++xs) h
def ai9:Prop:=ax (aj P Z4 (Xz P K s0 au L1)) [0,4,11,12,19] [s0,i4,au,aA,aP] h
def TJ:Prop:=ax (aj P ar8 (Xz P K s0 au L1)) [0,11,12,19,23] [s0,au,aA,aP,cX] h
def aja:Prop:=ax (aj P Ho (xu P K)) [0] [s0] h
def ajb:Prop:=ax (aj P Z6 (Bo P K)) [0,28] [s0,bz] h
def TK:Prop:=ax (aj P Z7 (Bo P K)) [0,28,32] [s0,bz,bk] h
def TM:Prop:=ax (aj P Z8 (Bo P K)) [0,28,32,35] [s0,bz,bk,de] h
def TN:Prop:=ax (aj P Z9 (Bo P K)) [0,28,36] [s0,bz,dE] h
def TO:Prop:=ax (aj P aaa (Bo P K)) [0,38] [s0,dF] h
def Fv:Prop:=ax (aj P asa (Bo P K)) [0,38,41] [s0,dF,dG] h
def ajc:Prop:=ax (aj P Pb (XB P K L1)) ([]++[0,5]) ([]++xs) h
def ajd:Prop:=ax (aj P asb (aoQ P K s0 x5 n6 bW L1 L2)) ([0,5,6,50]++[7,8,51]) ([s0,x5,n6,bW]++xs) h
def ajf:Prop:=ax (aj P asc (MD P K L1)) [0,5,6,7,8] [s0,x5,n6,x7,x8] h
def ajg:Prop:=ax (aj P asd (xu P K)) [5] [x5] h
theorem alG:TJ P K s0 au aA aP cX L1 h=
 (OP (ck aP (.bool true) cX) fun bD=>
 aQ bD
 (K (.tuple #[(.slice none 0 0),(.bool false)]) h)
 (OP (ai .add aA (.int .i64 (1))) fun bV=>
 ([s0,au]:List Value)=[s0,au]∧L1 [bV] h)):=az (by kernel_rfl)
theorem alF:ai9 P K s0 i4 au aA aP L1 h=
 (cE aP false
 (OP (nh s0 i4) fun bH=>
 OP (ai .gtr bH (.int .u8 (57))) fun cX=>
 TJ P K s0 au aA aP cX L1 h)
 (TJ P K s0 au aA aP undef L1 h)):=az (by kernel_rfl)
theorem aA7 (s0 au:Value) (L1:LQ) (aA:Value) (h:ae):aje P K s0 au L1 [aA] h=
 (OP (ai .lss aA au) fun aD=>
 aQ aD
 (OP (nh s0 aA) fun bU=>
 OP (ai .lss bU (.int .u8 (48))) fun aO=>
 ai9 P K s0 aA au aA aO L1 h)
 (aja P K s0 h)):=az (by kernel_rfl)
theorem alJ:Fv P K s0 dF dG h=
 (OP (ck dF (.bool true) dG) fun ef=>
 aQ ef
 (K (.tuple #[(.slice none 0 0),(.bool false)]) h)
 (cJ [s0,(.slice none 0 0)] h fun L1 xs hx=>
 ajc P K L1 xs hx)):=az (by kernel_rfl)
theorem U6:TO P K s0 dF h=
 (cE dF false
 (OP (jP s0) fun ee=>
 OP (ai .gtr ee (.int .i64 (4000))) fun dG=>
 Fv P K s0 dF dG h)
 (Fv P K s0 dF undef h)):=az (by kernel_rfl)
theorem U5:TN P K s0 bz dE h=
 (OP (ck bz (.bool true) dE) fun eQ=>
 TO P K s0 eQ h):=az (by kernel_rfl)
theorem U4:TM P K s0 bz bk de h=
 (cE bz false
 (OP (ck bk de (.bool false)) fun dE=>
 TN P K s0 bz dE h)
 (TN P K s0 bz undef h)):=az (by kernel_rfl)
theorem alI:TK P K s0 bz bk h=
 (cE bk true
 (OP (jP s0) fun bE=>
 OP (ai .gtr bE (.int .i64 (1))) fun de=>
 TM P K s0 bz bk de h)
 (TM P K s0 bz bk undef h)):=az (by kernel_rfl)
theorem alH:ajb P K s0 bz h=
 (cE bz false
 (OP (nh s0 (.int .i64 (0))) fun dD=>
 OP (ai .eql dD (.int .u8 (48))) fun cG=>
 TK P K s0 bz cG h)
 (TK P K s0 bz undef h)):=az (by kernel_rfl)
theorem aA6 (s0 x5 n6 bW:Value) (L1 L2:LQ) (x7 x8 cd:Value) (h:ae):ajd P K s0 x5 n6 bW L1 L2 [x7,x8,cd] h=
 (OP (ai .lss cd bW) fun cV=>
 aQ cV
 (OP (ai .mul (.int .u32 (10)) x7) fun eR=>
 OP (nh s0 cd) fun cK=>
 OP (ai .sub cK (.int .u8 (48))) fun dO=>
 OP (dm .u32 dO) fun jT=>
 OP (ai .add eR jT) fun gf=>
 OP (ai .mul (.int .u32 (10)) x8) fun jU=>
 OP (ai .add cd (.int .i64 (1))) fun jA=>
 ([s0,x5,n6,bW]:List Value)=[s0,x5,n6,bW]∧L2 [gf,jU,jA] h)
 (ajf P K s0 x5 n6 x7 x8 L1 h)):=az (by kernel_rfl)
theorem aA8:ajf P K s0 x5 n6 x7 x8 L1 h=
 (OH (cZ 177 1 [(.int .u32 (0))] h [(0,1,x8)]) fun fR z1=>
 aq P 122 [x5,fR] z1 fun gS z2=>
 OH (cZ 177 1 [(.int .u32 (0))] z2 [(0,1,x7)]) fun jI z3=>
 aq P 118 [jI] z3 fun gw z4=>
 aq P 128 [gS,gw] z4 fun rr z5=>
 OP (nJ s0 (some n6) none) fun mQ=>
 ([]:List Value)=[]∧L1 [mQ,rr] z5):=az (by kernel_rfl)
theorem aA5 (L1:LQ) (s0 x5:Value) (h:ae):ajc P K L1 [s0,x5] h=
 (OP (ai .neq s0 (.string ⟨#[]⟩)) fun bp=>
 aQ bp
 (OP (jP s0) fun dU=>
 OP (ai .sub dU (.int .i64 (1))) fun mP=>
 OP (ai .rem mP (.int .i64 (9))) fun fz=>
 OP (ai .add fz (.int .i64 (1))) fun fQ=>
 cJ [(.int .u32 (0)),(.int .u32 (1)),(.int .i64 (0))] h fun L2 xs hx=>
 ajd P K s0 x5 fQ fQ L1 L2 xs hx)
 (ajg P K x5 h)):=az (by kernel_rfl)
theorem aA9:ajg P K x5 h=
 (K (.tuple #[x5,(.bool true)]) h):=az (by kernel_rfl)
theorem aA4:aja P K s0 h=
 (OP (ai .eql s0 (.string ⟨#[]⟩)) fun bn=>
 ajb P K s0 bn h):=az (by kernel_rfl)
def NC:Prop:=
 OP (jP s0) fun au=>
 cJ [(.int .i64 (0))] h fun L1 xs hx=>
 aje P K s0 au L1 xs hx
theorem avA:aj P Hn (aS [.tmp 2,.tmp 3] K) (bG [s0]) h=NC P K s0 h:=by kernel_rfl
theorem f125 {K:VK} {s0:Value} {h:ae} (H:NC prog K s0 h):aq prog 125 [s0] h K:=
 bT ayX (bP rfl) ((avA prog K s0 h).mpr H)
end
noncomputable section
variable (s0 x1 : Value) (h : ae)
def ahm:=bK prog 131 [[],[],[],[],[],[]]
@[irreducible] def aak:=bR ahm
theorem ay3:ahm=some (23,aak,[.tmp 4,.tmp 5,.tmp 6]):=by kernel_rfl
def NI:Prop:=
 aq P 139 [s0,x1] h fun aM z1=>
 OP (ai .geq aM (.int .i64 (0))) fun aA=>
 aQ aA
 (OP (nJ s0 none (some aM)) fun bj=>
 OP (jP x1) fun aP=>
 OP (ai .add aM aP) fun aZ=>
 OP (nJ s0 (some aZ) none) fun bf=>
 K (.tuple #[bj,bf,(.bool true)]) z1)
 (K (.tuple #[s0,(.string ⟨#[]⟩),(.bool false)]) z1)
theorem avG:aj P aak (aS [.tmp 4,.tmp 5,.tmp 6] K) (bG [s0,x1]) h=NI P K s0 x1 h:=by kernel_rfl
theorem f131 {K:VK} {s0 x1:Value} {h:ae} (H:NI prog K s0 x1 h):aq prog 131 [s0,x1] h K:=
 bT ay3 (bP rfl) ((avG prog K s0 x1 h).mpr H)
end
noncomputable section
variable (s0 x1 : Value) (h : ae)
def ahn:=bK prog 132 [[],[],[],[],[]]
@[irreducible] def aal:=bR ahn
theorem ay4:ahn=some (15,aal,[.tmp 4,.tmp 5]):=by kernel_rfl
def NJ:Prop:=
 aq P 140 [s0,x1] h fun x8 z1=>
 OP (gZ .not x8) fun x9=>
 aQ x9
 (K (.tuple #[s0,(.bool false)]) z1)
 (OP (jP x1) fun aD=>
 OP (nJ s0 (some aD) none) fun aL=>
 K (.tuple #[aL,(.bool true)]) z1)
theorem avH:aj P aal (aS [.tmp 4,.tmp 5] K) (bG [s0,x1]) h=NJ P K s0 x1 h:=by kernel_rfl
theorem f132 {K:VK} {s0 x1:Value} {h:ae} (H:NJ prog K s0 x1 h):aq prog 132 [s0,x1] h K:=
 bT ay4 (bP rfl) ((avH prog K s0 x1 h).mpr H)
end
noncomputable section
variable (s0 x1 x4 n5 DE t9 yB xD aP bH dE pv mn : Value) (L1 : LQ) (xs : List Value) (h : ae)
def ahu:=bK prog 139 [[],[],[0,1,4,5,12,19,36,107,132],[0,1,4,5,12,19,22,36,107,132],[],[],[],[],[],[],[],[],[],[],[],[],[],[],[0,1,5,6,7,9],[8,10,12,107,132],[],[],[],[],[],[],[],[0,1,5,6,7,8,9,10,12,107,132],[0,1,5,6,7,8,9,10,12,84,107,132],[0,1,5,6,7,8,9,10,12,84,92,107,132],[],[],[],[],[],[],[],[],[],[],[],[],[],[],[],[],[],[],[]]
@[irreducible] def DH:=bR ahu
@[irreducible] def aaw:=DH.r.r.l.l.l.r.l
@[irreducible] def asH:=DH.r.r.l.l.r
@[irreducible] def Pj:=DH.r.r.r
@[irreducible] def asI:=aaw.r.l
@[irreducible] def asG:=Pj.r.r.r.r.r.l.l.l
@[irreducible] def asF:=Pj.r.r.r.r.r.r
theorem azb:ahu=some (143,DH,[.tmp 4]):=by kernel_rfl
def Gy (_P:Program) (K:VK):ar:=aS [.tmp 4] K
def apr:ar:=aF (aj P Pj (Gy P K)) (Gy P K)
def XI:ar:=bI 0 (apr P K)
def XJ:ar:=aF (aj P asH (XI P K)) (XI P K)
def apn:ar:=aF (aj P asF (Gy P K)) (Gy P K)
def apo:ar:=bI 1 (apn P K)
def apq (s0 x1 n5 DE xD t9:Value) (L1:LQ):ar:=aF (fun f' aU=>(([0,1,5,6,7,9]:List Nat).map f':List Value)=[s0,x1,n5,DE,xD,t9]∧L1 (([8,10,12,107,132]:List Nat).map f') aU) (apo P K)
def ajy:Prop:=ax (aj P aaw (XJ P K)) [0,1,4,5,12,19,36,107,132] [s0,x1,x4,n5,yB,aP,dE,pv,mn] h
def TU:Prop:=ax (aj P asI (XJ P K)) [0,1,4,5,12,19,22,36,107,132] [s0,x1,x4,n5,yB,aP,bH,dE,pv,mn] h
def aAb (s0 x1 n5 DE xD t9:Value) (L1:LQ) (xs:List Value) (h:ae):Prop:=ax (aj P asG (apq P K s0 x1 n5 DE xD t9 L1)) ([0,1,5,6,7,9]++[8,10,12,107,132]) ([s0,x1,n5,DE,xD,t9]++xs) h
theorem aBB:TU P K s0 x1 x4 n5 yB aP bH dE pv mn h=
 (OP (ck aP (.bool true) bH) fun cX=>
 aQ cX
 (K (.int .i64 (0)) h)
 (OP (ai .eql n5 (.int .i64 (1))) fun cF=>
 aQ cF
 (OP (nh x1 (.int .i64 (0))) fun bN=>
 aq P 142 [s0,bN] h fun dD z1=>
 K dD z1)
 (OP (jP s0) fun bE=>
 OP (ai .geq n5 bE) fun de=>
 aQ de
 (K (.int .i64 (-1)) h)
 (OH none fun _ z1=>
 aQ dE
 (OH none fun _ z2=>
 K x4 z2)
 (OP (nh x1 (.int .i64 (0))) fun fQ=>
 OP (nh x1 (.int .i64 (1))) fun cd=>
 OP (jP s0) fun kh=>
 OP (ai .sub kh n5) fun eR=>
 OP (ai .add eR (.int .i64 (1))) fun gR=>
 cJ [(.int .i64 (0)),(.int .i64 (0)),yB,pv,mn] z1 fun L1 xs hx=>
 aAb P K s0 x1 n5 fQ cd gR L1 xs hx))))):=az (by kernel_rfl)
theorem aBA:ajy P K s0 x1 x4 n5 yB aP dE pv mn h=
 (cE aP false
 (OP (ai .eql x1 s0) fun bH=>
 TU P K s0 x1 x4 n5 yB aP bH dE pv mn h)
 (TU P K s0 x1 x4 n5 yB aP undef dE pv mn h)):=az (by kernel_rfl)
def NQ:Prop:=
 OP (jP x1) fun bj=>
 OP (ai .eql bj (.int .i64 (0))) fun aO=>
 ajy P K s0 x1 (.int .i64 (0)) bj undef aO undef undef undef h
theorem avO:aj P DH (aS [.tmp 4] K) (bG [s0,x1]) h=NQ P K s0 x1 h:=by kernel_rfl
theorem f139 {K:VK} {s0 x1:Value} {h:ae} (H:NQ prog K s0 x1 h):aq prog 139 [s0,x1] h K:=
 bT azb (bP rfl) ((avO prog K s0 x1 h).mpr H)
end
noncomputable section
variable (s0 x1 aM bM : Value) (h : ae)
def ahv:=bK prog 140 [[],[0,1,10],[10,16],[]]
@[irreducible] def Hx:=bR ahv
@[irreducible] def aax:=Hx.r.l.r.l
@[irreducible] def asJ:=Hx.r.r
@[irreducible] def asK:=aax.r.l
theorem azc:ahv=some (18,Hx,[.tmp 4]):=by kernel_rfl
def XK (_P:Program) (K:VK):ar:=aS [.tmp 4] K
def XL:ar:=aF (aj P asJ (XK P K)) (XK P K)
def ajz:Prop:=ax (aj P aax (XL P K)) [0,1,10] [s0,x1,aM] h
def TV:Prop:=ax (aj P asK (XL P K)) [10,16] [aM,bM] h
theorem alM:TV P K aM bM h=
 (OP (ck aM bM (.bool false)) fun bU=>
 K bU h):=az (by kernel_rfl)
theorem aBC:ajz P K s0 x1 aM h=
 (cE aM true
 (OP (jP x1) fun aD=>
 OP (nJ s0 none (some aD)) fun aL=>
 OP (ai .eql aL x1) fun bM=>
 TV P K aM bM h)
 (TV P K aM undef h)):=az (by kernel_rfl)
def NR:Prop:=
 OP (jP s0) fun x6=>
 OP (jP x1) fun x8=>
 OP (ai .geq x6 x8) fun x9=>
 ajz P K s0 x1 x9 h
theorem avP:aj P Hx (aS [.tmp 4] K) (bG [s0,x1]) h=NR P K s0 x1 h:=by kernel_rfl
theorem f140 {K:VK} {s0 x1:Value} {h:ae} (H:NR prog K s0 x1 h):aq prog 140 [s0,x1] h K:=
 bT azc (bP rfl) ((avP prog K s0 x1 h).mpr H)
end
noncomputable section
variable (s0 c1 : Value) (h : ae)
def ahx:=bK prog 142 [[],[]]
@[irreducible] def aaz:=bR ahx
theorem aze:ahx=some (8,aaz,[.tmp 4]):=by kernel_rfl
def NU (_:Program) (K:VK) (s0 c1:Value) (h:ae):Prop:=
 OP (EV s0 c1) fun x7=>
 K x7 h
theorem avR:aj P aaz (aS [.tmp 4] K) (bG [s0,c1]) h=NU P K s0 c1 h:=by kernel_rfl
theorem f142 {K:VK} {s0 c1:Value} {h:ae} (H:NU prog K s0 c1 h):aq prog 142 [s0,c1] h K:=
 bT aze (bP rfl) ((avR prog K s0 c1 h).mpr H)
end
end
section
theorem afs (c:UInt8):∀s:List UInt8,Lib.indexByte s c=if s.idxOf c<s.length then (s.idxOf c:Int) else -1
 | []=>rfl
 | x::s=>by
  have ih:=afs c s
  rw [Lib.indexByte]
  by_cases h:(x==c)=true
  ·have e1:(x::s).idxOf c=0:=by rw [List.idxOf_cons,h];rfl
   rw [if_pos h,e1,if_pos (by simp)];rfl
  ·have h':(x==c)=false:=by simpa using h
   have e1:(x::s).idxOf c=s.idxOf c+1:=by rw [List.idxOf_cons,h'];rfl
   rw [if_neg h,ih,e1,length_cons]
   by_cases h2:s.idxOf c<s.length
   ·have h3:¬(((s.idxOf c:Nat):Int)== -1)=true:=by
     rw [beq_iff_eq];omega
    rw [if_pos h2,if_pos (show s.idxOf c+1<s.length+1 by omega),if_neg h3]
    omega
   ·rw [if_neg h2,if_neg (show ¬s.idxOf c+1<s.length+1 by omega)]
    rfl
theorem xj (a b c:Value):(#[a,b,c]:Array Value)[0]?=some a∧(#[a,b,c]:Array Value)[1]?=some b∧(#[a,b,c]:Array Value)[2]?=some c:=⟨rfl,rfl,rfl⟩
section
variable {h : ae} {K : Value → ae → Prop} {s : List UInt8}
theorem anU {c:UInt8} (hk:K (I (if s.idxOf c<s.length then (s.idxOf c:Int) else -1)) h):aq prog 142 [S s,cv c] h K:=by
 refine f142 ?_
 have e:EV (S s) (cv c)=some (I (if s.idxOf c<s.length then (s.idxOf c:Int) else -1)):=by
  have e1:EV (S s) (cv c)=some (Value.int .i64 (Lib.indexByte (Go.Sim.bytes (ByteArray.mk s.toArray)) ((c.toNat:Int)).toNat.toUInt8)):=rfl
  rw [e1,Zm,Int.toNat_natCast,afs]
  have:c.toNat.toUInt8=c:=by simp
  rw [this]
 simp only [NU,e,ah]
 exact hk
theorem anS {c:UInt8} (hk:K (I (if s.idxOf c<s.length then (s.idxOf c:Int) else -1)) h):aq prog 139 [S s,S [c]] h K:=by
 refine f139 ?_
 have l1:jP (S [c])=some (I 1):=rfl
 have ix:nh (S [c]) (.int .i64 0)=some (cv c):=rfl
 have e1:ai .eql (I 1) (.int .i64 0)=some (B false):=rfl
 have e2:ai .eql (I 1) (.int .i64 1)=some (B true):=rfl
 simp only [NQ,l1,ah,e1]
 rw [aBA]
 simp only [eJ,GY,ah]
 rw [aBB]
 simp only [c8,ah,cj]
 refine ⟨fun he=>?_,fun _=>?_⟩
 ·have e3:s.idxOf c=0:=by rw [←he];simp
  have e4:0<s.length:=by rw [←he];simp
  rw [e3,if_pos e4] at hk
  exact hk
 ·simp only [e2,ah,dM,ix]
  exact anU hk
theorem anJ (hl:s.length≤1000) (hk:K (.tuple #[S (fw s),S (if uI s=true then kI s else []),B (uI s)]) h):aq prog 123 [S s,S [47]] h K:=by
 refine f123 ?_
 unfold NA
 refine f131 ?_
 unfold NI
 refine anS ?_
 have l1:jP (S [47])=some (I 1):=rfl
 by_cases aB:s.idxOf 47<s.length
 ·have hs:uI s=true:=aW aB
  rw [hs,if_pos rfl] at hk
  rw [if_pos aB]
  have wi:IntKind.wrap .i64 (((s.idxOf 47:Nat):Int)+1)=((s.idxOf 47+1:Nat):Int):=by rw [wrap64 (by omega) (by omega)];omega
  have A4:=amR (a:=s) (n:=s.idxOf 47) (by omega) .i64
  have VL:=Lr (a:=s) (n:=s.idxOf 47+1) (by omega) .i64
  simp only [nA,ah,aW (show (0:Int)≤((s.idxOf 47:Nat):Int) by omega),dM,A4,l1,cA,wi,VL,eL,(xj _ _ _).1,(xj _ _ _).2.1,(xj _ _ _).2.2]
  exact hk
 ·have hs:uI s=false:=aT aB
  rw [hs,if_neg (by decide)] at hk
  rw [if_neg aB]
  have ho:fw s=s:=by unfold fw;exact List.take_of_length_le (by omega)
  rw [ho] at hk
  simp only [nA,ah,show decide ((0:Int)≤ -1)=false from rfl,dP,eL,(xj _ _ _).1,(xj _ _ _).2.1,(xj _ _ _).2.2]
  exact hk
theorem anK (hl:s.length≤1000) (hk:K (.tuple #[S (if s.head?=some 45 then s.tail else s),B (decide (s.head?=some 45))]) h):aq prog 124 [S s,S [45]] h K:=by
 refine f124 ?_
 unfold NB
 refine f132 ?_
 unfold NJ
 refine f140 ?_
 have l1:jP (S [45])=some (I 1):=rfl
 have fin:∀b:Bool,b=decide (s.head?=some 45)→(OP (gZ .not (B b)) fun x9=>
   aQ x9
    (OP (cf 0 (.tuple #[S s,.bool false])) fun x9=>OP (cf 1 (.tuple #[S s,.bool false])) fun aM=>K (.tuple #[x9,aM]) h)
    (OP (nJ (S s) (some (I 1)) none) fun aL=>OP (cf 0 (.tuple #[aL,.bool true])) fun x9=>OP (cf 1 (.tuple #[aL,.bool true])) fun aM=>K (.tuple #[x9,aM]) h)):=by
  intro b hb
  by_cases hh:s.head?=some 45
  ·rw [aW hh] at hb hk
   rw [if_pos hh] at hk
   subst hb
   have h1:1≤s.length:=by
    cases s with
    | nil=>simp at hh
    | cons x t=>simp
   have VL:nJ (S s) (some (I 1)) none=some (S s.tail):=by
    rw [←List.drop_one]
    exact Lr (a:=s) (n:=1) h1 .i64
   simp only [oI,ah,Bool.not_true,dP,VL,eL,fx,fF]
   exact hk
  ·rw [aT hh] at hb hk
   rw [if_neg hh] at hk
   subst hb
   simp only [oI,ah,Bool.not_false,dM,eL,fx,fF]
   exact hk
 unfold NR
 simp only [uW,l1,ah,nA]
 rw [aBC]
 cases s with
 | nil=>
  simp only [List.length_nil,show decide ((1:Int)≤((0:Nat):Int))=false from rfl,kZ]
  rw [alM]
  simp only [c8,ah]
  exact fin false (by simp)
 | cons x t=>
  have A4:nJ (S (x::t)) none (some (I 1))=some (S [x]):=by
   have:=amR (a:=x::t) (n:=1) (by simp) .i64
   simpa using this
  rw [aW (show (1:Int)≤((x::t).length:Int) by rw [length_cons];omega)]
  simp only [iY,l1,ah,A4,GY]
  rw [alM]
  simp only [dZ,ah]
  exact fin (decide ([x]=[45])) (by rw [decide_eq_decide];constructor <;> intro h <;> simpa using h)
end
end
section
theorem aFp {s:List UInt8} {i:Nat} (h:i<s.length):fa (s.take (i+1))=10*fa (s.take i)+(s[i].toNat-48):=by
 rw [take_succ_eq_append_getElem h,F0,Wc]
 simp
 omega
theorem aDH (k:IntKind) {a b:Int} (ha:0≤a) (hb:0<b):ai .rem (.int k a) (.int k b)=some (.int k (a%b)):=by
 simp only [ai,gY,if_true]
 rw [if_neg (by omega),Int.tmod_eq_emod_of_nonneg ha]
theorem SR {g:ae} {d:Nat} (hd:d<4294967296) (h0:0<d):dw (g++[.arr 177 [.int .u32 (d:Int)]]) (sl 177 g.length 0 1) d:=
 ⟨[d],.inr ⟨g.length,rfl,.inr ⟨[],by simp [aR]⟩⟩,⟨fun x hx=>by rw [mem_singleton.1 hx];exact hd,by simp;omega⟩,by simp [val]⟩
section
variable {h : ae} {K : Value → ae → Prop} {s : List UInt8}
theorem WQ (hl:s.length≤700) (hk:∀v h',EX h h'→dw h' v (gQ s)→K (.tuple #[v,B (lB s)]) h'):aq prog 125 [S s] h K:=by
 have bad:lB s=false→K (.tuple #[.slice none 0 0,.bool false]) h:=by
  intro hb
  have:=hk (.slice none 0 0) h (EX.refl h) ⟨[],DS.nil _ _ _,di.nil _,by unfold gQ;rw [if_neg (by rw [hb];decide)];rfl⟩
  rw [hb] at this
  exact this
 refine f125 ?_
 unfold NC
 simp only [uW,ah]
 refine dL (σ:=Nat) (fun i=>[I i]) (fun _=>h) (fun i=>i≤s.length∧qu (s.take i)) (fun i=>s.length-i) 0 rfl rfl ⟨zero_le _,by simp [qu]⟩ ?_
 intro i ⟨hi,pL⟩ L hL
 rw [aA7]
 simp only [cN,ah,cj]
 refine ⟨fun aB=>?_,fun cL=>?_⟩
 ·have wk:i<s.length:=by omega
  have ix:=JI (a:=s) (i:=i) wk .i64
  have lt1:ai .lss (cv s[i]) (.int .u8 48)=some (B (decide ((s[i].toNat:Int)<48))):=rfl
  have gt1:ai .gtr (cv s[i]) (.int .u8 57)=some (B (decide ((s[i].toNat:Int)>57))):=rfl
  have no:¬(48≤s[i].toNat∧s[i].toNat≤57)→lB s=false:=by
   intro hn
   cases e:lB s with
   | false=>rfl
   | true=>exact absurd ((DY.1 e).2.2 _ (getElem_mem wk)) hn
  simp only [ix,ah,lt1]
  by_cases qB:s[i].toNat<48
  ·rw [aW (show (s[i].toNat:Int)<48 by omega),alF]
   simp only [fT]
   rw [alG]
   simp only [dZ,ah,dM]
   exact bad (no (by omega))
  ·rw [aT (show ¬(s[i].toNat:Int)<48 by omega),alF]
   simp only [eJ,ix,ah,gt1]
   rw [alG]
   simp only [c8,ah,cj]
   refine ⟨fun h57=>bad (no (by omega)),fun h57=>?_⟩
   simp only [cA,fk i (by omega),ah,true_and]
   refine hL (i+1) ⟨by omega,?_⟩ (by omega)
   rw [take_succ_eq_append_getElem wk]
   intro c hc
   rcases mem_append.1 hc with hc | hc
   ·exact pL c hc
   ·rw [mem_singleton.1 hc];omega
 have fW:i=s.length:=by omega
 subst fW
 rw [take_length] at pL
 clear hL
 have eE:(.string ⟨#[]⟩:Value)=S []:=rfl
 rw [aA4,eE]
 simp only [GY,ah]
 -- vB is left of gv aFY
 have go:lB s=true→Fv prog K (S s) (B false) (B false) h:=by
  intro aC
  have hv:gQ s=fa s:=by unfold gQ;rw [if_pos aC]
  rw [aC,hv] at hk
  rw [alJ]
  simp only [c8,ah,dP]
  refine dL (σ:=List UInt8×List UInt8×Value×ae) (fun q=>[S q.2.1,q.2.2.1]) (fun q=>q.2.2.2) (fun q=>s=q.1++q.2.1∧dw q.2.2.2 q.2.2.1 (fa q.1)∧EX h q.2.2.2) (fun q=>q.2.1.length)
   ([],s,.slice none 0 0,h) rfl rfl ⟨rfl,⟨[],DS.nil _ _ _,di.nil _,rfl⟩,EX.refl h⟩ ?_
  rintro ⟨p,t,v,g⟩ ⟨b7,hm,hx⟩ L hL
  simp only at b7 hm hx hL⊢
  rw [aA5,eE]
  simp only [Zf,ah]
  by_cases ht:t=[]
  ·subst ht
   rw [aW rfl]
   simp only [Bool.not_true,dP]
   rw [aA9]
   rw [append_nil] at b7
   rw [b7] at hk
   exact hk v g hx hm
  rw [aT ht]
  have EK:0<t.length:=List.length_pos_iff.2 ht
  have rV:p.length+t.length=s.length:=by rw [b7,length_append]
  have oV:qu t:=fun c hc=>pL c (by rw [b7];simp [hc])
  have hdp:qu p:=fun c hc=>pL c (by rw [b7];simp [hc])
  have w1:IntKind.wrap .i64 ((t.length:Int)-1)=((t.length-1:Nat):Int):=by rw [wrap64 (by omega) (by omega)];omega
  have w2:ai .rem (I (t.length-1:Nat)) (.int .i64 9)=some (I ((t.length-1)%9:Nat)):=by
   have:ai .rem (I (t.length-1:Nat)) (.int .i64 9)=some (I (((t.length-1:Nat):Int)%9)):=aDH .i64 (by omega) (by decide)
   rw [this];congr 2
  have w3:IntKind.wrap .i64 (((t.length-1)%9:Nat)+1:Int)=(((t.length-1)%9+1:Nat):Int):=by rw [wrap64 (by omega) (by omega)];omega
  simp only [Bool.not_false,dM,uW,ah,gU,w1,w2,cA,w3]
  have hn9:(t.length-1)%9+1≤9:=by omega
  have oA:(t.length-1)%9+1≤t.length:=by omega
  have hn1:1≤(t.length-1)%9+1:=by omega
  generalize (t.length-1)%9+1=n at*
  refine dL (σ:=Nat) (fun i=>[.int .u32 (fa (t.take i):Int),.int .u32 ((10^i:Nat):Int),I i]) (fun _=>g) (fun i=>i≤n) (fun i=>n-i) 0 rfl rfl (zero_le _) ?_
  intro i eC L2 gV
  have aB:=CZ (s:=t.take i) fun c hc=>oV c (List.mem_of_mem_take hc)
  rw [length_take,Nat.min_eq_left (by omega)] at aB
  have p9:(10:Nat)^i≤10^9:=pow_le_pow_right (by decide) (by omega)
  rw [aA6]
  simp only [cN,ah,cj]
  refine ⟨fun h1=>?_,fun h1=>?_⟩
  ·have tf:i<t.length:=by omega
   have hc:=oV _ (getElem_mem tf)
   have p8:(10:Nat)^i≤10^8:=pow_le_pow_right (by decide) (by omega)
   have ix:=JI (a:=t) (i:=i) tf .i64
   have m1:ai .mul (.int .u32 10) (.int .u32 (fa (t.take i):Int))=some (.int .u32 ((10*fa (t.take i):Nat):Int)):=by
    rw [vP,show (10:Int)*(fa (t.take i):Int)=((10*fa (t.take i):Nat):Int) by omega,oK (by omega) (by omega)]
   have m2:ai .mul (.int .u32 10) (.int .u32 ((10^i:Nat):Int))=some (.int .u32 ((10^(i+1):Nat):Int)):=by
    rw [vP,show (10:Int)*((10^i:Nat):Int)=((10^(i+1):Nat):Int) by rw [Nat.pow_succ];omega,oK (by omega) (by rw [Nat.pow_succ];omega)]
   have sb1:ai .sub (cv t[i]) (.int .u8 48)=some (.int .u8 ((t[i].toNat-48:Nat):Int)):=by
    show some (Value.int .u8 (IntKind.wrap .u8 ((t[i].toNat:Int)-48)))=_
    have e:IntKind.wrap .u8 ((t[i].toNat:Int)-48)=((t[i].toNat:Int)-48)%256:=by simp [IntKind.wrap,IntKind.bits,IntKind.signed]
    rw [e];congr 2;omega
   have c1:dm .u32 (.int .u8 ((t[i].toNat-48:Nat):Int))=some (.int .u32 ((t[i].toNat-48:Nat):Int)):=by rw [lj,oK (by omega) (by omega)]
   have a1:ai .add (.int .u32 ((10*fa (t.take i):Nat):Int)) (.int .u32 ((t[i].toNat-48:Nat):Int))=some (.int .u32 (fa (t.take (i+1)):Int)):=by
    rw [aFp tf,cA,←Int.natCast_add,oK (by omega) (by omega)]
   simp only [m1,ix,sb1,c1,a1,m2,cA,fk i (by omega),ah,true_and]
   exact gV (i+1) (by omega) (by omega)
  ·have fW:i=n:=by omega
   subst fW
   have aeL:(10:Nat)^i<4294967296:=by omega
   have iF:0<(10:Nat)^i:=Nat.pow_pos (by decide)
   have lp:=CZ hdp
   have aFV:(10:Nat)^p.length≤cw:=wX (by omega)
   have JB:fa p*10^i+fa (t.take i)=fa (p++t.take i):=by
    rw [F0,length_take,Nat.min_eq_left oA]
   have awV:qu (p++t.take i):=fun c hc=>by
    rcases mem_append.1 hc with hc | hc
    ·exact hdp c hc
    ·exact oV c (List.mem_of_mem_take hc)
   have lpt:=CZ awV
   rw [length_append,length_take,Nat.min_eq_left oA] at lpt
   have aFW:(10:Nat)^(p.length+i)≤cw:=wX (by omega)
   have mk:∀(g:ae) (r:Nat),cZ 177 1 [(.int .u32 (0))] g [(0,1,.int .u32 (r:Int))]=some (sl 177 g.length 0 1,g++[.arr 177 [.int .u32 (r:Int)]]):=fun _ _=>rfl
   rw [aA8]
   simp only [mk,aE]
   have x1:EX g (g++[.arr 177 [.int .u32 ((10^i:Nat):Int)]]):=EX.append _ _
   refine WO (hm.mono x1) (SR aeL iF) (by omega) (A7 aeL) ?_
   intro r1 g2 x2 m2
   have x3:EX g2 (g2++[.arr 177 [.int .u32 (fa (t.take i):Int)]]):=EX.append _ _
   have dr:DS 177 .u32 (g2++[.arr 177 [.int .u32 (fa (t.take i):Int)]]) (sl 177 g2.length 0 1) [fa (t.take i)]:=.inr ⟨g2.length,rfl,.inr ⟨[],by simp [aR]⟩⟩
   refine sG dr (fun x hx=>by rw [mem_singleton.1 hx];omega) (by simp) ?_
   intro r2 m3
   have e:val 4294967296 [fa (t.take i)]=fa (t.take i):=by simp [val]
   rw [e] at m3
   refine WR (m2.mono x3) m3 (by omega) (A7 (by omega)) ?_
   intro r3 g4 x4 m4
   rw [JB] at m4
   have A4:=Lr (a:=t) (n:=i) oA .i64
   simp only [A4,ah,true_and]
   refine hL (p++t.take i,t.drop i,r3,g4) ⟨by rw [List.append_assoc,List.take_append_drop];exact b7,m4,((hx.trans x1).trans x2).trans (x3.trans x4)⟩ (by rw [length_drop];omega)
 have fail:lB s=false→∀t u:Value,ck t (.bool true) u=some (B true)→Fv prog K (S s) t u h:=by
  intro hb t u ht
  rw [alJ,ht]
  simp only [ah,dM]
  exact bad hb
 by_cases h0:s=[]
 ·have hb:lB s=false:=by subst h0;rfl
  rw [aW h0,alH]
  simp only [fT]
  rw [alI]
  simp only [Mq]
  rw [U4]
  simp only [fT]
  rw [U5]
  simp only [dZ,ah]
  rw [U6]
  simp only [fT]
  exact fail hb _ _ rfl
 have iF:0<s.length:=List.length_pos_iff.2 h0
 rw [aT h0,alH]
 have ix:=JI (a:=s) (i:=0) iF .i64
 simp only [Int.natCast_zero] at ix
 have hh:s.head?=some s[0]:=by rw [List.head?_eq_getElem?,getElem?_eq_getElem iF]
 have e5:ai .eql (cv s[0]) (.int .u8 48)=some (B (decide ((s[0].toNat:Int)=48))):=rfl
 simp only [eJ,ix,ah,e5]
 rw [alI]
 have tail:∀(b:Bool),b=false→lB s=true→TO prog K (S s) (B b) h:=by
  rintro _ rfl aC
  rw [U6]
  simp only [eJ,uW,ah,gj,aT (show ¬(4000:Int)<(s.length:Int) by omega)]
  exact go aC
 by_cases qB:s[0].toNat=48
 ·have RL:s.head?=some 48:=by rw [hh];congr 1;exact UInt8.toNat_inj.1 qB
  rw [aW (show (s[0].toNat:Int)=48 by omega)]
  simp only [iY,uW,ah,gj]
  rw [U4]
  simp only [eJ,dZ,ah]
  rw [U5]
  simp only [c8,ah]
  by_cases h1:1<s.length
  ·have hb:lB s=false:=by
    cases e:lB s with
    | false=>rfl
    | true=>have:=(DY.1 e).2.1 RL;omega
   rw [aW (show (1:Int)<(s.length:Int) by omega),U6]
   simp only [fT]
   exact fail hb _ _ rfl
  ·rw [aT (show ¬(1:Int)<(s.length:Int) by omega)]
   exact tail false rfl (DY.2 ⟨⟨iF,by omega⟩,fun _=>by omega,pL⟩)
 ·rw [aT (show ¬(s[0].toNat:Int)=48 by omega)]
  simp only [kZ]
  rw [U4]
  simp only [eJ,c8,ah]
  rw [U5]
  simp only [c8,ah]
  refine tail false rfl (DY.2 ⟨⟨iF,by omega⟩,fun hc=>?_,pL⟩)
  rw [hh] at hc
  injection hc with hc
  rw [hc] at qB
  exact absurd rfl qB
end
end
section
def fH (s:List UInt8):List UInt8:=if s.head?=some 45 then s.tail else s
theorem UR (s:List UInt8):tP s=AV (decide (s.head?=some 45)) (fH s):=by
 unfold tP fH
 by_cases h:s.head?=some 45
 ·rw [if_pos h,if_pos h,aW h]
 ·rw [if_neg h,if_neg h,aT h]
theorem az9 (s:List UInt8):((fw s).head?=some 45↔s.head?=some 45)∧(if (fw s).head?=some 45 then (fw s).tail else fw s)=fw (fH s)∧uI s=uI (fH s)∧kI s=kI (fH s):=by
 cases s with
 | nil=>simp [fw,fH]
 | cons x t=>
  by_cases hx:x=45
  ·subst hx
   have e:((45:UInt8)::t).idxOf 47=t.idxOf 47+1:=by
    rw [List.idxOf_cons]
    have:((45:UInt8)==47)=false:=by decide
    rw [this];rfl
   have eu:fH (45::t)=t:=by unfold fH;simp
   have eo:fw (45::t)=45::fw t:=by unfold fw;rw [e,List.take_succ_cons]
   rw [eu,eo]
   refine ⟨by simp,by simp,?_,?_⟩
   ·unfold uI;rw [e,length_cons,decide_eq_decide];omega
   ·unfold kI;rw [e];rfl
  ·have eu:fH (x::t)=x::t:=by unfold fH;rw [if_neg (by simpa using hx)]
   have dB:¬(fw (x::t)).head?=some 45:=by
    unfold fw
    cases h:(x::t).idxOf 47 with
    | zero=>simp
    | succ k=>rw [List.take_succ_cons];simpa using hx
   rw [eu,if_neg dB]
   exact ⟨⟨fun h=>absurd h dB,fun h=>absurd (by simpa using h) hx⟩,rfl,rfl,rfl⟩
theorem awg {g:ae} {j:Nat} {K:Value→ae→Prop} (hg:g[j]?=some (.arr 107 z4)) (hk:K (.tuple #[L8,B false]) (g.set j (.arr 107 z4))):
  OP (dW [(.bool false),(.slice none 0 0),(.bool false),(.slice none 0 0)] []) fun jX=>OH (aK 4 g (pt j 0) jX) fun _ h_1=>OP (af true 4 h_1 (pt j 0)) fun r0=>K (.tuple #[r0,(.bool false)]) h_1:=by
 have e:dW [(.bool false),(.slice none 0 0),(.bool false),(.slice none 0 0)] []=some L8:=rfl
 rw [e,ah]
 have s:=rj (x:=B false) (y:=.slice none 0 0) (z:=B false) (w:=.slice none 0 0) hg
 have s':aK 4 g (pt j 0) L8=some (undef,g.set j (.arr 107 z4)):=s
 rw [s',aE]
 have l:=jh (cU (o:=.arr 107 z4) hg)
 have l':af true 4 (g.set j (.arr 107 z4)) (pt j 0)=some L8:=l
 rw [l',ah]
 exact hk
section
variable {h : ae} {K : Value → ae → Prop} {s : List UInt8}
theorem VJ {m:Bool} {n:Nat}:(m&&decide (0<n))=decide ((if m=true then -(n:Int) else (n:Int))<0)∧(if m=true then -(n:Int) else (n:Int)).natAbs=n:=by
 cases m with
 | false=>simp
 | true=>
  refine ⟨?_,by simp⟩
  simp only [Bool.true_and,if_true]
  rw [decide_eq_decide];omega
theorem WH {h0:ae} {m vn ok is:Bool} {n d:Nat} {v1 v2:Value} {i2:Nat} (k2:h[i2]?=some (.arr 107 z4)) (b2:h0.length≤i2) (hx:EX h0 h) (m1:dw h v1 n) (m2:dw h v2 d) (ln:n<cw) (ld:d<cw) (hd:is=true→0<d)
  (hk:ok=true→is=true→(m=true→n≠0)→(vn=true→gcd n d=1)→∀r h',EX h0 h'→hY h' r (if m=true then -(n:Int) else n) d→K (.tuple #[r,B true]) h')
  (hZ:¬(ok=true∧is=true∧(m=true→n≠0)∧(vn=true→gcd n d=1))→∀a b c e h',EX h0 h'→K (.tuple #[.agg #[a,b,c,e],B false]) h'):
  Fs prog K (pt i2 0) (B vn) (B m) v1 (B ok) v2 (B is) h:=by
 have fail:¬(ok=true∧is=true∧(m=true→n≠0)∧(vn=true→gcd n d=1))→∀t u:Value,ck t (.bool true) u=some (B true)→Ft prog K (pt i2 0) (B vn) (B m) v1 v2 t u h:=by
  intro hb t u ht
  rw [alB,ht]
  simp only [ah,dM]
  exact awg k2 (hZ hb _ _ _ _ _ (hx.set b2 _))
 have n1:∀b:Bool,gZ .not (B b)=some (B (!b)):=fun _=>rfl
 have early:¬(ok=true∧is=true)→TA prog K (pt i2 0) (B vn) (B m) v1 v2 (B true) h:=by
  intro hb
  rw [alz]
  simp only [fT]
  rw [alA]
  simp only [Mq]
  rw [U3]
  simp only [fT]
  exact fail (fun hc=>hb ⟨hc.1,hc.2.1⟩) _ _ rfl
 rw [aAL,n1,ah,aAM]
 cases ok with
 | false=>
  simp only [Bool.not_false,fT]
  rw [aly]
  simp only [dZ,ah]
  exact early (fun hc=>by cases hc.1)
 | true=>
 simp only [Bool.not_true,eJ,n1,ah]
 rw [aly]
 simp only [c8,ah]
 cases is with
 | false=>exact early (fun hc=>by cases hc.2)
 | true=>
 have hd:=hd rfl
 simp only [Bool.not_true]
 rw [alz]
 simp only [eJ]
 have main:(m=true→n≠0)→Ft prog K (pt i2 0) (B vn) (B m) v1 v2 (B false) (B false) h:=by
  intro hm
  rw [alB]
  simp only [c8,ah,dP]
  refine sF m1 ?_
  intro g1 x1
  refine sF (m2.mono x1) ?_
  intro g2 x2
  have aA:=x1.trans x2
  obtain ⟨sg1,Ln⟩:=VJ (m:=m) (n:=n)
  rw [sg1,Bool.false_and]
  have J4:=m1.mono aA
  have m2':=(m2.mono x1).mono x2
  obtain ⟨xs,dx,_⟩:=id J4
  obtain ⟨ys,dy,_⟩:=id m2'
  have eb:dW [(.bool false),(.slice none 0 0),(.bool false),(.slice none 0 0)] [(0,2,.agg #[B (decide ((if m=true then -(n:Int) else (n:Int))<0)),v1]),(2,2,.agg #[B false,v2])]=some (.agg #[B (decide ((if m=true then -(n:Int) else (n:Int))<0)),v1,B false,v2]):=by
   simp [dW,qw,fP,cR,Value.cells,setAt]
  have e3:∀(g:ae),ba 107 [(.bool false),(.slice none 0 0),(.bool false),(.slice none 0 0)] g=some (pt g.length 0,g++[.arr 107 z4]):=fun _=>rfl
  simp only [eb,e3,ah,aE]
  have y1:EX g2 (g2++[.arr 107 z4]):=EX.append _ _
  have Sw:(g2++[ak.arr 107 z4])[g2.length]?=some (.arr 107 z4):=bZ
  generalize g2++[ak.arr 107 z4]=g3 at y1 Sw⊢
  have qF:i2<g2.length:=(bL (aA.get k2)).1
  rw [rj Sw]
  simp only [aE]
  have k4:(g3.set g2.length (.arr 107 [B (decide ((if m=true then -(n:Int) else (n:Int))<0)),v1,B false,v2]))[g2.length]?=some (.arr 107 [B (decide ((if m=true then -(n:Int) else (n:Int))<0)),v1,B false,v2]):=cU Sw
  have y2:EX g2 (g3.set g2.length (.arr 107 [B (decide ((if m=true then -(n:Int) else (n:Int))<0)),v1,B false,v2])):=y1.set (le_refl _) _
  generalize g3.set g2.length (.arr 107 [B (decide ((if m=true then -(n:Int) else (n:Int))<0)),v1,B false,v2])=g4 at k4 y2⊢
  have xA:=(hx.trans aA).trans y2
  have E3:=(aA.trans y2).get k2
  have mm1:=J4.mono y2
  have mm2:=m2'.mono y2
  generalize hN:(if m=true then -(n:Int) else (n:Int))=N at*
  have fin:∀{g5:ae} (b:Bool),EX g4 g5→((b=true→vn=true→gcd n d=1)∧(b=false→¬(vn=true→gcd n d=1)))→OH (aK 4 g5 (pt i2 0) (.agg #[B (decide (N<0)),v1,B false,v2])) fun _ h_8=>OP (af true 4 h_8 (pt i2 0)) fun r0=>K (.tuple #[r0,B b]) h_8:=by
   intro g5 b x5 hb
   have kk:=x5.get E3
   refine sS (K:=fun v h=>K (.tuple #[v,B b]) h) kk ?_
   have xB:=(xA.trans x5).set b2 (.arr 107 [B (decide (N<0)),v1,B false,v2])
   cases b with
   | true=>
    refine hk rfl rfl hm (hb.1 rfl) _ _ xB ⟨v1,v2,by rw [aT (show ¬(d:Int)<0 by omega)],?_,?_⟩
    ·rw [Ln];exact (mm1.mono x5).bS kk _
    ·rw [natAbs_natCast];exact (mm2.mono x5).bS kk _
   | false=>exact hZ (fun hc=>hb.2 rfl hc.2.2.2) _ _ _ _ _ xB
  rw [jh k4]
  simp only [ah,n1,true_and]
  cases vn with
  | false=>
   simp only [Bool.not_false,fT,dZ,ah]
   exact fin true (EX.refl g4) ⟨fun _ h=>(by cases h),fun h=>by cases h⟩
  | true=>
   simp only [Bool.not_true,eJ,b9,add_zero,zero_add,lI k4,nj k4,ah]
   refine WM (a:=N) (b:=(d:Int)) ⟨v1,rfl,by rw [Ln];exact mm1⟩ (dQ.nat mm2) (by rw [Ln];exact ln) (by rw [natAbs_natCast];exact ld) ?_
   intro r5 g5 x5 i5
   rw [Ln,natAbs_natCast] at i5
   simp only [jh (x5.get k4),true_and]
   refine De (by decide) (by decide) ?_
   intro r6 g6 x6 i6
   have yb:gcd n d≤d:=Nat.gcd_le_right _ hd
   simp only [jh ((x5.trans x6).get k4),true_and]
   refine Md (i5.mono x6) i6 (by rw [natAbs_natCast];omega) (by rw [show (1:Int).natAbs=1 from rfl];exact A7 (by decide)) ?_
   intro g7 x7
   have cQ:=x5.trans (x6.trans x7)
   simp only [jh (cQ.get k4),true_and,jo,ah,c8]
   by_cases Er:gcd n d=1
   ·rw [Er]
    have:(if ((1:Nat):Int)-1=0 then (0:Int) else if ((1:Nat):Int)-1<0 then -1 else 1)=0:=rfl
    rw [this]
    exact fin true cQ ⟨fun _ _=>Er,fun h=>by cases h⟩
   ·have:(if ((gcd n d:Nat):Int)-1=0 then (0:Int) else if ((gcd n d:Nat):Int)-1<0 then -1 else 1)≠0:=by
     rw [if_neg (by omega)];split <;> decide
    rw [aT this]
    exact fin false cQ ⟨fun h=>(by cases h),fun _ hc=>Er (hc rfl)⟩
 rw [alA]
 cases m with
 | false=>
  simp only [kZ]
  rw [U3]
  simp only [eJ,c8,ah]
  exact main (fun h=>by cases h)
 | true=>
  obtain ⟨l,p1,p2⟩:=m1.so
  simp only [iY,p1,ah,jo]
  rw [U3]
  simp only [eJ,dZ,ah]
  by_cases hn:n=0
  ·rw [aW (show (l:Int)=0 by omega)]
   exact fail (fun hc=>hc.2.2.1 rfl hn) _ _ rfl
  ·rw [aT (show ¬(l:Int)=0 by omega)]
   exact main (fun _=>hn)
end
end
section
theorem anj {s:List UInt8} (h:s.length≤700):gQ s<cw:=lt_of_lt_of_le (Wa s) (wX (by omega))
theorem anF {h:ae} {K:Value→ae→Prop} {s:List UInt8} (hl:s.length≤700)
  (hk:∀n d,tP s=some (n,d)→∀r h',EX h h'→hY h' r n d→K (.tuple #[r,B true]) h')
  (hZ:tP s=none→∀a b c e h',EX h h'→K (.tuple #[.agg #[a,b,c,e],B false]) h'):aq prog 108 [S s] h K:=by
 obtain ⟨o1,o2,o3,o4⟩:=az9 s
 have hp:=UR s
 have rX:(fH s).length≤700:=by
  unfold fH
  split
  ·rw [List.length_tail];omega
  ·exact hl
 have lo:(fw (fH s)).length≤700:=by unfold fw;rw [length_take];omega
 have lu:(kI s).length≤700:=by unfold kI;rw [length_drop];omega
 have los:(fw s).length≤700:=by unfold fw;rw [length_take];omega
 have hm:decide ((fw s).head?=some 45)=decide (s.head?=some 45):=by rw [decide_eq_decide];exact o1
 refine f108 ?_
 have e1:∀(g:ae),ba 107 [(.bool false),(.slice none 0 0),(.bool false),(.slice none 0 0)] g=some (pt g.length 0,g++[.arr 107 z4]):=fun _=>rfl
 have eS:(.string ⟨#[47]⟩:Value)=S [47]:=rfl
 have eM:(.string ⟨#[45]⟩:Value)=S [45]:=rfl
 simp only [Nl,e1,aE,eS,eM]
 have x0:EX h (h++[.arr 107 z4]):=EX.append _ _
 have k0:(h++[ak.arr 107 z4])[h.length]?=some (.arr 107 z4):=bZ
 generalize h++[ak.arr 107 z4]=g at x0 k0⊢
 refine anJ (by omega) ?_
 simp only [eL,(xj _ _ _).1,(xj _ _ _).2.1,(xj _ _ _).2.2,ah]
 refine anK (by omega) ?_
 rw [o2,hm]
 simp only [eL,fx,fF,ah]
 refine WQ lo ?_
 intro v1 g1 x1 m1
 have mk:∀(g:ae),cZ 177 1 [(.int .u32 (0))] g [(0,1,(.int .u32 (1)))]=some (sl 177 g.length 0 1,g++[.arr 177 [.int .u32 ((1:Nat):Int)]]):=fun _=>rfl
 simp only [eL,fx,fF,ah,mk,aE]
 have x2:EX g1 (g1++[.arr 177 [.int .u32 ((1:Nat):Int)]]):=EX.append _ _
 have agy:=SR (g:=g1) (d:=1) (by decide) (by decide)
 generalize g1++[ak.arr 177 [.int .u32 ((1:Nat):Int)]]=g2 at x2 agy⊢
 have iM:=x1.trans x2
 have hvo:=anj lo
 -- vB gv parts say is vB gv text aGz
 have adE:∀{d:Nat},xL (fH s)=true→xM (fH s)=d→lB (fw (fH s))=true→(decide (s.head?=some 45)=true→gQ (fw (fH s))≠0)→
   tP s=some (if decide (s.head?=some 45)=true then -(gQ (fw (fH s)):Int) else (gQ (fw (fH s)):Int),d):=by
  intro d a b c e
  rw [hp]
  unfold AV
  rw [if_pos ⟨a,c,e⟩,b]
 have bad:¬(xL (fH s)=true∧lB (fw (fH s))=true∧(decide (s.head?=some 45)=true→gQ (fw (fH s))≠0))→tP s=none:=by
  intro hb
  rw [hp]
  unfold AV
  rw [if_neg hb]
 cases rV:uI s with
 | false=>
  rw [rV] at o3
  have mC:xL (fH s)=true:=by unfold xL;rw [←o3];rfl
  have zN:xM (fH s)=1:=by unfold xM;rw [←o3];rfl
  simp only [dP]
  refine WH (h0:=h) (n:=gQ (fw (fH s))) (d:=1) (is:=true) (iM.get k0) (by omega) (x0.trans iM) (m1.mono x2) agy hvo (A7 (by decide)) (fun _=>by decide) (fun a _ c _=>?_) (fun hb=>?_)
  ·exact hk _ _ (adE mC zN a c)
  ·refine hZ (bad fun hc=>hb ⟨hc.2.1,rfl,hc.2.2,fun h=>by cases h⟩)
 | true=>
  rw [rV] at o3
  have hlu:=lu
  simp only [dM,if_true]
  refine WQ lu ?_
  intro v2 g3 x3 m2
  simp only [eL,fx,fF,ah]
  rw [aAK]
  have zN:xM (fH s)=gQ (kI s):=by unfold xM;rw [←o3,←o4];rfl
  have mC:xL (fH s)=(lB (kI s)&&(decide (2≤gQ (kI s))&&decide (gcd (gQ (fw (fH s))) (gQ (kI s))=1))):=by unfold xL;rw [←o3,←o4];rfl
  have hvu:=anj lu
  have x03:=x0.trans (iM.trans x3)
  have fin:∀{g4:ae},EX g3 g4→∀is:Bool,is=(lB (kI s)&&decide (2≤gQ (kI s)))→Fs prog K (pt h.length 0) (B true) (B (decide (s.head?=some 45))) v1 (B (lB (fw (fH s)))) v2 (B is) g4:=by
   intro g4 x4 is wk
   refine WH (h0:=h) (n:=gQ (fw (fH s))) (d:=gQ (kI s)) ((iM.trans (x3.trans x4)).get k0) (by omega) (x03.trans x4) ((m1.mono x2).mono (x3.trans x4)) (m2.mono x4) hvo hvu (fun h=>?_) (fun a b c d=>?_) (fun hb=>?_)
   ·rw [h] at wk
    have:=(Bool.and_eq_true_iff.1 wk.symm).2
    have:=of_decide_eq_true this
    omega
   ·refine hk _ _ (adE ?_ zN a c)
    rw [b] at wk
    have h2:=Bool.and_eq_true_iff.1 wk.symm
    rw [mC,h2.1,h2.2,aW (d rfl)];rfl
   ·refine hZ (bad fun hc=>hb ⟨hc.2.1,?_,hc.2.2,fun _=>?_⟩)
    ·have h2:=hc.1
     rw [mC,and_eq_true,and_eq_true] at h2
     rw [wk,h2.1,h2.2.1];rfl
    ·have h2:=hc.1
     rw [mC,and_eq_true,and_eq_true] at h2
     exact of_decide_eq_true h2.2.2
  cases I8:lB (kI s) with
  | false=>
   simp only [kZ]
   rw [alx]
   simp only [c8,ah]
   exact fin (EX.refl g3) false (by rw [I8];rfl)
  | true=>
   simp only [iY,mk,aE]
   have x4:EX g3 (g3++[.arr 177 [.int .u32 ((1:Nat):Int)]]):=EX.append _ _
   refine Gi (m2.mono x4) (SR (by decide) (by decide)) hvu (A7 (by decide)) ?_
   have hs:decide ((0:Int)<nm (gQ (kI s)) 1)=decide (2≤gQ (kI s)):=by
    rw [decide_eq_decide]
    unfold nm
    split
    ·omega
    ·split <;> omega
   simp only [gj,ah,hs]
   rw [alx]
   simp only [dZ,ah]
   exact fin x4 _ (by rw [I8];rfl)
end
section
end
section
end
section
def cut (iI n:Nat):Nat:=min n (if 10<n then 11 else iI)
end
section
structure LL (h:ae) (v:Value) (ll:List (List Nat)):Prop where
 len:bc v=some (I ll.length)
 get:∀i (hi:i<ll.length),∃b o w,aY 1 v (I i)=some (pt b o)∧af false 1 h (pt b o)=some w∧NS h w .i64 (ll[i].map fun i:Nat=>(i:Int))
theorem LL.mono {h h':ae} {v:Value} {ll:List (List Nat)} (x:EX h h') (p:LL h v ll):LL h' v ll:=
 ⟨p.len,fun i hi=>let ⟨b,o,w,a,c,d⟩:=p.get i hi;⟨b,o,w,a,EX.load x c,d.mono x⟩⟩
def afB:Value→Bool
 | .slice _ _ _=>true
 | _=>false
structure OL (b:Nat) (g:ae) (v:Value) (ws:List Value) (ll:List (List Nat)):Prop where
 own:fU b g 33 v ws
 len:ws.length=ll.length
 sls:∀w∈ws,afB w=true
 get:∀(i:Nat) (w:Value) (l:List Nat),ws[i]?=some w→ll[i]?=some l→NS g w .i64 (l.map fun i:Nat=>(i:Int))
theorem NS.azg {g g':ae} {w:Value} {ns:List Int} (p:NS g w .i64 ns) (hk:∀b,b<g.length→(∃o n,af false 1 g (pt b o)=some (I n))→g'[b]?=g[b]?):NS g' w .i64 ns:=by
 refine ⟨p.len,fun i hi=>?_,p.le⟩
 obtain ⟨b,o,h1,h2⟩:=p.get i hi
 have hb:b<g.length:=by
  apply byContradiction
  intro cL
  simp only [af] at h2
  rw [aR,List.getElem?_eq_none (by omega)] at h2
  cases h2
 refine ⟨b,o,h1,?_⟩
 have:=hk b hb ⟨o,_,h2⟩
 simp only [af,aR,this] at h2⊢
 exact h2
theorem OL.dR {b:Nat} {g g':ae} {v w:Value} {ws:List Value} {ll:List (List Nat)} {ns:List Int} (o:OL b g v ws ll) (p:NS g w .i64 ns) (hold:∀d,d<g.length→(∀n,v≠sl 33 d 0 n)→g'[d]?=g[d]?):NS g' w .i64 ns:=by
 refine NS.azg p fun d hd ⟨o',n,hl⟩=>hold d hd fun m hv=>?_
 obtain ⟨_,_,h3⟩:=o.own.lt hv
 simp only [af,aR,h3,Option.bind_some,cm,Bool.false_eq_true,if_false] at hl
 have:=o.sls _ (List.mem_of_getElem? hl)
 cases this
theorem OL.app {h0 hx:ae} {v w:Value} {ws:List Value} {ll:List (List Nat)} {l:List Nat} {K:Value→ae→Prop} (o:OL h0.length hx v ws ll) (hex:EX h0 hx) (hw:NS hx w .i64 (l.map fun i:Nat=>(i:Int))) (hl:ws.length≤1000)
  (hk:∀v' bY,EX h0 bY→OL h0.length bY v' (ws++[w]) (ll++[l])→K v' bY):OH (cZ 33 1 [(.slice none 0 0)] hx [(0,1,w)]) fun a h2=>OH (dI 33 1 24 h2 v a) K:=by
 obtain ⟨t1,t2⟩:=amS hw.len
 have rV:afB w=true:=by
  have:=hw.len
  unfold bc at this
  split at this
  ·rfl
  ·cases this
 refine Dz o.own (by omega) (by simp [maxLen];omega) t1 t2 ?_
 intro w1 bY _ hlen hold jw
 simp only [aE]
 have key:∀{w':Value} {ns:List Int},NS hx w' .i64 ns→NS bY w' .i64 ns:=fun p=>o.dR p hold
 refine hk _ _ ⟨by have:=hex.1;omega,fun d hd=>?_⟩ ⟨.inr ⟨hx.length+1,by have:=hex.1;omega,by simp,jw⟩,by simp [o.len],fun x hx=>?_,fun i x y hx hy=>?_⟩
 ·rw [hold d (by have:=hex.1;omega) fun n hv=>?_]
  ·exact hex.2 d hd
  ·have:=(o.own.lt hv).1
   omega
 ·rcases mem_append.1 hx with hx | hx
  ·exact o.sls x hx
  ·rw [mem_singleton.1 hx];exact rV
 ·by_cases hi:i<ws.length
  ·rw [getElem?_append_left hi] at hx
   rw [getElem?_append_left (by rw [←o.len];exact hi)] at hy
   exact key (o.get i x y hx hy)
  ·rw [getElem?_append_right (by omega)] at hx
   rw [getElem?_append_right (by rw [←o.len];omega),←o.len] at hy
   have h0:i-ws.length=0:=by
    have:=(bL hx).1
    simp at this;omega
   rw [h0] at hx hy
   simp only [List.getElem?_cons_zero,Option.some.injEq] at hx hy
   subst hx hy
   exact key hw
theorem OL.start (b:Nat) (g:ae):OL b g (.slice none 0 0) [] []:=⟨.inl ⟨rfl,rfl⟩,rfl,fun w hw=>by simp at hw,fun i w l h=>by simp at h⟩
end
end Go.Proofs.YtelmdbpaoifmoaaGreat
namespace Go.Sim
section
structure nU (bs:List Nat) (js:List (Int×Int)) (n d k a9 b:Nat):Prop where
 none:a9=0→b=0∧∀m,m<k→¬fm bs n d m
 rel:a9≠0→(b<k∧fm bs n d b)∧(∀m,m<k→fm bs n d m→wS js m*lS js b≤wS js b*lS js m)∧∀i,a9.testBit i=true↔∃m,m<k∧fm bs n d m∧wS js m*lS js b=wS js b*lS js m∧m.testBit i=true
section
variable {bs : List Nat} {js : List (Int × Int)} {n d k a9 b : Nat}
theorem nU.start:nU bs js n d 1 0 0:=⟨fun _=>⟨rfl,fun m hm h=>h.ne (by omega)⟩,fun h=>absurd rfl h⟩
theorem nU.skip (g:nU bs js n d k a9 b) (h:¬fm bs n d k):nU bs js n d (k+1) a9 b:=by
 refine ⟨fun h0=>⟨(g.none h0).1,fun m hm hr=>?_⟩,fun h0=>?_⟩
 ·by_cases e:m=k
  ·subst e;exact h hr
  ·exact (g.none h0).2 m (by omega) hr
 ·obtain ⟨⟨a1,a2⟩,a3,a4⟩:=g.rel h0
  refine ⟨⟨by omega,a2⟩,fun m hm hr=>?_,fun i=>?_⟩
  ·by_cases e:m=k
   ·subst e;exact absurd hr h
   ·exact a3 m (by omega) hr
  ·rw [a4 i]
   constructor
   ·rintro ⟨m,q1,q2,q3⟩;exact ⟨m,by omega,q2,q3⟩
   ·rintro ⟨m,q1,q2,q3⟩
    by_cases e:m=k
    ·subst e;exact absurd q2 h
    ·exact ⟨m,by omega,q2,q3⟩
theorem nU.take (P:pE js n) (hn:n≤10) (g:nU bs js n d k a9 b) (h:fm bs n d k) (hb:a9=0∨wS js b*lS js k<wS js k*lS js b):nU bs js n d (k+1) k k:=by
 refine ⟨fun h0=>absurd h0 h.ne,fun _=>?_⟩
 have less:∀m,m<k→fm bs n d m→wS js m*lS js k<wS js k*lS js m:=by
  intro m hm hr
  rcases hb with hb | hb
  ·exact absurd hr ((g.none hb).2 m hm)
  ·have h0:a9≠0:=by
    rintro rfl
    exact (g.none rfl).2 m hm hr
   obtain ⟨⟨a1,a2⟩,a3,_⟩:=g.rel h0
   have h1:=a3 m hm hr
   have p1:=wM P hn hr.lt hr.ne
   have p2:=wM P hn a2.lt a2.ne
   have p3:=wM P hn h.lt h.ne
   apply byContradiction
   intro hc
   have:=PX p3 p1 p2 (show wS js k*lS js m≤wS js m*lS js k by omega) h1
   omega
 refine ⟨⟨by omega,h⟩,fun m hm hr=>?_,fun i=>?_⟩
 ·by_cases e:m=k
  ·subst e;exact Int.le_refl _
  ·exact Int.le_of_lt (less m (by omega) hr)
 ·constructor
  ·intro hi;exact ⟨k,by omega,h,rfl,hi⟩
  ·rintro ⟨m,q1,q2,q3,q4⟩
   by_cases e:m=k
   ·subst e;exact q4
   ·have:=less m (by omega) q2
    omega
theorem nU.join (g:nU bs js n d k a9 b) (h:fm bs n d k) (h0:a9≠0) (hb:wS js k*lS js b=wS js b*lS js k):nU bs js n d (k+1) (a9 ||| k) b:=by
 have bm:a9 ||| k≠0:=by
  intro e
  have:a9≤a9 ||| k:=Nat.left_le_or
  omega
 refine ⟨fun e=>absurd e bm,fun _=>?_⟩
 obtain ⟨⟨a1,a2⟩,a3,a4⟩:=g.rel h0
 refine ⟨⟨by omega,a2⟩,fun m hm hr=>?_,fun i=>?_⟩
 ·by_cases e:m=k
  ·subst e;omega
  ·exact a3 m (by omega) hr
 ·rw [Nat.testBit_or,Bool.or_eq_true,a4 i]
  constructor
  ·rintro (⟨m,q1,q2⟩ | hi)
   ·exact ⟨m,by omega,q2⟩
   ·exact ⟨k,by omega,h,hb,hi⟩
  ·rintro ⟨m,q1,q2,q3,q4⟩
   by_cases e:m=k
   ·subst e;exact .inr q4
   ·exact .inl ⟨m,by omega,q2,q3,q4⟩
theorem nU.pass (g:nU bs js n d k a9 b) (h0:a9≠0) (hb:wS js k*lS js b<wS js b*lS js k):nU bs js n d (k+1) a9 b:=by
 refine ⟨fun e=>absurd e h0,fun _=>?_⟩
 obtain ⟨⟨a1,a2⟩,a3,a4⟩:=g.rel h0
 refine ⟨⟨by omega,a2⟩,fun m hm hr=>?_,fun i=>?_⟩
 ·by_cases e:m=k
  ·subst e;omega
  ·exact a3 m (by omega) hr
 ·rw [a4 i]
  constructor
  ·rintro ⟨m,q1,q2⟩;exact ⟨m,by omega,q2⟩
  ·rintro ⟨m,q1,q2,q3,q4⟩
   by_cases e:m=k
   ·subst e;omega
   ·exact ⟨m,by omega,q2,q3,q4⟩
theorem nU.all (P:pE js n) (hn:n≤10) (hb:∀b∈bs,b<2^n) (hd:d<bt n) (g:nU bs js n d (2^n) a9 b):rB bs js n d a9:=by
 obtain ⟨s,hs⟩:=rB.ex (js:=js) P hn hb hd
 have h0:a9≠0:=fun e=>(g.none e).2 s hs.1.1.lt hs.1.1
 obtain ⟨⟨a1,a2⟩,a3,a4⟩:=g.rel h0
 have lW:nV bs js n d b:=⟨a2,fun x hx=>a3 x hx.lt hx⟩
 have e:a9=s:=by
  apply Nat.eq_of_testBit_eq
  intro i
  rw [Bool.eq_iff_iff,a4 i]
  constructor
  ·rintro ⟨m,_,q2,q3,q4⟩
   have hm:=lW.same P hn q2 (Int.le_of_eq q3.symm)
   exact pn.1 (hs.2 m hm) i q4
  ·intro hi
   exact ⟨s,hs.1.1.lt,hs.1.1,Int.le_antisymm (a3 s hs.1.1.lt hs.1.1) (hs.1.2 b a2),hi⟩
 rw [e]
 exact hs
end
end
end Go.Sim
namespace Go.Proofs.YtelmdbpaoifmoaaGreat
open Go.Sim
section
end
end Go.Proofs.YtelmdbpaoifmoaaGreat
namespace Go.Sim
section
def KP (p:Value→Bool) (h h':ae):Prop:=∀d c r,aR h d=some (c::r)→p c=true→aR h' d=some (c::r)
theorem KP.refl (p:Value→Bool) (h:ae):KP p h h:=fun _ _ _ a _=>a
theorem KP.trans {p:Value→Bool} {a b c:ae} (x:KP p a b) (y:KP p b c):KP p a c:=fun d v r h1 h2=>y d v r (x d v r h1 h2) h2
theorem KP.ex {p:Value→Bool} {a b:ae} (x:EX a b):KP p a b:=fun _ _ _ h1 _=>x.cells h1
theorem KP.set {p:Value→Bool} {h:ae} {i:Nat} {e:TypeId} {cs:List Value} (hg:h[i]?=some (.arr e cs)) (hp:∀c r,cs=c::r→p c=false) (o:ak):KP p h (h.set i o):=by
 intro d c r h1 h2
 have bm:i≠d:=by
  rintro rfl
  simp only [aR,hg] at h1
  cases h1
  rw [hp _ _ rfl] at h2
  cases h2
 simp only [aR] at h1⊢
 rw [getElem?_set_ne bm]
 exact h1
def RS (h:ae) (e:TypeId) (aV:Nat) (v:Value) (rows:List (List Value)):Prop:=
 (∀r∈rows,r.length=aV)∧((v=.slice none 0 0∧rows=[])∨∃i o,v=sl e i o rows.length∧(rows=[]∨∃pre post,aR h i=some (pre++rows.flatten++post)∧pre.length=o))
section
variable {h h' : ae} {e : TypeId} {aV : Nat} {v : Value} {rows : List (List Value)}
theorem RS.mono (x:EX h h') (p:RS h e aV v rows):RS h' e aV v rows:=
 ⟨p.1,p.2.imp id fun ⟨i,o,a,b⟩=>⟨i,o,a,b.imp id fun ⟨pre,post,c,d⟩=>⟨pre,post,x.cells c,d⟩⟩⟩
theorem RS.len (p:RS h e aV v rows):bc v=some (I rows.length):=by
 rcases p.2 with ⟨rfl,rfl⟩ | ⟨i,o,rfl,_⟩ <;> rfl
theorem RS.one (p:RS h e aV v rows):fP v=true∧cR v=[v]:=by
 rcases p.2 with ⟨rfl,_⟩ | ⟨i,o,rfl,_⟩ <;> exact ⟨rfl,rfl⟩
theorem Ea:∀{rows:List (List Value)},(∀r∈rows,r.length=aV)→rows.flatten.length=rows.length*aV
 | [],_=>by simp
 | r::rows,h=>by
  have ih:=Ea (rows:=rows) fun x hx=>h x (List.mem_cons_of_mem _ hx)
  simp only [List.flatten_cons,length_append,length_cons,h r (List.mem_cons_self ..),ih]
  rw [Nat.succ_mul];omega
theorem ado:∀{rows:List (List Value)},(∀r∈rows,r.length=aV)→∀k (hk:k<rows.length),(rows.flatten.drop (k*aV)).take aV=rows[k]
 | r::rows,h,0,_=>by
  have:=h r (by simp)
  simp only [List.flatten_cons,Nat.zero_mul,List.drop_zero,List.getElem_cons_zero]
  rw [←this,List.take_left']
  rfl
 | r::rows,h,k+1,hk=>by
  have hr:=h r (by simp)
  have:=ado (rows:=rows) (fun x hx=>h x (by simp [hx])) k (by simpa using hk)
  simp only [List.flatten_cons,List.getElem_cons_succ]
  rw [←this,show (k+1)*aV=r.length+k*aV by rw [Nat.succ_mul,hr];omega,List.drop_append,List.drop_eq_nil_of_le (by omega),List.nil_append,show r.length+k*aV-r.length=k*aV by omega]
theorem RS.get (p:RS h e aV v rows) {k:Nat} (hk:k<rows.length):∃i o cs,aY aV v (I k)=some (pt i o)∧aR h i=some cs∧o+aV≤cs.length∧(cs.drop o).take aV=rows[k]:=by
 rcases p.2 with ⟨_,rfl⟩ | ⟨i,o,rfl,rfl | ⟨pre,post,hc,ho⟩⟩
 ·simp at hk
 ·simp at hk
 have hf:=Ea p.1
 have hle:(k+1)*aV≤rows.length*aV:=Nat.mul_le_mul_right _ hk
 rw [Nat.succ_mul] at hle
 refine ⟨i,o+k*aV,_,?_,hc,?_,?_⟩
 ·have:(0:Int)≤(k:Int)∧(k:Int)<(rows.length:Int):=by omega
  simp [sl,aY,this]
 ·simp only [length_append,hf];omega
 ·rw [←ado p.1 k hk,←ho,List.append_assoc,List.drop_append,List.drop_eq_nil_of_le (by omega),List.nil_append,show pre.length+k*aV-pre.length=k*aV by omega]
  rw [List.drop_append_of_le_length (by rw [hf];omega),List.take_append_of_le_length (by rw [length_drop,hf];omega)]
theorem Vt {i o:Nat} {cs row:List Value} (hc:aR h i=some cs) (hl:o+aV≤cs.length) (ht:(cs.drop o).take aV=row):af true aV h (pt i o)=some (.agg row.toArray):=by
 simp [af,hc,cm,hl,ht]
theorem RS.nil (h:ae) (e:TypeId) (aV:Nat):RS h e aV (.slice none 0 0) []:=⟨fun r hr=>by simp at hr,.inl ⟨rfl,rfl⟩⟩
theorem RS.arr {i:Nat} (hw:∀r∈rows,r.length=aV) (hg:h[i]?=some (.arr e rows.flatten)):RS h e aV (sl e i 0 rows.length) rows:=
 ⟨hw,.inr ⟨i,0,rfl,.inr ⟨[],[],by simp [aR,hg],rfl⟩⟩⟩
theorem RS.from (p:RS h e aV v rows) {k:Nat} (hk:k≤rows.length):∃v',mJ e aV v (some (I k)) none=some v'∧RS h e aV v' (rows.drop k):=by
 have hw:∀r∈rows.drop k,r.length=aV:=fun r hr=>p.1 r (mem_of_mem_drop hr)
 rcases p.2 with ⟨rfl,rfl⟩ | ⟨i,o,rfl,hc⟩
 ·have:k=0:=by simpa using hk
  subst this
  exact ⟨_,rfl,⟨hw,.inl ⟨rfl,rfl⟩⟩⟩
 ·refine ⟨sl e i (o+k*aV) (rows.length-k),by simp [mJ,sl,sf,tI,hk],hw,.inr ⟨i,_,by rw [length_drop],?_⟩⟩
  rcases hc with rfl | ⟨pre,post,hc,ho⟩
  ·left;simp
  ·right
   refine ⟨pre++(rows.take k).flatten,post,?_,?_⟩
   ·rw [hc]
    have:rows.flatten=(rows.take k).flatten++(rows.drop k).flatten:=by rw [←List.flatten_append,List.take_append_drop]
    rw [this];simp
   ·rw [length_append,ho,Ea fun r hr=>p.1 r (List.mem_of_mem_take hr),length_take,Nat.min_eq_left hk]
def gh (b:Nat) (hx:ae) (e:TypeId) (aV:Nat) (v:Value) (rows:List (List Value)):Prop:=
 (∀r∈rows,r.length=aV)∧((v=.slice none 0 0∧rows=[])∨∃i,b≤i∧v=sl e i 0 rows.length∧hx[i]?=some (.arr e rows.flatten))
theorem gh.start (b:Nat) (hx:ae) (e:TypeId) (aV:Nat):gh b hx e aV (.slice none 0 0) []:=⟨fun r hr=>by simp at hr,.inl ⟨rfl,rfl⟩⟩
theorem gh.rs {b:Nat} (o:gh b h e aV v rows):RS h e aV v rows:=by
 rcases o.2 with ⟨rfl,rfl⟩ | ⟨i,_,rfl,hg⟩
 ·exact .nil _ _ _
 ·exact .arr o.1 hg
theorem gh.dR {b:Nat} (o:gh b h e aV v rows) (x:∀d n,v=sl e d 0 n→b≤d→h'[d]?=h[d]?):gh b h' e aV v rows:=
 ⟨o.1,o.2.imp id fun ⟨i,h1,h2,h3⟩=>⟨i,h1,h2,by rw [x i _ h2 h1];exact h3⟩⟩
theorem gh.lt {b d n:Nat} (o:gh b h e aV v rows) (hv:v=sl e d 0 n):b≤d∧d<h.length∧h[d]?=some (.arr e rows.flatten):=by
 rcases o.2 with ⟨h1,_⟩ | ⟨i,h1,h2,h3⟩
 ·rw [h1] at hv;cases hv
 ·rw [h2] at hv
  obtain ⟨rfl,_⟩:=VM hv
  exact ⟨h1,(bL h3).1,h3⟩
theorem gh.ex {b:Nat} (o:gh b h e aV v rows) (x:EX h h'):gh b h' e aV v rows:=o.dR fun d _ hv _=>x.2 d (o.lt hv).2.1
theorem gh.kp {b:Nat} {p:Value→Bool} (o:gh b h e aV v rows) (hp:∀c r,rows.flatten=c::r→p c=false) (hold:∀d,d<h.length→(∀n,v≠sl e d 0 n)→h'[d]?=h[d]?):KP p h h':=by
 intro d c r h1 h2
 have hd:d<h.length:=by
  apply byContradiction
  intro cL
  rw [aR,List.getElem?_eq_none (by omega)] at h1
  cases h1
 have bm:∀n,v≠sl e d 0 n:=by
  intro n hv
  have:=(o.lt hv).2.2
  simp only [aR,this] at h1
  cases BZ:rows.flatten with
  | nil=>rw [BZ] at h1;cases h1
  | cons y ys=>
   rw [BZ] at h1
   cases h1
   rw [hp _ _ BZ] at h2
   cases h2
 simp only [aR,hold d hd bm] at h1⊢
 exact h1
theorem gh.app {h0:ae} {bytes:Nat} {x:Value} {row zs:List Value} {K:Value→ae→Prop} (o:gh h0.length h e aV v rows) (hex:EX h0 h) (hz:zs.length=aV) (h1:fP x=true) (h2:cR x=row) (hr:row.length=aV)
  (hb:(rows.length+1)*bytes≤140737488355328) (hm:rows.length+1≤maxLen)
  (hk:∀v' h',EX h0 h'→(∀d,d<h.length→(∀n,v≠sl e d 0 n)→h'[d]?=h[d]?)→gh h0.length h' e aV v' (rows++[row])→K v' h'):
  OH (cZ e 1 zs h [(0,aV,x)]) fun a h2=>OH (dI e aV bytes h2 v a) K:=by
 have hw:∀r∈rows++[row],r.length=aV:=by
  intro r mE
  rcases mem_append.1 mE with mE | mE
  ·exact o.1 r mE
  ·rw [mem_singleton.1 mE];exact hr
 have e1:cZ e 1 zs h [(0,aV,x)]=some (sl e h.length 0 1,h++[.arr e row]):=by
  have Ao:gy zs 1=zs:=by simp [gy]
  have hs:setAt zs 0 row=row:=by
   unfold setAt
   rw [List.take_zero,List.nil_append,List.drop_eq_nil_of_le (by omega),append_nil]
  simp only [cZ,Ao,qw,h1,h2,hs]
  rw [if_pos ⟨trivial,hr,by omega⟩]
  rfl
 rw [e1]
 simp only [aE]
 have e2:j8 (h++[.arr e row]) aV (sl e h.length 0 1)=some row:=by
  simp [j8,sl,aR,hr]
  rw [←hr,take_length]
 have e3:pe (sl e h.length 0 1)=some 1:=rfl
 rcases o.2 with ⟨rfl,rfl⟩ | ⟨i,hi,rfl,bQ⟩
 ·refine By (v:=sl e (h.length+1) 0 1) (h:=h++[.arr e row]++[.arr e row]) ?_ (hk _ _ ((hex.push _).push _) (fun d hd _=>by rw [getElem?_append_left (by simp;omega),getElem?_append_left hd]) ⟨hw,.inr ⟨h.length+1,by have:=hex.1;omega,rfl,by simp⟩⟩)
  have kQ:1*bytes≤140737488355328:=by simpa using hb
  have gp:1≤maxLen:=by simpa using hm
  simp only [dI,e2,e3]
  rw [if_neg (by omega),if_pos ⟨kQ,gp⟩]
  simp
 ·have aB:=(bL bQ).1
  have hg:(h++[.arr e row])[i]?=some (.arr e rows.flatten):=by rw [getElem?_append_left aB];exact bQ
  refine By (v:=sl e (h.length+1) 0 (rows.length+1)) (h:=(h++[ak.arr e row]).set i ak.dead++[ak.arr e (rows.flatten++row)]) ?_
   (hk _ _ (((hex.push _).set hi _).push _) (fun d hd bm=>?_) ⟨hw,.inr ⟨h.length+1,by have:=hex.1;omega,by simp,?_⟩⟩)
  ·simp only [dI,e2,e3]
   simp only [sl,hg]
   rw [if_pos ⟨trivial,trivial,Ea o.1,hb,hm⟩,if_neg (by omega)]
   simp
  ·have pL:i≠d:=by rintro rfl;exact bm _ rfl
   rw [getElem?_append_left (by simp;omega),getElem?_set_ne pL,getElem?_append_left hd]
  ·rw [getElem?_append_right (by simp)]
   simp
end
end
end Go.Sim
namespace Go.Proofs.YtelmdbpaoifmoaaGreat
open Go.Sim
section
/-- Fractions in memory. -/
def rC (h:ae) (v:Value) (qs:List (Int×Int)):Prop:=
 ∃rows,RS h 107 4 v rows∧rows.length=qs.length∧∀(k:Nat) (row:List Value) (q:Int×Int),rows[k]?=some row→qs[k]?=some q→hY h (.agg row.toArray) q.1 q.2
theorem rC.mono {h h':ae} {v:Value} {qs:List (Int×Int)} (x:EX h h') (p:rC h v qs):rC h' v qs:=
 let ⟨rows,a,b,c⟩:=p;⟨rows,a.mono x,b,fun k row q h1 h2=>(c k row q h1 h2).mono x⟩
theorem rC.len {h:ae} {v:Value} {qs:List (Int×Int)} (p:rC h v qs):bc v=some (I qs.length):=by
 obtain ⟨rows,a,b,_⟩:=p;rw [←b];exact a.len
theorem rC.get {h:ae} {v:Value} {qs:List (Int×Int)} (p:rC h v qs) {k:Nat} (hk:k<qs.length):∃i o r,aY 4 v (I k)=some (pt i o)∧af true 4 h (pt i o)=some r∧hY h r qs[k].1 qs[k].2:=by
 obtain ⟨rows,a,b,c⟩:=p
 have cW:k<rows.length:=by omega
 obtain ⟨i,o,cs,g1,g2,g3,g4⟩:=a.get cW
 exact ⟨i,o,_,g1,Vt g2 g3 g4,c k _ _ (getElem?_eq_getElem cW) (getElem?_eq_getElem hk)⟩
def uU:Value→Bool
 | .int .u32 _=>true
 | _=>false
theorem DSw.dR {e:TypeId} {h h':ae} {v:Value} {xs:List Nat} (x:KP uU h h') (p:DS e .u32 h v xs):DS e .u32 h' v xs:=by
 refine p.imp id fun ⟨i,a,b⟩=>⟨i,a,?_⟩
 cases xs with
 | nil=>exact .inl rfl
 | cons y ys=>
  obtain ⟨r,c⟩:=b.resolve_left (by simp)
  exact .inr ⟨r,x i _ _ c rfl⟩
theorem dw.dR {h h':ae} {v:Value} {n:Nat} (x:KP uU h h') (p:dw h v n):dw h' v n:=let ⟨xs,a,b,c⟩:=p;⟨xs,DSw.dR x a,b,c⟩
theorem hY.dR {h h':ae} {v:Value} {a b:Int} (x:KP uU h h') (p:hY h v a b):hY h' v a b:=let ⟨u,w,e,m,n⟩:=p;⟨u,w,e,m.dR x,n.dR x⟩
theorem hY.cells {h:ae} {v:Value} {a b:Int} (p:hY h v a b):fP v=true∧∃s u t w,v=.agg #[B s,u,B t,w]∧cR v=[B s,u,B t,w]:=by
 obtain ⟨u,w,rfl,_⟩:=p
 exact ⟨rfl,_,_,_,_,rfl,rfl⟩
/-- Fractions that are being gathered. -/
def nX (b:Nat) (h:ae) (v:Value) (qs:List (Int×Int)):Prop:=
 ∃rows,gh b h 107 4 v rows∧rows.length=qs.length∧(∀r∈rows,∃s t,r=.bool s::t)∧∀(k:Nat) (row:List Value) (q:Int×Int),rows[k]?=some row→qs[k]?=some q→hY h (.agg row.toArray) q.1 q.2
theorem nX.start (b:Nat) (h:ae):nX b h (.slice none 0 0) []:=⟨[],gh.start ..,rfl,fun r hr=>by simp at hr,fun k r q h=>by simp at h⟩
theorem nX.aDA {b:Nat} {h:ae} {v:Value} {qs:List (Int×Int)} (o:nX b h v qs):rC h v qs:=let ⟨rows,a,c,_,d⟩:=o;⟨rows,a.rs,c,d⟩
theorem nX.ex {b:Nat} {h h':ae} {v:Value} {qs:List (Int×Int)} (x:EX h h') (o:nX b h v qs):nX b h' v qs:=
 let ⟨rows,a,c,e,d⟩:=o;⟨rows,a.ex x,c,e,fun k r q h1 h2=>(d k r q h1 h2).mono x⟩
theorem awo {rows:List (List Value)} (h:∀r∈rows,∃s t,r=.bool s::t):∀c r,rows.flatten=c::r→uU c=false:=by
 intro c r hc
 cases rows with
 | nil=>simp at hc
 | cons x xs=>
  obtain ⟨s,t,rfl⟩:=h x (by simp)
  simp at hc
  rw [←hc.1];rfl
theorem nX.app {h0 h:ae} {v x:Value} {a b:Int} {qs:List (Int×Int)} {zs:List Value} {K:Value→ae→Prop} (o:nX h0.length h v qs) (hex:EX h0 h) (hx:hY h x a b) (hz:zs.length=4) (hl:qs.length≤10000)
  (hk:∀v' h',EX h0 h'→KP uU h h'→nX h0.length h' v' (qs++[(a,b)])→K v' h'):OH (cZ 107 1 zs h [(0,4,x)]) fun y h2=>OH (dI 107 4 64 h2 v y) K:=by
 obtain ⟨rows,o1,o2,o3,o4⟩:=o
 obtain ⟨t1,s,u,t,w,e1,e2⟩:=hx.cells
 refine o1.app hex hz t1 e2 rfl (by omega) (by simp [maxLen];omega) ?_
 intro v' h' x' hold o'
 have kp:KP uU h h':=o1.kp (awo o3) hold
 refine hk v' h' x' kp ⟨_,o',by simp [o2],fun r hr=>?_,fun k row q h1 h2=>?_⟩
 ·rcases mem_append.1 hr with hr | hr
  ·exact o3 r hr
  ·rw [mem_singleton.1 hr];exact ⟨s,_,rfl⟩
 ·by_cases hk:k<rows.length
  ·rw [getElem?_append_left hk] at h1
   rw [getElem?_append_left (by omega)] at h2
   exact (o4 k row q h1 h2).dR kp
  ·rw [getElem?_append_right (by omega)] at h1
   rw [getElem?_append_right (by omega),←o2] at h2
   have h0:k-rows.length=0:=by
    have:=(bL h1).1
    simp at this;omega
   rw [h0] at h1 h2
   simp only [List.getElem?_cons_zero,Option.some.injEq] at h1 h2
   subst h1 h2
   rw [←e1]
   exact hx.dR kp
end
section
variable (P : Program) (K : VK)
noncomputable section
variable (x0 x1 p7 x9 aM au aA bk br bE : Value) (L1 L2 : LQ) (xs : List Value) (h : ae)
def ahB:=bK prog 19 [[],[],[],[],[],[],[],[],[0,7,9],[10,11],[],[],[],[],[0,7,9,12,32,33],[10,11,34],[],[],[],[],[],[],[9,10],[]]
@[irreducible] def BG:=bR ahB
@[irreducible] def aaD:=BG.r.r.r.r.r.l.r.l.l
@[irreducible] def aaE:=BG.r.r.r.r.r.r
@[irreducible] def asP:=aaD.r.l.r.r.l.l
@[irreducible] def asQ:=aaE.l
theorem k19:ahB=some (75,BG,[.tmp 4,.tmp 5,.tmp 6]):=by kernel_rfl
def MK (_P:Program) (K:VK):ar:=aS [.tmp 4,.tmp 5,.tmp 6] K
def apw:ar:=aF (aj P aaE (MK P K)) (MK P K)
def aps:ar:=bI 0 (apw P K)
def XQ:ar:=aF (fun f' aU=>(([0,7,9]:List Nat).map f':List Value)=[x0,p7,x9]∧L1 (([10,11]:List Nat).map f') aU) (aps P K)
def apt:ar:=bI 1 (XQ P K x0 p7 x9 L1)
def apu:ar:=bI 2 (apt P K x0 p7 x9 L1)
def apv:ar:=aF (fun f' aU=>(([0,7,9,12,32,33]:List Nat).map f':List Value)=[x0,p7,x9,aA,bk,br]∧L2 (([10,11,34]:List Nat).map f') aU) (apu P K x0 p7 x9 L1)
def ajB:Prop:=ax (aj P aaD (XQ P K x0 p7 x9 L1)) ([0,7,9]++[10,11]) ([x0,p7,x9]++xs) h
def ajC:Prop:=ax (aj P asP (apv P K x0 p7 x9 aA bk br L1 L2)) ([0,7,9,12,32,33]++[10,11,34]) ([x0,p7,x9,aA,bk,br]++xs) h
def ajD:Prop:=ax (aj P asQ (MK P K)) [9,10] [x9,aM] h
theorem aBI (x0 p7 x9 aA bk br:Value) (L1 L2:LQ) (aM au bE:Value) (h:ae):ajC P K x0 p7 x9 aA bk br L1 L2 [aM,au,bE] h=
 (OP (ai .lss bE br) fun de=>
 aQ de
 (OP (aY 2 bk bE) fun eQ=>
 OP (af true 2 h eQ) fun dF=>
 OH (ba 46 [(.int .i64 (0)),(.int .i64 (0))] h) fun Su z1=>
 OH (aK 2 z1 Su dF) fun _ z2=>
 aq P 63 [p7,au,bE] z2 fun ef z3=>
 (True)∧
 cE ef true
 (OP (aJ 1 Su) fun bp=>
 OP (af false 1 z3 bp) fun cH=>
 (True)∧
 OP (aJ 0 Su) fun mP=>
 OP (af false 1 z3 mP) fun fz=>
 (True)∧
 OP (ai .add aA fz) fun fQ=>
 OP (ai .mul cH fQ) fun bW=>
 OP (ai .shl (.int .u16 (1)) bE) fun cM=>
 OP (ai .or au cM) fun eR=>
 OP (sg .u16 false (.int .i64 (0)) z3 x9 eR) fun gR=>
 (True)∧
 OP (ai .add bW gR) fun cQ=>
 OP (sg .u16 false (.int .i64 (0)) z3 x9 au) fun jT=>
 (True)∧
 OP (ai .eql cQ jT) fun gf=>
 OP (ck ef gf (.bool false)) fun kW=>
 aQ kW
 (OH (cZ 3 1 [(.int .i64 (0))] z3 [(0,1,bE)]) fun iD z4=>
 (True)∧
 OH (dI 3 1 8 z4 aM iD) fun kX z5=>
 (True)∧
 OP (ai .shl (.int .u16 (1)) bE) fun fA=>
 OP (ai .or au fA) fun jI=>
 ([x0,p7,x9]:List Value)=[x0,p7,x9]∧L1 [kX,jI] z5)
 (OP (ai .add bE (.int .i64 (1))) fun gw=>
 ([x0,p7,x9,aA,bk,br]:List Value)=[x0,p7,x9,aA,bk,br]∧L2 [aM,au,gw] z3))
 (OP (ck ef undef (.bool false)) fun kW=>
 aQ kW
 (OH (cZ 3 1 [(.int .i64 (0))] z3 [(0,1,bE)]) fun iD z4=>
 (True)∧
 OH (dI 3 1 8 z4 aM iD) fun kX z5=>
 (True)∧
 OP (ai .shl (.int .u16 (1)) bE) fun fA=>
 OP (ai .or au fA) fun jI=>
 ([x0,p7,x9]:List Value)=[x0,p7,x9]∧L1 [kX,jI] z5)
 (OP (ai .add bE (.int .i64 (1))) fun gw=>
 ([x0,p7,x9,aA,bk,br]:List Value)=[x0,p7,x9,aA,bk,br]∧L2 [aM,au,gw] z3)))
 (([x0,p7,x9]:List Value)=[x0,p7,x9]∧L1 [aM,au] h)):=az (by kernel_rfl)
theorem aBH (x0 p7 x9:Value) (L1:LQ) (aM au:Value) (h:ae):ajB P K x0 p7 x9 L1 [aM,au] h=
 (aq P 61 [p7] h fun bn z1=>
 OP (ai .neq au bn) fun bz=>
 aQ bz
 (aq P 62 [p7,au] z1 fun cG z2=>
 OP (bc x0) fun br=>
 cJ [aM,au,(.int .i64 (0))] z2 fun L2 xs hx=>
 ajC P K x0 p7 x9 cG x0 br L1 L2 xs hx)
 (ajD P K x9 aM z1)):=az (by kernel_rfl)
theorem aBJ:ajD P K x9 aM h=
 (OP (sg .u16 false (.int .i64 (0)) h x9 (.int .u16 (0))) fun kK=>
 (True)∧
 K (.tuple #[aM,kK,(.int .i64 (0))]) h):=az (by kernel_rfl)
def YP:Prop:=
 aq P 59 [x0,x1] h fun aO z1=>
 OP (cf 0 aO) fun aP=>
 OP (cf 1 aO) fun aZ=>
 OP (gZ .not aZ) fun bH=>
 aQ bH
 (K (.tuple #[(.slice none 0 0),(.int .i64 (0)),(.int .i64 (1))]) z1)
 (aq P 60 [aP] z1 fun bD z2=>
 cJ [(.slice none 0 0),(.int .u16 (0))] z2 fun L1 xs hx=>
 ajB P K x0 aP bD L1 xs hx)
theorem e19:aj P BG (aS [.tmp 4,.tmp 5,.tmp 6] K) (bG [x0,x1]) h=YP P K x0 x1 h:=by kernel_rfl
theorem f19 {K:VK} {x0 x1:Value} {h:ae} (H:YP prog K x0 x1 h):aq prog 19 [x0,x1] h K:=
 bT k19 (bP rfl) ((e19 prog K x0 x1 h).mpr H)
end
noncomputable section
variable (p0 : Value) (h : ae)
def ahP:=bK prog 60 [[],[],[],[],[],[]]
@[irreducible] def c60:=bR ahP
theorem k60:ahP=some (13,c60,[.tmp 2]):=by kernel_rfl
def Ob:Prop:=
 OH (bC 125 h p0) fun p1 z1=>
 OH (afi .u16 z1) fun x5 z2=>
 OP (af false 1 z2 p1) fun x6=>
 aq P 61 [x6] z2 fun x7 z3=>
 OH (Fl .u16 z3 x5 x7 (.int .i64 (0))) fun _ z4=>
 OH (ba 128 [(.map none)] z4) fun x3 z5=>
 OH (aK 1 z5 x3 x5) fun _ z6=>
 OH (ba 133 [.nilFunc] z6) fun x4 z7=>
 OH (aK 1 z7 x4 (.func (.func 97) #[] #[x3,p1,x4])) fun _ z8=>
 OP (af false 1 z8 x4) fun aM=>
 sJ P aM [(.int .u16 (0))] z8 fun _ z9=>
 OP (af false 1 z9 x3) fun aA=>
 K aA z9
theorem e60:aj P c60 (aS [.tmp 2] K) (bG [p0]) h=Ob P K p0 h:=by kernel_rfl
theorem f60 {K:VK} {p0:Value} {h:ae} (H:Ob prog K p0 h):aq prog 60 [p0] h K:=
 bT k60 (bP rfl) ((e60 prog K p0 h).mpr H)
end
noncomputable section
variable (x0 x1 x2 x3 x8 x9 nC bn bz bN eR cK : Value) (L1 : LQ) (xs : List Value) (h : ae)
def aij:=bK prog 97 [[],[],[],[],[],[],[],[],[0,1,2,3,9,27,28],[8,29],[],[],[],[],[],[],[0,1,2,3,8,9,12,27,28,29,55],[0,1,2,3,8,9,12,27,28,29,55,58],[],[0,1,2,3,8,9,27,28,29],[0,1,8],[],[]]
@[irreducible] def Ie:=bR aij
@[irreducible] def Ig:=Ie.r.r.r.r.l.r.l.l
@[irreducible] def acA:=Ie.r.r.r.r.r
@[irreducible] def acz:=Ig.r.r.l.l.r.r.r.l.r.l
@[irreducible] def auB:=Ig.r.r.l.l.r.r.r.r
@[irreducible] def acy:=Ig.r.r.r
@[irreducible] def auE:=acA.l
@[irreducible] def auC:=acz.r.l
@[irreducible] def auD:=acy.l
theorem k97:aij=some (66,Ie,[.tmp 5]):=by kernel_rfl
def M6 (_P:Program) (K:VK):ar:=aS [.tmp 5] K
def aq1:ar:=aF (aj P acA (M6 P K)) (M6 P K)
def aqZ:ar:=bI 0 (aq1 P K)
def GM:ar:=aF (fun f' aU=>(([0,1,2,3,9,27,28]:List Nat).map f':List Value)=[x0,x1,x2,x3,x9,bn,bz]∧L1 (([8,29]:List Nat).map f') aU) (aqZ P K)
def aq0:ar:=aF (aj P acy (GM P K x0 x1 x2 x3 x9 bn bz L1)) (GM P K x0 x1 x2 x3 x9 bn bz L1)
def YI:ar:=bI 1 (aq0 P K x0 x1 x2 x3 x9 bn bz L1)
def YJ:ar:=aF (aj P auB (YI P K x0 x1 x2 x3 x9 bn bz L1)) (YI P K x0 x1 x2 x3 x9 bn bz L1)
def ak4:Prop:=ax (aj P Ig (GM P K x0 x1 x2 x3 x9 bn bz L1)) ([0,1,2,3,9,27,28]++[8,29]) ([x0,x1,x2,x3,x9,bn,bz]++xs) h
def ak5:Prop:=ax (aj P acz (YJ P K x0 x1 x2 x3 x9 bn bz L1)) [0,1,2,3,8,9,12,27,28,29,55] [x0,x1,x2,x3,x8,x9,nC,bn,bz,bN,eR] h
def UL:Prop:=ax (aj P auC (YJ P K x0 x1 x2 x3 x9 bn bz L1)) [0,1,2,3,8,9,12,27,28,29,55,58] [x0,x1,x2,x3,x8,x9,nC,bn,bz,bN,eR,cK] h
def FC:Prop:=ax (aj P auD (GM P K x0 x1 x2 x3 x9 bn bz L1)) [0,1,2,3,8,9,27,28,29] [x0,x1,x2,x3,x8,x9,bn,bz,bN] h
def ak6:Prop:=ax (aj P auE (M6 P K)) [0,1,8] [x0,x1,x8] h
theorem amk:UL P K x0 x1 x2 x3 x8 x9 nC bn bz bN eR cK L1 h=
 (OP (ck eR (.bool true) cK) fun dO=>
 aQ dO
 (FC P K x0 x1 x2 x3 nC x9 bn bz bN L1 h)
 (FC P K x0 x1 x2 x3 x8 x9 bn bz bN L1 h)):=az (by kernel_rfl)
theorem aDu:ak5 P K x0 x1 x2 x3 x8 x9 nC bn bz bN eR L1 h=
 (cE eR false
 (OP (ai .lss nC x8) fun cK=>
 UL P K x0 x1 x2 x3 x8 x9 nC bn bz bN eR cK L1 h)
 (UL P K x0 x1 x2 x3 x8 x9 nC bn bz bN eR undef L1 h)):=az (by kernel_rfl)
theorem aml:FC P K x0 x1 x2 x3 x8 x9 bn bz bN L1 h=
 (OP (ai .add bN (.int .i64 (1))) fun gf=>
 ([x0,x1,x2,x3,x9,bn,bz]:List Value)=[x0,x1,x2,x3,x9,bn,bz]∧L1 [x8,gf] h):=az (by kernel_rfl)
theorem aDt (x0 x1 x2 x3 x9 bn bz:Value) (L1:LQ) (x8 bN:Value) (h:ae):ak4 P K x0 x1 x2 x3 x9 bn bz L1 [x8,bN] h=
 (OP (ai .lss bN bz) fun dD=>
 aQ dD
 (OP (aY 2 bn bN) fun bk=>
 OP (af true 2 h bk) fun br=>
 OH (ba 46 [(.int .i64 (0)),(.int .i64 (0))] h) fun Ss z1=>
 OH (aK 2 z1 Ss br) fun _ z2=>
 OP (af false 1 z2 x2) fun bE=>
 aq P 63 [bE,x0,bN] z2 fun eQ z3=>
 OP (gZ .not eQ) fun dF=>
 aQ dF
 (FC P K x0 x1 x2 x3 x8 x9 bn bz bN L1 z3)
 (OP (aJ 1 Ss) fun eI=>
 OP (af false 1 z3 eI) fun ee=>
 (True)∧
 OP (aJ 0 Ss) fun ef=>
 OP (af false 1 z3 ef) fun bO=>
 (True)∧
 OP (ai .add x9 bO) fun bp=>
 OP (ai .mul ee bp) fun cH=>
 OP (af false 1 z3 x3) fun dU=>
 (True)∧
 OP (ai .shl (.int .u16 (1)) bN) fun fQ=>
 OP (ai .or x0 fQ) fun bW=>
 sJ P dU [bW] z3 fun cd z4=>
 (af false 1 z4 eI=some ee∧af false 1 z4 ef=some bO∧True)∧
 OP (ai .add cH cd) fun cV=>
 OP (ai .lss x8 (.int .i64 (0))) fun cM=>
 ak5 P K x0 x1 x2 x3 x8 x9 cV bn bz bN cM L1 z4))
 (ak6 P K x0 x1 x8 h)):=az (by kernel_rfl)
theorem aDv:ak6 P K x0 x1 x8 h=
 (OP (af false 1 h x1) fun kW=>
 OH (Fl .u16 h kW x0 x8) fun _ z1=>
 K x8 z1):=az (by kernel_rfl)
def GR:Prop:=
 OP (af false 1 h x1) fun aL=>
 OP (sg .u16 true (.int .i64 (0)) h aL x0) fun bM=>
 OP (cf 0 bM) fun bU=>
 OP (cf 1 bM) fun aO=>
 aQ aO
 (K bU h)
 (OP (af false 1 h x2) fun bf=>
 aq P 62 [bf,x0] h fun cX z1=>
 OP (af false 1 z1 x2) fun bD=>
 OP (tA bD) fun bV=>
 OP (aJ 0 bV) fun cF=>
 OP (af false 1 z1 cF) fun bn=>
 OP (bc bn) fun bz=>
 cJ [(.int .i64 (-1)),(.int .i64 (0))] z1 fun L1 xs hx=>
 ak4 P K x0 x1 x2 x3 cX bn bz L1 xs hx)
theorem e97:aj P Ie (aS [.tmp 5] K) (bG [x0,x1,x2,x3]) h=GR P K x0 x1 x2 x3 h:=by kernel_rfl
theorem f97 {K:VK} {x0 x1 x2 x3:Value} {h:ae} (H:GR prog K x0 x1 x2 x3 h):aq prog 97 [x0,x1,x2,x3] h K:=
 bT k97 (bP rfl) ((e97 prog K x0 x1 x2 x3 h).mpr H)
end
end
section
theorem PL.AM {h h':ae} {p:Value} {js:List (Int×Int)} {bs:List Nat} (x:CX h h') (q:PL h p js bs):PL h' p js bs:=
 let ⟨i,vj,vb,a,b,c,d⟩:=q;⟨i,vj,vb,a,x _ _ b,c.AM x,NS.AM x d⟩
theorem BT (k:Int) (v:Value) (k':Int):∀es:List (Int×Value),gK k' (oH k v es)=if k'=k then some v else gK k' es
 | []=>by simp [oH,gK]
 | (k1,v1)::es=>by
  simp only [oH]
  by_cases h:k=k1
  ·subst h
   simp only [if_true,gK]
   by_cases h2:k'=k <;> simp [h2]
  ·rw [if_neg h]
   simp only [gK,BT k v k' es]
   by_cases h2:k'=k1
   ·subst h2
    rw [if_pos rfl,if_pos rfl,if_neg (fun h3=>h h3.symm)]
   ·rw [if_neg h2,if_neg h2]
section
variable (js : List (Int × Int)) (bs : List Nat) (n : Nat)
structure Bx (es:List (Int×Value)):Prop where
 val:∀s v,gK s es=some v→∃t:Nat,s=t∧t<2^n∧v=I (eG bs js n t)
 full:(gK (bt n:Nat) es).isSome=true
 next:∀s:Nat,s<bt n→(gK (s:Int) es).isSome=true→∀i,i<n→iB bs s i=true→(gK ((s ||| 2^i:Nat):Int) es).isSome=true
def sN (es ko:List (Int×Value)):Prop:=∀k,(gK k es).isSome=true→(gK k ko).isSome=true
end
theorem sN.refl (es:List (Int×Value)):sN es es:=fun _ h=>h
theorem sN.trans {a b c:List (Int×Value)} (h:sN a b) (k:sN b c):sN a c:=fun x hx=>k x (h x hx)
theorem Bx.look {js:List (Int×Int)} {bs:List Nat} {n:Nat} {es:List (Int×Value)} (m:Bx js bs n es) {s:Nat} (h:(gK (s:Int) es).isSome=true):gK (s:Int) es=some (I (eG bs js n s)):=by
 obtain ⟨v,hv⟩:=Option.isSome_iff_exists.1 h
 obtain ⟨t,h1,_,h2⟩:=m.val _ _ hv
 have:s=t:=by omega
 subst this
 rw [hv,h2]
theorem af5 {g:ae} {im:Nat} {es:List (Int×Value)} (hg:g[im]?=some (.eP .u16 es)) (s:Nat):sg .u16 true (.int .i64 0) g (.map (some im)) (U s)=some (.tuple #[(gK (s:Int) es).getD (I 0),B (gK (s:Int) es).isSome]):=by
 simp [sg,hg]
theorem af6 {g:ae} {im:Nat} {es:List (Int×Value)} (hg:g[im]?=some (.eP .u16 es)) (s:Nat):sg .u16 false (.int .i64 0) g (.map (some im)) (U s)=some ((gK (s:Int) es).getD (I 0)):=by
 simp [sg,hg]
theorem ani {g:ae} {im:Nat} {es:List (Int×Value)} (hg:g[im]?=some (.eP .u16 es)) (s:Nat) (v:Value):Fl .u16 g (.map (some im)) (U s) v=some (undef,g.set im (.eP .u16 (oH s v es))):=by
 simp [Fl,EW,hg]
theorem ais:qp prog 97=true:=by kernel_rfl
structure Dk (im ox px cx:Nat) (p:Value) (js:List (Int×Int)) (bs:List Nat) (h:ae):Prop where
 o:aR h ox=some [.map (some im)]
 q:aR h px=some [p]
 c:aR h cx=some [.func (.func 97) #[] #[pt ox 0,pt px 0,pt cx 0]]
 pl:PL h p js bs
theorem Dk.mono {im ox px cx:Nat} {p:Value} {js:List (Int×Int)} {bs:List Nat} {h h':ae} (k:CX h h') (e:Dk im ox px cx p js bs h):Dk im ox px cx p js bs h':=
 ⟨k _ _ e.o,k _ _ e.q,k _ _ e.c,e.pl.AM k⟩
theorem C97 {im ox px cx:Nat} {p:Value} {js:List (Int×Int)} {bs:List Nat} {n:Nat} (hn:js.length=n) (Jn:n≤10) (lY:nQ js) (uJ:bs.length=n) (hb:∀b∈bs,b<2^n) (hu:uk bs n):
  ∀(f s:Nat),bt n-s≤f→s<2^n→∀{h:ae} {es:List (Int×Value)} {K:Value→ae→Prop},Dk im ox px cx p js bs h→h[im]?=some (.eP .u16 es)→Bx js bs n es→
  (∀h' ko,XM im h h'→h'[im]?=some (.eP .u16 ko)→Bx js bs n ko→sN es ko→(gK (s:Int) ko).isSome=true→K (I (eG bs js n s)) h')→
  aq prog 97 [U s,pt ox 0,pt px 0,pt cx 0] h K:=by
 have xU:(2:Nat)^n≤2^10:=pow_le_pow_right (by decide) Jn
 have zG:∀b∈bs,b<1024:=fun b h=>lt_of_lt_of_le (hb b h) xU
 have tm:tT js:=lY.all
 intro f
 induction f with
 | zero=>
  intro s hf hs h es K env hm ok hk
  have RO:s=bt n:=by unfold bt at*;omega
  have Ep:=ok.full
  rw [←RO] at Ep
  refine f97 ?_
  simp only [GR,uX env.o,ah,af5 hm,ok.look Ep,eL,fx,fF,getD_some,Option.isSome_some,dM]
  exact hk h es (XM.refl _ _) hm ok (sN.refl _) Ep
 | succ f ih=>
  intro s hf hs h es K env hm ok hk
  refine f97 ?_
  simp only [GR,uX env.o,ah,af5 hm,eL,fx,fF]
  refine uf (fun eC=>?_) fun aeJ=>?_
  ·rw [ok.look eC,getD_some]
   exact hk h es (XM.refl _ _) hm ok (sN.refl _) eC
  ·have tn:s<bt n:=by
    rcases Nat.lt_or_ge s (bt n) with h1 | h1
    ·exact h1
    ·have:s=bt n:=by unfold bt at*;omega
     rw [this,ok.full] at aeJ
     cases aeJ
   simp only [uX env.q,ah]
   refine Gj env.pl lY (by omega) (by rw [hn];exact hs) ?_
   intro g xg
   have x0:XM im h g:=XM.ex xg
   have Jl:=xg.get hm
   have IG:=env.mono (x0.cx hm)
   obtain ⟨a,vj,vb,rfl,hc,Ce,iP⟩:=IG.pl
   have ldj:af false 1 g (pt a 0)=some vj:=by simp [af,hc,cm]
   have Ro:rk js (cB s 10)=dY js s:=by
    have:∀m,cB s m=jQ s m:=by
     intro m
     induction m with
     | zero=>rfl
     | succ m ih=>simp only [cB,jQ,ih]
    unfold rk dY
    rw [this];rfl
   simp only [uX IG.q,ah,AP,b9,add_zero,ldj,Ce.len,hn,Ro]
   have tj:=Ta tm s
   refine dL (σ:=Nat×List (Int×Value)×ae) (fun q=>[I (jL bs js s (fun i=>eG bs js n (s ||| 2^i)) q.1),I q.1]) (fun q=>q.2.2)
    (fun q=>q.1≤n∧XM im g q.2.2∧q.2.2[im]?=some (.eP .u16 q.2.1)∧Bx js bs n q.2.1∧sN es q.2.1∧∀i,i<q.1→iB bs s i=true→(gK ((s ||| 2^i:Nat):Int) q.2.1).isSome=true) (fun q=>n-q.1)
    (0,es,g) rfl rfl ⟨zero_le _,XM.refl _ _,Jl,ok,sN.refl _,fun i hi=>by omega⟩ ?_
   rintro ⟨i,es1,g1⟩ ⟨hi,x1,yf,wT,JT,Jr⟩ L hL
   simp only at hi x1 yf wT JT Jr hL⊢
   have av1:=IG.mono (x1.cx Jl)
   rw [aDt]
   simp only [cN,ah,cj]
   refine ⟨fun aB=>?_,fun cL=>?_⟩
   ·have eC:i<n:=by omega
    have hjL:i<js.length:=by omega
    have axg:=Ce.AM (x1.cx Jl)
    obtain ⟨b,o,r1,r2,r3,r4⟩:=PS.getD axg hjL
    have D3:∀g:ae,ba 46 [(.int .i64 (0)),(.int .i64 (0))] g=some (pt g.length 0,g++[.arr 46 [I 0,I 0]]):=fun _=>rfl
    have ri:∀(g:ae) (t:TypeId) (a b:Int),aK 2 (g++[.arr t [I 0,I 0]]) (pt g.length 0) (.agg #[I a,I b])=some (undef,g++[.arr t [I a,I b]]):=by
     intro g t a b
     simp [aK,qU,fP,cR,Value.cells,setAt]
    simp only [r1,ah]
    rw [r4]
    simp only [ah,D3,aE,ri]
    have l0:af false 1 (g1++[ak.arr 46 [I (js.getD i (0,0)).1,I (js.getD i (0,0)).2]]) (pt g1.length 0)=some (I (js.getD i (0,0)).1):=nL rfl
    have l1:af false 1 (g1++[ak.arr 46 [I (js.getD i (0,0)).1,I (js.getD i (0,0)).2]]) (pt g1.length 1)=some (I (js.getD i (0,0)).2):=nL rfl
    have xp:EX g1 (g1++[ak.arr 46 [I (js.getD i (0,0)).1,I (js.getD i (0,0)).2]]):=EX.append _ _
    have ye:(js.getD i (0,0)).1=db js i:=rfl
    have RZ:(js.getD i (0,0)).2=fq js i:=rfl
    rw [ye,RZ] at l0 l1 xp⊢
    generalize hg2:g1++[ak.arr 46 [I (db js i),I (fq js i)]]=g2 at l0 l1 xp⊢
    have x2:XM im g g2:=x1.trans (XM.ex xp)
    have qI:=xp.get yf
    have IF:=IG.mono (x2.cx Jl)
    simp only [uX IF.q,ah]
    refine Mf IF.pl (by omega) (by omega) (by omega) zG ?_
    rw [Vm]
    simp only [oI,ah]
    cases hr:iB bs s i with
    | false=>
     simp only [Bool.not_false,dM]
     rw [aml]
     simp only [cA,ah,fk i (by omega),true_and]
     have iP:jL bs js s (fun i=>eG bs js n (s ||| 2^i)) (i+1)=jL bs js s (fun i=>eG bs js n (s ||| 2^i)) i:=by
      simp [jL,hr]
     have:=hL (i+1,es1,g2) ⟨by show i+1≤n;omega,x2,qI,wT,JT,fun j hj uP=>by
      by_cases Eu:j=i
      ·subst Eu;rw [hr] at uP;cases uP
      ·exact Jr j (by show j<i;simp only at hj;omega) uP⟩ (by show n-(i+1)<n-i;omega)
     simp only [iP] at this
     exact this
    | true=>
     have Ae:(2:Nat)^i<1024:=lt_of_lt_of_le (Nat.pow_lt_pow_right (by decide) (show i<10 by omega)) (by decide)
     have hlw:=tm i
     have xW:=Ih tm s i
     have Al:IntKind.wrap .i64 (dY js s+db js i)=dY js s+db js i:=wrap64 (by omega) (by omega)
     have mH:IntKind.wrap .i64 (fq js i*(dY js s+db js i))=fq js i*(dY js s+db js i):=wrap64 (by omega) (by omega)
     have kr:=tM hs eC
     have uN:=E8 (wZ hr)
     simp only [Bool.not_true,dP,b9,add_zero,zero_add,l0,l1,ah,cA,Al,vP,mH,uX IF.c,FM mM (show i<11 by omega),CG mM (show s<1024 by omega) Ae,true_and]
     refine Ij ais ?_
     refine ih (s ||| 2^i) (by unfold bt at*;omega) kr IF qI wT ?_
     intro g3 es3 x3 pQ Tg km3 Q9
     have cx3:=x3.cx qI
     have l0':=cx3.load l0
     have l1':=cx3.load l1
     have Rj:=Fb tm Jn hu kr
     have oC:IntKind.wrap .i64 (fq js i*(dY js s+db js i)+eG bs js n (s ||| 2^i))=fq js i*(dY js s+db js i)+eG bs js n (s ||| 2^i):=wrap64 (by omega) (by omega)
     simp only [l0',l1',true_and,cA,ah,oC]
     have go:∀OY:Int,jL bs js s (fun i=>eG bs js n (s ||| 2^i)) (i+1)=OY→FC prog K (U s) (pt ox 0) (pt px 0) (pt cx 0) (I OY) (I (dY js s)) vj (I n) (I i) L g3:=by
      intro OY awQ
      rw [aml]
      simp only [cA,ah,fk i (by omega),true_and]
      have:=hL (i+1,es3,g3) ⟨by show i+1≤n;omega,x2.trans x3,pQ,Tg,JT.trans km3,fun j hj uP=>by
       by_cases Eu:j=i
       ·subst Eu;exact Q9
       ·exact km3 _ (Jr j (by show j<i;simp only at hj;omega) uP)⟩ (by show n-(i+1)<n-i;omega)
      simp only [awQ] at this
      exact this
     rw [aDu]
     by_cases gW:jL bs js s (fun i=>eG bs js n (s ||| 2^i)) i<0
     ·rw [aW gW]
      simp only [fT,amk,dZ,ah,dM]
      exact go _ (by simp only [jL,hr,if_true];rw [if_pos (.inl gW)])
     ·rw [aT gW]
      simp only [eJ,cN,ah,amk,c8,cj]
      refine ⟨fun hl=>go _ ?_,fun hl=>go _ ?_⟩
      ·simp only [jL,hr,if_true];rw [if_pos (.inr hl)]
      ·simp only [jL,hr,if_true];rw [if_neg (fun h9=>h9.elim gW hl)]
   ·have fW:i=n:=by omega
    subst fW
    rw [aDv]
    simp only [uX av1.o,ah,ani yf,aE,←agt bs js i tn]
    refine hk _ (oH (s:Int) (I (eG bs js i s)) es1) (x0.trans (x1.set _)) (cU yf) ⟨?_,?_,?_⟩ ?_ ?_
    ·intro s' v' hv
     rw [BT] at hv
     by_cases he:s'=s
     ·rw [if_pos he] at hv
      injection hv with hv
      exact ⟨s,he,hs,hv.symm⟩
     ·rw [if_neg he] at hv
      exact wT.val _ _ hv
    ·rw [BT]
     split
     ·rfl
     ·exact wT.full
    ·intro s' dT Q8 j hj uP
     rw [BT] at Q8⊢
     split
     ·rfl
     ·by_cases he:s'=s
      ·subst he;exact Jr j hj uP
      ·rw [if_neg (by omega)] at Q8
       exact wT.next s' dT Q8 j hj uP
    ·intro k tg
     rw [BT]
     split
     ·rfl
     ·exact JT k tg
    ·rw [BT,if_pos rfl];rfl
end
end Go.Proofs.YtelmdbpaoifmoaaGreat
namespace Go.Sim
section
def gC (bs:List Nat) (js:List (Int×Int)) (n s i:Nat):Int:=fq js i*(dY js s+db js i)+eG bs js n (s ||| 2^i)
def lM (bs:List Nat) (js:List (Int×Int)) (n:Nat):Nat→List Nat→Prop
 | s,[]=>s=bt n
 | s,i::l=>((i<n∧iB bs s i=true)∧gC bs js n s i=eG bs js n s∧∀j,j<i→¬(iB bs s j=true∧gC bs js n s j=eG bs js n s))∧lM bs js n (s ||| 2^i) l
theorem amp {bs:List Nat} {n i:Nat} (hi:i<n):iB bs (bt n) i=false:=by
 unfold iB
 rw [vX,aW hi];rfl
theorem lM.uniq {bs:List Nat} {js:List (Int×Int)} {n:Nat}:∀{l l':List Nat} {s:Nat},lM bs js n s l→lM bs js n s l'→l=l'
 | [],[],_,_,_=>rfl
 | [],i::l',s,h,k=>by
  have h':s=bt n:=h
  subst h'
  have:=k.1.1.2
  rw [amp k.1.1.1] at this
  cases this
 | i::l,[],s,h,k=>by
  have k':s=bt n:=k
  subst k'
  have:=h.1.1.2
  rw [amp h.1.1.1] at this
  cases this
 | i::l,i'::l',s,h,k=>by
  have e:i=i':=by
   rcases Nat.lt_trichotomy i i' with aB | he | uN
   ·exact absurd ⟨h.1.1.2,h.1.2.1⟩ (k.1.2.2 i aB)
   ·exact he
   ·exact absurd ⟨k.1.1.2,k.1.2.1⟩ (h.1.2.2 i' uN)
  subst e
  rw [lM.uniq h.2 k.2]
theorem lM.ok {bs:List Nat} {js:List (Int×Int)} {n:Nat} (hn:n≤10):∀{l:List Nat} {s:Nat},lM bs js n s l→fZ bs n s l=true∧eZ s l=bt n∧fJ js (dY js s) l=eG bs js n s
 | [],s,h=>by
  have h':s=bt n:=h
  subst h'
  exact ⟨rfl,rfl,by rw [J7];rfl⟩
 | i::l,s,h=>by
  obtain ⟨⟨⟨h1,h2⟩,h3,_⟩,h4⟩:=h
  obtain ⟨a,b,c⟩:=lM.ok hn h4
  refine ⟨?_,b,?_⟩
  ·simp only [fZ,a,h2,h1,decide_true,Bool.and_self]
  ·have e:=Kg js (show i<10 by omega) (wZ h2)
   have B0:fq js i*(dY js s+db js i)+eG bs js n (s ||| 2^i)=eG bs js n s:=h3
   simp only [fJ]
   rw [←e] at B0⊢
   rw [c]
   exact B0
theorem lM.split {bs:List Nat} {js:List (Int×Int)} {n:Nat}:∀{a b:List Nat} {s:Nat},lM bs js n s (a++b)→lM bs js n (eZ s a) b
 | [],_,_,h=>h
 | i::a,b,s,h=>lM.split (a:=a) (b:=b) (s:=s ||| 2^i) h.2
end
end Go.Sim
namespace Go.Proofs.YtelmdbpaoifmoaaGreat
open Go.Sim
section
theorem C60 {p:Value} {js:List (Int×Int)} {bs:List Nat} {n:Nat} {h:ae} {K:Value→ae→Prop} (hp:PL h p js bs) (hn:js.length=n) (Jn:n≤10) (lY:nQ js) (uJ:bs.length=n) (hb:∀b∈bs,b<2^n) (hu:uk bs n)
  (hk:∀im es h',EX h h'→h'[im]?=some (.eP .u16 es)→Bx js bs n es→(gK ((0:Nat):Int) es).isSome=true→K (.map (some im)) h'):aq prog 60 [p] h K:=by
 have hpt:∃i,p=pt i 0:=let ⟨i,_,_,e,_⟩:=hp;⟨i,e⟩
 obtain ⟨i,rfl⟩:=hpt
 refine f60 ?_
 have bx:bC 125 h (pt i 0)=some (pt h.length 0,h++[.arr 125 [pt i 0]]):=rfl
 have mk:∀g:ae,afi .u16 g=some (.map (some g.length),g++[.eP .u16 []]):=fun _=>rfl
 simp only [Ob,bx,aE,mk]
 have k0:(h++[ak.arr 125 [pt i 0]]++[.eP .u16 []])[h.length]?=some (.arr 125 [pt i 0]):=by simp
 have k1:(h++[ak.arr 125 [pt i 0]]++[.eP .u16 []])[h.length+1]?=some (.eP .u16 []):=by simp
 have x1:EX h (h++[ak.arr 125 [pt i 0]]++[.eP .u16 []]):=(EX.append _ _).push _
 have e1:(h++[ak.arr 125 [pt i 0]]).length=h.length+1:=by simp
 have e2:(h++[ak.arr 125 [pt i 0]]++[ak.eP .u16 []]).length=h.length+2:=by simp
 rw [e1]
 generalize h++[ak.arr 125 [pt i 0]]++[.eP .u16 []]=g at k0 k1 x1 e2⊢
 have c0:aR g h.length=some [pt i 0]:=by simp [aR,k0]
 simp only [uX c0,ah]
 refine Df (hp.mono x1) (by omega) ?_
 rw [hn,Ec]
 have RW:Fl .u16 g (.map (some (h.length+1))) (U (bt n)) (.int .i64 0)=some (undef,g.set (h.length+1) (.eP .u16 [((bt n:Nat),I 0)])):=ani k1 _ _
 simp only [RW,aE]
 have y2:EX h (g.set (h.length+1) (.eP .u16 [(((bt n:Nat):Int),I 0)])):=x1.set (by omega) _
 have m0:(g.set (h.length+1) (.eP .u16 [(((bt n:Nat):Int),I 0)]))[h.length]?=some (.arr 125 [pt i 0]):=by rw [getElem?_set_ne (by omega)];exact k0
 have m1:(g.set (h.length+1) (.eP .u16 [(((bt n:Nat):Int),I 0)]))[h.length+1]?=some (.eP .u16 [(((bt n:Nat):Int),I 0)]):=cU k1
 have ml:(g.set (h.length+1) (.eP .u16 [(((bt n:Nat):Int),I 0)])).length=h.length+2:=by rw [List.length_set];exact e2
 generalize g.set (h.length+1) (.eP .u16 [(((bt n:Nat):Int),I 0)])=g2 at y2 m0 m1 ml⊢
 have a72:∀g:ae,ba 128 [(.map none)] g=some (pt g.length 0,g++[.arr 128 [.map none]]):=fun _=>rfl
 have a74:∀g:ae,ba 133 [.nilFunc] g=some (pt g.length 0,g++[.arr 133 [.nilFunc]]):=fun _=>rfl
 have s72:aK 1 (g2++[ak.arr 128 [.map none]]) (pt (h.length+2) 0) (.map (some (h.length+1)))=some (undef,g2++[.arr 128 [.map (some (h.length+1))]]):=by
  rw [←ml];simp [aK,qU,fP,cR,Value.cells,setAt]
 simp only [a72,aE,ml,s72,a74,length_append,length_cons,List.length_nil,zero_add]
 have s74:∀v:Value,fP v=true→cR v=[v]→aK 1 (g2++[ak.arr 128 [.map (some (h.length+1))]]++[.arr 133 [.nilFunc]]) (pt (h.length+2+1) 0) v=some (undef,g2++[ak.arr 128 [.map (some (h.length+1))]]++[.arr 133 [v]]):=by
  intro v h1 h2
  have hl:(g2++[ak.arr 128 [.map (some (h.length+1))]]++[.arr 133 [.nilFunc]])[h.length+2+1]?=some (.arr 133 [.nilFunc]):=by
   have:h.length+2+1=(g2++[ak.arr 128 [.map (some (h.length+1))]]).length:=by simp [ml]
   rw [this];simp
  rw [pj hl (by simp) h1 h2]
  have:h.length+2+1=(g2++[ak.arr 128 [.map (some (h.length+1))]]).length:=by simp [ml]
  rw [this]
  simp
 rw [s74 _ rfl rfl]
 simp only [aE]
 have xx:EX g2 (g2++[ak.arr 128 [.map (some (h.length+1))]]++[.arr 133 [.func (.func 97) #[] #[pt (h.length+2) 0,pt h.length 0,pt (h.length+2+1) 0]]]):=(EX.append _ _).push _
 have n2:(g2++[ak.arr 128 [.map (some (h.length+1))]]++[.arr 133 [.func (.func 97) #[] #[pt (h.length+2) 0,pt h.length 0,pt (h.length+2+1) 0]]])[h.length+2]?=some (.arr 128 [.map (some (h.length+1))]):=by
  rw [←ml];simp
 have n3:(g2++[ak.arr 128 [.map (some (h.length+1))]]++[.arr 133 [.func (.func 97) #[] #[pt (h.length+2) 0,pt h.length 0,pt (h.length+2+1) 0]]])[h.length+2+1]?=some (.arr 133 [.func (.func 97) #[] #[pt (h.length+2) 0,pt h.length 0,pt (h.length+2+1) 0]]):=by
  have:h.length+2+1=(g2++[ak.arr 128 [.map (some (h.length+1))]]).length:=by simp [ml]
  rw [getElem?_append_right (by omega),this]
  simp
 generalize g2++[ak.arr 128 [.map (some (h.length+1))]]++[.arr 133 [.func (.func 97) #[] #[pt (h.length+2) 0,pt h.length 0,pt (h.length+2+1) 0]]]=g3 at xx n2 n3⊢
 have env:Dk (h.length+1) (h.length+2) h.length (h.length+2+1) (pt i 0) js bs g3:=by
  refine ⟨?_,?_,?_,hp.mono (y2.trans xx)⟩
  ·simp [aR,n2]
  ·simp [aR,xx.get m0]
  ·simp [aR,n3]
 simp only [uX env.c,ah]
 refine Ij ais ?_
 have iF:0<2^n:=Nat.pow_pos (by decide)
 refine C97 hn Jn lY uJ hb hu (bt n) 0 (by omega) iF env (xx.get m1) ⟨?_,?_,?_⟩ ?_
 ·intro s v hv
  simp only [gK] at hv
  split at hv
  ·rename_i he
   injection hv with hv
   exact ⟨bt n,he,by unfold bt;omega,by rw [J7];exact hv.symm⟩
  ·cases hv
 ·simp [gK]
 ·intro s hs eC
  simp only [gK] at eC
  rw [if_neg (by omega)] at eC
  cases eC
 ·intro h' ko x3 pQ Tg _ Q9
  have av2:=env.mono (x3.cx (xx.get m1))
  simp only [uX av2.o,ah]
  refine hk _ ko h' ?_ pQ Tg Q9
  refine ⟨Nat.le_trans (y2.trans xx).1 x3.1,fun d hd=>?_⟩
  rw [x3.2 d (lt_of_lt_of_le hd (y2.trans xx).1) (by omega)]
  exact (y2.trans xx).2 d hd
theorem ID {bs:List Nat} {n:Nat} (js:List (Int×Int)) (hn:n≤10):∀{l:List Nat} {s:Nat},fZ bs n s l=true→uC js (dY js s) l=dY js (eZ s l)
 | [],s,_=>rfl
 | i::l,s,h=>by
  simp only [fZ,and_eq_true,decide_eq_true_eq] at h
  simp only [uC,eZ]
  rw [←Kg js (show i<10 by omega) (wZ h.1.2)]
  exact ID js hn h.2
theorem afX {i:Nat} (hi:i<10):db (replicate 10 (1,0)) i=1:=by
 unfold db
 rw [getD_eq_getElem?_getD,List.getElem?_replicate,if_pos hi];rfl
theorem P9:∀(l:List Nat) (x:Int),(∀i∈l,i<10)→uC (replicate 10 (1,0)) x l=x+l.length
 | [],x,_=>by simp [uC]
 | i::l,x,hx=>by
  have hi:i<10:=hx i (by simp)
  have e:=afX hi
  simp only [uC,e,P9 l _ fun j hj=>hx j (by simp [hj]),length_cons]
  omega
theorem azX {bs:List Nat} {n:Nat} (hn:n≤10) {l:List Nat} (h:fZ bs n 0 l=true):l.length≤10:=by
 have h1:=ID (replicate 10 (1,0)) hn h
 rw [Kh,P9 l 0 fun i hi=>lt_of_lt_of_le (vf h i hi) hn] at h1
 have h7:∀(s m:Nat),iL (jQ s m) (db (replicate 10 (1,0)))≤m:=by
  intro s m
  induction m with
  | zero=>simp [jQ,iL]
  | succ m ih=>
   have:db (replicate 10 (1,0)) m≤1:=by
    by_cases hm:m<10
    ·rw [afX hm];omega
    ·simp only [db,getD_eq_getElem?_getD]
     rw [List.getElem?_eq_none (by simp;omega)]
     simp
   simp only [jQ]
   split
   ·simp only [A5,iL];omega
   ·omega
 have:=h7 (eZ 0 l) 10
 unfold dY at h1
 omega
theorem azY {bs:List Nat} {n:Nat} (hn:n≤10) {l:List Nat} (h:fZ bs n 0 l=true) (hf:eZ 0 l=bt n):l.length=n:=by
 have h1:=ID (replicate 10 (1,0)) hn h
 rw [hf,Kh] at h1
 rw [P9 l 0 fun i hi=>lt_of_lt_of_le (vf h i hi) hn] at h1
 have h3:∀n,n≤10→dY (replicate 10 (1,0)) (bt n)=n:=by
  intro n hn
  match n,hn with
  | 0,_=>decide
  | 1,_=>decide
  | 2,_=>decide
  | 3,_=>decide
  | 4,_=>decide
  | 5,_=>decide
  | 6,_=>decide
  | 7,_=>decide
  | 8,_=>decide
  | 9,_=>decide
  | 10,_=>decide
  | n+11,h=>omega
 rw [h3 n hn] at h1
 omega
theorem fU.ns {b:Nat} {g:ae} {v:Value} {l:List Nat} (o:fU b g 3 v (l.map fun i:Nat=>I i)) (hl:l.length≤1000):NS g v .i64 (l.map fun i:Nat=>(i:Int)):=by
 rcases o with ⟨h1,h2⟩ | ⟨a,_,h2,h3⟩
 ·have:l=[]:=by simpa using h2
  rw [this,h1]
  exact NS.nil g .i64
 ·rw [h2,length_map]
  have:=NS.sl (h:=g) (e:=3) (i:=a) (k:=.i64) (ns:=l.map fun i:Nat=>(i:Int)) (.inr (by simp [aR,h3])) (by simp [maxLen];omega)
  rw [length_map] at this
  exact this
theorem fU.base {b c:Nat} {hx:ae} {e:TypeId} {v:Value} {xs:List Value} (o:fU c hx e v xs) (h:b≤c):fU b hx e v xs:=by
 rcases o with o | ⟨i,h1,h2,h3⟩
 ·exact .inl o
 ·exact .inr ⟨i,by omega,h2,h3⟩
theorem Bk {vj vp:Value} {js ps:List (Int×Int)} {h:ae} {K:Value→ae→Prop} (hj:PS h vj js) (hp:PS h vp ps) (m9:js.length≤1000) (axx:ps.length≤1000)
  (hZ:sC js ps=false→∀h',EX h h'→K (.tuple #[.slice none 0 0,I 0,I 1]) h')
  (hk:Vd js ps js.length (lO ps js.length)→sC js ps=true→∀v h' l,EX h h'→fU h.length h' 3 v (l.map fun i:Nat=>I i)→lM (lO ps js.length) js js.length 0 l→l.length=js.length→K (.tuple #[v,I (fJ js 0 l),I 0]) h'):aq prog 19 [vj,vp] h K:=by
 refine f19 (an7 hj hp m9 axx (fun hv p g xg=>?_) (fun vd hv p g xg j5=>?_))
 ·simp only [eL,fx,fF,ah,oI,Bool.not_false,dM]
  exact hZ hv g xg
 have hk:=hk vd hv
 have iP:=vd.is
 have lT:=vd.n10
 have h1:=vd.n1
 have hu:=vd.ac
 have lY:=vd.small
 clear vd
 generalize lO ps js.length=bs at*
 generalize hn:js.length=n at*
 have uJ:=iP.len
 have tm:tT js:=lY.all
 have xU:(2:Nat)^n≤2^10:=pow_le_pow_right (by decide) lT
 have zG:∀b∈bs,b<1024:=fun b hb=>lt_of_lt_of_le (iP.lt b hb) xU
 have iF:0<2^n:=Nat.pow_pos (by decide)
 simp only [eL,fx,fF,ah,oI,Bool.not_true,dP]
 refine C60 j5 hn lT lY uJ iP.lt hu ?_
 intro im es g2 iM hm ok aem
 have hjg:=hj.mono (xg.trans iM)
 refine dL (σ:=List Nat×Value×ae) (fun q=>[q.2.1,U (eZ 0 q.1)]) (fun q=>q.2.2)
  (fun q=>EX g2 q.2.2∧fU g2.length q.2.2 3 q.2.1 (q.1.map fun i:Nat=>I i)∧fZ bs n 0 q.1=true∧(gK ((eZ 0 q.1:Nat):Int) es).isSome=true∧fJ js 0 q.1+eG bs js n (eZ 0 q.1)=eG bs js n 0∧∀r,lM bs js n (eZ 0 q.1) r→lM bs js n 0 (q.1++r)) (fun q=>2^n-eZ 0 q.1)
  ([],.slice none 0 0,g2) rfl rfl ⟨EX.refl _,.inl ⟨rfl,rfl⟩,rfl,aem,by simp [fJ,eZ],fun r hr=>hr⟩ ?_
 rintro ⟨l,v,g3⟩ ⟨x3,own,aC,eC,ad3,zU⟩ L hL
 simp only at x3 own aC eC ad3 zU hL⊢
 have hs:eZ 0 l<2^n:=amW iF (vf aC)
 have Rv:=(j5.mono iM).mono x3
 have pQ:=x3.get hm
 have zS:=ID js lT aC
 rw [Kh] at zS
 rw [aBH]
 refine Df Rv (by omega) ?_
 rw [hn,Ec]
 have hbr:=Fb tm lT hu iF
 simp only [qo,ah]
 refine uf (fun bm=>?_) fun heq=>?_
 ·have bm:¬eZ 0 l=bt n:=by
   intro he
   rw [he] at bm
   simp at bm
  have tn:eZ 0 l<bt n:=by unfold bt at*;omega
  refine Gj Rv lY (by omega) (by rw [hn];exact hs) ?_
  intro g4 yN
  have Ro:rk js (cB (eZ 0 l) 10)=dY js (eZ 0 l):=by
   have:∀s m,cB s m=jQ s m:=by
    intro s m
    induction m with
    | zero=>rfl
    | succ m ih=>simp only [cB,jQ,ih]
   unfold rk dY
   rw [this];rfl
  rw [Ro]
  have Ah:=agu tm lT hu tn
  generalize EH:eZ 0 l=s at*
  have tj:=Ta tm s
  simp only [hjg.len,ah,hn]
  refine dL (σ:=Nat×ae) (fun q=>[v,U s,I q.1]) (fun q=>q.2) (fun q=>q.1≤n∧EX g4 q.2∧∀i,i<q.1→¬(iB bs s i=true∧fq js i*(dY js s+db js i)+eG bs js n (s ||| 2^i)=eG bs js n s)) (fun q=>n-q.1) (0,g4) rfl rfl ⟨zero_le _,EX.refl _,fun i hi=>by omega⟩ ?_
  rintro ⟨i,g5⟩ ⟨hi,x5,dB⟩ L2 gV
  simp only at hi x5 dB gV⊢
  have de:=yN.trans x5
  have Cg:=Rv.mono de
  rw [aBI]
  simp only [cN,ah,cj]
  refine ⟨fun aB=>?_,fun cL=>?_⟩
  ·have Jd:i<n:=by omega
   obtain ⟨b,o,r1,r2,r3,r4⟩:=PS.getD (hjg.mono (x3.trans de)) (show i<js.length by omega)
   have D3:∀g:ae,ba 46 [(.int .i64 (0)),(.int .i64 (0))] g=some (pt g.length 0,g++[.arr 46 [I 0,I 0]]):=fun _=>rfl
   have ri:∀(g:ae) (t:TypeId) (a b:Int),aK 2 (g++[.arr t [I 0,I 0]]) (pt g.length 0) (.agg #[I a,I b])=some (undef,g++[.arr t [I a,I b]]):=by
    intro g t a b
    simp [aK,qU,fP,cR,Value.cells,setAt]
   simp only [r1,r4,ah,D3,aE,ri]
   have l0:af false 1 (g5++[ak.arr 46 [I (js.getD i (0,0)).1,I (js.getD i (0,0)).2]]) (pt g5.length 0)=some (I (js.getD i (0,0)).1):=nL rfl
   have l1:af false 1 (g5++[ak.arr 46 [I (js.getD i (0,0)).1,I (js.getD i (0,0)).2]]) (pt g5.length 1)=some (I (js.getD i (0,0)).2):=nL rfl
   have xp:EX g5 (g5++[ak.arr 46 [I (js.getD i (0,0)).1,I (js.getD i (0,0)).2]]):=EX.append _ _
   have ye:(js.getD i (0,0)).1=db js i:=rfl
   have RZ:(js.getD i (0,0)).2=fq js i:=rfl
   rw [ye,RZ] at l0 l1 xp⊢
   generalize g5++[ak.arr 46 [I (db js i),I (fq js i)]]=g6 at l0 l1 xp⊢
   have hm6:=(de.trans xp).get pQ
   refine Mf (Cg.mono xp) (by omega) (by omega) (by omega) zG ?_
   rw [Vm]
   have skip:(¬(iB bs s i=true∧fq js i*(dY js s+db js i)+eG bs js n (s ||| 2^i)=eG bs js n s))→(OP (ai .add (I i) (.int .i64 (1))) fun gw=>
     ([vj,p,.map (some im),I (dY js s),vj,I n]:List Value)=[vj,p,.map (some im),I (dY js s),vj,I n]∧L2 [v,U s,gw] g6):=by
    intro gW
    simp only [cA,ah,fk i (by omega),true_and]
    exact gV (i+1,g6) ⟨by show i+1≤n;omega,x5.trans xp,fun j hj=>by
     by_cases Eu:j=i
     ·subst Eu;exact gW
     ·exact dB j (by show j<i;simp only at hj;omega)⟩ (by show n-(i+1)<n-i;omega)
   cases hr:iB bs s i with
   | false=>
    simp only [kZ,c8,ah,dP,true_and]
    have:=skip (by rw [hr];rintro ⟨h9,_⟩;cases h9)
    simp only [cA,ah,true_and] at this⊢
    exact this
   | true=>
    have Ae:(2:Nat)^i<1024:=lt_of_lt_of_le (Nat.pow_lt_pow_right (by decide) (show i<10 by omega)) (by decide)
    have hlw:=tm i
    have xW:=Ih tm s i
    have kr:=tM hs Jd
    have Rj:=Fb tm lT hu kr
    have Al:IntKind.wrap .i64 (dY js s+db js i)=dY js s+db js i:=wrap64 (by omega) (by omega)
    have mH:IntKind.wrap .i64 (fq js i*(dY js s+db js i))=fq js i*(dY js s+db js i):=wrap64 (by omega) (by omega)
    have oC:IntKind.wrap .i64 (fq js i*(dY js s+db js i)+eG bs js n (s ||| 2^i))=fq js i*(dY js s+db js i)+eG bs js n (s ||| 2^i):=wrap64 (by omega) (by omega)
    have aen:=ok.next s tn eC i Jd hr
    simp only [iY,b9,add_zero,zero_add,l0,l1,ah,cA,Al,vP,mH,FM mM (show i<11 by omega),CG mM (show s<1024 by omega) Ae,af6 hm6,ok.look eC,ok.look aen,getD_some,oC,jo,dZ,true_and]
    refine uf (fun he=>?_) fun Rm=>?_
    ·have he:fq js i*(dY js s+db js i)+eG bs js n (s ||| 2^i)=eG bs js n s:=of_decide_eq_true he
     have axr:fZ bs n 0 (l++[i])=true:=by
      rw [ait,aC,EH]
      simp [fZ,Jd,hr]
     have iu:eZ 0 (l++[i])=s ||| 2^i:=by
      rw [amV,EH];rfl
     have ye:l.length≤10:=azX lT aC
     refine OM (h0:=g2) (xs:=l.map fun i:Nat=>I i) (fU.dR own fun d m hv hd=>?_) (x3.trans (de.trans xp)) (by simp;omega) (by simp [maxLen];omega) rfl rfl ?_
     ·obtain ⟨_,q2,_⟩:=own.lt hv
      exact (de.trans xp).2 d q2
     ·intro v' g7 x7 aAa
      have sY:=acI js 0 l [i]
      have e1:fJ js (uC js 0 l) [i]=fq js i*(dY js s+db js i):=by
       rw [zS];simp [fJ]
      have:=hL (l++[i],v',g7) ⟨x7,by simpa using aAa,axr,by show (gK ((eZ 0 (l++[i]):Nat):Int) es).isSome=true;rw [iu];exact aen,by
       show fJ js 0 (l++[i])+eG bs js n (eZ 0 (l++[i]))=eG bs js n 0
       rw [iu,sY,e1];omega,by
       show ∀r,lM bs js n (eZ 0 (l++[i])) r→lM bs js n 0 (l++[i]++r)
       rw [iu]
       intro r ym
       have:=zU (i::r) ⟨⟨⟨Jd,hr⟩,he,dB⟩,ym⟩
       simpa using this⟩ (by
       show 2^n-eZ 0 (l++[i])<2^n-s
       rw [iu]
       have:=E8 (wZ hr)
       omega)
      simp only [iu] at this
      exact this
    ·have h9:=skip fun h9=>(of_decide_eq_false Rm) h9.2
     simp only [cA,ah,true_and] at h9⊢
     exact h9
  ·exfalso
   have fW:i=n:=by omega
   subst fW
   obtain ⟨⟨j,j1,j2,j3⟩,_⟩:=Ah
   exact dB j j1 ⟨j2,j3.symm⟩
 ·have he:eZ 0 l=bt n:=by
   have h9:¬¬((eZ 0 l:Nat):Int)=((bt n:Nat):Int):=by
    intro h9
    simp [h9] at heq
   have:=Classical.not_not.1 h9
   omega
  have hlen:=azY lT aC he
  rw [aBJ]
  have z:(.int .u16 0:Value)=U 0:=rfl
  rw [z]
  simp only [af6 pQ,ok.look aem,getD_some,ah,true_and]
  rw [he,J7] at ad3
  have hc:fJ js 0 l=eG bs js n 0:=by omega
  rw [←hc]
  have hg:=zU [] he
  rw [append_nil] at hg
  exact hk v g3 l (xg.trans (iM.trans x3)) (fU.base own (xg.trans iM).1) hg hlen
end
section
end
section
theorem amu (k:IntKind) {a b:Int} (ha:0≤a) (hb:0<b):ai .rem (.int k a) (.int k b)=some (.int k (a%b)):=by
 simp only [ai,gY,if_true]
 rw [if_neg (by omega),Int.tmod_eq_emod_of_nonneg ha]
theorem Za:∀{ps:List (Int×Int)} {k:Nat} {p:Int×Int},ps[k]?=some p→(um ps)[2*k]?=some (.int .u8 p.1)∧(um ps)[2*k+1]?=some (.int .u8 p.2)
 | [],k,p,h=>by simp at h
 | q::ps,0,p,h=>by simp at h;subst h;simp [um]
 | q::ps,k+1,p,h=>by
  have:=Za (ps:=ps) (k:=k) (p:=p) (by simpa using h)
  rw [show 2*(k+1)=2*k+1+1 by omega]
  simpa [um] using this
theorem IS.byte {h:ae} {v:Value} {ps:List (Int×Int)} (p:IS h 44 2 v (um ps) ps.length) {i:Nat} (hi:i<ps.length):
  ∃b o,aY 2 v (I i)=some (pt b o)∧af false 1 h (pt b o)=some (.int .u8 ps[i].1)∧af false 1 h (pt b (o+1))=some (.int .u8 ps[i].2):=by
 rcases p.2 with ⟨rfl,h0⟩ | ⟨b,rfl,hc⟩
 ·omega
 ·have hc:=hc.resolve_left (by omega)
  obtain ⟨g1,g2⟩:=Za (getElem?_eq_getElem hi)
  refine ⟨b,i*2,?_,?_,?_⟩
  ·have:(0:Int)≤(i:Int)∧(i:Int)<(ps.length:Int):=by omega
   simp [aY,sl,this]
  ·rw [Nat.mul_comm];simp [af,hc,cm,g1]
  ·rw [Nat.mul_comm];simp [af,hc,cm,g2]
theorem Gn.arr {h:ae} {e:TypeId} {i:Nat} {ps:List (Int×Int)} (hg:h[i]?=some (.arr e (p5 ps))):Gn h e (sl e i 0 ps.length) ps:=
 ⟨by rw [ale];omega,.inr ⟨i,rfl,.inr (by simp [aR,hg])⟩⟩
end
end Go.Proofs.YtelmdbpaoifmoaaGreat
namespace Go.Sim
section
theorem Lw:∀(l:List Nat) (s j:Nat),(eZ s l).testBit j=(s.testBit j||decide (j∈l))
 | [],s,j=>by simp [eZ]
 | i::l,s,j=>by
  simp only [eZ,Lw l,sw]
  by_cases e:i=j
  ·subst e;simp
  ·have e':¬j=i:=fun h=>e h.symm
   simp [e,e']
structure Xi (bs:List Nat) (n:Nat) (l:List Nat):Prop where
 lt:∀i∈l,i<n
 nodup:l.Nodup
 all:∀i,i<n→i∈l
 before:l.Pairwise fun a b=>(bs.getD a 0).testBit b=false
 self:∀i,i<n→∀j,(bs.getD i 0).testBit j=true→j<n∧j≠i
theorem Th {bs:List Nat} {n:Nat}:∀{l:List Nat} {S:Nat},(∀i∈l,i<n∧S.testBit i=false)→l.Nodup→l.Pairwise (fun a b=>(bs.getD a 0).testBit b=false)→(∀i∈l,∀j,(bs.getD i 0).testBit j=true→j≠i∧(S.testBit j=true∨j∈l))→fZ bs n S l=true
 | [],_,_,_,_,_=>rfl
 | i::l,S,h1,h2,h3,h4=>by
  have hn:=List.nodup_cons.1 h2
  have hp:=List.pairwise_cons.1 h3
  have hi:=h1 i (by simp)
  simp only [fZ,and_eq_true,decide_eq_true_eq]
  refine ⟨⟨hi.1,?_⟩,?_⟩
  ·unfold iB
   rw [hi.2,Bool.not_false,Bool.true_and,pn]
   intro j hj
   obtain ⟨b1,b2⟩:=h4 i (by simp) j hj
   rcases b2 with b2 | b2
   ·exact b2
   ·rcases mem_cons.1 b2 with b2 | b2
    ·exact absurd b2 b1
    ·rw [hp.1 j b2] at hj;cases hj
  ·refine Th (fun j hj=>?_) hn.2 hp.2 fun k hk j hj=>?_
   ·have:=h1 j (by simp [hj])
    refine ⟨this.1,?_⟩
    rw [sw,this.2,Bool.false_or]
    exact aT fun e=>hn.1 (e ▸ hj)
   ·obtain ⟨b1,b2⟩:=h4 k (by simp [hk]) j hj
    refine ⟨b1,?_⟩
    rcases b2 with b2 | b2
    ·exact .inl (by rw [sw,b2];rfl)
    ·rcases mem_cons.1 b2 with b2 | b2
     ·exact .inl (by rw [sw,b2];simp)
     ·exact .inr b2
theorem Xi.ok {bs:List Nat} {n:Nat} {l:List Nat} (h:Xi bs n l):fZ bs n 0 l=true∧eZ 0 l=bt n:=by
 refine ⟨Th (fun i hi=>⟨h.lt i hi,by simp⟩) h.nodup h.before fun i hi j hj=>?_,?_⟩
 ·obtain ⟨a,b⟩:=h.self i (h.lt i hi) j hj
  exact ⟨b,.inr (h.all j a)⟩
 ·apply Nat.eq_of_testBit_eq
  intro j
  rw [Lw,vX]
  simp only [Nat.zero_testBit,Bool.false_or]
  rw [decide_eq_decide]
  exact ⟨fun hm=>h.lt j hm,fun hl=>h.all j hl⟩
def OE (bs cs:List Nat) (n:Nat):Prop:=∀i j,i<n→j<n→(bs.getD i 0).testBit j=(cs.getD j 0).testBit i
theorem OE.symm {bs cs:List Nat} {n:Nat} (t:OE bs cs n):OE cs bs n:=fun i j hi hj=>(t j i hj hi).symm
end
section
theorem azW {bs:List Nat} {n:Nat}:∀{l:List Nat} {s:Nat},fZ bs n s l=true→(l.Nodup∧∀i∈l,s.testBit i=false)∧(l.Pairwise fun a b=>(bs.getD a 0).testBit b=false)∧∀i∈l,∀j,(bs.getD i 0).testBit j=true→j≠i∧(s.testBit j=true∨j∈l):=by
 intro l
 induction l with
 | nil=>intro s _;simp
 | cons i l ih=>
  intro s h
  simp only [fZ,and_eq_true,decide_eq_true_eq] at h
  obtain ⟨⟨a1,a2⟩,a3,a4⟩:=ih h.2
  have we:=wZ h.1.2
  have rW:iK (bs.getD i 0) s=true:=by
   have:=h.1.2
   unfold iB at this
   rw [and_eq_true] at this
   exact this.2
  rw [pn] at rW
  have old:∀j∈l,s.testBit j=false∧j≠i:=by
   intro j hj
   have:=a2 j hj
   rw [sw,Bool.or_eq_false_iff] at this
   exact ⟨this.1,fun e=>by subst e;simp at this⟩
  refine ⟨⟨?_,?_⟩,?_,?_⟩
  ·exact List.nodup_cons.2 ⟨fun hm=>(old i hm).2 rfl,a1⟩
  ·intro j hj
   rcases mem_cons.1 hj with rfl | hj
   ·exact we
   ·exact (old j hj).1
  ·refine List.pairwise_cons.2 ⟨fun j hj=>?_,a3⟩
   cases hc:(bs.getD i 0).testBit j with
   | false=>rfl
   | true=>have:=rW j hc;rw [(old j hj).1] at this;cases this
  ·intro k hk j hj
   rcases mem_cons.1 hk with rfl | hk
   ·have:=rW j hj
    exact ⟨fun e=>(by subst e;rw [we] at this;cases this),.inl this⟩
   ·obtain ⟨b1,b2⟩:=a4 k hk j hj
    refine ⟨b1,?_⟩
    rcases b2 with b2 | b2
    ·rw [sw,Bool.or_eq_true] at b2
     rcases b2 with b2 | b2
     ·exact .inl b2
     ·have:i=j:=of_decide_eq_true b2
      subst this;exact .inr (by simp)
    ·exact .inr (by simp [b2])
theorem az7 {d s j:Nat} (h:d &&& s=0) (hs:s.testBit j=true):d.testBit j=false:=by
 have:=congrArg (Nat.testBit · j) h
 simp only [Nat.testBit_and,Nat.zero_testBit,hs,Bool.and_true] at this
 exact this
structure Gq (bs:List Nat) (s:Nat) (l:List Nat):Prop where
 nd:l.Nodup
 mem:∀i,i∈l↔s.testBit i=true
 fit:l.Pairwise fun a b=>(bs.getD a 0).testBit b=false
theorem mo.apart {bs:List Nat} {js:List (Int×Int)} {n:Nat}:∀{os:List Nat} {d:Nat},mo bs js n d os→∀s∈os,∀i,s.testBit i=true→d.testBit i=false
 | [],_,_,s,hs,_,_=>by simp at hs
 | b::os,d,h,s,hs,i,hi=>by
  rcases mem_cons.1 hs with rfl | hs
  ·exact az7 h.1.1.1.apart hi
  ·have:=mo.apart h.2 s hs i hi
   rw [Nat.testBit_or,Bool.or_eq_false_iff] at this
   exact this.1
end
section
structure ui (bs:List Nat) (js:List (Int×Int)) (s:Nat) (E:List Nat) (nB:List Nat) (tF:List (Int×Int)):Prop where
 nd:E.Nodup
 mem:∀i,i∈E↔s.testBit i=true
 len:∀k,k<E.length→db tF k=db js (E.getD k 0)∧fq tF k=fq js (E.getD k 0)
 bit:∀k,k<E.length→∀j,(nB.getD k 0).testBit j=true↔j<E.length∧(bs.getD (E.getD k 0) 0).testBit (E.getD j 0)=true
section
variable {bs nB : List Nat} {js tF : List (Int × Int)} {s : Nat} {E : List Nat}
theorem BW {E:List Nat} {k:Nat} (h:k<E.length):E.getD k 0=E[k]:=by simp [getD_eq_getElem?_getD,h]
theorem ui.inj (w:ui bs js s E nB tF) {a b:Nat} (ha:a<E.length) (hb:b<E.length) (h:E.getD a 0=E.getD b 0):a=b:=by
 rw [BW ha,BW hb] at h
 exact (List.getElem_inj w.nd).1 h
theorem ui.cost (w:ui bs js s E nB tF):∀(o:List Nat) (now:Int),(∀k∈o,k<E.length)→fJ tF now o=fJ js now (o.map fun k=>E.getD k 0)
 | [],_,_=>rfl
 | k::o,now,h=>by
  have:=w.len k (h k (by simp))
  simp only [List.map_cons,fJ,this.1,this.2]
  rw [w.cost o _ fun k hk=>h k (by simp [hk])]
theorem ui.part (w:ui bs js s E nB tF) {o:List Nat} (ho:fZ nB E.length 0 o=true) (hf:eZ 0 o=bt E.length):Gq bs s (o.map fun k=>E.getD k 0):=by
 obtain ⟨⟨nd,_⟩,pw,_⟩:=azW ho
 have aB:=vf ho
 have fh:∀k,k<E.length→k∈o:=by
  intro k hk
  have:=Lw o 0 k
  rw [hf,vX,aW hk,Nat.zero_testBit,Bool.false_or] at this
  exact of_decide_eq_true this.symm
 refine ⟨?_,fun i=>?_,?_⟩
 ·unfold List.Nodup
  rw [List.pairwise_map]
  refine Pairwise.imp_of_mem (fun ha hb h=>?_) nd
  exact fun e=>h (w.inj (aB _ ha) (aB _ hb) e)
 ·rw [←w.mem,mem_map]
  constructor
  ·rintro ⟨k,hk,rfl⟩
   rw [BW (aB k hk)]
   exact getElem_mem _
  ·intro hi
   obtain ⟨k,hk,rfl⟩:=List.mem_iff_getElem.1 hi
   exact ⟨k,fh k hk,BW hk⟩
 ·rw [List.pairwise_map]
  refine Pairwise.imp_of_mem (fun ha hb h=>?_) pw
  cases hc:(bs.getD (E.getD _ 0) 0).testBit (E.getD _ 0) with
  | false=>rfl
  | true=>rw [(w.bit _ (aB _ ha) _).2 ⟨aB _ hb,hc⟩] at h;cases h
theorem ui.back (w:ui bs js s E nB tF) (hi:∀i,i∈E→(bs.getD i 0).testBit i=false) {l:List Nat} (p:Gq bs s l):
  ∃o,fZ nB E.length 0 o=true∧eZ 0 o=bt E.length∧l=o.map fun k=>E.getD k 0:=by
 have inE:∀i∈l,i∈E:=fun i h=>(w.mem i).2 ((p.mem i).1 h)
 have ix:∀i∈l,E.idxOf i<E.length∧E.getD (E.idxOf i) 0=i:=by
  intro i h
  have hl:=List.idxOf_lt_length_of_mem (inE i h)
  exact ⟨hl,by rw [BW hl];exact List.getElem_idxOf hl⟩
 have hm:l=(l.map fun i=>E.idxOf i).map fun k=>E.getD k 0:=by
  rw [List.map_map]
  conv=>lhs;rw [←List.map_id l]
  exact List.map_congr_left fun i h=>(ix i h).2.symm
 have fh:∀k,k<E.length→k∈l.map fun i=>E.idxOf i:=by
  intro k hk
  have hx:E[k]∈l:=(p.mem _).2 ((w.mem _).1 (getElem_mem hk))
  refine mem_map.2 ⟨E[k],hx,?_⟩
  have h2:=ix _ hx
  exact w.inj h2.1 hk (by rw [h2.2,BW hk])
 refine ⟨l.map fun i=>E.idxOf i,?_,?_,hm⟩
 ·refine Th (fun k hk=>?_) ?_ ?_ (fun k hk j hj=>?_)
  ·obtain ⟨i,h,rfl⟩:=mem_map.1 hk
   exact ⟨(ix i h).1,by simp⟩
  ·unfold List.Nodup
   rw [List.pairwise_map]
   refine Pairwise.imp_of_mem (fun ha hb h=>?_) p.nd
   exact fun e=>h (by rw [←(ix _ ha).2,←(ix _ hb).2,e])
  ·rw [List.pairwise_map]
   refine Pairwise.imp_of_mem (fun {a b} ha hb h=>?_) p.fit
   cases hc:(nB.getD (E.idxOf a) 0).testBit (E.idxOf b) with
   | false=>rfl
   | true=>
    have:=((w.bit _ (ix a ha).1 _).1 hc).2
    rw [(ix a ha).2,(ix b hb).2,h] at this
    cases this
  ·obtain ⟨i,h,rfl⟩:=mem_map.1 hk
   obtain ⟨h1,h2⟩:=(w.bit _ (ix i h).1 _).1 hj
   rw [(ix i h).2] at h2
   refine ⟨?_,.inr (fh j h1)⟩
   rintro rfl
   rw [(ix i h).2,hi i (inE i h)] at h2
   cases h2
 ·apply Nat.eq_of_testBit_eq
  intro j
  rw [Lw,vX,Nat.zero_testBit,Bool.false_or]
  rw [decide_eq_decide]
  refine ⟨fun h=>?_,fh j⟩
  obtain ⟨i,h2,rfl⟩:=mem_map.1 h
  exact (ix i h2).1
theorem ui.a9 (w:ui bs js s E nB tF) (hi:∀i,i∈E→(bs.getD i 0).testBit i=false) (hj:tT tF) (hn:E.length≤10) (hu:uk nB E.length) {o:List Nat} (hg:lM nB tF E.length 0 o):
  Gq bs s (o.map fun k=>E.getD k 0)∧∀l,Gq bs s l→fJ js 0 (o.map fun k=>E.getD k 0)≤fJ js 0 l:=by
 obtain ⟨h1,h2,h3⟩:=lM.ok hn hg
 refine ⟨w.part h1 h2,fun l hl=>?_⟩
 obtain ⟨o',p1,p2,rfl⟩:=w.back hi hl
 have:=SU hj hn hu (s:=0) (Nat.pow_pos (by decide)) p1 p2
 rw [Kh] at this h3
 rw [←w.cost o 0 (vf h1),←w.cost o' 0 (vf p1)]
 omega
end
end
end Go.Sim
namespace Go.Proofs.YtelmdbpaoifmoaaGreat
open Go.Sim
section
end
section
theorem au2 {a k:Nat} (ha:a<10^k) (hk:1≤k) (hb:a<cw):(dS a).length≤k:=by
 obtain ⟨d1,d2,d3,d4,d5⟩:=xK hb
 cases e:dS a with
 | nil=>simp
 | cons c r=>
  rw [e] at d1 d4 d5
  by_cases hc:c=48
  ·have:=d4 (by rw [hc];rfl)
   omega
  ·have h1:=d1 c (by simp)
   rw [LM] at d5
   have h2:c.toNat≠48:=fun h=>hc (UInt8.toNat_inj.1 h)
   have h3:=Nat.mul_le_mul_right (10^r.length) (show 1≤c.toNat-48 by omega)
   have h4:10^r.length<10^k:=by omega
   have:=(Nat.pow_lt_pow_iff_right (show 1<10 by decide)).1 h4
   simp;omega
end
section
theorem aAe {s:List UInt8} {n:Int} {d:Nat} (h:tP s=some (n,d)):0<d∧gcd n.natAbs d=1:=by
 rw [UR] at h
 unfold AV at h
 split at h
 ·rename_i hc
  injection h with h
  injection h with h1 h2
  have e:=(VJ (m:=decide (s.head?=some 45)) (n:=gQ (fw (fH s)))).2
  have hn:n.natAbs=gQ (fw (fH s)):=by rw [←h1];exact e
  rw [hn,←h2]
  unfold xM
  have hd:=hc.1
  unfold xL at hd
  split
  ·rename_i hs
   rw [hs,Bool.not_true,Bool.false_or,and_eq_true,and_eq_true,decide_eq_true_eq,decide_eq_true_eq] at hd
   exact ⟨by omega,hd.2.2⟩
  ·exact ⟨by decide,Nat.gcd_one_right _⟩
 ·cases h
theorem azF {n:Int} {d:Nat} (h0:0<d) (hg:gcd n.natAbs d=1):(mkRat n d).num=n∧(mkRat n d).den=d:=by
 obtain ⟨e1,e2⟩:=AL (N:=n) h0
 rw [hg] at e1 e2
 exact ⟨by rw [e1];simp,by rw [e2];simp⟩
def j7 (s:List UInt8):Rat:=match tP s with | some (n,d)=>mkRat n d | none=>0
def isNum (s:List UInt8):Bool:=(tP s).isSome
theorem amo {s:List UInt8} {n:Int} {d:Nat} (h:tP s=some (n,d)):(j7 s).num=n∧(j7 s).den=d:=by
 obtain ⟨h1,h2⟩:=aAe h
 have:=azF h1 h2
 unfold j7
 rw [h]
 exact this
theorem anG {h:ae} {K:Value→ae→Prop} {s:List UInt8} (hl:s.length≤700)
  (hk:isNum s=true→∀r h',EX h h'→RV h' r (j7 s)→K (.tuple #[r,B true]) h')
  (hZ:isNum s=false→∀a b c e h',EX h h'→K (.tuple #[.agg #[a,b,c,e],B false]) h'):aq prog 108 [S s] h K:=by
 refine anF hl (fun n d hp r h' x hr=>?_) (fun hp=>hZ (by unfold isNum;rw [hp];rfl))
 obtain ⟨e1,e2⟩:=amo hp
 refine hk (by unfold isNum;rw [hp];rfl) r h' x ?_
 unfold RV
 rw [e1,e2]
 exact hr
theorem acO {a k:Nat} (hk:1≤k) (hb:a<cw):(dS a).length≤k↔a<10^k:=by
 constructor
 ·intro h
  obtain ⟨d1,_,_,_,d5⟩:=xK hb
  have:=CZ d1
  rw [d5] at this
  exact lt_of_lt_of_le this (pow_le_pow_right (by decide) h)
 ·intro h
  exact au2 h hk hb
def IN (k:Nat) (q:Rat):Bool:=decide (q.num.natAbs<10^k)&&decide (q.den<10^k)
theorem C84 {h:ae} {K:Value→ae→Prop} {va:Value} {p:Rat} {i k:Nat} (ha:RV h va p) (sp:cD i p) (hi:i≤900) (nc:1≤k) (_:k≤1000) (hk:∀h',EX h h'→K (B (IN k p)) h'):aq prog 84 [va,I k] h K:=by
 obtain ⟨u,w,rfl,hu,hw⟩:=ha
 obtain ⟨l1,l2⟩:=sp.sP hi
 rw [natAbs_natCast] at hw
 refine f84 ?_
 have e1:∀(g:ae) (s t:Bool) (v w:Value),bC 107 g (.agg #[B s,v,B t,w])=some (pt g.length 0,g++[.arr 107 [B s,v,B t,w]]):=fun _ _ _ _ _=>rfl
 simp only [Oq,e1,aE]
 generalize decide ((p.den:Int)<0)=t1 at*
 have q0:EX h (h++[.arr 107 [B (decide (p.num<0)),u,B t1,w]]):=EX.append _ _
 have p0:(h++[ak.arr 107 [B (decide (p.num<0)),u,B t1,w]])[h.length]?=some (.arr 107 [B (decide (p.num<0)),u,B t1,w]):=bZ
 generalize h++[ak.arr 107 [B (decide (p.num<0)),u,B t1,w]]=ga at q0 p0⊢
 have qX:af false 1 ga (pt h.length 1)=some u:=by simp [af,aR,p0,cm]
 simp only [b9,zero_add,add_zero,ah,qX]
 refine Gk (hu.mono q0) l1 ?_
 intro g1 x1
 have ld3:af false 1 g1 (pt h.length 3)=some w:=by simp [af,aR,x1.get p0,cm]
 have d1:decide (((dS p.num.natAbs).length:Int)≤(k:Int))=decide (p.num.natAbs<10^k):=by
  rw [decide_eq_decide]
  have:=acO nc l1
  omega
 simp only [uW,ah,GZ,d1]
 rw [aDe]
 unfold IN at hk
 by_cases h1:p.num.natAbs<10^k
 ·rw [aW h1] at hk⊢
  simp only [iY,b9,ah,ld3]
  refine Gk ((hw.mono q0).mono x1) l2 ?_
  intro g2 x2
  have d2:decide (((dS p.den).length:Int)≤(k:Int))=decide (p.den<10^k):=by
   rw [decide_eq_decide]
   have:=acO nc l2
   omega
  simp only [uW,ah,GZ,d2]
  rw [amg]
  simp only [dZ,ah]
  rw [Bool.true_and] at hk
  exact hk g2 (q0.trans (x1.trans x2))
 ·rw [aT h1] at hk⊢
  simp only [kZ]
  rw [amg]
  simp only [c8,ah]
  exact hk g1 (q0.trans x1)
end
section
variable (P : Program) (K : VK)
noncomputable section
variable (c0 x4 aM au aA : Value) (L1 : LQ) (xs : List Value) (h : ae)
def ah2:=bK prog 80 [[],[],[],[10,11],[4,12],[],[],[],[],[],[],[],[],[4],[]]
@[irreducible] def H4:=bR ah2
@[irreducible] def aub:=H4.r.r.l.r.l.l
@[irreducible] def acb:=H4.r.r.r
@[irreducible] def aua:=acb.l
theorem k80:ah2=some (29,H4,[.tmp 2,.tmp 3]):=by kernel_rfl
def M0 (_P:Program) (K:VK):ar:=aS [.tmp 2,.tmp 3] K
def aqJ:ar:=aF (aj P acb (M0 P K)) (M0 P K)
def aqK:ar:=bI 0 (aqJ P K)
def aqL:ar:=aF (fun f' aU=>(([10,11]:List Nat).map f':List Value)=[aM,au]∧L1 (([4,12]:List Nat).map f') aU) (aqK P K)
def akN:Prop:=ax (aj P aub (aqL P K aM au L1)) ([10,11]++[4,12]) ([aM,au]++xs) h
def akM:Prop:=ax (aj P aua (M0 P K)) [4] [x4] h
theorem aDc (aM au:Value) (L1:LQ) (x4 aA:Value) (h:ae):akN P K aM au L1 [x4,aA] h=
 (OP (ai .lss aA au) fun aD=>
 aQ aD
 (OP (aY 1 aM aA) fun aL=>
 OP (af false 1 h aL) fun bj=>
 aq P 108 [bj] h fun aO z1=>
 OP (cf 0 aO) fun aP=>
 OP (cf 1 aO) fun aZ=>
 OH (ba 107 [(.bool false),(.slice none 0 0),(.bool false),(.slice none 0 0)] z1) fun x7 z2=>
 OH (aK 4 z2 x7 aP) fun _ z3=>
 OP (gZ .not aZ) fun bH=>
 aQ bH
 (K (.tuple #[(.slice none 0 0),(.bool false)]) z3)
 (OP (af true 4 z3 x7) fun bD=>
 OH (cZ 107 1 [(.bool false),(.slice none 0 0),(.bool false),(.slice none 0 0)] z3 [(0,4,bD)]) fun bV z4=>
 OH (dI 107 4 64 z4 x4 bV) fun cF z5=>
 OP (ai .add aA (.int .i64 (1))) fun bn=>
 ([aM,au]:List Value)=[aM,au]∧L1 [cF,bn] z5))
 (akM P K x4 h)):=az (by kernel_rfl)
theorem aDb:akM P K x4 h=
 (K (.tuple #[x4,(.bool true)]) h):=az (by kernel_rfl)
def Ol:Prop:=
 OH (bC 24 h c0) fun c1 z1=>
 OP (aJ 0 c1) fun x9=>
 OP (af false 1 z1 x9) fun aM=>
 OP (bc aM) fun au=>
 cJ [(.slice none 0 0),(.int .i64 (0))] z1 fun L1 xs hx=>
 akN P K aM au L1 xs hx
theorem e80:aj P H4 (aS [.tmp 2,.tmp 3] K) (bG [c0]) h=Ol P K c0 h:=by kernel_rfl
theorem f80 {K:VK} {c0:Value} {h:ae} (H:Ol prog K c0 h):aq prog 80 [c0] h K:=
 bT k80 (bP rfl) ((e80 prog K c0 h).mpr H)
end
noncomputable section
variable (s0 f1 : Value) (h : ae)
def ah4:=bK prog 82 [[],[]]
@[irreducible] def c82:=bR ah4
theorem k82:ah4=some (9,c82,[.tmp 4]):=by kernel_rfl
def On:Prop:=
 aq P 110 [s0,f1] h fun x7 z1=>
 OP (ai .geq x7 (.int .i64 (0))) fun x8=>
 K x8 z1
theorem e82:aj P c82 (aS [.tmp 4] K) (bG [s0,f1]) h=On P K s0 f1 h:=by kernel_rfl
theorem f82 {K:VK} {s0 f1:Value} {h:ae} (H:On prog K s0 f1 h):aq prog 82 [s0,f1] h K:=
 bT k82 (bP rfl) ((e82 prog K s0 f1 h).mpr H)
end
noncomputable section
variable (x0 x1 x6 x9 : Value) (h : ae)
def ah5:=bK prog 83 [[],[1,6],[6,9],[]]
@[irreducible] def BH:=bR ah5
@[irreducible] def acf:=BH.r.l.r.l
@[irreducible] def auc:=BH.r.r
@[irreducible] def aud:=acf.r.l
theorem k83:ah5=some (11,BH,[.tmp 2]):=by kernel_rfl
def Ys (_P:Program) (K:VK):ar:=aS [.tmp 2] K
def Yt:ar:=aF (aj P auc (Ys P K)) (Ys P K)
def akO:Prop:=ax (aj P acf (Yt P K)) [1,6] [x1,x6] h
def UE:Prop:=ax (aj P aud (Yt P K)) [6,9] [x6,x9] h
theorem amf:UE P K x6 x9 h=
 (OP (ck x6 (.bool true) x9) fun aM=>
 K aM h):=az (by kernel_rfl)
theorem aDd:akO P K x1 x6 h=
 (cE x6 false
 (OP (af true 4 h x1) fun x7=>
 aq P 84 [x7,(.int .i64 (4))] h fun x8 z1=>
 OP (gZ .not x8) fun x9=>
 UE P K x6 x9 z1)
 (UE P K x6 undef h)):=az (by kernel_rfl)
def Oo:Prop:=
 OH (bC 107 h x0) fun x1 z1=>
 OP (af true 4 z1 x1) fun x3=>
 aq P 81 [x3] z1 fun x4 z2=>
 OP (ai .lss x4 (.int .i64 (0))) fun x5=>
 akO P K x1 x5 z2
theorem e83:aj P BH (aS [.tmp 2] K) (bG [x0]) h=Oo P K x0 h:=by kernel_rfl
theorem f83 {K:VK} {x0:Value} {h:ae} (H:Oo prog K x0 h):aq prog 83 [x0] h K:=
 bT k83 (bP rfl) ((e83 prog K x0 h).mpr H)
end
noncomputable section
variable (j0 x1 x4 x5 aA aD aL : Value) (L1 : LQ) (xs : List Value) (h : ae)
def ah7:=bK prog 85 [[],[],[],[4,5,12,13],[14],[],[],[],[],[4,5],[]]
@[irreducible] def H6:=bR ah7
@[irreducible] def auh:=H6.r.r.l.r.l.l
@[irreducible] def ach:=H6.r.r.r
@[irreducible] def aug:=ach.l
theorem k85:ah7=some (23,H6,[.cell true 4 4]):=by kernel_rfl
def M1 (_P:Program) (K:VK):ar:=aS [.cell true 4 4] K
def aqM:ar:=aF (aj P ach (M1 P K)) (M1 P K)
def aqN:ar:=bI 0 (aqM P K)
def aqO:ar:=aF (fun f' aU=>(([4,5,12,13]:List Nat).map f':List Value)=[x4,x5,aA,aD]∧L1 (([14]:List Nat).map f') aU) (aqN P K)
def akR:Prop:=ax (aj P auh (aqO P K x4 x5 aA aD L1)) ([4,5,12,13]++[14]) ([x4,x5,aA,aD]++xs) h
def akQ:Prop:=ax (aj P aug (M1 P K)) [4,5] [x4,x5] h
theorem aDg (x4 x5 aA aD:Value) (L1:LQ) (aL:Value) (h:ae):akR P K x4 x5 aA aD L1 [aL] h=
 (OP (ai .lss aL aD) fun bj=>
 aQ bj
 (OP (aY 4 aA aL) fun bM=>
 OP (af true 4 h bM) fun bU=>
 OH (ba 107 [(.bool false),(.slice none 0 0),(.bool false),(.slice none 0 0)] h) fun x7 z1=>
 OH (aK 4 z1 x7 bU) fun _ z2=>
 OP (af true 4 z2 x5) fun aO=>
 OP (af true 4 z2 x7) fun aP=>
 aq P 87 [aO,aP] z2 fun aZ z3=>
 OH (aK 4 z3 x5 aZ) fun _ z4=>
 OP (ai .add aL (.int .i64 (1))) fun bf=>
 ([x4,x5,aA,aD]:List Value)=[x4,x5,aA,aD]∧L1 [bf] z4)
 (akQ P K x4 x5 h)):=az (by kernel_rfl)
theorem aDf:akQ P K x4 x5 h=
 (OP (af true 4 h x5) fun bH=>
 OH (aK 4 h x4 bH) fun _ z1=>
 OP (af true 4 z1 x4) fun r0=>
 K r0 z1):=az (by kernel_rfl)
def Ot:Prop:=
 OH (bC 102 h j0) fun j2 z1=>
 OH (ba 107 [(.bool false),(.slice none 0 0),(.bool false),(.slice none 0 0)] z1) fun x4 z2=>
 aq P 75 [(.int .i64 (0))] z2 fun x8 z3=>
 OH (ba 107 [(.bool false),(.slice none 0 0),(.bool false),(.slice none 0 0)] z3) fun x5 z4=>
 OH (aK 4 z4 x5 x8) fun _ z5=>
 OP (aJ 2 j2) fun x9=>
 OP (af false 1 z5 x9) fun aM=>
 OP (mJ 107 4 aM (some x1) none) fun aA=>
 OP (bc aA) fun aD=>
 cJ [(.int .i64 (0))] z5 fun L1 xs hx=>
 akR P K x4 x5 aA aD L1 xs hx
theorem e85:aj P H6 (aS [.cell true 4 4] K) (bG [j0,x1]) h=Ot P K j0 x1 h:=by kernel_rfl
theorem f85 {K:VK} {j0 x1:Value} {h:ae} (H:Ot prog K j0 x1 h):aq prog 85 [j0,x1] h K:=
 bT k85 (bP rfl) ((e85 prog K j0 x1 h).mpr H)
end
noncomputable section
variable (s0 f1 x7 x8 : Value) (L1 : LQ) (xs : List Value) (h : ae)
def ag0:=bK prog 110 [[],[],[0,1,7],[8],[],[],[],[],[],[],[],[]]
@[irreducible] def He:=bR ag0
@[irreducible] def arO:=He.r.l.r.l.l
@[irreducible] def arN:=He.r.r
theorem ayI:ag0=some (19,He,[.tmp 4]):=by kernel_rfl
def Xs (_P:Program) (K:VK):ar:=aS [.tmp 4] K
def aoq:ar:=aF (aj P arN (Xs P K)) (Xs P K)
def aor:ar:=bI 0 (aoq P K)
def aos:ar:=aF (fun f' aU=>(([0,1,7]:List Nat).map f':List Value)=[s0,f1,x7]∧L1 (([8]:List Nat).map f') aU) (aor P K)
def aiU:Prop:=ax (aj P arO (aos P K s0 f1 x7 L1)) ([0,1,7]++[8]) ([s0,f1,x7]++xs) h
theorem aAN (s0 f1 x7:Value) (L1:LQ) (x8:Value) (h:ae):aiU P K s0 f1 x7 L1 [x8] h=
 (OP (ai .lss x8 x7) fun x9=>
 aQ x9
 (OP (aY 4 s0 x8) fun aL=>
 OP (af true 4 h aL) fun bj=>
 sJ P f1 [bj] h fun bM z1=>
 aQ bM
 (K x8 z1)
 (OP (ai .add x8 (.int .i64 (1))) fun aO=>
 ([s0,f1,x7]:List Value)=[s0,f1,x7]∧L1 [aO] z1))
 (K (.int .i64 (-1)) h)):=az (by kernel_rfl)
def Nn:Prop:=
 OP (bc s0) fun x7=>
 cJ [(.int .i64 (0))] h fun L1 xs hx=>
 aiU P K s0 f1 x7 L1 xs hx
theorem avl:aj P He (aS [.tmp 4] K) (bG [s0,f1]) h=Nn P K s0 f1 h:=by kernel_rfl
theorem f110 {K:VK} {s0 f1:Value} {h:ae} (H:Nn prog K s0 f1 h):aq prog 110 [s0,f1] h K:=
 bT ayI (bP rfl) ((avl prog K s0 f1 h).mpr H)
end
end
section
def ra (qs:List Rat):List (Int×Int):=qs.map fun q=>(q.num,(q.den:Int))
def QL (h:ae) (v:Value) (qs:List Rat):Prop:=rC h v (ra qs)
theorem QL.mono {h h':ae} {v:Value} {qs:List Rat} (x:EX h h') (p:QL h v qs):QL h' v qs:=rC.mono x p
theorem AW (qs:List Rat):(ra qs).length=qs.length:=by simp [ra]
theorem QL.len {h:ae} {v:Value} {qs:List Rat} (p:QL h v qs):bc v=some (I qs.length):=by have:=rC.len p;rwa [AW] at this
theorem QL.get {h:ae} {v:Value} {qs:List Rat} (p:QL h v qs) {k:Nat} (hk:k<qs.length):∃i o r,aY 4 v (I k)=some (pt i o)∧af true 4 h (pt i o)=some r∧RV h r qs[k]:=by
 obtain ⟨i,o,r,g1,g2,g3⟩:=rC.get p (k:=k) (by rw [AW];exact hk)
 refine ⟨i,o,r,g1,g2,?_⟩
 unfold RV
 simpa [ra] using g3
theorem RV.agg {h:ae} {v:Value} {q:Rat} (p:RV h v q):∃a b c d,v=.agg #[B a,b,B c,d]:=by
 obtain ⟨u,w,rfl,_⟩:=p
 exact ⟨_,_,_,_,rfl⟩
section
variable {h : ae} {K : Value → ae → Prop}
theorem C80 {vs:Value} {w:Int} {ls:List (List UInt8)} (hv:SS h vs ls) (hl:∀s∈ls,s.length≤700) (hn:ls.length≤1000)
  (hk:ls.all isNum=true→∀v h' b,EX h h'→nX b h' v (ra (ls.map j7))→K (.tuple #[v,B true]) h')
  (hZ:ls.all isNum=false→∀h',EX h h'→K (.tuple #[.slice none 0 0,B false]) h'):aq prog 80 [.agg #[vs,I w]] h K:=by
 refine f80 ?_
 have e1:bC 24 h (.agg #[vs,I w])=some (pt h.length 0,h++[.arr 24 [vs,I w]]):=rfl
 simp only [Ol,e1,aE]
 have x0:EX h (h++[.arr 24 [vs,I w]]):=EX.append _ _
 have k0:(h++[ak.arr 24 [vs,I w]])[h.length]?=some (.arr 24 [vs,I w]):=bZ
 generalize h++[ak.arr 24 [vs,I w]]=g0 at x0 k0⊢
 have ld:af false 1 g0 (pt h.length 0)=some vs:=by simp [af,aR,k0,cm]
 have hlen:=hv.len
 simp only [b9,add_zero,ah,ld,hlen]
 refine dL (σ:=Nat×Value×ae) (fun q=>[q.2.1,I q.1]) (fun q=>q.2.2) (fun q=>q.1≤ls.length∧EX g0 q.2.2∧(ls.take q.1).all isNum=true∧nX g0.length q.2.2 q.2.1 (ra ((ls.take q.1).map j7))) (fun q=>ls.length-q.1)
  (0,.slice none 0 0,g0) rfl rfl ⟨zero_le _,EX.refl _,by simp,by simpa [ra] using nX.start g0.length g0⟩ ?_
 rintro ⟨i,vo,g⟩ ⟨hi,xg,fh,own⟩ L hL
 simp only at hi xg fh own hL⊢
 rw [aDc]
 simp only [cN,ah,cj]
 refine ⟨fun aB=>?_,fun cL=>?_⟩
 ·have b6:i<ls.length:=by omega
  obtain ⟨b,o,r1,r2⟩:=(hv.mono (x0.trans xg)).get i b6
  simp only [r1,r2,ah]
  have e7:∀(g:ae),ba 107 [(.bool false),(.slice none 0 0),(.bool false),(.slice none 0 0)] g=some (pt g.length 0,g++[.arr 107 z4]):=fun _=>rfl
  refine anG (hl _ (getElem_mem b6)) (fun Jq r g1 x1 hr=>?_) (fun Jq a b c e g1 x1=>?_)
  ·obtain ⟨a,b',c,d,rfl⟩:=hr.agg
   simp only [eL,fx,fF,ah,e7,aE]
   rw [rj bZ]
   simp only [aE,oI,ah,Bool.not_true,dP]
   rw [jh (cU bZ)]
   simp only [ah]
   have x2:EX g1 ((g1++[ak.arr 107 z4]).set g1.length (.arr 107 [B a,b',B c,d])):=EX.set (EX.append _ _) (le_refl _) _
   generalize (g1++[ak.arr 107 z4]).set g1.length (.arr 107 [B a,b',B c,d])=g2 at x2⊢
   have aA:=x1.trans x2
   refine (own.ex aA).app (xg.trans aA) (hr.mono x2) rfl (by rw [AW,length_map,length_take];omega) ?_
   intro v' g3 x3 _ Tm
   simp only [cA,ah,fk i (by omega),true_and]
   refine hL (i+1,v',g3) ⟨by show i+1≤_;omega,x3,?_,?_⟩ (by show ls.length-(i+1)<ls.length-i;omega)
   ·show (ls.take (i+1)).all isNum=true
    rw [take_succ_eq_append_getElem b6,List.all_append,fh]
    simpa using Jq
   ·show nX g0.length g3 v' (ra ((ls.take (i+1)).map j7))
    rw [take_succ_eq_append_getElem b6,List.map_append]
    simpa [ra] using Tm
  ·simp only [eL,fx,fF,ah,e7,aE]
   rw [rj bZ]
   simp only [aE,oI,ah,Bool.not_false,dM]
   refine hZ ?_ _ ((x0.trans (xg.trans x1)).trans (EX.set (EX.append _ _) (le_refl _) _))
   cases he:ls.all isNum with
   | false=>rfl
   | true=>rw [List.all_eq_true] at he;rw [he _ (getElem_mem b6)] at Jq;cases Jq
 ·have fW:i=ls.length:=by omega
  subst fW
  rw [take_length] at fh own
  rw [aDb]
  exact hk fh vo g _ (x0.trans xg) own
end
end
section
def dX (qs:List Rat):Rat:=qs.foldl (·+·) 0
theorem LC {qs:List Rat} {i:Nat} (h:i<qs.length):dX (qs.take (i+1))=dX (qs.take i)+qs[i]:=by
 unfold dX
 rw [take_succ_eq_append_getElem h,List.foldl_append]
 rfl
theorem Fe {N:Int} {D k:Nat} (hD:0<D) (h1:N.natAbs<10^k) (h2:D<10^k):cD k (mkRat N D):=by
 obtain ⟨e1,e2⟩:=AL (N:=N) hD
 have hg:0<gcd N.natAbs D:=Nat.gcd_pos_of_pos_right _ hD
 refine ⟨?_,?_⟩
 ·rw [e1]
  have hd:(gcd N.natAbs D:Int) ∣ N:=Int.ofNat_dvd_left.2 (Nat.gcd_dvd_left ..)
  rw [Int.natAbs_ediv_of_dvd hd,natAbs_natCast]
  exact Nat.lt_of_le_of_lt (Nat.div_le_self ..) h1
 ·rw [e2];exact Nat.lt_of_le_of_lt (Nat.div_le_self ..) h2
theorem cD.add {i j:Nat} {p q:Rat} (hp:cD i p) (hq:cD j q):cD (i+j+1) (p+q):=by
 obtain ⟨c1,c2,c3,_⟩:=zo hp hq
 rw [OG]
 have h1:10^(i+j+1)=10^(i+j)*10:=Nat.pow_succ ..
 refine Fe (Nat.mul_pos p.den_pos q.den_pos) ?_ ?_
 ·rw [h1];generalize 10^(i+j)=Z at*;omega
 ·rw [h1];generalize 10^(i+j)=Z at*;omega
theorem cD.mul {i j:Nat} {p q:Rat} (hp:cD i p) (hq:cD j q):cD (i+j) (p*q):=by
 obtain ⟨_,_,c3,c4⟩:=zo hp hq
 rw [SW]
 exact Fe (Nat.mul_pos p.den_pos q.den_pos) c4 c3
theorem cD.div {i j:Nat} {p q:Rat} (hp:cD i p) (hq:cD j q) (h0:0<q.num):cD (i+j) (p / q):=by
 obtain ⟨c1,c2,_,_⟩:=zo hp hq
 rw [acU h0]
 refine Fe (Nat.mul_pos p.den_pos (by omega)) c1 ?_
 rw [Int.natAbs_mul,natAbs_natCast,Nat.mul_comm] at c2
 have:q.num.toNat=q.num.natAbs:=by omega
 rw [this];exact c2
theorem cD.le {i j:Nat} {p:Rat} (h:cD i p) (fX:i≤j):cD j p:=
 ⟨lt_of_lt_of_le h.1 (pow_le_pow_right (by decide) fX),lt_of_lt_of_le h.2 (pow_le_pow_right (by decide) fX)⟩
theorem cD.zero:cD 1 (0:Rat):=by constructor <;> decide
theorem CS {qs:List Rat} (h:∀q∈qs,cD 4 q):∀i,i≤qs.length→cD (5*i+1) (dX (qs.take i))
 | 0,_=>by rw [List.take_zero];exact cD.zero
 | i+1,hi=>by
  rw [LC (by omega)]
  exact ((CS h i (by omega)).add (h _ (getElem_mem (by omega)))).le (by omega)
theorem RV.bS {h:ae} {v:Value} {q:Rat} {j:Nat} {e:TypeId} {s:Bool} {r:List Value} (p:RV h v q) (hj:h[j]?=some (.arr e (.bool s::r))) (o:ak):RV (h.set j o) v q:=hY.bS p hj o
theorem QL.from {h:ae} {v:Value} {qs:List Rat} (p:QL h v qs) {k:Nat} (hk:k≤qs.length):∃v',mJ 107 4 v (some (I k)) none=some v'∧QL h v' (qs.drop k):=by
 obtain ⟨rows,a,b,c⟩:=p
 rw [AW] at b
 obtain ⟨v',e1,e2⟩:=a.from (k:=k) (by omega)
 refine ⟨v',e1,rows.drop k,e2,by simp [ra];omega,fun j row q h1 h2=>?_⟩
 rw [List.getElem?_drop] at h1
 refine c (k+j) row q h1 ?_
 rw [←h2]
 unfold ra
 rw [List.getElem?_map,List.getElem?_map,List.getElem?_drop]
section
variable {h : ae} {K : Value → ae → Prop}
theorem Mi {v:Value} {n w:Int} {age:Nat} {qs:List Rat} (hq:QL h v qs) (ha:age≤qs.length) (hs:∀q∈qs,cD 4 q) (hn:qs.length≤20) (hk:∀r h',EX h h'→RV h' r (dX (qs.drop age))→K r h'):
  aq prog 85 [.agg #[I n,I w,v],I age] h K:=by
 obtain ⟨rows,rs,_,_⟩:=id hq
 obtain ⟨t1,t2⟩:=rs.one
 refine f85 ?_
 have e1:bC 102 h (.agg #[I n,I w,v])=some (pt h.length 0,h++[.arr 102 [I n,I w,v]]):=rfl
 have e7:∀(g:ae),ba 107 [(.bool false),(.slice none 0 0),(.bool false),(.slice none 0 0)] g=some (pt g.length 0,g++[.arr 107 z4]):=fun _=>rfl
 simp only [Ot,e1,e7,aE]
 have x0:EX h (h++[.arr 102 [I n,I w,v]]):=EX.append _ _
 have k0:(h++[ak.arr 102 [I n,I w,v]])[h.length]?=some (.arr 102 [I n,I w,v]):=bZ
 generalize h++[ak.arr 102 [I n,I w,v]]=g0 at x0 k0⊢
 have x1:EX g0 (g0++[.arr 107 z4]):=EX.append _ _
 have k1:(g0++[ak.arr 107 z4])[g0.length]?=some (.arr 107 z4):=bZ
 generalize g0++[ak.arr 107 z4]=g1 at x1 k1⊢
 refine ue (n:=0) (by decide) (by decide) ?_
 intro r2 g2 x2 ym
 obtain ⟨a,b,c,d,rfl⟩:=ym.agg
 have x3:EX g2 (g2++[.arr 107 z4]):=EX.append _ _
 have k3:(g2++[ak.arr 107 z4])[g2.length]?=some (.arr 107 z4):=bZ
 generalize g2++[ak.arr 107 z4]=g3 at x3 k3⊢
 have Ck:=ym.mono x3
 rw [rj k3]
 simp only [aE]
 have hl0:=x0.1
 have Rf:=x1.1
 have qF:=x2.1
 have Ji:=(bL k1).1
 have k4:(g3.set g2.length (.arr 107 [B a,b,B c,d]))[g2.length]?=some (.arr 107 [B a,b,B c,d]):=cU k3
 have wC:RV (g3.set g2.length (.arr 107 [B a,b,B c,d])) (.agg #[B a,b,B c,d]) 0:=by
  have:=Ck.bS k3 (.arr 107 [B a,b,B c,d])
  simpa using this
 have x4:EX g2 (g3.set g2.length (.arr 107 [B a,b,B c,d])):=x3.set (le_refl _) _
 generalize g3.set g2.length (.arr 107 [B a,b,B c,d])=g4 at k4 wC x4⊢
 have LZ:=x0.trans (x1.trans x2)
 have kC:=(x2.trans x4).get k1
 have ld:af false 1 g4 (pt h.length 2)=some v:=by simp [af,aR,(x1.trans (x2.trans x4)).get k0,cm]
 obtain ⟨v',s1,s2⟩:=(hq.mono LZ).from ha
 have hlen:=s2.len
 simp only [b9,zero_add,ah,ld,s1,hlen]
 have EH:∀q∈qs.drop age,cD 4 q:=fun q hm=>hs q (mem_of_mem_drop hm)
 have oZ:(qs.drop age).length≤20:=by rw [length_drop];omega
 generalize qs.drop age=ps at*
 refine dL (σ:=Nat×ae×(Bool×Value×Bool×Value)) (fun q=>[I q.1]) (fun q=>q.2.1)
  (fun q=>q.1≤ps.length∧EX g2 q.2.1∧q.2.1[g2.length]?=some (.arr 107 [B q.2.2.1,q.2.2.2.1,B q.2.2.2.2.1,q.2.2.2.2.2])∧q.2.1[g0.length]?=some (.arr 107 z4)∧RV q.2.1 (.agg #[B q.2.2.1,q.2.2.2.1,B q.2.2.2.2.1,q.2.2.2.2.2]) (dX (ps.take q.1))) (fun q=>ps.length-q.1)
  (0,g4,a,b,c,d) rfl rfl ⟨zero_le _,x4,k4,kC,wC⟩ ?_
 rintro ⟨i,g,a,b,c,d⟩ ⟨hi,xg,kg,kz,hr⟩ L hL
 simp only at hi xg kg kz hr hL⊢
 have qL:=s2.mono xg
 rw [aDg]
 simp only [cN,ah,cj]
 refine ⟨fun aB=>?_,fun cL=>?_⟩
 ·have b6:i<ps.length:=by omega
  obtain ⟨bi,oi,r,u1,u2,u3⟩:=qL.get b6
  obtain ⟨a',b',c',d',rfl⟩:=u3.agg
  simp only [u1,u2,ah,e7,aE]
  have y1:EX g (g++[.arr 107 z4]):=EX.append _ _
  have j1:(g++[ak.arr 107 z4])[g.length]?=some (.arr 107 z4):=bZ
  generalize g++[ak.arr 107 z4]=ga at y1 j1⊢
  rw [rj j1]
  simp only [aE]
  have y2:EX g (ga.set g.length (.arr 107 [B a',b',B c',d'])):=y1.set (le_refl _) _
  have j2:(ga.set g.length (.arr 107 [B a',b',B c',d']))[g.length]?=some (.arr 107 [B a',b',B c',d']):=cU j1
  generalize ga.set g.length (.arr 107 [B a',b',B c',d'])=gb at y2 j2⊢
  have kb:=y2.get kg
  rw [jh kb,ah,jh j2,ah]
  refine yP (hr.mono y2) (u3.mono y2) (CS EH i hi) (EH _ (getElem_mem b6)) (by omega) ?_
  intro r5 g5 x5 qO
  rw [←LC b6] at qO
  obtain ⟨a2,b2,c2,d2,rfl⟩:=qO.agg
  have kc:=x5.get kb
  rw [rj kc]
  simp only [aE,cA,fk i (by omega),ah,true_and]
  have yb:=(bL kg).1
  have kz5:=(y2.trans x5).get kz
  refine hL (i+1,g5.set g2.length (.arr 107 [B a2,b2,B c2,d2]),a2,b2,c2,d2) ⟨by show i+1≤_;omega,(xg.trans (y2.trans x5)).set (le_refl _) _,cU kc,?_,qO.bS kc _⟩ (by show ps.length-(i+1)<ps.length-i;omega)
  rw [getElem?_set_ne (by omega)];exact kz5
 ·have fW:i=ps.length:=by omega
  subst fW
  rw [take_length] at hr
  rw [aDf,jh kg,ah]
  have hgz:g0.length≠g2.length:=by omega
  refine sS kz (hk _ _ ((LZ.trans xg).set (by omega) _) (hr.bS kz _))
end
end
section
def mX (q:Rat):Bool:=decide (q.num<0)|| !IN 4 q
theorem azV:qp prog 83=true:=by kernel_rfl
def yw:Nat:=700
theorem aDB {s:List UInt8} (hl:s.length≤700):cD yw (j7 s):=by
 have rX:(fH s).length≤700:=by
  unfold fH
  split
  ·rw [List.length_tail];omega
  ·exact hl
 have lo:(fw (fH s)).length≤700:=by unfold fw;rw [length_take];omega
 have lu:(kI (fH s)).length≤700:=by unfold kI;rw [length_drop];omega
 have p1:gQ (fw (fH s))<10^yw:=lt_of_lt_of_le (Wa _) (pow_le_pow_right (by decide) (show _≤yw from lo))
 have p2:gQ (kI (fH s))<10^yw:=lt_of_lt_of_le (Wa _) (pow_le_pow_right (by decide) (show _≤yw from lu))
 cases e:tP s with
 | none=>
  have:j7 s=0:=by unfold j7;rw [e]
  rw [this]
  exact cD.zero.le (by decide)
 | some q=>
  obtain ⟨n,d⟩:=q
  obtain ⟨e1,e2⟩:=amo e
  unfold cD
  rw [e1,e2]
  rw [UR] at e
  unfold AV at e
  split at e
  ·injection e with e
   injection e with h1 h2
   have hs:=(VJ (m:=decide (s.head?=some 45)) (n:=gQ (fw (fH s)))).2
   refine ⟨by rw [←h1];exact Nat.lt_of_le_of_lt (Nat.le_of_eq hs) p1,?_⟩
   rw [←h2]
   unfold xM
   split
   ·exact p2
   ·exact Nat.one_lt_pow (by decide) (by decide)
  ·cases e
section
variable {h : ae} {K : Value → ae → Prop}
theorem C83 {v:Value} {q:Rat} (hq:RV h v q) (sq:cD yw q) (hk:∀h',EX h h'→K (B (mX q)) h'):aq prog 83 [v] h K:=by
 have Cj:=hq
 obtain ⟨a,b,c,d,rfl⟩:=hq.agg
 refine f83 ?_
 have e1:bC 107 h (.agg #[B a,b,B c,d])=some (pt h.length 0,h++[.arr 107 [B a,b,B c,d]]):=rfl
 simp only [Oo,e1,aE]
 have x0:EX h (h++[.arr 107 [B a,b,B c,d]]):=EX.append _ _
 have k0:(h++[ak.arr 107 [B a,b,B c,d]])[h.length]?=some (.arr 107 [B a,b,B c,d]):=bZ
 generalize h++[ak.arr 107 [B a,b,B c,d]]=g0 at x0 k0⊢
 rw [jh k0,ah]
 refine W8 (Cj.mono x0) ?_
 intro g1 x1
 have hs:decide (EZ q.num<0)=decide (q.num<0):=by
  rw [decide_eq_decide]
  unfold EZ
  split
  ·omega
  ·split <;> omega
 simp only [cN,ah,hs]
 rw [aDd]
 unfold mX at hk
 by_cases hn:q.num<0
 ·rw [aW hn] at hk⊢
  simp only [fT]
  rw [amf]
  simp only [dZ,ah]
  exact hk g1 (x0.trans x1)
 ·rw [aT hn] at hk⊢
  simp only [eJ]
  rw [jh (x1.get k0),ah]
  refine C84 (k:=4) ((Cj.mono x0).mono x1) sq (by decide) (by decide) (by decide) ?_
  intro g2 x2
  simp only [oI,ah]
  rw [amf]
  simp only [c8,ah]
  rw [Bool.false_or] at hk
  exact hk g2 (x0.trans (x1.trans x2))
theorem C82 {v:Value} {qs:List Rat} (hq:QL h v qs) (sq:∀q∈qs,cD yw q) (hn:qs.length≤1000) (hk:∀h',EX h h'→K (B (qs.any mX)) h'):aq prog 82 [v,.func (.func 83) #[] #[]] h K:=by
 refine f82 ?_
 unfold On
 refine f110 ?_
 unfold Nn
 simp only [hq.len,ah]
 refine dL (σ:=Nat×ae) (fun q=>[I q.1]) (fun q=>q.2) (fun q=>q.1≤qs.length∧EX h q.2∧(qs.take q.1).any mX=false) (fun q=>qs.length-q.1) (0,h) rfl rfl ⟨zero_le _,EX.refl _,by simp⟩ ?_
 rintro ⟨i,g⟩ ⟨hi,xg,dB⟩ L hL
 simp only at hi xg dB hL⊢
 rw [aAN]
 simp only [cN,ah,cj]
 refine ⟨fun aB=>?_,fun cL=>?_⟩
 ·have b6:i<qs.length:=by omega
  obtain ⟨b,o,r,u1,u2,u3⟩:=(hq.mono xg).get b6
  simp only [u1,u2,ah]
  refine Ij azV ?_
  simp only [append_nil]
  refine C83 u3 (sq _ (getElem_mem b6)) ?_
  intro g1 x1
  cases hb:mX qs[i] with
  | true=>
   simp only [dM,nA,ah,aW (show (0:Int)≤(i:Int) by omega)]
   have:qs.any mX=true:=List.any_eq_true.2 ⟨_,getElem_mem b6,hb⟩
   rw [this] at hk
   exact hk g1 (xg.trans x1)
  | false=>
   simp only [dP,cA,fk i (by omega),ah,true_and]
   refine hL (i+1,g1) ⟨by show i+1≤_;omega,xg.trans x1,?_⟩ (by show qs.length-(i+1)<qs.length-i;omega)
   show (qs.take (i+1)).any mX=false
   rw [take_succ_eq_append_getElem b6,List.any_append,dB]
   simpa using hb
 ·have fW:i=qs.length:=by omega
  subst fW
  rw [take_length] at dB
  rw [dB] at hk
  simp only [nA,ah,show decide ((0:Int)≤ -1)=false from rfl]
  exact hk g xg
end
end
section
def Cv:Value→Bool
 | .int .u32 _=>true
 | .bool _=>true
 | _=>false
theorem KP.sub {p q:Value→Bool} {h h':ae} (Jw:∀v,q v=true→p v=true) (x:KP p h h'):KP q h h':=fun d c r h1 h2=>x d c r h1 (Jw c h2)
theorem ays (v:Value) (h:uU v=true):Cv v=true:=by
 unfold uU at h
 split at h
 ·rfl
 ·cases h
def QB (h:ae) (v:Value) (qs:List Rat):Prop:=QL h v qs∧(qs=[]∨∃i o n c r,v=sl 107 i o n∧aR h i=some (c::r)∧Cv c=true)
theorem QB.mono {h h':ae} {v:Value} {qs:List Rat} (x:EX h h') (p:QB h v qs):QB h' v qs:=⟨p.1.mono x,p.2.imp id fun ⟨i,o,n,c,r,a,b,d⟩=>⟨i,o,n,c,r,a,x.cells b,d⟩⟩
theorem QB.dR {h h':ae} {v:Value} {qs:List Rat} (x:KP Cv h h') (p:QB h v qs):QB h' v qs:=by
 obtain ⟨⟨rows,a,b,c⟩,q⟩:=p
 rw [AW] at b
 have rat:∀(k:Nat) (row:List Value) (q:Int×Int),rows[k]?=some row→(ra qs)[k]?=some q→hY h' (.agg row.toArray) q.1 q.2:=fun k row q h1 h2=>(c k row q h1 h2).dR (KP.sub ays x)
 refine ⟨⟨rows,⟨a.1,?_⟩,by rw [AW];exact b,rat⟩,q.imp id fun ⟨i,o,n,c,r,e1,e2,e3⟩=>⟨i,o,n,c,r,e1,x i c r e2 e3,e3⟩⟩
 rcases a.2 with h0 | ⟨i,o,e1,e2⟩
 ·exact .inl h0
 ·refine .inr ⟨i,o,e1,?_⟩
  rcases e2 with e2 | ⟨pre,post,e2,e3⟩
  ·exact .inl e2
  ·rcases q with q | ⟨i',o',n',c',r',f1,f2,f3⟩
   ·left
    exact List.length_eq_zero_iff.1 (by rw [b,q];rfl)
   ·right
    rw [e1] at f1
    have hi:i=i':=by
     simp only [sl] at f1
     injection f1 with f1
     injection f1 with f1
     injection f1
    subst hi
    refine ⟨pre,post,?_,e3⟩
    rw [←e2,f2]
    exact x i c' r' f2 f3
theorem nX.qb {b:Nat} {h:ae} {v:Value} {qs:List Rat} (o:nX b h v (ra qs)):QB h v qs:=by
 refine ⟨o.aDA,?_⟩
 obtain ⟨rows,o1,o2,o3,_⟩:=o
 rw [AW] at o2
 cases rows with
 | nil=>left;exact List.length_eq_zero_iff.1 (by rw [←o2];rfl)
 | cons row rows=>
  right
  rcases o1.2 with ⟨_,h0⟩ | ⟨i,_,e1,e2⟩
  ·cases h0
  ·obtain ⟨s,t,e3⟩:=o3 row (by simp)
   refine ⟨i,0,_,.bool s,t++rows.flatten,e1,?_,rfl⟩
   simp [aR,e2,e3]
def LK (h:ae) (v:Value) (cs:List (List Rat×Int)):Prop:=
 ∃rows,RS h 102 3 v rows∧rows.length=cs.length∧∀(k:Nat) (row:List Value) (c:List Rat×Int),rows[k]?=some row→cs[k]?=some c→∃vq,row=[I c.1.length,I c.2,vq]∧QB h vq c.1
theorem LK.mono {h h':ae} {v:Value} {cs:List (List Rat×Int)} (x:EX h h') (p:LK h v cs):LK h' v cs:=
 let ⟨rows,a,b,c⟩:=p;⟨rows,a.mono x,b,fun k row q h1 h2=>let ⟨vq,e,m⟩:=c k row q h1 h2;⟨vq,e,m.mono x⟩⟩
theorem LK.len {h:ae} {v:Value} {cs:List (List Rat×Int)} (p:LK h v cs):bc v=some (I cs.length):=by
 obtain ⟨rows,a,b,_⟩:=p;rw [←b];exact a.len
theorem LK.get {h:ae} {v:Value} {cs:List (List Rat×Int)} (p:LK h v cs) {k:Nat} (hk:k<cs.length):∃i o vq,aY 3 v (I k)=some (pt i o)∧af true 3 h (pt i o)=some (.agg #[I cs[k].1.length,I cs[k].2,vq])∧QB h vq cs[k].1:=by
 obtain ⟨rows,a,b,c⟩:=p
 have cW:k<rows.length:=by omega
 obtain ⟨i,o,cells,g1,g2,g3,g4⟩:=a.get cW
 obtain ⟨vq,e,m⟩:=c k _ _ (getElem?_eq_getElem cW) (getElem?_eq_getElem hk)
 have:=Vt g2 g3 g4
 rw [e] at this
 exact ⟨i,o,vq,g1,this,m⟩
def qk (b:Nat) (h:ae) (v:Value) (cs:List (List Rat×Int)):Prop:=
 ∃rows,gh b h 102 3 v rows∧rows.length=cs.length∧(∀r∈rows,∃n t,r=I n::t)∧∀(k:Nat) (row:List Value) (c:List Rat×Int),rows[k]?=some row→cs[k]?=some c→∃vq,row=[I c.1.length,I c.2,vq]∧QB h vq c.1
theorem qk.start (b:Nat) (h:ae):qk b h (.slice none 0 0) []:=⟨[],gh.start ..,rfl,fun r hr=>by simp at hr,fun k r q h=>by simp at h⟩
theorem qk.lk {b:Nat} {h:ae} {v:Value} {cs:List (List Rat×Int)} (o:qk b h v cs):LK h v cs:=let ⟨rows,a,c,_,d⟩:=o;⟨rows,a.rs,c,d⟩
theorem qk.ex {b:Nat} {h h':ae} {v:Value} {cs:List (List Rat×Int)} (x:EX h h') (o:qk b h v cs):qk b h' v cs:=
 let ⟨rows,a,c,e,d⟩:=o;⟨rows,a.ex x,c,e,fun k row q h1 h2=>let ⟨vq,e,m⟩:=d k row q h1 h2;⟨vq,e,m.mono x⟩⟩
theorem awp {rows:List (List Value)} (h:∀r∈rows,∃n t,r=I n::t):∀c r,rows.flatten=c::r→Cv c=false:=by
 cases rows with
 | nil=>intro c r e;simp at e
 | cons row rows=>
  obtain ⟨n,t,rfl⟩:=h row (by simp)
  intro c r e
  simp at e
  rw [←e.1];rfl
theorem qk.app {h0 h:ae} {v vq:Value} {qs:List Rat} {w:Int} {cs:List (List Rat×Int)} {zs:List Value} {K:Value→ae→Prop} (o:qk h0.length h v cs) (hex:EX h0 h) (hq:QB h vq qs) (hz:zs.length=3) (hl:cs.length≤10000)
  (hk:∀v' h',EX h0 h'→KP Cv h h'→qk h0.length h' v' (cs++[(qs,w)])→K v' h'):OH (cZ 102 1 zs h [(0,3,.agg #[I qs.length,I w,vq])]) fun y h2=>OH (dI 102 3 40 h2 v y) K:=by
 obtain ⟨rows,o1,o2,o3,o4⟩:=o
 obtain ⟨rq,rs,_,_⟩:=id hq.1
 obtain ⟨t1,t2⟩:=rs.one
 refine o1.app hex hz (row:=[I qs.length,I w,vq]) rfl (by simp [cR,Value.cells]) rfl (by omega) (by simp [maxLen];omega) ?_
 intro v' h' x' hold o'
 have kp:KP Cv h h':=o1.kp (awp o3) hold
 refine hk v' h' x' kp ⟨_,o',by simp [o2],fun r hr=>?_,fun k row q h1 h2=>?_⟩
 ·rcases mem_append.1 hr with hr | hr
  ·exact o3 r hr
  ·rw [mem_singleton.1 hr];exact ⟨_,_,rfl⟩
 ·by_cases hk:k<rows.length
  ·rw [getElem?_append_left hk] at h1
   rw [getElem?_append_left (by omega)] at h2
   obtain ⟨F1,e,m⟩:=o4 k row q h1 h2
   exact ⟨F1,e,m.dR kp⟩
  ·rw [getElem?_append_right (by omega)] at h1
   rw [getElem?_append_right (by omega),←o2] at h2
   have h0:k-rows.length=0:=by
    have:=(bL h1).1
    simp at this;omega
   rw [h0] at h1 h2
   simp only [List.getElem?_cons_zero,Option.some.injEq] at h1 h2
   subst h1 h2
   exact ⟨vq,rfl,hq.dR kp⟩
end
section
variable (P : Program) (K : VK)
noncomputable section
variable (c0 x1 l7 bV bk : Value) (h : ae)
def aha:=bK prog 12 [[],[],[],[],[1,7,25],[1,7,25,32],[],[],[],[],[],[],[],[],[]]
@[irreducible] def nC:=bR aha
@[irreducible] def aai:=nC.r.r.l.l.r.r.l.r.l
@[irreducible] def asr:=nC.r.r.l.l.r.r.r
@[irreducible] def asq:=nC.r.r.r
@[irreducible] def asp:=aai.r.l
theorem k12:aha=some (52,nC,[.tmp 4,.tmp 5,.tmp 6]):=by kernel_rfl
def XF (_P:Program) (K:VK):ar:=aS [.tmp 4,.tmp 5,.tmp 6] K
def ao3:ar:=aF (aj P asq (XF P K)) (XF P K)
def XG:ar:=bI 0 (ao3 P K)
def XH:ar:=aF (aj P asr (XG P K)) (XG P K)
def TP:Prop:=ax (aj P aai (XH P K)) [1,7,25] [x1,l7,bV] h
def Kx:Prop:=ax (aj P asp (XH P K)) [1,7,25,32] [x1,l7,bV,bk] h
theorem alK:Kx P K x1 l7 bV bk h=
 (OP (ck bV (.bool true) bk) fun br=>
 aQ br
 (K (.tuple #[(.string ⟨#[]⟩),(.int .i64 (0)),(.int .i64 (1))]) h)
 (OP (aY 3 l7 (.int .i64 (0))) fun dE=>
 OP (af true 3 h dE) fun eQ=>
 aq P 44 [eQ,x1] h fun eI z1=>
 OP (cf 0 eI) fun ee=>
 OP (cf 1 eI) fun dG=>
 OH (ba 107 [(.bool false),(.slice none 0 0),(.bool false),(.slice none 0 0)] z1) fun x9 z2=>
 OH (aK 4 z2 x9 ee) fun _ z3=>
 OP (af true 4 z3 x9) fun bO=>
 aq P 45 [bO] z3 fun bp z4=>
 OP (cf 0 bp) fun cH=>
 OP (cf 1 bp) fun dU=>
 OP (ai .neq dU (.int .i64 (0))) fun fz=>
 aQ fz
 (K (.tuple #[(.string ⟨#[]⟩),(.int .i64 (0)),dU]) z4)
 (K (.tuple #[cH,dG,(.int .i64 (0))]) z4))):=az (by kernel_rfl)
theorem aBk:TP P K x1 l7 bV h=
 (cE bV false
 (OP (aY 3 l7 (.int .i64 (0))) fun bz=>
 OP (aJ 0 bz) fun bN=>
 OP (aJ 0 bN) fun dD=>
 OP (af false 1 h dD) fun cG=>
 OP (ai .geq x1 cG) fun bk=>
 Kx P K x1 l7 bV bk h)
 (Kx P K x1 l7 bV undef h)):=az (by kernel_rfl)
def Nw:Prop:=
 OH (bC 24 h c0) fun c2 z1=>
 OP (af true 2 z1 c2) fun aD=>
 OH (cZ 24 1 [(.slice none 0 0),(.int .i64 (0))] z1 [(0,2,aD)]) fun aL z2=>
 aq P 43 [aL] z2 fun bj z3=>
 OP (cf 0 bj) fun bM=>
 OP (cf 1 bj) fun bU=>
 OP (ai .neq bU (.int .i64 (0))) fun aZ=>
 aQ aZ
 (K (.tuple #[(.string ⟨#[]⟩),(.int .i64 (0)),bU]) z3)
 (OP (ai .lss x1 (.int .i64 (0))) fun bD=>
 TP P K x1 bM bD z3)
theorem e12:aj P nC (aS [.tmp 4,.tmp 5,.tmp 6] K) (bG [c0,x1]) h=Nw P K c0 x1 h:=by kernel_rfl
theorem f12 {K:VK} {c0 x1:Value} {h:ae} (H:Nw prog K c0 x1 h):aq prog 12 [c0,x1] h K:=
 bT k12 (bP rfl) ((e12 prog K c0 x1 h).mpr H)
end
noncomputable section
variable (l0 x4 fo au aA aD dF dG bO bp cH kh cQ dO jU iD fA gw jW kj jX : Value) (L1 : LQ) (xs : List Value) (h : ae)
def ahF:=bK prog 43 [[],[],[],[0,11,12],[4,13],[],[],[],[],[],[],[],[],[0,4],[0,4,38],[4,38,41],[],[],[],[],[4,43,44],[45],[],[],[],[4,10,43,44,45,53],[4,10,43,44,45,53,57],[4,10,43,44,45,59],[4,10,43,44,45,59,63],[4,10,43,44,45,65],[4,10,43,44,45,65,69],[4,10,43,44,45,71],[4,10,43,44,45,71,81],[],[],[],[4,10,43,44,45,86],[4,43,44,45,86,91],[],[],[],[4],[]]
@[irreducible] def Hy:=bR ahF
@[irreducible] def asZ:=Hy.r.r.l.r.l.l
@[irreducible] def aaL:=Hy.r.r.r
@[irreducible] def Hz:=aaL.l
@[irreducible] def aaJ:=Hz.l.l.r.l
@[irreducible] def asR:=Hz.l.r
@[irreducible] def Pm:=Hz.r
@[irreducible] def asS:=aaJ.r.l
@[irreducible] def DI:=Pm.l.r.l.l
@[irreducible] def aaK:=Pm.r
@[irreducible] def aaM:=DI.r.r.l.l.r.l.l.r.l
@[irreducible] def asU:=DI.r.r.l.l.r.l.r
@[irreducible] def Pn:=DI.r.r.l.l.r.r
@[irreducible] def asT:=DI.r.r.r
@[irreducible] def asY:=aaK.l
@[irreducible] def aaN:=aaM.r.l
@[irreducible] def aaT:=Pn.l.r.l
@[irreducible] def asW:=Pn.r
@[irreducible] def aaO:=aaN.r.l
@[irreducible] def asX:=aaT.r.l
@[irreducible] def aaP:=aaO.r.l
@[irreducible] def aaQ:=aaP.r.l
@[irreducible] def aaR:=aaQ.r.l
@[irreducible] def aaS:=aaR.r.l
@[irreducible] def asV:=aaS.r.l
theorem k43:ahF=some (95,Hy,[.tmp 2,.tmp 3]):=by kernel_rfl
def xv (_P:Program) (K:VK):ar:=aS [.tmp 2,.tmp 3] K
def apz:ar:=aF (aj P aaL (xv P K)) (xv P K)
def apB:ar:=bI 0 (apz P K)
def apC:ar:=aF (fun f' aU=>(([0,11,12]:List Nat).map f':List Value)=[l0,au,aA]∧L1 (([4,13]:List Nat).map f') aU) (apB P K)
def XR:ar:=aF (aj P Pm (xv P K)) (xv P K)
def XS:ar:=aF (aj P asR (XR P K)) (XR P K)
def apx:ar:=aF (aj P aaK (xv P K)) (xv P K)
def apy:ar:=bI 2 (apx P K)
def ML:ar:=aF (fun f' aU=>(([4,43,44]:List Nat).map f':List Value)=[x4,bO,bp]∧L1 (([45]:List Nat).map f') aU) (apy P K)
def apA:ar:=aF (aj P asT (ML P K x4 bO bp L1)) (ML P K x4 bO bp L1)
def Gz:ar:=bI 3 (apA P K x4 bO bp L1)
def XT:ar:=aF (aj P Pn (Gz P K x4 bO bp L1)) (Gz P K x4 bO bp L1)
def xw:ar:=aF (aj P asU (XT P K x4 bO bp L1)) (XT P K x4 bO bp L1)
def XU:ar:=aF (aj P asW (Gz P K x4 bO bp L1)) (Gz P K x4 bO bp L1)
def ajJ:Prop:=ax (aj P asZ (apC P K l0 au aA L1)) ([0,11,12]++[4,13]) ([l0,au,aA]++xs) h
def ajE:Prop:=ax (aj P Hz (xv P K)) [0,4] [l0,x4] h
def ajF:Prop:=ax (aj P aaJ (XS P K)) [0,4,38] [l0,x4,dF] h
def TX:Prop:=ax (aj P asS (XS P K)) [4,38,41] [x4,dF,dG] h
def TY:Prop:=ax (aj P DI (ML P K x4 bO bp L1)) ([4,43,44]++[45]) ([x4,bO,bp]++xs) h
def ajG:Prop:=ax (aj P aaM (xw P K x4 bO bp L1)) [4,10,43,44,45,53] [x4,fo,bO,bp,cH,kh] h
def TZ:Prop:=ax (aj P aaN (xw P K x4 bO bp L1)) [4,10,43,44,45,53,57] [x4,fo,bO,bp,cH,kh,cQ] h
def T2:Prop:=ax (aj P aaO (xw P K x4 bO bp L1)) [4,10,43,44,45,59] [x4,fo,bO,bp,cH,dO] h
def T5:Prop:=ax (aj P aaP (xw P K x4 bO bp L1)) [4,10,43,44,45,59,63] [x4,fo,bO,bp,cH,dO,jU] h
def T6:Prop:=ax (aj P aaQ (xw P K x4 bO bp L1)) [4,10,43,44,45,65] [x4,fo,bO,bp,cH,iD] h
def T7:Prop:=ax (aj P aaR (xw P K x4 bO bp L1)) [4,10,43,44,45,65,69] [x4,fo,bO,bp,cH,iD,fA] h
def T8:Prop:=ax (aj P aaS (xw P K x4 bO bp L1)) [4,10,43,44,45,71] [x4,fo,bO,bp,cH,gw] h
def KB:Prop:=ax (aj P asV (xw P K x4 bO bp L1)) [4,10,43,44,45,71,81] [x4,fo,bO,bp,cH,gw,jW] h
def ajH:Prop:=ax (aj P aaT (XU P K x4 bO bp L1)) [4,10,43,44,45,86] [x4,fo,bO,bp,cH,kj] h
def KC:Prop:=ax (aj P asX (XU P K x4 bO bp L1)) [4,43,44,45,86,91] [x4,bO,bp,cH,kj,jX] h
def ajI:Prop:=ax (aj P asY (xv P K)) [4] [x4] h
theorem aBQ (l0 au aA:Value) (L1:LQ) (x4 aD:Value) (h:ae):ajJ P K l0 au aA L1 [x4,aD] h=
 (OP (ai .lss aD aA) fun aL=>
 aQ aL
 (OP (aY 2 au aD) fun bj=>
 OP (af true 2 h bj) fun bM=>
 OH (ba 24 [(.slice none 0 0),(.int .i64 (0))] h) fun c6 z1=>
 OH (aK 2 z1 c6 bM) fun _ z2=>
 OP (af true 2 z2 c6) fun aO=>
 aq P 80 [aO] z2 fun aP z3=>
 OP (cf 0 aP) fun aZ=>
 OP (cf 1 aP) fun bf=>
 OP (gZ .not bf) fun cX=>
 aQ cX
 (K (.tuple #[(.slice none 0 0),(.int .i64 (2))]) z3)
 (OP (bc aZ) fun cF=>
 OP (aJ 1 c6) fun bn=>
 OP (af false 1 z3 bn) fun bz=>
 OP (dW [(.int .i64 (0)),(.int .i64 (0))] [(0,1,cF),(1,1,bz)]) fun bN=>
 OP (dW [(.int .i64 (0)),(.int .i64 (0)),(.slice none 0 0)] [(0,2,bN),(2,1,aZ)]) fun cG=>
 OH (cZ 102 1 [(.int .i64 (0)),(.int .i64 (0)),(.slice none 0 0)] z3 [(0,3,cG)]) fun bk z4=>
 OH (dI 102 3 40 z4 x4 bk) fun br z5=>
 OP (ai .add aD (.int .i64 (1))) fun bE=>
 ([l0,au,aA]:List Value)=[l0,au,aA]∧L1 [br,bE] z5))
 (ajE P K l0 x4 h)):=az (by kernel_rfl)
theorem alN:TX P K x4 dF dG h=
 (OP (ck dF (.bool true) dG) fun ef=>
 aQ ef
 (K (.tuple #[(.slice none 0 0),(.int .i64 (1))]) h)
 (OP (bc x4) fun bp=>
 cJ [(.int .i64 (0))] h fun L1 xs hx=>
 TY P K x4 x4 bp L1 xs hx)):=az (by kernel_rfl)
theorem aBL:ajF P K l0 x4 dF h=
 (cE dF false
 (OP (bc l0) fun ee=>
 OP (ai .gtr ee (.int .i64 (3))) fun dG=>
 TX P K x4 dF dG h)
 (TX P K x4 dF undef h)):=az (by kernel_rfl)
theorem alU:KB P K x4 fo bO bp cH gw jW L1 h=
 (OP (ck gw (.bool true) jW) fun nS=>
 aQ nS
 (K (.tuple #[(.slice none 0 0),(.int .i64 (1))]) h)
 (OP (aJ 2 fo) fun jJ=>
 OP (af false 1 h jJ) fun ki=>
 aq P 82 [ki,(.func (.func 83) #[] #[])] h fun xo z1=>
 ajH P K x4 fo bO bp cH xo L1 z1)):=az (by kernel_rfl)
theorem alT:T8 P K x4 fo bO bp cH gw L1 h=
 (cE gw false
 (OP (aJ 2 fo) fun rr=>
 OP (af false 1 h rr) fun tZ=>
 OP (aJ 0 fo) fun kK=>
 OP (aJ 0 kK) fun mQ=>
 OP (af false 1 h mQ) fun jV=>
 OP (ai .sub jV (.int .i64 (1))) fun lL=>
 OP (aY 4 tZ lL) fun fB=>
 OP (af true 4 h fB) fun ub=>
 aq P 81 [ub] h fun mR z1=>
 OP (ai .eql mR (.int .i64 (0))) fun jW=>
 KB P K x4 fo bO bp cH gw jW L1 z1)
 (KB P K x4 fo bO bp cH gw undef L1 h)):=az (by kernel_rfl)
theorem alS:T7 P K x4 fo bO bp cH iD fA L1 h=
 (OP (ck iD (.bool true) fA) fun jI=>
 T8 P K x4 fo bO bp cH jI L1 h):=az (by kernel_rfl)
theorem alR:T6 P K x4 fo bO bp cH iD L1 h=
 (cE iD false
 (OP (aJ 0 fo) fun kX=>
 OP (aJ 1 kX) fun fR=>
 OP (af false 1 h fR) fun gS=>
 OP (ai .gtr gS (.int .i64 (50))) fun fA=>
 T7 P K x4 fo bO bp cH iD fA L1 h)
 (T7 P K x4 fo bO bp cH iD undef L1 h)):=az (by kernel_rfl)
theorem alQ:T5 P K x4 fo bO bp cH dO jU L1 h=
 (OP (ck dO (.bool true) jU) fun jA=>
 T6 P K x4 fo bO bp cH jA L1 h):=az (by kernel_rfl)
theorem alP:T2 P K x4 fo bO bp cH dO L1 h=
 (cE dO false
 (OP (aJ 0 fo) fun jT=>
 OP (aJ 1 jT) fun gf=>
 OP (af false 1 h gf) fun kW=>
 OP (ai .lss kW (.int .i64 (0))) fun jU=>
 T5 P K x4 fo bO bp cH dO jU L1 h)
 (T5 P K x4 fo bO bp cH dO undef L1 h)):=az (by kernel_rfl)
theorem alO:TZ P K x4 fo bO bp cH kh cQ L1 h=
 (OP (ck kh (.bool true) cQ) fun cK=>
 T2 P K x4 fo bO bp cH cK L1 h):=az (by kernel_rfl)
theorem aBN:ajG P K x4 fo bO bp cH kh L1 h=
 (cE kh false
 (OP (aJ 0 fo) fun cM=>
 OP (aJ 0 cM) fun eR=>
 OP (af false 1 h eR) fun gR=>
 OP (ai .gtr gR (.int .i64 (8))) fun cQ=>
 TZ P K x4 fo bO bp cH kh cQ L1 h)
 (TZ P K x4 fo bO bp cH kh undef L1 h)):=az (by kernel_rfl)
theorem alV:KC P K x4 bO bp cH kj jX L1 h=
 (OP (ck kj (.bool true) jX) fun ru=>
 aQ ru
 (K (.tuple #[(.slice none 0 0),(.int .i64 (1))]) h)
 (OP (ai .add cH (.int .i64 (1))) fun sD=>
 ([x4,bO,bp]:List Value)=[x4,bO,bp]∧L1 [sD] h)):=az (by kernel_rfl)
theorem aBO:ajH P K x4 fo bO bp cH kj L1 h=
 (cE kj false
 (OP (af true 3 h fo) fun vF=>
 aq P 85 [vF,(.int .i64 (0))] h fun qi z1=>
 aq P 75 [(.int .i64 (1))] z1 fun jK z2=>
 aq P 86 [qi,jK] z2 fun py z3=>
 OP (ai .neq py (.int .i64 (0))) fun jX=>
 KC P K x4 bO bp cH kj jX L1 z3)
 (KC P K x4 bO bp cH kj undef L1 h)):=az (by kernel_rfl)
theorem aBM (x4 bO bp:Value) (L1:LQ) (cH:Value) (h:ae):TY P K x4 bO bp L1 [cH] h=
 (OP (ai .lss cH bp) fun dU=>
 aQ dU
 (OP (aY 3 bO cH) fun mP=>
 OP (af true 3 h mP) fun fz=>
 OH (ba 102 [(.int .i64 (0)),(.int .i64 (0)),(.slice none 0 0)] h) fun fo z1=>
 OH (aK 3 z1 fo fz) fun _ z2=>
 OP (aJ 0 fo) fun fQ=>
 OP (aJ 0 fQ) fun bW=>
 OP (af false 1 z2 bW) fun cd=>
 OP (ai .lss cd (.int .i64 (1))) fun cV=>
 ajG P K x4 fo bO bp cH cV L1 z2)
 (ajI P K x4 h)):=az (by kernel_rfl)
theorem aBP:ajI P K x4 h=
 (K (.tuple #[x4,(.int .i64 (0))]) h):=az (by kernel_rfl)
theorem aBK:ajE P K l0 x4 h=
 (OP (bc l0) fun dE=>
 OP (ai .lss dE (.int .i64 (1))) fun eQ=>
 ajF P K l0 x4 eQ h):=az (by kernel_rfl)
def N0:Prop:=
 OP (bc l0) fun aA=>
 cJ [(.slice none 0 0),(.int .i64 (0))] h fun L1 xs hx=>
 ajJ P K l0 l0 aA L1 xs hx
theorem IA:aj P Hy (aS [.tmp 2,.tmp 3] K) (bG [l0]) h=N0 P K l0 h:=by kernel_rfl
theorem f43 {K:VK} {l0:Value} {h:ae} (H:N0 prog K l0 h):aq prog 43 [l0] h K:=
 bT k43 (bP rfl) ((IA prog K l0 h).mpr H)
end
noncomputable section
variable (j0 x1 j2 x4 x6 x7 x8 x9 d10 au cV gR : Value) (L1 : LQ) (xs : List Value) (h : ae)
def ahG:=bK prog 44 [[],[],[],[],[1,2,4,6,8,9],[7,10],[],[],[],[],[],[1,2,4,6,7,8,9,10,11,52],[1,2,4,6,7,8,9,10,11,52,56],[],[1,2,4,6,7,8,9,10],[4,6,7],[]]
@[irreducible] def HA:=bR ahG
@[irreducible] def HB:=HA.r.r.r.l.r.l.l
@[irreducible] def aaW:=HA.r.r.r.r
@[irreducible] def aaV:=HB.r.l.l.r.r.r.l.r.l
@[irreducible] def as0:=HB.r.l.l.r.r.r.r
@[irreducible] def aaU:=HB.r.r
@[irreducible] def as3:=aaW.l
@[irreducible] def as1:=aaV.r.l
@[irreducible] def as2:=aaU.l
theorem k44:ahG=some (62,HA,[.cell true 4 4,.tmp 5]):=by kernel_rfl
def MM (_P:Program) (K:VK):ar:=aS [.cell true 4 4,.tmp 5] K
def apE:ar:=aF (aj P aaW (MM P K)) (MM P K)
def apF:ar:=bI 0 (apE P K)
def GA:ar:=aF (fun f' aU=>(([1,2,4,6,8,9]:List Nat).map f':List Value)=[x1,j2,x4,x6,x8,x9]∧L1 (([7,10]:List Nat).map f') aU) (apF P K)
def apD:ar:=aF (aj P aaU (GA P K x1 j2 x4 x6 x8 x9 L1)) (GA P K x1 j2 x4 x6 x8 x9 L1)
def XV:ar:=bI 1 (apD P K x1 j2 x4 x6 x8 x9 L1)
def XW:ar:=aF (aj P as0 (XV P K x1 j2 x4 x6 x8 x9 L1)) (XV P K x1 j2 x4 x6 x8 x9 L1)
def T9:Prop:=ax (aj P HB (GA P K x1 j2 x4 x6 x8 x9 L1)) ([1,2,4,6,8,9]++[7,10]) ([x1,j2,x4,x6,x8,x9]++xs) h
def ajK:Prop:=ax (aj P aaV (XW P K x1 j2 x4 x6 x8 x9 L1)) [1,2,4,6,7,8,9,10,11,52] [x1,j2,x4,x6,x7,x8,x9,d10,au,cV] h
def Fx:Prop:=ax (aj P as1 (XW P K x1 j2 x4 x6 x8 x9 L1)) [1,2,4,6,7,8,9,10,11,52,56] [x1,j2,x4,x6,x7,x8,x9,d10,au,cV,gR] h
def KD:Prop:=ax (aj P as2 (GA P K x1 j2 x4 x6 x8 x9 L1)) [1,2,4,6,7,8,9,10] [x1,j2,x4,x6,x7,x8,x9,d10] h
def ajL:Prop:=ax (aj P as3 (MM P K)) [4,6,7] [x4,x6,x7] h
theorem alW:Fx P K x1 j2 x4 x6 x7 x8 x9 d10 au cV gR L1 h=
 (OP (ck cV (.bool true) gR) fun cQ=>
 aQ cQ
 (OP (af true 4 h au) fun cK=>
 OH (aK 4 h x6 cK) fun _ z1=>
 KD P K x1 j2 x4 x6 d10 x8 x9 d10 L1 z1)
 (KD P K x1 j2 x4 x6 x7 x8 x9 d10 L1 h)):=az (by kernel_rfl)
theorem aBR:ajK P K x1 j2 x4 x6 x7 x8 x9 d10 au cV L1 h=
 (cE cV false
 (OP (af true 4 h au) fun kh=>
 OP (af true 4 h x6) fun cM=>
 aq P 86 [kh,cM] h fun eR z1=>
 OP (ai .gtr eR (.int .i64 (0))) fun gR=>
 Fx P K x1 j2 x4 x6 x7 x8 x9 d10 au cV gR L1 z1)
 (Fx P K x1 j2 x4 x6 x7 x8 x9 d10 au cV undef L1 h)):=az (by kernel_rfl)
theorem aBS:KD P K x1 j2 x4 x6 x7 x8 x9 d10 L1 h=
 (OP (ai .add d10 (.int .i64 (1))) fun cX=>
 ([x1,j2,x4,x6,x8,x9]:List Value)=[x1,j2,x4,x6,x8,x9]∧L1 [x7,cX] h):=az (by kernel_rfl)
theorem aBU (x1 j2 x4 x6 x8 x9:Value) (L1:LQ) (x7 d10:Value) (h:ae):T9 P K x1 j2 x4 x6 x8 x9 L1 [x7,d10] h=
 (OP (aJ 0 j2) fun bM=>
 OP (aJ 0 bM) fun bU=>
 OP (af false 1 h bU) fun aO=>
 OP (ai .sub aO x1) fun aZ=>
 OP (ai .leq d10 aZ) fun bf=>
 aQ bf
 (OP (af true 4 h x8) fun bD=>
 (True)∧
 OP (aJ 2 j2) fun bV=>
 OP (af false 1 h bV) fun cF=>
 (True)∧
 OP (ai .add x1 d10) fun bN=>
 OP (ai .sub bN (.int .i64 (1))) fun dD=>
 OP (aY 4 cF dD) fun cG=>
 OP (af true 4 h cG) fun bk=>
 (True)∧
 aq P 87 [bD,bk] h fun br z1=>
 (True)∧
 OH (aK 4 z1 x8 br) fun _ z2=>
 (True)∧
 OP (af true 4 z2 x9) fun bE=>
 (True)∧
 OP (af true 3 z2 j2) fun de=>
 (True)∧
 OP (ai .add x1 d10) fun dF=>
 OP (ai .sub dF (.int .i64 (1))) fun eI=>
 aq P 85 [de,eI] z2 fun ee z3=>
 (af true 4 z3 x9=some bE∧True)∧
 aq P 87 [bE,ee] z3 fun dG z4=>
 (True)∧
 OH (aK 4 z4 x9 dG) fun _ z5=>
 (True)∧
 OH (ba 107 [(.bool false),(.slice none 0 0),(.bool false),(.slice none 0 0)] z5) fun au z6=>
 OP (er z6 au) fun u=>
 (True)∧
 OP (aJ 0 j2) fun ef=>
 OP (aJ 1 ef) fun bO=>
 OP (af false 1 z6 bO) fun bp=>
 (af false 1 z5 bO=some bp∧True)∧
 aq P 75 [bp] z6 fun cH z7=>
 (er z7 au=some u∧True)∧
 OP (af true 4 z7 x8) fun dU=>
 (af true 4 z5 x8=some dU∧af true 4 z6 x8=some dU∧True)∧
 aq P 88 [cH,dU] z7 fun mP z8=>
 (er z8 au=some u∧True)∧
 OP (af true 4 z8 x9) fun fz=>
 (af true 4 z5 x9=some fz∧af true 4 z6 x9=some fz∧af true 4 z7 x9=some fz∧True)∧
 aq P 77 [mP,fz] z8 fun fQ z9=>
 (er z9 au=some u∧True)∧
 OH (aK 4 z9 au fQ) fun _ nv=>
 (True)∧
 OP (ai .eql x7 (.int .i64 (0))) fun cd=>
 ajK P K x1 j2 x4 x6 x7 x8 x9 d10 au cd L1 nv)
 (ajL P K x4 x6 x7 h)):=az (by kernel_rfl)
theorem aBT:ajL P K x4 x6 x7 h=
 (OP (af true 4 h x6) fun jT=>
 OH (aK 4 h x4 jT) fun _ z1=>
 OP (af true 4 z1 x4) fun r0=>
 K (.tuple #[r0,x7]) z1):=az (by kernel_rfl)
def N1:Prop:=
 OH (bC 102 h j0) fun j2 z1=>
 OH (ba 107 [(.bool false),(.slice none 0 0),(.bool false),(.slice none 0 0)] z1) fun x4 z2=>
 aq P 75 [(.int .i64 (0))] z2 fun aA z3=>
 OH (ba 107 [(.bool false),(.slice none 0 0),(.bool false),(.slice none 0 0)] z3) fun x6 z4=>
 OH (aK 4 z4 x6 aA) fun _ z5=>
 aq P 75 [(.int .i64 (0))] z5 fun aD z6=>
 aq P 75 [(.int .i64 (0))] z6 fun aL z7=>
 OH (ba 107 [(.bool false),(.slice none 0 0),(.bool false),(.slice none 0 0)] z7) fun x8 z8=>
 OH (ba 107 [(.bool false),(.slice none 0 0),(.bool false),(.slice none 0 0)] z8) fun x9 z9=>
 OH (aK 4 z9 x8 aD) fun _ nv=>
 OH (aK 4 nv x9 aL) fun _ ry=>
 cJ [(.int .i64 (0)),(.int .i64 (1))] ry fun L1 xs hx=>
 T9 P K x1 j2 x4 x6 x8 x9 L1 xs hx
theorem e44:aj P HA (aS [.cell true 4 4,.tmp 5] K) (bG [j0,x1]) h=N1 P K j0 x1 h:=by kernel_rfl
theorem f44 {K:VK} {j0 x1:Value} {h:ae} (H:N1 prog K j0 x1 h):aq prog 44 [j0,x1] h K:=
 bT k44 (bP rfl) ((e44 prog K j0 x1 h).mpr H)
end
end
section
def sH (h:ae) (v:Value) (cs:List (List (List UInt8)×Int)):Prop:=
 ∃rows,RS h 24 2 v rows∧rows.length=cs.length∧∀(k:Nat) (row:List Value) (c:List (List UInt8)×Int),rows[k]?=some row→cs[k]?=some c→∃vs,row=[vs,I c.2]∧SS h vs c.1
theorem sH.mono {h h':ae} {v:Value} {cs:List (List (List UInt8)×Int)} (x:EX h h') (p:sH h v cs):sH h' v cs:=
 let ⟨rows,a,b,c⟩:=p;⟨rows,a.mono x,b,fun k row q h1 h2=>let ⟨vq,e,m⟩:=c k row q h1 h2;⟨vq,e,m.mono x⟩⟩
theorem sH.len {h:ae} {v:Value} {cs:List (List (List UInt8)×Int)} (p:sH h v cs):bc v=some (I cs.length):=by
 obtain ⟨rows,a,b,_⟩:=p;rw [←b];exact a.len
theorem sH.get {h:ae} {v:Value} {cs:List (List (List UInt8)×Int)} (p:sH h v cs) {k:Nat} (hk:k<cs.length):∃i o vs,aY 2 v (I k)=some (pt i o)∧af true 2 h (pt i o)=some (.agg #[vs,I cs[k].2])∧SS h vs cs[k].1:=by
 obtain ⟨rows,a,b,c⟩:=p
 have cW:k<rows.length:=by omega
 obtain ⟨i,o,cells,g1,g2,g3,g4⟩:=a.get cW
 obtain ⟨vq,e,m⟩:=c k _ _ (getElem?_eq_getElem cW) (getElem?_eq_getElem hk)
 have:=Vt g2 g3 g4
 rw [e] at this
 exact ⟨i,o,vq,g1,this,m⟩
def Cy (qs:List Rat):Bool:=decide ((qs.getD (qs.length-1) 0).num=0)
def dV (qs:List Rat) (w:Int):Bool:=(((decide (1≤qs.length)&&decide (qs.length≤8))&&(decide (0≤w)&&decide (w≤50)))&& !Cy qs)&&(!qs.any mX&&decide (dX qs=1))
theorem zw {qs:List Rat} (h:qs.any mX=false):∀q∈qs,cD 4 q:=by
 intro q hq
 have:mX q=false:=by
  cases e:mX q with
  | false=>rfl
  | true=>rw [List.any_eq_true.2 ⟨q,hq,e⟩] at h;cases h
 unfold mX IN at this
 rw [Bool.or_eq_false_iff,Bool.not_eq_false',and_eq_true,decide_eq_true_eq,decide_eq_true_eq] at this
 exact this.2
theorem aix:cD 1 ((1:Int):Rat):=by constructor <;> decide
theorem auP (p q:Rat):decide (uv p q=0)=decide (p=q):=by
 rw [decide_eq_decide]
 unfold uv
 constructor
 ·intro h
  split at h
  ·assumption
  ·split at h <;> omega
 ·intro h;rw [if_pos h]
section
variable {h : ae} {K : Value → ae → Prop}
theorem anY {v0 v:Value} {cs:List (List Rat×Int)} (hv:LK h v cs) (hn:cs.length≤3) (hs:∀c∈cs,(∀q∈c.1,cD yw q)∧c.1.length≤1000)
  (nc:cs.all (fun c=>dV c.1 c.2)=false→∀h',EX h h'→K (.tuple #[.slice none 0 0,I 1]) h')
  (hk:cs.all (fun c=>dV c.1 c.2)=true→∀h',EX h h'→K (.tuple #[v0,I 0]) h'):
  cJ [(.int .i64 (0))] h fun L1 xs hx=>TY prog K v0 v (I cs.length) L1 xs hx:=by
 refine dL (σ:=Nat×ae) (fun q=>[I q.1]) (fun q=>q.2) (fun q=>q.1≤cs.length∧EX h q.2∧(cs.take q.1).all (fun c=>dV c.1 c.2)=true) (fun q=>cs.length-q.1) (0,h) rfl rfl ⟨zero_le _,EX.refl _,by simp⟩ ?_
 rintro ⟨i,g⟩ ⟨hi,xg,fh⟩ L hL
 simp only at hi xg fh hL⊢
 rw [aBM]
 simp only [cN,ah,cj]
 refine ⟨fun aB=>?_,fun cL=>?_⟩
 rotate_left
 ·have fW:i=cs.length:=by omega
  subst fW
  rw [take_length] at fh
  rw [aBP]
  exact hk fh g xg
 have b6:i<cs.length:=by omega
 obtain ⟨b,o,vq,u1,u2,u3⟩:=(hv.mono xg).get b6
 obtain ⟨sq,sl⟩:=hs _ (getElem_mem b6)
 have nok:dV cs[i].1 cs[i].2=false→cs.all (fun c=>dV c.1 c.2)=false:=by
  intro hb
  cases e:cs.all (fun c=>dV c.1 c.2) with
  | false=>rfl
  | true=>rw [List.all_eq_true] at e;rw [e _ (getElem_mem b6)] at hb;cases hb
 have yok:dV cs[i].1 cs[i].2=true→(cs.take (i+1)).all (fun c=>dV c.1 c.2)=true:=by
  intro hb
  rw [take_succ_eq_append_getElem b6,List.all_append,fh]
  simpa using hb
 generalize cs[i].1=qs at*
 generalize cs[i].2=w at*
 obtain ⟨rq,rs,_,_⟩:=id u3.1
 obtain ⟨t1,t2⟩:=rs.one
 have e7:ba 102 [(.int .i64 (0)),(.int .i64 (0)),(.slice none 0 0)] g=some (pt g.length 0,g++[.arr 102 [I 0,I 0,.slice none 0 0]]):=rfl
 simp only [u1,u2,ah,e7,aE]
 have y1:EX g (g++[.arr 102 [I 0,I 0,.slice none 0 0]]):=EX.append _ _
 have j1:(g++[ak.arr 102 [I 0,I 0,.slice none 0 0]])[g.length]?=some (.arr 102 [I 0,I 0,.slice none 0 0]):=bZ
 generalize g++[ak.arr 102 [I 0,I 0,.slice none 0 0]]=ga at y1 j1⊢
 have st:aK 3 ga (pt g.length 0) (.agg #[I qs.length,I w,vq])=some (undef,ga.set g.length (.arr 102 [I qs.length,I w,vq])):=by
  simp [aK,qU,j1,fP,cR,Value.cells,setAt]
 simp only [st,aE]
 have y2:EX g (ga.set g.length (.arr 102 [I qs.length,I w,vq])):=y1.set (le_refl _) _
 have j2:(ga.set g.length (.arr 102 [I qs.length,I w,vq]))[g.length]?=some (.arr 102 [I qs.length,I w,vq]):=cU j1
 generalize ga.set g.length (.arr 102 [I qs.length,I w,vq])=gb at y2 j2⊢
 have xb:=xg.trans y2
 have l0:∀{g':ae},EX gb g'→af false 1 g' (pt g.length 0)=some (I qs.length):=fun x=>by simp [af,aR,x.get j2,cm]
 have l1:∀{g':ae},EX gb g'→af false 1 g' (pt g.length 1)=some (I w):=fun x=>by simp [af,aR,x.get j2,cm]
 have l2:∀{g':ae},EX gb g'→af false 1 g' (pt g.length 2)=some vq:=fun x=>by simp [af,aR,x.get j2,cm]
 have la:∀{g':ae},EX gb g'→af true 3 g' (pt g.length 0)=some (.agg #[I qs.length,I w,vq]):=fun x=>by simp [af,aR,x.get j2,cm]
 have qL:∀{g':ae},EX gb g'→QL g' vq qs:=fun x=>u3.1.mono (y2.trans x)
 -- it dA not be
 have bad:∀{g':ae},EX gb g'→dV qs w=false→K (.tuple #[.slice none 0 0,.int .i64 (1)]) g':=fun x hb=>nc (nok hb) _ (xb.trans x)
 have Y9:∀{g':ae} (t u:Value),EX gb g'→dV qs w=false→ck t (.bool true) u=some (B true)→KC prog K v0 v (I cs.length) (I i) t u L g':=by
  intro g' t u x hb ht
  rw [alV,ht]
  simp only [ah,dM]
  exact bad x hb
 have Y8:∀{g':ae} (t u:Value),EX gb g'→dV qs w=false→ck t (.bool true) u=some (B true)→KB prog K v0 (pt g.length 0) v (I cs.length) (I i) t u L g':=by
  intro g' t u x hb ht
  rw [alU,ht]
  simp only [ah,dM]
  exact bad x hb
 have Y7:∀{g':ae},EX gb g'→dV qs w=false→T8 prog K v0 (pt g.length 0) v (I cs.length) (I i) (B true) L g':=by
  intro g' x hb
  rw [alT]
  simp only [fT]
  exact Y8 _ _ x hb rfl
 have Y6:∀{g':ae},EX gb g'→dV qs w=false→T6 prog K v0 (pt g.length 0) v (I cs.length) (I i) (B true) L g':=by
  intro g' x hb
  rw [alR]
  simp only [fT]
  rw [alS]
  simp only [dZ,ah]
  exact Y7 x hb
 have Y5:∀{g':ae},EX gb g'→dV qs w=false→T2 prog K v0 (pt g.length 0) v (I cs.length) (I i) (B true) L g':=by
  intro g' x hb
  rw [alP]
  simp only [fT]
  rw [alQ]
  simp only [dZ,ah]
  exact Y6 x hb
 simp only [b9,add_zero,ah,l0 (EX.refl gb),cN]
 rw [aBN]
 by_cases h1:1≤qs.length
 rotate_left
 ·have hb:dV qs w=false:=by unfold dV;rw [aT h1];rfl
  rw [aW (show (qs.length:Int)<1 by omega)]
  simp only [fT]
  rw [alO]
  simp only [dZ,ah]
  exact Y5 (EX.refl gb) hb
 rw [aT (show ¬(qs.length:Int)<1 by omega)]
 simp only [eJ,b9,add_zero,ah,l0 (EX.refl gb),gj]
 rw [alO]
 simp only [c8,ah]
 by_cases h8:qs.length≤8
 rotate_left
 ·have hb:dV qs w=false:=by unfold dV;rw [aT h8];simp
  rw [aW (show (8:Int)<(qs.length:Int) by omega)]
  exact Y5 (EX.refl gb) hb
 rw [aT (show ¬(8:Int)<(qs.length:Int) by omega),alP]
 simp only [eJ,b9,add_zero,zero_add,ah,l1 (EX.refl gb),cN]
 rw [alQ]
 simp only [c8,ah]
 by_cases w0:0≤w
 rotate_left
 ·have hb:dV qs w=false:=by unfold dV;rw [aT w0];simp
  rw [aW (show w<0 by omega)]
  exact Y6 (EX.refl gb) hb
 rw [aT (show ¬w<0 by omega),alR]
 simp only [eJ,b9,add_zero,zero_add,ah,l1 (EX.refl gb),gj]
 rw [alS]
 simp only [c8,ah]
 by_cases nR:w≤50
 rotate_left
 ·have hb:dV qs w=false:=by unfold dV;rw [aT nR];simp
  rw [aW (show 50<w by omega)]
  exact Y7 (EX.refl gb) hb
 rw [aT (show ¬50<w by omega),alT]
 have w1:IntKind.wrap .i64 ((qs.length:Int)-1)=((qs.length-1:Nat):Int):=by rw [wrap64 (by omega) (by omega)];omega
 obtain ⟨b5,o5,r5,s1,s2,s3⟩:=(qL (EX.refl gb)).get (k:=qs.length-1) (by omega)
 simp only [eJ,b9,add_zero,zero_add,ah,l2 (EX.refl gb),l0 (EX.refl gb),gU,w1,s1,s2]
 refine W8 s3 ?_
 intro g1 x1
 have hz:decide (EZ (qs[qs.length-1]'(by omega)).num=0)=Cy qs:=by
  unfold Cy
  rw [getD_eq_getElem?_getD,getElem?_eq_getElem (by omega),getD_some,decide_eq_decide]
  unfold EZ
  split
  ·simp [*]
  ·split <;> simp [*]
 simp only [jo,ah,hz]
 cases hlz:Cy qs with
 | true=>
  have hb:dV qs w=false:=by unfold dV;rw [hlz];simp
  exact Y8 _ _ x1 hb rfl
 | false=>
 rw [alU]
 simp only [c8,ah,dP,b9,zero_add,l2 x1]
 refine C82 (qL x1) sq sl ?_
 intro g2 x2
 have aA:=x1.trans x2
 rw [aBO]
 cases gn:qs.any mX with
 | true=>
  have hb:dV qs w=false:=by unfold dV;rw [gn];simp
  simp only [fT]
  exact Y9 _ _ aA hb rfl
 | false=>
 simp only [eJ,la aA,ah]
 have s4:=zw gn
 refine Mi (age:=0) (qL aA) (zero_le _) s4 (by omega) ?_
 intro r3 g3 x3 Ck
 rw [List.drop_zero] at Ck
 have ssz:=CS s4 qs.length (le_refl _)
 rw [take_length] at ssz
 refine ue (n:=1) (by decide) (by decide) ?_
 intro r4 g4 x4 wC
 refine Mj (Ck.mono x4) wC ssz aix (by omega) ?_
 intro g5 x5
 have bj:=aA.trans (x3.trans (x4.trans x5))
 have hc:(!decide (uv (dX qs) ((1:Int):Rat)=0))= !decide (dX qs=1):=by rw [auP];rfl
 simp only [qo,ah,hc]
 have aC:dV qs w=decide (dX qs=1):=by
  unfold dV
  rw [aW h1,aW h8,aW w0,aW nR,hlz,gn];simp
 by_cases je:dX qs=1
 ·rw [aW je] at aC⊢
  rw [alV]
  simp only [Bool.not_true,c8,ah,dP,cA,fk i (by omega),true_and]
  exact hL (i+1,g5) ⟨by show i+1≤_;omega,xb.trans bj,yok aC⟩ (by show cs.length-(i+1)<cs.length-i;omega)
 ·rw [aT je] at aC⊢
  exact Y9 _ _ bj aC rfl
end
end
section
def mL (cs:List (List (List UInt8)×Int)):List (List Rat×Int):=cs.map fun c=>(c.1.map j7,c.2)
def pJ (cs:List (List (List UInt8)×Int)):Bool:=cs.all fun c=>c.1.all isNum
def rE (cs:List (List (List UInt8)×Int)):Bool:=(decide (1≤cs.length)&&decide (cs.length≤3))&&(mL cs).all fun c=>dV c.1 c.2
section
variable {h : ae} {K : Value → ae → Prop}
theorem W3 {v:Value} {cs:List (List (List UInt8)×Int)} (hv:sH h v cs) (hl:∀c∈cs,c.1.length≤1000∧∀s∈c.1,s.length≤700) (hn:cs.length≤1000)
  (tg:pJ cs=false→∀h',EX h h'→K (.tuple #[.slice none 0 0,I 2]) h')
  (nc:pJ cs=true→rE cs=false→∀h',EX h h'→K (.tuple #[.slice none 0 0,I 1]) h')
  (hk:pJ cs=true→rE cs=true→∀v' h',EX h h'→LK h' v' (mL cs)→K (.tuple #[v',I 0]) h'):aq prog 43 [v] h K:=by
 refine f43 ?_
 unfold N0
 have hlen:=hv.len
 simp only [hlen,ah]
 refine dL (σ:=Nat×Value×ae) (fun q=>[q.2.1,I q.1]) (fun q=>q.2.2) (fun q=>q.1≤cs.length∧EX h q.2.2∧pJ (cs.take q.1)=true∧qk h.length q.2.2 q.2.1 (mL (cs.take q.1))) (fun q=>cs.length-q.1)
  (0,.slice none 0 0,h) rfl rfl ⟨zero_le _,EX.refl _,by simp [pJ],by simpa [mL] using qk.start h.length h⟩ ?_
 rintro ⟨i,vo,g⟩ ⟨hi,xg,rP,own⟩ L hL
 simp only at hi xg rP own hL⊢
 rw [aBQ]
 simp only [cN,ah,cj]
 refine ⟨fun aB=>?_,fun cL=>?_⟩
 ·have b6:i<cs.length:=by omega
  obtain ⟨b,o,vs,u1,u2,u3⟩:=(hv.mono xg).get b6
  obtain ⟨l1,l2⟩:=hl _ (getElem_mem b6)
  have e7:ba 24 [(.slice none 0 0),(.int .i64 (0))] g=some (pt g.length 0,g++[.arr 24 [.slice none 0 0,I 0]]):=rfl
  simp only [u1,u2,ah,e7,aE]
  have y1:EX g (g++[.arr 24 [.slice none 0 0,I 0]]):=EX.append _ _
  have j1:(g++[ak.arr 24 [.slice none 0 0,I 0]])[g.length]?=some (.arr 24 [.slice none 0 0,I 0]):=bZ
  generalize g++[ak.arr 24 [.slice none 0 0,I 0]]=ga at y1 j1⊢
  rw [gP j1]
  simp only [aE]
  have y2:EX g (ga.set g.length (.arr 24 [vs,I cs[i].2])):=y1.set (le_refl _) _
  have j2:(ga.set g.length (.arr 24 [vs,I cs[i].2]))[g.length]?=some (.arr 24 [vs,I cs[i].2]):=cU j1
  generalize ga.set g.length (.arr 24 [vs,I cs[i].2])=gb at y2 j2⊢
  rw [dC j2,ah]
  refine C80 (u3.mono y2) l2 l1 (fun fh vq g1 bq x1 ho=>?_) (fun dB g1 x1=>?_)
  ·have hq:=ho.qb
   have hlq:=hq.1.len
   obtain ⟨rq,rs,_,_⟩:=id hq.1
   have qX:af false 1 g1 (pt g.length 1)=some (I cs[i].2):=by simp [af,aR,x1.get j2,cm]
   have bl:∀a c:Int,dW [(.int .i64 (0)),(.int .i64 (0))] [(0,1,I a),(1,1,I c)]=some (.agg #[I a,I c]):=fun _ _=>rfl
   have bl2:∀a c:Int,dW [(.int .i64 (0)),(.int .i64 (0)),(.slice none 0 0)] [(0,2,.agg #[I a,I c]),(2,1,vq)]=some (.agg #[I a,I c,vq]):=fun a c=>by
    rcases rs.2 with ⟨e,_⟩ | ⟨i,o,e,_⟩ <;> rw [e] <;> rfl
   simp only [eL,fx,fF,ah,oI,Bool.not_true,dP,hlq,b9,zero_add,qX,bl,bl2]
   have x2:=y2.trans x1
   refine (own.ex x2).app (xg.trans x2) hq rfl (by unfold mL;rw [length_map,length_take];omega) ?_
   intro v' g3 x3 _ Tm
   simp only [cA,ah,fk i (by omega),true_and]
   refine hL (i+1,v',g3) ⟨by show i+1≤_;omega,x3,?_,?_⟩ (by show cs.length-(i+1)<cs.length-i;omega)
   ·show pJ (cs.take (i+1))=true
    unfold pJ at rP⊢
    rw [take_succ_eq_append_getElem b6,List.all_append,rP]
    simpa using fh
   ·show qk h.length g3 v' (mL (cs.take (i+1)))
    rw [take_succ_eq_append_getElem b6]
    have e:mL (cs.take i++[cs[i]])=mL (cs.take i)++[(cs[i].1.map j7,cs[i].2)]:=by unfold mL;rw [List.map_append];rfl
    rw [e]
    exact Tm
  ·simp only [eL,fx,fF,ah,oI,Bool.not_false,dM]
   refine tg ?_ _ (xg.trans (y2.trans x1))
   cases he:pJ cs with
   | false=>rfl
   | true=>
    unfold pJ at he
    rw [List.all_eq_true] at he
    rw [he _ (getElem_mem b6)] at dB
    cases dB
 ·have fW:i=cs.length:=by omega
  subst fW
  rw [take_length] at rP own
  have nc:=nc rP
  have hk:=hk rP
  have lk:=own.lk
  have jl:(mL cs).length=cs.length:=by simp [mL]
  have llk:=lk.len
  rw [jl] at llk
  unfold rE at nc hk
  rw [aBK]
  simp only [hlen,ah,cN]
  rw [aBL]
  by_cases h1:1≤cs.length
  rotate_left
  ·rw [aT h1] at nc
   rw [aW (show (cs.length:Int)<1 by omega)]
   simp only [fT]
   rw [alN]
   simp only [dZ,ah,dM]
   exact nc rfl g xg
  rw [aW h1] at nc hk
  rw [aT (show ¬(cs.length:Int)<1 by omega)]
  simp only [eJ,hlen,ah,gj]
  rw [alN]
  simp only [c8,ah]
  by_cases h3:cs.length≤3
  rotate_left
  ·rw [aT h3] at nc
   rw [aW (show (3:Int)<(cs.length:Int) by omega)]
   simp only [dM]
   exact nc rfl g xg
  rw [aW h3] at nc hk
  rw [aT (show ¬(3:Int)<(cs.length:Int) by omega)]
  simp only [dP,llk,ah]
  rw [←jl]
  refine anY lk (by omega) (fun c hc=>?_) (fun ha h' x=>nc (by rw [ha];rfl) h' (xg.trans x)) (fun ha h' x=>hk (by rw [ha];rfl) vo h' (xg.trans x) (lk.mono x))
  obtain ⟨d,hd,rfl⟩:=mem_map.1 hc
  obtain ⟨l1,l2⟩:=hl d hd
  refine ⟨fun q hq=>?_,by simpa using l1⟩
  obtain ⟨s,hs,rfl⟩:=mem_map.1 hq
  exact aDB (l2 s hs)
end
end
section
def Cell (g:ae) (i:Nat) (q:Rat):Prop:=∃a b c d,g[i]?=some (.arr 107 [B a,b,B c,d])∧RV g (.agg #[B a,b,B c,d]) q
theorem Cell.mono {g g':ae} {i:Nat} {q:Rat} (x:EX g g') (p:Cell g i q):Cell g' i q:=let ⟨a,b,c,d,e,r⟩:=p;⟨a,b,c,d,x.get e,r.mono x⟩
theorem Cell.lt {g:ae} {i:Nat} {q:Rat} (p:Cell g i q):i<g.length:=let ⟨_,_,_,_,e,_⟩:=p;(bL e).1
theorem Cell.load {g:ae} {i:Nat} {q:Rat} (p:Cell g i q):∃v,af true 4 g (pt i 0)=some v∧RV g v q:=let ⟨_,_,_,_,e,r⟩:=p;⟨_,jh e,r⟩
structure yW (g g':ae) (i:Nat) (q:Rat):Prop where
 cell:Cell g' i q
 len:g'.length=g.length
 old:∀j,j≠i→g'[j]?=g[j]?
 val:∀{v:Value} {p:Rat},RV g v p→RV g' v p
theorem acD {g:ae} {i:Nat} {v:Value} {q:Rat} {s:Bool} {b c d:Value} (hg:g[i]?=some (.arr 107 [.bool s,b,c,d])) (hv:RV g v q):∃g',aK 4 g (pt i 0) v=some (undef,g')∧yW g g' i q:=by
 obtain ⟨a',b',c',d',rfl⟩:=hv.agg
 refine ⟨_,rj hg,⟨⟨a',b',c',d',cU hg,hv.bS hg _⟩,by simp,fun j hj=>getElem?_set_ne (fun h=>hj h.symm),fun h=>h.bS hg _⟩⟩
theorem yW.ex {h0 g g':ae} {i:Nat} {q:Rat} (s:yW g g' i q) (x:EX h0 g) (hi:h0.length≤i):EX h0 g':=
 ⟨by rw [s.len];exact x.1,fun j hj=>by rw [s.old j (by omega)];exact x.2 j hj⟩
theorem yW.dR {g g':ae} {i j:Nat} {q p:Rat} (s:yW g g' i q) (hj:j≠i) (c:Cell g j p):Cell g' j p:=
 let ⟨a,b,e,d,k,r⟩:=c;⟨a,b,e,d,by rw [s.old j hj];exact k,s.val r⟩
structure M9 where
 a9:Rat
 iI:Nat
 done:Rat
 lK:Rat
def cg (qs:List Rat) (w:Int) (age:Nat):Nat→M9
 | 0=>⟨0,0,0,0⟩
 | d+1=>
  let s:=cg qs w age d
  let done:=s.done+qs.getD (age+d) 0
  let lK:=s.lK+dX (qs.drop (age+d))
  let x:=(w:Rat)*done / lK
  if s.iI=0∨s.a9<x then ⟨x,d+1,done,lK⟩ else ⟨s.a9,s.iI,done,lK⟩
theorem xd (qs:List Rat) (w:Int) (age d:Nat):(cg qs w age (d+1)).done=(cg qs w age d).done+qs.getD (age+d) 0∧(cg qs w age (d+1)).lK=(cg qs w age d).lK+dX (qs.drop (age+d)):=by
 simp only [cg]
 split <;> exact ⟨rfl,rfl⟩
theorem Fk {q:Rat}:0<q↔0<q.num:=by
 rw [Rat.lt_iff]
 simp
theorem agO {q:Rat}:0≤q↔0≤q.num:=by
 rw [Rat.le_iff]
 simp
theorem VV {l:List Rat} (h:∀q∈l,0≤q):∀i,i≤l.length→0≤dX (l.take i)
 | 0,_=>by rw [List.take_zero];exact Rat.le_refl
 | i+1,hi=>by
  rw [LC (by omega)]
  exact Rat.add_nonneg (VV h i (by omega)) (h _ (getElem_mem _))
theorem qt {qs:List Rat} {w:Int} (h:dV qs w=true):(1≤qs.length∧qs.length≤8)∧(0≤w∧w≤50)∧qs.any mX=false∧dX qs=1∧(∀q∈qs,0≤q)∧∀h0:0<qs.length,0<qs[qs.length-1]:=by
 unfold dV at h
 simp only [and_eq_true,decide_eq_true_eq,Bool.not_eq_true'] at h
 obtain ⟨⟨⟨a,b⟩,c⟩,d,e⟩:=h
 have nn:∀q∈qs,0≤q:=by
  intro q hq
  have:mX q=false:=by
   cases e:mX q with
   | false=>rfl
   | true=>rw [List.any_eq_true.2 ⟨q,hq,e⟩] at d;cases d
  unfold mX at this
  rw [Bool.or_eq_false_iff,decide_eq_false_iff_not] at this
  rw [agO];omega
 refine ⟨a,b,d,e,nn,fun h0=>?_⟩
 have h1:=nn _ (getElem_mem (l:=qs) (n:=qs.length-1) (by omega))
 rw [agO] at h1
 rw [Fk]
 unfold Cy at c
 rw [getD_eq_getElem?_getD,getElem?_eq_getElem (by omega),getD_some,decide_eq_false_iff_not] at c
 omega
theorem Iy {qs:List Rat} {w:Int} (h:dV qs w=true) {k:Nat} (hk:k<qs.length):0<dX (qs.drop k):=by
 obtain ⟨_,_,_,_,nn,last⟩:=qt h
 have hl:=last (by omega)
 have hn:∀q∈qs.drop k,0≤q:=fun q hq=>nn q (mem_of_mem_drop hq)
 have e:(qs.drop k).take ((qs.drop k).length-1+1)=qs.drop k:=List.take_of_length_le (by omega)
 have qD:(qs.drop k).length=qs.length-k:=length_drop
 have h1:=VV hn ((qs.drop k).length-1) (by omega)
 rw [←e,LC (by omega)]
 have e2:(qs.drop k)[(qs.drop k).length-1]'(by omega)=qs[qs.length-1]'(by omega):=by
  rw [List.getElem_drop]
  congr 1
  omega
 rw [e2]
 generalize dX ((qs.drop k).take ((qs.drop k).length-1))=a at*
 generalize qs[qs.length-1]'(by omega)=b at*
 grind
theorem LV {qs:List Rat} {w:Int} (h:dV qs w=true) {age:Nat}:∀{d:Nat},age+d≤qs.length→0≤(cg qs w age d).lK∧(0<d→0<(cg qs w age d).lK)
 | 0,_=>⟨Rat.le_refl,fun h=>absurd h (by decide)⟩
 | d+1,hd=>by
  have ih:=(LV (age:=age) (d:=d) h (by omega)).1
  have hp:=Iy h (k:=age+d) (by omega)
  rw [(xd qs w age d).2]
  generalize (cg qs w age d).lK=a at*
  generalize dX (qs.drop (age+d))=b at*
  refine ⟨by grind,fun _=>by grind⟩
theorem Lv {qs:List Rat} {w:Int} (h:dV qs w=true) {age:Nat}:∀{d:Nat},age+d≤qs.length→cD (5*d+1) (cg qs w age d).done∧cD (42*d+1) (cg qs w age d).lK
 | 0,_=>⟨cD.zero,cD.zero⟩
 | d+1,hd=>by
  obtain ⟨i1,i2⟩:=Lv (age:=age) (d:=d) h (by omega)
  obtain ⟨⟨_,l8⟩,_,hb,_⟩:=qt h
  have s4:=zw hb
  obtain ⟨e1,e2⟩:=xd qs w age d
  have hs:=CS (qs:=qs.drop (age+d)) (fun q hq=>s4 q (mem_of_mem_drop hq)) _ (le_refl _)
  rw [take_length,length_drop] at hs
  have hg:cD 4 (qs.getD (age+d) 0):=by
   rw [getD_eq_getElem?_getD,getElem?_eq_getElem (by omega),getD_some]
   exact s4 _ (getElem_mem _)
  rw [e1,e2]
  have j1:=i1.add hg
  have j2:=i2.add hs
  exact ⟨cD.le j1 (show 5*d+1+4+1≤5*(d+1)+1 by omega),cD.le j2 (show 42*d+1+(5*(qs.length-(age+d))+1)+1≤42*(d+1)+1 by omega)⟩
theorem LU {w:Int} (h0:0≤w) (h1:w≤50):cD 2 (w:Rat):=by
 refine ⟨?_,by show (1:Nat)<10^2;decide⟩
 show w.natAbs<10^2
 omega
def jR (qs:List Rat) (w:Int) (age d:Nat):Rat:=(w:Rat)*(cg qs w age (d+1)).done / (cg qs w age (d+1)).lK
theorem ang {qs:List Rat} {w:Int} (h:dV qs w=true) {age d:Nat} (hd:age+(d+1)≤qs.length):cD 380 (jR qs w age d):=by
 obtain ⟨⟨_,l8⟩,⟨w0,nR⟩,_⟩:=qt h
 obtain ⟨i1,i2⟩:=Lv (age:=age) (d:=d+1) h hd
 have hp:=(LV (age:=age) (d:=d+1) h hd).2 (by omega)
 rw [Fk] at hp
 have j1:=((LU w0 nR).mul i1).div i2 hp
 exact cD.le j1 (show 2+(5*(d+1)+1)+(42*(d+1)+1)≤380 by omega)
theorem VO {qs:List Rat} {w:Int} (h:dV qs w=true) {age:Nat}:∀{d:Nat},age+d≤qs.length→cD 380 (cg qs w age d).a9
 | 0,_=>cD.zero.le (by decide)
 | d+1,hd=>by
  have ih:=VO (age:=age) (d:=d) h (by omega)
  have ht:=ang (age:=age) (d:=d) h hd
  have e:(cg qs w age (d+1)).a9=jR qs w age d∨(cg qs w age (d+1)).a9=(cg qs w age d).a9:=by
   unfold jR
   rw [(xd qs w age d).1,(xd qs w age d).2]
   simp only [cg]
   split
   ·exact .inl rfl
   ·exact .inr rfl
  rcases e with e | e <;> rw [e] <;> assumption
end
section
def QU (h:ae) (v:Value) (q:Rat) (k:Nat):Prop:=∃a b:Int,QZ h v a b∧0<b∧(a:Rat)=q*(b:Rat)∧a.natAbs<10^k∧b.natAbs<10^k
def QV (h:ae) (v:Value) (q:Rat):Prop:=QZ h v q.num (q.den:Int)
theorem QU.mono {h h':ae} {v:Value} {q:Rat} {k:Nat} (x:EX h h') (p:QU h v q k):QU h' v q k:=let ⟨a,b,e,r⟩:=p;⟨a,b,e.mono x,r⟩
theorem QV.mono {h h':ae} {v:Value} {q:Rat} (x:EX h h') (p:QV h v q):QV h' v q:=QZ.mono x p
theorem QV.bS {h:ae} {v:Value} {q:Rat} {j:Nat} {e:TypeId} {s:Bool} {r:List Value} (p:QV h v q) (hj:h[j]?=some (.arr e (.bool s::r))) (o:ak):QV (h.set j o) v q:=QZ.bS p hj o
theorem azQ (q:Rat):(q.num:Rat)=q*(q.den:Rat):=by
 have h1:(q.den:Rat)≠0:=by
  intro h
  have:=q.den_pos
  have h2:(q.den:Rat)=((0:Nat):Rat):=by simpa using h
  have:=Rat.natCast_inj.1 h2
  omega
 have h2:=Rat.mkRat_self q
 rw [Rat.mkRat_eq_div,Rat.div_def] at h2
 have h3:q*(q.den:Rat)=(q.num:Rat)*((q.den:Rat)⁻¹*(q.den:Rat)):=by
  rw [←Rat.mul_assoc,h2]
 rw [h3,Rat.inv_mul_cancel _ h1,Rat.mul_one]
theorem QV.un {h:ae} {v:Value} {q:Rat} {k:Nat} (p:QV h v q) (s:cD k q):QU h v q k:=
 ⟨q.num,q.den,p,by have:=q.den_pos;omega,azQ q,s.1,by rw [natAbs_natCast];exact s.2⟩
theorem auJ {b:Int} (hb:0<b):(b:Rat)≠0:=by
 intro h
 have:b=0:=by exact_mod_cast h
 omega
theorem QU.mk {a b:Int} {q:Rat} (hb:0<b) (h:(a:Rat)=q*(b:Rat)):mkRat a b.toNat=q:=by
 rw [Rat.mkRat_eq_div]
 have kQ:=auJ hb
 obtain ⟨n,rfl⟩:∃n:Nat,b=(n:Int):=⟨b.toNat,by omega⟩
 have e:(((n:Int).toNat:Nat):Rat)=((n:Int):Rat):=by rw [Int.toNat_natCast];rfl
 rw [e,h,Rat.div_def,Rat.mul_assoc,Rat.mul_inv_cancel _ kQ,Rat.mul_one]
def Sx:Nat:=796
theorem aAo {k n:Nat} (h:k=4*n):(10:Nat)^k≤10000^n:=by
 subst h
 exact Nat.le_of_eq (Nat.pow_mul 10 4 n)
theorem aAn:(10:Nat)^Sx≤10000^199:=aAo (k:=Sx) (n:=199) rfl
theorem alk {k n:Nat} (hk:k≤796) (h:n<10^k):n<10000^199:=lt_of_lt_of_le h (Nat.le_trans (pow_le_pow_right (by decide) (show k≤Sx from hk)) aAn)
section
variable {va vb : Value} {p q : Rat} {i j : Nat} {h : ae} {K : Value → ae → Prop}
theorem W1 (ha:QU h va p i) (hi:i≤796) {s:List UInt8} (hk:∀h',EX h h'→K (B (decide (s=qe p.num (p.den:Int)))) h'):aq prog 16 [S s,va] h K:=by
 obtain ⟨a,b,qa,b0,ea,la,lb⟩:=ha
 refine anV qa b0 (alk hi la) (alk hi lb) ?_
 have e:=QU.mk b0 ea
 obtain ⟨e1,e2⟩:=AL (N:=a) (D:=b.toNat) (by omega)
 have eb:b.natAbs=b.toNat:=by omega
 rw [←e,e1,e2,Int.natCast_ediv,Int.toNat_of_nonneg (by omega),←eb] at hk
 exact hk
theorem anX {z:Int} (hz:z.natAbs<1000000000000000000) (hk:∀r h',EX h h'→QV h' r (z:Rat)→K r h'):aq prog 20 [I z] h K:=C20 hz hk
def pA (g:ae) (i:Nat) (q:Rat):Prop:=∃a b c d,g[i]?=some (.arr 37 [B a,b,B c,d])∧QV g (.agg #[B a,b,B c,d]) q
theorem pA.mono {g g':ae} {i:Nat} {q:Rat} (x:EX g g') (p:pA g i q):pA g' i q:=let ⟨a,b,c,d,e,r⟩:=p;⟨a,b,c,d,x.get e,r.mono x⟩
theorem pA.lt {g:ae} {i:Nat} {q:Rat} (p:pA g i q):i<g.length:=let ⟨_,_,_,_,e,_⟩:=p;(bL e).1
theorem pA.load {g:ae} {i:Nat} {q:Rat} (p:pA g i q):∃v,af true 4 g (pt i 0)=some v∧QV g v q:=let ⟨_,_,_,_,e,r⟩:=p;⟨_,jh e,r⟩
structure BB (g g':ae) (i:Nat) (q:Rat):Prop where
 cell:pA g' i q
 len:g'.length=g.length
 old:∀j,j≠i→g'[j]?=g[j]?
 val:∀{v:Value} {p:Rat},QV g v p→QV g' v p
theorem auK {g:ae} {i:Nat} {v:Value} {q:Rat} {s:Bool} {b c d:Value} (hg:g[i]?=some (.arr 37 [.bool s,b,c,d])) (hv:QV g v q):∃g',aK 4 g (pt i 0) v=some (undef,g')∧BB g g' i q:=by
 obtain ⟨u,w,rfl,hu,hw⟩:=id hv
 refine ⟨_,rj hg,⟨⟨_,_,_,_,cU hg,hv.bS hg _⟩,by simp,fun j hj=>getElem?_set_ne (fun h=>hj h.symm),fun h=>h.bS hg _⟩⟩
theorem pA.store {g:ae} {i:Nat} {v:Value} {p q:Rat} (hc:pA g i p) (hv:QV g v q):∃g',aK 4 g (pt i 0) v=some (undef,g')∧BB g g' i q:=by
 obtain ⟨a,b,c,d,hg,_⟩:=hc
 exact auK hg hv
theorem BB.ex {h0 g g':ae} {i:Nat} {q:Rat} (s:BB g g' i q) (x:EX h0 g) (hi:h0.length≤i):EX h0 g':=
 ⟨by rw [s.len];exact x.1,fun j hj=>by rw [s.old j (by omega)];exact x.2 j hj⟩
theorem BB.dR {g g':ae} {i j:Nat} {q p:Rat} (s:BB g g' i q) (hj:j≠i) (c:pA g j p):pA g' j p:=
 let ⟨a,b,e,d,k,r⟩:=c;⟨a,b,e,d,by rw [s.old j hj];exact k,s.val r⟩
end
end
section
end
section
theorem pA.num {g:ae} {i:Nat} {q:Rat} (p:pA g i q):∃u,af true 2 g (pt i 0)=some u∧ZV g u q.num:=by
 obtain ⟨a,b,c,d,e,u,w,e2,hu,hw⟩:=p
 refine ⟨_,lI e,u,?_,hu⟩
 injection e2 with e2
 have e3:=congrArg Array.toList e2
 simp only [List.cons.injEq] at e3
 rw [e3.1,e3.2.1]
section
variable {h : ae} {K : Value → ae → Prop}
end
end
section
def uD (cs:List (List (List UInt8)×Int)):Int:=if pJ cs=false then 2 else if rE cs=false then 1 else 0
section
variable {h : ae} {K : Value → ae → Prop}
end
end
section
def uT:Value→Bool
 | .string _=>true
 | _=>false
def TS (h:ae) (v:Value) (ls:List (List UInt8)):Prop:=(v=.slice none 0 0∧ls=[])∨∃e i,v=sl e i 0 ls.length∧(ls=[]∨aR h i=some (ls.map S))
theorem TS.ss {h:ae} {v:Value} {ls:List (List UInt8)} (p:TS h v ls):SS h v ls:=by
 rcases p with ⟨rfl,rfl⟩ | ⟨e,i,rfl,rfl | hc⟩
 ·exact ⟨rfl,fun k hk=>by simp at hk⟩
 ·exact ⟨rfl,fun k hk=>by simp at hk⟩
 ·exact SS.sl hc
theorem TS.dR {h h':ae} {v:Value} {ls:List (List UInt8)} (x:KP uT h h') (p:TS h v ls):TS h' v ls:=by
 rcases p with p | ⟨e,i,rfl,hc⟩
 ·exact .inl p
 ·refine .inr ⟨e,i,rfl,?_⟩
  rcases hc with hc | hc
  ·exact .inl hc
  ·cases ls with
   | nil=>exact .inl rfl
   | cons s t=>right;exact x i _ _ hc rfl
theorem TS.one {h:ae} {v:Value} {ls:List (List UInt8)} (p:TS h v ls):fP v=true∧cR v=[v]∧gN v=true:=by
 rcases p with ⟨rfl,_⟩ | ⟨e,i,rfl,_⟩ <;> exact ⟨rfl,rfl,rfl⟩
def jk (b:Nat) (h:ae) (v:Value) (cs:List (List (List UInt8)×Int)):Prop:=
 ∃rows,gh b h 24 2 v rows∧rows.length=cs.length∧∀(k:Nat) (row:List Value) (c:List (List UInt8)×Int),rows[k]?=some row→cs[k]?=some c→∃vs,row=[vs,I c.2]∧TS h vs c.1
theorem jk.start (b:Nat) (h:ae):jk b h (.slice none 0 0) []:=⟨[],gh.start ..,rfl,fun k r q h=>by simp at h⟩
theorem jk.chl {b:Nat} {h:ae} {v:Value} {cs:List (List (List UInt8)×Int)} (o:jk b h v cs):sH h v cs:=
 let ⟨rows,a,c,d⟩:=o;⟨rows,a.rs,c,fun k row q h1 h2=>let ⟨vs,e,m⟩:=d k row q h1 h2;⟨vs,e,m.ss⟩⟩
theorem jk.ex {b:Nat} {h h':ae} {v:Value} {cs:List (List (List UInt8)×Int)} (x:EX h h') (o:jk b h v cs):jk b h' v cs:=
 let ⟨rows,a,c,d⟩:=o;⟨rows,a.ex x,c,fun k row q h1 h2=>let ⟨vq,e,m⟩:=d k row q h1 h2;⟨vq,e,m.dR (KP.ex x)⟩⟩
theorem jk.app {h0 h:ae} {v vs:Value} {ls:List (List UInt8)} {w:Int} {cs:List (List (List UInt8)×Int)} {zs:List Value} {K:Value→ae→Prop} (o:jk h0.length h v cs) (hex:EX h0 h) (hq:TS h vs ls) (hz:zs.length=2) (hl:cs.length≤10000)
  (hk:∀v' h',EX h0 h'→jk h0.length h' v' (cs++[(ls,w)])→K v' h'):OH (cZ 24 1 zs h [(0,2,.agg #[vs,I w])]) fun y h2=>OH (dI 24 2 32 h2 v y) K:=by
 obtain ⟨rows,o1,o2,o4⟩:=o
 obtain ⟨t1,t2,_⟩:=hq.one
 refine o1.app hex hz (row:=[vs,I w]) rfl (by simp [cR,Value.cells]) rfl (by omega) (by simp [maxLen];omega) ?_
 intro v' h' x' hold o'
 have fl:∀c r,rows.flatten=c::r→uT c=false:=by
  intro c r e
  cases rows with
  | nil=>simp at e
  | cons row rows=>
   cases cs with
   | nil=>simp at o2
   | cons c0 cs=>
    obtain ⟨vs0,e0,m0⟩:=o4 0 row c0 rfl rfl
    subst e0
    simp only [List.flatten_cons,List.cons_append,List.cons.injEq] at e
    rw [←e.1]
    rcases m0 with ⟨rfl,_⟩ | ⟨_,_,rfl,_⟩ <;> rfl
 have kp:KP uT h h':=o1.kp fl hold
 refine hk v' h' x' ⟨_,o',by simp [o2],fun k row q h1 h2=>?_⟩
 by_cases hk:k<rows.length
 ·rw [getElem?_append_left hk] at h1
  rw [getElem?_append_left (by omega)] at h2
  obtain ⟨F1,e,m⟩:=o4 k row q h1 h2
  exact ⟨F1,e,m.dR kp⟩
 ·rw [getElem?_append_right (by omega)] at h1
  rw [getElem?_append_right (by omega),←o2] at h2
  have h0:k-rows.length=0:=by
   have:=(bL h1).1
   simp at this;omega
  rw [h0] at h1 h2
  simp only [List.getElem?_cons_zero,Option.some.injEq] at h1 h2
  subst h1 h2
  exact ⟨vs,rfl,hq.dR kp⟩
section
variable {h : ae} {K : Value → ae → Prop}
end
end
section
section
variable {h : ae} {K : Value → ae → Prop}
theorem tJ {g:ae} {i:Nat} (hi:g[i]?=some (.arr 107 z4)):er g (pt i 0)=some (.agg #[.int .i64 107,.bool false,.slice none 0 0,.bool false,.slice none 0 0]):=by
 simp [er,At,hi,oT]
theorem Db {g:ae} {i:Nat} {v:Value} {q:Rat} (hg:g[i]?=some (.arr 107 z4)) (hv:RV g v q):∃g',aK 4 g (pt i 0) v=some (undef,g')∧yW g g' i q:=acD (s:=false) (b:=.slice none 0 0) (c:=.bool false) (d:=.slice none 0 0) hg hv
theorem Cell.store {g:ae} {i:Nat} {v:Value} {p q:Rat} (c:Cell g i p) (hv:RV g v q):∃g',aK 4 g (pt i 0) v=some (undef,g')∧yW g g' i q:=by
 obtain ⟨a,b,e,d,k,_⟩:=c
 exact acD (s:=a) k hv
structure yQ (h g:ae) (ij ix ib id iw:Nat) (qs:List Rat) (w:Int) (vq:Value) (s:M9):Prop where
 ex:EX h g
 JQ:g[ij]?=some (.arr 102 [I qs.length,I w,vq])
 out:g[ix]?=some (.arr 107 z4)
 a9:Cell g ib s.a9
 done:Cell g id s.done
 lK:Cell g iw s.lK
theorem yQ.mono {h g g':ae} {ij ix ib id iw:Nat} {qs:List Rat} {w:Int} {vq:Value} {s:M9} (x:EX g g') (p:yQ h g ij ix ib id iw qs w vq s):yQ h g' ij ix ib id iw qs w vq s:=
 ⟨p.ex.trans x,x.get p.JQ,x.get p.out,p.a9.mono x,p.done.mono x,p.lK.mono x⟩
theorem anZ {ij ix ib id iw:Nat} {qs:List Rat} {w:Int} {vq:Value} {age:Nat} {g0:ae} (hq:QL h vq qs) (aC:dV qs w=true) (I1:age<qs.length)
  (b1:h.length≤ix∧h.length≤ib∧h.length≤id∧h.length≤iw) (d1:ij≠ib∧ij≠id∧ij≠iw) (d2:ix≠ib∧ix≠id∧ix≠iw) (d3:ib≠id∧ib≠iw∧id≠iw)
  (hi:yQ h g0 ij ix ib id iw qs w vq (cg qs w age 0))
  (hk:∀r h',EX h h'→RV h' r (cg qs w age (qs.length-age)).a9→K (.tuple #[r,I ((cg qs w age (qs.length-age)).iI:Nat)]) h'):
  cJ [(.int .i64 (0)),(.int .i64 (1))] g0 fun L1 xs hx=>T9 prog K (I age) (pt ij 0) (pt ix 0) (pt ib 0) (pt id 0) (pt iw 0) L1 xs hx:=by
 obtain ⟨⟨_,l8⟩,⟨w0,nR⟩,hb,_⟩:=qt aC
 have s4:=zw hb
 refine dL (σ:=Nat×ae) (fun q=>[I ((cg qs w age q.1).iI:Nat),I (q.1+1:Nat)]) (fun q=>q.2) (fun q=>age+q.1≤qs.length∧yQ h q.2 ij ix ib id iw qs w vq (cg qs w age q.1)) (fun q=>qs.length-q.1) (0,g0) rfl rfl ⟨by show age+0≤_;omega,hi⟩ ?_
 clear hi
 rintro ⟨d,g⟩ ⟨hd,inv⟩ L hL
 simp only at hd inv hL⊢
 rw [aBU]
 have SN:af false 1 g (pt ij 0)=some (I qs.length):=by simp [af,aR,inv.JQ,cm]
 have ws:ai .sub (I qs.length) (I age)=some (I (qs.length-age:Nat)):=by rw [gU,wrap64 (by omega) (by omega)];congr 2;omega
 simp only [b9,add_zero,ah,SN,ws,GZ,cj]
 refine ⟨fun hle=>?_,fun uN=>?_⟩
 rotate_left
 ·have QX:d=qs.length-age:=by omega
  subst QX
  rw [aBT]
  obtain ⟨v,l1,l2⟩:=inv.a9.load
  obtain ⟨g',e1,st⟩:=Db inv.out l2
  simp only [l1,ah,e1,aE]
  obtain ⟨v',m1,m2⟩:=st.cell.load
  simp only [m1,ah]
  exact hk v' g' (st.ex inv.ex b1.1) m2
 have qD:age+d<qs.length:=by omega
 have mC:age+(d+1)≤qs.length:=by omega
 obtain ⟨sz1,sz2⟩:=Lv (age:=age) (d:=d) aC hd
 obtain ⟨sz3,sz4⟩:=Lv (age:=age) (d:=d+1) aC mC
 obtain ⟨ed,ew⟩:=xd qs w age d
 have hwp:=(LV (age:=age) (d:=d+1) aC mC).2 (by omega)
 rw [Fk] at hwp
 obtain ⟨vd,l1,l2⟩:=inv.done.load
 have E7:∀{g':ae},g'[ij]?=some (.arr 102 [I qs.length,I w,vq])→af false 1 g' (pt ij 2)=some vq:=fun k=>by simp [af,aR,k,cm]
 have lj1:∀{g':ae},g'[ij]?=some (.arr 102 [I qs.length,I w,vq])→af false 1 g' (pt ij 1)=some (I w):=fun k=>by simp [af,aR,k,cm]
 have lja:∀{g':ae},g'[ij]?=some (.arr 102 [I qs.length,I w,vq])→af true 3 g' (pt ij 0)=some (.agg #[I qs.length,I w,vq]):=fun k=>by simp [af,aR,k,cm]
 have w1:ai .add (I age) (I (d+1:Nat))=some (I (age+(d+1):Nat)):=by rw [cA,wrap64 (by omega) (by omega)];congr 2
 have w2:ai .sub (I (age+(d+1):Nat)) (.int .i64 1)=some (I (age+d:Nat)):=by rw [gU,wrap64 (by omega) (by omega)];congr 2;omega
 obtain ⟨bi,oi,r,u1,u2,u3⟩:=(hq.mono inv.ex).get qD
 simp only [l1,ah,true_and,E7 inv.JQ,w1,w2,u1,u2]
 refine yP l2 u3 sz1 (s4 _ (getElem_mem qD)) (by omega) ?_
 intro r1 g1 x1 yl
 have eg:qs[age+d]=qs.getD (age+d) 0:=by rw [getD_eq_getElem?_getD,getElem?_eq_getElem qD];rfl
 rw [eg,←ed] at yl
 have inv1:=inv.mono x1
 -- vB is done
 obtain ⟨g2,e2,ri⟩:=inv1.done.store yl
 simp only [e2,aE]
 have Wg:=ri.dR (Ne.symm d3.2.2) inv1.lK
 have G3:=ri.dR d3.1 inv1.a9
 have jb2:g2[ij]?=some (.arr 102 [I qs.length,I w,vq]):=by rw [ri.old _ d1.2.1];exact inv1.JQ
 have ou2:g2[ix]?=some (.arr 107 z4):=by rw [ri.old _ d2.2.1];exact inv1.out
 have xh2:=ri.ex inv1.ex b1.2.2.1
 obtain ⟨vw,m1,m2⟩:=Wg.load
 simp only [m1,ah,lja jb2]
 refine Mi (age:=age+d) (hq.mono xh2) (by omega) s4 (by omega) ?_
 intro r3 g3 x3 Ck
 have m3:af true 4 g3 (pt iw 0)=some vw:=by
  obtain ⟨a,b,c,e,k,_⟩:=Wg
  rw [jh k] at m1
  rw [jh (x3.get k)];exact m1
 simp only [m3,true_and]
 have kU:=CS (qs:=qs.drop (age+d)) (fun q hq=>s4 q (mem_of_mem_drop hq)) _ (le_refl _)
 rw [take_length,length_drop] at kU
 refine yP (m2.mono x3) Ck sz2 kU (by omega) ?_
 intro r4 g4 x4 wC
 rw [←ew] at wC
 have bD:=x3.trans x4
 obtain ⟨g5,e5,w9⟩:=(Wg.mono bD).store wC
 simp only [e5,aE]
 have DZ:=w9.dR d3.2.2 (ri.cell.mono bD)
 have Zk:=w9.dR d3.2.1 (G3.mono bD)
 have JP:g5[ij]?=some (.arr 102 [I qs.length,I w,vq]):=by rw [w9.old _ d1.2.2];exact bD.get jb2
 have ou5:g5[ix]?=some (.arr 107 z4):=by rw [w9.old _ d2.2.2];exact bD.get ou2
 have L5:=w9.ex (xh2.trans bD) b1.2.2.2
 have C2:=w9.cell
 -- one more try
 have e7:ba 107 [(.bool false),(.slice none 0 0),(.bool false),(.slice none 0 0)] g5=some (pt g5.length 0,g5++[.arr 107 z4]):=rfl
 simp only [e7,aE]
 have y1:EX g5 (g5++[.arr 107 z4]):=EX.append _ _
 have j1:(g5++[ak.arr 107 z4])[g5.length]?=some (.arr 107 z4):=bZ
 generalize g5++[ak.arr 107 z4]=g6 at y1 j1⊢
 simp only [tJ j1,ah,true_and,lj1 (y1.get JP),lj1 JP]
 refine ue (by omega) (by omega) ?_
 intro r7 g7 x7 hr7
 have cQ:=y1.trans x7
 obtain ⟨vd7,n1,n2⟩:=(DZ.mono cQ).load
 have same:∀{i:Nat} {q:Rat} {ga gb:ae} {v:Value},Cell ga i q→EX ga gb→af true 4 gb (pt i 0)=some v→af true 4 ga (pt i 0)=some v:=by
  intro i q ga gb v c x l
  obtain ⟨a,b,c,e,k,_⟩:=c
  rw [jh (x.get k)] at l
  rw [jh k];exact l
 simp only [tJ (x7.get j1),true_and,n1,ah,same DZ cQ n1,same (DZ.mono y1) x7 n1]
 refine Mk hr7 n2 (LU w0 nR) sz3 (by omega) ?_
 intro r8 g8 x8 RC
 have cK:=cQ.trans x8
 obtain ⟨vw8,o1,o2⟩:=(C2.mono cK).load
 simp only [tJ ((x7.trans x8).get j1),true_and,o1,ah,same C2 cK o1,same (C2.mono y1) (x7.trans x8) o1,same (C2.mono cQ) x8 o1]
 refine W7 RC o2 hwp ((LU w0 nR).mul sz3) sz4 (by omega) ?_
 intro r9 g9 x9 Cl
 have ht:RV g9 r9 (jR qs w age d):=Cl
 have htz:=ang (age:=age) (d:=d) aC mC
 have QN:=VO (age:=age) (d:=d) aC hd
 have fA:=x7.trans (x8.trans x9)
 obtain ⟨iO,zp,sv⟩:=Db (fA.get j1) ht
 have jw:∀{i:Nat},i<g5.length→i≠g5.length:=fun aB he=>by omega
 have dO:=y1.trans fA
 have ib5:=Zk.lt
 have id5:=DZ.lt
 have iw5:=C2.lt
 have ij5:ij<g5.length:=(bL JP).1
 have ix5:ix<g5.length:=(bL ou5).1
 have OX:=sv.dR (jw ib5) (Zk.mono dO)
 have dnA:=sv.dR (jw id5) (DZ.mono dO)
 have wkA:=sv.dR (jw iw5) (C2.mono dO)
 have jbA:iO[ij]?=some (.arr 102 [I qs.length,I w,vq]):=by rw [sv.old _ (jw ij5)];exact dO.get JP
 have ouA:iO[ix]?=some (.arr 107 z4):=by rw [sv.old _ (jw ix5)];exact dO.get ou5
 have xhA:=sv.ex (L5.trans dO) (by have:=L5.1;omega)
 simp only [tJ (fA.get j1),true_and,zp,aE,jo,ah]
 have next:∀(a9:Rat) (iI:Nat) {g':ae},yQ h g' ij ix ib id iw qs w vq ⟨a9,iI,(cg qs w age (d+1)).done,(cg qs w age (d+1)).lK⟩→cg qs w age (d+1)=⟨a9,iI,(cg qs w age (d+1)).done,(cg qs w age (d+1)).lK⟩→KD prog K (I age) (pt ij 0) (pt ix 0) (pt ib 0) (I iI) (pt id 0) (pt iw 0) (I (d+1:Nat)) L g':=by
  intro a9 iI g' iv es
  rw [aBS]
  have wi:IntKind.wrap .i64 (((d+1:Nat):Int)+1)=((d+1+1:Nat):Int):=by rw [wrap64 (by omega) (by omega)];omega
  simp only [cA,wi,ah,true_and]
  have:=hL (d+1,g') ⟨mC,by show yQ h g' ij ix ib id iw qs w vq (cg qs w age (d+1));rw [es];exact iv⟩ (by show qs.length-(d+1)<qs.length-d;omega)
  have em:(cg qs w age (d+1)).iI=iI:=by rw [es]
  simp only [em] at this
  exact this
 -- it is OU
 have OU:((cg qs w age d).iI=0∨(cg qs w age d).a9<jR qs w age d)→∀(t u:Value) {g':ae},EX iO g'→ck t (.bool true) u=some (B true)→Fx prog K (I age) (pt ij 0) (pt ix 0) (pt ib 0) (I ((cg qs w age d).iI:Nat)) (pt id 0) (pt iw 0) (I (d+1:Nat)) (pt g5.length 0) t u L g':=by
  intro rN t u g' x' EJ
  rw [alW,EJ]
  obtain ⟨vt,p1,p2⟩:=(sv.cell.mono x').load
  obtain ⟨rK,P5,CP⟩:=(OX.mono x').store p2
  simp only [ah,dM,p1,P5,aE]
  refine next (jR qs w age d) (d+1) ⟨CP.ex (xhA.trans x') b1.2.1,by rw [CP.old _ d1.1];exact x'.get jbA,by rw [CP.old _ d2.1];exact x'.get ouA,CP.cell,CP.dR d3.1.symm (dnA.mono x'),CP.dR d3.2.1.symm (wkA.mono x')⟩ ?_
  unfold jR at rN⊢
  rw [ed,ew] at rN⊢
  simp only [cg]
  rw [if_pos rN]
 have aFu:¬((cg qs w age d).iI=0∨(cg qs w age d).a9<jR qs w age d)→∀(t u:Value) {g':ae},EX iO g'→ck t (.bool true) u=some (B false)→Fx prog K (I age) (pt ij 0) (pt ix 0) (pt ib 0) (I ((cg qs w age d).iI:Nat)) (pt id 0) (pt iw 0) (I (d+1:Nat)) (pt g5.length 0) t u L g':=by
  intro rN t u g' x' EJ
  rw [alW,EJ]
  simp only [ah,dP]
  refine next (cg qs w age d).a9 (cg qs w age d).iI ⟨xhA.trans x',x'.get jbA,x'.get ouA,OX.mono x',dnA.mono x',wkA.mono x'⟩ ?_
  unfold jR at rN
  rw [ed,ew] at rN⊢
  simp only [cg]
  rw [if_neg rN]
 rw [aBR]
 by_cases hm:(cg qs w age d).iI=0
 ·rw [aW (show ((cg qs w age d).iI:Int)=0 by omega)]
  simp only [fT]
  exact OU (.inl hm) _ _ (EX.refl iO) rfl
 ·rw [aT (show ¬((cg qs w age d).iI:Int)=0 by omega)]
  obtain ⟨vt,p1,p2⟩:=sv.cell.load
  obtain ⟨vb,p3,p4⟩:=OX.load
  simp only [eJ,p1,p3,ah]
  refine Mj p2 p4 htz QN (by decide) ?_
  intro rK au
  have hc:decide ((0:Int)<uv (jR qs w age d) (cg qs w age d).a9)=decide ((cg qs w age d).a9<jR qs w age d):=by
   rw [decide_eq_decide]
   unfold uv
   generalize jR qs w age d=a
   generalize (cg qs w age d).a9=b
   by_cases e:a=b
   ·subst e
    rw [if_pos rfl]
    exact ⟨fun h=>absurd h (by decide),fun h=>absurd h Rat.lt_irrefl⟩
   ·rw [if_neg e]
    by_cases e2:a<b
    ·rw [if_pos e2]
     exact ⟨fun h=>absurd h (by decide),fun h=>by grind⟩
    ·rw [if_neg e2]
     exact ⟨fun _=>by grind,fun _=>by decide⟩
  simp only [gj,ah,hc]
  by_cases rN:(cg qs w age d).a9<jR qs w age d
  ·rw [aW rN]
   exact OU (.inr rN) _ _ au rfl
  ·rw [aT rN]
   exact aFu (fun h=>h.elim hm rN) _ _ au rfl
end
end
section
section
variable {h : ae} {K : Value → ae → Prop}
theorem C44 {qs:List Rat} {w:Int} {vq:Value} {age:Nat} (hq:QL h vq qs) (aC:dV qs w=true) (I1:age<qs.length)
  (hk:∀r h',EX h h'→RV h' r (cg qs w age (qs.length-age)).a9→K (.tuple #[r,I ((cg qs w age (qs.length-age)).iI:Nat)]) h'):aq prog 44 [.agg #[I qs.length,I w,vq],I age] h K:=by
 obtain ⟨rq,rs,_,_⟩:=id hq
 refine f44 ?_
 have e1:bC 102 h (.agg #[I qs.length,I w,vq])=some (pt h.length 0,h++[.arr 102 [I qs.length,I w,vq]]):=by
  rcases rs.2 with ⟨e,_⟩ | ⟨i,o,e,_⟩ <;> rw [e] <;> rfl
 have e7:∀(g:ae),ba 107 [(.bool false),(.slice none 0 0),(.bool false),(.slice none 0 0)] g=some (pt g.length 0,g++[.arr 107 z4]):=fun _=>rfl
 simp only [N1,e1,e7,aE]
 have x0:EX h (h++[.arr 102 [I qs.length,I w,vq]]):=EX.append _ _
 have k0:(h++[ak.arr 102 [I qs.length,I w,vq]])[h.length]?=some (.arr 102 [I qs.length,I w,vq]):=bZ
 generalize h++[ak.arr 102 [I qs.length,I w,vq]]=g0 at x0 k0⊢
 have x1:EX g0 (g0++[.arr 107 z4]):=EX.append _ _
 have k1:(g0++[ak.arr 107 z4])[g0.length]?=some (.arr 107 z4):=bZ
 generalize g0++[ak.arr 107 z4]=g1 at x1 k1⊢
 have m0:h.length<g0.length:=(bL k0).1
 have m1:g0.length<g1.length:=(bL k1).1
 refine ue (n:=0) (by decide) (by decide) ?_
 intro r2 g2 x2 ym
 have ym:RV g2 r2 0:=ym
 have x3:EX g2 (g2++[.arr 107 z4]):=EX.append _ _
 have k3:(g2++[ak.arr 107 z4])[g2.length]?=some (.arr 107 z4):=bZ
 generalize g2++[ak.arr 107 z4]=g3 at x3 k3⊢
 have m2:=x2.1
 have m3:g2.length<g3.length:=(bL k3).1
 obtain ⟨g4,e4,VN⟩:=Db k3 (ym.mono x3)
 simp only [e4,aE]
 have bD:EX g2 g4:=VN.ex x3 (le_refl _)
 refine ue (n:=0) (by decide) (by decide) ?_
 intro r5 g5 x5 qO
 have qO:RV g5 r5 0:=qO
 refine ue (n:=0) (by decide) (by decide) ?_
 intro r6 g6 x6 RB
 have RB:RV g6 r6 0:=RB
 have x7:EX g6 (g6++[.arr 107 z4]):=EX.append _ _
 have k7:(g6++[ak.arr 107 z4])[g6.length]?=some (.arr 107 z4):=bZ
 generalize g6++[ak.arr 107 z4]=g7 at x7 k7⊢
 have x8:EX g7 (g7++[.arr 107 z4]):=EX.append _ _
 have k8:(g7++[ak.arr 107 z4])[g7.length]?=some (.arr 107 z4):=bZ
 generalize g7++[ak.arr 107 z4]=g8 at x8 k8⊢
 have m4:=VN.len
 have m5:=x5.1
 have m6:=x6.1
 have m7:g6.length<g7.length:=(bL k7).1
 have gS:=x7.trans x8
 obtain ⟨g9,e9,Lu⟩:=Db (x8.get k7) (((qO.mono x6).mono gS))
 simp only [e9,aE]
 have k9:g9[g7.length]?=some (.arr 107 z4):=by rw [Lu.old _ (by omega)];exact k8
 obtain ⟨iO,zp,sv⟩:=Db k9 (Lu.val (RB.mono gS))
 simp only [zp,aE]
 have fA:EX g6 g9:=Lu.ex gS (le_refl _)
 have aFO:EX g6 iO:=sv.ex fA (by omega)
 have L0:=(x5.trans x6).trans aFO
 have LZ:=x0.trans (x1.trans x2)
 have xA:=LZ.trans (bD.trans L0)
 have jb:=((x1.trans x2).trans (bD.trans L0)).get k0
 have ou:=(x2.trans (bD.trans L0)).get k1
 exact anZ (g0:=iO) (ij:=h.length) (ix:=g0.length) (ib:=g2.length) (id:=g6.length) (iw:=g7.length) hq aC I1 ⟨by omega,by omega,by omega,by omega⟩ ⟨by omega,by omega,by omega⟩ ⟨by omega,by omega,by omega⟩ ⟨by omega,by omega,by omega⟩
  ⟨xA,jb,ou,VN.cell.mono L0,sv.dR (by omega) Lu.cell,sv.cell⟩ hk
end
end
end Go.Proofs.YtelmdbpaoifmoaaGreat
