/-
  Part 4 of the texts behind a statement of this seat: ZN1, ZN2, Ct28, Ct29, Ct30, Ct31, Ct32, Ct33, ZR1, Ct34, Ct35, Ct36.
-/
import Derived.Test.YtelmdbpaoifmoaaGreatProg
import Derived.KernelRfl
import Derived.Test.YtelmdbpaoifmoaaGreatMg3
open Classical (byContradiction)
open Go.Proofs.Tryz (prog)
open List (drop_eq_getElem_cons drop_zero getElem?_set_ne getElem_mem getElem_set_ne length_append length_cons length_nil length_set length_take replicate take_length take_of_length_le)
open Nat (add_zero le_refl mod_lt mul_zero pow_succ zero_add)
namespace Go.Proofs.YtelmdbpaoifmoaaGreat
open Go.Sim
section
variable (P : Program) (K : VK)
noncomputable section
variable (n0 x2 u3 : Value) (h : ae)
def ahl:=bz prog 105 [[],[],[],[0,2,3],[]]
@[irreducible] def PB:=bJ ahl
@[irreducible] def ar4:=PB.r.r.r.l
theorem azd:ahl=some (20,PB,[.cell true 2 2]):=by kernel_rfl
def aoO (_P:Program) (K:VK):ar:=aT [.cell true 2 2] K
def KJ:Prop:=ay (aq P ar4 (aoO P K)) [0,2,3] [n0,x2,u3] h
theorem aBo:KJ P K n0 x2 u3 h=
 (OP (ai .lss n0 (.int .i64 (0))) fun au=>
 OP (dA .u32 u3) fun aB=>
 OP (ai .shr u3 (.int .u64 (32))) fun bc=>
 OP (dA .u32 bc) fun bk=>
 OH (dK 177 2 [(.int .u32 (0))] h [(0,1,aB),(1,1,bk)]) fun bN z1=>
 ak P 118 [bN] z1 fun aQ z2=>
 ak P 117 [au,aQ] z2 fun aO z3=>
 OH (aF 2 z3 x2 aO) fun _ z4=>
 OP (af true 2 z4 x2) fun r0=>
 K r0 z4):=az (by kernel_rfl)
def NF:Prop:=
 OH (aV 105 [(.bool false),(.slice none 0 0)] h) fun x2 z1=>
 OP (dA .u64 n0) fun x5=>
 OP (ai .lss n0 (.int .i64 (0))) fun x7=>
 aR x7
 (OP (gJ .neg x5) fun x9=>
 KJ P K n0 x2 x9 z1)
 (KJ P K n0 x2 x5 z1)
theorem avF:aq P PB (aT [.cell true 2 2] K) (bt [n0]) h=NF P K n0 h:=by kernel_rfl
theorem f105 {K:VK} {n0:Value} {h:ae} (H:NF prog K n0 h):ak prog 105 [n0] h K:=
 bK azd (bI rfl) ((avF prog K n0 h).mpr H)
end
noncomputable section
variable (a0 b1 : Value) (h : ae)
def ahn:=bz prog 107 [[],[]]
@[irreducible] def Z1:=bJ ahn
theorem azf:ahn=some (16,Z1,[.cell true 2 4]):=by kernel_rfl
def NH:Prop:=
 OH (bm 105 h a0) fun a2 z1=>
 OH (bm 105 z1 b1) fun b3 z2=>
 OH (aV 105 [(.bool false),(.slice none 0 0)] z2) fun x4 z3=>
 OP (aL 0 a2) fun x5=>
 OP (af false 1 z3 x5) fun x6=>
 (True)∧
 OP (aL 0 b3) fun x7=>
 OP (af false 1 z3 x7) fun x8=>
 (True)∧
 OP (uJ true x6 x8) fun x9=>
 OP (aL 1 a2) fun aM=>
 OP (af false 1 z3 aM) fun au=>
 (True)∧
 OP (aL 1 b3) fun aC=>
 OP (af false 1 z3 aC) fun aB=>
 (True)∧
 ak P 122 [au,aB] z3 fun aH z4=>
 (af false 1 z4 x5=some x6∧af false 1 z4 x7=some x8∧True)∧
 ak P 117 [x9,aH] z4 fun bc z5=>
 (True)∧
 OH (aF 2 z5 x4 bc) fun _ z6=>
 (True)∧
 OP (af true 2 z6 x4) fun r0=>
 K r0 z6
theorem avH:aq P Z1 (aT [.cell true 2 4] K) (bt [a0,b1]) h=NH P K a0 b1 h:=by kernel_rfl
theorem f107 {K:VK} {a0 b1:Value} {h:ae} (H:NH prog K a0 b1 h):ak prog 107 [a0,b1] h K:=
 bK azf (bI rfl) ((avH prog K a0 b1 h).mpr H)
end
noncomputable section
variable (a0 : Value) (h : ae)
def ahp:=bz prog 109 [[],[],[],[],[],[],[]]
@[irreducible] def Z9:=bJ ahp
theorem azh:ahp=some (11,Z9,[.tmp 2]):=by kernel_rfl
def NJ (_:Program) (K:VK) (a0:Value) (h:ae):Prop:=
 OH (bm 105 h a0) fun a1 z1=>
 OP (aL 1 a1) fun x4=>
 OP (af false 1 z1 x4) fun x5=>
 OP (bj x5) fun x6=>
 OP (ai .eql x6 (.int .i64 (0))) fun x7=>
 aR x7
 (K (.int .i64 (0)) z1)
 (OP (aL 0 a1) fun x9=>
 OP (af false 1 z1 x9) fun aM=>
 aR aM
 (K (.int .i64 (-1)) z1)
 (K (.int .i64 (1)) z1))
theorem avJ:aq P Z9 (aT [.tmp 2] K) (bt [a0]) h=NJ P K a0 h:=by kernel_rfl
theorem f109 {K:VK} {a0:Value} {h:ae} (H:NJ prog K a0 h):ak prog 109 [a0] h K:=
 bK azh (bI rfl) ((avJ prog K a0 h).mpr H)
end
noncomputable section
variable (a0 b1 : Value) (h : ae)
def ahr:=bz prog 111 [[],[]]
@[irreducible] def aaa:=bJ ahr
theorem azj:ahr=some (9,aaa,[.tmp 4]):=by kernel_rfl
def NL:Prop:=
 OH (bm 105 h a0) fun a2 z1=>
 OH (bm 105 z1 b1) fun b3 z2=>
 OP (af true 2 z2 a2) fun x5=>
 OP (af true 2 z2 b3) fun x6=>
 ak P 127 [x5,x6] z2 fun x7 z3=>
 ak P 109 [x7] z3 fun x8 z4=>
 K x8 z4
theorem avL:aq P aaa (aT [.tmp 4] K) (bt [a0,b1]) h=NL P K a0 b1 h:=by kernel_rfl
theorem f111 {K:VK} {a0 b1:Value} {h:ae} (H:NL prog K a0 b1 h):ak prog 111 [a0,b1] h K:=
 bK azj (bI rfl) ((avL prog K a0 b1 h).mpr H)
end
noncomputable section
variable (n0 : Value) (h : ae)
def ahs:=bz prog 112 [[],[]]
@[irreducible] def aab:=bJ ahs
theorem azk:ahs=some (6,aab,[.cell true 4 2]):=by kernel_rfl
def NM:Prop:=
 OH (bm 105 h n0) fun n1 z1=>
 OH (aV 107 [(.bool false),(.slice none 0 0),(.bool false),(.slice none 0 0)] z1) fun x2 z2=>
 OP (af true 2 z2 n1) fun x3=>
 (True)∧
 ak P 105 [(.int .i64 (1))] z2 fun x4 z3=>
 (af true 2 z3 n1=some x3∧True)∧
 OP (dd [(.bool false),(.slice none 0 0),(.bool false),(.slice none 0 0)] [(0,2,x3),(2,2,x4)]) fun x5=>
 OH (aF 4 z3 x2 x5) fun _ z4=>
 (True)∧
 OP (af true 4 z4 x2) fun r0=>
 K r0 z4
theorem avM:aq P aab (aT [.cell true 4 2] K) (bt [n0]) h=NM P K n0 h:=by kernel_rfl
theorem f112 {K:VK} {n0:Value} {h:ae} (H:NM prog K n0 h):ak prog 112 [n0] h K:=
 bK azk (bI rfl) ((avM prog K n0 h).mpr H)
end
noncomputable section
variable (a0 b1 : Value) (h : ae)
def aht:=bz prog 113 [[],[],[],[],[],[],[]]
@[irreducible] def aac:=bJ aht
theorem azl:aht=some (42,aac,[.cell true 2 4]):=by kernel_rfl
def NN:Prop:=
 OH (bm 105 h a0) fun a2 z1=>
 OH (bm 105 z1 b1) fun b3 z2=>
 OH (aV 105 [(.bool false),(.slice none 0 0)] z2) fun x4 z3=>
 OP (aL 0 a2) fun x6=>
 OP (af false 1 z3 x6) fun x7=>
 OP (aL 0 b3) fun x8=>
 OP (af false 1 z3 x8) fun x9=>
 OP (uJ false x7 x9) fun aM=>
 aR aM
 (OP (aL 0 a2) fun au=>
 OP (af false 1 z3 au) fun aC=>
 (True)∧
 OP (aL 1 a2) fun aB=>
 OP (af false 1 z3 aB) fun aH=>
 (True)∧
 OP (aL 1 b3) fun bc=>
 OP (af false 1 z3 bc) fun bk=>
 (True)∧
 ak P 128 [aH,bk] z3 fun bN z4=>
 (af false 1 z4 au=some aC∧True)∧
 ak P 117 [aC,bN] z4 fun aQ z5=>
 (True)∧
 OH (aF 2 z5 x4 aQ) fun _ z6=>
 (True)∧
 OP (af true 2 z6 x4) fun r0=>
 K r0 z6)
 (OP (aL 1 a2) fun aX=>
 OP (af false 1 z3 aX) fun aZ=>
 OP (aL 1 b3) fun bF=>
 OP (af false 1 z3 bF) fun cB=>
 ak P 126 [aZ,cB] z3 fun bu z4=>
 OP (ai .geq bu (.int .i64 (0))) fun ca=>
 aR ca
 (OP (aL 0 a2) fun cw=>
 OP (af false 1 z4 cw) fun bZ=>
 (True)∧
 OP (aL 1 a2) fun cG=>
 OP (af false 1 z4 cG) fun cM=>
 (True)∧
 OP (aL 1 b3) fun dC=>
 OP (af false 1 z4 dC) fun cE=>
 (True)∧
 ak P 129 [cM,cE] z4 fun cS z5=>
 (af false 1 z5 cw=some bZ∧True)∧
 ak P 117 [bZ,cS] z5 fun dH z6=>
 (True)∧
 OH (aF 2 z6 x4 dH) fun _ z7=>
 (True)∧
 OP (af true 2 z7 x4) fun r0=>
 K r0 z7)
 (OP (aL 0 b3) fun cT=>
 OP (af false 1 z4 cT) fun cR=>
 (True)∧
 OP (aL 1 b3) fun cX=>
 OP (af false 1 z4 cX) fun fE=>
 (True)∧
 OP (aL 1 a2) fun dI=>
 OP (af false 1 z4 dI) fun eX=>
 (True)∧
 ak P 129 [fE,eX] z4 fun ef z5=>
 (af false 1 z5 cT=some cR∧True)∧
 ak P 117 [cR,ef] z5 fun eG z6=>
 (True)∧
 OH (aF 2 z6 x4 eG) fun _ z7=>
 (True)∧
 OP (af true 2 z7 x4) fun r0=>
 K r0 z7))
theorem avN:aq P aac (aT [.cell true 2 4] K) (bt [a0,b1]) h=NN P K a0 b1 h:=by kernel_rfl
theorem f113 {K:VK} {a0 b1:Value} {h:ae} (H:NN prog K a0 b1 h):ak prog 113 [a0,b1] h K:=
 bK azl (bI rfl) ((avN prog K a0 b1 h).mpr H)
end
noncomputable section
variable (a0 w1 x6 x7 i8 : Value) (L1 : LQ) (xs : List Value) (h : ae)
def ahu:=bz prog 114 [[],[],[],[],[0,1,6],[7,8],[],[],[],[],[6,7],[]]
@[irreducible] def Hr:=bJ ahu
@[irreducible] def asd:=Hr.r.r.r.l.r.l.l
@[irreducible] def aad:=Hr.r.r.r.r
@[irreducible] def asc:=aad.l
theorem azm:ahu=some (44,Hr,[.tmp 4,.tmp 5]):=by kernel_rfl
def MR (_P:Program) (K:VK):ar:=aT [.tmp 4,.tmp 5] K
def aoT:ar:=aG (aq P aad (MR P K)) (MR P K)
def aoU:ar:=bO 0 (aoT P K)
def aoV:ar:=aG (fun f' aW=>(([0,1,6]:List Nat).map f':List Value)=[a0,w1,x6]∧L1 (([7,8]:List Nat).map f') aW) (aoU P K)
def ajq:Prop:=ay (aq P asd (aoV P K a0 w1 x6 L1)) ([0,1,6]++[7,8]) ([a0,w1,x6]++xs) h
def ajp:Prop:=ay (aq P asc (MR P K)) [6,7] [x6,x7] h
theorem aBv (a0 w1 x6:Value) (L1:LQ) (x7 i8:Value) (h:ae):ajq P K a0 w1 x6 L1 [x7,i8] h=
 (OP (ai .geq i8 (.int .i64 (0))) fun bN=>
 aR bN
 (OP (ai .shl x7 (.int .u64 (32))) fun aZ=>
 OP (bf 1 a0 i8) fun bu=>
 OP (af false 1 h bu) fun ca=>
 OP (dA .u64 ca) fun cw=>
 OP (ai .or aZ cw) fun bZ=>
 OP (dA .u64 w1) fun cS=>
 OP (ai .quo bZ cS) fun dH=>
 OP (dA .u32 dH) fun cT=>
 OP (dA .u64 w1) fun fE=>
 OP (ai .rem bZ fE) fun dI=>
 OP (bf 1 x6 i8) fun eX=>
 OH (aF 1 h eX cT) fun _ z1=>
 (True)∧
 OP (ai .sub i8 (.int .i64 (1))) fun aO=>
 ([a0,w1,x6]:List Value)=[a0,w1,x6]∧L1 [dI,aO] z1)
 (ajp P K x6 x7 h)):=az (by kernel_rfl)
theorem aBu:ajp P K x6 x7 h=
 (ak P 118 [x6] h fun eG z1=>
 OP (dA .u32 x7) fun bY=>
 K (.tuple #[eG,bY]) z1):=az (by kernel_rfl)
def NO:Prop:=
 OP (bj a0) fun au=>
 OH (mb 177 4 [(.int .u32 (0))] h au au) fun aC z1=>
 OP (bj a0) fun aH=>
 OP (ai .sub aH (.int .i64 (1))) fun bc=>
 cQ [(.int .u64 (0)),bc] z1 fun L1 xs hx=>
 ajq P K a0 w1 aC L1 xs hx
theorem avO:aq P Hr (aT [.tmp 4,.tmp 5] K) (bt [a0,w1]) h=NO P K a0 w1 h:=by kernel_rfl
theorem f114 {K:VK} {a0 w1:Value} {h:ae} (H:NO prog K a0 w1 h):ak prog 114 [a0,w1] h K:=
 bK azm (bI rfl) ((avO prog K a0 w1 h).mpr H)
end
noncomputable section
variable (s0 i2 j3 : Value) (L1 : LQ) (xs : List Value) (h : ae)
def ahv:=bz prog 115 [[],[0],[2,3],[],[],[]]
@[irreducible] def PD:=bJ ahv
@[irreducible] def ase:=PD.r.l.l
theorem azn:ahv=some (28,PD,[]):=by kernel_rfl
def aoW (_P:Program) (K:VK):ar:=aT [] K
def aoX:ar:=bO 0 (aoW P K)
def aoY:ar:=aG (fun f' aW=>(([0]:List Nat).map f':List Value)=[s0]∧L1 (([2,3]:List Nat).map f') aW) (aoX P K)
def ajr:Prop:=ay (aq P ase (aoY P K s0 L1)) ([0]++[2,3]) ([s0]++xs) h
theorem aBw (s0:Value) (L1:LQ) (i2 j3:Value) (h:ae):ajr P K s0 L1 [i2,j3] h=
 (OP (ai .lss i2 j3) fun x9=>
 aR x9
 (OP (bf 1 s0 j3) fun aX=>
 OP (af false 1 h aX) fun aZ=>
 (True)∧
 OP (bf 1 s0 i2) fun bu=>
 OP (af false 1 h bu) fun ca=>
 (True)∧
 OP (bf 1 s0 i2) fun cw=>
 OH (aF 1 h cw aZ) fun _ z1=>
 (True)∧
 OP (bf 1 s0 j3) fun bZ=>
 OH (aF 1 z1 bZ ca) fun _ z2=>
 (True)∧
 OP (ai .add i2 (.int .i64 (1))) fun au=>
 OP (ai .sub j3 (.int .i64 (1))) fun aB=>
 ([s0]:List Value)=[s0]∧L1 [au,aB] z2)
 (K (.tuple #[]) h)):=az (by kernel_rfl)
def NP:Prop:=
 OP (bj s0) fun x5=>
 OP (ai .sub x5 (.int .i64 (1))) fun x6=>
 cQ [(.int .i64 (0)),x6] h fun L1 xs hx=>
 ajr P K s0 L1 xs hx
theorem avP:aq P PD (aT [] K) (bt [s0]) h=NP P K s0 h:=by kernel_rfl
theorem f115 {K:VK} {s0:Value} {h:ae} (H:NP prog K s0 h):ak prog 115 [s0] h K:=
 bK azn (bI rfl) ((avP prog K s0 h).mpr H)
end
noncomputable section
variable (x0 x1 x4 x6 x9 : Value) (h : ae)
def ahx:=bz prog 117 [[],[1,4,6],[1,4,6,9],[]]
@[irreducible] def Hs:=bJ ahx
@[irreducible] def aaf:=Hs.r.l.r.l
@[irreducible] def asf:=Hs.r.r
@[irreducible] def ash:=aaf.r.l
theorem azp:ahx=some (13,Hs,[.cell true 2 4]):=by kernel_rfl
def X7 (_P:Program) (K:VK):ar:=aT [.cell true 2 4] K
def X8:ar:=aG (aq P asf (X7 P K)) (X7 P K)
def ajs:Prop:=ay (aq P aaf (X8 P K)) [1,4,6] [x1,x4,x6] h
def FE:Prop:=ay (aq P ash (X8 P K)) [1,4,6,9] [x1,x4,x6,x9] h
theorem al5:FE P K x1 x4 x6 x9 h=
 (OP (bQ x6 x9 (.bool false)) fun aM=>
 OP (dd [(.bool false),(.slice none 0 0)] [(0,1,aM),(1,1,x1)]) fun aC=>
 OH (aF 2 h x4 aC) fun _ z1=>
 OP (af true 2 z1 x4) fun r0=>
 K r0 z1):=az (by kernel_rfl)
theorem aBx:ajs P K x1 x4 x6 h=
 (cC x6 true
 (OP (bj x1) fun x8=>
 OP (ai .gtr x8 (.int .i64 (0))) fun x9=>
 FE P K x1 x4 x6 x9 h)
 (FE P K x1 x4 x6 undef h)):=az (by kernel_rfl)
def NR:Prop:=
 OH (aV 105 [(.bool false),(.slice none 0 0)] h) fun x4 z1=>
 ajs P K x1 x4 x0 z1
theorem avR:aq P Hs (aT [.cell true 2 4] K) (bt [x0,x1]) h=NR P K x0 x1 h:=by kernel_rfl
theorem f117 {K:VK} {x0 x1:Value} {h:ae} (H:NR prog K x0 x1 h):ak prog 117 [x0,x1] h K:=
 bK azp (bI rfl) ((avR prog K x0 x1 h).mpr H)
end
noncomputable section
variable (x0 x6 aB : Value) (L1 : LQ) (xs : List Value) (h : ae)
def ahy:=bz prog 118 [[],[],[0],[0,6],[0,6,13],[],[],[0],[]]
@[irreducible] def Ht:=bJ ahy
@[irreducible] def Hu:=Ht.r.l.l.l
@[irreducible] def aag:=Ht.r.r
@[irreducible] def aah:=Hu.l.l.r.l
@[irreducible] def asm:=Hu.l.r
@[irreducible] def asl:=Hu.r
@[irreducible] def asj:=aag.l
@[irreducible] def asi:=aah.r.l
theorem azq:ahy=some (21,Ht,[.tmp 2]):=by kernel_rfl
def MS (_P:Program) (K:VK):ar:=aT [.tmp 2] K
def aoZ:ar:=aG (aq P aag (MS P K)) (MS P K)
def ao0:ar:=bO 0 (aoZ P K)
def MT:ar:=aG (fun f' aW=>(([]:List Nat).map f':List Value)=[]∧L1 (([0]:List Nat).map f') aW) (ao0 P K)
def X9:ar:=aG (aq P asl (MT P K L1)) (MT P K L1)
def Ya:ar:=aG (aq P asm (X9 P K L1)) (X9 P K L1)
def ajt:Prop:=ay (aq P Hu (MT P K L1)) ([]++[0]) ([]++xs) h
def aju:Prop:=ay (aq P aah (Ya P K L1)) [0,6] [x0,x6] h
def Uj:Prop:=ay (aq P asi (Ya P K L1)) [0,6,13] [x0,x6,aB] h
def Uk:Prop:=ay (aq P asj (MS P K)) [0] [x0] h
theorem al6:Uj P K x0 x6 aB L1 h=
 (OP (bQ x6 aB (.bool false)) fun aH=>
 aR aH
 (OP (bj x0) fun bN=>
 OP (ai .sub bN (.int .i64 (1))) fun aQ=>
 OP (mT 177 1 x0 none (some aQ)) fun aO=>
 ([]:List Value)=[]∧L1 [aO] h)
 (Uk P K x0 h)):=az (by kernel_rfl)
theorem al7:aju P K x0 x6 L1 h=
 (cC x6 true
 (OP (bj x0) fun x9=>
 OP (ai .sub x9 (.int .i64 (1))) fun aM=>
 OP (bf 1 x0 aM) fun au=>
 OP (af false 1 h au) fun aC=>
 OP (ai .eql aC (.int .u32 (0))) fun aB=>
 Uj P K x0 x6 aB L1 h)
 (Uj P K x0 x6 undef L1 h)):=az (by kernel_rfl)
theorem aBz (L1:LQ) (x0:Value) (h:ae):ajt P K L1 [x0] h=
 (OP (bj x0) fun x4=>
 OP (ai .gtr x4 (.int .i64 (0))) fun x5=>
 aju P K x0 x5 L1 h):=az (by kernel_rfl)
theorem aBy:Uk P K x0 h=
 (K x0 h):=az (by kernel_rfl)
def Zj:Prop:=
 cQ [x0] h fun L1 xs hx=>
 ajt P K L1 xs hx
theorem avS:aq P Ht (aT [.tmp 2] K) (bt [x0]) h=Zj P K x0 h:=by kernel_rfl
theorem f118 {K:VK} {x0:Value} {h:ae} (H:Zj prog K x0 h):ak prog 118 [x0] h K:=
 bK azq (bI rfl) ((avS prog K x0 h).mpr H)
end
noncomputable section
variable (a0 : Value) (h : ae)
def ahz:=bz prog 119 [[],[]]
@[irreducible] def aai:=bJ ahz
theorem azr:ahz=some (9,aai,[.cell true 2 2]):=by kernel_rfl
def NT:Prop:=
 OH (bm 105 h a0) fun a1 z1=>
 OH (aV 105 [(.bool false),(.slice none 0 0)] z1) fun x2 z2=>
 OP (aL 0 a1) fun x3=>
 OP (af false 1 z2 x3) fun x4=>
 OP (gJ .not x4) fun x5=>
 OP (aL 1 a1) fun x6=>
 OP (af false 1 z2 x6) fun x7=>
 ak P 117 [x5,x7] z2 fun x8 z3=>
 OH (aF 2 z3 x2 x8) fun _ z4=>
 OP (af true 2 z4 x2) fun r0=>
 K r0 z4
theorem avT:aq P aai (aT [.cell true 2 2] K) (bt [a0]) h=NT P K a0 h:=by kernel_rfl
theorem f119 {K:VK} {a0:Value} {h:ae} (H:NT prog K a0 h):ak prog 119 [a0] h K:=
 bK azr (bI rfl) ((avT prog K a0 h).mpr H)
end
noncomputable section
variable (a0 b1 x5 i6 x7 x8 aQ aO aX ca cw bZ : Value) (L1 L2 : LQ) (xs : List Value) (h : ae)
def ahC:=bz prog 122 [[],[],[],[1,5,18,19],[20],[],[],[],[],[],[1,5,6,7,18,19,20,25,26],[8,27],[],[],[],[],[],[1,5,6,8,18,19,20],[1,5,18,19,20],[5],[]]
@[irreducible] def Hw:=bJ ahC
@[irreducible] def Hx:=Hw.r.r.l.r.l.l
@[irreducible] def aan:=Hw.r.r.r
@[irreducible] def ass:=Hx.r.r.l.l.r.r.l.r.l.l
@[irreducible] def aam:=Hx.r.r.l.l.r.r.r
@[irreducible] def aao:=Hx.r.r.r
@[irreducible] def asv:=aan.l
@[irreducible] def ast:=aam.l
@[irreducible] def asu:=aao.l
theorem azu:ahC=some (68,Hw,[.tmp 4]):=by kernel_rfl
def MW (_P:Program) (K:VK):ar:=aT [.tmp 4] K
def ao7:ar:=aG (aq P aan (MW P K)) (MW P K)
def ao8:ar:=bO 0 (ao7 P K)
def GD:ar:=aG (fun f' aW=>(([1,5,18,19]:List Nat).map f':List Value)=[b1,x5,aQ,aO]∧L1 (([20]:List Nat).map f') aW) (ao8 P K)
def ao9:ar:=aG (aq P aao (GD P K b1 x5 aQ aO L1)) (GD P K b1 x5 aQ aO L1)
def MX:ar:=bO 1 (ao9 P K b1 x5 aQ aO L1)
def ao4:ar:=aG (aq P aam (MX P K b1 x5 aQ aO L1)) (MX P K b1 x5 aQ aO L1)
def ao5:ar:=bO 2 (ao4 P K b1 x5 aQ aO L1)
def ao6:ar:=aG (fun f' aW=>(([1,5,6,7,18,19,20,25,26]:List Nat).map f':List Value)=[b1,x5,i6,x7,aQ,aO,aX,ca,cw]∧L2 (([8,27]:List Nat).map f') aW) (ao5 P K b1 x5 aQ aO L1)
def ajC:Prop:=ay (aq P Hx (GD P K b1 x5 aQ aO L1)) ([1,5,18,19]++[20]) ([b1,x5,aQ,aO]++xs) h
def ajy:Prop:=ay (aq P ass (ao6 P K b1 x5 i6 x7 aQ aO aX ca cw L1 L2)) ([1,5,6,7,18,19,20,25,26]++[8,27]) ([b1,x5,i6,x7,aQ,aO,aX,ca,cw]++xs) h
def ajz:Prop:=ay (aq P ast (MX P K b1 x5 aQ aO L1)) [1,5,6,8,18,19,20] [b1,x5,i6,x8,aQ,aO,aX] h
def ajA:Prop:=ay (aq P asu (GD P K b1 x5 aQ aO L1)) [1,5,18,19,20] [b1,x5,aQ,aO,aX] h
def ajB:Prop:=ay (aq P asv (MW P K)) [5] [x5] h
theorem aBF (b1 x5 i6 x7 aQ aO aX ca cw:Value) (L1 L2:LQ) (x8 bZ:Value) (h:ae):ajy P K b1 x5 i6 x7 aQ aO aX ca cw L1 L2 [x8,bZ] h=
 (OP (ai .lss bZ cw) fun cG=>
 aR cG
 (OP (bf 1 ca bZ) fun dC=>
 OP (af false 1 h dC) fun cE=>
 OP (dA .u64 x7) fun dH=>
 OP (dA .u64 cE) fun cR=>
 OP (ai .mul dH cR) fun cX=>
 OP (ai .add i6 bZ) fun ef=>
 OP (bf 1 x5 ef) fun eG=>
 OP (af false 1 h eG) fun eZ=>
 OP (dA .u64 eZ) fun bY=>
 OP (ai .add cX bY) fun bH=>
 OP (ai .add bH x8) fun dD=>
 OP (ai .add i6 bZ) fun bV=>
 OP (dA .u32 dD) fun db=>
 OP (ai .shr dD (.int .u64 (32))) fun dw=>
 OP (bf 1 x5 bV) fun gP=>
 OH (aF 1 h gP db) fun _ z1=>
 OP (ai .add bZ (.int .i64 (1))) fun jj=>
 ([b1,x5,i6,x7,aQ,aO,aX,ca,cw]:List Value)=[b1,x5,i6,x7,aQ,aO,aX,ca,cw]∧L2 [dw,jj] z1)
 (ajz P K b1 x5 i6 x8 aQ aO aX L1 h)):=az (by kernel_rfl)
theorem aBG:ajz P K b1 x5 i6 x8 aQ aO aX L1 h=
 (OP (bj b1) fun kI=>
 OP (ai .add i6 kI) fun fZ=>
 OP (dA .u32 x8) fun kJ=>
 OP (bf 1 x5 fZ) fun jx=>
 OH (aF 1 h jx kJ) fun _ z1=>
 ajA P K b1 x5 aQ aO aX L1 z1):=az (by kernel_rfl)
theorem aBH:ajA P K b1 x5 aQ aO aX L1 h=
 (OP (ai .add aX (.int .i64 (1))) fun gy=>
 ([b1,x5,aQ,aO]:List Value)=[b1,x5,aQ,aO]∧L1 [gy] h):=az (by kernel_rfl)
theorem aBJ (b1 x5 aQ aO:Value) (L1:LQ) (aX:Value) (h:ae):ajC P K b1 x5 aQ aO L1 [aX] h=
 (OP (ai .lss aX aO) fun aZ=>
 aR aZ
 (OP (bf 1 aQ aX) fun cB=>
 OP (af false 1 h cB) fun bu=>
 OP (bj b1) fun cw=>
 cQ [(.int .u64 (0)),(.int .i64 (0))] h fun L2 xs hx=>
 ajy P K b1 x5 aX bu aQ aO aX b1 cw L1 L2 xs hx)
 (ajB P K x5 h)):=az (by kernel_rfl)
theorem aBI:ajB P K x5 h=
 (ak P 118 [x5] h fun gA z1=>
 K gA z1):=az (by kernel_rfl)
def NW:Prop:=
 OP (bj a0) fun aB=>
 OP (bj b1) fun bc=>
 OP (ai .add aB bc) fun bk=>
 OH (mb 177 4 [(.int .u32 (0))] h bk bk) fun bN z1=>
 OP (bj a0) fun aO=>
 cQ [(.int .i64 (0))] z1 fun L1 xs hx=>
 ajC P K b1 bN a0 aO L1 xs hx
theorem avW:aq P Hw (aT [.tmp 4] K) (bt [a0,b1]) h=NW P K a0 b1 h:=by kernel_rfl
theorem f122 {K:VK} {a0 b1:Value} {h:ae} (H:NW prog K a0 b1 h):ak prog 122 [a0,b1] h K:=
 bK azu (bI rfl) ((avW prog K a0 b1 h).mpr H)
end
noncomputable section
variable (a0 b1 i5 : Value) (L1 : LQ) (xs : List Value) (h : ae)
def ahG:=bz prog 126 [[],[],[],[],[],[],[],[],[0,1],[5],[],[],[],[],[],[],[],[],[],[]]
@[irreducible] def HB:=bJ ahG
@[irreducible] def asF:=HB.r.r.l.r.l.l
@[irreducible] def asG:=HB.r.r.r
theorem azy:ahG=some (41,HB,[.tmp 4]):=by kernel_rfl
def Yh (_P:Program) (K:VK):ar:=aT [.tmp 4] K
def apk:ar:=aG (aq P asG (Yh P K)) (Yh P K)
def api:ar:=bO 0 (apk P K)
def apj:ar:=aG (fun f' aW=>(([0,1]:List Nat).map f':List Value)=[a0,b1]∧L1 (([5]:List Nat).map f') aW) (api P K)
def ajL:Prop:=ay (aq P asF (apj P K a0 b1 L1)) ([0,1]++[5]) ([a0,b1]++xs) h
theorem aBQ (a0 b1:Value) (L1:LQ) (i5:Value) (h:ae):ajL P K a0 b1 L1 [i5] h=
 (OP (ai .geq i5 (.int .i64 (0))) fun aX=>
 aR aX
 (OP (bf 1 a0 i5) fun ca=>
 OP (af false 1 h ca) fun cw=>
 (True)∧
 OP (bf 1 b1 i5) fun cM=>
 OP (af false 1 h cM) fun dC=>
 (True)∧
 OP (ai .neq cw dC) fun cE=>
 aR cE
 (OP (bf 1 a0 i5) fun cT=>
 OP (af false 1 h cT) fun cR=>
 (True)∧
 OP (bf 1 b1 i5) fun dI=>
 OP (af false 1 h dI) fun eX=>
 (True)∧
 OP (ai .lss cR eX) fun ef=>
 aR ef
 (K (.int .i64 (-1)) h)
 (K (.int .i64 (1)) h))
 (OP (ai .sub i5 (.int .i64 (1))) fun bF=>
 ([a0,b1]:List Value)=[a0,b1]∧L1 [bF] h))
 (K (.int .i64 (0)) h)):=az (by kernel_rfl)
def N0:Prop:=
 OP (bj a0) fun x7=>
 OP (bj b1) fun x9=>
 OP (ai .neq x7 x9) fun aM=>
 aR aM
 (OP (bj a0) fun aC=>
 OP (bj b1) fun aH=>
 OP (ai .lss aC aH) fun bc=>
 aR bc
 (K (.int .i64 (-1)) h)
 (K (.int .i64 (1)) h))
 (OP (bj a0) fun bN=>
 OP (ai .sub bN (.int .i64 (1))) fun aQ=>
 cQ [aQ] h fun L1 xs hx=>
 ajL P K a0 b1 L1 xs hx)
theorem av0:aq P HB (aT [.tmp 4] K) (bt [a0,b1]) h=N0 P K a0 b1 h:=by kernel_rfl
theorem f126 {K:VK} {a0 b1:Value} {h:ae} (H:N0 prog K a0 b1 h):ak prog 126 [a0,b1] h K:=
 bK azy (bI rfl) ((av0 prog K a0 b1 h).mpr H)
end
noncomputable section
variable (a0 b1 : Value) (h : ae)
def ahH:=bz prog 127 [[],[]]
@[irreducible] def aaA:=bJ ahH
theorem azz:ahH=some (9,aaA,[.cell true 2 4]):=by kernel_rfl
def N1:Prop:=
 OH (bm 105 h a0) fun a2 z1=>
 OH (bm 105 z1 b1) fun b3 z2=>
 OH (aV 105 [(.bool false),(.slice none 0 0)] z2) fun x4 z3=>
 OP (af true 2 z3 a2) fun x5=>
 (True)∧
 OP (af true 2 z3 b3) fun x6=>
 (True)∧
 ak P 119 [x6] z3 fun x7 z4=>
 (af true 2 z4 a2=some x5∧True)∧
 ak P 113 [x5,x7] z4 fun x8 z5=>
 (True)∧
 OH (aF 2 z5 x4 x8) fun _ z6=>
 (True)∧
 OP (af true 2 z6 x4) fun r0=>
 K r0 z6
theorem av1:aq P aaA (aT [.cell true 2 4] K) (bt [a0,b1]) h=N1 P K a0 b1 h:=by kernel_rfl
theorem f127 {K:VK} {a0 b1:Value} {h:ae} (H:N1 prog K a0 b1 h):ak prog 127 [a0,b1] h K:=
 bK azz (bI rfl) ((av1 prog K a0 b1 h).mpr H)
end
noncomputable section
variable (a0 b1 x5 x6 i7 y8 aZ bF : Value) (L1 : LQ) (xs : List Value) (h : ae)
def ahI:=bz prog 128 [[],[],[0,1],[],[],[],[0,1,5,21],[6,22],[],[],[],[],[],[0,1,5,6,7,8,21,22],[0,1,5,6,21,22],[0,5,6],[],[]]
@[irreducible] def PG:=bJ ahI
@[irreducible] def PI:=PG.r.r.l
@[irreducible] def PH:=PI.r.r.l.r.l.l
@[irreducible] def aaC:=PI.r.r.r
@[irreducible] def asH:=PH.r.r.l.l.r.r.r.l
@[irreducible] def aaB:=PH.r.r.r
@[irreducible] def asJ:=aaC.l
@[irreducible] def asI:=aaB.l
theorem azA:ahI=some (54,PG,[.tmp 4]):=by kernel_rfl
def GF (_P:Program) (K:VK):ar:=aT [.tmp 4] K
def apn:ar:=aG (aq P aaC (GF P K)) (GF P K)
def apo:ar:=bO 0 (apn P K)
def GG:ar:=aG (fun f' aW=>(([0,1,5,21]:List Nat).map f':List Value)=[a0,b1,x5,aZ]∧L1 (([6,22]:List Nat).map f') aW) (apo P K)
def apl:ar:=aG (aq P aaB (GG P K a0 b1 x5 aZ L1)) (GG P K a0 b1 x5 aZ L1)
def apm:ar:=bO 1 (apl P K a0 b1 x5 aZ L1)
def KM:Prop:=ay (aq P PI (GF P K)) [0,1] [a0,b1] h
def ajM:Prop:=ay (aq P PH (GG P K a0 b1 x5 aZ L1)) ([0,1,5,21]++[6,22]) ([a0,b1,x5,aZ]++xs) h
def KL:Prop:=ay (aq P asH (apm P K a0 b1 x5 aZ L1)) [0,1,5,6,7,8,21,22] [a0,b1,x5,x6,i7,y8,aZ,bF] h
def ajN:Prop:=ay (aq P asI (GG P K a0 b1 x5 aZ L1)) [0,1,5,6,21,22] [a0,b1,x5,x6,aZ,bF] h
def ajO:Prop:=ay (aq P asJ (GF P K)) [0,5,6] [a0,x5,x6] h
theorem aBS:KL P K a0 b1 x5 x6 i7 y8 aZ bF L1 h=
 (OP (bf 1 a0 i7) fun dI=>
 OP (af false 1 h dI) fun eX=>
 ak P 133 [eX,y8,x6] h fun eZ z1=>
 OP (cg 0 eZ) fun bY=>
 OP (cg 1 eZ) fun bH=>
 OP (bf 1 x5 i7) fun cP=>
 OH (aF 1 z1 cP bY) fun _ z2=>
 ajN P K a0 b1 x5 bH aZ bF L1 z2):=az (by kernel_rfl)
theorem aBT:ajN P K a0 b1 x5 x6 aZ bF L1 h=
 (OP (ai .add bF (.int .i64 (1))) fun dD=>
 ([a0,b1,x5,aZ]:List Value)=[a0,b1,x5,aZ]∧L1 [x6,dD] h):=az (by kernel_rfl)
theorem aBR (a0 b1 x5 aZ:Value) (L1:LQ) (x6 bF:Value) (h:ae):ajM P K a0 b1 x5 aZ L1 [x6,bF] h=
 (OP (ai .lss bF aZ) fun cB=>
 aR cB
 (OP (bj b1) fun bZ=>
 OP (ai .lss bF bZ) fun cG=>
 aR cG
 (OP (bf 1 b1 bF) fun cE=>
 OP (af false 1 h cE) fun cS=>
 KL P K a0 b1 x5 x6 bF cS aZ bF L1 h)
 (KL P K a0 b1 x5 x6 bF (.int .u32 (0)) aZ bF L1 h))
 (ajO P K a0 x5 x6 h)):=az (by kernel_rfl)
theorem aBU:ajO P K a0 x5 x6 h=
 (OP (bj a0) fun gO=>
 OP (bf 1 x5 gO) fun cH=>
 OH (aF 1 h cH x6) fun _ z1=>
 ak P 118 [x5] z1 fun lC z2=>
 K lC z2):=az (by kernel_rfl)
theorem aBV:KM P K a0 b1 h=
 (OP (bj a0) fun bN=>
 OP (ai .add bN (.int .i64 (1))) fun aQ=>
 OH (mb 177 4 [(.int .u32 (0))] h aQ aQ) fun aO z1=>
 OP (bj a0) fun aZ=>
 cQ [(.int .u32 (0)),(.int .i64 (0))] z1 fun L1 xs hx=>
 ajM P K a0 b1 aO aZ L1 xs hx):=az (by kernel_rfl)
def N2:Prop:=
 OP (bj a0) fun aM=>
 OP (bj b1) fun aC=>
 OP (ai .lss aM aC) fun aB=>
 aR aB
 (KM P K b1 a0 h)
 (KM P K a0 b1 h)
theorem av2:aq P PG (aT [.tmp 4] K) (bt [a0,b1]) h=N2 P K a0 b1 h:=by kernel_rfl
theorem f128 {K:VK} {a0 b1:Value} {h:ae} (H:N2 prog K a0 b1 h):ak prog 128 [a0,b1] h K:=
 bK azA (bI rfl) ((av2 prog K a0 b1 h).mpr H)
end
noncomputable section
variable (a0 b1 x5 x6 i7 y8 aB aH : Value) (L1 : LQ) (xs : List Value) (h : ae)
def ahJ:=bz prog 129 [[],[],[],[],[0,1,5,13],[6,14],[],[],[],[],[],[0,1,5,6,7,8,13,14],[0,1,5,6,13,14],[5],[]]
@[irreducible] def HD:=bJ ahJ
@[irreducible] def PJ:=HD.r.r.r.l.r.l.l
@[irreducible] def aaE:=HD.r.r.r.r
@[irreducible] def asK:=PJ.r.r.l.l.r.r.r.l
@[irreducible] def aaD:=PJ.r.r.r
@[irreducible] def asM:=aaE.l
@[irreducible] def asL:=aaD.l
theorem azB:ahJ=some (41,HD,[.tmp 4]):=by kernel_rfl
def M0 (_P:Program) (K:VK):ar:=aT [.tmp 4] K
def aps:ar:=aG (aq P aaE (M0 P K)) (M0 P K)
def apt:ar:=bO 0 (aps P K)
def GH:ar:=aG (fun f' aW=>(([0,1,5,13]:List Nat).map f':List Value)=[a0,b1,x5,aB]∧L1 (([6,14]:List Nat).map f') aW) (apt P K)
def apq:ar:=aG (aq P aaD (GH P K a0 b1 x5 aB L1)) (GH P K a0 b1 x5 aB L1)
def apr:ar:=bO 1 (apq P K a0 b1 x5 aB L1)
def ajR:Prop:=ay (aq P PJ (GH P K a0 b1 x5 aB L1)) ([0,1,5,13]++[6,14]) ([a0,b1,x5,aB]++xs) h
def KN:Prop:=ay (aq P asK (apr P K a0 b1 x5 aB L1)) [0,1,5,6,7,8,13,14] [a0,b1,x5,x6,i7,y8,aB,aH] h
def ajP:Prop:=ay (aq P asL (GH P K a0 b1 x5 aB L1)) [0,1,5,6,13,14] [a0,b1,x5,x6,aB,aH] h
def ajQ:Prop:=ay (aq P asM (M0 P K)) [5] [x5] h
theorem aBW:KN P K a0 b1 x5 x6 i7 y8 aB aH L1 h=
 (OP (bf 1 a0 i7) fun dC=>
 OP (af false 1 h dC) fun cE=>
 ak P 134 [cE,y8,x6] h fun cT z1=>
 OP (cg 0 cT) fun cR=>
 OP (cg 1 cT) fun cX=>
 OP (bf 1 x5 i7) fun fE=>
 OH (aF 1 z1 fE cR) fun _ z2=>
 ajP P K a0 b1 x5 cX aB aH L1 z2):=az (by kernel_rfl)
theorem aBX:ajP P K a0 b1 x5 x6 aB aH L1 h=
 (OP (ai .add aH (.int .i64 (1))) fun dI=>
 ([a0,b1,x5,aB]:List Value)=[a0,b1,x5,aB]∧L1 [x6,dI] h):=az (by kernel_rfl)
theorem aBZ (a0 b1 x5 aB:Value) (L1:LQ) (x6 aH:Value) (h:ae):ajR P K a0 b1 x5 aB L1 [x6,aH] h=
 (OP (ai .lss aH aB) fun bc=>
 aR bc
 (OP (bj b1) fun aO=>
 OP (ai .lss aH aO) fun aX=>
 aR aX
 (OP (bf 1 b1 aH) fun cB=>
 OP (af false 1 h cB) fun bu=>
 KN P K a0 b1 x5 x6 aH bu aB aH L1 h)
 (KN P K a0 b1 x5 x6 aH (.int .u32 (0)) aB aH L1 h))
 (ajQ P K x5 h)):=az (by kernel_rfl)
theorem aBY:ajQ P K x5 h=
 (ak P 118 [x5] h fun ef z1=>
 K ef z1):=az (by kernel_rfl)
def N3:Prop:=
 OP (bj a0) fun aM=>
 OH (mb 177 4 [(.int .u32 (0))] h aM aM) fun au z1=>
 OP (bj a0) fun aB=>
 cQ [(.int .u32 (0)),(.int .i64 (0))] z1 fun L1 xs hx=>
 ajR P K a0 b1 au aB L1 xs hx
theorem av3:aq P HD (aT [.tmp 4] K) (bt [a0,b1]) h=N3 P K a0 b1 h:=by kernel_rfl
theorem f129 {K:VK} {a0 b1:Value} {h:ae} (H:N3 prog K a0 b1 h):ak prog 129 [a0,b1] h K:=
 bK azB (bI rfl) ((av3 prog K a0 b1 h).mpr H)
end
noncomputable section
variable (x0 y1 x2 : Value) (h : ae)
def ahN:=bz prog 133 [[],[],[],[]]
@[irreducible] def aaI:=bJ ahN
theorem azF:ahN=some (22,aaI,[.tmp 6,.tmp 7]):=by kernel_rfl
def N6 (_:Program) (K:VK) (x0 y1 x2:Value) (h:ae):Prop:=
 OP (dA .u64 x0) fun aM=>
 OP (dA .u64 y1) fun aC=>
 OP (ai .add aM aC) fun aB=>
 OP (dA .u64 x2) fun bc=>
 OP (ai .add aB bc) fun bk=>
 OP (dA .u32 bk) fun aQ=>
 OP (ai .shr bk (.int .u64 (32))) fun aX=>
 OP (dA .u32 aX) fun aZ=>
 K (.tuple #[aQ,aZ]) h
theorem av7:aq P aaI (aT [.tmp 6,.tmp 7] K) (bt [x0,y1,x2]) h=N6 P K x0 y1 x2 h:=by kernel_rfl
theorem f133 {K:VK} {x0 y1 x2:Value} {h:ae} (H:N6 prog K x0 y1 x2 h):ak prog 133 [x0,y1,x2] h K:=
 bK azF (bI rfl) ((av7 prog K x0 y1 x2 h).mpr H)
end
noncomputable section
variable (x0 y1 x2 : Value) (h : ae)
def ahO:=bz prog 134 [[],[],[]]
@[irreducible] def aaJ:=bJ ahO
theorem azG:ahO=some (25,aaJ,[.tmp 6,.tmp 7]):=by kernel_rfl
def N7 (_:Program) (K:VK) (x0 y1 x2:Value) (h:ae):Prop:=
 OP (ai .sub x0 y1) fun aM=>
 OP (ai .sub aM x2) fun aC=>
 OP (gJ .xor x0) fun aH=>
 OP (ai .and aH y1) fun bk=>
 OP (ai .xor x0 y1) fun aO=>
 OP (gJ .xor aO) fun aX=>
 OP (ai .and aX aC) fun bF=>
 OP (ai .or bk bF) fun cB=>
 OP (ai .shr cB (.int .u64 (31))) fun bu=>
 K (.tuple #[aC,bu]) h
theorem av8:aq P aaJ (aT [.tmp 6,.tmp 7] K) (bt [x0,y1,x2]) h=N7 P K x0 y1 x2 h:=by kernel_rfl
theorem f134 {K:VK} {x0 y1 x2:Value} {h:ae} (H:N7 prog K x0 y1 x2 h):ak prog 134 [x0,y1,x2] h K:=
 bK azG (bI rfl) ((av8 prog K x0 y1 x2 h).mpr H)
end
end
section
variable (P : Program) (K : VK)
noncomputable section
variable (a0 a1 s4 : Value) (h : ae)
def aia:=bz prog 45 [[],[],[],[],[],[],[1,4],[],[],[],[],[],[],[],[]]
@[irreducible] def PU:=bJ aia
@[irreducible] def atm:=PU.r.r.r.r.l
theorem k45:aia=some (32,PU,[.tmp 2,.tmp 3]):=by kernel_rfl
def ap3 (_P:Program) (K:VK):ar:=aT [.tmp 2,.tmp 3] K
def KV:Prop:=ay (aq P atm (ap3 P K)) [1,4] [a1,s4] h
theorem aCz:KV P K a1 s4 h=
 (OP (af true 4 h a1) fun aQ=>
 ak P 90 [aQ] h fun aO z1=>
 aR aO
 (K (.tuple #[s4,(.int .i64 (0))]) z1)
 (OP (aL 2 a1) fun aZ=>
 OP (aL 1 aZ) fun bF=>
 OP (af false 1 z1 bF) fun cB=>
 ak P 89 [cB] z1 fun bu z2=>
 OP (gI bu) fun cw=>
 OP (ai .gtr cw (.int .i64 (4000))) fun bZ=>
 aR bZ
 (K (.tuple #[(.string ⟨#[]⟩),(.int .i64 (4))]) z2)
 (OP (ai .add s4 (.string ⟨#[47]⟩)) fun cM=>
 OP (ai .add cM bu) fun cE=>
 K (.tuple #[cE,(.int .i64 (0))]) z2))):=az (by kernel_rfl)
def Ox:Prop:=
 OH (bm 107 h a0) fun a1 z1=>
 OP (aL 0 a1) fun x6=>
 OP (aL 1 x6) fun x7=>
 OP (af false 1 z1 x7) fun x8=>
 ak P 89 [x8] z1 fun x9 z2=>
 OP (gI x9) fun au=>
 OP (ai .gtr au (.int .i64 (4000))) fun aC=>
 aR aC
 (K (.tuple #[(.string ⟨#[]⟩),(.int .i64 (4))]) z2)
 (OP (aL 0 a1) fun aB=>
 OP (aL 0 aB) fun aH=>
 OP (af false 1 z2 aH) fun bc=>
 aR bc
 (OP (ai .add (.string ⟨#[45]⟩) x9) fun bN=>
 KV P K a1 bN z2)
 (KV P K a1 x9 z2))
theorem e45:aq P PU (aT [.tmp 2,.tmp 3] K) (bt [a0]) h=Ox P K a0 h:=by kernel_rfl
theorem f45 {K:VK} {a0:Value} {h:ae} (H:Ox prog K a0 h):ak prog 45 [a0] h K:=
 bK k45 (bI rfl) ((e45 prog K a0 h).mpr H)
end
noncomputable section
variable (n0 : Value) (h : ae)
def aix:=bz prog 75 [[],[]]
@[irreducible] def c75:=bJ aix
theorem k75:aix=some (7,c75,[.cell true 4 2]):=by kernel_rfl
def OU:Prop:=
 OH (aV 107 [(.bool false),(.slice none 0 0),(.bool false),(.slice none 0 0)] h) fun x2 z1=>
 ak P 105 [n0] z1 fun x4 z2=>
 ak P 105 [(.int .i64 (1))] z2 fun x5 z3=>
 OP (dd [(.bool false),(.slice none 0 0),(.bool false),(.slice none 0 0)] [(0,2,x4),(2,2,x5)]) fun x6=>
 OH (aF 4 z3 x2 x6) fun _ z4=>
 OP (af true 4 z4 x2) fun r0=>
 K r0 z4
theorem e75:aq P c75 (aT [.cell true 4 2] K) (bt [n0]) h=OU P K n0 h:=by kernel_rfl
theorem f75 {K:VK} {n0:Value} {h:ae} (H:OU prog K n0 h):ak prog 75 [n0] h K:=
 bK k75 (bI rfl) ((e75 prog K n0 h).mpr H)
end
noncomputable section
variable (a0 b1 : Value) (h : ae)
def aiz:=bz prog 77 [[],[]]
@[irreducible] def c77:=bJ aiz
theorem k77:aiz=some (16,c77,[.cell true 4 4]):=by kernel_rfl
def OV:Prop:=
 OH (bm 107 h a0) fun a2 z1=>
 OH (bm 107 z1 b1) fun b3 z2=>
 OH (aV 107 [(.bool false),(.slice none 0 0),(.bool false),(.slice none 0 0)] z2) fun x4 z3=>
 OP (aL 0 a2) fun x5=>
 OP (af true 2 z3 x5) fun x6=>
 (True)∧
 OP (aL 2 b3) fun x7=>
 OP (af true 2 z3 x7) fun x8=>
 (True)∧
 ak P 107 [x6,x8] z3 fun x9 z4=>
 (True)∧
 OP (aL 2 a2) fun aM=>
 OP (af true 2 z4 aM) fun au=>
 (af true 2 z3 aM=some au∧True)∧
 OP (aL 0 b3) fun aC=>
 OP (af true 2 z4 aC) fun aB=>
 (af true 2 z3 aC=some aB∧True)∧
 ak P 107 [au,aB] z4 fun aH z5=>
 (True)∧
 ak P 106 [x9,aH] z5 fun bc z6=>
 (True)∧
 OH (aF 4 z6 x4 bc) fun _ z7=>
 (True)∧
 OP (af true 4 z7 x4) fun r0=>
 K r0 z7
theorem e77:aq P c77 (aT [.cell true 4 4] K) (bt [a0,b1]) h=OV P K a0 b1 h:=by kernel_rfl
theorem f77 {K:VK} {a0 b1:Value} {h:ae} (H:OV prog K a0 b1 h):ak prog 77 [a0,b1] h K:=
 bK k77 (bI rfl) ((e77 prog K a0 b1 h).mpr H)
end
noncomputable section
variable (x0 b3 q4 r5 i6 aX bu cw bZ : Value) (L1 L2 : LQ) (xs : List Value) (h : ae)
def aiJ:=bz prog 89 [[],[],[],[],[],[],[0,3],[],[],[],[],[4],[3,5,6],[3,4,5,6,20],[3,4,5,6,20,24],[3,4,5,6,20,24,26],[3,4,5,6,20,27],[],[],[],[],[3,4],[3],[],[]]
@[irreducible] def Io:=bJ aiJ
@[irreducible] def P9:=Io.r.r.r.l.l.l
@[irreducible] def acG:=Io.r.r.r.r
@[irreducible] def Ip:=P9.r.l.r.l.r.l.l
@[irreducible] def acC:=P9.r.l.r.r
@[irreducible] def auL:=acG.l
@[irreducible] def acD:=Ip.l.l.r.l
@[irreducible] def auI:=Ip.l.r
@[irreducible] def auH:=Ip.r
@[irreducible] def auK:=acC.l
@[irreducible] def acE:=acD.r.l
@[irreducible] def acF:=acE.r.l
@[irreducible] def auJ:=acF.r.l
theorem k89:aiJ=some (45,Io,[.tmp 2]):=by kernel_rfl
def Np (_P:Program) (K:VK):ar:=aT [.tmp 2] K
def arf:ar:=aG (aq P acG (Np P K)) (Np P K)
def arh:ar:=bO 0 (arf P K)
def Y6:ar:=aG (fun f' aW=>(([]:List Nat).map f':List Value)=[]∧L1 (([0,3]:List Nat).map f') aW) (arh P K)
def Nq:ar:=bO 1 (Y6 P K L1)
def arc:ar:=aG (aq P acC (Nq P K L1)) (Nq P K L1)
def ard:ar:=bO 2 (arc P K L1)
def Nr:ar:=aG (fun f' aW=>(([4]:List Nat).map f':List Value)=[q4]∧L2 (([3,5,6]:List Nat).map f') aW) (ard P K L1)
def Y5:ar:=aG (aq P auH (Nr P K q4 L1 L2)) (Nr P K q4 L1 L2)
def GV:ar:=aG (aq P auI (Y5 P K q4 L1 L2)) (Y5 P K q4 L1 L2)
def alm:Prop:=ay (aq P P9 (Y6 P K L1)) ([]++[0,3]) ([]++xs) h
def ali:Prop:=ay (aq P Ip (Nr P K q4 L1 L2)) ([4]++[3,5,6]) ([q4]++xs) h
def alj:Prop:=ay (aq P acD (GV P K q4 L1 L2)) [3,4,5,6,20] [b3,q4,r5,i6,aX] h
def U6:Prop:=ay (aq P acE (GV P K q4 L1 L2)) [3,4,5,6,20,24] [b3,q4,r5,i6,aX,bu] h
def U7:Prop:=ay (aq P acF (GV P K q4 L1 L2)) [3,4,5,6,20,24,26] [b3,q4,r5,i6,aX,bu,cw] h
def U8:Prop:=ay (aq P auJ (GV P K q4 L1 L2)) [3,4,5,6,20,27] [b3,q4,r5,i6,aX,bZ] h
def K6:Prop:=ay (aq P auK (Nq P K L1)) [3,4] [b3,q4] h
def alk:Prop:=ay (aq P auL (Np P K)) [3] [b3] h
theorem Lj:U8 P K b3 q4 r5 i6 aX bZ L1 L2 h=
 (OP (bQ aX bZ (.bool false)) fun cG=>
 aR cG
 (OP (ai .rem r5 (.int .u32 (10))) fun dH=>
 OP (ai .add (.int .u32 (48)) dH) fun cT=>
 OP (dA .u8 cT) fun cR=>
 OH (dK 5 1 [(.int .u8 (0))] h [(0,1,cR)]) fun cX z1=>
 OH (dY 5 1 1 z1 b3 cX) fun fE z2=>
 OP (ai .quo r5 (.int .u32 (10))) fun eX=>
 OP (ai .add i6 (.int .i64 (1))) fun dC=>
 ([q4]:List Value)=[q4]∧L2 [fE,eX,dC] z2)
 (K6 P K b3 q4 L1 h)):=az (by kernel_rfl)
theorem Li:U7 P K b3 q4 r5 i6 aX bu cw L1 L2 h=
 (cC aX true
 (OP (bQ bu (.bool true) cw) fun bZ=>
 U8 P K b3 q4 r5 i6 aX bZ L1 L2 h)
 (U8 P K b3 q4 r5 i6 aX undef L1 L2 h)):=az (by kernel_rfl)
theorem VF:U6 P K b3 q4 r5 i6 aX bu L1 L2 h=
 (cC bu false
 (OP (ai .gtr r5 (.int .u32 (0))) fun cw=>
 U7 P K b3 q4 r5 i6 aX bu cw L1 L2 h)
 (U7 P K b3 q4 r5 i6 aX bu undef L1 L2 h)):=az (by kernel_rfl)
theorem amL:alj P K b3 q4 r5 i6 aX L1 L2 h=
 (cC aX true
 (OP (bj q4) fun bF=>
 OP (ai .gtr bF (.int .i64 (0))) fun cB=>
 U6 P K b3 q4 r5 i6 aX cB L1 L2 h)
 (U6 P K b3 q4 r5 i6 aX undef L1 L2 h)):=az (by kernel_rfl)
theorem aD7 (q4:Value) (L1 L2:LQ) (b3 r5 i6:Value) (h:ae):ali P K q4 L1 L2 [b3,r5,i6] h=
 (OP (ai .lss i6 (.int .i64 (9))) fun aO=>
 alj P K b3 q4 r5 i6 aO L1 L2 h):=az (by kernel_rfl)
theorem aD8:K6 P K b3 q4 L1 h=
 (([]:List Value)=[]∧L1 [q4,b3] h):=az (by kernel_rfl)
theorem aEa (L1:LQ) (x0 b3:Value) (h:ae):alm P K L1 [x0,b3] h=
 (OP (bj x0) fun au=>
 OP (ai .gtr au (.int .i64 (0))) fun aC=>
 aR aC
 (ak P 114 [x0,(.int .u32 (1000000000))] h fun bc z1=>
 OP (cg 0 bc) fun bk=>
 OP (cg 1 bc) fun bN=>
 cQ [b3,bN,(.int .i64 (0))] z1 fun L2 xs hx=>
 ali P K bk L1 L2 xs hx)
 (alk P K b3 h)):=az (by kernel_rfl)
theorem aD9:alk P K b3 h=
 (ak P 115 [b3] h fun _ z1=>
 OP (sv z1 b3) fun bH=>
 K bH z1):=az (by kernel_rfl)
def O5:Prop:=
 OP (bj x0) fun x8=>
 OP (ai .eql x8 (.int .i64 (0))) fun x9=>
 aR x9
 (K (.string ⟨#[48]⟩) h)
 (cQ [x0,(.slice none 0 0)] h fun L1 xs hx=>
 alm P K L1 xs hx)
theorem e89:aq P Io (aT [.tmp 2] K) (bt [x0]) h=O5 P K x0 h:=by kernel_rfl
theorem f89 {K:VK} {x0:Value} {h:ae} (H:O5 prog K x0 h):ak prog 89 [x0] h K:=
 bK k89 (bI rfl) ((e89 prog K x0 h).mpr H)
end
noncomputable section
variable (a0 a1 x8 aH : Value) (h : ae)
def aiK:=bz prog 90 [[],[1,8],[8,14],[]]
@[irreducible] def Iq:=bJ aiK
@[irreducible] def acH:=Iq.r.l.r.l
@[irreducible] def auM:=Iq.r.r
@[irreducible] def auN:=acH.r.l
theorem k90:aiK=some (16,Iq,[.tmp 2]):=by kernel_rfl
def Y7 (_P:Program) (K:VK):ar:=aT [.tmp 2] K
def Y8:ar:=aG (aq P auM (Y7 P K)) (Y7 P K)
def aln:Prop:=ay (aq P acH (Y8 P K)) [1,8] [a1,x8] h
def U9:Prop:=ay (aq P auN (Y8 P K)) [8,14] [x8,aH] h
theorem VH:U9 P K x8 aH h=
 (OP (bQ x8 aH (.bool false)) fun bc=>
 K bc h):=az (by kernel_rfl)
theorem VG:aln P K a1 x8 h=
 (cC x8 true
 (OP (aL 2 a1) fun x9=>
 OP (aL 1 x9) fun aM=>
 OP (af false 1 h aM) fun au=>
 OP (bf 1 au (.int .i64 (0))) fun aC=>
 OP (af false 1 h aC) fun aB=>
 OP (ai .eql aB (.int .u32 (1))) fun aH=>
 U9 P K x8 aH h)
 (U9 P K x8 undef h)):=az (by kernel_rfl)
def G0:Prop:=
 OH (bm 107 h a0) fun a1 z1=>
 OP (aL 2 a1) fun x3=>
 OP (aL 1 x3) fun x4=>
 OP (af false 1 z1 x4) fun x5=>
 OP (bj x5) fun x6=>
 OP (ai .eql x6 (.int .i64 (1))) fun x7=>
 aln P K a1 x7 z1
theorem e90:aq P Iq (aT [.tmp 2] K) (bt [a0]) h=G0 P K a0 h:=by kernel_rfl
theorem f90 {K:VK} {a0:Value} {h:ae} (H:G0 prog K a0 h):ak prog 90 [a0] h K:=
 bK k90 (bI rfl) ((e90 prog K a0 h).mpr H)
end
noncomputable section
variable (x0 x1 x2 x3 x4 : Value) (h : ae)
def ahm:=bz prog 106 [[],[],[2,3,4],[],[],[],[],[],[],[]]
@[irreducible] def PC:=bJ ahm
@[irreducible] def ar5:=PC.r.r.l
theorem aze:ahm=some (41,PC,[.cell true 4 4]):=by kernel_rfl
def aoP (_P:Program) (K:VK):ar:=aT [.cell true 4 4] K
def Ud:Prop:=ay (aq P ar5 (aoP P K)) [2,3,4] [x2,x3,x4] h
theorem aBp:Ud P K x2 x3 x4 h=
 (OP (af true 2 h x2) fun bk=>
 OP (af true 2 h x3) fun bN=>
 ak P 120 [bk,bN] h fun aQ z1=>
 OH (aV 105 [(.bool false),(.slice none 0 0)] z1) fun g5 z2=>
 OH (aF 2 z2 g5 aQ) fun _ z3=>
 OP (af true 2 z3 g5) fun aO=>
 (True)∧
 ak P 105 [(.int .i64 (1))] z3 fun aX z4=>
 (af true 2 z4 g5=some aO∧True)∧
 ak P 111 [aO,aX] z4 fun aZ z5=>
 (True)∧
 OP (ai .eql aZ (.int .i64 (0))) fun bF=>
 aR bF
 (OP (af true 2 z5 x2) fun cB=>
 OP (af true 2 z5 x3) fun bu=>
 OP (dd [(.bool false),(.slice none 0 0),(.bool false),(.slice none 0 0)] [(0,2,cB),(2,2,bu)]) fun ca=>
 OH (aF 4 z5 x4 ca) fun _ z6=>
 OP (af true 4 z6 x4) fun r0=>
 K r0 z6)
 (OP (af true 2 z5 x2) fun bZ=>
 OP (af true 2 z5 g5) fun cG=>
 ak P 121 [bZ,cG] z5 fun cM z6=>
 OP (cg 0 cM) fun dC=>
 OP (cg 1 cM) fun cE=>
 OH (aV 105 [(.bool false),(.slice none 0 0)] z6) fun n6 z7=>
 OH (aV 105 [(.bool false),(.slice none 0 0)] z7) fun x7 z8=>
 OH (aF 2 z8 n6 dC) fun _ z9=>
 OH (aF 2 z9 x7 cE) fun _ jz=>
 OP (af true 2 jz x3) fun dH=>
 OP (af true 2 jz g5) fun cT=>
 ak P 121 [dH,cT] jz fun cR kl=>
 OP (cg 0 cR) fun cX=>
 OP (cg 1 cR) fun fE=>
 OH (aV 105 [(.bool false),(.slice none 0 0)] kl) fun d8 nc=>
 OH (aV 105 [(.bool false),(.slice none 0 0)] nc) fun x9 qx=>
 OH (aF 2 qx d8 cX) fun _ vk=>
 OH (aF 2 vk x9 fE) fun _ mE=>
 OP (af true 2 mE n6) fun dI=>
 OP (af true 2 mE d8) fun eX=>
 OP (dd [(.bool false),(.slice none 0 0),(.bool false),(.slice none 0 0)] [(0,2,dI),(2,2,eX)]) fun ef=>
 OH (aF 4 mE x4 ef) fun _ vA=>
 OP (af true 4 vA x4) fun r0=>
 K r0 vA)):=az (by kernel_rfl)
def NG:Prop:=
 OH (bm 105 h x0) fun x2 z1=>
 OH (bm 105 z1 x1) fun x3 z2=>
 OH (aV 107 [(.bool false),(.slice none 0 0),(.bool false),(.slice none 0 0)] z2) fun x4 z3=>
 OP (aL 0 x3) fun aM=>
 OP (af false 1 z3 aM) fun au=>
 aR au
 (OP (af true 2 z3 x2) fun aC=>
 (True)∧
 ak P 119 [aC] z3 fun aB z4=>
 (True)∧
 OP (af true 2 z4 x3) fun aH=>
 (af true 2 z3 x3=some aH∧True)∧
 ak P 119 [aH] z4 fun bc z5=>
 (True)∧
 OH (aF 2 z5 x2 aB) fun _ z6=>
 (True)∧
 OH (aF 2 z6 x3 bc) fun _ z7=>
 (True)∧
 Ud P K x2 x3 x4 z7)
 (Ud P K x2 x3 x4 z3)
theorem avG:aq P PC (aT [.cell true 4 4] K) (bt [x0,x1]) h=NG P K x0 x1 h:=by kernel_rfl
theorem f106 {K:VK} {x0 x1:Value} {h:ae} (H:NG prog K x0 x1 h):ak prog 106 [x0,x1] h K:=
 bK aze (bI rfl) ((avG prog K x0 x1 h).mpr H)
end
noncomputable section
variable (a0 b1 x4 x5 y6 : Value) (L1 : LQ) (xs : List Value) (h : ae)
def ahA:=bz prog 120 [[],[],[4],[5,6],[],[],[],[4,5],[]]
@[irreducible] def Hv:=bJ ahA
@[irreducible] def aso:=Hv.r.r.l.l.l
@[irreducible] def aaj:=Hv.r.r.r
@[irreducible] def asn:=aaj.l
theorem azs:ahA=some (26,Hv,[.cell true 2 4]):=by kernel_rfl
def MU (_P:Program) (K:VK):ar:=aT [.cell true 2 4] K
def ao1:ar:=aG (aq P aaj (MU P K)) (MU P K)
def ao2:ar:=bO 0 (ao1 P K)
def ao3:ar:=aG (fun f' aW=>(([4]:List Nat).map f':List Value)=[x4]∧L1 (([5,6]:List Nat).map f') aW) (ao2 P K)
def ajw:Prop:=ay (aq P aso (ao3 P K x4 L1)) ([4]++[5,6]) ([x4]++xs) h
def ajv:Prop:=ay (aq P asn (MU P K)) [4,5] [x4,x5] h
theorem aBB (x4:Value) (L1:LQ) (x5 y6:Value) (h:ae):ajw P K x4 L1 [x5,y6] h=
 (OP (bj y6) fun aH=>
 OP (ai .gtr aH (.int .i64 (0))) fun bc=>
 aR bc
 (ak P 130 [x5,y6] h fun aO z1=>
 OP (cg 0 aO) fun _=>
 OP (cg 1 aO) fun aZ=>
 ([x4]:List Value)=[x4]∧L1 [y6,aZ] z1)
 (ajv P K x4 x5 h)):=az (by kernel_rfl)
theorem aBA:ajv P K x4 x5 h=
 (ak P 117 [(.bool false),x5] h fun ca z1=>
 OH (aF 2 z1 x4 ca) fun _ z2=>
 OP (af true 2 z2 x4) fun r0=>
 K r0 z2):=az (by kernel_rfl)
def NU:Prop:=
 OH (bm 105 h a0) fun a2 z1=>
 OH (bm 105 z1 b1) fun b3 z2=>
 OH (aV 105 [(.bool false),(.slice none 0 0)] z2) fun x4 z3=>
 OP (aL 1 a2) fun x9=>
 OP (af false 1 z3 x9) fun aM=>
 (True)∧
 OP (aL 1 b3) fun au=>
 OP (af false 1 z3 au) fun aC=>
 (True)∧
 cQ [aM,aC] z3 fun L1 xs hx=>
 ajw P K x4 L1 xs hx
theorem avU:aq P Hv (aT [.cell true 2 4] K) (bt [a0,b1]) h=NU P K a0 b1 h:=by kernel_rfl
theorem f120 {K:VK} {a0 b1:Value} {h:ae} (H:NU prog K a0 b1 h):ak prog 120 [a0,b1] h K:=
 bK azs (bI rfl) ((avU prog K a0 b1 h).mpr H)
end
noncomputable section
variable (a0 b1 a2 b3 x4 x5 x8 y9 cS fE : Value) (h : ae)
def ahB:=bz prog 121 [[],[],[],[2,3,4,5,8,9,32],[3,4,5,8,9,32,37],[],[4,5,8,9],[]]
@[irreducible] def DK:=bJ ahB
@[irreducible] def aal:=DK.r.r.r.l.l.r.l
@[irreducible] def asq:=DK.r.r.r.l.r
@[irreducible] def aak:=DK.r.r.r.r
@[irreducible] def asr:=aal.r.l
@[irreducible] def asp:=aak.l
theorem azt:ahB=some (47,DK,[.cell true 2 4,.cell true 2 5]):=by kernel_rfl
def MV (_P:Program) (K:VK):ar:=aT [.cell true 2 4,.cell true 2 5] K
def Yb:ar:=aG (aq P aak (MV P K)) (MV P K)
def Yc:ar:=aG (aq P asq (Yb P K)) (Yb P K)
def ajx:Prop:=ay (aq P aal (Yc P K)) [2,3,4,5,8,9,32] [a2,b3,x4,x5,x8,y9,cS] h
def Um:Prop:=ay (aq P asr (Yc P K)) [3,4,5,8,9,32,37] [b3,x4,x5,x8,y9,cS,fE] h
def Ul:Prop:=ay (aq P asp (MV P K)) [4,5,8,9] [x4,x5,x8,y9] h
theorem aBE:Um P K b3 x4 x5 x8 y9 cS fE h=
 (OP (bQ cS fE (.bool false)) fun dI=>
 aR dI
 (OP (af true 2 h x8) fun eX=>
 (True)∧
 ak P 105 [(.int .i64 (1))] h fun ef z1=>
 (af true 2 z1 x8=some eX∧True)∧
 ak P 127 [eX,ef] z1 fun eG z2=>
 (True)∧
 OP (af true 2 z2 y9) fun eZ=>
 (af true 2 h y9=some eZ∧af true 2 z1 y9=some eZ∧True)∧
 OP (af true 2 z2 b3) fun bY=>
 (af true 2 h b3=some bY∧af true 2 z1 b3=some bY∧True)∧
 ak P 113 [eZ,bY] z2 fun bH z3=>
 (True)∧
 OH (aF 2 z3 x8 eG) fun _ z4=>
 (True)∧
 OH (aF 2 z4 y9 bH) fun _ z5=>
 (True)∧
 Ul P K x4 x5 x8 y9 z5)
 (Ul P K x4 x5 x8 y9 h)):=az (by kernel_rfl)
theorem aBD:ajx P K a2 b3 x4 x5 x8 y9 cS h=
 (cC cS true
 (OP (aL 0 a2) fun dH=>
 OP (af false 1 h dH) fun cT=>
 OP (aL 0 b3) fun cR=>
 OP (af false 1 h cR) fun cX=>
 OP (uJ true cT cX) fun fE=>
 Um P K b3 x4 x5 x8 y9 cS fE h)
 (Um P K b3 x4 x5 x8 y9 cS undef h)):=az (by kernel_rfl)
theorem aBC:Ul P K x4 x5 x8 y9 h=
 (OP (af true 2 h x8) fun cP=>
 (True)∧
 OP (af true 2 h y9) fun dD=>
 (True)∧
 OH (aF 2 h x4 cP) fun _ z1=>
 (af true 2 z1 y9=some dD∧True)∧
 OH (aF 2 z1 x5 dD) fun _ z2=>
 (True)∧
 OP (af true 2 z2 x4) fun r0=>
 OP (af true 2 z2 x5) fun r1=>
 K (.tuple #[r0,r1]) z2):=az (by kernel_rfl)
def NV:Prop:=
 OH (bm 105 h a0) fun a2 z1=>
 OH (bm 105 z1 b1) fun b3 z2=>
 OH (aV 105 [(.bool false),(.slice none 0 0)] z2) fun x4 z3=>
 OH (aV 105 [(.bool false),(.slice none 0 0)] z3) fun x5 z4=>
 OP (aL 1 a2) fun au=>
 OP (af false 1 z4 au) fun aC=>
 OP (aL 1 b3) fun aB=>
 OP (af false 1 z4 aB) fun aH=>
 ak P 130 [aC,aH] z4 fun bc z5=>
 OP (cg 0 bc) fun bk=>
 OP (cg 1 bc) fun bN=>
 OH (aV 105 [(.bool false),(.slice none 0 0)] z5) fun x8 z6=>
 OP (eC z6 x8) fun u=>
 (True)∧
 OH (aV 105 [(.bool false),(.slice none 0 0)] z6) fun y9 z7=>
 OP (eC z7 y9) fun x1=>
 (eC z7 x8=some u∧True)∧
 OP (aL 0 a2) fun aQ=>
 OP (af false 1 z7 aQ) fun aO=>
 (af false 1 z5 aQ=some aO∧af false 1 z6 aQ=some aO∧True)∧
 OP (aL 0 b3) fun aX=>
 OP (af false 1 z7 aX) fun aZ=>
 (af false 1 z5 aX=some aZ∧af false 1 z6 aX=some aZ∧True)∧
 OP (uJ true aO aZ) fun bF=>
 ak P 117 [bF,bk] z7 fun bu z8=>
 (eC z8 x8=some u∧eC z8 y9=some x1∧True)∧
 OP (aL 0 a2) fun ca=>
 OP (af false 1 z8 ca) fun cw=>
 (af false 1 z5 ca=some cw∧af false 1 z6 ca=some cw∧af false 1 z7 ca=some cw∧True)∧
 ak P 117 [cw,bN] z8 fun cG z9=>
 (eC z9 x8=some u∧eC z9 y9=some x1∧True)∧
 OH (aF 2 z9 x8 bu) fun _ jz=>
 (True)∧
 OH (aF 2 jz y9 cG) fun _ kl=>
 (True)∧
 OP (bj bN) fun dC=>
 OP (ai .gtr dC (.int .i64 (0))) fun cE=>
 ajx P K a2 b3 x4 x5 x8 y9 cE kl
theorem avV:aq P DK (aT [.cell true 2 4,.cell true 2 5] K) (bt [a0,b1]) h=NV P K a0 b1 h:=by kernel_rfl
theorem f121 {K:VK} {a0 b1:Value} {h:ae} (H:NV prog K a0 b1 h):ak prog 121 [a0,b1] h K:=
 bK azt (bI rfl) ((avV prog K a0 b1 h).mpr H)
end
noncomputable section
variable (a0 b1 x8 v9 sK nA sG uM : Value) (L1 : LQ) (xs : List Value) (h : ae)
def ahK:=bz prog 130 [[],[],[],[],[],[],[],[],[],[],[],[],[],[8,9,10,11,12],[13],[],[],[],[8,10,11,12],[]]
@[irreducible] def HE:=bJ ahK
@[irreducible] def asN:=HE.r.r.r.r.r.r.r.l.r.l.l
@[irreducible] def aaF:=HE.r.r.r.r.r.r.r.r
@[irreducible] def asO:=aaF.l
theorem azC:ahK=some (85,HE,[.tmp 4,.tmp 5]):=by kernel_rfl
def M1 (_P:Program) (K:VK):ar:=aT [.tmp 4,.tmp 5] K
def apu:ar:=aG (aq P aaF (M1 P K)) (M1 P K)
def apv:ar:=bO 0 (apu P K)
def apw:ar:=aG (fun f' aW=>(([8,9,10,11,12]:List Nat).map f':List Value)=[x8,v9,sK,nA,sG]∧L1 (([13]:List Nat).map f') aW) (apv P K)
def Us:Prop:=ay (aq P asN (apw P K x8 v9 sK nA sG L1)) ([8,9,10,11,12]++[13]) ([x8,v9,sK,nA,sG]++xs) h
def ajS:Prop:=ay (aq P asO (M1 P K)) [8,10,11,12] [x8,sK,nA,sG] h
theorem aB1 (x8 v9 sK nA sG:Value) (L1:LQ) (uM:Value) (h:ae):Us P K x8 v9 sK nA sG L1 [uM] h=
 (OP (ai .geq uM (.int .i64 (0))) fun mB=>
 aR mB
 (OP (ai .add uM nA) fun iu=>
 OP (ai .add iu (.int .i64 (1))) fun mC=>
 OP (mT 177 1 sK (some uM) (some mC)) fun nF=>
 ak P 137 [nF,v9] h fun jU z1=>
 OP (bf 1 sG uM) fun kK=>
 OH (aF 1 z1 kK jU) fun _ z2=>
 OP (ai .sub uM (.int .i64 (1))) fun jx=>
 ([x8,v9,sK,nA,sG]:List Value)=[x8,v9,sK,nA,sG]∧L1 [jx] z2)
 (ajS P K x8 sK nA sG h)):=az (by kernel_rfl)
theorem aB2:ajS P K x8 sK nA sG h=
 (ak P 118 [sG] h fun fK z1=>
 (True)∧
 OP (mT 177 1 sK none (some nA)) fun jV=>
 ak P 118 [jV] z1 fun gW z2=>
 (True)∧
 ak P 138 [gW,x8] z2 fun gX z3=>
 (True)∧
 K (.tuple #[fK,gX]) z3):=az (by kernel_rfl)
def GZ:Prop:=
 ak P 126 [a0,b1] h fun bk z1=>
 OP (ai .lss bk (.int .i64 (0))) fun bN=>
 aR bN
 (OH (dY 177 1 4 z1 (.slice none 0 0) a0) fun aO z2=>
 K (.tuple #[(.slice none 0 0),aO]) z2)
 (OP (bj b1) fun aZ=>
 OP (ai .eql aZ (.int .i64 (1))) fun bF=>
 aR bF
 (OP (bf 1 b1 (.int .i64 (0))) fun cw=>
 OP (af false 1 z1 cw) fun bZ=>
 ak P 114 [a0,bZ] z1 fun cG z2=>
 OP (cg 0 cG) fun cM=>
 OP (cg 1 cG) fun dC=>
 OH (dK 177 1 [(.int .u32 (0))] z2 [(0,1,dC)]) fun dH z3=>
 ak P 118 [dH] z3 fun cT z4=>
 K (.tuple #[cM,cT]) z4)
 (OP (bj b1) fun fE=>
 OP (ai .sub fE (.int .i64 (1))) fun dI=>
 OP (bf 1 b1 dI) fun eX=>
 OP (af false 1 z1 eX) fun ef=>
 ak P 135 [ef] z1 fun eG z2=>
 ak P 136 [b1,eG] z2 fun bH z3=>
 ak P 118 [bH] z3 fun cP z4=>
 ak P 136 [a0,eG] z4 fun fP z5=>
 OP (bj cP) fun bV=>
 OP (bj a0) fun db=>
 OP (ai .sub db bV) fun dw=>
 OP (ai .add dw (.int .i64 (1))) fun gP=>
 OH (mb 177 4 [(.int .u32 (0))] z5 gP gP) fun jj z6=>
 OP (bj a0) fun gu=>
 OP (ai .sub gu bV) fun kI=>
 cQ [kI] z6 fun L1 xs hx=>
 Us P K eG cP fP bV jj L1 xs hx))
theorem av4:aq P HE (aT [.tmp 4,.tmp 5] K) (bt [a0,b1]) h=GZ P K a0 b1 h:=by kernel_rfl
theorem f130 {K:VK} {a0 b1:Value} {h:ae} (H:GZ prog K a0 b1 h):ak prog 130 [a0,b1] h K:=
 bK azC (bI rfl) ((av4 prog K a0 b1 h).mpr H)
end
end
section
def br:Nat:=4294967296^100
theorem agw {n:Nat} (h:n<4294967296^20):n<br:=Nat.lt_of_lt_of_le h (Nat.pow_le_pow_right (by decide) (by decide))
theorem qD {xs:List Nat} (h:dE 4294967296 xs) (hv:val 4294967296 xs<br):xs.length≤100:=h.len (by decide) hv
def DS (e:TypeId) (k:IntKind) (h:ae) (v:Value) (xs:List Nat):Prop:=
 (v=.slice none 0 0∧xs=[])∨∃i,v=sl e i 0 xs.length∧(xs=[]∨∃rest,aP h i=some (xs.map (fun d:Nat=>Value.int k (d:Int))++rest))
theorem DS.mono {e:TypeId} {k:IntKind} {h h':ae} {v:Value} {xs:List Nat} (x:EX h h') (p:DS e k h v xs):DS e k h' v xs:=
 p.imp id fun ⟨i,a,b⟩=>⟨i,a,b.imp id fun ⟨r,c⟩=>⟨r,x.cells c⟩⟩
theorem DS.len {e:TypeId} {k:IntKind} {h:ae} {v:Value} {xs:List Nat} (p:DS e k h v xs):bj v=some (I xs.length):=by
 rcases p with ⟨rfl,rfl⟩ | ⟨i,rfl,_⟩ <;> rfl
theorem DS.get {e:TypeId} {k:IntKind} {h:ae} {v:Value} {xs:List Nat} (p:DS e k h v xs) {j:Nat} (hj:j<xs.length):∃i,bf 1 v (I j)=some (pt i j)∧af false 1 h (pt i j)=some (.int k (xs[j]:Int)):=by
 rcases p with ⟨_,rfl⟩ | ⟨i,rfl,hc⟩
 ·simp at hj
 ·obtain ⟨r,hc⟩:=hc.resolve_left (by rintro rfl;simp at hj)
  refine ⟨i,lP hj,?_⟩
  have:(xs.map (fun d:Nat=>Value.int k (d:Int))++r)[j]?=some (.int k (xs[j]:Int)):=by rw [List.getElem?_append_left (by simpa using hj)];simp [hj]
  simp [af,hc,b9,this]
theorem DS.nil (e:TypeId) (k:IntKind) (h:ae):DS e k h (.slice none 0 0) []:=.inl ⟨rfl,rfl⟩
theorem DS.one {e:TypeId} {k:IntKind} {h:ae} {v:Value} {xs:List Nat} (p:DS e k h v xs):gr v=true∧cW v=[v]:=by
 rcases p with ⟨rfl,_⟩ | ⟨i,rfl,_⟩ <;> exact ⟨rfl,rfl⟩
theorem DS.pop {e:TypeId} {k:IntKind} {h:ae} {v:Value} {xs:List Nat} (p:DS e k h v xs) {n:Nat} (hn:n≤xs.length):∃v',mT e 1 v none (some (I n))=some v'∧DS e k h v' (xs.take n):=by
 rcases p with ⟨rfl,rfl⟩ | ⟨i,rfl,hc⟩
 ·simp at hn;subst hn
  exact ⟨_,rfl,.inl ⟨rfl,rfl⟩⟩
 ·refine ⟨sl e i 0 n,?_,.inr ⟨i,by rw [length_take,Nat.min_eq_left hn],?_⟩⟩
  ·simp [mT,sl,sw,tJ,hn]
  ·rcases hc with rfl | ⟨r,hc⟩
   ·left;simp
   ·right
    refine ⟨(xs.drop n).map (fun d:Nat=>Value.int k (d:Int))++r,?_⟩
    rw [hc,←List.append_assoc,←List.map_append,List.take_append_drop]
def dJ (h:ae) (v:Value) (n:Nat):Prop:=∃xs,DS 177 .u32 h v xs∧dE 4294967296 xs∧val 4294967296 xs=n
theorem dJ.mono {h h':ae} {v:Value} {n:Nat} (x:EX h h') (p:dJ h v n):dJ h' v n:=let ⟨xs,a,b,c⟩:=p;⟨xs,a.mono x,b,c⟩
theorem sQ {h:ae} {K:Value→ae→Prop} {v:Value} {xs:List Nat} (p:DS 177 .u32 h v xs) (hl:cn 4294967296 xs) (hs:xs.length≤1000) (hk:∀v',dJ h v' (val 4294967296 xs)→K v' h):ak prog 118 [v] h K:=by
 refine f118 ?_
 refine dj (σ:=Value×List Nat) (fun p=>[p.1]) (fun _=>h) (fun q=>DS 177 .u32 h q.1 q.2∧cn 4294967296 q.2∧val 4294967296 q.2=val 4294967296 xs∧q.2.length≤1000) (fun q=>q.2.length) (v,xs) rfl rfl ⟨p,hl,rfl,hs⟩ ?_
 rintro ⟨v,ys⟩ ⟨p,hl,hv,hs⟩ L hL
 simp only at p hl hv hs hL⊢
 rw [aBz]
 have done:dE 4294967296 ys→Uk prog K v h:=by
  intro hc
  rw [aBy]
  exact hk v ⟨ys,p,hc,hv⟩
 simp only [p.len,ah,fG]
 by_cases h0:ys.length=0
 ·have:ys=[]:=List.length_eq_zero_iff.1 h0
  rw [aS (show ¬(0:Int)<(ys.length:Int) by omega)]
  simp only [al7,kL,al6,cK,ah,dF]
  exact done (by rw [this];exact dE.nil 4294967296)
 ·rw [aU (show (0:Int)<(ys.length:Int) by omega)]
  have e1:IntKind.wrap .i64 ((ys.length:Int)-1)=((ys.length-1:Nat):Int):=by rw [wrap64 (by omega) (by omega)];omega
  obtain ⟨i,g1,g2⟩:=p.get (j:=ys.length-1) (by omega)
  simp only [al7,jm,p.len,ah,gE,e1,g1,g2,iT,al6,dZ,bR]
  refine ⟨fun hz=>?_,fun hz=>?_⟩
  ·obtain ⟨v',h1,h2⟩:=p.pop (n:=ys.length-1) (by omega)
   simp only [h1,ah,true_and]
   have ayt:ys=ys.take (ys.length-1)++[0]:=by
    have:=List.take_succ_eq_append_getElem (l:=ys) (i:=ys.length-1) (by omega)
    rw [show ys.length-1+1=ys.length by omega,take_length] at this
    have su:ys[ys.length-1]=0:=by omega
    rw [su] at this
    exact this
   refine hL (v',ys.take (ys.length-1)) ⟨h2,hl.mono fun y hy=>List.mem_of_mem_take hy,?_,by rw [length_take];omega⟩ (by simp;omega)
   rw [←hv]
   conv=>rhs;rw [ayt]
   rw [od]
   simp [val]
  ·exact done (Iw hl fun h1 hc=>hz (by rw [hc];rfl))
/-- Fresh digits at the end of the heap. -/
abbrev hd (h:ae) (os:List Nat):ae:=h++[.arr 177 (os.map fun d:Nat=>Value.int .u32 (d:Int))]
theorem AG {h:ae} {n:Nat} (hn:n≤1000):mb 177 4 [.int .u32 0] h (I n) (I n)=some (sl 177 h.length 0 n,hd h (replicate n 0)):=by
 have hz:∀m,gY [Value.int .u32 0] m=(replicate m 0).map fun d:Nat=>Value.int .u32 (d:Int):=by
  intro m
  induction m with
  | zero=>rfl
  | succ m ih=>
   have:gY [Value.int .u32 0] (m+1)=Value.int .u32 0::gY [Value.int .u32 0] m:=by simp [gY,List.replicate_succ]
   rw [this,ih,List.replicate_succ];rfl
 simp only [mb]
 rw [if_pos ⟨by omega,by omega,by omega,by omega⟩,Int.toNat_natCast,hz]
theorem Rw (h:ae) (os:List Nat):(hd h os)[h.length]?=some (.arr 177 (os.map fun d:Nat=>Value.int .u32 (d:Int))):=by simp [hd]
theorem wa {h:ae} {os:List Nat} {j:Nat} (d:Nat) (hj:j<os.length):aF 1 (hd h os) (pt h.length j) (.int .u32 (d:Int))=some (undef,hd h (os.set j d)):=by
 rw [oS (Rw h os) (by simpa using hj) rfl rfl]
 simp [hd,List.map_set]
theorem aer {h:ae} {os:List Nat} {j:Nat} (hj:j<os.length):af false 1 (hd h os) (pt h.length j)=some (.int .u32 (os[j]:Int)):=by
 simp [af,aP,b9,hj]
theorem zG (h:ae) (os:List Nat):DS 177 .u32 (hd h os) (sl 177 h.length 0 os.length) os:=.inr ⟨h.length,rfl,.inr ⟨[],by simp [aP,hd]⟩⟩
theorem kS (h:ae) (os:List Nat):EX h (hd h os):=EX.append _ _
theorem lB {n:Int} (h1:0≤n) (h2:n<18446744073709551616):IntKind.wrap .u64 n=n:=by
 have e:IntKind.wrap .u64 n=n%18446744073709551616:=by simp [IntKind.wrap,IntKind.bits,IntKind.signed]
 rw [e];omega
theorem yB (n:Int):IntKind.wrap .u32 n=n%4294967296:=by simp [IntKind.wrap,IntKind.bits,IntKind.signed]
theorem oT {n:Int} (h1:0≤n) (h2:n<4294967296):IntKind.wrap .u32 n=n:=by rw [yB];omega
theorem A2 (s:Nat):ai .shr (.int .u64 (s:Int)) (.int .u64 32)=some (.int .u64 ((s / 4294967296:Nat):Int)):=by
 simp only [ai,q8]
 rw [if_neg (by omega)]
 have:(min (32:Int).toNat IntKind.u64.bits)=32:=rfl
 rw [this]
 have e2:(2:Int)^32=4294967296:=by decide
 rw [e2,Int.fdiv_eq_ediv_of_nonneg _ (by omega)]
 congr 2
theorem Xo {x y c:Nat} {h:ae} {K:Value→ae→Prop} (hx:x<4294967296) (hy:y<4294967296) (hc:c≤1) (hk:K (.tuple #[.int .u32 (((x+y+c)%4294967296:Nat):Int),.int .u32 (((x+y+c) / 4294967296:Nat):Int)]) h):
  ak prog 133 [.int .u32 (x:Int),.int .u32 (y:Int),.int .u32 (c:Int)] h K:=by
 refine f133 ?_
 have e1:IntKind.wrap .u64 ((x:Int)+(y:Int))=((x+y:Nat):Int):=by rw [lB (by omega) (by omega)];omega
 have e2:IntKind.wrap .u64 (((x+y:Nat):Int)+(c:Int))=((x+y+c:Nat):Int):=by rw [lB (by omega) (by omega)];omega
 have e3:IntKind.wrap .u32 ((x+y+c:Nat):Int)=(((x+y+c)%4294967296:Nat):Int):=by rw [yB];omega
 simp only [N6,jY,ah,cf]
 rw [lB (n:=(x:Int)) (by omega) (by omega),lB (n:=(y:Int)) (by omega) (by omega),e1,lB (n:=(c:Int)) (by omega) (by omega),e2]
 simp only [A2,ah,jY,e3]
 rw [oT (by omega) (by omega)]
 exact hk
theorem Xl {va vb:Value} {xs ys:List Nat} {h:ae} {K:Value→ae→Prop} (hx:DS 177 .u32 h va xs) (hy:DS 177 .u32 h vb ys) (lx:cn 4294967296 xs) (ly:cn 4294967296 ys) (hle:ys.length≤xs.length) (hlen:xs.length≤200)
  (hk:∀v h',EX h h'→dJ h' v (val 4294967296 xs+val 4294967296 ys)→K v h'):KM prog K va vb h:=by
 rw [aBV]
 simp only [hx.len,ah,cf,eR xs.length (by omega),AG (show xs.length+1≤1000 by omega),aA]
 have hW:0<4294967296:=by decide
 refine dj (σ:=Nat×Nat×List Nat) (fun p=>[.int .u32 (p.1:Int),I p.2.1]) (fun p=>hd h p.2.2)
  (fun p=>p.2.1≤xs.length∧p.1≤1∧p.2.2.length=xs.length+1∧cn 4294967296 p.2.2∧(∀j (hj:j<p.2.2.length),p.2.1≤j→p.2.2[j]=0)∧val 4294967296 p.2.2+4294967296^p.2.1*p.1=val 4294967296 (xs.take p.2.1)+val 4294967296 (ys.take p.2.1)) (fun p=>xs.length-p.2.1)
  (0,0,replicate (xs.length+1) 0) rfl rfl ⟨by simp,by simp,by simp,cn.xe hW _,by simp,by simp [yz,val]⟩ ?_
 rintro ⟨c,i,os⟩ ⟨hi,hc,hX,fB,hz,bW⟩ L hL
 simp only at hi hc hX fB hz bW hL⊢
 rw [aBR]
 have bT:=hx.mono (kS h os)
 have qX:=hy.mono (kS h os)
 simp only [cA,ah,bR]
 refine ⟨fun aD=>?_,fun cJ=>?_⟩
 ·have bC:i<xs.length:=by omega
  obtain ⟨ia,a1,a2⟩:=bT.get bC
  have iG:xs[i]<4294967296:=lx _ (getElem_mem bC)
  have go:∀y:Nat,y<4294967296→val 4294967296 (ys.take (i+1))=val 4294967296 (ys.take i)+4294967296^i*y→KL prog K va vb (sl 177 h.length 0 (xs.length+1)) (.int .u32 (c:Int)) (I i) (.int .u32 (y:Int)) (I xs.length) (I i) L (hd h os):=by
   intro y kD Ak
   rw [aBS]
   simp only [a1,ah,a2]
   refine Xo iG kD hc ?_
   simp only [dX,eD,eI,ah,lP (show i<xs.length+1 by omega)]
   rw [wa _ (by omega)]
   simp only [aA,aBT,cf,ah,eR i (by omega),true_and]
   have pA:(xs[i]+y+c)%4294967296<4294967296:=mod_lt _ hW
   have we:(xs[i]+y+c) / 4294967296≤1:=by omega
   refine hL ((xs[i]+y+c) / 4294967296,i+1,os.set i ((xs[i]+y+c)%4294967296)) ⟨by show i+1≤xs.length;omega,we,by show (os.set i _).length=_;rw [length_set];exact hX,fB.set pA i,?_,?_⟩ (by show xs.length-(i+1)<xs.length-i;omega)
   ·intro j hj eP
    show (os.set i _)[j]=0
    have RJ:i≠j:=by have:i+1≤j:=eP;omega
    rw [getElem_set_ne RJ]
    exact hz j (by simpa using hj) (by have:i+1≤j:=eP;omega)
   ·show val 4294967296 (os.set i _)+4294967296^(i+1)*_=val 4294967296 (xs.take (i+1))+val 4294967296 (ys.take (i+1))
    have h1:=tT 4294967296 os i ((xs[i]+y+c)%4294967296) (by omega)
    rw [hz i (by omega) (le_refl _)] at h1
    rw [jw 4294967296 xs bC,Ak,pow_succ]
    have h2:=Nat.mod_add_div (xs[i]+y+c) 4294967296
    generalize (xs[i]+y+c)%4294967296=m at*
    generalize (xs[i]+y+c) / 4294967296=q at*
    generalize 4294967296^i=P at*
    generalize hWW:4294967296=w at*
    grind
  simp only [qX.len,ah,cA,bR]
  refine ⟨fun hly=>?_,fun hgy=>?_⟩
  ·have zP:i<ys.length:=by omega
   obtain ⟨ib,b1,b2⟩:=qX.get zP
   simp only [b1,ah,b2]
   exact go _ (ly _ (getElem_mem zP)) (jw 4294967296 ys zP)
  ·have:=go 0 (by decide) (by rw [take_of_length_le (by omega),take_of_length_le (by omega)];simp)
   simpa using this
 ·have:i=xs.length:=by omega
  subst this
  rw [aBU]
  simp only [bT.len,ah,lP (show xs.length<xs.length+1 by omega)]
  rw [wa _ (by omega)]
  simp only [aA]
  have h1:=tT 4294967296 os xs.length c (by omega)
  rw [hz xs.length (by omega) (le_refl _)] at h1
  have hv:val 4294967296 (os.set xs.length c)=val 4294967296 xs+val 4294967296 ys:=by
   rw [take_length,take_of_length_le hle] at bW
   omega
  have hcW:c<4294967296:=Nat.lt_of_le_of_lt hc (by decide)
  have e:sl 177 h.length 0 (xs.length+1)=sl 177 h.length 0 (os.set xs.length c).length:=by rw [length_set,hX]
  rw [e]
  refine sQ (zG h _) (fB.set hcW _) (by rw [length_set];omega) ?_
  intro v' hm
  rw [hv] at hm
  exact hk v' _ (kS h _) hm
theorem Xk {va vb:Value} {a b:Nat} {h:ae} {K:Value→ae→Prop} (ha:dJ h va a) (hb:dJ h vb b) (la:a<br) (lb:b<br) (hk:∀v h',EX h h'→dJ h' v (a+b)→K v h'):ak prog 128 [va,vb] h K:=by
 obtain ⟨xs,dx,cx,rfl⟩:=ha
 obtain ⟨ys,dy,cy,rfl⟩:=hb
 have l1:=qD cx la
 have l2:=qD cy lb
 refine f128 ?_
 simp only [N2,dx.len,dy.len,ah,cA,bR]
 refine ⟨fun aD=>?_,fun cJ=>?_⟩
 ·refine Xl dy dx cy.1 cx.1 (by omega) (by omega) ?_
  rw [Nat.add_comm (val 4294967296 ys)]
  exact hk
 ·exact Xl dx dy cx.1 cy.1 (by omega) (by omega) hk
end
section
theorem yW (X:BitVec 32):BitVec.ofInt IntKind.u32.bits (X.toNat:Int)=X:=by
 show BitVec.ofInt 32 (X.toNat:Int)=X
 rw [BitVec.ofInt_natCast,BitVec.ofNat_toNat,BitVec.setWidth_eq]
theorem DG (X:BitVec 32):X.toNat<4294967296:=X.isLt
theorem arB (X Y:BitVec 32):ai .and (.int .u32 (X.toNat:Int)) (.int .u32 (Y.toNat:Int))=some (.int .u32 ((X &&& Y).toNat:Int)):=by
 have h:=DG (X &&& Y)
 have e:(BitVec.ofInt IntKind.u32.bits (X.toNat:Int) &&& BitVec.ofInt IntKind.u32.bits (Y.toNat:Int)).toNat=(X &&& Y).toNat:=by rw [yW,yW];rfl
 simp only [ai,hZ,if_true]
 rw [e,oT (by omega) (by omega)]
theorem aAL (X Y:BitVec 32):ai .or (.int .u32 (X.toNat:Int)) (.int .u32 (Y.toNat:Int))=some (.int .u32 ((X ||| Y).toNat:Int)):=by
 have h:=DG (X ||| Y)
 have e:(BitVec.ofInt IntKind.u32.bits (X.toNat:Int) ||| BitVec.ofInt IntKind.u32.bits (Y.toNat:Int)).toNat=(X ||| Y).toNat:=by rw [yW,yW];rfl
 simp only [ai,hZ,if_true]
 rw [e,oT (by omega) (by omega)]
theorem aGD (X Y:BitVec 32):ai .xor (.int .u32 (X.toNat:Int)) (.int .u32 (Y.toNat:Int))=some (.int .u32 ((X^^^Y).toNat:Int)):=by
 have h:=DG (X^^^Y)
 have e:(BitVec.ofInt IntKind.u32.bits (X.toNat:Int)^^^BitVec.ofInt IntKind.u32.bits (Y.toNat:Int)).toNat=(X^^^Y).toNat:=by rw [yW,yW];rfl
 simp only [ai,hZ,if_true]
 rw [e,oT (by omega) (by omega)]
theorem aAu (X:BitVec 32):gJ .xor (.int .u32 (X.toNat:Int))=some (.int .u32 ((~~~X).toNat:Int)):=by
 have h:=DG (~~~X)
 have e:(BitVec.ofInt IntKind.u32.bits (if IntKind.u32.signed=true then -1 else IntKind.u32.max)^^^BitVec.ofInt IntKind.u32.bits (X.toNat:Int)).toNat=(~~~X).toNat:=by
  rw [yW]
  show (BitVec.ofInt 32 4294967295^^^X).toNat=_
  rw [show BitVec.ofInt 32 4294967295=BitVec.allOnes 32 from by decide,BitVec.allOnes_xor]
 simp only [gJ]
 rw [e,oT (by omega) (by omega)]
theorem aFS (Z:BitVec 32):ai .shr (.int .u32 (Z.toNat:Int)) (.int .u64 31)=some (.int .u32 ((if Z.msb then 1 else 0:Nat):Int)):=by
 have h:=DG Z
 simp only [ai,q8]
 rw [if_neg (by omega)]
 have:(min (31:Int).toNat IntKind.u32.bits)=31:=rfl
 rw [this]
 have e2:(2:Int)^31=2147483648:=by decide
 rw [e2,Int.fdiv_eq_ediv_of_nonneg _ (by omega),BitVec.msb_eq_decide]
 congr 2
 by_cases hz:2^31≤Z.toNat
 ·simp [hz];omega
 ·simp [hz];omega
theorem Xp {x y b:Nat} {h:ae} {K:Value→ae→Prop} (hx:x<4294967296) (hy:y<4294967296) (hb:b≤1) (hk:K (.tuple #[.int .u32 (((x+4294967296+4294967296-y-b)%4294967296:Nat):Int),.int .u32 ((if x<y+b then 1 else 0:Nat):Int)]) h):
  ak prog 134 [.int .u32 (x:Int),.int .u32 (y:Int),.int .u32 (b:Int)] h K:=by
 refine f134 ?_
 obtain ⟨X,rfl⟩:∃X:BitVec 32,x=X.toNat:=⟨BitVec.ofNat 32 x,by rw [BitVec.toNat_ofNat];exact (Nat.mod_eq_of_lt hx).symm⟩
 obtain ⟨Y,rfl⟩:∃Y:BitVec 32,y=Y.toNat:=⟨BitVec.ofNat 32 y,by rw [BitVec.toNat_ofNat];exact (Nat.mod_eq_of_lt hy).symm⟩
 obtain ⟨D,hD⟩:∃D:BitVec 32,D.toNat=(X.toNat+4294967296+4294967296-Y.toNat-b)%4294967296:=⟨BitVec.ofNat 32 _,by rw [BitVec.toNat_ofNat]⟩
 have e1:IntKind.wrap .u32 (IntKind.wrap .u32 ((X.toNat:Int)-(Y.toNat:Int))-(b:Int))=(D.toNat:Int):=by
  rw [yB,yB,hD];omega
 simp only [N7,gE,ah,e1,aAu,arB,aGD,aAL,aFS]
 rw [←hD] at hk
 have e2:(if (~~~X &&& Y ||| ~~~(X^^^Y) &&& D).msb then 1 else 0:Nat)=if X.toNat<Y.toNat+b then 1 else 0:=by
  rw [BitVec.msb_or,BitVec.msb_and,BitVec.msb_and,BitVec.msb_not,BitVec.msb_not,BitVec.msb_xor,BitVec.msb_eq_decide X,BitVec.msb_eq_decide Y,BitVec.msb_eq_decide D]
  by_cases c1:2^(32-1)≤X.toNat <;> by_cases c2:2^(32-1)≤Y.toNat <;> by_cases c3:2^(32-1)≤D.toNat <;> simp [c1,c2,c3] <;> omega
 rw [e2]
 exact hk
theorem Xm {va vb:Value} {a b:Nat} {h:ae} {K:Value→ae→Prop} (ha:dJ h va a) (hb:dJ h vb b) (la:a<br) (iD:b≤a) (hk:∀v h',EX h h'→dJ h' v (a-b)→K v h'):ak prog 129 [va,vb] h K:=by
 obtain ⟨xs,hx,cx,rfl⟩:=ha
 obtain ⟨ys,hy,cy,rfl⟩:=hb
 have l1:=qD cx la
 have l2:=qD cy (Nat.lt_of_le_of_lt iD la)
 have hle:ys.length≤xs.length:=by
  apply byContradiction
  intro hc
  have:=dE.AF (by decide) cx cy (by omega)
  omega
 refine f129 ?_
 simp only [N3,hx.len,ah,AG (show xs.length≤1000 by omega),aA]
 have hW:(0:Nat)<4294967296:=by decide
 refine dj (σ:=Nat×Nat×List Nat) (fun p=>[.int .u32 (p.1:Int),I p.2.1]) (fun p=>hd h p.2.2)
  (fun p=>p.2.1≤xs.length∧p.1≤1∧p.2.2.length=xs.length∧cn 4294967296 p.2.2∧(∀j (hj:j<p.2.2.length),p.2.1≤j→p.2.2[j]=0)∧val 4294967296 p.2.2+val 4294967296 (ys.take p.2.1)=val 4294967296 (xs.take p.2.1)+4294967296^p.2.1*p.1) (fun p=>xs.length-p.2.1)
  (0,0,replicate xs.length 0) rfl rfl ⟨by simp,by simp,by simp,cn.xe hW _,by simp,by simp [yz,val]⟩ ?_
 rintro ⟨c,i,os⟩ ⟨hi,hc,hX,fB,hz,bW⟩ L hL
 simp only at hi hc hX fB hz bW hL⊢
 rw [aBZ]
 have bT:=hx.mono (kS h os)
 have qX:=hy.mono (kS h os)
 simp only [cA,ah,bR]
 refine ⟨fun aD=>?_,fun cJ=>?_⟩
 ·have bC:i<xs.length:=by omega
  obtain ⟨ia,a1,a2⟩:=bT.get bC
  have iG:xs[i]<4294967296:=cx.1 _ (getElem_mem bC)
  have go:∀y:Nat,y<4294967296→val 4294967296 (ys.take (i+1))=val 4294967296 (ys.take i)+4294967296^i*y→KN prog K va vb (sl 177 h.length 0 xs.length) (.int .u32 (c:Int)) (I i) (.int .u32 (y:Int)) (I xs.length) (I i) L (hd h os):=by
   intro y kD Ak
   rw [aBW]
   simp only [a1,ah,a2]
   refine Xp iG kD hc ?_
   simp only [dX,eD,eI,ah,lP bC]
   rw [wa _ (by omega)]
   simp only [aA,aBX,cf,ah,eR i (by omega),true_and]
   have pA:(xs[i]+4294967296+4294967296-y-c)%4294967296<4294967296:=mod_lt _ hW
   have lV:(if xs[i]<y+c then 1 else 0)≤1:=by split <;> omega
   have hs:(xs[i]+4294967296+4294967296-y-c)%4294967296+y+c=xs[i]+4294967296*(if xs[i]<y+c then 1 else 0):=by
    split <;> omega
   refine hL ((if xs[i]<y+c then 1 else 0),i+1,os.set i ((xs[i]+4294967296+4294967296-y-c)%4294967296)) ⟨by show i+1≤xs.length;omega,lV,by show (os.set i _).length=_;rw [length_set];exact hX,fB.set pA i,?_,?_⟩ (by show xs.length-(i+1)<xs.length-i;omega)
   ·intro j hj eP
    show (os.set i _)[j]=0
    have RJ:i≠j:=by have:i+1≤j:=eP;omega
    rw [getElem_set_ne RJ]
    exact hz j (by simpa using hj) (by have:i+1≤j:=eP;omega)
   ·show val 4294967296 (os.set i _)+val 4294967296 (ys.take (i+1))=val 4294967296 (xs.take (i+1))+4294967296^(i+1)*_
    have h1:=tT 4294967296 os i ((xs[i]+4294967296+4294967296-y-c)%4294967296) (by omega)
    rw [hz i (by omega) (le_refl _)] at h1
    rw [jw 4294967296 xs bC,Ak,pow_succ]
    generalize (xs[i]+4294967296+4294967296-y-c)%4294967296=m at*
    generalize (if xs[i]<y+c then 1 else 0)=q at*
    generalize 4294967296^i=P at*
    generalize (4294967296:Nat)=w at*
    grind
  simp only [qX.len,ah,cA,bR]
  refine ⟨fun hly=>?_,fun hgy=>?_⟩
  ·have zP:i<ys.length:=by omega
   obtain ⟨ib,b1,b2⟩:=qX.get zP
   simp only [b1,ah,b2]
   exact go _ (cy.1 _ (getElem_mem zP)) (jw 4294967296 ys zP)
  ·have:=go 0 (by decide) (by rw [take_of_length_le (by omega),take_of_length_le (by omega)];simp)
   simpa using this
 ·have:i=xs.length:=by omega
  subst this
  rw [aBY]
  rw [take_length,take_of_length_le hle] at bW
  have aD:=nD fB
  rw [hX] at aD
  have vZ:c=0:=by
   apply byContradiction
   intro bp
   have:c=1:=by omega
   subst this
   omega
  subst vZ
  have hv:val 4294967296 os=val 4294967296 xs-val 4294967296 ys:=by omega
  have e:sl 177 h.length 0 xs.length=sl 177 h.length 0 os.length:=by rw [hX]
  rw [e]
  refine sQ (zG h _) fB (by omega) ?_
  intro v' hm
  rw [hv] at hm
  exact hk v' _ (kS h _) hm
def nC (a b:Nat):Int:=if a<b then -1 else if b<a then 1 else 0
theorem Mb {B:Nat} {xs ys:List Nat} (lx:cn B xs) (_:cn B ys) (hl:xs.length=ys.length) {i:Nat} (hi:i<xs.length) (hd:xs.drop (i+1)=ys.drop (i+1)) (h:xs[i]<ys[i]'(by omega)):val B xs<val B ys:=by
 have e1:xs=xs.take i++xs[i]::xs.drop (i+1):=by rw [←drop_eq_getElem_cons hi,List.take_append_drop]
 have e2:ys=ys.take i++ys[i]'(by omega)::ys.drop (i+1):=by rw [←drop_eq_getElem_cons (by omega),List.take_append_drop]
 have v1:val B xs=val B (xs.take i)+B^i*(xs[i]+B*val B (xs.drop (i+1))):=by
  conv=>lhs;rw [e1]
  rw [od,length_take,Nat.min_eq_left (by omega)];rfl
 have v2:val B ys=val B (ys.take i)+B^i*(ys[i]'(by omega)+B*val B (ys.drop (i+1))):=by
  conv=>lhs;rw [e2]
  rw [od,length_take,Nat.min_eq_left (by omega)];rfl
 rw [v1,v2,hd]
 have h1:=nD (lx.mono (ys:=xs.take i) fun y hy=>List.mem_of_mem_take hy)
 rw [length_take,Nat.min_eq_left (by omega)] at h1
 have h2:B^i*(xs[i]+1+B*val B (ys.drop (i+1)))≤B^i*(ys[i]'(by omega)+B*val B (ys.drop (i+1))):=Nat.mul_le_mul_left _ (by omega)
 generalize B^i=P at*
 generalize B*val B (ys.drop (i+1))=Q at*
 generalize val B (xs.take i)=u at*
 generalize val B (ys.take i)=v at*
 have h3:P*(xs[i]+1+Q)=P*(xs[i]+Q)+P:=by grind
 omega
theorem Gr {va vb:Value} {a b:Nat} {h:ae} {K:Value→ae→Prop} (ha:dJ h va a) (hb:dJ h vb b) (la:a<br) (lb:b<br) (hk:K (I (nC a b)) h):ak prog 126 [va,vb] h K:=by
 obtain ⟨xs,hx,cx,rfl⟩:=ha
 obtain ⟨ys,hy,cy,rfl⟩:=hb
 have l1:=qD cx la
 have l2:=qD cy lb
 have less:val 4294967296 xs<val 4294967296 ys→K (.int .i64 (-1)) h:=fun h1=>by unfold nC at hk;rw [if_pos h1] at hk;exact hk
 have more:val 4294967296 ys<val 4294967296 xs→K (.int .i64 1) h:=fun h1=>by unfold nC at hk;rw [if_neg (by omega),if_pos h1] at hk;exact hk
 have same:val 4294967296 xs=val 4294967296 ys→K (.int .i64 0) h:=fun h1=>by unfold nC at hk;rw [if_neg (by omega),if_neg (by omega)] at hk;exact hk
 refine f126 ?_
 simp only [N0,hx.len,hy.len,ah,pO,Gz,cA,bR]
 refine ⟨fun bp=>⟨fun aD=>less (dE.AF (by decide) cx cy (by omega)),fun cJ=>more (dE.AF (by decide) cy cx (by omega))⟩,fun he=>?_⟩
 have fV:xs.length=ys.length:=by omega
 simp only [gE,ah]
 have e1:IntKind.wrap .i64 ((xs.length:Int)-1)=(xs.length:Int)-1:=by rw [wrap64 (by omega) (by omega)]
 rw [e1]
 refine dj (σ:=Nat) (fun i=>[I ((i:Int)-1)]) (fun _=>h) (fun i=>i≤xs.length∧xs.drop i=ys.drop i) (fun i=>i) xs.length rfl rfl ⟨le_refl _,by rw [List.drop_length,fV,List.drop_length]⟩ ?_
 rintro i ⟨hi,py⟩ L hL
 rw [aBQ]
 simp only [nk,ah,bR]
 refine ⟨fun cJ=>?_,fun aD=>?_⟩
 ·obtain ⟨j,rfl⟩:∃j,i=j+1:=⟨i-1,by omega⟩
  have ej:(((j+1:Nat):Int)-1)=(j:Int):=by omega
  rw [ej]
  obtain ⟨ia,a1,a2⟩:=hx.get (j:=j) (by omega)
  obtain ⟨ib,b1,b2⟩:=hy.get (j:=j) (by omega)
  simp only [a1,a2,b1,b2,ah,true_and,pO,Gz,cA,bR]
  refine ⟨fun bp=>⟨fun aD=>less (Mb cx.1 cy.1 fV (i:=j) (by omega) py (by omega)),fun cJ=>more (Mb cy.1 cx.1 fV.symm (i:=j) (by omega) py.symm (by omega))⟩,fun heq=>?_⟩
  simp only [gE,ah]
  rw [wrap64 (by omega) (by omega)]
  refine hL j ⟨by omega,?_⟩ (by omega)
  rw [drop_eq_getElem_cons (by omega),drop_eq_getElem_cons (show j<ys.length by omega),py]
  congr 1
  omega
 ·have:i=0:=by omega
  subst this
  rw [drop_zero,drop_zero] at py
  exact same (by rw [py])
end
section
theorem Kq {x y:Nat} (hx:x<4294967296) (hy:y<4294967296):x*y≤18446744065119617025:=by
 have:=Nat.mul_le_mul (show x≤4294967295 by omega) (show y≤4294967295 by omega)
 omega
theorem Xi {va vb:Value} {a b:Nat} {h:ae} {K:Value→ae→Prop} (ha:dJ h va a) (hb:dJ h vb b) (la:a<br) (lb:b<br) (hk:∀v h',EX h h'→dJ h' v (a*b)→K v h'):ak prog 122 [va,vb] h K:=by
 obtain ⟨xs,hx,cx,rfl⟩:=ha
 obtain ⟨ys,hy,cy,rfl⟩:=hb
 have l1:=qD cx la
 have l2:=qD cy lb
 have hW:(0:Nat)<4294967296:=by decide
 refine f122 ?_
 have e0:IntKind.wrap .i64 ((xs.length:Int)+(ys.length:Int))=((xs.length+ys.length:Nat):Int):=by rw [wrap64 (by omega) (by omega)];omega
 simp only [NW,hx.len,hy.len,ah,cf,e0,AG (show xs.length+ys.length≤1000 by omega),aA]
 refine dj (σ:=Nat×List Nat) (fun p=>[I p.1]) (fun p=>hd h p.2)
  (fun p=>p.1≤xs.length∧p.2.length=xs.length+ys.length∧cn 4294967296 p.2∧(∀j (hj:j<p.2.length),p.1+ys.length≤j→p.2[j]=0)∧val 4294967296 p.2=val 4294967296 (xs.take p.1)*val 4294967296 ys) (fun p=>xs.length-p.1)
  (0,replicate (xs.length+ys.length) 0) rfl rfl ⟨by simp,by simp,cn.xe hW _,by simp,by simp [yz,val]⟩ ?_
 rintro ⟨i,os⟩ ⟨hi,hX,fB,hz,bW⟩ L hL
 simp only at hi hX fB hz bW hL⊢
 rw [aBJ]
 have bT:=hx.mono (kS h os)
 simp only [cA,ah,bR]
 refine ⟨fun aD=>?_,fun cJ=>?_⟩
 ·have bC:i<xs.length:=by omega
  obtain ⟨ia,a1,a2⟩:=bT.get bC
  have iG:xs[i]<4294967296:=cx.1 _ (getElem_mem bC)
  simp only [a1,ah,a2,(hy.mono (kS h os)).len]
  have Ag:=jw 4294967296 xs bC
  generalize xs[i]=x at iG Ag
  refine dj (σ:=Nat×Nat×List Nat) (fun p=>[.int .u64 (p.1:Int),I p.2.1]) (fun p=>hd h p.2.2)
   (fun p=>p.2.1≤ys.length∧p.1<4294967296∧p.2.2.length=xs.length+ys.length∧cn 4294967296 p.2.2∧(∀j (hj:j<p.2.2.length),i+ys.length≤j→p.2.2[j]=0)∧val 4294967296 p.2.2+4294967296^(i+p.2.1)*p.1=val 4294967296 os+4294967296^i*(x*val 4294967296 (ys.take p.2.1))) (fun p=>ys.length-p.2.1)
   (0,0,os) rfl rfl ⟨by simp,hW,hX,fB,hz,by simp [val]⟩ ?_
  rintro ⟨c,j,ps⟩ ⟨hj,hc,j6,wu,xZ,xY⟩ L2 gj
  simp only at hj hc j6 wu xZ xY gj⊢
  rw [aBF]
  have qX:=hy.mono (kS h ps)
  simp only [cA,ah,bR]
  refine ⟨fun jZ=>?_,fun Jw=>?_⟩
  ·have mQ:j<ys.length:=by omega
   obtain ⟨ib,b1,b2⟩:=qX.get mQ
   have kD:ys[j]<4294967296:=cy.1 _ (getElem_mem mQ)
   have hyt:=jw 4294967296 ys mQ
   generalize ys[j]=y at b2 kD hyt
   have qi:i+j<ps.length:=by omega
   have axW:ps[i+j]<4294967296:=wu _ (getElem_mem qi)
   have hxy:=Kq iG kD
   have lZ:=tT 4294967296 ps (i+j) ((x*y+ps[i+j]+c)%4294967296) qi
   have ei:IntKind.wrap .i64 ((i:Int)+(j:Int))=((i+j:Nat):Int):=by rw [wrap64 (by omega) (by omega)];omega
   have Qt:((x:Int)*(y:Int))=((x*y:Nat):Int):=by simp
   simp only [b1,ah,b2,jY]
   rw [lB (n:=(x:Int)) (by omega) (by omega),lB (n:=(y:Int)) (by omega) (by omega)]
   simp only [ue,ah,Qt,cf,ei]
   rw [lB (n:=((x*y:Nat):Int)) (by omega) (by omega)]
   rw [lP (show i+j<xs.length+ys.length by omega)]
   simp only [ah,aer qi,jY]
   rw [lB (n:=(ps[i+j]:Int)) (by omega) (by omega)]
   have e1:IntKind.wrap .u64 (((x*y:Nat):Int)+(ps[i+j]:Int))=((x*y+ps[i+j]:Nat):Int):=by rw [lB (by omega) (by omega)];omega
   have e2:IntKind.wrap .u64 (((x*y+ps[i+j]:Nat):Int)+(c:Int))=((x*y+ps[i+j]+c:Nat):Int):=by rw [lB (by omega) (by omega)];omega
   have e3:IntKind.wrap .u32 ((x*y+ps[i+j]+c:Nat):Int)=(((x*y+ps[i+j]+c)%4294967296:Nat):Int):=by rw [yB];omega
   simp only [cf,ah,e1,e2,jY,e3,A2]
   rw [wa _ qi]
   simp only [aA,eR j (by omega),true_and]
   have pA:(x*y+ps[i+j]+c)%4294967296<4294967296:=mod_lt _ hW
   have lW:=Nat.mod_add_div (x*y+ps[i+j]+c) 4294967296
   have we:(x*y+ps[i+j]+c) / 4294967296<4294967296:=by omega
   refine gj ((x*y+ps[i+j]+c) / 4294967296,j+1,ps.set (i+j) ((x*y+ps[i+j]+c)%4294967296)) ⟨by show j+1≤ys.length;omega,we,by show (ps.set _ _).length=_;rw [length_set];exact j6,wu.set pA _,?_,?_⟩ (by show ys.length-(j+1)<ys.length-j;omega)
   ·intro k qJ p5
    show (ps.set (i+j) _)[k]=0
    have bp:i+j≠k:=by omega
    rw [getElem_set_ne bp]
    exact xZ k (by simpa using qJ) p5
   ·show val 4294967296 (ps.set (i+j) _)+4294967296^(i+(j+1))*_=val 4294967296 os+4294967296^i*(x*val 4294967296 (ys.take (j+1)))
    rw [hyt,←Nat.add_assoc,pow_succ]
    rw [Nat.pow_add] at lZ xY⊢
    generalize ps[i+j]=o at*
    generalize (x*y+o+c)%4294967296=m at*
    generalize (x*y+o+c) / 4294967296=q at*
    generalize val 4294967296 (ys.take j)=v at*
    generalize val 4294967296 (ps.set (i+j) m)=s1 at*
    generalize val 4294967296 ps=s0 at*
    generalize val 4294967296 os=s2 at*
    generalize 4294967296^i=P at*
    generalize 4294967296^j=Q at*
    generalize (4294967296:Nat)=w at*
    clear gj hL hx hy bT qX b1 b2
    have h1:P*Q*(m+w*q)=P*Q*(x*y+o+c):=by rw [lW]
    grind
  ·have:j=ys.length:=by omega
   subst this
   rw [aBG]
   have ei:IntKind.wrap .i64 ((i:Int)+(ys.length:Int))=((i+ys.length:Nat):Int):=by rw [wrap64 (by omega) (by omega)];omega
   simp only [qX.len,ah,cf,ei,jY]
   rw [oT (n:=(c:Int)) (by omega) (by omega),lP (show i+ys.length<xs.length+ys.length by omega)]
   simp only [ah]
   have qi:i+ys.length<ps.length:=by omega
   rw [wa _ qi]
   simp only [aA,aBH,cf,ah,eR i (by omega),true_and]
   have lZ:=tT 4294967296 ps (i+ys.length) c qi
   rw [xZ _ qi (le_refl _)] at lZ
   rw [take_length] at xY
   refine hL (i+1,ps.set (i+ys.length) c) ⟨by show i+1≤xs.length;omega,by show (ps.set _ _).length=_;rw [length_set];exact j6,wu.set hc _,?_,?_⟩ (by show xs.length-(i+1)<xs.length-i;omega)
   ·intro k qJ p5
    show (ps.set (i+ys.length) _)[k]=0
    have aG1:i+1+ys.length≤k:=p5
    have bp:i+ys.length≠k:=by omega
    rw [getElem_set_ne bp]
    exact xZ k (by simpa using qJ) (by omega)
   ·show val 4294967296 (ps.set (i+ys.length) c)=val 4294967296 (xs.take (i+1))*val 4294967296 ys
    rw [Ag,Nat.add_mul,←bW,Nat.mul_assoc,←xY]
    omega
 ·have:i=xs.length:=by omega
  subst this
  rw [aBI]
  rw [take_length] at bW
  have e:sl 177 h.length 0 (xs.length+ys.length)=sl 177 h.length 0 os.length:=by rw [hX]
  rw [e]
  refine sQ (zG h _) fB (by omega) ?_
  intro v' hm
  rw [bW] at hm
  exact hk v' _ (kS h _) hm
def dV (h:ae) (val:Value) (z:Int):Prop:=∃v,val=.agg #[B (decide (z<0)),v]∧dJ h v z.natAbs
theorem dV.mono {h h':ae} {v:Value} {z:Int} (x:EX h h') (p:dV h v z):dV h' v z:=let ⟨w,a,b⟩:=p;⟨w,a,b.mono x⟩
theorem dJ.qo {h:ae} {v:Value} {n:Nat} (p:dJ h v n):∃l:Nat,bj v=some (I l)∧(0<l↔0<n):=by
 obtain ⟨xs,d,c,rfl⟩:=p
 refine ⟨xs.length,d.len,?_⟩
 constructor
 ·intro h0
  have:=dE.low (by decide) c (by rintro rfl;simp at h0)
  have:0<4294967296^(xs.length-1):=Nat.pow_pos (by decide)
  omega
 ·intro h0
  cases xs with
  | nil=>simp [val] at h0
  | cons x xs=>simp
theorem dJ.bM {h:ae} {v:Value} {n j:Nat} {e:TypeId} {b:Bool} {r:List Value} (p:dJ h v n) (hj:h[j]?=some (.arr e (.bool b::r))) (o:aj):dJ (h.set j o) v n:=by
 obtain ⟨xs,d,c,hv⟩:=p
 refine ⟨xs,?_,c,hv⟩
 rcases d with d | ⟨i,h1,h2⟩
 ·exact .inl d
 ·refine .inr ⟨i,h1,?_⟩
  rcases h2 with h2 | ⟨rest,h2⟩
  ·exact .inl h2
  ·cases xs with
   | nil=>exact .inl rfl
   | cons x xs=>
    right
    refine ⟨rest,?_⟩
    have bp:j≠i:=by
     rintro rfl
     unfold aP at h2
     rw [hj] at h2
     simp at h2
    unfold aP at h2⊢
    rw [getElem?_set_ne bp]
    exact h2
theorem dV.bM {h:ae} {v:Value} {z:Int} {j:Nat} {e:TypeId} {b:Bool} {r:List Value} (p:dV h v z) (hj:h[j]?=some (.arr e (.bool b::r))) (o:aj):dV (h.set j o) v z:=
 let ⟨w,a,q⟩:=p;⟨w,a,q.bM hj o⟩
theorem fD {h:ae} {i:Nat} {e:TypeId} {a b x y:Value} (hg:h[i]?=some (.arr e [a,b])):aF 2 h (pt i 0) (.agg #[x,y])=some (undef,h.set i (.arr e [x,y])):=by
 simp [aF,q9,hg,gr,cW,Value.cells,setAt]
theorem cO {h:ae} {i:Nat} {e:TypeId} {a b:Value} (hg:h[i]?=some (.arr e [a,b])):af true 2 h (pt i 0)=some (.agg #[a,b]):=by
 simp [af,aP,hg,b9]
theorem ck {h:ae} {i:Nat} {o o':aj} (hg:h[i]?=some o'):(h.set i o)[i]?=some o:=by
 rw [List.getElem?_set_self (bL hg).1]
theorem sP {v:Value} {n:Nat} {b:Bool} {h:ae} {K:Value→ae→Prop} (hm:dJ h v n) (hk:∀h',EX h h'→K (.agg #[B (b&&decide (0<n)),v]) h'):ak prog 117 [B b,v] h K:=by
 refine f117 ?_
 have al:aV 105 [(.bool false),(.slice none 0 0)] h=some (pt h.length 0,h++[.arr 105 [(.bool false),(.slice none 0 0)]]):=rfl
 simp only [NR,al,aA]
 obtain ⟨l,h1,h2⟩:=hm.qo
 have hg:(h++[aj.arr 105 [(.bool false),(.slice none 0 0)]])[h.length]?=some (.arr 105 [(.bool false),(.slice none 0 0)]):=bn
 have hx:EX h (h++[aj.arr 105 [(.bool false),(.slice none 0 0)]]):=EX.append _ _
 have fin:FE prog K v (pt h.length 0) (B b) (B (decide (0<l))) (h++[aj.arr 105 [(.bool false),(.slice none 0 0)]])∧(b=false→FE prog K v (pt h.length 0) (B b) undef (h++[aj.arr 105 [(.bool false),(.slice none 0 0)]])):=by
  have one:∀c:Bool,c=(b&&decide (0<n))→OP (dd [(.bool false),(.slice none 0 0)] [(0,1,B c),(1,1,v)]) fun aC=>OH (aF 2 (h++[aj.arr 105 [(.bool false),(.slice none 0 0)]]) (pt h.length 0) aC) fun _ h_1=>OP (af true 2 h_1 (pt h.length 0)) fun r0=>K r0 h_1:=by
   rintro c rfl
   have eb:dd [(.bool false),(.slice none 0 0)] [(0,1,B (b&&decide (0<n))),(1,1,v)]=some (.agg #[B (b&&decide (0<n)),v]):=by
    obtain ⟨xs,d,_,_⟩:=hm
    rcases d with ⟨rfl,_⟩ | ⟨i,rfl,_⟩ <;> rfl
   simp only [eb,ah]
   rw [fD hg]
   simp only [aA]
   rw [cO (ck hg)]
   simp only [ah]
   exact hk _ (hx.set (le_refl _) _)
  constructor
  ·rw [al5]
   cases b with
   | true=>simp only [dZ,ah];exact one _ (by simp [h2])
   | false=>simp only [cK,ah];exact one _ (by simp)
  ·rintro rfl
   rw [al5]
   simp only [cK,ah]
   exact one _ (by simp)
 rw [aBx]
 have e0:decide ((0:Int)<(l:Int))=decide (0<l):=by
  by_cases h0:0<l
  ·simp [h0]
  ·simp [h0]
 cases b with
 | true=>
  simp only [jm,h1,ah,fG,e0]
  exact fin.1
 | false=>
  simp only [kL]
  exact fin.2 rfl
end
section
theorem xH {h':ae} {j:Nat} {b0 v0 b v:Value} {K:Value→ae→Prop} (hg:h'[j]?=some (.arr 105 [b0,v0])) (hk:K (.agg #[b,v]) (h'.set j (.arr 105 [b,v]))):
  OH (aF 2 h' (pt j 0) (.agg #[b,v])) fun _ h6=>OP (af true 2 h6 (pt j 0)) fun r0=>K r0 h6:=by
 rw [fD hg]
 simp only [aA]
 rw [cO (ck hg)]
 exact ah.2 hk
structure an0 (h:ae) (va vb:Value) (sa sb:Bool) (h3:ae):Prop where
 ex:EX h h3
 a0:af false 1 h3 (pt h.length 0)=some (B sa)
 a1:af false 1 h3 (pt h.length 1)=some va
 b0:af false 1 h3 (pt (h.length+1) 0)=some (B sb)
 b1:af false 1 h3 (pt (h.length+1) 1)=some vb
 a2:af true 2 h3 (pt h.length 0)=some (.agg #[B sa,va])
 b2:af true 2 h3 (pt (h.length+1) 0)=some (.agg #[B sb,vb])
 out:h3[h.length+2]?=some (.arr 105 [.bool false,.slice none 0 0])
theorem Ha {h:ae} {va vb:Value} {sa sb:Bool} {K:Value→Value→Value→ae→Prop} (hk:∀h3,an0 h va vb sa sb h3→K (pt h.length 0) (pt (h.length+1) 0) (pt (h.length+2) 0) h3):
  OH (bm 105 h (.agg #[B sa,va])) fun a2 h_1=>OH (bm 105 h_1 (.agg #[B sb,vb])) fun b3 h_2=>OH (aV 105 [(.bool false),(.slice none 0 0)] h_2) fun x4 h_3=>K a2 b3 x4 h_3:=by
 have e1:∀(g:ae) (s:Bool) (v:Value),bm 105 g (.agg #[B s,v])=some (pt g.length 0,g++[.arr 105 [B s,v]]):=fun _ _ _=>rfl
 have e2:∀(g:ae),aV 105 [(.bool false),(.slice none 0 0)] g=some (pt g.length 0,g++[.arr 105 [(.bool false),(.slice none 0 0)]]):=fun _=>rfl
 simp only [e1,e2,aA,length_append,length_cons,length_nil]
 have g0:(h++[aj.arr 105 [B sa,va]]++[aj.arr 105 [B sb,vb]]++[aj.arr 105 [(.bool false),(.slice none 0 0)]])[h.length]?=some (.arr 105 [B sa,va]):=by simp
 have g1:(h++[aj.arr 105 [B sa,va]]++[aj.arr 105 [B sb,vb]]++[aj.arr 105 [(.bool false),(.slice none 0 0)]])[h.length+1]?=some (.arr 105 [B sb,vb]):=by simp
 have g2:(h++[aj.arr 105 [B sa,va]]++[aj.arr 105 [B sb,vb]]++[aj.arr 105 [(.bool false),(.slice none 0 0)]])[h.length+2]?=some (.arr 105 [(.bool false),(.slice none 0 0)]):=by simp
 refine hk _ ⟨((EX.append _ _).push _).push _,?_,?_,?_,?_,cO g0,cO g1,g2⟩
 ·simp [af,aP,b9]
 ·simp [af,aP,b9]
 ·simp [af,aP,b9]
 ·simp [af,aP,b9]
theorem De {n:Int} {h:ae} {K:Value→ae→Prop} (h1: -9223372036854775808≤n) (h2:n<9223372036854775808) (hk:∀r h',EX h h'→dV h' r n→K r h'):ak prog 105 [I n] h K:=by
 refine f105 ?_
 have e2:aV 105 [(.bool false),(.slice none 0 0)] h=some (pt h.length 0,h++[.arr 105 [(.bool false),(.slice none 0 0)]]):=rfl
 simp only [NF,e2,aA]
 have x1:EX h (h++[aj.arr 105 [(.bool false),(.slice none 0 0)]]):=EX.append _ _
 have g1:(h++[aj.arr 105 [(.bool false),(.slice none 0 0)]])[h.length]?=some (.arr 105 [(.bool false),(.slice none 0 0)]):=bn
 generalize h++[aj.arr 105 [(.bool false),(.slice none 0 0)]]=hA at x1 g1⊢
 have go:∀u:Nat,u=n.natAbs→KJ prog K (I n) (pt h.length 0) (.int .u64 (u:Int)) hA:=by
  intro u hu
  rw [aBo]
  have ew:IntKind.wrap .u32 (u:Int)=((u%4294967296:Nat):Int):=by rw [yB];omega
  simp only [cA,ah,jY,A2,ew]
  rw [oT (n:=((u / 4294967296:Nat):Int)) (by omega) (by omega)]
  have mk:dK 177 2 [.int .u32 0] hA [(0,1,.int .u32 ((u%4294967296:Nat):Int)),(1,1,.int .u32 ((u / 4294967296:Nat):Int))]=some (sl 177 hA.length 0 2,hd hA [u%4294967296,u / 4294967296]):=rfl
  simp only [mk,aA]
  have hl:cn 4294967296 [u%4294967296,u / 4294967296]:=by
   intro x hx
   simp at hx
   rcases hx with rfl | rfl <;> omega
  refine sQ (zG hA [u%4294967296,u / 4294967296]) hl (by simp) ?_
  intro v hv
  have bW:val 4294967296 [u%4294967296,u / 4294967296]=n.natAbs:=by simp [val];omega
  rw [bW] at hv
  refine sP hv ?_
  intro h' x'
  have xx:=(kS hA [u%4294967296,u / 4294967296]).trans x'
  have g':=xx.get g1
  refine xH g' (hk _ _ ((x1.trans xx).set (le_refl _) _) ⟨v,?_,(hv.mono x').bM g' _⟩)
  have:(decide (n<0)&&decide (0<n.natAbs))=decide (n<0):=by
   by_cases hn:n<0
   ·simp [hn];omega
   ·simp [hn]
  rw [this]
 simp only [jY,ah,cA,bR]
 refine ⟨fun hn=>?_,fun hn=>?_⟩
 ·have e3:gJ .neg (.int .u64 (IntKind.wrap .u64 n))=some (.int .u64 ((n.natAbs:Nat):Int)):=by
   have e:∀m:Int,IntKind.wrap .u64 m=m%18446744073709551616:=fun m=>by simp [IntKind.wrap,IntKind.bits,IntKind.signed]
   simp only [gJ]
   rw [e,e]
   congr 2
   omega
  simp only [e3,ah]
  exact go _ rfl
 ·have:IntKind.wrap .u64 n=((n.natAbs:Nat):Int):=by rw [lB (by omega) (by omega)];omega
  rw [this]
  exact go _ rfl
theorem Xf {va:Value} {a:Int} {h:ae} {K:Value→ae→Prop} (ha:dV h va a) (hk:∀r h',EX h h'→dV h' r (-a)→K r h'):ak prog 119 [va] h K:=by
 obtain ⟨v,rfl,hv⟩:=ha
 refine f119 ?_
 have e1:bm 105 h (.agg #[B (decide (a<0)),v])=some (pt h.length 0,h++[.arr 105 [B (decide (a<0)),v]]):=rfl
 simp only [NT,e1,aA]
 have l0:af false 1 (h++[.arr 105 [B (decide (a<0)),v]]) (pt h.length 0)=some (B (decide (a<0))):=mV rfl
 have l1:af false 1 (h++[.arr 105 [B (decide (a<0)),v]]) (pt h.length 1)=some v:=mV rfl
 have x1:EX h (h++[.arr 105 [B (decide (a<0)),v]]):=EX.append _ _
 generalize h++[aj.arr 105 [B (decide (a<0)),v]]=h1 at l0 l1 x1⊢
 have e2:aV 105 [(.bool false),(.slice none 0 0)] h1=some (pt h1.length 0,h1++[.arr 105 [(.bool false),(.slice none 0 0)]]):=rfl
 have x2:EX h1 (h1++[aj.arr 105 [(.bool false),(.slice none 0 0)]]):=EX.append _ _
 have g1:(h1++[aj.arr 105 [(.bool false),(.slice none 0 0)]])[h1.length]?=some (.arr 105 [(.bool false),(.slice none 0 0)]):=bn
 simp only [e2,aA]
 generalize h1++[aj.arr 105 [(.bool false),(.slice none 0 0)]]=h2 at x2 g1⊢
 simp only [bU,add_zero,zero_add,ah,EX.load x2 l0,EX.load x2 l1,oc]
 have qW:=hv.mono (x1.trans x2)
 refine sP qW ?_
 intro h' x'
 have g':=x'.get g1
 refine xH g' (hk _ _ (((x1.trans x2).trans x').set x1.1 _) ⟨v,?_,?_⟩)
 ·have:(!decide (a<0)&&decide (0<a.natAbs))=decide (-a<0):=by
   by_cases h0:a<0
   ·rw [aU h0,aS (show ¬-a<0 by omega)];rfl
   ·by_cases h3:a=0
    ·subst h3;rfl
    ·rw [aS h0,aU (show 0<a.natAbs by omega),aU (show -a<0 by omega)];rfl
  rw [this]
 ·have:(-a).natAbs=a.natAbs:=by omega
  rw [this]
  exact (qW.mono x').bM g' _
theorem Mv {va vb:Value} {a b:Int} {h:ae} {K:Value→ae→Prop} (ha:dV h va a) (hb:dV h vb b) (la:a.natAbs<br) (lb:b.natAbs<br) (hk:∀r h',EX h h'→dV h' r (a+b)→K r h'):ak prog 113 [va,vb] h K:=by
 obtain ⟨v,rfl,hv⟩:=ha
 obtain ⟨w,rfl,hw⟩:=hb
 refine f113 ?_
 unfold NN
 refine Ha ?_
 intro h3 x
 have wA:=hv.mono x.ex
 have oM:=hw.mono x.ex
 simp only [bU,add_zero,zero_add,ah,x.a0,x.a1,x.b0,x.b1,Ec,Bool.false_eq_true,if_false]
 refine tY (fun he=>?_) fun bp=>?_
 ·have hs:decide (a<0)=decide (b<0):=by simpa using he
  have dT:(a<0↔b<0):=by simpa using hs
  simp only [true_and]
  refine Xk wA oM la lb ?_
  intro u h4 x4 hu
  refine ⟨⟨EX.load x4 x.a0,trivial⟩,?_⟩
  refine sP hu ?_
  intro h5 x5
  have g':=(x4.trans x5).get x.out
  refine xH g' (hk _ _ (((x.ex.trans x4).trans x5).set (by omega) _) ⟨u,?_,?_⟩)
  ·have:(decide (a<0)&&decide (0<a.natAbs+b.natAbs))=decide (a+b<0):=by
    by_cases h0:a<0
    ·rw [aU h0,aU (show 0<a.natAbs+b.natAbs by omega),aU (show a+b<0 by omega)];rfl
    ·rw [aS h0,aS (show ¬a+b<0 by omega)];rfl
   rw [this]
  ·have:(a+b).natAbs=a.natAbs+b.natAbs:=by omega
   rw [this]
   exact (hu.mono x5).bM g' _
 ·have hs:decide (a<0)≠decide (b<0):=by simpa using bp
  have dT:¬(a<0↔b<0):=fun h=>hs (decide_eq_decide.2 h)
  refine Gr wA oM la lb ?_
  simp only [nk,ah,bR]
  refine ⟨fun cJ=>?_,fun aD=>?_⟩
  ·have hle:b.natAbs≤a.natAbs:=by
    apply byContradiction
    intro hc
    unfold nC at cJ
    rw [if_pos (by omega)] at cJ
    omega
   simp only [x.a0,x.a1,x.b1,ah,true_and]
   refine Xm wA oM la hle ?_
   intro u h4 x4 hu
   refine ⟨⟨EX.load x4 x.a0,trivial⟩,?_⟩
   refine sP hu ?_
   intro h5 x5
   have g':=(x4.trans x5).get x.out
   refine xH g' (hk _ _ (((x.ex.trans x4).trans x5).set (by omega) _) ⟨u,?_,?_⟩)
   ·have:(decide (a<0)&&decide (0<a.natAbs-b.natAbs))=decide (a+b<0):=by
     by_cases h0:a<0
     ·by_cases h6:0<a.natAbs-b.natAbs
      ·rw [aU h0,aU h6,aU (show a+b<0 by omega)];rfl
      ·rw [aU h0,aS h6,aS (show ¬a+b<0 by omega)];rfl
     ·rw [aS h0,aS (show ¬a+b<0 by omega)];rfl
    rw [this]
   ·have:(a+b).natAbs=a.natAbs-b.natAbs:=by omega
    rw [this]
    exact (hu.mono x5).bM g' _
  ·have hle:a.natAbs≤b.natAbs:=by
    apply byContradiction
    intro hc
    unfold nC at aD
    rw [if_neg (by omega),if_pos (by omega)] at aD
    omega
   simp only [x.b0,x.a1,x.b1,ah,true_and]
   refine Xm oM wA lb hle ?_
   intro u h4 x4 hu
   refine ⟨⟨EX.load x4 x.b0,trivial⟩,?_⟩
   refine sP hu ?_
   intro h5 x5
   have g':=(x4.trans x5).get x.out
   refine xH g' (hk _ _ (((x.ex.trans x4).trans x5).set (by omega) _) ⟨u,?_,?_⟩)
   ·have:(decide (b<0)&&decide (0<b.natAbs-a.natAbs))=decide (a+b<0):=by
     by_cases h0:b<0
     ·by_cases h6:0<b.natAbs-a.natAbs
      ·rw [aU h0,aU h6,aU (show a+b<0 by omega)];rfl
      ·rw [aU h0,aS h6,aS (show ¬a+b<0 by omega)];rfl
     ·rw [aS h0,aS (show ¬a+b<0 by omega)];rfl
    rw [this]
   ·have:(a+b).natAbs=b.natAbs-a.natAbs:=by omega
    rw [this]
    exact (hu.mono x5).bM g' _
theorem aoa {va vb:Value} {a b:Int} {h:ae} {K:Value→ae→Prop} (ha:dV h va a) (hb:dV h vb b) (la:a.natAbs<br) (lb:b.natAbs<br) (hk:∀r h',EX h h'→dV h' r (a-b)→K r h'):ak prog 127 [va,vb] h K:=by
 have oH:=ha
 have pn:=hb
 obtain ⟨v,rfl,hv⟩:=ha
 obtain ⟨w,rfl,hw⟩:=hb
 refine f127 ?_
 unfold N1
 refine Ha ?_
 intro h3 x
 simp only [ah,x.a2,x.b2,true_and]
 refine Xf (pn.mono x.ex) ?_
 intro r1 h4 x4 i1
 refine ⟨⟨EX.load x4 x.a2,trivial⟩,?_⟩
 refine Mv (oH.mono (x.ex.trans x4)) i1 la (by rw [Int.natAbs_neg];exact lb) ?_
 intro r2 h5 x5 i2
 have g':=(x4.trans x5).get x.out
 obtain ⟨u,rfl,hu⟩:=id i2
 refine xH g' (hk _ _ (((x.ex.trans x4).trans x5).set (by omega) _) ?_)
 rw [Int.sub_eq_add_neg]
 exact i2.bM g' _
theorem tW {va vb:Value} {a b:Int} {h:ae} {K:Value→ae→Prop} (ha:dV h va a) (hb:dV h vb b) (la:a.natAbs<br) (lb:b.natAbs<br) (hk:∀r h',EX h h'→dV h' r (a*b)→K r h'):ak prog 107 [va,vb] h K:=by
 obtain ⟨v,rfl,hv⟩:=ha
 obtain ⟨w,rfl,hw⟩:=hb
 refine f107 ?_
 unfold NH
 refine Ha ?_
 intro h3 x
 have wA:=hv.mono x.ex
 have oM:=hw.mono x.ex
 simp only [bU,add_zero,zero_add,ah,x.a0,x.a1,x.b0,x.b1,Ec,if_true,true_and]
 refine Xi wA oM la lb ?_
 intro u h4 x4 hu
 refine ⟨⟨EX.load x4 x.a0,EX.load x4 x.b0,trivial⟩,?_⟩
 refine sP hu ?_
 intro h5 x5
 have g':=(x4.trans x5).get x.out
 refine xH g' (hk _ _ (((x.ex.trans x4).trans x5).set (by omega) _) ⟨u,?_,?_⟩)
 ·have:((!(decide (a<0)==decide (b<0)))&&decide (0<a.natAbs*b.natAbs))=decide (a*b<0):=by
   rcases Int.lt_trichotomy a 0 with h1 | h1 | h1
   ·rcases Int.lt_trichotomy b 0 with h2 | h2 | h2
    ·have:=Int.mul_pos_of_neg_of_neg h1 h2
     rw [aU h1,aU h2,aS (show ¬a*b<0 by omega)];rfl
    ·subst h2;simp
    ·have:=Int.mul_neg_of_neg_of_pos h1 h2
     have h3:0<a.natAbs*b.natAbs:=Nat.mul_pos (by omega) (by omega)
     rw [aU h1,aS (show ¬b<0 by omega),aU h3,aU this];rfl
   ·subst h1;simp
   ·rcases Int.lt_trichotomy b 0 with h2 | h2 | h2
    ·have:=Int.mul_neg_of_pos_of_neg h1 h2
     have h3:0<a.natAbs*b.natAbs:=Nat.mul_pos (by omega) (by omega)
     rw [aS (show ¬a<0 by omega),aU h2,aU h3,aU this];rfl
    ·subst h2;simp
    ·have:=Int.mul_pos h1 h2
     rw [aS (show ¬a<0 by omega),aS (show ¬b<0 by omega),aS (show ¬a*b<0 by omega)];rfl
  rw [this]
 ·rw [Int.natAbs_mul]
  exact (hu.mono x5).bM g' _
end
section
theorem LF {r:Nat} (hr:r<4294967296):ai .shl (.int .u64 (r:Int)) (.int .u64 32)=some (.int .u64 ((r*4294967296:Nat):Int)):=by
 simp only [ai,q8]
 rw [if_neg (by omega)]
 have:(min (32:Int).toNat IntKind.u64.bits)=32:=rfl
 rw [this]
 have e2:(2:Int)^32=4294967296:=by decide
 rw [e2,lB (by omega) (by omega)]
 congr 2
theorem KC {r x:Nat} (hr:r<4294967296) (hx:x<4294967296):ai .or (.int .u64 ((r*4294967296:Nat):Int)) (.int .u64 (x:Int))=some (.int .u64 ((r*4294967296+x:Nat):Int)):=by
 have e:(BitVec.ofInt IntKind.u64.bits ((r*4294967296:Nat):Int) ||| BitVec.ofInt IntKind.u64.bits (x:Int)).toNat=r*4294967296+x:=by
  show (BitVec.ofInt 64 ((r*4294967296:Nat):Int) ||| BitVec.ofInt 64 (x:Int)).toNat=_
  rw [BitVec.ofInt_natCast,BitVec.ofInt_natCast,BitVec.toNat_or,BitVec.toNat_ofNat,BitVec.toNat_ofNat,Nat.mod_eq_of_lt (by omega),Nat.mod_eq_of_lt (by omega)]
  have:=Nat.two_pow_add_eq_or_of_lt (i:=32) (b:=x) (by omega) r
  rw [Nat.mul_comm r]
  exact this.symm
 simp only [ai,hZ,if_true]
 rw [e,lB (by omega) (by omega)]
theorem amP {a b:Nat} (hb:b≠0) (ha:a<18446744073709551616):ai .quo (.int .u64 (a:Int)) (.int .u64 (b:Int))=some (.int .u64 ((a / b:Nat):Int)):=by
 have h:¬((b:Int)=0):=by omega
 have h2:a / b≤a:=Nat.div_le_self _ _
 simp only [ai,hZ,if_true,if_neg h]
 have e:(a:Int).tdiv (b:Int)=((a / b:Nat):Int):=rfl
 rw [e]
 generalize a / b=q at*
 rw [lB (by omega) (by omega)]
theorem Xe {va:Value} {a w:Nat} {h:ae} {K:Value→ae→Prop} (ha:dJ h va a) (la:a<br) (w0:0<w) (wW:w<4294967296) (hk:∀v h',EX h h'→dJ h' v (a / w)→K (.tuple #[v,.int .u32 ((a%w:Nat):Int)]) h'):
  ak prog 114 [va,.int .u32 (w:Int)] h K:=by
 obtain ⟨xs,hx,cx,rfl⟩:=ha
 have l1:=qD cx la
 have hW:(0:Nat)<4294967296:=by decide
 refine f114 ?_
 have e1:IntKind.wrap .i64 ((xs.length:Int)-1)=(xs.length:Int)-1:=by rw [wrap64 (by omega) (by omega)]
 simp only [NO,hx.len,ah,AG (show xs.length≤1000 by omega),aA,gE,e1]
 refine dj (σ:=Nat×Nat×List Nat) (fun p=>[.int .u64 (p.1:Int),I ((p.2.1:Int)-1)]) (fun p=>hd h p.2.2)
  (fun p=>p.2.1≤xs.length∧p.1<w∧p.2.2.length=xs.length∧cn 4294967296 p.2.2∧val 4294967296 (xs.drop p.2.1)=w*val 4294967296 (p.2.2.drop p.2.1)+p.1) (fun p=>p.2.1)
  (0,xs.length,replicate xs.length 0) rfl rfl ⟨le_refl _,w0,by simp,cn.xe hW _,by simp [val]⟩ ?_
 rintro ⟨r,i,os⟩ ⟨hi,hr,hX,fB,bW⟩ L hL
 simp only at hi hr hX fB bW hL⊢
 rw [aBv]
 have bT:=hx.mono (kS h os)
 simp only [nk,ah,bR]
 refine ⟨fun cJ=>?_,fun aD=>?_⟩
 ·obtain ⟨j,rfl⟩:∃j,i=j+1:=⟨i-1,by omega⟩
  have ej:(((j+1:Nat):Int)-1)=(j:Int):=by omega
  rw [ej]
  obtain ⟨ia,a1,a2⟩:=bT.get (j:=j) (by omega)
  have iG:xs[j]'(by omega)<4294967296:=cx.1 _ (getElem_mem _)
  have hdx:xs.drop j=xs[j]'(by omega)::xs.drop (j+1):=drop_eq_getElem_cons (by omega)
  generalize xs[j]'(by omega)=x at a2 iG hdx
  simp only [LF (show r<4294967296 by omega),ah,a1,a2,jY]
  rw [lB (n:=(x:Int)) (by omega) (by omega)]
  simp only [KC (show r<4294967296 by omega) iG,ah]
  rw [lB (n:=(w:Int)) (by omega) (by omega)]
  have ht:r*4294967296+x<w*4294967296:=by omega
  have hq:(r*4294967296+x) / w<4294967296:=(Nat.div_lt_iff_lt_mul w0).2 (by omega)
  have hm:=mod_lt (r*4294967296+x) w0
  have lW:=Nat.div_add_mod (r*4294967296+x) w
  rw [amP (by omega) (by omega),AX _ _ _ (by omega)]
  generalize (r*4294967296+x) / w=q at*
  generalize (r*4294967296+x)%w=m at*
  simp only [ah,jY]
  rw [oT (n:=(q:Int)) (by omega) (by omega),lP (show j<xs.length by omega)]
  simp only [ah]
  rw [wa _ (by omega)]
  simp only [aA,gE,ah,true_and]
  rw [wrap64 (n:=(j:Int)-1) (by omega) (by omega)]
  refine hL (m,j,os.set j q) ⟨by show j≤xs.length;omega,hm,by show (os.set _ _).length=_;rw [length_set];exact hX,fB.set hq _,?_⟩ (by show j<j+1;omega)
  show val 4294967296 (xs.drop j)=w*val 4294967296 ((os.set j q).drop j)+m
  have qI:(os.set j q).drop j=q::os.drop (j+1):=by
   rw [drop_eq_getElem_cons (by rw [length_set];omega),List.getElem_set_self,List.drop_set_of_lt (by omega)]
  rw [hdx,qI]
  simp only [val]
  rw [bW]
  generalize val 4294967296 (os.drop (j+1))=Q at*
  generalize (4294967296:Nat)=W at*
  clear hL hx bT a1 a2 bW
  grind
 ·have:i=0:=by omega
  subst this
  rw [drop_zero,drop_zero] at bW
  rw [aBu]
  have e:sl 177 h.length 0 xs.length=sl 177 h.length 0 os.length:=by rw [hX]
  rw [e]
  refine sQ (zG h _) fB (by omega) ?_
  intro v' hm
  simp only [jY,ah]
  rw [oT (n:=(r:Int)) (by omega) (by omega)]
  have h1:val 4294967296 xs / w=val 4294967296 os:=by
   rw [bW,Nat.mul_add_div w0,Nat.div_eq_of_lt hr,add_zero]
  have h2:val 4294967296 xs%w=r:=by
   rw [bW,Nat.mul_add_mod,Nat.mod_eq_of_lt hr]
  have:=hk v' _ (kS h os) (by rw [h1];exact hm)
  rw [h2] at this
  exact this
theorem an6 {h:ae} {id:Nat} {xs:List UInt8} {K:Value→ae→Prop} (bX:h[id]?=some (.arr 5 (xs.map cv))) (hn:xs.length≤100000) (hk:K (.tuple #[]) (hb h id xs.reverse)):ak prog 115 [sl 5 id 0 xs.length] h K:=by
 have iY:=(bL bX).1
 have e0:h=hb h id xs:=by
  apply List.ext_getElem?
  intro j
  by_cases hj:id=j
  ·subst hj;rw [Jn iY,bX]
  ·rw [getElem?_set_ne hj]
 refine f115 ?_
 have e1:bj (sl 5 id 0 xs.length)=some (I xs.length):=rfl
 have e2:IntKind.wrap .i64 ((xs.length:Int)-1)=(xs.length:Int)-1:=by rw [wrap64 (by omega) (by omega)]
 simp only [NP,e1,ah,gE,e2]
 refine dj (σ:=Nat×List UInt8) (fun p=>[I p.1,I ((xs.length:Int)-1-p.1)]) (fun p=>hb h id p.2) (fun p=>p.1≤xs.length∧p.2.length=xs.length∧∀k (hk:k<p.2.length) (qJ:k<xs.length),p.2[k]=if k<p.1∨xs.length-p.1≤k then xs[xs.length-1-k]'(by omega) else xs[k]) (fun p=>xs.length-p.1)
  (0,xs) (by simp) e0.symm ⟨by simp,rfl,fun k h1 h2=>by simp;intro h3;omega⟩ ?_
 rintro ⟨i,ys⟩ ⟨hi,hl,hy⟩ L hL
 simp only at hi hl hy hL⊢
 rw [aBw]
 simp only [cA,ah,bR]
 refine ⟨fun aD=>?_,fun cJ=>?_⟩
 ·obtain ⟨j,hj⟩:∃j:Nat,(xs.length:Int)-1-i=j:=⟨xs.length-1-i,by omega⟩
  rw [hj]
  have wj:j=xs.length-1-i:=by omega
  have a1:=lP (id:=id) (e:=5) (n:=xs.length) (j:=j) (by omega)
  have a2:=lP (id:=id) (e:=5) (n:=xs.length) (j:=i) (by omega)
  have g1:ys[j]?=some (ys[j]'(by omega)):=List.getElem?_eq_getElem (by omega)
  have g2:ys[i]?=some (ys[i]'(by omega)):=List.getElem?_eq_getElem (by omega)
  simp only [a1,a2,ah,aei iY g1,aei iY g2,true_and]
  rw [aej iY _ (by omega)]
  simp only [aA]
  rw [aej iY _ (by rw [length_set];omega)]
  simp only [aA,cf,gE,ah,eR i (by omega)]
  have ej:IntKind.wrap .i64 ((j:Int)-1)=(xs.length:Int)-1-((i+1:Nat):Int):=by rw [wrap64 (by omega) (by omega)];omega
  rw [ej]
  refine hL (i+1,(ys.set i (ys[j]'(by omega))).set j (ys[i]'(by omega))) ⟨by show i+1≤xs.length;omega,by simp [hl],?_⟩ (by show xs.length-(i+1)<xs.length-i;omega)
  intro k nw qJ
  show ((ys.set i (ys[j]'(by omega))).set j (ys[i]'(by omega)))[k]=if k<i+1∨xs.length-(i+1)≤k then xs[xs.length-1-k]'(by omega) else xs[k]
  have JV:=hy i (by omega) (by omega)
  have hyj:=hy j (by omega) (by omega)
  rw [if_neg (by omega)] at JV hyj
  by_cases rZ:j=k
  ·subst rZ
   rw [List.getElem_set_self,if_pos (by omega),JV]
   congr 1;omega
  ·rw [getElem_set_ne rZ]
   by_cases hki:i=k
   ·subst hki
    rw [List.getElem_set_self,if_pos (by omega),hyj]
    congr 1
   ·rw [getElem_set_ne hki,hy k (by omega) qJ]
    by_cases hc:k<i∨xs.length-i≤k
    ·rw [if_pos hc,if_pos (by omega)]
    ·rw [if_neg hc,if_neg (by omega)]
 ·have:ys=xs.reverse:=by
   apply List.ext_getElem (by simp [hl])
   intro k h1 h2
   rw [hy k h1 (by omega),List.getElem_reverse]
   split
   ·rfl
   ·congr 1;omega
  rw [this]
  exact hk
def um (n:Nat):List Nat:=if h:n=0 then [] else n%10::um (n / 10)
termination_by n
decreasing_by omega
theorem IH (n:Nat):dE 10 (um n)∧val 10 (um n)=n:=by
 induction n using Nat.strongRecOn with
 | ind n ih=>
  rw [um]
  by_cases h:n=0
  ·subst h;exact ⟨dE.nil 10,rfl⟩
  ·rw [dif_neg h]
   obtain ⟨h1,h2⟩:=ih (n / 10) (by omega)
   refine ⟨⟨?_,?_⟩,?_⟩
   ·intro x hx
    rcases List.mem_cons.1 hx with rfl | hx
    ·omega
    ·exact h1.1 x hx
   ·cases hd:um (n / 10) with
    | nil=>
     rw [hd] at h2
     simp [val] at h2
     simp
     omega
    | cons y ys=>
     rw [List.getLast?_cons_cons,←hd]
     exact h1.2
   ·simp only [val,h2];omega
def jr (d:Nat):UInt8:=UInt8.ofNat (48+d)
theorem vN {d:Nat} (h:d<10):(jr d).toNat=48+d:=by simp [jr,UInt8.toNat_ofNat'];omega
def cI (n:Nat):List UInt8:=if n=0 then [48] else ((um n).map jr).reverse
def J9:Nat:=1000
theorem ZD:br≤10^J9:=by decide+kernel
end
section
theorem D6 {d:Nat} (h:d<10):(.int .u8 ((48+d:Nat):Int):Value)=cv (jr d):=by rw [cv,vN h]
theorem aA0 (k:Nat):0<10^k:=Nat.pow_pos (by decide)
theorem agn {b n m:Nat} (hm:0<m) (h:10^b*m≤n) (hn:n<br):b<1000:=by
 have h1:10^b≤10^b*m:=Nat.le_mul_of_pos_right _ hm
 show b<J9
 have h2:10^b<10^J9:=Nat.lt_of_le_of_lt (Nat.le_trans h1 h) (Nat.lt_of_lt_of_le hn ZD)
 exact (Nat.pow_lt_pow_iff_right (by decide)).1 h2
theorem arE {h0 hx:ae} {v z:Value} {x:UInt8} {bs:List UInt8} {K:Value→ae→Prop} (o:fy h0.length hx 5 v (bs.map cv)) (hex:EX h0 hx) (hl:bs.length≤100000)
  (hk:∀v' bT,EX h0 bT→fy h0.length bT 5 v' ((bs++[x]).map cv)→(∀q n,dJ hx q n→dJ bT q n)→K v' bT):
  OH (dK 5 1 [z] hx [(0,1,cv x)]) fun a h2=>OH (dY 5 1 1 h2 v a) K:=by
 refine G6 o (by simp;omega) (by simp [maxLen];omega) rfl rfl ?_
 intro hA bT _ hlen JA j5
 simp only [aA]
 refine hk _ _ ⟨by have:=hex.1;omega,fun j hj=>?_⟩ (.inr ⟨hx.length+1,by have:=hex.1;omega,by simp,by simpa using j5⟩) ?_
 ·rw [JA j (by have:=hex.1;omega) fun n hv=>?_]
  ·exact hex.2 j hj
  ·have:=(o.lt hv).1;omega
 ·rintro q n ⟨xs,d,c,hv⟩
  refine ⟨xs,?_,c,hv⟩
  rcases d with d | ⟨i,h1,h2⟩
  ·exact .inl d
  ·refine .inr ⟨i,h1,?_⟩
   rcases h2 with h2 | ⟨r,h2⟩
   ·exact .inl h2
   ·cases xs with
    | nil=>exact .inl rfl
    | cons y ys=>
     right
     refine ⟨r,?_⟩
     have bC:i<hx.length:=by
      apply byContradiction
      intro hc
      unfold aP at h2
      rw [List.getElem?_eq_none (by omega)] at h2
      simp at h2
     unfold aP at h2⊢
     rw [JA i bC fun n Ah=>?_]
     ·exact h2
     ·have hg:=(o.lt Ah).2.2
      rw [hg] at h2
      cases bs with
      | nil=>simp at h2
      | cons b bs=>simp [cv] at h2
theorem Gv {va:Value} {n:Nat} {h:ae} {K:Value→ae→Prop} (ha:dJ h va n) (la:n<br) (hk:∀h',EX h h'→K (S (cI n)) h'):ak prog 89 [va] h K:=by
 refine f89 ?_
 obtain ⟨l0,e0,e1⟩:=ha.qo
 simp only [O5,e0,ah,iT,bR]
 refine ⟨fun hz=>?_,fun hnz=>?_⟩
 ·have:n=0:=by omega
  subst this
  exact hk h (EX.refl h)
 ·have oK:0<n:=by omega
  refine dj (σ:=Value×Nat×Value×List Nat×ae) (fun p=>[p.1,p.2.2.1]) (fun p=>p.2.2.2.2)
   (fun p=>EX h p.2.2.2.2∧dJ p.2.2.2.2 p.1 p.2.1∧fy h.length p.2.2.2.2 5 p.2.2.1 ((p.2.2.2.1.map jr).map cv)∧cn 10 p.2.2.2.1∧val 10 p.2.2.2.1+10^p.2.2.2.1.length*p.2.1=n∧(p.2.1=0→dE 10 p.2.2.2.1)) (fun p=>p.2.1)
   (va,n,.slice none 0 0,[],h) rfl rfl ⟨EX.refl h,ha,.inl ⟨rfl,rfl⟩,fun x hx=>by simp at hx,by simp [val],fun h0=>by have h0:n=0:=h0;omega⟩ ?_
  rintro ⟨v,m,bv,b,hx⟩ ⟨hex,hm,jt,fB,bW,zC⟩ L hL
  simp only at hex hm jt fB bW zC hL⊢
  rw [aEa]
  obtain ⟨l,f0,f1⟩:=hm.qo
  simp only [f0,ah,fG,bR]
  refine ⟨fun aD=>?_,fun cJ=>?_⟩
  ·have qL:0<m:=by omega
   have RY:m<br:=by
    refine Nat.lt_of_le_of_lt ?_ la
    have:m≤10^b.length*m:=Nat.le_mul_of_pos_left _ (aA0 _)
    omega
   have uB:=agn (b:=b.length) qL (by omega) la
   refine Xe hm RY (w:=1000000000) (by decide) (by decide) ?_
   intro q h1 x1 hq
   simp only [dX,eD,eI,ah]
   have axY:fy h.length h1 5 bv ((b.map jr).map cv):=jt.ep fun d k hv hd=>by
    have:=(jt.lt hv).2.1
    exact x1.2 d this
   have ax4:m / 1000000000<m:=Nat.div_lt_self qL (by decide)
   have lW:=Nat.div_add_mod m 1000000000
   have Ck:=mod_lt m (show 1000000000>0 by decide)
   generalize m / 1000000000=qn at*
   generalize m%1000000000=r0 at*
   have hqq:=hq
   refine dj (σ:=Value×List Nat×Nat×Nat×ae) (fun p=>[p.1,.int .u32 (p.2.2.1:Int),I p.2.2.2.1]) (fun p=>p.2.2.2.2)
    (fun p=>EX h p.2.2.2.2∧dJ p.2.2.2.2 q qn∧fy h.length p.2.2.2.2 5 p.1 ((p.2.1.map jr).map cv)∧cn 10 p.2.1∧p.2.2.2.1≤9∧p.2.2.1<10^(9-p.2.2.2.1)∧p.2.1.length≤b.length+p.2.2.2.1∧val 10 p.2.1+10^p.2.1.length*(p.2.2.1+10^(9-p.2.2.2.1)*qn)=n∧(qn=0→p.2.2.1=0→dE 10 p.2.1)) (fun p=>9-p.2.2.2.1)
    (bv,b,r0,0,h1) rfl rfl ⟨hex.trans x1,hq,axY,fB,by simp,by simpa using Ck,by simp,?_,?_⟩ ?_
   ·show val 10 b+10^b.length*(r0+10^(9-0)*qn)=n
    have:r0+10^(9-0)*qn=m:=by
     show r0+1000000000*qn=m
     omega
    rw [this];exact bW
   ·intro h1 h2
    have h1:qn=0:=h1
    have h2:r0=0:=h2
    subst h1;subst h2
    omega
   rintro ⟨IF,c,r,i,hy⟩ ⟨RC,JP,Sa,JB,hi,hr,gn,EZ,Rt⟩ L2 gj
   simp only at RC JP Sa JB hi hr gn EZ Rt gj⊢
   rw [aD7]
   -- leaving
   have stop:r=0→(i=9∨qn=0)→K6 prog K IF q L hy:=by
    intro qS sg
    rw [aD8]
    refine ⟨rfl,hL (q,qn,IF,c,hy) ⟨RC,JP,Sa,JB,?_,fun h0=>Rt h0 qS⟩ ax4⟩
    show val 10 c+10^c.length*qn=n
    rw [qS,zero_add] at EZ
    rcases sg with h9 | h0
    ·subst h9;simpa using EZ
    ·subst h0;simpa using EZ
   simp only [cA,ah]
   by_cases hi9:i<9
   ·rw [aU (show (i:Int)<9 by omega)]
    simp only [amL,jm]
    obtain ⟨l2,g0,g1⟩:=JP.qo
    simp only [g0,ah,fG]
    -- one IK more
    have step:(0<qn∨0<r)→aR (B true)
      (OP (ai .rem (.int .u32 (r:Int)) (.int .u32 (10))) fun dH=>
      OP (ai .add (.int .u32 (48)) dH) fun cT=>
      OP (dA .u8 cT) fun cR=>
      OH (dK 5 1 [(.int .u8 (0))] hy [(0,1,cR)]) fun cX h_1=>
      OH (dY 5 1 1 h_1 IF cX) fun fE h_2=>
      OP (ai .quo (.int .u32 (r:Int)) (.int .u32 (10))) fun eX=>
      OP (ai .add (I i) (.int .i64 (1))) fun dC=>
      True∧L2 [fE,eX,dC] h_2)
      (K6 prog K IF q L hy):=by
     intro sg
     have hrW:r<4294967296:=Nat.lt_of_lt_of_le hr (Nat.le_trans (Nat.pow_le_pow_right (by decide) (show 9-i≤9 by omega)) (by decide))
     have ed:IntKind.wrap .u32 ((48:Int)+((r%10:Nat):Int))=((48+r%10:Nat):Int):=by rw [oT (by omega) (by omega)];omega
     have awu:ai .quo (.int .u32 (r:Int)) (.int .u32 10)=some (.int .u32 ((r / 10:Nat):Int)):=by
      have kQ:¬((10:Int)=0):=by omega
      simp only [ai,hZ,if_true,if_neg kQ]
      have e:(r:Int).tdiv 10=((r / 10:Nat):Int):=rfl
      rw [e,oT (by omega) (by omega)]
     simp only [c8]
     rw [show (.int .u32 10:Value)=.int .u32 ((10:Nat):Int) from rfl,AX _ _ _ (by decide)]
     simp only [ah,cf,ed,jY]
     rw [anO (by omega) (by omega),D6 (show r%10<10 by omega)]
     refine arE (x:=jr (r%10)) Sa RC (by simp;omega) ?_
     intro v' bT axp uG JA
     rw [show (.int .u32 ((10:Nat):Int):Value)=.int .u32 10 from rfl,awu]
     simp only [ah,eR i (by omega),true_and]
     have gT:dJ bT q qn:=JA q qn JP
     refine gj (v',c++[r%10],r / 10,i+1,bT) ⟨axp,gT,by simpa using uG,JB.append (fun x hx=>by simp at hx;omega),by show i+1≤9;omega,?_,by show (c++[r%10]).length≤b.length+(i+1);simp;omega,?_,?_⟩ (by show 9-(i+1)<9-i;omega)
     ·show r / 10<10^(9-(i+1))
      rw [show 9-i=(9-(i+1))+1 by omega,pow_succ] at hr
      exact (Nat.div_lt_iff_lt_mul (by decide)).2 hr
     ·show val 10 (c++[r%10])+10^(c++[r%10]).length*(r / 10+10^(9-(i+1))*qn)=n
      rw [od,length_append,List.length_singleton,pow_succ]
      rw [show 9-i=(9-(i+1))+1 by omega,pow_succ] at EZ
      have lW:=Nat.div_add_mod r 10
      simp only [val,mul_zero,add_zero]
      generalize r / 10=r1 at*
      generalize r%10=d at*
      generalize 10^c.length=P at*
      generalize 10^(9-(i+1))=Q at*
      generalize val 10 c=V at*
      clear hL gj hr Rt bW stop
      subst lW
      grind
     ·intro h1 h2
      have h2:r / 10=0:=h2
      refine Iw (JB.append (fun x hx=>by simp at hx;omega)) ?_
      intro _
      have:0<r:=by rcases sg with h | h;omega;exact h
      simp
      omega
    by_cases Ci:0<qn
    ·rw [aU (show (0:Int)<(l2:Int) by omega)]
     simp only [VF,fw,Li,dZ,ah,jm,Lj]
     exact step (.inl Ci)
    ·rw [aS (show ¬(0:Int)<(l2:Int) by omega)]
     simp only [VF,dR,fG,ah]
     by_cases qS:0<r
     ·rw [aU (show (0:Int)<(r:Int) by omega)]
      simp only [Li,jm,cK,ah,Lj,dZ]
      exact step (.inr qS)
     ·rw [aS (show ¬(0:Int)<(r:Int) by omega)]
      simp only [Li,jm,cK,ah,Lj,dZ,dF]
      exact stop (by omega) (.inr (by omega))
   ·have:i=9:=by omega
    subst this
    rw [aS (show ¬((9:Nat):Int)<9 by omega)]
    simp only [amL,kL,VF,Bi,Li,Lj,cK,ah,dF]
    exact stop (by simpa using hr) (.inl rfl)
  ·have qL:m=0:=by omega
   subst qL
   have hc:=zC rfl
   rw [mul_zero,add_zero] at bW
   have hb:b=um n:=dE.unique (by decide) hc (IH n).1 (by rw [bW,(IH n).2])
   have aem:b≠[]:=by rintro rfl;simp [val] at bW;omega
   have uB:b.length≤2000:=by
    have h1:=dE.low (by decide) hc aem
    have h2:=agn (b:=b.length-1) (m:=1) (n:=n) (by decide) (by omega) la
    omega
   rw [aD9]
   obtain ⟨id,iY,hv,hg⟩:∃id,h.length≤id∧bv=sl 5 id 0 (b.map jr).length∧hx[id]?=some (.arr 5 ((b.map jr).map cv)):=by
    rcases jt with ⟨_,h0⟩ | ⟨id,h1,h2,h3⟩
    ·exact absurd (by simpa using h0) aem
    ·exact ⟨id,h1,by simpa using h2,h3⟩
   rw [hv]
   refine an6 hg (by simp;omega) ?_
   have axy:=(bL hg).1
   have b2:sv (Go.Proofs.YtelmdbpaoifmoaaGreat.hb hx id (b.map jr).reverse) (sl 5 id 0 (b.map jr).length)=some (S (b.map jr).reverse):=by
    refine yS (b:=0) (e:=5) (l:=(b.map jr).reverse) (.inr ⟨id,Nat.zero_le _,by simp,?_⟩)
    rw [Jn axy]
   simp only [b2,ah]
   have:(b.map jr).reverse=cI n:=by unfold cI;rw [if_neg (by omega),hb]
   rw [this]
   exact hk _ (hex.set iY _)
end
section
variable (P : Program) (K : VK)
noncomputable section
variable (v0 : Value) (h : ae)
def ahZ:=bz prog 20 [[],[]]
@[irreducible] def c20:=bJ ahZ
theorem k20:ahZ=some (7,c20,[.cell true 4 2]):=by kernel_rfl
def Oj:Prop:=
 OH (aV 37 [(.bool false),(.slice none 0 0),(.bool false),(.slice none 0 0)] h) fun x2 z1=>
 ak P 55 [v0] z1 fun x4 z2=>
 ak P 55 [(.int .i64 (1))] z2 fun x5 z3=>
 OP (dd [(.bool false),(.slice none 0 0),(.bool false),(.slice none 0 0)] [(0,2,x4),(2,2,x5)]) fun x6=>
 OH (aF 4 z3 x2 x6) fun _ z4=>
 OP (af true 4 z4 x2) fun r0=>
 K r0 z4
theorem e20:aq P c20 (aT [.cell true 4 2] K) (bt [v0]) h=Oj P K v0 h:=by kernel_rfl
theorem f20 {K:VK} {v0:Value} {h:ae} (H:Oj prog K v0 h):ak prog 20 [v0] h K:=
 bK k20 (bI rfl) ((e20 prog K v0 h).mpr H)
end
noncomputable section
variable (a0 b1 : Value) (h : ae)
def ah4:=bz prog 26 [[],[]]
@[irreducible] def c26:=bJ ah4
theorem k26:ah4=some (22,c26,[.cell true 4 4]):=by kernel_rfl
def Oo:Prop:=
 OH (bm 37 h a0) fun a2 z1=>
 OH (bm 37 z1 b1) fun b3 z2=>
 OH (aV 37 [(.bool false),(.slice none 0 0),(.bool false),(.slice none 0 0)] z2) fun x4 z3=>
 OP (aL 0 a2) fun x5=>
 OP (af true 2 z3 x5) fun x6=>
 (True)∧
 OP (aL 2 b3) fun x7=>
 OP (af true 2 z3 x7) fun x8=>
 (True)∧
 ak P 71 [x6,x8] z3 fun x9 z4=>
 (True)∧
 OP (aL 0 b3) fun aM=>
 OP (af true 2 z4 aM) fun au=>
 (af true 2 z3 aM=some au∧True)∧
 OP (aL 2 a2) fun aC=>
 OP (af true 2 z4 aC) fun aB=>
 (af true 2 z3 aC=some aB∧True)∧
 ak P 71 [au,aB] z4 fun aH z5=>
 (True)∧
 ak P 70 [x9,aH] z5 fun bc z6=>
 (True)∧
 OP (aL 2 a2) fun bk=>
 OP (af true 2 z6 bk) fun bN=>
 (af true 2 z3 bk=some bN∧af true 2 z4 bk=some bN∧af true 2 z5 bk=some bN∧True)∧
 OP (aL 2 b3) fun aQ=>
 OP (af true 2 z6 aQ) fun aO=>
 (af true 2 z3 aQ=some aO∧af true 2 z4 aQ=some aO∧af true 2 z5 aQ=some aO∧True)∧
 ak P 71 [bN,aO] z6 fun aX z7=>
 (True)∧
 OP (dd [(.bool false),(.slice none 0 0),(.bool false),(.slice none 0 0)] [(0,2,bc),(2,2,aX)]) fun aZ=>
 OH (aF 4 z7 x4 aZ) fun _ z8=>
 (True)∧
 OP (af true 4 z8 x4) fun r0=>
 K r0 z8
theorem QA:aq P c26 (aT [.cell true 4 4] K) (bt [a0,b1]) h=Oo P K a0 b1 h:=by kernel_rfl
theorem f26 {K:VK} {a0 b1:Value} {h:ae} (H:Oo prog K a0 b1 h):ak prog 26 [a0,b1] h K:=
 bK k26 (bI rfl) ((QA prog K a0 b1 h).mpr H)
end
noncomputable section
variable (a0 b1 : Value) (h : ae)
def ah5:=bz prog 27 [[],[]]
@[irreducible] def c27:=bJ ah5
theorem k27:ah5=some (16,c27,[.cell true 4 4]):=by kernel_rfl
def Oq:Prop:=
 OH (bm 37 h a0) fun a2 z1=>
 OH (bm 37 z1 b1) fun b3 z2=>
 OH (aV 37 [(.bool false),(.slice none 0 0),(.bool false),(.slice none 0 0)] z2) fun x4 z3=>
 OP (aL 0 a2) fun x5=>
 OP (af true 2 z3 x5) fun x6=>
 (True)∧
 OP (aL 0 b3) fun x7=>
 OP (af true 2 z3 x7) fun x8=>
 (True)∧
 ak P 71 [x6,x8] z3 fun x9 z4=>
 (True)∧
 OP (aL 2 a2) fun aM=>
 OP (af true 2 z4 aM) fun au=>
 (af true 2 z3 aM=some au∧True)∧
 OP (aL 2 b3) fun aC=>
 OP (af true 2 z4 aC) fun aB=>
 (af true 2 z3 aC=some aB∧True)∧
 ak P 71 [au,aB] z4 fun aH z5=>
 (True)∧
 OP (dd [(.bool false),(.slice none 0 0),(.bool false),(.slice none 0 0)] [(0,2,x9),(2,2,aH)]) fun bc=>
 OH (aF 4 z5 x4 bc) fun _ z6=>
 (True)∧
 OP (af true 4 z6 x4) fun r0=>
 K r0 z6
theorem e27:aq P c27 (aT [.cell true 4 4] K) (bt [a0,b1]) h=Oq P K a0 b1 h:=by kernel_rfl
theorem f27 {K:VK} {a0 b1:Value} {h:ae} (H:Oq prog K a0 b1 h):ak prog 27 [a0,b1] h K:=
 bK k27 (bI rfl) ((e27 prog K a0 b1 h).mpr H)
end
noncomputable section
variable (x0 : Value) (h : ae)
def ah6:=bz prog 28 [[],[],[]]
@[irreducible] def c28:=bJ ah6
theorem k28:ah6=some (11,c28,[.cell true 4 2]):=by kernel_rfl
def Ot:Prop:=
 OH (aV 37 [(.bool false),(.slice none 0 0),(.bool false),(.slice none 0 0)] h) fun x2 z1=>
 ak P 67 [x0] z1 fun x7 z2=>
 OP (cg 0 x7) fun x8=>
 OP (cg 1 x7) fun _=>
 OH (aV 37 [(.bool false),(.slice none 0 0),(.bool false),(.slice none 0 0)] z2) fun q3 z3=>
 OH (aF 4 z3 q3 x8) fun _ z4=>
 OP (af true 4 z4 q3) fun aM=>
 OH (aF 4 z4 x2 aM) fun _ z5=>
 OP (af true 4 z5 x2) fun r0=>
 K r0 z5
theorem e28:aq P c28 (aT [.cell true 4 2] K) (bt [x0]) h=Ot P K x0 h:=by kernel_rfl
theorem f28 {K:VK} {x0:Value} {h:ae} (H:Ot prog K x0 h):ak prog 28 [x0] h K:=
 bK k28 (bI rfl) ((e28 prog K x0 h).mpr H)
end
noncomputable section
variable (a0 : Value) (h : ae)
def aib:=bz prog 48 [[],[],[],[],[],[],[],[]]
@[irreducible] def c48:=bJ aib
theorem k48:aib=some (9,c48,[.tmp 2]):=by kernel_rfl
def Oy (_:Program) (K:VK) (a0:Value) (h:ae):Prop:=
 OH (bm 35 h a0) fun a1 z1=>
 OP (aL 1 a1) fun x3=>
 OP (af false 1 z1 x3) fun x4=>
 OP (bj x4) fun x5=>
 OP (ai .eql x5 (.int .i64 (0))) fun x6=>
 aR x6
 (K (.int .i64 (0)) z1)
 (OP (aL 0 a1) fun x7=>
 OP (af false 1 z1 x7) fun x8=>
 aR x8
 (K (.int .i64 (-1)) z1)
 (K (.int .i64 (1)) z1))
theorem e48:aq P c48 (aT [.tmp 2] K) (bt [a0]) h=Oy P K a0 h:=by kernel_rfl
theorem f48 {K:VK} {a0:Value} {h:ae} (H:Oy prog K a0 h):ak prog 48 [a0] h K:=
 bK k48 (bI rfl) ((e48 prog K a0 h).mpr H)
end
noncomputable section
variable (v0 x2 z3 d4 : Value) (L1 : LQ) (xs : List Value) (h : ae)
def aie:=bz prog 55 [[],[],[2,3],[0],[],[],[],[],[0,2,3,4],[],[2,3],[]]
@[irreducible] def HT:=bJ aie
@[irreducible] def abq:=HT.r.r.l.l.l
@[irreducible] def abp:=HT.r.r.r
@[irreducible] def atr:=abq.r.l.r.r.l
@[irreducible] def ats:=abp.l
theorem k55:aie=some (25,HT,[.cell true 2 2]):=by kernel_rfl
def M9 (_P:Program) (K:VK):ar:=aT [.cell true 2 2] K
def ap5:ar:=aG (aq P abp (M9 P K)) (M9 P K)
def ap6:ar:=bO 0 (ap5 P K)
def Yv:ar:=aG (fun f' aW=>(([2,3]:List Nat).map f':List Value)=[x2,z3]∧L1 (([0]:List Nat).map f') aW) (ap6 P K)
def ap7:ar:=bO 1 (Yv P K x2 z3 L1)
def akg:Prop:=ay (aq P abq (Yv P K x2 z3 L1)) ([2,3]++[0]) ([x2,z3]++xs) h
def KX:Prop:=ay (aq P atr (ap7 P K x2 z3 L1)) [0,2,3,4] [v0,x2,z3,d4] h
def akf:Prop:=ay (aq P ats (M9 P K)) [2,3] [x2,z3] h
theorem aCE:KX P K v0 x2 z3 d4 L1 h=
 (OP (aL 1 z3) fun bk=>
 OP (af false 1 h bk) fun bN=>
 OH (dK 3 1 [(.int .i64 (0))] h [(0,1,d4)]) fun aO h_1=>
 OH (dY 3 1 8 h_1 bN aO) fun aX h_2=>
 OP (aL 1 z3) fun aZ=>
 OH (aF 1 h_2 aZ aX) fun _ h_3=>
 OP (ai .quo v0 (.int .i64 (10000))) fun cB=>
 ([x2,z3]:List Value)=[x2,z3]∧L1 [cB] h_3):=az (by kernel_rfl)
theorem aCG (x2 z3:Value) (L1:LQ) (v0:Value) (h:ae):akg P K x2 z3 L1 [v0] h=
 (OP (ai .neq v0 (.int .i64 (0))) fun x9=>
 aR x9
 (OP (ai .rem v0 (.int .i64 (10000))) fun au=>
 OP (ai .lss au (.int .i64 (0))) fun aB=>
 aR aB
 (OP (gJ .neg au) fun bc=>
 KX P K v0 x2 z3 bc L1 h)
 (KX P K v0 x2 z3 au L1 h))
 (akf P K x2 z3 h)):=az (by kernel_rfl)
theorem aCF:akf P K x2 z3 h=
 (OP (af true 2 h z3) fun bu=>
 OH (aF 2 h x2 bu) fun _ h_1=>
 OP (af true 2 h_1 x2) fun r0=>
 K r0 h_1):=az (by kernel_rfl)
def OB:Prop:=
 OH (aV 35 [(.bool false),(.slice none 0 0)] h) fun x2 h_1=>
 OP (ai .lss v0 (.int .i64 (0))) fun x6=>
 OP (dd [(.bool false),(.slice none 0 0)] [(0,1,x6)]) fun x7=>
 OH (aV 35 [(.bool false),(.slice none 0 0)] h_1) fun z3 h_2=>
 OH (aF 2 h_2 z3 x7) fun _ h_3=>
 cQ [v0] h_3 fun L1 xs hx=>
 akg P K x2 z3 L1 xs hx
theorem e55:aq P HT (aT [.cell true 2 2] K) (bt [v0]) h=OB P K v0 h:=by kernel_rfl
theorem f55 {K:VK} {v0:Value} {h:ae} (H:OB prog K v0 h):ak prog 55 [v0] h K:=
 bK k55 (bI rfl) ((e55 prog K v0 h).mpr H)
end
noncomputable section
variable (x0 x2 s4 x5 x6 i7 n8 x9 d10 aZ bu gW gX om jy : Value) (L1 : LQ) (xs : List Value) (h : ae)
def aip:=bz prog 67 [[],[],[],[],[],[2,4,5,21],[2,4,5,21,24],[],[2,4,5],[],[],[2,4,5],[6,7],[],[],[],[2,4,5,6,7],[2,4,5,6],[],[],[],[],[],[],[],[2,5,8,9,10],[2,5,8,10,82],[2,5,8,10,82,84],[2,5,8,10,82,84,88],[2,5,8,10,82,89],[],[],[],[],[2,8,10],[]]
@[irreducible] def DP:=bJ aip
@[irreducible] def abT:=DP.r.r.r.l.l.r.l
@[irreducible] def atU:=DP.r.r.r.l.r
@[irreducible] def abS:=DP.r.r.r.r
@[irreducible] def atO:=abT.r.l
@[irreducible] def P0:=abS.l
@[irreducible] def abM:=P0.r.l.r.l.l
@[irreducible] def abL:=P0.r.r
@[irreducible] def atP:=abM.r.r.l
@[irreducible] def abN:=abL.l
@[irreducible] def H5:=abN.r.r.r.l
@[irreducible] def abP:=H5.l.l.r.l
@[irreducible] def atQ:=H5.l.r
@[irreducible] def abO:=H5.r
@[irreducible] def abQ:=abP.r.l
@[irreducible] def atT:=abO.r.l
@[irreducible] def abR:=abQ.r.l
@[irreducible] def atS:=abR.r.l
theorem k67:aip=some (98,DP,[.cell true 4 2,.tmp 3]):=by kernel_rfl
def tZ (_P:Program) (K:VK):ar:=aT [.cell true 4 2,.tmp 3] K
def YG:ar:=aG (aq P abS (tZ P K)) (tZ P K)
def YH:ar:=aG (aq P atU (YG P K)) (YG P K)
def aqu:ar:=aG (aq P abL (tZ P K)) (tZ P K)
def aqv:ar:=bO 0 (aqu P K)
def YE:ar:=aG (fun f' aW=>(([2,4,5]:List Nat).map f':List Value)=[x2,s4,x5]∧L1 (([6,7]:List Nat).map f') aW) (aqv P K)
def YF:ar:=aG (aq P abO (tZ P K)) (tZ P K)
def GP:ar:=aG (aq P atQ (YF P K)) (YF P K)
def akB:Prop:=ay (aq P abT (YH P K)) [2,4,5,21] [x2,s4,x5,aZ] h
def UK:Prop:=ay (aq P atO (YH P K)) [2,4,5,21,24] [x2,s4,x5,aZ,bu] h
def K3:Prop:=ay (aq P P0 (tZ P K)) [2,4,5] [x2,s4,x5] h
def aky:Prop:=ay (aq P abM (YE P K x2 s4 x5 L1)) ([2,4,5]++[6,7]) ([x2,s4,x5]++xs) h
def UL:Prop:=ay (aq P atP (YE P K x2 s4 x5 L1)) [2,4,5,6,7] [x2,s4,x5,x6,i7] h
def akz:Prop:=ay (aq P abN (tZ P K)) [2,4,5,6] [x2,s4,x5,x6] h
def AS:Prop:=ay (aq P H5 (tZ P K)) [2,5,8,9,10] [x2,x5,n8,x9,d10] h
def akA:Prop:=ay (aq P abP (GP P K)) [2,5,8,10,82] [x2,x5,n8,d10,gW] h
def UM:Prop:=ay (aq P abQ (GP P K)) [2,5,8,10,82,84] [x2,x5,n8,d10,gW,gX] h
def UN:Prop:=ay (aq P abR (GP P K)) [2,5,8,10,82,84,88] [x2,x5,n8,d10,gW,gX,om] h
def FN:Prop:=ay (aq P atS (GP P K)) [2,5,8,10,82,89] [x2,x5,n8,d10,gW,jy] h
def UO:Prop:=ay (aq P atT (tZ P K)) [2,8,10] [x2,n8,d10] h
theorem amz:UK P K x2 s4 x5 aZ bu h=
 (OP (bQ aZ bu (.bool false)) fun ca=>
 aR ca
 (OP (lK s4 (some (.int .i64 (1))) none) fun bZ=>
 K3 P K x2 bZ (.bool true) h)
 (K3 P K x2 s4 x5 h)):=az (by kernel_rfl)
theorem aDh:akB P K x2 s4 x5 aZ h=
 (cC aZ true
 (OP (j7 s4 (.int .i64 (0))) fun cB=>
 OP (ai .eql cB (.int .u8 (45))) fun bu=>
 UK P K x2 s4 x5 aZ bu h)
 (UK P K x2 s4 x5 aZ undef h)):=az (by kernel_rfl)
theorem aDd:UL P K x2 s4 x5 x6 i7 L1 h=
 (OP (ai .sub i7 (.int .i64 (1))) fun cX=>
 ([x2,s4,x5]:List Value)=[x2,s4,x5]∧L1 [x6,cX] h):=az (by kernel_rfl)
theorem aDc (x2 s4 x5:Value) (L1:LQ) (x6 i7:Value) (h:ae):aky P K x2 s4 x5 L1 [x6,i7] h=
 (OP (ai .geq i7 (.int .i64 (0))) fun cT=>
 aR cT
 (OP (j7 s4 i7) fun eX=>
 OP (ai .eql eX (.int .u8 (47))) fun ef=>
 aR ef
 (UL P K x2 s4 x5 i7 i7 L1 h)
 (UL P K x2 s4 x5 x6 i7 L1 h))
 (akz P K x2 s4 x5 x6 h)):=az (by kernel_rfl)
theorem amB:FN P K x2 x5 n8 d10 gW jy h=
 (OP (bQ gW (.bool true) jy) fun oV=>
 aR oV
 (OP (dd [(.bool false),(.slice none 0 0),(.bool false),(.slice none 0 0)] []) fun iy=>
 OH (aF 4 h x2 iy) fun _ z1=>
 OP (af true 4 z1 x2) fun r0=>
 K (.tuple #[r0,(.bool false)]) z1)
 (aR x5
 (OP (af true 2 h n8) fun kj=>
 ak P 95 [kj] h fun x94 z1=>
 OH (aF 2 z1 n8 x94) fun _ z2=>
 UO P K x2 n8 d10 z2)
 (UO P K x2 n8 d10 h))):=az (by kernel_rfl)
theorem VD:UN P K x2 x5 n8 d10 gW gX om h=
 (cC gW false
 (OP (bQ gX om (.bool false)) fun jy=>
 FN P K x2 x5 n8 d10 gW jy h)
 (FN P K x2 x5 n8 d10 gW undef h)):=az (by kernel_rfl)
theorem amA:UM P K x2 x5 n8 d10 gW gX h=
 (cC gX true
 (OP (aL 1 n8) fun sL=>
 OP (af false 1 h sL) fun oh=>
 OP (bj oh) fun sM=>
 OP (ai .eql sM (.int .i64 (0))) fun om=>
 UN P K x2 x5 n8 d10 gW gX om h)
 (UN P K x2 x5 n8 d10 gW gX undef h)):=az (by kernel_rfl)
theorem aDg:akA P K x2 x5 n8 d10 gW h=
 (cC gW false
 (UM P K x2 x5 n8 d10 gW x5 h)
 (UM P K x2 x5 n8 d10 gW undef h)):=az (by kernel_rfl)
theorem amC:UO P K x2 n8 d10 h=
 (OP (af true 2 h n8) fun Ml=>
 OP (af true 2 h d10) fun Gn=>
 OP (dd [(.bool false),(.slice none 0 0),(.bool false),(.slice none 0 0)] [(0,2,Ml),(2,2,Gn)]) fun xa=>
 OH (aF 4 h x2 xa) fun _ z1=>
 OP (af true 4 z1 x2) fun r0=>
 K (.tuple #[r0,(.bool true)]) z1):=az (by kernel_rfl)
theorem aDf:AS P K x2 x5 n8 x9 d10 h=
 (OP (gJ .not x9) fun jV=>
 akA P K x2 x5 n8 d10 jV h):=az (by kernel_rfl)
theorem aDe:akz P K x2 s4 x5 x6 h=
 (OP (lK s4 none (some x6)) fun cP=>
 ak P 99 [cP] h fun dD z1=>
 OP (cg 0 dD) fun og=>
 OP (cg 1 dD) fun fP=>
 OH (aV 35 [(.bool false),(.slice none 0 0)] z1) fun n8 z2=>
 OH (aF 2 z2 n8 og) fun _ z3=>
 ak P 55 [(.int .i64 (1))] z3 fun gO z4=>
 OH (aV 35 [(.bool false),(.slice none 0 0)] z4) fun d10 z5=>
 OH (aF 2 z5 d10 gO) fun _ z6=>
 OP (gI s4) fun db=>
 OP (ai .lss x6 db) fun lC=>
 aR lC
 (OP (ai .add x6 (.int .i64 (1))) fun fa=>
 OP (lK s4 (some fa) none) fun gu=>
 ak P 99 [gu] z6 fun fU z7=>
 OP (cg 0 fU) fun kI=>
 OP (cg 1 fU) fun fZ=>
 OH (aV 35 [(.bool false),(.slice none 0 0)] z7) fun au z8=>
 OH (aF 2 z8 au kI) fun _ z9=>
 OP (gJ .not fZ) fun kJ=>
 cC kJ false
 (OP (af true 2 z9 au) fun gy=>
 (True)∧
 ak P 55 [(.int .i64 (2))] z9 fun lE jz=>
 (af true 2 jz au=some gy∧True)∧
 ak P 72 [gy,lE] jz fun gA kl=>
 (True)∧
 OP (ai .lss gA (.int .i64 (0))) fun gB=>
 OP (bQ kJ (.bool true) gB) fun fX=>
 cC fX false
 (OP (af true 2 kl n8) fun iu=>
 (True)∧
 OP (af true 2 kl au) fun mC=>
 (True)∧
 ak P 68 [iu,mC] kl fun nF nc=>
 (True)∧
 ak P 55 [(.int .i64 (1))] nc fun jT qx=>
 (True)∧
 ak P 72 [nF,jT] qx fun jU vk=>
 (True)∧
 OP (ai .neq jU (.int .i64 (0))) fun kK=>
 OP (bQ fX (.bool true) kK) fun jk=>
 aR jk
 (OP (dd [(.bool false),(.slice none 0 0),(.bool false),(.slice none 0 0)] []) fun fK=>
 OH (aF 4 vk x2 fK) fun _ mE=>
 OP (af true 4 mE x2) fun r0=>
 K (.tuple #[r0,(.bool false)]) mE)
 (OP (af true 2 vk au) fun ki=>
 OH (aF 2 vk d10 ki) fun _ mE=>
 AS P K x2 x5 n8 fP d10 mE))
 ((True)∧
 (True)∧
 (True)∧
 OP (bQ fX (.bool true) undef) fun jk=>
 aR jk
 (OP (dd [(.bool false),(.slice none 0 0),(.bool false),(.slice none 0 0)] []) fun fK=>
 OH (aF 4 kl x2 fK) fun _ nc=>
 OP (af true 4 nc x2) fun r0=>
 K (.tuple #[r0,(.bool false)]) nc)
 (OP (af true 2 kl au) fun ki=>
 OH (aF 2 kl d10 ki) fun _ nc=>
 AS P K x2 x5 n8 fP d10 nc)))
 ((True)∧
 (True)∧
 OP (bQ kJ (.bool true) undef) fun fX=>
 cC fX false
 (OP (af true 2 z9 n8) fun iu=>
 (True)∧
 OP (af true 2 z9 au) fun mC=>
 (True)∧
 ak P 68 [iu,mC] z9 fun nF jz=>
 (True)∧
 ak P 55 [(.int .i64 (1))] jz fun jT kl=>
 (True)∧
 ak P 72 [nF,jT] kl fun jU nc=>
 (True)∧
 OP (ai .neq jU (.int .i64 (0))) fun kK=>
 OP (bQ fX (.bool true) kK) fun jk=>
 aR jk
 (OP (dd [(.bool false),(.slice none 0 0),(.bool false),(.slice none 0 0)] []) fun fK=>
 OH (aF 4 nc x2 fK) fun _ qx=>
 OP (af true 4 qx x2) fun r0=>
 K (.tuple #[r0,(.bool false)]) qx)
 (OP (af true 2 nc au) fun ki=>
 OH (aF 2 nc d10 ki) fun _ qx=>
 AS P K x2 x5 n8 fP d10 qx))
 ((True)∧
 (True)∧
 (True)∧
 OP (bQ fX (.bool true) undef) fun jk=>
 aR jk
 (OP (dd [(.bool false),(.slice none 0 0),(.bool false),(.slice none 0 0)] []) fun fK=>
 OH (aF 4 z9 x2 fK) fun _ jz=>
 OP (af true 4 jz x2) fun r0=>
 K (.tuple #[r0,(.bool false)]) jz)
 (OP (af true 2 z9 au) fun ki=>
 OH (aF 2 z9 d10 ki) fun _ jz=>
 AS P K x2 x5 n8 fP d10 jz))))
 (AS P K x2 x5 n8 fP d10 z6)):=az (by kernel_rfl)
theorem aDb:K3 P K x2 s4 x5 h=
 (OP (gI s4) fun cM=>
 OP (gI s4) fun cE=>
 OP (ai .sub cE (.int .i64 (1))) fun cS=>
 cQ [cM,cS] h fun L1 xs hx=>
 aky P K x2 s4 x5 L1 xs hx):=az (by kernel_rfl)
def OK:Prop:=
 OH (aV 37 [(.bool false),(.slice none 0 0),(.bool false),(.slice none 0 0)] h) fun x2 z1=>
 OP (gI x0) fun bc=>
 OP (ai .gtr bc (.int .i64 (8002))) fun bk=>
 aR bk
 (OP (dd [(.bool false),(.slice none 0 0),(.bool false),(.slice none 0 0)] []) fun bN=>
 OH (aF 4 z1 x2 bN) fun _ z2=>
 OP (af true 4 z2 x2) fun r0=>
 K (.tuple #[r0,(.bool false)]) z2)
 (OP (gI x0) fun aO=>
 OP (ai .gtr aO (.int .i64 (0))) fun aX=>
 akB P K x2 x0 (.bool false) aX z1)
theorem e67:aq P DP (aT [.cell true 4 2,.tmp 3] K) (bt [x0]) h=OK P K x0 h:=by kernel_rfl
theorem f67 {K:VK} {x0:Value} {h:ae} (H:OK prog K x0 h):ak prog 67 [x0] h K:=
 bK k67 (bI rfl) ((e67 prog K x0 h).mpr H)
end
noncomputable section
variable (a0 b1 : Value) (h : ae)
def ais:=bz prog 70 [[],[],[],[],[],[],[],[]]
@[irreducible] def c70:=bJ ais
theorem k70:ais=some (43,c70,[.cell true 2 4]):=by kernel_rfl
def OO:Prop:=
 OH (bm 35 h a0) fun a2 z1=>
 OH (bm 35 z1 b1) fun b3 z2=>
 OH (aV 35 [(.bool false),(.slice none 0 0)] z2) fun x4 z3=>
 OP (aL 0 a2) fun x5=>
 OP (af false 1 z3 x5) fun x6=>
 OP (aL 0 b3) fun x7=>
 OP (af false 1 z3 x7) fun x8=>
 OP (uJ false x6 x8) fun x9=>
 aR x9
 (OP (aL 0 a2) fun aM=>
 OP (af false 1 z3 aM) fun au=>
 (True)∧
 OP (aL 1 a2) fun aC=>
 OP (af false 1 z3 aC) fun aB=>
 (True)∧
 OP (aL 1 b3) fun aH=>
 OP (af false 1 z3 aH) fun bc=>
 (True)∧
 ak P 104 [aB,bc] z3 fun bk z4=>
 (af false 1 z4 aM=some au∧True)∧
 OP (dd [(.bool false),(.slice none 0 0)] [(0,1,au),(1,1,bk)]) fun bN=>
 ak P 100 [bN] z4 fun aQ z5=>
 (True)∧
 OH (aF 2 z5 x4 aQ) fun _ z6=>
 (True)∧
 OP (af true 2 z6 x4) fun r0=>
 K r0 z6)
 (OP (aL 1 a2) fun aO=>
 OP (af false 1 z3 aO) fun aX=>
 OP (aL 1 b3) fun aZ=>
 OP (af false 1 z3 aZ) fun bF=>
 ak P 101 [aX,bF] z3 fun cB z4=>
 OP (ai .geq cB (.int .i64 (0))) fun bu=>
 aR bu
 (OP (aL 0 a2) fun ca=>
 OP (af false 1 z4 ca) fun cw=>
 (True)∧
 OP (aL 1 a2) fun bZ=>
 OP (af false 1 z4 bZ) fun cG=>
 (True)∧
 OP (aL 1 b3) fun cM=>
 OP (af false 1 z4 cM) fun dC=>
 (True)∧
 ak P 103 [cG,dC] z4 fun cE z5=>
 (af false 1 z5 ca=some cw∧True)∧
 OP (dd [(.bool false),(.slice none 0 0)] [(0,1,cw),(1,1,cE)]) fun cS=>
 ak P 100 [cS] z5 fun dH z6=>
 (True)∧
 OH (aF 2 z6 x4 dH) fun _ z7=>
 (True)∧
 OP (af true 2 z7 x4) fun r0=>
 K r0 z7)
 (OP (aL 0 b3) fun cT=>
 OP (af false 1 z4 cT) fun cR=>
 (True)∧
 OP (aL 1 b3) fun cX=>
 OP (af false 1 z4 cX) fun fE=>
 (True)∧
 OP (aL 1 a2) fun dI=>
 OP (af false 1 z4 dI) fun eX=>
 (True)∧
 ak P 103 [fE,eX] z4 fun ef z5=>
 (af false 1 z5 cT=some cR∧True)∧
 OP (dd [(.bool false),(.slice none 0 0)] [(0,1,cR),(1,1,ef)]) fun eG=>
 ak P 100 [eG] z5 fun eZ z6=>
 (True)∧
 OH (aF 2 z6 x4 eZ) fun _ z7=>
 (True)∧
 OP (af true 2 z7 x4) fun r0=>
 K r0 z7))
theorem e70:aq P c70 (aT [.cell true 2 4] K) (bt [a0,b1]) h=OO P K a0 b1 h:=by kernel_rfl
theorem f70 {K:VK} {a0 b1:Value} {h:ae} (H:OO prog K a0 b1 h):ak prog 70 [a0,b1] h K:=
 bK k70 (bI rfl) ((e70 prog K a0 b1 h).mpr H)
end
noncomputable section
variable (a0 b1 a2 b3 x4 x5 i6 x7 k8 s9 cE dH : Value) (L1 L2 : LQ) (xs : List Value) (h : ae)
def ait:=bz prog 71 [[],[],[],[2,3,4,5],[6],[],[],[],[],[2,3,4,5,6],[7,8],[2,3,4,5,6,7,8,31],[2,3,4,5,6,7,8,31,33],[],[],[],[],[2,3,4,5,6,8,9],[2,3,4,5,6,7,8],[2,3,4,5,6],[2,3,4,5],[]]
@[irreducible] def Ib:=bJ ait
@[irreducible] def P4:=Ib.r.r.l.r.l.l
@[irreducible] def acd:=Ib.r.r.r
@[irreducible] def Ic:=P4.r.l.l.r.r.l.l
@[irreducible] def ace:=P4.r.r
@[irreducible] def auf:=acd.l
@[irreducible] def aca:=Ic.l.l.r.l
@[irreducible] def aua:=Ic.l.r
@[irreducible] def P3:=Ic.r
@[irreducible] def aue:=ace.l
@[irreducible] def aub:=aca.r.l
@[irreducible] def auc:=P3.l.l.r.r.l
@[irreducible] def acb:=P3.r
@[irreducible] def aud:=acb.l
theorem k71:ait=some (80,Ib,[.cell true 2 4]):=by kernel_rfl
def Ni (_P:Program) (K:VK):ar:=aT [.cell true 2 4] K
def aqP:ar:=aG (aq P acd (Ni P K)) (Ni P K)
def aqQ:ar:=bO 0 (aqP P K)
def GS:ar:=aG (fun f' aW=>(([2,3,4,5]:List Nat).map f':List Value)=[a2,b3,x4,x5]∧L1 (([6]:List Nat).map f') aW) (aqQ P K)
def aqR:ar:=aG (aq P ace (GS P K a2 b3 x4 x5 L1)) (GS P K a2 b3 x4 x5 L1)
def aqL:ar:=bO 1 (aqR P K a2 b3 x4 x5 L1)
def aqM:ar:=bO 2 (aqL P K a2 b3 x4 x5 L1)
def Bn:ar:=aG (fun f' aW=>(([2,3,4,5,6]:List Nat).map f':List Value)=[a2,b3,x4,x5,i6]∧L2 (([7,8]:List Nat).map f') aW) (aqM P K a2 b3 x4 x5 L1)
def YL:ar:=aG (aq P P3 (Bn P K a2 b3 x4 x5 i6 L1 L2)) (Bn P K a2 b3 x4 x5 i6 L1 L2)
def YM:ar:=aG (aq P aua (YL P K a2 b3 x4 x5 i6 L1 L2)) (YL P K a2 b3 x4 x5 i6 L1 L2)
def aqN:ar:=aG (aq P acb (Bn P K a2 b3 x4 x5 i6 L1 L2)) (Bn P K a2 b3 x4 x5 i6 L1 L2)
def aqO:ar:=bO 3 (aqN P K a2 b3 x4 x5 i6 L1 L2)
def akV:Prop:=ay (aq P P4 (GS P K a2 b3 x4 x5 L1)) ([2,3,4,5]++[6]) ([a2,b3,x4,x5]++xs) h
def akR:Prop:=ay (aq P Ic (Bn P K a2 b3 x4 x5 i6 L1 L2)) ([2,3,4,5,6]++[7,8]) ([a2,b3,x4,x5,i6]++xs) h
def akS:Prop:=ay (aq P aca (YM P K a2 b3 x4 x5 i6 L1 L2)) [2,3,4,5,6,7,8,31] [a2,b3,x4,x5,i6,x7,k8,cE] h
def UW:Prop:=ay (aq P aub (YM P K a2 b3 x4 x5 i6 L1 L2)) [2,3,4,5,6,7,8,31,33] [a2,b3,x4,x5,i6,x7,k8,cE,dH] h
def yu:Prop:=ay (aq P auc (aqO P K a2 b3 x4 x5 i6 L1 L2)) [2,3,4,5,6,8,9] [a2,b3,x4,x5,i6,k8,s9] h
def akT:Prop:=ay (aq P aud (Bn P K a2 b3 x4 x5 i6 L1 L2)) [2,3,4,5,6,7,8] [a2,b3,x4,x5,i6,x7,k8] h
def UX:Prop:=ay (aq P aue (GS P K a2 b3 x4 x5 L1)) [2,3,4,5,6] [a2,b3,x4,x5,i6] h
def akU:Prop:=ay (aq P auf (Ni P K)) [2,3,4,5] [a2,b3,x4,x5] h
theorem amE:UW P K a2 b3 x4 x5 i6 x7 k8 cE dH L1 L2 h=
 (OP (bQ cE (.bool true) dH) fun cT=>
 aR cT
 (OP (ai .add i6 k8) fun ef=>
 OP (bf 1 x5 ef) fun eG=>
 OP (af false 1 h eG) fun eZ=>
 OP (ai .add eZ x7) fun bH=>
 OP (aL 1 b3) fun dD=>
 OP (af false 1 h dD) fun og=>
 OP (bj og) fun fP=>
 OP (ai .lss k8 fP) fun gO=>
 aR gO
 (OP (aL 1 a2) fun cH=>
 OP (af false 1 h cH) fun db=>
 (True)∧
 OP (bf 1 db i6) fun dw=>
 OP (af false 1 h dw) fun gP=>
 (True)∧
 OP (aL 1 b3) fun jj=>
 OP (af false 1 h jj) fun fa=>
 (True)∧
 OP (bf 1 fa k8) fun fU=>
 OP (af false 1 h fU) fun kI=>
 (True)∧
 OP (ai .mul gP kI) fun fZ=>
 OP (ai .add bH fZ) fun mB=>
 yu P K a2 b3 x4 x5 i6 k8 mB L1 L2 h)
 (yu P K a2 b3 x4 x5 i6 k8 bH L1 L2 h))
 (UX P K a2 b3 x4 x5 i6 L1 h)):=az (by kernel_rfl)
theorem amD:akS P K a2 b3 x4 x5 i6 x7 k8 cE L1 L2 h=
 (cC cE false
 (OP (ai .gtr x7 (.int .i64 (0))) fun dH=>
 UW P K a2 b3 x4 x5 i6 x7 k8 cE dH L1 L2 h)
 (UW P K a2 b3 x4 x5 i6 x7 k8 cE undef L1 L2 h)):=az (by kernel_rfl)
theorem aDE:yu P K a2 b3 x4 x5 i6 k8 s9 L1 L2 h=
 (OP (ai .add i6 k8) fun lE=>
 OP (ai .rem s9 (.int .i64 (10000))) fun gB=>
 OP (ai .quo s9 (.int .i64 (10000))) fun m9=>
 OP (bf 1 x5 lE) fun iu=>
 OH (aF 1 h iu gB) fun _ z1=>
 akT P K a2 b3 x4 x5 i6 m9 k8 L1 L2 z1):=az (by kernel_rfl)
theorem aDF:akT P K a2 b3 x4 x5 i6 x7 k8 L1 L2 h=
 (OP (ai .add k8 (.int .i64 (1))) fun cX=>
 ([a2,b3,x4,x5,i6]:List Value)=[a2,b3,x4,x5,i6]∧L2 [x7,cX] h):=az (by kernel_rfl)
theorem aDD (a2 b3 x4 x5 i6:Value) (L1 L2:LQ) (x7 k8:Value) (h:ae):akR P K a2 b3 x4 x5 i6 L1 L2 [x7,k8] h=
 (OP (aL 1 b3) fun bZ=>
 OP (af false 1 h bZ) fun cG=>
 OP (bj cG) fun cM=>
 OP (ai .lss k8 cM) fun dC=>
 akS P K a2 b3 x4 x5 i6 x7 k8 dC L1 L2 h):=az (by kernel_rfl)
theorem aDG:UX P K a2 b3 x4 x5 i6 L1 h=
 (OP (ai .add i6 (.int .i64 (1))) fun ca=>
 ([a2,b3,x4,x5]:List Value)=[a2,b3,x4,x5]∧L1 [ca] h):=az (by kernel_rfl)
theorem aDI (a2 b3 x4 x5:Value) (L1:LQ) (i6:Value) (h:ae):akV P K a2 b3 x4 x5 L1 [i6] h=
 (OP (aL 1 a2) fun aX=>
 OP (af false 1 h aX) fun aZ=>
 OP (bj aZ) fun bF=>
 OP (ai .lss i6 bF) fun cB=>
 aR cB
 (cQ [(.int .i64 (0)),(.int .i64 (0))] h fun L2 xs hx=>
 akR P K a2 b3 x4 x5 i6 L1 L2 xs hx)
 (akU P K a2 b3 x4 x5 h)):=az (by kernel_rfl)
theorem aDH:akU P K a2 b3 x4 x5 h=
 (OP (aL 0 a2) fun mC=>
 OP (af false 1 h mC) fun nF=>
 OP (aL 0 b3) fun jT=>
 OP (af false 1 h jT) fun jU=>
 OP (uJ true nF jU) fun kK=>
 OP (dd [(.bool false),(.slice none 0 0)] [(0,1,kK),(1,1,x5)]) fun fK=>
 ak P 100 [fK] h fun ki z1=>
 OH (aF 2 z1 x4 ki) fun _ z2=>
 OP (af true 2 z2 x4) fun r0=>
 K r0 z2):=az (by kernel_rfl)
def OQ:Prop:=
 OH (bm 35 h a0) fun a2 z1=>
 OH (bm 35 z1 b1) fun b3 z2=>
 OH (aV 35 [(.bool false),(.slice none 0 0)] z2) fun x4 z3=>
 OP (aL 1 a2) fun aM=>
 OP (af false 1 z3 aM) fun au=>
 OP (bj au) fun aC=>
 OP (aL 1 b3) fun aB=>
 OP (af false 1 z3 aB) fun aH=>
 OP (bj aH) fun bc=>
 OP (ai .add aC bc) fun bk=>
 OP (ai .add bk (.int .i64 (1))) fun bN=>
 OH (mb 3 8 [(.int .i64 (0))] z3 bN bN) fun aQ z4=>
 cQ [(.int .i64 (0))] z4 fun L1 xs hx=>
 akV P K a2 b3 x4 aQ L1 xs hx
theorem e71:aq P Ib (aT [.cell true 2 4] K) (bt [a0,b1]) h=OQ P K a0 b1 h:=by kernel_rfl
theorem f71 {K:VK} {a0 b1:Value} {h:ae} (H:OQ prog K a0 b1 h):ak prog 71 [a0,b1] h K:=
 bK k71 (bI rfl) ((e71 prog K a0 b1 h).mpr H)
end
noncomputable section
variable (a0 b1 : Value) (h : ae)
def aiu:=bz prog 72 [[],[]]
@[irreducible] def c72:=bJ aiu
theorem k72:aiu=some (9,c72,[.tmp 4]):=by kernel_rfl
def OR:Prop:=
 OH (bm 35 h a0) fun a2 z1=>
 OH (bm 35 z1 b1) fun b3 z2=>
 OP (af true 2 z2 a2) fun x5=>
 OP (af true 2 z2 b3) fun x6=>
 ak P 92 [x5,x6] z2 fun x7 z3=>
 ak P 48 [x7] z3 fun x8 z4=>
 K x8 z4
theorem e72:aq P c72 (aT [.tmp 4] K) (bt [a0,b1]) h=OR P K a0 b1 h:=by kernel_rfl
theorem f72 {K:VK} {a0 b1:Value} {h:ae} (H:OR prog K a0 b1 h):ak prog 72 [a0,b1] h K:=
 bK k72 (bI rfl) ((e72 prog K a0 b1 h).mpr H)
end
noncomputable section
variable (a0 b1 : Value) (h : ae)
def aiL:=bz prog 92 [[],[]]
@[irreducible] def c92:=bJ aiL
theorem k92:aiL=some (9,c92,[.cell true 2 4]):=by kernel_rfl
def O6:Prop:=
 OH (bm 35 h a0) fun a2 z1=>
 OH (bm 35 z1 b1) fun b3 z2=>
 OH (aV 35 [(.bool false),(.slice none 0 0)] z2) fun x4 z3=>
 OP (af true 2 z3 a2) fun x5=>
 (True)∧
 OP (af true 2 z3 b3) fun x6=>
 (True)∧
 ak P 95 [x6] z3 fun x7 z4=>
 (af true 2 z4 a2=some x5∧True)∧
 ak P 70 [x5,x7] z4 fun x8 z5=>
 (True)∧
 OH (aF 2 z5 x4 x8) fun _ z6=>
 (True)∧
 OP (af true 2 z6 x4) fun r0=>
 K r0 z6
theorem e92:aq P c92 (aT [.cell true 2 4] K) (bt [a0,b1]) h=O6 P K a0 b1 h:=by kernel_rfl
theorem f92 {K:VK} {a0 b1:Value} {h:ae} (H:O6 prog K a0 b1 h):ak prog 92 [a0,b1] h K:=
 bK k92 (bI rfl) ((e92 prog K a0 b1 h).mpr H)
end
noncomputable section
variable (z0 z1 s3 i4 : Value) (L1 : LQ) (xs : List Value) (h : ae)
def aiM:=bz prog 93 [[],[],[],[],[],[],[1],[3,4],[],[],[],[],[],[3],[],[3],[],[],[3],[]]
@[irreducible] def Ir:=bJ aiM
@[irreducible] def auQ:=Ir.r.r.r.l.r.l.l
@[irreducible] def acK:=Ir.r.r.r.r
@[irreducible] def Qa:=acK.l
@[irreducible] def auO:=Qa.l.l.l
@[irreducible] def acJ:=Qa.r
@[irreducible] def auP:=acJ.l
theorem k93:aiM=some (53,Ir,[.tmp 2]):=by kernel_rfl
def Bp (_P:Program) (K:VK):ar:=aT [.tmp 2] K
def arl:ar:=aG (aq P acK (Bp P K)) (Bp P K)
def arn:ar:=bO 0 (arl P K)
def aro:ar:=aG (fun f' aW=>(([1]:List Nat).map f':List Value)=[z1]∧L1 (([3,4]:List Nat).map f') aW) (arn P K)
def ari:ar:=aG (aq P acJ (Bp P K)) (Bp P K)
def arj:ar:=bO 2 (ari P K)
def ark:ar:=aG (fun f' aW=>(([]:List Nat).map f':List Value)=[]∧L1 (([3]:List Nat).map f') aW) (arj P K)
def alr:Prop:=ay (aq P auQ (aro P K z1 L1)) ([1]++[3,4]) ([z1]++xs) h
def alo:Prop:=ay (aq P Qa (Bp P K)) [3] [s3] h
def alp:Prop:=ay (aq P auO (ark P K L1)) ([]++[3]) ([]++xs) h
def alq:Prop:=ay (aq P auP (Bp P K)) [3] [s3] h
theorem aEe (z1:Value) (L1:LQ) (s3 i4:Value) (h:ae):alr P K z1 L1 [s3,i4] h=
 (OP (ai .geq i4 (.int .i64 (0))) fun bk=>
 aR bk
 (OP (aL 1 z1) fun aO=>
 OP (af false 1 h aO) fun aX=>
 OP (bf 1 aX i4) fun bF=>
 OP (af false 1 h bF) fun cB=>
 OP (ai .quo cB (.int .i64 (1000))) fun ca=>
 OP (ai .add (.int .i64 (48)) ca) fun cw=>
 OP (dA .u8 cw) fun bZ=>
 OP (ai .quo cB (.int .i64 (100))) fun cM=>
 OP (ai .rem cM (.int .i64 (10))) fun dC=>
 OP (ai .add (.int .i64 (48)) dC) fun cE=>
 OP (dA .u8 cE) fun cS=>
 OP (ai .quo cB (.int .i64 (10))) fun cT=>
 OP (ai .rem cT (.int .i64 (10))) fun cR=>
 OP (ai .add (.int .i64 (48)) cR) fun cX=>
 OP (dA .u8 cX) fun fE=>
 OP (ai .rem cB (.int .i64 (10))) fun eX=>
 OP (ai .add (.int .i64 (48)) eX) fun ef=>
 OP (dA .u8 ef) fun eG=>
 OH (dK 5 4 [(.int .u8 (0))] h [(0,1,bZ),(1,1,cS),(2,1,fE),(3,1,eG)]) fun eZ h_1=>
 OP (sv h_1 eZ) fun bY=>
 OP (ai .add s3 bY) fun dD=>
 OP (ai .sub i4 (.int .i64 (1))) fun aQ=>
 ([z1]:List Value)=[z1]∧L1 [dD,aQ] h_1)
 (alo P K s3 h)):=az (by kernel_rfl)
theorem aEc (L1:LQ) (s3:Value) (h:ae):alp P K L1 [s3] h=
 (OP (j7 s3 (.int .i64 (0))) fun fP=>
 OP (ai .eql fP (.int .u8 (48))) fun gO=>
 aR gO
 (OP (lK s3 (some (.int .i64 (1))) none) fun cH=>
 ([]:List Value)=[]∧L1 [cH] h)
 (alq P K s3 h)):=az (by kernel_rfl)
theorem aEd:alq P K s3 h=
 (K s3 h):=az (by kernel_rfl)
theorem aEb:alo P K s3 h=
 (cQ [s3] h fun L1 xs hx=>
 alp P K L1 xs hx):=az (by kernel_rfl)
def O7:Prop:=
 OH (bm 35 h z0) fun z1 h_1=>
 OP (aL 1 z1) fun x7=>
 OP (af false 1 h_1 x7) fun x8=>
 OP (bj x8) fun x9=>
 OP (ai .eql x9 (.int .i64 (0))) fun aM=>
 aR aM
 (K (.string ⟨#[48]⟩) h_1)
 (OP (aL 1 z1) fun au=>
 OP (af false 1 h_1 au) fun aC=>
 OP (bj aC) fun aB=>
 OP (ai .sub aB (.int .i64 (1))) fun aH=>
 cQ [(.string ⟨#[]⟩),aH] h_1 fun L1 xs hx=>
 alr P K z1 L1 xs hx)
theorem e93:aq P Ir (aT [.tmp 2] K) (bt [z0]) h=O7 P K z0 h:=by kernel_rfl
theorem f93 {K:VK} {z0:Value} {h:ae} (H:O7 prog K z0 h):ak prog 93 [z0] h K:=
 bK k93 (bI rfl) ((e93 prog K z0 h).mpr H)
end
noncomputable section
variable (a0 : Value) (h : ae)
def aiN:=bz prog 94 [[],[],[]]
@[irreducible] def c94:=bJ aiN
theorem k94:aiN=some (5,c94,[.cell true 2 2]):=by kernel_rfl
def O8 (_:Program) (K:VK) (a0:Value) (h:ae):Prop:=
 OH (bm 35 h a0) fun a1 z1=>
 OH (aV 35 [(.bool false),(.slice none 0 0)] z1) fun x2 z2=>
 OP (aL 0 a1) fun x3=>
 OH (aF 1 z2 x3 (.bool false)) fun _ z3=>
 OP (af true 2 z3 a1) fun x4=>
 OH (aF 2 z3 x2 x4) fun _ z4=>
 OP (af true 2 z4 x2) fun r0=>
 K r0 z4
theorem e94:aq P c94 (aT [.cell true 2 2] K) (bt [a0]) h=O8 P K a0 h:=by kernel_rfl
theorem f94 {K:VK} {a0:Value} {h:ae} (H:O8 prog K a0 h):ak prog 94 [a0] h K:=
 bK k94 (bI rfl) ((e94 prog K a0 h).mpr H)
end
noncomputable section
variable (a0 a1 x2 x6 aM : Value) (h : ae)
def aiO:=bz prog 95 [[],[1,2,6],[1,2,6,10],[],[]]
@[irreducible] def Is:=bJ aiO
@[irreducible] def acM:=Is.r.l.r.l
@[irreducible] def auR:=Is.r.r
@[irreducible] def auS:=acM.r.l
theorem k95:aiO=some (14,Is,[.cell true 2 2]):=by kernel_rfl
def Y9 (_P:Program) (K:VK):ar:=aT [.cell true 2 2] K
def Za:ar:=aG (aq P auR (Y9 P K)) (Y9 P K)
def als:Prop:=ay (aq P acM (Za P K)) [1,2,6] [a1,x2,x6] h
def Va:Prop:=ay (aq P auS (Za P K)) [1,2,6,10] [a1,x2,x6,aM] h
theorem amN:Va P K a1 x2 x6 aM h=
 (OP (bQ x6 aM (.bool false)) fun au=>
 OP (aL 0 a1) fun aC=>
 OH (aF 1 h aC au) fun _ z1=>
 OP (af true 2 z1 a1) fun aB=>
 OH (aF 2 z1 x2 aB) fun _ z2=>
 OP (af true 2 z2 x2) fun r0=>
 K r0 z2):=az (by kernel_rfl)
theorem amM:als P K a1 x2 x6 h=
 (cC x6 true
 (OP (aL 1 a1) fun x7=>
 OP (af false 1 h x7) fun x8=>
 OP (bj x8) fun x9=>
 OP (ai .gtr x9 (.int .i64 (0))) fun aM=>
 Va P K a1 x2 x6 aM h)
 (Va P K a1 x2 x6 undef h)):=az (by kernel_rfl)
def O9:Prop:=
 OH (bm 35 h a0) fun a1 z1=>
 OH (aV 35 [(.bool false),(.slice none 0 0)] z1) fun x2 z2=>
 OP (aL 0 a1) fun x3=>
 OP (af false 1 z2 x3) fun x4=>
 OP (gJ .not x4) fun x5=>
 als P K a1 x2 x5 z2
theorem e95:aq P Is (aT [.cell true 2 2] K) (bt [a0]) h=O9 P K a0 h:=by kernel_rfl
theorem f95 {K:VK} {a0:Value} {h:ae} (H:O9 prog K a0 h):ak prog 95 [a0] h K:=
 bK k95 (bI rfl) ((e95 prog K a0 h).mpr H)
end
noncomputable section
variable (s0 x2 z4 x5 d6 i7 au aH bk aX cB bu dD bV : Value) (L1 L2 : LQ) (xs : List Value) (h : ae)
def aiR:=bz prog 99 [[],[0,2,11],[0,2,11,14],[0,2,16],[0,2,16,20],[0,2,16,20,23],[0,2,16,24],[],[],[],[],[],[0,2,4],[5],[],[],[],[],[0,2,4,5],[6,7],[],[],[0,2,4,5,6,7,46],[0,2,4,5,6,7,46,50],[],[],[],[],[0,2,4,5,6],[0,2,4,5],[2,4],[]]
@[irreducible] def DT:=bJ aiR
@[irreducible] def acV:=DT.r.l.l.r.l
@[irreducible] def auU:=DT.r.l.r
@[irreducible] def Qb:=DT.r.r
@[irreducible] def acW:=acV.r.l
@[irreducible] def It:=Qb.r.l.r.l.l
@[irreducible] def acR:=Qb.r.r
@[irreducible] def acX:=acW.r.l
@[irreducible] def DU:=It.r.l.l.r.l.r.l.l
@[irreducible] def acT:=It.r.l.l.r.r
@[irreducible] def acS:=It.r.r
@[irreducible] def au1:=acR.l
@[irreducible] def acP:=acX.r.l
@[irreducible] def acU:=DU.r.l.l.l.l.r.l
@[irreducible] def auX:=DU.r.l.l.l.r
@[irreducible] def auW:=DU.r.l.l.r
@[irreducible] def auV:=DU.r.r
@[irreducible] def auZ:=acT.l
@[irreducible] def au0:=acS.l
@[irreducible] def acQ:=acP.r.l
@[irreducible] def auY:=acU.r.l
@[irreducible] def auT:=acQ.r.l
theorem k99:aiR=some (69,DT,[.cell true 2 2,.tmp 3]):=by kernel_rfl
def Dt (_P:Program) (K:VK):ar:=aT [.cell true 2 2,.tmp 3] K
def Zb:ar:=aG (aq P Qb (Dt P K)) (Dt P K)
def Bq:ar:=aG (aq P auU (Zb P K)) (Zb P K)
def arp:ar:=aG (aq P acR (Dt P K)) (Dt P K)
def arq:ar:=bO 0 (arp P K)
def GW:ar:=aG (fun f' aW=>(([0,2,4]:List Nat).map f':List Value)=[s0,x2,z4]∧L1 (([5]:List Nat).map f') aW) (arq P K)
def ars:ar:=aG (aq P acS (GW P K s0 x2 z4 L1)) (GW P K s0 x2 z4 L1)
def Ns:ar:=bO 1 (ars P K s0 x2 z4 L1)
def art:ar:=aG (aq P acT (Ns P K s0 x2 z4 L1)) (Ns P K s0 x2 z4 L1)
def aru:ar:=bO 2 (art P K s0 x2 z4 L1)
def Nt:ar:=aG (fun f' aW=>(([0,2,4,5]:List Nat).map f':List Value)=[s0,x2,z4,x5]∧L2 (([6,7]:List Nat).map f') aW) (aru P K s0 x2 z4 L1)
def arv:ar:=aG (aq P auV (Nt P K s0 x2 z4 x5 L1 L2)) (Nt P K s0 x2 z4 x5 L1 L2)
def Zc:ar:=bO 3 (arv P K s0 x2 z4 x5 L1 L2)
def Zd:ar:=aG (aq P auW (Zc P K s0 x2 z4 x5 L1 L2)) (Zc P K s0 x2 z4 x5 L1 L2)
def Ze:ar:=aG (aq P auX (Zd P K s0 x2 z4 x5 L1 L2)) (Zd P K s0 x2 z4 x5 L1 L2)
def alA:Prop:=ay (aq P acV (Bq P K)) [0,2,11] [s0,x2,au] h
def Vg:Prop:=ay (aq P acW (Bq P K)) [0,2,11,14] [s0,x2,au,aH] h
def alB:Prop:=ay (aq P acX (Bq P K)) [0,2,16] [s0,x2,bk] h
def Vb:Prop:=ay (aq P acP (Bq P K)) [0,2,16,20] [s0,x2,bk,aX] h
def Vc:Prop:=ay (aq P acQ (Bq P K)) [0,2,16,20,23] [s0,x2,bk,aX,cB] h
def FP:Prop:=ay (aq P auT (Bq P K)) [0,2,16,24] [s0,x2,bk,bu] h
def alu:Prop:=ay (aq P It (GW P K s0 x2 z4 L1)) ([0,2,4]++[5]) ([s0,x2,z4]++xs) h
def alv:Prop:=ay (aq P DU (Nt P K s0 x2 z4 x5 L1 L2)) ([0,2,4,5]++[6,7]) ([s0,x2,z4,x5]++xs) h
def alw:Prop:=ay (aq P acU (Ze P K s0 x2 z4 x5 L1 L2)) [0,2,4,5,6,7,46] [s0,x2,z4,x5,d6,i7,dD] h
def Ve:Prop:=ay (aq P auY (Ze P K s0 x2 z4 x5 L1 L2)) [0,2,4,5,6,7,46,50] [s0,x2,z4,x5,d6,i7,dD,bV] h
def alx:Prop:=ay (aq P auZ (Ns P K s0 x2 z4 L1)) [0,2,4,5,6] [s0,x2,z4,x5,d6] h
def aly:Prop:=ay (aq P au0 (GW P K s0 x2 z4 L1)) [0,2,4,5] [s0,x2,z4,x5] h
def alz:Prop:=ay (aq P au1 (Dt P K)) [2,4] [x2,z4] h
theorem VI:FP P K s0 x2 bk bu h=
 (OP (bQ bk (.bool true) bu) fun ca=>
 aR ca
 (OP (dd [(.bool false),(.slice none 0 0)] []) fun cw=>
 OH (aF 2 h x2 cw) fun _ h_1=>
 OP (af true 2 h_1 x2) fun r0=>
 K (.tuple #[r0,(.bool false)]) h_1)
 (OP (dd [(.bool false),(.slice none 0 0)] []) fun bZ=>
 OH (aV 35 [(.bool false),(.slice none 0 0)] h) fun z4 h_1=>
 OH (aF 2 h_1 z4 bZ) fun _ h_2=>
 OP (gI s0) fun cM=>
 cQ [cM] h_2 fun L1 xs hx=>
 alu P K s0 x2 z4 L1 xs hx)):=az (by kernel_rfl)
theorem F1:Vc P K s0 x2 bk aX cB h=
 (cC bk false
 (OP (bQ aX cB (.bool false)) fun bu=>
 FP P K s0 x2 bk bu h)
 (FP P K s0 x2 bk undef h)):=az (by kernel_rfl)
theorem F0:Vb P K s0 x2 bk aX h=
 (cC aX true
 (OP (gI s0) fun bF=>
 OP (ai .gtr bF (.int .i64 (1))) fun cB=>
 Vc P K s0 x2 bk aX cB h)
 (Vc P K s0 x2 bk aX undef h)):=az (by kernel_rfl)
theorem Ll:alB P K s0 x2 bk h=
 (cC bk false
 (OP (j7 s0 (.int .i64 (0))) fun aQ=>
 OP (ai .eql aQ (.int .u8 (48))) fun aO=>
 Vb P K s0 x2 bk aO h)
 (Vb P K s0 x2 bk undef h)):=az (by kernel_rfl)
theorem Lk:Vg P K s0 x2 au aH h=
 (OP (bQ au (.bool true) aH) fun bc=>
 alB P K s0 x2 bc h):=az (by kernel_rfl)
theorem VM:alA P K s0 x2 au h=
 (cC au false
 (OP (gI s0) fun aB=>
 OP (ai .gtr aB (.int .i64 (4000))) fun aH=>
 Vg P K s0 x2 au aH h)
 (Vg P K s0 x2 au undef h)):=az (by kernel_rfl)
theorem VL:Ve P K s0 x2 z4 x5 d6 i7 dD bV L1 L2 h=
 (OP (bQ dD (.bool true) bV) fun cH=>
 aR cH
 (OP (dd [(.bool false),(.slice none 0 0)] []) fun db=>
 OH (aF 2 h x2 db) fun _ h_1=>
 OP (af true 2 h_1 x2) fun r0=>
 K (.tuple #[r0,(.bool false)]) h_1)
 (OP (ai .mul (.int .i64 (10)) d6) fun dw=>
 OP (j7 s0 i7) fun fa=>
 OP (ai .sub fa (.int .u8 (48))) fun gu=>
 OP (dA .i64 gu) fun fU=>
 OP (ai .add dw fU) fun kI=>
 OP (ai .add i7 (.int .i64 (1))) fun eG=>
 ([s0,x2,z4,x5]:List Value)=[s0,x2,z4,x5]∧L2 [kI,eG] h)):=az (by kernel_rfl)
theorem VJ:alw P K s0 x2 z4 x5 d6 i7 dD L1 L2 h=
 (cC dD false
 (OP (j7 s0 i7) fun gO=>
 OP (ai .gtr gO (.int .u8 (57))) fun bV=>
 Ve P K s0 x2 z4 x5 d6 i7 dD bV L1 L2 h)
 (Ve P K s0 x2 z4 x5 d6 i7 dD undef L1 L2 h)):=az (by kernel_rfl)
theorem aEi (s0 x2 z4 x5:Value) (L1 L2:LQ) (d6 i7:Value) (h:ae):alv P K s0 x2 z4 x5 L1 L2 [d6,i7] h=
 (OP (ai .lss i7 x5) fun eX=>
 aR eX
 (OP (j7 s0 i7) fun bH=>
 OP (ai .lss bH (.int .u8 (48))) fun cP=>
 alw P K s0 x2 z4 x5 d6 i7 cP L1 L2 h)
 (alx P K s0 x2 z4 x5 d6 L1 h)):=az (by kernel_rfl)
theorem aEj:alx P K s0 x2 z4 x5 d6 L1 h=
 (OP (aL 1 z4) fun fZ=>
 OP (af false 1 h fZ) fun mB=>
 OH (dK 3 1 [(.int .i64 (0))] h [(0,1,d6)]) fun jx h_1=>
 OH (dY 3 1 8 h_1 mB jx) fun gy h_2=>
 OP (aL 1 z4) fun lE=>
 OH (aF 1 h_2 lE gy) fun _ h_3=>
 aly P K s0 x2 z4 x5 L1 h_3):=az (by kernel_rfl)
theorem aEk:aly P K s0 x2 z4 x5 L1 h=
 (OP (ai .sub x5 (.int .i64 (4))) fun dH=>
 ([s0,x2,z4]:List Value)=[s0,x2,z4]∧L1 [dH] h):=az (by kernel_rfl)
theorem aEh (s0 x2 z4:Value) (L1:LQ) (x5:Value) (h:ae):alu P K s0 x2 z4 L1 [x5] h=
 (OP (ai .gtr x5 (.int .i64 (0))) fun cE=>
 aR cE
 (OP (ai .sub x5 (.int .i64 (4))) fun cR=>
 OP (yl true [(.int .i64 (0)),cR]) fun cX=>
 cQ [(.int .i64 (0)),cX] h fun L2 xs hx=>
 alv P K s0 x2 z4 x5 L1 L2 xs hx)
 (alz P K x2 z4 h)):=az (by kernel_rfl)
theorem aEl:alz P K x2 z4 h=
 (OP (af true 2 h z4) fun gA=>
 ak P 100 [gA] h fun gB h_1=>
 OH (aF 2 h_1 x2 gB) fun _ h_2=>
 OP (af true 2 h_2 x2) fun r0=>
 K (.tuple #[r0,(.bool true)]) h_2):=az (by kernel_rfl)
def G1:Prop:=
 OH (aV 35 [(.bool false),(.slice none 0 0)] h) fun x2 h_1=>
 OP (gI s0) fun x9=>
 OP (ai .lss x9 (.int .i64 (1))) fun aM=>
 alA P K s0 x2 aM h_1
theorem e99:aq P DT (aT [.cell true 2 2,.tmp 3] K) (bt [s0]) h=G1 P K s0 h:=by kernel_rfl
theorem f99 {K:VK} {s0:Value} {h:ae} (H:G1 prog K s0 h):ak prog 99 [s0] h K:=
 bK k99 (bI rfl) ((e99 prog K s0 h).mpr H)
end
noncomputable section
variable (z0 z1 x2 n3 x9 bk cM cE : Value) (L1 : LQ) (xs : List Value) (h : ae)
def ahg:=bz prog 100 [[],[],[1,2],[3],[1,2,3,9],[1,2,3,9,16],[],[],[1,2,3],[],[1,2,3,29],[1,2,29,31],[],[]]
@[irreducible] def Hf:=bJ ahg
@[irreducible] def Hg:=Hf.r.r.l.l.l
@[irreducible] def ZO:=Hf.r.r.r
@[irreducible] def ZP:=Hg.l.l.r.l
@[irreducible] def arT:=Hg.l.r
@[irreducible] def arS:=Hg.r
@[irreducible] def Py:=ZO.l
@[irreducible] def arP:=ZP.r.l
@[irreducible] def ZN:=Py.r.l.r.l
@[irreducible] def arQ:=Py.r.r
@[irreducible] def arR:=ZN.r.l
theorem ay8:ahg=some (35,Hf,[.cell true 2 2]):=by kernel_rfl
def Dn (_P:Program) (K:VK):ar:=aT [.cell true 2 2] K
def aoD:ar:=aG (aq P ZO (Dn P K)) (Dn P K)
def aoE:ar:=bO 0 (aoD P K)
def MO:ar:=aG (fun f' aW=>(([1,2]:List Nat).map f':List Value)=[z1,x2]∧L1 (([3]:List Nat).map f') aW) (aoE P K)
def XV:ar:=aG (aq P arS (MO P K z1 x2 L1)) (MO P K z1 x2 L1)
def XW:ar:=aG (aq P arT (XV P K z1 x2 L1)) (XV P K z1 x2 L1)
def XU:ar:=aG (aq P arQ (Dn P K)) (Dn P K)
def ajc:Prop:=ay (aq P Hg (MO P K z1 x2 L1)) ([1,2]++[3]) ([z1,x2]++xs) h
def ajd:Prop:=ay (aq P ZP (XW P K z1 x2 L1)) [1,2,3,9] [z1,x2,n3,x9] h
def T7:Prop:=ay (aq P arP (XW P K z1 x2 L1)) [1,2,3,9,16] [z1,x2,n3,x9,bk] h
def T8:Prop:=ay (aq P Py (Dn P K)) [1,2,3] [z1,x2,n3] h
def ajb:Prop:=ay (aq P ZN (XU P K)) [1,2,3,29] [z1,x2,n3,cM] h
def T9:Prop:=ay (aq P arR (XU P K)) [1,2,29,31] [z1,x2,cM,cE] h
theorem alV:T7 P K z1 x2 n3 x9 bk L1 h=
 (OP (bQ x9 bk (.bool false)) fun bN=>
 aR bN
 (OP (ai .sub n3 (.int .i64 (1))) fun aO=>
 ([z1,x2]:List Value)=[z1,x2]∧L1 [aO] h)
 (T8 P K z1 x2 n3 h)):=az (by kernel_rfl)
theorem alY:ajd P K z1 x2 n3 x9 L1 h=
 (cC x9 true
 (OP (aL 1 z1) fun aM=>
 OP (af false 1 h aM) fun au=>
 OP (ai .sub n3 (.int .i64 (1))) fun aB=>
 OP (bf 1 au aB) fun aH=>
 OP (af false 1 h aH) fun bc=>
 OP (ai .eql bc (.int .i64 (0))) fun bk=>
 T7 P K z1 x2 n3 x9 bk L1 h)
 (T7 P K z1 x2 n3 x9 undef L1 h)):=az (by kernel_rfl)
theorem aBc (z1 x2:Value) (L1:LQ) (n3:Value) (h:ae):ajc P K z1 x2 L1 [n3] h=
 (OP (ai .gtr n3 (.int .i64 (0))) fun x8=>
 ajd P K z1 x2 n3 x8 L1 h):=az (by kernel_rfl)
theorem alX:T9 P K z1 x2 cM cE h=
 (OP (bQ cM cE (.bool false)) fun cS=>
 OP (aL 0 z1) fun dH=>
 OH (aF 1 h dH cS) fun _ h_1=>
 OP (af true 2 h_1 z1) fun cT=>
 OH (aF 2 h_1 x2 cT) fun _ h_2=>
 OP (af true 2 h_2 x2) fun r0=>
 K r0 h_2):=az (by kernel_rfl)
theorem alW:ajb P K z1 x2 n3 cM h=
 (cC cM true
 (OP (ai .gtr n3 (.int .i64 (0))) fun cE=>
 T9 P K z1 x2 cM cE h)
 (T9 P K z1 x2 cM undef h)):=az (by kernel_rfl)
theorem aBb:T8 P K z1 x2 n3 h=
 (OH (dK 3 0 [(.int .i64 (0))] h []) fun aX h_1=>
 OP (aL 1 z1) fun aZ=>
 OP (af false 1 h_1 aZ) fun bF=>
 OP (mT 3 1 bF none (some n3)) fun bu=>
 OH (dY 3 1 8 h_1 aX bu) fun ca h_2=>
 OP (aL 1 z1) fun cw=>
 OH (aF 1 h_2 cw ca) fun _ h_3=>
 OP (aL 0 z1) fun bZ=>
 OP (af false 1 h_3 bZ) fun cG=>
 ajb P K z1 x2 n3 cG h_3):=az (by kernel_rfl)
def Nz:Prop:=
 OH (bm 35 h z0) fun z1 h_1=>
 OH (aV 35 [(.bool false),(.slice none 0 0)] h_1) fun x2 h_2=>
 OP (aL 1 z1) fun x4=>
 OP (af false 1 h_2 x4) fun x5=>
 OP (bj x5) fun x6=>
 cQ [x6] h_2 fun L1 xs hx=>
 ajc P K z1 x2 L1 xs hx
theorem avA:aq P Hf (aT [.cell true 2 2] K) (bt [z0]) h=Nz P K z0 h:=by kernel_rfl
theorem f100 {K:VK} {z0:Value} {h:ae} (H:Nz prog K z0 h):ak prog 100 [z0] h K:=
 bK ay8 (bI rfl) ((avA prog K z0 h).mpr H)
end
noncomputable section
variable (a0 b1 i5 : Value) (L1 : LQ) (xs : List Value) (h : ae)
def ahh:=bz prog 101 [[],[],[],[],[],[],[],[],[0,1],[5],[],[],[],[],[],[],[],[],[],[]]
@[irreducible] def Hi:=bJ ahh
@[irreducible] def arU:=Hi.r.r.l.r.l.l
@[irreducible] def arV:=Hi.r.r.r
theorem ay9:ahh=some (41,Hi,[.tmp 4]):=by kernel_rfl
def XX (_P:Program) (K:VK):ar:=aT [.tmp 4] K
def aoH:ar:=aG (aq P arV (XX P K)) (XX P K)
def aoF:ar:=bO 0 (aoH P K)
def aoG:ar:=aG (fun f' aW=>(([0,1]:List Nat).map f':List Value)=[a0,b1]∧L1 (([5]:List Nat).map f') aW) (aoF P K)
def aje:Prop:=ay (aq P arU (aoG P K a0 b1 L1)) ([0,1]++[5]) ([a0,b1]++xs) h
theorem aBd (a0 b1:Value) (L1:LQ) (i5:Value) (h:ae):aje P K a0 b1 L1 [i5] h=
 (OP (ai .geq i5 (.int .i64 (0))) fun aX=>
 aR aX
 (OP (bf 1 a0 i5) fun ca=>
 OP (af false 1 h ca) fun cw=>
 (True)∧
 OP (bf 1 b1 i5) fun cM=>
 OP (af false 1 h cM) fun dC=>
 (True)∧
 OP (ai .lss cw dC) fun cE=>
 aR cE
 (K (.int .i64 (-1)) h)
 (OP (bf 1 a0 i5) fun cT=>
 OP (af false 1 h cT) fun cR=>
 (True)∧
 OP (bf 1 b1 i5) fun dI=>
 OP (af false 1 h dI) fun eX=>
 (True)∧
 OP (ai .gtr cR eX) fun ef=>
 aR ef
 (K (.int .i64 (1)) h)
 (OP (ai .sub i5 (.int .i64 (1))) fun bF=>
 ([a0,b1]:List Value)=[a0,b1]∧L1 [bF] h)))
 (K (.int .i64 (0)) h)):=az (by kernel_rfl)
def NA:Prop:=
 OP (bj a0) fun x7=>
 OP (bj b1) fun x9=>
 OP (ai .neq x7 x9) fun aM=>
 aR aM
 (OP (bj a0) fun aC=>
 OP (bj b1) fun aH=>
 OP (ai .lss aC aH) fun bc=>
 aR bc
 (K (.int .i64 (-1)) h)
 (K (.int .i64 (1)) h))
 (OP (bj a0) fun bN=>
 OP (ai .sub bN (.int .i64 (1))) fun aQ=>
 cQ [aQ] h fun L1 xs hx=>
 aje P K a0 b1 L1 xs hx)
theorem avB:aq P Hi (aT [.tmp 4] K) (bt [a0,b1]) h=NA P K a0 b1 h:=by kernel_rfl
theorem f101 {K:VK} {a0 b1:Value} {h:ae} (H:NA prog K a0 b1 h):ak prog 101 [a0,b1] h K:=
 bK ay9 (bI rfl) ((avB prog K a0 b1 h).mpr H)
end
noncomputable section
variable (a0 d1 : Value) (h : ae)
def ahi:=bz prog 102 [[],[]]
@[irreducible] def ZQ:=bJ ahi
theorem aza:ahi=some (12,ZQ,[.tmp 4]):=by kernel_rfl
def NB:Prop:=
 OP (dd [(.bool false),(.slice none 0 0)] [(1,1,a0)]) fun x6=>
 ak P 55 [d1] h fun x8 z1=>
 ak P 71 [x6,x8] z1 fun x9 z2=>
 ak P 100 [x9] z2 fun aM z3=>
 OP (An false 1 1 aM) fun au=>
 K au z3
theorem avC:aq P ZQ (aT [.tmp 4] K) (bt [a0,d1]) h=NB P K a0 d1 h:=by kernel_rfl
theorem f102 {K:VK} {a0 d1:Value} {h:ae} (H:NB prog K a0 d1 h):ak prog 102 [a0,d1] h K:=
 bK aza (bI rfl) ((avC prog K a0 d1 h).mpr H)
end
noncomputable section
variable (a0 b1 x5 x6 i7 s8 : Value) (L1 : LQ) (xs : List Value) (h : ae)
def ahj:=bz prog 103 [[],[],[],[0,1],[5,6,7],[],[],[],[],[0,1,5,7,8],[],[],[0,1,5,6,7,8],[0,1,5,6,7],[5],[]]
@[irreducible] def Hj:=bJ ahj
@[irreducible] def Pz:=Hj.r.r.l.r.l.l
@[irreducible] def ZS:=Hj.r.r.r
@[irreducible] def ZR:=Pz.r.l.l.r.r.l
@[irreducible] def ZT:=Pz.r.r
@[irreducible] def arY:=ZS.l
@[irreducible] def arW:=ZR.r.r.l
@[irreducible] def arX:=ZT.l
theorem azb:ahj=some (41,Hj,[.tmp 4]):=by kernel_rfl
def MP (_P:Program) (K:VK):ar:=aT [.tmp 4] K
def aoI:ar:=aG (aq P ZS (MP P K)) (MP P K)
def aoJ:ar:=bO 0 (aoI P K)
def GB:ar:=aG (fun f' aW=>(([0,1]:List Nat).map f':List Value)=[a0,b1]∧L1 (([5,6,7]:List Nat).map f') aW) (aoJ P K)
def aoK:ar:=aG (aq P ZT (GB P K a0 b1 L1)) (GB P K a0 b1 L1)
def XY:ar:=bO 1 (aoK P K a0 b1 L1)
def ajh:Prop:=ay (aq P Pz (GB P K a0 b1 L1)) ([0,1]++[5,6,7]) ([a0,b1]++xs) h
def KG:Prop:=ay (aq P ZR (XY P K a0 b1 L1)) [0,1,5,7,8] [a0,b1,x5,i7,s8] h
def KH:Prop:=ay (aq P arW (XY P K a0 b1 L1)) [0,1,5,6,7,8] [a0,b1,x5,x6,i7,s8] h
def ajf:Prop:=ay (aq P arX (GB P K a0 b1 L1)) [0,1,5,6,7] [a0,b1,x5,x6,i7] h
def ajg:Prop:=ay (aq P arY (MP P K)) [5] [x5] h
theorem aBf:KH P K a0 b1 x5 x6 i7 s8 L1 h=
 (OH (dK 3 1 [(.int .i64 (0))] h [(0,1,s8)]) fun dI z1=>
 OH (dY 3 1 8 z1 x5 dI) fun eX z2=>
 ajf P K a0 b1 eX x6 i7 L1 z2):=az (by kernel_rfl)
theorem aBe:KG P K a0 b1 x5 i7 s8 L1 h=
 (OP (ai .lss s8 (.int .i64 (0))) fun dH=>
 aR dH
 (OP (ai .add s8 (.int .i64 (10000))) fun cR=>
 KH P K a0 b1 x5 (.int .i64 (1)) i7 cR L1 h)
 (KH P K a0 b1 x5 (.int .i64 (0)) i7 s8 L1 h)):=az (by kernel_rfl)
theorem aBg:ajf P K a0 b1 x5 x6 i7 L1 h=
 (OP (ai .add i7 (.int .i64 (1))) fun bc=>
 ([a0,b1]:List Value)=[a0,b1]∧L1 [x5,x6,bc] h):=az (by kernel_rfl)
theorem aBi (a0 b1:Value) (L1:LQ) (x5 x6 i7:Value) (h:ae):ajh P K a0 b1 L1 [x5,x6,i7] h=
 (OP (bj a0) fun aC=>
 OP (ai .lss i7 aC) fun aB=>
 aR aB
 (OP (bf 1 a0 i7) fun aQ=>
 OP (af false 1 h aQ) fun aO=>
 OP (ai .sub aO x6) fun aZ=>
 OP (bj b1) fun bu=>
 OP (ai .lss i7 bu) fun ca=>
 aR ca
 (OP (bf 1 b1 i7) fun cM=>
 OP (af false 1 h cM) fun dC=>
 OP (ai .sub aZ dC) fun cE=>
 KG P K a0 b1 x5 i7 cE L1 h)
 (KG P K a0 b1 x5 i7 aZ L1 h))
 (ajg P K x5 h)):=az (by kernel_rfl)
theorem aBh:ajg P K x5 h=
 (K x5 h):=az (by kernel_rfl)
def NC:Prop:=
 OH (dK 3 0 [(.int .i64 (0))] h []) fun x9 z1=>
 cQ [x9,(.int .i64 (0)),(.int .i64 (0))] z1 fun L1 xs hx=>
 ajh P K a0 b1 L1 xs hx
theorem avD:aq P Hj (aT [.tmp 4] K) (bt [a0,b1]) h=NC P K a0 b1 h:=by kernel_rfl
theorem f103 {K:VK} {a0 b1:Value} {h:ae} (H:NC prog K a0 b1 h):ak prog 103 [a0,b1] h K:=
 bK azb (bI rfl) ((avD prog K a0 b1 h).mpr H)
end
noncomputable section
variable (a0 b1 x5 x6 i7 s8 aH aQ aX bF : Value) (L1 : LQ) (xs : List Value) (h : ae)
def ahk:=bz prog 104 [[],[],[],[0,1],[5,6,7],[0,1,5,6,7,14],[0,1,5,6,7,14,18],[0,1,5,6,7,20],[0,1,5,6,7,20,22],[],[],[],[],[0,1,5,7,8],[],[0,1,5,7,8],[0,1,5,6,7],[5],[]]
@[irreducible] def Hl:=bJ ahk
@[irreducible] def Hm:=Hl.r.r.l.r.l.l
@[irreducible] def Z0:=Hl.r.r.r
@[irreducible] def ZU:=Hm.l.l.r.l
@[irreducible] def ar3:=Hm.l.r
@[irreducible] def PA:=Hm.r
@[irreducible] def ar2:=Z0.l
@[irreducible] def ZW:=ZU.r.l
@[irreducible] def ZZ:=PA.l.l.r.r.l
@[irreducible] def ZY:=PA.r
@[irreducible] def ZX:=ZW.r.l
@[irreducible] def ar0:=ZZ.r.l
@[irreducible] def ar1:=ZY.l
@[irreducible] def arZ:=ZX.r.l
theorem azc:ahk=some (55,Hl,[.tmp 4]):=by kernel_rfl
def MQ (_P:Program) (K:VK):ar:=aT [.tmp 4] K
def aoM:ar:=aG (aq P Z0 (MQ P K)) (MQ P K)
def aoN:ar:=bO 0 (aoM P K)
def Bj:ar:=aG (fun f' aW=>(([0,1]:List Nat).map f':List Value)=[a0,b1]∧L1 (([5,6,7]:List Nat).map f') aW) (aoN P K)
def X0:ar:=aG (aq P PA (Bj P K a0 b1 L1)) (Bj P K a0 b1 L1)
def GC:ar:=aG (aq P ar3 (X0 P K a0 b1 L1)) (X0 P K a0 b1 L1)
def aoL:ar:=aG (aq P ZY (Bj P K a0 b1 L1)) (Bj P K a0 b1 L1)
def XZ:ar:=bO 1 (aoL P K a0 b1 L1)
def ajl:Prop:=ay (aq P Hm (Bj P K a0 b1 L1)) ([0,1]++[5,6,7]) ([a0,b1]++xs) h
def aji:Prop:=ay (aq P ZU (GC P K a0 b1 L1)) [0,1,5,6,7,14] [a0,b1,x5,x6,i7,aH] h
def Ua:Prop:=ay (aq P ZW (GC P K a0 b1 L1)) [0,1,5,6,7,14,18] [a0,b1,x5,x6,i7,aH,aQ] h
def ajj:Prop:=ay (aq P ZX (GC P K a0 b1 L1)) [0,1,5,6,7,20] [a0,b1,x5,x6,i7,aX] h
def Ub:Prop:=ay (aq P arZ (GC P K a0 b1 L1)) [0,1,5,6,7,20,22] [a0,b1,x5,x6,i7,aX,bF] h
def CL:Prop:=ay (aq P ZZ (XZ P K a0 b1 L1)) [0,1,5,7,8] [a0,b1,x5,i7,s8] h
def KI:Prop:=ay (aq P ar0 (XZ P K a0 b1 L1)) [0,1,5,7,8] [a0,b1,x5,i7,s8] h
def ajk:Prop:=ay (aq P ar1 (Bj P K a0 b1 L1)) [0,1,5,6,7] [a0,b1,x5,x6,i7] h
def Uc:Prop:=ay (aq P ar2 (MQ P K)) [5] [x5] h
theorem Lg:Ub P K a0 b1 x5 x6 i7 aX bF L1 h=
 (OP (bQ aX (.bool true) bF) fun cB=>
 aR cB
 (OP (bj a0) fun cM=>
 OP (ai .lss i7 cM) fun dC=>
 aR dC
 (OP (bf 1 a0 i7) fun cT=>
 OP (af false 1 h cT) fun cR=>
 OP (ai .add x6 cR) fun cX=>
 CL P K a0 b1 x5 i7 cX L1 h)
 (CL P K a0 b1 x5 i7 x6 L1 h))
 (Uc P K x5 h)):=az (by kernel_rfl)
theorem Vu:ajj P K a0 b1 x5 x6 i7 aX L1 h=
 (cC aX false
 (OP (ai .gtr x6 (.int .i64 (0))) fun bF=>
 Ub P K a0 b1 x5 x6 i7 aX bF L1 h)
 (Ub P K a0 b1 x5 x6 i7 aX undef L1 h)):=az (by kernel_rfl)
theorem Vt:Ua P K a0 b1 x5 x6 i7 aH aQ L1 h=
 (OP (bQ aH (.bool true) aQ) fun aO=>
 ajj P K a0 b1 x5 x6 i7 aO L1 h):=az (by kernel_rfl)
theorem alZ:aji P K a0 b1 x5 x6 i7 aH L1 h=
 (cC aH false
 (OP (bj b1) fun bN=>
 OP (ai .lss i7 bN) fun aQ=>
 Ua P K a0 b1 x5 x6 i7 aH aQ L1 h)
 (Ua P K a0 b1 x5 x6 i7 aH undef L1 h)):=az (by kernel_rfl)
theorem aBk:KI P K a0 b1 x5 i7 s8 L1 h=
 (OP (ai .rem s8 (.int .i64 (10000))) fun gO=>
 OH (dK 3 1 [(.int .i64 (0))] h [(0,1,gO)]) fun bV z1=>
 OH (dY 3 1 8 z1 x5 bV) fun cH z2=>
 OP (ai .quo s8 (.int .i64 (10000))) fun lC=>
 ajk P K a0 b1 cH lC i7 L1 z2):=az (by kernel_rfl)
theorem aBj:CL P K a0 b1 x5 i7 s8 L1 h=
 (OP (bj b1) fun eX=>
 OP (ai .lss i7 eX) fun ef=>
 aR ef
 (OP (bf 1 b1 i7) fun bH=>
 OP (af false 1 h bH) fun cP=>
 OP (ai .add s8 cP) fun dD=>
 KI P K a0 b1 x5 i7 dD L1 h)
 (KI P K a0 b1 x5 i7 s8 L1 h)):=az (by kernel_rfl)
theorem aBl:ajk P K a0 b1 x5 x6 i7 L1 h=
 (OP (ai .add i7 (.int .i64 (1))) fun ca=>
 ([a0,b1]:List Value)=[a0,b1]∧L1 [x5,x6,ca] h):=az (by kernel_rfl)
theorem aBn (a0 b1:Value) (L1:LQ) (x5 x6 i7:Value) (h:ae):ajl P K a0 b1 L1 [x5,x6,i7] h=
 (OP (bj a0) fun aC=>
 OP (ai .lss i7 aC) fun aB=>
 aji P K a0 b1 x5 x6 i7 aB L1 h):=az (by kernel_rfl)
theorem aBm:Uc P K x5 h=
 (K x5 h):=az (by kernel_rfl)
def ND:Prop:=
 OH (dK 3 0 [(.int .i64 (0))] h []) fun x9 z1=>
 cQ [x9,(.int .i64 (0)),(.int .i64 (0))] z1 fun L1 xs hx=>
 ajl P K a0 b1 L1 xs hx
theorem avE:aq P Hl (aT [.tmp 4] K) (bt [a0,b1]) h=ND P K a0 b1 h:=by kernel_rfl
theorem f104 {K:VK} {a0 b1:Value} {h:ae} (H:ND prog K a0 b1 h):ak prog 104 [a0,b1] h K:=
 bK azc (bI rfl) ((avE prog K a0 b1 h).mpr H)
end
end
section
theorem arJ:br≤10000^250:=by decide+kernel
theorem rN {xs:List Nat} (h:dE 10000 xs) (hv:val 10000 xs<br):xs.length≤250:=h.len (by decide) (Nat.lt_of_lt_of_le hv arJ)
def oZ (b:Nat) (hx:ae) (v:Value) (os:List Nat):Prop:=fy b hx 3 v (os.map fun d:Nat=>I d)
theorem oZ.ds {b:Nat} {hx:ae} {v:Value} {os:List Nat} (o:oZ b hx v os):DS 3 .i64 hx v os:=by
 rcases o with ⟨h1,h2⟩ | ⟨i,_,h2,h3⟩
 ·exact .inl ⟨h1,by simpa using h2⟩
 ·refine .inr ⟨i,by rw [h2,List.length_map],.inr ⟨[],?_⟩⟩
  simp [aP,h3]
theorem DS.cells {e:TypeId} {k:IntKind} {h:ae} {v:Value} {xs:List Nat} (p:DS e k h v xs):lh h 1 v=some (xs.map fun d:Nat=>Value.int k (d:Int))∧qq v=some xs.length:=by
 rcases p with ⟨rfl,rfl⟩ | ⟨i,rfl,hc⟩
 ·exact ⟨rfl,rfl⟩
 ·refine ⟨?_,rfl⟩
  unfold lh sl
  simp only
  by_cases hz:xs.length=0
  ·rw [if_pos hz]
   have:xs=[]:=List.length_eq_zero_iff.1 hz
   subst this
   rfl
  ·obtain ⟨r,hc⟩:=hc.resolve_left (by rintro rfl;simp at hz)
   rw [if_neg hz,hc]
   simp only [Option.bind_some]
   rw [if_pos (by simp)]
   have:((xs.map (fun d:Nat=>Value.int k (d:Int))++r).drop 0).take (xs.length*1)=xs.map fun d:Nat=>Value.int k (d:Int):=by
    rw [drop_zero,Nat.mul_one,List.take_append_of_le_length (by simp),take_of_length_le (by simp)]
   rw [this]
def fQ (h:ae) (v:Value) (n:Nat):Prop:=∃xs,DS 3 .i64 h v xs∧dE 10000 xs∧val 10000 xs=n
theorem fQ.mono {h h':ae} {v:Value} {n:Nat} (x:EX h h') (p:fQ h v n):fQ h' v n:=let ⟨xs,a,b,c⟩:=p;⟨xs,a.mono x,b,c⟩
theorem DS.bM {e e':TypeId} {k:IntKind} {h:ae} {v:Value} {xs:List Nat} {j:Nat} {b:Bool} {r:List Value} (d:DS e k h v xs) (hj:h[j]?=some (.arr e' (.bool b::r))) (o:aj):DS e k (h.set j o) v xs:=by
 rcases d with d | ⟨i,h1,h2⟩
 ·exact .inl d
 ·refine .inr ⟨i,h1,?_⟩
  rcases h2 with h2 | ⟨rest,h2⟩
  ·exact .inl h2
  ·cases xs with
   | nil=>exact .inl rfl
   | cons x xs=>
    right
    refine ⟨rest,?_⟩
    have bp:j≠i:=by
     rintro rfl
     unfold aP at h2
     rw [hj] at h2
     simp at h2
    unfold aP at h2⊢
    rw [getElem?_set_ne bp]
    exact h2
theorem fQ.bM {h:ae} {v:Value} {n j:Nat} {e:TypeId} {b:Bool} {r:List Value} (p:fQ h v n) (hj:h[j]?=some (.arr e (.bool b::r))) (o:aj):fQ (h.set j o) v n:=
 let ⟨xs,d,c,hv⟩:=p;⟨xs,d.bM hj o,c,hv⟩
def ZV (h:ae) (val:Value) (z:Int):Prop:=∃v,val=.agg #[B (decide (z<0)),v]∧fQ h v z.natAbs
theorem ZV.mono {h h':ae} {v:Value} {z:Int} (x:EX h h') (p:ZV h v z):ZV h' v z:=let ⟨w,a,b⟩:=p;⟨w,a,b.mono x⟩
theorem ZV.bM {h:ae} {v:Value} {z:Int} {j:Nat} {e:TypeId} {b:Bool} {r:List Value} (p:ZV h v z) (hj:h[j]?=some (.arr e (.bool b::r))) (o:aj):ZV (h.set j o) v z:=
 let ⟨w,a,q⟩:=p;⟨w,a,q.bM hj o⟩
theorem Pk {h0 hx:ae} {v:Value} {os:List Nat} {d:Nat} {K:Value→ae→Prop} (o:oZ h0.length hx v os) (hex:EX h0 hx) (hl:os.length≤10000)
  (hk:∀v' bT,EX h0 bT→oZ h0.length bT v' (os++[d])→K v' bT):OH (dK 3 1 [.int .i64 0] hx [(0,1,I d)]) fun a h2=>OH (dY 3 1 8 h2 v a) K:=by
 refine DC o hex (by simp;omega) (by simp [maxLen];omega) rfl rfl ?_
 intro v' bT h1 h2
 exact hk v' bT h1 (by unfold oZ;simpa using h2)
theorem W6 {s:Bool} {v:Value} {xs:List Nat} {h:ae} {K:Value→ae→Prop} (hd:DS 3 .i64 h v xs) (hl:cn 10000 xs) (hs:xs.length≤1000)
  (hk:∀r h',EX h h'→ZV h' r (if s then -(val 10000 xs:Int) else val 10000 xs)→(∃b i n,r=.agg #[B b,sl 3 i 0 n]∧h.length≤i)→K r h'):ak prog 100 [.agg #[B s,v]] h K:=by
 refine f100 ?_
 have e1:bm 35 h (.agg #[B s,v])=some (pt h.length 0,h++[.arr 35 [B s,v]]):=rfl
 have e2:∀g:ae,aV 35 [(.bool false),(.slice none 0 0)] g=some (pt g.length 0,g++[.arr 35 [(.bool false),(.slice none 0 0)]]):=fun _=>rfl
 simp only [Nz,e1,aA,e2,length_append,length_cons,length_nil]
 have g0:(h++[aj.arr 35 [B s,v]]++[aj.arr 35 [(.bool false),(.slice none 0 0)]])[h.length]?=some (.arr 35 [B s,v]):=by simp
 have g1:(h++[aj.arr 35 [B s,v]]++[aj.arr 35 [(.bool false),(.slice none 0 0)]])[h.length+1]?=some (.arr 35 [(.bool false),(.slice none 0 0)]):=by simp
 have x1:EX h (h++[aj.arr 35 [B s,v]]++[aj.arr 35 [(.bool false),(.slice none 0 0)]]):=(EX.append _ _).push _
 have hlen:(h++[aj.arr 35 [B s,v]]++[aj.arr 35 [(.bool false),(.slice none 0 0)]]).length=h.length+2:=by simp
 generalize h++[aj.arr 35 [B s,v]]++[aj.arr 35 [(.bool false),(.slice none 0 0)]]=h1 at g0 g1 x1 hlen⊢
 have rh:af false 1 h1 (pt h.length 1)=some v:=by simp [af,aP,g0,b9]
 have mO:=hd.mono x1
 simp only [bU,zero_add,ah,rh,mO.len]
 refine dj (σ:=Nat) (fun n=>[I n]) (fun _=>h1) (fun n=>n≤xs.length∧val 10000 (xs.take n)=val 10000 xs) (fun n=>n) xs.length rfl rfl ⟨le_refl _,by rw [take_length]⟩ ?_
 rintro n ⟨hn,bW⟩ L hL
 rw [aBc]
 -- gN end
 have fin:dE 10000 (xs.take n)→T8 prog K (pt h.length 0) (pt (h.length+1) 0) (I n) h1:=by
  intro hc
  rw [aBb]
  have mk:dK 3 0 [.int .i64 0] h1 []=some (sl 3 h1.length 0 0,h1++[.arr 3 []]):=rfl
  have x2:EX h1 (h1++[.arr 3 []]):=EX.append _ _
  obtain ⟨v',p1,p2⟩:=(mO.mono x2).pop hn
  obtain ⟨c1,c2⟩:=p2.cells
  have zU:(xs.take n).length=n:=by rw [length_take];omega
  simp only [mk,aA,bU,zero_add,ah,EX.load x2 rh,p1]
  -- copied
  have app:∃w h3,dY 3 1 8 (h1++[.arr 3 []]) (sl 3 h1.length 0 0) v'=some (w,h3)∧EX h1 h3∧DS 3 .i64 h3 w (xs.take n)∧∃i n,w=sl 3 i 0 n∧h.length≤i:=by
   by_cases oK:n=0
   ·subst oK
    refine ⟨sl 3 h1.length 0 0,h1++[.arr 3 []],?_,x2,.inr ⟨h1.length,by simp,.inl (by simp)⟩,h1.length,0,rfl,by omega⟩
    simp [dY,c1,c2,sl]
   ·refine ⟨sl 3 (h1.length+1) 0 n,(h1++[aj.arr 3 []]).set h1.length .dead++[.arr 3 ((xs.take n).map fun d:Nat=>I d)],?_,(x2.set (le_refl _) _).push _,.inr ⟨h1.length+1,by rw [zU],.inr ⟨[],?_⟩⟩,h1.length+1,n,rfl,by omega⟩
    ·have hg:(h1++[aj.arr 3 []])[h1.length]?=some (.arr 3 []):=bn
     simp only [dY,c1,c2,zU]
     simp only [sl,hg]
     rw [if_pos ⟨trivial,trivial,by simp,by omega,by unfold maxLen;omega⟩,if_neg oK]
     simp
    ·unfold aP
     rw [List.getElem?_append_right (by simp)]
     simp
  obtain ⟨w,h3,a1,a2,a3,wi,wn,SF,hwl⟩:=app
  simp only [a1,aA]
  have Q8:=a2.get g0
  have zm:=a2.get g1
  rw [oS Q8 (by simp) a3.one.1 a3.one.2]
  simp only [aA,List.set_cons_succ,List.set_cons_zero]
  have k0:(h3.set h.length (.arr 35 [B s,w]))[h.length]?=some (.arr 35 [B s,w]):=ck Q8
  have k1:(h3.set h.length (.arr 35 [B s,w]))[h.length+1]?=some (.arr 35 [(.bool false),(.slice none 0 0)]):=by rw [getElem?_set_ne (by omega)];exact zm
  have d1:=a3.bM Q8 (.arr 35 [B s,w])
  have x3:EX h (h3.set h.length (.arr 35 [B s,w])):=(x1.trans a2).set (le_refl _) _
  generalize h3.set h.length (.arr 35 [B s,w])=h4 at k0 k1 d1 x3⊢
  have oQ:af false 1 h4 (pt h.length 0)=some (B s):=by simp [af,aP,k0,b9]
  simp only [oQ,ah]
  have last:∀c:Bool,c=(s&&decide (0<n))→OH (aF 1 h4 (pt h.length 0) (B c)) fun _ h_1=>OP (af true 2 h_1 (pt h.length 0)) fun cT=>OH (aF 2 h_1 (pt (h.length+1) 0) cT) fun _ h_2=>OP (af true 2 h_2 (pt (h.length+1) 0)) fun r0=>K r0 h_2:=by
   rintro c rfl
   rw [oS k0 (by simp) rfl rfl]
   simp only [aA,List.set_cons_zero]
   rw [cO (ck k0)]
   simp only [ah]
   have m1:(h4.set h.length (.arr 35 [B (s&&decide (0<n)),w]))[h.length+1]?=some (.arr 35 [(.bool false),(.slice none 0 0)]):=by rw [getElem?_set_ne (by omega)];exact k1
   rw [fD m1]
   simp only [aA]
   rw [cO (ck m1)]
   simp only [ah]
   refine hk _ _ ((x3.set (le_refl _) _).set (by omega) _) ⟨w,?_,(xs.take n),(d1.bM k0 _).bM m1 _,hc,?_⟩ ⟨_,wi,wn,by rw [SF],hwl⟩
   ·have h0n:(0<n↔0<val 10000 xs):=by
     rw [←bW]
     constructor
     ·intro h0
      have:=dE.low (by decide) hc (by intro h;rw [h] at zU;simp at zU;omega)
      have:0<10000^((xs.take n).length-1):=Nat.pow_pos (by decide)
      omega
     ·intro h0
      by_cases oK:n=0
      ·subst oK;simp [val] at h0
      ·omega
    have:(s&&decide (0<n))=decide ((if s=true then -(val 10000 xs:Int) else (val 10000 xs:Int))<0):=by
     cases s with
     | true=>
      by_cases h0:0<n
      ·have:=h0n.1 h0
       rw [aU h0,aU (by simp;omega)];rfl
      ·have:¬0<val 10000 xs:=fun h=>h0 (h0n.2 h)
       rw [aS h0,aS (by simp;omega)];rfl
     | false=>simp
    rw [this]
   ·rw [bW];cases s <;> simp
  cases s with
  | true=>
   simp only [alW,jm,fG,ah,alX,dZ,bU,add_zero]
   refine last _ ?_
   rw [Bool.true_and]
   by_cases h0:0<n
   ·simp [h0]
   ·simp [h0]
  | false=>
   simp only [alW,kL,alX,cK,ah,bU,add_zero]
   exact last _ rfl
 simp only [fG,ah]
 by_cases oK:n=0
 ·subst oK
  rw [aS (show ¬(0:Int)<((0:Nat):Int) by omega)]
  simp only [alY,kL,alV,cK,ah,dF]
  exact fin (by simpa using dE.nil 10000)
 ·rw [aU (show (0:Int)<(n:Int) by omega)]
  have e3:IntKind.wrap .i64 ((n:Int)-1)=((n-1:Nat):Int):=by rw [wrap64 (by omega) (by omega)];omega
  obtain ⟨i,p1,p2⟩:=mO.get (j:=n-1) (by omega)
  simp only [alY,jm,bU,zero_add,ah,rh,gE,e3,p1,p2,iT,alV,dZ,bR]
  refine ⟨fun hz=>?_,fun hz=>?_⟩
  ·simp only [true_and]
   refine hL (n-1) ⟨by omega,?_⟩ (by omega)
   have:=jw 10000 xs (i:=n-1) (by omega)
   rw [show n-1+1=n by omega] at this
   have su:xs[n-1]'(by omega)=0:=by omega
   rw [su,mul_zero] at this
   omega
  ·refine fin (Iw (hl.mono fun y hy=>List.mem_of_mem_take hy) ?_)
   intro h1 h2
   rw [List.getElem_take] at h2
   simp only [length_take] at h2
   apply hz
   have hm:min n xs.length-1=n-1:=by omega
   simp only [hm] at h2
   omega
theorem yE {s:Bool} {v:Value} {xs:List Nat} {h:ae} {K:Value→ae→Prop} (hd:DS 3 .i64 h v xs) (hl:cn 10000 xs) (hs:xs.length≤1000)
  (hk:∀r h',EX h h'→ZV h' r (if s then -(val 10000 xs:Int) else val 10000 xs)→K r h'):ak prog 100 [.agg #[B s,v]] h K:=
 W6 hd hl hs fun r h' x z _=>hk r h' x z
end
section
theorem CQ {a b:Nat} (hb:b≠0) (ha:a<9223372036854775808):ai .quo (.int .i64 (a:Int)) (.int .i64 (b:Int))=some (I ((a / b:Nat):Int)):=by
 have h:¬((b:Int)=0):=by omega
 have h2:a / b≤a:=Nat.div_le_self _ _
 simp only [ai,hZ,if_true,if_neg h]
 have e:(a:Int).tdiv (b:Int)=((a / b:Nat):Int):=rfl
 rw [e]
 generalize a / b=q at*
 rw [wrap64 (by omega) (by omega)]
theorem Tz (h:ae):dK 3 0 [.int .i64 0] h []=some (sl 3 h.length 0 0,h++[.arr 3 []]):=rfl
theorem ai7 (h:ae):oZ h.length (h++[.arr 3 []]) (sl 3 h.length 0 0) []:=.inr ⟨h.length,le_refl _,rfl,by simp⟩
theorem an3 {va vb:Value} {xs ys:List Nat} {h:ae} {K:Value→ae→Prop} (hx:DS 3 .i64 h va xs) (hy:DS 3 .i64 h vb ys) (lx:cn 10000 xs) (ly:cn 10000 ys) (sx:xs.length≤400) (sy:ys.length≤400)
  (hk:∀v h' os,EX h h'→DS 3 .i64 h' v os→cn 10000 os→os.length≤500→val 10000 os=val 10000 xs+val 10000 ys→K v h'):ak prog 104 [va,vb] h K:=by
 refine f104 ?_
 simp only [ND,Tz,aA]
 refine dj (σ:=Value×Nat×List Nat×ae) (fun p=>[p.1,I p.2.1,I p.2.2.1.length]) (fun p=>p.2.2.2)
  (fun p=>EX h p.2.2.2∧oZ h.length p.2.2.2 p.1 p.2.2.1∧p.2.1≤1∧cn 10000 p.2.2.1∧p.2.2.1.length≤max xs.length ys.length+1∧(p.2.2.1.length=max xs.length ys.length+1→p.2.1=0)∧val 10000 p.2.2.1+10000^p.2.2.1.length*p.2.1=val 10000 (xs.take p.2.2.1.length)+val 10000 (ys.take p.2.2.1.length)) (fun p=>max xs.length ys.length+1-p.2.2.1.length)
  (sl 3 h.length 0 0,0,[],h++[.arr 3 []]) rfl rfl ⟨EX.append _ _,ai7 h,by simp,fun x hx=>by simp at hx,by simp,by simp,by simp [val]⟩ ?_
 rintro ⟨v,c,os,bT⟩ ⟨hex,jt,hc,fB,hlen,zL,bW⟩ L hL
 simp only at hex jt hc fB hlen zL bW hL⊢
 rw [aBn]
 have dx:=hx.mono hex
 have dy:=hy.mono hex
 -- one IK
 have D8:∀(x y:Nat),x<10000→y<10000→(os.length<max xs.length ys.length∨0<c)→val 10000 (xs.take (os.length+1))=val 10000 (xs.take os.length)+10000^os.length*x→val 10000 (ys.take (os.length+1))=val 10000 (ys.take os.length)+10000^os.length*y→
   (x=0∧y=0∨os.length<max xs.length ys.length)→KI prog K va vb v (I os.length) (I ((c+x+y:Nat):Int)) L bT:=by
  intro x y iG kD sg e1 e2 Cd
  rw [aBk]
  rw [show (.int .i64 10000:Value)=.int .i64 ((10000:Nat):Int) from rfl,AX _ _ _ (by decide)]
  simp only [ah]
  refine Pk jt hex (by omega) ?_
  intro v' h2 x2 o2
  rw [CQ (by decide) (by omega)]
  simp only [ah,aBl,cf,eR os.length (by omega),true_and]
  have aG5:os.length<max xs.length ys.length+1:=by
   rcases sg with h | h
   ·omega
   ·apply byContradiction
    intro Rs
    have:=zL (by omega)
    omega
  have hm:(c+x+y)%10000<10000:=mod_lt _ (by decide)
  have lW:=Nat.mod_add_div (c+x+y) 10000
  have el:(os++[(c+x+y)%10000]).length=os.length+1:=by simp
  have:=hL (v',(c+x+y) / 10000,os++[(c+x+y)%10000],h2) ⟨x2,o2,by show (c+x+y) / 10000≤1;omega,fB.append (fun z hz=>by simp at hz;omega),by rw [el];omega,?_,?_⟩ (by rw [el];omega)
  ·rw [el] at this
   exact this
  ·intro h9
   rw [el] at h9
   show (c+x+y) / 10000=0
   rcases Cd with ⟨rfl,rfl⟩ | h
   ·omega
   ·omega
  ·rw [el]
   show val 10000 (os++[(c+x+y)%10000])+10000^(os.length+1)*((c+x+y) / 10000)=_
   rw [od,e1,e2,pow_succ]
   simp only [val,mul_zero,add_zero]
   generalize (c+x+y) / 10000=q at*
   generalize (c+x+y)%10000=m at*
   generalize 10000^os.length=P at*
   generalize val 10000 os=V at*
   clear hL dx dy hx hy jt
   grind
 have next:(os.length<max xs.length ys.length∨0<c)→OP (bj va) fun cM=>OP (ai .lss (I os.length) cM) fun dC=>aR dC
   (OP (bf 1 va (I os.length)) fun cT=>OP (af false 1 bT cT) fun cR=>OP (ai .add (I c) cR) fun cX=>CL prog K va vb v (I os.length) cX L bT)
   (CL prog K va vb v (I os.length) (I c) L bT):=by
  intro sg
  have anf:∀x:Nat,x<10000→val 10000 (xs.take (os.length+1))=val 10000 (xs.take os.length)+10000^os.length*x→(x=0∨os.length<xs.length)→CL prog K va vb v (I os.length) (I ((c+x:Nat):Int)) L bT:=by
   intro x iG e1 yf
   rw [aBj]
   simp only [dy.len,ah,cA,bR]
   refine ⟨fun aD=>?_,fun cJ=>?_⟩
   ·obtain ⟨i,g1,g2⟩:=dy.get (j:=os.length) (by omega)
    have kD:=ly _ (getElem_mem (show os.length<ys.length by omega))
    have e2:=jw 10000 ys (i:=os.length) (by omega)
    generalize ys[os.length]'(by omega)=y at g2 kD e2
    have ea:IntKind.wrap .i64 (((c+x:Nat):Int)+(y:Int))=((c+x+y:Nat):Int):=by rw [wrap64 (by omega) (by omega)];omega
    simp only [g1,ah,g2,cf,ea]
    exact D8 x y iG kD sg e1 e2 (.inr (by omega))
   ·have:=D8 x 0 iG (by decide) sg e1 (by rw [take_of_length_le (by omega),take_of_length_le (by omega)];simp) (by rcases yf with h | h;exact .inl ⟨h,rfl⟩;exact .inr (by omega))
    simpa using this
  simp only [dx.len,ah,cA,bR]
  refine ⟨fun aD=>?_,fun cJ=>?_⟩
  ·obtain ⟨i,g1,g2⟩:=dx.get (j:=os.length) (by omega)
   have iG:=lx _ (getElem_mem (show os.length<xs.length by omega))
   have e1:=jw 10000 xs (i:=os.length) (by omega)
   generalize xs[os.length]'(by omega)=x at g2 iG e1
   have ea:IntKind.wrap .i64 ((c:Int)+(x:Int))=((c+x:Nat):Int):=by rw [wrap64 (by omega) (by omega)];omega
   simp only [g1,ah,g2,cf,ea]
   exact anf x iG e1 (.inr (by omega))
  ·have:=anf 0 (by decide) (by rw [take_of_length_le (by omega),take_of_length_le (by omega)];simp) (.inl rfl)
   simpa using this
 have done:¬(os.length<max xs.length ys.length∨0<c)→Uc prog K v bT:=by
  intro dh
  rw [aBm]
  refine hk v bT os hex jt.ds fB (by omega) ?_
  have vZ:c=0:=by omega
  rw [vZ,mul_zero,add_zero,take_of_length_le (by omega),take_of_length_le (by omega)] at bW
  exact bW
 simp only [dx.len,ah,cA]
 by_cases h1:os.length<xs.length
 ·rw [aU (show (os.length:Int)<(xs.length:Int) by omega)]
  simp only [alZ,fw,Vt,dZ,ah,Vu,Lg,c8]
  exact next (.inl (by omega))
 ·rw [aS (show ¬(os.length:Int)<(xs.length:Int) by omega)]
  simp only [alZ,dR,dy.len,ah,cA]
  by_cases h2:os.length<ys.length
  ·rw [aU (show (os.length:Int)<(ys.length:Int) by omega)]
   simp only [Vt,cK,ah,Vu,fw,Lg,dZ,c8]
   exact next (.inl (by omega))
  ·rw [aS (show ¬(os.length:Int)<(ys.length:Int) by omega)]
   simp only [Vt,cK,ah,Vu,dR,fG]
   by_cases h3:0<c
   ·rw [aU (show (0:Int)<(c:Int) by omega)]
    simp only [Lg,cK,ah,c8]
    exact next (.inr h3)
   ·rw [aS (show ¬(0:Int)<(c:Int) by omega)]
    simp only [Lg,cK,ah,dF]
    exact done (by omega)
theorem Mt {va vb:Value} {xs ys:List Nat} {h:ae} {K:Value→ae→Prop} (hx:DS 3 .i64 h va xs) (hy:DS 3 .i64 h vb ys) (lx:cn 10000 xs) (ly:cn 10000 ys) (sx:xs.length≤400) (hyx:ys.length≤xs.length) (hle:val 10000 ys≤val 10000 xs)
  (hk:∀v h' os,EX h h'→DS 3 .i64 h' v os→cn 10000 os→os.length≤500→val 10000 os=val 10000 xs-val 10000 ys→K v h'):ak prog 103 [va,vb] h K:=by
 refine f103 ?_
 simp only [NC,Tz,aA]
 refine dj (σ:=Value×Nat×List Nat×ae) (fun p=>[p.1,I p.2.1,I p.2.2.1.length]) (fun p=>p.2.2.2)
  (fun p=>EX h p.2.2.2∧oZ h.length p.2.2.2 p.1 p.2.2.1∧p.2.1≤1∧cn 10000 p.2.2.1∧p.2.2.1.length≤xs.length∧val 10000 p.2.2.1+val 10000 (ys.take p.2.2.1.length)=val 10000 (xs.take p.2.2.1.length)+10000^p.2.2.1.length*p.2.1) (fun p=>xs.length-p.2.2.1.length)
  (sl 3 h.length 0 0,0,[],h++[.arr 3 []]) rfl rfl ⟨EX.append _ _,ai7 h,by simp,fun x hx=>by simp at hx,by simp,by simp [val]⟩ ?_
 rintro ⟨v,c,os,bT⟩ ⟨hex,jt,hc,fB,hlen,bW⟩ L hL
 simp only at hex jt hc fB hlen bW hL⊢
 rw [aBi]
 have dx:=hx.mono hex
 have dy:=hy.mono hex
 simp only [dx.len,ah,cA,bR]
 refine ⟨fun aD=>?_,fun cJ=>?_⟩
 ·have bC:os.length<xs.length:=by omega
  obtain ⟨i,g1,g2⟩:=dx.get bC
  have iG:=lx _ (getElem_mem bC)
  have e1:=jw 10000 xs bC
  generalize xs[os.length]=x at g2 iG e1
  have D8:∀y:Nat,y<10000→val 10000 (ys.take (os.length+1))=val 10000 (ys.take os.length)+10000^os.length*y→KG prog K va vb v (I os.length) (I ((x:Int)-c-y)) L bT:=by
   intro y kD e2
   rw [aBe]
   have go:∀d b:Nat,d<10000→b≤1→d+y+c=x+10000*b→KH prog K va vb v (I b) (I os.length) (I d) L bT:=by
    intro d b hd hb he
    rw [aBf]
    refine Pk jt hex (by omega) ?_
    intro v' h2 x2 o2
    simp only [aBg,cf,ah,eR os.length (by omega),true_and]
    have el:(os++[d]).length=os.length+1:=by simp
    have:=hL (v',b,os++[d],h2) ⟨x2,o2,hb,fB.append (fun z hz=>by simp at hz;omega),by rw [el];omega,?_⟩ (by rw [el];omega)
    ·rw [el] at this
     exact this
    ·rw [el]
     show val 10000 (os++[d])+_=_
     rw [od,e1,e2,pow_succ]
     simp only [val,mul_zero,add_zero]
     generalize 10000^os.length=P at*
     generalize val 10000 os=V at*
     clear hL dx dy hx hy jt
     grind
   simp only [cA,ah,bR]
   refine ⟨fun gG=>?_,fun hY=>?_⟩
   ·obtain ⟨d,hd⟩:∃d:Nat,(x:Int)-c-y+10000=d:=⟨((x:Int)-c-y+10000).toNat,by omega⟩
    simp only [cf,ah,hd]
    rw [wrap64 (by omega) (by omega)]
    exact go d 1 (by omega) (by omega) (by omega)
   ·obtain ⟨d,hd⟩:∃d:Nat,(x:Int)-c-y=d:=⟨((x:Int)-c-y).toNat,by omega⟩
    rw [hd]
    exact go d 0 (by omega) (by omega) (by omega)
  simp only [g1,ah,g2,gE,dy.len,cA,bR]
  rw [wrap64 (n:=(x:Int)-c) (by omega) (by omega)]
  refine ⟨fun hly=>?_,fun hgy=>?_⟩
  ·obtain ⟨i',k1,k2⟩:=dy.get (j:=os.length) (by omega)
   have kD:=ly _ (getElem_mem (show os.length<ys.length by omega))
   have e2:=jw 10000 ys (i:=os.length) (by omega)
   generalize ys[os.length]'(by omega)=y at k2 kD e2
   simp only [k1,ah,k2,gE]
   rw [wrap64 (by omega) (by omega)]
   exact D8 y kD e2
  ·have:=D8 0 (by decide) (by rw [take_of_length_le (by omega),take_of_length_le (by omega)];simp)
   simpa using this
 ·have hl:os.length=xs.length:=by omega
  rw [aBh]
  rw [hl,take_length,take_of_length_le hyx] at bW
  have aD:=nD fB
  rw [hl] at aD
  have vZ:c=0:=by
   apply byContradiction
   intro bp
   have:c=1:=by omega
   subst this
   omega
  subst vZ
  exact hk v bT os hex jt.ds fB (by omega) (by omega)
theorem W7 {va vb:Value} {a b:Nat} {h:ae} {K:Value→ae→Prop} (ha:fQ h va a) (hb:fQ h vb b) (la:a<br) (lb:b<br) (hk:K (I (nC a b)) h):ak prog 101 [va,vb] h K:=by
 obtain ⟨xs,hx,cx,rfl⟩:=ha
 obtain ⟨ys,hy,cy,rfl⟩:=hb
 have l1:=rN cx la
 have l2:=rN cy lb
 have less:val 10000 xs<val 10000 ys→K (.int .i64 (-1)) h:=fun h1=>by unfold nC at hk;rw [if_pos h1] at hk;exact hk
 have more:val 10000 ys<val 10000 xs→K (.int .i64 1) h:=fun h1=>by unfold nC at hk;rw [if_neg (by omega),if_pos h1] at hk;exact hk
 have same:val 10000 xs=val 10000 ys→K (.int .i64 0) h:=fun h1=>by unfold nC at hk;rw [if_neg (by omega),if_neg (by omega)] at hk;exact hk
 refine f101 ?_
 simp only [NA,hx.len,hy.len,ah,pO,Gz,cA,bR]
 refine ⟨fun bp=>⟨fun aD=>less (dE.AF (by decide) cx cy (by omega)),fun cJ=>more (dE.AF (by decide) cy cx (by omega))⟩,fun he=>?_⟩
 have fV:xs.length=ys.length:=by omega
 simp only [gE,ah]
 have e1:IntKind.wrap .i64 ((xs.length:Int)-1)=(xs.length:Int)-1:=by rw [wrap64 (by omega) (by omega)]
 rw [e1]
 refine dj (σ:=Nat) (fun i=>[I ((i:Int)-1)]) (fun _=>h) (fun i=>i≤xs.length∧xs.drop i=ys.drop i) (fun i=>i) xs.length rfl rfl ⟨le_refl _,by rw [List.drop_length,fV,List.drop_length]⟩ ?_
 rintro i ⟨hi,py⟩ L hL
 rw [aBd]
 simp only [nk,ah,bR]
 refine ⟨fun cJ=>?_,fun aD=>?_⟩
 ·obtain ⟨j,rfl⟩:∃j,i=j+1:=⟨i-1,by omega⟩
  have ej:(((j+1:Nat):Int)-1)=(j:Int):=by omega
  rw [ej]
  obtain ⟨ia,a1,a2⟩:=hx.get (j:=j) (by omega)
  obtain ⟨ib,b1,b2⟩:=hy.get (j:=j) (by omega)
  simp only [a1,a2,b1,b2,ah,true_and,cA,bR]
  refine ⟨fun aD=>less (Mb cx.1 cy.1 fV (i:=j) (by omega) py (by omega)),fun cJ=>?_⟩
  simp only [fG,ah,bR]
  refine ⟨fun rY=>more (Mb cy.1 cx.1 fV.symm (i:=j) (by omega) py.symm (by omega)),fun hle=>?_⟩
  simp only [gE,ah]
  rw [wrap64 (by omega) (by omega)]
  refine hL j ⟨by omega,?_⟩ (by omega)
  rw [drop_eq_getElem_cons (by omega),drop_eq_getElem_cons (show j<ys.length by omega),py]
  congr 1
  omega
 ·have:i=0:=by omega
  subst this
  rw [drop_zero,drop_zero] at py
  exact same (by rw [py])
end
section
theorem zi {h':ae} {j:Nat} {b0 v0 b v:Value} {K:Value→ae→Prop} (hg:h'[j]?=some (.arr 35 [b0,v0])) (hk:K (.agg #[b,v]) (h'.set j (.arr 35 [b,v]))):
  OH (aF 2 h' (pt j 0) (.agg #[b,v])) fun _ h6=>OP (af true 2 h6 (pt j 0)) fun r0=>K r0 h6:=by
 rw [fD hg]
 simp only [aA]
 rw [cO (ck hg)]
 exact ah.2 hk
structure an1 (h:ae) (va vb:Value) (sa sb:Bool) (h3:ae):Prop where
 ex:EX h h3
 a0:af false 1 h3 (pt h.length 0)=some (B sa)
 a1:af false 1 h3 (pt h.length 1)=some va
 b0:af false 1 h3 (pt (h.length+1) 0)=some (B sb)
 b1:af false 1 h3 (pt (h.length+1) 1)=some vb
 a2:af true 2 h3 (pt h.length 0)=some (.agg #[B sa,va])
 b2:af true 2 h3 (pt (h.length+1) 0)=some (.agg #[B sb,vb])
 out:h3[h.length+2]?=some (.arr 35 [.bool false,.slice none 0 0])
theorem Hb {h:ae} {va vb:Value} {sa sb:Bool} {K:Value→Value→Value→ae→Prop} (hk:∀h3,an1 h va vb sa sb h3→K (pt h.length 0) (pt (h.length+1) 0) (pt (h.length+2) 0) h3):
  OH (bm 35 h (.agg #[B sa,va])) fun a2 h_1=>OH (bm 35 h_1 (.agg #[B sb,vb])) fun b3 h_2=>OH (aV 35 [(.bool false),(.slice none 0 0)] h_2) fun x4 h_3=>K a2 b3 x4 h_3:=by
 have e1:∀(g:ae) (s:Bool) (v:Value),bm 35 g (.agg #[B s,v])=some (pt g.length 0,g++[.arr 35 [B s,v]]):=fun _ _ _=>rfl
 have e2:∀(g:ae),aV 35 [(.bool false),(.slice none 0 0)] g=some (pt g.length 0,g++[.arr 35 [(.bool false),(.slice none 0 0)]]):=fun _=>rfl
 simp only [e1,e2,aA,length_append,length_cons,length_nil]
 have g0:(h++[aj.arr 35 [B sa,va]]++[aj.arr 35 [B sb,vb]]++[aj.arr 35 [(.bool false),(.slice none 0 0)]])[h.length]?=some (.arr 35 [B sa,va]):=by simp
 have g1:(h++[aj.arr 35 [B sa,va]]++[aj.arr 35 [B sb,vb]]++[aj.arr 35 [(.bool false),(.slice none 0 0)]])[h.length+1]?=some (.arr 35 [B sb,vb]):=by simp
 have g2:(h++[aj.arr 35 [B sa,va]]++[aj.arr 35 [B sb,vb]]++[aj.arr 35 [(.bool false),(.slice none 0 0)]])[h.length+2]?=some (.arr 35 [(.bool false),(.slice none 0 0)]):=by simp
 refine hk _ ⟨((EX.append _ _).push _).push _,?_,?_,?_,?_,cO g0,cO g1,g2⟩
 ·simp [af,aP,b9]
 ·simp [af,aP,b9]
 ·simp [af,aP,b9]
 ·simp [af,aP,b9]
theorem Px {b:Bool} {e:TypeId} {k:IntKind} {h:ae} {v:Value} {xs:List Nat} (d:DS e k h v xs):dd [(.bool false),(.slice none 0 0)] [(0,1,B b),(1,1,v)]=some (.agg #[B b,v]):=by
 rcases d with ⟨rfl,_⟩ | ⟨i,rfl,_⟩ <;> rfl
theorem XD {va vb:Value} {a b:Int} {h:ae} {K:Value→ae→Prop} (ha:ZV h va a) (hb:ZV h vb b) (la:a.natAbs<br) (lb:b.natAbs<br) (hk:∀r h',EX h h'→ZV h' r (a+b)→K r h'):ak prog 70 [va,vb] h K:=by
 obtain ⟨v,rfl,hv⟩:=ha
 obtain ⟨w,rfl,hw⟩:=hb
 refine f70 ?_
 unfold OO
 refine Hb ?_
 intro h3 x
 have wA:=hv.mono x.ex
 have oM:=hw.mono x.ex
 obtain ⟨xs,dx,cx,ex⟩:=id wA
 obtain ⟨ys,dy,cy,ey⟩:=id oM
 have l1:=rN cx (by rw [ex];exact la)
 have l2:=rN cy (by rw [ey];exact lb)
 simp only [bU,add_zero,zero_add,ah,x.a0,x.a1,x.b0,x.b1,Ec,Bool.false_eq_true,if_false]
 -- gN result,put in its place
 have put:∀(s:Bool) (u:Value) (os:List Nat) (h4:ae) (z:Int),EX h3 h4→DS 3 .i64 h4 u os→cn 10000 os→os.length≤500→(if s then -(val 10000 os:Int) else (val 10000 os:Int))=z→z=a+b→
   OP (dd [(.bool false),(.slice none 0 0)] [(0,1,B s),(1,1,u)]) fun bN=>ak prog 100 [bN] h4 fun aQ h_5=>OH (aF 2 h_5 (pt (h.length+2) 0) aQ) fun _ h_6=>OP (af true 2 h_6 (pt (h.length+2) 0)) fun r0=>K r0 h_6:=by
  intro s u os h4 z x4 d4 l4 s4 hz oN
  simp only [Px d4,ah]
  refine yE d4 l4 (by omega) ?_
  intro r h5 x5 zr
  rw [hz,oN] at zr
  obtain ⟨q,rfl,hq⟩:=id zr
  have g':=(x4.trans x5).get x.out
  exact zi g' (hk _ _ (((x.ex.trans x4).trans x5).set (by omega) _) (zr.bM g' _))
 refine tY (fun he=>?_) fun bp=>?_
 ·have hs:decide (a<0)=decide (b<0):=by simpa using he
  have dT:(a<0↔b<0):=by simpa using hs
  simp only [true_and]
  refine an3 dx dy cx.1 cy.1 (by omega) (by omega) ?_
  intro u h4 os x4 d4 l4 s4 v4
  refine ⟨⟨EX.load x4 x.a0,trivial⟩,?_⟩
  have:=put (decide (a<0)) u os h4 _ x4 d4 l4 s4 rfl (by
   rw [v4,ex,ey]
   by_cases h0:a<0
   ·rw [aU h0];simp;omega
   ·rw [aS h0];simp;omega)
  simpa using this
 ·have hs:decide (a<0)≠decide (b<0):=by simpa using bp
  have dT:¬(a<0↔b<0):=fun h=>hs (decide_eq_decide.2 h)
  refine W7 wA oM la lb ?_
  simp only [nk,ah,bR]
  have ll:∀{p q:List Nat},dE 10000 p→dE 10000 q→val 10000 q≤val 10000 p→q.length≤p.length:=by
   intro p q cp cq JO
   apply byContradiction
   intro hc
   have:=dE.AF (by decide) cp cq (by omega)
   omega
  refine ⟨fun cJ=>?_,fun aD=>?_⟩
  ·have hle:b.natAbs≤a.natAbs:=by
    apply byContradiction
    intro hc
    unfold nC at cJ
    rw [if_pos (by omega)] at cJ
    omega
   simp only [x.a0,x.a1,x.b1,ah,true_and]
   refine Mt dx dy cx.1 cy.1 (by omega) (ll cx cy (by omega)) (by omega) ?_
   intro u h4 os x4 d4 l4 s4 v4
   refine ⟨⟨EX.load x4 x.a0,trivial⟩,?_⟩
   have:=put (decide (a<0)) u os h4 _ x4 d4 l4 s4 rfl (by
    rw [v4,ex,ey]
    by_cases h0:a<0
    ·rw [aU h0];simp;omega
    ·rw [aS h0];simp;omega)
   simpa using this
  ·have hle:a.natAbs≤b.natAbs:=by
    apply byContradiction
    intro hc
    unfold nC at aD
    rw [if_neg (by omega),if_pos (by omega)] at aD
    omega
   simp only [x.b0,x.a1,x.b1,ah,true_and]
   refine Mt dy dx cy.1 cx.1 (by omega) (ll cy cx (by omega)) (by omega) ?_
   intro u h4 os x4 d4 l4 s4 v4
   refine ⟨⟨EX.load x4 x.b0,trivial⟩,?_⟩
   have:=put (decide (b<0)) u os h4 _ x4 d4 l4 s4 rfl (by
    rw [v4,ex,ey]
    by_cases h0:b<0
    ·rw [aU h0];simp;omega
    ·rw [aS h0];simp;omega)
   simpa using this
theorem fQ.qo {h:ae} {v:Value} {n:Nat} (p:fQ h v n):∃l:Nat,bj v=some (I l)∧(0<l↔0<n):=by
 obtain ⟨xs,d,c,rfl⟩:=p
 refine ⟨xs.length,d.len,?_⟩
 constructor
 ·intro h0
  have:=dE.low (by decide) c (by rintro rfl;simp at h0)
  have:0<10000^(xs.length-1):=Nat.pow_pos (by decide)
  omega
 ·intro h0
  cases xs with
  | nil=>simp [val] at h0
  | cons x xs=>simp
theorem XJ {va:Value} {a:Int} {h:ae} {K:Value→ae→Prop} (ha:ZV h va a) (hk:∀r h',EX h h'→ZV h' r (-a)→K r h'):ak prog 95 [va] h K:=by
 obtain ⟨v,rfl,hv⟩:=ha
 refine f95 ?_
 have e1:bm 35 h (.agg #[B (decide (a<0)),v])=some (pt h.length 0,h++[.arr 35 [B (decide (a<0)),v]]):=rfl
 have e2:∀(g:ae),aV 35 [(.bool false),(.slice none 0 0)] g=some (pt g.length 0,g++[.arr 35 [(.bool false),(.slice none 0 0)]]):=fun _=>rfl
 simp only [O9,e1,e2,aA,length_append,length_cons,length_nil]
 have g0:(h++[aj.arr 35 [B (decide (a<0)),v]]++[aj.arr 35 [(.bool false),(.slice none 0 0)]])[h.length]?=some (.arr 35 [B (decide (a<0)),v]):=by simp
 have g1:(h++[aj.arr 35 [B (decide (a<0)),v]]++[aj.arr 35 [(.bool false),(.slice none 0 0)]])[h.length+1]?=some (.arr 35 [(.bool false),(.slice none 0 0)]):=by simp
 have x1:EX h (h++[aj.arr 35 [B (decide (a<0)),v]]++[aj.arr 35 [(.bool false),(.slice none 0 0)]]):=(EX.append _ _).push _
 generalize h++[aj.arr 35 [B (decide (a<0)),v]]++[aj.arr 35 [(.bool false),(.slice none 0 0)]]=h1 at g0 g1 x1⊢
 have l0:af false 1 h1 (pt h.length 0)=some (B (decide (a<0))):=by simp [af,aP,g0,b9]
 have l1:af false 1 h1 (pt h.length 1)=some v:=by simp [af,aP,g0,b9]
 have so:=hv.mono x1
 obtain ⟨l,n1,n2⟩:=so.qo
 have last:∀c:Bool,c=decide (-a<0)→OH (aF 1 h1 (pt h.length 0) (B c)) fun _ h_1=>OP (af true 2 h_1 (pt h.length 0)) fun aB=>OH (aF 2 h_1 (pt (h.length+1) 0) aB) fun _ h_2=>OP (af true 2 h_2 (pt (h.length+1) 0)) fun r0=>K r0 h_2:=by
  rintro c rfl
  rw [oS g0 (by simp) rfl rfl]
  simp only [aA,List.set_cons_zero]
  rw [cO (ck g0)]
  simp only [ah]
  have m1:(h1.set h.length (.arr 35 [B (decide (-a<0)),v]))[h.length+1]?=some (.arr 35 [(.bool false),(.slice none 0 0)]):=by rw [getElem?_set_ne (by omega)];exact g1
  refine zi m1 (hk _ _ ((x1.set (le_refl _) _).set (by omega) _) ⟨v,rfl,?_⟩)
  have:(-a).natAbs=a.natAbs:=by omega
  rw [this]
  exact (so.bM g0 _).bM m1 _
 simp only [bU,add_zero,ah,l0,oc]
 by_cases h0:a<0
 ·rw [aU h0]
  simp only [Bool.not_true,amM,kL,amN,cK,ah,bU,add_zero]
  rw [aU h0] at*
  exact last _ (by simp;omega)
 ·rw [aS h0]
  simp only [Bool.not_false,amM,jm,bU,zero_add,ah,l1,n1,fG,amN,dZ,add_zero]
  refine last _ ?_
  rw [decide_eq_decide]
  omega
theorem MH {va vb:Value} {a b:Int} {h:ae} {K:Value→ae→Prop} (ha:ZV h va a) (hb:ZV h vb b) (la:a.natAbs<br) (lb:b.natAbs<br) (hk:∀r h',EX h h'→ZV h' r (a-b)→K r h'):ak prog 92 [va,vb] h K:=by
 have oH:=ha
 have pn:=hb
 obtain ⟨v,rfl,hv⟩:=ha
 obtain ⟨w,rfl,hw⟩:=hb
 refine f92 ?_
 unfold O6
 refine Hb ?_
 intro h3 x
 simp only [ah,x.a2,x.b2,true_and]
 refine XJ (pn.mono x.ex) ?_
 intro r1 h4 x4 i1
 refine ⟨⟨EX.load x4 x.a2,trivial⟩,?_⟩
 refine XD (oH.mono (x.ex.trans x4)) i1 la (by rw [Int.natAbs_neg];exact lb) ?_
 intro r2 h5 x5 i2
 have g':=(x4.trans x5).get x.out
 obtain ⟨u,rfl,hu⟩:=id i2
 refine zi g' (hk _ _ (((x.ex.trans x4).trans x5).set (by omega) _) ?_)
 rw [Int.sub_eq_add_neg]
 exact i2.bM g' _
def mc (z:Int):Int:=if z=0 then 0 else if z<0 then -1 else 1
theorem C48 {va:Value} {a:Int} {h:ae} {K:Value→ae→Prop} (ha:ZV h va a) (hk:∀h',EX h h'→K (I (mc a)) h'):ak prog 48 [va] h K:=by
 obtain ⟨v,rfl,hv⟩:=ha
 refine f48 ?_
 have e1:bm 35 h (.agg #[B (decide (a<0)),v])=some (pt h.length 0,h++[.arr 35 [B (decide (a<0)),v]]):=rfl
 simp only [Oy,e1,aA]
 have l0:af false 1 (h++[.arr 35 [B (decide (a<0)),v]]) (pt h.length 0)=some (B (decide (a<0))):=mV rfl
 have l1:af false 1 (h++[.arr 35 [B (decide (a<0)),v]]) (pt h.length 1)=some v:=mV rfl
 have x1:EX h (h++[.arr 35 [B (decide (a<0)),v]]):=EX.append _ _
 obtain ⟨l,n1,n2⟩:=hv.qo
 have cj:=hk _ x1
 unfold mc at cj
 simp only [bU,zero_add,add_zero,ah,l1,n1,iT,bR,l0]
 refine ⟨fun h0=>?_,fun h0=>⟨fun hn=>?_,fun hn=>?_⟩⟩
 ·rw [if_pos (by omega)] at cj;exact cj
 ·rw [if_neg (by omega),if_pos hn] at cj;exact cj
 ·rw [if_neg (by omega),if_neg hn] at cj;exact cj
theorem MD {va vb:Value} {a b:Int} {h:ae} {K:Value→ae→Prop} (ha:ZV h va a) (hb:ZV h vb b) (la:a.natAbs<br) (lb:b.natAbs<br) (hk:∀h',EX h h'→K (I (mc (a-b))) h'):ak prog 72 [va,vb] h K:=by
 have oH:=ha
 have pn:=hb
 obtain ⟨v,rfl,hv⟩:=ha
 obtain ⟨w,rfl,hw⟩:=hb
 refine f72 ?_
 have e1:∀(g:ae) (s:Bool) (v:Value),bm 35 g (.agg #[B s,v])=some (pt g.length 0,g++[.arr 35 [B s,v]]):=fun _ _ _=>rfl
 simp only [OR,e1,aA,length_append,length_cons,length_nil]
 have g0:(h++[aj.arr 35 [B (decide (a<0)),v]]++[aj.arr 35 [B (decide (b<0)),w]])[h.length]?=some (.arr 35 [B (decide (a<0)),v]):=by simp
 have g1:(h++[aj.arr 35 [B (decide (a<0)),v]]++[aj.arr 35 [B (decide (b<0)),w]])[h.length+1]?=some (.arr 35 [B (decide (b<0)),w]):=by simp
 have x1:EX h (h++[aj.arr 35 [B (decide (a<0)),v]]++[aj.arr 35 [B (decide (b<0)),w]]):=(EX.append _ _).push _
 simp only [zero_add,cO g0,cO g1,ah]
 refine MH (oH.mono x1) (pn.mono x1) la lb ?_
 intro r h2 x2 zr
 refine C48 zr ?_
 intro h3 x3
 exact hk h3 ((x1.trans x2).trans x3)
end
end Go.Proofs.YtelmdbpaoifmoaaGreat
