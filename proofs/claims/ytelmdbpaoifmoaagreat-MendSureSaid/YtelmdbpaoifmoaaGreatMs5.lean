/-
  Part 5 of the texts behind a statement of this seat: ZR2, Ct45, Ct46, Ct47, Zq1, Sp18, ZN3, Kd1, Kd2, Kd3, Kd4, Kd5, Kd6, Ct41, Zq2, Zq3, Kd7, ZN4, Kd8, Kd9, Kd10, Zp1, ZR3, Zs1, Zp2.
-/
import Derived.Test.YtelmdbpaoifmoaaGreatProg
import Derived.KernelRfl
import Derived.Test.YtelmdbpaoifmoaaGreatMs4
open Classical (byContradiction)
open Go.Proofs.Tryz (prog)
open Int (natAbs_mul natAbs_natCast)
open List (getElem?_eq_getElem getElem?_set_ne getElem_mem length_append length_cons length_nil length_set length_take mem_of_mem_take replicate set_set take_of_length_le)
open Nat (add_mul add_zero div_add_mod gcd le_refl lt_of_lt_of_le min_eq_left mod_eq_of_lt mod_lt mul_assoc mul_comm mul_le_mul_left mul_le_mul_right mul_zero pow_add pow_le_pow_right pow_pos pow_succ zero_add zero_le)
namespace Go.Proofs.YtelmdbpaoifmoaaGreat
open Go.Sim
section
variable (P : Program) (K : VK)
noncomputable section
variable (x0 q1 y5 aD bM : Value) (h : ae)
def ahy:=bK prog 16 [[],[],[0,5,13],[13,16],[]]
@[irreducible] def oR:=bR ahy
@[irreducible] def aaB:=oR.r.r.l.r.l
@[irreducible] def asN:=oR.r.r.r
@[irreducible] def asO:=aaB.r.l
theorem k16:ahy=some (18,oR,[.tmp 4]):=by kernel_rfl
def XO (_P:Program) (K:VK):ar:=aS [.tmp 4] K
def XP:ar:=aF (aj P asN (XO P K)) (XO P K)
def ajA:Prop:=ax (aj P aaB (XP P K)) [0,5,13] [x0,y5,aD] h
def TW:Prop:=ax (aj P asO (XP P K)) [13,16] [aD,bM] h
theorem aBG:TW P K aD bM h=
 (OP (ck aD bM (.bool false)) fun bU=>
 K bU h):=az (by kernel_rfl)
theorem aBF:ajA P K x0 y5 aD h=
 (cE aD true
 (OP (ai .eql x0 y5) fun bM=>
 TW P K aD bM h)
 (TW P K aD undef h)):=az (by kernel_rfl)
def NV:Prop:=
 OH (bC 37 h q1) fun q3 z1=>
 OP (af true 4 z1 q3) fun x8=>
 aq P 53 [x8] z1 fun x9 z2=>
 OP (cf 0 x9) fun aM=>
 OP (cf 1 x9) fun au=>
 ajA P K x0 aM au z2
theorem e16:aj P oR (aS [.tmp 4] K) (bG [x0,q1]) h=NV P K x0 q1 h:=by kernel_rfl
theorem f16 {K:VK} {x0 q1:Value} {h:ae} (H:NV prog K x0 q1 h):aq prog 16 [x0,q1] h K:=
 bT k16 (bP rfl) ((e16 prog K x0 q1 h).mpr H)
end
noncomputable section
variable (x0 x1 : Value) (h : ae)
def ahz:=bK prog 17 [[],[]]
@[irreducible] def xD:=bR ahz
theorem k17:ahz=some (11,xD,[.cell true 4 4]):=by kernel_rfl
def NW:Prop:=
 OH (ba 37 [(.bool false),(.slice none 0 0),(.bool false),(.slice none 0 0)] h) fun x4 z1=>
 aq P 55 [x0] z1 fun x6 z2=>
 aq P 55 [x1] z2 fun x8 z3=>
 aq P 54 [x6,x8] z3 fun x9 z4=>
 aq P 25 [x9] z4 fun aM z5=>
 OH (aK 4 z5 x4 aM) fun _ z6=>
 OP (af true 4 z6 x4) fun r0=>
 K r0 z6
theorem e17:aj P xD (aS [.cell true 4 4] K) (bG [x0,x1]) h=NW P K x0 x1 h:=by kernel_rfl
theorem f17 {K:VK} {x0 x1:Value} {h:ae} (H:NW prog K x0 x1 h):aq prog 17 [x0,x1] h K:=
 bT k17 (bP rfl) ((e17 prog K x0 x1 h).mpr H)
end
noncomputable section
variable (q0 : Value) (h : ae)
def ahD:=bK prog 25 [[],[],[],[],[]]
@[irreducible] def c25:=bR ahD
theorem k25:ahD=some (30,c25,[.cell true 4 2]):=by kernel_rfl
def NZ:Prop:=
 OH (bC 37 h q0) fun q1 z1=>
 OH (ba 37 [(.bool false),(.slice none 0 0),(.bool false),(.slice none 0 0)] z1) fun x2 z2=>
 OP (aJ 0 q1) fun x8=>
 OP (af true 2 z2 x8) fun x9=>
 OP (aJ 2 q1) fun aM=>
 OP (af true 2 z2 aM) fun au=>
 aq P 68 [x9,au] z2 fun aA z3=>
 OH (ba 35 [(.bool false),(.slice none 0 0)] z3) fun g3 z4=>
 OH (aK 2 z4 g3 aA) fun _ z5=>
 OP (aJ 0 q1) fun aL=>
 OP (af true 2 z5 aL) fun bj=>
 OP (af true 2 z5 g3) fun bM=>
 aq P 69 [bj,bM] z5 fun bU z6=>
 OP (cf 0 bU) fun aO=>
 OP (cf 1 bU) fun aP=>
 OH (ba 35 [(.bool false),(.slice none 0 0)] z6) fun n4 z7=>
 OH (ba 35 [(.bool false),(.slice none 0 0)] z7) fun x5 z8=>
 OH (aK 2 z8 n4 aO) fun _ z9=>
 OH (aK 2 z9 x5 aP) fun _ nv=>
 OP (aJ 2 q1) fun bf=>
 OP (af true 2 nv bf) fun bH=>
 OP (af true 2 nv g3) fun cX=>
 aq P 69 [bH,cX] nv fun bD ry=>
 OP (cf 0 bD) fun bV=>
 OP (cf 1 bD) fun cF=>
 OH (ba 35 [(.bool false),(.slice none 0 0)] ry) fun d6 yO=>
 OH (ba 35 [(.bool false),(.slice none 0 0)] yO) fun x7 Bg=>
 OH (aK 2 Bg d6 bV) fun _ Da=>
 OH (aK 2 Da x7 cF) fun _ pz=>
 OP (af true 2 pz n4) fun bn=>
 OP (af true 2 pz d6) fun bz=>
 OP (dW [(.bool false),(.slice none 0 0),(.bool false),(.slice none 0 0)] [(0,2,bn),(2,2,bz)]) fun bN=>
 OH (aK 4 pz x2 bN) fun _ vI=>
 OP (af true 4 vI x2) fun r0=>
 K r0 vI
theorem e25:aj P c25 (aS [.cell true 4 2] K) (bG [q0]) h=NZ P K q0 h:=by kernel_rfl
theorem f25 {K:VK} {q0:Value} {h:ae} (H:NZ prog K q0 h):aq prog 25 [q0] h K:=
 bT k25 (bP rfl) ((e25 prog K q0 h).mpr H)
end
noncomputable section
variable (q0 q1 s4 d5 aO bf : Value) (h : ae)
def ahI:=bK prog 53 [[],[],[],[1,4,5,18],[1,4,5,18,21],[],[],[],[],[4,5],[],[4],[]]
@[irreducible] def DJ:=bR ahI
@[irreducible] def abi:=DJ.r.r.r.l.l.r.l
@[irreducible] def atf:=DJ.r.r.r.l.r
@[irreducible] def abh:=DJ.r.r.r.r
@[irreducible] def atg:=abi.r.l
@[irreducible] def abg:=abh.r.l
@[irreducible] def ate:=abg.r.l
theorem k53:ahI=some (35,DJ,[.tmp 2,.tmp 3]):=by kernel_rfl
def GC (_P:Program) (K:VK):ar:=aS [.tmp 2,.tmp 3] K
def X0:ar:=aF (aj P abh (GC P K)) (GC P K)
def X1:ar:=aF (aj P atf (X0 P K)) (X0 P K)
def ajU:Prop:=ax (aj P abi (X1 P K)) [1,4,5,18] [q1,s4,d5,aO] h
def Um:Prop:=ax (aj P atg (X1 P K)) [1,4,5,18,21] [q1,s4,d5,aO,bf] h
def KK:Prop:=ax (aj P abg (GC P K)) [4,5] [s4,d5] h
def Ul:Prop:=ax (aj P ate (GC P K)) [4] [s4] h
theorem aCj:Um P K q1 s4 d5 aO bf h=
 (OP (ck aO (.bool true) bf) fun bH=>
 aQ bH
 (K (.tuple #[(.string ⟨#[]⟩),(.bool false)]) h)
 (OP (aJ 0 q1) fun cX=>
 OP (aJ 0 cX) fun bD=>
 OP (af false 1 h bD) fun bV=>
 aQ bV
 (OP (ai .add (.string ⟨#[45]⟩) s4) fun bn=>
 KK P K bn d5 h)
 (KK P K s4 d5 h))):=az (by kernel_rfl)
theorem aCi:ajU P K q1 s4 d5 aO h=
 (cE aO false
 (OP (jP d5) fun aZ=>
 OP (ai .gtr aZ (.int .i64 (4000))) fun bf=>
 Um P K q1 s4 d5 aO bf h)
 (Um P K q1 s4 d5 aO undef h)):=az (by kernel_rfl)
theorem al0:Ul P K s4 h=
 (K (.tuple #[s4,(.bool true)]) h):=az (by kernel_rfl)
theorem aCh:KK P K s4 d5 h=
 (OP (ai .neq d5 (.string ⟨#[49]⟩)) fun bN=>
 aQ bN
 (OP (ai .add (.string ⟨#[47]⟩) d5) fun bk=>
 OP (ai .add s4 bk) fun br=>
 Ul P K br h)
 (Ul P K s4 h)):=az (by kernel_rfl)
def N3:Prop:=
 OH (bC 37 h q0) fun q1 z1=>
 OP (af true 4 z1 q1) fun x6=>
 aq P 25 [x6] z1 fun x7 z2=>
 OH (aK 4 z2 q1 x7) fun _ z3=>
 OP (aJ 0 q1) fun x8=>
 OP (af true 2 z3 x8) fun x9=>
 (True)∧
 aq P 94 [x9] z3 fun aM z4=>
 (True)∧
 aq P 93 [aM] z4 fun au z5=>
 (True)∧
 OP (aJ 2 q1) fun aA=>
 OP (af true 2 z5 aA) fun aD=>
 (af true 2 z3 aA=some aD∧af true 2 z4 aA=some aD∧True)∧
 aq P 93 [aD] z5 fun aL z6=>
 (True)∧
 OP (jP au) fun bM=>
 OP (ai .gtr bM (.int .i64 (4000))) fun bU=>
 ajU P K q1 au aL bU z6
theorem e53:aj P DJ (aS [.tmp 2,.tmp 3] K) (bG [q0]) h=N3 P K q0 h:=by kernel_rfl
theorem f53 {K:VK} {q0:Value} {h:ae} (H:N3 prog K q0 h):aq prog 53 [q0] h K:=
 bT k53 (bP rfl) ((e53 prog K q0 h).mpr H)
end
noncomputable section
variable (a0 b1 a2 b3 x4 : Value) (L1 : LQ) (xs : List Value) (h : ae)
def ahT:=bK prog 68 [[],[],[2,3,4],[],[],[],[],[2,4],[]]
@[irreducible] def HN:=bR ahT
@[irreducible] def atK:=HN.r.r.l.l.l
@[irreducible] def abP:=HN.r.r.r
@[irreducible] def atJ:=abP.l
theorem k68:ahT=some (24,HN,[.cell true 2 4]):=by kernel_rfl
def MT (_P:Program) (K:VK):ar:=aS [.cell true 2 4] K
def aqf:ar:=aF (aj P abP (MT P K)) (MT P K)
def aqg:ar:=bI 0 (aqf P K)
def aqh:ar:=aF (fun f' aU=>(([2,3,4]:List Nat).map f':List Value)=[a2,b3,x4]∧L1 (([]:List Nat).map f') aU) (aqg P K)
def akm:Prop:=ax (aj P atK (aqh P K a2 b3 x4 L1)) ([2,3,4]++[]) ([a2,b3,x4]++xs) h
def akl:Prop:=ax (aj P atJ (MT P K)) [2,4] [a2,x4] h
theorem aCK:akm P K a2 b3 x4 L1 [] h=
 (OP (aJ 1 b3) fun au=>
 OP (af false 1 h au) fun aA=>
 OP (bc aA) fun aD=>
 OP (ai .gtr aD (.int .i64 (0))) fun aL=>
 aQ aL
 (OP (af true 2 h a2) fun bM=>
 OP (af true 2 h b3) fun bU=>
 aq P 69 [bM,bU] h fun aO z1=>
 OP (cf 0 aO) fun aP=>
 OP (cf 1 aO) fun aZ=>
 OH (ba 35 [(.bool false),(.slice none 0 0)] z1) fun x5 z2=>
 OH (ba 35 [(.bool false),(.slice none 0 0)] z2) fun x6 z3=>
 OH (aK 2 z3 x5 aP) fun _ z4=>
 OH (aK 2 z4 x6 aZ) fun _ z5=>
 OP (af true 2 z5 b3) fun bf=>
 (True)∧
 OP (af true 2 z5 x6) fun bH=>
 (True)∧
 OH (aK 2 z5 a2 bf) fun _ z6=>
 (af true 2 z6 x6=some bH∧True)∧
 OH (aK 2 z6 b3 bH) fun _ z7=>
 (True)∧
 ([a2,b3,x4]:List Value)=[a2,b3,x4]∧L1 [] z7)
 (akl P K a2 x4 h)):=az (by kernel_rfl)
theorem aCJ:akl P K a2 x4 h=
 (OP (af true 2 h a2) fun cX=>
 OH (aK 2 h x4 cX) fun _ z1=>
 OP (af true 2 z1 x4) fun r0=>
 K r0 z1):=az (by kernel_rfl)
def Od:Prop:=
 OH (bC 35 h a0) fun a2 z1=>
 OH (bC 35 z1 b1) fun b3 z2=>
 OH (ba 35 [(.bool false),(.slice none 0 0)] z2) fun x4 z3=>
 OP (af true 2 z3 a2) fun x7=>
 (True)∧
 aq P 94 [x7] z3 fun x8 z4=>
 (True)∧
 OP (af true 2 z4 b3) fun x9=>
 (af true 2 z3 b3=some x9∧True)∧
 aq P 94 [x9] z4 fun aM z5=>
 (True)∧
 OH (aK 2 z5 a2 x8) fun _ z6=>
 (True)∧
 OH (aK 2 z6 b3 aM) fun _ z7=>
 (True)∧
 cJ [] z7 fun L1 xs hx=>
 akm P K a2 b3 x4 L1 xs hx
theorem e68:aj P HN (aS [.cell true 2 4] K) (bG [a0,b1]) h=Od P K a0 b1 h:=by kernel_rfl
theorem f68 {K:VK} {a0 b1:Value} {h:ae} (H:Od prog K a0 b1 h):aq prog 68 [a0,b1] h K:=
 bT k68 (bP rfl) ((e68 prog K a0 b1 h).mpr H)
end
noncomputable section
variable (a0 b1 a2 b3 x4 x5 q6 x7 i8 x9 aM aA aD fB nS : Value) (L1 L2 : LQ) (xs : List Value) (h : ae)
def ahU:=bK prog 69 [[],[],[],[2,3,4,5,6],[7,8],[],[],[],[],[2,3,4,5,6,7,8],[9,10],[],[],[],[],[2,3,4,5,6,7,8,9],[],[2,3,4,5,6,7,8],[2,3,4,5,6,7],[],[3,4,5,12,13,78],[3,4,5,12,13,78,82],[],[],[],[]]
@[irreducible] def HP:=bR ahU
@[irreducible] def HT:=HP.r.r.l.r.l.l
@[irreducible] def abS:=HP.r.r.r
@[irreducible] def atL:=HT.r.l.l.r.r.l.l.l
@[irreducible] def abQ:=HT.r.l.l.r.r.r
@[irreducible] def abT:=HT.r.r
@[irreducible] def HQ:=abS.l
@[irreducible] def atM:=abQ.l
@[irreducible] def atN:=abT.l
@[irreducible] def abR:=HQ.r.l.l.r.l
@[irreducible] def atP:=HQ.r.l.r
@[irreducible] def atO:=HQ.r.r
@[irreducible] def atQ:=abR.r.l
theorem k69:ahU=some (92,HP,[.cell true 2 4,.cell true 2 5]):=by kernel_rfl
def Dr (_P:Program) (K:VK):ar:=aS [.cell true 2 4,.cell true 2 5] K
def aql:ar:=aF (aj P abS (Dr P K)) (Dr P K)
def aqm:ar:=bI 0 (aql P K)
def GI:ar:=aF (fun f' aU=>(([2,3,4,5,6]:List Nat).map f':List Value)=[a2,b3,x4,x5,q6]∧L1 (([7,8]:List Nat).map f') aU) (aqm P K)
def aqn:ar:=aF (aj P abT (GI P K a2 b3 x4 x5 q6 L1)) (GI P K a2 b3 x4 x5 q6 L1)
def MU:ar:=bI 1 (aqn P K a2 b3 x4 x5 q6 L1)
def aqi:ar:=aF (aj P abQ (MU P K a2 b3 x4 x5 q6 L1)) (MU P K a2 b3 x4 x5 q6 L1)
def aqj:ar:=bI 2 (aqi P K a2 b3 x4 x5 q6 L1)
def aqk:ar:=aF (fun f' aU=>(([2,3,4,5,6,7,8]:List Nat).map f':List Value)=[a2,b3,x4,x5,q6,x7,i8]∧L2 (([9,10]:List Nat).map f') aU) (aqj P K a2 b3 x4 x5 q6 L1)
def Yg:ar:=aF (aj P atO (Dr P K)) (Dr P K)
def Yh:ar:=aF (aj P atP (Yg P K)) (Yg P K)
def aks:Prop:=ax (aj P HT (GI P K a2 b3 x4 x5 q6 L1)) ([2,3,4,5,6]++[7,8]) ([a2,b3,x4,x5,q6]++xs) h
def akn:Prop:=ax (aj P atL (aqk P K a2 b3 x4 x5 q6 x7 i8 L1 L2)) ([2,3,4,5,6,7,8]++[9,10]) ([a2,b3,x4,x5,q6,x7,i8]++xs) h
def ako:Prop:=ax (aj P atM (MU P K a2 b3 x4 x5 q6 L1)) [2,3,4,5,6,7,8,9] [a2,b3,x4,x5,q6,x7,i8,x9] h
def akp:Prop:=ax (aj P atN (GI P K a2 b3 x4 x5 q6 L1)) [2,3,4,5,6,7,8] [a2,b3,x4,x5,q6,x7,i8] h
def akq:Prop:=ax (aj P HQ (Dr P K)) [2,3,4,5,6,7] [a2,b3,x4,x5,q6,x7] h
def akr:Prop:=ax (aj P abR (Yh P K)) [3,4,5,12,13,78] [b3,x4,x5,aA,aD,fB] h
def FB:Prop:=ax (aj P atQ (Yh P K)) [3,4,5,12,13,78,82] [b3,x4,x5,aA,aD,fB,nS] h
theorem aCL (a2 b3 x4 x5 q6 x7 i8:Value) (L1 L2:LQ) (x9 aM:Value) (h:ae):akn P K a2 b3 x4 x5 q6 x7 i8 L1 L2 [x9,aM] h=
 (OP (ai .sub aM x9) fun ee=>
 OP (ai .gtr ee (.int .i64 (1))) fun dG=>
 aQ dG
 (OP (ai .add x9 aM) fun bp=>
 OP (ai .quo bp (.int .i64 (2))) fun cH=>
 OP (aJ 1 b3) fun dU=>
 OP (af false 1 h dU) fun mP=>
 aq P 102 [mP,cH] h fun fQ z1=>
 aq P 101 [fQ,x7] z1 fun cd z2=>
 OP (ai .leq cd (.int .i64 (0))) fun cV=>
 aQ cV
 (([a2,b3,x4,x5,q6,x7,i8]:List Value)=[a2,b3,x4,x5,q6,x7,i8]∧L2 [cH,aM] z2)
 (([a2,b3,x4,x5,q6,x7,i8]:List Value)=[a2,b3,x4,x5,q6,x7,i8]∧L2 [x9,cH] z2))
 (ako P K a2 b3 x4 x5 q6 x7 i8 x9 L1 h)):=az (by kernel_rfl)
theorem aCM:ako P K a2 b3 x4 x5 q6 x7 i8 x9 L1 h=
 (OP (aY 1 q6 i8) fun cK=>
 OH (aK 1 h cK x9) fun _ z1=>
 OP (aJ 1 b3) fun jT=>
 OP (af false 1 z1 jT) fun gf=>
 aq P 102 [gf,x9] z1 fun jU z2=>
 aq P 103 [x7,jU] z2 fun jA z3=>
 OP (dW [(.bool false),(.slice none 0 0)] [(1,1,jA)]) fun iD=>
 aq P 100 [iD] z3 fun kX z4=>
 OP (Aq false 1 1 kX) fun fR=>
 akp P K a2 b3 x4 x5 q6 fR i8 L1 z4):=az (by kernel_rfl)
theorem aCN:akp P K a2 b3 x4 x5 q6 x7 i8 L1 h=
 (OP (ai .sub i8 (.int .i64 (1))) fun cF=>
 ([a2,b3,x4,x5,q6]:List Value)=[a2,b3,x4,x5,q6]∧L1 [x7,cF] h):=az (by kernel_rfl)
theorem aCQ (a2 b3 x4 x5 q6:Value) (L1:LQ) (x7 i8:Value) (h:ae):aks P K a2 b3 x4 x5 q6 L1 [x7,i8] h=
 (OP (ai .geq i8 (.int .i64 (0))) fun bD=>
 aQ bD
 (OP (aJ 1 a2) fun bn=>
 OP (af false 1 h bn) fun bz=>
 OP (aY 1 bz i8) fun dD=>
 OP (af false 1 h dD) fun cG=>
 OH (cZ 3 1 [(.int .i64 (0))] h [(0,1,cG)]) fun bk z1=>
 OH (dI 3 1 8 z1 bk x7) fun bE z2=>
 OP (dW [(.bool false),(.slice none 0 0)] [(1,1,bE)]) fun de=>
 aq P 100 [de] z2 fun dE z3=>
 OP (Aq false 1 1 dE) fun eQ=>
 cJ [(.int .i64 (0)),(.int .i64 (10000))] z3 fun L2 xs hx=>
 akn P K a2 b3 x4 x5 q6 eQ i8 L1 L2 xs hx)
 (akq P K a2 b3 x4 x5 q6 x7 h)):=az (by kernel_rfl)
theorem Ve:FB P K b3 x4 x5 aA aD fB nS h=
 (OP (ck fB nS (.bool false)) fun jJ=>
 aQ jJ
 (OP (af true 2 h aA) fun ki=>
 (True)∧
 aq P 55 [(.int .i64 (1))] h fun xo z1=>
 (af true 2 z1 aA=some ki∧True)∧
 aq P 92 [ki,xo] z1 fun kj z2=>
 (True)∧
 OP (af true 2 z2 b3) fun vF=>
 (af true 2 h b3=some vF∧af true 2 z1 b3=some vF∧True)∧
 OP (af true 2 z2 aD) fun qi=>
 (af true 2 h aD=some qi∧af true 2 z1 aD=some qi∧True)∧
 aq P 92 [vF,qi] z2 fun jK z3=>
 (True)∧
 OH (aK 2 z3 x4 kj) fun _ z4=>
 (True)∧
 OH (aK 2 z4 x5 jK) fun _ z5=>
 (True)∧
 OP (af true 2 z5 x4) fun r0=>
 OP (af true 2 z5 x5) fun r1=>
 K (.tuple #[r0,r1]) z5)
 (OP (af true 2 h aA) fun py=>
 (True)∧
 OP (af true 2 h aD) fun jX=>
 (True)∧
 OH (aK 2 h x4 py) fun _ z1=>
 (af true 2 z1 aD=some jX∧True)∧
 OH (aK 2 z1 x5 jX) fun _ z2=>
 (True)∧
 OP (af true 2 z2 x4) fun r0=>
 OP (af true 2 z2 x5) fun r1=>
 K (.tuple #[r0,r1]) z2)):=az (by kernel_rfl)
theorem aCP:akr P K b3 x4 x5 aA aD fB h=
 (cE fB true
 (OP (aJ 1 aD) fun ub=>
 OP (af false 1 h ub) fun mR=>
 OP (bc mR) fun jW=>
 OP (ai .gtr jW (.int .i64 (0))) fun nS=>
 FB P K b3 x4 x5 aA aD fB nS h)
 (FB P K b3 x4 x5 aA aD fB undef h)):=az (by kernel_rfl)
theorem aCO:akq P K a2 b3 x4 x5 q6 x7 h=
 (OP (aJ 0 a2) fun gS=>
 OP (af false 1 h gS) fun fA=>
 OP (dW [(.bool false),(.slice none 0 0)] [(0,1,fA),(1,1,q6)]) fun gw=>
 aq P 100 [gw] h fun rr z1=>
 OP (dW [(.bool false),(.slice none 0 0)] [(1,1,x7)]) fun kK=>
 aq P 100 [kK] z1 fun mQ z2=>
 OH (ba 35 [(.bool false),(.slice none 0 0)] z2) fun aA z3=>
 OH (ba 35 [(.bool false),(.slice none 0 0)] z3) fun aD z4=>
 OH (aK 2 z4 aA rr) fun _ z5=>
 OH (aK 2 z5 aD mQ) fun _ z6=>
 OP (aJ 0 a2) fun jV=>
 OP (af false 1 z6 jV) fun lL=>
 akr P K b3 x4 x5 aA aD lL z6):=az (by kernel_rfl)
def Oe:Prop:=
 OH (bC 35 h a0) fun a2 z1=>
 OH (bC 35 z1 b1) fun b3 z2=>
 OH (ba 35 [(.bool false),(.slice none 0 0)] z2) fun x4 z3=>
 OH (ba 35 [(.bool false),(.slice none 0 0)] z3) fun x5 z4=>
 OP (aJ 1 a2) fun aL=>
 OP (af false 1 z4 aL) fun bj=>
 OP (bc bj) fun bM=>
 OH (lE 3 8 [(.int .i64 (0))] z4 bM bM) fun bU z5=>
 OH (cZ 3 0 [(.int .i64 (0))] z5 []) fun aO z6=>
 OP (aJ 1 a2) fun aP=>
 OP (af false 1 z6 aP) fun aZ=>
 OP (bc aZ) fun bf=>
 OP (ai .sub bf (.int .i64 (1))) fun bH=>
 cJ [aO,bH] z6 fun L1 xs hx=>
 aks P K a2 b3 x4 x5 bU L1 xs hx
theorem e69:aj P HP (aS [.cell true 2 4,.cell true 2 5] K) (bG [a0,b1]) h=Oe P K a0 b1 h:=by kernel_rfl
theorem f69 {K:VK} {a0 b1:Value} {h:ae} (H:Oe prog K a0 b1 h):aq prog 69 [a0,b1] h K:=
 bT k69 (bP rfl) ((e69 prog K a0 b1 h).mpr H)
end
end
section
theorem G5 {e:TypeId} {k:IntKind} {h:ae} {v:Value} {xs:List Nat} (d:DS e k h v xs):dW [(.bool false),(.slice none 0 0)] [(1,1,v)]=some (.agg #[B false,v]):=by
 rcases d with ⟨rfl,_⟩ | ⟨i,rfl,_⟩ <;> rfl
theorem Ql (b:Bool) (v:Value):Aq false 1 1 (.agg #[B b,v])=some v:=rfl
theorem pF {n:Nat} (h:n<10000^201):n<cw:=by
 refine lt_of_lt_of_le h ?_
 unfold cw
 decide+kernel
theorem gJ.FX {h:ae} {v:Value} {n:Nat} (p:gJ h v n):ZV h (.agg #[B false,v]) (n:Int):=⟨v,by rw [aT (by omega)],by simpa using p⟩
theorem WD {v:Value} {n d:Nat} {h:ae} {K:Value→ae→Prop} (hv:gJ h v n) (hn:n<10000^200) (hd:d≤10000) (hk:∀r h',EX h h'→gJ h' r (n*d)→K r h'):aq prog 102 [v,I d] h K:=by
 have tj:n<cw:=pF (by
  have:(10000:Nat)^201=10000^200*10000:=by decide+kernel
  omega)
 have axy:n*d<cw:=by
  refine pF ?_
  have h1:n*d≤n*10000:=mul_le_mul_left _ hd
  have:(10000:Nat)^201=10000^200*10000:=by decide+kernel
  omega
 refine f102 ?_
 obtain ⟨xs,dx,cx⟩:=id hv
 simp only [Nf,G5 dx,ah]
 refine Bl (z:=d) (by omega) ?_
 intro r1 h1 x1 z1
 refine C71 (hv.FX.mono x1) z1 (by simpa using tj) (by have:=pF (n:=10000) (by decide+kernel);simp;omega) ?_
 intro r2 h2 x2 z2
 obtain ⟨u,rfl,hu⟩:=z2
 have e1:((n:Int)*(d:Int)).natAbs=n*d:=by rw [natAbs_mul];simp
 rw [e1] at hu
 have e2:decide ((n:Int)*(d:Int)<0)=false:=by
  have oZ:(n:Int)*(d:Int)=((n*d:Nat):Int):=by simp
  exact aT (by omega)
 rw [e2]
 obtain ⟨ys,dy,cy,vy⟩:=hu
 have ly:=rF cy (by rw [vy];exact axy)
 refine Bj dy cy.1 (by omega) ?_
 intro r3 h3 x3 z3
 simp only [Bool.false_eq_true,if_false,vy] at z3
 obtain ⟨w,rfl,hw⟩:=z3
 rw [Ql]
 rw [natAbs_natCast] at hw
 exact ah.2 (hk _ _ ((x1.trans x2).trans x3) hw)
theorem gJ.azf {h h':ae} {n i m:Nat} (p:gJ h (sl 3 i 0 m) n) (hi:h'[i]?=h[i]?):gJ h' (sl 3 i 0 m) n:=by
 obtain ⟨xs,d,c,v⟩:=p
 refine ⟨xs,?_,c,v⟩
 rcases d with ⟨h1,h2⟩ | ⟨j,h1,h2⟩
 ·cases h1
 ·obtain ⟨rfl,rfl⟩:=VM h1
  refine .inr ⟨i,rfl,h2.imp id ?_⟩
  rintro ⟨r,hr⟩
  refine ⟨r,?_⟩
  unfold aR at hr⊢
  rw [hi];exact hr
theorem auW {h:ae} {v:Value} {ys:List Nat} {d:Nat} {K:Value→ae→Prop} (p:DS 3 .i64 h v ys) (hl:ys.length≤1000) (hk:∀r h',EX h h'→DS 3 .i64 h' r (d::ys)→K r h'):
  OH (cZ 3 1 [.int .i64 0] h [(0,1,I d)]) fun a h1=>OH (dI 3 1 8 h1 a v) K:=by
 have e1:cZ 3 1 [.int .i64 0] h [(0,1,I d)]=some (sl 3 h.length 0 1,h++[.arr 3 [I d]]):=rfl
 rw [e1]
 simp only [aE]
 obtain ⟨c1,c2⟩:=(p.mono (EX.append h [.arr 3 [I d]])).cells
 by_cases oz:ys.length=0
 ·have:ys=[]:=List.length_eq_zero_iff.1 oz
  subst this
  have e2:dI 3 1 8 (h++[.arr 3 [I d]]) (sl 3 h.length 0 1) v=some (sl 3 h.length 0 1,h++[.arr 3 [I d]]):=by
   simp [dI,c1,c2,sl,maxLen]
  rw [e2]
  simp only [aE]
  exact hk _ _ (EX.append _ _) (.inr ⟨h.length,rfl,.inr ⟨[],by simp [aR]⟩⟩)
 ·have hg:(h++[ak.arr 3 [I d]])[h.length]?=some (.arr 3 [I d]):=bZ
  have e2:dI 3 1 8 (h++[.arr 3 [I d]]) (sl 3 h.length 0 1) v=some (sl 3 (h.length+1) 0 (1+ys.length),(h++[ak.arr 3 [I d]]).set h.length .dead++[.arr 3 ([I d]++ys.map fun d:Nat=>I d)]):=by
   simp only [dI,c1,c2]
   simp only [sl,hg]
   rw [if_pos ⟨trivial,trivial,by simp,by omega,by unfold maxLen;omega⟩,if_neg oz]
   simp
  rw [e2]
  simp only [aE]
  refine hk _ _ (((EX.append _ _).set (le_refl _) _).push _) (.inr ⟨h.length+1,by rw [length_cons,Nat.add_comm 1],.inr ⟨[],?_⟩⟩)
  unfold aR
  rw [List.getElem?_append_right (by simp)]
  simp
theorem anl (B:Nat) (xs:List Nat) {i:Nat} (hi:i<xs.length):val B (xs.drop i)=xs[i]+B*val B (xs.drop (i+1)):=by
 rw [List.drop_eq_getElem_cons hi];rfl
theorem amQ {a b:Nat}:nm a b≤0↔a≤b:=by
 unfold nm
 split
 ·constructor <;> omega
 ·split <;> constructor <;> omega
theorem Mg {va vb:Value} {a b:Int} {h:ae} {K:Value→ae→Prop} (ha:ZV h va a) (hb:ZV h vb b) (qC:0<b) (la:a.natAbs<10000^199) (lb:b.natAbs<10000^199)
  (hk:∀r s h',EX h h'→ZV h' r (a / b)→ZV h' s (a%b)→K (.tuple #[r,s]) h'):aq prog 69 [va,vb] h K:=by
 obtain ⟨v,rfl,hv⟩:=ha
 obtain ⟨w,rfl,hw⟩:=hb
 have aGl:(10000:Nat)^200=10000^199*10000:=by decide+kernel
 have aGm:(10000:Nat)^201=10000^200*10000:=by decide+kernel
 refine f69 ?_
 unfold Oe
 refine G1 ?_
 intro h3 x
 obtain ⟨B,hBb⟩:∃B:Nat,b=B:=⟨b.toNat,by omega⟩
 subst hBb
 have hB0:0<B:=by omega
 have hBl:B<10000^199:=by simpa using lb
 obtain ⟨xs,dx,cx,ex⟩:=hv.mono x.ex
 have l1:=rF cx (by rw [ex];exact pF (by omega))
 have hwB:gJ h3 w B:=by have:=hw.mono x.ex;simpa using this
 have e2:ba 35 [(.bool false),(.slice none 0 0)] h3=some (pt h3.length 0,h3++[.arr 35 [(.bool false),(.slice none 0 0)]]):=rfl
 simp only [e2,aE,b9,zero_add]
 have x4:EX h3 (h3++[.arr 35 [(.bool false),(.slice none 0 0)]]):=EX.append _ _
 have g5:(h3++[ak.arr 35 [(.bool false),(.slice none 0 0)]])[h3.length]?=some (.arr 35 [(.bool false),(.slice none 0 0)]):=bZ
 have qG:h.length+2<h3.length:=(bL x.out).1
 generalize hh4:h3++[ak.arr 35 [(.bool false),(.slice none 0 0)]]=h4 at x4 g5⊢
 have hl4:h4.length=h3.length+1:=by rw [←hh4];simp
 clear hh4
 have P2:=dx.mono x4
 simp only [EX.load x4 x.a1,ah,P2.len,agk (show xs.length≤1000 by omega),aE,SV]
 have e6:IntKind.wrap .i64 ((xs.length:Int)-1)=(xs.length:Int)-1:=wrap64 (by omega) (by omega)
 have x6:EX h4 (hz h4 (replicate xs.length 0)++[.arr 3 []]):=(wI h4 _).push _
 simp only [EX.load (x4.trans x6) x.a1,ah,P2.len,gU,e6]
 have Cj:(hz h4 (replicate xs.length 0)++[ak.arr 3 []])[h4.length]?=some (.arr 3 ((replicate xs.length 0).map fun d:Nat=>I d)):=by
  rw [List.getElem?_append_left (by simp [hz])];exact afg _ _
 have qN:gJ (hz h4 (replicate xs.length 0)++[ak.arr 3 []]) (sl 3 (hz h4 (replicate xs.length 0)).length 0 0) 0:=⟨[],.inr ⟨_,rfl,.inl rfl⟩,di.nil _,rfl⟩
 refine dL (σ:=Nat×Nat×Value×List Nat×ae) (fun p=>[p.2.2.1,I ((p.1:Int)-1)]) (fun p=>p.2.2.2.2)
  (fun p=>p.1≤xs.length∧EX h4 p.2.2.2.2∧p.2.2.2.2[h4.length]?=some (.arr 3 (p.2.2.2.1.map fun d:Nat=>I d))∧p.2.2.2.1.length=xs.length∧cn 10000 p.2.2.2.1∧gJ p.2.2.2.2 p.2.2.1 p.2.1∧p.2.1<B∧val 10000 (p.2.2.2.1.drop p.1)*B+p.2.1=val 10000 (xs.drop p.1)) (fun p=>p.1)
  (xs.length,0,_,replicate xs.length 0,_) rfl rfl ⟨le_refl _,x6,Cj,by simp,cn.xr (by decide) _,qN,hB0,by simp [val]⟩ ?_
 rintro ⟨i,R,rv,qs,g⟩ ⟨hi,xg,hq,qL,Rz,hR,hRB,ca⟩ L hL
 simp only at hi xg hq qL Rz hR hRB ca hL⊢
 have Cz:∀{g'},EX h4 g'→af false 1 g' (pt h.length 1)=some v:=fun y=>EX.load (x4.trans y) x.a1
 have Az:∀{g'},EX h4 g'→af false 1 g' (pt (h.length+1) 1)=some w:=fun y=>EX.load (x4.trans y) x.b1
 rw [aCQ]
 simp only [nA,ah,cj]
 refine ⟨fun cL=>?_,fun aB=>?_⟩
 ·obtain ⟨j,rfl⟩:∃j,i=j+1:=⟨i-1,by omega⟩
  have ej:((j+1:Nat):Int)-1=(j:Int):=by omega
  have yc:j<xs.length:=by omega
  obtain ⟨ia,a1,a2⟩:=(P2.mono xg).get yc
  have R6:xs[j]<10000:=cx.1 _ (getElem_mem yc)
  have JC:=anl 10000 xs yc
  rw [ej]
  simp only [b9,zero_add,Cz xg,ah,a1,a2]
  obtain ⟨rs,dr,cr,vr⟩:=id hR
  have lr:=rF cr (by rw [vr];exact pF (by omega))
  refine auW dr (by omega) ?_
  intro r1 g1 y1 d1
  simp only [G5 d1,ah]
  refine WB d1 (fun z hz=>by
   rcases List.mem_cons.1 hz with rfl | hz
   ·exact R6
   ·exact cr.1 z hz) (by simp;omega) ?_
  rintro r2 g2 y2 z2 ⟨fb,fi,fn,rfl,hfi⟩
  have ev:val 10000 (xs[j]::rs)=xs[j]+10000*R:=by simp only [val,vr]
  simp only [Bool.false_eq_true,if_false,ev] at z2
  obtain ⟨rw2,Cm,Jz⟩:=z2
  injection Cm with Cm
  injection Cm with Cm
  simp only [List.cons.injEq,and_true] at Cm
  obtain ⟨_,rfl⟩:=Cm
  rw [Ql]
  have RK:gJ g2 (sl 3 fi 0 fn) (xs[j]+10000*R):=by
   rw [natAbs_natCast] at Jz
   exact Jz
  have aGa:h4.length<fi:=by
   have h9:=(bL hq).1
   have h8:=y1.1
   omega
  simp only [ah]
  have hR':xs[j]+10000*R<10000*B:=by omega
  generalize hRR:xs[j]+10000*R=R' at RK hR'
  have iM:EX h4 g2:=(xg.trans y1).trans y2
  refine dL (σ:=Nat×Nat×ae) (fun p=>[I p.1,I p.2.1]) (fun p=>p.2.2) (fun p=>p.1<p.2.1∧p.2.1≤10000∧EX g2 p.2.2∧p.1*B≤R'∧R'<p.2.1*B) (fun p=>p.2.1-p.1)
   (0,10000,g2) rfl rfl ⟨by show 0<10000;decide,le_refl _,EX.refl _,by simp,hR'⟩ ?_
  rintro ⟨lo,ov,g3⟩ ⟨hlh,hh,y3,eD,jO⟩ L2 gV
  simp only at hlh hh y3 eD jO gV⊢
  have yM:EX h4 g3:=iM.trans y3
  rw [aCL]
  have e7:IntKind.wrap .i64 ((ov:Int)-(lo:Int))=((ov-lo:Nat):Int):=by rw [wrap64 (by omega) (by omega)];omega
  have e8:IntKind.wrap .i64 ((lo:Int)+(ov:Int))=((lo+ov:Nat):Int):=by rw [wrap64 (by omega) (by omega)];omega
  simp only [gU,e7,ah,gj,cj]
  refine ⟨fun uN=>?_,fun hle=>?_⟩
  ·simp only [cA,e8,ah]
   rw [show (.int .i64 2:Value)=.int .i64 ((2:Nat):Int) from rfl,CN (by decide) (by omega)]
   simp only [ah,b9,zero_add,Az yM]
   have hm:(lo+ov) / 2≤10000:=by omega
   refine WD ((hwB.mono x4).mono yM) (by omega) hm ?_
   intro r4 g4 y4 m4
   have B6:B*((lo+ov) / 2)<cw:=by
    refine pF ?_
    have:=mul_le_mul_left B hm
    omega
   refine WC (a:=B*((lo+ov) / 2)) (b:=R') m4 ((RK.mono y3).mono y4) B6 (pF (by omega)) ?_
   simp only [GZ,ah,cj,true_and]
   generalize hmm:(lo+ov) / 2=mid at*
   have wq:lo<mid∧mid<ov:=by omega
   refine ⟨fun h0=>?_,fun h0=>?_⟩
   ·have:=amQ.1 h0
    exact gV (mid,ov,g4) ⟨wq.2,hh,y3.trans y4,by show mid*B≤R';rw [mul_comm];exact this,jO⟩ (by show ov-mid<ov-lo;omega)
   ·have:¬B*mid≤R':=fun h9=>h0 (amQ.2 h9)
    exact gV (lo,mid,g4) ⟨wq.1,by show mid≤10000;omega,y3.trans y4,eD,by show R'<mid*B;rw [mul_comm];omega⟩ (by show mid-lo<ov-lo;omega)
  ·have hhl:ov=lo+1:=by omega
   subst hhl
   have hRl:R'<lo*B+B:=by rw [Nat.succ_mul] at jO;exact jO
   rw [aCM]
   have hq3:g3[h4.length]?=some (.arr 3 (qs.map fun d:Nat=>I d)):=by
    rw [←hq]
    have yb:=(bL hq).1
    rw [((y1.trans y2).trans y3).2 _ yb]
   have ad:aY 1 (sl 3 h4.length 0 xs.length) (I j)=some (pt h4.length j):=nz yc
   simp only [ad,ah]
   rw [pj hq3 (by simp;omega) rfl rfl]
   simp only [aE]
   have es:(qs.map fun d:Nat=>I d).set j (I lo)=(qs.set j lo).map fun d:Nat=>I d:=by rw [List.map_set]
   rw [es]
   have nt:EX h4 (g3.set h4.length (.arr 3 ((qs.set j lo).map fun d:Nat=>I d))):=yM.set (le_refl _) _
   have Rx:(g3.set h4.length (.arr 3 ((qs.set j lo).map fun d:Nat=>I d)))[h4.length]?=some (.arr 3 ((qs.set j lo).map fun d:Nat=>I d)):=cU hq3
   -- gv rest aF1 not lie there
   have aeV:gJ (g3.set h4.length (.arr 3 ((qs.set j lo).map fun d:Nat=>I d))) (sl 3 fi 0 fn) R':=(RK.mono y3).azf (by rw [getElem?_set_ne (by omega)])
   generalize g3.set h4.length (.arr 3 ((qs.set j lo).map fun d:Nat=>I d))=g5 at nt Rx aeV⊢
   simp only [b9,zero_add,Az nt,ah]
   refine WD ((hwB.mono x4).mono nt) (by omega) (by omega) ?_
   intro r6 g6 y6 m6
   obtain ⟨us,du,cu,vu⟩:=aeV.mono y6
   obtain ⟨ts,dt,ct,vt⟩:=m6
   have awK:B*lo≤R':=by rw [mul_comm];exact eD
   have lu:=rF cu (by rw [vu];exact pF (by omega))
   refine Mc du dt cu.1 ct.1 (by omega) ?_ (by rw [vu,vt];exact awK) ?_
   ·apply byContradiction
    intro hc
    have:=di.AI (by decide) cu ct (by omega)
    omega
   intro r7 g7 os y7 d7 l7 s7 v7
   simp only [G5 d7,ah]
   refine Bj d7 l7 (by omega) ?_
   intro r8 g8 y8 z8
   simp only [Bool.false_eq_true,if_false] at z8
   obtain ⟨rw8,rfl,axO⟩:=z8
   rw [Ql]
   simp only [ah]
   have P7:IntKind.wrap .i64 ((j:Int)-1)=(j:Int)-1:=wrap64 (by omega) (by omega)
   simp only [aCN,gU,P7,ah,true_and]
   have axl:lo<10000:=by omega
   have hv7:val 10000 os=R' -B*lo:=by omega
   have axP:gJ g8 rw8 (R' -B*lo):=by rw [←hv7];simpa using axO
   have hBB:B*lo=lo*B:=mul_comm _ _
   refine hL (j,R' -B*lo,rw8,qs.set j lo,g8) ⟨by show j≤xs.length;omega,((nt.trans y6).trans y7).trans y8,?_,by rw [length_set];exact qL,Rz.set axl _,axP,by show R' -B*lo<B;omega,?_⟩ (by show j<j+1;omega)
   ·have yb:=(bL Rx).1
    show g8[h4.length]?=_
    rw [((y6.trans y7).trans y8).2 _ yb];exact Rx
   ·show val 10000 ((qs.set j lo).drop j)*B+(R' -B*lo)=val 10000 (xs.drop j)
    have hd:(qs.set j lo).drop j=lo::qs.drop (j+1):=by
     rw [List.drop_eq_getElem_cons (by rw [length_set];omega),List.getElem_set_self]
     congr 1
     rw [List.drop_set_of_lt (by omega)]
    rw [hd,JC,←ca]
    simp only [val]
    have h1:(lo+10000*val 10000 (qs.drop (j+1)))*B=lo*B+10000*(val 10000 (qs.drop (j+1))*B):=by rw [add_mul,mul_assoc]
    rw [h1]
    omega
 ·have Cd:i=0:=by omega
  subst Cd
  simp only [List.drop_zero] at ca
  rw [aCO]
  have pY:∀{g'},EX h4 g'→af false 1 g' (pt h.length 0)=some (Go.Sim.B (decide (a<0))):=fun y=>EX.load (x4.trans y) x.a0
  have dq:DS 3 .i64 g (sl 3 h4.length 0 xs.length) qs:=by
   rw [←qL]
   exact .inr ⟨h4.length,rfl,.inr ⟨[],by simp [aR,hq]⟩⟩
  simp only [b9,add_zero,pY xg,ah,O1 dq]
  refine Bj dq Rz (by omega) ?_
  intro r1 g1 y1 z1
  generalize hQ:val 10000 qs=Q at z1 ca
  obtain ⟨rs,dr,cr,vr⟩:=hR.mono y1
  have lr:=rF cr (by rw [vr];exact pF (by omega))
  simp only [G5 dr,ah]
  refine Bj dr cr.1 (by omega) ?_
  intro r2 g2 y2 z2
  simp only [Bool.false_eq_true,if_false,vr] at z2
  have z1:=z1.mono y2
  have iM:EX h4 g2:=(xg.trans y1).trans y2
  have qF:h3.length+1≤g2.length:=by have:=iM.1;omega
  obtain ⟨uq,rfl,gL⟩:=id z1
  obtain ⟨ur,rfl,mE⟩:=id z2
  have e3:∀g':ae,ba 35 [(.bool false),(.slice none 0 0)] g'=some (pt g'.length 0,g'++[.arr 35 [(.bool false),(.slice none 0 0)]]):=fun _=>rfl
  simp only [e3,aE,length_append,length_cons,length_nil,zero_add]
  have k0:(g2++[ak.arr 35 [(.bool false),(.slice none 0 0)]]++[ak.arr 35 [(.bool false),(.slice none 0 0)]])[g2.length]?=some (.arr 35 [(.bool false),(.slice none 0 0)]):=by simp
  have k1:(g2++[ak.arr 35 [(.bool false),(.slice none 0 0)]]++[ak.arr 35 [(.bool false),(.slice none 0 0)]])[g2.length+1]?=some (.arr 35 [(.bool false),(.slice none 0 0)]):=by simp
  have y3:EX g2 (g2++[ak.arr 35 [(.bool false),(.slice none 0 0)]]++[ak.arr 35 [(.bool false),(.slice none 0 0)]]):=(EX.append _ _).push _
  generalize g2++[ak.arr 35 [(.bool false),(.slice none 0 0)]]++[ak.arr 35 [(.bool false),(.slice none 0 0)]]=g3 at k0 k1 y3⊢
  rw [gP k0]
  simp only [aE]
  have y4:EX g2 (g3.set g2.length (.arr 35 [Go.Sim.B (decide ((if decide (a<0)=true then -(Q:Int) else (Q:Int))<0)),uq])):=y3.set (le_refl _) _
  have tG:=cU (o:=.arr 35 [Go.Sim.B (decide ((if decide (a<0)=true then -(Q:Int) else (Q:Int))<0)),uq]) k0
  have kC:(g3.set g2.length (.arr 35 [Go.Sim.B (decide ((if decide (a<0)=true then -(Q:Int) else (Q:Int))<0)),uq]))[g2.length+1]?=some (.arr 35 [(.bool false),(.slice none 0 0)]):=by rw [getElem?_set_ne (by omega)];exact k1
  generalize g3.set g2.length (.arr 35 [Go.Sim.B (decide ((if decide (a<0)=true then -(Q:Int) else (Q:Int))<0)),uq])=g4 at y4 tG kC⊢
  rw [gP kC]
  simp only [aE]
  have y5:EX g2 (g4.set (g2.length+1) (.arr 35 [Go.Sim.B (decide ((R:Int)<0)),ur])):=y4.set (by omega) _
  have m1:=cU (o:=.arr 35 [Go.Sim.B (decide ((R:Int)<0)),ur]) kC
  have m0:(g4.set (g2.length+1) (.arr 35 [Go.Sim.B (decide ((R:Int)<0)),ur]))[g2.length]?=some (.arr 35 [Go.Sim.B (decide ((if decide (a<0)=true then -(Q:Int) else (Q:Int))<0)),uq]):=by rw [getElem?_set_ne (by omega)];exact tG
  generalize g4.set (g2.length+1) (.arr 35 [Go.Sim.B (decide ((R:Int)<0)),ur])=sT at y5 m0 m1⊢
  have nt:EX h4 sT:=iM.trans y5
  have L5:EX h sT:=(x.ex.trans x4).trans nt
  have o4:=nt.get (x4.get x.out)
  have o5:=nt.get g5
  have zq:=z1.mono y5
  have zr:=z2.mono y5
  have zb:ZV sT (.agg #[Go.Sim.B (decide ((B:Int)<0)),w]) (B:Int):=⟨w,rfl,(hw.mono x.ex).mono (x4.trans nt)⟩
  have hQv:Q*B+R=a.natAbs:=by rw [ca,ex]
  -- gv two results
  have put:∀(r s:Value) (g6:ae),EX sT g6→ZV g6 r (a / (B:Int))→ZV g6 s (a%(B:Int))→OH (aK 2 g6 (pt (h.length+2) 0) r) fun _ h_1=>OH (aK 2 h_1 (pt h3.length 0) s) fun _ h_2=>OP (af true 2 h_2 (pt (h.length+2) 0)) fun r0=>OP (af true 2 h_2 (pt h3.length 0)) fun r1=>K (.tuple #[r0,r1]) h_2:=by
   rintro r s g6 y6 Gh Ma
   obtain ⟨u1,rfl,hu1⟩:=id Gh
   obtain ⟨u2,rfl,pT⟩:=id Ma
   have n4:=y6.get o4
   have n5:=y6.get o5
   rw [gP n4]
   simp only [aE]
   have Kd:(g6.set (h.length+2) (.arr 35 [Go.Sim.B (decide (a / (B:Int)<0)),u1]))[h3.length]?=some (.arr 35 [.bool false,.slice none 0 0]):=by rw [getElem?_set_ne (by omega)];exact n5
   rw [gP Kd]
   simp only [aE]
   have p4:((g6.set (h.length+2) (.arr 35 [Go.Sim.B (decide (a / (B:Int)<0)),u1])).set h3.length (.arr 35 [Go.Sim.B (decide (a%(B:Int)<0)),u2]))[h.length+2]?=some (.arr 35 [Go.Sim.B (decide (a / (B:Int)<0)),u1]):=by
    rw [getElem?_set_ne (by omega)];exact cU n4
   rw [dC p4,ah,dC (cU Kd),ah]
   exact hk _ _ _ (((L5.trans y6).set (by omega) _).set (by omega) _) ((Gh.bS n4 _).bS Kd _) ((Ma.bS n4 _).bS Kd _)
  have awL:(0:Int)<(B:Int):=by omega
  have un:∀q r:Int,r+(B:Int)*q=a→0≤r→r<(B:Int)→a / (B:Int)=q∧a%(B:Int)=r:=fun q r h1 h2 h3=>(Int.ediv_emod_unique awL).2 ⟨h1,h2,h3⟩
  have QJ:((Q*B:Nat):Int)=(B:Int)*(Q:Int):=by rw [Int.natCast_mul,Int.mul_comm]
  -- nothing to be aGG
  have plain:(0≤a∨R=0)→FB prog K (pt (h.length+1) 0) (pt (h.length+2) 0) (pt h3.length 0) (pt g2.length 0) (pt (g2.length+1) 0) (Go.Sim.B false) undef sT∧FB prog K (pt (h.length+1) 0) (pt (h.length+2) 0) (pt h3.length 0) (pt g2.length 0) (pt (g2.length+1) 0) (Go.Sim.B true) (Go.Sim.B false) sT:=by
   intro hc
   have EM:a / (B:Int)=(if decide (a<0)=true then -(Q:Int) else (Q:Int))∧a%(B:Int)=(R:Int):=by
    by_cases gW:a<0
    ·have hR0:R=0:=by omega
     rw [aW gW,if_pos rfl]
     refine un _ _ ?_ (by omega) (by omega)
     rw [Int.mul_neg,←QJ]
     omega
    ·rw [aT gW,if_neg (by simp)]
     refine un _ _ ?_ (by omega) (by omega)
     rw [←QJ]
     omega
   have tail:OP (af true 2 sT (pt g2.length 0)) fun py=>OP (af true 2 sT (pt (g2.length+1) 0)) fun jX=>OH (aK 2 sT (pt (h.length+2) 0) py) fun _ h_1=>(af true 2 h_1 (pt (g2.length+1) 0)=some jX)∧OH (aK 2 h_1 (pt h3.length 0) jX) fun _ h_2=>OP (af true 2 h_2 (pt (h.length+2) 0)) fun r0=>OP (af true 2 h_2 (pt h3.length 0)) fun r1=>K (.tuple #[r0,r1]) h_2:=by
    have:=put _ _ sT (EX.refl _) (by rw [EM.1];exact zq) (by rw [EM.2];exact zr)
    rw [dC m0,ah,dC m1,ah]
    rw [gP o4] at this⊢
    simp only [aE] at this⊢
    refine ⟨?_,this⟩
    refine dC (e:=35) ?_
    rw [getElem?_set_ne (by omega)]
    exact m1
   constructor
   ·rw [Ve]
    simp only [c8,ah,dP,true_and,and_true]
    exact tail
   ·rw [Ve]
    simp only [dZ,ah,dP,true_and,and_true]
    exact tail
  have ldl:af false 1 sT (pt (g2.length+1) 1)=some ur:=by simp [af,aR,m1,cm]
  obtain ⟨l,p1,p2⟩:=(mE.mono y5).so
  have p2':0<l↔0<R:=by simpa using p2
  simp only [pY nt,ah,aCP]
  by_cases gW:a<0
  ·rw [aW gW]
   simp only [iY,b9,Nat.add_comm 0 1,ldl,ah,p1,gj]
   by_cases hR0:R=0
   ·rw [aT (by omega)]
    exact (plain (.inr hR0)).2
   ·rw [aW (by omega),Ve]
    have aF8:a.natAbs<cw:=pF (by omega)
    have aF7:Q≤a.natAbs:=by
     have:Q*1≤Q*B:=mul_le_mul_left _ hB0
     omega
    have ED:(1:Int).natAbs<cw:=aga (by decide+kernel)
    simp only [dZ,ah,dM,dC m0,true_and]
    refine Bl (z:=1) (by decide) ?_
    intro r6 g6 y6 z6
    refine ⟨⟨EX.load y6 (dC m0),trivial⟩,?_⟩
    have E4:∀{g'},EX h4 g'→af true 2 g' (pt (h.length+1) 0)=some (.agg #[Go.Sim.B (decide ((B:Int)<0)),w]):=fun y=>EX.load (x4.trans y) x.b2
    refine W9 (zq.mono y6) z6 (by rw [aW gW,if_pos rfl];omega) ED ?_
    intro r7 g7 y7 z7
    have xg7:=(nt.trans y6).trans y7
    simp only [E4 nt,E4 (nt.trans y6),E4 xg7,ah,dC m1,EX.load y6 (dC m1),EX.load (y6.trans y7) (dC m1),true_and,and_true]
    refine W9 (zb.mono (y6.trans y7)) (zr.mono (y6.trans y7)) (by have:=pF (n:=B) (by omega);simpa using this) (by have:=pF (n:=R) (by omega);simpa using this) ?_
    intro r8 g8 y8 z8
    have EM:=un (-(Q:Int)-1) ((B:Int)-(R:Int)) (by
     rw [Int.mul_sub,Int.mul_neg,←QJ,Int.mul_one]
     omega) (by omega) (by omega)
    rw [aW gW,if_pos rfl] at z7
    exact put _ _ g8 ((y6.trans y7).trans y8) (by rw [EM.1];exact z7.mono y8) (by rw [EM.2];exact z8)
  ·rw [aT gW]
   simp only [kZ]
   exact (plain (.inl (by omega))).1
end
section
theorem Ml {va:Value} {a:Int} {h:ae} {K:Value→ae→Prop} (ha:ZV h va a) (hk:∀u h',EX h h'→gJ h' u a.natAbs→K (.agg #[B false,u]) h'):aq prog 94 [va] h K:=by
 obtain ⟨v,rfl,hv⟩:=ha
 refine f94 ?_
 have e1:bC 35 h (.agg #[B (decide (a<0)),v])=some (pt h.length 0,h++[.arr 35 [B (decide (a<0)),v]]):=rfl
 have e2:∀g':ae,ba 35 [(.bool false),(.slice none 0 0)] g'=some (pt g'.length 0,g'++[.arr 35 [(.bool false),(.slice none 0 0)]]):=fun _=>rfl
 simp only [OA,e1,e2,aE,length_append,length_cons,length_nil,zero_add]
 have k0:(h++[ak.arr 35 [B (decide (a<0)),v]]++[ak.arr 35 [(.bool false),(.slice none 0 0)]])[h.length]?=some (.arr 35 [B (decide (a<0)),v]):=by simp
 have k1:(h++[ak.arr 35 [B (decide (a<0)),v]]++[ak.arr 35 [(.bool false),(.slice none 0 0)]])[h.length+1]?=some (.arr 35 [(.bool false),(.slice none 0 0)]):=by simp
 have x1:EX h (h++[ak.arr 35 [B (decide (a<0)),v]]++[ak.arr 35 [(.bool false),(.slice none 0 0)]]):=(EX.append _ _).push _
 generalize h++[ak.arr 35 [B (decide (a<0)),v]]++[ak.arr 35 [(.bool false),(.slice none 0 0)]]=h1 at k0 k1 x1⊢
 simp only [b9,add_zero,ah]
 rw [pj k0 (by simp) rfl rfl]
 simp only [aE,List.set_cons_zero]
 have kC:(h1.set h.length (.arr 35 [B false,v]))[h.length+1]?=some (.arr 35 [(.bool false),(.slice none 0 0)]):=by rw [getElem?_set_ne (by omega)];exact k1
 rw [dC (cU k0)]
 simp only [ah]
 exact BR kC (hk _ _ ((x1.set (le_refl _) _).set (by omega) _) (((hv.mono x1).bS k0 _).bS kC _))
theorem C68 {va vb:Value} {a b:Int} {h:ae} {K:Value→ae→Prop} (ha:ZV h va a) (hb:ZV h vb b) (la:a.natAbs<10000^199) (lb:b.natAbs<10000^199)
  (hk:∀u h',EX h h'→gJ h' u (gcd a.natAbs b.natAbs)→K (.agg #[B false,u]) h'):aq prog 68 [va,vb] h K:=by
 have oh:=ha
 have qC:=hb
 obtain ⟨v,rfl,hv⟩:=ha
 obtain ⟨w,rfl,hw⟩:=hb
 refine f68 ?_
 have e1:∀(g:ae) (s:Bool) (v:Value),bC 35 g (.agg #[B s,v])=some (pt g.length 0,g++[.arr 35 [B s,v]]):=fun _ _ _=>rfl
 have e2:∀g':ae,ba 35 [(.bool false),(.slice none 0 0)] g'=some (pt g'.length 0,g'++[.arr 35 [(.bool false),(.slice none 0 0)]]):=fun _=>rfl
 simp only [Od,e1,e2,aE,length_append,length_cons,length_nil,zero_add]
 have k0:(h++[ak.arr 35 [B (decide (a<0)),v]]++[ak.arr 35 [B (decide (b<0)),w]]++[ak.arr 35 [(.bool false),(.slice none 0 0)]])[h.length]?=some (.arr 35 [B (decide (a<0)),v]):=by simp
 have k1:(h++[ak.arr 35 [B (decide (a<0)),v]]++[ak.arr 35 [B (decide (b<0)),w]]++[ak.arr 35 [(.bool false),(.slice none 0 0)]])[h.length+1]?=some (.arr 35 [B (decide (b<0)),w]):=by simp
 have k2:(h++[ak.arr 35 [B (decide (a<0)),v]]++[ak.arr 35 [B (decide (b<0)),w]]++[ak.arr 35 [(.bool false),(.slice none 0 0)]])[h.length+2]?=some (.arr 35 [(.bool false),(.slice none 0 0)]):=by simp
 have x1:EX h (h++[ak.arr 35 [B (decide (a<0)),v]]++[ak.arr 35 [B (decide (b<0)),w]]++[ak.arr 35 [(.bool false),(.slice none 0 0)]]):=((EX.append _ _).push _).push _
 generalize h++[ak.arr 35 [B (decide (a<0)),v]]++[ak.arr 35 [B (decide (b<0)),w]]++[ak.arr 35 [(.bool false),(.slice none 0 0)]]=h1 at k0 k1 k2 x1⊢
 rw [dC k0]
 simp only [ah,true_and]
 refine Ml (oh.mono x1) ?_
 intro u2 h2 x2 m2
 simp only [dC k1,EX.load x2 (dC k1),ah,true_and]
 refine Ml (qC.mono (x1.trans x2)) ?_
 intro u3 h3 x3 m3
 have tG:=(x2.trans x3).get k0
 have kC:=(x2.trans x3).get k1
 have E3:=(x2.trans x3).get k2
 have aD:=(x1.trans x2).trans x3
 have m2:=m2.mono x3
 rw [gP tG]
 simp only [aE]
 have q1:(h3.set h.length (.arr 35 [B false,u2]))[h.length+1]?=some (.arr 35 [B (decide (b<0)),w]):=by rw [getElem?_set_ne (by omega)];exact kC
 rw [gP q1]
 simp only [aE]
 refine dL (σ:=Nat×Nat×Value×Value×ae) (fun _=>[]) (fun p=>p.2.2.2.2)
  (fun p=>EX h p.2.2.2.2∧p.2.2.2.2[h.length]?=some (.arr 35 [B false,p.2.2.1])∧p.2.2.2.2[h.length+1]?=some (.arr 35 [B false,p.2.2.2.1])∧p.2.2.2.2[h.length+2]?=some (.arr 35 [.bool false,.slice none 0 0])∧gJ p.2.2.2.2 p.2.2.1 p.1∧gJ p.2.2.2.2 p.2.2.2.1 p.2.1∧p.1<10000^199∧p.2.1<10000^199∧gcd p.1 p.2.1=gcd a.natAbs b.natAbs) (fun p=>p.2.1)
  (a.natAbs,b.natAbs,u2,u3,(h3.set h.length (.arr 35 [B false,u2])).set (h.length+1) (.arr 35 [B false,u3])) rfl rfl
  ⟨(aD.set (le_refl _) _).set (by omega) _,by rw [getElem?_set_ne (by omega)];exact cU tG,cU q1,by rw [getElem?_set_ne (by omega),getElem?_set_ne (by omega)];exact E3,(m2.bS tG _).bS q1 _,(m3.bS tG _).bS q1 _,la,lb,rfl⟩ ?_
 rintro ⟨x,y,ux,uy,g⟩ ⟨xg,j0,j1,j2,mx,my,lx,ly,hg⟩ L hL
 simp only at xg j0 j1 j2 mx my lx ly hg hL⊢
 rw [aCK]
 obtain ⟨l,p1,p2⟩:=my.so
 have ld:af false 1 g (pt (h.length+1) 1)=some uy:=by simp [af,aR,j1,cm]
 simp only [b9,zero_add,ld,ah,p1,gj,cj]
 refine ⟨fun uN=>?_,fun hle=>?_⟩
 ·have hy:0<y:=p2.1 (by omega)
  rw [dC j0,ah,dC j1,ah]
  refine Mg mx.FX my.FX (by omega) (by simpa using lx) (by simpa using ly) ?_
  intro r s g1 y1 zr zs
  obtain ⟨u5,rfl,hu5⟩:=id zr
  obtain ⟨u6,hs6,hu6⟩:=id zs
  have iF:decide ((x:Int)%(y:Int)<0)=false:=aT (by have:=Int.emod_nonneg (x:Int) (show (y:Int)≠0 by omega);omega)
  rw [iF] at hs6
  subst hs6
  have hmv:((x:Int)%(y:Int)).natAbs=x%y:=by
   rw [←Int.natCast_emod,natAbs_natCast]
  rw [hmv] at hu6
  have gl:h.length+2<g1.length:=by
   have:=(bL j2).1
   have:=y1.1
   omega
  simp only [eL,fx,fF,ah,e2,aE,length_append,length_cons,length_nil,zero_add]
  have n0:(g1++[ak.arr 35 [(.bool false),(.slice none 0 0)]]++[ak.arr 35 [(.bool false),(.slice none 0 0)]])[g1.length]?=some (.arr 35 [(.bool false),(.slice none 0 0)]):=by simp
  have n1:(g1++[ak.arr 35 [(.bool false),(.slice none 0 0)]]++[ak.arr 35 [(.bool false),(.slice none 0 0)]])[g1.length+1]?=some (.arr 35 [(.bool false),(.slice none 0 0)]):=by simp
  have y2:EX g1 (g1++[ak.arr 35 [(.bool false),(.slice none 0 0)]]++[ak.arr 35 [(.bool false),(.slice none 0 0)]]):=(EX.append _ _).push _
  generalize g1++[ak.arr 35 [(.bool false),(.slice none 0 0)]]++[ak.arr 35 [(.bool false),(.slice none 0 0)]]=g2 at n0 n1 y2⊢
  rw [gP n0]
  simp only [aE]
  have Kc:(g2.set g1.length (.arr 35 [B (decide ((x:Int) / (y:Int)<0)),u5]))[g1.length+1]?=some (.arr 35 [(.bool false),(.slice none 0 0)]):=by rw [getElem?_set_ne (by omega)];exact n1
  rw [gP Kc]
  simp only [aE]
  have y3:EX g1 ((g2.set g1.length (.arr 35 [B (decide ((x:Int) / (y:Int)<0)),u5])).set (g1.length+1) (.arr 35 [B false,u6])):=(y2.set (le_refl _) _).set (by omega) _
  have n6:=cU (o:=.arr 35 [B false,u6]) Kc
  generalize (g2.set g1.length (.arr 35 [B (decide ((x:Int) / (y:Int)<0)),u5])).set (g1.length+1) (.arr 35 [B false,u6])=g3 at y3 n6⊢
  have i0:=(y1.trans y3).get j0
  have i1:=(y1.trans y3).get j1
  have i2:=(y1.trans y3).get j2
  rw [dC i1]
  simp only [ah,true_and,dC n6]
  rw [gP i0]
  simp only [aE,and_true]
  have s6:(g3.set h.length (.arr 35 [B false,uy]))[g1.length+1]?=some (.arr 35 [B false,u6]):=by rw [getElem?_set_ne (by omega)];exact n6
  have s1:(g3.set h.length (.arr 35 [B false,uy]))[h.length+1]?=some (.arr 35 [B false,uy]):=by rw [getElem?_set_ne (by omega)];exact i1
  refine ⟨dC s6,?_⟩
  rw [gP s1]
  simp only [aE]
  have aB:x%y<y:=mod_lt _ hy
  refine hL (y,x%y,uy,u6,(g3.set h.length (.arr 35 [B false,uy])).set (h.length+1) (.arr 35 [B false,u6])) ⟨(((xg.trans y1).trans y3).set (le_refl _) _).set (by omega) _,?_,cU s1,?_,(((my.mono y1).mono y3).bS i0 _).bS s1 _,(((hu6.mono y3)).bS i0 _).bS s1 _,ly,by show x%y<_;omega,?_⟩ aB
  ·show ((g3.set h.length _).set (h.length+1) _)[h.length]?=_
   rw [getElem?_set_ne (by omega)];exact cU i0
  ·show ((g3.set h.length _).set (h.length+1) _)[h.length+2]?=_
   rw [getElem?_set_ne (by omega),getElem?_set_ne (by omega)];exact i2
  ·show gcd y (x%y)=_
   rw [←hg,Nat.gcd_comm x y,Nat.gcd_rec y x,Nat.gcd_comm]
 ·have hy:y=0:=by
   apply byContradiction
   intro hc
   have:=p2.2 (by omega)
   omega
  subst hy
  rw [aCJ,dC j0]
  simp only [ah]
  rw [Nat.gcd_zero_right] at hg
  subst hg
  exact BR j2 (hk _ _ (xg.set (by omega) _) (mx.bS j2 _))
theorem W2 {va:Value} {a b:Int} {h:ae} {K:Value→ae→Prop} (ha:QZ h va a b) (hb:0<b) (la:a.natAbs<10000^199) (lb:b.natAbs<10000^199)
  (hk:∀r h',EX h h'→QZ h' r (a / (gcd a.natAbs b.natAbs:Int)) (b / (gcd a.natAbs b.natAbs:Int))→K r h'):aq prog 25 [va] h K:=by
 obtain ⟨u,w,rfl,hu,hw⟩:=ha
 refine f25 ?_
 have e1:bC 37 h (.agg #[B (decide (a<0)),u,B (decide (b<0)),w])=some (pt h.length 0,h++[.arr 37 [B (decide (a<0)),u,B (decide (b<0)),w]]):=rfl
 have e2:∀g':ae,ba 35 [(.bool false),(.slice none 0 0)] g'=some (pt g'.length 0,g'++[.arr 35 [(.bool false),(.slice none 0 0)]]):=fun _=>rfl
 have e4:∀g':ae,ba 37 [(.bool false),(.slice none 0 0),(.bool false),(.slice none 0 0)] g'=some (pt g'.length 0,g'++[.arr 37 z4]):=fun _=>rfl
 simp only [NZ,e1,e4,aE,length_append,length_cons,length_nil,zero_add]
 have k0:(h++[ak.arr 37 [B (decide (a<0)),u,B (decide (b<0)),w]]++[ak.arr 37 z4])[h.length]?=some (.arr 37 [B (decide (a<0)),u,B (decide (b<0)),w]):=by simp
 have k1:(h++[ak.arr 37 [B (decide (a<0)),u,B (decide (b<0)),w]]++[ak.arr 37 z4])[h.length+1]?=some (.arr 37 z4):=by simp
 have x1:EX h (h++[ak.arr 37 [B (decide (a<0)),u,B (decide (b<0)),w]]++[ak.arr 37 z4]):=(EX.append _ _).push _
 generalize h++[ak.arr 37 [B (decide (a<0)),u,B (decide (b<0)),w]]++[ak.arr 37 z4]=h1 at k0 k1 x1⊢
 have za:ZV h1 (.agg #[B (decide (a<0)),u]) a:=⟨u,rfl,hu.mono x1⟩
 have zb:ZV h1 (.agg #[B (decide (b<0)),w]) b:=⟨w,rfl,hw.mono x1⟩
 simp only [b9,add_zero,zero_add,lI k0,nj k0,ah]
 refine C68 za zb la lb ?_
 intro ug h2 x2 mg
 have aw4:0<gcd a.natAbs b.natAbs:=Nat.gcd_pos_of_pos_right _ (by omega)
 have aef:gcd a.natAbs b.natAbs≤b.natAbs:=Nat.le_of_dvd (by omega) (Nat.gcd_dvd_right _ _)
 generalize gcd a.natAbs b.natAbs=g at mg aw4 aef hk
 have zg:=mg.FX
 simp only [e2,aE]
 rw [gP bZ]
 simp only [aE]
 have x3:EX h2 ((h2++[ak.arr 35 [(.bool false),(.slice none 0 0)]]).set h2.length (.arr 35 [B false,ug])):=EX.set (EX.append _ _) (le_refl _) _
 have k3:((h2++[ak.arr 35 [(.bool false),(.slice none 0 0)]]).set h2.length (.arr 35 [B false,ug]))[h2.length]?=some (.arr 35 [B false,ug]):=cU bZ
 generalize (h2++[ak.arr 35 [(.bool false),(.slice none 0 0)]]).set h2.length (.arr 35 [B false,ug])=h3 at x3 k3⊢
 have aD:=x2.trans x3
 simp only [EX.load aD (lI k0),dC k3,ah]
 have lg:((g:Nat):Int).natAbs<10000^199:=by rw [natAbs_natCast];omega
 refine Mg (za.mono aD) (zg.mono x3) (by omega) la lg ?_
 intro r s h4 x4 zr zs
 obtain ⟨ur,rfl,hur⟩:=id zr
 obtain ⟨us,rfl,Cp⟩:=id zs
 simp only [eL,fx,fF,ah,length_append,length_cons,length_nil,zero_add]
 have n0:(h4++[ak.arr 35 [(.bool false),(.slice none 0 0)]]++[ak.arr 35 [(.bool false),(.slice none 0 0)]])[h4.length]?=some (.arr 35 [(.bool false),(.slice none 0 0)]):=by simp
 have n1:(h4++[ak.arr 35 [(.bool false),(.slice none 0 0)]]++[ak.arr 35 [(.bool false),(.slice none 0 0)]])[h4.length+1]?=some (.arr 35 [(.bool false),(.slice none 0 0)]):=by simp
 have y2:EX h4 (h4++[ak.arr 35 [(.bool false),(.slice none 0 0)]]++[ak.arr 35 [(.bool false),(.slice none 0 0)]]):=(EX.append _ _).push _
 generalize h4++[ak.arr 35 [(.bool false),(.slice none 0 0)]]++[ak.arr 35 [(.bool false),(.slice none 0 0)]]=h5 at n0 n1 y2⊢
 rw [gP n0]
 simp only [aE]
 have Kc:(h5.set h4.length (.arr 35 [B (decide (a / (g:Int)<0)),ur]))[h4.length+1]?=some (.arr 35 [(.bool false),(.slice none 0 0)]):=by rw [getElem?_set_ne (by omega)];exact n1
 rw [gP Kc]
 simp only [aE]
 have y3:EX h4 ((h5.set h4.length (.arr 35 [B (decide (a / (g:Int)<0)),ur])).set (h4.length+1) (.arr 35 [B (decide (a%(g:Int)<0)),us])):=(y2.set (le_refl _) _).set (by omega) _
 have n0':((h5.set h4.length (.arr 35 [B (decide (a / (g:Int)<0)),ur])).set (h4.length+1) (.arr 35 [B (decide (a%(g:Int)<0)),us]))[h4.length]?=some (.arr 35 [B (decide (a / (g:Int)<0)),ur]):=by rw [getElem?_set_ne (by omega)];exact cU n0
 generalize (h5.set h4.length (.arr 35 [B (decide (a / (g:Int)<0)),ur])).set (h4.length+1) (.arr 35 [B (decide (a%(g:Int)<0)),us])=h6 at y3 n0'⊢
 have bM:=(aD.trans x4).trans y3
 have dE:=x4.trans y3
 simp only [EX.load bM (nj k0),EX.load dE (dC k3),ah]
 refine Mg (zb.mono bM) (zg.mono (x3.trans dE)) (by omega) lb lg ?_
 intro r' s' h7 x7 Gh Ma
 obtain ⟨FZ,rfl,aGo⟩:=id Gh
 obtain ⟨LJ,rfl,aGp⟩:=id Ma
 simp only [eL,fx,fF,ah]
 have m0:(h7++[ak.arr 35 [(.bool false),(.slice none 0 0)]]++[ak.arr 35 [(.bool false),(.slice none 0 0)]])[h7.length]?=some (.arr 35 [(.bool false),(.slice none 0 0)]):=by simp
 have m1:(h7++[ak.arr 35 [(.bool false),(.slice none 0 0)]]++[ak.arr 35 [(.bool false),(.slice none 0 0)]])[h7.length+1]?=some (.arr 35 [(.bool false),(.slice none 0 0)]):=by simp
 have w2:EX h7 (h7++[ak.arr 35 [(.bool false),(.slice none 0 0)]]++[ak.arr 35 [(.bool false),(.slice none 0 0)]]):=(EX.append _ _).push _
 generalize h7++[ak.arr 35 [(.bool false),(.slice none 0 0)]]++[ak.arr 35 [(.bool false),(.slice none 0 0)]]=h8 at m0 m1 w2⊢
 rw [gP m0]
 simp only [aE]
 have J4:(h8.set h7.length (.arr 35 [B (decide (b / (g:Int)<0)),FZ]))[h7.length+1]?=some (.arr 35 [(.bool false),(.slice none 0 0)]):=by rw [getElem?_set_ne (by omega)];exact m1
 rw [gP J4]
 simp only [aE]
 have w3:EX h7 ((h8.set h7.length (.arr 35 [B (decide (b / (g:Int)<0)),FZ])).set (h7.length+1) (.arr 35 [B (decide (b%(g:Int)<0)),LJ])):=(w2.set (le_refl _) _).set (by omega) _
 have m0':((h8.set h7.length (.arr 35 [B (decide (b / (g:Int)<0)),FZ])).set (h7.length+1) (.arr 35 [B (decide (b%(g:Int)<0)),LJ]))[h7.length]?=some (.arr 35 [B (decide (b / (g:Int)<0)),FZ]):=by rw [getElem?_set_ne (by omega)];exact cU m0
 generalize (h8.set h7.length (.arr 35 [B (decide (b / (g:Int)<0)),FZ])).set (h7.length+1) (.arr 35 [B (decide (b%(g:Int)<0)),LJ])=h9 at w3 m0'⊢
 have fA:=x7.trans w3
 rw [EX.load fA (dC n0'),ah,dC m0',ah]
 exact ac8 (zr.mono (y3.trans fA)) (Gh.mono w3) (x1.trans (bM.trans fA)) (by omega) ((bM.trans fA).get k1) hk
theorem au3 {s:List UInt8} {n:Nat} (hd:qu s) (hv:fa s=n) (hn:0<n) (hh:s.head?≠some 48):s=dS n:=by
 have e1:((s.reverse.map fun c:UInt8=>c.toNat-48).map jc).reverse=s:=by
  rw [List.map_map]
  have:s.reverse.map (jc ∘ fun c:UInt8=>c.toNat-48)=s.reverse:=by
   conv=>rhs;rw [←List.map_id s.reverse]
   apply List.map_congr_left
   intro c hc
   have h1:=hd c (by simpa using hc)
   apply UInt8.toNat_inj.1
   simp only [Function.comp,id]
   rw [vT (by omega)]
   omega
  rw [this,List.reverse_reverse]
 have fC:cn 10 (s.reverse.map fun c:UInt8=>c.toNat-48):=by
  intro x hx
  obtain ⟨c,hc,rfl⟩:=List.mem_map.1 hx
  have h1:=hd c (by simpa using hc)
  omega
 have ca:val 10 (s.reverse.map fun c:UInt8=>c.toNat-48)=n:=by
  rw [←Wd fC,e1,hv]
 have zK:di 10 (s.reverse.map fun c:UInt8=>c.toNat-48):=by
  refine ⟨fC,?_⟩
  rw [List.getLast?_map,List.getLast?_reverse]
  intro hc
  cases hs:s.head? with
  | none=>rw [hs] at hc;cases hc
  | some c=>
   rw [hs] at hc
   have QO:c.toNat-48=0:=by simpa using hc
   have rR:c∈s:=List.mem_of_mem_head? hs
   have h1:=hd c rR
   apply hh
   rw [hs]
   congr 1
   apply UInt8.toNat_inj.1
   show c.toNat=48
   omega
 obtain ⟨d1,d2⟩:=Iu n
 have:=di.unique (by decide) zK d1 (by rw [ca,d2])
 unfold dS
 rw [if_neg (by omega),←this,e1]
end
section
/-- Four digits. -/
def four (d:Nat):List UInt8:=[jc (d / 1000),jc (d / 100%10),jc (d / 10%10),jc (d%10)]
theorem awu {d:Nat} (hd:d<10000):qu (four d)∧fa (four d)=d:=by
 have h1:=vT (d:=d / 1000) (by omega)
 have h2:=vT (d:=d / 100%10) (by omega)
 have h3:=vT (d:=d / 10%10) (by omega)
 have h4:=vT (d:=d%10) (by omega)
 constructor
 ·intro c hc
  simp only [four,List.mem_cons,List.not_mem_nil,or_false] at hc
  rcases hc with rfl | rfl | rfl | rfl <;> omega
 ·simp only [four,LM,h1,h2,h3,h4,length_cons,length_nil]
  simp only [fa,List.foldl_nil]
  omega
theorem Xa {va:Value} {n:Nat} {h:ae} {K:Value→ae→Prop} (ha:ZV h va n) (hn:n<cw) (hk:∀h',EX h h'→K (S (dS n)) h'):aq prog 93 [va] h K:=by
 obtain ⟨v,rfl,hv⟩:=ha
 rw [natAbs_natCast] at hv
 refine f93 ?_
 have e1:bC 35 h (.agg #[B (decide ((n:Int)<0)),v])=some (pt h.length 0,h++[.arr 35 [B (decide ((n:Int)<0)),v]]):=rfl
 simp only [Oz,e1,aE]
 have x1:EX h (h++[ak.arr 35 [B (decide ((n:Int)<0)),v]]):=EX.append _ _
 have ld:af false 1 (h++[ak.arr 35 [B (decide ((n:Int)<0)),v]]) (pt h.length 1)=some v:=nL rfl
 generalize h++[ak.arr 35 [B (decide ((n:Int)<0)),v]]=h1 at x1 ld⊢
 obtain ⟨xs,dx,cx,vx⟩:=hv.mono x1
 have lx:=rF cx (by rw [vx];exact hn)
 simp only [b9,zero_add,ld,ah,dx.len,jo,cj]
 refine ⟨fun h0=>?_,fun bm=>?_⟩
 ·have:xs=[]:=List.length_eq_zero_iff.1 (by omega)
  subst this
  have oz:n=0:=vx.symm
  subst oz
  exact hk _ x1
 ·have rZ:0<xs.length:=by omega
  have axp:0<n:=by
   apply byContradiction
   intro hc
   have:=di.zero (by decide) cx (by omega)
   rw [this] at rZ
   simp at rZ
  have e2:IntKind.wrap .i64 ((xs.length:Int)-1)=(xs.length:Int)-1:=wrap64 (by omega) (by omega)
  simp only [gU,e2,ah]
  refine dL (σ:=Nat×List UInt8×ae) (fun p=>[S p.2.1,I ((p.1:Int)-1)]) (fun p=>p.2.2)
   (fun p=>p.1≤xs.length∧EX h1 p.2.2∧qu p.2.1∧fa p.2.1=val 10000 (xs.drop p.1)∧p.2.1.length=4*(xs.length-p.1)) (fun p=>p.1)
   (xs.length,[],h1) rfl rfl ⟨le_refl _,EX.refl _,fun c hc=>by simp at hc,by simp [fa,val],by simp⟩ ?_
  rintro ⟨i,s,g⟩ ⟨hi,xg,hd,yp,rV⟩ L hL
  simp only at hi xg hd yp rV hL⊢
  rw [aDs]
  simp only [nA,ah,cj]
  refine ⟨fun cL=>?_,fun aB=>?_⟩
  ·obtain ⟨j,rfl⟩:∃j,i=j+1:=⟨i-1,by omega⟩
   have ej:((j+1:Nat):Int)-1=(j:Int):=by omega
   have yc:j<xs.length:=by omega
   obtain ⟨ia,a1,a2⟩:=(dx.mono xg).get yc
   have hd4:xs[j]<10000:=cx.1 _ (getElem_mem yc)
   have JC:=anl 10000 xs yc
   rw [ej]
   generalize xY:xs[j]=d at a2 hd4 JC
   simp only [b9,zero_add,EX.load xg ld,ah,a1,a2]
   rw [show (.int .i64 1000:Value)=.int .i64 ((1000:Nat):Int) from rfl,show (.int .i64 100:Value)=.int .i64 ((100:Nat):Int) from rfl,show (.int .i64 10:Value)=.int .i64 ((10:Nat):Int) from rfl]
   rw [CN (by decide) (by omega),CN (b:=100) (by decide) (by omega),CN (b:=10) (by decide) (by omega)]
   simp only [ah]
   rw [AY _ _ _ (by decide),AY _ _ _ (by decide),AY _ _ _ (by decide)]
   have w:∀q:Nat,q<10→IntKind.wrap .i64 (48+(q:Int))=((48+q:Nat):Int):=fun q hq=>by rw [wrap64 (by omega) (by omega)];omega
   have w8:∀q:Nat,q<10→IntKind.wrap .u8 ((48+q:Nat):Int)=((48+q:Nat):Int):=fun q hq=>anq (by omega) (by omega)
   simp only [ah,cA,lj,w _ (show d / 1000<10 by omega),w8 _ (show d / 1000<10 by omega),w _ (show d / 100%10<10 by omega),w8 _ (show d / 100%10<10 by omega),w _ (show d / 10%10<10 by omega),w8 _ (show d / 10%10<10 by omega),w _ (show d%10<10 by omega),w8 _ (show d%10<10 by omega)]
   rw [DV (show d / 1000<10 by omega),DV (show d / 100%10<10 by omega),DV (show d / 10%10<10 by omega),DV (show d%10<10 by omega)]
   have mk:cZ 5 4 [.int .u8 0] g [(0,1,cv (jc (d / 1000))),(1,1,cv (jc (d / 100%10))),(2,1,cv (jc (d / 10%10))),(3,1,cv (jc (d%10)))]=some (sl 5 g.length 0 4,g++[.arr 5 ((four d).map cv)]):=rfl
   have yg:EX g (g++[ak.arr 5 ((four d).map cv)]):=EX.append _ _
   have bs:se (g++[ak.arr 5 ((four d).map cv)]) (sl 5 g.length 0 4)=some (S (four d)):=ze (b:=g.length) (e:=5) (.inr ⟨g.length,le_refl _,rfl,bZ⟩)
   obtain ⟨f1,f2⟩:=awu hd4
   have f3:(four d).length=4:=rfl
   simp only [mk,aE,bs,ah]
   rw [zh s (four d) (by rw [f3];unfold maxLen;omega)]
   have P7:IntKind.wrap .i64 ((j:Int)-1)=(j:Int)-1:=wrap64 (by omega) (by omega)
   simp only [ah,gU,P7,true_and]
   refine hL (j,s++four d,g++[ak.arr 5 ((four d).map cv)]) ⟨by show j≤xs.length;omega,xg.trans yg,fun c hc=>(List.mem_append.1 hc).elim (hd c) (f1 c),?_,by show (s++four d).length=_;rw [length_append,f3];omega⟩ (by show j<j+1;omega)
   show fa (s++four d)=val 10000 (xs.drop j)
   rw [F0,f2,f3,JC,yp]
   omega
  ·have Cd:i=0:=by omega
   subst Cd
   simp only [List.drop_zero,vx] at yp
   rw [aDp]
   refine dL (σ:=List UInt8) (fun s=>[S s]) (fun _=>g) (fun s=>qu s∧fa s=n∧s.length≤1000) (fun s=>s.length) s rfl rfl ⟨hd,yp,by omega⟩ ?_
   rintro t ⟨td,tv,tl⟩ L2 gV
   rw [aDq]
   cases t with
   | nil=>simp [fa] at tv;omega
   | cons c t=>
    have ix:=JI (a:=c::t) (i:=0) (by simp) .i64
    have ix':nh (S (c::t)) (.int .i64 0)=some (cv c):=ix
    have eq:ai .eql (cv c) (.int .u8 48)=some (B (decide ((c.toNat:Int)=48))):=rfl
    simp only [ix',ah,eq,cj]
    refine ⟨fun qB=>?_,fun qB=>?_⟩
    ·have aEF:=Lr (a:=c::t) (n:=1) (by simp) .i64
     have aEG:nJ (S (c::t)) (some (.int .i64 1)) none=some (S t):=aEF
     simp only [aEG,ah,true_and]
     refine gV t ⟨fun x hx=>td x (by simp [hx]),?_,by simp at tl;omega⟩ (by simp)
     rw [LM] at tv
     have:c.toNat-48=0:=by omega
     rw [this] at tv
     omega
    ·rw [aDr]
     have:=au3 td tv axp (by
      simp only [List.head?_cons,ne_eq,Option.some.injEq]
      rintro rfl
      exact qB rfl)
     rw [this]
     exact hk _ (x1.trans xg)
end
section
theorem A7 {b:Nat} (h:b<4294967296):b<cw:=aga (lt_of_lt_of_le h (by decide))
theorem Lo {a b:Nat}:nm a b<0↔a<b:=by
 unfold nm
 constructor
 ·intro h
  apply byContradiction
  intro hn
  rw [if_neg hn] at h
  split at h <;> omega
 ·intro h;rw [if_pos h];decide
theorem anM {va vb:Value} {a b:Nat} {h:ae} {K:Value→ae→Prop} (ha:dw h va a) (hb:dw h vb b) (la:a<cw) (b0:0<b) (lb:b<4294967296) (hk:∀q r h',EX h h'→dw h' q (a / b)→dw h' r (a%b)→K (.tuple #[q,r]) h'):
  aq prog 130 [va,vb] h K:=by
 refine f130 ?_
 unfold GP
 refine Gi ha hb la (A7 lb) ?_
 simp only [cN,ah,cj]
 refine ⟨fun aB=>?_,fun cL=>?_⟩
 ·have gn:=Lo.1 aB
  have oh:=ha
  obtain ⟨xs,d,c,rfl⟩:=ha
  obtain ⟨s1,s2⟩:=d.cells
  have lx:=qq c la
  have hq:∀g,dw g (.slice none 0 0) (val 4294967296 xs / b):=fun g=>⟨[],DS.nil _ _ _,⟨fun x hx=>by simp at hx,by simp⟩,by rw [Nat.div_eq_of_lt gn];rfl⟩
  by_cases h0:xs.length=0
  ·have e:dI 177 1 4 h (.slice none 0 0) va=some (.slice none 0 0,h):=by
    simp only [dI,s1,s2]
    rw [if_pos h0]
   simp only [e,aE]
   have:xs=[]:=List.length_eq_zero_iff.1 h0
   subst this
   exact hk _ _ h (EX.refl h) (hq h) ⟨[],DS.nil _ _ _,c,by rw [mod_eq_of_lt gn]⟩
  ·have e:dI 177 1 4 h (.slice none 0 0) va=some (sl 177 h.length 0 xs.length,h++[.arr 177 (xs.map fun d:Nat=>Value.int .u32 (d:Int))]):=by
    simp only [dI,s1,s2]
    rw [if_neg h0,if_pos ⟨by omega,by unfold maxLen;omega⟩]
   simp only [e,aE]
   refine hk _ _ _ (EX.append _ _) (hq _) ⟨xs,.inr ⟨h.length,rfl,.inr ⟨[],?_⟩⟩,c,by rw [mod_eq_of_lt gn]⟩
   simp [aR]
 ·have gn:b≤a:=by
   apply byContradiction
   intro hc
   exact cL (Lo.2 (by omega))
  obtain ⟨ys,d,c,hy⟩:=id hb
  have hlen:ys.length=1:=by
   have h1:ys.length≤1:=c.len (k:=1) (by decide) (by rw [hy];simpa using lb)
   have h2:ys≠[]:=by rintro rfl;simp [val] at hy;omega
   have:0<ys.length:=List.length_pos_iff.2 h2
   omega
  obtain ⟨y,rfl⟩:∃y,ys=[y]:=by
   match ys,hlen with
   | [y],_=>exact ⟨y,rfl⟩
  have qR:y=b:=by simpa [val] using hy
  subst qR
  obtain ⟨i,g1,g2⟩:=d.get (j:=0) (by simp)
  have zz:aY 1 vb (.int .i64 (0))=some (pt i 0):=g1
  have SI:bc vb=some (I 1):=d.len
  simp only [SI,ah,jo,decide_true,dM,zz,g2,List.getElem_cons_zero]
  refine WK ha la b0 lb ?_
  intro q h2 x2 hq
  have mk:∀(g:ae) (r:Nat),cZ 177 1 [(.int .u32 (0))] g [(0,1,.int .u32 (r:Int))]=some (sl 177 g.length 0 1,g++[.arr 177 [.int .u32 (r:Int)]]):=fun _ _=>rfl
  simp only [eL,fx,fF,ah,mk,aE]
  have x3:EX h2 (h2++[.arr 177 [.int .u32 ((a%y:Nat):Int)]]):=EX.append _ _
  have dr:DS 177 .u32 (h2++[.arr 177 [.int .u32 ((a%y:Nat):Int)]]) (sl 177 h2.length 0 1) [a%y]:=.inr ⟨h2.length,rfl,.inr ⟨[],by simp [aR]⟩⟩
  have hm:a%y<y:=mod_lt _ b0
  refine sG dr (fun x hx=>by rw [List.mem_singleton.1 hx];omega) (by simp) ?_
  intro v' lZ
  have e:val 4294967296 [a%y]=a%y:=by simp [val]
  rw [e] at lZ
  exact hk _ _ _ (x2.trans x3) (hq.mono x3) lZ
theorem WI {va:Value} {a:Int} {h:ae} {K:Value→ae→Prop} (ha:dQ h va a) (hk:∀h',EX h h'→K (I (if a=0 then 0 else if a<0 then -1 else 1)) h'):aq prog 109 [va] h K:=by
 obtain ⟨v,rfl,hv⟩:=ha
 refine f109 ?_
 have e1:bC 105 h (.agg #[B (decide (a<0)),v])=some (pt h.length 0,h++[.arr 105 [B (decide (a<0)),v]]):=rfl
 have x1:EX h (h++[.arr 105 [B (decide (a<0)),v]]):=EX.append _ _
 have l1:af false 1 (h++[ak.arr 105 [B (decide (a<0)),v]]) (pt h.length 1)=some v:=nL rfl
 have l0:af false 1 (h++[ak.arr 105 [B (decide (a<0)),v]]) (pt h.length 0)=some (B (decide (a<0))):=nL rfl
 obtain ⟨l,e2,e3⟩:=hv.so
 simp only [Nm,e1,aE,b9,zero_add,add_zero,ah,l1,l0,e2,jo,cj]
 refine ⟨fun hz=>?_,fun hz=>⟨fun hn=>?_,fun hn=>?_⟩⟩
 ·have:=hk _ x1
  rw [if_pos (by omega)] at this
  exact this
 ·have:=hk _ x1
  rw [if_neg (by omega),if_pos hn] at this
  exact this
 ·have:=hk _ x1
  rw [if_neg (by omega),if_neg hn] at this
  exact this
theorem Md {va vb:Value} {a b:Int} {h:ae} {K:Value→ae→Prop} (ha:dQ h va a) (hb:dQ h vb b) (la:a.natAbs<cw) (lb:b.natAbs<cw) (hk:∀h',EX h h'→K (I (if a-b=0 then 0 else if a-b<0 then -1 else 1)) h'):aq prog 111 [va,vb] h K:=by
 have oh:=ha
 have qC:=hb
 obtain ⟨v,rfl,hv⟩:=ha
 obtain ⟨w,rfl,hw⟩:=hb
 refine f111 ?_
 have e1:∀(g:ae) (s:Bool) (v:Value),bC 105 g (.agg #[B s,v])=some (pt g.length 0,g++[.arr 105 [B s,v]]):=fun _ _ _=>rfl
 simp only [No,e1,aE]
 have g0:(h++[ak.arr 105 [B (decide (a<0)),v]]++[ak.arr 105 [B (decide (b<0)),w]])[h.length]?=some (.arr 105 [B (decide (a<0)),v]):=by simp
 have g1:(h++[ak.arr 105 [B (decide (a<0)),v]]++[ak.arr 105 [B (decide (b<0)),w]])[(h++[ak.arr 105 [B (decide (a<0)),v]]).length]?=some (.arr 105 [B (decide (b<0)),w]):=bZ
 have x1:EX h (h++[ak.arr 105 [B (decide (a<0)),v]]++[ak.arr 105 [B (decide (b<0)),w]]):=(EX.append _ _).push _
 generalize h++[ak.arr 105 [B (decide (a<0)),v]]++[ak.arr 105 [B (decide (b<0)),w]]=h1 at g0 g1 x1⊢
 rw [dC g0,dC g1]
 simp only [ah]
 refine anL (oh.mono x1) (qC.mono x1) la lb ?_
 intro r h2 x2 hr
 exact WI hr fun h3 x3=>hk h3 (x1.trans (x2.trans x3))
theorem dQ.nat {h:ae} {v:Value} {n:Nat} (p:dw h v n):dQ h (.agg #[B false,v]) (n:Int):=⟨v,by rw [aT (by omega)],by rwa [natAbs_natCast]⟩
end
end Go.Proofs.YtelmdbpaoifmoaaGreat
namespace Go.Sim
section
theorem aFr {B:Nat} {xs:List Nat} (h:cn B xs) {n:Nat} (hn:xs.length=n+2):∃l,l<B^n∧val B xs=l+(xs[n]+xs[n+1]*B)*B^n:=by
 refine ⟨val B (xs.take n),?_,?_⟩
 ·have:=nr (xs:=xs.take n) (h.mono fun y hy=>mem_of_mem_take hy)
  rwa [length_take,min_eq_left (by omega)] at this
 ·have h1:=ji B xs (i:=n) (by omega)
  have h2:=ji B xs (i:=n+1) (by omega)
  rw [take_of_length_le (by omega),h1] at h2
  rw [h2,pow_succ]
  generalize B^n=P
  grind
theorem aFq {B:Nat} {xs:List Nat} (h:cn B xs) {n:Nat} (hn:xs.length=n+3):∃l,l<B^n∧val B xs=l+(xs[n]+(xs[n+1]+xs[n+2]*B)*B)*B^n:=by
 refine ⟨val B (xs.take n),?_,?_⟩
 ·have:=nr (xs:=xs.take n) (h.mono fun y hy=>mem_of_mem_take hy)
  rwa [length_take,min_eq_left (by omega)] at this
 ·have h1:=ji B xs (i:=n) (by omega)
  have h2:=ji B xs (i:=n+1) (by omega)
  have h3:=ji B xs (i:=n+2) (by omega)
  rw [take_of_length_le (by omega),h2,h1] at h3
  rw [h3,show B^(n+2)=B^n*B*B from by rw [pow_succ,pow_succ],pow_succ]
  generalize B^n=P
  grind
def mid (us:List Nat) (j:Nat) (xs:List Nat):List Nat:=us.take j++(xs++us.drop (j+xs.length))
theorem CB {us:List Nat} {j:Nat} {xs:List Nat} (h:j+xs.length≤us.length):(mid us j xs).length=us.length:=by
 unfold mid
 simp only [length_append,length_take,List.length_drop]
 omega
theorem agp {us:List Nat} {j k:Nat} {xs:List Nat} (hj:j≤us.length) (h:xs.length≤k):(mid us j xs)[j+k]?=us[j+k]?:=by
 unfold mid
 rw [List.getElem?_append_right (by rw [length_take];omega),length_take,min_eq_left hj,Nat.add_sub_cancel_left,List.getElem?_append_right h,List.getElem?_drop]
 congr 1
 omega
theorem azC {us:List Nat} {j k:Nat} {xs:List Nat} (hj:j≤us.length) (h:k<xs.length):(mid us j xs)[j+k]?=xs[k]?:=by
 unfold mid
 rw [List.getElem?_append_right (by rw [length_take];omega),length_take,min_eq_left hj,Nat.add_sub_cancel_left,List.getElem?_append_left h]
theorem J6 {us:List Nat} {j d:Nat} {xs:List Nat} (h:j+xs.length<us.length):(mid us j xs).set (j+xs.length) d=mid us j (xs++[d]):=by
 unfold mid
 rw [List.set_append_right _ _ (by rw [length_take];omega),length_take,min_eq_left (by omega),Nat.add_sub_cancel_left,List.set_append_right _ _ (le_refl _),Nat.sub_self,List.drop_eq_getElem_cons h,List.set_cons_zero,length_append,List.append_assoc]
 rfl
theorem agq (us:List Nat) (j:Nat):mid us j []=us:=by unfold mid;simp
theorem azB {us:List Nat} {j:Nat} {xs ys:List Nat} (hj:j+xs.length≤us.length) (h:ys.length=xs.length):mid (mid us j xs) j ys=mid us j ys:=by
 unfold mid
 have e1:(us.take j++(xs++us.drop (j+xs.length))).take j=us.take j:=by
  rw [List.take_append_of_le_length (by rw [length_take];omega),List.take_take,Nat.min_self]
 have e2:(us.take j++(xs++us.drop (j+xs.length))).drop (j+ys.length)=us.drop (j+ys.length):=by
  rw [h,←List.append_assoc,List.drop_append_of_le_length (by rw [length_append,length_take];omega),List.drop_eq_nil_of_le (by rw [length_append,length_take];omega),List.nil_append]
 rw [e1,e2]
section
variable {B P U V ul vl u2 v2 top v1 : Nat}
theorem awI (hU:U=ul+(u2+top*B)*P) (rX:ul<P) (pT:u2<B) (hV:V=vl+(v2+v1*B)*P) (h1:0<v1):U / V≤top / v1:=by
 rw [Nat.le_div_iff_mul_le h1]
 have h2:U / V*V≤U:=Nat.div_mul_le_self U V
 generalize U / V=q at*
 apply byContradiction
 intro hn
 have h3:top+1≤q*v1:=by omega
 have h4:(top+1)*(B*P)≤q*v1*(B*P):=mul_le_mul_right _ h3
 have h5:q*v1*(B*P)≤q*V:=by
  rw [hV]
  have:q*(vl+(v2+v1*B)*P)=q*v1*(B*P)+q*(vl+v2*P):=by grind
  omega
 have h6:U<(top+1)*(B*P):=by
  have e1:(top+1)*(B*P)=top*B*P+B*P:=by grind
  have e2:(u2+top*B)*P=u2*P+top*B*P:=by grind
  have e3:(u2+1)*P≤B*P:=mul_le_mul_right _ (by omega)
  have e4:(u2+1)*P=u2*P+P:=by grind
  omega
 omega
theorem awH {g r:Nat} (hU:U=ul+(u2+top*B)*P) (rX:ul<P) (hV:V=vl+(v2+v1*B)*P) (uH:U<V*B) (hg:g*v1+r=top) (hq:U / V≤g) (pK:B≤g∨r*B+u2<g*v2):U / V+1≤g:=by
 have hV0:0<V:=by
  apply Nat.pos_of_ne_zero
  intro e
  rw [e] at uH
  omega
 have Ry:U / V<B:=by rw [Nat.div_lt_iff_lt_mul hV0,mul_comm];exact uH
 rcases pK with hb | hb
 ·omega
 have h2:U / V*V≤U:=Nat.div_mul_le_self U V
 generalize U / V=q at*
 apply byContradiction
 intro hn
 have hqg:q=g:=by omega
 subst hqg
 have h3:q*((v2+v1*B)*P)≤q*V:=by rw [hV];exact mul_le_mul_left _ (by omega)
 have h4:q*(v2+v1*B)*P<(u2+top*B+1)*P:=by
  have e1:q*((v2+v1*B)*P)=q*(v2+v1*B)*P:=by grind
  have e2:(u2+top*B+1)*P=(u2+top*B)*P+P:=by grind
  omega
 have h5:q*(v2+v1*B)<u2+top*B+1:=Nat.lt_of_mul_lt_mul_right h4
 rw [←hg] at h5
 have e3:q*(v2+v1*B)=q*v2+q*v1*B:=by grind
 have e4:(q*v1+r)*B=q*v1*B+r*B:=by grind
 omega
theorem adH {g r:Nat} (hU:U=ul+(u2+top*B)*P) (hV:V=vl+(v2+v1*B)*P) (rY:vl<P) (h1:0<v1) (hg:g*v1+r=top) (pN:g<B) (aC:g*v2≤r*B+u2):g*V<U+V:=by
 have e1:g*V=g*vl+(g*v2+g*v1*B)*P:=by rw [hV];grind
 have e2:top*B=g*v1*B+r*B:=by rw [←hg];grind
 have e3:(g*v2+g*v1*B)*P≤(u2+top*B)*P:=mul_le_mul_right _ (by omega)
 have e4:g*vl<V:=by
  have a1:g*vl≤g*P:=mul_le_mul_left _ (by omega)
  have hP:0<P:=by omega
  have a2:g*P<B*P:=Nat.mul_lt_mul_of_pos_right pN hP
  have a3:B*P≤v1*B*P:=by
   have:1*(B*P)≤v1*(B*P):=mul_le_mul_right _ h1
   rw [mul_assoc]
   omega
  have a4:(v2+v1*B)*P=v2*P+v1*B*P:=by grind
  omega
 omega
theorem aFg {un w:Nat} (hB:0<B) (hU:U=ul+(u2+top*B)*P) (tq:top=w+un*B) (hV:V=vl+(v2+v1*B)*P) (rY:vl<P) (pU:v2<B) (uH:U<V*B):un≤v1:=by
 apply byContradiction
 intro hn
 have h1:(v1+1)*(B*P)*B≤un*(B*P)*B:=mul_le_mul_right _ (mul_le_mul_right _ (by omega))
 have h2:un*(B*P)*B≤U:=by
  rw [hU,tq]
  have:(u2+(w+un*B)*B)*P=(u2+w*B)*P+un*(B*P)*B:=by grind
  omega
 have h3:V<(v1+1)*(B*P):=by
  have e1:(v1+1)*(B*P)=v1*B*P+B*P:=by grind
  have e2:(v2+v1*B)*P=v2*P+v1*B*P:=by grind
  have e3:(v2+1)*P≤B*P:=mul_le_mul_right _ (by omega)
  have e4:(v2+1)*P=v2*P+P:=by grind
  omega
 have h4:V*B<(v1+1)*(B*P)*B:=Nat.mul_lt_mul_of_pos_right h3 hB
 omega
end
end
end Go.Sim
namespace Go.Proofs.YtelmdbpaoifmoaaGreat
open Go.Sim
section
variable (P : Program) (K : VK)
noncomputable section
variable (x0 : Value) (h : ae)
def ahq:=bK prog 135 [[],[]]
@[irreducible] def aao:=bR ahq
theorem ay7:ahq=some (6,aao,[.tmp 2]):=by kernel_rfl
def NM:Prop:=
 aq P 141 [x0] h fun x4 z1=>
 OP (ai .sub (.int .i64 (32)) x4) fun x5=>
 K x5 z1
theorem avK:aj P aao (aS [.tmp 2] K) (bG [x0]) h=NM P K x0 h:=by kernel_rfl
theorem f135 {K:VK} {x0:Value} {h:ae} (H:NM prog K x0 h):aq prog 135 [x0] h K:=
 bT ay7 (bP rfl) ((avK prog K x0 h).mpr H)
end
noncomputable section
variable (x0 n1 x5 aD aL bj : Value) (L1 : LQ) (xs : List Value) (h : ae)
def ahr:=bK prog 136 [[],[],[],[1,5,13,14],[15],[],[],[],[],[],[],[5],[]]
@[irreducible] def Ht:=bR ahr
@[irreducible] def asv:=Ht.r.r.l.r.l.l
@[irreducible] def aap:=Ht.r.r.r
@[irreducible] def asu:=aap.l
theorem ay8:ahr=some (41,Ht,[.tmp 4]):=by kernel_rfl
def MH (_P:Program) (K:VK):ar:=aS [.tmp 4] K
def ao7:ar:=aF (aj P aap (MH P K)) (MH P K)
def ao8:ar:=bI 0 (ao7 P K)
def ao9:ar:=aF (fun f' aU=>(([1,5,13,14]:List Nat).map f':List Value)=[n1,x5,aD,aL]∧L1 (([15]:List Nat).map f') aU) (ao8 P K)
def ajq:Prop:=ax (aj P asv (ao9 P K n1 x5 aD aL L1)) ([1,5,13,14]++[15]) ([n1,x5,aD,aL]++xs) h
def ajp:Prop:=ax (aj P asu (MH P K)) [5] [x5] h
theorem aBo (n1 x5 aD aL:Value) (L1:LQ) (bj:Value) (h:ae):ajq P K n1 x5 aD aL L1 [bj] h=
 (OP (ai .lss bj aL) fun bM=>
 aQ bM
 (OP (aY 1 aD bj) fun aO=>
 OP (af false 1 h aO) fun aP=>
 OP (dm .u64 aP) fun bf=>
 OP (ai .shl bf n1) fun cX=>
 OP (aY 1 x5 bj) fun cF=>
 OP (af false 1 h cF) fun bn=>
 OP (dm .u32 cX) fun bN=>
 OP (ai .or bn bN) fun dD=>
 OP (aY 1 x5 bj) fun cG=>
 OH (aK 1 h cG dD) fun _ z1=>
 OP (ai .add bj (.int .i64 (1))) fun bE=>
 OP (ai .shr cX (.int .u64 (32))) fun dE=>
 OP (dm .u32 dE) fun eQ=>
 OP (aY 1 x5 bE) fun dF=>
 OH (aK 1 z1 dF eQ) fun _ z2=>
 OP (ai .add bj (.int .i64 (1))) fun eI=>
 ([n1,x5,aD,aL]:List Value)=[n1,x5,aD,aL]∧L1 [eI] z2)
 (ajp P K x5 h)):=az (by kernel_rfl)
theorem aBn:ajp P K x5 h=
 (K x5 h):=az (by kernel_rfl)
def NN:Prop:=
 OP (bc x0) fun aM=>
 OP (ai .add aM (.int .i64 (1))) fun au=>
 OH (lE 177 4 [(.int .u32 (0))] h au au) fun aA z1=>
 OP (bc x0) fun aL=>
 cJ [(.int .i64 (0))] z1 fun L1 xs hx=>
 ajq P K n1 aA x0 aL L1 xs hx
theorem avL:aj P Ht (aS [.tmp 4] K) (bG [x0,n1]) h=NN P K x0 n1 h:=by kernel_rfl
theorem f136 {K:VK} {x0 n1:Value} {h:ae} (H:NN prog K x0 n1 h):aq prog 136 [x0,n1] h K:=
 bT ay8 (bP rfl) ((avL prog K x0 n1 h).mpr H)
end
noncomputable section
variable (u0 v1 n5 x7 x8 x9 aM aD jJ ki mn Bb : Value) (L1 : LQ) (xs : List Value) (h : ae)
def ahs:=bK prog 137 [[],[],[],[],[0,1,5],[7,8],[],[],[],[],[],[0,1,5,7],[],[],[0,1,5,7,83],[9,10,84],[],[],[],[],[],[],[0,1,5,7,9,10],[],[],[],[],[],[0,1,5,7,132],[13,133],[],[],[],[],[0,5,7,13],[7],[]]
@[irreducible] def Hu:=bR ahs
@[irreducible] def asB:=Hu.r.r.r.r.l.l.l
@[irreducible] def aat:=Hu.r.r.r.r.r
@[irreducible] def Pg:=aat.l
@[irreducible] def asw:=Pg.r.l.r.l.l
@[irreducible] def aaq:=Pg.r.r
@[irreducible] def Hv:=aaq.l
@[irreducible] def asx:=Hv.r.l.r.l.r.r.l.r.l.l
@[irreducible] def aas:=Hv.r.l.r.l.r.r.r
@[irreducible] def aar:=Hv.r.r
@[irreducible] def asy:=aas.l
@[irreducible] def asA:=aar.l
theorem ay9:ahs=some (162,Hu,[.tmp 4]):=by kernel_rfl
def vM (_P:Program) (K:VK):ar:=aS [.tmp 4] K
def apg:ar:=aF (aj P aat (vM P K)) (vM P K)
def aph:ar:=bI 0 (apg P K)
def api:ar:=aF (fun f' aU=>(([0,1,5]:List Nat).map f':List Value)=[u0,v1,n5]∧L1 (([7,8]:List Nat).map f') aU) (aph P K)
def apa:ar:=aF (aj P aaq (vM P K)) (vM P K)
def apb:ar:=bI 2 (apa P K)
def apc:ar:=aF (fun f' aU=>(([0,1,5,7,83]:List Nat).map f':List Value)=[u0,v1,n5,x7,jJ]∧L1 (([9,10,84]:List Nat).map f') aU) (apb P K)
def MI:ar:=aF (aj P aar (vM P K)) (vM P K)
def apd:ar:=aF (aj P aas (MI P K)) (MI P K)
def ape:ar:=bI 4 (apd P K)
def apf:ar:=aF (fun f' aU=>(([0,1,5,7,132]:List Nat).map f':List Value)=[u0,v1,n5,x7,mn]∧L1 (([13,133]:List Nat).map f') aU) (ape P K)
def aju:Prop:=ax (aj P asB (api P K u0 v1 n5 L1)) ([0,1,5]++[7,8]) ([u0,v1,n5]++xs) h
def yy:Prop:=ax (aj P Pg (vM P K)) [0,1,5,7] [u0,v1,n5,x7] h
def ajr:Prop:=ax (aj P asw (apc P K u0 v1 n5 x7 jJ L1)) ([0,1,5,7,83]++[9,10,84]) ([u0,v1,n5,x7,jJ]++xs) h
def ajs:Prop:=ax (aj P Hv (vM P K)) [0,1,5,7,9,10] [u0,v1,n5,x7,x9,aM] h
def TR:Prop:=ax (aj P asx (apf P K u0 v1 n5 x7 mn L1)) ([0,1,5,7,132]++[13,133]) ([u0,v1,n5,x7,mn]++xs) h
def ajt:Prop:=ax (aj P asy (MI P K)) [0,5,7,13] [u0,n5,x7,aD] h
def Fw:Prop:=ax (aj P asA (vM P K)) [7] [x7] h
theorem aBv (u0 v1 n5:Value) (L1:LQ) (x7 x8:Value) (h:ae):aju P K u0 v1 n5 L1 [x7,x8] h=
 (OP (ai .shr x7 (.int .u64 (32))) fun mP=>
 OP (ai .gtr mP (.int .u64 (0))) fun fz=>
 cE fz false
 (OP (ai .sub n5 (.int .i64 (2))) fun kh=>
 OP (aY 1 v1 kh) fun cM=>
 OP (af false 1 h cM) fun eR=>
 (True)∧
 OP (dm .u64 eR) fun gR=>
 OP (ai .mul x7 gR) fun cQ=>
 OP (ai .shl x8 (.int .u64 (32))) fun dO=>
 OP (ai .sub n5 (.int .i64 (2))) fun kW=>
 OP (aY 1 u0 kW) fun jU=>
 OP (af false 1 h jU) fun jA=>
 (True)∧
 OP (dm .u64 jA) fun iD=>
 OP (ai .or dO iD) fun kX=>
 OP (ai .gtr cQ kX) fun fR=>
 OP (ck fz (.bool true) fR) fun gS=>
 aQ gS
 (OP (ai .sub x7 (.int .u64 (1))) fun jI=>
 OP (ai .sub n5 (.int .i64 (1))) fun kK=>
 OP (aY 1 v1 kK) fun mQ=>
 OP (af false 1 h mQ) fun jV=>
 OP (dm .u64 jV) fun lL=>
 OP (ai .add x8 lL) fun fB=>
 OP (ai .shr fB (.int .u64 (32))) fun mR=>
 OP (ai .gtr mR (.int .u64 (0))) fun jW=>
 aQ jW
 (yy P K u0 v1 n5 jI h)
 (([u0,v1,n5]:List Value)=[u0,v1,n5]∧L1 [jI,fB] h))
 (yy P K u0 v1 n5 x7 h))
 (OP (ck fz (.bool true) undef) fun gS=>
 aQ gS
 (OP (ai .sub x7 (.int .u64 (1))) fun jI=>
 OP (ai .sub n5 (.int .i64 (1))) fun kK=>
 OP (aY 1 v1 kK) fun mQ=>
 OP (af false 1 h mQ) fun jV=>
 OP (dm .u64 jV) fun lL=>
 OP (ai .add x8 lL) fun fB=>
 OP (ai .shr fB (.int .u64 (32))) fun mR=>
 OP (ai .gtr mR (.int .u64 (0))) fun jW=>
 aQ jW
 (yy P K u0 v1 n5 jI h)
 (([u0,v1,n5]:List Value)=[u0,v1,n5]∧L1 [jI,fB] h))
 (yy P K u0 v1 n5 x7 h))):=az (by kernel_rfl)
theorem aBq (u0 v1 n5 x7 jJ:Value) (L1:LQ) (x9 aM ki:Value) (h:ae):ajr P K u0 v1 n5 x7 jJ L1 [x9,aM,ki] h=
 (OP (ai .lss ki jJ) fun xo=>
 aQ xo
 (OP (aY 1 v1 ki) fun py=>
 OP (af false 1 h py) fun jX=>
 OP (dm .u64 jX) fun ru=>
 OP (ai .mul x7 ru) fun sD=>
 OP (ai .add sD x9) fun vG=>
 OP (ai .shr vG (.int .u64 (32))) fun kL=>
 OP (aY 1 u0 ki) fun qg=>
 OP (af false 1 h qg) fun A8=>
 OP (dm .u32 vG) fun rp=>
 aq P 134 [A8,rp,aM] h fun xk z1=>
 OP (cf 0 xk) fun kJ=>
 OP (cf 1 xk) fun Wi=>
 OP (aY 1 u0 ki) fun A9=>
 OH (aK 1 z1 A9 kJ) fun _ z2=>
 OP (ai .add ki (.int .i64 (1))) fun F6=>
 ([u0,v1,n5,x7,jJ]:List Value)=[u0,v1,n5,x7,jJ]∧L1 [kL,Wi,F6] z2)
 (ajs P K u0 v1 n5 x7 x9 aM h)):=az (by kernel_rfl)
theorem aBs (u0 v1 n5 x7 mn:Value) (L1:LQ) (aD Bb:Value) (h:ae):TR P K u0 v1 n5 x7 mn L1 [aD,Bb] h=
 (OP (ai .lss Bb mn) fun Wn=>
 aQ Wn
 (OP (aY 1 u0 Bb) fun aFC=>
 OP (af false 1 h aFC) fun Wo=>
 (True)∧
 OP (aY 1 v1 Bb) fun vE=>
 OP (af false 1 h vE) fun Bc=>
 (True)∧
 aq P 133 [Wo,Bc,aD] h fun anv z1=>
 (True)∧
 OP (cf 0 anv) fun aFF=>
 OP (cf 1 anv) fun aFG=>
 OP (aY 1 u0 Bb) fun aFH=>
 OH (aK 1 z1 aFH aFF) fun _ z2=>
 (True)∧
 OP (ai .add Bb (.int .i64 (1))) fun aFI=>
 ([u0,v1,n5,x7,mn]:List Value)=[u0,v1,n5,x7,mn]∧L1 [aFG,aFI] z2)
 (ajt P K u0 n5 x7 aD h)):=az (by kernel_rfl)
theorem aBt:ajt P K u0 n5 x7 aD h=
 (OP (aY 1 u0 n5) fun aFJ=>
 OP (af false 1 h aFJ) fun aFK=>
 OP (ai .add aFK aD) fun aFL=>
 OP (aY 1 u0 n5) fun aFM=>
 OH (aK 1 h aFM aFL) fun _ z1=>
 Fw P K x7 z1):=az (by kernel_rfl)
theorem aBu:Fw P K x7 h=
 (OP (dm .u32 x7) fun aFN=>
 K aFN h):=az (by kernel_rfl)
theorem aBr:ajs P K u0 v1 n5 x7 x9 aM h=
 (OP (aY 1 u0 n5) fun Wk=>
 OP (af false 1 h Wk) fun qh=>
 OP (dm .u32 x9) fun F8=>
 aq P 134 [qh,F8,aM] h fun yJ z1=>
 OP (cf 0 yJ) fun C5=>
 OP (cf 1 yJ) fun F9=>
 OP (aY 1 u0 n5) fun Ga=>
 OH (aK 1 z1 Ga C5) fun _ z2=>
 OP (ai .gtr F9 (.int .u32 (0))) fun Wl=>
 aQ Wl
 (OP (ai .sub x7 (.int .u64 (1))) fun Wm=>
 OP (bc v1) fun mn=>
 cJ [(.int .u32 (0)),(.int .i64 (0))] z2 fun L1 xs hx=>
 TR P K u0 v1 n5 Wm mn L1 xs hx)
 (Fw P K x7 z2)):=az (by kernel_rfl)
theorem aBp:yy P K u0 v1 n5 x7 h=
 (OP (bc v1) fun jJ=>
 cJ [(.int .u64 (0)),(.int .u32 (0)),(.int .i64 (0))] h fun L1 xs hx=>
 ajr P K u0 v1 n5 x7 jJ L1 xs hx):=az (by kernel_rfl)
def NO:Prop:=
 OP (bc v1) fun bM=>
 OP (aY 1 u0 bM) fun aP=>
 OP (af false 1 h aP) fun aZ=>
 (True)∧
 OP (dm .u64 aZ) fun bf=>
 OP (ai .shl bf (.int .u64 (32))) fun bH=>
 OP (ai .sub bM (.int .i64 (1))) fun bV=>
 OP (aY 1 u0 bV) fun cF=>
 OP (af false 1 h cF) fun bn=>
 (True)∧
 OP (dm .u64 bn) fun bz=>
 OP (ai .or bH bz) fun bN=>
 OP (ai .sub bM (.int .i64 (1))) fun br=>
 OP (aY 1 v1 br) fun bE=>
 OP (af false 1 h bE) fun de=>
 (True)∧
 OP (dm .u64 de) fun dE=>
 OP (ai .quo bN dE) fun eQ=>
 OP (ai .sub bM (.int .i64 (1))) fun dG=>
 OP (aY 1 v1 dG) fun ef=>
 OP (af false 1 h ef) fun bO=>
 (True)∧
 OP (dm .u64 bO) fun bp=>
 OP (ai .rem bN bp) fun cH=>
 cJ [eQ,cH] h fun L1 xs hx=>
 aju P K u0 v1 bM L1 xs hx
theorem avM:aj P Hu (aS [.tmp 4] K) (bG [u0,v1]) h=NO P K u0 v1 h:=by kernel_rfl
theorem f137 {K:VK} {u0 v1:Value} {h:ae} (H:NO prog K u0 v1 h):aq prog 137 [u0,v1] h K:=
 bT ay9 (bP rfl) ((avM prog K u0 v1 h).mpr H)
end
noncomputable section
variable (x0 n1 x5 i6 t7 aA aD : Value) (L1 : LQ) (xs : List Value) (h : ae)
def aht:=bK prog 138 [[],[],[],[0,1,5,12],[13],[],[],[],[],[],[0,1,5,6,7,12,13],[0,1,5,12,13],[5],[]]
@[irreducible] def Hw:=bR aht
@[irreducible] def Ph:=Hw.r.r.l.r.l.l
@[irreducible] def aau:=Hw.r.r.r
@[irreducible] def asC:=Ph.r.r.l.l.r.r.r.l
@[irreducible] def aav:=Ph.r.r.r
@[irreducible] def asE:=aau.l
@[irreducible] def asD:=aav.l
theorem aza:aht=some (45,Hw,[.tmp 4]):=by kernel_rfl
def MJ (_P:Program) (K:VK):ar:=aS [.tmp 4] K
def apk:ar:=aF (aj P aau (MJ P K)) (MJ P K)
def apl:ar:=bI 0 (apk P K)
def Gx:ar:=aF (fun f' aU=>(([0,1,5,12]:List Nat).map f':List Value)=[x0,n1,x5,aA]∧L1 (([13]:List Nat).map f') aU) (apl P K)
def apm:ar:=aF (aj P aav (Gx P K x0 n1 x5 aA L1)) (Gx P K x0 n1 x5 aA L1)
def apj:ar:=bI 1 (apm P K x0 n1 x5 aA L1)
def ajx:Prop:=ax (aj P Ph (Gx P K x0 n1 x5 aA L1)) ([0,1,5,12]++[13]) ([x0,n1,x5,aA]++xs) h
def Ky:Prop:=ax (aj P asC (apj P K x0 n1 x5 aA L1)) [0,1,5,6,7,12,13] [x0,n1,x5,i6,t7,aA,aD] h
def ajv:Prop:=ax (aj P asD (Gx P K x0 n1 x5 aA L1)) [0,1,5,12,13] [x0,n1,x5,aA,aD] h
def ajw:Prop:=ax (aj P asE (MJ P K)) [5] [x5] h
theorem aBw:Ky P K x0 n1 x5 i6 t7 aA aD L1 h=
 (OP (ai .shr t7 n1) fun eI=>
 OP (dm .u32 eI) fun ee=>
 OP (aY 1 x5 i6) fun dG=>
 OH (aK 1 h dG ee) fun _ z1=>
 ajv P K x0 n1 x5 aA aD L1 z1):=az (by kernel_rfl)
theorem aBx:ajv P K x0 n1 x5 aA aD L1 h=
 (OP (ai .add aD (.int .i64 (1))) fun ef=>
 ([x0,n1,x5,aA]:List Value)=[x0,n1,x5,aA]∧L1 [ef] h):=az (by kernel_rfl)
theorem aBz (x0 n1 x5 aA:Value) (L1:LQ) (aD:Value) (h:ae):ajx P K x0 n1 x5 aA L1 [aD] h=
 (OP (ai .lss aD aA) fun aL=>
 aQ aL
 (OP (aY 1 x0 aD) fun aO=>
 OP (af false 1 h aO) fun aP=>
 OP (dm .u64 aP) fun aZ=>
 OP (ai .add aD (.int .i64 (1))) fun bH=>
 OP (bc x0) fun bD=>
 OP (ai .lss bH bD) fun bV=>
 aQ bV
 (OP (ai .add aD (.int .i64 (1))) fun bN=>
 OP (aY 1 x0 bN) fun dD=>
 OP (af false 1 h dD) fun cG=>
 OP (dm .u64 cG) fun bk=>
 OP (ai .shl bk (.int .u64 (32))) fun br=>
 OP (ai .or aZ br) fun bE=>
 Ky P K x0 n1 x5 aD bE aA aD L1 h)
 (Ky P K x0 n1 x5 aD aZ aA aD L1 h))
 (ajw P K x5 h)):=az (by kernel_rfl)
theorem aBy:ajw P K x5 h=
 (aq P 118 [x5] h fun bp z1=>
 K bp z1):=az (by kernel_rfl)
def NP:Prop:=
 OP (bc x0) fun x9=>
 OH (lE 177 4 [(.int .u32 (0))] h x9 x9) fun aM z1=>
 OP (bc x0) fun aA=>
 cJ [(.int .i64 (0))] z1 fun L1 xs hx=>
 ajx P K x0 n1 aM aA L1 xs hx
theorem avN:aj P Hw (aS [.tmp 4] K) (bG [x0,n1]) h=NP P K x0 n1 h:=by kernel_rfl
theorem f138 {K:VK} {x0 n1:Value} {h:ae} (H:NP prog K x0 n1 h):aq prog 138 [x0,n1] h K:=
 bT aza (bP rfl) ((avN prog K x0 n1 h).mpr H)
end
noncomputable section
variable (x0 n2 : Value) (h : ae)
def ahw:=bK prog 141 [[],[],[],[0,2],[],[],[0,2],[]]
@[irreducible] def Pk:=bR ahw
@[irreducible] def aay:=Pk.r.r.l
@[irreducible] def asL:=aay.r.l
theorem azd:ahw=some (19,Pk,[.tmp 2]):=by kernel_rfl
def XN (_P:Program) (K:VK):ar:=aS [.tmp 2] K
def Kz:Prop:=ax (aj P aay (XN P K)) [0,2] [x0,n2] h
def KA:Prop:=ax (aj P asL (XN P K)) [0,2] [x0,n2] h
theorem aBE:KA P K x0 n2 h=
 (OP (dm .u8 x0) fun bj=>
 OP (nh (.string ⟨#[0,1,2,2,3,3,3,3,4,4,4,4,4,4,4,4,5,5,5,5,5,5,5,5,5,5,5,5,5,5,5,5,6,6,6,6,6,6,6,6,6,6,6,6,6,6,6,6,6,6,6,6,6,6,6,6,6,6,6,6,6,6,6,6,7,7,7,7,7,7,7,7,7,7,7,7,7,7,7,7,7,7,7,7,7,7,7,7,7,7,7,7,7,7,7,7,7,7,7,7,7,7,7,7,7,7,7,7,7,7,7,7,7,7,7,7,7,7,7,7,7,7,7,7,7,7,7,7,8,8,8,8,8,8,8,8,8,8,8,8,8,8,8,8,8,8,8,8,8,8,8,8,8,8,8,8,8,8,8,8,8,8,8,8,8,8,8,8,8,8,8,8,8,8,8,8,8,8,8,8,8,8,8,8,8,8,8,8,8,8,8,8,8,8,8,8,8,8,8,8,8,8,8,8,8,8,8,8,8,8,8,8,8,8,8,8,8,8,8,8,8,8,8,8,8,8,8,8,8,8,8,8,8,8,8,8,8,8,8,8,8,8,8,8,8,8,8,8,8,8,8,8,8,8,8,8]⟩) bj) fun bM=>
 OP (dm .i64 bM) fun bU=>
 OP (ai .add n2 bU) fun aO=>
 K aO h):=az (by kernel_rfl)
theorem aBD:Kz P K x0 n2 h=
 (OP (ai .geq x0 (.int .u32 (256))) fun x8=>
 aQ x8
 (OP (ai .shr x0 (.int .u64 (8))) fun aM=>
 OP (ai .add n2 (.int .i64 (8))) fun aA=>
 KA P K aM aA h)
 (KA P K x0 n2 h)):=az (by kernel_rfl)
def NT:Prop:=
 OP (ai .geq x0 (.int .u32 (65536))) fun x4=>
 aQ x4
 (OP (ai .shr x0 (.int .u64 (16))) fun x6=>
 Kz P K x6 (.int .i64 (16)) h)
 (Kz P K x0 (.int .i64 (0)) h)
theorem avQ:aj P Pk (aS [.tmp 2] K) (bG [x0]) h=NT P K x0 h:=by kernel_rfl
theorem f141 {K:VK} {x0:Value} {h:ae} (H:NT prog K x0 h):aq prog 141 [x0] h K:=
 bT azd (bP rfl) ((avQ prog K x0 h).mpr H)
end
end
section
def wv (us:List Nat):List Value:=us.map fun d:Nat=>Value.int .u32 (d:Int)
theorem ans (us:List Nat):(wv us).length=us.length:=by simp [wv]
theorem rD {e:TypeId} {id o n k:Nat} (hk:k<n):aY 1 (sl e id o n) (I k)=some (pt id (o+k)):=by
 have:(0:Int)≤(k:Int)∧(k:Int)<(n:Int):=by omega
 simp [sl,aY,this]
theorem DP {g:ae} {iv id:Nat} {o:ak} (h:iv≠id):aR (g.set id o) iv=aR g iv:=by
 unfold aR
 rw [getElem?_set_ne h.symm]
theorem DA {g:ae} {id k d:Nat} {us:List Nat} {rest:List Value} (hg:aR g id=some (wv us++rest)) (hk:us[k]?=some d):af false 1 g (pt id k)=some (.int .u32 (d:Int)):=by
 have aB:=(bL hk).1
 have:(wv us++rest)[k]?=some (.int .u32 (d:Int)):=by
  rw [List.getElem?_append_left (by rw [ans];exact aB)]
  simp [wv,hk]
 simp [af,hg,cm,this]
theorem yZ {g:ae} {id k d:Nat} {us:List Nat} (hg:g[id]?=some (.arr 177 (wv us))) (hk:us[k]?=some d):af false 1 g (pt id k)=some (.int .u32 (d:Int)):=
 DA (rest:=[]) (by rw [List.append_nil];simp [aR,hg]) hk
theorem DB {g:ae} {id k:Nat} (d:Nat) {us:List Nat} (hg:g[id]?=some (.arr 177 (wv us))) (hk:k<us.length):aK 1 g (pt id k) (.int .u32 (d:Int))=some (undef,g.set id (.arr 177 (wv (us.set k d)))):=by
 rw [pj hg (by rw [ans];exact hk) rfl rfl]
 congr 3
 simp [wv,List.map_set]
theorem aDF {a b:Nat} (hb:b≠0) (_:a<18446744073709551616):ai .rem (.int .u64 (a:Int)) (.int .u64 (b:Int))=some (.int .u64 ((a%b:Nat):Int)):=by
 have h:¬((b:Int)=0):=by omega
 have h2:a%b≤a:=Nat.mod_le _ _
 simp only [ai,gY,if_true,if_neg h]
 have e:(a:Int).tmod (b:Int)=((a%b:Nat):Int):=rfl
 rw [e]
theorem uw {d:Nat} (h:d<4294967296):dm .u64 (.int .u32 (d:Int))=some (.int .u64 (d:Int)):=by rw [lj,kV (by omega) (by omega)]
theorem agD {a b:Nat} (h:a*b<18446744073709551616):ai .mul (.int .u64 (a:Int)) (.int .u64 (b:Int))=some (.int .u64 ((a*b:Nat):Int)):=by
 rw [vP,←Int.natCast_mul,kV (by omega) (by omega)]
theorem YU {a b:Nat} (h:a+b<18446744073709551616):ai .add (.int .u64 (a:Int)) (.int .u64 (b:Int))=some (.int .u64 ((a+b:Nat):Int)):=by
 rw [cA,←Int.natCast_add,kV (by omega) (by omega)]
theorem acN {a:Nat} (h:0<a) (h2:a<18446744073709551616):ai .sub (.int .u64 (a:Int)) (.int .u64 1)=some (.int .u64 ((a-1:Nat):Int)):=by
 rw [gU,show (a:Int)-1=((a-1:Nat):Int) by omega,kV (by omega) (by omega)]
theorem DU (t:Nat):dm .u32 (.int .u64 (t:Int))=some (.int .u32 ((t%4294967296:Nat):Int)):=by rw [lj,yI];congr 2
theorem WX {x y b:Nat} {h:ae} {K:Value→ae→Prop} (hx:x<4294967296) (hy:y<4294967296) (hb:b≤1)
  (hk:∀d b':Nat,d<4294967296→b'≤1→d+y+b=x+b'*4294967296→K (.tuple #[.int .u32 (d:Int),.int .u32 (b':Int)]) h):aq prog 134 [.int .u32 (x:Int),.int .u32 (y:Int),.int .u32 (b:Int)] h K:=by
 refine WW hx hy hb (hk _ _ ?_ ?_ ?_)
 ·exact mod_lt _ (by decide)
 ·split <;> omega
 ·split <;> omega
theorem azi {P X V Y x c a b:Nat} (h:Y+c*P=X+V) (e:4294967296*a+b=x+c) (ha:a=0∨a=1):Y+P*b+P*4294967296=X+P*x+V∨Y+P*b=X+P*x+V:=by
 have e1:P*(4294967296*a+b)=P*(x+c):=by rw [e]
 rcases ha with rfl | rfl
 ·right;grind
 ·left;grind
section
variable {h : ae} {K : Value → ae → Prop} {id iv j m : Nat} {us vs ud : List Nat} {rest : List Value}
theorem anQ {g:ae} {q:Value} {xs:List Nat} (kg:g[id]?=some (.arr 177 (wv us))) (kv:aR g iv=some (wv vs++rest)) (bm:iv≠id) (hn:vs.length=m+2) (hm:m≤1000) (hx:xs.length=m+3) (hj:j+(m+3)≤us.length)
  (hu:∀k,k≤m+2→us[j+k]?=xs[k]?) (lx:cn 4294967296 xs) (lv:cn 4294967296 vs)
  (hk:∀ys,ys.length=m+3→cn 4294967296 ys→(val 4294967296 ys+4294967296^(m+3)=val 4294967296 xs+val 4294967296 vs∨val 4294967296 ys=val 4294967296 xs+val 4294967296 vs)→
   Fw prog K q (g.set id (.arr 177 (wv (mid us j ys))))):
  cJ [(.int .u32 (0)),(.int .i64 (0))] g fun L1 xs hx=>TR prog K (sl 177 id j (m+3)) (sl 177 iv 0 (m+2)) (I (m+2:Nat)) q (I (m+2:Nat)) L1 xs hx:=by
 refine dL (σ:=List Nat×Nat) (fun p=>[.int .u32 (p.2:Int),I p.1.length]) (fun p=>g.set id (.arr 177 (wv (mid us j p.1))))
  (fun p=>p.1.length≤m+2∧cn 4294967296 p.1∧p.2≤1∧val 4294967296 p.1+p.2*4294967296^p.1.length=val 4294967296 (xs.take p.1.length)+val 4294967296 (vs.take p.1.length)) (fun p=>m+2-p.1.length)
  ([],0) rfl (by rw [agq];exact (List.ext_getElem? fun i=>by
   rw [List.getElem?_set]
   split
   ·rename_i e;subst e
    rw [kg,if_pos (bL kg).1]
   ·rfl)) ⟨zero_le _,fun y hy=>by simp at hy,zero_le _,by simp [val]⟩ ?_
 rintro ⟨ys,c⟩ ⟨kA,ly,hc,ca⟩ L hL
 simp only at kA ly hc ca hL⊢
 have wL:(g.set id (.arr 177 (wv (mid us j ys))))[id]?=some (.arr 177 (wv (mid us j ys))):=cU kg
 have Sz:aR (g.set id (.arr 177 (wv (mid us j ys)))) iv=some (wv vs++rest):=by rw [DP bm];exact kv
 rw [aBs]
 simp only [cN,ah,cj]
 have EN:∀k,ys.length≤k→k≤m+2→(mid us j ys)[j+k]?=xs[k]?:=fun k h1 h2=>by rw [agp (by omega) h1,hu k h2]
 refine ⟨fun aB=>?_,fun cL=>?_⟩
 ·have hy:ys.length<m+2:=by omega
  have yr:xs[ys.length]?=some (xs[ys.length]'(by omega)):=getElem?_eq_getElem (by omega)
  have RY:vs[ys.length]?=some (vs[ys.length]'(by omega)):=getElem?_eq_getElem (by omega)
  have bx:=lx _ (getElem_mem (l:=xs) (n:=ys.length) (by omega))
  have bv:=lv _ (getElem_mem (l:=vs) (n:=ys.length) (by omega))
  have tx:=ji 4294967296 xs (i:=ys.length) (by omega)
  have tv:=ji 4294967296 vs (i:=ys.length) (by omega)
  generalize xs[ys.length]'(by omega)=x at*
  generalize vs[ys.length]'(by omega)=v at*
  have ld:=yZ wL ((EN _ (le_refl _) (by omega)).trans yr)
  have E9:=DA Sz RY
  simp only [rD (show ys.length<m+3 by omega),rD (show ys.length<m+2 by omega),zero_add,ah,ld,E9,true_and]
  refine WV bx bv hc ?_
  simp only [eL,fx,fF,ah]
  rw [DB _ wL (by rw [CB (by omega)];omega),J6 (by omega),set_set]
  have:=hL (ys++[(x+v+c)%4294967296],(x+v+c) / 4294967296) ⟨by simp;omega,ly.append (fun y hy=>by simp at hy;omega),by show (x+v+c) / 4294967296≤1;omega,by
   simp only [length_append,length_cons,length_nil,zero_add]
   rw [oJ,tx,tv,pow_succ]
   simp only [val,mul_zero,add_zero]
   have lV:=div_add_mod (x+v+c) 4294967296
   generalize (x+v+c) / 4294967296=a at*
   generalize (x+v+c)%4294967296=b at*
   generalize 4294967296^ys.length=P at*
   have:P*(4294967296*a+b)=P*(x+v+c):=by rw [lV]
   grind⟩ (by simp;omega)
  simp only [aE,cA,fk ys.length (by omega),ah]
  simpa using this
 ·have hy:ys.length=m+2:=by omega
  have yr:xs[m+2]?=some (xs[m+2]'(by omega)):=getElem?_eq_getElem (by omega)
  have bx:=lx _ (getElem_mem (l:=xs) (n:=m+2) (by omega))
  have tx:=ji 4294967296 xs (i:=m+2) (by omega)
  rw [take_of_length_le (by omega)] at tx
  generalize xs[m+2]'(by omega)=x at*
  have ld:=yZ wL ((EN (m+2) (by omega) (by omega)).trans yr)
  rw [aBt]
  have ea:ai .add (.int .u32 (x:Int)) (.int .u32 (c:Int))=some (.int .u32 (((x+c)%4294967296:Nat):Int)):=by
   rw [cA,←Int.natCast_add,yI];congr 2
  simp only [rD (show m+2<m+3 by omega),ah,ld,ea]
  have lX:=J6 (us:=us) (j:=j) (d:=(x+c)%4294967296) (xs:=ys) (by omega)
  rw [hy] at lX
  rw [DB _ wL (by rw [CB (by omega)];omega),lX,set_set]
  simp only [aE]
  rw [hy,take_of_length_le (by omega:vs.length≤m+2)] at ca
  refine hk _ (by simp;omega) (ly.append (fun y hy=>by simp at hy;omega)) ?_
  rw [oJ,hy,tx]
  simp only [val,mul_zero,add_zero]
  have lV:=div_add_mod (x+c) 4294967296
  have h01:(x+c) / 4294967296≤1:=by omega
  rw [pow_succ]
  exact azi ca lV (by omega)
theorem aAr (B m:Nat):B^(m+3)=B^(m+2)*B:=pow_succ ..
theorem aET {P A X V g v x carry borrow y c' x' b':Nat} (h:X+g*V=A+(carry+borrow)*P) (e:4294967296*c'+y=g*v+carry) (s:x'+y+borrow=x+b'*4294967296):
  X+P*x'+g*(V+P*v)=A+P*x+(c'+b')*(P*4294967296):=by
 have e1:P*(4294967296*c'+y)=P*(g*v+carry):=by rw [e]
 have e2:P*(x'+y+borrow)=P*(x+b'*4294967296):=by rw [s]
 grind
theorem aEU {P A X V g x carry borrow x' b':Nat} (h:X+g*V=A+(carry+borrow)*P) (s:x'+carry+borrow=x+b'*4294967296):X+P*x'+g*V=A+P*x+b'*(P*4294967296):=by
 have e2:P*(x'+carry+borrow)=P*(x+b'*4294967296):=by rw [s]
 grind
theorem WZ {gs:Nat} (kg:h[id]?=some (.arr 177 (wv us))) (kv:aR h iv=some (wv vs++rest)) (bm:iv≠id) (hn:vs.length=m+2) (hm:m≤1000) (hx:ud.length=m+3) (hj:j+(m+3)≤us.length)
  (hu:∀k,k≤m+2→us[j+k]?=ud[k]?) (lu:cn 4294967296 ud) (lv:cn 4294967296 vs) (pN:gs<4294967296) (h1:val 4294967296 ud / val 4294967296 vs≤gs) (h2:gs*val 4294967296 vs<val 4294967296 ud+val 4294967296 vs) (V0:0<val 4294967296 vs)
  (hk:∀rs,rs.length=m+3→cn 4294967296 rs→val 4294967296 rs=val 4294967296 ud%val 4294967296 vs→K (.int .u32 ((val 4294967296 ud / val 4294967296 vs:Nat):Int)) (h.set id (.arr 177 (wv (mid us j rs))))):
  yy prog K (sl 177 id j (m+3)) (sl 177 iv 0 (m+2)) (I (m+2:Nat)) (.int .u64 (gs:Int)) h:=by
 have lX:h=h.set id (.arr 177 (wv us)):=List.ext_getElem? fun i=>by
  rw [List.getElem?_set]
  split
  ·rename_i e;subst e
   rw [kg,if_pos (bL kg).1]
  ·rfl
 have J3:bc (sl 177 iv 0 (m+2))=some (I (m+2:Nat)):=rfl
 rw [aBp]
 simp only [J3,ah]
 refine dL (σ:=List Nat×Nat×Nat) (fun p=>[.int .u64 (p.2.1:Int),.int .u32 (p.2.2:Int),I p.1.length]) (fun p=>h.set id (.arr 177 (wv (mid us j p.1))))
  (fun p=>p.1.length≤m+2∧cn 4294967296 p.1∧p.2.1<4294967296∧p.2.2≤1∧val 4294967296 p.1+gs*val 4294967296 (vs.take p.1.length)=val 4294967296 (ud.take p.1.length)+(p.2.1+p.2.2)*4294967296^p.1.length) (fun p=>m+2-p.1.length)
  ([],0,0) rfl (by rw [agq];exact lX.symm) ⟨zero_le _,fun y hy=>by simp at hy,by decide,zero_le _,by simp [val]⟩ ?_
 rintro ⟨xs,c,bo⟩ ⟨iz,lx,hc,QM,ca⟩ L hL
 simp only at iz lx hc QM ca hL⊢
 have wL:(h.set id (.arr 177 (wv (mid us j xs))))[id]?=some (.arr 177 (wv (mid us j xs))):=cU kg
 have Sz:aR (h.set id (.arr 177 (wv (mid us j xs)))) iv=some (wv vs++rest):=by rw [DP bm];exact kv
 have EN:∀k,xs.length≤k→k≤m+2→(mid us j xs)[j+k]?=ud[k]?:=fun k h1 h2=>by rw [agp (by omega) h1,hu k h2]
 rw [aBq]
 simp only [cN,ah,cj]
 refine ⟨fun aB=>?_,fun cL=>?_⟩
 ·have hy:xs.length<m+2:=by omega
  have RU:ud[xs.length]?=some (ud[xs.length]'(by omega)):=getElem?_eq_getElem (by omega)
  have RY:vs[xs.length]?=some (vs[xs.length]'(by omega)):=getElem?_eq_getElem (by omega)
  have bx:=lu _ (getElem_mem (l:=ud) (n:=xs.length) (by omega))
  have bv:=lv _ (getElem_mem (l:=vs) (n:=xs.length) (by omega))
  have tx:=ji 4294967296 ud (i:=xs.length) (by omega)
  have tv:=ji 4294967296 vs (i:=xs.length) (by omega)
  generalize ud[xs.length]'(by omega)=x at*
  generalize vs[xs.length]'(by omega)=v at*
  have ld:=yZ wL ((EN _ (le_refl _) (by omega)).trans RU)
  have E9:=DA Sz RY
  have hgv:=Ka pN bv
  simp only [rD (show xs.length<m+3 by omega),rD (show xs.length<m+2 by omega),zero_add,ah,ld,E9,uw bv,agD (show gs*v<18446744073709551616 by omega),YU (show gs*v+c<18446744073709551616 by omega),A3,DU]
  have lV:=div_add_mod (gs*v+c) 4294967296
  have hym:(gs*v+c)%4294967296<4294967296:=mod_lt _ (by decide)
  have hyd:(gs*v+c) / 4294967296<4294967296:=by omega
  refine WX bx hym QM ?_
  intro d b2 hd Ek zP
  simp only [eL,fx,fF,ah]
  rw [DB _ wL (by rw [CB (by omega)];omega),J6 (by omega),set_set]
  generalize (gs*v+c) / 4294967296=c2 at*
  generalize (gs*v+c)%4294967296=y at*
  have:=hL (xs++[d],c2,b2) ⟨by simp;omega,lx.append (fun z hz=>by simp at hz;omega),hyd,Ek,by
   simp only [length_append,length_cons,length_nil,zero_add]
   rw [oJ,tx,tv,pow_succ]
   simp only [val,mul_zero,add_zero]
   exact aET ca lV zP⟩ (by simp;omega)
  simp only [aE,cA,fk xs.length (by omega),ah,true_and]
  simpa using this
 ·have hy:xs.length=m+2:=by omega
  have RU:ud[m+2]?=some (ud[m+2]'(by omega)):=getElem?_eq_getElem (by omega)
  have bx:=lu _ (getElem_mem (l:=ud) (n:=m+2) (by omega))
  have tx:=ji 4294967296 ud (i:=m+2) (by omega)
  rw [take_of_length_le (by omega)] at tx
  generalize ud[m+2]'(by omega)=x at*
  have ld:=yZ wL ((EN (m+2) (by omega) (by omega)).trans RU)
  rw [aBr]
  simp only [rD (show m+2<m+3 by omega),ah,ld,DU,mod_eq_of_lt hc]
  refine WX bx hc QM ?_
  intro d b2 hd Ek zP
  simp only [eL,fx,fF,ah]
  have aeY:=J6 (us:=us) (j:=j) (d:=d) (xs:=xs) (by omega)
  rw [hy] at aeY
  rw [DB _ wL (by rw [CB (by omega)];omega),aeY,set_set]
  simp only [aE]
  rw [hy,take_of_length_le (by omega:vs.length≤m+2)] at ca
  have SQ:cn 4294967296 (xs++[d]):=lx.append (fun z hz=>by simp at hz;omega)
  have qF:(xs++[d]).length=m+3:=by simp;omega
  have pU:val 4294967296 (xs++[d])+gs*val 4294967296 vs=val 4294967296 ud+b2*4294967296^(m+3):=by
   rw [oJ,hy,tx]
   simp only [val,mul_zero,add_zero]
   rw [aAr]
   exact aEU ca zP
  generalize xs++[d]=xn at*
  have aF9:=div_add_mod (val 4294967296 ud) (val 4294967296 vs)
  have wq:=mod_lt (val 4294967296 ud) V0
  have yq:=nr SQ
  rw [qF] at yq
  generalize hQ:val 4294967296 ud / val 4294967296 vs=Q at*
  generalize hR:val 4294967296 ud%val 4294967296 vs=R at*
  have Ry:Q<4294967296:=by omega
  have IA:∀{a:Nat} {g:ae},a<4294967296→K (.int .u32 (a:Int)) g→Fw prog K (.int .u64 (a:Int)) g:=by
   intro a g ha hK
   rw [aBu,DU,ah,mod_eq_of_lt ha]
   exact hK
  rcases (show b2=1∨b2=0 by omega) with rfl | rfl
  ·skip
   have hgV:val 4294967296 ud<gs*val 4294967296 vs:=by omega
   have Jc:gs=Q+1:=by
    have:gs<Q+2:=by
     apply byContradiction
     intro hn
     have h3:(Q+2)*val 4294967296 vs≤gs*val 4294967296 vs:=mul_le_mul_right _ (by omega)
     rw [add_mul,mul_comm Q] at h3
     omega
    have h4:gs≠Q:=by
     intro e
     rw [e,mul_comm] at hgV
     omega
    omega
   have bg:ai .gtr (.int .u32 ((1:Nat):Int)) (.int .u32 0)=some (B true):=rfl
   simp only [bg,ah,dM,acN (show 0<gs by omega) (show gs<18446744073709551616 by omega),J3]
   refine anQ (us:=mid us j xn) (xs:=xn) (cU kg) (by rw [DP bm];exact kv) bm hn hm qF (by rw [CB (by omega)];omega) (fun k hk=>azC (by omega) (by omega)) SQ lv ?_
   intro ys kA ly An
   rw [set_set,azB (by omega) (by omega)]
   have qR:=nr ly
   rw [kA] at qR
   have Rl:gs*val 4294967296 vs=val 4294967296 vs*(Q)+val 4294967296 vs:=by rw [Jc,add_mul,mul_comm Q];omega
   have hyr:val 4294967296 ys=R:=by
    rw [Nat.one_mul] at pU
    rcases An with An | An <;> omega
   rw [show gs-1=Q by omega]
   exact IA Ry (hk ys kA ly hyr)
  ·have Jc:gs=Q:=by
    have:gs≤Q:=by rw [←hQ];exact (Nat.le_div_iff_mul_le V0).2 (by omega)
    omega
   have bg:ai .gtr (.int .u32 ((0:Nat):Int)) (.int .u32 0)=some (B false):=rfl
   simp only [bg,ah,dP]
   have hxr:val 4294967296 xn=R:=by
    rw [Jc,mul_comm] at pU
    omega
   rw [Jc]
   exact IA Ry (hk xn qF SQ hxr)
end
end
section
theorem awG (a b:Nat):ai .gtr (.int .u64 (a:Int)) (.int .u64 (b:Int))=some (B (decide (b<a))):=by
 rw [gj];congr 2;rw [decide_eq_decide];omega
theorem aek {a:Nat}:ai .gtr (.int .u64 ((a / 4294967296:Nat):Int)) (.int .u64 0)=some (B (decide (4294967296≤a))):=by
 rw [gj];congr 2;rw [decide_eq_decide]
 have:4294967296≤a↔0<a / 4294967296:=by omega
 rw [this]
 omega
section
variable {h : ae} {K : Value → ae → Prop} {id iv j m : Nat} {us vs ud : List Nat} {rest : List Value}
theorem anP {v1:Nat} (kg:h[id]?=some (.arr 177 (wv us))) (kv:aR h iv=some (wv vs++rest)) (bm:iv≠id) (hn:vs.length=m+2) (hm:m≤1000) (hx:ud.length=m+3) (hj:j+(m+3)≤us.length)
  (hu:∀k,k≤m+2→us[j+k]?=ud[k]?) (lu:cn 4294967296 ud) (lv:cn 4294967296 vs) (tu:vs[m+1]?=some v1) (jO:2147483648≤v1) (uH:val 4294967296 ud<val 4294967296 vs*4294967296)
  (hk:∀rs,rs.length=m+3→cn 4294967296 rs→val 4294967296 rs=val 4294967296 ud%val 4294967296 vs→K (.int .u32 ((val 4294967296 ud / val 4294967296 vs:Nat):Int)) (h.set id (.arr 177 (wv (mid us j rs))))):
  aq prog 137 [sl 177 id j (m+3),sl 177 iv 0 (m+2)] h K:=by
 obtain ⟨ul,rX,eU⟩:=aFq lu hx
 obtain ⟨vl,rY,eV⟩:=aFr lv hn
 have RT:us[j+m]?=some (ud[m]'(by omega)):=by rw [hu m (by omega)];exact getElem?_eq_getElem _
 have hu1:us[j+(m+1)]?=some (ud[m+1]'(by omega)):=by rw [hu (m+1) (by omega)];exact getElem?_eq_getElem _
 have pT:us[j+(m+2)]?=some (ud[m+2]'(by omega)):=by rw [hu (m+2) (by omega)];exact getElem?_eq_getElem _
 have b0:=lu _ (getElem_mem (l:=ud) (n:=m) (by omega))
 have b1:=lu _ (getElem_mem (l:=ud) (n:=m+1) (by omega))
 have b2:=lu _ (getElem_mem (l:=ud) (n:=m+2) (by omega))
 have Ai:vs[m]?=some (vs[m]'(by omega)):=getElem?_eq_getElem _
 have c0:=lv _ (getElem_mem (l:=vs) (n:=m) (by omega))
 have c1:=lv _ (getElem_mem (l:=vs) (n:=m+1) (by omega))
 have e1:vs[m+1]'(by omega)=v1:=by
  rw [getElem?_eq_getElem (by omega)] at tu
  injection tu
 rw [e1] at c1 eV
 generalize ud[m]'(by omega)=t0 at*
 generalize ud[m+1]'(by omega)=t1 at*
 generalize ud[m+2]'(by omega)=t2 at*
 generalize vs[m]'(by omega)=v2 at*
 have hP:0<4294967296^m:=pow_pos (by decide)
 have adb:t1+t2*4294967296=t2*4294967296+t1:=Nat.add_comm ..
 rw [adb] at eU
 have V0:0<val 4294967296 vs:=by
  apply Nat.pos_of_ne_zero
  intro e
  rw [e,Nat.zero_mul] at uH
  omega
 have EJ:=aFg (by decide) eU adb.symm eV rY c0 uH
 have aw1:=awI eU rX b0 eV (by omega)
 have pY:=yZ kg RT
 have qX:=yZ kg hu1
 have wN:=yZ kg pT
 have lv0:=DA kv Ai
 have lv1:=DA kv tu
 have J3:bc (sl 177 iv 0 (m+2))=some (I (m+2:Nat)):=rfl
 have s1:ai .sub (I (m+2:Nat)) (.int .i64 1)=some (I (m+1:Nat)):=by rw [gU,wrap64 (by omega) (by omega)];congr 2;omega
 have s2:ai .sub (I (m+2:Nat)) (.int .i64 2)=some (I (m:Nat)):=by rw [gU,wrap64 (by omega) (by omega)];congr 2;omega
 have EK:t2*4294967296+t1<18446744073709551616:=by omega
 refine f137 ?_
 unfold NO
 simp only [J3,ah,rD (show m+2<m+3 by omega),wN,true_and,uw b2,Lp b2,s1,rD (show m+1<m+3 by omega),qX,uw b1,Ko b2 b1,rD (show m+1<m+2 by omega),zero_add,lv1,uw c1,amm (show v1≠0 by omega) EK,aDF (show v1≠0 by omega) EK]
 generalize tq:t2*4294967296+t1=top at*
 have lV:=div_add_mod top v1
 have wq:=mod_lt top (show 0<v1 by omega)
 have hg0:top / v1≤4294967297:=by
  have:top / v1<4294967298:=by
   rw [Nat.div_lt_iff_lt_mul (by omega)]
   omega
  omega
 refine dL (σ:=Nat×Nat) (fun p=>[.int .u64 (p.1:Int),.int .u64 (p.2:Int)]) (fun _=>h) (fun p=>p.1*v1+p.2=top∧p.2<4294967296∧p.1≤4294967297∧val 4294967296 ud / val 4294967296 vs≤p.1) (fun p=>4294967296-p.2)
  (top / v1,top%v1) rfl rfl ⟨by show top / v1*v1+top%v1=top;rw [mul_comm];exact lV,by show top%v1<4294967296;omega,hg0,aw1⟩ ?_
 rintro ⟨g,r⟩ ⟨zU,hr,hg,hq⟩ L hL
 simp only at zU hr hg hq hL⊢
 have down:(4294967296≤g∨r*4294967296+t0<g*v2)→(OP (ai .sub (.int .u64 (g:Int)) (.int .u64 (1))) fun jI=>
   OP (ai .sub (I (m+2:Nat)) (.int .i64 (1))) fun kK=>
   OP (aY 1 (sl 177 iv 0 (m+2)) kK) fun mQ=>
   OP (af false 1 h mQ) fun jV=>
   OP (dm .u64 jV) fun lL=>
   OP (ai .add (.int .u64 (r:Int)) lL) fun fB=>
   OP (ai .shr fB (.int .u64 (32))) fun mR=>
   OP (ai .gtr mR (.int .u64 (0))) fun jW=>
   aQ jW
    (yy prog K (sl 177 id j (m+3)) (sl 177 iv 0 (m+2)) (I (m+2:Nat)) jI h)
    (([sl 177 id j (m+3),sl 177 iv 0 (m+2),I (m+2:Nat)]:List Value)=[sl 177 id j (m+3),sl 177 iv 0 (m+2),I (m+2:Nat)]∧L [jI,fB] h)):=by
  intro pK
  have hd:=awH eU rX eV uH zU hq pK
  have iF:0<g:=by generalize val 4294967296 ud / val 4294967296 vs=Q at*;omega
  have hq1:val 4294967296 ud / val 4294967296 vs≤g-1:=by generalize val 4294967296 ud / val 4294967296 vs=Q at*;omega
  have aeg:(g-1)*v1+(r+v1)=top:=by
   rw [Nat.sub_mul,Nat.one_mul]
   have:v1≤g*v1:=Nat.le_mul_of_pos_left v1 iF
   omega
  simp only [acN iF (show g<18446744073709551616 by omega),ah,s1,rD (show m+1<m+2 by omega),zero_add,lv1,uw c1,YU (show r+v1<18446744073709551616 by omega),A3,aek,cj]
  refine ⟨fun cL=>?_,fun aB=>⟨trivial,hL (g-1,r+v1) ⟨aeg,by show r+v1<4294967296;omega,by show g-1≤4294967297;omega,hq1⟩ (by show 4294967296-(r+v1)<4294967296-r;omega)⟩⟩
  have pN:g-1<4294967296:=by
   apply byContradiction
   intro hn
   have h3:4294967296*v1≤(g-1)*v1:=mul_le_mul_right _ (by omega)
   have h4:t2*4294967296≤v1*4294967296:=mul_le_mul_right _ EJ
   omega
  refine WZ kg kv bm hn hm hx hj hu lu lv pN hq1 (adH eU eV rY (by omega) aeg pN ?_) V0 hk
  have h5:=Ka pN c0
  have h6:4294967296*4294967296≤(r+v1)*4294967296:=mul_le_mul_right _ cL
  omega
 have last:g<4294967296→g*v2≤r*4294967296+t0→yy prog K (sl 177 id j (m+3)) (sl 177 iv 0 (m+2)) (I (m+2:Nat)) (.int .u64 (g:Int)) h:=fun pN aC=>
  WZ kg kv bm hn hm hx hj hu lu lv pN hq (adH eU eV rY (by omega) zU pN aC) V0 hk
 rw [aBv]
 simp only [A3,ah,aek]
 by_cases pN:4294967296≤g
 ·rw [aW pN]
  simp only [fT,dZ,ah,dM]
  simpa only [true_and] using down (.inl pN)
 ·rw [aT pN]
  have aed:g<4294967296:=by omega
  have hgv:=Ka aed c0
  simp only [eJ,s2,ah,rD (show m<m+2 by omega),rD (show m<m+3 by omega),zero_add,lv0,pY,true_and,uw c0,uw b0,agD (show g*v2<18446744073709551616 by omega),Lp hr,Ko hr b0,awG,c8,cj]
  exact ⟨fun pK=>by simpa only [true_and] using down (.inr pK),fun aC=>last aed (by omega)⟩
end
end
section
theorem VH (k k2:IntKind) {s n:Nat} (hn:n≤k.bits) (hb:n<1000):ai .shr (.int k (s:Int)) (.int k2 (n:Int))=some (.int k ((s / 2^n:Nat):Int)):=by
 simp only [ai,qT]
 rw [if_neg (by omega)]
 have:min ((n:Int).toNat) k.bits=n:=by omega
 rw [this,Int.fdiv_eq_ediv_of_nonneg _ (by have:(0:Int)<2^n:=Int.pow_pos (by decide);omega)]
 congr 2
theorem aEC (k2:IntKind) {x n:Nat} (hn:n<32) (hx:x<4294967296):ai .shl (.int .u64 (x:Int)) (.int k2 (n:Int))=some (.int .u64 ((x*2^n:Nat):Int)):=by
 have h2:2^n≤2^31:=pow_le_pow_right (by decide) (by omega)
 have h3:x*2^n≤4294967295*2^31:=Nat.mul_le_mul (by omega) h2
 have h4:x*2^n<18446744073709551616:=by omega
 simp only [ai,qT]
 rw [if_neg (by omega)]
 have:min ((n:Int).toNat) IntKind.u64.bits=n:=by
  have:IntKind.u64.bits=64:=rfl
  omega
 have e:(x:Int)*2^n=((x*2^n:Nat):Int):=by simp
 rw [this,e,kV (by omega) (by omega)]
theorem az6 {s a q:Nat} (hs:s≤31) (ha:a<2^s) (hq:2^s*q<4294967296):ai .or (.int .u32 (a:Int)) (.int .u32 ((2^s*q:Nat):Int))=some (.int .u32 ((2^s*q+a:Nat):Int)):=by
 have h2:2^s≤2^31:=pow_le_pow_right (by decide) hs
 have JB:2^s*q+a<4294967296:=by
  have h3:q<2^(32-s):=by
   apply byContradiction
   intro hn
   have:2^s*2^(32-s)≤2^s*q:=mul_le_mul_left _ (by omega)
   rw [←pow_add,show s+(32-s)=32 by omega] at this
   omega
  have h4:2^s*(q+1)≤2^s*2^(32-s):=mul_le_mul_left _ (by omega)
  rw [←pow_add,show s+(32-s)=32 by omega,Nat.mul_add] at h4
  omega
 have e:(BitVec.ofInt IntKind.u32.bits (a:Int) ||| BitVec.ofInt IntKind.u32.bits ((2^s*q:Nat):Int)).toNat=2^s*q+a:=by
  show (BitVec.ofInt 32 (a:Int) ||| BitVec.ofInt 32 ((2^s*q:Nat):Int)).toNat=_
  rw [BitVec.ofInt_natCast,BitVec.ofInt_natCast,BitVec.toNat_or,BitVec.toNat_ofNat,BitVec.toNat_ofNat,mod_eq_of_lt (by omega),mod_eq_of_lt (by omega),Nat.or_comm]
  exact (Nat.two_pow_add_eq_or_of_lt ha q).symm
 simp only [ai,gY,if_true]
 rw [e,oK (by omega) (by omega)]
def pZ (x:Nat):Nat:=if x=0 then 0 else x.log2+1
def V3:Value:=(.string ⟨#[0,1,2,2,3,3,3,3,4,4,4,4,4,4,4,4,5,5,5,5,5,5,5,5,5,5,5,5,5,5,5,5,6,6,6,6,6,6,6,6,6,6,6,6,6,6,6,6,6,6,6,6,6,6,6,6,6,6,6,6,6,6,6,6,7,7,7,7,7,7,7,7,7,7,7,7,7,7,7,7,7,7,7,7,7,7,7,7,7,7,7,7,7,7,7,7,7,7,7,7,7,7,7,7,7,7,7,7,7,7,7,7,7,7,7,7,7,7,7,7,7,7,7,7,7,7,7,7,8,8,8,8,8,8,8,8,8,8,8,8,8,8,8,8,8,8,8,8,8,8,8,8,8,8,8,8,8,8,8,8,8,8,8,8,8,8,8,8,8,8,8,8,8,8,8,8,8,8,8,8,8,8,8,8,8,8,8,8,8,8,8,8,8,8,8,8,8,8,8,8,8,8,8,8,8,8,8,8,8,8,8,8,8,8,8,8,8,8,8,8,8,8,8,8,8,8,8,8,8,8,8,8,8,8,8,8,8,8,8,8,8,8,8,8,8,8,8,8,8,8,8,8,8,8,8,8]⟩)
theorem aFb:((List.range 256).map fun x:Nat=>nh V3 (.int .u8 (x:Int)))=(List.range 256).map fun x:Nat=>some (.int .u8 (pZ x:Int)):=by kernel_rfl
theorem aFc {x:Nat} (h:x<256):nh V3 (.int .u8 (x:Int))=some (.int .u8 (pZ x:Int)):=by
 have:=congrArg (fun l=>l[x]?) aFb
 simpa [h] using this
theorem azn {x:Nat} (h:0<x):1≤pZ x∧2^(pZ x-1)≤x∧x<2^pZ x:=by
 unfold pZ
 rw [if_neg (by omega)]
 refine ⟨by omega,?_,Nat.lt_log2_self⟩
 rw [Nat.add_sub_cancel]
 exact Nat.log2_self_le (by omega)
theorem anT {x:Nat} {h:ae} {K:Value→ae→Prop} (h0:0<x) (hx:x<4294967296) (hk:∀n:Nat,1≤n→n≤32→2^(n-1)≤x→x<2^n→K (I n) h):aq prog 141 [.int .u32 (x:Int)] h K:=by
 refine f141 ?_
 have last:∀{y n0:Nat},0<y→y<256→n0≤24→2^n0*y≤x→x<2^n0*(y+1)→KA prog K (.int .u32 (y:Int)) (I n0) h:=by
  intro y n0 y0 aFQ oz eD jO
  rw [aBE]
  have cv:dm .u8 (.int .u32 (y:Int))=some (.int .u8 (y:Int)):=by
   rw [lj];congr 2
   have e:IntKind.wrap .u8 (y:Int)=(y:Int)%256:=by simp [IntKind.wrap,IntKind.bits,IntKind.signed]
   rw [e];omega
  obtain ⟨l1,l2,l3⟩:=azn y0
  have l8:pZ y≤8:=by
   apply byContradiction
   intro hn
   have:2^8≤2^(pZ y-1):=pow_le_pow_right (by decide) (by omega)
   omega
  have ix:=aFc aFQ
  have w1:dm .i64 (.int .u8 (pZ y:Int))=some (I (pZ y)):=by rw [lj,wrap64 (by omega) (by omega)]
  have w2:ai .add (I n0) (I (pZ y))=some (I (n0+pZ y:Nat)):=by rw [cA,wrap64 (by omega) (by omega)];congr 2 <;> omega
  unfold V3 at ix
  rw [cv,ah,ix,ah,w1,ah,w2,ah]
  refine hk _ (by omega) (by omega) ?_ ?_
  ·rw [show n0+pZ y-1=n0+(pZ y-1) by omega,pow_add]
   exact Nat.le_trans (mul_le_mul_left _ l2) eD
  ·rw [pow_add]
   exact lt_of_lt_of_le jO (mul_le_mul_left _ l3)
 have mid:∀{y n0:Nat},0<y→y<65536→n0≤16→2^n0*y≤x→x<2^n0*(y+1)→Kz prog K (.int .u32 (y:Int)) (I n0) h:=by
  intro y n0 y0 y65 oz eD jO
  rw [aBD]
  simp only [nA,ah,cj]
  refine ⟨fun cL=>?_,fun aB=>last y0 (by omega) (by omega) eD jO⟩
  have sh:ai .shr (.int .u32 (y:Int)) (.int .u64 8)=some (.int .u32 ((y / 2^8:Nat):Int)):=VH .u32 .u64 (n:=8) (by decide) (by decide)
  have w2:ai .add (I n0) (.int .i64 8)=some (I (n0+8:Nat)):=by rw [cA,wrap64 (by omega) (by omega)];congr 2
  simp only [sh,ah,w2]
  have lV:=div_add_mod y 256
  have wq:=mod_lt y (show 0<256 by decide)
  refine last (y:=y / 2^8) (by omega) (by omega) (by omega) ?_ ?_
  ·rw [pow_add,mul_assoc]
   exact Nat.le_trans (mul_le_mul_left _ (by omega)) eD
  ·rw [pow_add,mul_assoc]
   exact lt_of_lt_of_le jO (mul_le_mul_left _ (by omega))
 unfold NT
 simp only [nA,ah,cj]
 refine ⟨fun cL=>?_,fun aB=>mid (n0:=0) h0 (by omega) (by decide) (by simp) (by simp)⟩
 have sh:ai .shr (.int .u32 (x:Int)) (.int .u64 16)=some (.int .u32 ((x / 2^16:Nat):Int)):=VH .u32 .u64 (n:=16) (by decide) (by decide)
 simp only [sh,ah]
 have lV:=div_add_mod x 65536
 have wq:=mod_lt x (show 0<65536 by decide)
 exact mid (n0:=16) (y:=x / 2^16) (by omega) (by omega) (by decide) (by omega) (by omega)
theorem anO {x:Nat} {h:ae} {K:Value→ae→Prop} (h0:0<x) (hx:x<4294967296) (hk:∀s:Nat,s≤31→2147483648≤x*2^s→x*2^s<4294967296→K (I s) h):aq prog 135 [.int .u32 (x:Int)] h K:=by
 refine f135 ?_
 unfold NM
 refine anT h0 hx ?_
 intro n h1 h32 eD jO
 have e:ai .sub (.int .i64 32) (I n)=some (I (32-n:Nat)):=by rw [gU,wrap64 (by omega) (by omega)];congr 2;omega
 simp only [e,ah]
 have p1:2^(n-1)*2^(32-n)=2147483648:=by rw [←pow_add,show n-1+(32-n)=31 by omega]
 have p2:2^n*2^(32-n)=4294967296:=by rw [←pow_add,show n+(32-n)=32 by omega]
 refine hk _ (by omega) ?_ ?_
 ·rw [←p1];exact mul_le_mul_right _ eD
 ·rw [←p2];exact Nat.mul_lt_mul_of_pos_right jO (pow_pos (by decide))
end
section
theorem KY {s:Nat} (hs:s≤31):(4294967296:Nat)=2^s*2^(32-s):=by rw [←pow_add,show s+(32-s)=32 by omega]
theorem aFm {s x:Nat} (hs:s≤31) (hx:x<4294967296):(∃q,x*2^s%4294967296=2^s*q)∧x*2^s / 4294967296<2^s:=by
 have e:=KY hs
 have p0:0<2^s:=pow_pos (by decide)
 refine ⟨⟨x%2^(32-s),?_⟩,?_⟩
 ·rw [e,mul_comm x,Nat.mul_mod_mul_left]
 ·rw [Nat.div_lt_iff_lt_mul (by decide),mul_comm x]
  exact Nat.mul_lt_mul_of_pos_left hx p0
theorem aFn {P c t d e X Y:Nat} (h1:X+P*c=Y+P*(d+c)) (h2:4294967296*e+d=t):X+P*4294967296*e=Y+P*t:=by
 rw [←h2]
 grind
theorem WY {v:Value} {xs:List Nat} {s:Nat} {h:ae} {K:Value→ae→Prop} (hx:DS 177 .u32 h v xs) (lx:cn 4294967296 xs) (hs:s≤31) (hl:xs.length≤200)
  (hk:∀os,os.length=xs.length+1→cn 4294967296 os→val 4294967296 os=val 4294967296 xs*2^s→K (sl 177 h.length 0 (xs.length+1)) (hd h os)):aq prog 136 [v,I s] h K:=by
 refine f136 ?_
 have e1:IntKind.wrap .i64 ((xs.length:Int)+1)=((xs.length+1:Nat):Int):=by rw [wrap64 (by omega) (by omega)];omega
 simp only [NN,hx.len,ah,cA,e1,AJ (show xs.length+1≤1000 by omega),aE]
 have p0:0<2^s:=pow_pos (by decide)
 refine dL (σ:=List Nat×Nat) (fun p=>[I p.2]) (fun p=>hd h p.1) (fun p=>p.2≤xs.length∧p.1.length=xs.length+1∧cn 4294967296 p.1∧val 4294967296 p.1=val 4294967296 (xs.take p.2)*2^s∧
   (∀k,p.2<k→k≤xs.length→p.1[k]?=some 0)∧∃c,p.1[p.2]?=some c∧c<2^s) (fun p=>xs.length-p.2)
  (replicate (xs.length+1) 0,0) rfl rfl ⟨zero_le _,by simp,cn.xr (by decide) _,by simp [yG,val],fun k _ (h2:k≤xs.length)=>by rw [List.getElem?_replicate,if_pos (by omega)],0,by simp,p0⟩ ?_
 rintro ⟨os,i⟩ ⟨hi,gX,lo,ca,hz,c,hc,xX⟩ L hL
 simp only at hi gX lo ca hz hc xX hL⊢
 rw [aBo]
 simp only [cN,ah,cj]
 refine ⟨fun aB=>?_,fun cL=>?_⟩
 ·have b6:i<xs.length:=by omega
  obtain ⟨b,r1,r2⟩:=hx.get b6
  have yq:=lx _ (getElem_mem b6)
  have tx:=ji 4294967296 xs b6
  have Vj:af false 1 (hd h os) (pt b i)=some (.int .u32 (xs[i]:Int)):=(kR h os).load r2
  generalize xs[i]=x at*
  obtain ⟨⟨q,hq⟩,EG⟩:=aFm hs yq
  have hcv:os[i]'(by omega)=c:=by
   rw [getElem?_eq_getElem (by omega)] at hc
   injection hc
  have ld:=ad6 (h:=h) (os:=os) (j:=i) (by omega)
  rw [hcv] at ld
  have hqb:2^s*q<4294967296:=by rw [←hq];exact mod_lt _ (by decide)
  have hqc:2^s*q+c<4294967296:=by
   have e:=KY hs
   have h3:q<2^(32-s):=by
    apply byContradiction
    intro hn
    have:2^s*2^(32-s)≤2^s*q:=mul_le_mul_left _ (by omega)
    omega
   have h4:2^s*(q+1)≤2^s*2^(32-s):=mul_le_mul_left _ (by omega)
   rw [Nat.mul_add] at h4
   omega
  have ea:aY 1 (sl 177 h.length 0 (xs.length+1)) (I i)=some (pt h.length i):=nz (by omega)
  have ea2:aY 1 (sl 177 h.length 0 (xs.length+1)) (I (i+1:Nat))=some (pt h.length (i+1)):=nz (by omega)
  have Jj:=div_add_mod (x*2^s) 4294967296
  have qD:x*2^s / 4294967296<4294967296:=by
   have:2^s≤2^31:=pow_le_pow_right (by decide) hs
   omega
  have wi:IntKind.wrap .i64 ((i:Int)+1)=((i+1:Nat):Int):=by rw [wrap64 (by omega) (by omega)];omega
  simp only [r1,Vj,ah,uw yq,aEC .i64 (show s<32 by omega) yq,ea,ld,DU,hq,az6 hs xX hqb,wg _ (show i<os.length by omega),aE,cA,wi,A3,ea2,mod_eq_of_lt qD,
   wg _ (show i+1<(os.set i (2^s*q+c)).length by rw [length_set];omega),true_and]
  have v1:=tW 4294967296 os i (2^s*q+c) (by omega)
  have v2:=tW 4294967296 (os.set i (2^s*q+c)) (i+1) (x*2^s / 4294967296) (by rw [length_set];omega)
  have pW:=hz (i+1) (by omega) (by omega)
  have oD:(os.set i (2^s*q+c))[i+1]'(by rw [length_set];omega)=0:=by
   rw [List.getElem_set_ne (by omega)]
   rw [getElem?_eq_getElem (by omega)] at pW
   injection pW
  rw [hcv] at v1
  rw [oD,mul_zero,add_zero,pow_succ] at v2
  rw [hq] at Jj
  refine hL ((os.set i (2^s*q+c)).set (i+1) (x*2^s / 4294967296),i+1) ⟨by show i+1≤_;omega,by simp [gX],(lo.set hqc i).set qD (i+1),?_,fun k h1 h2=>?_,_,List.getElem?_set_self (by rw [length_set];omega),EG⟩ (by show xs.length-(i+1)<xs.length-i;omega)
  ·show val 4294967296 ((os.set i (2^s*q+c)).set (i+1) (x*2^s / 4294967296))=val 4294967296 (xs.take (i+1))*2^s
   rw [v2,aFn v1 Jj,tx,add_mul,←ca,mul_assoc (4294967296^i) x]
  ·have h1:i+1<k:=h1
   rw [getElem?_set_ne (by omega),getElem?_set_ne (by omega)]
   exact hz k (by omega) h2
 ·have fW:i=xs.length:=by omega
  subst fW
  rw [List.take_length] at ca
  rw [aBn]
  exact hk os gX lo ca
theorem LN (B:Nat) (xs:List Nat) {i:Nat} (hi:i≤xs.length):val B xs=val B (xs.take i)+B^i*val B (xs.drop i):=by
 have:=oJ B (xs.take i) (xs.drop i)
 rwa [List.take_append_drop,length_take,min_eq_left hi] at this
theorem au7 {s x y Z:Nat} (hs:s≤31):(x+4294967296*(y+4294967296*Z)) / 2^s%4294967296=(x+y*4294967296) / 2^s%4294967296:=by
 have e:=KY hs
 have p0:0<2^s:=pow_pos (by decide)
 have:x+4294967296*(y+4294967296*Z)=x+y*4294967296+2^s*(4294967296*(2^(32-s)*Z)):=by
  generalize 2^s=a at*
  generalize 2^(32-s)=b at*
  grind
 rw [this,Nat.add_mul_div_left _ _ p0,Nat.add_mul_mod_self_left]
theorem anR {v:Value} {xs:List Nat} {s:Nat} {h:ae} {K:Value→ae→Prop} (hx:DS 177 .u32 h v xs) (lx:cn 4294967296 xs) (hs:s≤31) (hl:xs.length≤200)
  (hk:∀v' h',EX h h'→dw h' v' (val 4294967296 xs / 2^s)→K v' h'):aq prog 138 [v,I s] h K:=by
 refine f138 ?_
 simp only [NP,hx.len,ah,AJ (show xs.length≤1000 by omega),aE]
 refine dL (σ:=List Nat×Nat) (fun p=>[I p.2]) (fun p=>hd h p.1) (fun p=>p.2≤xs.length∧p.1.length=xs.length∧cn 4294967296 p.1∧val 4294967296 p.1=val 4294967296 xs / 2^s%4294967296^p.2∧
   ∀k,p.2≤k→k<xs.length→p.1[k]?=some 0) (fun p=>xs.length-p.2)
  (replicate xs.length 0,0) rfl rfl ⟨zero_le _,by simp,cn.xr (by decide) _,by simp [yG,Nat.mod_one],fun k _ (h2:k<xs.length)=>by rw [List.getElem?_replicate,if_pos h2]⟩ ?_
 rintro ⟨os,i⟩ ⟨hi,gX,lo,ca,hz⟩ L hL
 simp only at hi gX lo ca hz hL⊢
 rw [aBz]
 simp only [cN,ah,cj]
 refine ⟨fun aB=>?_,fun cL=>?_⟩
 ·have b6:i<xs.length:=by omega
  obtain ⟨b,r1,r2⟩:=hx.get b6
  have yq:=lx _ (getElem_mem b6)
  have Vj:af false 1 (hd h os) (pt b i)=some (.int .u32 (xs[i]:Int)):=(kR h os).load r2
  have wi:IntKind.wrap .i64 ((i:Int)+1)=((i+1:Nat):Int):=by rw [wrap64 (by omega) (by omega)];omega
  have ea:aY 1 (sl 177 h.length 0 xs.length) (I i)=some (pt h.length i):=nz (by omega)
  -- vB gv Iv is
  have fin:∀t:Nat,t / 2^s%4294967296=val 4294967296 (xs.drop i) / 2^s%4294967296→Ky prog K v (I s) (sl 177 h.length 0 xs.length) (I i) (.int .u64 (t:Int)) (I xs.length) (I i) L (hd h os):=by
   intro t ht
   rw [aBw]
   simp only [VH .u64 .i64 (s:=t) (n:=s) (by have:IntKind.u64.bits=64:=rfl;omega) (by omega),ah,DU,ea,wg _ (show i<os.length by omega),aE,aBx,cA,wi,true_and]
   have qD:t / 2^s%4294967296<4294967296:=mod_lt _ (by decide)
   refine hL (os.set i (t / 2^s%4294967296),i+1) ⟨by show i+1≤_;omega,by simp [gX],lo.set qD i,?_,fun k h1 h2=>?_⟩ (by show xs.length-(i+1)<xs.length-i;omega)
   ·show val 4294967296 (os.set i (t / 2^s%4294967296))=val 4294967296 xs / 2^s%4294967296^(i+1)
    have v1:=tW 4294967296 os i (t / 2^s%4294967296) (by omega)
    have pW:=hz i (le_refl _) b6
    have oD:os[i]'(by omega)=0:=by
     rw [getElem?_eq_getElem (by omega)] at pW
     injection pW
    rw [oD,mul_zero,add_zero,ca] at v1
    rw [v1,ht,Nat.mod_pow_succ,Nat.div_div_eq_div_mul,mul_comm (2^s),←Nat.div_div_eq_div_mul]
    congr 3
    rw [LN 4294967296 xs hi]
    have ti:=nr (xs:=xs.take i) (lx.mono fun y hy=>mem_of_mem_take hy)
    rw [length_take,min_eq_left hi] at ti
    have hB:0<4294967296^i:=pow_pos (by decide)
    rw [Nat.add_mul_div_left _ _ hB,Nat.div_eq_of_lt ti,zero_add]
   ·have h1:i+1≤k:=h1
    rw [getElem?_set_ne (by omega)]
    exact hz k (by omega) h2
  have ed:xs.drop i=xs[i]::xs.drop (i+1):=List.drop_eq_getElem_cons b6
  simp only [r1,Vj,ah,uw yq,cA,wi,hx.len,cN,cj]
  refine ⟨fun kr=>?_,fun Q2=>?_⟩
  ·have Q7:i+1<xs.length:=by omega
   obtain ⟨b2,s1,s2⟩:=hx.get Q7
   have qR:=lx _ (getElem_mem Q7)
   have s2':af false 1 (hd h os) (pt b2 (i+1))=some (.int .u32 (xs[i+1]:Int)):=(kR h os).load s2
   have eor:ai .or (.int .u64 (xs[i]:Int)) (.int .u64 ((xs[i+1]*4294967296:Nat):Int))=some (.int .u64 ((xs[i]+xs[i+1]*4294967296:Nat):Int)):=by
    have:=Ko qR yq
    simp only [ai,gY,if_true] at this⊢
    rw [BitVec.or_comm,this,Nat.add_comm]
   simp only [s1,s2',ah,uw qR,Lp qR,eor]
   refine fin _ ?_
   rw [ed,List.drop_eq_getElem_cons Q7]
   simp only [val]
   rw [au7 hs]
  ·refine fin _ ?_
   rw [ed,List.drop_eq_nil_of_le (by omega)]
   simp [val]
 ·have fW:i=xs.length:=by omega
  subst fW
  have aB:val 4294967296 xs / 2^s<4294967296^xs.length:=Nat.lt_of_le_of_lt (Nat.div_le_self ..) (nr lx)
  rw [mod_eq_of_lt aB] at ca
  rw [aBy]
  have xY:DS 177 .u32 (hd h os) (sl 177 h.length 0 xs.length) os:=by rw [←gX];exact zO h os
  refine sG xY lo (by omega) ?_
  intro v' lZ
  rw [ca] at lZ
  exact hk v' _ (kR h os) lZ
end
section
theorem au4 {A Q V low D P:Nat} (hA:A=low+P*D+Q*V):A=low+P*(D%V)+(Q+P*(D / V))*V:=by
 have:=div_add_mod D V
 have e:P*(V*(D / V)+D%V)=P*D:=by rw [this]
 rw [hA,add_mul]
 have e2:P*(V*(D / V)+D%V)=P*(D / V)*V+P*(D%V):=by grind
 omega
theorem aFd {B n U l d:Nat} (h:U=l+B^n*d) (hU:U<B^n):d=0:=by
 apply byContradiction
 intro bm
 have:B^n*1≤B^n*d:=mul_le_mul_left _ (by omega)
 generalize B^n=Z at*
 omega
theorem aFh {B j m U V L D X T:Nat} (h1:U=L+B^j*D) (h2:D=X+B^(m+3)*T) (hV:V<B^(m+2)) (hB:0<B) (aB:U<V*B^(j+1)):T=0:=by
 apply byContradiction
 intro bm
 have a1:B^(m+3)*1≤B^(m+3)*T:=mul_le_mul_left _ (by omega)
 have a2:B^j*B^(m+3)≤B^j*D:=mul_le_mul_left _ (by rw [h2];generalize B^(m+3)*T=z at*;omega)
 have a3:V*B^(j+1)<B^(m+2)*B^(j+1):=Nat.mul_lt_mul_of_pos_right hV (pow_pos hB)
 rw [←pow_add] at a2 a3
 rw [show m+2+(j+1)=j+(m+3) by omega] at a3
 generalize B^(j+(m+3))=z at*
 generalize V*B^(j+1)=w at*
 generalize B^j*D=y at*
 omega
theorem arh {B j V L D U:Nat} (h1:U=L+B^j*D) (aB:U<V*B^(j+1)):D<V*B:=by
 apply byContradiction
 intro bm
 have a1:B^j*(V*B)≤B^j*D:=mul_le_mul_left _ (by omega)
 have a2:V*B^(j+1)=B^j*(V*B):=by
  rw [pow_succ]
  generalize B^j=z
  rw [←mul_assoc,mul_comm _ z,mul_assoc]
 rw [a2] at aB
 generalize B^j*(V*B)=w at*
 generalize B^j*D=y at*
 omega
theorem azm {B j L r V:Nat} (hL:L<B^j) (hr:r<V):L+B^j*r<V*B^j:=by
 have:B^j*(r+1)≤B^j*V:=mul_le_mul_left _ hr
 rw [Nat.mul_add,Nat.mul_one] at this
 rw [mul_comm V]
 generalize B^j*V=w at*
 generalize B^j*r=y at*
 generalize B^j=z at*
 omega
theorem azM {n b s top:Nat} {vs ys:List Nat} (cv:di 4294967296 vs) (ly:cn 4294967296 ys) (hn:ys.length=n+1) (tq:ys[n]?=some top) (hb:val 4294967296 ys=b) (hv:val 4294967296 vs=b*2^s) (hs:s≤31) (h1:2147483648≤top*2^s) (h2:top*2^s<4294967296):
  vs.length=n+1∧∃v1,vs[n]?=some v1∧2147483648≤v1:=by
 have te:ys[n]'(by omega)=top:=by
  rw [getElem?_eq_getElem (by omega)] at tq
  injection tq
 have tv:=ji 4294967296 ys (i:=n) (by omega)
 rw [take_of_length_le (by omega),te,hb] at tv
 have ti:=nr (xs:=ys.take n) (ly.mono fun y hy=>mem_of_mem_take hy)
 rw [length_take,min_eq_left (by omega)] at ti
 generalize val 4294967296 (ys.take n)=l at*
 have hP:0<4294967296^n:=pow_pos (by decide)
 have eD:2147483648*4294967296^n≤b*2^s:=by
  have e1:top*2^s*4294967296^n≤b*2^s:=by
   rw [tv,add_mul]
   have:4294967296^n*top*2^s=top*2^s*4294967296^n:=by
    rw [mul_assoc,mul_comm]
   omega
  exact Nat.le_trans (mul_le_mul_right _ h1) e1
 have jO:b*2^s<4294967296^(n+1):=by
  have e:=KY hs
  have p0:0<2^s:=pow_pos (by decide)
  have t1:top+1≤2^(32-s):=by
   apply byContradiction
   intro hn
   have:2^s*2^(32-s)≤2^s*top:=mul_le_mul_left _ (by omega)
   rw [mul_comm (2^s) top] at this
   omega
  have t2:b<(top+1)*4294967296^n:=by
   rw [tv,add_mul,Nat.one_mul,mul_comm top]
   omega
  have t3:b*2^s<(top+1)*4294967296^n*2^s:=Nat.mul_lt_mul_of_pos_right t2 p0
  have t4:(top+1)*4294967296^n*2^s≤2^(32-s)*4294967296^n*2^s:=mul_le_mul_right _ (mul_le_mul_right _ t1)
  have t5:2^(32-s)*4294967296^n*2^s=4294967296^n*(2^s*2^(32-s)):=by
   generalize 2^(32-s)=x
   generalize 2^s=y
   generalize 4294967296^n=z
   grind
  rw [t5,←e,←pow_succ] at t4
  omega
 have hle:vs.length≤n+1:=cv.len (by decide) (by rw [hv];exact jO)
 have cL:n<vs.length:=by
  have h3:=nr cv.1
  rw [hv] at h3
  have h4:4294967296^n<4294967296^vs.length:=by
   have:1*4294967296^n≤2147483648*4294967296^n:=mul_le_mul_right _ (by decide)
   omega
  exact (Nat.pow_lt_pow_iff_right (by decide)).1 h4
 refine ⟨by omega,vs[n],getElem?_eq_getElem cL,?_⟩
 have t2:=ji 4294967296 vs (i:=n) cL
 rw [take_of_length_le (by omega),hv] at t2
 have qF:=nr (xs:=vs.take n) (cv.1.mono fun y hy=>mem_of_mem_take hy)
 rw [length_take,min_eq_left (by omega)] at qF
 apply byContradiction
 intro hc
 have:4294967296^n*(vs[n]+1)≤4294967296^n*2147483648:=mul_le_mul_left _ (by omega)
 rw [Nat.mul_add,Nat.mul_one,mul_comm _ 2147483648] at this
 omega
theorem aEJ {id N l r:Nat} (h1:l≤r) (h2:r≤N):mJ 177 1 (sl 177 id 0 N) (some (I l)) (some (I r))=some (sl 177 id l (r-l)):=by
 simp [mJ,sl,sf,tI,h1,h2]
theorem aEK {id N r:Nat} (h2:r≤N):mJ 177 1 (sl 177 id 0 N) none (some (I r))=some (sl 177 id 0 r):=by
 simp [mJ,sl,sf,tI,h2]
section
variable {h : ae} {K : Value → ae → Prop}
theorem anN {g:ae} {id iq iv m s nq A:Nat} {vs us:List Nat} {rest:List Value} {v1:Nat} (iQ:h.length≤id) (hiq:h.length≤iq) (bm:iv≠id) (Rm:iv≠iq) (aeH:id≠iq) (hn:vs.length=m+2) (hm:m≤1000) (hs:s≤31)
  (lv:cn 4294967296 vs) (tu:vs[m+1]?=some v1) (jO:2147483648≤v1) (rX:us.length=nq+1+(m+2)) (hnq:nq≤200) (qI:m≤150) (lu:cn 4294967296 us) (hA:val 4294967296 us=A) (IY:A<val 4294967296 vs*4294967296^(nq+1))
  (hx:EX h g) (ku:g[id]?=some (.arr 177 (wv us))) (kq:g[iq]?=some (.arr 177 (wv (replicate (nq+1) 0)))) (kv:aR g iv=some (wv vs++rest))
  (hk:∀q r h',EX h h'→dw h' q (A / val 4294967296 vs)→dw h' r (A%val 4294967296 vs / 2^s)→K (.tuple #[q,r]) h'):
  cJ [I nq] g fun L1 xs hx=>TQ prog K (I s) (sl 177 iv 0 (m+2)) (sl 177 id 0 (nq+1+(m+2))) (I (m+2:Nat)) (sl 177 iq 0 (nq+1)) L1 xs hx:=by
 have V0:0<val 4294967296 vs:=by
  apply Nat.pos_of_ne_zero
  intro e
  rw [e,Nat.zero_mul] at IY
  omega
 have Vn:=nr lv
 rw [hn] at Vn
 refine dL (σ:=Nat×List Nat×List Nat×ae) (fun p=>[I ((p.1:Int)-1)]) (fun p=>p.2.2.2)
  (fun p=>p.1≤nq+1∧EX h p.2.2.2∧p.2.1.length=nq+1+(m+2)∧cn 4294967296 p.2.1∧p.2.2.1.length=nq+1∧cn 4294967296 p.2.2.1∧(∀k,k<p.1→p.2.2.1[k]?=some 0)∧
   A=val 4294967296 p.2.1+val 4294967296 p.2.2.1*val 4294967296 vs∧val 4294967296 p.2.1<val 4294967296 vs*4294967296^p.1∧
   p.2.2.2[id]?=some (.arr 177 (wv p.2.1))∧p.2.2.2[iq]?=some (.arr 177 (wv p.2.2.1))∧aR p.2.2.2 iv=some (wv vs++rest)) (fun p=>p.1)
  (nq+1,us,replicate (nq+1) 0,g) (by simp) rfl ⟨le_refl _,hx,rX,lu,by simp,cn.xr (by decide) _,fun k (hk:k<nq+1)=>by rw [List.getElem?_replicate,if_pos hk],by show A=_;rw [hA,yG];simp,by show val 4294967296 us<_;rw [hA];exact IY,ku,kq,kv⟩ ?_
 clear ku kq kv hx lu hA rX us g
 rintro ⟨jn,us,qs,g⟩ ⟨wm,hx,rX,lu,qL,lq,hz,hA,aB,ku,kq,kv⟩ L hL
 simp only at wm hx rX lu qL lq hz hA aB ku kq kv hL⊢
 rw [aBl]
 simp only [nA,ah,cj]
 refine ⟨fun cL=>?_,fun gW=>?_⟩
 ·obtain ⟨j,rfl⟩:∃j,jn=j+1:=⟨jn-1,by omega⟩
  have ej:((j+1:Nat):Int)-1=(j:Int):=by omega
  have w1:ai .add (I j) (I (m+2:Nat))=some (I (j+(m+2):Nat)):=by rw [cA,wrap64 (by omega) (by omega)];congr 2
  have w2:ai .add (I (j+(m+2):Nat)) (.int .i64 1)=some (I (j+(m+3):Nat)):=by rw [cA,wrap64 (by omega) (by omega)];congr 2
  have w3:ai .sub (I j) (.int .i64 1)=some (I ((j:Int)-1)):=by rw [gU,wrap64 (by omega) (by omega)]
  have w4:j+(m+3)-j=m+3:=by omega
  rw [ej]
  simp only [w1,w2,ah,aEJ (show j≤j+(m+3) by omega) (show j+(m+3)≤nq+1+(m+2) by omega),w4]
  have qD:((us.drop j).take (m+3)).length=m+3:=by rw [length_take,List.length_drop];omega
  have hud:∀k,k≤m+2→us[j+k]?=((us.drop j).take (m+3))[k]?:=by
   intro k hk
   rw [List.getElem?_take_of_lt (by omega),List.getElem?_drop]
  have lud:cn 4294967296 ((us.drop j).take (m+3)):=lu.mono fun y hy=>List.mem_of_mem_drop (mem_of_mem_take hy)
  -- gv number:vB is below,vB is aF0,and nothing aFU
  have mC:=LN 4294967296 us (i:=j) (by omega)
  have zN:=LN 4294967296 (us.drop j) (i:=m+3) (by rw [List.length_drop];omega)
  have ti:=nr (xs:=us.take j) (lu.mono fun y hy=>mem_of_mem_take hy)
  rw [length_take,min_eq_left (by omega)] at ti
  have tq:val 4294967296 ((us.drop j).drop (m+3))=0:=aFh mC zN Vn (by decide) aB
  rw [tq,mul_zero,add_zero] at zN
  rw [zN] at mC
  have uH:val 4294967296 ((us.drop j).take (m+3))<val 4294967296 vs*4294967296:=arh mC aB
  refine anP ku kv bm hn hm qD (by omega) hud lud lv tu jO uH ?_
  intro rs hrl lr hrv
  have kq':(g.set id (.arr 177 (wv (mid us j rs))))[iq]?=some (.arr 177 (wv qs)):=by rw [getElem?_set_ne aeH];exact kq
  have avT:aY 1 (sl 177 iq 0 (nq+1)) (I j)=some (pt iq j):=nz (by omega)
  simp only [avT,ah,DB _ kq' (show j<qs.length by omega),aE,w3,true_and]
  have EG:val 4294967296 ((us.drop j).take (m+3)) / val 4294967296 vs<4294967296:=by
   rw [Nat.div_lt_iff_lt_mul V0,mul_comm];exact uH
  have hmr:val 4294967296 (mid us j rs)=val 4294967296 (us.take j)+4294967296^j*(val 4294967296 ((us.drop j).take (m+3))%val 4294967296 vs):=by
   unfold mid
   rw [oJ,oJ,length_take,min_eq_left (by omega),hrv,hrl]
   have:us.drop (j+(m+3))=(us.drop j).drop (m+3):=by rw [List.drop_drop]
   rw [this,tq,mul_zero,add_zero]
  have pW:=hz j (by omega)
  have oD:qs[j]'(by omega)=0:=by
   rw [getElem?_eq_getElem (by omega)] at pW
   injection pW
  have hqs:=tW 4294967296 qs j (val 4294967296 ((us.drop j).take (m+3)) / val 4294967296 vs) (by omega)
  rw [oD,mul_zero,add_zero] at hqs
  have oY:=mod_lt (val 4294967296 ((us.drop j).take (m+3))) V0
  refine hL (j,mid us j rs,qs.set j (val 4294967296 ((us.drop j).take (m+3)) / val 4294967296 vs),_) ⟨by show j≤_;omega,(hx.set iQ _).set hiq _,by rw [CB (by omega)];exact rX,?_,by rw [length_set];exact qL,lq.set EG j,fun k hk=>?_,?_,?_,?_,cU kq',?_⟩ (by show j<j+1;omega)
  ·unfold mid
   exact (lu.mono fun y hy=>mem_of_mem_take hy).append (lr.append (lu.mono fun y hy=>List.mem_of_mem_drop hy))
  ·have hk:k<j:=hk
   rw [getElem?_set_ne (by omega)]
   exact hz k (by omega)
  ·show A=val 4294967296 (mid us j rs)+val 4294967296 (qs.set j _)*val 4294967296 vs
   rw [hmr,hqs]
   refine au4 ?_
   rw [hA,mC]
  ·show val 4294967296 (mid us j rs)<val 4294967296 vs*4294967296^j
   rw [hmr]
   exact azm ti oY
  ·rw [getElem?_set_ne aeH.symm];exact cU ku
  ·rw [DP Rm,DP bm];exact kv
 ·have nG:jn=0:=by omega
  subst nG
  rw [Nat.pow_zero,Nat.mul_one] at aB
  have hQ:A / val 4294967296 vs=val 4294967296 qs:=by rw [hA,Nat.add_mul_div_right _ _ V0,Nat.div_eq_of_lt aB,zero_add]
  have hR:A%val 4294967296 vs=val 4294967296 us:=by rw [hA,Nat.add_mul_mod_self_right,mod_eq_of_lt aB]
  have hdq:DS 177 .u32 g (sl 177 iq 0 (nq+1)) qs:=.inr ⟨iq,by rw [qL],.inr ⟨[],by rw [List.append_nil];simp [aR,kq,wv]⟩⟩
  rw [aBm]
  refine sG hdq lq (by omega) ?_
  intro q hq
  have pS:val 4294967296 (us.take (m+2))=val 4294967296 us:=by
   have hd:=LN 4294967296 us (i:=m+2) (by omega)
   have:val 4294967296 (us.drop (m+2))=0:=aFd hd (Nat.lt_trans aB Vn)
   rw [this,mul_zero,add_zero] at hd
   exact hd.symm
  have I8:DS 177 .u32 g (sl 177 id 0 (m+2)) (us.take (m+2)):=.inr ⟨id,by rw [length_take,min_eq_left (by omega)],.inr ⟨wv (us.drop (m+2)),by
   simp only [aR,ku]
   congr 1
   show wv us=wv (us.take (m+2))++wv (us.drop (m+2))
   unfold wv
   rw [←List.map_append,List.take_append_drop]⟩⟩
  simp only [true_and,aEK (show m+2≤nq+1+(m+2) by omega),ah]
  refine sG I8 (lu.mono fun y hy=>mem_of_mem_take hy) (by rw [length_take];omega) ?_
  intro r0 qN
  rw [pS] at qN
  obtain ⟨zs,dz,cz,hz⟩:=qN
  have lz:zs.length≤m+2:=cz.len (by decide) (by rw [hz];exact Nat.lt_trans aB Vn)
  refine anR dz cz.1 hs (by omega) ?_
  intro r h' x' hr
  rw [hz,←hR] at hr
  rw [←hQ] at hq
  exact hk q r h' (hx.trans x') (hq.mono x') hr
end
end
section
theorem aEN {B a P Q s n l V:Nat} (ha:a<P*B^(n-1)) (hV:2147483648*P≤V) (hB:2^s≤2147483648) (hl:l=n) (hQ:Q=B^(n-1)) (_h:1≤n):a*2^s<V*Q:=by
 have _:=hl
 have h1:a*2^s<P*B^(n-1)*2^s:=Nat.mul_lt_mul_of_pos_right ha (pow_pos (by decide))
 have h2:P*B^(n-1)*2^s≤P*B^(n-1)*2147483648:=mul_le_mul_left _ hB
 have h3:2147483648*P*B^(n-1)≤V*B^(n-1):=mul_le_mul_right _ hV
 have e:P*B^(n-1)*2147483648=2147483648*P*B^(n-1):=by
  generalize B^(n-1)=z
  rw [mul_comm,←mul_assoc]
 rw [hQ]
 generalize V*B^(n-1)=x at*
 omega
theorem WU {va vb:Value} {a b:Nat} {h:ae} {K:Value→ae→Prop} (ha:dw h va a) (hb:dw h vb b) (la:a<cw) (lb:b<cw) (b0:0<b) (hk:∀q r h',EX h h'→dw h' q (a / b)→dw h' r (a%b)→K (.tuple #[q,r]) h'):
  aq prog 130 [va,vb] h K:=by
 by_cases I3:b<4294967296
 ·exact anM ha hb la b0 I3 hk
 refine f130 ?_
 unfold GP
 refine Gi ha hb la lb ?_
 simp only [cN,ah,cj]
 refine ⟨fun aB=>?_,fun cL=>?_⟩
 ·have gn:=Lo.1 aB
  have oh:=ha
  obtain ⟨xs,d,c,rfl⟩:=ha
  obtain ⟨s1,s2⟩:=d.cells
  have lx:=qq c la
  have hq:∀g,dw g (.slice none 0 0) (val 4294967296 xs / b):=fun g=>⟨[],DS.nil _ _ _,⟨fun x hx=>by simp at hx,by simp⟩,by rw [Nat.div_eq_of_lt gn];rfl⟩
  by_cases h0:xs.length=0
  ·have e:dI 177 1 4 h (.slice none 0 0) va=some (.slice none 0 0,h):=by
    simp only [dI,s1,s2]
    rw [if_pos h0]
   simp only [e,aE]
   have:xs=[]:=List.length_eq_zero_iff.1 h0
   subst this
   exact hk _ _ h (EX.refl h) (hq h) ⟨[],DS.nil _ _ _,c,by rw [mod_eq_of_lt gn]⟩
  ·have e:dI 177 1 4 h (.slice none 0 0) va=some (sl 177 h.length 0 xs.length,h++[.arr 177 (xs.map fun d:Nat=>Value.int .u32 (d:Int))]):=by
    simp only [dI,s1,s2]
    rw [if_neg h0,if_pos ⟨by omega,by unfold maxLen;omega⟩]
   simp only [e,aE]
   refine hk _ _ _ (EX.append _ _) (hq _) ⟨xs,.inr ⟨h.length,rfl,.inr ⟨[],?_⟩⟩,c,by rw [mod_eq_of_lt gn]⟩
   simp [aR]
 have gn:b≤a:=by
  apply byContradiction
  intro hc
  exact cL (Lo.2 (by omega))
 obtain ⟨xs,dx,cx,R4⟩:=ha
 obtain ⟨ys,dy,cy,qR⟩:=hb
 have lx:=qq cx (by rw [R4];exact la)
 have ly:=qq cy (by rw [qR];exact lb)
 have kA:=nr cy.1
 rw [qR] at kA
 obtain ⟨m,hm⟩:∃m,ys.length=m+2:=by
  refine ⟨ys.length-2,?_⟩
  have:¬ys.length≤1:=by
   intro h1
   have:4294967296^ys.length≤4294967296^1:=pow_le_pow_right (by decide) h1
   rw [Nat.pow_one] at this
   generalize 4294967296^ys.length=z at*
   omega
  omega
 have ax5:ys≠[]:=by rintro rfl;simp at hm
 have afd:=di.low (by decide) cy ax5
 have iz:=nr cx.1
 rw [R4] at iz
 rw [qR] at afd
 have hlen:ys.length≤xs.length:=by
  have:4294967296^(ys.length-1)<4294967296^xs.length:=Nat.lt_of_le_of_lt afd (Nat.lt_of_le_of_lt gn iz)
  have:=(Nat.pow_lt_pow_iff_right (show 1<4294967296 by decide)).1 this
  omega
 -- gv aF6 Iv
 obtain ⟨ib,g1,g2⟩:=dy.get (j:=m+1) (by omega)
 have tq:ys[m+1]?=some (ys[m+1]'(by omega)):=getElem?_eq_getElem (by omega)
 have EK:=cy.1 _ (getElem_mem (l:=ys) (n:=m+1) (by omega))
 have wE:0<ys[m+1]'(by omega):=by
  apply Nat.pos_of_ne_zero
  intro e
  refine cy.2 ?_
  rw [List.getLast?_eq_getElem?,hm,show m+2-1=m+1 by omega,tq,e]
 have SI:bc vb=some (I (m+2:Nat)):=by rw [dy.len,hm]
 have s1:ai .sub (I (m+2:Nat)) (.int .i64 1)=some (I (m+1:Nat)):=by rw [gU,wrap64 (by omega) (by omega)];congr 2;omega
 simp only [SI,ah,jo,aT (show ¬(((m+2:Nat):Int)=1) by omega),dP,s1,g1,g2]
 generalize ys[m+1]'(by omega)=top at*
 refine anO wE EK ?_
 intro s hs h1 h2
 refine WY dy cy.1 hs (by omega) ?_
 intro gu ol1 lo1 tu
 rw [qR] at tu
 have d1:DS 177 .u32 (hd h gu) (sl 177 h.length 0 (ys.length+1)) gu:=by rw [←ol1];exact zO h gu
 refine sG d1 lo1 (by omega) ?_
 intro v' lZ
 rw [tu] at lZ
 obtain ⟨vs,dv,cv,Ak⟩:=lZ
 obtain ⟨rY,v1,RX,ae4⟩:=azM (n:=m+1) cv cy.1 hm tq qR Ak hs h1 h2
 obtain ⟨iv,axc,rest,kv⟩:∃i,v'=sl 177 i 0 (m+2)∧∃rest,aR (hd h gu) i=some (wv vs++rest):=by
  rcases dv with ⟨_,h0⟩ | ⟨i,e1,e2⟩
  ·rw [h0] at rY;simp at rY
  ·rcases e2 with h0 | ⟨r,hr⟩
   ·rw [h0] at rY;simp at rY
   ·exact ⟨i,by rw [e1,rY],r,hr⟩
 subst axc
 have aGe:iv<(hd h gu).length:=by
  unfold aR at kv
  apply byContradiction
  intro hn
  rw [List.getElem?_eq_none (by omega)] at kv
  cases kv
 refine WY (dx.mono (kR h gu)) cx.1 hs (by omega) ?_
 intro CH ol2 lo2 pU
 rw [R4] at pU
 have x2:=kR (hd h gu) CH
 have k2:=QT (hd h gu) CH
 have l2:(hd (hd h gu) CH).length=(hd h gu).length+1:=by simp [hd]
 have kv2:=x2.cells kv
 have E9:bc (sl 177 iv 0 (m+2))=some (I (m+2:Nat)):=rfl
 obtain ⟨nq,hnq⟩:∃nq,xs.length=nq+(m+2):=⟨xs.length-(m+2),by omega⟩
 have w1:ai .sub (I (xs.length:Nat)) (I (m+2:Nat))=some (I nq):=by rw [gU,wrap64 (by omega) (by omega)];congr 2;omega
 have w2:ai .add (I nq) (.int .i64 1)=some (I (nq+1:Nat)):=by rw [cA,wrap64 (by omega) (by omega)];congr 2
 simp only [E9,ah,dx.len,w1,w2,AJ (show nq+1≤1000 by omega),aE]
 have x3:=kR (hd (hd h gu) CH) (replicate (nq+1) 0)
 have k3:=QT (hd (hd h gu) CH) (replicate (nq+1) 0)
 have E3:=x3.get k2
 have kv3:=x3.cells kv2
 have xA:=(kR h gu).trans (x2.trans x3)
 have Rf:=(kR h gu).1
 generalize hd (hd (hd h gu) CH) (replicate (nq+1) 0)=g3 at*
 have eN:xs.length+1=nq+1+(m+2):=by omega
 rw [eN]
 have axS:2^s≤2147483648:=pow_le_pow_right (show 0<2 by decide) hs
 have awM:2147483648*4294967296^(m+1)≤val 4294967296 vs:=by
  have tv:=ji 4294967296 vs (i:=m+1) (by omega)
  rw [take_of_length_le (by omega)] at tv
  have e1:vs[m+1]'(by omega)=v1:=by
   rw [getElem?_eq_getElem (by omega)] at RX
   injection RX
  rw [e1] at tv
  rw [tv,mul_comm]
  have:4294967296^(m+1)*2147483648≤4294967296^(m+1)*v1:=mul_le_mul_left _ ae4
  generalize 4294967296^(m+1)*v1=z at*
  omega
 have IY:a*2^s<val 4294967296 vs*4294967296^(nq+1):=by
  have ax3:a<4294967296^(m+1)*4294967296^(nq+1):=by
   rw [←pow_add,show m+1+(nq+1)=xs.length by omega];exact iz
  exact aEN (n:=nq+2) (l:=nq+2) (by simpa using ax3) awM axS rfl (by simp) (by omega)
 have YT:0<2^s:=pow_pos (by decide)
 refine anN (h:=h) (A:=a*2^s) (by omega) (by omega) (by omega) (by omega) (by omega) rY (by omega) hs cv.1 RX ae4 (by omega) (by omega) (by omega) lo2 pU IY xA E3 k3 kv3 ?_
 intro q r h' x' hq hr
 rw [Ak,Nat.mul_div_mul_right _ _ YT] at hq
 rw [Ak,Nat.mul_mod_mul_right,Nat.mul_div_cancel _ YT] at hr
 exact hk q r h' x' hq hr
end
section
def hY (h:ae) (val:Value) (a b:Int):Prop:=∃u w,val=.agg #[B (decide (a<0)),u,B (decide (b<0)),w]∧dw h u a.natAbs∧dw h w b.natAbs
theorem WJ {va:Value} {a:Int} {h:ae} {K:Value→ae→Prop} (ha:dQ h va a) (hk:∀r h',EX h h'→hY h' r a 1→K r h'):aq prog 112 [va] h K:=by
 obtain ⟨v,rfl,hv⟩:=ha
 refine f112 ?_
 have e1:bC 105 h (.agg #[B (decide (a<0)),v])=some (pt h.length 0,h++[.arr 105 [B (decide (a<0)),v]]):=rfl
 have e2:∀g:ae,ba 107 [(.bool false),(.slice none 0 0),(.bool false),(.slice none 0 0)] g=some (pt g.length 0,g++[.arr 107 z4]):=fun _=>rfl
 simp only [Np,e1,e2,aE,length_append,length_cons,length_nil]
 have g0:(h++[ak.arr 105 [B (decide (a<0)),v]]++[ak.arr 107 z4])[h.length]?=some (.arr 105 [B (decide (a<0)),v]):=by simp
 have g1:(h++[ak.arr 105 [B (decide (a<0)),v]]++[ak.arr 107 z4])[h.length+1]?=some (.arr 107 z4):=by simp
 have x1:EX h (h++[ak.arr 105 [B (decide (a<0)),v]]++[ak.arr 107 z4]):=(EX.append _ _).push _
 generalize h++[ak.arr 105 [B (decide (a<0)),v]]++[ak.arr 107 z4]=h1 at g0 g1 x1⊢
 rw [dC g0]
 simp only [ah,true_and]
 refine De (by decide) (by decide) ?_
 intro r2 h2 x2 i2
 obtain ⟨w,rfl,hw⟩:=id i2
 refine ⟨⟨EX.load x2 (dC g0),trivial⟩,?_⟩
 have pU:=(hv.mono x1).mono x2
 obtain ⟨xs,dx,cx⟩:=id pU
 obtain ⟨ys,dy,cy⟩:=id hw
 rw [G4 dx dy]
 simp only [ah,zero_add]
 have g2:=x2.get g1
 exact sS g2 (hk _ _ ((x1.trans x2).set (by omega) _) ⟨v,w,rfl,pU.bS g2 _,hw.bS g2 _⟩)
theorem C90 {u w:Value} {s:Bool} {h:ae} {K:Value→ae→Prop} (hw:dw h w 1) (hk:∀h',EX h h'→K (B true) h'):aq prog 90 [.agg #[B s,u,B false,w]] h K:=by
 refine f90 ?_
 have e1:bC 107 h (.agg #[B s,u,B false,w])=some (pt h.length 0,h++[.arr 107 [B s,u,B false,w]]):=rfl
 simp only [GQ,e1,aE]
 have x1:EX h (h++[ak.arr 107 [B s,u,B false,w]]):=EX.append _ _
 have l3:af false 1 (h++[ak.arr 107 [B s,u,B false,w]]) (pt h.length 3)=some w:=nL rfl
 obtain ⟨xs,dx,cx,vx⟩:=hw.mono x1
 have hx1:xs=[1]:=di.unique (by decide) cx ⟨fun y hy=>by simp at hy;subst hy;decide,by simp⟩ (by rw [vx];rfl)
 subst hx1
 obtain ⟨i,g1,g2⟩:=dx.get (j:=0) (by simp)
 have zz:aY 1 w (I 0)=some (pt i 0):=g1
 simp only [b9,zero_add,ah,l3,dx.len,List.length_singleton,jo,Vh]
 rw [aW (show ((1:Nat):Int)=1 by rfl)]
 simp only [iY,ah,zz,g2,jo,Vi,dZ]
 exact hk _ x1
end
section
theorem hY.mono {h h':ae} {v:Value} {a b:Int} (x:EX h h') (p:hY h v a b):hY h' v a b:=let ⟨u,w,e,m,n⟩:=p;⟨u,w,e,m.mono x,n.mono x⟩
theorem hY.bS {h:ae} {v:Value} {a b:Int} {j:Nat} {e:TypeId} {s:Bool} {r:List Value} (p:hY h v a b) (hj:h[j]?=some (.arr e (.bool s::r))) (o:ak):hY (h.set j o) v a b:=
 let ⟨u,w,e,m,n⟩:=p;⟨u,w,e,m.bS hj o,n.bS hj o⟩
theorem IE {h h':ae} {j:Nat} {va vb:Value} {a b:Int} {K:Value→ae→Prop} (ha:dQ h' va a) (hb:dQ h' vb b) (x:EX h h') (hj:h.length≤j) (hg:h'[j]?=some (.arr 107 z4)) (hk:∀r h',EX h h'→hY h' r a b→K r h'):
  OP (dW [(.bool false),(.slice none 0 0),(.bool false),(.slice none 0 0)] [(0,2,va),(2,2,vb)]) fun bV=>OH (aK 4 h' (pt j 0) bV) fun _ h_6=>OP (af true 4 h_6 (pt j 0)) fun r0=>K r0 h_6:=by
 obtain ⟨v,rfl,hv⟩:=ha
 obtain ⟨w,rfl,hw⟩:=hb
 obtain ⟨xs,dx,_⟩:=id hv
 obtain ⟨ys,dy,_⟩:=id hw
 rw [G4 dx dy]
 simp only [ah]
 exact sS hg (hk _ _ (x.set hj _) ⟨v,w,rfl,hv.bS hg _,hw.bS hg _⟩)
theorem C75 {n:Int} {h:ae} {K:Value→ae→Prop} (h1: -9223372036854775808≤n) (h2:n<9223372036854775808) (hk:∀r h',EX h h'→hY h' r n 1→K r h'):aq prog 75 [I n] h K:=by
 refine f75 ?_
 have e1:ba 107 [(.bool false),(.slice none 0 0),(.bool false),(.slice none 0 0)] h=some (pt h.length 0,h++[.arr 107 z4]):=rfl
 simp only [Oj,e1,aE]
 have x0:EX h (h++[.arr 107 z4]):=EX.append _ _
 have g0:(h++[ak.arr 107 z4])[h.length]?=some (.arr 107 z4):=bZ
 generalize h++[ak.arr 107 z4]=ga at x0 g0⊢
 refine De h1 h2 ?_
 intro r h3 x3 i3
 refine De (by decide) (by decide) ?_
 intro s h4 x4 i4
 exact IE (i3.mono x4) i4 (x0.trans (x3.trans x4)) (le_refl _) ((x3.trans x4).get g0) hk
theorem awx {a b:Int} (b0:0<b):0<(gcd a.natAbs b.natAbs:Int)∧(gcd a.natAbs b.natAbs:Int)≤b:=by
 have h1:0<gcd a.natAbs b.natAbs:=Nat.gcd_pos_of_pos_right _ (by omega)
 have h2:gcd a.natAbs b.natAbs≤b.natAbs:=Nat.gcd_le_right _ (by omega)
 omega
end
section
theorem Dg {u w:Value} {s:Bool} {b:Nat} {h:ae} {K:Value→ae→Prop} (hw:dw h w b) (lb:b<cw) (hk:∀h',EX h h'→K (B (decide (b=1))) h'):aq prog 90 [.agg #[B s,u,B false,w]] h K:=by
 by_cases h1:b=1
 ·subst h1
  exact C90 hw hk
 rw [aT h1] at hk
 refine f90 ?_
 have e1:bC 107 h (.agg #[B s,u,B false,w])=some (pt h.length 0,h++[.arr 107 [B s,u,B false,w]]):=rfl
 simp only [GQ,e1,aE]
 have x1:EX h (h++[ak.arr 107 [B s,u,B false,w]]):=EX.append _ _
 have l3:af false 1 (h++[ak.arr 107 [B s,u,B false,w]]) (pt h.length 3)=some w:=nL rfl
 obtain ⟨xs,dx,cx,vx⟩:=hw.mono x1
 simp only [b9,zero_add,ah,l3,dx.len,jo]
 by_cases hl:xs.length=1
 ·obtain ⟨y,rfl⟩:∃y,xs=[y]:=by
   match xs,hl with
   | [y],_=>exact ⟨y,rfl⟩
  have hy:y=b:=by simpa [val] using vx
  subst hy
  obtain ⟨i,g1,g2⟩:=dx.get (j:=0) (by simp)
  have zz:aY 1 w (.int .i64 (0))=some (pt i 0):=g1
  rw [aW (show ((([y]:List Nat).length:Nat):Int)=1 from rfl),Vh]
  simp only [iY,b9,zero_add,ah,l3,zz,g2,List.getElem_cons_zero,jo]
  rw [aT (show ¬((y:Int)=1) by omega),Vi]
  simp only [dZ,ah]
  exact hk _ x1
 ·rw [aT (show ¬((xs.length:Int)=1) by omega),Vh]
  simp only [kZ]
  rw [Vi]
  simp only [c8,ah]
  exact hk _ x1
def qe (a b:Int):List UInt8:=if b=1 then iU a else iU a++47::dS b.natAbs
theorem agN {a:Int} (la:a.natAbs<cw):(iU a).length≤1001:=by
 have:=(xK la).2.2.1
 unfold iU
 split <;> simp <;> omega
theorem W4 {va:Value} {a b:Int} {h:ae} {K:Value→ae→Prop} (ha:hY h va a b) (b0:0<b) (la:a.natAbs<cw) (lb:b.natAbs<cw) (hk:∀h',EX h h'→K (.tuple #[S (qe a b),I 0]) h'):aq prog 45 [va] h K:=by
 obtain ⟨u,w,rfl,hu,hw⟩:=ha
 have wD:decide (b<0)=false:=aT (by omega)
 rw [wD]
 refine f45 ?_
 have e1:bC 107 h (.agg #[B (decide (a<0)),u,B false,w])=some (pt h.length 0,h++[.arr 107 [B (decide (a<0)),u,B false,w]]):=rfl
 simp only [N2,e1,aE]
 have x1:EX h (h++[ak.arr 107 [B (decide (a<0)),u,B false,w]]):=EX.append _ _
 have l1:af false 1 (h++[ak.arr 107 [B (decide (a<0)),u,B false,w]]) (pt h.length 1)=some u:=nL rfl
 have l0:af false 1 (h++[ak.arr 107 [B (decide (a<0)),u,B false,w]]) (pt h.length 0)=some (B (decide (a<0))):=nL rfl
 have g0:(h++[ak.arr 107 [B (decide (a<0)),u,B false,w]])[h.length]?=some (.arr 107 [B (decide (a<0)),u,B false,w]):=bZ
 generalize h++[ak.arr 107 [B (decide (a<0)),u,B false,w]]=h1 at x1 l1 l0 g0⊢
 obtain ⟨d1,d2,d3,d4,d5⟩:=xK la
 obtain ⟨c1,c2,c3,c4,c5⟩:=xK lb
 simp only [b9,zero_add,add_zero,ah,l1]
 refine Gk (hu.mono x1) la ?_
 intro h2 x2
 simp only [uW,ah,gj,aT (show ¬((dS a.natAbs).length:Int)>4000 by omega),dP,EX.load x2 l0]
 have last:KE prog K (pt h.length 0) (S (iU a)) h2:=by
  rw [aBV,jh (x2.get g0)]
  simp only [ah]
  refine Dg ((hw.mono x1).mono x2) lb ?_
  intro h3 x3
  simp only [cj]
  refine ⟨fun h9=>?_,fun h9=>?_⟩
  ·have e:qe a b=iU a:=by unfold qe;rw [if_pos (by omega)]
   rw [←e]
   exact hk _ ((x1.trans x2).trans x3)
  ·have l3:af false 1 h3 (pt h.length 3)=some w:=by simp [af,aR,(x2.trans x3).get g0,cm]
   simp only [b9,zero_add,ah,l3]
   refine Gk (((hw.mono x1).mono x2).mono x3) lb ?_
   intro h4 x4
   have nl:=agN la
   have a1:ai .add (S (iU a)) (.string ⟨#[47]⟩)=some (S (iU a++[47])):=zh (a:=iU a) (b:=[47]) (by simp [maxLen];omega)
   have a2:ai .add (S (iU a++[47])) (S (dS b.natAbs))=some (S (iU a++[47]++dS b.natAbs)):=zh (a:=iU a++[47]) (b:=dS b.natAbs) (by simp [maxLen];omega)
   simp only [uW,ah,gj,aT (show ¬((dS b.natAbs).length:Int)>4000 by omega),dP,a1,a2]
   have e:qe a b=iU a++[47]++dS b.natAbs:=by unfold qe;rw [if_neg (by omega)];simp
   rw [←e]
   exact hk _ ((x1.trans x2).trans (x3.trans x4))
 by_cases gW:a<0
 ·rw [aW gW]
  have:iU a=45::dS a.natAbs:=by unfold iU;rw [if_pos gW]
  have ad:ai .add (.string ⟨#[45]⟩) (S (dS a.natAbs))=some (S (iU a)):=by
   rw [this]
   exact zh (a:=[45]) (b:=dS a.natAbs) (by simp [maxLen];omega)
  simp only [dM,ad,ah]
  exact last
 ·rw [aT gW]
  have:iU a=dS a.natAbs:=by unfold iU;rw [if_neg gW]
  rw [this] at last
  simp only [dP]
  exact last
end
section
theorem WM {va vb:Value} {a b:Int} {h:ae} {K:Value→ae→Prop} (ha:dQ h va a) (hb:dQ h vb b) (la:a.natAbs<cw) (lb:b.natAbs<cw) (hk:∀r h',EX h h'→dQ h' r (gcd a.natAbs b.natAbs:Nat)→K r h'):aq prog 120 [va,vb] h K:=by
 obtain ⟨v,rfl,hv⟩:=ha
 obtain ⟨w,rfl,hw⟩:=hb
 refine f120 ?_
 unfold Nx
 refine G0 ?_
 intro h3 x
 simp only [b9,zero_add,ah,x.a1,x.b1,true_and]
 refine dL (σ:=Value×Value×Nat×Nat×ae) (fun q=>[q.1,q.2.1]) (fun q=>q.2.2.2.2) (fun q=>(dw q.2.2.2.2 q.1 q.2.2.1∧dw q.2.2.2.2 q.2.1 q.2.2.2.1)∧(q.2.2.1<cw∧q.2.2.2.1<cw)∧gcd q.2.2.1 q.2.2.2.1=gcd a.natAbs b.natAbs∧EX h3 q.2.2.2.2) (fun q=>q.2.2.2.1)
  (v,w,a.natAbs,b.natAbs,h3) rfl rfl ⟨⟨hv.mono x.ex,hw.mono x.ex⟩,⟨la,lb⟩,rfl,EX.refl _⟩ ?_
 rintro ⟨vx,vy,m,n,g⟩ ⟨⟨hm,hn⟩,⟨lm,ln⟩,hg,xg⟩ L hL
 simp only at hm hn lm ln hg xg hL⊢
 rw [aAV]
 obtain ⟨l,e1,e2⟩:=hn.so
 simp only [e1,ah,gj,cj]
 refine ⟨fun hp=>?_,fun hz=>?_⟩
 ·have n0:0<n:=e2.1 (by omega)
  refine WU hm hn lm ln n0 ?_
  intro q r g2 x2 hq hr
  simp only [eL,fx,fF,ah,true_and]
  have oY:m%n<n:=mod_lt _ n0
  refine hL (vy,r,n,m%n,g2) ⟨⟨hn.mono x2,hr⟩,⟨ln,by show m%n<_;omega⟩,?_,xg.trans x2⟩ oY
  show gcd n (m%n)=_
  rw [←hg,Nat.gcd_comm m n,Nat.gcd_rec n m,Nat.gcd_comm]
 ·have n0:n=0:=by
   apply byContradiction
   intro bm
   have:=e2.2 (by omega)
   omega
  subst n0
  rw [aAU]
  rw [Nat.gcd_zero_right] at hg
  refine sF hm ?_
  intro h5 x5
  have g':=(xg.trans x5).get x.out
  rw [Bool.false_and]
  refine uE g' (hk _ _ (((x.ex.trans xg).trans x5).set (by omega) _) ?_)
  rw [←hg]
  exact (dQ.nat (hm.mono x5)).bS g' _
theorem WN {va vb:Value} {a b:Int} {h:ae} {K:Value→ae→Prop} (ha:dQ h va a) (hb:dQ h vb b) (la:a.natAbs<cw) (b0:0<b) (lb:b.natAbs<cw) (hd:b ∣ a) (hk:∀r s h',EX h h'→dQ h' r (a / b)→dQ h' s 0→K (.tuple #[r,s]) h'):aq prog 121 [va,vb] h K:=by
 obtain ⟨v,rfl,hv⟩:=ha
 obtain ⟨w,rfl,hw⟩:=hb
 have wD:decide (b<0)=false:=aT (by omega)
 obtain ⟨c,rfl⟩:=hd
 have wh:b*c / b=c:=Int.mul_ediv_cancel_left c (by omega)
 rw [wh] at hk
 have gn:(b*c).natAbs=b.natAbs*c.natAbs:=natAbs_mul b c
 have qC:0<b.natAbs:=by omega
 have hq:(b*c).natAbs / b.natAbs=c.natAbs:=by rw [gn];exact Nat.mul_div_cancel_left _ qC
 have hr:(b*c).natAbs%b.natAbs=0:=by rw [gn];exact Nat.mul_mod_right _ _
 have gW:(decide (b*c<0)&&decide (0<c.natAbs))=decide (c<0):=by
  by_cases hc:c<0
  ·rw [aW hc,aW (show 0<c.natAbs by omega),aW (Int.mul_neg_of_pos_of_neg b0 hc)];rfl
  ·have:0≤b*c:=Int.mul_nonneg (by omega) (by omega)
   rw [aT hc,aT (by omega)];rfl
 refine f121 ?_
 have e1:∀(g:ae) (s:Bool) (v:Value),bC 105 g (.agg #[B s,v])=some (pt g.length 0,g++[.arr 105 [B s,v]]):=fun _ _ _=>rfl
 have e2:∀(g:ae),ba 105 [(.bool false),(.slice none 0 0)] g=some (pt g.length 0,g++[.arr 105 [(.bool false),(.slice none 0 0)]]):=fun _=>rfl
 have ob:∀{g:ae} {i:Nat},g[i]?=some (.arr 105 [(.bool false),(.slice none 0 0)])→er g (pt i 0)=some (.agg #[.int .i64 105,.bool false,.slice none 0 0]):=by
  intro g i hi
  simp [er,At,hi,oT]
 rw [wD]
 simp only [Ny,e1,e2,aE]
 have q0:EX h (h++[.arr 105 [B (decide (b*c<0)),v]]):=EX.append _ _
 have p0:(h++[ak.arr 105 [B (decide (b*c<0)),v]])[h.length]?=some (.arr 105 [B (decide (b*c<0)),v]):=bZ
 generalize h++[ak.arr 105 [B (decide (b*c<0)),v]]=ga at q0 p0⊢
 have q1:EX ga (ga++[.arr 105 [B false,w]]):=EX.append _ _
 have p1:(ga++[ak.arr 105 [B false,w]])[ga.length]?=some (.arr 105 [B false,w]):=bZ
 generalize ga++[ak.arr 105 [B false,w]]=gb at q1 p1⊢
 have q2:EX gb (gb++[.arr 105 [(.bool false),(.slice none 0 0)]]):=EX.append _ _
 have p2:(gb++[ak.arr 105 [(.bool false),(.slice none 0 0)]])[gb.length]?=some (.arr 105 [(.bool false),(.slice none 0 0)]):=bZ
 generalize gb++[ak.arr 105 [(.bool false),(.slice none 0 0)]]=gc at q2 p2⊢
 have q3:EX gc (gc++[.arr 105 [(.bool false),(.slice none 0 0)]]):=EX.append _ _
 have p3:(gc++[ak.arr 105 [(.bool false),(.slice none 0 0)]])[gc.length]?=some (.arr 105 [(.bool false),(.slice none 0 0)]):=bZ
 generalize gc++[ak.arr 105 [(.bool false),(.slice none 0 0)]]=gd at q3 p3⊢
 have q13:=q1.trans (q2.trans q3)
 have FI:=q0.trans q13
 have k0:=q13.get p0
 have k1:=(q2.trans q3).get p1
 have k2:=q3.get p2
 have la1:∀{g:ae},EX gd g→af false 1 g (pt h.length 1)=some v:=fun x=>by simp [af,aR,x.get k0,cm]
 have JV:∀{g:ae},EX gd g→af false 1 g (pt h.length 0)=some (B (decide (b*c<0))):=fun x=>by simp [af,aR,x.get k0,cm]
 have lb1:∀{g:ae},EX gd g→af false 1 g (pt ga.length 1)=some w:=fun x=>by simp [af,aR,x.get k1,cm]
 have SB:∀{g:ae},EX gd g→af false 1 g (pt ga.length 0)=some (B false):=fun x=>by simp [af,aR,x.get k1,cm]
 simp only [b9,zero_add,add_zero,ah,la1 (EX.refl gd),lb1 (EX.refl gd)]
 refine WU (hv.mono FI) (hw.mono FI) la lb qC ?_
 intro q r g5 x5 mq mr
 rw [hq] at mq
 rw [hr] at mr
 simp only [eL,fx,fF,ah]
 have y1:EX g5 (g5++[.arr 105 [(.bool false),(.slice none 0 0)]]):=EX.append _ _
 have s1:(g5++[ak.arr 105 [(.bool false),(.slice none 0 0)]])[g5.length]?=some (.arr 105 [(.bool false),(.slice none 0 0)]):=bZ
 have A4:(g5++[ak.arr 105 [(.bool false),(.slice none 0 0)]]).length=g5.length+1:=by simp
 generalize g5++[ak.arr 105 [(.bool false),(.slice none 0 0)]]=g6 at y1 s1 A4⊢
 have y2:EX g6 (g6++[.arr 105 [(.bool false),(.slice none 0 0)]]):=EX.append _ _
 have s2:(g6++[ak.arr 105 [(.bool false),(.slice none 0 0)]])[g6.length]?=some (.arr 105 [(.bool false),(.slice none 0 0)]):=bZ
 generalize g6++[ak.arr 105 [(.bool false),(.slice none 0 0)]]=g7 at y2 s2⊢
 have VA:=y2.get s1
 have Gg:=y1.trans y2
 have z5:=x5
 have z6:=x5.trans y1
 have z7:=x5.trans Gg
 simp only [ob s1,ob VA,ob s2,ah,true_and,JV z5,JV z6,JV z7,SB z5,SB z6,SB z7,D4,if_true]
 have hx:(!(decide (b*c<0)==false))=decide (b*c<0):=by cases decide (b*c<0) <;> rfl
 rw [hx]
 refine sF (mq.mono Gg) ?_
 intro g8 x8
 rw [gW]
 simp only [ob (x8.get VA),ob (x8.get s2),true_and,JV (z7.trans x8),ah]
 refine sF ((mr.mono Gg).mono x8) ?_
 intro g9 x9
 have jK:=x8.trans x9
 have t1:=jK.get VA
 have t2:=jK.get s2
 have bm:g5.length≠g6.length:=by omega
 simp only [ob t1,ob t2,true_and,aT (show ¬(0<0) by decide),Bool.and_false]
 rw [gP t1]
 simp only [aE]
 have LG:(g9.set g5.length (.arr 105 [B (decide (c<0)),q]))[g6.length]?=some (.arr 105 [(.bool false),(.slice none 0 0)]):=by rw [getElem?_set_ne bm];exact t2
 rw [gP LG]
 simp only [aE]
 obtain ⟨l,l1,l2⟩:=mr.so
 have l0:l=0:=by
  apply byContradiction
  intro hc
  have:=l2.1 (by omega)
  omega
 subst l0
 simp only [l1,ah,gj]
 rw [aT (show ¬((0:Int)<((0:Nat):Int)) by decide)]
 rw [aAX]
 simp only [kZ]
 rw [aAY]
 have pk:ck (B false) undef (.bool false)=some (B false):=rfl
 simp only [pk,ah,dP]
 rw [aAW]
 have u1:((g9.set g5.length (.arr 105 [B (decide (c<0)),q])).set g6.length (.arr 105 [B false,r]))[g5.length]?=some (.arr 105 [B (decide (c<0)),q]):=by
  rw [getElem?_set_ne (fun e=>bm e.symm)];exact cU t1
 have u2:((g9.set g5.length (.arr 105 [B (decide (c<0)),q])).set g6.length (.arr 105 [B false,r]))[g6.length]?=some (.arr 105 [B false,r]):=cU LG
 have hgd:gd.length≤g5.length:=x5.1
 have rZ:EX h ((g9.set g5.length (.arr 105 [B (decide (c<0)),q])).set g6.length (.arr 105 [B false,r])):=
  (((FI.trans z7).trans jK).set (by have:=FI.1;omega) _).set (by have:=FI.1;omega) _
 have lgb:gb.length<gd.length:=by
  have:=(bL k2).1;exact this
 have lgc:gc.length<gd.length:=(bL p3).1
 have w2:((g9.set g5.length (.arr 105 [B (decide (c<0)),q])).set g6.length (.arr 105 [B false,r]))[gb.length]?=some (.arr 105 [(.bool false),(.slice none 0 0)]):=by
  rw [getElem?_set_ne (by omega),getElem?_set_ne (by omega)];exact (z7.trans jK).get k2
 have w3:((g9.set g5.length (.arr 105 [B (decide (c<0)),q])).set g6.length (.arr 105 [B false,r]))[gc.length]?=some (.arr 105 [(.bool false),(.slice none 0 0)]):=by
  rw [getElem?_set_ne (by omega),getElem?_set_ne (by omega)];exact (z7.trans jK).get p3
 have mqf:dw ((g9.set g5.length (.arr 105 [B (decide (c<0)),q])).set g6.length (.arr 105 [B false,r])) q c.natAbs:=(((mq.mono Gg).mono jK).bS t1 _).bS LG _
 have mrf:dw ((g9.set g5.length (.arr 105 [B (decide (c<0)),q])).set g6.length (.arr 105 [B false,r])) r 0:=(((mr.mono Gg).mono jK).bS t1 _).bS LG _
 generalize (g9.set g5.length (.arr 105 [B (decide (c<0)),q])).set g6.length (.arr 105 [B false,r])=gz at u1 u2 rZ w2 w3 mqf mrf⊢
 rw [dC u1,dC u2]
 simp only [ah,true_and]
 rw [gP w2]
 simp only [aE]
 have hbc:gb.length≠gc.length:=by
  have:=(bL p2).1;omega
 have LI:(gz.set gb.length (.arr 105 [B (decide (c<0)),q]))[g6.length]?=some (.arr 105 [B false,r]):=by rw [getElem?_set_ne (by omega)];exact u2
 have LS:(gz.set gb.length (.arr 105 [B (decide (c<0)),q]))[gc.length]?=some (.arr 105 [(.bool false),(.slice none 0 0)]):=by rw [getElem?_set_ne hbc];exact w3
 rw [dC LI,gP LS]
 simp only [true_and,aE]
 have n2:((gz.set gb.length (.arr 105 [B (decide (c<0)),q])).set gc.length (.arr 105 [B false,r]))[gb.length]?=some (.arr 105 [B (decide (c<0)),q]):=by
  rw [getElem?_set_ne (fun e=>hbc e.symm)];exact cU w2
 rw [dC n2,dC (cU LS)]
 simp only [ah]
 have pP:h.length≤gb.length:=(q0.trans q1).1
 refine hk _ _ _ ((rZ.set pP _).set (by have:=(bL p2).1;omega) _) ⟨q,rfl,(mqf.bS w2 _).bS LS _⟩ ⟨r,rfl,(mrf.bS w2 _).bS LS _⟩
theorem WE {va vb:Value} {a b:Int} {h:ae} {K:Value→ae→Prop} (ha:dQ h va a) (hb:dQ h vb b) (la:a.natAbs<cw) (b0:0<b) (lb:b.natAbs<cw)
  (hk:∀r h',EX h h'→hY h' r (a / (gcd a.natAbs b.natAbs:Int)) (b / (gcd a.natAbs b.natAbs:Int))→K r h'):aq prog 106 [va,vb] h K:=by
 obtain ⟨v,rfl,hv⟩:=ha
 obtain ⟨w,rfl,hw⟩:=hb
 have wD:decide (b<0)=false:=aT (by omega)
 obtain ⟨g1p,aF5⟩:=awx (a:=a) b0
 have QW:(gcd a.natAbs b.natAbs:Int) ∣ a:=Int.gcd_dvd_left ..
 have zP:(gcd a.natAbs b.natAbs:Int) ∣ b:=Int.gcd_dvd_right ..
 refine f106 ?_
 have e1:∀(g:ae) (s:Bool) (v:Value),bC 105 g (.agg #[B s,v])=some (pt g.length 0,g++[.arr 105 [B s,v]]):=fun _ _ _=>rfl
 have e2:∀(g:ae),ba 105 [(.bool false),(.slice none 0 0)] g=some (pt g.length 0,g++[.arr 105 [(.bool false),(.slice none 0 0)]]):=fun _=>rfl
 have e3:∀(g:ae),ba 107 [(.bool false),(.slice none 0 0),(.bool false),(.slice none 0 0)] g=some (pt g.length 0,g++[.arr 107 z4]):=fun _=>rfl
 simp only [Nj,e1,e3,aE]
 have q0:EX h (h++[.arr 105 [B (decide (a<0)),v]]):=EX.append _ _
 have p0:(h++[ak.arr 105 [B (decide (a<0)),v]])[h.length]?=some (.arr 105 [B (decide (a<0)),v]):=bZ
 generalize h++[ak.arr 105 [B (decide (a<0)),v]]=ga at q0 p0⊢
 have q1:EX ga (ga++[.arr 105 [B (decide (b<0)),w]]):=EX.append _ _
 have p1:(ga++[ak.arr 105 [B (decide (b<0)),w]])[ga.length]?=some (.arr 105 [B (decide (b<0)),w]):=bZ
 generalize ga++[ak.arr 105 [B (decide (b<0)),w]]=gb at q1 p1⊢
 have q2:EX gb (gb++[.arr 107 z4]):=EX.append _ _
 have p2:(gb++[ak.arr 107 z4])[gb.length]?=some (.arr 107 z4):=bZ
 generalize gb++[ak.arr 107 z4]=gc at q2 p2⊢
 have k0:=(q1.trans q2).get p0
 have k1:=q2.get p1
 have x0:=q0.trans (q1.trans q2)
 have pP:h.length≤gb.length:=(q0.trans q1).1
 have SE:∀{g:ae},EX gc g→af true 2 g (pt h.length 0)=some (.agg #[B (decide (a<0)),v]):=fun x=>dC (x.get k0)
 have SD:∀{g:ae},EX gc g→af true 2 g (pt ga.length 0)=some (.agg #[B (decide (b<0)),w]):=fun x=>dC (x.get k1)
 have JM:∀{g:ae},EX gc g→dQ g (.agg #[B (decide (a<0)),v]) a:=fun x=>⟨v,rfl,hv.mono (x0.trans x)⟩
 have JN:∀{g:ae},EX gc g→dQ g (.agg #[B (decide (b<0)),w]) b:=fun x=>⟨w,rfl,hw.mono (x0.trans x)⟩
 have l1:af false 1 gc (pt ga.length 0)=some (B (decide (b<0))):=by simp [af,aR,k1,cm]
 simp only [b9,add_zero,ah,l1]
 rw [wD]
 simp only [dP]
 rw [aAJ]
 rw [SE (EX.refl gc),SD (EX.refl gc)]
 simp only [ah]
 refine WM (JM (EX.refl gc)) (JN (EX.refl gc)) la lb ?_
 intro r g3 x3 ir
 simp only [e2,aE]
 have y4:EX g3 (g3++[.arr 105 [(.bool false),(.slice none 0 0)]]):=EX.append _ _
 have s4:(g3++[ak.arr 105 [(.bool false),(.slice none 0 0)]])[g3.length]?=some (.arr 105 [(.bool false),(.slice none 0 0)]):=bZ
 generalize g3++[ak.arr 105 [(.bool false),(.slice none 0 0)]]=g4 at y4 s4⊢
 obtain ⟨u,rfl,hu⟩:=ir
 have hu4:=(hu.mono y4).bS s4 (.arr 105 [B (decide ((gcd a.natAbs b.natAbs:Int)<0)),u])
 rw [gP s4]
 simp only [aE]
 have yb:gc.length≤g3.length:=x3.1
 have x5:EX gc (g4.set g3.length (.arr 105 [B (decide ((gcd a.natAbs b.natAbs:Int)<0)),u])):=(x3.trans y4).set yb _
 have s5:(g4.set g3.length (.arr 105 [B (decide ((gcd a.natAbs b.natAbs:Int)<0)),u]))[g3.length]?=some (.arr 105 [B (decide ((gcd a.natAbs b.natAbs:Int)<0)),u]):=cU s4
 generalize g4.set g3.length (.arr 105 [B (decide ((gcd a.natAbs b.natAbs:Int)<0)),u])=g5 at x5 s5 hu4⊢
 have ig:∀{g:ae},EX g5 g→dQ g (.agg #[B (decide ((gcd a.natAbs b.natAbs:Int)<0)),u]) (gcd a.natAbs b.natAbs:Int):=fun x=>⟨u,rfl,hu4.mono x⟩
 rw [dC s5]
 simp only [ah,true_and]
 refine De (by decide) (by decide) ?_
 intro one g6 x6 i1
 rw [dC (x6.get s5)]
 simp only [true_and]
 have SJ:((gcd a.natAbs b.natAbs:Int)).natAbs<cw:=by rw [natAbs_natCast];have:=Nat.gcd_le_right a.natAbs (show 0<b.natAbs by omega);omega
 refine Md (ig x6) i1 SJ (by rw [show (1:Int).natAbs=1 from rfl];exact A7 (by decide)) ?_
 intro g7 x7
 have cQ:=x6.trans x7
 have xq:=x5.trans cQ
 simp only [jo,ah,cj]
 refine ⟨fun h1=>?_,fun h1=>?_⟩
 ·have Er:(gcd a.natAbs b.natAbs:Int)=1:=by
   split at h1
   ·omega
   ·split at h1 <;> omega
  rw [SE xq,SD xq]
  simp only [ah]
  rw [Er,Int.ediv_one,Int.ediv_one] at hk
  exact IE (JM xq) (JN xq) (x0.trans xq) pP (xq.get p2) hk
 ·rw [SE xq,dC (cQ.get s5)]
  simp only [ah]
  refine WN (JM xq) (ig cQ) la g1p SJ QW ?_
  intro rn sn g8 x8 irn isn
  simp only [eL,fx,fF,ah]
  have y9:EX g8 (g8++[.arr 105 [(.bool false),(.slice none 0 0)]]):=EX.append _ _
  have s9:(g8++[ak.arr 105 [(.bool false),(.slice none 0 0)]])[g8.length]?=some (.arr 105 [(.bool false),(.slice none 0 0)]):=bZ
  generalize g8++[ak.arr 105 [(.bool false),(.slice none 0 0)]]=g9 at y9 s9⊢
  have Wu:EX g9 (g9++[.arr 105 [(.bool false),(.slice none 0 0)]]):=EX.append _ _
  have oG:(g9++[ak.arr 105 [(.bool false),(.slice none 0 0)]])[g9.length]?=some (.arr 105 [(.bool false),(.slice none 0 0)]):=bZ
  generalize g9++[ak.arr 105 [(.bool false),(.slice none 0 0)]]=iO at Wu oG⊢
  have VC:=Wu.get s9
  obtain ⟨qn,rfl,qM⟩:=irn
  obtain ⟨zn,rfl,hzn⟩:=isn
  have h98:g8.length≠g9.length:=by have:=(bL s9).1;omega
  rw [gP VC]
  simp only [aE]
  have t10:(iO.set g8.length (.arr 105 [B (decide (a / (gcd a.natAbs b.natAbs:Int)<0)),qn]))[g9.length]?=some (.arr 105 [(.bool false),(.slice none 0 0)]):=by rw [getElem?_set_ne h98];exact oG
  have t9:(iO.set g8.length (.arr 105 [B (decide (a / (gcd a.natAbs b.natAbs:Int)<0)),qn]))[g8.length]?=some (.arr 105 [B (decide (a / (gcd a.natAbs b.natAbs:Int)<0)),qn]):=cU VC
  have anw:=y9.trans Wu
  have aeR:=(qM.mono anw).bS VC (.arr 105 [B (decide (a / (gcd a.natAbs b.natAbs:Int)<0)),qn])
  have Wq:=xq.trans x8
  have cK:=cQ.trans x8
  have xs1:EX g8 (iO.set g8.length (.arr 105 [B (decide (a / (gcd a.natAbs b.natAbs:Int)<0)),qn])):=anw.set (le_refl _) _
  generalize iO.set g8.length (.arr 105 [B (decide (a / (gcd a.natAbs b.natAbs:Int)<0)),qn])=rK at t10 t9 aeR xs1⊢
  rw [gP t10]
  simp only [aE]
  have t9':(rK.set g9.length (.arr 105 [B (decide ((0:Int)<0)),zn]))[g8.length]?=some (.arr 105 [B (decide (a / (gcd a.natAbs b.natAbs:Int)<0)),qn]):=by rw [getElem?_set_ne (fun e=>h98 e.symm)];exact t9
  have aeS:=aeR.bS t10 (.arr 105 [B (decide ((0:Int)<0)),zn])
  have h89:g8.length≤g9.length:=by have:=(bL s9).1;omega
  have C8:EX g8 (rK.set g9.length (.arr 105 [B (decide ((0:Int)<0)),zn])):=xs1.set h89 _
  generalize rK.set g9.length (.arr 105 [B (decide ((0:Int)<0)),zn])=Ed at t9' aeS C8⊢
  rw [SD (Wq.trans C8),dC ((cK.trans C8).get s5)]
  simp only [ah]
  refine WN (JN (Wq.trans C8)) (ig (cK.trans C8)) lb g1p SJ zP ?_
  intro rd sd oa aD ird isd
  simp only [eL,fx,fF,ah]
  have y14:EX oa (oa++[.arr 105 [(.bool false),(.slice none 0 0)]]):=EX.append _ _
  have Lj:(oa++[ak.arr 105 [(.bool false),(.slice none 0 0)]])[oa.length]?=some (.arr 105 [(.bool false),(.slice none 0 0)]):=bZ
  generalize oa++[ak.arr 105 [(.bool false),(.slice none 0 0)]]=qA at y14 Lj⊢
  have Wv:EX qA (qA++[.arr 105 [(.bool false),(.slice none 0 0)]]):=EX.append _ _
  have yD:(qA++[ak.arr 105 [(.bool false),(.slice none 0 0)]])[qA.length]?=some (.arr 105 [(.bool false),(.slice none 0 0)]):=bZ
  generalize qA++[ak.arr 105 [(.bool false),(.slice none 0 0)]]=xR at Wv yD⊢
  have VB:=Wv.get Lj
  obtain ⟨qd,rfl,EG⟩:=ird
  obtain ⟨zd,rfl,hzd⟩:=isd
  have adJ:oa.length≠qA.length:=by have:=(bL Lj).1;omega
  rw [gP VB]
  simp only [aE]
  have anu:=y14.trans Wv
  have t15:(xR.set oa.length (.arr 105 [B (decide (b / (gcd a.natAbs b.natAbs:Int)<0)),qd]))[qA.length]?=some (.arr 105 [(.bool false),(.slice none 0 0)]):=by rw [getElem?_set_ne adJ];exact yD
  have t14:(xR.set oa.length (.arr 105 [B (decide (b / (gcd a.natAbs b.natAbs:Int)<0)),qd]))[oa.length]?=some (.arr 105 [B (decide (b / (gcd a.natAbs b.natAbs:Int)<0)),qd]):=cU VB
  have aeP:=(EG.mono anu).bS VB (.arr 105 [B (decide (b / (gcd a.natAbs b.natAbs:Int)<0)),qd])
  have xs3:EX oa (xR.set oa.length (.arr 105 [B (decide (b / (gcd a.natAbs b.natAbs:Int)<0)),qd])):=anu.set (le_refl _) _
  generalize xR.set oa.length (.arr 105 [B (decide (b / (gcd a.natAbs b.natAbs:Int)<0)),qd])=Qu at t15 t14 aeP xs3⊢
  rw [gP t15]
  simp only [aE]
  have anc:(Qu.set qA.length (.arr 105 [B (decide ((0:Int)<0)),zd]))[oa.length]?=some (.arr 105 [B (decide (b / (gcd a.natAbs b.natAbs:Int)<0)),qd]):=by rw [getElem?_set_ne (fun e=>adJ e.symm)];exact t14
  have aeQ:=aeP.bS t15 (.arr 105 [B (decide ((0:Int)<0)),zd])
  have h13:oa.length≤qA.length:=by have:=(bL Lj).1;omega
  have L6:EX oa (Qu.set qA.length (.arr 105 [B (decide ((0:Int)<0)),zd])):=xs3.set h13 _
  generalize Qu.set qA.length (.arr 105 [B (decide ((0:Int)<0)),zd])=g17 at anc aeQ L6⊢
  rw [dC ((aD.trans L6).get t9'),dC anc]
  simp only [ah]
  have anx:=Wq.trans (C8.trans (aD.trans L6))
  exact IE ⟨qn,rfl,aeS.mono (aD.trans L6)⟩ ⟨qd,rfl,aeQ⟩ (x0.trans anx) pP (anx.get p2) hk
theorem an8 {va vb:Value} {a b c d:Int} {h:ae} {K:Value→ae→Prop} (ha:hY h va a b) (hb:hY h vb c d) (la:a.natAbs<cw) (lb:b.natAbs<cw) (lc:c.natAbs<cw) (ld:d.natAbs<cw) (lad:(a*d).natAbs<cw) (b0:0<b*c) (lbc:(b*c).natAbs<cw)
  (hk:∀r h',EX h h'→hY h' r (a*d / (gcd (a*d).natAbs (b*c).natAbs:Int)) (b*c / (gcd (a*d).natAbs (b*c).natAbs:Int))→K r h'):aq prog 77 [va,vb] h K:=by
 obtain ⟨u,w,rfl,hu,hw⟩:=ha
 obtain ⟨u2,w2,rfl,pT,mH⟩:=hb
 refine f77 ?_
 have e1:∀(g:ae) (s t:Bool) (v w:Value),bC 107 g (.agg #[B s,v,B t,w])=some (pt g.length 0,g++[.arr 107 [B s,v,B t,w]]):=fun _ _ _ _ _=>rfl
 have e3:∀(g:ae),ba 107 [(.bool false),(.slice none 0 0),(.bool false),(.slice none 0 0)] g=some (pt g.length 0,g++[.arr 107 z4]):=fun _=>rfl
 simp only [Ok,e1,e3,aE]
 have q0:EX h (h++[.arr 107 [B (decide (a<0)),u,B (decide (b<0)),w]]):=EX.append _ _
 have p0:(h++[ak.arr 107 [B (decide (a<0)),u,B (decide (b<0)),w]])[h.length]?=some (.arr 107 [B (decide (a<0)),u,B (decide (b<0)),w]):=bZ
 generalize h++[ak.arr 107 [B (decide (a<0)),u,B (decide (b<0)),w]]=ga at q0 p0⊢
 have q1:EX ga (ga++[.arr 107 [B (decide (c<0)),u2,B (decide (d<0)),w2]]):=EX.append _ _
 have p1:(ga++[ak.arr 107 [B (decide (c<0)),u2,B (decide (d<0)),w2]])[ga.length]?=some (.arr 107 [B (decide (c<0)),u2,B (decide (d<0)),w2]):=bZ
 generalize ga++[ak.arr 107 [B (decide (c<0)),u2,B (decide (d<0)),w2]]=gb at q1 p1⊢
 have q2:EX gb (gb++[.arr 107 z4]):=EX.append _ _
 have p2:(gb++[ak.arr 107 z4])[gb.length]?=some (.arr 107 z4):=bZ
 generalize gb++[ak.arr 107 z4]=gc at q2 p2⊢
 have k0:=(q1.trans q2).get p0
 have k1:=q2.get p1
 have x0:=q0.trans (q1.trans q2)
 have pP:h.length≤gb.length:=(q0.trans q1).1
 simp only [b9,zero_add,ah]
 rw [lI k0,nj k1]
 simp only [ah,true_and]
 refine uc (a:=a) (b:=d) ⟨u,rfl,hu.mono x0⟩ ⟨w2,rfl,mH.mono x0⟩ la ld ?_
 intro r1 g4 x4 i1
 rw [nj (x4.get k0),lI (x4.get k1)]
 simp only [nj k0,lI k1,ah,true_and]
 refine uc (a:=b) (b:=c) ⟨w,rfl,(hw.mono x0).mono x4⟩ ⟨u2,rfl,(pT.mono x0).mono x4⟩ lb lc ?_
 intro r2 g5 x5 i2
 refine WE (i1.mono x5) i2 lad b0 lbc ?_
 intro r g6 x6 ir
 have dU:=x4.trans (x5.trans x6)
 have g2:=dU.get p2
 obtain ⟨y,z,rfl,hy,hz⟩:=ir
 exact sS g2 (hk _ _ ((x0.trans dU).set pP _) ⟨y,z,rfl,hy.bS g2 _,hz.bS g2 _⟩)
end
section
variable (P : Program) (K : VK)
noncomputable section
variable (a0 : Value) (h : ae)
def ah3:=bK prog 81 [[],[]]
@[irreducible] def c81:=bR ah3
theorem k81:ah3=some (6,c81,[.tmp 2]):=by kernel_rfl
def Om:Prop:=
 OH (bC 107 h a0) fun a1 z1=>
 OP (aJ 0 a1) fun x3=>
 OP (af true 2 z1 x3) fun x4=>
 aq P 109 [x4] z1 fun x5 z2=>
 K x5 z2
theorem e81:aj P c81 (aS [.tmp 2] K) (bG [a0]) h=Om P K a0 h:=by kernel_rfl
theorem f81 {K:VK} {a0:Value} {h:ae} (H:Om prog K a0 h):aq prog 81 [a0] h K:=
 bT k81 (bP rfl) ((e81 prog K a0 h).mpr H)
end
noncomputable section
variable (a0 x1 a2 aA aP : Value) (h : ae)
def ah6:=bK prog 84 [[],[1,2,12],[12,19],[]]
@[irreducible] def H5:=bR ah6
@[irreducible] def acg:=H5.r.l.r.l
@[irreducible] def aue:=H5.r.r
@[irreducible] def auf:=acg.r.l
theorem k84:ah6=some (21,H5,[.tmp 4]):=by kernel_rfl
def Yu (_P:Program) (K:VK):ar:=aS [.tmp 4] K
def Yv:ar:=aF (aj P aue (Yu P K)) (Yu P K)
def akP:Prop:=ax (aj P acg (Yv P K)) [1,2,12] [x1,a2,aA] h
def UF:Prop:=ax (aj P auf (Yv P K)) [12,19] [aA,aP] h
theorem amg:UF P K aA aP h=
 (OP (ck aA aP (.bool false)) fun aZ=>
 K aZ h):=az (by kernel_rfl)
theorem aDe:akP P K x1 a2 aA h=
 (cE aA true
 (OP (aJ 2 a2) fun aD=>
 OP (aJ 1 aD) fun aL=>
 OP (af false 1 h aL) fun bj=>
 aq P 89 [bj] h fun bM z1=>
 OP (jP bM) fun bU=>
 OP (ai .leq bU x1) fun aP=>
 UF P K aA aP z1)
 (UF P K aA undef h)):=az (by kernel_rfl)
def Oq:Prop:=
 OH (bC 107 h a0) fun a2 z1=>
 OP (aJ 0 a2) fun x5=>
 OP (aJ 1 x5) fun x6=>
 OP (af false 1 z1 x6) fun x7=>
 aq P 89 [x7] z1 fun x8 z2=>
 OP (jP x8) fun x9=>
 OP (ai .leq x9 x1) fun au=>
 akP P K x1 a2 au z2
theorem e84:aj P H5 (aS [.tmp 4] K) (bG [a0,x1]) h=Oq P K a0 x1 h:=by kernel_rfl
theorem f84 {K:VK} {a0 x1:Value} {h:ae} (H:Oq prog K a0 x1 h):aq prog 84 [a0,x1] h K:=
 bT k84 (bP rfl) ((e84 prog K a0 x1 h).mpr H)
end
noncomputable section
variable (a0 b1 : Value) (h : ae)
def ah8:=bK prog 86 [[],[]]
@[irreducible] def H7:=bR ah8
theorem k86:ah8=some (16,H7,[.tmp 4]):=by kernel_rfl
def Ou:Prop:=
 OH (bC 107 h a0) fun a2 z1=>
 OH (bC 107 z1 b1) fun b3 z2=>
 OP (aJ 0 a2) fun x5=>
 OP (af true 2 z2 x5) fun x6=>
 (True)∧
 OP (aJ 2 b3) fun x7=>
 OP (af true 2 z2 x7) fun x8=>
 (True)∧
 aq P 107 [x6,x8] z2 fun x9 z3=>
 (True)∧
 OP (aJ 0 b3) fun aM=>
 OP (af true 2 z3 aM) fun au=>
 (af true 2 z2 aM=some au∧True)∧
 OP (aJ 2 a2) fun aA=>
 OP (af true 2 z3 aA) fun aD=>
 (af true 2 z2 aA=some aD∧True)∧
 aq P 107 [au,aD] z3 fun aL z4=>
 (True)∧
 aq P 111 [x9,aL] z4 fun bj z5=>
 (True)∧
 K bj z5
theorem e86:aj P H7 (aS [.tmp 4] K) (bG [a0,b1]) h=Ou P K a0 b1 h:=by kernel_rfl
theorem f86 {K:VK} {a0 b1:Value} {h:ae} (H:Ou prog K a0 b1 h):aq prog 86 [a0,b1] h K:=
 bT k86 (bP rfl) ((e86 prog K a0 b1 h).mpr H)
end
noncomputable section
variable (a0 b1 a2 b3 x4 x7 x9 : Value) (h : ae)
def ah9:=bK prog 87 [[],[2,3,4,7],[2,3,4,7,9],[],[],[],[]]
@[irreducible] def DN:=bR ah9
@[irreducible] def aci:=DN.r.l.l.r.l
@[irreducible] def auj:=DN.r.l.r
@[irreducible] def aui:=DN.r.r
@[irreducible] def auk:=aci.r.l
theorem k87:ah9=some (34,DN,[.cell true 4 4]):=by kernel_rfl
def Yw (_P:Program) (K:VK):ar:=aS [.cell true 4 4] K
def Yx:ar:=aF (aj P aui (Yw P K)) (Yw P K)
def Yy:ar:=aF (aj P auj (Yx P K)) (Yx P K)
def akS:Prop:=ax (aj P aci (Yy P K)) [2,3,4,7] [a2,b3,x4,x7] h
def KQ:Prop:=ax (aj P auk (Yy P K)) [2,3,4,7,9] [a2,b3,x4,x7,x9] h
theorem aDi:KQ P K a2 b3 x4 x7 x9 h=
 (OP (ck x7 x9 (.bool false)) fun aM=>
 aQ aM
 (OP (aJ 0 a2) fun au=>
 OP (af true 2 h au) fun aA=>
 OP (aJ 0 b3) fun aD=>
 OP (af true 2 h aD) fun aL=>
 aq P 113 [aA,aL] h fun bj z1=>
 aq P 112 [bj] z1 fun bM z2=>
 OH (aK 4 z2 x4 bM) fun _ z3=>
 OP (af true 4 z3 x4) fun r0=>
 K r0 z3)
 (OP (aJ 0 a2) fun bU=>
 OP (af true 2 h bU) fun aO=>
 (True)∧
 OP (aJ 2 b3) fun aP=>
 OP (af true 2 h aP) fun aZ=>
 (True)∧
 aq P 107 [aO,aZ] h fun bf z1=>
 (True)∧
 OP (aJ 0 b3) fun bH=>
 OP (af true 2 z1 bH) fun cX=>
 (af true 2 h bH=some cX∧True)∧
 OP (aJ 2 a2) fun bD=>
 OP (af true 2 z1 bD) fun bV=>
 (af true 2 h bD=some bV∧True)∧
 aq P 107 [cX,bV] z1 fun cF z2=>
 (True)∧
 aq P 113 [bf,cF] z2 fun bn z3=>
 (True)∧
 OP (aJ 2 a2) fun bz=>
 OP (af true 2 z3 bz) fun bN=>
 (af true 2 h bz=some bN∧af true 2 z1 bz=some bN∧af true 2 z2 bz=some bN∧True)∧
 OP (aJ 2 b3) fun dD=>
 OP (af true 2 z3 dD) fun cG=>
 (af true 2 h dD=some cG∧af true 2 z1 dD=some cG∧af true 2 z2 dD=some cG∧True)∧
 aq P 107 [bN,cG] z3 fun bk z4=>
 (True)∧
 aq P 106 [bn,bk] z4 fun br z5=>
 (True)∧
 OH (aK 4 z5 x4 br) fun _ z6=>
 (True)∧
 OP (af true 4 z6 x4) fun r0=>
 K r0 z6)):=az (by kernel_rfl)
theorem aDh:akS P K a2 b3 x4 x7 h=
 (cE x7 true
 (OP (af true 4 h b3) fun x8=>
 aq P 90 [x8] h fun x9 z1=>
 KQ P K a2 b3 x4 x7 x9 z1)
 (KQ P K a2 b3 x4 x7 undef h)):=az (by kernel_rfl)
def Ov:Prop:=
 OH (bC 107 h a0) fun a2 z1=>
 OH (bC 107 z1 b1) fun b3 z2=>
 OH (ba 107 [(.bool false),(.slice none 0 0),(.bool false),(.slice none 0 0)] z2) fun x4 z3=>
 OP (af true 4 z3 a2) fun x5=>
 aq P 90 [x5] z3 fun x6 z4=>
 akS P K a2 b3 x4 x6 z4
theorem e87:aj P DN (aS [.cell true 4 4] K) (bG [a0,b1]) h=Ov P K a0 b1 h:=by kernel_rfl
theorem f87 {K:VK} {a0 b1:Value} {h:ae} (H:Ov prog K a0 b1 h):aq prog 87 [a0,b1] h K:=
 bT k87 (bP rfl) ((e87 prog K a0 b1 h).mpr H)
end
noncomputable section
variable (a0 b1 a2 b3 x4 x7 x9 : Value) (h : ae)
def aia:=bK prog 88 [[],[2,3,4,7],[2,3,4,7,9],[],[],[],[]]
@[irreducible] def DO:=bR aia
@[irreducible] def acj:=DO.r.l.l.r.l
@[irreducible] def aum:=DO.r.l.r
@[irreducible] def aul:=DO.r.r
@[irreducible] def aun:=acj.r.l
theorem k88:aia=some (28,DO,[.cell true 4 4]):=by kernel_rfl
def Yz (_P:Program) (K:VK):ar:=aS [.cell true 4 4] K
def YA:ar:=aF (aj P aul (Yz P K)) (Yz P K)
def YB:ar:=aF (aj P aum (YA P K)) (YA P K)
def akT:Prop:=ax (aj P acj (YB P K)) [2,3,4,7] [a2,b3,x4,x7] h
def KR:Prop:=ax (aj P aun (YB P K)) [2,3,4,7,9] [a2,b3,x4,x7,x9] h
theorem aDk:KR P K a2 b3 x4 x7 x9 h=
 (OP (ck x7 x9 (.bool false)) fun aM=>
 aQ aM
 (OP (aJ 0 a2) fun au=>
 OP (af true 2 h au) fun aA=>
 OP (aJ 0 b3) fun aD=>
 OP (af true 2 h aD) fun aL=>
 aq P 107 [aA,aL] h fun bj z1=>
 aq P 112 [bj] z1 fun bM z2=>
 OH (aK 4 z2 x4 bM) fun _ z3=>
 OP (af true 4 z3 x4) fun r0=>
 K r0 z3)
 (OP (aJ 0 a2) fun bU=>
 OP (af true 2 h bU) fun aO=>
 (True)∧
 OP (aJ 0 b3) fun aP=>
 OP (af true 2 h aP) fun aZ=>
 (True)∧
 aq P 107 [aO,aZ] h fun bf z1=>
 (True)∧
 OP (aJ 2 a2) fun bH=>
 OP (af true 2 z1 bH) fun cX=>
 (af true 2 h bH=some cX∧True)∧
 OP (aJ 2 b3) fun bD=>
 OP (af true 2 z1 bD) fun bV=>
 (af true 2 h bD=some bV∧True)∧
 aq P 107 [cX,bV] z1 fun cF z2=>
 (True)∧
 aq P 106 [bf,cF] z2 fun bn z3=>
 (True)∧
 OH (aK 4 z3 x4 bn) fun _ z4=>
 (True)∧
 OP (af true 4 z4 x4) fun r0=>
 K r0 z4)):=az (by kernel_rfl)
theorem aDj:akT P K a2 b3 x4 x7 h=
 (cE x7 true
 (OP (af true 4 h b3) fun x8=>
 aq P 90 [x8] h fun x9 z1=>
 KR P K a2 b3 x4 x7 x9 z1)
 (KR P K a2 b3 x4 x7 undef h)):=az (by kernel_rfl)
def Ow:Prop:=
 OH (bC 107 h a0) fun a2 z1=>
 OH (bC 107 z1 b1) fun b3 z2=>
 OH (ba 107 [(.bool false),(.slice none 0 0),(.bool false),(.slice none 0 0)] z2) fun x4 z3=>
 OP (af true 4 z3 a2) fun x5=>
 aq P 90 [x5] z3 fun x6 z4=>
 akT P K a2 b3 x4 x6 z4
theorem e88:aj P DO (aS [.cell true 4 4] K) (bG [a0,b1]) h=Ow P K a0 b1 h:=by kernel_rfl
theorem f88 {K:VK} {a0 b1:Value} {h:ae} (H:Ow prog K a0 b1 h):aq prog 88 [a0,b1] h K:=
 bT k88 (bP rfl) ((e88 prog K a0 b1 h).mpr H)
end
noncomputable section
variable (a0 b1 : Value) (h : ae)
def aii:=bK prog 96 [[],[]]
@[irreducible] def c96:=bR aii
theorem k96:aii=some (9,c96,[.cell true 4 4]):=by kernel_rfl
def OC:Prop:=
 OH (bC 107 h a0) fun a2 z1=>
 OH (bC 107 z1 b1) fun b3 z2=>
 OH (ba 107 [(.bool false),(.slice none 0 0),(.bool false),(.slice none 0 0)] z2) fun x4 z3=>
 OP (af true 4 z3 a2) fun x5=>
 (True)∧
 OP (af true 4 z3 b3) fun x6=>
 (True)∧
 aq P 116 [x6] z3 fun x7 z4=>
 (af true 4 z4 a2=some x5∧True)∧
 aq P 87 [x5,x7] z4 fun x8 z5=>
 (True)∧
 OH (aK 4 z5 x4 x8) fun _ z6=>
 (True)∧
 OP (af true 4 z6 x4) fun r0=>
 K r0 z6
theorem e96:aj P c96 (aS [.cell true 4 4] K) (bG [a0,b1]) h=OC P K a0 b1 h:=by kernel_rfl
theorem f96 {K:VK} {a0 b1:Value} {h:ae} (H:OC prog K a0 b1 h):aq prog 96 [a0,b1] h K:=
 bT k96 (bP rfl) ((e96 prog K a0 b1 h).mpr H)
end
noncomputable section
variable (a0 : Value) (h : ae)
def ag6:=bK prog 116 [[],[]]
@[irreducible] def ZQ:=bR ag6
theorem ayO:ag6=some (9,ZQ,[.cell true 4 2]):=by kernel_rfl
def Nt:Prop:=
 OH (bC 107 h a0) fun a1 z1=>
 OH (ba 107 [(.bool false),(.slice none 0 0),(.bool false),(.slice none 0 0)] z1) fun x2 z2=>
 OP (aJ 0 a1) fun x3=>
 OP (af true 2 z2 x3) fun x4=>
 (True)∧
 aq P 119 [x4] z2 fun x5 z3=>
 (True)∧
 OP (aJ 2 a1) fun x6=>
 OP (af true 2 z3 x6) fun x7=>
 (af true 2 z2 x6=some x7∧True)∧
 OP (dW [(.bool false),(.slice none 0 0),(.bool false),(.slice none 0 0)] [(0,2,x5),(2,2,x7)]) fun x8=>
 OH (aK 4 z3 x2 x8) fun _ z4=>
 (True)∧
 OP (af true 4 z4 x2) fun r0=>
 K r0 z4
theorem avr:aj P ZQ (aS [.cell true 4 2] K) (bG [a0]) h=Nt P K a0 h:=by kernel_rfl
theorem f116 {K:VK} {a0:Value} {h:ae} (H:Nt prog K a0 h):aq prog 116 [a0] h K:=
 bT ayO (bP rfl) ((avr prog K a0 h).mpr H)
end
end
section
def RV (h:ae) (v:Value) (q:Rat):Prop:=hY h v q.num (q.den:Int)
theorem RV.mono {h h':ae} {v:Value} {q:Rat} (x:EX h h') (p:RV h v q):RV h' v q:=hY.mono x p
def cD (k:Nat) (q:Rat):Prop:=q.num.natAbs<10^k∧q.den<10^k
def afJ:Nat:=900
theorem aAp:(10:Nat)^afJ≤cw:=by unfold cw;decide+kernel
theorem wX {k:Nat} (h:k≤900):10^k≤cw:=Nat.le_trans (pow_le_pow_right (by decide) (show k≤afJ from h)) aAp
theorem Kb {a b i j:Nat} (ha:a<10^i) (hb:b<10^j):a*b<10^(i+j):=by
 rw [pow_add]
 exact Nat.mul_lt_mul'' ha hb
theorem AL {N:Int} {D:Nat} (hD:0<D):(mkRat N D).num=N / (gcd N.natAbs D:Int)∧(mkRat N D).den=D / gcd N.natAbs D:=by
 rw [←Rat.normalize_eq_mkRat (by omega:D≠0),Rat.normalize_eq]
 exact ⟨rfl,rfl⟩
theorem WG {va vb:Value} {N:Int} {D:Nat} {h:ae} {K:Value→ae→Prop} (ha:dQ h va N) (hb:dQ h vb (D:Int)) (la:N.natAbs<cw) (d0:0<D) (lb:D<cw) (hk:∀r h',EX h h'→RV h' r (mkRat N D)→K r h'):aq prog 106 [va,vb] h K:=by
 refine WE ha hb la (by omega) (by rw [natAbs_natCast];exact lb) ?_
 intro r h' x hr
 refine hk r h' x ?_
 obtain ⟨e1,e2⟩:=AL (N:=N) d0
 unfold RV
 rw [e1,e2,Int.natCast_ediv]
 rw [natAbs_natCast] at hr
 exact hr
theorem cD.sP {k:Nat} {q:Rat} (h:cD k q) (hk:k≤900):q.num.natAbs<cw∧q.den<cw:=by
 have:=wX hk
 exact ⟨lt_of_lt_of_le h.1 this,lt_of_lt_of_le h.2 this⟩
theorem zo {i j:Nat} {p q:Rat} (hp:cD i p) (hq:cD j q):(p.num*q.den).natAbs<10^(i+j)∧(q.num*p.den).natAbs<10^(i+j)∧p.den*q.den<10^(i+j)∧(p.num*q.num).natAbs<10^(i+j):=by
 refine ⟨?_,?_,Kb hp.2 hq.2,?_⟩
 ·rw [natAbs_mul,natAbs_natCast];exact Kb hp.1 hq.2
 ·rw [natAbs_mul,natAbs_natCast,mul_comm];exact Kb hp.2 hq.1
 ·rw [natAbs_mul];exact Kb hp.1 hq.1
theorem agv (n:Int):(mkRat n 1).num=n∧(mkRat n 1).den=1:=by
 obtain ⟨e1,e2⟩:=AL (N:=n) (D:=1) (by decide)
 rw [Nat.gcd_one_right] at e1 e2
 exact ⟨by rw [e1];simp,by rw [e2]⟩
theorem OG (p q:Rat):p+q=mkRat (p.num*q.den+q.num*p.den) (p.den*q.den):=by rw [Rat.add_def,Rat.normalize_eq_mkRat]
theorem SW (p q:Rat):p*q=mkRat (p.num*q.num) (p.den*q.den):=by rw [Rat.mul_def,Rat.normalize_eq_mkRat]
section
variable {va vb : Value} {p q : Rat} {i j : Nat} {h : ae} {K : Value → ae → Prop}
theorem yP (ha:RV h va p) (hb:RV h vb q) (sp:cD i p) (sq:cD j q) (fX:i+j≤800) (hk:∀r h',EX h h'→RV h' r (p+q)→K r h'):aq prog 87 [va,vb] h K:=by
 obtain ⟨u,w,rfl,hu,hw⟩:=ha
 obtain ⟨u2,w2,rfl,pT,mH⟩:=hb
 have pd:=p.den_pos
 have qd:=q.den_pos
 obtain ⟨wQ,uY⟩:=sp.sP (by omega)
 obtain ⟨wR,uZ⟩:=sq.sP (by omega)
 obtain ⟨c1,c2,c3,_⟩:=zo sp sq
 have cb:=wX (k:=i+j) (by omega)
 have cb1:=wX (k:=i+j+1) (by omega)
 have je:decide ((p.den:Int)<0)=false:=aT (by omega)
 have iu:decide ((q.den:Int)<0)=false:=aT (by omega)
 rw [natAbs_natCast] at hw mH
 rw [je,iu]
 refine f87 ?_
 have e1:∀(g:ae) (s t:Bool) (v w:Value),bC 107 g (.agg #[B s,v,B t,w])=some (pt g.length 0,g++[.arr 107 [B s,v,B t,w]]):=fun _ _ _ _ _=>rfl
 have e3:∀(g:ae),ba 107 [(.bool false),(.slice none 0 0),(.bool false),(.slice none 0 0)] g=some (pt g.length 0,g++[.arr 107 z4]):=fun _=>rfl
 simp only [Ov,e1,e3,aE]
 have q0:EX h (h++[.arr 107 [B (decide (p.num<0)),u,B false,w]]):=EX.append _ _
 have p0:(h++[ak.arr 107 [B (decide (p.num<0)),u,B false,w]])[h.length]?=some (.arr 107 [B (decide (p.num<0)),u,B false,w]):=bZ
 generalize h++[ak.arr 107 [B (decide (p.num<0)),u,B false,w]]=ga at q0 p0⊢
 have q1:EX ga (ga++[.arr 107 [B (decide (q.num<0)),u2,B false,w2]]):=EX.append _ _
 have p1:(ga++[ak.arr 107 [B (decide (q.num<0)),u2,B false,w2]])[ga.length]?=some (.arr 107 [B (decide (q.num<0)),u2,B false,w2]):=bZ
 generalize ga++[ak.arr 107 [B (decide (q.num<0)),u2,B false,w2]]=gb at q1 p1⊢
 have q2:EX gb (gb++[.arr 107 z4]):=EX.append _ _
 have p2:(gb++[ak.arr 107 z4])[gb.length]?=some (.arr 107 z4):=bZ
 generalize gb++[ak.arr 107 z4]=gc at q2 p2⊢
 have k0:=(q1.trans q2).get p0
 have k1:=q2.get p1
 have x0:=q0.trans (q1.trans q2)
 have pP:h.length≤gb.length:=(q0.trans q1).1
 have done:∀{N:Int} {D:Nat} {r:Value} {g:ae},EX gc g→RV g r (mkRat N D)→p+q=mkRat N D→OH (aK 4 g (pt gb.length 0) r) fun _ h_3=>OP (af true 4 h_3 (pt gb.length 0)) fun r0=>K r0 h_3:=by
  intro N D r g xg hr he
  rw [←he] at hr
  have g2:=xg.get p2
  obtain ⟨y,z,rfl,hy,hz⟩:=hr
  exact sS g2 (hk _ _ ((x0.trans xg).set pP _) ⟨y,z,rfl,hy.bS g2 _,hz.bS g2 _⟩)
 simp only [jh k0,ah]
 refine Dg (hw.mono x0) uY ?_
 intro g4 x4
 have tG:=x4.get k0
 have kC:=x4.get k1
 have F4:=x0.trans x4
 rw [aDh]
 have whole:∀t u':Value,ck t u' (.bool false)=some (B (decide (p.den=1)&&decide (q.den=1)))→∀{g5:ae},EX g4 g5→KQ prog K (pt h.length 0) (pt ga.length 0) (pt gb.length 0) t u' g5:=by
  intro t u' ht g5 x5
  have k0:=x5.get tG
  have k1:=x5.get kC
  have rl:=F4.trans x5
  have cH:=x4.trans x5
  rw [aDi,ht]
  simp only [ah]
  by_cases lU:p.den=1∧q.den=1
  ·rw [aW lU.1,aW lU.2]
   simp only [Bool.and_true,dM,b9,zero_add,ah]
   rw [lI k0]
   simp only [ah]
   rw [lI k1]
   simp only [ah]
   refine Me (a:=p.num) (b:=q.num) ⟨u,rfl,hu.mono rl⟩ ⟨u2,rfl,pT.mono rl⟩ wQ wR ?_
   intro r1 g6 x6 i1
   refine WJ i1 ?_
   intro r2 g7 x7 i2
   obtain ⟨n1,n2⟩:=agv (p.num+q.num)
   refine done (N:=p.num+q.num) (D:=1) (cH.trans (x6.trans x7)) (by unfold RV;rw [n1,n2];exact i2) ?_
   rw [OG,lU.1,lU.2]
   simp
  ·have hf:(decide (p.den=1)&&decide (q.den=1))=false:=by
    rw [Bool.and_eq_false_iff,decide_eq_false_iff_not,decide_eq_false_iff_not]
    by_cases h1:p.den=1
    ·exact .inr fun h2=>lU ⟨h1,h2⟩
    ·exact .inl h1
   rw [hf]
   have pY:∀{g:ae},EX g5 g→af true 2 g (pt h.length 0)=some (.agg #[B (decide (p.num<0)),u]):=fun x=>lI (x.get k0)
   have wN:∀{g:ae},EX g5 g→af true 2 g (pt h.length 2)=some (.agg #[B false,w]):=fun x=>nj (x.get k0)
   have JW:∀{g:ae},EX g5 g→af true 2 g (pt ga.length 0)=some (.agg #[B (decide (q.num<0)),u2]):=fun x=>lI (x.get k1)
   have AB:∀{g:ae},EX g5 g→af true 2 g (pt ga.length 2)=some (.agg #[B false,w2]):=fun x=>nj (x.get k1)
   have iw:∀{g:ae},EX g5 g→dQ g (.agg #[B false,w]) (p.den:Int):=fun x=>dQ.nat (hw.mono (rl.trans x))
   have JO:∀{g:ae},EX g5 g→dQ g (.agg #[B false,w2]) (q.den:Int):=fun x=>dQ.nat (mH.mono (rl.trans x))
   simp only [dP,b9,zero_add,ah,pY (EX.refl g5),AB (EX.refl g5),true_and]
   refine uc (a:=p.num) (b:=(q.den:Int)) ⟨u,rfl,hu.mono rl⟩ (JO (EX.refl g5)) wQ (by rw [natAbs_natCast];exact uZ) ?_
   intro r1 g6 x6 i1
   simp only [JW x6,JW (EX.refl g5),wN x6,wN (EX.refl g5),ah,true_and]
   refine uc (a:=q.num) (b:=(p.den:Int)) ⟨u2,rfl,(pT.mono rl).mono x6⟩ (iw x6) wR (by rw [natAbs_natCast];exact uY) ?_
   intro r2 g7 x7 i2
   have fR:=x6.trans x7
   refine Me (i1.mono x7) i2 (by omega) (by omega) ?_
   intro r3 g8 x8 i3
   have gS:=fR.trans x8
   simp only [wN gS,wN fR,AB gS,AB x6,AB fR,ah,true_and]
   refine uc (iw gS) (JO gS) (by rw [natAbs_natCast];exact uY) (by rw [natAbs_natCast];exact uZ) ?_
   intro r4 g9 x9 i4
   rw [←Int.natCast_mul] at i4
   have JB:(p.num*q.den+q.num*p.den).natAbs<cw:=by
    have h1:10^(i+j+1)=10^(i+j)*10:=pow_succ ..
    generalize 10^(i+j)=Z at*
    omega
   refine WG (i3.mono x9) i4 JB (Nat.mul_pos pd qd) (lt_of_lt_of_le c3 cb) ?_
   intro r iO aM ir
   exact done (cH.trans (gS.trans (x9.trans aM))) ir (OG p q)
 by_cases h1:p.den=1
 ·rw [aW h1]
  simp only [iY,jh kC,ah]
  refine Dg (mH.mono F4) uZ ?_
  intro g5 x5
  refine whole _ _ ?_ x5
  rw [h1];simp
 ·rw [aT h1]
  simp only [kZ]
  refine whole _ _ ?_ (EX.refl g4)
  rw [aT h1];simp
end
end
section
section
variable {va vb : Value} {p q : Rat} {i j : Nat} {h : ae} {K : Value → ae → Prop}
theorem Mk (ha:RV h va p) (hb:RV h vb q) (sp:cD i p) (sq:cD j q) (fX:i+j≤800) (hk:∀r h',EX h h'→RV h' r (p*q)→K r h'):aq prog 88 [va,vb] h K:=by
 obtain ⟨u,w,rfl,hu,hw⟩:=ha
 obtain ⟨u2,w2,rfl,pT,mH⟩:=hb
 have pd:=p.den_pos
 have qd:=q.den_pos
 obtain ⟨wQ,uY⟩:=sp.sP (by omega)
 obtain ⟨wR,uZ⟩:=sq.sP (by omega)
 obtain ⟨_,_,c3,c4⟩:=zo sp sq
 have cb:=wX (k:=i+j) (by omega)
 have je:decide ((p.den:Int)<0)=false:=aT (by omega)
 have iu:decide ((q.den:Int)<0)=false:=aT (by omega)
 rw [natAbs_natCast] at hw mH
 rw [je,iu]
 refine f88 ?_
 have e1:∀(g:ae) (s t:Bool) (v w:Value),bC 107 g (.agg #[B s,v,B t,w])=some (pt g.length 0,g++[.arr 107 [B s,v,B t,w]]):=fun _ _ _ _ _=>rfl
 have e3:∀(g:ae),ba 107 [(.bool false),(.slice none 0 0),(.bool false),(.slice none 0 0)] g=some (pt g.length 0,g++[.arr 107 z4]):=fun _=>rfl
 simp only [Ow,e1,e3,aE]
 have q0:EX h (h++[.arr 107 [B (decide (p.num<0)),u,B false,w]]):=EX.append _ _
 have p0:(h++[ak.arr 107 [B (decide (p.num<0)),u,B false,w]])[h.length]?=some (.arr 107 [B (decide (p.num<0)),u,B false,w]):=bZ
 generalize h++[ak.arr 107 [B (decide (p.num<0)),u,B false,w]]=ga at q0 p0⊢
 have q1:EX ga (ga++[.arr 107 [B (decide (q.num<0)),u2,B false,w2]]):=EX.append _ _
 have p1:(ga++[ak.arr 107 [B (decide (q.num<0)),u2,B false,w2]])[ga.length]?=some (.arr 107 [B (decide (q.num<0)),u2,B false,w2]):=bZ
 generalize ga++[ak.arr 107 [B (decide (q.num<0)),u2,B false,w2]]=gb at q1 p1⊢
 have q2:EX gb (gb++[.arr 107 z4]):=EX.append _ _
 have p2:(gb++[ak.arr 107 z4])[gb.length]?=some (.arr 107 z4):=bZ
 generalize gb++[ak.arr 107 z4]=gc at q2 p2⊢
 have k0:=(q1.trans q2).get p0
 have k1:=q2.get p1
 have x0:=q0.trans (q1.trans q2)
 have pP:h.length≤gb.length:=(q0.trans q1).1
 have done:∀{N:Int} {D:Nat} {r:Value} {g:ae},EX gc g→RV g r (mkRat N D)→p*q=mkRat N D→OH (aK 4 g (pt gb.length 0) r) fun _ h_3=>OP (af true 4 h_3 (pt gb.length 0)) fun r0=>K r0 h_3:=by
  intro N D r g xg hr he
  rw [←he] at hr
  have g2:=xg.get p2
  obtain ⟨y,z,rfl,hy,hz⟩:=hr
  exact sS g2 (hk _ _ ((x0.trans xg).set pP _) ⟨y,z,rfl,hy.bS g2 _,hz.bS g2 _⟩)
 simp only [jh k0,ah]
 refine Dg (hw.mono x0) uY ?_
 intro g4 x4
 have tG:=x4.get k0
 have kC:=x4.get k1
 have F4:=x0.trans x4
 rw [aDj]
 have whole:∀t u':Value,ck t u' (.bool false)=some (B (decide (p.den=1)&&decide (q.den=1)))→∀{g5:ae},EX g4 g5→KR prog K (pt h.length 0) (pt ga.length 0) (pt gb.length 0) t u' g5:=by
  intro t u' ht g5 x5
  have k0:=x5.get tG
  have k1:=x5.get kC
  have rl:=F4.trans x5
  have cH:=x4.trans x5
  rw [aDk,ht]
  simp only [ah]
  by_cases lU:p.den=1∧q.den=1
  ·rw [aW lU.1,aW lU.2]
   simp only [Bool.and_true,dM,b9,zero_add,ah]
   rw [lI k0]
   simp only [ah]
   rw [lI k1]
   simp only [ah]
   refine uc (a:=p.num) (b:=q.num) ⟨u,rfl,hu.mono rl⟩ ⟨u2,rfl,pT.mono rl⟩ wQ wR ?_
   intro r1 g6 x6 i1
   refine WJ i1 ?_
   intro r2 g7 x7 i2
   obtain ⟨n1,n2⟩:=agv (p.num*q.num)
   refine done (N:=p.num*q.num) (D:=1) (cH.trans (x6.trans x7)) (by unfold RV;rw [n1,n2];exact i2) ?_
   rw [SW,lU.1,lU.2]
  ·have hf:(decide (p.den=1)&&decide (q.den=1))=false:=by
    rw [Bool.and_eq_false_iff,decide_eq_false_iff_not,decide_eq_false_iff_not]
    by_cases h1:p.den=1
    ·exact .inr fun h2=>lU ⟨h1,h2⟩
    ·exact .inl h1
   rw [hf]
   have pY:∀{g:ae},EX g5 g→af true 2 g (pt h.length 0)=some (.agg #[B (decide (p.num<0)),u]):=fun x=>lI (x.get k0)
   have wN:∀{g:ae},EX g5 g→af true 2 g (pt h.length 2)=some (.agg #[B false,w]):=fun x=>nj (x.get k0)
   have JW:∀{g:ae},EX g5 g→af true 2 g (pt ga.length 0)=some (.agg #[B (decide (q.num<0)),u2]):=fun x=>lI (x.get k1)
   have AB:∀{g:ae},EX g5 g→af true 2 g (pt ga.length 2)=some (.agg #[B false,w2]):=fun x=>nj (x.get k1)
   have iw:∀{g:ae},EX g5 g→dQ g (.agg #[B false,w]) (p.den:Int):=fun x=>dQ.nat (hw.mono (rl.trans x))
   have JO:∀{g:ae},EX g5 g→dQ g (.agg #[B false,w2]) (q.den:Int):=fun x=>dQ.nat (mH.mono (rl.trans x))
   simp only [dP,b9,zero_add,ah,pY (EX.refl g5),JW (EX.refl g5),true_and]
   refine uc (a:=p.num) (b:=q.num) ⟨u,rfl,hu.mono rl⟩ ⟨u2,rfl,pT.mono rl⟩ wQ wR ?_
   intro r1 g6 x6 i1
   simp only [wN x6,wN (EX.refl g5),AB x6,AB (EX.refl g5),ah,true_and]
   refine uc (iw x6) (JO x6) (by rw [natAbs_natCast];exact uY) (by rw [natAbs_natCast];exact uZ) ?_
   intro r2 g7 x7 i2
   rw [←Int.natCast_mul] at i2
   have fR:=x6.trans x7
   refine WG (i1.mono x7) i2 (lt_of_lt_of_le c4 cb) (Nat.mul_pos pd qd) (lt_of_lt_of_le c3 cb) ?_
   intro r iO aM ir
   exact done (cH.trans (fR.trans aM)) ir (SW p q)
 by_cases h1:p.den=1
 ·rw [aW h1]
  simp only [iY,jh kC,ah]
  refine Dg (mH.mono F4) uZ ?_
  intro g5 x5
  refine whole _ _ ?_ x5
  rw [h1];simp
 ·rw [aT h1]
  simp only [kZ]
  refine whole _ _ ?_ (EX.refl g4)
  rw [aT h1];simp
def uv (p q:Rat):Int:=if p=q then 0 else if p<q then -1 else 1
theorem auQ (p q:Rat):(if p.num*q.den-q.num*p.den=0 then 0 else if p.num*q.den-q.num*p.den<0 then -1 else 1:Int)=uv p q:=by
 unfold uv
 have h1:p=q↔p.num*q.den-q.num*p.den=0:=by
  constructor
  ·rintro rfl;omega
  ·intro h
   refine Rat.le_antisymm ?_ ?_ <;> rw [Rat.le_iff] <;> omega
 have h2:p<q↔p.num*q.den-q.num*p.den<0:=by rw [Rat.lt_iff];omega
 by_cases e1:p=q
 ·rw [if_pos e1,if_pos (h1.1 e1)]
 ·rw [if_neg e1,if_neg (fun h=>e1 (h1.2 h))]
  by_cases e2:p<q
  ·rw [if_pos e2,if_pos (h2.1 e2)]
  ·rw [if_neg e2,if_neg (fun h=>e2 (h2.2 h))]
theorem Mj (ha:RV h va p) (hb:RV h vb q) (sp:cD i p) (sq:cD j q) (fX:i+j≤800) (hk:∀h',EX h h'→K (I (uv p q)) h'):aq prog 86 [va,vb] h K:=by
 obtain ⟨u,w,rfl,hu,hw⟩:=ha
 obtain ⟨u2,w2,rfl,pT,mH⟩:=hb
 obtain ⟨wQ,uY⟩:=sp.sP (by omega)
 obtain ⟨wR,uZ⟩:=sq.sP (by omega)
 obtain ⟨c1,c2,_,_⟩:=zo sp sq
 have cb:=wX (k:=i+j) (by omega)
 have je:decide ((p.den:Int)<0)=false:=aT (by omega)
 have iu:decide ((q.den:Int)<0)=false:=aT (by omega)
 rw [natAbs_natCast] at hw mH
 rw [je,iu]
 refine f86 ?_
 have e1:∀(g:ae) (s t:Bool) (v w:Value),bC 107 g (.agg #[B s,v,B t,w])=some (pt g.length 0,g++[.arr 107 [B s,v,B t,w]]):=fun _ _ _ _ _=>rfl
 simp only [Ou,e1,aE]
 have q0:EX h (h++[.arr 107 [B (decide (p.num<0)),u,B false,w]]):=EX.append _ _
 have p0:(h++[ak.arr 107 [B (decide (p.num<0)),u,B false,w]])[h.length]?=some (.arr 107 [B (decide (p.num<0)),u,B false,w]):=bZ
 generalize h++[ak.arr 107 [B (decide (p.num<0)),u,B false,w]]=ga at q0 p0⊢
 have q1:EX ga (ga++[.arr 107 [B (decide (q.num<0)),u2,B false,w2]]):=EX.append _ _
 have p1:(ga++[ak.arr 107 [B (decide (q.num<0)),u2,B false,w2]])[ga.length]?=some (.arr 107 [B (decide (q.num<0)),u2,B false,w2]):=bZ
 generalize ga++[ak.arr 107 [B (decide (q.num<0)),u2,B false,w2]]=gb at q1 p1⊢
 have k0:=q1.get p0
 have x0:=q0.trans q1
 simp only [b9,zero_add,ah,lI k0,nj p1,true_and]
 refine uc (a:=p.num) (b:=(q.den:Int)) ⟨u,rfl,hu.mono x0⟩ (dQ.nat (mH.mono x0)) wQ (by rw [natAbs_natCast];exact uZ) ?_
 intro r1 g6 x6 i1
 simp only [lI (x6.get p1),lI p1,nj (x6.get k0),nj k0,ah,true_and]
 refine uc (a:=q.num) (b:=(p.den:Int)) ⟨u2,rfl,(pT.mono x0).mono x6⟩ (dQ.nat ((hw.mono x0).mono x6)) wR (by rw [natAbs_natCast];exact uY) ?_
 intro r2 g7 x7 i2
 refine Md (i1.mono x7) i2 (lt_of_lt_of_le c1 cb) (lt_of_lt_of_le c2 cb) ?_
 intro g8 x8
 rw [auQ]
 exact hk g8 (x0.trans (x6.trans (x7.trans x8)))
theorem acU {p q:Rat} (hq:0<q.num):p / q=mkRat (p.num*q.den) (p.den*q.num.toNat):=by
 have h1:=Rat.mkRat_self p
 have h2:=Rat.mkRat_self q
 rw [Rat.mkRat_eq_div] at h1 h2
 rw [Rat.mkRat_eq_div,Rat.intCast_mul,Rat.natCast_mul]
 have h3:((q.num.toNat:Nat):Rat)=(q.num:Rat):=by
  rw [←Rat.intCast_natCast,Int.toNat_of_nonneg (by omega)]
 have h4:((q.den:Nat):Int)=(q.den:Int):=rfl
 rw [h3,Rat.intCast_natCast]
 have d1:((p.den:Nat):Rat)≠0:=by
  have:=p.den_nz
  intro h
  exact this (by exact_mod_cast h)
 have d2:((q.den:Nat):Rat)≠0:=by
  have:=q.den_nz
  intro h
  exact this (by exact_mod_cast h)
 have d3:(q.num:Rat)≠0:=by
  intro h
  have:q.num=0:=by exact_mod_cast h
  omega
 generalize (p.num:Rat)=a at*
 generalize (q.num:Rat)=b at*
 generalize ((p.den:Nat):Rat)=c at*
 generalize ((q.den:Nat):Rat)=d at*
 rw [←h1,←h2]
 grind
theorem W7 (ha:RV h va p) (hb:RV h vb q) (hq:0<q.num) (sp:cD i p) (sq:cD j q) (fX:i+j≤800) (hk:∀r h',EX h h'→RV h' r (p / q)→K r h'):aq prog 77 [va,vb] h K:=by
 obtain ⟨wQ,uY⟩:=sp.sP (by omega)
 obtain ⟨wR,uZ⟩:=sq.sP (by omega)
 obtain ⟨c1,c2,_,_⟩:=zo sp sq
 have cb:=wX (k:=i+j) (by omega)
 have pd:=p.den_pos
 have iF:(0:Int)<(p.den:Int)*q.num:=Int.mul_pos (by omega) hq
 obtain ⟨m,hm⟩:∃m:Nat,q.num=(m:Int):=⟨q.num.toNat,by omega⟩
 have hN:((p.den:Int)*q.num).natAbs=p.den*q.num.toNat:=by rw [natAbs_mul,natAbs_natCast];congr 1;omega
 refine an8 ha hb wQ (by rw [natAbs_natCast];exact uY) wR (by rw [natAbs_natCast];exact uZ) (lt_of_lt_of_le c1 cb) iF (by rw [Int.mul_comm];exact lt_of_lt_of_le c2 cb) ?_
 intro r h' x hr
 refine hk r h' x ?_
 have hD:0<p.den*q.num.toNat:=Nat.mul_pos pd (by omega)
 obtain ⟨e1,e2⟩:=AL (N:=p.num*q.den) hD
 unfold RV
 rw [acU hq,e1,e2,Int.natCast_ediv,Int.natCast_mul,Int.toNat_of_nonneg (by omega)]
 rw [hN] at hr
 exact hr
theorem ue {n:Int} (h1: -9223372036854775808≤n) (h2:n<9223372036854775808) (hk:∀r h',EX h h'→RV h' r (n:Rat)→K r h'):aq prog 75 [I n] h K:=by
 refine C75 h1 h2 ?_
 intro r h' x hr
 exact hk r h' x hr
end
end
section
section
variable {va vb : Value} {p q : Rat} {i j : Nat} {h : ae} {K : Value → ae → Prop}
theorem cD.neg {k:Nat} {q:Rat} (h:cD k q):cD k (-q):=by
 unfold cD at*
 rw [Rat.neg_num,Rat.neg_den,Int.natAbs_neg]
 exact h
theorem anI (ha:RV h va p) (hk:∀r h',EX h h'→RV h' r (-p)→K r h'):aq prog 116 [va] h K:=by
 obtain ⟨u,w,rfl,hu,hw⟩:=ha
 have je:decide ((p.den:Int)<0)=false:=aT (by omega)
 rw [natAbs_natCast] at hw
 rw [je]
 refine f116 ?_
 have e1:∀(g:ae) (s t:Bool) (v w:Value),bC 107 g (.agg #[B s,v,B t,w])=some (pt g.length 0,g++[.arr 107 [B s,v,B t,w]]):=fun _ _ _ _ _=>rfl
 have e3:∀(g:ae),ba 107 [(.bool false),(.slice none 0 0),(.bool false),(.slice none 0 0)] g=some (pt g.length 0,g++[.arr 107 z4]):=fun _=>rfl
 simp only [Nt,e1,e3,aE]
 have q0:EX h (h++[.arr 107 [B (decide (p.num<0)),u,B false,w]]):=EX.append _ _
 have p0:(h++[ak.arr 107 [B (decide (p.num<0)),u,B false,w]])[h.length]?=some (.arr 107 [B (decide (p.num<0)),u,B false,w]):=bZ
 generalize h++[ak.arr 107 [B (decide (p.num<0)),u,B false,w]]=ga at q0 p0⊢
 have q2:EX ga (ga++[.arr 107 z4]):=EX.append _ _
 have p2:(ga++[ak.arr 107 z4])[ga.length]?=some (.arr 107 z4):=bZ
 generalize ga++[ak.arr 107 z4]=gc at q2 p2⊢
 have k0:=q2.get p0
 have x0:=q0.trans q2
 simp only [b9,zero_add,ah,lI k0,true_and]
 refine WL (a:=p.num) ⟨u,rfl,hu.mono x0⟩ ?_
 intro r1 g6 x6 i1
 simp only [nj (x6.get k0),nj k0,ah,true_and]
 have iw:dQ g6 (.agg #[B false,w]) (p.den:Int):=dQ.nat ((hw.mono x0).mono x6)
 refine IE i1 iw (x0.trans x6) (by have:=q0.1;omega) (x6.get p2) ?_
 intro r h' x hr
 refine hk r h' x ?_
 unfold RV
 rw [Rat.neg_num,Rat.neg_den]
 exact hr
theorem C96 (ha:RV h va p) (hb:RV h vb q) (sp:cD i p) (sq:cD j q) (fX:i+j≤800) (hk:∀r h',EX h h'→RV h' r (p-q)→K r h'):aq prog 96 [va,vb] h K:=by
 have oh:=ha
 have qC:=hb
 obtain ⟨u,w,rfl,hu,hw⟩:=ha
 obtain ⟨u2,w2,rfl,pT,mH⟩:=hb
 refine f96 ?_
 have e1:∀(g:ae) (s t:Bool) (v w:Value),bC 107 g (.agg #[B s,v,B t,w])=some (pt g.length 0,g++[.arr 107 [B s,v,B t,w]]):=fun _ _ _ _ _=>rfl
 have e3:∀(g:ae),ba 107 [(.bool false),(.slice none 0 0),(.bool false),(.slice none 0 0)] g=some (pt g.length 0,g++[.arr 107 z4]):=fun _=>rfl
 simp only [OC,e1,e3,aE]
 generalize decide ((p.den:Int)<0)=t1 at*
 generalize decide ((q.den:Int)<0)=t2 at*
 have q0:EX h (h++[.arr 107 [B (decide (p.num<0)),u,B t1,w]]):=EX.append _ _
 have p0:(h++[ak.arr 107 [B (decide (p.num<0)),u,B t1,w]])[h.length]?=some (.arr 107 [B (decide (p.num<0)),u,B t1,w]):=bZ
 generalize h++[ak.arr 107 [B (decide (p.num<0)),u,B t1,w]]=ga at q0 p0⊢
 have q1:EX ga (ga++[.arr 107 [B (decide (q.num<0)),u2,B t2,w2]]):=EX.append _ _
 have p1:(ga++[ak.arr 107 [B (decide (q.num<0)),u2,B t2,w2]])[ga.length]?=some (.arr 107 [B (decide (q.num<0)),u2,B t2,w2]):=bZ
 generalize ga++[ak.arr 107 [B (decide (q.num<0)),u2,B t2,w2]]=gb at q1 p1⊢
 have q2:EX gb (gb++[.arr 107 z4]):=EX.append _ _
 have p2:(gb++[ak.arr 107 z4])[gb.length]?=some (.arr 107 z4):=bZ
 generalize gb++[ak.arr 107 z4]=gc at q2 p2⊢
 have k0:=(q1.trans q2).get p0
 have k1:=q2.get p1
 have x0:=q0.trans (q1.trans q2)
 have pP:h.length≤gb.length:=(q0.trans q1).1
 simp only [jh k0,jh k1,ah,true_and]
 refine anI (qC.mono x0) ?_
 intro r1 g6 x6 i1
 simp only [jh (x6.get k0),true_and]
 refine yP ((oh.mono x0).mono x6) i1 sp sq.neg fX ?_
 intro r g7 x7 ir
 rw [←Rat.sub_eq_add_neg] at ir
 have fR:=x6.trans x7
 have g2:=fR.get p2
 obtain ⟨y,z,rfl,hy,hz⟩:=ir
 exact sS g2 (hk _ _ ((x0.trans fR).set pP _) ⟨y,z,rfl,hy.bS g2 _,hz.bS g2 _⟩)
theorem W8 (ha:RV h va p) (hk:∀h',EX h h'→K (I (EZ p.num)) h'):aq prog 81 [va] h K:=by
 obtain ⟨u,w,rfl,hu,hw⟩:=ha
 refine f81 ?_
 have e1:∀(g:ae) (s t:Bool) (v w:Value),bC 107 g (.agg #[B s,v,B t,w])=some (pt g.length 0,g++[.arr 107 [B s,v,B t,w]]):=fun _ _ _ _ _=>rfl
 simp only [Om,e1,aE]
 generalize decide ((p.den:Int)<0)=t1 at*
 have q0:EX h (h++[.arr 107 [B (decide (p.num<0)),u,B t1,w]]):=EX.append _ _
 have p0:(h++[ak.arr 107 [B (decide (p.num<0)),u,B t1,w]])[h.length]?=some (.arr 107 [B (decide (p.num<0)),u,B t1,w]):=bZ
 generalize h++[ak.arr 107 [B (decide (p.num<0)),u,B t1,w]]=ga at q0 p0⊢
 simp only [b9,zero_add,ah,lI p0]
 refine WI (a:=p.num) ⟨u,rfl,hu.mono q0⟩ ?_
 intro h' x'
 exact hk h' (q0.trans x')
end
end
section
def lB (s:List UInt8):Bool:=((decide (0<s.length)&&decide (s.length≤4000))&& !(decide (s.head?=some 48)&&decide (1<s.length)))&&s.all fun c=>decide (48≤c.toNat)&&decide (c.toNat≤57)
theorem DY {s:List UInt8}:lB s=true↔(0<s.length∧s.length≤4000)∧(s.head?=some 48→s.length=1)∧qu s:=by
 unfold lB qu
 simp only [Bool.and_eq_true,decide_eq_true_eq,Bool.not_eq_true',Bool.and_eq_false_iff,decide_eq_false_iff_not,List.all_eq_true]
 constructor
 ·rintro ⟨⟨h1,h2⟩,h3⟩
  refine ⟨h1,fun h=>?_,h3⟩
  rcases h2 with h2 | h2
  ·exact absurd h h2
  ·omega
 ·rintro ⟨h1,h2,h3⟩
  refine ⟨⟨h1,?_⟩,h3⟩
  by_cases h:s.head?=some 48
  ·have:=h2 h
   exact .inr (by omega)
  ·exact .inl h
end
section
variable (P : Program) (K : VK)
noncomputable section
variable (n0 d1 n2 d3 x4 : Value) (h : ae)
def ahJ:=bK prog 54 [[],[],[2,3,4],[]]
@[irreducible] def Pq:=bR ahJ
@[irreducible] def ath:=Pq.r.r.l
theorem k54:ahJ=some (14,Pq,[.cell true 4 4]):=by kernel_rfl
def apP (_P:Program) (K:VK):ar:=aS [.cell true 4 4] K
def Un:Prop:=ax (aj P ath (apP P K)) [2,3,4] [n2,d3,x4] h
theorem aCk:Un P K n2 d3 x4 h=
 (OP (af true 2 h n2) fun au=>
 OP (af true 2 h d3) fun aA=>
 OP (dW [(.bool false),(.slice none 0 0),(.bool false),(.slice none 0 0)] [(0,2,au),(2,2,aA)]) fun aD=>
 OH (aK 4 h x4 aD) fun _ z1=>
 OP (af true 4 z1 x4) fun r0=>
 K r0 z1):=az (by kernel_rfl)
def N4:Prop:=
 OH (bC 35 h n0) fun n2 z1=>
 OH (bC 35 z1 d1) fun d3 z2=>
 OH (ba 37 [(.bool false),(.slice none 0 0),(.bool false),(.slice none 0 0)] z2) fun x4 z3=>
 OP (aJ 0 d3) fun x5=>
 OP (af false 1 z3 x5) fun x6=>
 aQ x6
 (OP (af true 2 z3 n2) fun x7=>
 (True)∧
 aq P 95 [x7] z3 fun x8 z4=>
 (True)∧
 OP (af true 2 z4 d3) fun x9=>
 (af true 2 z3 d3=some x9∧True)∧
 aq P 95 [x9] z4 fun aM z5=>
 (True)∧
 OH (aK 2 z5 n2 x8) fun _ z6=>
 (True)∧
 OH (aK 2 z6 d3 aM) fun _ z7=>
 (True)∧
 Un P K n2 d3 x4 z7)
 (Un P K n2 d3 x4 z3)
theorem e54:aj P Pq (aS [.cell true 4 4] K) (bG [n0,d1]) h=N4 P K n0 d1 h:=by kernel_rfl
theorem f54 {K:VK} {n0 d1:Value} {h:ae} (H:N4 prog K n0 d1 h):aq prog 54 [n0,d1] h K:=
 bT k54 (bP rfl) ((e54 prog K n0 d1 h).mpr H)
end
end
section
theorem C54 {va vb:Value} {a b:Int} {h:ae} {K:Value→ae→Prop} (ha:ZV h va a) (hb:ZV h vb b) (b0:0≤b) (hk:∀r h',EX h h'→QZ h' r a b→K r h'):aq prog 54 [va,vb] h K:=by
 obtain ⟨v,rfl,hv⟩:=ha
 obtain ⟨w,rfl,hw⟩:=hb
 have wD:decide (b<0)=false:=aT (by omega)
 refine f54 ?_
 have e1:∀(g:ae) (s:Bool) (v:Value),bC 35 g (.agg #[B s,v])=some (pt g.length 0,g++[.arr 35 [B s,v]]):=fun _ _ _=>rfl
 have e3:∀(g:ae),ba 37 [(.bool false),(.slice none 0 0),(.bool false),(.slice none 0 0)] g=some (pt g.length 0,g++[.arr 37 z4]):=fun _=>rfl
 simp only [N4,e1,e3,aE]
 have q0:EX h (h++[.arr 35 [B (decide (a<0)),v]]):=EX.append _ _
 have p0:(h++[ak.arr 35 [B (decide (a<0)),v]])[h.length]?=some (.arr 35 [B (decide (a<0)),v]):=bZ
 generalize h++[ak.arr 35 [B (decide (a<0)),v]]=ga at q0 p0⊢
 have q1:EX ga (ga++[.arr 35 [B (decide (b<0)),w]]):=EX.append _ _
 have p1:(ga++[ak.arr 35 [B (decide (b<0)),w]])[ga.length]?=some (.arr 35 [B (decide (b<0)),w]):=bZ
 generalize ga++[ak.arr 35 [B (decide (b<0)),w]]=gb at q1 p1⊢
 have q2:EX gb (gb++[.arr 37 z4]):=EX.append _ _
 have p2:(gb++[ak.arr 37 z4])[gb.length]?=some (.arr 37 z4):=bZ
 generalize gb++[ak.arr 37 z4]=gc at q2 p2⊢
 have k0:=(q1.trans q2).get p0
 have k1:=q2.get p1
 have x0:=q0.trans (q1.trans q2)
 have l1:af false 1 gc (pt ga.length 0)=some (B (decide (b<0))):=by simp [af,aR,k1,cm]
 simp only [b9,add_zero,ah,l1]
 rw [wD]
 simp only [dP]
 rw [aCk,dC k0,dC k1]
 simp only [ah]
 have JM:ZV gc (.agg #[B (decide (a<0)),v]) a:=⟨v,rfl,hv.mono x0⟩
 have JN:ZV gc (.agg #[B (decide (b<0)),w]) b:=⟨w,rfl,hw.mono x0⟩
 obtain ⟨xs,dx,_⟩:=id (hv.mono x0)
 obtain ⟨ys,dy,_⟩:=id (hw.mono x0)
 rw [G4 dx dy]
 simp only [ah]
 exact sS p2 (hk _ _ (x0.set (q0.trans q1).1 _) ⟨v,w,rfl,(hv.mono x0).bS p2 _,(hw.mono x0).bS p2 _⟩)
theorem aAm:(1000000000000000000:Nat)<10000^199:=by decide+kernel
theorem C17 {w n:Int} {h:ae} {K:Value→ae→Prop} (hw:w.natAbs<1000000000000000000) (n0:0<n) (hn:n.natAbs<1000000000000000000) (hk:∀r h',EX h h'→QZ h' r (w / (gcd w.natAbs n.natAbs:Int)) (n / (gcd w.natAbs n.natAbs:Int))→K r h'):aq prog 17 [I w,I n] h K:=by
 refine f17 ?_
 have e3:ba 37 [(.bool false),(.slice none 0 0),(.bool false),(.slice none 0 0)] h=some (pt h.length 0,h++[.arr 37 z4]):=rfl
 simp only [NW,e3,aE]
 have x0:EX h (h++[.arr 37 z4]):=EX.append _ _
 have g0:(h++[ak.arr 37 z4])[h.length]?=some (.arr 37 z4):=bZ
 generalize h++[ak.arr 37 z4]=ga at x0 g0⊢
 refine Bl hw ?_
 intro r1 h1 x1 z1
 refine Bl hn ?_
 intro r2 h2 x2 z2
 refine C54 (z1.mono x2) z2 (by omega) ?_
 intro q h3 x3 qz
 have p18:=aAm
 refine W2 qz n0 (by omega) (by omega) ?_
 intro r h4 x4 qr
 have aL:=(x1.trans x2).trans (x3.trans x4)
 have g4:=aL.get g0
 obtain ⟨y,z,rfl,my,mz⟩:=qr
 exact sS g4 (hk _ _ ((x0.trans aL).set (le_refl _) _) ⟨y,z,rfl,my.bS g4 _,mz.bS g4 _⟩)
theorem au1 {n:Nat} (hn:n<cw) (h:dS n=[49]):n=1:=by
 have:=(xK hn).2.2.2.2
 rw [h] at this
 simpa [fa] using this.symm
theorem an3 {va:Value} {a b:Int} {h:ae} {K:Value→ae→Prop} (ha:QZ h va a b) (b0:0<b) (la:a.natAbs<10000^199) (lb:b.natAbs<10000^199) (hk:∀h',EX h h'→K (.tuple #[S (qe (a / (gcd a.natAbs b.natAbs:Int)) (b / (gcd a.natAbs b.natAbs:Int))),B true]) h'):aq prog 53 [va] h K:=by
 have oh:=ha
 obtain ⟨u,w,rfl,hu,hw⟩:=ha
 refine f53 ?_
 have e1:bC 37 h (.agg #[B (decide (a<0)),u,B (decide (b<0)),w])=some (pt h.length 0,h++[.arr 37 [B (decide (a<0)),u,B (decide (b<0)),w]]):=rfl
 simp only [N3,e1,aE]
 have x1:EX h (h++[ak.arr 37 [B (decide (a<0)),u,B (decide (b<0)),w]]):=EX.append _ _
 have k1:(h++[ak.arr 37 [B (decide (a<0)),u,B (decide (b<0)),w]])[h.length]?=some (.arr 37 [B (decide (a<0)),u,B (decide (b<0)),w]):=bZ
 generalize h++[ak.arr 37 [B (decide (a<0)),u,B (decide (b<0)),w]]=h1 at x1 k1⊢
 rw [jh k1]
 simp only [ah]
 refine W2 (oh.mono x1) b0 la lb ?_
 intro r h2 x2 q2
 have hg0:0<gcd a.natAbs b.natAbs:=Nat.gcd_pos_of_pos_right _ (by omega)
 have aef:gcd a.natAbs b.natAbs≤b.natAbs:=Nat.gcd_le_right _ (by omega)
 have QW:(gcd a.natAbs b.natAbs:Int) ∣ a:=Int.gcd_dvd_left ..
 have zP:(gcd a.natAbs b.natAbs:Int) ∣ b:=Int.gcd_dvd_right ..
 generalize hG:gcd a.natAbs b.natAbs=G at*
 have la':(a / (G:Int)).natAbs<10000^199:=by
  obtain ⟨c,rfl⟩:=QW
  rw [Int.mul_ediv_cancel_left c (by omega)]
  have:c.natAbs≤((G:Int)*c).natAbs:=by rw [natAbs_mul];exact Nat.le_mul_of_pos_left _ (by omega)
  omega
 have b1:0<b / (G:Int)∧(b / (G:Int)).natAbs<10000^199:=by
  obtain ⟨c,rfl⟩:=zP
  rw [Int.mul_ediv_cancel_left c (by omega)]
  have hc:0<c:=by
   apply byContradiction
   intro gW
   have:=Int.mul_nonpos_of_nonneg_of_nonpos (show (0:Int)≤(G:Int) by omega) (show c≤0 by omega)
   omega
  have:c.natAbs≤((G:Int)*c).natAbs:=by rw [natAbs_mul];exact Nat.le_mul_of_pos_left _ (by omega)
  exact ⟨hc,by omega⟩
 generalize a / (G:Int)=A at*
 generalize b / (G:Int)=D at*
 obtain ⟨D0,lD⟩:=b1
 obtain ⟨u',w',rfl,hu',wH⟩:=q2
 have hsD:decide (D<0)=false:=aT (by omega)
 have k2:=x2.get k1
 rw [rj k2]
 simp only [aE]
 have x3:EX h (h2.set h.length (.arr 37 [B (decide (A<0)),u',B (decide (D<0)),w'])):=(x1.trans x2).set (le_refl _) _
 have k3:=cU (o:=.arr 37 [B (decide (A<0)),u',B (decide (D<0)),w']) k2
 have hu3:=hu'.bS k2 (.arr 37 [B (decide (A<0)),u',B (decide (D<0)),w'])
 have oC:=wH.bS k2 (.arr 37 [B (decide (A<0)),u',B (decide (D<0)),w'])
 generalize h2.set h.length (.arr 37 [B (decide (A<0)),u',B (decide (D<0)),w'])=h3 at x3 k3 hu3 oC⊢
 have aGy:(10000:Nat)^199<10000^201:=by decide+kernel
 have hb:=pF (n:=A.natAbs) (by omega)
 have hD:=pF (n:=D.natAbs) (by omega)
 simp only [b9,add_zero,zero_add,lI k3,ah,true_and]
 refine Ml (⟨u',rfl,hu3⟩:ZV h3 _ A) ?_
 intro ua h4 x4 m4
 refine Xa m4.FX hb ?_
 intro h5 x5
 have pY:∀{g},EX h3 g→af false 1 g (pt h.length 0)=some (B (decide (A<0))):=fun y=>EX.load y (by simp [af,aR,k3,cm])
 simp only [nj k3,EX.load x4 (nj k3),EX.load (x4.trans x5) (nj k3),ah,true_and]
 have hw5:gJ h5 w' D.natAbs:=(oC.mono x4).mono x5
 have zD:ZV h5 (.agg #[B (decide (D<0)),w']) ((D.natAbs:Nat):Int):=⟨w',by rw [hsD,aT (by omega)],by rwa [natAbs_natCast]⟩
 refine Xa (n:=D.natAbs) zD hD ?_
 intro h6 x6
 obtain ⟨d1,d2,d3,d4,d5⟩:=xK hb
 obtain ⟨c1,c2,c3,c4,c5⟩:=xK hD
 have xx:=(x4.trans x5).trans x6
 have nl:=agN hb
 simp only [uW,ah,gj,aT (show ¬((dS A.natAbs).length:Int)>4000 by omega),aCi,eJ,aT (show ¬((dS D.natAbs).length:Int)>4000 by omega)]
 simp only [aCj,c8,ah,dP,b9,add_zero,pY xx]
 have fin:KK prog K (S (iU A)) (S (dS D.natAbs)) h6:=by
  rw [aCh]
  have:ai .neq (S (dS D.natAbs)) (.string ⟨#[49]⟩)=some (B (!decide (dS D.natAbs=[49]))):=by
   show ai .neq (S (dS D.natAbs)) (S [49])=_
   rw [Zf]
  simp only [this,ah]
  by_cases h1:D=1
  ·subst h1
   have e:qe A 1=iU A:=by unfold qe;rw [if_pos rfl]
   have one:dS (1:Int).natAbs=[49]:=by decide+kernel
   rw [one]
   simp only [decide_true,Bool.not_true,dP,al0]
   rw [←e]
   exact hk _ (x3.trans xx)
  ·have e:qe A D=iU A++([47]++dS D.natAbs):=by unfold qe;rw [if_neg h1];rfl
   have bm:dS D.natAbs≠[49]:=fun h9=>h1 (by have:=au1 hD h9;omega)
   have a1:ai .add (.string ⟨#[47]⟩) (S (dS D.natAbs))=some (S ([47]++dS D.natAbs)):=zh (a:=[47]) (b:=dS D.natAbs) (by simp [maxLen];omega)
   have a2:ai .add (S (iU A)) (S ([47]++dS D.natAbs))=some (S (iU A++([47]++dS D.natAbs))):=zh (a:=iU A) (b:=[47]++dS D.natAbs) (by simp [maxLen];omega)
   rw [aT bm]
   simp only [Bool.not_false,dM,a1,a2,ah,al0]
   rw [←e]
   exact hk _ (x3.trans xx)
 by_cases gW:A<0
 ·have hs:iU A=45::dS A.natAbs:=by unfold iU;rw [if_pos gW]
  have ad:ai .add (.string ⟨#[45]⟩) (S (dS A.natAbs))=some (S (iU A)):=by
   rw [hs]
   exact zh (a:=[45]) (b:=dS A.natAbs) (by simp [maxLen];omega)
  rw [aW gW]
  simp only [dM,ad,ah]
  exact fin
 ·have hs:iU A=dS A.natAbs:=by unfold iU;rw [if_neg gW]
  rw [aT gW,←hs]
  simp only [dP]
  exact fin
theorem anV {va:Value} {a b:Int} {s:List UInt8} {h:ae} {K:Value→ae→Prop} (ha:QZ h va a b) (b0:0<b) (la:a.natAbs<10000^199) (lb:b.natAbs<10000^199) (hk:∀h',EX h h'→K (B (decide (s=qe (a / (gcd a.natAbs b.natAbs:Int)) (b / (gcd a.natAbs b.natAbs:Int))))) h'):aq prog 16 [S s,va] h K:=by
 have oh:=ha
 obtain ⟨u,w,rfl,hu,hw⟩:=ha
 refine f16 ?_
 have e1:bC 37 h (.agg #[B (decide (a<0)),u,B (decide (b<0)),w])=some (pt h.length 0,h++[.arr 37 [B (decide (a<0)),u,B (decide (b<0)),w]]):=rfl
 simp only [NV,e1,aE]
 have x1:EX h (h++[ak.arr 37 [B (decide (a<0)),u,B (decide (b<0)),w]]):=EX.append _ _
 rw [jh bZ]
 simp only [ah]
 refine an3 (oh.mono x1) b0 la lb ?_
 intro h2 x2
 simp only [eL,fx,fF,ah,aBF,iY,GY,aBG,dZ]
 exact hk _ (x1.trans x2)
end
section
def gQ (s:List UInt8):Nat:=if lB s=true then fa s else 0
theorem Wa (s:List UInt8):gQ s<10^s.length:=by
 unfold gQ
 split
 ·rename_i h
  exact CZ (DY.1 h).2.2
 ·exact pow_pos (by decide)
theorem gJ.nil (h:ae):gJ h (.slice none 0 0) 0:=⟨[],.inl ⟨rfl,rfl⟩,⟨fun y hy=>by simp at hy,by simp⟩,rfl⟩
def L8:Value:=.agg #[B false,.slice none 0 0,B false,.slice none 0 0]
def fw (t:List UInt8):List UInt8:=t.take (t.idxOf 47)
def kI (t:List UInt8):List UInt8:=t.drop (t.idxOf 47+1)
def uI (t:List UInt8):Bool:=decide (t.idxOf 47<t.length)
def xL (t:List UInt8):Bool:= !uI t||(lB (kI t)&&(decide (2≤gQ (kI t))&&decide (gcd (gQ (fw t)) (gQ (kI t))=1)))
def xM (t:List UInt8):Nat:=if uI t=true then gQ (kI t) else 1
def AV (m:Bool) (t:List UInt8):Option (Int×Nat):=
 if xL t=true∧lB (fw t)=true∧(m=true→gQ (fw t)≠0) then some (if m then -(gQ (fw t):Int) else gQ (fw t),xM t) else none
def tP (s:List UInt8):Option (Int×Nat):=if s.head?=some 45 then AV true s.tail else AV false s
end
end Go.Proofs.YtelmdbpaoifmoaaGreat
