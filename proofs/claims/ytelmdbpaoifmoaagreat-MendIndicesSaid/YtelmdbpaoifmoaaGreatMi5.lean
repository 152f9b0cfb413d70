/-
  Part 5 of the texts behind a statement of this seat: ZR2, Ct45, Ct46, Ct47, Zq1, Sp18, ZN3, Kd1, Kd2, Kd3, Kd4, Kd5, Kd6, Ct41, Zq2, Zq3, Kd7, ZN4, Kd8, Kd9, Kd10, Zp1, ZR3.
-/
import Derived.Test.YtelmdbpaoifmoaaGreatProg
import Derived.KernelRfl
import Derived.Test.YtelmdbpaoifmoaaGreatMi4
namespace Go.Proofs.YtelmdbpaoifmoaaGreat
open Go.Sim
variable (P : Program) (K : VK)
/-! F16: pommel/pommelref01.Is -/
noncomputable section
variable (x0 q1 y5 x13 x16 : Value) (h : Heap)
def oc16:=compFn Tryz.prog 16 [[],[],[0,5,13],[13,16],[]]
@[irreducible] def c16:=icOf oc16
@[irreducible] def c16z5:=c16.r.r.l.r.l
@[irreducible] def c16z3:=c16.r.r.r
@[irreducible] def c16z7:=c16z5.r.l
theorem k16:oc16=some (18,c16,[.tmp 4]):=by kernel_rfl
def K16z0 (_P:Program) (K:VK):Kont:=bodyP [.tmp 4] K
def K16z3:Kont:=thenK (iwpP P c16z3 (K16z0 P K)) (K16z0 P K)
def p16z5:Prop:=CutP (iwpP P c16z5 (K16z3 P K)) [0,5,13] [x0,y5,x13] h
def p16z7:Prop:=CutP (iwpP P c16z7 (K16z3 P K)) [13,16] [x13,x16] h
theorem q16z7:p16z7 P K x13 x16 h=
 (OP (iPick x13 x16 (.bool false)) fun x17=>
 K x17 h):=cdt (by kernel_rfl)
theorem q16z5:p16z5 P K x0 y5 x13 h=
 (GdP x13 true
 (OP (iBin .eql x0 y5) fun x16=>
 p16z7 P K x13 x16 h)
 (p16z7 P K x13 undef h)):=cdt (by kernel_rfl)
def T16:Prop:=
 OH (iBox 37 h q1) fun q3 h_1=>
 OP (iLoad true 4 h_1 q3) fun x8=>
 CallP P 53 [x8] h_1 fun x9 h_2=>
 OP (iExt 0 x9) fun x10=>
 OP (iExt 1 x9) fun x11=>
 p16z5 P K x0 x10 x11 h_2
theorem e16:iwpP P c16 (bodyP [.tmp 4] K) (frame0 [x0,q1]) h=T16 P K x0 q1 h:=by kernel_rfl
theorem f16 {K:VK} {x0 q1:Value} {h:Heap} (H:T16 Tryz.prog K x0 q1 h):CallP Tryz.prog 16 [x0,q1] h K:=
 callP_intro k16 (Nat.le_of_ble_eq_true rfl) ((e16 Tryz.prog K x0 q1 h).mpr H)
end
/-! F25: pommel/pommelref01.Lowest -/
noncomputable section
variable (q0 : Value) (h : Heap)
def oc25:=compFn Tryz.prog 25 [[],[],[],[],[]]
@[irreducible] def c25:=icOf oc25
theorem k25:oc25=some (30,c25,[.cell true 4 2]):=by kernel_rfl
def T25:Prop:=
 OH (iBox 37 h q0) fun q1 h_1=>
 OH (iAlloc 37 [(.bool false),(.slice none 0 0),(.bool false),(.slice none 0 0)] h_1) fun x2 h_2=>
 OP (iFadr 0 q1) fun x8=>
 OP (iLoad true 2 h_2 x8) fun x9=>
 OP (iFadr 2 q1) fun x10=>
 OP (iLoad true 2 h_2 x10) fun x11=>
 CallP P 68 [x9,x11] h_2 fun x12 h_3=>
 OH (iAlloc 35 [(.bool false),(.slice none 0 0)] h_3) fun g3 h_4=>
 OH (oStore 2 h_4 g3 x12) fun _ h_5=>
 OP (iFadr 0 q1) fun x14=>
 OP (iLoad true 2 h_5 x14) fun x15=>
 OP (iLoad true 2 h_5 g3) fun x16=>
 CallP P 69 [x15,x16] h_5 fun x17 h_6=>
 OP (iExt 0 x17) fun x18=>
 OP (iExt 1 x17) fun x19=>
 OH (iAlloc 35 [(.bool false),(.slice none 0 0)] h_6) fun n4 h_7=>
 OH (iAlloc 35 [(.bool false),(.slice none 0 0)] h_7) fun x5 h_8=>
 OH (oStore 2 h_8 n4 x18) fun _ h_9=>
 OH (oStore 2 h_9 x5 x19) fun _ h_10=>
 OP (iFadr 2 q1) fun x21=>
 OP (iLoad true 2 h_10 x21) fun x22=>
 OP (iLoad true 2 h_10 g3) fun x23=>
 CallP P 69 [x22,x23] h_10 fun x24 h_11=>
 OP (iExt 0 x24) fun x25=>
 OP (iExt 1 x24) fun x26=>
 OH (iAlloc 35 [(.bool false),(.slice none 0 0)] h_11) fun d6 h_12=>
 OH (iAlloc 35 [(.bool false),(.slice none 0 0)] h_12) fun x7 h_13=>
 OH (oStore 2 h_13 d6 x25) fun _ h_14=>
 OH (oStore 2 h_14 x7 x26) fun _ h_15=>
 OP (iLoad true 2 h_15 n4) fun x27=>
 OP (iLoad true 2 h_15 d6) fun x28=>
 OP (iBuild [(.bool false),(.slice none 0 0),(.bool false),(.slice none 0 0)] [(0,2,x27),(2,2,x28)]) fun x29=>
 OH (oStore 4 h_15 x2 x29) fun _ h_16=>
 OP (iLoad true 4 h_16 x2) fun r0=>
 K r0 h_16
theorem e25:iwpP P c25 (bodyP [.cell true 4 2] K) (frame0 [q0]) h=T25 P K q0 h:=by kernel_rfl
theorem f25 {K:VK} {q0:Value} {h:Heap} (H:T25 Tryz.prog K q0 h):CallP Tryz.prog 25 [q0] h K:=
 callP_intro k25 (Nat.le_of_ble_eq_true rfl) ((e25 Tryz.prog K q0 h).mpr H)
end
/-! F29: pommel/pommelref01.CmpQ -/
noncomputable section
variable (a0 b1 : Value) (h : Heap)
def oc29:=compFn Tryz.prog 29 [[],[]]
@[irreducible] def c29:=icOf oc29
theorem k29:oc29=some (16,c29,[.tmp 4]):=by kernel_rfl
def T29:Prop:=
 OH (iBox 37 h a0) fun a2 h_1=>
 OH (iBox 37 h_1 b1) fun b3 h_2=>
 OP (iFadr 0 a2) fun x5=>
 OP (iLoad true 2 h_2 x5) fun x6=>
 (True)∧
 OP (iFadr 2 b3) fun x7=>
 OP (iLoad true 2 h_2 x7) fun x8=>
 (True)∧
 CallP P 71 [x6,x8] h_2 fun x9 h_3=>
 (True)∧
 OP (iFadr 0 b3) fun x10=>
 OP (iLoad true 2 h_3 x10) fun x11=>
 (iLoad true 2 h_2 x10=some x11∧True)∧
 OP (iFadr 2 a2) fun x12=>
 OP (iLoad true 2 h_3 x12) fun x13=>
 (iLoad true 2 h_2 x12=some x13∧True)∧
 CallP P 71 [x11,x13] h_3 fun x14 h_4=>
 (True)∧
 CallP P 72 [x9,x14] h_4 fun x15 h_5=>
 (True)∧
 K x15 h_5
theorem e29:iwpP P c29 (bodyP [.tmp 4] K) (frame0 [a0,b1]) h=T29 P K a0 b1 h:=by kernel_rfl
theorem f29 {K:VK} {a0 b1:Value} {h:Heap} (H:T29 Tryz.prog K a0 b1 h):CallP Tryz.prog 29 [a0,b1] h K:=
 callP_intro k29 (Nat.le_of_ble_eq_true rfl) ((e29 Tryz.prog K a0 b1 h).mpr H)
end
/-! F53: pommel/pommelref01.Num -/
noncomputable section
variable (q0 q1 s4 d5 x18 x21 : Value) (h : Heap)
def oc53:=compFn Tryz.prog 53 [[],[],[],[1,4,5,18],[1,4,5,18,21],[],[],[],[],[4,5],[],[4],[]]
@[irreducible] def c53:=icOf oc53
@[irreducible] def c53z7:=c53.r.r.r.l.l.r.l
@[irreducible] def c53z5:=c53.r.r.r.l.r
@[irreducible] def c53z4:=c53.r.r.r.r
@[irreducible] def c53z9:=c53z7.r.l
@[irreducible] def c53z13:=c53z4.r.l
@[irreducible] def c53z16:=c53z13.r.l
theorem k53:oc53=some (35,c53,[.tmp 2,.tmp 3]):=by kernel_rfl
def K53z0 (_P:Program) (K:VK):Kont:=bodyP [.tmp 2,.tmp 3] K
def K53z4:Kont:=thenK (iwpP P c53z4 (K53z0 P K)) (K53z0 P K)
def K53z5:Kont:=thenK (iwpP P c53z5 (K53z4 P K)) (K53z4 P K)
def p53z7:Prop:=CutP (iwpP P c53z7 (K53z5 P K)) [1,4,5,18] [q1,s4,d5,x18] h
def p53z9:Prop:=CutP (iwpP P c53z9 (K53z5 P K)) [1,4,5,18,21] [q1,s4,d5,x18,x21] h
def p53z13:Prop:=CutP (iwpP P c53z13 (K53z0 P K)) [4,5] [s4,d5] h
def p53z16:Prop:=CutP (iwpP P c53z16 (K53z0 P K)) [4] [s4] h
theorem q53z9:p53z9 P K q1 s4 d5 x18 x21 h=
 (OP (iPick x18 (.bool true) x21) fun x22=>
 IfP x22
 (K (.tuple #[(.string ⟨#[]⟩),(.bool false)]) h)
 (OP (iFadr 0 q1) fun x23=>
 OP (iFadr 0 x23) fun x24=>
 OP (iLoad false 1 h x24) fun x25=>
 IfP x25
 (OP (iBin .add (.string ⟨#[45]⟩) s4) fun x27=>
 p53z13 P K x27 d5 h)
 (p53z13 P K s4 d5 h))):=cdt (by kernel_rfl)
theorem q53z7:p53z7 P K q1 s4 d5 x18 h=
 (GdP x18 false
 (OP (iLenS d5) fun x20=>
 OP (iBin .gtr x20 (.int .i64 (4000))) fun x21=>
 p53z9 P K q1 s4 d5 x18 x21 h)
 (p53z9 P K q1 s4 d5 x18 undef h)):=cdt (by kernel_rfl)
theorem q53z16:p53z16 P K s4 h=
 (K (.tuple #[s4,(.bool true)]) h):=cdt (by kernel_rfl)
theorem q53z13:p53z13 P K s4 d5 h=
 (OP (iBin .neq d5 (.string ⟨#[49]⟩)) fun x29=>
 IfP x29
 (OP (iBin .add (.string ⟨#[47]⟩) d5) fun x32=>
 OP (iBin .add s4 x32) fun x33=>
 p53z16 P K x33 h)
 (p53z16 P K s4 h)):=cdt (by kernel_rfl)
def T53:Prop:=
 OH (iBox 37 h q0) fun q1 h_1=>
 OP (iLoad true 4 h_1 q1) fun x6=>
 CallP P 25 [x6] h_1 fun x7 h_2=>
 OH (oStore 4 h_2 q1 x7) fun _ h_3=>
 OP (iFadr 0 q1) fun x8=>
 OP (iLoad true 2 h_3 x8) fun x9=>
 (True)∧
 CallP P 94 [x9] h_3 fun x10 h_4=>
 (True)∧
 CallP P 93 [x10] h_4 fun x11 h_5=>
 (True)∧
 OP (iFadr 2 q1) fun x12=>
 OP (iLoad true 2 h_5 x12) fun x13=>
 (iLoad true 2 h_3 x12=some x13∧iLoad true 2 h_4 x12=some x13∧True)∧
 CallP P 93 [x13] h_5 fun x14 h_6=>
 (True)∧
 OP (iLenS x11) fun x16=>
 OP (iBin .gtr x16 (.int .i64 (4000))) fun x17=>
 p53z7 P K q1 x11 x14 x17 h_6
theorem e53:iwpP P c53 (bodyP [.tmp 2,.tmp 3] K) (frame0 [q0]) h=T53 P K q0 h:=by kernel_rfl
theorem f53 {K:VK} {q0:Value} {h:Heap} (H:T53 Tryz.prog K q0 h):CallP Tryz.prog 53 [q0] h K:=
 callP_intro k53 (Nat.le_of_ble_eq_true rfl) ((e53 Tryz.prog K q0 h).mpr H)
end
/-! F68: pommel/pommelref01.Gcd -/
noncomputable section
variable (a0 b1 a2 b3 x4 : Value) (L1 : LQ) (xs : List Value) (h : Heap)
def oc68:=compFn Tryz.prog 68 [[],[],[2,3,4],[],[],[],[],[2,4],[]]
@[irreducible] def c68:=icOf oc68
@[irreducible] def c68z5:=c68.r.r.l.l.l
@[irreducible] def c68z3:=c68.r.r.r
@[irreducible] def c68z10:=c68z3.l
theorem k68:oc68=some (24,c68,[.cell true 2 4]):=by kernel_rfl
def K68z0 (_P:Program) (K:VK):Kont:=bodyP [.cell true 2 4] K
def K68z3:Kont:=thenK (iwpP P c68z3 (K68z0 P K)) (K68z0 P K)
def K68z4:Kont:=inBlockK 0 (K68z3 P K)
def K68z5:Kont:=thenK (fun f' h''=>(([2,3,4]:List Nat).map f':List Value)=[a2,b3,x4]∧L1 (([]:List Nat).map f') h'') (K68z4 P K)
def p68z5:Prop:=CutP (iwpP P c68z5 (K68z5 P K a2 b3 x4 L1)) ([2,3,4]++[]) ([a2,b3,x4]++xs) h
def p68z10:Prop:=CutP (iwpP P c68z10 (K68z0 P K)) [2,4] [a2,x4] h
theorem q68z5:p68z5 P K a2 b3 x4 L1 [] h=
 (OP (iFadr 1 b3) fun x11=>
 OP (iLoad false 1 h x11) fun x12=>
 OP (iLenSl x12) fun x13=>
 OP (iBin .gtr x13 (.int .i64 (0))) fun x14=>
 IfP x14
 (OP (iLoad true 2 h a2) fun x16=>
 OP (iLoad true 2 h b3) fun x17=>
 CallP P 69 [x16,x17] h fun x18 h_1=>
 OP (iExt 0 x18) fun x19=>
 OP (iExt 1 x18) fun x20=>
 OH (iAlloc 35 [(.bool false),(.slice none 0 0)] h_1) fun x5 h_2=>
 OH (iAlloc 35 [(.bool false),(.slice none 0 0)] h_2) fun x6 h_3=>
 OH (oStore 2 h_3 x5 x19) fun _ h_4=>
 OH (oStore 2 h_4 x6 x20) fun _ h_5=>
 OP (iLoad true 2 h_5 b3) fun x21=>
 (True)∧
 OP (iLoad true 2 h_5 x6) fun x22=>
 (True)∧
 OH (oStore 2 h_5 a2 x21) fun _ h_6=>
 (iLoad true 2 h_6 x6=some x22∧True)∧
 OH (oStore 2 h_6 b3 x22) fun _ h_7=>
 (True)∧
 ([a2,b3,x4]:List Value)=[a2,b3,x4]∧L1 [] h_7)
 (p68z10 P K a2 x4 h)):=cdt (by kernel_rfl)
theorem q68z10:p68z10 P K a2 x4 h=
 (OP (iLoad true 2 h a2) fun x23=>
 OH (oStore 2 h x4 x23) fun _ h_1=>
 OP (iLoad true 2 h_1 x4) fun r0=>
 K r0 h_1):=cdt (by kernel_rfl)
def T68:Prop:=
 OH (iBox 35 h a0) fun a2 h_1=>
 OH (iBox 35 h_1 b1) fun b3 h_2=>
 OH (iAlloc 35 [(.bool false),(.slice none 0 0)] h_2) fun x4 h_3=>
 OP (iLoad true 2 h_3 a2) fun x7=>
 (True)∧
 CallP P 94 [x7] h_3 fun x8 h_4=>
 (True)∧
 OP (iLoad true 2 h_4 b3) fun x9=>
 (iLoad true 2 h_3 b3=some x9∧True)∧
 CallP P 94 [x9] h_4 fun x10 h_5=>
 (True)∧
 OH (oStore 2 h_5 a2 x8) fun _ h_6=>
 (True)∧
 OH (oStore 2 h_6 b3 x10) fun _ h_7=>
 (True)∧
 LoopP [] h_7 fun L1 xs hx=>
 p68z5 P K a2 b3 x4 L1 xs hx
theorem e68:iwpP P c68 (bodyP [.cell true 2 4] K) (frame0 [a0,b1]) h=T68 P K a0 b1 h:=by kernel_rfl
theorem f68 {K:VK} {a0 b1:Value} {h:Heap} (H:T68 Tryz.prog K a0 b1 h):CallP Tryz.prog 68 [a0,b1] h K:=
 callP_intro k68 (Nat.le_of_ble_eq_true rfl) ((e68 Tryz.prog K a0 b1 h).mpr H)
end
/-! F69: pommel/pommelref01.DivMod -/
noncomputable section
variable (a0 b1 a2 b3 x4 x5 q6 x7 i8 x9 x10 x12 x13 x78 x82 : Value) (L1 L2 : LQ) (xs : List Value) (h : Heap)
def oc69:=compFn Tryz.prog 69 [[],[],[],[2,3,4,5,6],[7,8],[],[],[],[],[2,3,4,5,6,7,8],[9,10],[],[],[],[],[2,3,4,5,6,7,8,9],[],[2,3,4,5,6,7,8],[2,3,4,5,6,7],[],[3,4,5,12,13,78],[3,4,5,12,13,78,82],[],[],[],[]]
@[irreducible] def c69:=icOf oc69
@[irreducible] def c69z6:=c69.r.r.l.r.l.l
@[irreducible] def c69z3:=c69.r.r.r
@[irreducible] def c69z15:=c69z6.r.l.l.r.r.l.l.l
@[irreducible] def c69z13:=c69z6.r.l.l.r.r.r
@[irreducible] def c69z9:=c69z6.r.r
@[irreducible] def c69z24:=c69z3.l
@[irreducible] def c69z21:=c69z13.l
@[irreducible] def c69z23:=c69z9.l
@[irreducible] def c69z29:=c69z24.r.l.l.r.l
@[irreducible] def c69z27:=c69z24.r.l.r
@[irreducible] def c69z26:=c69z24.r.r
@[irreducible] def c69z31:=c69z29.r.l
theorem k69:oc69=some (92,c69,[.cell true 2 4,.cell true 2 5]):=by kernel_rfl
def K69z0 (_P:Program) (K:VK):Kont:=bodyP [.cell true 2 4,.cell true 2 5] K
def K69z3:Kont:=thenK (iwpP P c69z3 (K69z0 P K)) (K69z0 P K)
def K69z5:Kont:=inBlockK 0 (K69z3 P K)
def K69z6:Kont:=thenK (fun f' h''=>(([2,3,4,5,6]:List Nat).map f':List Value)=[a2,b3,x4,x5,q6]∧L1 (([7,8]:List Nat).map f') h'') (K69z5 P K)
def K69z9:Kont:=thenK (iwpP P c69z9 (K69z6 P K a2 b3 x4 x5 q6 L1)) (K69z6 P K a2 b3 x4 x5 q6 L1)
def K69z10:Kont:=inBlockK 1 (K69z9 P K a2 b3 x4 x5 q6 L1)
def K69z13:Kont:=thenK (iwpP P c69z13 (K69z10 P K a2 b3 x4 x5 q6 L1)) (K69z10 P K a2 b3 x4 x5 q6 L1)
def K69z14:Kont:=inBlockK 2 (K69z13 P K a2 b3 x4 x5 q6 L1)
def K69z15:Kont:=thenK (fun f' h''=>(([2,3,4,5,6,7,8]:List Nat).map f':List Value)=[a2,b3,x4,x5,q6,x7,i8]∧L2 (([9,10]:List Nat).map f') h'') (K69z14 P K a2 b3 x4 x5 q6 L1)
def K69z26:Kont:=thenK (iwpP P c69z26 (K69z0 P K)) (K69z0 P K)
def K69z27:Kont:=thenK (iwpP P c69z27 (K69z26 P K)) (K69z26 P K)
def p69z6:Prop:=CutP (iwpP P c69z6 (K69z6 P K a2 b3 x4 x5 q6 L1)) ([2,3,4,5,6]++[7,8]) ([a2,b3,x4,x5,q6]++xs) h
def p69z15:Prop:=CutP (iwpP P c69z15 (K69z15 P K a2 b3 x4 x5 q6 x7 i8 L1 L2)) ([2,3,4,5,6,7,8]++[9,10]) ([a2,b3,x4,x5,q6,x7,i8]++xs) h
def p69z21:Prop:=CutP (iwpP P c69z21 (K69z10 P K a2 b3 x4 x5 q6 L1)) [2,3,4,5,6,7,8,9] [a2,b3,x4,x5,q6,x7,i8,x9] h
def p69z23:Prop:=CutP (iwpP P c69z23 (K69z6 P K a2 b3 x4 x5 q6 L1)) [2,3,4,5,6,7,8] [a2,b3,x4,x5,q6,x7,i8] h
def p69z24:Prop:=CutP (iwpP P c69z24 (K69z0 P K)) [2,3,4,5,6,7] [a2,b3,x4,x5,q6,x7] h
def p69z29:Prop:=CutP (iwpP P c69z29 (K69z27 P K)) [3,4,5,12,13,78] [b3,x4,x5,x12,x13,x78] h
def p69z31:Prop:=CutP (iwpP P c69z31 (K69z27 P K)) [3,4,5,12,13,78,82] [b3,x4,x5,x12,x13,x78,x82] h
theorem q69z15 (a2 b3 x4 x5 q6 x7 i8:Value) (L1 L2:LQ) (x9 x10:Value) (h:Heap):p69z15 P K a2 b3 x4 x5 q6 x7 i8 L1 L2 [x9,x10] h=
 (OP (iBin .sub x10 x9) fun x40=>
 OP (iBin .gtr x40 (.int .i64 (1))) fun x41=>
 IfP x41
 (OP (iBin .add x9 x10) fun x44=>
 OP (iBin .quo x44 (.int .i64 (2))) fun x45=>
 OP (iFadr 1 b3) fun x46=>
 OP (iLoad false 1 h x46) fun x47=>
 CallP P 102 [x47,x45] h fun x49 h_1=>
 CallP P 101 [x49,x7] h_1 fun x51 h_2=>
 OP (iBin .leq x51 (.int .i64 (0))) fun x52=>
 IfP x52
 (([a2,b3,x4,x5,q6,x7,i8]:List Value)=[a2,b3,x4,x5,q6,x7,i8]∧L2 [x45,x10] h_2)
 (([a2,b3,x4,x5,q6,x7,i8]:List Value)=[a2,b3,x4,x5,q6,x7,i8]∧L2 [x9,x45] h_2))
 (p69z21 P K a2 b3 x4 x5 q6 x7 i8 x9 L1 h)):=cdt (by kernel_rfl)
theorem q69z21:p69z21 P K a2 b3 x4 x5 q6 x7 i8 x9 L1 h=
 (OP (iAdrSl 1 q6 i8) fun x58=>
 OH (oStore 1 h x58 x9) fun _ h_1=>
 OP (iFadr 1 b3) fun x60=>
 OP (iLoad false 1 h_1 x60) fun x61=>
 CallP P 102 [x61,x9] h_1 fun x63 h_2=>
 CallP P 103 [x7,x63] h_2 fun x64 h_3=>
 OP (iBuild [(.bool false),(.slice none 0 0)] [(1,1,x64)]) fun x65=>
 CallP P 100 [x65] h_3 fun x66 h_4=>
 OP (iFld false 1 1 x66) fun x67=>
 p69z23 P K a2 b3 x4 x5 q6 x67 i8 L1 h_4):=cdt (by kernel_rfl)
theorem q69z23:p69z23 P K a2 b3 x4 x5 q6 x7 i8 L1 h=
 (OP (iBin .sub i8 (.int .i64 (1))) fun x26=>
 ([a2,b3,x4,x5,q6]:List Value)=[a2,b3,x4,x5,q6]∧L1 [x7,x26] h):=cdt (by kernel_rfl)
theorem q69z6 (a2 b3 x4 x5 q6:Value) (L1:LQ) (x7 i8:Value) (h:Heap):p69z6 P K a2 b3 x4 x5 q6 L1 [x7,i8] h=
 (OP (iBin .geq i8 (.int .i64 (0))) fun x24=>
 IfP x24
 (OP (iFadr 1 a2) fun x27=>
 OP (iLoad false 1 h x27) fun x28=>
 OP (iAdrSl 1 x28 i8) fun x30=>
 OP (iLoad false 1 h x30) fun x31=>
 OH (iMkSl 3 1 [(.int .i64 (0))] h [(0,1,x31)]) fun x32 h_1=>
 OH (iApp 3 1 8 h_1 x32 x7) fun x34 h_2=>
 OP (iBuild [(.bool false),(.slice none 0 0)] [(1,1,x34)]) fun x35=>
 CallP P 100 [x35] h_2 fun x36 h_3=>
 OP (iFld false 1 1 x36) fun x37=>
 LoopP [(.int .i64 (0)),(.int .i64 (10000))] h_3 fun L2 xs hx=>
 p69z15 P K a2 b3 x4 x5 q6 x37 i8 L1 L2 xs hx)
 (p69z24 P K a2 b3 x4 x5 q6 x7 h)):=cdt (by kernel_rfl)
theorem q69z31:p69z31 P K b3 x4 x5 x12 x13 x78 x82 h=
 (OP (iPick x78 x82 (.bool false)) fun x83=>
 IfP x83
 (OP (iLoad true 2 h x12) fun x84=>
 (True)∧
 CallP P 55 [(.int .i64 (1))] h fun x85 h_1=>
 (iLoad true 2 h_1 x12=some x84∧True)∧
 CallP P 92 [x84,x85] h_1 fun x86 h_2=>
 (True)∧
 OP (iLoad true 2 h_2 b3) fun x87=>
 (iLoad true 2 h b3=some x87∧iLoad true 2 h_1 b3=some x87∧True)∧
 OP (iLoad true 2 h_2 x13) fun x88=>
 (iLoad true 2 h x13=some x88∧iLoad true 2 h_1 x13=some x88∧True)∧
 CallP P 92 [x87,x88] h_2 fun x89 h_3=>
 (True)∧
 OH (oStore 2 h_3 x4 x86) fun _ h_4=>
 (True)∧
 OH (oStore 2 h_4 x5 x89) fun _ h_5=>
 (True)∧
 OP (iLoad true 2 h_5 x4) fun r0=>
 OP (iLoad true 2 h_5 x5) fun r1=>
 K (.tuple #[r0,r1]) h_5)
 (OP (iLoad true 2 h x12) fun x90=>
 (True)∧
 OP (iLoad true 2 h x13) fun x91=>
 (True)∧
 OH (oStore 2 h x4 x90) fun _ h_1=>
 (iLoad true 2 h_1 x13=some x91∧True)∧
 OH (oStore 2 h_1 x5 x91) fun _ h_2=>
 (True)∧
 OP (iLoad true 2 h_2 x4) fun r0=>
 OP (iLoad true 2 h_2 x5) fun r1=>
 K (.tuple #[r0,r1]) h_2)):=cdt (by kernel_rfl)
theorem q69z29:p69z29 P K b3 x4 x5 x12 x13 x78 h=
 (GdP x78 true
 (OP (iFadr 1 x13) fun x79=>
 OP (iLoad false 1 h x79) fun x80=>
 OP (iLenSl x80) fun x81=>
 OP (iBin .gtr x81 (.int .i64 (0))) fun x82=>
 p69z31 P K b3 x4 x5 x12 x13 x78 x82 h)
 (p69z31 P K b3 x4 x5 x12 x13 x78 undef h)):=cdt (by kernel_rfl)
theorem q69z24:p69z24 P K a2 b3 x4 x5 q6 x7 h=
 (OP (iFadr 0 a2) fun x68=>
 OP (iLoad false 1 h x68) fun x69=>
 OP (iBuild [(.bool false),(.slice none 0 0)] [(0,1,x69),(1,1,q6)]) fun x71=>
 CallP P 100 [x71] h fun x72 h_1=>
 OP (iBuild [(.bool false),(.slice none 0 0)] [(1,1,x7)]) fun x74=>
 CallP P 100 [x74] h_1 fun x75 h_2=>
 OH (iAlloc 35 [(.bool false),(.slice none 0 0)] h_2) fun x12 h_3=>
 OH (iAlloc 35 [(.bool false),(.slice none 0 0)] h_3) fun x13 h_4=>
 OH (oStore 2 h_4 x12 x72) fun _ h_5=>
 OH (oStore 2 h_5 x13 x75) fun _ h_6=>
 OP (iFadr 0 a2) fun x76=>
 OP (iLoad false 1 h_6 x76) fun x77=>
 p69z29 P K b3 x4 x5 x12 x13 x77 h_6):=cdt (by kernel_rfl)
def T69:Prop:=
 OH (iBox 35 h a0) fun a2 h_1=>
 OH (iBox 35 h_1 b1) fun b3 h_2=>
 OH (iAlloc 35 [(.bool false),(.slice none 0 0)] h_2) fun x4 h_3=>
 OH (iAlloc 35 [(.bool false),(.slice none 0 0)] h_3) fun x5 h_4=>
 OP (iFadr 1 a2) fun x14=>
 OP (iLoad false 1 h_4 x14) fun x15=>
 OP (iLenSl x15) fun x16=>
 OH (iMake 3 8 [(.int .i64 (0))] h_4 x16 x16) fun x17 h_5=>
 OH (iMkSl 3 0 [(.int .i64 (0))] h_5 []) fun x18 h_6=>
 OP (iFadr 1 a2) fun x19=>
 OP (iLoad false 1 h_6 x19) fun x20=>
 OP (iLenSl x20) fun x21=>
 OP (iBin .sub x21 (.int .i64 (1))) fun x22=>
 LoopP [x18,x22] h_6 fun L1 xs hx=>
 p69z6 P K a2 b3 x4 x5 x17 L1 xs hx
theorem e69:iwpP P c69 (bodyP [.cell true 2 4,.cell true 2 5] K) (frame0 [a0,b1]) h=T69 P K a0 b1 h:=by kernel_rfl
theorem f69 {K:VK} {a0 b1:Value} {h:Heap} (H:T69 Tryz.prog K a0 b1 h):CallP Tryz.prog 69 [a0,b1] h K:=
 callP_intro k69 (Nat.le_of_ble_eq_true rfl) ((e69 Tryz.prog K a0 b1 h).mpr H)
end
end Go.Proofs.YtelmdbpaoifmoaaGreat

namespace Go.Proofs.YtelmdbpaoifmoaaGreat
open Go.Sim

theorem buildM {e:TypeId} {k:IntKind} {h:Heap} {v:Value} {xs:List Nat} (d:DS e k h v xs):iBuild [(.bool false),(.slice none 0 0)] [(1,1,v)]=some (.agg #[B false,v]):=by
 rcases d with ⟨rfl,_⟩ | ⟨i,rfl,_⟩ <;> rfl

theorem fldM (b:Bool) (v:Value):iFld false 1 1 (.agg #[B b,v])=some v:=rfl

theorem big201 {n:Nat} (h:n<10000^201):n<bigW:=by
 refine Nat.lt_of_lt_of_le h ?_
 unfold bigW
 decide+kernel

theorem MagZ.toZ {h:Heap} {v:Value} {n:Nat} (p:MagZ h v n):ZV h (.agg #[B false,v]) (n:Int):=⟨v,by rw [decide_eq_false (by omega)],by simpa using p⟩

theorem C102 {v:Value} {n d:Nat} {h:Heap} {K:Value→Heap→Prop} (hv:MagZ h v n) (hn:n<10000^200) (hd:d≤10000) (hk:∀r h',EX h h'→MagZ h' r (n*d)→K r h'):CallP Tryz.prog 102 [v,I d] h K:=by
 have hnb:n<bigW:=big201 (by
  have:(10000:Nat)^201=10000^200*10000:=by decide+kernel
  omega)
 have hprod:n*d<bigW:=by
  refine big201 ?_
  have h1:n*d≤n*10000:=Nat.mul_le_mul_left _ hd
  have:(10000:Nat)^201=10000^200*10000:=by decide+kernel
  omega
 refine f102 ?_
 obtain ⟨xs,dx,cx⟩:=id hv
 simp only [T102,buildM dx,OP_some]
 refine C55 (z:=d) (by omega) ?_
 intro r1 h1 x1 z1
 refine C71 (hv.toZ.mono x1) z1 (by simpa using hnb) (by have:=big201 (n:=10000) (by decide+kernel);simp;omega) ?_
 intro r2 h2 x2 z2
 obtain ⟨u,rfl,hu⟩:=z2
 have e1:((n:Int)*(d:Int)).natAbs=n*d:=by rw [Int.natAbs_mul];simp
 rw [e1] at hu
 have e2:decide ((n:Int)*(d:Int)<0)=false:=decide_eq_false (by have:(n:Int)*(d:Int)=((n*d:Nat):Int):=by simp
                                                               omega)
 rw [e2]
 obtain ⟨ys,dy,cy,vy⟩:=hu
 have ly:=canZ_len cy (by rw [vy];exact hprod)
 refine C100 dy cy.1 (by omega) ?_
 intro r3 h3 x3 z3
 simp only [Bool.false_eq_true,if_false,vy] at z3
 obtain ⟨w,rfl,hw⟩:=z3
 rw [fldM]
 rw [Int.natAbs_natCast] at hw
 exact OP_some.2 (hk _ _ ((x1.trans x2).trans x3) hw)

theorem MagZ.keepI {h h':Heap} {n i m:Nat} (p:MagZ h (sl 3 i 0 m) n) (hi:h'[i]?=h[i]?):MagZ h' (sl 3 i 0 m) n:=by
 obtain ⟨xs,d,c,v⟩:=p
 refine ⟨xs,?_,c,v⟩
 rcases d with ⟨h1,h2⟩ | ⟨j,h1,h2⟩
 ·cases h1
 ·obtain ⟨rfl,rfl⟩:=sl_inj h1
  refine .inr ⟨i,rfl,h2.imp id ?_⟩
  rintro ⟨r,hr⟩
  refine ⟨r,?_⟩
  unfold objCells at hr⊢
  rw [hi];exact hr

theorem consD {h:Heap} {v:Value} {ys:List Nat} {d:Nat} {K:Value→Heap→Prop} (p:DS 3 .i64 h v ys) (hl:ys.length≤1000) (hk:∀r h',EX h h'→DS 3 .i64 h' r (d::ys)→K r h'):
  OH (iMkSl 3 1 [.int .i64 0] h [(0,1,I d)]) fun a h1=>OH (iApp 3 1 8 h1 a v) K:=by
 have e1:iMkSl 3 1 [.int .i64 0] h [(0,1,I d)]=some (sl 3 h.length 0 1,h++[.arr 3 [I d]]):=rfl
 rw [e1]
 simp only [OH_some]
 obtain ⟨c1,c2⟩:=(p.mono (EX.append h [.arr 3 [I d]])).cells
 by_cases hn0:ys.length=0
 ·have:ys=[]:=List.length_eq_zero_iff.1 hn0
  subst this
  have e2:iApp 3 1 8 (h++[.arr 3 [I d]]) (sl 3 h.length 0 1) v=some (sl 3 h.length 0 1,h++[.arr 3 [I d]]):=by
   simp [iApp,c1,c2,sl,maxLen]
  rw [e2]
  simp only [OH_some]
  exact hk _ _ (EX.append _ _) (.inr ⟨h.length,rfl,.inr ⟨[],by simp [objCells]⟩⟩)
 ·have hg:(h++[IObj.arr 3 [I d]])[h.length]?=some (.arr 3 [I d]):=get_last
  have e2:iApp 3 1 8 (h++[.arr 3 [I d]]) (sl 3 h.length 0 1) v=some (sl 3 (h.length+1) 0 (1+ys.length),(h++[IObj.arr 3 [I d]]).set h.length .dead++[.arr 3 ([I d]++ys.map fun d:Nat=>I d)]):=by
   simp only [iApp,c1,c2]
   simp only [sl,hg]
   rw [if_pos ⟨trivial,trivial,by simp,by omega,by unfold maxLen;omega⟩,if_neg hn0]
   simp
  rw [e2]
  simp only [OH_some]
  refine hk _ _ (((EX.append _ _).set (Nat.le_refl _) _).push _) (.inr ⟨h.length+1,by rw [List.length_cons,Nat.add_comm 1],.inr ⟨[],?_⟩⟩)
  unfold objCells
  rw [List.getElem?_append_right (by simp)]
  simp

theorem val_drop (B:Nat) (xs:List Nat) {i:Nat} (hi:i<xs.length):val B (xs.drop i)=xs[i]+B*val B (xs.drop (i+1)):=by
 rw [List.drop_eq_getElem_cons hi];rfl

theorem sgn_le {a b:Nat}:sgn a b≤0↔a≤b:=by
 unfold sgn
 split
 ·constructor <;> omega
 ·split <;> constructor <;> omega

theorem C69 {va vb:Value} {a b:Int} {h:Heap} {K:Value→Heap→Prop} (ha:ZV h va a) (hb:ZV h vb b) (hb0:0<b) (la:a.natAbs<10000^199) (lb:b.natAbs<10000^199)
  (hk:∀r s h',EX h h'→ZV h' r (a / b)→ZV h' s (a%b)→K (.tuple #[r,s]) h'):CallP Tryz.prog 69 [va,vb] h K:=by
 obtain ⟨v,rfl,hv⟩:=ha
 obtain ⟨w,rfl,hw⟩:=hb
 have hp200:(10000:Nat)^200=10000^199*10000:=by decide+kernel
 have hp201:(10000:Nat)^201=10000^200*10000:=by decide+kernel
 refine f69 ?_
 unfold T69
 refine box2z ?_
 intro h3 x
 obtain ⟨B,hBb⟩:∃B:Nat,b=B:=⟨b.toNat,by omega⟩
 subst hBb
 have hB0:0<B:=by omega
 have hBl:B<10000^199:=by simpa using lb
 obtain ⟨xs,dx,cx,ex⟩:=hv.mono x.ex
 have l1:=canZ_len cx (by rw [ex];exact big201 (by omega))
 have hwB:MagZ h3 w B:=by have:=hw.mono x.ex;simpa using this
 have e2:iAlloc 35 [(.bool false),(.slice none 0 0)] h3=some (pt h3.length 0,h3++[.arr 35 [(.bool false),(.slice none 0 0)]]):=rfl
 simp only [e2,OH_some,fadr_pt,Nat.add_zero,Nat.zero_add]
 have x4:EX h3 (h3++[.arr 35 [(.bool false),(.slice none 0 0)]]):=EX.append _ _
 have g5:(h3++[IObj.arr 35 [(.bool false),(.slice none 0 0)]])[h3.length]?=some (.arr 35 [(.bool false),(.slice none 0 0)]):=get_last
 have hl3:h.length+2<h3.length:=(List.getElem?_eq_some_iff.1 x.out).1
 generalize hh4:h3++[IObj.arr 35 [(.bool false),(.slice none 0 0)]]=h4 at x4 g5⊢
 have hl4:h4.length=h3.length+1:=by rw [←hh4];simp
 clear hh4
 have dx4:=dx.mono x4
 simp only [EX.load x4 x.a1,OP_some,dx4.len,make_hz (show xs.length≤1000 by omega),OH_some,EX.load (x4.trans (hz_EX h4 _)) x.a1,mkD0]
 have e6:IntKind.wrap .i64 ((xs.length:Int)-1)=(xs.length:Int)-1:=wrap64 (by omega) (by omega)
 have x6:EX h4 (hz h4 (List.replicate xs.length 0)++[.arr 3 []]):=(hz_EX h4 _).push _
 simp only [EX.load (x4.trans x6) x.a1,OP_some,dx4.len,bin_sub,e6]
 have hq0:(hz h4 (List.replicate xs.length 0)++[IObj.arr 3 []])[h4.length]?=some (.arr 3 ((List.replicate xs.length 0).map fun d:Nat=>I d)):=by
  rw [List.getElem?_append_left (by simp [hz])];exact hz_get _ _
 have hr0:MagZ (hz h4 (List.replicate xs.length 0)++[IObj.arr 3 []]) (sl 3 (hz h4 (List.replicate xs.length 0)).length 0 0) 0:=⟨[],.inr ⟨_,rfl,.inl rfl⟩,Canon.nil _,rfl⟩
 refine loopL (σ:=Nat×Nat×Value×List Nat×Heap) (fun p=>[p.2.2.1,I ((p.1:Int)-1)]) (fun p=>p.2.2.2.2)
  (fun p=>p.1≤xs.length∧EX h4 p.2.2.2.2∧p.2.2.2.2[h4.length]?=some (.arr 3 (p.2.2.2.1.map fun d:Nat=>I d))∧p.2.2.2.1.length=xs.length∧Lim 10000 p.2.2.2.1∧MagZ p.2.2.2.2 p.2.2.1 p.2.1∧p.2.1<B∧val 10000 (p.2.2.2.1.drop p.1)*B+p.2.1=val 10000 (xs.drop p.1)) (fun p=>p.1)
  (xs.length,0,_,List.replicate xs.length 0,_) rfl rfl ⟨Nat.le_refl _,x6,hq0,by simp,Lim.zeros (by decide) _,hr0,hB0,by simp [val]⟩ ?_
 rintro ⟨i,R,rv,qs,g⟩ ⟨hi,xg,hq,hql,hqlim,hR,hRB,hval⟩ L hL
 simp only at hi xg hq hql hqlim hR hRB hval hL⊢
 have ldA:∀{g'},EX h4 g'→iLoad false 1 g' (pt h.length 1)=some v:=fun y=>EX.load (x4.trans y) x.a1
 have ldB:∀{g'},EX h4 g'→iLoad false 1 g' (pt (h.length+1) 1)=some w:=fun y=>EX.load (x4.trans y) x.b1
 rw [q69z6]
 simp only [bin_geq,OP_some,IfP_dec]
 refine ⟨fun hge=>?_,fun hlt=>?_⟩
 ·obtain ⟨j,rfl⟩:∃j,i=j+1:=⟨i-1,by omega⟩
  have ej:((j+1:Nat):Int)-1=(j:Int):=by omega
  have hjx:j<xs.length:=by omega
  obtain ⟨ia,a1,a2⟩:=(dx4.mono xg).get hjx
  have hxj:xs[j]<10000:=cx.1 _ (List.getElem_mem hjx)
  have hvd:=val_drop 10000 xs hjx
  rw [ej]
  simp only [fadr_pt,Nat.zero_add,ldA xg,OP_some,a1,a2]
  obtain ⟨rs,dr,cr,vr⟩:=id hR
  have lr:=canZ_len cr (by rw [vr];exact big201 (by omega))
  refine consD dr (by omega) ?_
  intro r1 g1 y1 d1
  simp only [buildM d1,OP_some]
  refine C100f d1 (fun z hz=>by
   rcases List.mem_cons.1 hz with rfl | hz
   ·exact hxj
   ·exact cr.1 z hz) (by simp;omega) ?_
  rintro r2 g2 y2 z2 ⟨fb,fi,fn,rfl,hfi⟩
  have ev:val 10000 (xs[j]::rs)=xs[j]+10000*R:=by simp only [val,vr]
  simp only [Bool.false_eq_true,if_false,ev] at z2
  obtain ⟨rw2,hrw2e,hrw⟩:=z2
  injection hrw2e with hrw2e
  injection hrw2e with hrw2e
  simp only [List.cons.injEq,and_true] at hrw2e
  obtain ⟨_,rfl⟩:=hrw2e
  rw [fldM]
  have hrw2:MagZ g2 (sl 3 fi 0 fn) (xs[j]+10000*R):=by
   rw [Int.natAbs_natCast] at hrw
   exact hrw
  have hfi4:h4.length<fi:=by
   have h9:=(List.getElem?_eq_some_iff.1 hq).1
   have h8:=y1.1
   omega
  simp only [OP_some]
  have hR':xs[j]+10000*R<10000*B:=by omega
  generalize hRR:xs[j]+10000*R=R' at hrw2 hR'
  have xg2:EX h4 g2:=(xg.trans y1).trans y2
  refine loopL (σ:=Nat×Nat×Heap) (fun p=>[I p.1,I p.2.1]) (fun p=>p.2.2) (fun p=>p.1<p.2.1∧p.2.1≤10000∧EX g2 p.2.2∧p.1*B≤R'∧R'<p.2.1*B) (fun p=>p.2.1-p.1)
   (0,10000,g2) rfl rfl ⟨by show 0<10000;decide,Nat.le_refl _,EX.refl _,by simp,hR'⟩ ?_
  rintro ⟨lo,hi2,g3⟩ ⟨hlh,hh,y3,hlo,hhi⟩ L2 hL2
  simp only at hlh hh y3 hlo hhi hL2⊢
  have xg3:EX h4 g3:=xg2.trans y3
  rw [q69z15]
  have e7:IntKind.wrap .i64 ((hi2:Int)-(lo:Int))=((hi2-lo:Nat):Int):=by rw [wrap64 (by omega) (by omega)];omega
  have e8:IntKind.wrap .i64 ((lo:Int)+(hi2:Int))=((lo+hi2:Nat):Int):=by rw [wrap64 (by omega) (by omega)];omega
  simp only [bin_sub,e7,OP_some,bin_gtr,IfP_dec]
  refine ⟨fun hgt=>?_,fun hle=>?_⟩
  ·simp only [bin_add,e8,OP_some]
   rw [show (.int .i64 2:Value)=.int .i64 ((2:Nat):Int) from rfl,quoI (by decide) (by omega)]
   simp only [OP_some,fadr_pt,Nat.zero_add,ldB xg3]
   have hm:(lo+hi2) / 2≤10000:=by omega
   refine C102 ((hwB.mono x4).mono xg3) (by omega) hm ?_
   intro r4 g4 y4 m4
   have hbm:B*((lo+hi2) / 2)<bigW:=by
    refine big201 ?_
    have:=Nat.mul_le_mul_left B hm
    omega
   refine C101 (a:=B*((lo+hi2) / 2)) (b:=R') m4 ((hrw2.mono y3).mono y4) hbm (big201 (by omega)) ?_
   simp only [bin_leq,OP_some,IfP_dec,true_and]
   generalize hmm:(lo+hi2) / 2=mid at*
   have hml:lo<mid∧mid<hi2:=by omega
   refine ⟨fun h0=>?_,fun h0=>?_⟩
   ·have:=sgn_le.1 h0
    exact hL2 (mid,hi2,g4) ⟨hml.2,hh,y3.trans y4,by show mid*B≤R';rw [Nat.mul_comm];exact this,hhi⟩ (by show hi2-mid<hi2-lo;omega)
   ·have:¬B*mid≤R':=fun h9=>h0 (sgn_le.2 h9)
    exact hL2 (lo,mid,g4) ⟨hml.1,by show mid≤10000;omega,y3.trans y4,hlo,by show R'<mid*B;rw [Nat.mul_comm];omega⟩ (by show mid-lo<hi2-lo;omega)
  ·have hhl:hi2=lo+1:=by omega
   subst hhl
   have hRl:R'<lo*B+B:=by rw [Nat.succ_mul] at hhi;exact hhi
   rw [q69z21]
   have hq3:g3[h4.length]?=some (.arr 3 (qs.map fun d:Nat=>I d)):=by
    rw [←hq]
    have hgl:=(List.getElem?_eq_some_iff.1 hq).1
    rw [((y1.trans y2).trans y3).2 _ hgl]
   have ad:iAdrSl 1 (sl 3 h4.length 0 xs.length) (I j)=some (pt h4.length j):=adr_sl hjx
   simp only [ad,OP_some]
   rw [store_at hq3 (by simp;omega) rfl rfl]
   simp only [OH_some]
   have es:(qs.map fun d:Nat=>I d).set j (I lo)=(qs.set j lo).map fun d:Nat=>I d:=by rw [List.map_set]
   rw [es]
   have xg5:EX h4 (g3.set h4.length (.arr 3 ((qs.set j lo).map fun d:Nat=>I d))):=xg3.set (Nat.le_refl _) _
   have hq5:(g3.set h4.length (.arr 3 ((qs.set j lo).map fun d:Nat=>I d)))[h4.length]?=some (.arr 3 ((qs.set j lo).map fun d:Nat=>I d)):=set_get hq3
   -- the rest does not lie there
   have hrw5:MagZ (g3.set h4.length (.arr 3 ((qs.set j lo).map fun d:Nat=>I d))) (sl 3 fi 0 fn) R':=(hrw2.mono y3).keepI (by rw [List.getElem?_set_ne (by omega)])
   generalize g3.set h4.length (.arr 3 ((qs.set j lo).map fun d:Nat=>I d))=g5 at xg5 hq5 hrw5⊢
   simp only [fadr_pt,Nat.zero_add,ldB xg5,OP_some]
   refine C102 ((hwB.mono x4).mono xg5) (by omega) (by omega) ?_
   intro r6 g6 y6 m6
   obtain ⟨us,du,cu,vu⟩:=hrw5.mono y6
   obtain ⟨ts,dt,ct,vt⟩:=m6
   have hBlo:B*lo≤R':=by rw [Nat.mul_comm];exact hlo
   have lu:=canZ_len cu (by rw [vu];exact big201 (by omega))
   refine C103 du dt cu.1 ct.1 (by omega) ?_ (by rw [vu,vt];exact hBlo) ?_
   ·apply Classical.byContradiction
    intro hc
    have:=Canon.lt_of_len (by decide) cu ct (by omega)
    omega
   intro r7 g7 os y7 d7 l7 s7 v7
   simp only [buildM d7,OP_some]
   refine C100 d7 l7 (by omega) ?_
   intro r8 g8 y8 z8
   simp only [Bool.false_eq_true,if_false] at z8
   obtain ⟨rw8,rfl,hrw8⟩:=z8
   rw [fldM]
   simp only [OP_some]
   have ej2:IntKind.wrap .i64 ((j:Int)-1)=(j:Int)-1:=wrap64 (by omega) (by omega)
   simp only [q69z23,bin_sub,ej2,OP_some,true_and]
   have hlo4:lo<10000:=by omega
   have hv7:val 10000 os=R' -B*lo:=by omega
   have hrw8':MagZ g8 rw8 (R' -B*lo):=by rw [←hv7];simpa using hrw8
   have hBB:B*lo=lo*B:=Nat.mul_comm _ _
   refine hL (j,R' -B*lo,rw8,qs.set j lo,g8) ⟨by show j≤xs.length;omega,((xg5.trans y6).trans y7).trans y8,?_,by rw [List.length_set];exact hql,hqlim.set hlo4 _,hrw8',by show R' -B*lo<B;omega,?_⟩ (by show j<j+1;omega)
   ·have hgl:=(List.getElem?_eq_some_iff.1 hq5).1
    show g8[h4.length]?=_
    rw [((y6.trans y7).trans y8).2 _ hgl];exact hq5
   ·show val 10000 ((qs.set j lo).drop j)*B+(R' -B*lo)=val 10000 (xs.drop j)
    have hd:(qs.set j lo).drop j=lo::qs.drop (j+1):=by
     rw [List.drop_eq_getElem_cons (by rw [List.length_set];omega),List.getElem_set_self]
     congr 1
     rw [List.drop_set_of_lt (by omega)]
    rw [hd,hvd,←hval]
    simp only [val]
    have h1:(lo+10000*val 10000 (qs.drop (j+1)))*B=lo*B+10000*(val 10000 (qs.drop (j+1))*B):=by rw [Nat.add_mul,Nat.mul_assoc]
    rw [h1]
    omega
 ·have hi0:i=0:=by omega
  subst hi0
  simp only [List.drop_zero] at hval
  rw [q69z24]
  have ld0:∀{g'},EX h4 g'→iLoad false 1 g' (pt h.length 0)=some (Go.Sim.B (decide (a<0))):=fun y=>EX.load (x4.trans y) x.a0
  have dq:DS 3 .i64 g (sl 3 h4.length 0 xs.length) qs:=by
   rw [←hql]
   exact .inr ⟨h4.length,rfl,.inr ⟨[],by simp [objCells,hq]⟩⟩
  simp only [fadr_pt,Nat.add_zero,Nat.zero_add,ld0 xg,OP_some,build2 dq]
  refine C100 dq hqlim (by omega) ?_
  intro r1 g1 y1 z1
  generalize hQ:val 10000 qs=Q at z1 hval
  obtain ⟨rs,dr,cr,vr⟩:=hR.mono y1
  have lr:=canZ_len cr (by rw [vr];exact big201 (by omega))
  simp only [buildM dr,OP_some]
  refine C100 dr cr.1 (by omega) ?_
  intro r2 g2 y2 z2
  simp only [Bool.false_eq_true,if_false,vr] at z2
  have z1:=z1.mono y2
  have xg2:EX h4 g2:=(xg.trans y1).trans y2
  have hl2:h3.length+1≤g2.length:=by have:=xg2.1;omega
  obtain ⟨uq,rfl,hq'⟩:=id z1
  obtain ⟨ur,rfl,hr'⟩:=id z2
  have e3:∀g':Heap,iAlloc 35 [(.bool false),(.slice none 0 0)] g'=some (pt g'.length 0,g'++[.arr 35 [(.bool false),(.slice none 0 0)]]):=fun _=>rfl
  simp only [e3,OH_some,List.length_append,List.length_cons,List.length_nil,Nat.zero_add]
  have k0:(g2++[IObj.arr 35 [(.bool false),(.slice none 0 0)]]++[IObj.arr 35 [(.bool false),(.slice none 0 0)]])[g2.length]?=some (.arr 35 [(.bool false),(.slice none 0 0)]):=by simp
  have k1:(g2++[IObj.arr 35 [(.bool false),(.slice none 0 0)]]++[IObj.arr 35 [(.bool false),(.slice none 0 0)]])[g2.length+1]?=some (.arr 35 [(.bool false),(.slice none 0 0)]):=by simp
  have y3:EX g2 (g2++[IObj.arr 35 [(.bool false),(.slice none 0 0)]]++[IObj.arr 35 [(.bool false),(.slice none 0 0)]]):=(EX.append _ _).push _
  generalize g2++[IObj.arr 35 [(.bool false),(.slice none 0 0)]]++[IObj.arr 35 [(.bool false),(.slice none 0 0)]]=g3 at k0 k1 y3⊢
  rw [store2 k0]
  simp only [OH_some]
  have y4:EX g2 (g3.set g2.length (.arr 35 [Go.Sim.B (decide ((if decide (a<0)=true then -(Q:Int) else (Q:Int))<0)),uq])):=y3.set (Nat.le_refl _) _
  have k0':=set_get (o:=.arr 35 [Go.Sim.B (decide ((if decide (a<0)=true then -(Q:Int) else (Q:Int))<0)),uq]) k0
  have k1':(g3.set g2.length (.arr 35 [Go.Sim.B (decide ((if decide (a<0)=true then -(Q:Int) else (Q:Int))<0)),uq]))[g2.length+1]?=some (.arr 35 [(.bool false),(.slice none 0 0)]):=by rw [List.getElem?_set_ne (by omega)];exact k1
  generalize g3.set g2.length (.arr 35 [Go.Sim.B (decide ((if decide (a<0)=true then -(Q:Int) else (Q:Int))<0)),uq])=g4 at y4 k0' k1'⊢
  rw [store2 k1']
  simp only [OH_some]
  have y5:EX g2 (g4.set (g2.length+1) (.arr 35 [Go.Sim.B (decide ((R:Int)<0)),ur])):=y4.set (by omega) _
  have m1:=set_get (o:=.arr 35 [Go.Sim.B (decide ((R:Int)<0)),ur]) k1'
  have m0:(g4.set (g2.length+1) (.arr 35 [Go.Sim.B (decide ((R:Int)<0)),ur]))[g2.length]?=some (.arr 35 [Go.Sim.B (decide ((if decide (a<0)=true then -(Q:Int) else (Q:Int))<0)),uq]):=by rw [List.getElem?_set_ne (by omega)];exact k0'
  generalize g4.set (g2.length+1) (.arr 35 [Go.Sim.B (decide ((R:Int)<0)),ur])=g5h at y5 m0 m1⊢
  have xg5:EX h4 g5h:=xg2.trans y5
  have xh5:EX h g5h:=(x.ex.trans x4).trans xg5
  have o4:=xg5.get (x4.get x.out)
  have o5:=xg5.get g5
  have zq:=z1.mono y5
  have zr:=z2.mono y5
  have zb:ZV g5h (.agg #[Go.Sim.B (decide ((B:Int)<0)),w]) (B:Int):=⟨w,rfl,(hw.mono x.ex).mono (x4.trans xg5)⟩
  have hQv:Q*B+R=a.natAbs:=by rw [hval,ex]
  -- the two results
  have put:∀(r s:Value) (g6:Heap),EX g5h g6→ZV g6 r (a / (B:Int))→ZV g6 s (a%(B:Int))→OH (oStore 2 g6 (pt (h.length+2) 0) r) fun _ h_1=>OH (oStore 2 h_1 (pt h3.length 0) s) fun _ h_2=>OP (iLoad true 2 h_2 (pt (h.length+2) 0)) fun r0=>OP (iLoad true 2 h_2 (pt h3.length 0)) fun r1=>K (.tuple #[r0,r1]) h_2:=by
   rintro r s g6 y6 zr' zs'
   obtain ⟨u1,rfl,hu1⟩:=id zr'
   obtain ⟨u2,rfl,hu2⟩:=id zs'
   have n4:=y6.get o4
   have n5:=y6.get o5
   rw [store2 n4]
   simp only [OH_some]
   have n5':(g6.set (h.length+2) (.arr 35 [Go.Sim.B (decide (a / (B:Int)<0)),u1]))[h3.length]?=some (.arr 35 [.bool false,.slice none 0 0]):=by rw [List.getElem?_set_ne (by omega)];exact n5
   rw [store2 n5']
   simp only [OH_some]
   have p4:((g6.set (h.length+2) (.arr 35 [Go.Sim.B (decide (a / (B:Int)<0)),u1])).set h3.length (.arr 35 [Go.Sim.B (decide (a%(B:Int)<0)),u2]))[h.length+2]?=some (.arr 35 [Go.Sim.B (decide (a / (B:Int)<0)),u1]):=by
    rw [List.getElem?_set_ne (by omega)];exact set_get n4
   rw [load2 p4,OP_some,load2 (set_get n5'),OP_some]
   exact hk _ _ _ (((xh5.trans y6).set (by omega) _).set (by omega) _) ((zr'.setB n4 _).setB n5' _) ((zs'.setB n4 _).setB n5' _)
  have hBne:(0:Int)<(B:Int):=by omega
  have un:∀q r:Int,r+(B:Int)*q=a→0≤r→r<(B:Int)→a / (B:Int)=q∧a%(B:Int)=r:=fun q r h1 h2 h3=>(Int.ediv_emod_unique hBne).2 ⟨h1,h2,h3⟩
  have hQB:((Q*B:Nat):Int)=(B:Int)*(Q:Int):=by rw [Int.natCast_mul,Int.mul_comm]
  -- nothing to be turned
  have plain:(0≤a∨R=0)→p69z31 Tryz.prog K (pt (h.length+1) 0) (pt (h.length+2) 0) (pt h3.length 0) (pt g2.length 0) (pt (g2.length+1) 0) (Go.Sim.B false) undef g5h∧p69z31 Tryz.prog K (pt (h.length+1) 0) (pt (h.length+2) 0) (pt h3.length 0) (pt g2.length 0) (pt (g2.length+1) 0) (Go.Sim.B true) (Go.Sim.B false) g5h:=by
   intro hc
   have hun:a / (B:Int)=(if decide (a<0)=true then -(Q:Int) else (Q:Int))∧a%(B:Int)=(R:Int):=by
    by_cases hneg:a<0
    ·have hR0:R=0:=by omega
     rw [decide_eq_true hneg,if_pos rfl]
     refine un _ _ ?_ (by omega) (by omega)
     rw [Int.mul_neg,←hQB]
     omega
    ·rw [decide_eq_false hneg,if_neg (by simp)]
     refine un _ _ ?_ (by omega) (by omega)
     rw [←hQB]
     omega
   have tail:OP (iLoad true 2 g5h (pt g2.length 0)) fun x90=>OP (iLoad true 2 g5h (pt (g2.length+1) 0)) fun x91=>OH (oStore 2 g5h (pt (h.length+2) 0) x90) fun _ h_1=>(iLoad true 2 h_1 (pt (g2.length+1) 0)=some x91)∧OH (oStore 2 h_1 (pt h3.length 0) x91) fun _ h_2=>OP (iLoad true 2 h_2 (pt (h.length+2) 0)) fun r0=>OP (iLoad true 2 h_2 (pt h3.length 0)) fun r1=>K (.tuple #[r0,r1]) h_2:=by
    have:=put _ _ g5h (EX.refl _) (by rw [hun.1];exact zq) (by rw [hun.2];exact zr)
    rw [load2 m0,OP_some,load2 m1,OP_some]
    rw [store2 o4] at this⊢
    simp only [OH_some] at this⊢
    refine ⟨?_,this⟩
    refine load2 (e:=35) ?_
    rw [List.getElem?_set_ne (by omega)]
    exact m1
   constructor
   ·rw [q69z31]
    simp only [iPick_f,OP_some,IfP_false,true_and,and_true]
    exact tail
   ·rw [q69z31]
    simp only [iPick_t,OP_some,IfP_false,true_and,and_true]
    exact tail
  have ldl:iLoad false 1 g5h (pt (g2.length+1) 1)=some ur:=by simp [iLoad,objCells,m1,iPart]
  obtain ⟨l,p1,p2⟩:=(hr'.mono y5).len0
  have p2':0<l↔0<R:=by simpa using p2
  simp only [ld0 xg5,OP_some,q69z29]
  by_cases hneg:a<0
  ·rw [decide_eq_true hneg]
   simp only [GdP_tt,fadr_pt,Nat.add_comm 0 1,ldl,OP_some,p1,bin_gtr]
   by_cases hR0:R=0
   ·rw [decide_eq_false (by omega)]
    exact (plain (.inr hR0)).2
   ·rw [decide_eq_true (by omega),q69z31]
    have hbigA:a.natAbs<bigW:=big201 (by omega)
    have hQle:Q≤a.natAbs:=by
     have:Q*1≤Q*B:=Nat.mul_le_mul_left _ hB0
     omega
    have hone:(1:Int).natAbs<bigW:=lt_bigW (by decide+kernel)
    simp only [iPick_t,OP_some,IfP_true,load2 m0,true_and]
    refine C55 (z:=1) (by decide) ?_
    intro r6 g6 y6 z6
    refine ⟨⟨EX.load y6 (load2 m0),trivial⟩,?_⟩
    have ldb:∀{g'},EX h4 g'→iLoad true 2 g' (pt (h.length+1) 0)=some (.agg #[Go.Sim.B (decide ((B:Int)<0)),w]):=fun y=>EX.load (x4.trans y) x.b2
    refine C92 (zq.mono y6) z6 (by rw [decide_eq_true hneg,if_pos rfl];omega) hone ?_
    intro r7 g7 y7 z7
    have xg7:=(xg5.trans y6).trans y7
    simp only [ldb xg5,ldb (xg5.trans y6),ldb xg7,OP_some,load2 m1,EX.load y6 (load2 m1),EX.load (y6.trans y7) (load2 m1),true_and,and_true]
    refine C92 (zb.mono (y6.trans y7)) (zr.mono (y6.trans y7)) (by have:=big201 (n:=B) (by omega);simpa using this) (by have:=big201 (n:=R) (by omega);simpa using this) ?_
    intro r8 g8 y8 z8
    have hun:=un (-(Q:Int)-1) ((B:Int)-(R:Int)) (by
     rw [Int.mul_sub,Int.mul_neg,←hQB,Int.mul_one]
     omega) (by omega) (by omega)
    rw [decide_eq_true hneg,if_pos rfl] at z7
    exact put _ _ g8 ((y6.trans y7).trans y8) (by rw [hun.1];exact z7.mono y8) (by rw [hun.2];exact z8)
  ·rw [decide_eq_false hneg]
   simp only [GdP_ft]
   exact (plain (.inl (by omega))).1

end Go.Proofs.YtelmdbpaoifmoaaGreat


namespace Go.Proofs.YtelmdbpaoifmoaaGreat
open Go.Sim

theorem C94 {va:Value} {a:Int} {h:Heap} {K:Value→Heap→Prop} (ha:ZV h va a) (hk:∀u h',EX h h'→MagZ h' u a.natAbs→K (.agg #[B false,u]) h'):CallP Tryz.prog 94 [va] h K:=by
 obtain ⟨v,rfl,hv⟩:=ha
 refine f94 ?_
 have e1:iBox 35 h (.agg #[B (decide (a<0)),v])=some (pt h.length 0,h++[.arr 35 [B (decide (a<0)),v]]):=rfl
 have e2:∀g':Heap,iAlloc 35 [(.bool false),(.slice none 0 0)] g'=some (pt g'.length 0,g'++[.arr 35 [(.bool false),(.slice none 0 0)]]):=fun _=>rfl
 simp only [T94,e1,e2,OH_some,List.length_append,List.length_cons,List.length_nil,Nat.zero_add]
 have k0:(h++[IObj.arr 35 [B (decide (a<0)),v]]++[IObj.arr 35 [(.bool false),(.slice none 0 0)]])[h.length]?=some (.arr 35 [B (decide (a<0)),v]):=by simp
 have k1:(h++[IObj.arr 35 [B (decide (a<0)),v]]++[IObj.arr 35 [(.bool false),(.slice none 0 0)]])[h.length+1]?=some (.arr 35 [(.bool false),(.slice none 0 0)]):=by simp
 have x1:EX h (h++[IObj.arr 35 [B (decide (a<0)),v]]++[IObj.arr 35 [(.bool false),(.slice none 0 0)]]):=(EX.append _ _).push _
 generalize h++[IObj.arr 35 [B (decide (a<0)),v]]++[IObj.arr 35 [(.bool false),(.slice none 0 0)]]=h1 at k0 k1 x1⊢
 simp only [fadr_pt,Nat.add_zero,OP_some]
 rw [store_at k0 (by simp) rfl rfl]
 simp only [OH_some,List.set_cons_zero]
 have k1':(h1.set h.length (.arr 35 [B false,v]))[h.length+1]?=some (.arr 35 [(.bool false),(.slice none 0 0)]):=by rw [List.getElem?_set_ne (by omega)];exact k1
 rw [load2 (set_get k0)]
 simp only [OP_some]
 exact fin2z k1' (hk _ _ ((x1.set (Nat.le_refl _) _).set (by omega) _) (((hv.mono x1).setB k0 _).setB k1' _))

theorem C68 {va vb:Value} {a b:Int} {h:Heap} {K:Value→Heap→Prop} (ha:ZV h va a) (hb:ZV h vb b) (la:a.natAbs<10000^199) (lb:b.natAbs<10000^199)
  (hk:∀u h',EX h h'→MagZ h' u (Nat.gcd a.natAbs b.natAbs)→K (.agg #[B false,u]) h'):CallP Tryz.prog 68 [va,vb] h K:=by
 have ha0:=ha
 have hb0:=hb
 obtain ⟨v,rfl,hv⟩:=ha
 obtain ⟨w,rfl,hw⟩:=hb
 refine f68 ?_
 have e1:∀(g:Heap) (s:Bool) (v:Value),iBox 35 g (.agg #[B s,v])=some (pt g.length 0,g++[.arr 35 [B s,v]]):=fun _ _ _=>rfl
 have e2:∀g':Heap,iAlloc 35 [(.bool false),(.slice none 0 0)] g'=some (pt g'.length 0,g'++[.arr 35 [(.bool false),(.slice none 0 0)]]):=fun _=>rfl
 simp only [T68,e1,e2,OH_some,List.length_append,List.length_cons,List.length_nil,Nat.zero_add]
 have k0:(h++[IObj.arr 35 [B (decide (a<0)),v]]++[IObj.arr 35 [B (decide (b<0)),w]]++[IObj.arr 35 [(.bool false),(.slice none 0 0)]])[h.length]?=some (.arr 35 [B (decide (a<0)),v]):=by simp
 have k1:(h++[IObj.arr 35 [B (decide (a<0)),v]]++[IObj.arr 35 [B (decide (b<0)),w]]++[IObj.arr 35 [(.bool false),(.slice none 0 0)]])[h.length+1]?=some (.arr 35 [B (decide (b<0)),w]):=by simp
 have k2:(h++[IObj.arr 35 [B (decide (a<0)),v]]++[IObj.arr 35 [B (decide (b<0)),w]]++[IObj.arr 35 [(.bool false),(.slice none 0 0)]])[h.length+2]?=some (.arr 35 [(.bool false),(.slice none 0 0)]):=by simp
 have x1:EX h (h++[IObj.arr 35 [B (decide (a<0)),v]]++[IObj.arr 35 [B (decide (b<0)),w]]++[IObj.arr 35 [(.bool false),(.slice none 0 0)]]):=((EX.append _ _).push _).push _
 generalize h++[IObj.arr 35 [B (decide (a<0)),v]]++[IObj.arr 35 [B (decide (b<0)),w]]++[IObj.arr 35 [(.bool false),(.slice none 0 0)]]=h1 at k0 k1 k2 x1⊢
 rw [load2 k0]
 simp only [OP_some,true_and]
 refine C94 (ha0.mono x1) ?_
 intro u2 h2 x2 m2
 simp only [load2 k1,EX.load x2 (load2 k1),OP_some,true_and]
 refine C94 (hb0.mono (x1.trans x2)) ?_
 intro u3 h3 x3 m3
 have k0':=(x2.trans x3).get k0
 have k1':=(x2.trans x3).get k1
 have k2':=(x2.trans x3).get k2
 have x13:=(x1.trans x2).trans x3
 have m2:=m2.mono x3
 rw [store2 k0']
 simp only [OH_some]
 have q1:(h3.set h.length (.arr 35 [B false,u2]))[h.length+1]?=some (.arr 35 [B (decide (b<0)),w]):=by rw [List.getElem?_set_ne (by omega)];exact k1'
 rw [store2 q1]
 simp only [OH_some]
 refine loopL (σ:=Nat×Nat×Value×Value×Heap) (fun _=>[]) (fun p=>p.2.2.2.2)
  (fun p=>EX h p.2.2.2.2∧p.2.2.2.2[h.length]?=some (.arr 35 [B false,p.2.2.1])∧p.2.2.2.2[h.length+1]?=some (.arr 35 [B false,p.2.2.2.1])∧p.2.2.2.2[h.length+2]?=some (.arr 35 [.bool false,.slice none 0 0])∧MagZ p.2.2.2.2 p.2.2.1 p.1∧MagZ p.2.2.2.2 p.2.2.2.1 p.2.1∧p.1<10000^199∧p.2.1<10000^199∧Nat.gcd p.1 p.2.1=Nat.gcd a.natAbs b.natAbs) (fun p=>p.2.1)
  (a.natAbs,b.natAbs,u2,u3,(h3.set h.length (.arr 35 [B false,u2])).set (h.length+1) (.arr 35 [B false,u3])) rfl rfl
  ⟨(x13.set (Nat.le_refl _) _).set (by omega) _,by rw [List.getElem?_set_ne (by omega)];exact set_get k0',set_get q1,by rw [List.getElem?_set_ne (by omega),List.getElem?_set_ne (by omega)];exact k2',(m2.setB k0' _).setB q1 _,(m3.setB k0' _).setB q1 _,la,lb,rfl⟩ ?_
 rintro ⟨x,y,ux,uy,g⟩ ⟨xg,j0,j1,j2,mx,my,lx,ly,hg⟩ L hL
 simp only at xg j0 j1 j2 mx my lx ly hg hL⊢
 rw [q68z5]
 obtain ⟨l,p1,p2⟩:=my.len0
 have ld:iLoad false 1 g (pt (h.length+1) 1)=some uy:=by simp [iLoad,objCells,j1,iPart]
 simp only [fadr_pt,Nat.zero_add,ld,OP_some,p1,bin_gtr,IfP_dec]
 refine ⟨fun hgt=>?_,fun hle=>?_⟩
 ·have hy:0<y:=p2.1 (by omega)
  rw [load2 j0,OP_some,load2 j1,OP_some]
  refine C69 mx.toZ my.toZ (by omega) (by simpa using lx) (by simpa using ly) ?_
  intro r s g1 y1 zr zs
  obtain ⟨u5,rfl,hu5⟩:=id zr
  obtain ⟨u6,hs6,hu6⟩:=id zs
  have hpos:decide ((x:Int)%(y:Int)<0)=false:=decide_eq_false (by have:=Int.emod_nonneg (x:Int) (show (y:Int)≠0 by omega);omega)
  rw [hpos] at hs6
  subst hs6
  have hmv:((x:Int)%(y:Int)).natAbs=x%y:=by
   rw [←Int.natCast_emod,Int.natAbs_natCast]
  rw [hmv] at hu6
  have gl:h.length+2<g1.length:=by
   have:=(List.getElem?_eq_some_iff.1 j2).1
   have:=y1.1
   omega
  simp only [ext_tuple,pair0,pair1,OP_some,e2,OH_some,List.length_append,List.length_cons,List.length_nil,Nat.zero_add]
  have n0:(g1++[IObj.arr 35 [(.bool false),(.slice none 0 0)]]++[IObj.arr 35 [(.bool false),(.slice none 0 0)]])[g1.length]?=some (.arr 35 [(.bool false),(.slice none 0 0)]):=by simp
  have n1:(g1++[IObj.arr 35 [(.bool false),(.slice none 0 0)]]++[IObj.arr 35 [(.bool false),(.slice none 0 0)]])[g1.length+1]?=some (.arr 35 [(.bool false),(.slice none 0 0)]):=by simp
  have y2:EX g1 (g1++[IObj.arr 35 [(.bool false),(.slice none 0 0)]]++[IObj.arr 35 [(.bool false),(.slice none 0 0)]]):=(EX.append _ _).push _
  generalize g1++[IObj.arr 35 [(.bool false),(.slice none 0 0)]]++[IObj.arr 35 [(.bool false),(.slice none 0 0)]]=g2 at n0 n1 y2⊢
  rw [store2 n0]
  simp only [OH_some]
  have n1':(g2.set g1.length (.arr 35 [B (decide ((x:Int) / (y:Int)<0)),u5]))[g1.length+1]?=some (.arr 35 [(.bool false),(.slice none 0 0)]):=by rw [List.getElem?_set_ne (by omega)];exact n1
  rw [store2 n1']
  simp only [OH_some]
  have y3:EX g1 ((g2.set g1.length (.arr 35 [B (decide ((x:Int) / (y:Int)<0)),u5])).set (g1.length+1) (.arr 35 [B false,u6])):=(y2.set (Nat.le_refl _) _).set (by omega) _
  have n6:=set_get (o:=.arr 35 [B false,u6]) n1'
  generalize (g2.set g1.length (.arr 35 [B (decide ((x:Int) / (y:Int)<0)),u5])).set (g1.length+1) (.arr 35 [B false,u6])=g3 at y3 n6⊢
  have i0:=(y1.trans y3).get j0
  have i1:=(y1.trans y3).get j1
  have i2:=(y1.trans y3).get j2
  rw [load2 i1]
  simp only [OP_some,true_and,load2 n6]
  rw [store2 i0]
  simp only [OH_some,and_true]
  have s6:(g3.set h.length (.arr 35 [B false,uy]))[g1.length+1]?=some (.arr 35 [B false,u6]):=by rw [List.getElem?_set_ne (by omega)];exact n6
  have s1:(g3.set h.length (.arr 35 [B false,uy]))[h.length+1]?=some (.arr 35 [B false,uy]):=by rw [List.getElem?_set_ne (by omega)];exact i1
  refine ⟨load2 s6,?_⟩
  rw [store2 s1]
  simp only [OH_some,true_and]
  have hlt:x%y<y:=Nat.mod_lt _ hy
  refine hL (y,x%y,uy,u6,(g3.set h.length (.arr 35 [B false,uy])).set (h.length+1) (.arr 35 [B false,u6])) ⟨(((xg.trans y1).trans y3).set (Nat.le_refl _) _).set (by omega) _,?_,set_get s1,?_,(((my.mono y1).mono y3).setB i0 _).setB s1 _,(((hu6.mono y3)).setB i0 _).setB s1 _,ly,by show x%y<_;omega,?_⟩ hlt
  ·show ((g3.set h.length _).set (h.length+1) _)[h.length]?=_
   rw [List.getElem?_set_ne (by omega)];exact set_get i0
  ·show ((g3.set h.length _).set (h.length+1) _)[h.length+2]?=_
   rw [List.getElem?_set_ne (by omega),List.getElem?_set_ne (by omega)];exact i2
  ·show Nat.gcd y (x%y)=_
   rw [←hg,Nat.gcd_comm x y,Nat.gcd_rec y x,Nat.gcd_comm]
 ·have hy:y=0:=by
   apply Classical.byContradiction
   intro hc
   have:=p2.2 (by omega)
   omega
  subst hy
  rw [q68z10,load2 j0]
  simp only [OP_some]
  rw [Nat.gcd_zero_right] at hg
  subst hg
  exact fin2z j2 (hk _ _ (xg.set (by omega) _) (mx.setB j2 _))

theorem C25 {va:Value} {a b:Int} {h:Heap} {K:Value→Heap→Prop} (ha:QZ h va a b) (hb:0<b) (la:a.natAbs<10000^199) (lb:b.natAbs<10000^199)
  (hk:∀r h',EX h h'→QZ h' r (a / (Nat.gcd a.natAbs b.natAbs:Int)) (b / (Nat.gcd a.natAbs b.natAbs:Int))→K r h'):CallP Tryz.prog 25 [va] h K:=by
 obtain ⟨u,w,rfl,hu,hw⟩:=ha
 refine f25 ?_
 have e1:iBox 37 h (.agg #[B (decide (a<0)),u,B (decide (b<0)),w])=some (pt h.length 0,h++[.arr 37 [B (decide (a<0)),u,B (decide (b<0)),w]]):=rfl
 have e2:∀g':Heap,iAlloc 35 [(.bool false),(.slice none 0 0)] g'=some (pt g'.length 0,g'++[.arr 35 [(.bool false),(.slice none 0 0)]]):=fun _=>rfl
 have e4:∀g':Heap,iAlloc 37 [(.bool false),(.slice none 0 0),(.bool false),(.slice none 0 0)] g'=some (pt g'.length 0,g'++[.arr 37 z4]):=fun _=>rfl
 simp only [T25,e1,e4,OH_some,List.length_append,List.length_cons,List.length_nil,Nat.zero_add]
 have k0:(h++[IObj.arr 37 [B (decide (a<0)),u,B (decide (b<0)),w]]++[IObj.arr 37 z4])[h.length]?=some (.arr 37 [B (decide (a<0)),u,B (decide (b<0)),w]):=by simp
 have k1:(h++[IObj.arr 37 [B (decide (a<0)),u,B (decide (b<0)),w]]++[IObj.arr 37 z4])[h.length+1]?=some (.arr 37 z4):=by simp
 have x1:EX h (h++[IObj.arr 37 [B (decide (a<0)),u,B (decide (b<0)),w]]++[IObj.arr 37 z4]):=(EX.append _ _).push _
 generalize h++[IObj.arr 37 [B (decide (a<0)),u,B (decide (b<0)),w]]++[IObj.arr 37 z4]=h1 at k0 k1 x1⊢
 have za:ZV h1 (.agg #[B (decide (a<0)),u]) a:=⟨u,rfl,hu.mono x1⟩
 have zb:ZV h1 (.agg #[B (decide (b<0)),w]) b:=⟨w,rfl,hw.mono x1⟩
 simp only [fadr_pt,Nat.add_zero,Nat.zero_add,load4a k0,load4b k0,OP_some]
 refine C68 za zb la lb ?_
 intro ug h2 x2 mg
 have hgpos:0<Nat.gcd a.natAbs b.natAbs:=Nat.gcd_pos_of_pos_right _ (by omega)
 have hgle:Nat.gcd a.natAbs b.natAbs≤b.natAbs:=Nat.le_of_dvd (by omega) (Nat.gcd_dvd_right _ _)
 generalize Nat.gcd a.natAbs b.natAbs=g at mg hgpos hgle hk
 have zg:=mg.toZ
 simp only [e2,OH_some]
 rw [store2 get_last]
 simp only [OH_some]
 have x3:EX h2 ((h2++[IObj.arr 35 [(.bool false),(.slice none 0 0)]]).set h2.length (.arr 35 [B false,ug])):=EX.set (EX.append _ _) (Nat.le_refl _) _
 have k3:((h2++[IObj.arr 35 [(.bool false),(.slice none 0 0)]]).set h2.length (.arr 35 [B false,ug]))[h2.length]?=some (.arr 35 [B false,ug]):=set_get get_last
 generalize (h2++[IObj.arr 35 [(.bool false),(.slice none 0 0)]]).set h2.length (.arr 35 [B false,ug])=h3 at x3 k3⊢
 have x13:=x2.trans x3
 simp only [EX.load x13 (load4a k0),load2 k3,OP_some]
 have lg:((g:Nat):Int).natAbs<10000^199:=by rw [Int.natAbs_natCast];omega
 refine C69 (za.mono x13) (zg.mono x3) (by omega) la lg ?_
 intro r s h4 x4 zr zs
 obtain ⟨ur,rfl,hur⟩:=id zr
 obtain ⟨us,rfl,hus⟩:=id zs
 simp only [ext_tuple,pair0,pair1,OP_some,e2,OH_some,List.length_append,List.length_cons,List.length_nil,Nat.zero_add]
 have n0:(h4++[IObj.arr 35 [(.bool false),(.slice none 0 0)]]++[IObj.arr 35 [(.bool false),(.slice none 0 0)]])[h4.length]?=some (.arr 35 [(.bool false),(.slice none 0 0)]):=by simp
 have n1:(h4++[IObj.arr 35 [(.bool false),(.slice none 0 0)]]++[IObj.arr 35 [(.bool false),(.slice none 0 0)]])[h4.length+1]?=some (.arr 35 [(.bool false),(.slice none 0 0)]):=by simp
 have y2:EX h4 (h4++[IObj.arr 35 [(.bool false),(.slice none 0 0)]]++[IObj.arr 35 [(.bool false),(.slice none 0 0)]]):=(EX.append _ _).push _
 generalize h4++[IObj.arr 35 [(.bool false),(.slice none 0 0)]]++[IObj.arr 35 [(.bool false),(.slice none 0 0)]]=h5 at n0 n1 y2⊢
 rw [store2 n0]
 simp only [OH_some]
 have n1':(h5.set h4.length (.arr 35 [B (decide (a / (g:Int)<0)),ur]))[h4.length+1]?=some (.arr 35 [(.bool false),(.slice none 0 0)]):=by rw [List.getElem?_set_ne (by omega)];exact n1
 rw [store2 n1']
 simp only [OH_some]
 have y3:EX h4 ((h5.set h4.length (.arr 35 [B (decide (a / (g:Int)<0)),ur])).set (h4.length+1) (.arr 35 [B (decide (a%(g:Int)<0)),us])):=(y2.set (Nat.le_refl _) _).set (by omega) _
 have n0':((h5.set h4.length (.arr 35 [B (decide (a / (g:Int)<0)),ur])).set (h4.length+1) (.arr 35 [B (decide (a%(g:Int)<0)),us]))[h4.length]?=some (.arr 35 [B (decide (a / (g:Int)<0)),ur]):=by rw [List.getElem?_set_ne (by omega)];exact set_get n0
 generalize (h5.set h4.length (.arr 35 [B (decide (a / (g:Int)<0)),ur])).set (h4.length+1) (.arr 35 [B (decide (a%(g:Int)<0)),us])=h6 at y3 n0'⊢
 have x16:=(x13.trans x4).trans y3
 have x36:=x4.trans y3
 simp only [EX.load x16 (load4b k0),EX.load x36 (load2 k3),OP_some]
 refine C69 (zb.mono x16) (zg.mono (x3.trans x36)) (by omega) lb lg ?_
 intro r' s' h7 x7 zr' zs'
 obtain ⟨ur',rfl,hur'⟩:=id zr'
 obtain ⟨us',rfl,hus'⟩:=id zs'
 simp only [ext_tuple,pair0,pair1,OP_some,e2,OH_some,List.length_append,List.length_cons,List.length_nil,Nat.zero_add]
 have m0:(h7++[IObj.arr 35 [(.bool false),(.slice none 0 0)]]++[IObj.arr 35 [(.bool false),(.slice none 0 0)]])[h7.length]?=some (.arr 35 [(.bool false),(.slice none 0 0)]):=by simp
 have m1:(h7++[IObj.arr 35 [(.bool false),(.slice none 0 0)]]++[IObj.arr 35 [(.bool false),(.slice none 0 0)]])[h7.length+1]?=some (.arr 35 [(.bool false),(.slice none 0 0)]):=by simp
 have w2:EX h7 (h7++[IObj.arr 35 [(.bool false),(.slice none 0 0)]]++[IObj.arr 35 [(.bool false),(.slice none 0 0)]]):=(EX.append _ _).push _
 generalize h7++[IObj.arr 35 [(.bool false),(.slice none 0 0)]]++[IObj.arr 35 [(.bool false),(.slice none 0 0)]]=h8 at m0 m1 w2⊢
 rw [store2 m0]
 simp only [OH_some]
 have m1':(h8.set h7.length (.arr 35 [B (decide (b / (g:Int)<0)),ur']))[h7.length+1]?=some (.arr 35 [(.bool false),(.slice none 0 0)]):=by rw [List.getElem?_set_ne (by omega)];exact m1
 rw [store2 m1']
 simp only [OH_some]
 have w3:EX h7 ((h8.set h7.length (.arr 35 [B (decide (b / (g:Int)<0)),ur'])).set (h7.length+1) (.arr 35 [B (decide (b%(g:Int)<0)),us'])):=(w2.set (Nat.le_refl _) _).set (by omega) _
 have m0':((h8.set h7.length (.arr 35 [B (decide (b / (g:Int)<0)),ur'])).set (h7.length+1) (.arr 35 [B (decide (b%(g:Int)<0)),us']))[h7.length]?=some (.arr 35 [B (decide (b / (g:Int)<0)),ur']):=by rw [List.getElem?_set_ne (by omega)];exact set_get m0
 generalize (h8.set h7.length (.arr 35 [B (decide (b / (g:Int)<0)),ur'])).set (h7.length+1) (.arr 35 [B (decide (b%(g:Int)<0)),us'])=h9 at w3 m0'⊢
 have x69:=x7.trans w3
 rw [EX.load x69 (load2 n0'),OP_some,load2 m0',OP_some]
 exact endQ (zr.mono (y3.trans x69)) (zr'.mono w3) (x1.trans (x16.trans x69)) (by omega) ((x16.trans x69).get k1) hk

theorem decS_unique {s:List UInt8} {n:Nat} (hd:digs s) (hv:valB s=n) (hn:0<n) (hh:s.head?≠some 48):s=decS n:=by
 have e1:((s.reverse.map fun c:UInt8=>c.toNat-48).map dch).reverse=s:=by
  rw [List.map_map]
  have:s.reverse.map (dch ∘ fun c:UInt8=>c.toNat-48)=s.reverse:=by
   conv=>rhs;rw [←List.map_id s.reverse]
   apply List.map_congr_left
   intro c hc
   have h1:=hd c (by simpa using hc)
   apply UInt8.toNat_inj.1
   simp only [Function.comp,id]
   rw [dch_toNat (by omega)]
   omega
  rw [this,List.reverse_reverse]
 have hlim:Lim 10 (s.reverse.map fun c:UInt8=>c.toNat-48):=by
  intro x hx
  obtain ⟨c,hc,rfl⟩:=List.mem_map.1 hx
  have h1:=hd c (by simpa using hc)
  omega
 have hval:val 10 (s.reverse.map fun c:UInt8=>c.toNat-48)=n:=by
  rw [←valB_rev hlim,e1,hv]
 have hcan:Canon 10 (s.reverse.map fun c:UInt8=>c.toNat-48):=by
  refine ⟨hlim,?_⟩
  rw [List.getLast?_map,List.getLast?_reverse]
  intro hc
  cases hs:s.head? with
  | none=>rw [hs] at hc;cases hc
  | some c=>
   rw [hs] at hc
   have hc':c.toNat-48=0:=by simpa using hc
   have hmem:c∈s:=List.mem_of_mem_head? hs
   have h1:=hd c hmem
   apply hh
   rw [hs]
   congr 1
   apply UInt8.toNat_inj.1
   show c.toNat=48
   omega
 obtain ⟨d1,d2⟩:=dig10_canon n
 have:=Canon.unique (by decide) hcan d1 (by rw [hval,d2])
 unfold decS
 rw [if_neg (by omega),←this,e1]

end Go.Proofs.YtelmdbpaoifmoaaGreat


namespace Go.Proofs.YtelmdbpaoifmoaaGreat
open Go.Sim

/-- Four digits. -/
def four (d:Nat):List UInt8:=[dch (d / 1000),dch (d / 100%10),dch (d / 10%10),dch (d%10)]

theorem four_digs {d:Nat} (hd:d<10000):digs (four d)∧valB (four d)=d:=by
 have h1:=dch_toNat (d:=d / 1000) (by omega)
 have h2:=dch_toNat (d:=d / 100%10) (by omega)
 have h3:=dch_toNat (d:=d / 10%10) (by omega)
 have h4:=dch_toNat (d:=d%10) (by omega)
 constructor
 ·intro c hc
  simp only [four,List.mem_cons,List.not_mem_nil,or_false] at hc
  rcases hc with rfl | rfl | rfl | rfl <;> omega
 ·simp only [four,valB_cons,h1,h2,h3,h4,List.length_cons,List.length_nil]
  simp only [valB,List.foldl_nil]
  omega

theorem C93 {va:Value} {n:Nat} {h:Heap} {K:Value→Heap→Prop} (ha:ZV h va n) (hn:n<bigW) (hk:∀h',EX h h'→K (S (decS n)) h'):CallP Tryz.prog 93 [va] h K:=by
 obtain ⟨v,rfl,hv⟩:=ha
 rw [Int.natAbs_natCast] at hv
 refine f93 ?_
 have e1:iBox 35 h (.agg #[B (decide ((n:Int)<0)),v])=some (pt h.length 0,h++[.arr 35 [B (decide ((n:Int)<0)),v]]):=rfl
 simp only [T93,e1,OH_some]
 have x1:EX h (h++[IObj.arr 35 [B (decide ((n:Int)<0)),v]]):=EX.append _ _
 have ld:iLoad false 1 (h++[IObj.arr 35 [B (decide ((n:Int)<0)),v]]) (pt h.length 1)=some v:=load_last rfl
 generalize h++[IObj.arr 35 [B (decide ((n:Int)<0)),v]]=h1 at x1 ld⊢
 obtain ⟨xs,dx,cx,vx⟩:=hv.mono x1
 have lx:=canZ_len cx (by rw [vx];exact hn)
 simp only [fadr_pt,Nat.zero_add,ld,OP_some,dx.len,bin_eql,IfP_dec]
 refine ⟨fun h0=>?_,fun hne=>?_⟩
 ·have:xs=[]:=List.length_eq_zero_iff.1 (by omega)
  subst this
  have hn0:n=0:=vx.symm
  subst hn0
  exact hk _ x1
 ·have hx0:0<xs.length:=by omega
  have hnpos:0<n:=by
   apply Classical.byContradiction
   intro hc
   have:=Canon.zero (by decide) cx (by omega)
   rw [this] at hx0
   simp at hx0
  have e2:IntKind.wrap .i64 ((xs.length:Int)-1)=(xs.length:Int)-1:=wrap64 (by omega) (by omega)
  simp only [bin_sub,e2,OP_some]
  refine loopL (σ:=Nat×List UInt8×Heap) (fun p=>[S p.2.1,I ((p.1:Int)-1)]) (fun p=>p.2.2)
   (fun p=>p.1≤xs.length∧EX h1 p.2.2∧digs p.2.1∧valB p.2.1=val 10000 (xs.drop p.1)∧p.2.1.length=4*(xs.length-p.1)) (fun p=>p.1)
   (xs.length,[],h1) rfl rfl ⟨Nat.le_refl _,EX.refl _,fun c hc=>by simp at hc,by simp [valB,val],by simp⟩ ?_
  rintro ⟨i,s,g⟩ ⟨hi,xg,hd,hvs,hsl⟩ L hL
  simp only at hi xg hd hvs hsl hL⊢
  rw [q93z9]
  simp only [bin_geq,OP_some,IfP_dec]
  refine ⟨fun hge=>?_,fun hlt=>?_⟩
  ·obtain ⟨j,rfl⟩:∃j,i=j+1:=⟨i-1,by omega⟩
   have ej:((j+1:Nat):Int)-1=(j:Int):=by omega
   have hjx:j<xs.length:=by omega
   obtain ⟨ia,a1,a2⟩:=(dx.mono xg).get hjx
   have hd4:xs[j]<10000:=cx.1 _ (List.getElem_mem hjx)
   have hvd:=val_drop 10000 xs hjx
   rw [ej]
   generalize hdd:xs[j]=d at a2 hd4 hvd
   simp only [fadr_pt,Nat.zero_add,EX.load xg ld,OP_some,a1,a2]
   rw [show (.int .i64 1000:Value)=.int .i64 ((1000:Nat):Int) from rfl,show (.int .i64 100:Value)=.int .i64 ((100:Nat):Int) from rfl,show (.int .i64 10:Value)=.int .i64 ((10:Nat):Int) from rfl]
   rw [quoI (by decide) (by omega),quoI (b:=100) (by decide) (by omega),quoI (b:=10) (by decide) (by omega)]
   simp only [OP_some]
   rw [rem_nat _ _ _ (by decide),rem_nat _ _ _ (by decide),rem_nat _ _ _ (by decide)]
   have w:∀q:Nat,q<10→IntKind.wrap .i64 (48+(q:Int))=((48+q:Nat):Int):=fun q hq=>by rw [wrap64 (by omega) (by omega)];omega
   have w8:∀q:Nat,q<10→IntKind.wrap .u8 ((48+q:Nat):Int)=((48+q:Nat):Int):=fun q hq=>wrapU8 (by omega) (by omega)
   simp only [OP_some,bin_add,conv_int,w _ (show d / 1000<10 by omega),w8 _ (show d / 1000<10 by omega),w _ (show d / 100%10<10 by omega),w8 _ (show d / 100%10<10 by omega),w _ (show d / 10%10<10 by omega),w8 _ (show d / 10%10<10 by omega),w _ (show d%10<10 by omega),w8 _ (show d%10<10 by omega)]
   rw [cvd (show d / 1000<10 by omega),cvd (show d / 100%10<10 by omega),cvd (show d / 10%10<10 by omega),cvd (show d%10<10 by omega)]
   have mk:iMkSl 5 4 [.int .u8 0] g [(0,1,cv (dch (d / 1000))),(1,1,cv (dch (d / 100%10))),(2,1,cv (dch (d / 10%10))),(3,1,cv (dch (d%10)))]=some (sl 5 g.length 0 4,g++[.arr 5 ((four d).map cv)]):=rfl
   have yg:EX g (g++[IObj.arr 5 ((four d).map cv)]):=EX.append _ _
   have bs:iB2s (g++[IObj.arr 5 ((four d).map cv)]) (sl 5 g.length 0 4)=some (S (four d)):=b2s (b:=g.length) (e:=5) (.inr ⟨g.length,Nat.le_refl _,rfl,get_last⟩)
   obtain ⟨f1,f2⟩:=four_digs hd4
   have f3:(four d).length=4:=rfl
   simp only [mk,OH_some,bs,OP_some]
   rw [bin_addS s (four d) (by rw [f3];unfold maxLen;omega)]
   have ej2:IntKind.wrap .i64 ((j:Int)-1)=(j:Int)-1:=wrap64 (by omega) (by omega)
   simp only [OP_some,bin_sub,ej2,true_and]
   refine hL (j,s++four d,g++[IObj.arr 5 ((four d).map cv)]) ⟨by show j≤xs.length;omega,xg.trans yg,fun c hc=>(List.mem_append.1 hc).elim (hd c) (f1 c),?_,by show (s++four d).length=_;rw [List.length_append,f3];omega⟩ (by show j<j+1;omega)
   show valB (s++four d)=val 10000 (xs.drop j)
   rw [valB_append,f2,f3,hvd,hvs]
   omega
  ·have hi0:i=0:=by omega
   subst hi0
   simp only [List.drop_zero,vx] at hvs
   rw [q93z16]
   refine loopL (σ:=List UInt8) (fun s=>[S s]) (fun _=>g) (fun s=>digs s∧valB s=n∧s.length≤1000) (fun s=>s.length) s rfl rfl ⟨hd,hvs,by omega⟩ ?_
   rintro t ⟨td,tv,tl⟩ L2 hL2
   rw [q93z19]
   cases t with
   | nil=>simp [valB] at tv;omega
   | cons c t=>
    have ix:=idxS_S (a:=c::t) (i:=0) (by simp) .i64
    have ix':iIdxS (S (c::t)) (.int .i64 0)=some (cv c):=ix
    have eq:iBin .eql (cv c) (.int .u8 48)=some (B (decide ((c.toNat:Int)=48))):=rfl
    simp only [ix',OP_some,eq,IfP_dec]
    refine ⟨fun h48=>?_,fun h48=>?_⟩
    ·have slTYPE1:=slS_lo (a:=c::t) (n:=1) (by simp) .i64
     have slTYPE2:iSlS (S (c::t)) (some (.int .i64 1)) none=some (S t):=slTYPE1
     simp only [slTYPE2,OP_some,true_and]
     refine hL2 t ⟨fun x hx=>td x (by simp [hx]),?_,by simp at tl;omega⟩ (by simp)
     rw [valB_cons] at tv
     have:c.toNat-48=0:=by omega
     rw [this] at tv
     omega
    ·rw [q93z23]
     have:=decS_unique td tv hnpos (by
      simp only [List.head?_cons,ne_eq,Option.some.injEq]
      rintro rfl
      exact h48 rfl)
     rw [this]
     exact hk _ (x1.trans xg)

end Go.Proofs.YtelmdbpaoifmoaaGreat


namespace Go.Proofs.YtelmdbpaoifmoaaGreat
open Go.Sim

theorem word_big {b:Nat} (h:b<4294967296):b<bigW:=lt_bigW (Nat.lt_of_lt_of_le h (by decide))

theorem sgn_neg {a b:Nat}:sgn a b<0↔a<b:=by
 unfold sgn
 constructor
 ·intro h
  apply Classical.byContradiction
  intro hn
  rw [if_neg hn] at h
  split at h <;> omega
 ·intro h;rw [if_pos h];decide

theorem C130 {va vb:Value} {a b:Nat} {h:Heap} {K:Value→Heap→Prop} (ha:MagV h va a) (hb:MagV h vb b) (la:a<bigW) (b0:0<b) (lb:b<4294967296) (hk:∀q r h',EX h h'→MagV h' q (a / b)→MagV h' r (a%b)→K (.tuple #[q,r]) h'):
  CallP Tryz.prog 130 [va,vb] h K:=by
 refine f130 ?_
 unfold T130
 refine C126 ha hb la (word_big lb) ?_
 simp only [bin_lss,OP_some,IfP_dec]
 refine ⟨fun hlt=>?_,fun hge=>?_⟩
 ·have hab:=sgn_neg.1 hlt
  have ha0:=ha
  obtain ⟨xs,d,c,rfl⟩:=ha
  obtain ⟨s1,s2⟩:=d.cells
  have lx:=canW_len c la
  have hq:∀g,MagV g (.slice none 0 0) (val 4294967296 xs / b):=fun g=>⟨[],DS.nil _ _ _,⟨fun x hx=>by simp at hx,by simp⟩,by rw [Nat.div_eq_of_lt hab];rfl⟩
  by_cases h0:xs.length=0
  ·have e:iApp 177 1 4 h (.slice none 0 0) va=some (.slice none 0 0,h):=by
    simp only [iApp,s1,s2]
    rw [if_pos h0]
   simp only [e,OH_some]
   have:xs=[]:=List.length_eq_zero_iff.1 h0
   subst this
   exact hk _ _ h (EX.refl h) (hq h) ⟨[],DS.nil _ _ _,c,by rw [Nat.mod_eq_of_lt hab]⟩
  ·have e:iApp 177 1 4 h (.slice none 0 0) va=some (sl 177 h.length 0 xs.length,h++[.arr 177 (xs.map fun d:Nat=>Value.int .u32 (d:Int))]):=by
    simp only [iApp,s1,s2]
    rw [if_neg h0,if_pos ⟨by omega,by unfold maxLen;omega⟩]
   simp only [e,OH_some]
   refine hk _ _ _ (EX.append _ _) (hq _) ⟨xs,.inr ⟨h.length,rfl,.inr ⟨[],?_⟩⟩,c,by rw [Nat.mod_eq_of_lt hab]⟩
   simp [objCells]
 ·have hab:b≤a:=by
   apply Classical.byContradiction
   intro hc
   exact hge (sgn_neg.2 (by omega))
  obtain ⟨ys,d,c,hy⟩:=id hb
  have hlen:ys.length=1:=by
   have h1:ys.length≤1:=c.len (k:=1) (by decide) (by rw [hy];simpa using lb)
   have h2:ys≠[]:=by rintro rfl;simp [val] at hy;omega
   have:0<ys.length:=List.length_pos_iff.2 h2
   omega
  obtain ⟨y,rfl⟩:∃y,ys=[y]:=by
   match ys,hlen with
   | [y],_=>exact ⟨y,rfl⟩
  have hyb:y=b:=by simpa [val] using hy
  subst hyb
  obtain ⟨i,g1,g2⟩:=d.get (j:=0) (by simp)
  have g1':iAdrSl 1 vb (.int .i64 (0))=some (pt i 0):=g1
  have lenb:iLenSl vb=some (I 1):=d.len
  simp only [lenb,OP_some,bin_eql,decide_true,IfP_true,g1',g2,List.getElem_cons_zero]
  refine C114 ha la b0 lb ?_
  intro q h2 x2 hq
  have mk:∀(g:Heap) (r:Nat),iMkSl 177 1 [(.int .u32 (0))] g [(0,1,.int .u32 (r:Int))]=some (sl 177 g.length 0 1,g++[.arr 177 [.int .u32 (r:Int)]]):=fun _ _=>rfl
  simp only [ext_tuple,pair0,pair1,OP_some,mk,OH_some]
  have x3:EX h2 (h2++[.arr 177 [.int .u32 ((a%y:Nat):Int)]]):=EX.append _ _
  have dr:DS 177 .u32 (h2++[.arr 177 [.int .u32 ((a%y:Nat):Int)]]) (sl 177 h2.length 0 1) [a%y]:=.inr ⟨h2.length,rfl,.inr ⟨[],by simp [objCells]⟩⟩
  have hm:a%y<y:=Nat.mod_lt _ b0
  refine C118 dr (fun x hx=>by rw [List.mem_singleton.1 hx];omega) (by simp) ?_
  intro v' hv'
  have e:val 4294967296 [a%y]=a%y:=by simp [val]
  rw [e] at hv'
  exact hk _ _ _ (x2.trans x3) (hq.mono x3) hv'

theorem C109 {va:Value} {a:Int} {h:Heap} {K:Value→Heap→Prop} (ha:IntV h va a) (hk:∀h',EX h h'→K (I (if a=0 then 0 else if a<0 then -1 else 1)) h'):CallP Tryz.prog 109 [va] h K:=by
 obtain ⟨v,rfl,hv⟩:=ha
 refine f109 ?_
 have e1:iBox 105 h (.agg #[B (decide (a<0)),v])=some (pt h.length 0,h++[.arr 105 [B (decide (a<0)),v]]):=rfl
 have x1:EX h (h++[.arr 105 [B (decide (a<0)),v]]):=EX.append _ _
 have l1:iLoad false 1 (h++[IObj.arr 105 [B (decide (a<0)),v]]) (pt h.length 1)=some v:=load_last rfl
 have l0:iLoad false 1 (h++[IObj.arr 105 [B (decide (a<0)),v]]) (pt h.length 0)=some (B (decide (a<0))):=load_last rfl
 obtain ⟨l,e2,e3⟩:=hv.len0
 simp only [T109,e1,OH_some,fadr_pt,Nat.zero_add,Nat.add_zero,OP_some,l1,l0,e2,bin_eql,IfP_dec]
 refine ⟨fun hz=>?_,fun hz=>⟨fun hn=>?_,fun hn=>?_⟩⟩
 ·have:=hk _ x1
  rw [if_pos (by omega)] at this
  exact this
 ·have:=hk _ x1
  rw [if_neg (by omega),if_pos hn] at this
  exact this
 ·have:=hk _ x1
  rw [if_neg (by omega),if_neg hn] at this
  exact this

theorem C111 {va vb:Value} {a b:Int} {h:Heap} {K:Value→Heap→Prop} (ha:IntV h va a) (hb:IntV h vb b) (la:a.natAbs<bigW) (lb:b.natAbs<bigW) (hk:∀h',EX h h'→K (I (if a-b=0 then 0 else if a-b<0 then -1 else 1)) h'):CallP Tryz.prog 111 [va,vb] h K:=by
 have ha0:=ha
 have hb0:=hb
 obtain ⟨v,rfl,hv⟩:=ha
 obtain ⟨w,rfl,hw⟩:=hb
 refine f111 ?_
 have e1:∀(g:Heap) (s:Bool) (v:Value),iBox 105 g (.agg #[B s,v])=some (pt g.length 0,g++[.arr 105 [B s,v]]):=fun _ _ _=>rfl
 simp only [T111,e1,OH_some]
 have g0:(h++[IObj.arr 105 [B (decide (a<0)),v]]++[IObj.arr 105 [B (decide (b<0)),w]])[h.length]?=some (.arr 105 [B (decide (a<0)),v]):=by simp
 have g1:(h++[IObj.arr 105 [B (decide (a<0)),v]]++[IObj.arr 105 [B (decide (b<0)),w]])[(h++[IObj.arr 105 [B (decide (a<0)),v]]).length]?=some (.arr 105 [B (decide (b<0)),w]):=get_last
 have x1:EX h (h++[IObj.arr 105 [B (decide (a<0)),v]]++[IObj.arr 105 [B (decide (b<0)),w]]):=(EX.append _ _).push _
 generalize h++[IObj.arr 105 [B (decide (a<0)),v]]++[IObj.arr 105 [B (decide (b<0)),w]]=h1 at g0 g1 x1⊢
 rw [load2 g0,load2 g1]
 simp only [OP_some]
 refine C127 (ha0.mono x1) (hb0.mono x1) la lb ?_
 intro r h2 x2 hr
 exact C109 hr fun h3 x3=>hk h3 (x1.trans (x2.trans x3))

theorem IntV.nat {h:Heap} {v:Value} {n:Nat} (p:MagV h v n):IntV h (.agg #[B false,v]) (n:Int):=⟨v,by rw [decide_eq_false (by omega)],by rwa [Int.natAbs_natCast]⟩

end Go.Proofs.YtelmdbpaoifmoaaGreat


namespace Go.Sim

theorem val_two {B:Nat} {xs:List Nat} (h:Lim B xs) {n:Nat} (hn:xs.length=n+2):∃l,l<B^n∧val B xs=l+(xs[n]+xs[n+1]*B)*B^n:=by
 refine ⟨val B (xs.take n),?_,?_⟩
 ·have:=val_lt (xs:=xs.take n) (h.mono fun y hy=>List.mem_of_mem_take hy)
  rwa [List.length_take,Nat.min_eq_left (by omega)] at this
 ·have h1:=val_take_succ B xs (i:=n) (by omega)
  have h2:=val_take_succ B xs (i:=n+1) (by omega)
  rw [List.take_of_length_le (by omega),h1] at h2
  rw [h2,Nat.pow_succ]
  generalize B^n=P
  grind

theorem val_three {B:Nat} {xs:List Nat} (h:Lim B xs) {n:Nat} (hn:xs.length=n+3):∃l,l<B^n∧val B xs=l+(xs[n]+(xs[n+1]+xs[n+2]*B)*B)*B^n:=by
 refine ⟨val B (xs.take n),?_,?_⟩
 ·have:=val_lt (xs:=xs.take n) (h.mono fun y hy=>List.mem_of_mem_take hy)
  rwa [List.length_take,Nat.min_eq_left (by omega)] at this
 ·have h1:=val_take_succ B xs (i:=n) (by omega)
  have h2:=val_take_succ B xs (i:=n+1) (by omega)
  have h3:=val_take_succ B xs (i:=n+2) (by omega)
  rw [List.take_of_length_le (by omega),h2,h1] at h3
  rw [h3,show B^(n+2)=B^n*B*B from by rw [Nat.pow_succ,Nat.pow_succ],Nat.pow_succ]
  generalize B^n=P
  grind

def mid (us:List Nat) (j:Nat) (xs:List Nat):List Nat:=us.take j++(xs++us.drop (j+xs.length))

theorem mid_len {us:List Nat} {j:Nat} {xs:List Nat} (h:j+xs.length≤us.length):(mid us j xs).length=us.length:=by
 unfold mid
 simp only [List.length_append,List.length_take,List.length_drop]
 omega

theorem mid_get {us:List Nat} {j k:Nat} {xs:List Nat} (hj:j≤us.length) (h:xs.length≤k):(mid us j xs)[j+k]?=us[j+k]?:=by
 unfold mid
 rw [List.getElem?_append_right (by rw [List.length_take];omega),List.length_take,Nat.min_eq_left hj,Nat.add_sub_cancel_left,List.getElem?_append_right h,List.getElem?_drop]
 congr 1
 omega

theorem mid_new {us:List Nat} {j k:Nat} {xs:List Nat} (hj:j≤us.length) (h:k<xs.length):(mid us j xs)[j+k]?=xs[k]?:=by
 unfold mid
 rw [List.getElem?_append_right (by rw [List.length_take];omega),List.length_take,Nat.min_eq_left hj,Nat.add_sub_cancel_left,List.getElem?_append_left h]

theorem mid_set {us:List Nat} {j d:Nat} {xs:List Nat} (h:j+xs.length<us.length):(mid us j xs).set (j+xs.length) d=mid us j (xs++[d]):=by
 unfold mid
 rw [List.set_append_right _ _ (by rw [List.length_take];omega),List.length_take,Nat.min_eq_left (by omega),Nat.add_sub_cancel_left,List.set_append_right _ _ (Nat.le_refl _),Nat.sub_self,List.drop_eq_getElem_cons h,List.set_cons_zero,List.length_append,List.append_assoc]
 rfl

theorem mid_nil (us:List Nat) (j:Nat):mid us j []=us:=by unfold mid;simp

theorem mid_mid {us:List Nat} {j:Nat} {xs ys:List Nat} (hj:j+xs.length≤us.length) (h:ys.length=xs.length):mid (mid us j xs) j ys=mid us j ys:=by
 unfold mid
 have e1:(us.take j++(xs++us.drop (j+xs.length))).take j=us.take j:=by
  rw [List.take_append_of_le_length (by rw [List.length_take];omega),List.take_take,Nat.min_self]
 have e2:(us.take j++(xs++us.drop (j+xs.length))).drop (j+ys.length)=us.drop (j+ys.length):=by
  rw [h,←List.append_assoc,List.drop_append_of_le_length (by rw [List.length_append,List.length_take];omega),List.drop_eq_nil_of_le (by rw [List.length_append,List.length_take];omega),List.nil_append]
 rw [e1,e2]

section
variable {B P U V ul vl u2 v2 top v1 : Nat}

theorem guess_first (hU:U=ul+(u2+top*B)*P) (hul:ul<P) (hu2:u2<B) (hV:V=vl+(v2+v1*B)*P) (h1:0<v1):U / V≤top / v1:=by
 rw [Nat.le_div_iff_mul_le h1]
 have h2:U / V*V≤U:=Nat.div_mul_le_self U V
 generalize U / V=q at*
 apply Classical.byContradiction
 intro hn
 have h3:top+1≤q*v1:=by omega
 have h4:(top+1)*(B*P)≤q*v1*(B*P):=Nat.mul_le_mul_right _ h3
 have h5:q*v1*(B*P)≤q*V:=by
  rw [hV]
  have:q*(vl+(v2+v1*B)*P)=q*v1*(B*P)+q*(vl+v2*P):=by grind
  omega
 have h6:U<(top+1)*(B*P):=by
  have e1:(top+1)*(B*P)=top*B*P+B*P:=by grind
  have e2:(u2+top*B)*P=u2*P+top*B*P:=by grind
  have e3:(u2+1)*P≤B*P:=Nat.mul_le_mul_right _ (by omega)
  have e4:(u2+1)*P=u2*P+P:=by grind
  omega
 omega

theorem guess_down {g r:Nat} (hU:U=ul+(u2+top*B)*P) (hul:ul<P) (hV:V=vl+(v2+v1*B)*P) (hUV:U<V*B) (hg:g*v1+r=top) (hq:U / V≤g) (hbad:B≤g∨r*B+u2<g*v2):U / V+1≤g:=by
 have hV0:0<V:=by
  apply Nat.pos_of_ne_zero
  intro e
  rw [e] at hUV
  omega
 have hqB:U / V<B:=by rw [Nat.div_lt_iff_lt_mul hV0,Nat.mul_comm];exact hUV
 rcases hbad with hb | hb
 ·omega
 have h2:U / V*V≤U:=Nat.div_mul_le_self U V
 generalize U / V=q at*
 apply Classical.byContradiction
 intro hn
 have hqg:q=g:=by omega
 subst hqg
 have h3:q*((v2+v1*B)*P)≤q*V:=by rw [hV];exact Nat.mul_le_mul_left _ (by omega)
 have h4:q*(v2+v1*B)*P<(u2+top*B+1)*P:=by
  have e1:q*((v2+v1*B)*P)=q*(v2+v1*B)*P:=by grind
  have e2:(u2+top*B+1)*P=(u2+top*B)*P+P:=by grind
  omega
 have h5:q*(v2+v1*B)<u2+top*B+1:=Nat.lt_of_mul_lt_mul_right h4
 rw [←hg] at h5
 have e3:q*(v2+v1*B)=q*v2+q*v1*B:=by grind
 have e4:(q*v1+r)*B=q*v1*B+r*B:=by grind
 omega

theorem guess_last {g r:Nat} (hU:U=ul+(u2+top*B)*P) (hV:V=vl+(v2+v1*B)*P) (hvl:vl<P) (h1:0<v1) (hg:g*v1+r=top) (hgB:g<B) (hok:g*v2≤r*B+u2):g*V<U+V:=by
 have e1:g*V=g*vl+(g*v2+g*v1*B)*P:=by rw [hV];grind
 have e2:top*B=g*v1*B+r*B:=by rw [←hg];grind
 have e3:(g*v2+g*v1*B)*P≤(u2+top*B)*P:=Nat.mul_le_mul_right _ (by omega)
 have e4:g*vl<V:=by
  have a1:g*vl≤g*P:=Nat.mul_le_mul_left _ (by omega)
  have hP:0<P:=by omega
  have a2:g*P<B*P:=Nat.mul_lt_mul_of_pos_right hgB hP
  have a3:B*P≤v1*B*P:=by
   have:1*(B*P)≤v1*(B*P):=Nat.mul_le_mul_right _ h1
   rw [Nat.mul_assoc]
   omega
  have a4:(v2+v1*B)*P=v2*P+v1*B*P:=by grind
  omega
 omega

theorem top_small {un w:Nat} (hB:0<B) (hU:U=ul+(u2+top*B)*P) (htop:top=w+un*B) (hV:V=vl+(v2+v1*B)*P) (hvl:vl<P) (hv2:v2<B) (hUV:U<V*B):un≤v1:=by

 apply Classical.byContradiction
 intro hn
 have h1:(v1+1)*(B*P)*B≤un*(B*P)*B:=Nat.mul_le_mul_right _ (Nat.mul_le_mul_right _ (by omega))
 have h2:un*(B*P)*B≤U:=by
  rw [hU,htop]
  have:(u2+(w+un*B)*B)*P=(u2+w*B)*P+un*(B*P)*B:=by grind
  omega
 have h3:V<(v1+1)*(B*P):=by
  have e1:(v1+1)*(B*P)=v1*B*P+B*P:=by grind
  have e2:(v2+v1*B)*P=v2*P+v1*B*P:=by grind
  have e3:(v2+1)*P≤B*P:=Nat.mul_le_mul_right _ (by omega)
  have e4:(v2+1)*P=v2*P+P:=by grind
  omega
 have h4:V*B<(v1+1)*(B*P)*B:=Nat.mul_lt_mul_of_pos_right h3 hB
 omega

end
end Go.Sim


namespace Go.Proofs.YtelmdbpaoifmoaaGreat
open Go.Sim
variable (P : Program) (K : VK)
/-! F135: math/bits.LeadingZeros32 -/
noncomputable section
variable (x0 : Value) (h : Heap)
def oc135:=compFn Tryz.prog 135 [[],[]]
@[irreducible] def c135:=icOf oc135
theorem k135:oc135=some (6,c135,[.tmp 2]):=by kernel_rfl
def T135:Prop:=
 CallP P 141 [x0] h fun x4 h_1=>
 OP (iBin .sub (.int .i64 (32)) x4) fun x5=>
 K x5 h_1
theorem e135:iwpP P c135 (bodyP [.tmp 2] K) (frame0 [x0]) h=T135 P K x0 h:=by kernel_rfl
theorem f135 {K:VK} {x0:Value} {h:Heap} (H:T135 Tryz.prog K x0 h):CallP Tryz.prog 135 [x0] h K:=
 callP_intro k135 (Nat.le_of_ble_eq_true rfl) ((e135 Tryz.prog K x0 h).mpr H)
end
/-! F136: pommel/num.up -/
noncomputable section
variable (x0 n1 x5 x13 x14 x15 : Value) (L1 : LQ) (xs : List Value) (h : Heap)
def oc136:=compFn Tryz.prog 136 [[],[],[],[1,5,13,14],[15],[],[],[],[],[],[],[5],[]]
@[irreducible] def c136:=icOf oc136
@[irreducible] def c136z6:=c136.r.r.l.r.l.l
@[irreducible] def c136z3:=c136.r.r.r
@[irreducible] def c136z14:=c136z3.l
theorem k136:oc136=some (41,c136,[.tmp 4]):=by kernel_rfl
def K136z0 (_P:Program) (K:VK):Kont:=bodyP [.tmp 4] K
def K136z3:Kont:=thenK (iwpP P c136z3 (K136z0 P K)) (K136z0 P K)
def K136z5:Kont:=inBlockK 0 (K136z3 P K)
def K136z6:Kont:=thenK (fun f' h''=>(([1,5,13,14]:List Nat).map f':List Value)=[n1,x5,x13,x14]∧L1 (([15]:List Nat).map f') h'') (K136z5 P K)
def p136z6:Prop:=CutP (iwpP P c136z6 (K136z6 P K n1 x5 x13 x14 L1)) ([1,5,13,14]++[15]) ([n1,x5,x13,x14]++xs) h
def p136z14:Prop:=CutP (iwpP P c136z14 (K136z0 P K)) [5] [x5] h
theorem q136z6 (n1 x5 x13 x14:Value) (L1:LQ) (x15:Value) (h:Heap):p136z6 P K n1 x5 x13 x14 L1 [x15] h=
 (OP (iBin .lss x15 x14) fun x16=>
 IfP x16
 (OP (iAdrSl 1 x13 x15) fun x18=>
 OP (iLoad false 1 h x18) fun x19=>
 OP (iConv .u64 x19) fun x21=>
 OP (iBin .shl x21 n1) fun x23=>
 OP (iAdrSl 1 x5 x15) fun x26=>
 OP (iLoad false 1 h x26) fun x27=>
 OP (iConv .u32 x23) fun x29=>
 OP (iBin .or x27 x29) fun x30=>
 OP (iAdrSl 1 x5 x15) fun x31=>
 OH (oStore 1 h x31 x30) fun _ h_1=>
 OP (iBin .add x15 (.int .i64 (1))) fun x34=>
 OP (iBin .shr x23 (.int .u64 (32))) fun x36=>
 OP (iConv .u32 x36) fun x37=>
 OP (iAdrSl 1 x5 x34) fun x38=>
 OH (oStore 1 h_1 x38 x37) fun _ h_2=>
 OP (iBin .add x15 (.int .i64 (1))) fun x39=>
 ([n1,x5,x13,x14]:List Value)=[n1,x5,x13,x14]∧L1 [x39] h_2)
 (p136z14 P K x5 h)):=cdt (by kernel_rfl)
theorem q136z14:p136z14 P K x5 h=
 (K x5 h):=cdt (by kernel_rfl)
def T136:Prop:=
 OP (iLenSl x0) fun x10=>
 OP (iBin .add x10 (.int .i64 (1))) fun x11=>
 OH (iMake 177 4 [(.int .u32 (0))] h x11 x11) fun x12 h_1=>
 OP (iLenSl x0) fun x14=>
 LoopP [(.int .i64 (0))] h_1 fun L1 xs hx=>
 p136z6 P K n1 x12 x0 x14 L1 xs hx
theorem e136:iwpP P c136 (bodyP [.tmp 4] K) (frame0 [x0,n1]) h=T136 P K x0 n1 h:=by kernel_rfl
theorem f136 {K:VK} {x0 n1:Value} {h:Heap} (H:T136 Tryz.prog K x0 n1 h):CallP Tryz.prog 136 [x0,n1] h K:=
 callP_intro k136 (Nat.le_of_ble_eq_true rfl) ((e136 Tryz.prog K x0 n1 h).mpr H)
end
/-! F137: pommel/num.digit -/
noncomputable section
variable (u0 v1 n5 x7 x8 x9 x10 x13 x83 x84 x132 x133 : Value) (L1 : LQ) (xs : List Value) (h : Heap)
def oc137:=compFn Tryz.prog 137 [[],[],[],[],[0,1,5],[7,8],[],[],[],[],[],[0,1,5,7],[],[],[0,1,5,7,83],[9,10,84],[],[],[],[],[],[],[0,1,5,7,9,10],[],[],[],[],[],[0,1,5,7,132],[13,133],[],[],[],[],[0,5,7,13],[7],[]]
@[irreducible] def c137:=icOf oc137
@[irreducible] def c137z7:=c137.r.r.r.r.l.l.l
@[irreducible] def c137z5:=c137.r.r.r.r.r
@[irreducible] def c137z14:=c137z5.l
@[irreducible] def c137z19:=c137z14.r.l.r.l.l
@[irreducible] def c137z16:=c137z14.r.r
@[irreducible] def c137z27:=c137z16.l
@[irreducible] def c137z36:=c137z27.r.l.r.l.r.r.l.r.l.l
@[irreducible] def c137z33:=c137z27.r.l.r.l.r.r.r
@[irreducible] def c137z29:=c137z27.r.r
@[irreducible] def c137z42:=c137z33.l
@[irreducible] def c137z43:=c137z29.l
theorem k137:oc137=some (162,c137,[.tmp 4]):=by kernel_rfl
def K137z0 (_P:Program) (K:VK):Kont:=bodyP [.tmp 4] K
def K137z5:Kont:=thenK (iwpP P c137z5 (K137z0 P K)) (K137z0 P K)
def K137z6:Kont:=inBlockK 0 (K137z5 P K)
def K137z7:Kont:=thenK (fun f' h''=>(([0,1,5]:List Nat).map f':List Value)=[u0,v1,n5]∧L1 (([7,8]:List Nat).map f') h'') (K137z6 P K)
def K137z16:Kont:=thenK (iwpP P c137z16 (K137z0 P K)) (K137z0 P K)
def K137z18:Kont:=inBlockK 2 (K137z16 P K)
def K137z19:Kont:=thenK (fun f' h''=>(([0,1,5,7,83]:List Nat).map f':List Value)=[u0,v1,n5,x7,x83]∧L1 (([9,10,84]:List Nat).map f') h'') (K137z18 P K)
def K137z29:Kont:=thenK (iwpP P c137z29 (K137z0 P K)) (K137z0 P K)
def K137z33:Kont:=thenK (iwpP P c137z33 (K137z29 P K)) (K137z29 P K)
def K137z35:Kont:=inBlockK 4 (K137z33 P K)
def K137z36:Kont:=thenK (fun f' h''=>(([0,1,5,7,132]:List Nat).map f':List Value)=[u0,v1,n5,x7,x132]∧L1 (([13,133]:List Nat).map f') h'') (K137z35 P K)
def p137z7:Prop:=CutP (iwpP P c137z7 (K137z7 P K u0 v1 n5 L1)) ([0,1,5]++[7,8]) ([u0,v1,n5]++xs) h
def p137z14:Prop:=CutP (iwpP P c137z14 (K137z0 P K)) [0,1,5,7] [u0,v1,n5,x7] h
def p137z19:Prop:=CutP (iwpP P c137z19 (K137z19 P K u0 v1 n5 x7 x83 L1)) ([0,1,5,7,83]++[9,10,84]) ([u0,v1,n5,x7,x83]++xs) h
def p137z27:Prop:=CutP (iwpP P c137z27 (K137z0 P K)) [0,1,5,7,9,10] [u0,v1,n5,x7,x9,x10] h
def p137z36:Prop:=CutP (iwpP P c137z36 (K137z36 P K u0 v1 n5 x7 x132 L1)) ([0,1,5,7,132]++[13,133]) ([u0,v1,n5,x7,x132]++xs) h
def p137z42:Prop:=CutP (iwpP P c137z42 (K137z29 P K)) [0,5,7,13] [u0,n5,x7,x13] h
def p137z43:Prop:=CutP (iwpP P c137z43 (K137z0 P K)) [7] [x7] h
theorem q137z7 (u0 v1 n5:Value) (L1:LQ) (x7 x8:Value) (h:Heap):p137z7 P K u0 v1 n5 L1 [x7,x8] h=
 (OP (iBin .shr x7 (.int .u64 (32))) fun x47=>
 OP (iBin .gtr x47 (.int .u64 (0))) fun x48=>
 GdP x48 false
 (OP (iBin .sub n5 (.int .i64 (2))) fun x53=>
 OP (iAdrSl 1 v1 x53) fun x54=>
 OP (iLoad false 1 h x54) fun x55=>
 (True)∧
 OP (iConv .u64 x55) fun x56=>
 OP (iBin .mul x7 x56) fun x57=>
 OP (iBin .shl x8 (.int .u64 (32))) fun x59=>
 OP (iBin .sub n5 (.int .i64 (2))) fun x62=>
 OP (iAdrSl 1 u0 x62) fun x63=>
 OP (iLoad false 1 h x63) fun x64=>
 (True)∧
 OP (iConv .u64 x64) fun x65=>
 OP (iBin .or x59 x65) fun x66=>
 OP (iBin .gtr x57 x66) fun x67=>
 OP (iPick x48 (.bool true) x67) fun x68=>
 IfP x68
 (OP (iBin .sub x7 (.int .u64 (1))) fun x70=>
 OP (iBin .sub n5 (.int .i64 (1))) fun x74=>
 OP (iAdrSl 1 v1 x74) fun x75=>
 OP (iLoad false 1 h x75) fun x76=>
 OP (iConv .u64 x76) fun x77=>
 OP (iBin .add x8 x77) fun x78=>
 OP (iBin .shr x78 (.int .u64 (32))) fun x80=>
 OP (iBin .gtr x80 (.int .u64 (0))) fun x81=>
 IfP x81
 (p137z14 P K u0 v1 n5 x70 h)
 (([u0,v1,n5]:List Value)=[u0,v1,n5]∧L1 [x70,x78] h))
 (p137z14 P K u0 v1 n5 x7 h))
 (OP (iPick x48 (.bool true) undef) fun x68=>
 IfP x68
 (OP (iBin .sub x7 (.int .u64 (1))) fun x70=>
 OP (iBin .sub n5 (.int .i64 (1))) fun x74=>
 OP (iAdrSl 1 v1 x74) fun x75=>
 OP (iLoad false 1 h x75) fun x76=>
 OP (iConv .u64 x76) fun x77=>
 OP (iBin .add x8 x77) fun x78=>
 OP (iBin .shr x78 (.int .u64 (32))) fun x80=>
 OP (iBin .gtr x80 (.int .u64 (0))) fun x81=>
 IfP x81
 (p137z14 P K u0 v1 n5 x70 h)
 (([u0,v1,n5]:List Value)=[u0,v1,n5]∧L1 [x70,x78] h))
 (p137z14 P K u0 v1 n5 x7 h))):=cdt (by kernel_rfl)
theorem q137z19 (u0 v1 n5 x7 x83:Value) (L1:LQ) (x9 x10 x84:Value) (h:Heap):p137z19 P K u0 v1 n5 x7 x83 L1 [x9,x10,x84] h=
 (OP (iBin .lss x84 x83) fun x85=>
 IfP x85
 (OP (iAdrSl 1 v1 x84) fun x90=>
 OP (iLoad false 1 h x90) fun x91=>
 OP (iConv .u64 x91) fun x92=>
 OP (iBin .mul x7 x92) fun x93=>
 OP (iBin .add x93 x9) fun x95=>
 OP (iBin .shr x95 (.int .u64 (32))) fun x97=>
 OP (iAdrSl 1 u0 x84) fun x103=>
 OP (iLoad false 1 h x103) fun x104=>
 OP (iConv .u32 x95) fun x106=>
 CallP P 134 [x104,x106,x10] h fun x108 h_1=>
 OP (iExt 0 x108) fun x109=>
 OP (iExt 1 x108) fun x110=>
 OP (iAdrSl 1 u0 x84) fun x111=>
 OH (oStore 1 h_1 x111 x109) fun _ h_2=>
 OP (iBin .add x84 (.int .i64 (1))) fun x112=>
 ([u0,v1,n5,x7,x83]:List Value)=[u0,v1,n5,x7,x83]∧L1 [x97,x110,x112] h_2)
 (p137z27 P K u0 v1 n5 x7 x9 x10 h)):=cdt (by kernel_rfl)
theorem q137z36 (u0 v1 n5 x7 x132:Value) (L1:LQ) (x13 x133:Value) (h:Heap):p137z36 P K u0 v1 n5 x7 x132 L1 [x13,x133] h=
 (OP (iBin .lss x133 x132) fun x134=>
 IfP x134
 (OP (iAdrSl 1 u0 x133) fun x141=>
 OP (iLoad false 1 h x141) fun x142=>
 (True)∧
 OP (iAdrSl 1 v1 x133) fun x145=>
 OP (iLoad false 1 h x145) fun x146=>
 (True)∧
 CallP P 133 [x142,x146,x13] h fun x148 h_1=>
 (True)∧
 OP (iExt 0 x148) fun x149=>
 OP (iExt 1 x148) fun x150=>
 OP (iAdrSl 1 u0 x133) fun x151=>
 OH (oStore 1 h_1 x151 x149) fun _ h_2=>
 (True)∧
 OP (iBin .add x133 (.int .i64 (1))) fun x152=>
 ([u0,v1,n5,x7,x132]:List Value)=[u0,v1,n5,x7,x132]∧L1 [x150,x152] h_2)
 (p137z42 P K u0 n5 x7 x13 h)):=cdt (by kernel_rfl)
theorem q137z42:p137z42 P K u0 n5 x7 x13 h=
 (OP (iAdrSl 1 u0 n5) fun x155=>
 OP (iLoad false 1 h x155) fun x156=>
 OP (iBin .add x156 x13) fun x158=>
 OP (iAdrSl 1 u0 n5) fun x159=>
 OH (oStore 1 h x159 x158) fun _ h_1=>
 p137z43 P K x7 h_1):=cdt (by kernel_rfl)
theorem q137z43:p137z43 P K x7 h=
 (OP (iConv .u32 x7) fun x161=>
 K x161 h):=cdt (by kernel_rfl)
theorem q137z27:p137z27 P K u0 v1 n5 x7 x9 x10 h=
 (OP (iAdrSl 1 u0 n5) fun x118=>
 OP (iLoad false 1 h x118) fun x119=>
 OP (iConv .u32 x9) fun x121=>
 CallP P 134 [x119,x121,x10] h fun x123 h_1=>
 OP (iExt 0 x123) fun x124=>
 OP (iExt 1 x123) fun x125=>
 OP (iAdrSl 1 u0 n5) fun x126=>
 OH (oStore 1 h_1 x126 x124) fun _ h_2=>
 OP (iBin .gtr x125 (.int .u32 (0))) fun x128=>
 IfP x128
 (OP (iBin .sub x7 (.int .u64 (1))) fun x130=>
 OP (iLenSl v1) fun x132=>
 LoopP [(.int .u32 (0)),(.int .i64 (0))] h_2 fun L1 xs hx=>
 p137z36 P K u0 v1 n5 x130 x132 L1 xs hx)
 (p137z43 P K x7 h_2)):=cdt (by kernel_rfl)
theorem q137z14:p137z14 P K u0 v1 n5 x7 h=
 (OP (iLenSl v1) fun x83=>
 LoopP [(.int .u64 (0)),(.int .u32 (0)),(.int .i64 (0))] h fun L1 xs hx=>
 p137z19 P K u0 v1 n5 x7 x83 L1 xs hx):=cdt (by kernel_rfl)
def T137:Prop:=
 OP (iLenSl v1) fun x16=>
 OP (iAdrSl 1 u0 x16) fun x19=>
 OP (iLoad false 1 h x19) fun x20=>
 (True)∧
 OP (iConv .u64 x20) fun x21=>
 OP (iBin .shl x21 (.int .u64 (32))) fun x22=>
 OP (iBin .sub x16 (.int .i64 (1))) fun x25=>
 OP (iAdrSl 1 u0 x25) fun x26=>
 OP (iLoad false 1 h x26) fun x27=>
 (True)∧
 OP (iConv .u64 x27) fun x28=>
 OP (iBin .or x22 x28) fun x29=>
 OP (iBin .sub x16 (.int .i64 (1))) fun x33=>
 OP (iAdrSl 1 v1 x33) fun x34=>
 OP (iLoad false 1 h x34) fun x35=>
 (True)∧
 OP (iConv .u64 x35) fun x36=>
 OP (iBin .quo x29 x36) fun x37=>
 OP (iBin .sub x16 (.int .i64 (1))) fun x41=>
 OP (iAdrSl 1 v1 x41) fun x42=>
 OP (iLoad false 1 h x42) fun x43=>
 (True)∧
 OP (iConv .u64 x43) fun x44=>
 OP (iBin .rem x29 x44) fun x45=>
 LoopP [x37,x45] h fun L1 xs hx=>
 p137z7 P K u0 v1 x16 L1 xs hx
theorem e137:iwpP P c137 (bodyP [.tmp 4] K) (frame0 [u0,v1]) h=T137 P K u0 v1 h:=by kernel_rfl
theorem f137 {K:VK} {u0 v1:Value} {h:Heap} (H:T137 Tryz.prog K u0 v1 h):CallP Tryz.prog 137 [u0,v1] h K:=
 callP_intro k137 (Nat.le_of_ble_eq_true rfl) ((e137 Tryz.prog K u0 v1 h).mpr H)
end
/-! F138: pommel/num.down -/
noncomputable section
variable (x0 n1 x5 i6 t7 x12 x13 : Value) (L1 : LQ) (xs : List Value) (h : Heap)
def oc138:=compFn Tryz.prog 138 [[],[],[],[0,1,5,12],[13],[],[],[],[],[],[0,1,5,6,7,12,13],[0,1,5,12,13],[5],[]]
@[irreducible] def c138:=icOf oc138
@[irreducible] def c138z6:=c138.r.r.l.r.l.l
@[irreducible] def c138z3:=c138.r.r.r
@[irreducible] def c138z15:=c138z6.r.r.l.l.r.r.r.l
@[irreducible] def c138z9:=c138z6.r.r.r
@[irreducible] def c138z17:=c138z3.l
@[irreducible] def c138z16:=c138z9.l
theorem k138:oc138=some (45,c138,[.tmp 4]):=by kernel_rfl
def K138z0 (_P:Program) (K:VK):Kont:=bodyP [.tmp 4] K
def K138z3:Kont:=thenK (iwpP P c138z3 (K138z0 P K)) (K138z0 P K)
def K138z5:Kont:=inBlockK 0 (K138z3 P K)
def K138z6:Kont:=thenK (fun f' h''=>(([0,1,5,12]:List Nat).map f':List Value)=[x0,n1,x5,x12]∧L1 (([13]:List Nat).map f') h'') (K138z5 P K)
def K138z9:Kont:=thenK (iwpP P c138z9 (K138z6 P K x0 n1 x5 x12 L1)) (K138z6 P K x0 n1 x5 x12 L1)
def K138z10:Kont:=inBlockK 1 (K138z9 P K x0 n1 x5 x12 L1)
def p138z6:Prop:=CutP (iwpP P c138z6 (K138z6 P K x0 n1 x5 x12 L1)) ([0,1,5,12]++[13]) ([x0,n1,x5,x12]++xs) h
def p138z15:Prop:=CutP (iwpP P c138z15 (K138z10 P K x0 n1 x5 x12 L1)) [0,1,5,6,7,12,13] [x0,n1,x5,i6,t7,x12,x13] h
def p138z16:Prop:=CutP (iwpP P c138z16 (K138z6 P K x0 n1 x5 x12 L1)) [0,1,5,12,13] [x0,n1,x5,x12,x13] h
def p138z17:Prop:=CutP (iwpP P c138z17 (K138z0 P K)) [5] [x5] h
theorem q138z15:p138z15 P K x0 n1 x5 i6 t7 x12 x13 L1 h=
 (OP (iBin .shr t7 n1) fun x39=>
 OP (iConv .u32 x39) fun x40=>
 OP (iAdrSl 1 x5 i6) fun x41=>
 OH (oStore 1 h x41 x40) fun _ h_1=>
 p138z16 P K x0 n1 x5 x12 x13 L1 h_1):=cdt (by kernel_rfl)
theorem q138z16:p138z16 P K x0 n1 x5 x12 x13 L1 h=
 (OP (iBin .add x13 (.int .i64 (1))) fun x42=>
 ([x0,n1,x5,x12]:List Value)=[x0,n1,x5,x12]∧L1 [x42] h):=cdt (by kernel_rfl)
theorem q138z6 (x0 n1 x5 x12:Value) (L1:LQ) (x13:Value) (h:Heap):p138z6 P K x0 n1 x5 x12 L1 [x13] h=
 (OP (iBin .lss x13 x12) fun x14=>
 IfP x14
 (OP (iAdrSl 1 x0 x13) fun x18=>
 OP (iLoad false 1 h x18) fun x19=>
 OP (iConv .u64 x19) fun x20=>
 OP (iBin .add x13 (.int .i64 (1))) fun x22=>
 OP (iLenSl x0) fun x24=>
 OP (iBin .lss x22 x24) fun x25=>
 IfP x25
 (OP (iBin .add x13 (.int .i64 (1))) fun x29=>
 OP (iAdrSl 1 x0 x29) fun x30=>
 OP (iLoad false 1 h x30) fun x31=>
 OP (iConv .u64 x31) fun x32=>
 OP (iBin .shl x32 (.int .u64 (32))) fun x33=>
 OP (iBin .or x20 x33) fun x34=>
 p138z15 P K x0 n1 x5 x13 x34 x12 x13 L1 h)
 (p138z15 P K x0 n1 x5 x13 x20 x12 x13 L1 h))
 (p138z17 P K x5 h)):=cdt (by kernel_rfl)
theorem q138z17:p138z17 P K x5 h=
 (CallP P 118 [x5] h fun x44 h_1=>
 K x44 h_1):=cdt (by kernel_rfl)
def T138:Prop:=
 OP (iLenSl x0) fun x9=>
 OH (iMake 177 4 [(.int .u32 (0))] h x9 x9) fun x10 h_1=>
 OP (iLenSl x0) fun x12=>
 LoopP [(.int .i64 (0))] h_1 fun L1 xs hx=>
 p138z6 P K x0 n1 x10 x12 L1 xs hx
theorem e138:iwpP P c138 (bodyP [.tmp 4] K) (frame0 [x0,n1]) h=T138 P K x0 n1 h:=by kernel_rfl
theorem f138 {K:VK} {x0 n1:Value} {h:Heap} (H:T138 Tryz.prog K x0 n1 h):CallP Tryz.prog 138 [x0,n1] h K:=
 callP_intro k138 (Nat.le_of_ble_eq_true rfl) ((e138 Tryz.prog K x0 n1 h).mpr H)
end
/-! F141: math/bits.Len32 -/
noncomputable section
variable (x0 n2 : Value) (h : Heap)
def oc141:=compFn Tryz.prog 141 [[],[],[],[0,2],[],[],[0,2],[]]
@[irreducible] def c141:=icOf oc141
@[irreducible] def c141z5:=c141.r.r.l
@[irreducible] def c141z9:=c141z5.r.l
theorem k141:oc141=some (19,c141,[.tmp 2]):=by kernel_rfl
def K141z0 (_P:Program) (K:VK):Kont:=bodyP [.tmp 2] K
def p141z5:Prop:=CutP (iwpP P c141z5 (K141z0 P K)) [0,2] [x0,n2] h
def p141z9:Prop:=CutP (iwpP P c141z9 (K141z0 P K)) [0,2] [x0,n2] h
theorem q141z9:p141z9 P K x0 n2 h=
 (OP (iConv .u8 x0) fun x15=>
 OP (iIdxS (.string ⟨#[0,1,2,2,3,3,3,3,4,4,4,4,4,4,4,4,5,5,5,5,5,5,5,5,5,5,5,5,5,5,5,5,6,6,6,6,6,6,6,6,6,6,6,6,6,6,6,6,6,6,6,6,6,6,6,6,6,6,6,6,6,6,6,6,7,7,7,7,7,7,7,7,7,7,7,7,7,7,7,7,7,7,7,7,7,7,7,7,7,7,7,7,7,7,7,7,7,7,7,7,7,7,7,7,7,7,7,7,7,7,7,7,7,7,7,7,7,7,7,7,7,7,7,7,7,7,7,7,8,8,8,8,8,8,8,8,8,8,8,8,8,8,8,8,8,8,8,8,8,8,8,8,8,8,8,8,8,8,8,8,8,8,8,8,8,8,8,8,8,8,8,8,8,8,8,8,8,8,8,8,8,8,8,8,8,8,8,8,8,8,8,8,8,8,8,8,8,8,8,8,8,8,8,8,8,8,8,8,8,8,8,8,8,8,8,8,8,8,8,8,8,8,8,8,8,8,8,8,8,8,8,8,8,8,8,8,8,8,8,8,8,8,8,8,8,8,8,8,8,8,8,8,8,8,8,8]⟩) x15) fun x16=>
 OP (iConv .i64 x16) fun x17=>
 OP (iBin .add n2 x17) fun x18=>
 K x18 h):=cdt (by kernel_rfl)
theorem q141z5:p141z5 P K x0 n2 h=
 (OP (iBin .geq x0 (.int .u32 (256))) fun x8=>
 IfP x8
 (OP (iBin .shr x0 (.int .u64 (8))) fun x10=>
 OP (iBin .add n2 (.int .i64 (8))) fun x12=>
 p141z9 P K x10 x12 h)
 (p141z9 P K x0 n2 h)):=cdt (by kernel_rfl)
def T141:Prop:=
 OP (iBin .geq x0 (.int .u32 (65536))) fun x4=>
 IfP x4
 (OP (iBin .shr x0 (.int .u64 (16))) fun x6=>
 p141z5 P K x6 (.int .i64 (16)) h)
 (p141z5 P K x0 (.int .i64 (0)) h)
theorem e141:iwpP P c141 (bodyP [.tmp 2] K) (frame0 [x0]) h=T141 P K x0 h:=by kernel_rfl
theorem f141 {K:VK} {x0:Value} {h:Heap} (H:T141 Tryz.prog K x0 h):CallP Tryz.prog 141 [x0] h K:=
 callP_intro k141 (Nat.le_of_ble_eq_true rfl) ((e141 Tryz.prog K x0 h).mpr H)
end
end Go.Proofs.YtelmdbpaoifmoaaGreat

namespace Go.Proofs.YtelmdbpaoifmoaaGreat
open Go.Sim

def wv (us:List Nat):List Value:=us.map fun d:Nat=>Value.int .u32 (d:Int)

theorem wv_len (us:List Nat):(wv us).length=us.length:=by simp [wv]

theorem adr_slo {e:TypeId} {id o n k:Nat} (hk:k<n):iAdrSl 1 (sl e id o n) (I k)=some (pt id (o+k)):=by
 have:(0:Int)≤(k:Int)∧(k:Int)<(n:Int):=by omega
 simp [sl,iAdrSl,this]

theorem cells_set {g:Heap} {iv id:Nat} {o:IObj} (h:iv≠id):objCells (g.set id o) iv=objCells g iv:=by
 unfold objCells
 rw [List.getElem?_set_ne h.symm]

theorem arr_load {g:Heap} {id k d:Nat} {us:List Nat} {rest:List Value} (hg:objCells g id=some (wv us++rest)) (hk:us[k]?=some d):iLoad false 1 g (pt id k)=some (.int .u32 (d:Int)):=by
 have hlt:=(List.getElem?_eq_some_iff.1 hk).1
 have:(wv us++rest)[k]?=some (.int .u32 (d:Int)):=by
  rw [List.getElem?_append_left (by rw [wv_len];exact hlt)]
  simp [wv,hk]
 simp [iLoad,hg,iPart,this]

theorem arr_load0 {g:Heap} {id k d:Nat} {us:List Nat} (hg:g[id]?=some (.arr 177 (wv us))) (hk:us[k]?=some d):iLoad false 1 g (pt id k)=some (.int .u32 (d:Int)):=
 arr_load (rest:=[]) (by rw [List.append_nil];simp [objCells,hg]) hk

theorem arr_store {g:Heap} {id k:Nat} (d:Nat) {us:List Nat} (hg:g[id]?=some (.arr 177 (wv us))) (hk:k<us.length):oStore 1 g (pt id k) (.int .u32 (d:Int))=some (undef,g.set id (.arr 177 (wv (us.set k d)))):=by
 rw [store_at hg (by rw [wv_len];exact hk) rfl rfl]
 congr 3
 simp [wv,List.map_set]

theorem rem64 {a b:Nat} (hb:b≠0) (ha:a<18446744073709551616):iBin .rem (.int .u64 (a:Int)) (.int .u64 (b:Int))=some (.int .u64 ((a%b:Nat):Int)):=by
 have h:¬((b:Int)=0):=by omega
 have h2:a%b≤a:=Nat.mod_le _ _
 simp only [iBin,iInt,if_true,if_neg h]
 have e:(a:Int).tmod (b:Int)=((a%b:Nat):Int):=rfl
 rw [e]

theorem cv64 {d:Nat} (h:d<4294967296):iConv .u64 (.int .u32 (d:Int))=some (.int .u64 (d:Int)):=by rw [conv_int,wrapU64 (by omega) (by omega)]
theorem mul64 {a b:Nat} (h:a*b<18446744073709551616):iBin .mul (.int .u64 (a:Int)) (.int .u64 (b:Int))=some (.int .u64 ((a*b:Nat):Int)):=by
 rw [bin_mul,←Int.natCast_mul,wrapU64 (by omega) (by omega)]
theorem add64 {a b:Nat} (h:a+b<18446744073709551616):iBin .add (.int .u64 (a:Int)) (.int .u64 (b:Int))=some (.int .u64 ((a+b:Nat):Int)):=by
 rw [bin_add,←Int.natCast_add,wrapU64 (by omega) (by omega)]
theorem dec64 {a:Nat} (h:0<a) (h2:a<18446744073709551616):iBin .sub (.int .u64 (a:Int)) (.int .u64 1)=some (.int .u64 ((a-1:Nat):Int)):=by
 rw [bin_sub,show (a:Int)-1=((a-1:Nat):Int) by omega,wrapU64 (by omega) (by omega)]
theorem cv32 (t:Nat):iConv .u32 (.int .u64 (t:Int))=some (.int .u32 ((t%4294967296:Nat):Int)):=by rw [conv_int,wrapU32e];congr 2
theorem C134d {x y b:Nat} {h:Heap} {K:Value→Heap→Prop} (hx:x<4294967296) (hy:y<4294967296) (hb:b≤1)
  (hk:∀d b':Nat,d<4294967296→b'≤1→d+y+b=x+b'*4294967296→K (.tuple #[.int .u32 (d:Int),.int .u32 (b':Int)]) h):CallP Tryz.prog 134 [.int .u32 (x:Int),.int .u32 (y:Int),.int .u32 (b:Int)] h K:=by
 refine C134 hx hy hb (hk _ _ ?_ ?_ ?_)
 ·exact Nat.mod_lt _ (by decide)
 ·split <;> omega
 ·split <;> omega

theorem last_add {P X V Y x c a b:Nat} (h:Y+c*P=X+V) (e:4294967296*a+b=x+c) (ha:a=0∨a=1):Y+P*b+P*4294967296=X+P*x+V∨Y+P*b=X+P*x+V:=by
 have e1:P*(4294967296*a+b)=P*(x+c):=by rw [e]
 rcases ha with rfl | rfl
 ·right;grind
 ·left;grind

section
variable {h : Heap} {K : Value → Heap → Prop} {id iv j m : Nat} {us vs ud : List Nat} {rest : List Value}

theorem C137_36 {g:Heap} {q:Value} {xs:List Nat} (kg:g[id]?=some (.arr 177 (wv us))) (kv:objCells g iv=some (wv vs++rest)) (hne:iv≠id) (hn:vs.length=m+2) (hm:m≤1000) (hx:xs.length=m+3) (hj:j+(m+3)≤us.length)
  (hu:∀k,k≤m+2→us[j+k]?=xs[k]?) (lx:Lim 4294967296 xs) (lv:Lim 4294967296 vs)
  (hk:∀ys,ys.length=m+3→Lim 4294967296 ys→(val 4294967296 ys+4294967296^(m+3)=val 4294967296 xs+val 4294967296 vs∨val 4294967296 ys=val 4294967296 xs+val 4294967296 vs)→
   p137z43 Tryz.prog K q (g.set id (.arr 177 (wv (mid us j ys))))):
  LoopP [(.int .u32 (0)),(.int .i64 (0))] g fun L1 xs hx=>p137z36 Tryz.prog K (sl 177 id j (m+3)) (sl 177 iv 0 (m+2)) (I (m+2:Nat)) q (I (m+2:Nat)) L1 xs hx:=by
 refine loopL (σ:=List Nat×Nat) (fun p=>[.int .u32 (p.2:Int),I p.1.length]) (fun p=>g.set id (.arr 177 (wv (mid us j p.1))))
  (fun p=>p.1.length≤m+2∧Lim 4294967296 p.1∧p.2≤1∧val 4294967296 p.1+p.2*4294967296^p.1.length=val 4294967296 (xs.take p.1.length)+val 4294967296 (vs.take p.1.length)) (fun p=>m+2-p.1.length)
  ([],0) rfl (by rw [mid_nil];exact (List.ext_getElem? fun i=>by
   rw [List.getElem?_set]
   split
   ·rename_i e;subst e
    rw [kg,if_pos (List.getElem?_eq_some_iff.1 kg).1]
   ·rfl)) ⟨Nat.zero_le _,fun y hy=>by simp at hy,Nat.zero_le _,by simp [val]⟩ ?_
 rintro ⟨ys,c⟩ ⟨hyl,ly,hc,hval⟩ L hL
 simp only at hyl ly hc hval hL⊢
 have kg':(g.set id (.arr 177 (wv (mid us j ys))))[id]?=some (.arr 177 (wv (mid us j ys))):=set_get kg
 have kv':objCells (g.set id (.arr 177 (wv (mid us j ys)))) iv=some (wv vs++rest):=by rw [cells_set hne];exact kv
 rw [q137z36]
 simp only [bin_lss,OP_some,IfP_dec]
 have hux:∀k,ys.length≤k→k≤m+2→(mid us j ys)[j+k]?=xs[k]?:=fun k h1 h2=>by rw [mid_get (by omega) h1,hu k h2]
 refine ⟨fun hlt=>?_,fun hge=>?_⟩
 ·have hy:ys.length<m+2:=by omega
  have hxe:xs[ys.length]?=some (xs[ys.length]'(by omega)):=List.getElem?_eq_getElem (by omega)
  have hve:vs[ys.length]?=some (vs[ys.length]'(by omega)):=List.getElem?_eq_getElem (by omega)
  have bx:=lx _ (List.getElem_mem (l:=xs) (n:=ys.length) (by omega))
  have bv:=lv _ (List.getElem_mem (l:=vs) (n:=ys.length) (by omega))
  have tx:=val_take_succ 4294967296 xs (i:=ys.length) (by omega)
  have tv:=val_take_succ 4294967296 vs (i:=ys.length) (by omega)
  generalize xs[ys.length]'(by omega)=x at*
  generalize vs[ys.length]'(by omega)=v at*
  have ld:=arr_load0 kg' ((hux _ (Nat.le_refl _) (by omega)).trans hxe)
  have lv':=arr_load kv' hve
  simp only [adr_slo (show ys.length<m+3 by omega),adr_slo (show ys.length<m+2 by omega),Nat.zero_add,OP_some,ld,lv',true_and]
  refine C133 bx bv hc ?_
  simp only [ext_tuple,pair0,pair1,OP_some,true_and]
  rw [arr_store _ kg' (by rw [mid_len (by omega)];omega),mid_set (by omega),List.set_set]
  have:=hL (ys++[(x+v+c)%4294967296],(x+v+c) / 4294967296) ⟨by simp;omega,ly.append (fun y hy=>by simp at hy;omega),by show (x+v+c) / 4294967296≤1;omega,by
   simp only [List.length_append,List.length_cons,List.length_nil,Nat.zero_add]
   rw [val_append,tx,tv,Nat.pow_succ]
   simp only [val,Nat.mul_zero,Nat.add_zero]
   have hdm:=Nat.div_add_mod (x+v+c) 4294967296
   generalize (x+v+c) / 4294967296=a at*
   generalize (x+v+c)%4294967296=b at*
   generalize 4294967296^ys.length=P at*
   have:P*(4294967296*a+b)=P*(x+v+c):=by rw [hdm]
   grind⟩ (by simp;omega)
  simp only [OH_some,true_and,bin_add,inc ys.length (by omega),OP_some]
  simpa using this
 ·have hy:ys.length=m+2:=by omega
  have hxe:xs[m+2]?=some (xs[m+2]'(by omega)):=List.getElem?_eq_getElem (by omega)
  have bx:=lx _ (List.getElem_mem (l:=xs) (n:=m+2) (by omega))
  have tx:=val_take_succ 4294967296 xs (i:=m+2) (by omega)
  rw [List.take_of_length_le (by omega)] at tx
  generalize xs[m+2]'(by omega)=x at*
  have ld:=arr_load0 kg' ((hux (m+2) (by omega) (by omega)).trans hxe)
  rw [q137z42]
  have ea:iBin .add (.int .u32 (x:Int)) (.int .u32 (c:Int))=some (.int .u32 (((x+c)%4294967296:Nat):Int)):=by
   rw [bin_add,←Int.natCast_add,wrapU32e];congr 2
  simp only [adr_slo (show m+2<m+3 by omega),OP_some,ld,ea]
  have hset:=mid_set (us:=us) (j:=j) (d:=(x+c)%4294967296) (xs:=ys) (by omega)
  rw [hy] at hset
  rw [arr_store _ kg' (by rw [mid_len (by omega)];omega),hset,List.set_set]
  simp only [OH_some]
  rw [hy,List.take_of_length_le (by omega:vs.length≤m+2)] at hval
  refine hk _ (by simp;omega) (ly.append (fun y hy=>by simp at hy;omega)) ?_
  rw [val_append,hy,tx]
  simp only [val,Nat.mul_zero,Nat.add_zero]
  have hdm:=Nat.div_add_mod (x+c) 4294967296
  have h01:(x+c) / 4294967296≤1:=by omega
  rw [Nat.pow_succ]
  exact last_add hval hdm (by omega)

theorem pow_three (B m:Nat):B^(m+3)=B^(m+2)*B:=Nat.pow_succ ..

theorem step_sub {P A X V g v x carry borrow y c' x' b':Nat} (h:X+g*V=A+(carry+borrow)*P) (e:4294967296*c'+y=g*v+carry) (s:x'+y+borrow=x+b'*4294967296):
  X+P*x'+g*(V+P*v)=A+P*x+(c'+b')*(P*4294967296):=by
 have e1:P*(4294967296*c'+y)=P*(g*v+carry):=by rw [e]
 have e2:P*(x'+y+borrow)=P*(x+b'*4294967296):=by rw [s]
 grind

theorem step_top {P A X V g x carry borrow x' b':Nat} (h:X+g*V=A+(carry+borrow)*P) (s:x'+carry+borrow=x+b'*4294967296):X+P*x'+g*V=A+P*x+b'*(P*4294967296):=by
 have e2:P*(x'+carry+borrow)=P*(x+b'*4294967296):=by rw [s]
 grind

theorem C137_14 {gs:Nat} (kg:h[id]?=some (.arr 177 (wv us))) (kv:objCells h iv=some (wv vs++rest)) (hne:iv≠id) (hn:vs.length=m+2) (hm:m≤1000) (hx:ud.length=m+3) (hj:j+(m+3)≤us.length)
  (hu:∀k,k≤m+2→us[j+k]?=ud[k]?) (lu:Lim 4294967296 ud) (lv:Lim 4294967296 vs) (hgB:gs<4294967296) (h1:val 4294967296 ud / val 4294967296 vs≤gs) (h2:gs*val 4294967296 vs<val 4294967296 ud+val 4294967296 vs) (V0:0<val 4294967296 vs)
  (hk:∀rs,rs.length=m+3→Lim 4294967296 rs→val 4294967296 rs=val 4294967296 ud%val 4294967296 vs→K (.int .u32 ((val 4294967296 ud / val 4294967296 vs:Nat):Int)) (h.set id (.arr 177 (wv (mid us j rs))))):
  p137z14 Tryz.prog K (sl 177 id j (m+3)) (sl 177 iv 0 (m+2)) (I (m+2:Nat)) (.int .u64 (gs:Int)) h:=by
 have hset:h=h.set id (.arr 177 (wv us)):=List.ext_getElem? fun i=>by
  rw [List.getElem?_set]
  split
  ·rename_i e;subst e
   rw [kg,if_pos (List.getElem?_eq_some_iff.1 kg).1]
  ·rfl
 have lvl:iLenSl (sl 177 iv 0 (m+2))=some (I (m+2:Nat)):=rfl
 rw [q137z14]
 simp only [lvl,OP_some]
 refine loopL (σ:=List Nat×Nat×Nat) (fun p=>[.int .u64 (p.2.1:Int),.int .u32 (p.2.2:Int),I p.1.length]) (fun p=>h.set id (.arr 177 (wv (mid us j p.1))))
  (fun p=>p.1.length≤m+2∧Lim 4294967296 p.1∧p.2.1<4294967296∧p.2.2≤1∧val 4294967296 p.1+gs*val 4294967296 (vs.take p.1.length)=val 4294967296 (ud.take p.1.length)+(p.2.1+p.2.2)*4294967296^p.1.length) (fun p=>m+2-p.1.length)
  ([],0,0) rfl (by rw [mid_nil];exact hset.symm) ⟨Nat.zero_le _,fun y hy=>by simp at hy,by decide,Nat.zero_le _,by simp [val]⟩ ?_
 rintro ⟨xs,c,bo⟩ ⟨hxl,lx,hc,hbo,hval⟩ L hL
 simp only at hxl lx hc hbo hval hL⊢
 have kg':(h.set id (.arr 177 (wv (mid us j xs))))[id]?=some (.arr 177 (wv (mid us j xs))):=set_get kg
 have kv':objCells (h.set id (.arr 177 (wv (mid us j xs)))) iv=some (wv vs++rest):=by rw [cells_set hne];exact kv
 have hux:∀k,xs.length≤k→k≤m+2→(mid us j xs)[j+k]?=ud[k]?:=fun k h1 h2=>by rw [mid_get (by omega) h1,hu k h2]
 rw [q137z19]
 simp only [bin_lss,OP_some,IfP_dec]
 refine ⟨fun hlt=>?_,fun hge=>?_⟩
 ·have hy:xs.length<m+2:=by omega
  have hue:ud[xs.length]?=some (ud[xs.length]'(by omega)):=List.getElem?_eq_getElem (by omega)
  have hve:vs[xs.length]?=some (vs[xs.length]'(by omega)):=List.getElem?_eq_getElem (by omega)
  have bx:=lu _ (List.getElem_mem (l:=ud) (n:=xs.length) (by omega))
  have bv:=lv _ (List.getElem_mem (l:=vs) (n:=xs.length) (by omega))
  have tx:=val_take_succ 4294967296 ud (i:=xs.length) (by omega)
  have tv:=val_take_succ 4294967296 vs (i:=xs.length) (by omega)
  generalize ud[xs.length]'(by omega)=x at*
  generalize vs[xs.length]'(by omega)=v at*
  have ld:=arr_load0 kg' ((hux _ (Nat.le_refl _) (by omega)).trans hue)
  have lv':=arr_load kv' hve
  have hgv:=mul_lt32 hgB bv
  simp only [adr_slo (show xs.length<m+3 by omega),adr_slo (show xs.length<m+2 by omega),Nat.zero_add,OP_some,ld,lv',cv64 bv,mul64 (show gs*v<18446744073709551616 by omega),add64 (show gs*v+c<18446744073709551616 by omega),shr32,cv32]
  have hdm:=Nat.div_add_mod (gs*v+c) 4294967296
  have hym:(gs*v+c)%4294967296<4294967296:=Nat.mod_lt _ (by decide)
  have hyd:(gs*v+c) / 4294967296<4294967296:=by omega
  refine C134d bx hym hbo ?_
  intro d b2 hd hb2 hdb
  simp only [ext_tuple,pair0,pair1,OP_some]
  rw [arr_store _ kg' (by rw [mid_len (by omega)];omega),mid_set (by omega),List.set_set]
  generalize (gs*v+c) / 4294967296=c2 at*
  generalize (gs*v+c)%4294967296=y at*
  have:=hL (xs++[d],c2,b2) ⟨by simp;omega,lx.append (fun z hz=>by simp at hz;omega),hyd,hb2,by
   simp only [List.length_append,List.length_cons,List.length_nil,Nat.zero_add]
   rw [val_append,tx,tv,Nat.pow_succ]
   simp only [val,Nat.mul_zero,Nat.add_zero]
   exact step_sub hval hdm hdb⟩ (by simp;omega)
  simp only [OH_some,bin_add,inc xs.length (by omega),OP_some,true_and]
  simpa using this
 ·have hy:xs.length=m+2:=by omega
  have hue:ud[m+2]?=some (ud[m+2]'(by omega)):=List.getElem?_eq_getElem (by omega)
  have bx:=lu _ (List.getElem_mem (l:=ud) (n:=m+2) (by omega))
  have tx:=val_take_succ 4294967296 ud (i:=m+2) (by omega)
  rw [List.take_of_length_le (by omega)] at tx
  generalize ud[m+2]'(by omega)=x at*
  have ld:=arr_load0 kg' ((hux (m+2) (by omega) (by omega)).trans hue)
  rw [q137z27]
  simp only [adr_slo (show m+2<m+3 by omega),OP_some,ld,cv32,Nat.mod_eq_of_lt hc]
  refine C134d bx hc hbo ?_
  intro d b2 hd hb2 hdb
  simp only [ext_tuple,pair0,pair1,OP_some,adr_slo (show m+2<m+3 by omega)]
  have hset2:=mid_set (us:=us) (j:=j) (d:=d) (xs:=xs) (by omega)
  rw [hy] at hset2
  rw [arr_store _ kg' (by rw [mid_len (by omega)];omega),hset2,List.set_set]
  simp only [OH_some]
  rw [hy,List.take_of_length_le (by omega:vs.length≤m+2)] at hval
  have lx2:Lim 4294967296 (xs++[d]):=lx.append (fun z hz=>by simp at hz;omega)
  have hl2:(xs++[d]).length=m+3:=by simp;omega
  have hv2:val 4294967296 (xs++[d])+gs*val 4294967296 vs=val 4294967296 ud+b2*4294967296^(m+3):=by
   rw [val_append,hy,tx]
   simp only [val,Nat.mul_zero,Nat.add_zero]
   rw [pow_three]
   exact step_top hval hdb
  generalize xs++[d]=xn at*
  have hdmv:=Nat.div_add_mod (val 4294967296 ud) (val 4294967296 vs)
  have hml:=Nat.mod_lt (val 4294967296 ud) V0
  have hxb:=val_lt lx2
  rw [hl2] at hxb
  generalize hQ:val 4294967296 ud / val 4294967296 vs=Q at*
  generalize hR:val 4294967296 ud%val 4294967296 vs=R at*
  have hqB:Q<4294967296:=by omega
  have e43:∀{a:Nat} {g:Heap},a<4294967296→K (.int .u32 (a:Int)) g→p137z43 Tryz.prog K (.int .u64 (a:Int)) g:=by
   intro a g ha hK
   rw [q137z43,cv32,OP_some,Nat.mod_eq_of_lt ha]
   exact hK
  rcases (show b2=1∨b2=0 by omega) with rfl | rfl
  ·skip
   have hgV:val 4294967296 ud<gs*val 4294967296 vs:=by omega
   have hgq:gs=Q+1:=by
    have:gs<Q+2:=by
     apply Classical.byContradiction
     intro hn
     have h3:(Q+2)*val 4294967296 vs≤gs*val 4294967296 vs:=Nat.mul_le_mul_right _ (by omega)
     rw [Nat.add_mul,Nat.mul_comm Q] at h3
     omega
    have h4:gs≠Q:=by
     intro e
     rw [e,Nat.mul_comm] at hgV
     omega
    omega
   have bg:iBin .gtr (.int .u32 ((1:Nat):Int)) (.int .u32 0)=some (B true):=rfl
   simp only [bg,OP_some,IfP_true,dec64 (show 0<gs by omega) (show gs<18446744073709551616 by omega),lvl]
   refine C137_36 (us:=mid us j xn) (xs:=xn) (set_get kg) (by rw [cells_set hne];exact kv) hne hn hm hl2 (by rw [mid_len (by omega)];omega) (fun k hk=>mid_new (by omega) (by omega)) lx2 lv ?_
   intro ys hyl ly hyv
   rw [List.set_set,mid_mid (by omega) (by omega)]
   have hyb:=val_lt ly
   rw [hyl] at hyb
   have hmul:gs*val 4294967296 vs=val 4294967296 vs*(Q)+val 4294967296 vs:=by rw [hgq,Nat.add_mul,Nat.mul_comm Q];omega
   have hyr:val 4294967296 ys=R:=by
    rw [Nat.one_mul] at hv2
    rcases hyv with hyv | hyv <;> omega
   rw [show gs-1=Q by omega]
   exact e43 hqB (hk ys hyl ly hyr)
  ·have hgq:gs=Q:=by
    have:gs≤Q:=by rw [←hQ];exact (Nat.le_div_iff_mul_le V0).2 (by omega)
    omega
   have bg:iBin .gtr (.int .u32 ((0:Nat):Int)) (.int .u32 0)=some (B false):=rfl
   simp only [bg,OP_some,IfP_false]
   have hxr:val 4294967296 xn=R:=by
    rw [hgq,Nat.mul_comm] at hv2
    omega
   rw [hgq]
   exact e43 hqB (hk xn hl2 lx2 hxr)

end
end Go.Proofs.YtelmdbpaoifmoaaGreat


namespace Go.Proofs.YtelmdbpaoifmoaaGreat
open Go.Sim

theorem gtr64 (a b:Nat):iBin .gtr (.int .u64 (a:Int)) (.int .u64 (b:Int))=some (B (decide (b<a))):=by
 rw [bin_gtr];congr 2;rw [decide_eq_decide];omega

theorem hi32 {a:Nat}:iBin .gtr (.int .u64 ((a / 4294967296:Nat):Int)) (.int .u64 0)=some (B (decide (4294967296≤a))):=by
 rw [bin_gtr];congr 2;rw [decide_eq_decide]
 have:4294967296≤a↔0<a / 4294967296:=by omega
 rw [this]
 omega

section
variable {h : Heap} {K : Value → Heap → Prop} {id iv j m : Nat} {us vs ud : List Nat} {rest : List Value}

theorem C137 {v1:Nat} (kg:h[id]?=some (.arr 177 (wv us))) (kv:objCells h iv=some (wv vs++rest)) (hne:iv≠id) (hn:vs.length=m+2) (hm:m≤1000) (hx:ud.length=m+3) (hj:j+(m+3)≤us.length)
  (hu:∀k,k≤m+2→us[j+k]?=ud[k]?) (lu:Lim 4294967296 ud) (lv:Lim 4294967296 vs) (hv1:vs[m+1]?=some v1) (hhi:2147483648≤v1) (hUV:val 4294967296 ud<val 4294967296 vs*4294967296)
  (hk:∀rs,rs.length=m+3→Lim 4294967296 rs→val 4294967296 rs=val 4294967296 ud%val 4294967296 vs→K (.int .u32 ((val 4294967296 ud / val 4294967296 vs:Nat):Int)) (h.set id (.arr 177 (wv (mid us j rs))))):
  CallP Tryz.prog 137 [sl 177 id j (m+3),sl 177 iv 0 (m+2)] h K:=by
 obtain ⟨ul,hul,eU⟩:=val_three lu hx
 obtain ⟨vl,hvl,eV⟩:=val_two lv hn
 have hu0:us[j+m]?=some (ud[m]'(by omega)):=by rw [hu m (by omega)];exact List.getElem?_eq_getElem _
 have hu1:us[j+(m+1)]?=some (ud[m+1]'(by omega)):=by rw [hu (m+1) (by omega)];exact List.getElem?_eq_getElem _
 have hu2:us[j+(m+2)]?=some (ud[m+2]'(by omega)):=by rw [hu (m+2) (by omega)];exact List.getElem?_eq_getElem _
 have b0:=lu _ (List.getElem_mem (l:=ud) (n:=m) (by omega))
 have b1:=lu _ (List.getElem_mem (l:=ud) (n:=m+1) (by omega))
 have b2:=lu _ (List.getElem_mem (l:=ud) (n:=m+2) (by omega))
 have hv0:vs[m]?=some (vs[m]'(by omega)):=List.getElem?_eq_getElem _
 have c0:=lv _ (List.getElem_mem (l:=vs) (n:=m) (by omega))
 have c1:=lv _ (List.getElem_mem (l:=vs) (n:=m+1) (by omega))
 have e1:vs[m+1]'(by omega)=v1:=by
  rw [List.getElem?_eq_getElem (by omega)] at hv1
  injection hv1
 rw [e1] at c1 eV
 generalize ud[m]'(by omega)=t0 at*
 generalize ud[m+1]'(by omega)=t1 at*
 generalize ud[m+2]'(by omega)=t2 at*
 generalize vs[m]'(by omega)=v2 at*
 have hP:0<4294967296^m:=Nat.pow_pos (by decide)
 have etop:t1+t2*4294967296=t2*4294967296+t1:=Nat.add_comm ..
 rw [etop] at eU
 have V0:0<val 4294967296 vs:=by
  apply Nat.pos_of_ne_zero
  intro e
  rw [e,Nat.zero_mul] at hUV
  omega
 have ht2:=top_small (by decide) eU etop.symm eV hvl c0 hUV
 have hfirst:=guess_first eU hul b0 eV (by omega)
 have ld0:=arr_load0 kg hu0
 have ld1:=arr_load0 kg hu1
 have ld2:=arr_load0 kg hu2
 have lv0:=arr_load kv hv0
 have lv1:=arr_load kv hv1
 have lvl:iLenSl (sl 177 iv 0 (m+2))=some (I (m+2:Nat)):=rfl
 have s1:iBin .sub (I (m+2:Nat)) (.int .i64 1)=some (I (m+1:Nat)):=by rw [bin_sub,wrap64 (by omega) (by omega)];congr 2;omega
 have s2:iBin .sub (I (m+2:Nat)) (.int .i64 2)=some (I (m:Nat)):=by rw [bin_sub,wrap64 (by omega) (by omega)];congr 2;omega
 have htl:t2*4294967296+t1<18446744073709551616:=by omega
 refine f137 ?_
 unfold T137
 simp only [lvl,OP_some,adr_slo (show m+2<m+3 by omega),ld2,true_and,cv64 b2,shl32 b2,s1,adr_slo (show m+1<m+3 by omega),ld1,cv64 b1,or64 b2 b1,adr_slo (show m+1<m+2 by omega),Nat.zero_add,lv1,cv64 c1,quo64 (show v1≠0 by omega) htl,rem64 (show v1≠0 by omega) htl]
 generalize htop:t2*4294967296+t1=top at*
 have hdm:=Nat.div_add_mod top v1
 have hml:=Nat.mod_lt top (show 0<v1 by omega)
 have hg0:top / v1≤4294967297:=by
  have:top / v1<4294967298:=by
   rw [Nat.div_lt_iff_lt_mul (by omega)]
   omega
  omega
 refine loopL (σ:=Nat×Nat) (fun p=>[.int .u64 (p.1:Int),.int .u64 (p.2:Int)]) (fun _=>h) (fun p=>p.1*v1+p.2=top∧p.2<4294967296∧p.1≤4294967297∧val 4294967296 ud / val 4294967296 vs≤p.1) (fun p=>4294967296-p.2)
  (top / v1,top%v1) rfl rfl ⟨by show top / v1*v1+top%v1=top;rw [Nat.mul_comm];exact hdm,by show top%v1<4294967296;omega,hg0,hfirst⟩ ?_
 rintro ⟨g,r⟩ ⟨hgr,hr,hg,hq⟩ L hL
 simp only at hgr hr hg hq hL⊢
 have down:(4294967296≤g∨r*4294967296+t0<g*v2)→(OP (iBin .sub (.int .u64 (g:Int)) (.int .u64 (1))) fun x70=>
   OP (iBin .sub (I (m+2:Nat)) (.int .i64 (1))) fun x74=>
   OP (iAdrSl 1 (sl 177 iv 0 (m+2)) x74) fun x75=>
   OP (iLoad false 1 h x75) fun x76=>
   OP (iConv .u64 x76) fun x77=>
   OP (iBin .add (.int .u64 (r:Int)) x77) fun x78=>
   OP (iBin .shr x78 (.int .u64 (32))) fun x80=>
   OP (iBin .gtr x80 (.int .u64 (0))) fun x81=>
   IfP x81
    (p137z14 Tryz.prog K (sl 177 id j (m+3)) (sl 177 iv 0 (m+2)) (I (m+2:Nat)) x70 h)
    (([sl 177 id j (m+3),sl 177 iv 0 (m+2),I (m+2:Nat)]:List Value)=[sl 177 id j (m+3),sl 177 iv 0 (m+2),I (m+2:Nat)]∧L [x70,x78] h)):=by
  intro hbad
  have hd:=guess_down eU hul eV hUV hgr hq hbad
  have hpos:0<g:=by generalize val 4294967296 ud / val 4294967296 vs=Q at*;omega
  have hq1:val 4294967296 ud / val 4294967296 vs≤g-1:=by generalize val 4294967296 ud / val 4294967296 vs=Q at*;omega
  have hgr2:(g-1)*v1+(r+v1)=top:=by
   rw [Nat.sub_mul,Nat.one_mul]
   have:v1≤g*v1:=Nat.le_mul_of_pos_left v1 hpos
   omega
  simp only [dec64 hpos (show g<18446744073709551616 by omega),OP_some,s1,adr_slo (show m+1<m+2 by omega),Nat.zero_add,lv1,cv64 c1,add64 (show r+v1<18446744073709551616 by omega),shr32,hi32,IfP_dec]
  refine ⟨fun hge=>?_,fun hlt=>⟨trivial,hL (g-1,r+v1) ⟨hgr2,by show r+v1<4294967296;omega,by show g-1≤4294967297;omega,hq1⟩ (by show 4294967296-(r+v1)<4294967296-r;omega)⟩⟩
  have hgB:g-1<4294967296:=by
   apply Classical.byContradiction
   intro hn
   have h3:4294967296*v1≤(g-1)*v1:=Nat.mul_le_mul_right _ (by omega)
   have h4:t2*4294967296≤v1*4294967296:=Nat.mul_le_mul_right _ ht2
   omega
  refine C137_14 kg kv hne hn hm hx hj hu lu lv hgB hq1 (guess_last eU eV hvl (by omega) hgr2 hgB ?_) V0 hk
  have h5:=mul_lt32 hgB c0
  have h6:4294967296*4294967296≤(r+v1)*4294967296:=Nat.mul_le_mul_right _ hge
  omega
 have last:g<4294967296→g*v2≤r*4294967296+t0→p137z14 Tryz.prog K (sl 177 id j (m+3)) (sl 177 iv 0 (m+2)) (I (m+2:Nat)) (.int .u64 (g:Int)) h:=fun hgB hok=>
  C137_14 kg kv hne hn hm hx hj hu lu lv hgB hq (guess_last eU eV hvl (by omega) hgr hgB hok) V0 hk
 rw [q137z7]
 simp only [shr32,OP_some,hi32]
 by_cases hgB:4294967296≤g
 ·rw [decide_eq_true hgB]
  simp only [GdP_tf,iPick_t,OP_some,IfP_true]
  simpa only [true_and] using down (.inl hgB)
 ·rw [decide_eq_false hgB]
  have hgB':g<4294967296:=by omega
  have hgv:=mul_lt32 hgB' c0
  simp only [GdP_ff,s2,OP_some,adr_slo (show m<m+2 by omega),adr_slo (show m<m+3 by omega),Nat.zero_add,lv0,ld0,true_and,cv64 c0,cv64 b0,mul64 (show g*v2<18446744073709551616 by omega),shl32 hr,or64 hr b0,gtr64,iPick_f,IfP_dec]
  exact ⟨fun hbad=>by simpa only [true_and] using down (.inr hbad),fun hok=>last hgB' (by omega)⟩

end
end Go.Proofs.YtelmdbpaoifmoaaGreat


namespace Go.Proofs.YtelmdbpaoifmoaaGreat
open Go.Sim

theorem shrN (k k2:IntKind) {s n:Nat} (hn:n≤k.bits) (hb:n<1000):iBin .shr (.int k (s:Int)) (.int k2 (n:Int))=some (.int k ((s / 2^n:Nat):Int)):=by
 simp only [iBin,iShift]
 rw [if_neg (by omega)]
 have:min ((n:Int).toNat) k.bits=n:=by omega
 rw [this,Int.fdiv_eq_ediv_of_nonneg _ (by have:(0:Int)<2^n:=Int.pow_pos (by decide);omega)]
 congr 2

theorem shl64 (k2:IntKind) {x n:Nat} (hn:n<32) (hx:x<4294967296):iBin .shl (.int .u64 (x:Int)) (.int k2 (n:Int))=some (.int .u64 ((x*2^n:Nat):Int)):=by
 have h2:2^n≤2^31:=Nat.pow_le_pow_right (by decide) (by omega)
 have h3:x*2^n≤4294967295*2^31:=Nat.mul_le_mul (by omega) h2
 have h4:x*2^n<18446744073709551616:=by omega
 simp only [iBin,iShift]
 rw [if_neg (by omega)]
 have:min ((n:Int).toNat) IntKind.u64.bits=n:=by
  have:IntKind.u64.bits=64:=rfl
  omega
 have e:(x:Int)*2^n=((x*2^n:Nat):Int):=by simp
 rw [this,e,wrapU64 (by omega) (by omega)]

theorem or_add {s a q:Nat} (hs:s≤31) (ha:a<2^s) (hq:2^s*q<4294967296):iBin .or (.int .u32 (a:Int)) (.int .u32 ((2^s*q:Nat):Int))=some (.int .u32 ((2^s*q+a:Nat):Int)):=by
 have h2:2^s≤2^31:=Nat.pow_le_pow_right (by decide) hs
 have hsum:2^s*q+a<4294967296:=by
  have h3:q<2^(32-s):=by
   apply Classical.byContradiction
   intro hn
   have:2^s*2^(32-s)≤2^s*q:=Nat.mul_le_mul_left _ (by omega)
   rw [←Nat.pow_add,show s+(32-s)=32 by omega] at this
   omega
  have h4:2^s*(q+1)≤2^s*2^(32-s):=Nat.mul_le_mul_left _ (by omega)
  rw [←Nat.pow_add,show s+(32-s)=32 by omega,Nat.mul_add] at h4
  omega
 have e:(BitVec.ofInt IntKind.u32.bits (a:Int) ||| BitVec.ofInt IntKind.u32.bits ((2^s*q:Nat):Int)).toNat=2^s*q+a:=by
  show (BitVec.ofInt 32 (a:Int) ||| BitVec.ofInt 32 ((2^s*q:Nat):Int)).toNat=_
  rw [BitVec.ofInt_natCast,BitVec.ofInt_natCast,BitVec.toNat_or,BitVec.toNat_ofNat,BitVec.toNat_ofNat,Nat.mod_eq_of_lt (by omega),Nat.mod_eq_of_lt (by omega),Nat.or_comm]
  exact (Nat.two_pow_add_eq_or_of_lt ha q).symm
 simp only [iBin,iInt,if_true]
 rw [e,wrapU32 (by omega) (by omega)]

def len8 (x:Nat):Nat:=if x=0 then 0 else x.log2+1
def tab8:Value:=(.string ⟨#[0,1,2,2,3,3,3,3,4,4,4,4,4,4,4,4,5,5,5,5,5,5,5,5,5,5,5,5,5,5,5,5,6,6,6,6,6,6,6,6,6,6,6,6,6,6,6,6,6,6,6,6,6,6,6,6,6,6,6,6,6,6,6,6,7,7,7,7,7,7,7,7,7,7,7,7,7,7,7,7,7,7,7,7,7,7,7,7,7,7,7,7,7,7,7,7,7,7,7,7,7,7,7,7,7,7,7,7,7,7,7,7,7,7,7,7,7,7,7,7,7,7,7,7,7,7,7,7,8,8,8,8,8,8,8,8,8,8,8,8,8,8,8,8,8,8,8,8,8,8,8,8,8,8,8,8,8,8,8,8,8,8,8,8,8,8,8,8,8,8,8,8,8,8,8,8,8,8,8,8,8,8,8,8,8,8,8,8,8,8,8,8,8,8,8,8,8,8,8,8,8,8,8,8,8,8,8,8,8,8,8,8,8,8,8,8,8,8,8,8,8,8,8,8,8,8,8,8,8,8,8,8,8,8,8,8,8,8,8,8,8,8,8,8,8,8,8,8,8,8,8,8,8,8,8,8]⟩)
theorem tab8_all:((List.range 256).map fun x:Nat=>iIdxS tab8 (.int .u8 (x:Int)))=(List.range 256).map fun x:Nat=>some (.int .u8 (len8 x:Int)):=by kernel_rfl
theorem tab8_at {x:Nat} (h:x<256):iIdxS tab8 (.int .u8 (x:Int))=some (.int .u8 (len8 x:Int)):=by
 have:=congrArg (fun l=>l[x]?) tab8_all
 simpa [h] using this
theorem len8_spec {x:Nat} (h:0<x):1≤len8 x∧2^(len8 x-1)≤x∧x<2^len8 x:=by
 unfold len8
 rw [if_neg (by omega)]
 refine ⟨by omega,?_,Nat.lt_log2_self⟩
 rw [Nat.add_sub_cancel]
 exact Nat.log2_self_le (by omega)

theorem C141 {x:Nat} {h:Heap} {K:Value→Heap→Prop} (h0:0<x) (hx:x<4294967296) (hk:∀n:Nat,1≤n→n≤32→2^(n-1)≤x→x<2^n→K (I n) h):CallP Tryz.prog 141 [.int .u32 (x:Int)] h K:=by
 refine f141 ?_
 have last:∀{y n0:Nat},0<y→y<256→n0≤24→2^n0*y≤x→x<2^n0*(y+1)→p141z9 Tryz.prog K (.int .u32 (y:Int)) (I n0) h:=by
  intro y n0 y0 y256 hn0 hlo hhi
  rw [q141z9]
  have cv:iConv .u8 (.int .u32 (y:Int))=some (.int .u8 (y:Int)):=by
   rw [conv_int];congr 2
   have e:IntKind.wrap .u8 (y:Int)=(y:Int)%256:=by simp [IntKind.wrap,IntKind.bits,IntKind.signed]
   rw [e];omega
  obtain ⟨l1,l2,l3⟩:=len8_spec y0
  have l8:len8 y≤8:=by
   apply Classical.byContradiction
   intro hn
   have:2^8≤2^(len8 y-1):=Nat.pow_le_pow_right (by decide) (by omega)
   omega
  have ix:=tab8_at y256
  have w1:iConv .i64 (.int .u8 (len8 y:Int))=some (I (len8 y)):=by rw [conv_int,wrap64 (by omega) (by omega)]
  have w2:iBin .add (I n0) (I (len8 y))=some (I (n0+len8 y:Nat)):=by rw [bin_add,wrap64 (by omega) (by omega)];congr 2 <;> omega
  unfold tab8 at ix
  rw [cv,OP_some,ix,OP_some,w1,OP_some,w2,OP_some]
  refine hk _ (by omega) (by omega) ?_ ?_
  ·rw [show n0+len8 y-1=n0+(len8 y-1) by omega,Nat.pow_add]
   exact Nat.le_trans (Nat.mul_le_mul_left _ l2) hlo
  ·rw [Nat.pow_add]
   exact Nat.lt_of_lt_of_le hhi (Nat.mul_le_mul_left _ l3)
 have mid:∀{y n0:Nat},0<y→y<65536→n0≤16→2^n0*y≤x→x<2^n0*(y+1)→p141z5 Tryz.prog K (.int .u32 (y:Int)) (I n0) h:=by
  intro y n0 y0 y65 hn0 hlo hhi
  rw [q141z5]
  simp only [bin_geq,OP_some,IfP_dec]
  refine ⟨fun hge=>?_,fun hlt=>last y0 (by omega) (by omega) hlo hhi⟩
  have sh:iBin .shr (.int .u32 (y:Int)) (.int .u64 8)=some (.int .u32 ((y / 2^8:Nat):Int)):=shrN .u32 .u64 (n:=8) (by decide) (by decide)
  have w2:iBin .add (I n0) (.int .i64 8)=some (I (n0+8:Nat)):=by rw [bin_add,wrap64 (by omega) (by omega)];congr 2
  simp only [sh,OP_some,w2]
  have hdm:=Nat.div_add_mod y 256
  have hml:=Nat.mod_lt y (show 0<256 by decide)
  refine last (y:=y / 2^8) (by omega) (by omega) (by omega) ?_ ?_
  ·rw [Nat.pow_add,Nat.mul_assoc]
   exact Nat.le_trans (Nat.mul_le_mul_left _ (by omega)) hlo
  ·rw [Nat.pow_add,Nat.mul_assoc]
   exact Nat.lt_of_lt_of_le hhi (Nat.mul_le_mul_left _ (by omega))
 unfold T141
 simp only [bin_geq,OP_some,IfP_dec]
 refine ⟨fun hge=>?_,fun hlt=>mid (n0:=0) h0 (by omega) (by decide) (by simp) (by simp)⟩
 have sh:iBin .shr (.int .u32 (x:Int)) (.int .u64 16)=some (.int .u32 ((x / 2^16:Nat):Int)):=shrN .u32 .u64 (n:=16) (by decide) (by decide)
 simp only [sh,OP_some]
 have hdm:=Nat.div_add_mod x 65536
 have hml:=Nat.mod_lt x (show 0<65536 by decide)
 exact mid (n0:=16) (y:=x / 2^16) (by omega) (by omega) (by decide) (by omega) (by omega)

theorem C135 {x:Nat} {h:Heap} {K:Value→Heap→Prop} (h0:0<x) (hx:x<4294967296) (hk:∀s:Nat,s≤31→2147483648≤x*2^s→x*2^s<4294967296→K (I s) h):CallP Tryz.prog 135 [.int .u32 (x:Int)] h K:=by
 refine f135 ?_
 unfold T135
 refine C141 h0 hx ?_
 intro n h1 h32 hlo hhi
 have e:iBin .sub (.int .i64 32) (I n)=some (I (32-n:Nat)):=by rw [bin_sub,wrap64 (by omega) (by omega)];congr 2;omega
 simp only [e,OP_some]
 have p1:2^(n-1)*2^(32-n)=2147483648:=by rw [←Nat.pow_add,show n-1+(32-n)=31 by omega]
 have p2:2^n*2^(32-n)=4294967296:=by rw [←Nat.pow_add,show n+(32-n)=32 by omega]
 refine hk _ (by omega) ?_ ?_
 ·rw [←p1];exact Nat.mul_le_mul_right _ hlo
 ·rw [←p2];exact Nat.mul_lt_mul_of_pos_right hhi (Nat.pow_pos (by decide))

end Go.Proofs.YtelmdbpaoifmoaaGreat


namespace Go.Proofs.YtelmdbpaoifmoaaGreat
open Go.Sim

theorem pow_split {s:Nat} (hs:s≤31):(4294967296:Nat)=2^s*2^(32-s):=by rw [←Nat.pow_add,show s+(32-s)=32 by omega]

theorem up_digit {s x:Nat} (hs:s≤31) (hx:x<4294967296):(∃q,x*2^s%4294967296=2^s*q)∧x*2^s / 4294967296<2^s:=by
 have e:=pow_split hs
 have p0:0<2^s:=Nat.pow_pos (by decide)
 refine ⟨⟨x%2^(32-s),?_⟩,?_⟩
 ·rw [e,Nat.mul_comm x,Nat.mul_mod_mul_left]
 ·rw [Nat.div_lt_iff_lt_mul (by decide),Nat.mul_comm x]
  exact Nat.mul_lt_mul_of_pos_left hx p0

theorem up_val {P c t d e X Y:Nat} (h1:X+P*c=Y+P*(d+c)) (h2:4294967296*e+d=t):X+P*4294967296*e=Y+P*t:=by
 rw [←h2]
 grind

theorem C136 {v:Value} {xs:List Nat} {s:Nat} {h:Heap} {K:Value→Heap→Prop} (hx:DS 177 .u32 h v xs) (lx:Lim 4294967296 xs) (hs:s≤31) (hl:xs.length≤200)
  (hk:∀os,os.length=xs.length+1→Lim 4294967296 os→val 4294967296 os=val 4294967296 xs*2^s→K (sl 177 h.length 0 (xs.length+1)) (hd h os)):CallP Tryz.prog 136 [v,I s] h K:=by
 refine f136 ?_
 have e1:IntKind.wrap .i64 ((xs.length:Int)+1)=((xs.length+1:Nat):Int):=by rw [wrap64 (by omega) (by omega)];omega
 simp only [T136,hx.len,OP_some,bin_add,e1,make_hd (show xs.length+1≤1000 by omega),OH_some]
 have p0:0<2^s:=Nat.pow_pos (by decide)
 refine loopL (σ:=List Nat×Nat) (fun p=>[I p.2]) (fun p=>hd h p.1) (fun p=>p.2≤xs.length∧p.1.length=xs.length+1∧Lim 4294967296 p.1∧val 4294967296 p.1=val 4294967296 (xs.take p.2)*2^s∧
   (∀k,p.2<k→k≤xs.length→p.1[k]?=some 0)∧∃c,p.1[p.2]?=some c∧c<2^s) (fun p=>xs.length-p.2)
  (List.replicate (xs.length+1) 0,0) rfl rfl ⟨Nat.zero_le _,by simp,Lim.zeros (by decide) _,by simp [val_zeros,val],fun k _ (h2:k≤xs.length)=>by rw [List.getElem?_replicate,if_pos (by omega)],0,by simp,p0⟩ ?_
 rintro ⟨os,i⟩ ⟨hi,hol,lo,hval,hz,c,hc,hcs⟩ L hL
 simp only at hi hol lo hval hz hc hcs hL⊢
 rw [q136z6]
 simp only [bin_lss,OP_some,IfP_dec]
 refine ⟨fun hlt=>?_,fun hge=>?_⟩
 ·have hil:i<xs.length:=by omega
  obtain ⟨b,r1,r2⟩:=hx.get hil
  have hxb:=lx _ (List.getElem_mem hil)
  have tx:=val_take_succ 4294967296 xs hil
  have r2':iLoad false 1 (hd h os) (pt b i)=some (.int .u32 (xs[i]:Int)):=(hd_EX h os).load r2
  generalize xs[i]=x at*
  obtain ⟨⟨q,hq⟩,hqd⟩:=up_digit hs hxb
  have hcv:os[i]'(by omega)=c:=by
   rw [List.getElem?_eq_getElem (by omega)] at hc
   injection hc
  have ld:=hd_load (h:=h) (os:=os) (j:=i) (by omega)
  rw [hcv] at ld
  have hqb:2^s*q<4294967296:=by rw [←hq];exact Nat.mod_lt _ (by decide)
  have hqc:2^s*q+c<4294967296:=by
   have e:=pow_split hs
   have h3:q<2^(32-s):=by
    apply Classical.byContradiction
    intro hn
    have:2^s*2^(32-s)≤2^s*q:=Nat.mul_le_mul_left _ (by omega)
    omega
   have h4:2^s*(q+1)≤2^s*2^(32-s):=Nat.mul_le_mul_left _ (by omega)
   rw [Nat.mul_add] at h4
   omega
  have ea:iAdrSl 1 (sl 177 h.length 0 (xs.length+1)) (I i)=some (pt h.length i):=adr_sl (by omega)
  have ea2:iAdrSl 1 (sl 177 h.length 0 (xs.length+1)) (I (i+1:Nat))=some (pt h.length (i+1)):=adr_sl (by omega)
  have hmd:=Nat.div_add_mod (x*2^s) 4294967296
  have hdl:x*2^s / 4294967296<4294967296:=by
   have:2^s≤2^31:=Nat.pow_le_pow_right (by decide) hs
   omega
  have wi:IntKind.wrap .i64 ((i:Int)+1)=((i+1:Nat):Int):=by rw [wrap64 (by omega) (by omega)];omega
  simp only [r1,r2',OP_some,cv64 hxb,shl64 .i64 (show s<32 by omega) hxb,ea,ld,cv32,hq,or_add hs hcs hqb,hd_store _ (show i<os.length by omega),OH_some,bin_add,wi,shr32,ea2,Nat.mod_eq_of_lt hdl,
   hd_store _ (show i+1<(os.set i (2^s*q+c)).length by rw [List.length_set];omega),true_and]
  have v1:=val_set 4294967296 os i (2^s*q+c) (by omega)
  have v2:=val_set 4294967296 (os.set i (2^s*q+c)) (i+1) (x*2^s / 4294967296) (by rw [List.length_set];omega)
  have hz1:=hz (i+1) (by omega) (by omega)
  have hz2:(os.set i (2^s*q+c))[i+1]'(by rw [List.length_set];omega)=0:=by
   rw [List.getElem_set_ne (by omega)]
   rw [List.getElem?_eq_getElem (by omega)] at hz1
   injection hz1
  rw [hcv] at v1
  rw [hz2,Nat.mul_zero,Nat.add_zero,Nat.pow_succ] at v2
  rw [hq] at hmd
  refine hL ((os.set i (2^s*q+c)).set (i+1) (x*2^s / 4294967296),i+1) ⟨by show i+1≤_;omega,by simp [hol],(lo.set hqc i).set hdl (i+1),?_,fun k h1 h2=>?_,_,List.getElem?_set_self (by rw [List.length_set];omega),hqd⟩ (by show xs.length-(i+1)<xs.length-i;omega)
  ·show val 4294967296 ((os.set i (2^s*q+c)).set (i+1) (x*2^s / 4294967296))=val 4294967296 (xs.take (i+1))*2^s
   rw [v2,up_val v1 hmd,tx,Nat.add_mul,←hval,Nat.mul_assoc (4294967296^i) x]
  ·have h1:i+1<k:=h1
   rw [List.getElem?_set_ne (by omega),List.getElem?_set_ne (by omega)]
   exact hz k (by omega) h2
 ·have hie:i=xs.length:=by omega
  subst hie
  rw [List.take_length] at hval
  rw [q136z14]
  exact hk os hol lo hval

theorem val_dropD (B:Nat) (xs:List Nat) {i:Nat} (hi:i≤xs.length):val B xs=val B (xs.take i)+B^i*val B (xs.drop i):=by
 have:=val_append B (xs.take i) (xs.drop i)
 rwa [List.take_append_drop,List.length_take,Nat.min_eq_left hi] at this

theorem down_digit {s x y Z:Nat} (hs:s≤31):(x+4294967296*(y+4294967296*Z)) / 2^s%4294967296=(x+y*4294967296) / 2^s%4294967296:=by
 have e:=pow_split hs
 have p0:0<2^s:=Nat.pow_pos (by decide)
 have:x+4294967296*(y+4294967296*Z)=x+y*4294967296+2^s*(4294967296*(2^(32-s)*Z)):=by
  generalize 2^s=a at*
  generalize 2^(32-s)=b at*
  grind
 rw [this,Nat.add_mul_div_left _ _ p0,Nat.add_mul_mod_self_left]

theorem C138 {v:Value} {xs:List Nat} {s:Nat} {h:Heap} {K:Value→Heap→Prop} (hx:DS 177 .u32 h v xs) (lx:Lim 4294967296 xs) (hs:s≤31) (hl:xs.length≤200)
  (hk:∀v' h',EX h h'→MagV h' v' (val 4294967296 xs / 2^s)→K v' h'):CallP Tryz.prog 138 [v,I s] h K:=by
 refine f138 ?_
 simp only [T138,hx.len,OP_some,make_hd (show xs.length≤1000 by omega),OH_some]
 refine loopL (σ:=List Nat×Nat) (fun p=>[I p.2]) (fun p=>hd h p.1) (fun p=>p.2≤xs.length∧p.1.length=xs.length∧Lim 4294967296 p.1∧val 4294967296 p.1=val 4294967296 xs / 2^s%4294967296^p.2∧
   ∀k,p.2≤k→k<xs.length→p.1[k]?=some 0) (fun p=>xs.length-p.2)
  (List.replicate xs.length 0,0) rfl rfl ⟨Nat.zero_le _,by simp,Lim.zeros (by decide) _,by simp [val_zeros,Nat.mod_one],fun k _ (h2:k<xs.length)=>by rw [List.getElem?_replicate,if_pos h2]⟩ ?_
 rintro ⟨os,i⟩ ⟨hi,hol,lo,hval,hz⟩ L hL
 simp only at hi hol lo hval hz hL⊢
 rw [q138z6]
 simp only [bin_lss,OP_some,IfP_dec]
 refine ⟨fun hlt=>?_,fun hge=>?_⟩
 ·have hil:i<xs.length:=by omega
  obtain ⟨b,r1,r2⟩:=hx.get hil
  have hxb:=lx _ (List.getElem_mem hil)
  have r2':iLoad false 1 (hd h os) (pt b i)=some (.int .u32 (xs[i]:Int)):=(hd_EX h os).load r2
  have wi:IntKind.wrap .i64 ((i:Int)+1)=((i+1:Nat):Int):=by rw [wrap64 (by omega) (by omega)];omega
  have ea:iAdrSl 1 (sl 177 h.length 0 xs.length) (I i)=some (pt h.length i):=adr_sl (by omega)
  -- what the digit is
  have fin:∀t:Nat,t / 2^s%4294967296=val 4294967296 (xs.drop i) / 2^s%4294967296→p138z15 Tryz.prog K v (I s) (sl 177 h.length 0 xs.length) (I i) (.int .u64 (t:Int)) (I xs.length) (I i) L (hd h os):=by
   intro t ht
   rw [q138z15]
   simp only [shrN .u64 .i64 (s:=t) (n:=s) (by have:IntKind.u64.bits=64:=rfl;omega) (by omega),OP_some,cv32,ea,hd_store _ (show i<os.length by omega),OH_some,q138z16,bin_add,wi,true_and]
   have hdl:t / 2^s%4294967296<4294967296:=Nat.mod_lt _ (by decide)
   refine hL (os.set i (t / 2^s%4294967296),i+1) ⟨by show i+1≤_;omega,by simp [hol],lo.set hdl i,?_,fun k h1 h2=>?_⟩ (by show xs.length-(i+1)<xs.length-i;omega)
   ·show val 4294967296 (os.set i (t / 2^s%4294967296))=val 4294967296 xs / 2^s%4294967296^(i+1)
    have v1:=val_set 4294967296 os i (t / 2^s%4294967296) (by omega)
    have hz1:=hz i (Nat.le_refl _) hil
    have hz2:os[i]'(by omega)=0:=by
     rw [List.getElem?_eq_getElem (by omega)] at hz1
     injection hz1
    rw [hz2,Nat.mul_zero,Nat.add_zero,hval] at v1
    rw [v1,ht,Nat.mod_pow_succ,Nat.div_div_eq_div_mul,Nat.mul_comm (2^s),←Nat.div_div_eq_div_mul]
    congr 3
    rw [val_dropD 4294967296 xs hi]
    have hlow:=val_lt (xs:=xs.take i) (lx.mono fun y hy=>List.mem_of_mem_take hy)
    rw [List.length_take,Nat.min_eq_left hi] at hlow
    have hB:0<4294967296^i:=Nat.pow_pos (by decide)
    rw [Nat.add_mul_div_left _ _ hB,Nat.div_eq_of_lt hlow,Nat.zero_add]
   ·have h1:i+1≤k:=h1
    rw [List.getElem?_set_ne (by omega)]
    exact hz k (by omega) h2
  have ed:xs.drop i=xs[i]::xs.drop (i+1):=List.drop_eq_getElem_cons hil
  simp only [r1,r2',OP_some,cv64 hxb,bin_add,wi,hx.len,bin_lss,IfP_dec]
  refine ⟨fun hlt2=>?_,fun hge2=>?_⟩
  ·have hil2:i+1<xs.length:=by omega
   obtain ⟨b2,s1,s2⟩:=hx.get hil2
   have hyb:=lx _ (List.getElem_mem hil2)
   have s2':iLoad false 1 (hd h os) (pt b2 (i+1))=some (.int .u32 (xs[i+1]:Int)):=(hd_EX h os).load s2
   have eor:iBin .or (.int .u64 (xs[i]:Int)) (.int .u64 ((xs[i+1]*4294967296:Nat):Int))=some (.int .u64 ((xs[i]+xs[i+1]*4294967296:Nat):Int)):=by
    have:=or64 hyb hxb
    simp only [iBin,iInt,if_true] at this⊢
    rw [BitVec.or_comm,this,Nat.add_comm]
   simp only [s1,s2',OP_some,cv64 hyb,shl32 hyb,eor]
   refine fin _ ?_
   rw [ed,List.drop_eq_getElem_cons hil2]
   simp only [val]
   rw [down_digit hs]
  ·refine fin _ ?_
   rw [ed,List.drop_eq_nil_of_le (by omega)]
   simp [val]
 ·have hie:i=xs.length:=by omega
  subst hie
  have hlt:val 4294967296 xs / 2^s<4294967296^xs.length:=Nat.lt_of_le_of_lt (Nat.div_le_self ..) (val_lt lx)
  rw [Nat.mod_eq_of_lt hlt] at hval
  rw [q138z17]
  have hdd:DS 177 .u32 (hd h os) (sl 177 h.length 0 xs.length) os:=by rw [←hol];exact hd_DS h os
  refine C118 hdd lo (by omega) ?_
  intro v' hv'
  rw [hval] at hv'
  exact hk v' _ (hd_EX h os) hv'

end Go.Proofs.YtelmdbpaoifmoaaGreat


namespace Go.Proofs.YtelmdbpaoifmoaaGreat
open Go.Sim

theorem div_step {A Q V low D P:Nat} (hA:A=low+P*D+Q*V):A=low+P*(D%V)+(Q+P*(D / V))*V:=by
 have:=Nat.div_add_mod D V
 have e:P*(V*(D / V)+D%V)=P*D:=by rw [this]
 rw [hA,Nat.add_mul]
 have e2:P*(V*(D / V)+D%V)=P*(D / V)*V+P*(D%V):=by grind
 omega

theorem take_all {B n U l d:Nat} (h:U=l+B^n*d) (hU:U<B^n):d=0:=by
 apply Classical.byContradiction
 intro hne
 have:B^n*1≤B^n*d:=Nat.mul_le_mul_left _ (by omega)
 generalize B^n=Z at*
 omega

theorem top_zero {B j m U V L D X T:Nat} (h1:U=L+B^j*D) (h2:D=X+B^(m+3)*T) (hV:V<B^(m+2)) (hB:0<B) (hlt:U<V*B^(j+1)):T=0:=by
 apply Classical.byContradiction
 intro hne
 have a1:B^(m+3)*1≤B^(m+3)*T:=Nat.mul_le_mul_left _ (by omega)
 have a2:B^j*B^(m+3)≤B^j*D:=Nat.mul_le_mul_left _ (by rw [h2];generalize B^(m+3)*T=z at*;omega)
 have a3:V*B^(j+1)<B^(m+2)*B^(j+1):=Nat.mul_lt_mul_of_pos_right hV (Nat.pow_pos hB)
 rw [←Nat.pow_add] at a2 a3
 rw [show m+2+(j+1)=j+(m+3) by omega] at a3
 generalize B^(j+(m+3))=z at*
 generalize V*B^(j+1)=w at*
 generalize B^j*D=y at*
 omega

theorem below_lt {B j V L D U:Nat} (h1:U=L+B^j*D) (hlt:U<V*B^(j+1)):D<V*B:=by
 apply Classical.byContradiction
 intro hne
 have a1:B^j*(V*B)≤B^j*D:=Nat.mul_le_mul_left _ (by omega)
 have a2:V*B^(j+1)=B^j*(V*B):=by
  rw [Nat.pow_succ]
  generalize B^j=z
  rw [←Nat.mul_assoc,Nat.mul_comm _ z,Nat.mul_assoc]
 rw [a2] at hlt
 generalize B^j*(V*B)=w at*
 generalize B^j*D=y at*
 omega

theorem left_lt {B j L r V:Nat} (hL:L<B^j) (hr:r<V):L+B^j*r<V*B^j:=by
 have:B^j*(r+1)≤B^j*V:=Nat.mul_le_mul_left _ hr
 rw [Nat.mul_add,Nat.mul_one] at this
 rw [Nat.mul_comm V]
 generalize B^j*V=w at*
 generalize B^j*r=y at*
 generalize B^j=z at*
 omega

theorem norm_len {n b s top:Nat} {vs ys:List Nat} (cv:Canon 4294967296 vs) (ly:Lim 4294967296 ys) (hn:ys.length=n+1) (htop:ys[n]?=some top) (hb:val 4294967296 ys=b) (hv:val 4294967296 vs=b*2^s) (hs:s≤31) (h1:2147483648≤top*2^s) (h2:top*2^s<4294967296):
  vs.length=n+1∧∃v1,vs[n]?=some v1∧2147483648≤v1:=by
 have te:ys[n]'(by omega)=top:=by
  rw [List.getElem?_eq_getElem (by omega)] at htop
  injection htop
 have tv:=val_take_succ 4294967296 ys (i:=n) (by omega)
 rw [List.take_of_length_le (by omega),te,hb] at tv
 have hlow:=val_lt (xs:=ys.take n) (ly.mono fun y hy=>List.mem_of_mem_take hy)
 rw [List.length_take,Nat.min_eq_left (by omega)] at hlow
 generalize val 4294967296 (ys.take n)=l at*
 have hP:0<4294967296^n:=Nat.pow_pos (by decide)
 have hlo:2147483648*4294967296^n≤b*2^s:=by
  have e1:top*2^s*4294967296^n≤b*2^s:=by
   rw [tv,Nat.add_mul]
   have:4294967296^n*top*2^s=top*2^s*4294967296^n:=by
    rw [Nat.mul_assoc,Nat.mul_comm]
   omega
  exact Nat.le_trans (Nat.mul_le_mul_right _ h1) e1
 have hhi:b*2^s<4294967296^(n+1):=by
  have e:=pow_split hs
  have p0:0<2^s:=Nat.pow_pos (by decide)
  have t1:top+1≤2^(32-s):=by
   apply Classical.byContradiction
   intro hn
   have:2^s*2^(32-s)≤2^s*top:=Nat.mul_le_mul_left _ (by omega)
   rw [Nat.mul_comm (2^s) top] at this
   omega
  have t2:b<(top+1)*4294967296^n:=by
   rw [tv,Nat.add_mul,Nat.one_mul,Nat.mul_comm top]
   omega
  have t3:b*2^s<(top+1)*4294967296^n*2^s:=Nat.mul_lt_mul_of_pos_right t2 p0
  have t4:(top+1)*4294967296^n*2^s≤2^(32-s)*4294967296^n*2^s:=Nat.mul_le_mul_right _ (Nat.mul_le_mul_right _ t1)
  have t5:2^(32-s)*4294967296^n*2^s=4294967296^n*(2^s*2^(32-s)):=by
   generalize 2^(32-s)=x
   generalize 2^s=y
   generalize 4294967296^n=z
   grind
  rw [t5,←e,←Nat.pow_succ] at t4
  omega
 have hle:vs.length≤n+1:=cv.len (by decide) (by rw [hv];exact hhi)
 have hge:n<vs.length:=by
  have h3:=val_lt cv.1
  rw [hv] at h3
  have h4:4294967296^n<4294967296^vs.length:=by
   have:1*4294967296^n≤2147483648*4294967296^n:=Nat.mul_le_mul_right _ (by decide)
   omega
  exact (Nat.pow_lt_pow_iff_right (by decide)).1 h4
 refine ⟨by omega,vs[n],List.getElem?_eq_getElem hge,?_⟩
 have t2:=val_take_succ 4294967296 vs (i:=n) hge
 rw [List.take_of_length_le (by omega),hv] at t2
 have hl2:=val_lt (xs:=vs.take n) (cv.1.mono fun y hy=>List.mem_of_mem_take hy)
 rw [List.length_take,Nat.min_eq_left (by omega)] at hl2
 apply Classical.byContradiction
 intro hc
 have:4294967296^n*(vs[n]+1)≤4294967296^n*2147483648:=Nat.mul_le_mul_left _ (by omega)
 rw [Nat.mul_add,Nat.mul_one,Nat.mul_comm _ 2147483648] at this
 omega

theorem slsl_at {id N l r:Nat} (h1:l≤r) (h2:r≤N):iSlSl 177 1 (sl 177 id 0 N) (some (I l)) (some (I r))=some (sl 177 id l (r-l)):=by
 simp [iSlSl,sl,iBounds,natOf,h1,h2]
theorem slsl_hi {id N r:Nat} (h2:r≤N):iSlSl 177 1 (sl 177 id 0 N) none (some (I r))=some (sl 177 id 0 r):=by
 simp [iSlSl,sl,iBounds,natOf,h2]

section
variable {h : Heap} {K : Value → Heap → Prop}

theorem C130_16 {g:Heap} {id iq iv m s nq A:Nat} {vs us:List Nat} {rest:List Value} {v1:Nat} (hid:h.length≤id) (hiq:h.length≤iq) (hne:iv≠id) (hne2:iv≠iq) (hne3:id≠iq) (hn:vs.length=m+2) (hm:m≤1000) (hs:s≤31)
  (lv:Lim 4294967296 vs) (hv1:vs[m+1]?=some v1) (hhi:2147483648≤v1) (hul:us.length=nq+1+(m+2)) (hnq:nq≤200) (hm2:m≤150) (lu:Lim 4294967296 us) (hA:val 4294967296 us=A) (hAl:A<val 4294967296 vs*4294967296^(nq+1))
  (hx:EX h g) (ku:g[id]?=some (.arr 177 (wv us))) (kq:g[iq]?=some (.arr 177 (wv (List.replicate (nq+1) 0)))) (kv:objCells g iv=some (wv vs++rest))
  (hk:∀q r h',EX h h'→MagV h' q (A / val 4294967296 vs)→MagV h' r (A%val 4294967296 vs / 2^s)→K (.tuple #[q,r]) h'):
  LoopP [I nq] g fun L1 xs hx=>p130z16 Tryz.prog K (I s) (sl 177 iv 0 (m+2)) (sl 177 id 0 (nq+1+(m+2))) (I (m+2:Nat)) (sl 177 iq 0 (nq+1)) L1 xs hx:=by
 have V0:0<val 4294967296 vs:=by
  apply Nat.pos_of_ne_zero
  intro e
  rw [e,Nat.zero_mul] at hAl
  omega
 have Vn:=val_lt lv
 rw [hn] at Vn
 refine loopL (σ:=Nat×List Nat×List Nat×Heap) (fun p=>[I ((p.1:Int)-1)]) (fun p=>p.2.2.2)
  (fun p=>p.1≤nq+1∧EX h p.2.2.2∧p.2.1.length=nq+1+(m+2)∧Lim 4294967296 p.2.1∧p.2.2.1.length=nq+1∧Lim 4294967296 p.2.2.1∧(∀k,k<p.1→p.2.2.1[k]?=some 0)∧
   A=val 4294967296 p.2.1+val 4294967296 p.2.2.1*val 4294967296 vs∧val 4294967296 p.2.1<val 4294967296 vs*4294967296^p.1∧
   p.2.2.2[id]?=some (.arr 177 (wv p.2.1))∧p.2.2.2[iq]?=some (.arr 177 (wv p.2.2.1))∧objCells p.2.2.2 iv=some (wv vs++rest)) (fun p=>p.1)
  (nq+1,us,List.replicate (nq+1) 0,g) (by simp) rfl ⟨Nat.le_refl _,hx,hul,lu,by simp,Lim.zeros (by decide) _,fun k (hk:k<nq+1)=>by rw [List.getElem?_replicate,if_pos hk],by show A=_;rw [hA,val_zeros];simp,by show val 4294967296 us<_;rw [hA];exact hAl,ku,kq,kv⟩ ?_
 clear ku kq kv hx lu hA hul us g
 rintro ⟨jn,us,qs,g⟩ ⟨hjn,hx,hul,lu,hql,lq,hz,hA,hlt,ku,kq,kv⟩ L hL
 simp only at hjn hx hul lu hql lq hz hA hlt ku kq kv hL⊢
 rw [q130z16]
 simp only [bin_geq,OP_some,IfP_dec]
 refine ⟨fun hge=>?_,fun hneg=>?_⟩
 ·obtain ⟨j,rfl⟩:∃j,jn=j+1:=⟨jn-1,by omega⟩
  have ej:((j+1:Nat):Int)-1=(j:Int):=by omega
  have w1:iBin .add (I j) (I (m+2:Nat))=some (I (j+(m+2):Nat)):=by rw [bin_add,wrap64 (by omega) (by omega)];congr 2
  have w2:iBin .add (I (j+(m+2):Nat)) (.int .i64 1)=some (I (j+(m+3):Nat)):=by rw [bin_add,wrap64 (by omega) (by omega)];congr 2
  have w3:iBin .sub (I j) (.int .i64 1)=some (I ((j:Int)-1)):=by rw [bin_sub,wrap64 (by omega) (by omega)]
  have w4:j+(m+3)-j=m+3:=by omega
  rw [ej]
  simp only [w1,w2,OP_some,slsl_at (show j≤j+(m+3) by omega) (show j+(m+3)≤nq+1+(m+2) by omega),w4]
  have hdl:((us.drop j).take (m+3)).length=m+3:=by rw [List.length_take,List.length_drop];omega
  have hud:∀k,k≤m+2→us[j+k]?=((us.drop j).take (m+3))[k]?:=by
   intro k hk
   rw [List.getElem?_take_of_lt (by omega),List.getElem?_drop]
  have lud:Lim 4294967296 ((us.drop j).take (m+3)):=lu.mono fun y hy=>List.mem_of_mem_drop (List.mem_of_mem_take hy)
  -- the number:what is below,what is divided,and nothing above
  have hd1:=val_dropD 4294967296 us (i:=j) (by omega)
  have hd2:=val_dropD 4294967296 (us.drop j) (i:=m+3) (by rw [List.length_drop];omega)
  have hlow:=val_lt (xs:=us.take j) (lu.mono fun y hy=>List.mem_of_mem_take hy)
  rw [List.length_take,Nat.min_eq_left (by omega)] at hlow
  have htop:val 4294967296 ((us.drop j).drop (m+3))=0:=top_zero hd1 hd2 Vn (by decide) hlt
  rw [htop,Nat.mul_zero,Nat.add_zero] at hd2
  rw [hd2] at hd1
  have hUV:val 4294967296 ((us.drop j).take (m+3))<val 4294967296 vs*4294967296:=below_lt hd1 hlt
  refine C137 ku kv hne hn hm hdl (by omega) hud lud lv hv1 hhi hUV ?_
  intro rs hrl lr hrv
  have kq':(g.set id (.arr 177 (wv (mid us j rs))))[iq]?=some (.arr 177 (wv qs)):=by rw [List.getElem?_set_ne hne3];exact kq
  have eadr:iAdrSl 1 (sl 177 iq 0 (nq+1)) (I j)=some (pt iq j):=adr_sl (by omega)
  simp only [eadr,OP_some,arr_store _ kq' (show j<qs.length by omega),OH_some,w3,true_and]
  have hqd:val 4294967296 ((us.drop j).take (m+3)) / val 4294967296 vs<4294967296:=by
   rw [Nat.div_lt_iff_lt_mul V0,Nat.mul_comm];exact hUV
  have hmr:val 4294967296 (mid us j rs)=val 4294967296 (us.take j)+4294967296^j*(val 4294967296 ((us.drop j).take (m+3))%val 4294967296 vs):=by
   unfold mid
   rw [val_append,val_append,List.length_take,Nat.min_eq_left (by omega),hrv,hrl]
   have:us.drop (j+(m+3))=(us.drop j).drop (m+3):=by rw [List.drop_drop]
   rw [this,htop,Nat.mul_zero,Nat.add_zero]
  have hz1:=hz j (by omega)
  have hz2:qs[j]'(by omega)=0:=by
   rw [List.getElem?_eq_getElem (by omega)] at hz1
   injection hz1
  have hqs:=val_set 4294967296 qs j (val 4294967296 ((us.drop j).take (m+3)) / val 4294967296 vs) (by omega)
  rw [hz2,Nat.mul_zero,Nat.add_zero] at hqs
  have hmod:=Nat.mod_lt (val 4294967296 ((us.drop j).take (m+3))) V0
  refine hL (j,mid us j rs,qs.set j (val 4294967296 ((us.drop j).take (m+3)) / val 4294967296 vs),_) ⟨by show j≤_;omega,(hx.set hid _).set hiq _,by rw [mid_len (by omega)];exact hul,?_,by rw [List.length_set];exact hql,lq.set hqd j,fun k hk=>?_,?_,?_,?_,set_get kq',?_⟩ (by show j<j+1;omega)
  ·unfold mid
   exact (lu.mono fun y hy=>List.mem_of_mem_take hy).append (lr.append (lu.mono fun y hy=>List.mem_of_mem_drop hy))
  ·have hk:k<j:=hk
   rw [List.getElem?_set_ne (by omega)]
   exact hz k (by omega)
  ·show A=val 4294967296 (mid us j rs)+val 4294967296 (qs.set j _)*val 4294967296 vs
   rw [hmr,hqs]
   refine div_step ?_
   rw [hA,hd1]
  ·show val 4294967296 (mid us j rs)<val 4294967296 vs*4294967296^j
   rw [hmr]
   exact left_lt hlow hmod
  ·rw [List.getElem?_set_ne hne3.symm];exact set_get ku
  ·rw [cells_set hne2,cells_set hne];exact kv
 ·have hj0:jn=0:=by omega
  subst hj0
  rw [Nat.pow_zero,Nat.mul_one] at hlt
  have hQ:A / val 4294967296 vs=val 4294967296 qs:=by rw [hA,Nat.add_mul_div_right _ _ V0,Nat.div_eq_of_lt hlt,Nat.zero_add]
  have hR:A%val 4294967296 vs=val 4294967296 us:=by rw [hA,Nat.add_mul_mod_self_right,Nat.mod_eq_of_lt hlt]
  have hdq:DS 177 .u32 g (sl 177 iq 0 (nq+1)) qs:=.inr ⟨iq,by rw [hql],.inr ⟨[],by rw [List.append_nil];simp [objCells,kq,wv]⟩⟩
  rw [q130z21]
  refine C118 hdq lq (by omega) ?_
  intro q hq
  have htk:val 4294967296 (us.take (m+2))=val 4294967296 us:=by
   have hd:=val_dropD 4294967296 us (i:=m+2) (by omega)
   have:val 4294967296 (us.drop (m+2))=0:=take_all hd (Nat.lt_trans hlt Vn)
   rw [this,Nat.mul_zero,Nat.add_zero] at hd
   exact hd.symm
  have hdu:DS 177 .u32 g (sl 177 id 0 (m+2)) (us.take (m+2)):=.inr ⟨id,by rw [List.length_take,Nat.min_eq_left (by omega)],.inr ⟨wv (us.drop (m+2)),by
   simp only [objCells,ku]
   congr 1
   show wv us=wv (us.take (m+2))++wv (us.drop (m+2))
   unfold wv
   rw [←List.map_append,List.take_append_drop]⟩⟩
  simp only [true_and,slsl_hi (show m+2≤nq+1+(m+2) by omega),OP_some]
  refine C118 hdu (lu.mono fun y hy=>List.mem_of_mem_take hy) (by rw [List.length_take];omega) ?_
  intro r0 hr0
  rw [htk] at hr0
  obtain ⟨zs,dz,cz,hz⟩:=hr0
  have lz:zs.length≤m+2:=cz.len (by decide) (by rw [hz];exact Nat.lt_trans hlt Vn)
  refine C138 dz cz.1 hs (by omega) ?_
  intro r h' x' hr
  rw [hz,←hR] at hr
  rw [←hQ] at hq
  exact hk q r h' (hx.trans x') (hq.mono x') hr

end
end Go.Proofs.YtelmdbpaoifmoaaGreat


namespace Go.Proofs.YtelmdbpaoifmoaaGreat
open Go.Sim

theorem start_lt {B a P Q s n l V:Nat} (ha:a<P*B^(n-1)) (hV:2147483648*P≤V) (hB:2^s≤2147483648) (hl:l=n) (hQ:Q=B^(n-1)) (_h:1≤n):a*2^s<V*Q:=by
 have _:=hl
 have h1:a*2^s<P*B^(n-1)*2^s:=Nat.mul_lt_mul_of_pos_right ha (Nat.pow_pos (by decide))
 have h2:P*B^(n-1)*2^s≤P*B^(n-1)*2147483648:=Nat.mul_le_mul_left _ hB
 have h3:2147483648*P*B^(n-1)≤V*B^(n-1):=Nat.mul_le_mul_right _ hV
 have e:P*B^(n-1)*2147483648=2147483648*P*B^(n-1):=by
  generalize B^(n-1)=z
  rw [Nat.mul_comm,←Nat.mul_assoc]
 rw [hQ]
 generalize V*B^(n-1)=x at*
 omega

theorem C130g {va vb:Value} {a b:Nat} {h:Heap} {K:Value→Heap→Prop} (ha:MagV h va a) (hb:MagV h vb b) (la:a<bigW) (lb:b<bigW) (b0:0<b) (hk:∀q r h',EX h h'→MagV h' q (a / b)→MagV h' r (a%b)→K (.tuple #[q,r]) h'):
  CallP Tryz.prog 130 [va,vb] h K:=by
 by_cases hbw:b<4294967296
 ·exact C130 ha hb la b0 hbw hk
 refine f130 ?_
 unfold T130
 refine C126 ha hb la lb ?_
 simp only [bin_lss,OP_some,IfP_dec]
 refine ⟨fun hlt=>?_,fun hge=>?_⟩
 ·have hab:=sgn_neg.1 hlt
  have ha0:=ha
  obtain ⟨xs,d,c,rfl⟩:=ha
  obtain ⟨s1,s2⟩:=d.cells
  have lx:=canW_len c la
  have hq:∀g,MagV g (.slice none 0 0) (val 4294967296 xs / b):=fun g=>⟨[],DS.nil _ _ _,⟨fun x hx=>by simp at hx,by simp⟩,by rw [Nat.div_eq_of_lt hab];rfl⟩
  by_cases h0:xs.length=0
  ·have e:iApp 177 1 4 h (.slice none 0 0) va=some (.slice none 0 0,h):=by
    simp only [iApp,s1,s2]
    rw [if_pos h0]
   simp only [e,OH_some]
   have:xs=[]:=List.length_eq_zero_iff.1 h0
   subst this
   exact hk _ _ h (EX.refl h) (hq h) ⟨[],DS.nil _ _ _,c,by rw [Nat.mod_eq_of_lt hab]⟩
  ·have e:iApp 177 1 4 h (.slice none 0 0) va=some (sl 177 h.length 0 xs.length,h++[.arr 177 (xs.map fun d:Nat=>Value.int .u32 (d:Int))]):=by
    simp only [iApp,s1,s2]
    rw [if_neg h0,if_pos ⟨by omega,by unfold maxLen;omega⟩]
   simp only [e,OH_some]
   refine hk _ _ _ (EX.append _ _) (hq _) ⟨xs,.inr ⟨h.length,rfl,.inr ⟨[],?_⟩⟩,c,by rw [Nat.mod_eq_of_lt hab]⟩
   simp [objCells]
 have hab:b≤a:=by
  apply Classical.byContradiction
  intro hc
  exact hge (sgn_neg.2 (by omega))
 obtain ⟨xs,dx,cx,hxa⟩:=ha
 obtain ⟨ys,dy,cy,hyb⟩:=hb
 have lx:=canW_len cx (by rw [hxa];exact la)
 have ly:=canW_len cy (by rw [hyb];exact lb)
 have hyl:=val_lt cy.1
 rw [hyb] at hyl
 obtain ⟨m,hm⟩:∃m,ys.length=m+2:=by
  refine ⟨ys.length-2,?_⟩
  have:¬ys.length≤1:=by
   intro h1
   have:4294967296^ys.length≤4294967296^1:=Nat.pow_le_pow_right (by decide) h1
   rw [Nat.pow_one] at this
   generalize 4294967296^ys.length=z at*
   omega
  omega
 have hyne:ys≠[]:=by rintro rfl;simp at hm
 have hylow:=Canon.low (by decide) cy hyne
 have hxl:=val_lt cx.1
 rw [hxa] at hxl
 rw [hyb] at hylow
 have hlen:ys.length≤xs.length:=by
  have:4294967296^(ys.length-1)<4294967296^xs.length:=Nat.lt_of_le_of_lt hylow (Nat.lt_of_le_of_lt hab hxl)
  have:=(Nat.pow_lt_pow_iff_right (show 1<4294967296 by decide)).1 this
  omega
 -- the greatest digit
 obtain ⟨ib,g1,g2⟩:=dy.get (j:=m+1) (by omega)
 have htop:ys[m+1]?=some (ys[m+1]'(by omega)):=List.getElem?_eq_getElem (by omega)
 have htl:=cy.1 _ (List.getElem_mem (l:=ys) (n:=m+1) (by omega))
 have ht0:0<ys[m+1]'(by omega):=by
  apply Nat.pos_of_ne_zero
  intro e
  refine cy.2 ?_
  rw [List.getLast?_eq_getElem?,hm,show m+2-1=m+1 by omega,htop,e]
 have lenb:iLenSl vb=some (I (m+2:Nat)):=by rw [dy.len,hm]
 have s1:iBin .sub (I (m+2:Nat)) (.int .i64 1)=some (I (m+1:Nat)):=by rw [bin_sub,wrap64 (by omega) (by omega)];congr 2;omega
 simp only [lenb,OP_some,bin_eql,decide_eq_false (show ¬(((m+2:Nat):Int)=1) by omega),IfP_false,s1,g1,g2]
 generalize ys[m+1]'(by omega)=top at*
 refine C135 ht0 htl ?_
 intro s hs h1 h2
 refine C136 dy cy.1 hs (by omega) ?_
 intro os1 ol1 lo1 hv1
 rw [hyb] at hv1
 have d1:DS 177 .u32 (hd h os1) (sl 177 h.length 0 (ys.length+1)) os1:=by rw [←ol1];exact hd_DS h os1
 refine C118 d1 lo1 (by omega) ?_
 intro v' hv'
 rw [hv1] at hv'
 obtain ⟨vs,dv,cv,hvv⟩:=hv'
 obtain ⟨hvl,v1,hv1t,hv1h⟩:=norm_len (n:=m+1) cv cy.1 hm htop hyb hvv hs h1 h2
 obtain ⟨iv,hive,rest,kv⟩:∃i,v'=sl 177 i 0 (m+2)∧∃rest,objCells (hd h os1) i=some (wv vs++rest):=by
  rcases dv with ⟨_,h0⟩ | ⟨i,e1,e2⟩
  ·rw [h0] at hvl;simp at hvl
  ·rcases e2 with h0 | ⟨r,hr⟩
   ·rw [h0] at hvl;simp at hvl
   ·exact ⟨i,by rw [e1,hvl],r,hr⟩
 subst hive
 have hivl:iv<(hd h os1).length:=by
  unfold objCells at kv
  apply Classical.byContradiction
  intro hn
  rw [List.getElem?_eq_none (by omega)] at kv
  cases kv
 refine C136 (dx.mono (hd_EX h os1)) cx.1 hs (by omega) ?_
 intro os2 ol2 lo2 hv2
 rw [hxa] at hv2
 have x2:=hd_EX (hd h os1) os2
 have k2:=hd_get (hd h os1) os2
 have l2:(hd (hd h os1) os2).length=(hd h os1).length+1:=by simp [hd]
 have kv2:=x2.cells kv
 have lv':iLenSl (sl 177 iv 0 (m+2))=some (I (m+2:Nat)):=rfl
 obtain ⟨nq,hnq⟩:∃nq,xs.length=nq+(m+2):=⟨xs.length-(m+2),by omega⟩
 have w1:iBin .sub (I (xs.length:Nat)) (I (m+2:Nat))=some (I nq):=by rw [bin_sub,wrap64 (by omega) (by omega)];congr 2;omega
 have w2:iBin .add (I nq) (.int .i64 1)=some (I (nq+1:Nat)):=by rw [bin_add,wrap64 (by omega) (by omega)];congr 2
 simp only [lv',OP_some,dx.len,w1,w2,make_hd (show nq+1≤1000 by omega),OH_some]
 have x3:=hd_EX (hd (hd h os1) os2) (List.replicate (nq+1) 0)
 have k3:=hd_get (hd (hd h os1) os2) (List.replicate (nq+1) 0)
 have k2':=x3.get k2
 have kv3:=x3.cells kv2
 have xA:=(hd_EX h os1).trans (x2.trans x3)
 have hl1:=(hd_EX h os1).1
 generalize hd (hd (hd h os1) os2) (List.replicate (nq+1) 0)=g3 at*
 have eN:xs.length+1=nq+1+(m+2):=by omega
 rw [eN]
 have hs31:2^s≤2147483648:=Nat.pow_le_pow_right (show 0<2 by decide) hs
 have hVlow:2147483648*4294967296^(m+1)≤val 4294967296 vs:=by
  have tv:=val_take_succ 4294967296 vs (i:=m+1) (by omega)
  rw [List.take_of_length_le (by omega)] at tv
  have e1:vs[m+1]'(by omega)=v1:=by
   rw [List.getElem?_eq_getElem (by omega)] at hv1t
   injection hv1t
  rw [e1] at tv
  rw [tv,Nat.mul_comm]
  have:4294967296^(m+1)*2147483648≤4294967296^(m+1)*v1:=Nat.mul_le_mul_left _ hv1h
  generalize 4294967296^(m+1)*v1=z at*
  omega
 have hAl:a*2^s<val 4294967296 vs*4294967296^(nq+1):=by
  have hxl':a<4294967296^(m+1)*4294967296^(nq+1):=by
   rw [←Nat.pow_add,show m+1+(nq+1)=xs.length by omega];exact hxl
  exact start_lt (n:=nq+2) (l:=nq+2) (by simpa using hxl') hVlow hs31 rfl (by simp) (by omega)
 have Vpos:0<2^s:=Nat.pow_pos (by decide)
 refine C130_16 (h:=h) (A:=a*2^s) (by omega) (by omega) (by omega) (by omega) (by omega) hvl (by omega) hs cv.1 hv1t hv1h (by omega) (by omega) (by omega) lo2 hv2 hAl xA k2' k3 kv3 ?_
 intro q r h' x' hq hr
 rw [hvv,Nat.mul_div_mul_right _ _ Vpos] at hq
 rw [hvv,Nat.mul_mod_mul_right,Nat.mul_div_cancel _ Vpos] at hr
 exact hk q r h' x' hq hr

end Go.Proofs.YtelmdbpaoifmoaaGreat


namespace Go.Proofs.YtelmdbpaoifmoaaGreat
open Go.Sim

def RatV (h:Heap) (val:Value) (a b:Int):Prop:=∃u w,val=.agg #[B (decide (a<0)),u,B (decide (b<0)),w]∧MagV h u a.natAbs∧MagV h w b.natAbs

theorem C112 {va:Value} {a:Int} {h:Heap} {K:Value→Heap→Prop} (ha:IntV h va a) (hk:∀r h',EX h h'→RatV h' r a 1→K r h'):CallP Tryz.prog 112 [va] h K:=by
 obtain ⟨v,rfl,hv⟩:=ha
 refine f112 ?_
 have e1:iBox 105 h (.agg #[B (decide (a<0)),v])=some (pt h.length 0,h++[.arr 105 [B (decide (a<0)),v]]):=rfl
 have e2:∀g:Heap,iAlloc 107 [(.bool false),(.slice none 0 0),(.bool false),(.slice none 0 0)] g=some (pt g.length 0,g++[.arr 107 z4]):=fun _=>rfl
 simp only [T112,e1,e2,OH_some,List.length_append,List.length_cons,List.length_nil]
 have g0:(h++[IObj.arr 105 [B (decide (a<0)),v]]++[IObj.arr 107 z4])[h.length]?=some (.arr 105 [B (decide (a<0)),v]):=by simp
 have g1:(h++[IObj.arr 105 [B (decide (a<0)),v]]++[IObj.arr 107 z4])[h.length+1]?=some (.arr 107 z4):=by simp
 have x1:EX h (h++[IObj.arr 105 [B (decide (a<0)),v]]++[IObj.arr 107 z4]):=(EX.append _ _).push _
 generalize h++[IObj.arr 105 [B (decide (a<0)),v]]++[IObj.arr 107 z4]=h1 at g0 g1 x1⊢
 rw [load2 g0]
 simp only [OP_some,true_and]
 refine C105 (by decide) (by decide) ?_
 intro r2 h2 x2 i2
 obtain ⟨w,rfl,hw⟩:=id i2
 refine ⟨⟨EX.load x2 (load2 g0),trivial⟩,?_⟩
 have hv2:=(hv.mono x1).mono x2
 obtain ⟨xs,dx,cx⟩:=id hv2
 obtain ⟨ys,dy,cy⟩:=id hw
 rw [build4 dx dy]
 simp only [OP_some,true_and,Nat.zero_add]
 have g2:=x2.get g1
 exact fin4 g2 (hk _ _ ((x1.trans x2).set (by omega) _) ⟨v,w,rfl,hv2.setB g2 _,hw.setB g2 _⟩)

theorem C90 {u w:Value} {s:Bool} {h:Heap} {K:Value→Heap→Prop} (hw:MagV h w 1) (hk:∀h',EX h h'→K (B true) h'):CallP Tryz.prog 90 [.agg #[B s,u,B false,w]] h K:=by
 refine f90 ?_
 have e1:iBox 107 h (.agg #[B s,u,B false,w])=some (pt h.length 0,h++[.arr 107 [B s,u,B false,w]]):=rfl
 simp only [T90,e1,OH_some]
 have x1:EX h (h++[IObj.arr 107 [B s,u,B false,w]]):=EX.append _ _
 have l3:iLoad false 1 (h++[IObj.arr 107 [B s,u,B false,w]]) (pt h.length 3)=some w:=load_last rfl
 obtain ⟨xs,dx,cx,vx⟩:=hw.mono x1
 have hx1:xs=[1]:=Canon.unique (by decide) cx ⟨fun y hy=>by simp at hy;subst hy;decide,by simp⟩ (by rw [vx];rfl)
 subst hx1
 obtain ⟨i,g1,g2⟩:=dx.get (j:=0) (by simp)
 have g1':iAdrSl 1 w (I 0)=some (pt i 0):=g1
 simp only [fadr_pt,Nat.zero_add,Nat.add_zero,OP_some,l3,dx.len,List.length_singleton,bin_eql,q90z4]
 rw [decide_eq_true (show ((1:Nat):Int)=1 by rfl)]
 simp only [GdP_tt,l3,OP_some,g1',g2,bin_eql,q90z6,iPick_t]
 exact hk _ x1

end Go.Proofs.YtelmdbpaoifmoaaGreat


namespace Go.Proofs.YtelmdbpaoifmoaaGreat
open Go.Sim

theorem RatV.mono {h h':Heap} {v:Value} {a b:Int} (x:EX h h') (p:RatV h v a b):RatV h' v a b:=let ⟨u,w,e,m,n⟩:=p;⟨u,w,e,m.mono x,n.mono x⟩
theorem RatV.setB {h:Heap} {v:Value} {a b:Int} {j:Nat} {e:TypeId} {s:Bool} {r:List Value} (p:RatV h v a b) (hj:h[j]?=some (.arr e (.bool s::r))) (o:IObj):RatV (h.set j o) v a b:=
 let ⟨u,w,e,m,n⟩:=p;⟨u,w,e,m.setB hj o,n.setB hj o⟩

theorem endR {h h':Heap} {j:Nat} {va vb:Value} {a b:Int} {K:Value→Heap→Prop} (ha:IntV h' va a) (hb:IntV h' vb b) (x:EX h h') (hj:h.length≤j) (hg:h'[j]?=some (.arr 107 z4)) (hk:∀r h',EX h h'→RatV h' r a b→K r h'):
  OP (iBuild [(.bool false),(.slice none 0 0),(.bool false),(.slice none 0 0)] [(0,2,va),(2,2,vb)]) fun x25=>OH (oStore 4 h' (pt j 0) x25) fun _ h_6=>OP (iLoad true 4 h_6 (pt j 0)) fun r0=>K r0 h_6:=by
 obtain ⟨v,rfl,hv⟩:=ha
 obtain ⟨w,rfl,hw⟩:=hb
 obtain ⟨xs,dx,_⟩:=id hv
 obtain ⟨ys,dy,_⟩:=id hw
 rw [build4 dx dy]
 simp only [OP_some]
 exact fin4 hg (hk _ _ (x.set hj _) ⟨v,w,rfl,hv.setB hg _,hw.setB hg _⟩)

theorem C75 {n:Int} {h:Heap} {K:Value→Heap→Prop} (h1: -9223372036854775808≤n) (h2:n<9223372036854775808) (hk:∀r h',EX h h'→RatV h' r n 1→K r h'):CallP Tryz.prog 75 [I n] h K:=by
 refine f75 ?_
 have e1:iAlloc 107 [(.bool false),(.slice none 0 0),(.bool false),(.slice none 0 0)] h=some (pt h.length 0,h++[.arr 107 z4]):=rfl
 simp only [T75,e1,OH_some]
 have x0:EX h (h++[.arr 107 z4]):=EX.append _ _
 have g0:(h++[IObj.arr 107 z4])[h.length]?=some (.arr 107 z4):=get_last
 generalize h++[IObj.arr 107 z4]=ga at x0 g0⊢
 refine C105 h1 h2 ?_
 intro r h3 x3 i3
 refine C105 (by decide) (by decide) ?_
 intro s h4 x4 i4
 exact endR (i3.mono x4) i4 (x0.trans (x3.trans x4)) (Nat.le_refl _) ((x3.trans x4).get g0) hk

theorem gcd_small {a b:Int} (b0:0<b):0<(Nat.gcd a.natAbs b.natAbs:Int)∧(Nat.gcd a.natAbs b.natAbs:Int)≤b:=by
 have h1:0<Nat.gcd a.natAbs b.natAbs:=Nat.gcd_pos_of_pos_right _ (by omega)
 have h2:Nat.gcd a.natAbs b.natAbs≤b.natAbs:=Nat.gcd_le_right _ (by omega)
 omega

end Go.Proofs.YtelmdbpaoifmoaaGreat


namespace Go.Proofs.YtelmdbpaoifmoaaGreat
open Go.Sim

theorem C90q {u w:Value} {s:Bool} {b:Nat} {h:Heap} {K:Value→Heap→Prop} (hw:MagV h w b) (lb:b<bigW) (hk:∀h',EX h h'→K (B (decide (b=1))) h'):CallP Tryz.prog 90 [.agg #[B s,u,B false,w]] h K:=by
 by_cases h1:b=1
 ·subst h1
  exact C90 hw hk
 rw [decide_eq_false h1] at hk
 refine f90 ?_
 have e1:iBox 107 h (.agg #[B s,u,B false,w])=some (pt h.length 0,h++[.arr 107 [B s,u,B false,w]]):=rfl
 simp only [T90,e1,OH_some]
 have x1:EX h (h++[IObj.arr 107 [B s,u,B false,w]]):=EX.append _ _
 have l3:iLoad false 1 (h++[IObj.arr 107 [B s,u,B false,w]]) (pt h.length 3)=some w:=load_last rfl
 obtain ⟨xs,dx,cx,vx⟩:=hw.mono x1
 simp only [fadr_pt,Nat.zero_add,OP_some,l3,dx.len,bin_eql]
 by_cases hl:xs.length=1
 ·obtain ⟨y,rfl⟩:∃y,xs=[y]:=by
   match xs,hl with
   | [y],_=>exact ⟨y,rfl⟩
  have hy:y=b:=by simpa [val] using vx
  subst hy
  obtain ⟨i,g1,g2⟩:=dx.get (j:=0) (by simp)
  have g1':iAdrSl 1 w (.int .i64 (0))=some (pt i 0):=g1
  rw [decide_eq_true (show ((([y]:List Nat).length:Nat):Int)=1 from rfl),q90z4]
  simp only [GdP_tt,fadr_pt,Nat.zero_add,OP_some,l3,g1',g2,List.getElem_cons_zero,bin_eql]
  rw [decide_eq_false (show ¬((y:Int)=1) by omega),q90z6]
  simp only [iPick_t,OP_some]
  exact hk _ x1
 ·rw [decide_eq_false (show ¬((xs.length:Int)=1) by omega),q90z4]
  simp only [GdP_ft]
  rw [q90z6]
  simp only [iPick_f,OP_some]
  exact hk _ x1

def ratS (a b:Int):List UInt8:=if b=1 then numS a else numS a++47::decS b.natAbs

theorem numS_len {a:Int} (la:a.natAbs<bigW):(numS a).length≤1001:=by
 have:=(decS_facts la).2.2.1
 unfold numS
 split <;> simp <;> omega

theorem C45q {va:Value} {a b:Int} {h:Heap} {K:Value→Heap→Prop} (ha:RatV h va a b) (b0:0<b) (la:a.natAbs<bigW) (lb:b.natAbs<bigW) (hk:∀h',EX h h'→K (.tuple #[S (ratS a b),I 0]) h'):CallP Tryz.prog 45 [va] h K:=by
 obtain ⟨u,w,rfl,hu,hw⟩:=ha
 have hsb:decide (b<0)=false:=decide_eq_false (by omega)
 rw [hsb]
 refine f45 ?_
 have e1:iBox 107 h (.agg #[B (decide (a<0)),u,B false,w])=some (pt h.length 0,h++[.arr 107 [B (decide (a<0)),u,B false,w]]):=rfl
 simp only [T45,e1,OH_some]
 have x1:EX h (h++[IObj.arr 107 [B (decide (a<0)),u,B false,w]]):=EX.append _ _
 have l1:iLoad false 1 (h++[IObj.arr 107 [B (decide (a<0)),u,B false,w]]) (pt h.length 1)=some u:=load_last rfl
 have l0:iLoad false 1 (h++[IObj.arr 107 [B (decide (a<0)),u,B false,w]]) (pt h.length 0)=some (B (decide (a<0))):=load_last rfl
 have g0:(h++[IObj.arr 107 [B (decide (a<0)),u,B false,w]])[h.length]?=some (.arr 107 [B (decide (a<0)),u,B false,w]):=get_last
 generalize h++[IObj.arr 107 [B (decide (a<0)),u,B false,w]]=h1 at x1 l1 l0 g0⊢
 obtain ⟨d1,d2,d3,d4,d5⟩:=decS_facts la
 obtain ⟨c1,c2,c3,c4,c5⟩:=decS_facts lb
 simp only [fadr_pt,Nat.zero_add,Nat.add_zero,OP_some,l1]
 refine C89 (hu.mono x1) la ?_
 intro h2 x2
 simp only [lenS_S,OP_some,bin_gtr,decide_eq_false (show ¬((decS a.natAbs).length:Int)>4000 by omega),IfP_false,EX.load x2 l0]
 have last:p45z8 Tryz.prog K (pt h.length 0) (S (numS a)) h2:=by
  rw [q45z8,load4 (x2.get g0)]
  simp only [OP_some]
  refine C90q ((hw.mono x1).mono x2) lb ?_
  intro h3 x3
  simp only [IfP_dec]
  refine ⟨fun h9=>?_,fun h9=>?_⟩
  ·have e:ratS a b=numS a:=by unfold ratS;rw [if_pos (by omega)]
   rw [←e]
   exact hk _ ((x1.trans x2).trans x3)
  ·have l3:iLoad false 1 h3 (pt h.length 3)=some w:=by simp [iLoad,objCells,(x2.trans x3).get g0,iPart]
   simp only [fadr_pt,Nat.zero_add,Nat.add_zero,OP_some,l3]
   refine C89 (((hw.mono x1).mono x2).mono x3) lb ?_
   intro h4 x4
   have nl:=numS_len la
   have a1:iBin .add (S (numS a)) (.string ⟨#[47]⟩)=some (S (numS a++[47])):=bin_addS (a:=numS a) (b:=[47]) (by simp [maxLen];omega)
   have a2:iBin .add (S (numS a++[47])) (S (decS b.natAbs))=some (S (numS a++[47]++decS b.natAbs)):=bin_addS (a:=numS a++[47]) (b:=decS b.natAbs) (by simp [maxLen];omega)
   simp only [lenS_S,OP_some,bin_gtr,decide_eq_false (show ¬((decS b.natAbs).length:Int)>4000 by omega),IfP_false,a1,a2]
   have e:ratS a b=numS a++[47]++decS b.natAbs:=by unfold ratS;rw [if_neg (by omega)];simp
   rw [←e]
   exact hk _ ((x1.trans x2).trans (x3.trans x4))
 by_cases hneg:a<0
 ·rw [decide_eq_true hneg]
  have:numS a=45::decS a.natAbs:=by unfold numS;rw [if_pos hneg]
  have ad:iBin .add (.string ⟨#[45]⟩) (S (decS a.natAbs))=some (S (numS a)):=by
   rw [this]
   exact bin_addS (a:=[45]) (b:=decS a.natAbs) (by simp [maxLen];omega)
  simp only [IfP_true,ad,OP_some]
  exact last
 ·rw [decide_eq_false hneg]
  have:numS a=decS a.natAbs:=by unfold numS;rw [if_neg hneg]
  rw [this] at last
  simp only [IfP_false]
  exact last

end Go.Proofs.YtelmdbpaoifmoaaGreat


namespace Go.Proofs.YtelmdbpaoifmoaaGreat
open Go.Sim

theorem C120g {va vb:Value} {a b:Int} {h:Heap} {K:Value→Heap→Prop} (ha:IntV h va a) (hb:IntV h vb b) (la:a.natAbs<bigW) (lb:b.natAbs<bigW) (hk:∀r h',EX h h'→IntV h' r (Nat.gcd a.natAbs b.natAbs:Nat)→K r h'):CallP Tryz.prog 120 [va,vb] h K:=by
 obtain ⟨v,rfl,hv⟩:=ha
 obtain ⟨w,rfl,hw⟩:=hb
 refine f120 ?_
 unfold T120
 refine box2 ?_
 intro h3 x
 simp only [fadr_pt,Nat.zero_add,OP_some,x.a1,x.b1,true_and]
 refine loopL (σ:=Value×Value×Nat×Nat×Heap) (fun q=>[q.1,q.2.1]) (fun q=>q.2.2.2.2) (fun q=>(MagV q.2.2.2.2 q.1 q.2.2.1∧MagV q.2.2.2.2 q.2.1 q.2.2.2.1)∧(q.2.2.1<bigW∧q.2.2.2.1<bigW)∧Nat.gcd q.2.2.1 q.2.2.2.1=Nat.gcd a.natAbs b.natAbs∧EX h3 q.2.2.2.2) (fun q=>q.2.2.2.1)
  (v,w,a.natAbs,b.natAbs,h3) rfl rfl ⟨⟨hv.mono x.ex,hw.mono x.ex⟩,⟨la,lb⟩,rfl,EX.refl _⟩ ?_
 rintro ⟨vx,vy,m,n,g⟩ ⟨⟨hm,hn⟩,⟨lm,ln⟩,hg,xg⟩ L hL
 simp only at hm hn lm ln hg xg hL⊢
 rw [q120z5]
 obtain ⟨l,e1,e2⟩:=hn.len0
 simp only [e1,OP_some,bin_gtr,IfP_dec]
 refine ⟨fun hp=>?_,fun hz=>?_⟩
 ·have n0:0<n:=e2.1 (by omega)
  refine C130g hm hn lm ln n0 ?_
  intro q r g2 x2 hq hr
  simp only [ext_tuple,pair0,pair1,OP_some,true_and]
  have hmod:m%n<n:=Nat.mod_lt _ n0
  refine hL (vy,r,n,m%n,g2) ⟨⟨hn.mono x2,hr⟩,⟨ln,by show m%n<_;omega⟩,?_,xg.trans x2⟩ hmod
  show Nat.gcd n (m%n)=_
  rw [←hg,Nat.gcd_comm m n,Nat.gcd_rec n m,Nat.gcd_comm]
 ·have n0:n=0:=by
   apply Classical.byContradiction
   intro hne
   have:=e2.2 (by omega)
   omega
  subst n0
  rw [q120z10]
  rw [Nat.gcd_zero_right] at hg
  refine C117 hm ?_
  intro h5 x5
  have g':=(xg.trans x5).get x.out
  rw [Bool.false_and]
  refine fin2 g' (hk _ _ (((x.ex.trans xg).trans x5).set (by omega) _) ?_)
  rw [←hg]
  exact (IntV.nat (hm.mono x5)).setB g' _

theorem C121g {va vb:Value} {a b:Int} {h:Heap} {K:Value→Heap→Prop} (ha:IntV h va a) (hb:IntV h vb b) (la:a.natAbs<bigW) (b0:0<b) (lb:b.natAbs<bigW) (hd:b ∣ a) (hk:∀r s h',EX h h'→IntV h' r (a / b)→IntV h' s 0→K (.tuple #[r,s]) h'):CallP Tryz.prog 121 [va,vb] h K:=by
 obtain ⟨v,rfl,hv⟩:=ha
 obtain ⟨w,rfl,hw⟩:=hb
 have hsb:decide (b<0)=false:=decide_eq_false (by omega)
 obtain ⟨c,rfl⟩:=hd
 have hdiv:b*c / b=c:=Int.mul_ediv_cancel_left c (by omega)
 rw [hdiv] at hk
 have hab:(b*c).natAbs=b.natAbs*c.natAbs:=Int.natAbs_mul b c
 have hb0:0<b.natAbs:=by omega
 have hq:(b*c).natAbs / b.natAbs=c.natAbs:=by rw [hab];exact Nat.mul_div_cancel_left _ hb0
 have hr:(b*c).natAbs%b.natAbs=0:=by rw [hab];exact Nat.mul_mod_right _ _
 have hneg:(decide (b*c<0)&&decide (0<c.natAbs))=decide (c<0):=by
  by_cases hc:c<0
  ·rw [decide_eq_true hc,decide_eq_true (show 0<c.natAbs by omega),decide_eq_true (Int.mul_neg_of_pos_of_neg b0 hc)];rfl
  ·have:0≤b*c:=Int.mul_nonneg (by omega) (by omega)
   rw [decide_eq_false hc,decide_eq_false (by omega)];rfl
 refine f121 ?_
 have e1:∀(g:Heap) (s:Bool) (v:Value),iBox 105 g (.agg #[B s,v])=some (pt g.length 0,g++[.arr 105 [B s,v]]):=fun _ _ _=>rfl
 have e2:∀(g:Heap),iAlloc 105 [(.bool false),(.slice none 0 0)] g=some (pt g.length 0,g++[.arr 105 [(.bool false),(.slice none 0 0)]]):=fun _=>rfl
 have ob:∀{g:Heap} {i:Nat},g[i]?=some (.arr 105 [(.bool false),(.slice none 0 0)])→iObj g (pt i 0)=some (.agg #[.int .i64 105,.bool false,.slice none 0 0]):=by
  intro g i hi
  simp [iObj,idOf,hi,encObj,noId]
 rw [hsb]
 simp only [T121,e1,e2,OH_some]
 have q0:EX h (h++[.arr 105 [B (decide (b*c<0)),v]]):=EX.append _ _
 have p0:(h++[IObj.arr 105 [B (decide (b*c<0)),v]])[h.length]?=some (.arr 105 [B (decide (b*c<0)),v]):=get_last
 generalize h++[IObj.arr 105 [B (decide (b*c<0)),v]]=ga at q0 p0⊢
 have q1:EX ga (ga++[.arr 105 [B false,w]]):=EX.append _ _
 have p1:(ga++[IObj.arr 105 [B false,w]])[ga.length]?=some (.arr 105 [B false,w]):=get_last
 generalize ga++[IObj.arr 105 [B false,w]]=gb at q1 p1⊢
 have q2:EX gb (gb++[.arr 105 [(.bool false),(.slice none 0 0)]]):=EX.append _ _
 have p2:(gb++[IObj.arr 105 [(.bool false),(.slice none 0 0)]])[gb.length]?=some (.arr 105 [(.bool false),(.slice none 0 0)]):=get_last
 generalize gb++[IObj.arr 105 [(.bool false),(.slice none 0 0)]]=gc at q2 p2⊢
 have q3:EX gc (gc++[.arr 105 [(.bool false),(.slice none 0 0)]]):=EX.append _ _
 have p3:(gc++[IObj.arr 105 [(.bool false),(.slice none 0 0)]])[gc.length]?=some (.arr 105 [(.bool false),(.slice none 0 0)]):=get_last
 generalize gc++[IObj.arr 105 [(.bool false),(.slice none 0 0)]]=gd at q3 p3⊢
 have q13:=q1.trans (q2.trans q3)
 have q03:=q0.trans q13
 have k0:=q13.get p0
 have k1:=(q2.trans q3).get p1
 have k2:=q3.get p2
 have la1:∀{g:Heap},EX gd g→iLoad false 1 g (pt h.length 1)=some v:=fun x=>by simp [iLoad,objCells,x.get k0,iPart]
 have la0:∀{g:Heap},EX gd g→iLoad false 1 g (pt h.length 0)=some (B (decide (b*c<0))):=fun x=>by simp [iLoad,objCells,x.get k0,iPart]
 have lb1:∀{g:Heap},EX gd g→iLoad false 1 g (pt ga.length 1)=some w:=fun x=>by simp [iLoad,objCells,x.get k1,iPart]
 have lb0:∀{g:Heap},EX gd g→iLoad false 1 g (pt ga.length 0)=some (B false):=fun x=>by simp [iLoad,objCells,x.get k1,iPart]
 simp only [fadr_pt,Nat.zero_add,Nat.add_zero,OP_some,la1 (EX.refl gd),lb1 (EX.refl gd)]
 refine C130g (hv.mono q03) (hw.mono q03) la lb hb0 ?_
 intro q r g5 x5 mq mr
 rw [hq] at mq
 rw [hr] at mr
 simp only [ext_tuple,pair0,pair1,OP_some]
 have y1:EX g5 (g5++[.arr 105 [(.bool false),(.slice none 0 0)]]):=EX.append _ _
 have s1:(g5++[IObj.arr 105 [(.bool false),(.slice none 0 0)]])[g5.length]?=some (.arr 105 [(.bool false),(.slice none 0 0)]):=get_last
 have sl1:(g5++[IObj.arr 105 [(.bool false),(.slice none 0 0)]]).length=g5.length+1:=by simp
 generalize g5++[IObj.arr 105 [(.bool false),(.slice none 0 0)]]=g6 at y1 s1 sl1⊢
 have y2:EX g6 (g6++[.arr 105 [(.bool false),(.slice none 0 0)]]):=EX.append _ _
 have s2:(g6++[IObj.arr 105 [(.bool false),(.slice none 0 0)]])[g6.length]?=some (.arr 105 [(.bool false),(.slice none 0 0)]):=get_last
 generalize g6++[IObj.arr 105 [(.bool false),(.slice none 0 0)]]=g7 at y2 s2⊢
 have s1':=y2.get s1
 have y12:=y1.trans y2
 have z5:=x5
 have z6:=x5.trans y1
 have z7:=x5.trans y12
 simp only [ob s1,ob s1',ob s2,OP_some,true_and,la0 z5,la0 z6,la0 z7,lb0 z5,lb0 z6,lb0 z7,eqb_bool,if_true]
 have hx:(!(decide (b*c<0)==false))=decide (b*c<0):=by cases decide (b*c<0) <;> rfl
 rw [hx]
 refine C117 (mq.mono y12) ?_
 intro g8 x8
 rw [hneg]
 simp only [ob (x8.get s1'),ob (x8.get s2),true_and,la0 (z7.trans x8),OP_some]
 refine C117 ((mr.mono y12).mono x8) ?_
 intro g9 x9
 have x89:=x8.trans x9
 have t1:=x89.get s1'
 have t2:=x89.get s2
 have hne:g5.length≠g6.length:=by omega
 simp only [ob t1,ob t2,true_and,decide_eq_false (show ¬(0<0) by decide),Bool.and_false]
 rw [store2 t1]
 simp only [OH_some]
 have t2':(g9.set g5.length (.arr 105 [B (decide (c<0)),q]))[g6.length]?=some (.arr 105 [(.bool false),(.slice none 0 0)]):=by rw [List.getElem?_set_ne hne];exact t2
 rw [store2 t2']
 simp only [OH_some]
 obtain ⟨l,l1,l2⟩:=mr.len0
 have l0:l=0:=by
  apply Classical.byContradiction
  intro hc
  have:=l2.1 (by omega)
  omega
 subst l0
 simp only [l1,OP_some,bin_gtr]
 rw [decide_eq_false (show ¬((0:Int)<((0:Nat):Int)) by decide)]
 rw [q121z7]
 simp only [GdP_ft]
 rw [q121z9]
 have pk:iPick (B false) undef (.bool false)=some (B false):=rfl
 simp only [pk,OP_some,IfP_false]
 rw [q121z10]
 have u1:((g9.set g5.length (.arr 105 [B (decide (c<0)),q])).set g6.length (.arr 105 [B false,r]))[g5.length]?=some (.arr 105 [B (decide (c<0)),q]):=by
  rw [List.getElem?_set_ne (fun e=>hne e.symm)];exact set_get t1
 have u2:((g9.set g5.length (.arr 105 [B (decide (c<0)),q])).set g6.length (.arr 105 [B false,r]))[g6.length]?=some (.arr 105 [B false,r]):=set_get t2'
 have hgd:gd.length≤g5.length:=x5.1
 have hx0:EX h ((g9.set g5.length (.arr 105 [B (decide (c<0)),q])).set g6.length (.arr 105 [B false,r])):=
  (((q03.trans z7).trans x89).set (by have:=q03.1;omega) _).set (by have:=q03.1;omega) _
 have lgb:gb.length<gd.length:=by
  have:=(List.getElem?_eq_some_iff.1 k2).1;exact this
 have lgc:gc.length<gd.length:=(List.getElem?_eq_some_iff.1 p3).1
 have w2:((g9.set g5.length (.arr 105 [B (decide (c<0)),q])).set g6.length (.arr 105 [B false,r]))[gb.length]?=some (.arr 105 [(.bool false),(.slice none 0 0)]):=by
  rw [List.getElem?_set_ne (by omega),List.getElem?_set_ne (by omega)];exact (z7.trans x89).get k2
 have w3:((g9.set g5.length (.arr 105 [B (decide (c<0)),q])).set g6.length (.arr 105 [B false,r]))[gc.length]?=some (.arr 105 [(.bool false),(.slice none 0 0)]):=by
  rw [List.getElem?_set_ne (by omega),List.getElem?_set_ne (by omega)];exact (z7.trans x89).get p3
 have mqf:MagV ((g9.set g5.length (.arr 105 [B (decide (c<0)),q])).set g6.length (.arr 105 [B false,r])) q c.natAbs:=(((mq.mono y12).mono x89).setB t1 _).setB t2' _
 have mrf:MagV ((g9.set g5.length (.arr 105 [B (decide (c<0)),q])).set g6.length (.arr 105 [B false,r])) r 0:=(((mr.mono y12).mono x89).setB t1 _).setB t2' _
 generalize (g9.set g5.length (.arr 105 [B (decide (c<0)),q])).set g6.length (.arr 105 [B false,r])=gz at u1 u2 hx0 w2 w3 mqf mrf⊢
 rw [load2 u1,load2 u2]
 simp only [OP_some,true_and]
 rw [store2 w2]
 simp only [OH_some]
 have hbc:gb.length≠gc.length:=by
  have:=(List.getElem?_eq_some_iff.1 p2).1;omega
 have u2':(gz.set gb.length (.arr 105 [B (decide (c<0)),q]))[g6.length]?=some (.arr 105 [B false,r]):=by rw [List.getElem?_set_ne (by omega)];exact u2
 have w3':(gz.set gb.length (.arr 105 [B (decide (c<0)),q]))[gc.length]?=some (.arr 105 [(.bool false),(.slice none 0 0)]):=by rw [List.getElem?_set_ne hbc];exact w3
 rw [load2 u2',store2 w3']
 simp only [true_and,OH_some]
 have n2:((gz.set gb.length (.arr 105 [B (decide (c<0)),q])).set gc.length (.arr 105 [B false,r]))[gb.length]?=some (.arr 105 [B (decide (c<0)),q]):=by
  rw [List.getElem?_set_ne (fun e=>hbc e.symm)];exact set_get w2
 rw [load2 n2,load2 (set_get w3')]
 simp only [OP_some]
 have hlb:h.length≤gb.length:=(q0.trans q1).1
 refine hk _ _ _ ((hx0.set hlb _).set (by have:=(List.getElem?_eq_some_iff.1 p2).1;omega) _) ⟨q,rfl,(mqf.setB w2 _).setB w3' _⟩ ⟨r,rfl,(mrf.setB w2 _).setB w3' _⟩

theorem C106g {va vb:Value} {a b:Int} {h:Heap} {K:Value→Heap→Prop} (ha:IntV h va a) (hb:IntV h vb b) (la:a.natAbs<bigW) (b0:0<b) (lb:b.natAbs<bigW)
  (hk:∀r h',EX h h'→RatV h' r (a / (Nat.gcd a.natAbs b.natAbs:Int)) (b / (Nat.gcd a.natAbs b.natAbs:Int))→K r h'):CallP Tryz.prog 106 [va,vb] h K:=by
 obtain ⟨v,rfl,hv⟩:=ha
 obtain ⟨w,rfl,hw⟩:=hb
 have hsb:decide (b<0)=false:=decide_eq_false (by omega)
 obtain ⟨g1p,g1le⟩:=gcd_small (a:=a) b0
 have hda:(Nat.gcd a.natAbs b.natAbs:Int) ∣ a:=Int.gcd_dvd_left ..
 have hdb:(Nat.gcd a.natAbs b.natAbs:Int) ∣ b:=Int.gcd_dvd_right ..
 refine f106 ?_
 have e1:∀(g:Heap) (s:Bool) (v:Value),iBox 105 g (.agg #[B s,v])=some (pt g.length 0,g++[.arr 105 [B s,v]]):=fun _ _ _=>rfl
 have e2:∀(g:Heap),iAlloc 105 [(.bool false),(.slice none 0 0)] g=some (pt g.length 0,g++[.arr 105 [(.bool false),(.slice none 0 0)]]):=fun _=>rfl
 have e3:∀(g:Heap),iAlloc 107 [(.bool false),(.slice none 0 0),(.bool false),(.slice none 0 0)] g=some (pt g.length 0,g++[.arr 107 z4]):=fun _=>rfl
 simp only [T106,e1,e3,OH_some]
 have q0:EX h (h++[.arr 105 [B (decide (a<0)),v]]):=EX.append _ _
 have p0:(h++[IObj.arr 105 [B (decide (a<0)),v]])[h.length]?=some (.arr 105 [B (decide (a<0)),v]):=get_last
 generalize h++[IObj.arr 105 [B (decide (a<0)),v]]=ga at q0 p0⊢
 have q1:EX ga (ga++[.arr 105 [B (decide (b<0)),w]]):=EX.append _ _
 have p1:(ga++[IObj.arr 105 [B (decide (b<0)),w]])[ga.length]?=some (.arr 105 [B (decide (b<0)),w]):=get_last
 generalize ga++[IObj.arr 105 [B (decide (b<0)),w]]=gb at q1 p1⊢
 have q2:EX gb (gb++[.arr 107 z4]):=EX.append _ _
 have p2:(gb++[IObj.arr 107 z4])[gb.length]?=some (.arr 107 z4):=get_last
 generalize gb++[IObj.arr 107 z4]=gc at q2 p2⊢
 have k0:=(q1.trans q2).get p0
 have k1:=q2.get p1
 have x0:=q0.trans (q1.trans q2)
 have hlb:h.length≤gb.length:=(q0.trans q1).1
 have ldn:∀{g:Heap},EX gc g→iLoad true 2 g (pt h.length 0)=some (.agg #[B (decide (a<0)),v]):=fun x=>load2 (x.get k0)
 have ldd:∀{g:Heap},EX gc g→iLoad true 2 g (pt ga.length 0)=some (.agg #[B (decide (b<0)),w]):=fun x=>load2 (x.get k1)
 have iva:∀{g:Heap},EX gc g→IntV g (.agg #[B (decide (a<0)),v]) a:=fun x=>⟨v,rfl,hv.mono (x0.trans x)⟩
 have ivb:∀{g:Heap},EX gc g→IntV g (.agg #[B (decide (b<0)),w]) b:=fun x=>⟨w,rfl,hw.mono (x0.trans x)⟩
 have l1:iLoad false 1 gc (pt ga.length 0)=some (B (decide (b<0))):=by simp [iLoad,objCells,k1,iPart]
 simp only [fadr_pt,Nat.add_zero,OP_some,l1]
 rw [hsb]
 simp only [IfP_false]
 rw [q106z4]
 rw [ldn (EX.refl gc),ldd (EX.refl gc)]
 simp only [OP_some]
 refine C120g (iva (EX.refl gc)) (ivb (EX.refl gc)) la lb ?_
 intro r g3 x3 ir
 simp only [e2,OH_some]
 have y4:EX g3 (g3++[.arr 105 [(.bool false),(.slice none 0 0)]]):=EX.append _ _
 have s4:(g3++[IObj.arr 105 [(.bool false),(.slice none 0 0)]])[g3.length]?=some (.arr 105 [(.bool false),(.slice none 0 0)]):=get_last
 generalize g3++[IObj.arr 105 [(.bool false),(.slice none 0 0)]]=g4 at y4 s4⊢
 obtain ⟨u,rfl,hu⟩:=ir
 have hu4:=(hu.mono y4).setB s4 (.arr 105 [B (decide ((Nat.gcd a.natAbs b.natAbs:Int)<0)),u])
 rw [store2 s4]
 simp only [OH_some]
 have hgl:gc.length≤g3.length:=x3.1
 have x5:EX gc (g4.set g3.length (.arr 105 [B (decide ((Nat.gcd a.natAbs b.natAbs:Int)<0)),u])):=(x3.trans y4).set hgl _
 have s5:(g4.set g3.length (.arr 105 [B (decide ((Nat.gcd a.natAbs b.natAbs:Int)<0)),u]))[g3.length]?=some (.arr 105 [B (decide ((Nat.gcd a.natAbs b.natAbs:Int)<0)),u]):=set_get s4
 generalize g4.set g3.length (.arr 105 [B (decide ((Nat.gcd a.natAbs b.natAbs:Int)<0)),u])=g5 at x5 s5 hu4⊢
 have ig:∀{g:Heap},EX g5 g→IntV g (.agg #[B (decide ((Nat.gcd a.natAbs b.natAbs:Int)<0)),u]) (Nat.gcd a.natAbs b.natAbs:Int):=fun x=>⟨u,rfl,hu4.mono x⟩
 rw [load2 s5]
 simp only [OP_some,true_and]
 refine C105 (by decide) (by decide) ?_
 intro one g6 x6 i1
 rw [load2 (x6.get s5)]
 simp only [true_and]
 have lgW:((Nat.gcd a.natAbs b.natAbs:Int)).natAbs<bigW:=by rw [Int.natAbs_natCast];have:=Nat.gcd_le_right a.natAbs (show 0<b.natAbs by omega);omega
 refine C111 (ig x6) i1 lgW (by rw [show (1:Int).natAbs=1 from rfl];exact word_big (by decide)) ?_
 intro g7 x7
 have x57:=x6.trans x7
 have xc7:=x5.trans x57
 simp only [bin_eql,OP_some,IfP_dec]
 refine ⟨fun h1=>?_,fun h1=>?_⟩
 ·have hg1:(Nat.gcd a.natAbs b.natAbs:Int)=1:=by
   split at h1
   ·omega
   ·split at h1 <;> omega
  rw [ldn xc7,ldd xc7]
  simp only [OP_some]
  rw [hg1,Int.ediv_one,Int.ediv_one] at hk
  exact endR (iva xc7) (ivb xc7) (x0.trans xc7) hlb (xc7.get p2) hk
 ·rw [ldn xc7,load2 (x57.get s5)]
  simp only [OP_some]
  refine C121g (iva xc7) (ig x57) la g1p lgW hda ?_
  intro rn sn g8 x8 irn isn
  simp only [ext_tuple,pair0,pair1,OP_some,e2,OH_some]
  have y9:EX g8 (g8++[.arr 105 [(.bool false),(.slice none 0 0)]]):=EX.append _ _
  have s9:(g8++[IObj.arr 105 [(.bool false),(.slice none 0 0)]])[g8.length]?=some (.arr 105 [(.bool false),(.slice none 0 0)]):=get_last
  generalize g8++[IObj.arr 105 [(.bool false),(.slice none 0 0)]]=g9 at y9 s9⊢
  have y10:EX g9 (g9++[.arr 105 [(.bool false),(.slice none 0 0)]]):=EX.append _ _
  have s10:(g9++[IObj.arr 105 [(.bool false),(.slice none 0 0)]])[g9.length]?=some (.arr 105 [(.bool false),(.slice none 0 0)]):=get_last
  generalize g9++[IObj.arr 105 [(.bool false),(.slice none 0 0)]]=g10 at y10 s10⊢
  have s9':=y10.get s9
  obtain ⟨qn,rfl,hqn⟩:=irn
  obtain ⟨zn,rfl,hzn⟩:=isn
  have h98:g8.length≠g9.length:=by have:=(List.getElem?_eq_some_iff.1 s9).1;omega
  rw [store2 s9']
  simp only [OH_some]
  have t10:(g10.set g8.length (.arr 105 [B (decide (a / (Nat.gcd a.natAbs b.natAbs:Int)<0)),qn]))[g9.length]?=some (.arr 105 [(.bool false),(.slice none 0 0)]):=by rw [List.getElem?_set_ne h98];exact s10
  have t9:(g10.set g8.length (.arr 105 [B (decide (a / (Nat.gcd a.natAbs b.natAbs:Int)<0)),qn]))[g8.length]?=some (.arr 105 [B (decide (a / (Nat.gcd a.natAbs b.natAbs:Int)<0)),qn]):=set_get s9'
  have x810:=y9.trans y10
  have hqn2:=(hqn.mono x810).setB s9' (.arr 105 [B (decide (a / (Nat.gcd a.natAbs b.natAbs:Int)<0)),qn])
  have xc8:=xc7.trans x8
  have x58:=x57.trans x8
  have xs1:EX g8 (g10.set g8.length (.arr 105 [B (decide (a / (Nat.gcd a.natAbs b.natAbs:Int)<0)),qn])):=x810.set (Nat.le_refl _) _
  generalize g10.set g8.length (.arr 105 [B (decide (a / (Nat.gcd a.natAbs b.natAbs:Int)<0)),qn])=g11 at t10 t9 hqn2 xs1⊢
  rw [store2 t10]
  simp only [OH_some]
  have t9':(g11.set g9.length (.arr 105 [B (decide ((0:Int)<0)),zn]))[g8.length]?=some (.arr 105 [B (decide (a / (Nat.gcd a.natAbs b.natAbs:Int)<0)),qn]):=by rw [List.getElem?_set_ne (fun e=>h98 e.symm)];exact t9
  have hqn3:=hqn2.setB t10 (.arr 105 [B (decide ((0:Int)<0)),zn])
  have h89:g8.length≤g9.length:=by have:=(List.getElem?_eq_some_iff.1 s9).1;omega
  have xs2:EX g8 (g11.set g9.length (.arr 105 [B (decide ((0:Int)<0)),zn])):=xs1.set h89 _
  generalize g11.set g9.length (.arr 105 [B (decide ((0:Int)<0)),zn])=g12 at t9' hqn3 xs2⊢
  rw [ldd (xc8.trans xs2),load2 ((x58.trans xs2).get s5)]
  simp only [OP_some]
  refine C121g (ivb (xc8.trans xs2)) (ig (x58.trans xs2)) lb g1p lgW hdb ?_
  intro rd sd g13 x13 ird isd
  simp only [ext_tuple,pair0,pair1,OP_some]
  have y14:EX g13 (g13++[.arr 105 [(.bool false),(.slice none 0 0)]]):=EX.append _ _
  have s14:(g13++[IObj.arr 105 [(.bool false),(.slice none 0 0)]])[g13.length]?=some (.arr 105 [(.bool false),(.slice none 0 0)]):=get_last
  generalize g13++[IObj.arr 105 [(.bool false),(.slice none 0 0)]]=g14 at y14 s14⊢
  have y15:EX g14 (g14++[.arr 105 [(.bool false),(.slice none 0 0)]]):=EX.append _ _
  have s15:(g14++[IObj.arr 105 [(.bool false),(.slice none 0 0)]])[g14.length]?=some (.arr 105 [(.bool false),(.slice none 0 0)]):=get_last
  generalize g14++[IObj.arr 105 [(.bool false),(.slice none 0 0)]]=g15 at y15 s15⊢
  have s14':=y15.get s14
  obtain ⟨qd,rfl,hqd⟩:=ird
  obtain ⟨zd,rfl,hzd⟩:=isd
  have h1314:g13.length≠g14.length:=by have:=(List.getElem?_eq_some_iff.1 s14).1;omega
  rw [store2 s14']
  simp only [OH_some]
  have x1315:=y14.trans y15
  have t15:(g15.set g13.length (.arr 105 [B (decide (b / (Nat.gcd a.natAbs b.natAbs:Int)<0)),qd]))[g14.length]?=some (.arr 105 [(.bool false),(.slice none 0 0)]):=by rw [List.getElem?_set_ne h1314];exact s15
  have t14:(g15.set g13.length (.arr 105 [B (decide (b / (Nat.gcd a.natAbs b.natAbs:Int)<0)),qd]))[g13.length]?=some (.arr 105 [B (decide (b / (Nat.gcd a.natAbs b.natAbs:Int)<0)),qd]):=set_get s14'
  have hqd2:=(hqd.mono x1315).setB s14' (.arr 105 [B (decide (b / (Nat.gcd a.natAbs b.natAbs:Int)<0)),qd])
  have xs3:EX g13 (g15.set g13.length (.arr 105 [B (decide (b / (Nat.gcd a.natAbs b.natAbs:Int)<0)),qd])):=x1315.set (Nat.le_refl _) _
  generalize g15.set g13.length (.arr 105 [B (decide (b / (Nat.gcd a.natAbs b.natAbs:Int)<0)),qd])=g16 at t15 t14 hqd2 xs3⊢
  rw [store2 t15]
  simp only [OH_some]
  have t14':(g16.set g14.length (.arr 105 [B (decide ((0:Int)<0)),zd]))[g13.length]?=some (.arr 105 [B (decide (b / (Nat.gcd a.natAbs b.natAbs:Int)<0)),qd]):=by rw [List.getElem?_set_ne (fun e=>h1314 e.symm)];exact t14
  have hqd3:=hqd2.setB t15 (.arr 105 [B (decide ((0:Int)<0)),zd])
  have h13:g13.length≤g14.length:=by have:=(List.getElem?_eq_some_iff.1 s14).1;omega
  have xs4:EX g13 (g16.set g14.length (.arr 105 [B (decide ((0:Int)<0)),zd])):=xs3.set h13 _
  generalize g16.set g14.length (.arr 105 [B (decide ((0:Int)<0)),zd])=g17 at t14' hqd3 xs4⊢
  rw [load2 ((x13.trans xs4).get t9'),load2 t14']
  simp only [OP_some]
  have xfin:=xc8.trans (xs2.trans (x13.trans xs4))
  exact endR ⟨qn,rfl,hqn3.mono (x13.trans xs4)⟩ ⟨qd,rfl,hqd3⟩ (x0.trans xfin) hlb (xfin.get p2) hk

theorem C77g {va vb:Value} {a b c d:Int} {h:Heap} {K:Value→Heap→Prop} (ha:RatV h va a b) (hb:RatV h vb c d) (la:a.natAbs<bigW) (lb:b.natAbs<bigW) (lc:c.natAbs<bigW) (ld:d.natAbs<bigW) (lad:(a*d).natAbs<bigW) (b0:0<b*c) (lbc:(b*c).natAbs<bigW)
  (hk:∀r h',EX h h'→RatV h' r (a*d / (Nat.gcd (a*d).natAbs (b*c).natAbs:Int)) (b*c / (Nat.gcd (a*d).natAbs (b*c).natAbs:Int))→K r h'):CallP Tryz.prog 77 [va,vb] h K:=by
 obtain ⟨u,w,rfl,hu,hw⟩:=ha
 obtain ⟨u2,w2,rfl,hu2,hw2⟩:=hb
 refine f77 ?_
 have e1:∀(g:Heap) (s t:Bool) (v w:Value),iBox 107 g (.agg #[B s,v,B t,w])=some (pt g.length 0,g++[.arr 107 [B s,v,B t,w]]):=fun _ _ _ _ _=>rfl
 have e3:∀(g:Heap),iAlloc 107 [(.bool false),(.slice none 0 0),(.bool false),(.slice none 0 0)] g=some (pt g.length 0,g++[.arr 107 z4]):=fun _=>rfl
 simp only [T77,e1,e3,OH_some]
 have q0:EX h (h++[.arr 107 [B (decide (a<0)),u,B (decide (b<0)),w]]):=EX.append _ _
 have p0:(h++[IObj.arr 107 [B (decide (a<0)),u,B (decide (b<0)),w]])[h.length]?=some (.arr 107 [B (decide (a<0)),u,B (decide (b<0)),w]):=get_last
 generalize h++[IObj.arr 107 [B (decide (a<0)),u,B (decide (b<0)),w]]=ga at q0 p0⊢
 have q1:EX ga (ga++[.arr 107 [B (decide (c<0)),u2,B (decide (d<0)),w2]]):=EX.append _ _
 have p1:(ga++[IObj.arr 107 [B (decide (c<0)),u2,B (decide (d<0)),w2]])[ga.length]?=some (.arr 107 [B (decide (c<0)),u2,B (decide (d<0)),w2]):=get_last
 generalize ga++[IObj.arr 107 [B (decide (c<0)),u2,B (decide (d<0)),w2]]=gb at q1 p1⊢
 have q2:EX gb (gb++[.arr 107 z4]):=EX.append _ _
 have p2:(gb++[IObj.arr 107 z4])[gb.length]?=some (.arr 107 z4):=get_last
 generalize gb++[IObj.arr 107 z4]=gc at q2 p2⊢
 have k0:=(q1.trans q2).get p0
 have k1:=q2.get p1
 have x0:=q0.trans (q1.trans q2)
 have hlb:h.length≤gb.length:=(q0.trans q1).1
 simp only [fadr_pt,Nat.zero_add,OP_some]
 rw [load4a k0,load4b k1]
 simp only [OP_some,true_and]
 refine C107 (a:=a) (b:=d) ⟨u,rfl,hu.mono x0⟩ ⟨w2,rfl,hw2.mono x0⟩ la ld ?_
 intro r1 g4 x4 i1
 rw [load4b (x4.get k0),load4a (x4.get k1)]
 simp only [load4b k0,load4a k1,OP_some,true_and]
 refine C107 (a:=b) (b:=c) ⟨w,rfl,(hw.mono x0).mono x4⟩ ⟨u2,rfl,(hu2.mono x0).mono x4⟩ lb lc ?_
 intro r2 g5 x5 i2
 refine C106g (i1.mono x5) i2 lad b0 lbc ?_
 intro r g6 x6 ir
 have x46:=x4.trans (x5.trans x6)
 have g2:=x46.get p2
 obtain ⟨y,z,rfl,hy,hz⟩:=ir
 exact fin4 g2 (hk _ _ ((x0.trans x46).set hlb _) ⟨y,z,rfl,hy.setB g2 _,hz.setB g2 _⟩)

end Go.Proofs.YtelmdbpaoifmoaaGreat


namespace Go.Proofs.YtelmdbpaoifmoaaGreat
open Go.Sim
variable (P : Program) (K : VK)
/-! F81: (pommel/num.Rat).Sign -/
noncomputable section
variable (a0 : Value) (h : Heap)
def oc81:=compFn Tryz.prog 81 [[],[]]
@[irreducible] def c81:=icOf oc81
theorem k81:oc81=some (6,c81,[.tmp 2]):=by kernel_rfl
def T81:Prop:=
 OH (iBox 107 h a0) fun a1 h_1=>
 OP (iFadr 0 a1) fun x3=>
 OP (iLoad true 2 h_1 x3) fun x4=>
 CallP P 109 [x4] h_1 fun x5 h_2=>
 K x5 h_2
theorem e81:iwpP P c81 (bodyP [.tmp 2] K) (frame0 [a0]) h=T81 P K a0 h:=by kernel_rfl
theorem f81 {K:VK} {a0:Value} {h:Heap} (H:T81 Tryz.prog K a0 h):CallP Tryz.prog 81 [a0] h K:=
 callP_intro k81 (Nat.le_of_ble_eq_true rfl) ((e81 Tryz.prog K a0 h).mpr H)
end
/-! F84: (pommel/num.Rat).Fits -/
noncomputable section
variable (a0 x1 a2 x12 x19 : Value) (h : Heap)
def oc84:=compFn Tryz.prog 84 [[],[1,2,12],[12,19],[]]
@[irreducible] def c84:=icOf oc84
@[irreducible] def c84z4:=c84.r.l.r.l
@[irreducible] def c84z2:=c84.r.r
@[irreducible] def c84z6:=c84z4.r.l
theorem k84:oc84=some (21,c84,[.tmp 4]):=by kernel_rfl
def K84z0 (_P:Program) (K:VK):Kont:=bodyP [.tmp 4] K
def K84z2:Kont:=thenK (iwpP P c84z2 (K84z0 P K)) (K84z0 P K)
def p84z4:Prop:=CutP (iwpP P c84z4 (K84z2 P K)) [1,2,12] [x1,a2,x12] h
def p84z6:Prop:=CutP (iwpP P c84z6 (K84z2 P K)) [12,19] [x12,x19] h
theorem q84z6:p84z6 P K x12 x19 h=
 (OP (iPick x12 x19 (.bool false)) fun x20=>
 K x20 h):=cdt (by kernel_rfl)
theorem q84z4:p84z4 P K x1 a2 x12 h=
 (GdP x12 true
 (OP (iFadr 2 a2) fun x13=>
 OP (iFadr 1 x13) fun x14=>
 OP (iLoad false 1 h x14) fun x15=>
 CallP P 89 [x15] h fun x16 h_1=>
 OP (iLenS x16) fun x17=>
 OP (iBin .leq x17 x1) fun x19=>
 p84z6 P K x12 x19 h_1)
 (p84z6 P K x12 undef h)):=cdt (by kernel_rfl)
def T84:Prop:=
 OH (iBox 107 h a0) fun a2 h_1=>
 OP (iFadr 0 a2) fun x5=>
 OP (iFadr 1 x5) fun x6=>
 OP (iLoad false 1 h_1 x6) fun x7=>
 CallP P 89 [x7] h_1 fun x8 h_2=>
 OP (iLenS x8) fun x9=>
 OP (iBin .leq x9 x1) fun x11=>
 p84z4 P K x1 a2 x11 h_2
theorem e84:iwpP P c84 (bodyP [.tmp 4] K) (frame0 [a0,x1]) h=T84 P K a0 x1 h:=by kernel_rfl
theorem f84 {K:VK} {a0 x1:Value} {h:Heap} (H:T84 Tryz.prog K a0 x1 h):CallP Tryz.prog 84 [a0,x1] h K:=
 callP_intro k84 (Nat.le_of_ble_eq_true rfl) ((e84 Tryz.prog K a0 x1 h).mpr H)
end
/-! F86: (pommel/num.Rat).Cmp -/
noncomputable section
variable (a0 b1 : Value) (h : Heap)
def oc86:=compFn Tryz.prog 86 [[],[]]
@[irreducible] def c86:=icOf oc86
theorem k86:oc86=some (16,c86,[.tmp 4]):=by kernel_rfl
def T86:Prop:=
 OH (iBox 107 h a0) fun a2 h_1=>
 OH (iBox 107 h_1 b1) fun b3 h_2=>
 OP (iFadr 0 a2) fun x5=>
 OP (iLoad true 2 h_2 x5) fun x6=>
 (True)∧
 OP (iFadr 2 b3) fun x7=>
 OP (iLoad true 2 h_2 x7) fun x8=>
 (True)∧
 CallP P 107 [x6,x8] h_2 fun x9 h_3=>
 (True)∧
 OP (iFadr 0 b3) fun x10=>
 OP (iLoad true 2 h_3 x10) fun x11=>
 (iLoad true 2 h_2 x10=some x11∧True)∧
 OP (iFadr 2 a2) fun x12=>
 OP (iLoad true 2 h_3 x12) fun x13=>
 (iLoad true 2 h_2 x12=some x13∧True)∧
 CallP P 107 [x11,x13] h_3 fun x14 h_4=>
 (True)∧
 CallP P 111 [x9,x14] h_4 fun x15 h_5=>
 (True)∧
 K x15 h_5
theorem e86:iwpP P c86 (bodyP [.tmp 4] K) (frame0 [a0,b1]) h=T86 P K a0 b1 h:=by kernel_rfl
theorem f86 {K:VK} {a0 b1:Value} {h:Heap} (H:T86 Tryz.prog K a0 b1 h):CallP Tryz.prog 86 [a0,b1] h K:=
 callP_intro k86 (Nat.le_of_ble_eq_true rfl) ((e86 Tryz.prog K a0 b1 h).mpr H)
end
/-! F87: (pommel/num.Rat).Add -/
noncomputable section
variable (a0 b1 a2 b3 x4 x7 x9 : Value) (h : Heap)
def oc87:=compFn Tryz.prog 87 [[],[2,3,4,7],[2,3,4,7,9],[],[],[],[]]
@[irreducible] def c87:=icOf oc87
@[irreducible] def c87z5:=c87.r.l.l.r.l
@[irreducible] def c87z3:=c87.r.l.r
@[irreducible] def c87z2:=c87.r.r
@[irreducible] def c87z7:=c87z5.r.l
theorem k87:oc87=some (34,c87,[.cell true 4 4]):=by kernel_rfl
def K87z0 (_P:Program) (K:VK):Kont:=bodyP [.cell true 4 4] K
def K87z2:Kont:=thenK (iwpP P c87z2 (K87z0 P K)) (K87z0 P K)
def K87z3:Kont:=thenK (iwpP P c87z3 (K87z2 P K)) (K87z2 P K)
def p87z5:Prop:=CutP (iwpP P c87z5 (K87z3 P K)) [2,3,4,7] [a2,b3,x4,x7] h
def p87z7:Prop:=CutP (iwpP P c87z7 (K87z3 P K)) [2,3,4,7,9] [a2,b3,x4,x7,x9] h
theorem q87z7:p87z7 P K a2 b3 x4 x7 x9 h=
 (OP (iPick x7 x9 (.bool false)) fun x10=>
 IfP x10
 (OP (iFadr 0 a2) fun x11=>
 OP (iLoad true 2 h x11) fun x12=>
 OP (iFadr 0 b3) fun x13=>
 OP (iLoad true 2 h x13) fun x14=>
 CallP P 113 [x12,x14] h fun x15 h_1=>
 CallP P 112 [x15] h_1 fun x16 h_2=>
 OH (oStore 4 h_2 x4 x16) fun _ h_3=>
 OP (iLoad true 4 h_3 x4) fun r0=>
 K r0 h_3)
 (OP (iFadr 0 a2) fun x17=>
 OP (iLoad true 2 h x17) fun x18=>
 (True)∧
 OP (iFadr 2 b3) fun x19=>
 OP (iLoad true 2 h x19) fun x20=>
 (True)∧
 CallP P 107 [x18,x20] h fun x21 h_1=>
 (True)∧
 OP (iFadr 0 b3) fun x22=>
 OP (iLoad true 2 h_1 x22) fun x23=>
 (iLoad true 2 h x22=some x23∧True)∧
 OP (iFadr 2 a2) fun x24=>
 OP (iLoad true 2 h_1 x24) fun x25=>
 (iLoad true 2 h x24=some x25∧True)∧
 CallP P 107 [x23,x25] h_1 fun x26 h_2=>
 (True)∧
 CallP P 113 [x21,x26] h_2 fun x27 h_3=>
 (True)∧
 OP (iFadr 2 a2) fun x28=>
 OP (iLoad true 2 h_3 x28) fun x29=>
 (iLoad true 2 h x28=some x29∧iLoad true 2 h_1 x28=some x29∧iLoad true 2 h_2 x28=some x29∧True)∧
 OP (iFadr 2 b3) fun x30=>
 OP (iLoad true 2 h_3 x30) fun x31=>
 (iLoad true 2 h x30=some x31∧iLoad true 2 h_1 x30=some x31∧iLoad true 2 h_2 x30=some x31∧True)∧
 CallP P 107 [x29,x31] h_3 fun x32 h_4=>
 (True)∧
 CallP P 106 [x27,x32] h_4 fun x33 h_5=>
 (True)∧
 OH (oStore 4 h_5 x4 x33) fun _ h_6=>
 (True)∧
 OP (iLoad true 4 h_6 x4) fun r0=>
 K r0 h_6)):=cdt (by kernel_rfl)
theorem q87z5:p87z5 P K a2 b3 x4 x7 h=
 (GdP x7 true
 (OP (iLoad true 4 h b3) fun x8=>
 CallP P 90 [x8] h fun x9 h_1=>
 p87z7 P K a2 b3 x4 x7 x9 h_1)
 (p87z7 P K a2 b3 x4 x7 undef h)):=cdt (by kernel_rfl)
def T87:Prop:=
 OH (iBox 107 h a0) fun a2 h_1=>
 OH (iBox 107 h_1 b1) fun b3 h_2=>
 OH (iAlloc 107 [(.bool false),(.slice none 0 0),(.bool false),(.slice none 0 0)] h_2) fun x4 h_3=>
 OP (iLoad true 4 h_3 a2) fun x5=>
 CallP P 90 [x5] h_3 fun x6 h_4=>
 p87z5 P K a2 b3 x4 x6 h_4
theorem e87:iwpP P c87 (bodyP [.cell true 4 4] K) (frame0 [a0,b1]) h=T87 P K a0 b1 h:=by kernel_rfl
theorem f87 {K:VK} {a0 b1:Value} {h:Heap} (H:T87 Tryz.prog K a0 b1 h):CallP Tryz.prog 87 [a0,b1] h K:=
 callP_intro k87 (Nat.le_of_ble_eq_true rfl) ((e87 Tryz.prog K a0 b1 h).mpr H)
end
/-! F88: (pommel/num.Rat).Mul -/
noncomputable section
variable (a0 b1 a2 b3 x4 x7 x9 : Value) (h : Heap)
def oc88:=compFn Tryz.prog 88 [[],[2,3,4,7],[2,3,4,7,9],[],[],[],[]]
@[irreducible] def c88:=icOf oc88
@[irreducible] def c88z5:=c88.r.l.l.r.l
@[irreducible] def c88z3:=c88.r.l.r
@[irreducible] def c88z2:=c88.r.r
@[irreducible] def c88z7:=c88z5.r.l
theorem k88:oc88=some (28,c88,[.cell true 4 4]):=by kernel_rfl
def K88z0 (_P:Program) (K:VK):Kont:=bodyP [.cell true 4 4] K
def K88z2:Kont:=thenK (iwpP P c88z2 (K88z0 P K)) (K88z0 P K)
def K88z3:Kont:=thenK (iwpP P c88z3 (K88z2 P K)) (K88z2 P K)
def p88z5:Prop:=CutP (iwpP P c88z5 (K88z3 P K)) [2,3,4,7] [a2,b3,x4,x7] h
def p88z7:Prop:=CutP (iwpP P c88z7 (K88z3 P K)) [2,3,4,7,9] [a2,b3,x4,x7,x9] h
theorem q88z7:p88z7 P K a2 b3 x4 x7 x9 h=
 (OP (iPick x7 x9 (.bool false)) fun x10=>
 IfP x10
 (OP (iFadr 0 a2) fun x11=>
 OP (iLoad true 2 h x11) fun x12=>
 OP (iFadr 0 b3) fun x13=>
 OP (iLoad true 2 h x13) fun x14=>
 CallP P 107 [x12,x14] h fun x15 h_1=>
 CallP P 112 [x15] h_1 fun x16 h_2=>
 OH (oStore 4 h_2 x4 x16) fun _ h_3=>
 OP (iLoad true 4 h_3 x4) fun r0=>
 K r0 h_3)
 (OP (iFadr 0 a2) fun x17=>
 OP (iLoad true 2 h x17) fun x18=>
 (True)∧
 OP (iFadr 0 b3) fun x19=>
 OP (iLoad true 2 h x19) fun x20=>
 (True)∧
 CallP P 107 [x18,x20] h fun x21 h_1=>
 (True)∧
 OP (iFadr 2 a2) fun x22=>
 OP (iLoad true 2 h_1 x22) fun x23=>
 (iLoad true 2 h x22=some x23∧True)∧
 OP (iFadr 2 b3) fun x24=>
 OP (iLoad true 2 h_1 x24) fun x25=>
 (iLoad true 2 h x24=some x25∧True)∧
 CallP P 107 [x23,x25] h_1 fun x26 h_2=>
 (True)∧
 CallP P 106 [x21,x26] h_2 fun x27 h_3=>
 (True)∧
 OH (oStore 4 h_3 x4 x27) fun _ h_4=>
 (True)∧
 OP (iLoad true 4 h_4 x4) fun r0=>
 K r0 h_4)):=cdt (by kernel_rfl)
theorem q88z5:p88z5 P K a2 b3 x4 x7 h=
 (GdP x7 true
 (OP (iLoad true 4 h b3) fun x8=>
 CallP P 90 [x8] h fun x9 h_1=>
 p88z7 P K a2 b3 x4 x7 x9 h_1)
 (p88z7 P K a2 b3 x4 x7 undef h)):=cdt (by kernel_rfl)
def T88:Prop:=
 OH (iBox 107 h a0) fun a2 h_1=>
 OH (iBox 107 h_1 b1) fun b3 h_2=>
 OH (iAlloc 107 [(.bool false),(.slice none 0 0),(.bool false),(.slice none 0 0)] h_2) fun x4 h_3=>
 OP (iLoad true 4 h_3 a2) fun x5=>
 CallP P 90 [x5] h_3 fun x6 h_4=>
 p88z5 P K a2 b3 x4 x6 h_4
theorem e88:iwpP P c88 (bodyP [.cell true 4 4] K) (frame0 [a0,b1]) h=T88 P K a0 b1 h:=by kernel_rfl
theorem f88 {K:VK} {a0 b1:Value} {h:Heap} (H:T88 Tryz.prog K a0 b1 h):CallP Tryz.prog 88 [a0,b1] h K:=
 callP_intro k88 (Nat.le_of_ble_eq_true rfl) ((e88 Tryz.prog K a0 b1 h).mpr H)
end
end Go.Proofs.YtelmdbpaoifmoaaGreat

namespace Go.Proofs.YtelmdbpaoifmoaaGreat
open Go.Sim

def RV (h:Heap) (v:Value) (q:Rat):Prop:=RatV h v q.num (q.den:Int)
theorem RV.mono {h h':Heap} {v:Value} {q:Rat} (x:EX h h') (p:RV h v q):RV h' v q:=RatV.mono x p

def szQ (k:Nat) (q:Rat):Prop:=q.num.natAbs<10^k∧q.den<10^k

def k900:Nat:=900
theorem pow900:(10:Nat)^k900≤bigW:=by unfold bigW;decide+kernel

theorem pow_big {k:Nat} (h:k≤900):10^k≤bigW:=Nat.le_trans (Nat.pow_le_pow_right (by decide) (show k≤k900 from h)) pow900

theorem mul_pow {a b i j:Nat} (ha:a<10^i) (hb:b<10^j):a*b<10^(i+j):=by
 rw [Nat.pow_add]
 exact Nat.mul_lt_mul'' ha hb

theorem mkRat_parts {N:Int} {D:Nat} (hD:0<D):(mkRat N D).num=N / (Nat.gcd N.natAbs D:Int)∧(mkRat N D).den=D / Nat.gcd N.natAbs D:=by
 rw [←Rat.normalize_eq_mkRat (by omega:D≠0),Rat.normalize_eq]
 exact ⟨rfl,rfl⟩

theorem C106r {va vb:Value} {N:Int} {D:Nat} {h:Heap} {K:Value→Heap→Prop} (ha:IntV h va N) (hb:IntV h vb (D:Int)) (la:N.natAbs<bigW) (d0:0<D) (lb:D<bigW) (hk:∀r h',EX h h'→RV h' r (mkRat N D)→K r h'):CallP Tryz.prog 106 [va,vb] h K:=by
 refine C106g ha hb la (by omega) (by rw [Int.natAbs_natCast];exact lb) ?_
 intro r h' x hr
 refine hk r h' x ?_
 obtain ⟨e1,e2⟩:=mkRat_parts (N:=N) d0
 unfold RV
 rw [e1,e2,Int.natCast_ediv]
 rw [Int.natAbs_natCast] at hr
 exact hr

theorem szQ.big {k:Nat} {q:Rat} (h:szQ k q) (hk:k≤900):q.num.natAbs<bigW∧q.den<bigW:=by
 have:=pow_big hk
 exact ⟨Nat.lt_of_lt_of_le h.1 this,Nat.lt_of_lt_of_le h.2 this⟩

theorem cross_lt {i j:Nat} {p q:Rat} (hp:szQ i p) (hq:szQ j q):(p.num*q.den).natAbs<10^(i+j)∧(q.num*p.den).natAbs<10^(i+j)∧p.den*q.den<10^(i+j)∧(p.num*q.num).natAbs<10^(i+j):=by
 refine ⟨?_,?_,mul_pow hp.2 hq.2,?_⟩
 ·rw [Int.natAbs_mul,Int.natAbs_natCast];exact mul_pow hp.1 hq.2
 ·rw [Int.natAbs_mul,Int.natAbs_natCast,Nat.mul_comm];exact mul_pow hp.2 hq.1
 ·rw [Int.natAbs_mul];exact mul_pow hp.1 hq.1

theorem mkRat_whole (n:Int):(mkRat n 1).num=n∧(mkRat n 1).den=1:=by
 obtain ⟨e1,e2⟩:=mkRat_parts (N:=n) (D:=1) (by decide)
 rw [Nat.gcd_one_right] at e1 e2
 exact ⟨by rw [e1];simp,by rw [e2]⟩

theorem add_mk (p q:Rat):p+q=mkRat (p.num*q.den+q.num*p.den) (p.den*q.den):=by rw [Rat.add_def,Rat.normalize_eq_mkRat]
theorem mul_mk (p q:Rat):p*q=mkRat (p.num*q.num) (p.den*q.den):=by rw [Rat.mul_def,Rat.normalize_eq_mkRat]

section
variable {va vb : Value} {p q : Rat} {i j : Nat} {h : Heap} {K : Value → Heap → Prop}

theorem C87 (ha:RV h va p) (hb:RV h vb q) (sp:szQ i p) (sq:szQ j q) (hij:i+j≤800) (hk:∀r h',EX h h'→RV h' r (p+q)→K r h'):CallP Tryz.prog 87 [va,vb] h K:=by
 obtain ⟨u,w,rfl,hu,hw⟩:=ha
 obtain ⟨u2,w2,rfl,hu2,hw2⟩:=hb
 have pd:=p.den_pos
 have qd:=q.den_pos
 obtain ⟨lp1,lp2⟩:=sp.big (by omega)
 obtain ⟨lq1,lq2⟩:=sq.big (by omega)
 obtain ⟨c1,c2,c3,_⟩:=cross_lt sp sq
 have cb:=pow_big (k:=i+j) (by omega)
 have cb1:=pow_big (k:=i+j+1) (by omega)
 have hs1:decide ((p.den:Int)<0)=false:=decide_eq_false (by omega)
 have hs2:decide ((q.den:Int)<0)=false:=decide_eq_false (by omega)
 rw [Int.natAbs_natCast] at hw hw2
 rw [hs1,hs2]
 refine f87 ?_
 have e1:∀(g:Heap) (s t:Bool) (v w:Value),iBox 107 g (.agg #[B s,v,B t,w])=some (pt g.length 0,g++[.arr 107 [B s,v,B t,w]]):=fun _ _ _ _ _=>rfl
 have e3:∀(g:Heap),iAlloc 107 [(.bool false),(.slice none 0 0),(.bool false),(.slice none 0 0)] g=some (pt g.length 0,g++[.arr 107 z4]):=fun _=>rfl
 simp only [T87,e1,e3,OH_some]
 have q0:EX h (h++[.arr 107 [B (decide (p.num<0)),u,B false,w]]):=EX.append _ _
 have p0:(h++[IObj.arr 107 [B (decide (p.num<0)),u,B false,w]])[h.length]?=some (.arr 107 [B (decide (p.num<0)),u,B false,w]):=get_last
 generalize h++[IObj.arr 107 [B (decide (p.num<0)),u,B false,w]]=ga at q0 p0⊢
 have q1:EX ga (ga++[.arr 107 [B (decide (q.num<0)),u2,B false,w2]]):=EX.append _ _
 have p1:(ga++[IObj.arr 107 [B (decide (q.num<0)),u2,B false,w2]])[ga.length]?=some (.arr 107 [B (decide (q.num<0)),u2,B false,w2]):=get_last
 generalize ga++[IObj.arr 107 [B (decide (q.num<0)),u2,B false,w2]]=gb at q1 p1⊢
 have q2:EX gb (gb++[.arr 107 z4]):=EX.append _ _
 have p2:(gb++[IObj.arr 107 z4])[gb.length]?=some (.arr 107 z4):=get_last
 generalize gb++[IObj.arr 107 z4]=gc at q2 p2⊢
 have k0:=(q1.trans q2).get p0
 have k1:=q2.get p1
 have x0:=q0.trans (q1.trans q2)
 have hlb:h.length≤gb.length:=(q0.trans q1).1
 have done:∀{N:Int} {D:Nat} {r:Value} {g:Heap},EX gc g→RV g r (mkRat N D)→p+q=mkRat N D→OH (oStore 4 g (pt gb.length 0) r) fun _ h_3=>OP (iLoad true 4 h_3 (pt gb.length 0)) fun r0=>K r0 h_3:=by
  intro N D r g xg hr he
  rw [←he] at hr
  have g2:=xg.get p2
  obtain ⟨y,z,rfl,hy,hz⟩:=hr
  exact fin4 g2 (hk _ _ ((x0.trans xg).set hlb _) ⟨y,z,rfl,hy.setB g2 _,hz.setB g2 _⟩)
 simp only [load4 k0,OP_some]
 refine C90q (hw.mono x0) lp2 ?_
 intro g4 x4
 have k0':=x4.get k0
 have k1':=x4.get k1
 have x04:=x0.trans x4
 rw [q87z5]
 have whole:∀t u':Value,iPick t u' (.bool false)=some (B (decide (p.den=1)&&decide (q.den=1)))→∀{g5:Heap},EX g4 g5→p87z7 Tryz.prog K (pt h.length 0) (pt ga.length 0) (pt gb.length 0) t u' g5:=by
  intro t u' ht g5 x5
  have k0:=x5.get k0'
  have k1:=x5.get k1'
  have x05:=x04.trans x5
  have x45:=x4.trans x5
  rw [q87z7,ht]
  simp only [OP_some]
  by_cases hb1:p.den=1∧q.den=1
  ·rw [decide_eq_true hb1.1,decide_eq_true hb1.2]
   simp only [Bool.and_true,IfP_true,fadr_pt,Nat.zero_add,OP_some]
   rw [load4a k0]
   simp only [OP_some]
   rw [load4a k1]
   simp only [OP_some]
   refine C113 (a:=p.num) (b:=q.num) ⟨u,rfl,hu.mono x05⟩ ⟨u2,rfl,hu2.mono x05⟩ lp1 lq1 ?_
   intro r1 g6 x6 i1
   refine C112 i1 ?_
   intro r2 g7 x7 i2
   obtain ⟨n1,n2⟩:=mkRat_whole (p.num+q.num)
   refine done (N:=p.num+q.num) (D:=1) (x45.trans (x6.trans x7)) (by unfold RV;rw [n1,n2];exact i2) ?_
   rw [add_mk,hb1.1,hb1.2]
   simp
  ·have hf:(decide (p.den=1)&&decide (q.den=1))=false:=by
    rw [Bool.and_eq_false_iff,decide_eq_false_iff_not,decide_eq_false_iff_not]
    by_cases h1:p.den=1
    ·exact .inr fun h2=>hb1 ⟨h1,h2⟩
    ·exact .inl h1
   rw [hf]
   have ld0:∀{g:Heap},EX g5 g→iLoad true 2 g (pt h.length 0)=some (.agg #[B (decide (p.num<0)),u]):=fun x=>load4a (x.get k0)
   have ld2:∀{g:Heap},EX g5 g→iLoad true 2 g (pt h.length 2)=some (.agg #[B false,w]):=fun x=>load4b (x.get k0)
   have le0:∀{g:Heap},EX g5 g→iLoad true 2 g (pt ga.length 0)=some (.agg #[B (decide (q.num<0)),u2]):=fun x=>load4a (x.get k1)
   have le2:∀{g:Heap},EX g5 g→iLoad true 2 g (pt ga.length 2)=some (.agg #[B false,w2]):=fun x=>load4b (x.get k1)
   have iw:∀{g:Heap},EX g5 g→IntV g (.agg #[B false,w]) (p.den:Int):=fun x=>IntV.nat (hw.mono (x05.trans x))
   have iw2:∀{g:Heap},EX g5 g→IntV g (.agg #[B false,w2]) (q.den:Int):=fun x=>IntV.nat (hw2.mono (x05.trans x))
   simp only [IfP_false,fadr_pt,Nat.zero_add,OP_some,ld0 (EX.refl g5),le2 (EX.refl g5),true_and]
   refine C107 (a:=p.num) (b:=(q.den:Int)) ⟨u,rfl,hu.mono x05⟩ (iw2 (EX.refl g5)) lp1 (by rw [Int.natAbs_natCast];exact lq2) ?_
   intro r1 g6 x6 i1
   simp only [le0 x6,le0 (EX.refl g5),ld2 x6,ld2 (EX.refl g5),OP_some,true_and]
   refine C107 (a:=q.num) (b:=(p.den:Int)) ⟨u2,rfl,(hu2.mono x05).mono x6⟩ (iw x6) lq1 (by rw [Int.natAbs_natCast];exact lp2) ?_
   intro r2 g7 x7 i2
   have x67:=x6.trans x7
   refine C113 (i1.mono x7) i2 (by omega) (by omega) ?_
   intro r3 g8 x8 i3
   have x68:=x67.trans x8
   simp only [ld2 x68,ld2 (EX.refl g5),ld2 x6,ld2 x67,le2 x68,le2 (EX.refl g5),le2 x6,le2 x67,OP_some,true_and]
   refine C107 (iw x68) (iw2 x68) (by rw [Int.natAbs_natCast];exact lp2) (by rw [Int.natAbs_natCast];exact lq2) ?_
   intro r4 g9 x9 i4
   rw [←Int.natCast_mul] at i4
   have hsum:(p.num*q.den+q.num*p.den).natAbs<bigW:=by
    have h1:10^(i+j+1)=10^(i+j)*10:=Nat.pow_succ ..
    generalize 10^(i+j)=Z at*
    omega
   refine C106r (i3.mono x9) i4 hsum (Nat.mul_pos pd qd) (Nat.lt_of_lt_of_le c3 cb) ?_
   intro r g10 x10 ir
   exact done (x45.trans (x68.trans (x9.trans x10))) ir (add_mk p q)
 by_cases h1:p.den=1
 ·rw [decide_eq_true h1]
  simp only [GdP_tt,load4 k1',OP_some]
  refine C90q (hw2.mono x04) lq2 ?_
  intro g5 x5
  refine whole _ _ ?_ x5
  rw [h1];simp
 ·rw [decide_eq_false h1]
  simp only [GdP_ft]
  refine whole _ _ ?_ (EX.refl g4)
  rw [decide_eq_false h1];simp

end
end Go.Proofs.YtelmdbpaoifmoaaGreat


namespace Go.Proofs.YtelmdbpaoifmoaaGreat
open Go.Sim

section
variable {va vb : Value} {p q : Rat} {i j : Nat} {h : Heap} {K : Value → Heap → Prop}

theorem C88 (ha:RV h va p) (hb:RV h vb q) (sp:szQ i p) (sq:szQ j q) (hij:i+j≤800) (hk:∀r h',EX h h'→RV h' r (p*q)→K r h'):CallP Tryz.prog 88 [va,vb] h K:=by
 obtain ⟨u,w,rfl,hu,hw⟩:=ha
 obtain ⟨u2,w2,rfl,hu2,hw2⟩:=hb
 have pd:=p.den_pos
 have qd:=q.den_pos
 obtain ⟨lp1,lp2⟩:=sp.big (by omega)
 obtain ⟨lq1,lq2⟩:=sq.big (by omega)
 obtain ⟨_,_,c3,c4⟩:=cross_lt sp sq
 have cb:=pow_big (k:=i+j) (by omega)
 have hs1:decide ((p.den:Int)<0)=false:=decide_eq_false (by omega)
 have hs2:decide ((q.den:Int)<0)=false:=decide_eq_false (by omega)
 rw [Int.natAbs_natCast] at hw hw2
 rw [hs1,hs2]
 refine f88 ?_
 have e1:∀(g:Heap) (s t:Bool) (v w:Value),iBox 107 g (.agg #[B s,v,B t,w])=some (pt g.length 0,g++[.arr 107 [B s,v,B t,w]]):=fun _ _ _ _ _=>rfl
 have e3:∀(g:Heap),iAlloc 107 [(.bool false),(.slice none 0 0),(.bool false),(.slice none 0 0)] g=some (pt g.length 0,g++[.arr 107 z4]):=fun _=>rfl
 simp only [T88,e1,e3,OH_some]
 have q0:EX h (h++[.arr 107 [B (decide (p.num<0)),u,B false,w]]):=EX.append _ _
 have p0:(h++[IObj.arr 107 [B (decide (p.num<0)),u,B false,w]])[h.length]?=some (.arr 107 [B (decide (p.num<0)),u,B false,w]):=get_last
 generalize h++[IObj.arr 107 [B (decide (p.num<0)),u,B false,w]]=ga at q0 p0⊢
 have q1:EX ga (ga++[.arr 107 [B (decide (q.num<0)),u2,B false,w2]]):=EX.append _ _
 have p1:(ga++[IObj.arr 107 [B (decide (q.num<0)),u2,B false,w2]])[ga.length]?=some (.arr 107 [B (decide (q.num<0)),u2,B false,w2]):=get_last
 generalize ga++[IObj.arr 107 [B (decide (q.num<0)),u2,B false,w2]]=gb at q1 p1⊢
 have q2:EX gb (gb++[.arr 107 z4]):=EX.append _ _
 have p2:(gb++[IObj.arr 107 z4])[gb.length]?=some (.arr 107 z4):=get_last
 generalize gb++[IObj.arr 107 z4]=gc at q2 p2⊢
 have k0:=(q1.trans q2).get p0
 have k1:=q2.get p1
 have x0:=q0.trans (q1.trans q2)
 have hlb:h.length≤gb.length:=(q0.trans q1).1
 have done:∀{N:Int} {D:Nat} {r:Value} {g:Heap},EX gc g→RV g r (mkRat N D)→p*q=mkRat N D→OH (oStore 4 g (pt gb.length 0) r) fun _ h_3=>OP (iLoad true 4 h_3 (pt gb.length 0)) fun r0=>K r0 h_3:=by
  intro N D r g xg hr he
  rw [←he] at hr
  have g2:=xg.get p2
  obtain ⟨y,z,rfl,hy,hz⟩:=hr
  exact fin4 g2 (hk _ _ ((x0.trans xg).set hlb _) ⟨y,z,rfl,hy.setB g2 _,hz.setB g2 _⟩)
 simp only [load4 k0,OP_some]
 refine C90q (hw.mono x0) lp2 ?_
 intro g4 x4
 have k0':=x4.get k0
 have k1':=x4.get k1
 have x04:=x0.trans x4
 rw [q88z5]
 have whole:∀t u':Value,iPick t u' (.bool false)=some (B (decide (p.den=1)&&decide (q.den=1)))→∀{g5:Heap},EX g4 g5→p88z7 Tryz.prog K (pt h.length 0) (pt ga.length 0) (pt gb.length 0) t u' g5:=by
  intro t u' ht g5 x5
  have k0:=x5.get k0'
  have k1:=x5.get k1'
  have x05:=x04.trans x5
  have x45:=x4.trans x5
  rw [q88z7,ht]
  simp only [OP_some]
  by_cases hb1:p.den=1∧q.den=1
  ·rw [decide_eq_true hb1.1,decide_eq_true hb1.2]
   simp only [Bool.and_true,IfP_true,fadr_pt,Nat.zero_add,OP_some]
   rw [load4a k0]
   simp only [OP_some]
   rw [load4a k1]
   simp only [OP_some]
   refine C107 (a:=p.num) (b:=q.num) ⟨u,rfl,hu.mono x05⟩ ⟨u2,rfl,hu2.mono x05⟩ lp1 lq1 ?_
   intro r1 g6 x6 i1
   refine C112 i1 ?_
   intro r2 g7 x7 i2
   obtain ⟨n1,n2⟩:=mkRat_whole (p.num*q.num)
   refine done (N:=p.num*q.num) (D:=1) (x45.trans (x6.trans x7)) (by unfold RV;rw [n1,n2];exact i2) ?_
   rw [mul_mk,hb1.1,hb1.2]
  ·have hf:(decide (p.den=1)&&decide (q.den=1))=false:=by
    rw [Bool.and_eq_false_iff,decide_eq_false_iff_not,decide_eq_false_iff_not]
    by_cases h1:p.den=1
    ·exact .inr fun h2=>hb1 ⟨h1,h2⟩
    ·exact .inl h1
   rw [hf]
   have ld0:∀{g:Heap},EX g5 g→iLoad true 2 g (pt h.length 0)=some (.agg #[B (decide (p.num<0)),u]):=fun x=>load4a (x.get k0)
   have ld2:∀{g:Heap},EX g5 g→iLoad true 2 g (pt h.length 2)=some (.agg #[B false,w]):=fun x=>load4b (x.get k0)
   have le0:∀{g:Heap},EX g5 g→iLoad true 2 g (pt ga.length 0)=some (.agg #[B (decide (q.num<0)),u2]):=fun x=>load4a (x.get k1)
   have le2:∀{g:Heap},EX g5 g→iLoad true 2 g (pt ga.length 2)=some (.agg #[B false,w2]):=fun x=>load4b (x.get k1)
   have iw:∀{g:Heap},EX g5 g→IntV g (.agg #[B false,w]) (p.den:Int):=fun x=>IntV.nat (hw.mono (x05.trans x))
   have iw2:∀{g:Heap},EX g5 g→IntV g (.agg #[B false,w2]) (q.den:Int):=fun x=>IntV.nat (hw2.mono (x05.trans x))
   simp only [IfP_false,fadr_pt,Nat.zero_add,OP_some,ld0 (EX.refl g5),le0 (EX.refl g5),true_and]
   refine C107 (a:=p.num) (b:=q.num) ⟨u,rfl,hu.mono x05⟩ ⟨u2,rfl,hu2.mono x05⟩ lp1 lq1 ?_
   intro r1 g6 x6 i1
   simp only [ld2 x6,ld2 (EX.refl g5),le2 x6,le2 (EX.refl g5),OP_some,true_and]
   refine C107 (iw x6) (iw2 x6) (by rw [Int.natAbs_natCast];exact lp2) (by rw [Int.natAbs_natCast];exact lq2) ?_
   intro r2 g7 x7 i2
   rw [←Int.natCast_mul] at i2
   have x67:=x6.trans x7
   refine C106r (i1.mono x7) i2 (Nat.lt_of_lt_of_le c4 cb) (Nat.mul_pos pd qd) (Nat.lt_of_lt_of_le c3 cb) ?_
   intro r g10 x10 ir
   exact done (x45.trans (x67.trans x10)) ir (mul_mk p q)
 by_cases h1:p.den=1
 ·rw [decide_eq_true h1]
  simp only [GdP_tt,load4 k1',OP_some]
  refine C90q (hw2.mono x04) lq2 ?_
  intro g5 x5
  refine whole _ _ ?_ x5
  rw [h1];simp
 ·rw [decide_eq_false h1]
  simp only [GdP_ft]
  refine whole _ _ ?_ (EX.refl g4)
  rw [decide_eq_false h1];simp

def cmpR (p q:Rat):Int:=if p=q then 0 else if p<q then -1 else 1

theorem cmp_ints (p q:Rat):(if p.num*q.den-q.num*p.den=0 then 0 else if p.num*q.den-q.num*p.den<0 then -1 else 1:Int)=cmpR p q:=by
 unfold cmpR
 have h1:p=q↔p.num*q.den-q.num*p.den=0:=by
  constructor
  ·rintro rfl;omega
  ·intro h
   refine Rat.le_antisymm ?_ ?_ <;> rw [Rat.le_iff] <;> omega
 have h2:p<q↔p.num*q.den-q.num*p.den<0:=by rw [Rat.lt_iff];omega
 by_cases e1:p=q
 ·rw [if_pos e1,if_pos (h1.1 e1)]
 ·rw [if_neg e1,if_neg (fun h=>e1 (h1.2 h))]
  by_cases e2:p<q
  ·rw [if_pos e2,if_pos (h2.1 e2)]
  ·rw [if_neg e2,if_neg (fun h=>e2 (h2.2 h))]

theorem C86 (ha:RV h va p) (hb:RV h vb q) (sp:szQ i p) (sq:szQ j q) (hij:i+j≤800) (hk:∀h',EX h h'→K (I (cmpR p q)) h'):CallP Tryz.prog 86 [va,vb] h K:=by
 obtain ⟨u,w,rfl,hu,hw⟩:=ha
 obtain ⟨u2,w2,rfl,hu2,hw2⟩:=hb
 obtain ⟨lp1,lp2⟩:=sp.big (by omega)
 obtain ⟨lq1,lq2⟩:=sq.big (by omega)
 obtain ⟨c1,c2,_,_⟩:=cross_lt sp sq
 have cb:=pow_big (k:=i+j) (by omega)
 have hs1:decide ((p.den:Int)<0)=false:=decide_eq_false (by omega)
 have hs2:decide ((q.den:Int)<0)=false:=decide_eq_false (by omega)
 rw [Int.natAbs_natCast] at hw hw2
 rw [hs1,hs2]
 refine f86 ?_
 have e1:∀(g:Heap) (s t:Bool) (v w:Value),iBox 107 g (.agg #[B s,v,B t,w])=some (pt g.length 0,g++[.arr 107 [B s,v,B t,w]]):=fun _ _ _ _ _=>rfl
 simp only [T86,e1,OH_some]
 have q0:EX h (h++[.arr 107 [B (decide (p.num<0)),u,B false,w]]):=EX.append _ _
 have p0:(h++[IObj.arr 107 [B (decide (p.num<0)),u,B false,w]])[h.length]?=some (.arr 107 [B (decide (p.num<0)),u,B false,w]):=get_last
 generalize h++[IObj.arr 107 [B (decide (p.num<0)),u,B false,w]]=ga at q0 p0⊢
 have q1:EX ga (ga++[.arr 107 [B (decide (q.num<0)),u2,B false,w2]]):=EX.append _ _
 have p1:(ga++[IObj.arr 107 [B (decide (q.num<0)),u2,B false,w2]])[ga.length]?=some (.arr 107 [B (decide (q.num<0)),u2,B false,w2]):=get_last
 generalize ga++[IObj.arr 107 [B (decide (q.num<0)),u2,B false,w2]]=gb at q1 p1⊢
 have k0:=q1.get p0
 have x0:=q0.trans q1
 simp only [fadr_pt,Nat.zero_add,OP_some,load4a k0,load4b p1,true_and]
 refine C107 (a:=p.num) (b:=(q.den:Int)) ⟨u,rfl,hu.mono x0⟩ (IntV.nat (hw2.mono x0)) lp1 (by rw [Int.natAbs_natCast];exact lq2) ?_
 intro r1 g6 x6 i1
 simp only [load4a (x6.get p1),load4a p1,load4b (x6.get k0),load4b k0,OP_some,true_and]
 refine C107 (a:=q.num) (b:=(p.den:Int)) ⟨u2,rfl,(hu2.mono x0).mono x6⟩ (IntV.nat ((hw.mono x0).mono x6)) lq1 (by rw [Int.natAbs_natCast];exact lp2) ?_
 intro r2 g7 x7 i2
 refine C111 (i1.mono x7) i2 (Nat.lt_of_lt_of_le c1 cb) (Nat.lt_of_lt_of_le c2 cb) ?_
 intro g8 x8
 rw [cmp_ints]
 exact hk g8 (x0.trans (x6.trans (x7.trans x8)))

theorem div_mk {p q:Rat} (hq:0<q.num):p / q=mkRat (p.num*q.den) (p.den*q.num.toNat):=by
 have h1:=Rat.mkRat_self p
 have h2:=Rat.mkRat_self q
 rw [Rat.mkRat_eq_div] at h1 h2
 rw [Rat.mkRat_eq_div,Rat.intCast_mul,Rat.natCast_mul]
 have h3:((q.num.toNat:Nat):Rat)=(q.num:Rat):=by
  rw [←Rat.intCast_natCast,Int.toNat_of_nonneg (by omega)]
 have h4:((q.den:Nat):Int)=(q.den:Int):=rfl
 rw [h3,Rat.intCast_natCast]
 have d1:((p.den:Nat):Rat)≠0:=by
  have:=p.den_nz
  intro h
  exact this (by exact_mod_cast h)
 have d2:((q.den:Nat):Rat)≠0:=by
  have:=q.den_nz
  intro h
  exact this (by exact_mod_cast h)
 have d3:(q.num:Rat)≠0:=by
  intro h
  have:q.num=0:=by exact_mod_cast h
  omega
 generalize (p.num:Rat)=a at*
 generalize (q.num:Rat)=b at*
 generalize ((p.den:Nat):Rat)=c at*
 generalize ((q.den:Nat):Rat)=d at*
 rw [←h1,←h2]
 grind

theorem C77r (ha:RV h va p) (hb:RV h vb q) (hq:0<q.num) (sp:szQ i p) (sq:szQ j q) (hij:i+j≤800) (hk:∀r h',EX h h'→RV h' r (p / q)→K r h'):CallP Tryz.prog 77 [va,vb] h K:=by
 obtain ⟨lp1,lp2⟩:=sp.big (by omega)
 obtain ⟨lq1,lq2⟩:=sq.big (by omega)
 obtain ⟨c1,c2,_,_⟩:=cross_lt sp sq
 have cb:=pow_big (k:=i+j) (by omega)
 have pd:=p.den_pos
 have hpos:(0:Int)<(p.den:Int)*q.num:=Int.mul_pos (by omega) hq
 obtain ⟨m,hm⟩:∃m:Nat,q.num=(m:Int):=⟨q.num.toNat,by omega⟩
 have hN:((p.den:Int)*q.num).natAbs=p.den*q.num.toNat:=by rw [Int.natAbs_mul,Int.natAbs_natCast];congr 1;omega
 refine C77g ha hb lp1 (by rw [Int.natAbs_natCast];exact lp2) lq1 (by rw [Int.natAbs_natCast];exact lq2) (Nat.lt_of_lt_of_le c1 cb) hpos (by rw [Int.mul_comm];exact Nat.lt_of_lt_of_le c2 cb) ?_
 intro r h' x hr
 refine hk r h' x ?_
 have hD:0<p.den*q.num.toNat:=Nat.mul_pos pd (by omega)
 obtain ⟨e1,e2⟩:=mkRat_parts (N:=p.num*q.den) hD
 unfold RV
 rw [div_mk hq,e1,e2,Int.natCast_ediv,Int.natCast_mul,Int.toNat_of_nonneg (by omega)]
 rw [hN] at hr
 exact hr

theorem C75r {n:Int} (h1: -9223372036854775808≤n) (h2:n<9223372036854775808) (hk:∀r h',EX h h'→RV h' r (n:Rat)→K r h'):CallP Tryz.prog 75 [I n] h K:=by
 refine C75 h1 h2 ?_
 intro r h' x hr
 exact hk r h' x hr

end
end Go.Proofs.YtelmdbpaoifmoaaGreat


namespace Go.Proofs.YtelmdbpaoifmoaaGreat
open Go.Sim

section
variable {va vb : Value} {p q : Rat} {i j : Nat} {h : Heap} {K : Value → Heap → Prop}

theorem szQ.neg {k:Nat} {q:Rat} (h:szQ k q):szQ k (-q):=by
 unfold szQ at*
 rw [Rat.neg_num,Rat.neg_den,Int.natAbs_neg]
 exact h

theorem C81 (ha:RV h va p) (hk:∀h',EX h h'→K (I (isgn p.num)) h'):CallP Tryz.prog 81 [va] h K:=by
 obtain ⟨u,w,rfl,hu,hw⟩:=ha
 refine f81 ?_
 have e1:∀(g:Heap) (s t:Bool) (v w:Value),iBox 107 g (.agg #[B s,v,B t,w])=some (pt g.length 0,g++[.arr 107 [B s,v,B t,w]]):=fun _ _ _ _ _=>rfl
 simp only [T81,e1,OH_some]
 generalize decide ((p.den:Int)<0)=t1 at*
 have q0:EX h (h++[.arr 107 [B (decide (p.num<0)),u,B t1,w]]):=EX.append _ _
 have p0:(h++[IObj.arr 107 [B (decide (p.num<0)),u,B t1,w]])[h.length]?=some (.arr 107 [B (decide (p.num<0)),u,B t1,w]):=get_last
 generalize h++[IObj.arr 107 [B (decide (p.num<0)),u,B t1,w]]=ga at q0 p0⊢
 simp only [fadr_pt,Nat.zero_add,OP_some,load4a p0]
 refine C109 (a:=p.num) ⟨u,rfl,hu.mono q0⟩ ?_
 intro h' x'
 exact hk h' (q0.trans x')

end
end Go.Proofs.YtelmdbpaoifmoaaGreat


namespace Go.Proofs.YtelmdbpaoifmoaaGreat
open Go.Sim

theorem C99b {s:List UInt8} {h:Heap} {K:Value→Heap→Prop} (h0:0<s.length) (h1:s.length≤4000) (h2:s.head?=some 48→s.length=1)
  (hk:digs s→∀r h',EX h h'→ZV h' r (valB s)→K (.tuple #[r,B true]) h')
  (hk0:¬digs s→∀h',EX h h'→K (.tuple #[.agg #[B false,.slice none 0 0],B false]) h'):CallP Tryz.prog 99 [S s] h K:=by
 refine f99 ?_
 have e2:∀g:Heap,iAlloc 35 [(.bool false),(.slice none 0 0)] g=some (pt g.length 0,g++[.arr 35 [(.bool false),(.slice none 0 0)]]):=fun _=>rfl
 have e3:iBuild [(.bool false),(.slice none 0 0)] []=some (.agg #[B false,.slice none 0 0]):=rfl
 have hc0:(s[0].toNat:Int)=48→s.length≤1:=by
  intro h3
  refine Nat.le_of_eq (h2 ?_)
  rw [List.head?_eq_getElem?,List.getElem?_eq_getElem h0]
  congr 1
  apply UInt8.toNat_inj.1
  show s[0].toNat=48
  omega
 have i0:=idxS_S (a:=s) (i:=0) h0 .i64
 simp only [Int.natCast_zero,Int.ofNat_zero] at i0
 simp only [T99,e2,OH_some,lenS_S,OP_some,bin_lss]
 rw [decide_eq_false (show ¬(s.length:Int)<1 by omega)]
 simp only [q99z5,GdP_ff,lenS_S,OP_some,bin_gtr]
 rw [decide_eq_false (show ¬(s.length:Int)>4000 by omega)]
 simp only [q99z7,iPick_f,OP_some,q99z9,GdP_ff,i0]
 have after:∀t:Value,t=B false→p99z15 Tryz.prog K (S s) (pt h.length 0) (B false) t (h++[.arr 35 [(.bool false),(.slice none 0 0)]]):=by
  rintro _ rfl
  rw [q99z15]
  simp only [iPick_f,OP_some,IfP_false,e3,e2,OH_some,List.length_append,List.length_cons,List.length_nil,Nat.zero_add]
  have g1:(h++[IObj.arr 35 [(.bool false),(.slice none 0 0)]]++[IObj.arr 35 [(.bool false),(.slice none 0 0)]])[h.length+1]?=some (.arr 35 [(.bool false),(.slice none 0 0)]):=by simp
  have g0:(h++[IObj.arr 35 [(.bool false),(.slice none 0 0)]]++[IObj.arr 35 [(.bool false),(.slice none 0 0)]])[h.length]?=some (.arr 35 [(.bool false),(.slice none 0 0)]):=by simp
  have x1:EX h (h++[IObj.arr 35 [(.bool false),(.slice none 0 0)]]++[IObj.arr 35 [(.bool false),(.slice none 0 0)]]):=(EX.append _ _).push _
  have hl1:(h++[IObj.arr 35 [(.bool false),(.slice none 0 0)]]++[IObj.arr 35 [(.bool false),(.slice none 0 0)]]).length=h.length+2:=by simp
  generalize h++[IObj.arr 35 [(.bool false),(.slice none 0 0)]]++[IObj.arr 35 [(.bool false),(.slice none 0 0)]]=hA at*
  rw [store2 g1]
  simp only [OH_some,lenS_S,OP_some]
  have fail:∀g:Heap,EX h g→g[h.length]?=some (.arr 35 [.bool false,.slice none 0 0])→¬digs s→(OP (iBuild [(.bool false),(.slice none 0 0)] []) fun x52=>OH (oStore 2 g (pt h.length 0) x52) fun _ h_1=>OP (iLoad true 2 h_1 (pt h.length 0)) fun r0=>K (.tuple #[r0,(.bool false)]) h_1):=by
   intro g x k hn
   simp only [e3,OP_some]
   rw [store2 k]
   simp only [OH_some]
   rw [load2 (set_get k),OP_some]
   exact hk0 hn _ (x.set (Nat.le_refl _) _)
  refine loopL (σ:=Int×List Nat×Value×Heap) (fun p=>[I p.1]) (fun p=>p.2.2.2)
   (fun p=>h.length+2≤p.2.2.2.length∧EX h p.2.2.2∧p.2.2.2[h.length]?=some (.arr 35 [.bool false,.slice none 0 0])∧p.2.2.2[h.length+1]?=some (.arr 35 [B false,p.2.2.1])∧OwnD (h.length+2) p.2.2.2 p.2.2.1 p.2.1∧Lim 10000 p.2.1∧p.1=(s.length:Int)-4*(p.2.1.length:Int)∧ -4<p.1∧val 10000 p.2.1+10000^p.2.1.length*valB (s.take p.1.toNat)=valB s∧digs (s.drop p.1.toNat)) (fun p=>(p.1+4).toNat)
   ((s.length:Int),[],.slice none 0 0,hA.set (h.length+1) (.arr 35 [B false,.slice none 0 0])) rfl rfl
   ⟨by simp [hl1],x1.set (by omega) _,by rw [List.getElem?_set_ne (by omega)];exact g0,set_get g1,.inl ⟨rfl,rfl⟩,fun _ hx=>by simp at hx,by simp,by simp;omega,by simp [val],by simp [digs]⟩ ?_
  rintro ⟨at5,os,v,hx⟩ ⟨hlen,hex,k0,k1,hown,hlim,hat,hat4,hval,hdg⟩ L hL
  simp only at hlen hex k0 k1 hown hlim hat hat4 hval hdg hL⊢
  rw [q99z21]
  have e4:IntKind.wrap .i64 (at5-4)=at5-4:=wrap64 (by omega) (by omega)
  simp only [bin_gtr,OP_some,IfP_dec]
  refine ⟨fun hgt=>?_,fun hle=>?_⟩
  ·simp only [bin_sub,OP_some,e4,max2']
   obtain ⟨lo,hlo⟩:∃lo:Nat,max 0 (at5-4)=(lo:Int):=⟨(max 0 (at5-4)).toNat,by omega⟩
   obtain ⟨a,ha⟩:∃a:Nat,at5=(a:Int):=⟨at5.toNat,by omega⟩
   subst ha
   rw [hlo]
   have hal:a≤s.length:=by omega
   have hloa:lo≤a:=by omega
   have hlo2:lo=a-4:=by omega
   refine loopL (σ:=Nat×Nat) (fun p=>[I p.1,I p.2]) (fun _=>hx) (fun p=>lo≤p.2∧p.2≤a∧p.1=valB ((s.take p.2).drop lo)∧digs ((s.take p.2).drop lo)) (fun p=>a-p.2)
    (0,lo) rfl rfl ⟨Nat.le_refl _,hloa,by rw [List.drop_of_length_le (by rw [List.length_take];omega)];rfl,by
     show digs ((s.take lo).drop lo)
     rw [List.drop_of_length_le (by rw [List.length_take];omega)];intro c hc;simp at hc⟩ ?_
   rintro ⟨d,i⟩ ⟨hi1,hi2,hdv,hdi⟩ L2 hL2
   simp only at hi1 hi2 hdv hdi hL2⊢
   have hlt:=valB_lt hdi
   have hlen2:((s.take i).drop lo).length=i-lo:=by rw [List.length_drop,List.length_take];omega
   rw [hlen2] at hlt
   have hp:(10:Nat)^(i-lo)≤10^4:=Nat.pow_le_pow_right (by decide) (by omega)
   have hdb:d<10000:=by rw [hdv];omega
   rw [q99z30]
   simp only [bin_lss,OP_some,IfP_dec]
   refine ⟨fun hia=>?_,fun hia=>?_⟩
   ·have his:i<s.length:=by omega
    have ix:=idxS_S (a:=s) (i:=i) his .i64
    have lt1:iBin .lss (cv s[i]) (.int .u8 48)=some (B (decide ((s[i].toNat:Int)<48))):=rfl
    have gt1:iBin .gtr (cv s[i]) (.int .u8 57)=some (B (decide ((s[i].toNat:Int)>57))):=rfl
    by_cases hcd:48≤s[i].toNat∧s[i].toNat≤57
    rotate_left
    ·have hbad:¬digs s:=fun hd=>hcd (hd _ (List.getElem_mem his))
     simp only [ix,OP_some,lt1]
     by_cases h48:s[i].toNat<48
     ·simp only [decide_eq_true (show (s[i].toNat:Int)<48 by omega),q99z38,GdP_tf,q99z40,iPick_t,OP_some,IfP_true]
      exact fail _ hex k0 hbad
     ·simp only [decide_eq_false (show ¬(s[i].toNat:Int)<48 by omega),q99z38,GdP_ff,ix,OP_some,gt1,decide_eq_true (show (s[i].toNat:Int)>57 by omega),q99z40,iPick_f,IfP_true]
      exact fail _ hex k0 hbad
    have sb1:iBin .sub (cv s[i]) (.int .u8 48)=some (.int .u8 (IntKind.wrap .u8 ((s[i].toNat:Int)-48))):=rfl
    have w8:IntKind.wrap .u8 ((s[i].toNat:Int)-48)=((s[i].toNat-48:Nat):Int):=by
     have e:IntKind.wrap .u8 ((s[i].toNat:Int)-48)=((s[i].toNat:Int)-48)%256:=by simp [IntKind.wrap,IntKind.bits,IntKind.signed]
     rw [e];omega
    have w64:IntKind.wrap .i64 ((s[i].toNat-48:Nat):Int)=((s[i].toNat-48:Nat):Int):=wrap64 (by omega) (by omega)
    have w10:IntKind.wrap .i64 ((10:Int)*(d:Int))=((10*d:Nat):Int):=by rw [wrap64 (by omega) (by omega)];omega
    have wad:IntKind.wrap .i64 (((10*d:Nat):Int)+((s[i].toNat-48:Nat):Int))=((10*d+(s[i].toNat-48):Nat):Int):=by rw [wrap64 (by omega) (by omega)];omega
    simp only [ix,OP_some,lt1,decide_eq_false (show ¬(s[i].toNat:Int)<48 by omega),q99z38,GdP_ff,gt1,decide_eq_false (show ¬(s[i].toNat:Int)>57 by omega),q99z40,iPick_f,IfP_false,bin_mul,w10,sb1,w8,conv_int,w64,bin_add,wad,inc i (by omega),true_and]
    refine hL2 (10*d+(s[i].toNat-48),i+1) ⟨by show lo≤i+1;omega,by show i+1≤a;omega,?_,?_⟩ (by show a-(i+1)<a-i;omega)
    rotate_left
    ·show digs ((s.take (i+1)).drop lo)
     rw [List.take_succ_eq_append_getElem his,List.drop_append_of_le_length (by rw [List.length_take];omega)]
     intro c hc
     rcases List.mem_append.1 hc with hc | hc
     ·exact hdi c hc
     ·rw [List.mem_singleton.1 hc];exact hcd
    show 10*d+(s[i].toNat-48)=valB ((s.take (i+1)).drop lo)
    rw [List.take_succ_eq_append_getElem his,List.drop_append_of_le_length (by rw [List.length_take];omega),valB_append,valB_one,←hdv]
    simp
    omega
   ·have hia':i=a:=by omega
    subst hia'
    rw [q99z42]
    have ld:iLoad false 1 hx (pt (h.length+1) 1)=some v:=by simp [iLoad,objCells,k1,iPart]
    simp only [fadr_pt,Nat.zero_add,OP_some,ld]
    refine appD' hlen hown (by omega) ?_
    intro v' hx' hs hl' hown'
    have k1':hx'[h.length+1]?=some (.arr 35 [B false,v]):=by rw [hs _ (by omega)];exact k1
    rw [store_at k1' (by simp) hown'.ds.one.1 hown'.ds.one.2]
    have e5:IntKind.wrap .i64 ((i:Int)-4)=(i:Int)-4:=wrap64 (by omega) (by omega)
    simp only [OH_some,List.set_cons_succ,List.set_cons_zero,q99z43,bin_sub,OP_some,e5,true_and]
    have el:(os++[d]).length=os.length+1:=by simp
    refine hL ((i:Int)-4,os++[d],v',hx'.set (h.length+1) (.arr 35 [B false,v'])) ⟨?_,?_,?_,set_get k1',hown'.set (by omega) _,hlim.append (fun y hy=>by simp at hy;omega),by rw [el];show (i:Int)-4=_;omega,by show -4<(i:Int)-4;omega,?_,?_⟩ (by show ((i:Int)-4+4).toNat<((i:Int)+4).toNat;omega)
    ·rw [List.length_set];exact hl'
    ·refine EX.set ⟨by have:=hex.1;omega,fun j hj=>?_⟩ (by omega) _
     rw [hs j (by omega)];exact hex.2 j hj
    ·rw [List.getElem?_set_ne (by omega),hs _ (by omega)];exact k0
    rotate_left
    ·show digs (s.drop ((i:Int)-4).toNat)
     have et2:((i:Int)-4).toNat=lo:=by omega
     have et:(i:Int).toNat=i:=by omega
     rw [et] at hdg
     rw [et2]
     have hsp:s.drop lo=(s.take i).drop lo++s.drop i:=by
      conv=>lhs;rw [←List.take_append_drop i s]
      rw [List.drop_append_of_le_length (by rw [List.length_take];omega)]
     rw [hsp]
     intro c hc
     rcases List.mem_append.1 hc with hc | hc
     ·exact hdi c hc
     ·exact hdg c hc
    ·show val 10000 (os++[d])+10000^(os++[d]).length*valB (s.take ((i:Int)-4).toNat)=valB s
     rw [el,val_append,←hval,Nat.pow_succ]
     have et:(i:Int).toNat=i:=by omega
     have et2:((i:Int)-4).toNat=lo:=by omega
     rw [et,et2]
     have hsp:s.take i=s.take lo++(s.take i).drop lo:=by
      conv=>lhs;rw [←List.take_append_drop lo (s.take i)]
      rw [List.take_take,Nat.min_eq_left hloa]
     rw [hsp,valB_append,hlen2,←hdv]
     simp only [val,Nat.mul_zero,Nat.add_zero]
     have hlo3:valB (s.take lo)*10^(i-lo)=10000*valB (s.take lo):=by
      by_cases h4:4≤i
      ·have:i-lo=4:=by omega
       rw [this,Nat.mul_comm]
      ·have:lo=0:=by omega
       subst this
       simp [valB]
     rw [hlo3]
     generalize 10000^os.length=P
     generalize valB (s.take lo)=w
     generalize val 10000 os=q
     clear hL hL2 hown hown'
     grind
  ·rw [q99z44,load2 k1]
   simp only [OP_some]
   have h0':at5.toNat=0:=by omega
   rw [h0'] at hval hdg
   rw [List.drop_zero] at hdg
   have hk:=hk hdg
   have hval':val 10000 os=valB s:=by simpa [valB] using hval
   refine C100 hown.ds hlim (by omega) ?_
   intro r h5 x5 zr
   simp only [Bool.false_eq_true,if_false,hval'] at zr
   obtain ⟨q,rfl,hq⟩:=id zr
   have g':=x5.get k0
   refine fin2z (K:=fun v h=>K (.tuple #[v,B true]) h) g' (hk _ _ ((hex.trans x5).set (Nat.le_refl _) _) (zr.setB g' _))
 by_cases h48:(s[0].toNat:Int)=48
 ·have hl1:=hc0 h48
  have e5:iBin .eql (cv s[0]) (.int .u8 48)=some (B true):=by
   show some (B (decide ((s[0].toNat:Int)=48)))=_
   rw [decide_eq_true h48]
  simp only [e5,OP_some,q99z11,GdP_tt,lenS_S,bin_gtr,decide_eq_false (show ¬(s.length:Int)>1 by omega),q99z13,GdP_ff,iPick_t]
  exact after _ rfl
 ·have e5:iBin .eql (cv s[0]) (.int .u8 48)=some (B false):=by
   show some (B (decide ((s[0].toNat:Int)=48)))=_
   rw [decide_eq_false h48]
  simp only [e5,OP_some,q99z11,GdP_ft,q99z13,GdP_ff,iPick_f]
  exact after _ rfl


def digOk (s:List UInt8):Bool:=((decide (0<s.length)&&decide (s.length≤4000))&& !(decide (s.head?=some 48)&&decide (1<s.length)))&&s.all fun c=>decide (48≤c.toNat)&&decide (c.toNat≤57)

theorem digOk_iff {s:List UInt8}:digOk s=true↔(0<s.length∧s.length≤4000)∧(s.head?=some 48→s.length=1)∧digs s:=by
 unfold digOk digs
 simp only [Bool.and_eq_true,decide_eq_true_eq,Bool.not_eq_true',Bool.and_eq_false_iff,decide_eq_false_iff_not,List.all_eq_true]
 constructor
 ·rintro ⟨⟨h1,h2⟩,h3⟩
  refine ⟨h1,fun h=>?_,h3⟩
  rcases h2 with h2 | h2
  ·exact absurd h h2
  ·omega
 ·rintro ⟨h1,h2,h3⟩
  refine ⟨⟨h1,?_⟩,h3⟩
  by_cases h:s.head?=some 48
  ·have:=h2 h
   exact .inr (by omega)
  ·exact .inl h

theorem C99g {s:List UInt8} {h:Heap} {K:Value→Heap→Prop}
  (hk:digOk s=true→∀r h',EX h h'→ZV h' r (valB s)→K (.tuple #[r,B true]) h')
  (hk0:digOk s=false→∀h',EX h h'→K (.tuple #[.agg #[B false,.slice none 0 0],B false]) h'):CallP Tryz.prog 99 [S s] h K:=by
 by_cases hb:(0<s.length∧s.length≤4000)∧(s.head?=some 48→s.length=1)
 ·refine C99b hb.1.1 hb.1.2 hb.2 (fun hd=>hk (digOk_iff.2 ⟨hb.1,hb.2,hd⟩)) fun hd=>hk0 ?_
  cases e:digOk s with
  | false=>rfl
  | true=>exact absurd (digOk_iff.1 e).2.2 hd
 have hno:digOk s=false:=by
  cases e:digOk s with
  | false=>rfl
  | true=>exact absurd ⟨(digOk_iff.1 e).1,(digOk_iff.1 e).2.1⟩ hb
 refine f99 ?_
 have e2:∀g:Heap,iAlloc 35 [(.bool false),(.slice none 0 0)] g=some (pt g.length 0,g++[.arr 35 [(.bool false),(.slice none 0 0)]]):=fun _=>rfl
 have e3:iBuild [(.bool false),(.slice none 0 0)] []=some (.agg #[B false,.slice none 0 0]):=rfl
 simp only [T99,e2,OH_some,lenS_S,OP_some,bin_lss]
 have k0:=get_last (h:=h) (o:=.arr 35 [(.bool false),(.slice none 0 0)])
 have x0:EX h (h++[.arr 35 [(.bool false),(.slice none 0 0)]]):=EX.append _ _
 have after:∀t:Value,p99z15 Tryz.prog K (S s) (pt h.length 0) (B true) t (h++[.arr 35 [(.bool false),(.slice none 0 0)]]):=by
  intro t
  rw [q99z15]
  simp only [iPick_t,OP_some,IfP_true,e3]
  rw [store2 k0]
  simp only [OH_some]
  rw [load2 (set_get k0),OP_some]
  exact hk0 hno _ (x0.set (Nat.le_refl _) _)
 by_cases h0:s.length=0
 ·rw [decide_eq_true (show (s.length:Int)<1 by omega)]
  simp only [q99z5,GdP_tf,q99z7,iPick_t,OP_some,q99z9,q99z11,q99z13,GdP_undef]
  exact after _
 rw [decide_eq_false (show ¬(s.length:Int)<1 by omega)]
 simp only [q99z5,GdP_ff,lenS_S,OP_some,bin_gtr]
 by_cases h1:s.length>4000
 ·rw [decide_eq_true (show (s.length:Int)>4000 by omega)]
  simp only [q99z7,iPick_f,OP_some,q99z9,GdP_tf,q99z11,q99z13,GdP_undef]
  exact after _
 rw [decide_eq_false (show ¬(s.length:Int)>4000 by omega)]
 have i0:=idxS_S (a:=s) (i:=0) (by omega) .i64
 simp only [Int.natCast_zero,Int.ofNat_zero] at i0
 have h2:s.head?=some 48∧1<s.length:=by
  by_cases h:s.head?=some 48∧1<s.length
  ·exact h
  ·refine absurd ⟨⟨by omega,by omega⟩,fun h3=>?_⟩ hb
   have:¬1<s.length:=fun h4=>h ⟨h3,h4⟩
   omega
 have hc:(s[0]'(by omega)).toNat=48:=by
  have:=h2.1
  rw [List.head?_eq_getElem?,List.getElem?_eq_getElem (by omega)] at this
  injection this with this
  rw [this];rfl
 have e5:iBin .eql (cv (s[0]'(by omega))) (.int .u8 48)=some (B true):=by
  show some (B (decide (((s[0]'(by omega)).toNat:Int)=48)))=_
  rw [decide_eq_true (by omega)]
 simp only [q99z7,iPick_f,OP_some,q99z9,GdP_ff,i0,e5,q99z11,GdP_tt,lenS_S,bin_gtr,decide_eq_true (show (s.length:Int)>1 by omega),q99z13,iPick_t,q99z15,IfP_true,e3]
 rw [store2 k0]
 simp only [OH_some]
 rw [load2 (set_get k0),OP_some]
 exact hk0 hno _ (x0.set (Nat.le_refl _) _)

end Go.Proofs.YtelmdbpaoifmoaaGreat


namespace Go.Proofs.YtelmdbpaoifmoaaGreat
open Go.Sim
variable (P : Program) (K : VK)
/-! F51: pommel/pommelref01.DivQ -/
noncomputable section
variable (a0 b1 : Value) (h : Heap)
def oc51:=compFn Tryz.prog 51 [[],[]]
@[irreducible] def c51:=icOf oc51
theorem k51:oc51=some (16,c51,[.cell true 4 4]):=by kernel_rfl
def T51:Prop:=
 OH (iBox 37 h a0) fun a2 h_1=>
 OH (iBox 37 h_1 b1) fun b3 h_2=>
 OH (iAlloc 37 [(.bool false),(.slice none 0 0),(.bool false),(.slice none 0 0)] h_2) fun x4 h_3=>
 OP (iFadr 0 a2) fun x5=>
 OP (iLoad true 2 h_3 x5) fun x6=>
 (True)∧
 OP (iFadr 2 b3) fun x7=>
 OP (iLoad true 2 h_3 x7) fun x8=>
 (True)∧
 CallP P 71 [x6,x8] h_3 fun x9 h_4=>
 (True)∧
 OP (iFadr 2 a2) fun x10=>
 OP (iLoad true 2 h_4 x10) fun x11=>
 (iLoad true 2 h_3 x10=some x11∧True)∧
 OP (iFadr 0 b3) fun x12=>
 OP (iLoad true 2 h_4 x12) fun x13=>
 (iLoad true 2 h_3 x12=some x13∧True)∧
 CallP P 71 [x11,x13] h_4 fun x14 h_5=>
 (True)∧
 CallP P 54 [x9,x14] h_5 fun x15 h_6=>
 (True)∧
 OH (oStore 4 h_6 x4 x15) fun _ h_7=>
 (True)∧
 OP (iLoad true 4 h_7 x4) fun r0=>
 K r0 h_7
theorem e51:iwpP P c51 (bodyP [.cell true 4 4] K) (frame0 [a0,b1]) h=T51 P K a0 b1 h:=by kernel_rfl
theorem f51 {K:VK} {a0 b1:Value} {h:Heap} (H:T51 Tryz.prog K a0 b1 h):CallP Tryz.prog 51 [a0,b1] h K:=
 callP_intro k51 (Nat.le_of_ble_eq_true rfl) ((e51 Tryz.prog K a0 b1 h).mpr H)
end
/-! F52: pommel/pommelref01.SubQ -/
noncomputable section
variable (a0 b1 : Value) (h : Heap)
def oc52:=compFn Tryz.prog 52 [[],[]]
@[irreducible] def c52:=icOf oc52
theorem k52:oc52=some (22,c52,[.cell true 4 4]):=by kernel_rfl
def T52:Prop:=
 OH (iBox 37 h a0) fun a2 h_1=>
 OH (iBox 37 h_1 b1) fun b3 h_2=>
 OH (iAlloc 37 [(.bool false),(.slice none 0 0),(.bool false),(.slice none 0 0)] h_2) fun x4 h_3=>
 OP (iFadr 0 a2) fun x5=>
 OP (iLoad true 2 h_3 x5) fun x6=>
 (True)∧
 OP (iFadr 2 b3) fun x7=>
 OP (iLoad true 2 h_3 x7) fun x8=>
 (True)∧
 CallP P 71 [x6,x8] h_3 fun x9 h_4=>
 (True)∧
 OP (iFadr 0 b3) fun x10=>
 OP (iLoad true 2 h_4 x10) fun x11=>
 (iLoad true 2 h_3 x10=some x11∧True)∧
 OP (iFadr 2 a2) fun x12=>
 OP (iLoad true 2 h_4 x12) fun x13=>
 (iLoad true 2 h_3 x12=some x13∧True)∧
 CallP P 71 [x11,x13] h_4 fun x14 h_5=>
 (True)∧
 CallP P 92 [x9,x14] h_5 fun x15 h_6=>
 (True)∧
 OP (iFadr 2 a2) fun x16=>
 OP (iLoad true 2 h_6 x16) fun x17=>
 (iLoad true 2 h_3 x16=some x17∧iLoad true 2 h_4 x16=some x17∧iLoad true 2 h_5 x16=some x17∧True)∧
 OP (iFadr 2 b3) fun x18=>
 OP (iLoad true 2 h_6 x18) fun x19=>
 (iLoad true 2 h_3 x18=some x19∧iLoad true 2 h_4 x18=some x19∧iLoad true 2 h_5 x18=some x19∧True)∧
 CallP P 71 [x17,x19] h_6 fun x20 h_7=>
 (True)∧
 OP (iBuild [(.bool false),(.slice none 0 0),(.bool false),(.slice none 0 0)] [(0,2,x15),(2,2,x20)]) fun x21=>
 OH (oStore 4 h_7 x4 x21) fun _ h_8=>
 (True)∧
 OP (iLoad true 4 h_8 x4) fun r0=>
 K r0 h_8
theorem e52:iwpP P c52 (bodyP [.cell true 4 4] K) (frame0 [a0,b1]) h=T52 P K a0 b1 h:=by kernel_rfl
theorem f52 {K:VK} {a0 b1:Value} {h:Heap} (H:T52 Tryz.prog K a0 b1 h):CallP Tryz.prog 52 [a0,b1] h K:=
 callP_intro k52 (Nat.le_of_ble_eq_true rfl) ((e52 Tryz.prog K a0 b1 h).mpr H)
end
/-! F54: pommel/pommelref01.Over -/
noncomputable section
variable (n0 d1 n2 d3 x4 : Value) (h : Heap)
def oc54:=compFn Tryz.prog 54 [[],[],[2,3,4],[]]
@[irreducible] def c54:=icOf oc54
@[irreducible] def c54z4:=c54.r.r.l
theorem k54:oc54=some (14,c54,[.cell true 4 4]):=by kernel_rfl
def K54z0 (_P:Program) (K:VK):Kont:=bodyP [.cell true 4 4] K
def p54z4:Prop:=CutP (iwpP P c54z4 (K54z0 P K)) [2,3,4] [n2,d3,x4] h
theorem q54z4:p54z4 P K n2 d3 x4 h=
 (OP (iLoad true 2 h n2) fun x11=>
 OP (iLoad true 2 h d3) fun x12=>
 OP (iBuild [(.bool false),(.slice none 0 0),(.bool false),(.slice none 0 0)] [(0,2,x11),(2,2,x12)]) fun x13=>
 OH (oStore 4 h x4 x13) fun _ h_1=>
 OP (iLoad true 4 h_1 x4) fun r0=>
 K r0 h_1):=cdt (by kernel_rfl)
def T54:Prop:=
 OH (iBox 35 h n0) fun n2 h_1=>
 OH (iBox 35 h_1 d1) fun d3 h_2=>
 OH (iAlloc 37 [(.bool false),(.slice none 0 0),(.bool false),(.slice none 0 0)] h_2) fun x4 h_3=>
 OP (iFadr 0 d3) fun x5=>
 OP (iLoad false 1 h_3 x5) fun x6=>
 IfP x6
 (OP (iLoad true 2 h_3 n2) fun x7=>
 (True)∧
 CallP P 95 [x7] h_3 fun x8 h_4=>
 (True)∧
 OP (iLoad true 2 h_4 d3) fun x9=>
 (iLoad true 2 h_3 d3=some x9∧True)∧
 CallP P 95 [x9] h_4 fun x10 h_5=>
 (True)∧
 OH (oStore 2 h_5 n2 x8) fun _ h_6=>
 (True)∧
 OH (oStore 2 h_6 d3 x10) fun _ h_7=>
 (True)∧
 p54z4 P K n2 d3 x4 h_7)
 (p54z4 P K n2 d3 x4 h_3)
theorem e54:iwpP P c54 (bodyP [.cell true 4 4] K) (frame0 [n0,d1]) h=T54 P K n0 d1 h:=by kernel_rfl
theorem f54 {K:VK} {n0 d1:Value} {h:Heap} (H:T54 Tryz.prog K n0 d1 h):CallP Tryz.prog 54 [n0,d1] h K:=
 callP_intro k54 (Nat.le_of_ble_eq_true rfl) ((e54 Tryz.prog K n0 d1 h).mpr H)
end
end Go.Proofs.YtelmdbpaoifmoaaGreat
