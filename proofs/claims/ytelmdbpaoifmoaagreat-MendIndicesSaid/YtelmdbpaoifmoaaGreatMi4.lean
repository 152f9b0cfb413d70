/-
  Part 4 of the texts behind a statement of this seat: ZN2, Ct28, Ct29, Ct30, Ct31, Ct32, Ct33, ZR1, Ct34, Ct35, Ct36, Ct37, Ct38, Ct39, Ct40.
-/
import Derived.Test.YtelmdbpaoifmoaaGreatProg
import Derived.KernelRfl
import Derived.Test.YtelmdbpaoifmoaaGreatMi3
namespace Go.Proofs.YtelmdbpaoifmoaaGreat
open Go.Sim
variable (P : Program) (K : VK)
/-! F45: (pommel/num.Rat).Num -/
noncomputable section
variable (a0 a1 s4 : Value) (h : Heap)
def oc45:=compFn Tryz.prog 45 [[],[],[],[],[],[],[1,4],[],[],[],[],[],[],[],[]]
@[irreducible] def c45:=icOf oc45
@[irreducible] def c45z8:=c45.r.r.r.r.l
theorem k45:oc45=some (32,c45,[.tmp 2,.tmp 3]):=by kernel_rfl
def K45z0 (_P:Program) (K:VK):Kont:=bodyP [.tmp 2,.tmp 3] K
def p45z8:Prop:=CutP (iwpP P c45z8 (K45z0 P K)) [1,4] [a1,s4] h
theorem q45z8:p45z8 P K a1 s4 h=
 (OP (iLoad true 4 h a1) fun x18=>
 CallP P 90 [x18] h fun x19 h_1=>
 IfP x19
 (K (.tuple #[s4,(.int .i64 (0))]) h_1)
 (OP (iFadr 2 a1) fun x21=>
 OP (iFadr 1 x21) fun x22=>
 OP (iLoad false 1 h_1 x22) fun x23=>
 CallP P 89 [x23] h_1 fun x24 h_2=>
 OP (iLenS x24) fun x26=>
 OP (iBin .gtr x26 (.int .i64 (4000))) fun x27=>
 IfP x27
 (K (.tuple #[(.string ⟨#[]⟩),(.int .i64 (4))]) h_2)
 (OP (iBin .add s4 (.string ⟨#[47]⟩)) fun x29=>
 OP (iBin .add x29 x24) fun x31=>
 K (.tuple #[x31,(.int .i64 (0))]) h_2))):=cdt (by kernel_rfl)
def T45:Prop:=
 OH (iBox 107 h a0) fun a1 h_1=>
 OP (iFadr 0 a1) fun x6=>
 OP (iFadr 1 x6) fun x7=>
 OP (iLoad false 1 h_1 x7) fun x8=>
 CallP P 89 [x8] h_1 fun x9 h_2=>
 OP (iLenS x9) fun x11=>
 OP (iBin .gtr x11 (.int .i64 (4000))) fun x12=>
 IfP x12
 (K (.tuple #[(.string ⟨#[]⟩),(.int .i64 (4))]) h_2)
 (OP (iFadr 0 a1) fun x13=>
 OP (iFadr 0 x13) fun x14=>
 OP (iLoad false 1 h_2 x14) fun x15=>
 IfP x15
 (OP (iBin .add (.string ⟨#[45]⟩) x9) fun x17=>
 p45z8 P K a1 x17 h_2)
 (p45z8 P K a1 x9 h_2))
theorem e45:iwpP P c45 (bodyP [.tmp 2,.tmp 3] K) (frame0 [a0]) h=T45 P K a0 h:=by kernel_rfl
theorem f45 {K:VK} {a0:Value} {h:Heap} (H:T45 Tryz.prog K a0 h):CallP Tryz.prog 45 [a0] h K:=
 callP_intro k45 (Nat.le_of_ble_eq_true rfl) ((e45 Tryz.prog K a0 h).mpr H)
end
/-! F75: pommel/num.Whole -/
noncomputable section
variable (n0 : Value) (h : Heap)
def oc75:=compFn Tryz.prog 75 [[],[]]
@[irreducible] def c75:=icOf oc75
theorem k75:oc75=some (7,c75,[.cell true 4 2]):=by kernel_rfl
def T75:Prop:=
 OH (iAlloc 107 [(.bool false),(.slice none 0 0),(.bool false),(.slice none 0 0)] h) fun x2 h_1=>
 CallP P 105 [n0] h_1 fun x4 h_2=>
 CallP P 105 [(.int .i64 (1))] h_2 fun x5 h_3=>
 OP (iBuild [(.bool false),(.slice none 0 0),(.bool false),(.slice none 0 0)] [(0,2,x4),(2,2,x5)]) fun x6=>
 OH (oStore 4 h_3 x2 x6) fun _ h_4=>
 OP (iLoad true 4 h_4 x2) fun r0=>
 K r0 h_4
theorem e75:iwpP P c75 (bodyP [.cell true 4 2] K) (frame0 [n0]) h=T75 P K n0 h:=by kernel_rfl
theorem f75 {K:VK} {n0:Value} {h:Heap} (H:T75 Tryz.prog K n0 h):CallP Tryz.prog 75 [n0] h K:=
 callP_intro k75 (Nat.le_of_ble_eq_true rfl) ((e75 Tryz.prog K n0 h).mpr H)
end
/-! F77: (pommel/num.Rat).Div -/
noncomputable section
variable (a0 b1 : Value) (h : Heap)
def oc77:=compFn Tryz.prog 77 [[],[]]
@[irreducible] def c77:=icOf oc77
theorem k77:oc77=some (16,c77,[.cell true 4 4]):=by kernel_rfl
def T77:Prop:=
 OH (iBox 107 h a0) fun a2 h_1=>
 OH (iBox 107 h_1 b1) fun b3 h_2=>
 OH (iAlloc 107 [(.bool false),(.slice none 0 0),(.bool false),(.slice none 0 0)] h_2) fun x4 h_3=>
 OP (iFadr 0 a2) fun x5=>
 OP (iLoad true 2 h_3 x5) fun x6=>
 (True)∧
 OP (iFadr 2 b3) fun x7=>
 OP (iLoad true 2 h_3 x7) fun x8=>
 (True)∧
 CallP P 107 [x6,x8] h_3 fun x9 h_4=>
 (True)∧
 OP (iFadr 2 a2) fun x10=>
 OP (iLoad true 2 h_4 x10) fun x11=>
 (iLoad true 2 h_3 x10=some x11∧True)∧
 OP (iFadr 0 b3) fun x12=>
 OP (iLoad true 2 h_4 x12) fun x13=>
 (iLoad true 2 h_3 x12=some x13∧True)∧
 CallP P 107 [x11,x13] h_4 fun x14 h_5=>
 (True)∧
 CallP P 106 [x9,x14] h_5 fun x15 h_6=>
 (True)∧
 OH (oStore 4 h_6 x4 x15) fun _ h_7=>
 (True)∧
 OP (iLoad true 4 h_7 x4) fun r0=>
 K r0 h_7
theorem e77:iwpP P c77 (bodyP [.cell true 4 4] K) (frame0 [a0,b1]) h=T77 P K a0 b1 h:=by kernel_rfl
theorem f77 {K:VK} {a0 b1:Value} {h:Heap} (H:T77 Tryz.prog K a0 b1 h):CallP Tryz.prog 77 [a0,b1] h K:=
 callP_intro k77 (Nat.le_of_ble_eq_true rfl) ((e77 Tryz.prog K a0 b1 h).mpr H)
end
/-! F89: pommel/num.text -/
noncomputable section
variable (x0 b3 q4 r5 i6 x20 x24 x26 x27 : Value) (L1 L2 : LQ) (xs : List Value) (h : Heap)
def oc89:=compFn Tryz.prog 89 [[],[],[],[],[],[],[0,3],[],[],[],[],[4],[3,5,6],[3,4,5,6,20],[3,4,5,6,20,24],[3,4,5,6,20,24,26],[3,4,5,6,20,27],[],[],[],[],[3,4],[3],[],[]]
@[irreducible] def c89:=icOf oc89
@[irreducible] def c89z8:=c89.r.r.r.l.l.l
@[irreducible] def c89z6:=c89.r.r.r.r
@[irreducible] def c89z16:=c89z8.r.l.r.l.r.l.l
@[irreducible] def c89z13:=c89z8.r.l.r.r
@[irreducible] def c89z31:=c89z6.l
@[irreducible] def c89z20:=c89z16.l.l.r.l
@[irreducible] def c89z18:=c89z16.l.r
@[irreducible] def c89z17:=c89z16.r
@[irreducible] def c89z30:=c89z13.l
@[irreducible] def c89z22:=c89z20.r.l
@[irreducible] def c89z24:=c89z22.r.l
@[irreducible] def c89z26:=c89z24.r.l
theorem k89:oc89=some (45,c89,[.tmp 2]):=by kernel_rfl
def K89z0 (_P:Program) (K:VK):Kont:=bodyP [.tmp 2] K
def K89z6:Kont:=thenK (iwpP P c89z6 (K89z0 P K)) (K89z0 P K)
def K89z7:Kont:=inBlockK 0 (K89z6 P K)
def K89z8:Kont:=thenK (fun f' h''=>(([]:List Nat).map f':List Value)=[]∧L1 (([0,3]:List Nat).map f') h'') (K89z7 P K)
def K89z11:Kont:=inBlockK 1 (K89z8 P K L1)
def K89z13:Kont:=thenK (iwpP P c89z13 (K89z11 P K L1)) (K89z11 P K L1)
def K89z15:Kont:=inBlockK 2 (K89z13 P K L1)
def K89z16:Kont:=thenK (fun f' h''=>(([4]:List Nat).map f':List Value)=[q4]∧L2 (([3,5,6]:List Nat).map f') h'') (K89z15 P K L1)
def K89z17:Kont:=thenK (iwpP P c89z17 (K89z16 P K q4 L1 L2)) (K89z16 P K q4 L1 L2)
def K89z18:Kont:=thenK (iwpP P c89z18 (K89z17 P K q4 L1 L2)) (K89z17 P K q4 L1 L2)
def p89z8:Prop:=CutP (iwpP P c89z8 (K89z8 P K L1)) ([]++[0,3]) ([]++xs) h
def p89z16:Prop:=CutP (iwpP P c89z16 (K89z16 P K q4 L1 L2)) ([4]++[3,5,6]) ([q4]++xs) h
def p89z20:Prop:=CutP (iwpP P c89z20 (K89z18 P K q4 L1 L2)) [3,4,5,6,20] [b3,q4,r5,i6,x20] h
def p89z22:Prop:=CutP (iwpP P c89z22 (K89z18 P K q4 L1 L2)) [3,4,5,6,20,24] [b3,q4,r5,i6,x20,x24] h
def p89z24:Prop:=CutP (iwpP P c89z24 (K89z18 P K q4 L1 L2)) [3,4,5,6,20,24,26] [b3,q4,r5,i6,x20,x24,x26] h
def p89z26:Prop:=CutP (iwpP P c89z26 (K89z18 P K q4 L1 L2)) [3,4,5,6,20,27] [b3,q4,r5,i6,x20,x27] h
def p89z30:Prop:=CutP (iwpP P c89z30 (K89z11 P K L1)) [3,4] [b3,q4] h
def p89z31:Prop:=CutP (iwpP P c89z31 (K89z0 P K)) [3] [b3] h
theorem q89z26:p89z26 P K b3 q4 r5 i6 x20 x27 L1 L2 h=
 (OP (iPick x20 x27 (.bool false)) fun x28=>
 IfP x28
 (OP (iBin .rem r5 (.int .u32 (10))) fun x33=>
 OP (iBin .add (.int .u32 (48)) x33) fun x34=>
 OP (iConv .u8 x34) fun x35=>
 OH (iMkSl 5 1 [(.int .u8 (0))] h [(0,1,x35)]) fun x36 h_1=>
 OH (iApp 5 1 1 h_1 b3 x36) fun x37 h_2=>
 OP (iBin .quo r5 (.int .u32 (10))) fun x39=>
 OP (iBin .add i6 (.int .i64 (1))) fun x30=>
 ([q4]:List Value)=[q4]∧L2 [x37,x39,x30] h_2)
 (p89z30 P K b3 q4 L1 h)):=cdt (by kernel_rfl)
theorem q89z24:p89z24 P K b3 q4 r5 i6 x20 x24 x26 L1 L2 h=
 (GdP x20 true
 (OP (iPick x24 (.bool true) x26) fun x27=>
 p89z26 P K b3 q4 r5 i6 x20 x27 L1 L2 h)
 (p89z26 P K b3 q4 r5 i6 x20 undef L1 L2 h)):=cdt (by kernel_rfl)
theorem q89z22:p89z22 P K b3 q4 r5 i6 x20 x24 L1 L2 h=
 (GdP x24 false
 (OP (iBin .gtr r5 (.int .u32 (0))) fun x26=>
 p89z24 P K b3 q4 r5 i6 x20 x24 x26 L1 L2 h)
 (p89z24 P K b3 q4 r5 i6 x20 x24 undef L1 L2 h)):=cdt (by kernel_rfl)
theorem q89z20:p89z20 P K b3 q4 r5 i6 x20 L1 L2 h=
 (GdP x20 true
 (OP (iLenSl q4) fun x22=>
 OP (iBin .gtr x22 (.int .i64 (0))) fun x23=>
 p89z22 P K b3 q4 r5 i6 x20 x23 L1 L2 h)
 (p89z22 P K b3 q4 r5 i6 x20 undef L1 L2 h)):=cdt (by kernel_rfl)
theorem q89z16 (q4:Value) (L1 L2:LQ) (b3 r5 i6:Value) (h:Heap):p89z16 P K q4 L1 L2 [b3,r5,i6] h=
 (OP (iBin .lss i6 (.int .i64 (9))) fun x19=>
 p89z20 P K b3 q4 r5 i6 x19 L1 L2 h):=cdt (by kernel_rfl)
theorem q89z30:p89z30 P K b3 q4 L1 h=
 (([]:List Value)=[]∧L1 [q4,b3] h):=cdt (by kernel_rfl)
theorem q89z8 (L1:LQ) (x0 b3:Value) (h:Heap):p89z8 P K L1 [x0,b3] h=
 (OP (iLenSl x0) fun x11=>
 OP (iBin .gtr x11 (.int .i64 (0))) fun x12=>
 IfP x12
 (CallP P 114 [x0,(.int .u32 (1000000000))] h fun x15 h_1=>
 OP (iExt 0 x15) fun x16=>
 OP (iExt 1 x15) fun x17=>
 LoopP [b3,x17,(.int .i64 (0))] h_1 fun L2 xs hx=>
 p89z16 P K x16 L1 L2 xs hx)
 (p89z31 P K b3 h)):=cdt (by kernel_rfl)
theorem q89z31:p89z31 P K b3 h=
 (CallP P 115 [b3] h fun x42 h_1=>
 OP (iB2s h_1 b3) fun x44=>
 K x44 h_1):=cdt (by kernel_rfl)
def T89:Prop:=
 OP (iLenSl x0) fun x8=>
 OP (iBin .eql x8 (.int .i64 (0))) fun x9=>
 IfP x9
 (K (.string ⟨#[48]⟩) h)
 (LoopP [x0,(.slice none 0 0)] h fun L1 xs hx=>
 p89z8 P K L1 xs hx)
theorem e89:iwpP P c89 (bodyP [.tmp 2] K) (frame0 [x0]) h=T89 P K x0 h:=by kernel_rfl
theorem f89 {K:VK} {x0:Value} {h:Heap} (H:T89 Tryz.prog K x0 h):CallP Tryz.prog 89 [x0] h K:=
 callP_intro k89 (Nat.le_of_ble_eq_true rfl) ((e89 Tryz.prog K x0 h).mpr H)
end
/-! F90: (pommel/num.Rat).Integer -/
noncomputable section
variable (a0 a1 x8 x14 : Value) (h : Heap)
def oc90:=compFn Tryz.prog 90 [[],[1,8],[8,14],[]]
@[irreducible] def c90:=icOf oc90
@[irreducible] def c90z4:=c90.r.l.r.l
@[irreducible] def c90z2:=c90.r.r
@[irreducible] def c90z6:=c90z4.r.l
theorem k90:oc90=some (16,c90,[.tmp 2]):=by kernel_rfl
def K90z0 (_P:Program) (K:VK):Kont:=bodyP [.tmp 2] K
def K90z2:Kont:=thenK (iwpP P c90z2 (K90z0 P K)) (K90z0 P K)
def p90z4:Prop:=CutP (iwpP P c90z4 (K90z2 P K)) [1,8] [a1,x8] h
def p90z6:Prop:=CutP (iwpP P c90z6 (K90z2 P K)) [8,14] [x8,x14] h
theorem q90z6:p90z6 P K x8 x14 h=
 (OP (iPick x8 x14 (.bool false)) fun x15=>
 K x15 h):=cdt (by kernel_rfl)
theorem q90z4:p90z4 P K a1 x8 h=
 (GdP x8 true
 (OP (iFadr 2 a1) fun x9=>
 OP (iFadr 1 x9) fun x10=>
 OP (iLoad false 1 h x10) fun x11=>
 OP (iAdrSl 1 x11 (.int .i64 (0))) fun x12=>
 OP (iLoad false 1 h x12) fun x13=>
 OP (iBin .eql x13 (.int .u32 (1))) fun x14=>
 p90z6 P K x8 x14 h)
 (p90z6 P K x8 undef h)):=cdt (by kernel_rfl)
def T90:Prop:=
 OH (iBox 107 h a0) fun a1 h_1=>
 OP (iFadr 2 a1) fun x3=>
 OP (iFadr 1 x3) fun x4=>
 OP (iLoad false 1 h_1 x4) fun x5=>
 OP (iLenSl x5) fun x6=>
 OP (iBin .eql x6 (.int .i64 (1))) fun x7=>
 p90z4 P K a1 x7 h_1
theorem e90:iwpP P c90 (bodyP [.tmp 2] K) (frame0 [a0]) h=T90 P K a0 h:=by kernel_rfl
theorem f90 {K:VK} {a0:Value} {h:Heap} (H:T90 Tryz.prog K a0 h):CallP Tryz.prog 90 [a0] h K:=
 callP_intro k90 (Nat.le_of_ble_eq_true rfl) ((e90 Tryz.prog K a0 h).mpr H)
end
/-! F106: pommel/num.Ratio -/
noncomputable section
variable (x0 x1 x2 x3 x4 : Value) (h : Heap)
def oc106:=compFn Tryz.prog 106 [[],[],[2,3,4],[],[],[],[],[],[],[]]
@[irreducible] def c106:=icOf oc106
@[irreducible] def c106z4:=c106.r.r.l
theorem k106:oc106=some (41,c106,[.cell true 4 4]):=by kernel_rfl
def K106z0 (_P:Program) (K:VK):Kont:=bodyP [.cell true 4 4] K
def p106z4:Prop:=CutP (iwpP P c106z4 (K106z0 P K)) [2,3,4] [x2,x3,x4] h
theorem q106z4:p106z4 P K x2 x3 x4 h=
 (OP (iLoad true 2 h x2) fun x16=>
 OP (iLoad true 2 h x3) fun x17=>
 CallP P 120 [x16,x17] h fun x18 h_1=>
 OH (iAlloc 105 [(.bool false),(.slice none 0 0)] h_1) fun g5 h_2=>
 OH (oStore 2 h_2 g5 x18) fun _ h_3=>
 OP (iLoad true 2 h_3 g5) fun x19=>
 (True)∧
 CallP P 105 [(.int .i64 (1))] h_3 fun x20 h_4=>
 (iLoad true 2 h_4 g5=some x19∧True)∧
 CallP P 111 [x19,x20] h_4 fun x21 h_5=>
 (True)∧
 OP (iBin .eql x21 (.int .i64 (0))) fun x22=>
 IfP x22
 (OP (iLoad true 2 h_5 x2) fun x23=>
 OP (iLoad true 2 h_5 x3) fun x24=>
 OP (iBuild [(.bool false),(.slice none 0 0),(.bool false),(.slice none 0 0)] [(0,2,x23),(2,2,x24)]) fun x25=>
 OH (oStore 4 h_5 x4 x25) fun _ h_6=>
 OP (iLoad true 4 h_6 x4) fun r0=>
 K r0 h_6)
 (OP (iLoad true 2 h_5 x2) fun x27=>
 OP (iLoad true 2 h_5 g5) fun x28=>
 CallP P 121 [x27,x28] h_5 fun x29 h_6=>
 OP (iExt 0 x29) fun x30=>
 OP (iExt 1 x29) fun x31=>
 OH (iAlloc 105 [(.bool false),(.slice none 0 0)] h_6) fun n6 h_7=>
 OH (iAlloc 105 [(.bool false),(.slice none 0 0)] h_7) fun x7 h_8=>
 OH (oStore 2 h_8 n6 x30) fun _ h_9=>
 OH (oStore 2 h_9 x7 x31) fun _ h_10=>
 OP (iLoad true 2 h_10 x3) fun x33=>
 OP (iLoad true 2 h_10 g5) fun x34=>
 CallP P 121 [x33,x34] h_10 fun x35 h_11=>
 OP (iExt 0 x35) fun x36=>
 OP (iExt 1 x35) fun x37=>
 OH (iAlloc 105 [(.bool false),(.slice none 0 0)] h_11) fun d8 h_12=>
 OH (iAlloc 105 [(.bool false),(.slice none 0 0)] h_12) fun x9 h_13=>
 OH (oStore 2 h_13 d8 x36) fun _ h_14=>
 OH (oStore 2 h_14 x9 x37) fun _ h_15=>
 OP (iLoad true 2 h_15 n6) fun x38=>
 OP (iLoad true 2 h_15 d8) fun x39=>
 OP (iBuild [(.bool false),(.slice none 0 0),(.bool false),(.slice none 0 0)] [(0,2,x38),(2,2,x39)]) fun x40=>
 OH (oStore 4 h_15 x4 x40) fun _ h_16=>
 OP (iLoad true 4 h_16 x4) fun r0=>
 K r0 h_16)):=cdt (by kernel_rfl)
def T106:Prop:=
 OH (iBox 105 h x0) fun x2 h_1=>
 OH (iBox 105 h_1 x1) fun x3 h_2=>
 OH (iAlloc 107 [(.bool false),(.slice none 0 0),(.bool false),(.slice none 0 0)] h_2) fun x4 h_3=>
 OP (iFadr 0 x3) fun x10=>
 OP (iLoad false 1 h_3 x10) fun x11=>
 IfP x11
 (OP (iLoad true 2 h_3 x2) fun x12=>
 (True)∧
 CallP P 119 [x12] h_3 fun x13 h_4=>
 (True)∧
 OP (iLoad true 2 h_4 x3) fun x14=>
 (iLoad true 2 h_3 x3=some x14∧True)∧
 CallP P 119 [x14] h_4 fun x15 h_5=>
 (True)∧
 OH (oStore 2 h_5 x2 x13) fun _ h_6=>
 (True)∧
 OH (oStore 2 h_6 x3 x15) fun _ h_7=>
 (True)∧
 p106z4 P K x2 x3 x4 h_7)
 (p106z4 P K x2 x3 x4 h_3)
theorem e106:iwpP P c106 (bodyP [.cell true 4 4] K) (frame0 [x0,x1]) h=T106 P K x0 x1 h:=by kernel_rfl
theorem f106 {K:VK} {x0 x1:Value} {h:Heap} (H:T106 Tryz.prog K x0 x1 h):CallP Tryz.prog 106 [x0,x1] h K:=
 callP_intro k106 (Nat.le_of_ble_eq_true rfl) ((e106 Tryz.prog K x0 x1 h).mpr H)
end
/-! F120: (pommel/num.Int).Gcd -/
noncomputable section
variable (a0 b1 x4 x5 y6 : Value) (L1 : LQ) (xs : List Value) (h : Heap)
def oc120:=compFn Tryz.prog 120 [[],[],[4],[5,6],[],[],[],[4,5],[]]
@[irreducible] def c120:=icOf oc120
@[irreducible] def c120z5:=c120.r.r.l.l.l
@[irreducible] def c120z3:=c120.r.r.r
@[irreducible] def c120z10:=c120z3.l
theorem k120:oc120=some (26,c120,[.cell true 2 4]):=by kernel_rfl
def K120z0 (_P:Program) (K:VK):Kont:=bodyP [.cell true 2 4] K
def K120z3:Kont:=thenK (iwpP P c120z3 (K120z0 P K)) (K120z0 P K)
def K120z4:Kont:=inBlockK 0 (K120z3 P K)
def K120z5:Kont:=thenK (fun f' h''=>(([4]:List Nat).map f':List Value)=[x4]∧L1 (([5,6]:List Nat).map f') h'') (K120z4 P K)
def p120z5:Prop:=CutP (iwpP P c120z5 (K120z5 P K x4 L1)) ([4]++[5,6]) ([x4]++xs) h
def p120z10:Prop:=CutP (iwpP P c120z10 (K120z0 P K)) [4,5] [x4,x5] h
theorem q120z5 (x4:Value) (L1:LQ) (x5 y6:Value) (h:Heap):p120z5 P K x4 L1 [x5,y6] h=
 (OP (iLenSl y6) fun x14=>
 OP (iBin .gtr x14 (.int .i64 (0))) fun x15=>
 IfP x15
 (CallP P 130 [x5,y6] h fun x19 h_1=>
 OP (iExt 0 x19) fun x20=>
 OP (iExt 1 x19) fun x21=>
 ([x4]:List Value)=[x4]∧L1 [y6,x21] h_1)
 (p120z10 P K x4 x5 h)):=cdt (by kernel_rfl)
theorem q120z10:p120z10 P K x4 x5 h=
 (CallP P 117 [(.bool false),x5] h fun x25 h_1=>
 OH (oStore 2 h_1 x4 x25) fun _ h_2=>
 OP (iLoad true 2 h_2 x4) fun r0=>
 K r0 h_2):=cdt (by kernel_rfl)
def T120:Prop:=
 OH (iBox 105 h a0) fun a2 h_1=>
 OH (iBox 105 h_1 b1) fun b3 h_2=>
 OH (iAlloc 105 [(.bool false),(.slice none 0 0)] h_2) fun x4 h_3=>
 OP (iFadr 1 a2) fun x9=>
 OP (iLoad false 1 h_3 x9) fun x10=>
 (True)∧
 OP (iFadr 1 b3) fun x11=>
 OP (iLoad false 1 h_3 x11) fun x12=>
 (True)∧
 LoopP [x10,x12] h_3 fun L1 xs hx=>
 p120z5 P K x4 L1 xs hx
theorem e120:iwpP P c120 (bodyP [.cell true 2 4] K) (frame0 [a0,b1]) h=T120 P K a0 b1 h:=by kernel_rfl
theorem f120 {K:VK} {a0 b1:Value} {h:Heap} (H:T120 Tryz.prog K a0 b1 h):CallP Tryz.prog 120 [a0,b1] h K:=
 callP_intro k120 (Nat.le_of_ble_eq_true rfl) ((e120 Tryz.prog K a0 b1 h).mpr H)
end
/-! F121: (pommel/num.Int).Quo -/
noncomputable section
variable (a0 b1 a2 b3 x4 x5 x8 y9 x32 x37 : Value) (h : Heap)
def oc121:=compFn Tryz.prog 121 [[],[],[],[2,3,4,5,8,9,32],[3,4,5,8,9,32,37],[],[4,5,8,9],[]]
@[irreducible] def c121:=icOf oc121
@[irreducible] def c121z7:=c121.r.r.r.l.l.r.l
@[irreducible] def c121z5:=c121.r.r.r.l.r
@[irreducible] def c121z4:=c121.r.r.r.r
@[irreducible] def c121z9:=c121z7.r.l
@[irreducible] def c121z10:=c121z4.l
theorem k121:oc121=some (47,c121,[.cell true 2 4,.cell true 2 5]):=by kernel_rfl
def K121z0 (_P:Program) (K:VK):Kont:=bodyP [.cell true 2 4,.cell true 2 5] K
def K121z4:Kont:=thenK (iwpP P c121z4 (K121z0 P K)) (K121z0 P K)
def K121z5:Kont:=thenK (iwpP P c121z5 (K121z4 P K)) (K121z4 P K)
def p121z7:Prop:=CutP (iwpP P c121z7 (K121z5 P K)) [2,3,4,5,8,9,32] [a2,b3,x4,x5,x8,y9,x32] h
def p121z9:Prop:=CutP (iwpP P c121z9 (K121z5 P K)) [3,4,5,8,9,32,37] [b3,x4,x5,x8,y9,x32,x37] h
def p121z10:Prop:=CutP (iwpP P c121z10 (K121z0 P K)) [4,5,8,9] [x4,x5,x8,y9] h
theorem q121z9:p121z9 P K b3 x4 x5 x8 y9 x32 x37 h=
 (OP (iPick x32 x37 (.bool false)) fun x38=>
 IfP x38
 (OP (iLoad true 2 h x8) fun x39=>
 (True)∧
 CallP P 105 [(.int .i64 (1))] h fun x40 h_1=>
 (iLoad true 2 h_1 x8=some x39∧True)∧
 CallP P 127 [x39,x40] h_1 fun x41 h_2=>
 (True)∧
 OP (iLoad true 2 h_2 y9) fun x42=>
 (iLoad true 2 h y9=some x42∧iLoad true 2 h_1 y9=some x42∧True)∧
 OP (iLoad true 2 h_2 b3) fun x43=>
 (iLoad true 2 h b3=some x43∧iLoad true 2 h_1 b3=some x43∧True)∧
 CallP P 113 [x42,x43] h_2 fun x44 h_3=>
 (True)∧
 OH (oStore 2 h_3 x8 x41) fun _ h_4=>
 (True)∧
 OH (oStore 2 h_4 y9 x44) fun _ h_5=>
 (True)∧
 p121z10 P K x4 x5 x8 y9 h_5)
 (p121z10 P K x4 x5 x8 y9 h)):=cdt (by kernel_rfl)
theorem q121z7:p121z7 P K a2 b3 x4 x5 x8 y9 x32 h=
 (GdP x32 true
 (OP (iFadr 0 a2) fun x33=>
 OP (iLoad false 1 h x33) fun x34=>
 OP (iFadr 0 b3) fun x35=>
 OP (iLoad false 1 h x35) fun x36=>
 OP (iEqb true x34 x36) fun x37=>
 p121z9 P K b3 x4 x5 x8 y9 x32 x37 h)
 (p121z9 P K b3 x4 x5 x8 y9 x32 undef h)):=cdt (by kernel_rfl)
theorem q121z10:p121z10 P K x4 x5 x8 y9 h=
 (OP (iLoad true 2 h x8) fun x45=>
 (True)∧
 OP (iLoad true 2 h y9) fun x46=>
 (True)∧
 OH (oStore 2 h x4 x45) fun _ h_1=>
 (iLoad true 2 h_1 y9=some x46∧True)∧
 OH (oStore 2 h_1 x5 x46) fun _ h_2=>
 (True)∧
 OP (iLoad true 2 h_2 x4) fun r0=>
 OP (iLoad true 2 h_2 x5) fun r1=>
 K (.tuple #[r0,r1]) h_2):=cdt (by kernel_rfl)
def T121:Prop:=
 OH (iBox 105 h a0) fun a2 h_1=>
 OH (iBox 105 h_1 b1) fun b3 h_2=>
 OH (iAlloc 105 [(.bool false),(.slice none 0 0)] h_2) fun x4 h_3=>
 OH (iAlloc 105 [(.bool false),(.slice none 0 0)] h_3) fun x5 h_4=>
 OP (iFadr 1 a2) fun x11=>
 OP (iLoad false 1 h_4 x11) fun x12=>
 OP (iFadr 1 b3) fun x13=>
 OP (iLoad false 1 h_4 x13) fun x14=>
 CallP P 130 [x12,x14] h_4 fun x15 h_5=>
 OP (iExt 0 x15) fun x16=>
 OP (iExt 1 x15) fun x17=>
 OH (iAlloc 105 [(.bool false),(.slice none 0 0)] h_5) fun x8 h_6=>
 OP (iObj h_6 x8) fun u=>
 (True)∧
 OH (iAlloc 105 [(.bool false),(.slice none 0 0)] h_6) fun y9 h_7=>
 OP (iObj h_7 y9) fun x1=>
 (iObj h_7 x8=some u∧True)∧
 OP (iFadr 0 a2) fun x18=>
 OP (iLoad false 1 h_7 x18) fun x19=>
 (iLoad false 1 h_5 x18=some x19∧iLoad false 1 h_6 x18=some x19∧True)∧
 OP (iFadr 0 b3) fun x20=>
 OP (iLoad false 1 h_7 x20) fun x21=>
 (iLoad false 1 h_5 x20=some x21∧iLoad false 1 h_6 x20=some x21∧True)∧
 OP (iEqb true x19 x21) fun x22=>
 CallP P 117 [x22,x16] h_7 fun x24 h_8=>
 (iObj h_8 x8=some u∧iObj h_8 y9=some x1∧True)∧
 OP (iFadr 0 a2) fun x25=>
 OP (iLoad false 1 h_8 x25) fun x26=>
 (iLoad false 1 h_5 x25=some x26∧iLoad false 1 h_6 x25=some x26∧iLoad false 1 h_7 x25=some x26∧True)∧
 CallP P 117 [x26,x17] h_8 fun x28 h_9=>
 (iObj h_9 x8=some u∧iObj h_9 y9=some x1∧True)∧
 OH (oStore 2 h_9 x8 x24) fun _ h_10=>
 (True)∧
 OH (oStore 2 h_10 y9 x28) fun _ h_11=>
 (True)∧
 OP (iLenSl x17) fun x30=>
 OP (iBin .gtr x30 (.int .i64 (0))) fun x31=>
 p121z7 P K a2 b3 x4 x5 x8 y9 x31 h_11
theorem e121:iwpP P c121 (bodyP [.cell true 2 4,.cell true 2 5] K) (frame0 [a0,b1]) h=T121 P K a0 b1 h:=by kernel_rfl
theorem f121 {K:VK} {a0 b1:Value} {h:Heap} (H:T121 Tryz.prog K a0 b1 h):CallP Tryz.prog 121 [a0,b1] h K:=
 callP_intro k121 (Nat.le_of_ble_eq_true rfl) ((e121 Tryz.prog K a0 b1 h).mpr H)
end
/-! F130: pommel/num.part -/
noncomputable section
variable (a0 b1 x8 v9 u10 n11 q12 j13 : Value) (L1 : LQ) (xs : List Value) (h : Heap)
def oc130:=compFn Tryz.prog 130 [[],[],[],[],[],[],[],[],[],[],[],[],[],[8,9,10,11,12],[13],[],[],[],[8,10,11,12],[]]
@[irreducible] def c130:=icOf oc130
@[irreducible] def c130z16:=c130.r.r.r.r.r.r.r.l.r.l.l
@[irreducible] def c130z13:=c130.r.r.r.r.r.r.r.r
@[irreducible] def c130z21:=c130z13.l
theorem k130:oc130=some (85,c130,[.tmp 4,.tmp 5]):=by kernel_rfl
def K130z0 (_P:Program) (K:VK):Kont:=bodyP [.tmp 4,.tmp 5] K
def K130z13:Kont:=thenK (iwpP P c130z13 (K130z0 P K)) (K130z0 P K)
def K130z15:Kont:=inBlockK 0 (K130z13 P K)
def K130z16:Kont:=thenK (fun f' h''=>(([8,9,10,11,12]:List Nat).map f':List Value)=[x8,v9,u10,n11,q12]∧L1 (([13]:List Nat).map f') h'') (K130z15 P K)
def p130z16:Prop:=CutP (iwpP P c130z16 (K130z16 P K x8 v9 u10 n11 q12 L1)) ([8,9,10,11,12]++[13]) ([x8,v9,u10,n11,q12]++xs) h
def p130z21:Prop:=CutP (iwpP P c130z21 (K130z0 P K)) [8,10,11,12] [x8,u10,n11,q12] h
theorem q130z16 (x8 v9 u10 n11 q12:Value) (L1:LQ) (j13:Value) (h:Heap):p130z16 P K x8 v9 u10 n11 q12 L1 [j13] h=
 (OP (iBin .geq j13 (.int .i64 (0))) fun x62=>
 IfP x62
 (OP (iBin .add j13 n11) fun x71=>
 OP (iBin .add x71 (.int .i64 (1))) fun x72=>
 OP (iSlSl 177 1 u10 (some j13) (some x72)) fun x73=>
 CallP P 137 [x73,v9] h fun x75 h_1=>
 OP (iAdrSl 1 q12 j13) fun x76=>
 OH (oStore 1 h_1 x76 x75) fun _ h_2=>
 OP (iBin .sub j13 (.int .i64 (1))) fun x64=>
 ([x8,v9,u10,n11,q12]:List Value)=[x8,v9,u10,n11,q12]∧L1 [x64] h_2)
 (p130z21 P K x8 u10 n11 q12 h)):=cdt (by kernel_rfl)
theorem q130z21:p130z21 P K x8 u10 n11 q12 h=
 (CallP P 118 [q12] h fun x78 h_1=>
 (True)∧
 OP (iSlSl 177 1 u10 none (some n11)) fun x81=>
 CallP P 118 [x81] h_1 fun x82 h_2=>
 (True)∧
 CallP P 138 [x82,x8] h_2 fun x84 h_3=>
 (True)∧
 K (.tuple #[x78,x84]) h_3):=cdt (by kernel_rfl)
def T130:Prop:=
 CallP P 126 [a0,b1] h fun x16 h_1=>
 OP (iBin .lss x16 (.int .i64 (0))) fun x17=>
 IfP x17
 (OH (iApp 177 1 4 h_1 (.slice none 0 0) a0) fun x19 h_2=>
 K (.tuple #[(.slice none 0 0),x19]) h_2)
 (OP (iLenSl b1) fun x21=>
 OP (iBin .eql x21 (.int .i64 (1))) fun x22=>
 IfP x22
 (OP (iAdrSl 1 b1 (.int .i64 (0))) fun x26=>
 OP (iLoad false 1 h_1 x26) fun x27=>
 CallP P 114 [a0,x27] h_1 fun x28 h_2=>
 OP (iExt 0 x28) fun x29=>
 OP (iExt 1 x28) fun x30=>
 OH (iMkSl 177 1 [(.int .u32 (0))] h_2 [(0,1,x30)]) fun x33 h_3=>
 CallP P 118 [x33] h_3 fun x34 h_4=>
 K (.tuple #[x29,x34]) h_4)
 (OP (iLenSl b1) fun x37=>
 OP (iBin .sub x37 (.int .i64 (1))) fun x38=>
 OP (iAdrSl 1 b1 x38) fun x39=>
 OP (iLoad false 1 h_1 x39) fun x40=>
 CallP P 135 [x40] h_1 fun x41 h_2=>
 CallP P 136 [b1,x41] h_2 fun x44 h_3=>
 CallP P 118 [x44] h_3 fun x45 h_4=>
 CallP P 136 [a0,x41] h_4 fun x48 h_5=>
 OP (iLenSl x45) fun x50=>
 OP (iLenSl a0) fun x52=>
 OP (iBin .sub x52 x50) fun x54=>
 OP (iBin .add x54 (.int .i64 (1))) fun x55=>
 OH (iMake 177 4 [(.int .u32 (0))] h_5 x55 x55) fun x56 h_6=>
 OP (iLenSl a0) fun x58=>
 OP (iBin .sub x58 x50) fun x60=>
 LoopP [x60] h_6 fun L1 xs hx=>
 p130z16 P K x41 x45 x48 x50 x56 L1 xs hx))
theorem e130:iwpP P c130 (bodyP [.tmp 4,.tmp 5] K) (frame0 [a0,b1]) h=T130 P K a0 b1 h:=by kernel_rfl
theorem f130 {K:VK} {a0 b1:Value} {h:Heap} (H:T130 Tryz.prog K a0 b1 h):CallP Tryz.prog 130 [a0,b1] h K:=
 callP_intro k130 (Nat.le_of_ble_eq_true rfl) ((e130 Tryz.prog K a0 b1 h).mpr H)
end
end Go.Proofs.YtelmdbpaoifmoaaGreat

namespace Go.Proofs.YtelmdbpaoifmoaaGreat
open Go.Sim

def bigW:Nat:=4294967296^100

theorem lt_bigW {n:Nat} (h:n<4294967296^20):n<bigW:=Nat.lt_of_lt_of_le h (Nat.pow_le_pow_right (by decide) (by decide))

theorem canW_len {xs:List Nat} (h:Canon 4294967296 xs) (hv:val 4294967296 xs<bigW):xs.length≤100:=h.len (by decide) hv

def DS (e:TypeId) (k:IntKind) (h:Heap) (v:Value) (xs:List Nat):Prop:=
 (v=.slice none 0 0∧xs=[])∨∃i,v=sl e i 0 xs.length∧(xs=[]∨∃rest,objCells h i=some (xs.map (fun d:Nat=>Value.int k (d:Int))++rest))

theorem DS.mono {e:TypeId} {k:IntKind} {h h':Heap} {v:Value} {xs:List Nat} (x:EX h h') (p:DS e k h v xs):DS e k h' v xs:=
 p.imp id fun ⟨i,a,b⟩=>⟨i,a,b.imp id fun ⟨r,c⟩=>⟨r,x.cells c⟩⟩

theorem DS.len {e:TypeId} {k:IntKind} {h:Heap} {v:Value} {xs:List Nat} (p:DS e k h v xs):iLenSl v=some (I xs.length):=by
 rcases p with ⟨rfl,rfl⟩ | ⟨i,rfl,_⟩ <;> rfl

theorem DS.get {e:TypeId} {k:IntKind} {h:Heap} {v:Value} {xs:List Nat} (p:DS e k h v xs) {j:Nat} (hj:j<xs.length):∃i,iAdrSl 1 v (I j)=some (pt i j)∧iLoad false 1 h (pt i j)=some (.int k (xs[j]:Int)):=by
 rcases p with ⟨_,rfl⟩ | ⟨i,rfl,hc⟩
 ·simp at hj
 ·obtain ⟨r,hc⟩:=hc.resolve_left (by rintro rfl;simp at hj)
  refine ⟨i,adr_sl hj,?_⟩
  have:(xs.map (fun d:Nat=>Value.int k (d:Int))++r)[j]?=some (.int k (xs[j]:Int)):=by rw [List.getElem?_append_left (by simpa using hj)];simp [hj]
  simp [iLoad,hc,iPart,this]

theorem DS.nil (e:TypeId) (k:IntKind) (h:Heap):DS e k h (.slice none 0 0) []:=.inl ⟨rfl,rfl⟩

theorem DS.one {e:TypeId} {k:IntKind} {h:Heap} {v:Value} {xs:List Nat} (p:DS e k h v xs):noTuple v=true∧vcells v=[v]:=by
 rcases p with ⟨rfl,_⟩ | ⟨i,rfl,_⟩ <;> exact ⟨rfl,rfl⟩

theorem DS.pop {e:TypeId} {k:IntKind} {h:Heap} {v:Value} {xs:List Nat} (p:DS e k h v xs) {n:Nat} (hn:n≤xs.length):∃v',iSlSl e 1 v none (some (I n))=some v'∧DS e k h v' (xs.take n):=by
 rcases p with ⟨rfl,rfl⟩ | ⟨i,rfl,hc⟩
 ·simp at hn;subst hn
  exact ⟨_,rfl,.inl ⟨rfl,rfl⟩⟩
 ·refine ⟨sl e i 0 n,?_,.inr ⟨i,by rw [List.length_take,Nat.min_eq_left hn],?_⟩⟩
  ·simp [iSlSl,sl,iBounds,natOf,hn]
  ·rcases hc with rfl | ⟨r,hc⟩
   ·left;simp
   ·right
    refine ⟨(xs.drop n).map (fun d:Nat=>Value.int k (d:Int))++r,?_⟩
    rw [hc,←List.append_assoc,←List.map_append,List.take_append_drop]

def MagV (h:Heap) (v:Value) (n:Nat):Prop:=∃xs,DS 177 .u32 h v xs∧Canon 4294967296 xs∧val 4294967296 xs=n

theorem MagV.mono {h h':Heap} {v:Value} {n:Nat} (x:EX h h') (p:MagV h v n):MagV h' v n:=let ⟨xs,a,b,c⟩:=p;⟨xs,a.mono x,b,c⟩

theorem C118 {h:Heap} {K:Value→Heap→Prop} {v:Value} {xs:List Nat} (p:DS 177 .u32 h v xs) (hl:Lim 4294967296 xs) (hs:xs.length≤1000) (hk:∀v',MagV h v' (val 4294967296 xs)→K v' h):CallP Tryz.prog 118 [v] h K:=by
 refine f118 ?_
 refine loopL (σ:=Value×List Nat) (fun p=>[p.1]) (fun _=>h) (fun q=>DS 177 .u32 h q.1 q.2∧Lim 4294967296 q.2∧val 4294967296 q.2=val 4294967296 xs∧q.2.length≤1000) (fun q=>q.2.length) (v,xs) rfl rfl ⟨p,hl,rfl,hs⟩ ?_
 rintro ⟨v,ys⟩ ⟨p,hl,hv,hs⟩ L hL
 simp only at p hl hv hs hL⊢
 rw [q118z4]
 have done:Canon 4294967296 ys→p118z12 Tryz.prog K v h:=by
  intro hc
  rw [q118z12]
  exact hk v ⟨ys,p,hc,hv⟩
 simp only [p.len,OP_some,bin_gtr]
 by_cases h0:ys.length=0
 ·have:ys=[]:=List.length_eq_zero_iff.1 h0
  rw [decide_eq_false (show ¬(0:Int)<(ys.length:Int) by omega)]
  simp only [q118z8,GdP_ft,q118z10,iPick_f,OP_some,IfP_false]
  exact done (by rw [this];exact Canon.nil 4294967296)
 ·rw [decide_eq_true (show (0:Int)<(ys.length:Int) by omega)]
  have e1:IntKind.wrap .i64 ((ys.length:Int)-1)=((ys.length-1:Nat):Int):=by rw [wrap64 (by omega) (by omega)];omega
  obtain ⟨i,g1,g2⟩:=p.get (j:=ys.length-1) (by omega)
  simp only [q118z8,GdP_tt,p.len,OP_some,bin_sub,e1,g1,g2,bin_eql,q118z10,iPick_t,IfP_dec]
  refine ⟨fun hz=>?_,fun hz=>?_⟩
  ·obtain ⟨v',h1,h2⟩:=p.pop (n:=ys.length-1) (by omega)
   simp only [h1,OP_some,true_and]
   have hsplit:ys=ys.take (ys.length-1)++[0]:=by
    have:=List.take_succ_eq_append_getElem (l:=ys) (i:=ys.length-1) (by omega)
    rw [show ys.length-1+1=ys.length by omega,List.take_length] at this
    have hz':ys[ys.length-1]=0:=by omega
    rw [hz'] at this
    exact this
   refine hL (v',ys.take (ys.length-1)) ⟨h2,hl.mono fun y hy=>List.mem_of_mem_take hy,?_,by rw [List.length_take];omega⟩ (by simp;omega)
   rw [←hv]
   conv=>rhs;rw [hsplit]
   rw [val_append]
   simp [val]
  ·exact done (can_of_last hl fun h1 hc=>hz (by rw [hc];rfl))

/-- Fresh digits at the end of the heap. -/
abbrev hd (h:Heap) (os:List Nat):Heap:=h++[.arr 177 (os.map fun d:Nat=>Value.int .u32 (d:Int))]

theorem make_hd {h:Heap} {n:Nat} (hn:n≤1000):iMake 177 4 [.int .u32 0] h (I n) (I n)=some (sl 177 h.length 0 n,hd h (List.replicate n 0)):=by
 have hz:∀m,zrep [Value.int .u32 0] m=(List.replicate m 0).map fun d:Nat=>Value.int .u32 (d:Int):=by
  intro m
  induction m with
  | zero=>rfl
  | succ m ih=>
   have:zrep [Value.int .u32 0] (m+1)=Value.int .u32 0::zrep [Value.int .u32 0] m:=by simp [zrep,List.replicate_succ]
   rw [this,ih,List.replicate_succ];rfl
 simp only [iMake]
 rw [if_pos ⟨by omega,by omega,by omega,by omega⟩,Int.toNat_natCast,hz]

theorem hd_get (h:Heap) (os:List Nat):(hd h os)[h.length]?=some (.arr 177 (os.map fun d:Nat=>Value.int .u32 (d:Int))):=by simp [hd]

theorem hd_store {h:Heap} {os:List Nat} {j:Nat} (d:Nat) (hj:j<os.length):oStore 1 (hd h os) (pt h.length j) (.int .u32 (d:Int))=some (undef,hd h (os.set j d)):=by
 rw [store_at (hd_get h os) (by simpa using hj) rfl rfl]
 simp [hd,List.map_set]

theorem hd_load {h:Heap} {os:List Nat} {j:Nat} (hj:j<os.length):iLoad false 1 (hd h os) (pt h.length j)=some (.int .u32 (os[j]:Int)):=by
 simp [iLoad,objCells,hd_get,iPart,hj]

theorem hd_DS (h:Heap) (os:List Nat):DS 177 .u32 (hd h os) (sl 177 h.length 0 os.length) os:=.inr ⟨h.length,rfl,.inr ⟨[],by simp [objCells,hd]⟩⟩

theorem hd_EX (h:Heap) (os:List Nat):EX h (hd h os):=EX.append _ _

theorem wrapU64 {n:Int} (h1:0≤n) (h2:n<18446744073709551616):IntKind.wrap .u64 n=n:=by
 have e:IntKind.wrap .u64 n=n%18446744073709551616:=by simp [IntKind.wrap,IntKind.bits,IntKind.signed]
 rw [e];omega
theorem wrapU32e (n:Int):IntKind.wrap .u32 n=n%4294967296:=by simp [IntKind.wrap,IntKind.bits,IntKind.signed]
theorem wrapU32 {n:Int} (h1:0≤n) (h2:n<4294967296):IntKind.wrap .u32 n=n:=by rw [wrapU32e];omega

theorem shr32 (s:Nat):iBin .shr (.int .u64 (s:Int)) (.int .u64 32)=some (.int .u64 ((s / 4294967296:Nat):Int)):=by
 simp only [iBin,iShift]
 rw [if_neg (by omega)]
 have:(min (32:Int).toNat IntKind.u64.bits)=32:=rfl
 rw [this]
 have e2:(2:Int)^32=4294967296:=by decide
 rw [e2,Int.fdiv_eq_ediv_of_nonneg _ (by omega)]
 congr 2

theorem C133 {x y c:Nat} {h:Heap} {K:Value→Heap→Prop} (hx:x<4294967296) (hy:y<4294967296) (hc:c≤1) (hk:K (.tuple #[.int .u32 (((x+y+c)%4294967296:Nat):Int),.int .u32 (((x+y+c) / 4294967296:Nat):Int)]) h):
  CallP Tryz.prog 133 [.int .u32 (x:Int),.int .u32 (y:Int),.int .u32 (c:Int)] h K:=by
 refine f133 ?_
 have e1:IntKind.wrap .u64 ((x:Int)+(y:Int))=((x+y:Nat):Int):=by rw [wrapU64 (by omega) (by omega)];omega
 have e2:IntKind.wrap .u64 (((x+y:Nat):Int)+(c:Int))=((x+y+c:Nat):Int):=by rw [wrapU64 (by omega) (by omega)];omega
 have e3:IntKind.wrap .u32 ((x+y+c:Nat):Int)=(((x+y+c)%4294967296:Nat):Int):=by rw [wrapU32e];omega
 simp only [T133,conv_int,OP_some,bin_add]
 rw [wrapU64 (n:=(x:Int)) (by omega) (by omega),wrapU64 (n:=(y:Int)) (by omega) (by omega),e1,wrapU64 (n:=(c:Int)) (by omega) (by omega),e2]
 simp only [shr32,OP_some,conv_int,e3]
 rw [wrapU32 (by omega) (by omega)]
 exact hk

theorem C128s {va vb:Value} {xs ys:List Nat} {h:Heap} {K:Value→Heap→Prop} (hx:DS 177 .u32 h va xs) (hy:DS 177 .u32 h vb ys) (lx:Lim 4294967296 xs) (ly:Lim 4294967296 ys) (hle:ys.length≤xs.length) (hlen:xs.length≤200)
  (hk:∀v h',EX h h'→MagV h' v (val 4294967296 xs+val 4294967296 ys)→K v h'):p128z4 Tryz.prog K va vb h:=by
 rw [q128z4]
 simp only [hx.len,OP_some,bin_add,inc xs.length (by omega),make_hd (show xs.length+1≤1000 by omega),OH_some]
 have hW:0<4294967296:=by decide
 refine loopL (σ:=Nat×Nat×List Nat) (fun p=>[.int .u32 (p.1:Int),I p.2.1]) (fun p=>hd h p.2.2)
  (fun p=>p.2.1≤xs.length∧p.1≤1∧p.2.2.length=xs.length+1∧Lim 4294967296 p.2.2∧(∀j (hj:j<p.2.2.length),p.2.1≤j→p.2.2[j]=0)∧val 4294967296 p.2.2+4294967296^p.2.1*p.1=val 4294967296 (xs.take p.2.1)+val 4294967296 (ys.take p.2.1)) (fun p=>xs.length-p.2.1)
  (0,0,List.replicate (xs.length+1) 0) rfl rfl ⟨by simp,by simp,by simp,Lim.zeros hW _,by simp,by simp [val_zeros,val]⟩ ?_
 rintro ⟨c,i,os⟩ ⟨hi,hc,hol,hlim,hz,hval⟩ L hL
 simp only at hi hc hol hlim hz hval hL⊢
 rw [q128z10]
 have hx':=hx.mono (hd_EX h os)
 have hy':=hy.mono (hd_EX h os)
 simp only [bin_lss,OP_some,IfP_dec]
 refine ⟨fun hlt=>?_,fun hge=>?_⟩
 ·have hil:i<xs.length:=by omega
  obtain ⟨ia,a1,a2⟩:=hx'.get hil
  have hxl:xs[i]<4294967296:=lx _ (List.getElem_mem hil)
  have go:∀y:Nat,y<4294967296→val 4294967296 (ys.take (i+1))=val 4294967296 (ys.take i)+4294967296^i*y→p128z19 Tryz.prog K va vb (sl 177 h.length 0 (xs.length+1)) (.int .u32 (c:Int)) (I i) (.int .u32 (y:Int)) (I xs.length) (I i) L (hd h os):=by
   intro y hyl hyv
   rw [q128z19]
   simp only [a1,OP_some,a2]
   refine C133 hxl hyl hc ?_
   simp only [ext_tuple,pair0,pair1,OP_some,adr_sl (show i<xs.length+1 by omega)]
   rw [hd_store _ (by omega)]
   simp only [OH_some,q128z20,bin_add,OP_some,inc i (by omega),true_and]
   have hmod:(xs[i]+y+c)%4294967296<4294967296:=Nat.mod_lt _ hW
   have hdiv:(xs[i]+y+c) / 4294967296≤1:=by omega
   refine hL ((xs[i]+y+c) / 4294967296,i+1,os.set i ((xs[i]+y+c)%4294967296)) ⟨by show i+1≤xs.length;omega,hdiv,by show (os.set i _).length=_;rw [List.length_set];exact hol,hlim.set hmod i,?_,?_⟩ (by show xs.length-(i+1)<xs.length-i;omega)
   ·intro j hj hij
    show (os.set i _)[j]=0
    have hij':i≠j:=by have:i+1≤j:=hij;omega
    rw [List.getElem_set_ne hij']
    exact hz j (by simpa using hj) (by have:i+1≤j:=hij;omega)
   ·show val 4294967296 (os.set i _)+4294967296^(i+1)*_=val 4294967296 (xs.take (i+1))+val 4294967296 (ys.take (i+1))
    have h1:=val_set 4294967296 os i ((xs[i]+y+c)%4294967296) (by omega)
    rw [hz i (by omega) (Nat.le_refl _)] at h1
    rw [val_take_succ 4294967296 xs hil,hyv,Nat.pow_succ]
    have h2:=Nat.mod_add_div (xs[i]+y+c) 4294967296
    generalize (xs[i]+y+c)%4294967296=m at*
    generalize (xs[i]+y+c) / 4294967296=q at*
    generalize 4294967296^i=P at*
    generalize hWW:4294967296=w at*
    grind
  simp only [hy'.len,OP_some,bin_lss,IfP_dec]
  refine ⟨fun hly=>?_,fun hgy=>?_⟩
  ·have hiy:i<ys.length:=by omega
   obtain ⟨ib,b1,b2⟩:=hy'.get hiy
   simp only [b1,OP_some,b2]
   exact go _ (ly _ (List.getElem_mem hiy)) (val_take_succ 4294967296 ys hiy)
  ·have:=go 0 (by decide) (by rw [List.take_of_length_le (by omega),List.take_of_length_le (by omega)];simp)
   simpa using this
 ·have:i=xs.length:=by omega
  subst this
  rw [q128z21]
  simp only [hx'.len,OP_some,adr_sl (show xs.length<xs.length+1 by omega)]
  rw [hd_store _ (by omega)]
  simp only [OH_some]
  have h1:=val_set 4294967296 os xs.length c (by omega)
  rw [hz xs.length (by omega) (Nat.le_refl _)] at h1
  have hv:val 4294967296 (os.set xs.length c)=val 4294967296 xs+val 4294967296 ys:=by
   rw [List.take_length,List.take_of_length_le hle] at hval
   omega
  have hcW:c<4294967296:=Nat.lt_of_le_of_lt hc (by decide)
  have e:sl 177 h.length 0 (xs.length+1)=sl 177 h.length 0 (os.set xs.length c).length:=by rw [List.length_set,hol]
  rw [e]
  refine C118 (hd_DS h _) (hlim.set hcW _) (by rw [List.length_set];omega) ?_
  intro v' hm
  rw [hv] at hm
  exact hk v' _ (hd_EX h _) hm

theorem C128 {va vb:Value} {a b:Nat} {h:Heap} {K:Value→Heap→Prop} (ha:MagV h va a) (hb:MagV h vb b) (la:a<bigW) (lb:b<bigW) (hk:∀v h',EX h h'→MagV h' v (a+b)→K v h'):CallP Tryz.prog 128 [va,vb] h K:=by
 obtain ⟨xs,dx,cx,rfl⟩:=ha
 obtain ⟨ys,dy,cy,rfl⟩:=hb
 have l1:=canW_len cx la
 have l2:=canW_len cy lb
 refine f128 ?_
 simp only [T128,dx.len,dy.len,OP_some,bin_lss,IfP_dec]
 refine ⟨fun hlt=>?_,fun hge=>?_⟩
 ·refine C128s dy dx cy.1 cx.1 (by omega) (by omega) ?_
  rw [Nat.add_comm (val 4294967296 ys)]
  exact hk
 ·exact C128s dx dy cx.1 cy.1 (by omega) (by omega) hk

end Go.Proofs.YtelmdbpaoifmoaaGreat


namespace Go.Proofs.YtelmdbpaoifmoaaGreat
open Go.Sim

theorem bv_of (X:BitVec 32):BitVec.ofInt IntKind.u32.bits (X.toNat:Int)=X:=by
 show BitVec.ofInt 32 (X.toNat:Int)=X
 rw [BitVec.ofInt_natCast,BitVec.ofNat_toNat,BitVec.setWidth_eq]

theorem bv_lt (X:BitVec 32):X.toNat<4294967296:=X.isLt

theorem and32 (X Y:BitVec 32):iBin .and (.int .u32 (X.toNat:Int)) (.int .u32 (Y.toNat:Int))=some (.int .u32 ((X &&& Y).toNat:Int)):=by
 have h:=bv_lt (X &&& Y)
 have e:(BitVec.ofInt IntKind.u32.bits (X.toNat:Int) &&& BitVec.ofInt IntKind.u32.bits (Y.toNat:Int)).toNat=(X &&& Y).toNat:=by rw [bv_of,bv_of];rfl
 simp only [iBin,iInt,if_true]
 rw [e,wrapU32 (by omega) (by omega)]

theorem or32 (X Y:BitVec 32):iBin .or (.int .u32 (X.toNat:Int)) (.int .u32 (Y.toNat:Int))=some (.int .u32 ((X ||| Y).toNat:Int)):=by
 have h:=bv_lt (X ||| Y)
 have e:(BitVec.ofInt IntKind.u32.bits (X.toNat:Int) ||| BitVec.ofInt IntKind.u32.bits (Y.toNat:Int)).toNat=(X ||| Y).toNat:=by rw [bv_of,bv_of];rfl
 simp only [iBin,iInt,if_true]
 rw [e,wrapU32 (by omega) (by omega)]

theorem xor32 (X Y:BitVec 32):iBin .xor (.int .u32 (X.toNat:Int)) (.int .u32 (Y.toNat:Int))=some (.int .u32 ((X^^^Y).toNat:Int)):=by
 have h:=bv_lt (X^^^Y)
 have e:(BitVec.ofInt IntKind.u32.bits (X.toNat:Int)^^^BitVec.ofInt IntKind.u32.bits (Y.toNat:Int)).toNat=(X^^^Y).toNat:=by rw [bv_of,bv_of];rfl
 simp only [iBin,iInt,if_true]
 rw [e,wrapU32 (by omega) (by omega)]

theorem not32 (X:BitVec 32):iUn .xor (.int .u32 (X.toNat:Int))=some (.int .u32 ((~~~X).toNat:Int)):=by
 have h:=bv_lt (~~~X)
 have e:(BitVec.ofInt IntKind.u32.bits (if IntKind.u32.signed=true then -1 else IntKind.u32.max)^^^BitVec.ofInt IntKind.u32.bits (X.toNat:Int)).toNat=(~~~X).toNat:=by
  rw [bv_of]
  show (BitVec.ofInt 32 4294967295^^^X).toNat=_
  rw [show BitVec.ofInt 32 4294967295=BitVec.allOnes 32 from by decide,BitVec.allOnes_xor]
 simp only [iUn]
 rw [e,wrapU32 (by omega) (by omega)]

theorem top32 (Z:BitVec 32):iBin .shr (.int .u32 (Z.toNat:Int)) (.int .u64 31)=some (.int .u32 ((if Z.msb then 1 else 0:Nat):Int)):=by
 have h:=bv_lt Z
 simp only [iBin,iShift]
 rw [if_neg (by omega)]
 have:(min (31:Int).toNat IntKind.u32.bits)=31:=rfl
 rw [this]
 have e2:(2:Int)^31=2147483648:=by decide
 rw [e2,Int.fdiv_eq_ediv_of_nonneg _ (by omega),BitVec.msb_eq_decide]
 congr 2
 by_cases hz:2^31≤Z.toNat
 ·simp [hz];omega
 ·simp [hz];omega

theorem C134 {x y b:Nat} {h:Heap} {K:Value→Heap→Prop} (hx:x<4294967296) (hy:y<4294967296) (hb:b≤1) (hk:K (.tuple #[.int .u32 (((x+4294967296+4294967296-y-b)%4294967296:Nat):Int),.int .u32 ((if x<y+b then 1 else 0:Nat):Int)]) h):
  CallP Tryz.prog 134 [.int .u32 (x:Int),.int .u32 (y:Int),.int .u32 (b:Int)] h K:=by
 refine f134 ?_
 obtain ⟨X,rfl⟩:∃X:BitVec 32,x=X.toNat:=⟨BitVec.ofNat 32 x,by rw [BitVec.toNat_ofNat];exact (Nat.mod_eq_of_lt hx).symm⟩
 obtain ⟨Y,rfl⟩:∃Y:BitVec 32,y=Y.toNat:=⟨BitVec.ofNat 32 y,by rw [BitVec.toNat_ofNat];exact (Nat.mod_eq_of_lt hy).symm⟩
 obtain ⟨D,hD⟩:∃D:BitVec 32,D.toNat=(X.toNat+4294967296+4294967296-Y.toNat-b)%4294967296:=⟨BitVec.ofNat 32 _,by rw [BitVec.toNat_ofNat]⟩
 have e1:IntKind.wrap .u32 (IntKind.wrap .u32 ((X.toNat:Int)-(Y.toNat:Int))-(b:Int))=(D.toNat:Int):=by
  rw [wrapU32e,wrapU32e,hD];omega
 simp only [T134,bin_sub,OP_some,e1,not32,and32,xor32,or32,top32]
 rw [←hD] at hk
 have e2:(if (~~~X &&& Y ||| ~~~(X^^^Y) &&& D).msb then 1 else 0:Nat)=if X.toNat<Y.toNat+b then 1 else 0:=by
  rw [BitVec.msb_or,BitVec.msb_and,BitVec.msb_and,BitVec.msb_not,BitVec.msb_not,BitVec.msb_xor,BitVec.msb_eq_decide X,BitVec.msb_eq_decide Y,BitVec.msb_eq_decide D]
  by_cases c1:2^(32-1)≤X.toNat <;> by_cases c2:2^(32-1)≤Y.toNat <;> by_cases c3:2^(32-1)≤D.toNat <;> simp [c1,c2,c3] <;> omega
 rw [e2]
 exact hk

theorem C129 {va vb:Value} {a b:Nat} {h:Heap} {K:Value→Heap→Prop} (ha:MagV h va a) (hb:MagV h vb b) (la:a<bigW) (hab:b≤a) (hk:∀v h',EX h h'→MagV h' v (a-b)→K v h'):CallP Tryz.prog 129 [va,vb] h K:=by
 obtain ⟨xs,hx,cx,rfl⟩:=ha
 obtain ⟨ys,hy,cy,rfl⟩:=hb
 have l1:=canW_len cx la
 have l2:=canW_len cy (Nat.lt_of_le_of_lt hab la)
 have hle:ys.length≤xs.length:=by
  apply Classical.byContradiction
  intro hc
  have:=Canon.lt_of_len (by decide) cx cy (by omega)
  omega
 refine f129 ?_
 simp only [T129,hx.len,OP_some,make_hd (show xs.length≤1000 by omega),OH_some]
 have hW:(0:Nat)<4294967296:=by decide
 refine loopL (σ:=Nat×Nat×List Nat) (fun p=>[.int .u32 (p.1:Int),I p.2.1]) (fun p=>hd h p.2.2)
  (fun p=>p.2.1≤xs.length∧p.1≤1∧p.2.2.length=xs.length∧Lim 4294967296 p.2.2∧(∀j (hj:j<p.2.2.length),p.2.1≤j→p.2.2[j]=0)∧val 4294967296 p.2.2+val 4294967296 (ys.take p.2.1)=val 4294967296 (xs.take p.2.1)+4294967296^p.2.1*p.1) (fun p=>xs.length-p.2.1)
  (0,0,List.replicate xs.length 0) rfl rfl ⟨by simp,by simp,by simp,Lim.zeros hW _,by simp,by simp [val_zeros,val]⟩ ?_
 rintro ⟨c,i,os⟩ ⟨hi,hc,hol,hlim,hz,hval⟩ L hL
 simp only at hi hc hol hlim hz hval hL⊢
 rw [q129z7]
 have hx':=hx.mono (hd_EX h os)
 have hy':=hy.mono (hd_EX h os)
 simp only [bin_lss,OP_some,IfP_dec]
 refine ⟨fun hlt=>?_,fun hge=>?_⟩
 ·have hil:i<xs.length:=by omega
  obtain ⟨ia,a1,a2⟩:=hx'.get hil
  have hxl:xs[i]<4294967296:=cx.1 _ (List.getElem_mem hil)
  have go:∀y:Nat,y<4294967296→val 4294967296 (ys.take (i+1))=val 4294967296 (ys.take i)+4294967296^i*y→p129z16 Tryz.prog K va vb (sl 177 h.length 0 xs.length) (.int .u32 (c:Int)) (I i) (.int .u32 (y:Int)) (I xs.length) (I i) L (hd h os):=by
   intro y hyl hyv
   rw [q129z16]
   simp only [a1,OP_some,a2]
   refine C134 hxl hyl hc ?_
   simp only [ext_tuple,pair0,pair1,OP_some,adr_sl hil]
   rw [hd_store _ (by omega)]
   simp only [OH_some,q129z17,bin_add,OP_some,inc i (by omega),true_and]
   have hmod:(xs[i]+4294967296+4294967296-y-c)%4294967296<4294967296:=Nat.mod_lt _ hW
   have hb1:(if xs[i]<y+c then 1 else 0)≤1:=by split <;> omega
   have hs:(xs[i]+4294967296+4294967296-y-c)%4294967296+y+c=xs[i]+4294967296*(if xs[i]<y+c then 1 else 0):=by
    split <;> omega
   refine hL ((if xs[i]<y+c then 1 else 0),i+1,os.set i ((xs[i]+4294967296+4294967296-y-c)%4294967296)) ⟨by show i+1≤xs.length;omega,hb1,by show (os.set i _).length=_;rw [List.length_set];exact hol,hlim.set hmod i,?_,?_⟩ (by show xs.length-(i+1)<xs.length-i;omega)
   ·intro j hj hij
    show (os.set i _)[j]=0
    have hij':i≠j:=by have:i+1≤j:=hij;omega
    rw [List.getElem_set_ne hij']
    exact hz j (by simpa using hj) (by have:i+1≤j:=hij;omega)
   ·show val 4294967296 (os.set i _)+val 4294967296 (ys.take (i+1))=val 4294967296 (xs.take (i+1))+4294967296^(i+1)*_
    have h1:=val_set 4294967296 os i ((xs[i]+4294967296+4294967296-y-c)%4294967296) (by omega)
    rw [hz i (by omega) (Nat.le_refl _)] at h1
    rw [val_take_succ 4294967296 xs hil,hyv,Nat.pow_succ]
    generalize (xs[i]+4294967296+4294967296-y-c)%4294967296=m at*
    generalize (if xs[i]<y+c then 1 else 0)=q at*
    generalize 4294967296^i=P at*
    generalize (4294967296:Nat)=w at*
    grind
  simp only [hy'.len,OP_some,bin_lss,IfP_dec]
  refine ⟨fun hly=>?_,fun hgy=>?_⟩
  ·have hiy:i<ys.length:=by omega
   obtain ⟨ib,b1,b2⟩:=hy'.get hiy
   simp only [b1,OP_some,b2]
   exact go _ (cy.1 _ (List.getElem_mem hiy)) (val_take_succ 4294967296 ys hiy)
  ·have:=go 0 (by decide) (by rw [List.take_of_length_le (by omega),List.take_of_length_le (by omega)];simp)
   simpa using this
 ·have:i=xs.length:=by omega
  subst this
  rw [q129z18]
  rw [List.take_length,List.take_of_length_le hle] at hval
  have hlt:=val_lt hlim
  rw [hol] at hlt
  have hc0:c=0:=by
   apply Classical.byContradiction
   intro hne
   have:c=1:=by omega
   subst this
   omega
  subst hc0
  have hv:val 4294967296 os=val 4294967296 xs-val 4294967296 ys:=by omega
  have e:sl 177 h.length 0 xs.length=sl 177 h.length 0 os.length:=by rw [hol]
  rw [e]
  refine C118 (hd_DS h _) hlim (by omega) ?_
  intro v' hm
  rw [hv] at hm
  exact hk v' _ (hd_EX h _) hm

def sgn (a b:Nat):Int:=if a<b then -1 else if b<a then 1 else 0

theorem val_lt_of_top {B:Nat} {xs ys:List Nat} (lx:Lim B xs) (ly:Lim B ys) (hl:xs.length=ys.length) {i:Nat} (hi:i<xs.length) (hd:xs.drop (i+1)=ys.drop (i+1)) (h:xs[i]<ys[i]'(by omega)):val B xs<val B ys:=by
 have e1:xs=xs.take i++xs[i]::xs.drop (i+1):=by rw [←List.drop_eq_getElem_cons hi,List.take_append_drop]
 have e2:ys=ys.take i++ys[i]'(by omega)::ys.drop (i+1):=by rw [←List.drop_eq_getElem_cons (by omega),List.take_append_drop]
 have v1:val B xs=val B (xs.take i)+B^i*(xs[i]+B*val B (xs.drop (i+1))):=by
  conv=>lhs;rw [e1]
  rw [val_append,List.length_take,Nat.min_eq_left (by omega)];rfl
 have v2:val B ys=val B (ys.take i)+B^i*(ys[i]'(by omega)+B*val B (ys.drop (i+1))):=by
  conv=>lhs;rw [e2]
  rw [val_append,List.length_take,Nat.min_eq_left (by omega)];rfl
 rw [v1,v2,hd]
 have h1:=val_lt (lx.mono (ys:=xs.take i) fun y hy=>List.mem_of_mem_take hy)
 rw [List.length_take,Nat.min_eq_left (by omega)] at h1
 have h2:B^i*(xs[i]+1+B*val B (ys.drop (i+1)))≤B^i*(ys[i]'(by omega)+B*val B (ys.drop (i+1))):=Nat.mul_le_mul_left _ (by omega)
 generalize B^i=P at*
 generalize B*val B (ys.drop (i+1))=Q at*
 generalize val B (xs.take i)=u at*
 generalize val B (ys.take i)=v at*
 have h3:P*(xs[i]+1+Q)=P*(xs[i]+Q)+P:=by grind
 omega

theorem C126 {va vb:Value} {a b:Nat} {h:Heap} {K:Value→Heap→Prop} (ha:MagV h va a) (hb:MagV h vb b) (la:a<bigW) (lb:b<bigW) (hk:K (I (sgn a b)) h):CallP Tryz.prog 126 [va,vb] h K:=by
 obtain ⟨xs,hx,cx,rfl⟩:=ha
 obtain ⟨ys,hy,cy,rfl⟩:=hb
 have l1:=canW_len cx la
 have l2:=canW_len cy lb
 have less:val 4294967296 xs<val 4294967296 ys→K (.int .i64 (-1)) h:=fun h1=>by unfold sgn at hk;rw [if_pos h1] at hk;exact hk
 have more:val 4294967296 ys<val 4294967296 xs→K (.int .i64 1) h:=fun h1=>by unfold sgn at hk;rw [if_neg (by omega),if_pos h1] at hk;exact hk
 have same:val 4294967296 xs=val 4294967296 ys→K (.int .i64 0) h:=fun h1=>by unfold sgn at hk;rw [if_neg (by omega),if_neg (by omega)] at hk;exact hk
 refine f126 ?_
 simp only [T126,hx.len,hy.len,OP_some,bin_neq,IfP_ndec,bin_lss,IfP_dec]
 refine ⟨fun hne=>⟨fun hlt=>less (Canon.lt_of_len (by decide) cx cy (by omega)),fun hge=>more (Canon.lt_of_len (by decide) cy cx (by omega))⟩,fun he=>?_⟩
 have he':xs.length=ys.length:=by omega
 simp only [bin_sub,OP_some]
 have e1:IntKind.wrap .i64 ((xs.length:Int)-1)=(xs.length:Int)-1:=by rw [wrap64 (by omega) (by omega)]
 rw [e1]
 refine loopL (σ:=Nat) (fun i=>[I ((i:Int)-1)]) (fun _=>h) (fun i=>i≤xs.length∧xs.drop i=ys.drop i) (fun i=>i) xs.length rfl rfl ⟨Nat.le_refl _,by rw [List.drop_length,he',List.drop_length]⟩ ?_
 rintro i ⟨hi,hdr⟩ L hL
 rw [q126z11]
 simp only [bin_geq,OP_some,IfP_dec]
 refine ⟨fun hge=>?_,fun hlt=>?_⟩
 ·obtain ⟨j,rfl⟩:∃j,i=j+1:=⟨i-1,by omega⟩
  have ej:(((j+1:Nat):Int)-1)=(j:Int):=by omega
  rw [ej]
  obtain ⟨ia,a1,a2⟩:=hx.get (j:=j) (by omega)
  obtain ⟨ib,b1,b2⟩:=hy.get (j:=j) (by omega)
  simp only [a1,a2,b1,b2,OP_some,true_and,bin_neq,IfP_ndec,bin_lss,IfP_dec]
  refine ⟨fun hne=>⟨fun hlt=>less (val_lt_of_top cx.1 cy.1 he' (i:=j) (by omega) hdr (by omega)),fun hge=>more (val_lt_of_top cy.1 cx.1 he'.symm (i:=j) (by omega) hdr.symm (by omega))⟩,fun heq=>?_⟩
  simp only [bin_sub,OP_some]
  rw [wrap64 (by omega) (by omega)]
  refine hL j ⟨by omega,?_⟩ (by omega)
  rw [List.drop_eq_getElem_cons (by omega),List.drop_eq_getElem_cons (show j<ys.length by omega),hdr]
  congr 1
  omega
 ·have:i=0:=by omega
  subst this
  rw [List.drop_zero,List.drop_zero] at hdr
  exact same (by rw [hdr])

end Go.Proofs.YtelmdbpaoifmoaaGreat


namespace Go.Proofs.YtelmdbpaoifmoaaGreat
open Go.Sim

theorem mul_lt32 {x y:Nat} (hx:x<4294967296) (hy:y<4294967296):x*y≤18446744065119617025:=by
 have:=Nat.mul_le_mul (show x≤4294967295 by omega) (show y≤4294967295 by omega)
 omega

theorem C122 {va vb:Value} {a b:Nat} {h:Heap} {K:Value→Heap→Prop} (ha:MagV h va a) (hb:MagV h vb b) (la:a<bigW) (lb:b<bigW) (hk:∀v h',EX h h'→MagV h' v (a*b)→K v h'):CallP Tryz.prog 122 [va,vb] h K:=by
 obtain ⟨xs,hx,cx,rfl⟩:=ha
 obtain ⟨ys,hy,cy,rfl⟩:=hb
 have l1:=canW_len cx la
 have l2:=canW_len cy lb
 have hW:(0:Nat)<4294967296:=by decide
 refine f122 ?_
 have e0:IntKind.wrap .i64 ((xs.length:Int)+(ys.length:Int))=((xs.length+ys.length:Nat):Int):=by rw [wrap64 (by omega) (by omega)];omega
 simp only [T122,hx.len,hy.len,OP_some,bin_add,e0,make_hd (show xs.length+ys.length≤1000 by omega),OH_some]
 refine loopL (σ:=Nat×List Nat) (fun p=>[I p.1]) (fun p=>hd h p.2)
  (fun p=>p.1≤xs.length∧p.2.length=xs.length+ys.length∧Lim 4294967296 p.2∧(∀j (hj:j<p.2.length),p.1+ys.length≤j→p.2[j]=0)∧val 4294967296 p.2=val 4294967296 (xs.take p.1)*val 4294967296 ys) (fun p=>xs.length-p.1)
  (0,List.replicate (xs.length+ys.length) 0) rfl rfl ⟨by simp,by simp,Lim.zeros hW _,by simp,by simp [val_zeros,val]⟩ ?_
 rintro ⟨i,os⟩ ⟨hi,hol,hlim,hz,hval⟩ L hL
 simp only at hi hol hlim hz hval hL⊢
 rw [q122z6]
 have hx':=hx.mono (hd_EX h os)
 simp only [bin_lss,OP_some,IfP_dec]
 refine ⟨fun hlt=>?_,fun hge=>?_⟩
 ·have hil:i<xs.length:=by omega
  obtain ⟨ia,a1,a2⟩:=hx'.get hil
  have hxl:xs[i]<4294967296:=cx.1 _ (List.getElem_mem hil)
  simp only [a1,OP_some,a2,(hy.mono (hd_EX h os)).len]
  have hvt:=val_take_succ 4294967296 xs hil
  generalize xs[i]=x at hxl hvt
  refine loopL (σ:=Nat×Nat×List Nat) (fun p=>[.int .u64 (p.1:Int),I p.2.1]) (fun p=>hd h p.2.2)
   (fun p=>p.2.1≤ys.length∧p.1<4294967296∧p.2.2.length=xs.length+ys.length∧Lim 4294967296 p.2.2∧(∀j (hj:j<p.2.2.length),i+ys.length≤j→p.2.2[j]=0)∧val 4294967296 p.2.2+4294967296^(i+p.2.1)*p.1=val 4294967296 os+4294967296^i*(x*val 4294967296 (ys.take p.2.1))) (fun p=>ys.length-p.2.1)
   (0,0,os) rfl rfl ⟨by simp,hW,hol,hlim,hz,by simp [val]⟩ ?_
  rintro ⟨c,j,ps⟩ ⟨hj,hc,hpl,hplim,hpz,hpval⟩ L2 hL2
  simp only at hj hc hpl hplim hpz hpval hL2⊢
  rw [q122z16]
  have hy':=hy.mono (hd_EX h ps)
  simp only [bin_lss,OP_some,IfP_dec]
  refine ⟨fun hlt2=>?_,fun hge2=>?_⟩
  ·have hjl:j<ys.length:=by omega
   obtain ⟨ib,b1,b2⟩:=hy'.get hjl
   have hyl:ys[j]<4294967296:=cy.1 _ (List.getElem_mem hjl)
   have hyt:=val_take_succ 4294967296 ys hjl
   generalize ys[j]=y at b2 hyl hyt
   have hpk:i+j<ps.length:=by omega
   have hol2:ps[i+j]<4294967296:=hplim _ (List.getElem_mem hpk)
   have hxy:=mul_lt32 hxl hyl
   have hset:=val_set 4294967296 ps (i+j) ((x*y+ps[i+j]+c)%4294967296) hpk
   have ei:IntKind.wrap .i64 ((i:Int)+(j:Int))=((i+j:Nat):Int):=by rw [wrap64 (by omega) (by omega)];omega
   have cst:((x:Int)*(y:Int))=((x*y:Nat):Int):=by simp
   simp only [b1,OP_some,b2,conv_int]
   rw [wrapU64 (n:=(x:Int)) (by omega) (by omega),wrapU64 (n:=(y:Int)) (by omega) (by omega)]
   simp only [bin_mul,OP_some,cst,bin_add,ei]
   rw [wrapU64 (n:=((x*y:Nat):Int)) (by omega) (by omega)]
   rw [adr_sl (show i+j<xs.length+ys.length by omega)]
   simp only [OP_some,hd_load hpk,conv_int]
   rw [wrapU64 (n:=(ps[i+j]:Int)) (by omega) (by omega)]
   have e1:IntKind.wrap .u64 (((x*y:Nat):Int)+(ps[i+j]:Int))=((x*y+ps[i+j]:Nat):Int):=by rw [wrapU64 (by omega) (by omega)];omega
   have e2:IntKind.wrap .u64 (((x*y+ps[i+j]:Nat):Int)+(c:Int))=((x*y+ps[i+j]+c:Nat):Int):=by rw [wrapU64 (by omega) (by omega)];omega
   have e3:IntKind.wrap .u32 ((x*y+ps[i+j]+c:Nat):Int)=(((x*y+ps[i+j]+c)%4294967296:Nat):Int):=by rw [wrapU32e];omega
   simp only [bin_add,OP_some,e1,e2,conv_int,e3,shr32]
   rw [hd_store _ hpk]
   simp only [OH_some,bin_add,OP_some,inc j (by omega),true_and]
   have hmod:(x*y+ps[i+j]+c)%4294967296<4294967296:=Nat.mod_lt _ hW
   have hdm:=Nat.mod_add_div (x*y+ps[i+j]+c) 4294967296
   have hdiv:(x*y+ps[i+j]+c) / 4294967296<4294967296:=by omega
   refine hL2 ((x*y+ps[i+j]+c) / 4294967296,j+1,ps.set (i+j) ((x*y+ps[i+j]+c)%4294967296)) ⟨by show j+1≤ys.length;omega,hdiv,by show (ps.set _ _).length=_;rw [List.length_set];exact hpl,hplim.set hmod _,?_,?_⟩ (by show ys.length-(j+1)<ys.length-j;omega)
   ·intro k hk2 hik
    show (ps.set (i+j) _)[k]=0
    have hne:i+j≠k:=by omega
    rw [List.getElem_set_ne hne]
    exact hpz k (by simpa using hk2) hik
   ·show val 4294967296 (ps.set (i+j) _)+4294967296^(i+(j+1))*_=val 4294967296 os+4294967296^i*(x*val 4294967296 (ys.take (j+1)))
    rw [hyt,←Nat.add_assoc,Nat.pow_succ]
    rw [Nat.pow_add] at hset hpval⊢
    generalize ps[i+j]=o at*
    generalize (x*y+o+c)%4294967296=m at*
    generalize (x*y+o+c) / 4294967296=q at*
    generalize val 4294967296 (ys.take j)=v at*
    generalize val 4294967296 (ps.set (i+j) m)=s1 at*
    generalize val 4294967296 ps=s0 at*
    generalize val 4294967296 os=s2 at*
    generalize 4294967296^i=P at*
    generalize 4294967296^j=Q at*
    generalize (4294967296:Nat)=w at*
    clear hL2 hL hx hy hx' hy' b1 b2
    have h1:P*Q*(m+w*q)=P*Q*(x*y+o+c):=by rw [hdm]
    grind
  ·have:j=ys.length:=by omega
   subst this
   rw [q122z23]
   have ei:IntKind.wrap .i64 ((i:Int)+(ys.length:Int))=((i+ys.length:Nat):Int):=by rw [wrap64 (by omega) (by omega)];omega
   simp only [hy'.len,OP_some,bin_add,ei,conv_int]
   rw [wrapU32 (n:=(c:Int)) (by omega) (by omega),adr_sl (show i+ys.length<xs.length+ys.length by omega)]
   simp only [OP_some]
   have hpk:i+ys.length<ps.length:=by omega
   rw [hd_store _ hpk]
   simp only [OH_some,q122z24,bin_add,OP_some,inc i (by omega),true_and]
   have hset:=val_set 4294967296 ps (i+ys.length) c hpk
   rw [hpz _ hpk (Nat.le_refl _)] at hset
   rw [List.take_length] at hpval
   refine hL (i+1,ps.set (i+ys.length) c) ⟨by show i+1≤xs.length;omega,by show (ps.set _ _).length=_;rw [List.length_set];exact hpl,hplim.set hc _,?_,?_⟩ (by show xs.length-(i+1)<xs.length-i;omega)
   ·intro k hk2 hik
    show (ps.set (i+ys.length) _)[k]=0
    have hik':i+1+ys.length≤k:=hik
    have hne:i+ys.length≠k:=by omega
    rw [List.getElem_set_ne hne]
    exact hpz k (by simpa using hk2) (by omega)
   ·show val 4294967296 (ps.set (i+ys.length) c)=val 4294967296 (xs.take (i+1))*val 4294967296 ys
    rw [hvt,Nat.add_mul,←hval,Nat.mul_assoc,←hpval]
    omega
 ·have:i=xs.length:=by omega
  subst this
  rw [q122z25]
  rw [List.take_length] at hval
  have e:sl 177 h.length 0 (xs.length+ys.length)=sl 177 h.length 0 os.length:=by rw [hol]
  rw [e]
  refine C118 (hd_DS h _) hlim (by omega) ?_
  intro v' hm
  rw [hval] at hm
  exact hk v' _ (hd_EX h _) hm


def IntV (h:Heap) (val:Value) (z:Int):Prop:=∃v,val=.agg #[B (decide (z<0)),v]∧MagV h v z.natAbs

theorem IntV.mono {h h':Heap} {v:Value} {z:Int} (x:EX h h') (p:IntV h v z):IntV h' v z:=let ⟨w,a,b⟩:=p;⟨w,a,b.mono x⟩

theorem MagV.len0 {h:Heap} {v:Value} {n:Nat} (p:MagV h v n):∃l:Nat,iLenSl v=some (I l)∧(0<l↔0<n):=by
 obtain ⟨xs,d,c,rfl⟩:=p
 refine ⟨xs.length,d.len,?_⟩
 constructor
 ·intro h0
  have:=Canon.low (by decide) c (by rintro rfl;simp at h0)
  have:0<4294967296^(xs.length-1):=Nat.pow_pos (by decide)
  omega
 ·intro h0
  cases xs with
  | nil=>simp [val] at h0
  | cons x xs=>simp

theorem MagV.setB {h:Heap} {v:Value} {n j:Nat} {e:TypeId} {b:Bool} {r:List Value} (p:MagV h v n) (hj:h[j]?=some (.arr e (.bool b::r))) (o:IObj):MagV (h.set j o) v n:=by
 obtain ⟨xs,d,c,hv⟩:=p
 refine ⟨xs,?_,c,hv⟩
 rcases d with d | ⟨i,h1,h2⟩
 ·exact .inl d
 ·refine .inr ⟨i,h1,?_⟩
  rcases h2 with h2 | ⟨rest,h2⟩
  ·exact .inl h2
  ·cases xs with
   | nil=>exact .inl rfl
   | cons x xs=>
    right
    refine ⟨rest,?_⟩
    have hne:j≠i:=by
     rintro rfl
     unfold objCells at h2
     rw [hj] at h2
     simp at h2
    unfold objCells at h2⊢
    rw [List.getElem?_set_ne hne]
    exact h2

theorem IntV.setB {h:Heap} {v:Value} {z:Int} {j:Nat} {e:TypeId} {b:Bool} {r:List Value} (p:IntV h v z) (hj:h[j]?=some (.arr e (.bool b::r))) (o:IObj):IntV (h.set j o) v z:=
 let ⟨w,a,q⟩:=p;⟨w,a,q.setB hj o⟩

theorem store2 {h:Heap} {i:Nat} {e:TypeId} {a b x y:Value} (hg:h[i]?=some (.arr e [a,b])):oStore 2 h (pt i 0) (.agg #[x,y])=some (undef,h.set i (.arr e [x,y])):=by
 simp [oStore,iStore,hg,noTuple,vcells,Value.cells,setAt]

theorem load2 {h:Heap} {i:Nat} {e:TypeId} {a b:Value} (hg:h[i]?=some (.arr e [a,b])):iLoad true 2 h (pt i 0)=some (.agg #[a,b]):=by
 simp [iLoad,objCells,hg,iPart]

theorem set_get {h:Heap} {i:Nat} {o o':IObj} (hg:h[i]?=some o'):(h.set i o)[i]?=some o:=by
 rw [List.getElem?_set_self (List.getElem?_eq_some_iff.1 hg).1]

theorem C117 {v:Value} {n:Nat} {b:Bool} {h:Heap} {K:Value→Heap→Prop} (hm:MagV h v n) (hk:∀h',EX h h'→K (.agg #[B (b&&decide (0<n)),v]) h'):CallP Tryz.prog 117 [B b,v] h K:=by
 refine f117 ?_
 have al:iAlloc 105 [(.bool false),(.slice none 0 0)] h=some (pt h.length 0,h++[.arr 105 [(.bool false),(.slice none 0 0)]]):=rfl
 simp only [T117,al,OH_some]
 obtain ⟨l,h1,h2⟩:=hm.len0
 have hg:(h++[IObj.arr 105 [(.bool false),(.slice none 0 0)]])[h.length]?=some (.arr 105 [(.bool false),(.slice none 0 0)]):=get_last
 have hx:EX h (h++[IObj.arr 105 [(.bool false),(.slice none 0 0)]]):=EX.append _ _
 have fin:p117z6 Tryz.prog K v (pt h.length 0) (B b) (B (decide (0<l))) (h++[IObj.arr 105 [(.bool false),(.slice none 0 0)]])∧(b=false→p117z6 Tryz.prog K v (pt h.length 0) (B b) undef (h++[IObj.arr 105 [(.bool false),(.slice none 0 0)]])):=by
  have one:∀c:Bool,c=(b&&decide (0<n))→OP (iBuild [(.bool false),(.slice none 0 0)] [(0,1,B c),(1,1,v)]) fun x12=>OH (oStore 2 (h++[IObj.arr 105 [(.bool false),(.slice none 0 0)]]) (pt h.length 0) x12) fun _ h_1=>OP (iLoad true 2 h_1 (pt h.length 0)) fun r0=>K r0 h_1:=by
   rintro c rfl
   have eb:iBuild [(.bool false),(.slice none 0 0)] [(0,1,B (b&&decide (0<n))),(1,1,v)]=some (.agg #[B (b&&decide (0<n)),v]):=by
    obtain ⟨xs,d,_,_⟩:=hm
    rcases d with ⟨rfl,_⟩ | ⟨i,rfl,_⟩ <;> rfl
   simp only [eb,OP_some]
   rw [store2 hg]
   simp only [OH_some]
   rw [load2 (set_get hg)]
   simp only [OP_some]
   exact hk _ (hx.set (Nat.le_refl _) _)
  constructor
  ·rw [q117z6]
   cases b with
   | true=>simp only [iPick_t,OP_some];exact one _ (by simp [h2])
   | false=>simp only [iPick_f,OP_some];exact one _ (by simp)
  ·rintro rfl
   rw [q117z6]
   simp only [iPick_f,OP_some]
   exact one _ (by simp)
 rw [q117z4]
 have e0:decide ((0:Int)<(l:Int))=decide (0<l):=by
  by_cases h0:0<l
  ·simp [h0]
  ·simp [h0]
 cases b with
 | true=>
  simp only [GdP_tt,h1,OP_some,bin_gtr,e0]
  exact fin.1
 | false=>
  simp only [GdP_ft]
  exact fin.2 rfl

end Go.Proofs.YtelmdbpaoifmoaaGreat


namespace Go.Proofs.YtelmdbpaoifmoaaGreat
open Go.Sim

theorem fin2 {h':Heap} {j:Nat} {b0 v0 b v:Value} {K:Value→Heap→Prop} (hg:h'[j]?=some (.arr 105 [b0,v0])) (hk:K (.agg #[b,v]) (h'.set j (.arr 105 [b,v]))):
  OH (oStore 2 h' (pt j 0) (.agg #[b,v])) fun _ h6=>OP (iLoad true 2 h6 (pt j 0)) fun r0=>K r0 h6:=by
 rw [store2 hg]
 simp only [OH_some]
 rw [load2 (set_get hg)]
 exact OP_some.2 hk

structure Box2 (h:Heap) (va vb:Value) (sa sb:Bool) (h3:Heap):Prop where
 ex:EX h h3
 a0:iLoad false 1 h3 (pt h.length 0)=some (B sa)
 a1:iLoad false 1 h3 (pt h.length 1)=some va
 b0:iLoad false 1 h3 (pt (h.length+1) 0)=some (B sb)
 b1:iLoad false 1 h3 (pt (h.length+1) 1)=some vb
 a2:iLoad true 2 h3 (pt h.length 0)=some (.agg #[B sa,va])
 b2:iLoad true 2 h3 (pt (h.length+1) 0)=some (.agg #[B sb,vb])
 out:h3[h.length+2]?=some (.arr 105 [.bool false,.slice none 0 0])

theorem box2 {h:Heap} {va vb:Value} {sa sb:Bool} {K:Value→Value→Value→Heap→Prop} (hk:∀h3,Box2 h va vb sa sb h3→K (pt h.length 0) (pt (h.length+1) 0) (pt (h.length+2) 0) h3):
  OH (iBox 105 h (.agg #[B sa,va])) fun a2 h_1=>OH (iBox 105 h_1 (.agg #[B sb,vb])) fun b3 h_2=>OH (iAlloc 105 [(.bool false),(.slice none 0 0)] h_2) fun x4 h_3=>K a2 b3 x4 h_3:=by
 have e1:∀(g:Heap) (s:Bool) (v:Value),iBox 105 g (.agg #[B s,v])=some (pt g.length 0,g++[.arr 105 [B s,v]]):=fun _ _ _=>rfl
 have e2:∀(g:Heap),iAlloc 105 [(.bool false),(.slice none 0 0)] g=some (pt g.length 0,g++[.arr 105 [(.bool false),(.slice none 0 0)]]):=fun _=>rfl
 simp only [e1,e2,OH_some,List.length_append,List.length_cons,List.length_nil]
 have g0:(h++[IObj.arr 105 [B sa,va]]++[IObj.arr 105 [B sb,vb]]++[IObj.arr 105 [(.bool false),(.slice none 0 0)]])[h.length]?=some (.arr 105 [B sa,va]):=by simp
 have g1:(h++[IObj.arr 105 [B sa,va]]++[IObj.arr 105 [B sb,vb]]++[IObj.arr 105 [(.bool false),(.slice none 0 0)]])[h.length+1]?=some (.arr 105 [B sb,vb]):=by simp
 have g2:(h++[IObj.arr 105 [B sa,va]]++[IObj.arr 105 [B sb,vb]]++[IObj.arr 105 [(.bool false),(.slice none 0 0)]])[h.length+2]?=some (.arr 105 [(.bool false),(.slice none 0 0)]):=by simp
 refine hk _ ⟨((EX.append _ _).push _).push _,?_,?_,?_,?_,load2 g0,load2 g1,g2⟩
 ·simp [iLoad,objCells,iPart]
 ·simp [iLoad,objCells,iPart]
 ·simp [iLoad,objCells,iPart]
 ·simp [iLoad,objCells,iPart]

theorem C105 {n:Int} {h:Heap} {K:Value→Heap→Prop} (h1: -9223372036854775808≤n) (h2:n<9223372036854775808) (hk:∀r h',EX h h'→IntV h' r n→K r h'):CallP Tryz.prog 105 [I n] h K:=by
 refine f105 ?_
 have e2:iAlloc 105 [(.bool false),(.slice none 0 0)] h=some (pt h.length 0,h++[.arr 105 [(.bool false),(.slice none 0 0)]]):=rfl
 simp only [T105,e2,OH_some]
 have x1:EX h (h++[IObj.arr 105 [(.bool false),(.slice none 0 0)]]):=EX.append _ _
 have g1:(h++[IObj.arr 105 [(.bool false),(.slice none 0 0)]])[h.length]?=some (.arr 105 [(.bool false),(.slice none 0 0)]):=get_last
 generalize h++[IObj.arr 105 [(.bool false),(.slice none 0 0)]]=hA at x1 g1⊢
 have go:∀u:Nat,u=n.natAbs→p105z5 Tryz.prog K (I n) (pt h.length 0) (.int .u64 (u:Int)) hA:=by
  intro u hu
  rw [q105z5]
  have ew:IntKind.wrap .u32 (u:Int)=((u%4294967296:Nat):Int):=by rw [wrapU32e];omega
  simp only [bin_lss,OP_some,conv_int,shr32,ew]
  rw [wrapU32 (n:=((u / 4294967296:Nat):Int)) (by omega) (by omega)]
  have mk:iMkSl 177 2 [.int .u32 0] hA [(0,1,.int .u32 ((u%4294967296:Nat):Int)),(1,1,.int .u32 ((u / 4294967296:Nat):Int))]=some (sl 177 hA.length 0 2,hd hA [u%4294967296,u / 4294967296]):=rfl
  simp only [mk,OH_some]
  have hl:Lim 4294967296 [u%4294967296,u / 4294967296]:=by
   intro x hx
   simp at hx
   rcases hx with rfl | rfl <;> omega
  refine C118 (hd_DS hA [u%4294967296,u / 4294967296]) hl (by simp) ?_
  intro v hv
  have hval:val 4294967296 [u%4294967296,u / 4294967296]=n.natAbs:=by simp [val];omega
  rw [hval] at hv
  refine C117 hv ?_
  intro h' x'
  have xx:=(hd_EX hA [u%4294967296,u / 4294967296]).trans x'
  have g':=xx.get g1
  refine fin2 g' (hk _ _ ((x1.trans xx).set (Nat.le_refl _) _) ⟨v,?_,(hv.mono x').setB g' _⟩)
  have:(decide (n<0)&&decide (0<n.natAbs))=decide (n<0):=by
   by_cases hn:n<0
   ·simp [hn];omega
   ·simp [hn]
  rw [this]
 simp only [conv_int,OP_some,bin_lss,IfP_dec]
 refine ⟨fun hn=>?_,fun hn=>?_⟩
 ·have e3:iUn .neg (.int .u64 (IntKind.wrap .u64 n))=some (.int .u64 ((n.natAbs:Nat):Int)):=by
   have e:∀m:Int,IntKind.wrap .u64 m=m%18446744073709551616:=fun m=>by simp [IntKind.wrap,IntKind.bits,IntKind.signed]
   simp only [iUn]
   rw [e,e]
   congr 2
   omega
  simp only [e3,OP_some]
  exact go _ rfl
 ·have:IntKind.wrap .u64 n=((n.natAbs:Nat):Int):=by rw [wrapU64 (by omega) (by omega)];omega
  rw [this]
  exact go _ rfl

theorem C119 {va:Value} {a:Int} {h:Heap} {K:Value→Heap→Prop} (ha:IntV h va a) (hk:∀r h',EX h h'→IntV h' r (-a)→K r h'):CallP Tryz.prog 119 [va] h K:=by
 obtain ⟨v,rfl,hv⟩:=ha
 refine f119 ?_
 have e1:iBox 105 h (.agg #[B (decide (a<0)),v])=some (pt h.length 0,h++[.arr 105 [B (decide (a<0)),v]]):=rfl
 simp only [T119,e1,OH_some]
 have l0:iLoad false 1 (h++[.arr 105 [B (decide (a<0)),v]]) (pt h.length 0)=some (B (decide (a<0))):=load_last rfl
 have l1:iLoad false 1 (h++[.arr 105 [B (decide (a<0)),v]]) (pt h.length 1)=some v:=load_last rfl
 have x1:EX h (h++[.arr 105 [B (decide (a<0)),v]]):=EX.append _ _
 generalize h++[IObj.arr 105 [B (decide (a<0)),v]]=h1 at l0 l1 x1⊢
 have e2:iAlloc 105 [(.bool false),(.slice none 0 0)] h1=some (pt h1.length 0,h1++[.arr 105 [(.bool false),(.slice none 0 0)]]):=rfl
 have x2:EX h1 (h1++[IObj.arr 105 [(.bool false),(.slice none 0 0)]]):=EX.append _ _
 have g1:(h1++[IObj.arr 105 [(.bool false),(.slice none 0 0)]])[h1.length]?=some (.arr 105 [(.bool false),(.slice none 0 0)]):=get_last
 simp only [e2,OH_some]
 generalize h1++[IObj.arr 105 [(.bool false),(.slice none 0 0)]]=h2 at x2 g1⊢
 simp only [fadr_pt,Nat.add_zero,Nat.zero_add,OP_some,EX.load x2 l0,EX.load x2 l1,un_not]
 have hv2:=hv.mono (x1.trans x2)
 refine C117 hv2 ?_
 intro h' x'
 have g':=x'.get g1
 refine fin2 g' (hk _ _ (((x1.trans x2).trans x').set x1.1 _) ⟨v,?_,?_⟩)
 ·have:(!decide (a<0)&&decide (0<a.natAbs))=decide (-a<0):=by
   by_cases h0:a<0
   ·rw [decide_eq_true h0,decide_eq_false (show ¬-a<0 by omega)];rfl
   ·by_cases h3:a=0
    ·subst h3;rfl
    ·rw [decide_eq_false h0,decide_eq_true (show 0<a.natAbs by omega),decide_eq_true (show -a<0 by omega)];rfl
  rw [this]
 ·have:(-a).natAbs=a.natAbs:=by omega
  rw [this]
  exact (hv2.mono x').setB g' _

theorem C113 {va vb:Value} {a b:Int} {h:Heap} {K:Value→Heap→Prop} (ha:IntV h va a) (hb:IntV h vb b) (la:a.natAbs<bigW) (lb:b.natAbs<bigW) (hk:∀r h',EX h h'→IntV h' r (a+b)→K r h'):CallP Tryz.prog 113 [va,vb] h K:=by
 obtain ⟨v,rfl,hv⟩:=ha
 obtain ⟨w,rfl,hw⟩:=hb
 refine f113 ?_
 unfold T113
 refine box2 ?_
 intro h3 x
 have hv3:=hv.mono x.ex
 have hw3:=hw.mono x.ex
 simp only [fadr_pt,Nat.add_zero,Nat.zero_add,OP_some,x.a0,x.a1,x.b0,x.b1,eqb_bool,Bool.false_eq_true,if_false]
 refine IfP_of (fun he=>?_) fun hne=>?_
 ·have hs:decide (a<0)=decide (b<0):=by simpa using he
  have hs':(a<0↔b<0):=by simpa using hs
  simp only [true_and]
  refine C128 hv3 hw3 la lb ?_
  intro u h4 x4 hu
  refine ⟨⟨EX.load x4 x.a0,trivial⟩,?_⟩
  refine C117 hu ?_
  intro h5 x5
  have g':=(x4.trans x5).get x.out
  refine fin2 g' (hk _ _ (((x.ex.trans x4).trans x5).set (by omega) _) ⟨u,?_,?_⟩)
  ·have:(decide (a<0)&&decide (0<a.natAbs+b.natAbs))=decide (a+b<0):=by
    by_cases h0:a<0
    ·rw [decide_eq_true h0,decide_eq_true (show 0<a.natAbs+b.natAbs by omega),decide_eq_true (show a+b<0 by omega)];rfl
    ·rw [decide_eq_false h0,decide_eq_false (show ¬a+b<0 by omega)];rfl
   rw [this]
  ·have:(a+b).natAbs=a.natAbs+b.natAbs:=by omega
   rw [this]
   exact (hu.mono x5).setB g' _
 ·have hs:decide (a<0)≠decide (b<0):=by simpa using hne
  have hs':¬(a<0↔b<0):=fun h=>hs (decide_eq_decide.2 h)
  refine C126 hv3 hw3 la lb ?_
  simp only [bin_geq,OP_some,IfP_dec]
  refine ⟨fun hge=>?_,fun hlt=>?_⟩
  ·have hle:b.natAbs≤a.natAbs:=by
    apply Classical.byContradiction
    intro hc
    unfold sgn at hge
    rw [if_pos (by omega)] at hge
    omega
   simp only [x.a0,x.a1,x.b1,OP_some,true_and]
   refine C129 hv3 hw3 la hle ?_
   intro u h4 x4 hu
   refine ⟨⟨EX.load x4 x.a0,trivial⟩,?_⟩
   refine C117 hu ?_
   intro h5 x5
   have g':=(x4.trans x5).get x.out
   refine fin2 g' (hk _ _ (((x.ex.trans x4).trans x5).set (by omega) _) ⟨u,?_,?_⟩)
   ·have:(decide (a<0)&&decide (0<a.natAbs-b.natAbs))=decide (a+b<0):=by
     by_cases h0:a<0
     ·by_cases h6:0<a.natAbs-b.natAbs
      ·rw [decide_eq_true h0,decide_eq_true h6,decide_eq_true (show a+b<0 by omega)];rfl
      ·rw [decide_eq_true h0,decide_eq_false h6,decide_eq_false (show ¬a+b<0 by omega)];rfl
     ·rw [decide_eq_false h0,decide_eq_false (show ¬a+b<0 by omega)];rfl
    rw [this]
   ·have:(a+b).natAbs=a.natAbs-b.natAbs:=by omega
    rw [this]
    exact (hu.mono x5).setB g' _
  ·have hle:a.natAbs≤b.natAbs:=by
    apply Classical.byContradiction
    intro hc
    unfold sgn at hlt
    rw [if_neg (by omega),if_pos (by omega)] at hlt
    omega
   simp only [x.b0,x.a1,x.b1,OP_some,true_and]
   refine C129 hw3 hv3 lb hle ?_
   intro u h4 x4 hu
   refine ⟨⟨EX.load x4 x.b0,trivial⟩,?_⟩
   refine C117 hu ?_
   intro h5 x5
   have g':=(x4.trans x5).get x.out
   refine fin2 g' (hk _ _ (((x.ex.trans x4).trans x5).set (by omega) _) ⟨u,?_,?_⟩)
   ·have:(decide (b<0)&&decide (0<b.natAbs-a.natAbs))=decide (a+b<0):=by
     by_cases h0:b<0
     ·by_cases h6:0<b.natAbs-a.natAbs
      ·rw [decide_eq_true h0,decide_eq_true h6,decide_eq_true (show a+b<0 by omega)];rfl
      ·rw [decide_eq_true h0,decide_eq_false h6,decide_eq_false (show ¬a+b<0 by omega)];rfl
     ·rw [decide_eq_false h0,decide_eq_false (show ¬a+b<0 by omega)];rfl
    rw [this]
   ·have:(a+b).natAbs=b.natAbs-a.natAbs:=by omega
    rw [this]
    exact (hu.mono x5).setB g' _

theorem C127 {va vb:Value} {a b:Int} {h:Heap} {K:Value→Heap→Prop} (ha:IntV h va a) (hb:IntV h vb b) (la:a.natAbs<bigW) (lb:b.natAbs<bigW) (hk:∀r h',EX h h'→IntV h' r (a-b)→K r h'):CallP Tryz.prog 127 [va,vb] h K:=by
 have ha0:=ha
 have hb0:=hb
 obtain ⟨v,rfl,hv⟩:=ha
 obtain ⟨w,rfl,hw⟩:=hb
 refine f127 ?_
 unfold T127
 refine box2 ?_
 intro h3 x
 simp only [OP_some,x.a2,x.b2,true_and]
 refine C119 (hb0.mono x.ex) ?_
 intro r1 h4 x4 i1
 refine ⟨⟨EX.load x4 x.a2,trivial⟩,?_⟩
 refine C113 (ha0.mono (x.ex.trans x4)) i1 la (by rw [Int.natAbs_neg];exact lb) ?_
 intro r2 h5 x5 i2
 have g':=(x4.trans x5).get x.out
 obtain ⟨u,rfl,hu⟩:=id i2
 refine fin2 g' (hk _ _ (((x.ex.trans x4).trans x5).set (by omega) _) ?_)
 rw [Int.sub_eq_add_neg]
 exact i2.setB g' _

theorem C107 {va vb:Value} {a b:Int} {h:Heap} {K:Value→Heap→Prop} (ha:IntV h va a) (hb:IntV h vb b) (la:a.natAbs<bigW) (lb:b.natAbs<bigW) (hk:∀r h',EX h h'→IntV h' r (a*b)→K r h'):CallP Tryz.prog 107 [va,vb] h K:=by
 obtain ⟨v,rfl,hv⟩:=ha
 obtain ⟨w,rfl,hw⟩:=hb
 refine f107 ?_
 unfold T107
 refine box2 ?_
 intro h3 x
 have hv3:=hv.mono x.ex
 have hw3:=hw.mono x.ex
 simp only [fadr_pt,Nat.add_zero,Nat.zero_add,OP_some,x.a0,x.a1,x.b0,x.b1,eqb_bool,if_true,true_and]
 refine C122 hv3 hw3 la lb ?_
 intro u h4 x4 hu
 refine ⟨⟨EX.load x4 x.a0,EX.load x4 x.b0,trivial⟩,?_⟩
 refine C117 hu ?_
 intro h5 x5
 have g':=(x4.trans x5).get x.out
 refine fin2 g' (hk _ _ (((x.ex.trans x4).trans x5).set (by omega) _) ⟨u,?_,?_⟩)
 ·have:((!(decide (a<0)==decide (b<0)))&&decide (0<a.natAbs*b.natAbs))=decide (a*b<0):=by
   rcases Int.lt_trichotomy a 0 with h1 | h1 | h1
   ·rcases Int.lt_trichotomy b 0 with h2 | h2 | h2
    ·have:=Int.mul_pos_of_neg_of_neg h1 h2
     rw [decide_eq_true h1,decide_eq_true h2,decide_eq_false (show ¬a*b<0 by omega)];rfl
    ·subst h2;simp
    ·have:=Int.mul_neg_of_neg_of_pos h1 h2
     have h3:0<a.natAbs*b.natAbs:=Nat.mul_pos (by omega) (by omega)
     rw [decide_eq_true h1,decide_eq_false (show ¬b<0 by omega),decide_eq_true h3,decide_eq_true this];rfl
   ·subst h1;simp
   ·rcases Int.lt_trichotomy b 0 with h2 | h2 | h2
    ·have:=Int.mul_neg_of_pos_of_neg h1 h2
     have h3:0<a.natAbs*b.natAbs:=Nat.mul_pos (by omega) (by omega)
     rw [decide_eq_false (show ¬a<0 by omega),decide_eq_true h2,decide_eq_true h3,decide_eq_true this];rfl
    ·subst h2;simp
    ·have:=Int.mul_pos h1 h2
     rw [decide_eq_false (show ¬a<0 by omega),decide_eq_false (show ¬b<0 by omega),decide_eq_false (show ¬a*b<0 by omega)];rfl
  rw [this]
 ·rw [Int.natAbs_mul]
  exact (hu.mono x5).setB g' _

end Go.Proofs.YtelmdbpaoifmoaaGreat


namespace Go.Proofs.YtelmdbpaoifmoaaGreat
open Go.Sim

theorem shl32 {r:Nat} (hr:r<4294967296):iBin .shl (.int .u64 (r:Int)) (.int .u64 32)=some (.int .u64 ((r*4294967296:Nat):Int)):=by
 simp only [iBin,iShift]
 rw [if_neg (by omega)]
 have:(min (32:Int).toNat IntKind.u64.bits)=32:=rfl
 rw [this]
 have e2:(2:Int)^32=4294967296:=by decide
 rw [e2,wrapU64 (by omega) (by omega)]
 congr 2

theorem or64 {r x:Nat} (hr:r<4294967296) (hx:x<4294967296):iBin .or (.int .u64 ((r*4294967296:Nat):Int)) (.int .u64 (x:Int))=some (.int .u64 ((r*4294967296+x:Nat):Int)):=by
 have e:(BitVec.ofInt IntKind.u64.bits ((r*4294967296:Nat):Int) ||| BitVec.ofInt IntKind.u64.bits (x:Int)).toNat=r*4294967296+x:=by
  show (BitVec.ofInt 64 ((r*4294967296:Nat):Int) ||| BitVec.ofInt 64 (x:Int)).toNat=_
  rw [BitVec.ofInt_natCast,BitVec.ofInt_natCast,BitVec.toNat_or,BitVec.toNat_ofNat,BitVec.toNat_ofNat,Nat.mod_eq_of_lt (by omega),Nat.mod_eq_of_lt (by omega)]
  have:=Nat.two_pow_add_eq_or_of_lt (i:=32) (b:=x) (by omega) r
  rw [Nat.mul_comm r]
  exact this.symm
 simp only [iBin,iInt,if_true]
 rw [e,wrapU64 (by omega) (by omega)]

theorem quo64 {a b:Nat} (hb:b≠0) (ha:a<18446744073709551616):iBin .quo (.int .u64 (a:Int)) (.int .u64 (b:Int))=some (.int .u64 ((a / b:Nat):Int)):=by
 have h:¬((b:Int)=0):=by omega
 have h2:a / b≤a:=Nat.div_le_self _ _
 simp only [iBin,iInt,if_true,if_neg h]
 have e:(a:Int).tdiv (b:Int)=((a / b:Nat):Int):=rfl
 rw [e]
 generalize a / b=q at*
 rw [wrapU64 (by omega) (by omega)]

theorem C114 {va:Value} {a w:Nat} {h:Heap} {K:Value→Heap→Prop} (ha:MagV h va a) (la:a<bigW) (w0:0<w) (wW:w<4294967296) (hk:∀v h',EX h h'→MagV h' v (a / w)→K (.tuple #[v,.int .u32 ((a%w:Nat):Int)]) h'):
  CallP Tryz.prog 114 [va,.int .u32 (w:Int)] h K:=by
 obtain ⟨xs,hx,cx,rfl⟩:=ha
 have l1:=canW_len cx la
 have hW:(0:Nat)<4294967296:=by decide
 refine f114 ?_
 have e1:IntKind.wrap .i64 ((xs.length:Int)-1)=(xs.length:Int)-1:=by rw [wrap64 (by omega) (by omega)]
 simp only [T114,hx.len,OP_some,make_hd (show xs.length≤1000 by omega),OH_some,bin_sub,e1]
 refine loopL (σ:=Nat×Nat×List Nat) (fun p=>[.int .u64 (p.1:Int),I ((p.2.1:Int)-1)]) (fun p=>hd h p.2.2)
  (fun p=>p.2.1≤xs.length∧p.1<w∧p.2.2.length=xs.length∧Lim 4294967296 p.2.2∧val 4294967296 (xs.drop p.2.1)=w*val 4294967296 (p.2.2.drop p.2.1)+p.1) (fun p=>p.2.1)
  (0,xs.length,List.replicate xs.length 0) rfl rfl ⟨Nat.le_refl _,w0,by simp,Lim.zeros hW _,by simp [val]⟩ ?_
 rintro ⟨r,i,os⟩ ⟨hi,hr,hol,hlim,hval⟩ L hL
 simp only at hi hr hol hlim hval hL⊢
 rw [q114z7]
 have hx':=hx.mono (hd_EX h os)
 simp only [bin_geq,OP_some,IfP_dec]
 refine ⟨fun hge=>?_,fun hlt=>?_⟩
 ·obtain ⟨j,rfl⟩:∃j,i=j+1:=⟨i-1,by omega⟩
  have ej:(((j+1:Nat):Int)-1)=(j:Int):=by omega
  rw [ej]
  obtain ⟨ia,a1,a2⟩:=hx'.get (j:=j) (by omega)
  have hxl:xs[j]'(by omega)<4294967296:=cx.1 _ (List.getElem_mem _)
  have hdx:xs.drop j=xs[j]'(by omega)::xs.drop (j+1):=List.drop_eq_getElem_cons (by omega)
  generalize xs[j]'(by omega)=x at a2 hxl hdx
  simp only [shl32 (show r<4294967296 by omega),OP_some,a1,a2,conv_int]
  rw [wrapU64 (n:=(x:Int)) (by omega) (by omega)]
  simp only [or64 (show r<4294967296 by omega) hxl,OP_some,conv_int]
  rw [wrapU64 (n:=(w:Int)) (by omega) (by omega)]
  have ht:r*4294967296+x<w*4294967296:=by omega
  have hq:(r*4294967296+x) / w<4294967296:=(Nat.div_lt_iff_lt_mul w0).2 (by omega)
  have hm:=Nat.mod_lt (r*4294967296+x) w0
  have hdm:=Nat.div_add_mod (r*4294967296+x) w
  rw [quo64 (by omega) (by omega),rem_nat _ _ _ (by omega)]
  generalize (r*4294967296+x) / w=q at*
  generalize (r*4294967296+x)%w=m at*
  simp only [OP_some,conv_int]
  rw [wrapU32 (n:=(q:Int)) (by omega) (by omega),adr_sl (show j<xs.length by omega)]
  simp only [OP_some]
  rw [hd_store _ (by omega)]
  simp only [OH_some,bin_sub,OP_some,true_and]
  rw [wrap64 (n:=(j:Int)-1) (by omega) (by omega)]
  refine hL (m,j,os.set j q) ⟨by show j≤xs.length;omega,hm,by show (os.set _ _).length=_;rw [List.length_set];exact hol,hlim.set hq _,?_⟩ (by show j<j+1;omega)
  show val 4294967296 (xs.drop j)=w*val 4294967296 ((os.set j q).drop j)+m
  have hdo:(os.set j q).drop j=q::os.drop (j+1):=by
   rw [List.drop_eq_getElem_cons (by rw [List.length_set];omega),List.getElem_set_self,List.drop_set_of_lt (by omega)]
  rw [hdx,hdo]
  simp only [val]
  rw [hval]
  generalize val 4294967296 (os.drop (j+1))=Q at*
  generalize (4294967296:Nat)=W at*
  clear hL hx hx' a1 a2 hval
  grind
 ·have:i=0:=by omega
  subst this
  rw [List.drop_zero,List.drop_zero] at hval
  rw [q114z13]
  have e:sl 177 h.length 0 xs.length=sl 177 h.length 0 os.length:=by rw [hol]
  rw [e]
  refine C118 (hd_DS h _) hlim (by omega) ?_
  intro v' hm
  simp only [conv_int,OP_some]
  rw [wrapU32 (n:=(r:Int)) (by omega) (by omega)]
  have h1:val 4294967296 xs / w=val 4294967296 os:=by
   rw [hval,Nat.mul_add_div w0,Nat.div_eq_of_lt hr,Nat.add_zero]
  have h2:val 4294967296 xs%w=r:=by
   rw [hval,Nat.mul_add_mod,Nat.mod_eq_of_lt hr]
  have:=hk v' _ (hd_EX h os) (by rw [h1];exact hm)
  rw [h2] at this
  exact this

theorem C115 {h:Heap} {id:Nat} {xs:List UInt8} {K:Value→Heap→Prop} (hget:h[id]?=some (.arr 5 (xs.map cv))) (hn:xs.length≤100000) (hk:K (.tuple #[]) (hb h id xs.reverse)):CallP Tryz.prog 115 [sl 5 id 0 xs.length] h K:=by
 have hid:=(List.getElem?_eq_some_iff.1 hget).1
 have e0:h=hb h id xs:=by
  apply List.ext_getElem?
  intro j
  by_cases hj:id=j
  ·subst hj;rw [hb_get hid,hget]
  ·rw [List.getElem?_set_ne hj]
 refine f115 ?_
 have e1:iLenSl (sl 5 id 0 xs.length)=some (I xs.length):=rfl
 have e2:IntKind.wrap .i64 ((xs.length:Int)-1)=(xs.length:Int)-1:=by rw [wrap64 (by omega) (by omega)]
 simp only [T115,e1,OP_some,bin_sub,e2]
 refine loopL (σ:=Nat×List UInt8) (fun p=>[I p.1,I ((xs.length:Int)-1-p.1)]) (fun p=>hb h id p.2) (fun p=>p.1≤xs.length∧p.2.length=xs.length∧∀k (hk:k<p.2.length) (hk2:k<xs.length),p.2[k]=if k<p.1∨xs.length-p.1≤k then xs[xs.length-1-k]'(by omega) else xs[k]) (fun p=>xs.length-p.1)
  (0,xs) (by simp) e0.symm ⟨by simp,rfl,fun k h1 h2=>by simp;intro h3;omega⟩ ?_
 rintro ⟨i,ys⟩ ⟨hi,hl,hy⟩ L hL
 simp only at hi hl hy hL⊢
 rw [q115z3]
 simp only [bin_lss,OP_some,IfP_dec]
 refine ⟨fun hlt=>?_,fun hge=>?_⟩
 ·obtain ⟨j,hj⟩:∃j:Nat,(xs.length:Int)-1-i=j:=⟨xs.length-1-i,by omega⟩
  rw [hj]
  have hjn:j=xs.length-1-i:=by omega
  have a1:=adr_sl (id:=id) (e:=5) (n:=xs.length) (j:=j) (by omega)
  have a2:=adr_sl (id:=id) (e:=5) (n:=xs.length) (j:=i) (by omega)
  have g1:ys[j]?=some (ys[j]'(by omega)):=List.getElem?_eq_getElem (by omega)
  have g2:ys[i]?=some (ys[i]'(by omega)):=List.getElem?_eq_getElem (by omega)
  simp only [a1,a2,OP_some,hb_load hid g1,hb_load hid g2,true_and]
  rw [hb_store hid _ (by omega)]
  simp only [OH_some]
  rw [hb_store hid _ (by rw [List.length_set];omega)]
  simp only [OH_some,bin_add,bin_sub,OP_some,inc i (by omega),true_and]
  have ej:IntKind.wrap .i64 ((j:Int)-1)=(xs.length:Int)-1-((i+1:Nat):Int):=by rw [wrap64 (by omega) (by omega)];omega
  rw [ej]
  refine hL (i+1,(ys.set i (ys[j]'(by omega))).set j (ys[i]'(by omega))) ⟨by show i+1≤xs.length;omega,by simp [hl],?_⟩ (by show xs.length-(i+1)<xs.length-i;omega)
  intro k hk1 hk2
  show ((ys.set i (ys[j]'(by omega))).set j (ys[i]'(by omega)))[k]=if k<i+1∨xs.length-(i+1)≤k then xs[xs.length-1-k]'(by omega) else xs[k]
  have hyi:=hy i (by omega) (by omega)
  have hyj:=hy j (by omega) (by omega)
  rw [if_neg (by omega)] at hyi hyj
  by_cases hkj:j=k
  ·subst hkj
   rw [List.getElem_set_self,if_pos (by omega),hyi]
   congr 1;omega
  ·rw [List.getElem_set_ne hkj]
   by_cases hki:i=k
   ·subst hki
    rw [List.getElem_set_self,if_pos (by omega),hyj]
    congr 1
   ·rw [List.getElem_set_ne hki,hy k (by omega) hk2]
    by_cases hc:k<i∨xs.length-i≤k
    ·rw [if_pos hc,if_pos (by omega)]
    ·rw [if_neg hc,if_neg (by omega)]
 ·have:ys=xs.reverse:=by
   apply List.ext_getElem (by simp [hl])
   intro k h1 h2
   rw [hy k h1 (by omega),List.getElem_reverse]
   split
   ·rfl
   ·congr 1;omega
  rw [this]
  exact hk


def dig10 (n:Nat):List Nat:=if h:n=0 then [] else n%10::dig10 (n / 10)
termination_by n
decreasing_by omega

theorem dig10_canon (n:Nat):Canon 10 (dig10 n)∧val 10 (dig10 n)=n:=by
 induction n using Nat.strongRecOn with
 | ind n ih=>
  rw [dig10]
  by_cases h:n=0
  ·subst h;exact ⟨Canon.nil 10,rfl⟩
  ·rw [dif_neg h]
   obtain ⟨h1,h2⟩:=ih (n / 10) (by omega)
   refine ⟨⟨?_,?_⟩,?_⟩
   ·intro x hx
    rcases List.mem_cons.1 hx with rfl | hx
    ·omega
    ·exact h1.1 x hx
   ·cases hd:dig10 (n / 10) with
    | nil=>
     rw [hd] at h2
     simp [val] at h2
     simp
     omega
    | cons y ys=>
     rw [List.getLast?_cons_cons,←hd]
     exact h1.2
   ·simp only [val,h2];omega

def dch (d:Nat):UInt8:=UInt8.ofNat (48+d)
theorem dch_toNat {d:Nat} (h:d<10):(dch d).toNat=48+d:=by simp [dch,UInt8.toNat_ofNat'];omega

def decS (n:Nat):List UInt8:=if n=0 then [48] else ((dig10 n).map dch).reverse

def k1000:Nat:=1000
theorem bigW_10:bigW≤10^k1000:=by decide+kernel

end Go.Proofs.YtelmdbpaoifmoaaGreat


namespace Go.Proofs.YtelmdbpaoifmoaaGreat
open Go.Sim

theorem cvd {d:Nat} (h:d<10):(.int .u8 ((48+d:Nat):Int):Value)=cv (dch d):=by rw [cv,dch_toNat h]

theorem pow10_pos (k:Nat):0<10^k:=Nat.pow_pos (by decide)

theorem len_of_pow {b n m:Nat} (hm:0<m) (h:10^b*m≤n) (hn:n<bigW):b<1000:=by
 have h1:10^b≤10^b*m:=Nat.le_mul_of_pos_right _ hm
 show b<k1000
 have h2:10^b<10^k1000:=Nat.lt_of_le_of_lt (Nat.le_trans h1 h) (Nat.lt_of_lt_of_le hn bigW_10)
 exact (Nat.pow_lt_pow_iff_right (by decide)).1 h2

theorem app1M {h0 hx:Heap} {v z:Value} {x:UInt8} {bs:List UInt8} {K:Value→Heap→Prop} (o:OwnS h0.length hx 5 v (bs.map cv)) (hex:EX h0 hx) (hl:bs.length≤100000)
  (hk:∀v' hx',EX h0 hx'→OwnS h0.length hx' 5 v' ((bs++[x]).map cv)→(∀q n,MagV hx q n→MagV hx' q n)→K v' hx'):
  OH (iMkSl 5 1 [z] hx [(0,1,cv x)]) fun a h2=>OH (iApp 5 1 1 h2 v a) K:=by
 refine app1p o (by simp;omega) (by simp [maxLen];omega) rfl rfl ?_
 intro hA hx' _ hlen hkeep hnew
 simp only [OH_some]
 refine hk _ _ ⟨by have:=hex.1;omega,fun j hj=>?_⟩ (.inr ⟨hx.length+1,by have:=hex.1;omega,by simp,by simpa using hnew⟩) ?_
 ·rw [hkeep j (by have:=hex.1;omega) fun n hv=>?_]
  ·exact hex.2 j hj
  ·have:=(o.lt hv).1;omega
 ·rintro q n ⟨xs,d,c,hv⟩
  refine ⟨xs,?_,c,hv⟩
  rcases d with d | ⟨i,h1,h2⟩
  ·exact .inl d
  ·refine .inr ⟨i,h1,?_⟩
   rcases h2 with h2 | ⟨r,h2⟩
   ·exact .inl h2
   ·cases xs with
    | nil=>exact .inl rfl
    | cons y ys=>
     right
     refine ⟨r,?_⟩
     have hil:i<hx.length:=by
      apply Classical.byContradiction
      intro hc
      unfold objCells at h2
      rw [List.getElem?_eq_none (by omega)] at h2
      simp at h2
     unfold objCells at h2⊢
     rw [hkeep i hil fun n hvv=>?_]
     ·exact h2
     ·have hg:=(o.lt hvv).2.2
      rw [hg] at h2
      cases bs with
      | nil=>simp at h2
      | cons b bs=>simp [cv] at h2

theorem C89 {va:Value} {n:Nat} {h:Heap} {K:Value→Heap→Prop} (ha:MagV h va n) (la:n<bigW) (hk:∀h',EX h h'→K (S (decS n)) h'):CallP Tryz.prog 89 [va] h K:=by
 refine f89 ?_
 obtain ⟨l0,e0,e1⟩:=ha.len0
 simp only [T89,e0,OP_some,bin_eql,IfP_dec]
 refine ⟨fun hz=>?_,fun hnz=>?_⟩
 ·have:n=0:=by omega
  subst this
  exact hk h (EX.refl h)
 ·have hn0:0<n:=by omega
  refine loopL (σ:=Value×Nat×Value×List Nat×Heap) (fun p=>[p.1,p.2.2.1]) (fun p=>p.2.2.2.2)
   (fun p=>EX h p.2.2.2.2∧MagV p.2.2.2.2 p.1 p.2.1∧OwnS h.length p.2.2.2.2 5 p.2.2.1 ((p.2.2.2.1.map dch).map cv)∧Lim 10 p.2.2.2.1∧val 10 p.2.2.2.1+10^p.2.2.2.1.length*p.2.1=n∧(p.2.1=0→Canon 10 p.2.2.2.1)) (fun p=>p.2.1)
   (va,n,.slice none 0 0,[],h) rfl rfl ⟨EX.refl h,ha,.inl ⟨rfl,rfl⟩,fun x hx=>by simp at hx,by simp [val],fun h0=>by have h0:n=0:=h0;omega⟩ ?_
  rintro ⟨v,m,bv,b,hx⟩ ⟨hex,hm,hown,hlim,hval,hcan⟩ L hL
  simp only at hex hm hown hlim hval hcan hL⊢
  rw [q89z8]
  obtain ⟨l,f0,f1⟩:=hm.len0
  simp only [f0,OP_some,bin_gtr,IfP_dec]
  refine ⟨fun hlt=>?_,fun hge=>?_⟩
  ·have hm0:0<m:=by omega
   have hmb:m<bigW:=by
    refine Nat.lt_of_le_of_lt ?_ la
    have:m≤10^b.length*m:=Nat.le_mul_of_pos_left _ (pow10_pos _)
    omega
   have hbl:=len_of_pow (b:=b.length) hm0 (by omega) la
   refine C114 hm hmb (w:=1000000000) (by decide) (by decide) ?_
   intro q h1 x1 hq
   simp only [ext_tuple,pair0,pair1,OP_some]
   have hown1:OwnS h.length h1 5 bv ((b.map dch).map cv):=hown.keep fun d k hv hd=>by
    have:=(hown.lt hv).2.1
    exact x1.2 d this
   have hqlt:m / 1000000000<m:=Nat.div_lt_self hm0 (by decide)
   have hdm:=Nat.div_add_mod m 1000000000
   have hr9:=Nat.mod_lt m (show 1000000000>0 by decide)
   generalize m / 1000000000=qn at*
   generalize m%1000000000=r0 at*
   have hqq:=hq
   refine loopL (σ:=Value×List Nat×Nat×Nat×Heap) (fun p=>[p.1,.int .u32 (p.2.2.1:Int),I p.2.2.2.1]) (fun p=>p.2.2.2.2)
    (fun p=>EX h p.2.2.2.2∧MagV p.2.2.2.2 q qn∧OwnS h.length p.2.2.2.2 5 p.1 ((p.2.1.map dch).map cv)∧Lim 10 p.2.1∧p.2.2.2.1≤9∧p.2.2.1<10^(9-p.2.2.2.1)∧p.2.1.length≤b.length+p.2.2.2.1∧val 10 p.2.1+10^p.2.1.length*(p.2.2.1+10^(9-p.2.2.2.1)*qn)=n∧(qn=0→p.2.2.1=0→Canon 10 p.2.1)) (fun p=>9-p.2.2.2.1)
    (bv,b,r0,0,h1) rfl rfl ⟨hex.trans x1,hq,hown1,hlim,by simp,by simpa using hr9,by simp,?_,?_⟩ ?_
   ·show val 10 b+10^b.length*(r0+10^(9-0)*qn)=n
    have:r0+10^(9-0)*qn=m:=by
     show r0+1000000000*qn=m
     omega
    rw [this];exact hval
   ·intro h1 h2
    have h1:qn=0:=h1
    have h2:r0=0:=h2
    subst h1;subst h2
    omega
   rintro ⟨cv1,c,r,i,hy⟩ ⟨hey,hqy,howny,hlimc,hi,hr,hcl,hvalc,hcanc⟩ L2 hL2
   simp only at hey hqy howny hlimc hi hr hcl hvalc hcanc hL2⊢
   rw [q89z16]
   -- leaving
   have stop:r=0→(i=9∨qn=0)→p89z30 Tryz.prog K cv1 q L hy:=by
    intro hr0 hor
    rw [q89z30]
    refine ⟨rfl,hL (q,qn,cv1,c,hy) ⟨hey,hqy,howny,hlimc,?_,fun h0=>hcanc h0 hr0⟩ hqlt⟩
    show val 10 c+10^c.length*qn=n
    rw [hr0,Nat.zero_add] at hvalc
    rcases hor with h9 | h0
    ·subst h9;simpa using hvalc
    ·subst h0;simpa using hvalc
   simp only [bin_lss,OP_some]
   by_cases hi9:i<9
   ·rw [decide_eq_true (show (i:Int)<9 by omega)]
    simp only [q89z20,GdP_tt]
    obtain ⟨l2,g0,g1⟩:=hqy.len0
    simp only [g0,OP_some,bin_gtr]
    -- one digit more
    have step:(0<qn∨0<r)→IfP (B true)
      (OP (iBin .rem (.int .u32 (r:Int)) (.int .u32 (10))) fun x33=>
      OP (iBin .add (.int .u32 (48)) x33) fun x34=>
      OP (iConv .u8 x34) fun x35=>
      OH (iMkSl 5 1 [(.int .u8 (0))] hy [(0,1,x35)]) fun x36 h_1=>
      OH (iApp 5 1 1 h_1 cv1 x36) fun x37 h_2=>
      OP (iBin .quo (.int .u32 (r:Int)) (.int .u32 (10))) fun x39=>
      OP (iBin .add (I i) (.int .i64 (1))) fun x30=>
      True∧L2 [x37,x39,x30] h_2)
      (p89z30 Tryz.prog K cv1 q L hy):=by
     intro hor
     have hrW:r<4294967296:=Nat.lt_of_lt_of_le hr (Nat.le_trans (Nat.pow_le_pow_right (by decide) (show 9-i≤9 by omega)) (by decide))
     have ed:IntKind.wrap .u32 ((48:Int)+((r%10:Nat):Int))=((48+r%10:Nat):Int):=by rw [wrapU32 (by omega) (by omega)];omega
     have eq10:iBin .quo (.int .u32 (r:Int)) (.int .u32 10)=some (.int .u32 ((r / 10:Nat):Int)):=by
      have h10:¬((10:Int)=0):=by omega
      simp only [iBin,iInt,if_true,if_neg h10]
      have e:(r:Int).tdiv 10=((r / 10:Nat):Int):=rfl
      rw [e,wrapU32 (by omega) (by omega)]
     simp only [IfP_true]
     rw [show (.int .u32 10:Value)=.int .u32 ((10:Nat):Int) from rfl,rem_nat _ _ _ (by decide)]
     simp only [OP_some,bin_add,ed,conv_int]
     rw [wrapU8 (by omega) (by omega),cvd (show r%10<10 by omega)]
     refine app1M (x:=dch (r%10)) howny hey (by simp;omega) ?_
     intro v' hx' hex' hown' hkeep
     rw [show (.int .u32 ((10:Nat):Int):Value)=.int .u32 10 from rfl,eq10]
     simp only [OP_some,inc i (by omega),true_and]
     have hq':MagV hx' q qn:=hkeep q qn hqy
     refine hL2 (v',c++[r%10],r / 10,i+1,hx') ⟨hex',hq',by simpa using hown',hlimc.append (fun x hx=>by simp at hx;omega),by show i+1≤9;omega,?_,by show (c++[r%10]).length≤b.length+(i+1);simp;omega,?_,?_⟩ (by show 9-(i+1)<9-i;omega)
     ·show r / 10<10^(9-(i+1))
      rw [show 9-i=(9-(i+1))+1 by omega,Nat.pow_succ] at hr
      exact (Nat.div_lt_iff_lt_mul (by decide)).2 hr
     ·show val 10 (c++[r%10])+10^(c++[r%10]).length*(r / 10+10^(9-(i+1))*qn)=n
      rw [val_append,List.length_append,List.length_singleton,Nat.pow_succ]
      rw [show 9-i=(9-(i+1))+1 by omega,Nat.pow_succ] at hvalc
      have hdm:=Nat.div_add_mod r 10
      simp only [val,Nat.mul_zero,Nat.add_zero]
      generalize r / 10=r1 at*
      generalize r%10=d at*
      generalize 10^c.length=P at*
      generalize 10^(9-(i+1))=Q at*
      generalize val 10 c=V at*
      clear hL hL2 hr hcanc hval stop
      subst hdm
      grind
     ·intro h1 h2
      have h2:r / 10=0:=h2
      refine can_of_last (hlimc.append (fun x hx=>by simp at hx;omega)) ?_
      intro _
      have:0<r:=by rcases hor with h | h;omega;exact h
      simp
      omega
    by_cases hq0:0<qn
    ·rw [decide_eq_true (show (0:Int)<(l2:Int) by omega)]
     simp only [q89z22,GdP_tf,q89z24,iPick_t,OP_some,GdP_tt,q89z26]
     exact step (.inl hq0)
    ·rw [decide_eq_false (show ¬(0:Int)<(l2:Int) by omega)]
     simp only [q89z22,GdP_ff,bin_gtr,OP_some]
     by_cases hr0:0<r
     ·rw [decide_eq_true (show (0:Int)<(r:Int) by omega)]
      simp only [q89z24,GdP_tt,iPick_f,OP_some,q89z26,iPick_t]
      exact step (.inr hr0)
     ·rw [decide_eq_false (show ¬(0:Int)<(r:Int) by omega)]
      simp only [q89z24,GdP_tt,iPick_f,OP_some,q89z26,iPick_t,IfP_false]
      exact stop (by omega) (.inr (by omega))
   ·have:i=9:=by omega
    subst this
    rw [decide_eq_false (show ¬((9:Nat):Int)<9 by omega)]
    simp only [q89z20,GdP_ft,q89z22,GdP_undef,q89z24,q89z26,iPick_f,OP_some,IfP_false]
    exact stop (by simpa using hr) (.inl rfl)
  ·have hm0:m=0:=by omega
   subst hm0
   have hc:=hcan rfl
   rw [Nat.mul_zero,Nat.add_zero] at hval
   have hb:b=dig10 n:=Canon.unique (by decide) hc (dig10_canon n).1 (by rw [hval,(dig10_canon n).2])
   have hbne:b≠[]:=by rintro rfl;simp [val] at hval;omega
   have hbl:b.length≤2000:=by
    have h1:=Canon.low (by decide) hc hbne
    have h2:=len_of_pow (b:=b.length-1) (m:=1) (n:=n) (by decide) (by omega) la
    omega
   rw [q89z31]
   obtain ⟨id,hid,hv,hg⟩:∃id,h.length≤id∧bv=sl 5 id 0 (b.map dch).length∧hx[id]?=some (.arr 5 ((b.map dch).map cv)):=by
    rcases hown with ⟨_,h0⟩ | ⟨id,h1,h2,h3⟩
    ·exact absurd (by simpa using h0) hbne
    ·exact ⟨id,h1,by simpa using h2,h3⟩
   rw [hv]
   refine C115 hg (by simp;omega) ?_
   have hidl:=(List.getElem?_eq_some_iff.1 hg).1
   have b2:iB2s (Go.Proofs.YtelmdbpaoifmoaaGreat.hb hx id (b.map dch).reverse) (sl 5 id 0 (b.map dch).length)=some (S (b.map dch).reverse):=by
    refine b2s (b:=0) (e:=5) (l:=(b.map dch).reverse) (.inr ⟨id,Nat.zero_le _,by simp,?_⟩)
    rw [hb_get hidl]
   simp only [b2,OP_some]
   have:(b.map dch).reverse=decS n:=by unfold decS;rw [if_neg (by omega),hb]
   rw [this]
   exact hk _ (hex.set hid _)

end Go.Proofs.YtelmdbpaoifmoaaGreat


namespace Go.Proofs.YtelmdbpaoifmoaaGreat
open Go.Sim
variable (P : Program) (K : VK)
/-! F20: pommel/pommelref01.Whole -/
noncomputable section
variable (v0 : Value) (h : Heap)
def oc20:=compFn Tryz.prog 20 [[],[]]
@[irreducible] def c20:=icOf oc20
theorem k20:oc20=some (7,c20,[.cell true 4 2]):=by kernel_rfl
def T20:Prop:=
 OH (iAlloc 37 [(.bool false),(.slice none 0 0),(.bool false),(.slice none 0 0)] h) fun x2 h_1=>
 CallP P 55 [v0] h_1 fun x4 h_2=>
 CallP P 55 [(.int .i64 (1))] h_2 fun x5 h_3=>
 OP (iBuild [(.bool false),(.slice none 0 0),(.bool false),(.slice none 0 0)] [(0,2,x4),(2,2,x5)]) fun x6=>
 OH (oStore 4 h_3 x2 x6) fun _ h_4=>
 OP (iLoad true 4 h_4 x2) fun r0=>
 K r0 h_4
theorem e20:iwpP P c20 (bodyP [.cell true 4 2] K) (frame0 [v0]) h=T20 P K v0 h:=by kernel_rfl
theorem f20 {K:VK} {v0:Value} {h:Heap} (H:T20 Tryz.prog K v0 h):CallP Tryz.prog 20 [v0] h K:=
 callP_intro k20 (Nat.le_of_ble_eq_true rfl) ((e20 Tryz.prog K v0 h).mpr H)
end
/-! F26: pommel/pommelref01.AddQ -/
noncomputable section
variable (a0 b1 : Value) (h : Heap)
def oc26:=compFn Tryz.prog 26 [[],[]]
@[irreducible] def c26:=icOf oc26
theorem k26:oc26=some (22,c26,[.cell true 4 4]):=by kernel_rfl
def T26:Prop:=
 OH (iBox 37 h a0) fun a2 h_1=>
 OH (iBox 37 h_1 b1) fun b3 h_2=>
 OH (iAlloc 37 [(.bool false),(.slice none 0 0),(.bool false),(.slice none 0 0)] h_2) fun x4 h_3=>
 OP (iFadr 0 a2) fun x5=>
 OP (iLoad true 2 h_3 x5) fun x6=>
 (True)∧
 OP (iFadr 2 b3) fun x7=>
 OP (iLoad true 2 h_3 x7) fun x8=>
 (True)∧
 CallP P 71 [x6,x8] h_3 fun x9 h_4=>
 (True)∧
 OP (iFadr 0 b3) fun x10=>
 OP (iLoad true 2 h_4 x10) fun x11=>
 (iLoad true 2 h_3 x10=some x11∧True)∧
 OP (iFadr 2 a2) fun x12=>
 OP (iLoad true 2 h_4 x12) fun x13=>
 (iLoad true 2 h_3 x12=some x13∧True)∧
 CallP P 71 [x11,x13] h_4 fun x14 h_5=>
 (True)∧
 CallP P 70 [x9,x14] h_5 fun x15 h_6=>
 (True)∧
 OP (iFadr 2 a2) fun x16=>
 OP (iLoad true 2 h_6 x16) fun x17=>
 (iLoad true 2 h_3 x16=some x17∧iLoad true 2 h_4 x16=some x17∧iLoad true 2 h_5 x16=some x17∧True)∧
 OP (iFadr 2 b3) fun x18=>
 OP (iLoad true 2 h_6 x18) fun x19=>
 (iLoad true 2 h_3 x18=some x19∧iLoad true 2 h_4 x18=some x19∧iLoad true 2 h_5 x18=some x19∧True)∧
 CallP P 71 [x17,x19] h_6 fun x20 h_7=>
 (True)∧
 OP (iBuild [(.bool false),(.slice none 0 0),(.bool false),(.slice none 0 0)] [(0,2,x15),(2,2,x20)]) fun x21=>
 OH (oStore 4 h_7 x4 x21) fun _ h_8=>
 (True)∧
 OP (iLoad true 4 h_8 x4) fun r0=>
 K r0 h_8
theorem e26:iwpP P c26 (bodyP [.cell true 4 4] K) (frame0 [a0,b1]) h=T26 P K a0 b1 h:=by kernel_rfl
theorem f26 {K:VK} {a0 b1:Value} {h:Heap} (H:T26 Tryz.prog K a0 b1 h):CallP Tryz.prog 26 [a0,b1] h K:=
 callP_intro k26 (Nat.le_of_ble_eq_true rfl) ((e26 Tryz.prog K a0 b1 h).mpr H)
end
/-! F27: pommel/pommelref01.MulQ -/
noncomputable section
variable (a0 b1 : Value) (h : Heap)
def oc27:=compFn Tryz.prog 27 [[],[]]
@[irreducible] def c27:=icOf oc27
theorem k27:oc27=some (16,c27,[.cell true 4 4]):=by kernel_rfl
def T27:Prop:=
 OH (iBox 37 h a0) fun a2 h_1=>
 OH (iBox 37 h_1 b1) fun b3 h_2=>
 OH (iAlloc 37 [(.bool false),(.slice none 0 0),(.bool false),(.slice none 0 0)] h_2) fun x4 h_3=>
 OP (iFadr 0 a2) fun x5=>
 OP (iLoad true 2 h_3 x5) fun x6=>
 (True)∧
 OP (iFadr 0 b3) fun x7=>
 OP (iLoad true 2 h_3 x7) fun x8=>
 (True)∧
 CallP P 71 [x6,x8] h_3 fun x9 h_4=>
 (True)∧
 OP (iFadr 2 a2) fun x10=>
 OP (iLoad true 2 h_4 x10) fun x11=>
 (iLoad true 2 h_3 x10=some x11∧True)∧
 OP (iFadr 2 b3) fun x12=>
 OP (iLoad true 2 h_4 x12) fun x13=>
 (iLoad true 2 h_3 x12=some x13∧True)∧
 CallP P 71 [x11,x13] h_4 fun x14 h_5=>
 (True)∧
 OP (iBuild [(.bool false),(.slice none 0 0),(.bool false),(.slice none 0 0)] [(0,2,x9),(2,2,x14)]) fun x15=>
 OH (oStore 4 h_5 x4 x15) fun _ h_6=>
 (True)∧
 OP (iLoad true 4 h_6 x4) fun r0=>
 K r0 h_6
theorem e27:iwpP P c27 (bodyP [.cell true 4 4] K) (frame0 [a0,b1]) h=T27 P K a0 b1 h:=by kernel_rfl
theorem f27 {K:VK} {a0 b1:Value} {h:Heap} (H:T27 Tryz.prog K a0 b1 h):CallP Tryz.prog 27 [a0,b1] h K:=
 callP_intro k27 (Nat.le_of_ble_eq_true rfl) ((e27 Tryz.prog K a0 b1 h).mpr H)
end
/-! F28: pommel/pommelref01.Of -/
noncomputable section
variable (x0 : Value) (h : Heap)
def oc28:=compFn Tryz.prog 28 [[],[],[]]
@[irreducible] def c28:=icOf oc28
theorem k28:oc28=some (11,c28,[.cell true 4 2]):=by kernel_rfl
def T28:Prop:=
 OH (iAlloc 37 [(.bool false),(.slice none 0 0),(.bool false),(.slice none 0 0)] h) fun x2 h_1=>
 CallP P 67 [x0] h_1 fun x7 h_2=>
 OP (iExt 0 x7) fun x8=>
 OP (iExt 1 x7) fun x9=>
 OH (iAlloc 37 [(.bool false),(.slice none 0 0),(.bool false),(.slice none 0 0)] h_2) fun q3 h_3=>
 OH (oStore 4 h_3 q3 x8) fun _ h_4=>
 OP (iLoad true 4 h_4 q3) fun x10=>
 OH (oStore 4 h_4 x2 x10) fun _ h_5=>
 OP (iLoad true 4 h_5 x2) fun r0=>
 K r0 h_5
theorem e28:iwpP P c28 (bodyP [.cell true 4 2] K) (frame0 [x0]) h=T28 P K x0 h:=by kernel_rfl
theorem f28 {K:VK} {x0:Value} {h:Heap} (H:T28 Tryz.prog K x0 h):CallP Tryz.prog 28 [x0] h K:=
 callP_intro k28 (Nat.le_of_ble_eq_true rfl) ((e28 Tryz.prog K x0 h).mpr H)
end
/-! F48: pommel/pommelref01.Sign -/
noncomputable section
variable (a0 : Value) (h : Heap)
def oc48:=compFn Tryz.prog 48 [[],[],[],[],[],[],[],[]]
@[irreducible] def c48:=icOf oc48
theorem k48:oc48=some (9,c48,[.tmp 2]):=by kernel_rfl
def T48 (P:Program) (K:VK) (a0:Value) (h:Heap):Prop:=
 OH (iBox 35 h a0) fun a1 h_1=>
 OP (iFadr 1 a1) fun x3=>
 OP (iLoad false 1 h_1 x3) fun x4=>
 OP (iLenSl x4) fun x5=>
 OP (iBin .eql x5 (.int .i64 (0))) fun x6=>
 IfP x6
 (K (.int .i64 (0)) h_1)
 (OP (iFadr 0 a1) fun x7=>
 OP (iLoad false 1 h_1 x7) fun x8=>
 IfP x8
 (K (.int .i64 (-1)) h_1)
 (K (.int .i64 (1)) h_1))
theorem e48:iwpP P c48 (bodyP [.tmp 2] K) (frame0 [a0]) h=T48 P K a0 h:=by kernel_rfl
theorem f48 {K:VK} {a0:Value} {h:Heap} (H:T48 Tryz.prog K a0 h):CallP Tryz.prog 48 [a0] h K:=
 callP_intro k48 (Nat.le_of_ble_eq_true rfl) ((e48 Tryz.prog K a0 h).mpr H)
end
/-! F55: pommel/pommelref01.Int -/
noncomputable section
variable (v0 x2 z3 d4 : Value) (L1 : LQ) (xs : List Value) (h : Heap)
def oc55:=compFn Tryz.prog 55 [[],[],[2,3],[0],[],[],[],[],[0,2,3,4],[],[2,3],[]]
@[irreducible] def c55:=icOf oc55
@[irreducible] def c55z5:=c55.r.r.l.l.l
@[irreducible] def c55z3:=c55.r.r.r
@[irreducible] def c55z12:=c55z5.r.l.r.r.l
@[irreducible] def c55z14:=c55z3.l
theorem k55:oc55=some (25,c55,[.cell true 2 2]):=by kernel_rfl
def K55z0 (_P:Program) (K:VK):Kont:=bodyP [.cell true 2 2] K
def K55z3:Kont:=thenK (iwpP P c55z3 (K55z0 P K)) (K55z0 P K)
def K55z4:Kont:=inBlockK 0 (K55z3 P K)
def K55z5:Kont:=thenK (fun f' h''=>(([2,3]:List Nat).map f':List Value)=[x2,z3]∧L1 (([0]:List Nat).map f') h'') (K55z4 P K)
def K55z8:Kont:=inBlockK 1 (K55z5 P K x2 z3 L1)
def p55z5:Prop:=CutP (iwpP P c55z5 (K55z5 P K x2 z3 L1)) ([2,3]++[0]) ([x2,z3]++xs) h
def p55z12:Prop:=CutP (iwpP P c55z12 (K55z8 P K x2 z3 L1)) [0,2,3,4] [v0,x2,z3,d4] h
def p55z14:Prop:=CutP (iwpP P c55z14 (K55z0 P K)) [2,3] [x2,z3] h
theorem q55z12:p55z12 P K v0 x2 z3 d4 L1 h=
 (OP (iFadr 1 z3) fun x16=>
 OP (iLoad false 1 h x16) fun x17=>
 OH (iMkSl 3 1 [(.int .i64 (0))] h [(0,1,d4)]) fun x19 h_1=>
 OH (iApp 3 1 8 h_1 x17 x19) fun x20 h_2=>
 OP (iFadr 1 z3) fun x21=>
 OH (oStore 1 h_2 x21 x20) fun _ h_3=>
 OP (iBin .quo v0 (.int .i64 (10000))) fun x23=>
 ([x2,z3]:List Value)=[x2,z3]∧L1 [x23] h_3):=cdt (by kernel_rfl)
theorem q55z5 (x2 z3:Value) (L1:LQ) (v0:Value) (h:Heap):p55z5 P K x2 z3 L1 [v0] h=
 (OP (iBin .neq v0 (.int .i64 (0))) fun x9=>
 IfP x9
 (OP (iBin .rem v0 (.int .i64 (10000))) fun x11=>
 OP (iBin .lss x11 (.int .i64 (0))) fun x13=>
 IfP x13
 (OP (iUn .neg x11) fun x15=>
 p55z12 P K v0 x2 z3 x15 L1 h)
 (p55z12 P K v0 x2 z3 x11 L1 h))
 (p55z14 P K x2 z3 h)):=cdt (by kernel_rfl)
theorem q55z14:p55z14 P K x2 z3 h=
 (OP (iLoad true 2 h z3) fun x24=>
 OH (oStore 2 h x2 x24) fun _ h_1=>
 OP (iLoad true 2 h_1 x2) fun r0=>
 K r0 h_1):=cdt (by kernel_rfl)
def T55:Prop:=
 OH (iAlloc 35 [(.bool false),(.slice none 0 0)] h) fun x2 h_1=>
 OP (iBin .lss v0 (.int .i64 (0))) fun x6=>
 OP (iBuild [(.bool false),(.slice none 0 0)] [(0,1,x6)]) fun x7=>
 OH (iAlloc 35 [(.bool false),(.slice none 0 0)] h_1) fun z3 h_2=>
 OH (oStore 2 h_2 z3 x7) fun _ h_3=>
 LoopP [v0] h_3 fun L1 xs hx=>
 p55z5 P K x2 z3 L1 xs hx
theorem e55:iwpP P c55 (bodyP [.cell true 2 2] K) (frame0 [v0]) h=T55 P K v0 h:=by kernel_rfl
theorem f55 {K:VK} {v0:Value} {h:Heap} (H:T55 Tryz.prog K v0 h):CallP Tryz.prog 55 [v0] h K:=
 callP_intro k55 (Nat.le_of_ble_eq_true rfl) ((e55 Tryz.prog K v0 h).mpr H)
end
/-! F67: pommel/pommelref01.Parse -/
noncomputable section
variable (x0 x2 s4 x5 x6 i7 n8 x9 d10 x21 x24 x82 x84 x88 x89 : Value) (L1 : LQ) (xs : List Value) (h : Heap)
def oc67:=compFn Tryz.prog 67 [[],[],[],[],[],[2,4,5,21],[2,4,5,21,24],[],[2,4,5],[],[],[2,4,5],[6,7],[],[],[],[2,4,5,6,7],[2,4,5,6],[],[],[],[],[],[],[],[2,5,8,9,10],[2,5,8,10,82],[2,5,8,10,82,84],[2,5,8,10,82,84,88],[2,5,8,10,82,89],[],[],[],[],[2,8,10],[]]
@[irreducible] def c67:=icOf oc67
@[irreducible] def c67z9:=c67.r.r.r.l.l.r.l
@[irreducible] def c67z7:=c67.r.r.r.l.r
@[irreducible] def c67z6:=c67.r.r.r.r
@[irreducible] def c67z11:=c67z9.r.l
@[irreducible] def c67z12:=c67z6.l
@[irreducible] def c67z17:=c67z12.r.l.r.l.l
@[irreducible] def c67z14:=c67z12.r.r
@[irreducible] def c67z23:=c67z17.r.r.l
@[irreducible] def c67z24:=c67z14.l
@[irreducible] def c67z33:=c67z24.r.r.r.l
@[irreducible] def c67z37:=c67z33.l.l.r.l
@[irreducible] def c67z35:=c67z33.l.r
@[irreducible] def c67z34:=c67z33.r
@[irreducible] def c67z39:=c67z37.r.l
@[irreducible] def c67z47:=c67z34.r.l
@[irreducible] def c67z41:=c67z39.r.l
@[irreducible] def c67z43:=c67z41.r.l
theorem k67:oc67=some (98,c67,[.cell true 4 2,.tmp 3]):=by kernel_rfl
def K67z0 (_P:Program) (K:VK):Kont:=bodyP [.cell true 4 2,.tmp 3] K
def K67z6:Kont:=thenK (iwpP P c67z6 (K67z0 P K)) (K67z0 P K)
def K67z7:Kont:=thenK (iwpP P c67z7 (K67z6 P K)) (K67z6 P K)
def K67z14:Kont:=thenK (iwpP P c67z14 (K67z0 P K)) (K67z0 P K)
def K67z16:Kont:=inBlockK 0 (K67z14 P K)
def K67z17:Kont:=thenK (fun f' h''=>(([2,4,5]:List Nat).map f':List Value)=[x2,s4,x5]∧L1 (([6,7]:List Nat).map f') h'') (K67z16 P K)
def K67z34:Kont:=thenK (iwpP P c67z34 (K67z0 P K)) (K67z0 P K)
def K67z35:Kont:=thenK (iwpP P c67z35 (K67z34 P K)) (K67z34 P K)
def p67z9:Prop:=CutP (iwpP P c67z9 (K67z7 P K)) [2,4,5,21] [x2,s4,x5,x21] h
def p67z11:Prop:=CutP (iwpP P c67z11 (K67z7 P K)) [2,4,5,21,24] [x2,s4,x5,x21,x24] h
def p67z12:Prop:=CutP (iwpP P c67z12 (K67z0 P K)) [2,4,5] [x2,s4,x5] h
def p67z17:Prop:=CutP (iwpP P c67z17 (K67z17 P K x2 s4 x5 L1)) ([2,4,5]++[6,7]) ([x2,s4,x5]++xs) h
def p67z23:Prop:=CutP (iwpP P c67z23 (K67z17 P K x2 s4 x5 L1)) [2,4,5,6,7] [x2,s4,x5,x6,i7] h
def p67z24:Prop:=CutP (iwpP P c67z24 (K67z0 P K)) [2,4,5,6] [x2,s4,x5,x6] h
def p67z33:Prop:=CutP (iwpP P c67z33 (K67z0 P K)) [2,5,8,9,10] [x2,x5,n8,x9,d10] h
def p67z37:Prop:=CutP (iwpP P c67z37 (K67z35 P K)) [2,5,8,10,82] [x2,x5,n8,d10,x82] h
def p67z39:Prop:=CutP (iwpP P c67z39 (K67z35 P K)) [2,5,8,10,82,84] [x2,x5,n8,d10,x82,x84] h
def p67z41:Prop:=CutP (iwpP P c67z41 (K67z35 P K)) [2,5,8,10,82,84,88] [x2,x5,n8,d10,x82,x84,x88] h
def p67z43:Prop:=CutP (iwpP P c67z43 (K67z35 P K)) [2,5,8,10,82,89] [x2,x5,n8,d10,x82,x89] h
def p67z47:Prop:=CutP (iwpP P c67z47 (K67z0 P K)) [2,8,10] [x2,n8,d10] h
theorem q67z11:p67z11 P K x2 s4 x5 x21 x24 h=
 (OP (iPick x21 x24 (.bool false)) fun x25=>
 IfP x25
 (OP (iSlS s4 (some (.int .i64 (1))) none) fun x27=>
 p67z12 P K x2 x27 (.bool true) h)
 (p67z12 P K x2 s4 x5 h)):=cdt (by kernel_rfl)
theorem q67z9:p67z9 P K x2 s4 x5 x21 h=
 (GdP x21 true
 (OP (iIdxS s4 (.int .i64 (0))) fun x23=>
 OP (iBin .eql x23 (.int .u8 (45))) fun x24=>
 p67z11 P K x2 s4 x5 x21 x24 h)
 (p67z11 P K x2 s4 x5 x21 undef h)):=cdt (by kernel_rfl)
theorem q67z23:p67z23 P K x2 s4 x5 x6 i7 L1 h=
 (OP (iBin .sub i7 (.int .i64 (1))) fun x36=>
 ([x2,s4,x5]:List Value)=[x2,s4,x5]∧L1 [x6,x36] h):=cdt (by kernel_rfl)
theorem q67z17 (x2 s4 x5:Value) (L1:LQ) (x6 i7:Value) (h:Heap):p67z17 P K x2 s4 x5 L1 [x6,i7] h=
 (OP (iBin .geq i7 (.int .i64 (0))) fun x34=>
 IfP x34
 (OP (iIdxS s4 i7) fun x39=>
 OP (iBin .eql x39 (.int .u8 (47))) fun x40=>
 IfP x40
 (p67z23 P K x2 s4 x5 i7 i7 L1 h)
 (p67z23 P K x2 s4 x5 x6 i7 L1 h))
 (p67z24 P K x2 s4 x5 x6 h)):=cdt (by kernel_rfl)
theorem q67z43:p67z43 P K x2 x5 n8 d10 x82 x89 h=
 (OP (iPick x82 (.bool true) x89) fun x90=>
 IfP x90
 (OP (iBuild [(.bool false),(.slice none 0 0),(.bool false),(.slice none 0 0)] []) fun x91=>
 OH (oStore 4 h x2 x91) fun _ h_1=>
 OP (iLoad true 4 h_1 x2) fun r0=>
 K (.tuple #[r0,(.bool false)]) h_1)
 (IfP x5
 (OP (iLoad true 2 h n8) fun x93=>
 CallP P 95 [x93] h fun x94 h_1=>
 OH (oStore 2 h_1 n8 x94) fun _ h_2=>
 p67z47 P K x2 n8 d10 h_2)
 (p67z47 P K x2 n8 d10 h))):=cdt (by kernel_rfl)
theorem q67z41:p67z41 P K x2 x5 n8 d10 x82 x84 x88 h=
 (GdP x82 false
 (OP (iPick x84 x88 (.bool false)) fun x89=>
 p67z43 P K x2 x5 n8 d10 x82 x89 h)
 (p67z43 P K x2 x5 n8 d10 x82 undef h)):=cdt (by kernel_rfl)
theorem q67z39:p67z39 P K x2 x5 n8 d10 x82 x84 h=
 (GdP x84 true
 (OP (iFadr 1 n8) fun x85=>
 OP (iLoad false 1 h x85) fun x86=>
 OP (iLenSl x86) fun x87=>
 OP (iBin .eql x87 (.int .i64 (0))) fun x88=>
 p67z41 P K x2 x5 n8 d10 x82 x84 x88 h)
 (p67z41 P K x2 x5 n8 d10 x82 x84 undef h)):=cdt (by kernel_rfl)
theorem q67z37:p67z37 P K x2 x5 n8 d10 x82 h=
 (GdP x82 false
 (p67z39 P K x2 x5 n8 d10 x82 x5 h)
 (p67z39 P K x2 x5 n8 d10 x82 undef h)):=cdt (by kernel_rfl)
theorem q67z47:p67z47 P K x2 n8 d10 h=
 (OP (iLoad true 2 h n8) fun x95=>
 OP (iLoad true 2 h d10) fun x96=>
 OP (iBuild [(.bool false),(.slice none 0 0),(.bool false),(.slice none 0 0)] [(0,2,x95),(2,2,x96)]) fun x97=>
 OH (oStore 4 h x2 x97) fun _ h_1=>
 OP (iLoad true 4 h_1 x2) fun r0=>
 K (.tuple #[r0,(.bool true)]) h_1):=cdt (by kernel_rfl)
theorem q67z33:p67z33 P K x2 x5 n8 x9 d10 h=
 (OP (iUn .not x9) fun x81=>
 p67z37 P K x2 x5 n8 d10 x81 h):=cdt (by kernel_rfl)
theorem q67z24:p67z24 P K x2 s4 x5 x6 h=
 (OP (iSlS s4 none (some x6)) fun x45=>
 CallP P 99 [x45] h fun x46 h_1=>
 OP (iExt 0 x46) fun x47=>
 OP (iExt 1 x46) fun x48=>
 OH (iAlloc 35 [(.bool false),(.slice none 0 0)] h_1) fun n8 h_2=>
 OH (oStore 2 h_2 n8 x47) fun _ h_3=>
 CallP P 55 [(.int .i64 (1))] h_3 fun x49 h_4=>
 OH (iAlloc 35 [(.bool false),(.slice none 0 0)] h_4) fun d10 h_5=>
 OH (oStore 2 h_5 d10 x49) fun _ h_6=>
 OP (iLenS s4) fun x52=>
 OP (iBin .lss x6 x52) fun x53=>
 IfP x53
 (OP (iBin .add x6 (.int .i64 (1))) fun x57=>
 OP (iSlS s4 (some x57) none) fun x58=>
 CallP P 99 [x58] h_6 fun x59 h_7=>
 OP (iExt 0 x59) fun x60=>
 OP (iExt 1 x59) fun x61=>
 OH (iAlloc 35 [(.bool false),(.slice none 0 0)] h_7) fun x11 h_8=>
 OH (oStore 2 h_8 x11 x60) fun _ h_9=>
 OP (iUn .not x61) fun x63=>
 GdP x63 false
 (OP (iLoad true 2 h_9 x11) fun x65=>
 (True)∧
 CallP P 55 [(.int .i64 (2))] h_9 fun x66 h_10=>
 (iLoad true 2 h_10 x11=some x65∧True)∧
 CallP P 72 [x65,x66] h_10 fun x67 h_11=>
 (True)∧
 OP (iBin .lss x67 (.int .i64 (0))) fun x68=>
 OP (iPick x63 (.bool true) x68) fun x69=>
 GdP x69 false
 (OP (iLoad true 2 h_11 n8) fun x71=>
 (True)∧
 OP (iLoad true 2 h_11 x11) fun x72=>
 (True)∧
 CallP P 68 [x71,x72] h_11 fun x73 h_12=>
 (True)∧
 CallP P 55 [(.int .i64 (1))] h_12 fun x74 h_13=>
 (True)∧
 CallP P 72 [x73,x74] h_13 fun x75 h_14=>
 (True)∧
 OP (iBin .neq x75 (.int .i64 (0))) fun x76=>
 OP (iPick x69 (.bool true) x76) fun x77=>
 IfP x77
 (OP (iBuild [(.bool false),(.slice none 0 0),(.bool false),(.slice none 0 0)] []) fun x78=>
 OH (oStore 4 h_14 x2 x78) fun _ h_15=>
 OP (iLoad true 4 h_15 x2) fun r0=>
 K (.tuple #[r0,(.bool false)]) h_15)
 (OP (iLoad true 2 h_14 x11) fun x79=>
 OH (oStore 2 h_14 d10 x79) fun _ h_15=>
 p67z33 P K x2 x5 n8 x48 d10 h_15))
 ((True)∧
 (True)∧
 (True)∧
 OP (iPick x69 (.bool true) undef) fun x77=>
 IfP x77
 (OP (iBuild [(.bool false),(.slice none 0 0),(.bool false),(.slice none 0 0)] []) fun x78=>
 OH (oStore 4 h_11 x2 x78) fun _ h_12=>
 OP (iLoad true 4 h_12 x2) fun r0=>
 K (.tuple #[r0,(.bool false)]) h_12)
 (OP (iLoad true 2 h_11 x11) fun x79=>
 OH (oStore 2 h_11 d10 x79) fun _ h_12=>
 p67z33 P K x2 x5 n8 x48 d10 h_12)))
 ((True)∧
 (True)∧
 OP (iPick x63 (.bool true) undef) fun x69=>
 GdP x69 false
 (OP (iLoad true 2 h_9 n8) fun x71=>
 (True)∧
 OP (iLoad true 2 h_9 x11) fun x72=>
 (True)∧
 CallP P 68 [x71,x72] h_9 fun x73 h_10=>
 (True)∧
 CallP P 55 [(.int .i64 (1))] h_10 fun x74 h_11=>
 (True)∧
 CallP P 72 [x73,x74] h_11 fun x75 h_12=>
 (True)∧
 OP (iBin .neq x75 (.int .i64 (0))) fun x76=>
 OP (iPick x69 (.bool true) x76) fun x77=>
 IfP x77
 (OP (iBuild [(.bool false),(.slice none 0 0),(.bool false),(.slice none 0 0)] []) fun x78=>
 OH (oStore 4 h_12 x2 x78) fun _ h_13=>
 OP (iLoad true 4 h_13 x2) fun r0=>
 K (.tuple #[r0,(.bool false)]) h_13)
 (OP (iLoad true 2 h_12 x11) fun x79=>
 OH (oStore 2 h_12 d10 x79) fun _ h_13=>
 p67z33 P K x2 x5 n8 x48 d10 h_13))
 ((True)∧
 (True)∧
 (True)∧
 OP (iPick x69 (.bool true) undef) fun x77=>
 IfP x77
 (OP (iBuild [(.bool false),(.slice none 0 0),(.bool false),(.slice none 0 0)] []) fun x78=>
 OH (oStore 4 h_9 x2 x78) fun _ h_10=>
 OP (iLoad true 4 h_10 x2) fun r0=>
 K (.tuple #[r0,(.bool false)]) h_10)
 (OP (iLoad true 2 h_9 x11) fun x79=>
 OH (oStore 2 h_9 d10 x79) fun _ h_10=>
 p67z33 P K x2 x5 n8 x48 d10 h_10))))
 (p67z33 P K x2 x5 n8 x48 d10 h_6)):=cdt (by kernel_rfl)
theorem q67z12:p67z12 P K x2 s4 x5 h=
 (OP (iLenS s4) fun x29=>
 OP (iLenS s4) fun x31=>
 OP (iBin .sub x31 (.int .i64 (1))) fun x32=>
 LoopP [x29,x32] h fun L1 xs hx=>
 p67z17 P K x2 s4 x5 L1 xs hx):=cdt (by kernel_rfl)
def T67:Prop:=
 OH (iAlloc 37 [(.bool false),(.slice none 0 0),(.bool false),(.slice none 0 0)] h) fun x2 h_1=>
 OP (iLenS x0) fun x15=>
 OP (iBin .gtr x15 (.int .i64 (8002))) fun x16=>
 IfP x16
 (OP (iBuild [(.bool false),(.slice none 0 0),(.bool false),(.slice none 0 0)] []) fun x17=>
 OH (oStore 4 h_1 x2 x17) fun _ h_2=>
 OP (iLoad true 4 h_2 x2) fun r0=>
 K (.tuple #[r0,(.bool false)]) h_2)
 (OP (iLenS x0) fun x19=>
 OP (iBin .gtr x19 (.int .i64 (0))) fun x20=>
 p67z9 P K x2 x0 (.bool false) x20 h_1)
theorem e67:iwpP P c67 (bodyP [.cell true 4 2,.tmp 3] K) (frame0 [x0]) h=T67 P K x0 h:=by kernel_rfl
theorem f67 {K:VK} {x0:Value} {h:Heap} (H:T67 Tryz.prog K x0 h):CallP Tryz.prog 67 [x0] h K:=
 callP_intro k67 (Nat.le_of_ble_eq_true rfl) ((e67 Tryz.prog K x0 h).mpr H)
end
/-! F70: pommel/pommelref01.Add -/
noncomputable section
variable (a0 b1 : Value) (h : Heap)
def oc70:=compFn Tryz.prog 70 [[],[],[],[],[],[],[],[]]
@[irreducible] def c70:=icOf oc70
theorem k70:oc70=some (43,c70,[.cell true 2 4]):=by kernel_rfl
def T70:Prop:=
 OH (iBox 35 h a0) fun a2 h_1=>
 OH (iBox 35 h_1 b1) fun b3 h_2=>
 OH (iAlloc 35 [(.bool false),(.slice none 0 0)] h_2) fun x4 h_3=>
 OP (iFadr 0 a2) fun x5=>
 OP (iLoad false 1 h_3 x5) fun x6=>
 OP (iFadr 0 b3) fun x7=>
 OP (iLoad false 1 h_3 x7) fun x8=>
 OP (iEqb false x6 x8) fun x9=>
 IfP x9
 (OP (iFadr 0 a2) fun x10=>
 OP (iLoad false 1 h_3 x10) fun x11=>
 (True)∧
 OP (iFadr 1 a2) fun x12=>
 OP (iLoad false 1 h_3 x12) fun x13=>
 (True)∧
 OP (iFadr 1 b3) fun x14=>
 OP (iLoad false 1 h_3 x14) fun x15=>
 (True)∧
 CallP P 104 [x13,x15] h_3 fun x16 h_4=>
 (iLoad false 1 h_4 x10=some x11∧True)∧
 OP (iBuild [(.bool false),(.slice none 0 0)] [(0,1,x11),(1,1,x16)]) fun x17=>
 CallP P 100 [x17] h_4 fun x18 h_5=>
 (True)∧
 OH (oStore 2 h_5 x4 x18) fun _ h_6=>
 (True)∧
 OP (iLoad true 2 h_6 x4) fun r0=>
 K r0 h_6)
 (OP (iFadr 1 a2) fun x19=>
 OP (iLoad false 1 h_3 x19) fun x20=>
 OP (iFadr 1 b3) fun x21=>
 OP (iLoad false 1 h_3 x21) fun x22=>
 CallP P 101 [x20,x22] h_3 fun x23 h_4=>
 OP (iBin .geq x23 (.int .i64 (0))) fun x24=>
 IfP x24
 (OP (iFadr 0 a2) fun x25=>
 OP (iLoad false 1 h_4 x25) fun x26=>
 (True)∧
 OP (iFadr 1 a2) fun x27=>
 OP (iLoad false 1 h_4 x27) fun x28=>
 (True)∧
 OP (iFadr 1 b3) fun x29=>
 OP (iLoad false 1 h_4 x29) fun x30=>
 (True)∧
 CallP P 103 [x28,x30] h_4 fun x31 h_5=>
 (iLoad false 1 h_5 x25=some x26∧True)∧
 OP (iBuild [(.bool false),(.slice none 0 0)] [(0,1,x26),(1,1,x31)]) fun x32=>
 CallP P 100 [x32] h_5 fun x33 h_6=>
 (True)∧
 OH (oStore 2 h_6 x4 x33) fun _ h_7=>
 (True)∧
 OP (iLoad true 2 h_7 x4) fun r0=>
 K r0 h_7)
 (OP (iFadr 0 b3) fun x34=>
 OP (iLoad false 1 h_4 x34) fun x35=>
 (True)∧
 OP (iFadr 1 b3) fun x36=>
 OP (iLoad false 1 h_4 x36) fun x37=>
 (True)∧
 OP (iFadr 1 a2) fun x38=>
 OP (iLoad false 1 h_4 x38) fun x39=>
 (True)∧
 CallP P 103 [x37,x39] h_4 fun x40 h_5=>
 (iLoad false 1 h_5 x34=some x35∧True)∧
 OP (iBuild [(.bool false),(.slice none 0 0)] [(0,1,x35),(1,1,x40)]) fun x41=>
 CallP P 100 [x41] h_5 fun x42 h_6=>
 (True)∧
 OH (oStore 2 h_6 x4 x42) fun _ h_7=>
 (True)∧
 OP (iLoad true 2 h_7 x4) fun r0=>
 K r0 h_7))
theorem e70:iwpP P c70 (bodyP [.cell true 2 4] K) (frame0 [a0,b1]) h=T70 P K a0 b1 h:=by kernel_rfl
theorem f70 {K:VK} {a0 b1:Value} {h:Heap} (H:T70 Tryz.prog K a0 b1 h):CallP Tryz.prog 70 [a0,b1] h K:=
 callP_intro k70 (Nat.le_of_ble_eq_true rfl) ((e70 Tryz.prog K a0 b1 h).mpr H)
end
/-! F71: pommel/pommelref01.Mul -/
noncomputable section
variable (a0 b1 a2 b3 x4 x5 i6 x7 k8 s9 x31 x33 : Value) (L1 L2 : LQ) (xs : List Value) (h : Heap)
def oc71:=compFn Tryz.prog 71 [[],[],[],[2,3,4,5],[6],[],[],[],[],[2,3,4,5,6],[7,8],[2,3,4,5,6,7,8,31],[2,3,4,5,6,7,8,31,33],[],[],[],[],[2,3,4,5,6,8,9],[2,3,4,5,6,7,8],[2,3,4,5,6],[2,3,4,5],[]]
@[irreducible] def c71:=icOf oc71
@[irreducible] def c71z6:=c71.r.r.l.r.l.l
@[irreducible] def c71z3:=c71.r.r.r
@[irreducible] def c71z14:=c71z6.r.l.l.r.r.l.l
@[irreducible] def c71z9:=c71z6.r.r
@[irreducible] def c71z29:=c71z3.l
@[irreducible] def c71z18:=c71z14.l.l.r.l
@[irreducible] def c71z16:=c71z14.l.r
@[irreducible] def c71z15:=c71z14.r
@[irreducible] def c71z28:=c71z9.l
@[irreducible] def c71z20:=c71z18.r.l
@[irreducible] def c71z26:=c71z15.l.l.r.r.l
@[irreducible] def c71z21:=c71z15.r
@[irreducible] def c71z27:=c71z21.l
theorem k71:oc71=some (80,c71,[.cell true 2 4]):=by kernel_rfl
def K71z0 (_P:Program) (K:VK):Kont:=bodyP [.cell true 2 4] K
def K71z3:Kont:=thenK (iwpP P c71z3 (K71z0 P K)) (K71z0 P K)
def K71z5:Kont:=inBlockK 0 (K71z3 P K)
def K71z6:Kont:=thenK (fun f' h''=>(([2,3,4,5]:List Nat).map f':List Value)=[a2,b3,x4,x5]∧L1 (([6]:List Nat).map f') h'') (K71z5 P K)
def K71z9:Kont:=thenK (iwpP P c71z9 (K71z6 P K a2 b3 x4 x5 L1)) (K71z6 P K a2 b3 x4 x5 L1)
def K71z10:Kont:=inBlockK 1 (K71z9 P K a2 b3 x4 x5 L1)
def K71z13:Kont:=inBlockK 2 (K71z10 P K a2 b3 x4 x5 L1)
def K71z14:Kont:=thenK (fun f' h''=>(([2,3,4,5,6]:List Nat).map f':List Value)=[a2,b3,x4,x5,i6]∧L2 (([7,8]:List Nat).map f') h'') (K71z13 P K a2 b3 x4 x5 L1)
def K71z15:Kont:=thenK (iwpP P c71z15 (K71z14 P K a2 b3 x4 x5 i6 L1 L2)) (K71z14 P K a2 b3 x4 x5 i6 L1 L2)
def K71z16:Kont:=thenK (iwpP P c71z16 (K71z15 P K a2 b3 x4 x5 i6 L1 L2)) (K71z15 P K a2 b3 x4 x5 i6 L1 L2)
def K71z21:Kont:=thenK (iwpP P c71z21 (K71z14 P K a2 b3 x4 x5 i6 L1 L2)) (K71z14 P K a2 b3 x4 x5 i6 L1 L2)
def K71z22:Kont:=inBlockK 3 (K71z21 P K a2 b3 x4 x5 i6 L1 L2)
def p71z6:Prop:=CutP (iwpP P c71z6 (K71z6 P K a2 b3 x4 x5 L1)) ([2,3,4,5]++[6]) ([a2,b3,x4,x5]++xs) h
def p71z14:Prop:=CutP (iwpP P c71z14 (K71z14 P K a2 b3 x4 x5 i6 L1 L2)) ([2,3,4,5,6]++[7,8]) ([a2,b3,x4,x5,i6]++xs) h
def p71z18:Prop:=CutP (iwpP P c71z18 (K71z16 P K a2 b3 x4 x5 i6 L1 L2)) [2,3,4,5,6,7,8,31] [a2,b3,x4,x5,i6,x7,k8,x31] h
def p71z20:Prop:=CutP (iwpP P c71z20 (K71z16 P K a2 b3 x4 x5 i6 L1 L2)) [2,3,4,5,6,7,8,31,33] [a2,b3,x4,x5,i6,x7,k8,x31,x33] h
def p71z26:Prop:=CutP (iwpP P c71z26 (K71z22 P K a2 b3 x4 x5 i6 L1 L2)) [2,3,4,5,6,8,9] [a2,b3,x4,x5,i6,k8,s9] h
def p71z27:Prop:=CutP (iwpP P c71z27 (K71z14 P K a2 b3 x4 x5 i6 L1 L2)) [2,3,4,5,6,7,8] [a2,b3,x4,x5,i6,x7,k8] h
def p71z28:Prop:=CutP (iwpP P c71z28 (K71z6 P K a2 b3 x4 x5 L1)) [2,3,4,5,6] [a2,b3,x4,x5,i6] h
def p71z29:Prop:=CutP (iwpP P c71z29 (K71z0 P K)) [2,3,4,5] [a2,b3,x4,x5] h
theorem q71z20:p71z20 P K a2 b3 x4 x5 i6 x7 k8 x31 x33 L1 L2 h=
 (OP (iPick x31 (.bool true) x33) fun x34=>
 IfP x34
 (OP (iBin .add i6 k8) fun x40=>
 OP (iAdrSl 1 x5 x40) fun x41=>
 OP (iLoad false 1 h x41) fun x42=>
 OP (iBin .add x42 x7) fun x44=>
 OP (iFadr 1 b3) fun x46=>
 OP (iLoad false 1 h x46) fun x47=>
 OP (iLenSl x47) fun x48=>
 OP (iBin .lss k8 x48) fun x49=>
 IfP x49
 (OP (iFadr 1 a2) fun x51=>
 OP (iLoad false 1 h x51) fun x52=>
 (True)∧
 OP (iAdrSl 1 x52 i6) fun x54=>
 OP (iLoad false 1 h x54) fun x55=>
 (True)∧
 OP (iFadr 1 b3) fun x56=>
 OP (iLoad false 1 h x56) fun x57=>
 (True)∧
 OP (iAdrSl 1 x57 k8) fun x59=>
 OP (iLoad false 1 h x59) fun x60=>
 (True)∧
 OP (iBin .mul x55 x60) fun x61=>
 OP (iBin .add x44 x61) fun x62=>
 p71z26 P K a2 b3 x4 x5 i6 k8 x62 L1 L2 h)
 (p71z26 P K a2 b3 x4 x5 i6 k8 x44 L1 L2 h))
 (p71z28 P K a2 b3 x4 x5 i6 L1 h)):=cdt (by kernel_rfl)
theorem q71z18:p71z18 P K a2 b3 x4 x5 i6 x7 k8 x31 L1 L2 h=
 (GdP x31 false
 (OP (iBin .gtr x7 (.int .i64 (0))) fun x33=>
 p71z20 P K a2 b3 x4 x5 i6 x7 k8 x31 x33 L1 L2 h)
 (p71z20 P K a2 b3 x4 x5 i6 x7 k8 x31 undef L1 L2 h)):=cdt (by kernel_rfl)
theorem q71z26:p71z26 P K a2 b3 x4 x5 i6 k8 s9 L1 L2 h=
 (OP (iBin .add i6 k8) fun x66=>
 OP (iBin .rem s9 (.int .i64 (10000))) fun x68=>
 OP (iBin .quo s9 (.int .i64 (10000))) fun x70=>
 OP (iAdrSl 1 x5 x66) fun x71=>
 OH (oStore 1 h x71 x68) fun _ h_1=>
 p71z27 P K a2 b3 x4 x5 i6 x70 k8 L1 L2 h_1):=cdt (by kernel_rfl)
theorem q71z27:p71z27 P K a2 b3 x4 x5 i6 x7 k8 L1 L2 h=
 (OP (iBin .add k8 (.int .i64 (1))) fun x36=>
 ([a2,b3,x4,x5,i6]:List Value)=[a2,b3,x4,x5,i6]∧L2 [x7,x36] h):=cdt (by kernel_rfl)
theorem q71z14 (a2 b3 x4 x5 i6:Value) (L1 L2:LQ) (x7 k8:Value) (h:Heap):p71z14 P K a2 b3 x4 x5 i6 L1 L2 [x7,k8] h=
 (OP (iFadr 1 b3) fun x27=>
 OP (iLoad false 1 h x27) fun x28=>
 OP (iLenSl x28) fun x29=>
 OP (iBin .lss k8 x29) fun x30=>
 p71z18 P K a2 b3 x4 x5 i6 x7 k8 x30 L1 L2 h):=cdt (by kernel_rfl)
theorem q71z28:p71z28 P K a2 b3 x4 x5 i6 L1 h=
 (OP (iBin .add i6 (.int .i64 (1))) fun x25=>
 ([a2,b3,x4,x5]:List Value)=[a2,b3,x4,x5]∧L1 [x25] h):=cdt (by kernel_rfl)
theorem q71z6 (a2 b3 x4 x5:Value) (L1:LQ) (i6:Value) (h:Heap):p71z6 P K a2 b3 x4 x5 L1 [i6] h=
 (OP (iFadr 1 a2) fun x20=>
 OP (iLoad false 1 h x20) fun x21=>
 OP (iLenSl x21) fun x22=>
 OP (iBin .lss i6 x22) fun x23=>
 IfP x23
 (LoopP [(.int .i64 (0)),(.int .i64 (0))] h fun L2 xs hx=>
 p71z14 P K a2 b3 x4 x5 i6 L1 L2 xs hx)
 (p71z29 P K a2 b3 x4 x5 h)):=cdt (by kernel_rfl)
theorem q71z29:p71z29 P K a2 b3 x4 x5 h=
 (OP (iFadr 0 a2) fun x72=>
 OP (iLoad false 1 h x72) fun x73=>
 OP (iFadr 0 b3) fun x74=>
 OP (iLoad false 1 h x74) fun x75=>
 OP (iEqb true x73 x75) fun x76=>
 OP (iBuild [(.bool false),(.slice none 0 0)] [(0,1,x76),(1,1,x5)]) fun x78=>
 CallP P 100 [x78] h fun x79 h_1=>
 OH (oStore 2 h_1 x4 x79) fun _ h_2=>
 OP (iLoad true 2 h_2 x4) fun r0=>
 K r0 h_2):=cdt (by kernel_rfl)
def T71:Prop:=
 OH (iBox 35 h a0) fun a2 h_1=>
 OH (iBox 35 h_1 b1) fun b3 h_2=>
 OH (iAlloc 35 [(.bool false),(.slice none 0 0)] h_2) fun x4 h_3=>
 OP (iFadr 1 a2) fun x10=>
 OP (iLoad false 1 h_3 x10) fun x11=>
 OP (iLenSl x11) fun x12=>
 OP (iFadr 1 b3) fun x13=>
 OP (iLoad false 1 h_3 x13) fun x14=>
 OP (iLenSl x14) fun x15=>
 OP (iBin .add x12 x15) fun x16=>
 OP (iBin .add x16 (.int .i64 (1))) fun x17=>
 OH (iMake 3 8 [(.int .i64 (0))] h_3 x17 x17) fun x18 h_4=>
 LoopP [(.int .i64 (0))] h_4 fun L1 xs hx=>
 p71z6 P K a2 b3 x4 x18 L1 xs hx
theorem e71:iwpP P c71 (bodyP [.cell true 2 4] K) (frame0 [a0,b1]) h=T71 P K a0 b1 h:=by kernel_rfl
theorem f71 {K:VK} {a0 b1:Value} {h:Heap} (H:T71 Tryz.prog K a0 b1 h):CallP Tryz.prog 71 [a0,b1] h K:=
 callP_intro k71 (Nat.le_of_ble_eq_true rfl) ((e71 Tryz.prog K a0 b1 h).mpr H)
end
/-! F72: pommel/pommelref01.Cmp -/
noncomputable section
variable (a0 b1 : Value) (h : Heap)
def oc72:=compFn Tryz.prog 72 [[],[]]
@[irreducible] def c72:=icOf oc72
theorem k72:oc72=some (9,c72,[.tmp 4]):=by kernel_rfl
def T72:Prop:=
 OH (iBox 35 h a0) fun a2 h_1=>
 OH (iBox 35 h_1 b1) fun b3 h_2=>
 OP (iLoad true 2 h_2 a2) fun x5=>
 OP (iLoad true 2 h_2 b3) fun x6=>
 CallP P 92 [x5,x6] h_2 fun x7 h_3=>
 CallP P 48 [x7] h_3 fun x8 h_4=>
 K x8 h_4
theorem e72:iwpP P c72 (bodyP [.tmp 4] K) (frame0 [a0,b1]) h=T72 P K a0 b1 h:=by kernel_rfl
theorem f72 {K:VK} {a0 b1:Value} {h:Heap} (H:T72 Tryz.prog K a0 b1 h):CallP Tryz.prog 72 [a0,b1] h K:=
 callP_intro k72 (Nat.le_of_ble_eq_true rfl) ((e72 Tryz.prog K a0 b1 h).mpr H)
end
/-! F92: pommel/pommelref01.Sub -/
noncomputable section
variable (a0 b1 : Value) (h : Heap)
def oc92:=compFn Tryz.prog 92 [[],[]]
@[irreducible] def c92:=icOf oc92
theorem k92:oc92=some (9,c92,[.cell true 2 4]):=by kernel_rfl
def T92:Prop:=
 OH (iBox 35 h a0) fun a2 h_1=>
 OH (iBox 35 h_1 b1) fun b3 h_2=>
 OH (iAlloc 35 [(.bool false),(.slice none 0 0)] h_2) fun x4 h_3=>
 OP (iLoad true 2 h_3 a2) fun x5=>
 (True)∧
 OP (iLoad true 2 h_3 b3) fun x6=>
 (True)∧
 CallP P 95 [x6] h_3 fun x7 h_4=>
 (iLoad true 2 h_4 a2=some x5∧True)∧
 CallP P 70 [x5,x7] h_4 fun x8 h_5=>
 (True)∧
 OH (oStore 2 h_5 x4 x8) fun _ h_6=>
 (True)∧
 OP (iLoad true 2 h_6 x4) fun r0=>
 K r0 h_6
theorem e92:iwpP P c92 (bodyP [.cell true 2 4] K) (frame0 [a0,b1]) h=T92 P K a0 b1 h:=by kernel_rfl
theorem f92 {K:VK} {a0 b1:Value} {h:Heap} (H:T92 Tryz.prog K a0 b1 h):CallP Tryz.prog 92 [a0,b1] h K:=
 callP_intro k92 (Nat.le_of_ble_eq_true rfl) ((e92 Tryz.prog K a0 b1 h).mpr H)
end
/-! F93: pommel/pommelref01.figures -/
noncomputable section
variable (z0 z1 s3 i4 : Value) (L1 : LQ) (xs : List Value) (h : Heap)
def oc93:=compFn Tryz.prog 93 [[],[],[],[],[],[],[1],[3,4],[],[],[],[],[],[3],[],[3],[],[],[3],[]]
@[irreducible] def c93:=icOf oc93
@[irreducible] def c93z9:=c93.r.r.r.l.r.l.l
@[irreducible] def c93z6:=c93.r.r.r.r
@[irreducible] def c93z16:=c93z6.l
@[irreducible] def c93z19:=c93z16.l.l.l
@[irreducible] def c93z17:=c93z16.r
@[irreducible] def c93z23:=c93z17.l
theorem k93:oc93=some (53,c93,[.tmp 2]):=by kernel_rfl
def K93z0 (_P:Program) (K:VK):Kont:=bodyP [.tmp 2] K
def K93z6:Kont:=thenK (iwpP P c93z6 (K93z0 P K)) (K93z0 P K)
def K93z8:Kont:=inBlockK 0 (K93z6 P K)
def K93z9:Kont:=thenK (fun f' h''=>(([1]:List Nat).map f':List Value)=[z1]∧L1 (([3,4]:List Nat).map f') h'') (K93z8 P K)
def K93z17:Kont:=thenK (iwpP P c93z17 (K93z0 P K)) (K93z0 P K)
def K93z18:Kont:=inBlockK 2 (K93z17 P K)
def K93z19:Kont:=thenK (fun f' h''=>(([]:List Nat).map f':List Value)=[]∧L1 (([3]:List Nat).map f') h'') (K93z18 P K)
def p93z9:Prop:=CutP (iwpP P c93z9 (K93z9 P K z1 L1)) ([1]++[3,4]) ([z1]++xs) h
def p93z16:Prop:=CutP (iwpP P c93z16 (K93z0 P K)) [3] [s3] h
def p93z19:Prop:=CutP (iwpP P c93z19 (K93z19 P K L1)) ([]++[3]) ([]++xs) h
def p93z23:Prop:=CutP (iwpP P c93z23 (K93z0 P K)) [3] [s3] h
theorem q93z9 (z1:Value) (L1:LQ) (s3 i4:Value) (h:Heap):p93z9 P K z1 L1 [s3,i4] h=
 (OP (iBin .geq i4 (.int .i64 (0))) fun x16=>
 IfP x16
 (OP (iFadr 1 z1) fun x19=>
 OP (iLoad false 1 h x19) fun x20=>
 OP (iAdrSl 1 x20 i4) fun x22=>
 OP (iLoad false 1 h x22) fun x23=>
 OP (iBin .quo x23 (.int .i64 (1000))) fun x25=>
 OP (iBin .add (.int .i64 (48)) x25) fun x26=>
 OP (iConv .u8 x26) fun x27=>
 OP (iBin .quo x23 (.int .i64 (100))) fun x29=>
 OP (iBin .rem x29 (.int .i64 (10))) fun x30=>
 OP (iBin .add (.int .i64 (48)) x30) fun x31=>
 OP (iConv .u8 x31) fun x32=>
 OP (iBin .quo x23 (.int .i64 (10))) fun x34=>
 OP (iBin .rem x34 (.int .i64 (10))) fun x35=>
 OP (iBin .add (.int .i64 (48)) x35) fun x36=>
 OP (iConv .u8 x36) fun x37=>
 OP (iBin .rem x23 (.int .i64 (10))) fun x39=>
 OP (iBin .add (.int .i64 (48)) x39) fun x40=>
 OP (iConv .u8 x40) fun x41=>
 OH (iMkSl 5 4 [(.int .u8 (0))] h [(0,1,x27),(1,1,x32),(2,1,x37),(3,1,x41)]) fun x42 h_1=>
 OP (iB2s h_1 x42) fun x43=>
 OP (iBin .add s3 x43) fun x46=>
 OP (iBin .sub i4 (.int .i64 (1))) fun x18=>
 ([z1]:List Value)=[z1]∧L1 [x46,x18] h_1)
 (p93z16 P K s3 h)):=cdt (by kernel_rfl)
theorem q93z19 (L1:LQ) (s3:Value) (h:Heap):p93z19 P K L1 [s3] h=
 (OP (iIdxS s3 (.int .i64 (0))) fun x48=>
 OP (iBin .eql x48 (.int .u8 (48))) fun x49=>
 IfP x49
 (OP (iSlS s3 (some (.int .i64 (1))) none) fun x51=>
 ([]:List Value)=[]∧L1 [x51] h)
 (p93z23 P K s3 h)):=cdt (by kernel_rfl)
theorem q93z23:p93z23 P K s3 h=
 (K s3 h):=cdt (by kernel_rfl)
theorem q93z16:p93z16 P K s3 h=
 (LoopP [s3] h fun L1 xs hx=>
 p93z19 P K L1 xs hx):=cdt (by kernel_rfl)
def T93:Prop:=
 OH (iBox 35 h z0) fun z1 h_1=>
 OP (iFadr 1 z1) fun x7=>
 OP (iLoad false 1 h_1 x7) fun x8=>
 OP (iLenSl x8) fun x9=>
 OP (iBin .eql x9 (.int .i64 (0))) fun x10=>
 IfP x10
 (K (.string ⟨#[48]⟩) h_1)
 (OP (iFadr 1 z1) fun x11=>
 OP (iLoad false 1 h_1 x11) fun x12=>
 OP (iLenSl x12) fun x13=>
 OP (iBin .sub x13 (.int .i64 (1))) fun x14=>
 LoopP [(.string ⟨#[]⟩),x14] h_1 fun L1 xs hx=>
 p93z9 P K z1 L1 xs hx)
theorem e93:iwpP P c93 (bodyP [.tmp 2] K) (frame0 [z0]) h=T93 P K z0 h:=by kernel_rfl
theorem f93 {K:VK} {z0:Value} {h:Heap} (H:T93 Tryz.prog K z0 h):CallP Tryz.prog 93 [z0] h K:=
 callP_intro k93 (Nat.le_of_ble_eq_true rfl) ((e93 Tryz.prog K z0 h).mpr H)
end
/-! F94: pommel/pommelref01.Abs -/
noncomputable section
variable (a0 : Value) (h : Heap)
def oc94:=compFn Tryz.prog 94 [[],[],[]]
@[irreducible] def c94:=icOf oc94
theorem k94:oc94=some (5,c94,[.cell true 2 2]):=by kernel_rfl
def T94 (P:Program) (K:VK) (a0:Value) (h:Heap):Prop:=
 OH (iBox 35 h a0) fun a1 h_1=>
 OH (iAlloc 35 [(.bool false),(.slice none 0 0)] h_1) fun x2 h_2=>
 OP (iFadr 0 a1) fun x3=>
 OH (oStore 1 h_2 x3 (.bool false)) fun _ h_3=>
 OP (iLoad true 2 h_3 a1) fun x4=>
 OH (oStore 2 h_3 x2 x4) fun _ h_4=>
 OP (iLoad true 2 h_4 x2) fun r0=>
 K r0 h_4
theorem e94:iwpP P c94 (bodyP [.cell true 2 2] K) (frame0 [a0]) h=T94 P K a0 h:=by kernel_rfl
theorem f94 {K:VK} {a0:Value} {h:Heap} (H:T94 Tryz.prog K a0 h):CallP Tryz.prog 94 [a0] h K:=
 callP_intro k94 (Nat.le_of_ble_eq_true rfl) ((e94 Tryz.prog K a0 h).mpr H)
end
/-! F95: pommel/pommelref01.Neg -/
noncomputable section
variable (a0 a1 x2 x6 x10 : Value) (h : Heap)
def oc95:=compFn Tryz.prog 95 [[],[1,2,6],[1,2,6,10],[],[]]
@[irreducible] def c95:=icOf oc95
@[irreducible] def c95z4:=c95.r.l.r.l
@[irreducible] def c95z2:=c95.r.r
@[irreducible] def c95z6:=c95z4.r.l
theorem k95:oc95=some (14,c95,[.cell true 2 2]):=by kernel_rfl
def K95z0 (_P:Program) (K:VK):Kont:=bodyP [.cell true 2 2] K
def K95z2:Kont:=thenK (iwpP P c95z2 (K95z0 P K)) (K95z0 P K)
def p95z4:Prop:=CutP (iwpP P c95z4 (K95z2 P K)) [1,2,6] [a1,x2,x6] h
def p95z6:Prop:=CutP (iwpP P c95z6 (K95z2 P K)) [1,2,6,10] [a1,x2,x6,x10] h
theorem q95z6:p95z6 P K a1 x2 x6 x10 h=
 (OP (iPick x6 x10 (.bool false)) fun x11=>
 OP (iFadr 0 a1) fun x12=>
 OH (oStore 1 h x12 x11) fun _ h_1=>
 OP (iLoad true 2 h_1 a1) fun x13=>
 OH (oStore 2 h_1 x2 x13) fun _ h_2=>
 OP (iLoad true 2 h_2 x2) fun r0=>
 K r0 h_2):=cdt (by kernel_rfl)
theorem q95z4:p95z4 P K a1 x2 x6 h=
 (GdP x6 true
 (OP (iFadr 1 a1) fun x7=>
 OP (iLoad false 1 h x7) fun x8=>
 OP (iLenSl x8) fun x9=>
 OP (iBin .gtr x9 (.int .i64 (0))) fun x10=>
 p95z6 P K a1 x2 x6 x10 h)
 (p95z6 P K a1 x2 x6 undef h)):=cdt (by kernel_rfl)
def T95:Prop:=
 OH (iBox 35 h a0) fun a1 h_1=>
 OH (iAlloc 35 [(.bool false),(.slice none 0 0)] h_1) fun x2 h_2=>
 OP (iFadr 0 a1) fun x3=>
 OP (iLoad false 1 h_2 x3) fun x4=>
 OP (iUn .not x4) fun x5=>
 p95z4 P K a1 x2 x5 h_2
theorem e95:iwpP P c95 (bodyP [.cell true 2 2] K) (frame0 [a0]) h=T95 P K a0 h:=by kernel_rfl
theorem f95 {K:VK} {a0:Value} {h:Heap} (H:T95 Tryz.prog K a0 h):CallP Tryz.prog 95 [a0] h K:=
 callP_intro k95 (Nat.le_of_ble_eq_true rfl) ((e95 Tryz.prog K a0 h).mpr H)
end
/-! F99: pommel/pommelref01.digits -/
noncomputable section
variable (s0 x2 z4 x5 d6 i7 x11 x14 x16 x20 x23 x24 x46 x50 : Value) (L1 L2 : LQ) (xs : List Value) (h : Heap)
def oc99:=compFn Tryz.prog 99 [[],[0,2,11],[0,2,11,14],[0,2,16],[0,2,16,20],[0,2,16,20,23],[0,2,16,24],[],[],[],[],[],[0,2,4],[5],[],[],[],[],[0,2,4,5],[6,7],[],[],[0,2,4,5,6,7,46],[0,2,4,5,6,7,46,50],[],[],[],[],[0,2,4,5,6],[0,2,4,5],[2,4],[]]
@[irreducible] def c99:=icOf oc99
@[irreducible] def c99z5:=c99.r.l.l.r.l
@[irreducible] def c99z3:=c99.r.l.r
@[irreducible] def c99z2:=c99.r.r
@[irreducible] def c99z7:=c99z5.r.l
@[irreducible] def c99z21:=c99z2.r.l.r.l.l
@[irreducible] def c99z18:=c99z2.r.r
@[irreducible] def c99z9:=c99z7.r.l
@[irreducible] def c99z30:=c99z21.r.l.l.r.l.r.l.l
@[irreducible] def c99z27:=c99z21.r.l.l.r.r
@[irreducible] def c99z24:=c99z21.r.r
@[irreducible] def c99z44:=c99z18.l
@[irreducible] def c99z11:=c99z9.r.l
@[irreducible] def c99z38:=c99z30.r.l.l.l.l.r.l
@[irreducible] def c99z36:=c99z30.r.l.l.l.r
@[irreducible] def c99z35:=c99z30.r.l.l.r
@[irreducible] def c99z33:=c99z30.r.r
@[irreducible] def c99z42:=c99z27.l
@[irreducible] def c99z43:=c99z24.l
@[irreducible] def c99z13:=c99z11.r.l
@[irreducible] def c99z40:=c99z38.r.l
@[irreducible] def c99z15:=c99z13.r.l
theorem k99:oc99=some (69,c99,[.cell true 2 2,.tmp 3]):=by kernel_rfl
def K99z0 (_P:Program) (K:VK):Kont:=bodyP [.cell true 2 2,.tmp 3] K
def K99z2:Kont:=thenK (iwpP P c99z2 (K99z0 P K)) (K99z0 P K)
def K99z3:Kont:=thenK (iwpP P c99z3 (K99z2 P K)) (K99z2 P K)
def K99z18:Kont:=thenK (iwpP P c99z18 (K99z0 P K)) (K99z0 P K)
def K99z20:Kont:=inBlockK 0 (K99z18 P K)
def K99z21:Kont:=thenK (fun f' h''=>(([0,2,4]:List Nat).map f':List Value)=[s0,x2,z4]∧L1 (([5]:List Nat).map f') h'') (K99z20 P K)
def K99z24:Kont:=thenK (iwpP P c99z24 (K99z21 P K s0 x2 z4 L1)) (K99z21 P K s0 x2 z4 L1)
def K99z25:Kont:=inBlockK 1 (K99z24 P K s0 x2 z4 L1)
def K99z27:Kont:=thenK (iwpP P c99z27 (K99z25 P K s0 x2 z4 L1)) (K99z25 P K s0 x2 z4 L1)
def K99z29:Kont:=inBlockK 2 (K99z27 P K s0 x2 z4 L1)
def K99z30:Kont:=thenK (fun f' h''=>(([0,2,4,5]:List Nat).map f':List Value)=[s0,x2,z4,x5]∧L2 (([6,7]:List Nat).map f') h'') (K99z29 P K s0 x2 z4 L1)
def K99z33:Kont:=thenK (iwpP P c99z33 (K99z30 P K s0 x2 z4 x5 L1 L2)) (K99z30 P K s0 x2 z4 x5 L1 L2)
def K99z34:Kont:=inBlockK 3 (K99z33 P K s0 x2 z4 x5 L1 L2)
def K99z35:Kont:=thenK (iwpP P c99z35 (K99z34 P K s0 x2 z4 x5 L1 L2)) (K99z34 P K s0 x2 z4 x5 L1 L2)
def K99z36:Kont:=thenK (iwpP P c99z36 (K99z35 P K s0 x2 z4 x5 L1 L2)) (K99z35 P K s0 x2 z4 x5 L1 L2)
def p99z5:Prop:=CutP (iwpP P c99z5 (K99z3 P K)) [0,2,11] [s0,x2,x11] h
def p99z7:Prop:=CutP (iwpP P c99z7 (K99z3 P K)) [0,2,11,14] [s0,x2,x11,x14] h
def p99z9:Prop:=CutP (iwpP P c99z9 (K99z3 P K)) [0,2,16] [s0,x2,x16] h
def p99z11:Prop:=CutP (iwpP P c99z11 (K99z3 P K)) [0,2,16,20] [s0,x2,x16,x20] h
def p99z13:Prop:=CutP (iwpP P c99z13 (K99z3 P K)) [0,2,16,20,23] [s0,x2,x16,x20,x23] h
def p99z15:Prop:=CutP (iwpP P c99z15 (K99z3 P K)) [0,2,16,24] [s0,x2,x16,x24] h
def p99z21:Prop:=CutP (iwpP P c99z21 (K99z21 P K s0 x2 z4 L1)) ([0,2,4]++[5]) ([s0,x2,z4]++xs) h
def p99z30:Prop:=CutP (iwpP P c99z30 (K99z30 P K s0 x2 z4 x5 L1 L2)) ([0,2,4,5]++[6,7]) ([s0,x2,z4,x5]++xs) h
def p99z38:Prop:=CutP (iwpP P c99z38 (K99z36 P K s0 x2 z4 x5 L1 L2)) [0,2,4,5,6,7,46] [s0,x2,z4,x5,d6,i7,x46] h
def p99z40:Prop:=CutP (iwpP P c99z40 (K99z36 P K s0 x2 z4 x5 L1 L2)) [0,2,4,5,6,7,46,50] [s0,x2,z4,x5,d6,i7,x46,x50] h
def p99z42:Prop:=CutP (iwpP P c99z42 (K99z25 P K s0 x2 z4 L1)) [0,2,4,5,6] [s0,x2,z4,x5,d6] h
def p99z43:Prop:=CutP (iwpP P c99z43 (K99z21 P K s0 x2 z4 L1)) [0,2,4,5] [s0,x2,z4,x5] h
def p99z44:Prop:=CutP (iwpP P c99z44 (K99z0 P K)) [2,4] [x2,z4] h
theorem q99z15:p99z15 P K s0 x2 x16 x24 h=
 (OP (iPick x16 (.bool true) x24) fun x25=>
 IfP x25
 (OP (iBuild [(.bool false),(.slice none 0 0)] []) fun x26=>
 OH (oStore 2 h x2 x26) fun _ h_1=>
 OP (iLoad true 2 h_1 x2) fun r0=>
 K (.tuple #[r0,(.bool false)]) h_1)
 (OP (iBuild [(.bool false),(.slice none 0 0)] []) fun x27=>
 OH (iAlloc 35 [(.bool false),(.slice none 0 0)] h) fun z4 h_1=>
 OH (oStore 2 h_1 z4 x27) fun _ h_2=>
 OP (iLenS s0) fun x29=>
 LoopP [x29] h_2 fun L1 xs hx=>
 p99z21 P K s0 x2 z4 L1 xs hx)):=cdt (by kernel_rfl)
theorem q99z13:p99z13 P K s0 x2 x16 x20 x23 h=
 (GdP x16 false
 (OP (iPick x20 x23 (.bool false)) fun x24=>
 p99z15 P K s0 x2 x16 x24 h)
 (p99z15 P K s0 x2 x16 undef h)):=cdt (by kernel_rfl)
theorem q99z11:p99z11 P K s0 x2 x16 x20 h=
 (GdP x20 true
 (OP (iLenS s0) fun x22=>
 OP (iBin .gtr x22 (.int .i64 (1))) fun x23=>
 p99z13 P K s0 x2 x16 x20 x23 h)
 (p99z13 P K s0 x2 x16 x20 undef h)):=cdt (by kernel_rfl)
theorem q99z9:p99z9 P K s0 x2 x16 h=
 (GdP x16 false
 (OP (iIdxS s0 (.int .i64 (0))) fun x18=>
 OP (iBin .eql x18 (.int .u8 (48))) fun x19=>
 p99z11 P K s0 x2 x16 x19 h)
 (p99z11 P K s0 x2 x16 undef h)):=cdt (by kernel_rfl)
theorem q99z7:p99z7 P K s0 x2 x11 x14 h=
 (OP (iPick x11 (.bool true) x14) fun x15=>
 p99z9 P K s0 x2 x15 h):=cdt (by kernel_rfl)
theorem q99z5:p99z5 P K s0 x2 x11 h=
 (GdP x11 false
 (OP (iLenS s0) fun x13=>
 OP (iBin .gtr x13 (.int .i64 (4000))) fun x14=>
 p99z7 P K s0 x2 x11 x14 h)
 (p99z7 P K s0 x2 x11 undef h)):=cdt (by kernel_rfl)
theorem q99z40:p99z40 P K s0 x2 z4 x5 d6 i7 x46 x50 L1 L2 h=
 (OP (iPick x46 (.bool true) x50) fun x51=>
 IfP x51
 (OP (iBuild [(.bool false),(.slice none 0 0)] []) fun x52=>
 OH (oStore 2 h x2 x52) fun _ h_1=>
 OP (iLoad true 2 h_1 x2) fun r0=>
 K (.tuple #[r0,(.bool false)]) h_1)
 (OP (iBin .mul (.int .i64 (10)) d6) fun x54=>
 OP (iIdxS s0 i7) fun x57=>
 OP (iBin .sub x57 (.int .u8 (48))) fun x58=>
 OP (iConv .i64 x58) fun x59=>
 OP (iBin .add x54 x59) fun x60=>
 OP (iBin .add i7 (.int .i64 (1))) fun x41=>
 ([s0,x2,z4,x5]:List Value)=[s0,x2,z4,x5]∧L2 [x60,x41] h)):=cdt (by kernel_rfl)
theorem q99z38:p99z38 P K s0 x2 z4 x5 d6 i7 x46 L1 L2 h=
 (GdP x46 false
 (OP (iIdxS s0 i7) fun x49=>
 OP (iBin .gtr x49 (.int .u8 (57))) fun x50=>
 p99z40 P K s0 x2 z4 x5 d6 i7 x46 x50 L1 L2 h)
 (p99z40 P K s0 x2 z4 x5 d6 i7 x46 undef L1 L2 h)):=cdt (by kernel_rfl)
theorem q99z30 (s0 x2 z4 x5:Value) (L1 L2:LQ) (d6 i7:Value) (h:Heap):p99z30 P K s0 x2 z4 x5 L1 L2 [d6,i7] h=
 (OP (iBin .lss i7 x5) fun x39=>
 IfP x39
 (OP (iIdxS s0 i7) fun x44=>
 OP (iBin .lss x44 (.int .u8 (48))) fun x45=>
 p99z38 P K s0 x2 z4 x5 d6 i7 x45 L1 L2 h)
 (p99z42 P K s0 x2 z4 x5 d6 L1 h)):=cdt (by kernel_rfl)
theorem q99z42:p99z42 P K s0 x2 z4 x5 d6 L1 h=
 (OP (iFadr 1 z4) fun x61=>
 OP (iLoad false 1 h x61) fun x62=>
 OH (iMkSl 3 1 [(.int .i64 (0))] h [(0,1,d6)]) fun x64 h_1=>
 OH (iApp 3 1 8 h_1 x62 x64) fun x65 h_2=>
 OP (iFadr 1 z4) fun x66=>
 OH (oStore 1 h_2 x66 x65) fun _ h_3=>
 p99z43 P K s0 x2 z4 x5 L1 h_3):=cdt (by kernel_rfl)
theorem q99z43:p99z43 P K s0 x2 z4 x5 L1 h=
 (OP (iBin .sub x5 (.int .i64 (4))) fun x33=>
 ([s0,x2,z4]:List Value)=[s0,x2,z4]∧L1 [x33] h):=cdt (by kernel_rfl)
theorem q99z21 (s0 x2 z4:Value) (L1:LQ) (x5:Value) (h:Heap):p99z21 P K s0 x2 z4 L1 [x5] h=
 (OP (iBin .gtr x5 (.int .i64 (0))) fun x31=>
 IfP x31
 (OP (iBin .sub x5 (.int .i64 (4))) fun x35=>
 OP (iMinmax true [(.int .i64 (0)),x35]) fun x36=>
 LoopP [(.int .i64 (0)),x36] h fun L2 xs hx=>
 p99z30 P K s0 x2 z4 x5 L1 L2 xs hx)
 (p99z44 P K x2 z4 h)):=cdt (by kernel_rfl)
theorem q99z44:p99z44 P K x2 z4 h=
 (OP (iLoad true 2 h z4) fun x67=>
 CallP P 100 [x67] h fun x68 h_1=>
 OH (oStore 2 h_1 x2 x68) fun _ h_2=>
 OP (iLoad true 2 h_2 x2) fun r0=>
 K (.tuple #[r0,(.bool true)]) h_2):=cdt (by kernel_rfl)
def T99:Prop:=
 OH (iAlloc 35 [(.bool false),(.slice none 0 0)] h) fun x2 h_1=>
 OP (iLenS s0) fun x9=>
 OP (iBin .lss x9 (.int .i64 (1))) fun x10=>
 p99z5 P K s0 x2 x10 h_1
theorem e99:iwpP P c99 (bodyP [.cell true 2 2,.tmp 3] K) (frame0 [s0]) h=T99 P K s0 h:=by kernel_rfl
theorem f99 {K:VK} {s0:Value} {h:Heap} (H:T99 Tryz.prog K s0 h):CallP Tryz.prog 99 [s0] h K:=
 callP_intro k99 (Nat.le_of_ble_eq_true rfl) ((e99 Tryz.prog K s0 h).mpr H)
end
/-! F100: pommel/pommelref01.lean -/
noncomputable section
variable (z0 z1 x2 n3 x9 x16 x29 x31 : Value) (L1 : LQ) (xs : List Value) (h : Heap)
def oc100:=compFn Tryz.prog 100 [[],[],[1,2],[3],[1,2,3,9],[1,2,3,9,16],[],[],[1,2,3],[],[1,2,3,29],[1,2,29,31],[],[]]
@[irreducible] def c100:=icOf oc100
@[irreducible] def c100z5:=c100.r.r.l.l.l
@[irreducible] def c100z3:=c100.r.r.r
@[irreducible] def c100z9:=c100z5.l.l.r.l
@[irreducible] def c100z7:=c100z5.l.r
@[irreducible] def c100z6:=c100z5.r
@[irreducible] def c100z13:=c100z3.l
@[irreducible] def c100z11:=c100z9.r.l
@[irreducible] def c100z17:=c100z13.r.l.r.l
@[irreducible] def c100z15:=c100z13.r.r
@[irreducible] def c100z19:=c100z17.r.l
theorem k100:oc100=some (35,c100,[.cell true 2 2]):=by kernel_rfl
def K100z0 (_P:Program) (K:VK):Kont:=bodyP [.cell true 2 2] K
def K100z3:Kont:=thenK (iwpP P c100z3 (K100z0 P K)) (K100z0 P K)
def K100z4:Kont:=inBlockK 0 (K100z3 P K)
def K100z5:Kont:=thenK (fun f' h''=>(([1,2]:List Nat).map f':List Value)=[z1,x2]∧L1 (([3]:List Nat).map f') h'') (K100z4 P K)
def K100z6:Kont:=thenK (iwpP P c100z6 (K100z5 P K z1 x2 L1)) (K100z5 P K z1 x2 L1)
def K100z7:Kont:=thenK (iwpP P c100z7 (K100z6 P K z1 x2 L1)) (K100z6 P K z1 x2 L1)
def K100z15:Kont:=thenK (iwpP P c100z15 (K100z0 P K)) (K100z0 P K)
def p100z5:Prop:=CutP (iwpP P c100z5 (K100z5 P K z1 x2 L1)) ([1,2]++[3]) ([z1,x2]++xs) h
def p100z9:Prop:=CutP (iwpP P c100z9 (K100z7 P K z1 x2 L1)) [1,2,3,9] [z1,x2,n3,x9] h
def p100z11:Prop:=CutP (iwpP P c100z11 (K100z7 P K z1 x2 L1)) [1,2,3,9,16] [z1,x2,n3,x9,x16] h
def p100z13:Prop:=CutP (iwpP P c100z13 (K100z0 P K)) [1,2,3] [z1,x2,n3] h
def p100z17:Prop:=CutP (iwpP P c100z17 (K100z15 P K)) [1,2,3,29] [z1,x2,n3,x29] h
def p100z19:Prop:=CutP (iwpP P c100z19 (K100z15 P K)) [1,2,29,31] [z1,x2,x29,x31] h
theorem q100z11:p100z11 P K z1 x2 n3 x9 x16 L1 h=
 (OP (iPick x9 x16 (.bool false)) fun x17=>
 IfP x17
 (OP (iBin .sub n3 (.int .i64 (1))) fun x19=>
 ([z1,x2]:List Value)=[z1,x2]∧L1 [x19] h)
 (p100z13 P K z1 x2 n3 h)):=cdt (by kernel_rfl)
theorem q100z9:p100z9 P K z1 x2 n3 x9 L1 h=
 (GdP x9 true
 (OP (iFadr 1 z1) fun x10=>
 OP (iLoad false 1 h x10) fun x11=>
 OP (iBin .sub n3 (.int .i64 (1))) fun x13=>
 OP (iAdrSl 1 x11 x13) fun x14=>
 OP (iLoad false 1 h x14) fun x15=>
 OP (iBin .eql x15 (.int .i64 (0))) fun x16=>
 p100z11 P K z1 x2 n3 x9 x16 L1 h)
 (p100z11 P K z1 x2 n3 x9 undef L1 h)):=cdt (by kernel_rfl)
theorem q100z5 (z1 x2:Value) (L1:LQ) (n3:Value) (h:Heap):p100z5 P K z1 x2 L1 [n3] h=
 (OP (iBin .gtr n3 (.int .i64 (0))) fun x8=>
 p100z9 P K z1 x2 n3 x8 L1 h):=cdt (by kernel_rfl)
theorem q100z19:p100z19 P K z1 x2 x29 x31 h=
 (OP (iPick x29 x31 (.bool false)) fun x32=>
 OP (iFadr 0 z1) fun x33=>
 OH (oStore 1 h x33 x32) fun _ h_1=>
 OP (iLoad true 2 h_1 z1) fun x34=>
 OH (oStore 2 h_1 x2 x34) fun _ h_2=>
 OP (iLoad true 2 h_2 x2) fun r0=>
 K r0 h_2):=cdt (by kernel_rfl)
theorem q100z17:p100z17 P K z1 x2 n3 x29 h=
 (GdP x29 true
 (OP (iBin .gtr n3 (.int .i64 (0))) fun x31=>
 p100z19 P K z1 x2 x29 x31 h)
 (p100z19 P K z1 x2 x29 undef h)):=cdt (by kernel_rfl)
theorem q100z13:p100z13 P K z1 x2 n3 h=
 (OH (iMkSl 3 0 [(.int .i64 (0))] h []) fun x20 h_1=>
 OP (iFadr 1 z1) fun x21=>
 OP (iLoad false 1 h_1 x21) fun x22=>
 OP (iSlSl 3 1 x22 none (some n3)) fun x24=>
 OH (iApp 3 1 8 h_1 x20 x24) fun x25 h_2=>
 OP (iFadr 1 z1) fun x26=>
 OH (oStore 1 h_2 x26 x25) fun _ h_3=>
 OP (iFadr 0 z1) fun x27=>
 OP (iLoad false 1 h_3 x27) fun x28=>
 p100z17 P K z1 x2 n3 x28 h_3):=cdt (by kernel_rfl)
def T100:Prop:=
 OH (iBox 35 h z0) fun z1 h_1=>
 OH (iAlloc 35 [(.bool false),(.slice none 0 0)] h_1) fun x2 h_2=>
 OP (iFadr 1 z1) fun x4=>
 OP (iLoad false 1 h_2 x4) fun x5=>
 OP (iLenSl x5) fun x6=>
 LoopP [x6] h_2 fun L1 xs hx=>
 p100z5 P K z1 x2 L1 xs hx
theorem e100:iwpP P c100 (bodyP [.cell true 2 2] K) (frame0 [z0]) h=T100 P K z0 h:=by kernel_rfl
theorem f100 {K:VK} {z0:Value} {h:Heap} (H:T100 Tryz.prog K z0 h):CallP Tryz.prog 100 [z0] h K:=
 callP_intro k100 (Nat.le_of_ble_eq_true rfl) ((e100 Tryz.prog K z0 h).mpr H)
end
/-! F101: pommel/pommelref01.sizes -/
noncomputable section
variable (a0 b1 i5 : Value) (L1 : LQ) (xs : List Value) (h : Heap)
def oc101:=compFn Tryz.prog 101 [[],[],[],[],[],[],[],[],[0,1],[5],[],[],[],[],[],[],[],[],[],[]]
@[irreducible] def c101:=icOf oc101
@[irreducible] def c101z11:=c101.r.r.l.r.l.l
@[irreducible] def c101z8:=c101.r.r.r
theorem k101:oc101=some (41,c101,[.tmp 4]):=by kernel_rfl
def K101z0 (_P:Program) (K:VK):Kont:=bodyP [.tmp 4] K
def K101z8:Kont:=thenK (iwpP P c101z8 (K101z0 P K)) (K101z0 P K)
def K101z10:Kont:=inBlockK 0 (K101z8 P K)
def K101z11:Kont:=thenK (fun f' h''=>(([0,1]:List Nat).map f':List Value)=[a0,b1]∧L1 (([5]:List Nat).map f') h'') (K101z10 P K)
def p101z11:Prop:=CutP (iwpP P c101z11 (K101z11 P K a0 b1 L1)) ([0,1]++[5]) ([a0,b1]++xs) h
theorem q101z11 (a0 b1:Value) (L1:LQ) (i5:Value) (h:Heap):p101z11 P K a0 b1 L1 [i5] h=
 (OP (iBin .geq i5 (.int .i64 (0))) fun x20=>
 IfP x20
 (OP (iAdrSl 1 a0 i5) fun x25=>
 OP (iLoad false 1 h x25) fun x26=>
 (True)∧
 OP (iAdrSl 1 b1 i5) fun x29=>
 OP (iLoad false 1 h x29) fun x30=>
 (True)∧
 OP (iBin .lss x26 x30) fun x31=>
 IfP x31
 (K (.int .i64 (-1)) h)
 (OP (iAdrSl 1 a0 i5) fun x34=>
 OP (iLoad false 1 h x34) fun x35=>
 (True)∧
 OP (iAdrSl 1 b1 i5) fun x38=>
 OP (iLoad false 1 h x38) fun x39=>
 (True)∧
 OP (iBin .gtr x35 x39) fun x40=>
 IfP x40
 (K (.int .i64 (1)) h)
 (OP (iBin .sub i5 (.int .i64 (1))) fun x22=>
 ([a0,b1]:List Value)=[a0,b1]∧L1 [x22] h)))
 (K (.int .i64 (0)) h)):=cdt (by kernel_rfl)
def T101:Prop:=
 OP (iLenSl a0) fun x7=>
 OP (iLenSl b1) fun x9=>
 OP (iBin .neq x7 x9) fun x10=>
 IfP x10
 (OP (iLenSl a0) fun x12=>
 OP (iLenSl b1) fun x14=>
 OP (iBin .lss x12 x14) fun x15=>
 IfP x15
 (K (.int .i64 (-1)) h)
 (K (.int .i64 (1)) h))
 (OP (iLenSl a0) fun x17=>
 OP (iBin .sub x17 (.int .i64 (1))) fun x18=>
 LoopP [x18] h fun L1 xs hx=>
 p101z11 P K a0 b1 L1 xs hx)
theorem e101:iwpP P c101 (bodyP [.tmp 4] K) (frame0 [a0,b1]) h=T101 P K a0 b1 h:=by kernel_rfl
theorem f101 {K:VK} {a0 b1:Value} {h:Heap} (H:T101 Tryz.prog K a0 b1 h):CallP Tryz.prog 101 [a0,b1] h K:=
 callP_intro k101 (Nat.le_of_ble_eq_true rfl) ((e101 Tryz.prog K a0 b1 h).mpr H)
end
/-! F102: pommel/pommelref01.times -/
noncomputable section
variable (a0 d1 : Value) (h : Heap)
def oc102:=compFn Tryz.prog 102 [[],[]]
@[irreducible] def c102:=icOf oc102
theorem k102:oc102=some (12,c102,[.tmp 4]):=by kernel_rfl
def T102:Prop:=
 OP (iBuild [(.bool false),(.slice none 0 0)] [(1,1,a0)]) fun x6=>
 CallP P 55 [d1] h fun x8 h_1=>
 CallP P 71 [x6,x8] h_1 fun x9 h_2=>
 CallP P 100 [x9] h_2 fun x10 h_3=>
 OP (iFld false 1 1 x10) fun x11=>
 K x11 h_3
theorem e102:iwpP P c102 (bodyP [.tmp 4] K) (frame0 [a0,d1]) h=T102 P K a0 d1 h:=by kernel_rfl
theorem f102 {K:VK} {a0 d1:Value} {h:Heap} (H:T102 Tryz.prog K a0 d1 h):CallP Tryz.prog 102 [a0,d1] h K:=
 callP_intro k102 (Nat.le_of_ble_eq_true rfl) ((e102 Tryz.prog K a0 d1 h).mpr H)
end
/-! F103: pommel/pommelref01.less -/
noncomputable section
variable (a0 b1 x5 x6 i7 s8 : Value) (L1 : LQ) (xs : List Value) (h : Heap)
def oc103:=compFn Tryz.prog 103 [[],[],[],[0,1],[5,6,7],[],[],[],[],[0,1,5,7,8],[],[],[0,1,5,6,7,8],[0,1,5,6,7],[5],[]]
@[irreducible] def c103:=icOf oc103
@[irreducible] def c103z6:=c103.r.r.l.r.l.l
@[irreducible] def c103z3:=c103.r.r.r
@[irreducible] def c103z14:=c103z6.r.l.l.r.r.l
@[irreducible] def c103z9:=c103z6.r.r
@[irreducible] def c103z20:=c103z3.l
@[irreducible] def c103z18:=c103z14.r.r.l
@[irreducible] def c103z19:=c103z9.l
theorem k103:oc103=some (41,c103,[.tmp 4]):=by kernel_rfl
def K103z0 (_P:Program) (K:VK):Kont:=bodyP [.tmp 4] K
def K103z3:Kont:=thenK (iwpP P c103z3 (K103z0 P K)) (K103z0 P K)
def K103z5:Kont:=inBlockK 0 (K103z3 P K)
def K103z6:Kont:=thenK (fun f' h''=>(([0,1]:List Nat).map f':List Value)=[a0,b1]∧L1 (([5,6,7]:List Nat).map f') h'') (K103z5 P K)
def K103z9:Kont:=thenK (iwpP P c103z9 (K103z6 P K a0 b1 L1)) (K103z6 P K a0 b1 L1)
def K103z10:Kont:=inBlockK 1 (K103z9 P K a0 b1 L1)
def p103z6:Prop:=CutP (iwpP P c103z6 (K103z6 P K a0 b1 L1)) ([0,1]++[5,6,7]) ([a0,b1]++xs) h
def p103z14:Prop:=CutP (iwpP P c103z14 (K103z10 P K a0 b1 L1)) [0,1,5,7,8] [a0,b1,x5,i7,s8] h
def p103z18:Prop:=CutP (iwpP P c103z18 (K103z10 P K a0 b1 L1)) [0,1,5,6,7,8] [a0,b1,x5,x6,i7,s8] h
def p103z19:Prop:=CutP (iwpP P c103z19 (K103z6 P K a0 b1 L1)) [0,1,5,6,7] [a0,b1,x5,x6,i7] h
def p103z20:Prop:=CutP (iwpP P c103z20 (K103z0 P K)) [5] [x5] h
theorem q103z18:p103z18 P K a0 b1 x5 x6 i7 s8 L1 h=
 (OH (iMkSl 3 1 [(.int .i64 (0))] h [(0,1,s8)]) fun x38 h_1=>
 OH (iApp 3 1 8 h_1 x5 x38) fun x39 h_2=>
 p103z19 P K a0 b1 x39 x6 i7 L1 h_2):=cdt (by kernel_rfl)
theorem q103z14:p103z14 P K a0 b1 x5 i7 s8 L1 h=
 (OP (iBin .lss s8 (.int .i64 (0))) fun x33=>
 IfP x33
 (OP (iBin .add s8 (.int .i64 (10000))) fun x35=>
 p103z18 P K a0 b1 x5 (.int .i64 (1)) i7 x35 L1 h)
 (p103z18 P K a0 b1 x5 (.int .i64 (0)) i7 s8 L1 h)):=cdt (by kernel_rfl)
theorem q103z19:p103z19 P K a0 b1 x5 x6 i7 L1 h=
 (OP (iBin .add i7 (.int .i64 (1))) fun x15=>
 ([a0,b1]:List Value)=[a0,b1]∧L1 [x5,x6,x15] h):=cdt (by kernel_rfl)
theorem q103z6 (a0 b1:Value) (L1:LQ) (x5 x6 i7:Value) (h:Heap):p103z6 P K a0 b1 L1 [x5,x6,i7] h=
 (OP (iLenSl a0) fun x12=>
 OP (iBin .lss i7 x12) fun x13=>
 IfP x13
 (OP (iAdrSl 1 a0 i7) fun x18=>
 OP (iLoad false 1 h x18) fun x19=>
 OP (iBin .sub x19 x6) fun x21=>
 OP (iLenSl b1) fun x24=>
 OP (iBin .lss i7 x24) fun x25=>
 IfP x25
 (OP (iAdrSl 1 b1 i7) fun x29=>
 OP (iLoad false 1 h x29) fun x30=>
 OP (iBin .sub x21 x30) fun x31=>
 p103z14 P K a0 b1 x5 i7 x31 L1 h)
 (p103z14 P K a0 b1 x5 i7 x21 L1 h))
 (p103z20 P K x5 h)):=cdt (by kernel_rfl)
theorem q103z20:p103z20 P K x5 h=
 (K x5 h):=cdt (by kernel_rfl)
def T103:Prop:=
 OH (iMkSl 3 0 [(.int .i64 (0))] h []) fun x9 h_1=>
 LoopP [x9,(.int .i64 (0)),(.int .i64 (0))] h_1 fun L1 xs hx=>
 p103z6 P K a0 b1 L1 xs hx
theorem e103:iwpP P c103 (bodyP [.tmp 4] K) (frame0 [a0,b1]) h=T103 P K a0 b1 h:=by kernel_rfl
theorem f103 {K:VK} {a0 b1:Value} {h:Heap} (H:T103 Tryz.prog K a0 b1 h):CallP Tryz.prog 103 [a0,b1] h K:=
 callP_intro k103 (Nat.le_of_ble_eq_true rfl) ((e103 Tryz.prog K a0 b1 h).mpr H)
end
/-! F104: pommel/pommelref01.plus -/
noncomputable section
variable (a0 b1 x5 x6 i7 s8 x14 x18 x20 x22 : Value) (L1 : LQ) (xs : List Value) (h : Heap)
def oc104:=compFn Tryz.prog 104 [[],[],[],[0,1],[5,6,7],[0,1,5,6,7,14],[0,1,5,6,7,14,18],[0,1,5,6,7,20],[0,1,5,6,7,20,22],[],[],[],[],[0,1,5,7,8],[],[0,1,5,7,8],[0,1,5,6,7],[5],[]]
@[irreducible] def c104:=icOf oc104
@[irreducible] def c104z6:=c104.r.r.l.r.l.l
@[irreducible] def c104z3:=c104.r.r.r
@[irreducible] def c104z10:=c104z6.l.l.r.l
@[irreducible] def c104z8:=c104z6.l.r
@[irreducible] def c104z7:=c104z6.r
@[irreducible] def c104z27:=c104z3.l
@[irreducible] def c104z12:=c104z10.r.l
@[irreducible] def c104z22:=c104z7.l.l.r.r.l
@[irreducible] def c104z17:=c104z7.r
@[irreducible] def c104z14:=c104z12.r.l
@[irreducible] def c104z25:=c104z22.r.l
@[irreducible] def c104z26:=c104z17.l
@[irreducible] def c104z16:=c104z14.r.l
theorem k104:oc104=some (55,c104,[.tmp 4]):=by kernel_rfl
def K104z0 (_P:Program) (K:VK):Kont:=bodyP [.tmp 4] K
def K104z3:Kont:=thenK (iwpP P c104z3 (K104z0 P K)) (K104z0 P K)
def K104z5:Kont:=inBlockK 0 (K104z3 P K)
def K104z6:Kont:=thenK (fun f' h''=>(([0,1]:List Nat).map f':List Value)=[a0,b1]∧L1 (([5,6,7]:List Nat).map f') h'') (K104z5 P K)
def K104z7:Kont:=thenK (iwpP P c104z7 (K104z6 P K a0 b1 L1)) (K104z6 P K a0 b1 L1)
def K104z8:Kont:=thenK (iwpP P c104z8 (K104z7 P K a0 b1 L1)) (K104z7 P K a0 b1 L1)
def K104z17:Kont:=thenK (iwpP P c104z17 (K104z6 P K a0 b1 L1)) (K104z6 P K a0 b1 L1)
def K104z18:Kont:=inBlockK 1 (K104z17 P K a0 b1 L1)
def p104z6:Prop:=CutP (iwpP P c104z6 (K104z6 P K a0 b1 L1)) ([0,1]++[5,6,7]) ([a0,b1]++xs) h
def p104z10:Prop:=CutP (iwpP P c104z10 (K104z8 P K a0 b1 L1)) [0,1,5,6,7,14] [a0,b1,x5,x6,i7,x14] h
def p104z12:Prop:=CutP (iwpP P c104z12 (K104z8 P K a0 b1 L1)) [0,1,5,6,7,14,18] [a0,b1,x5,x6,i7,x14,x18] h
def p104z14:Prop:=CutP (iwpP P c104z14 (K104z8 P K a0 b1 L1)) [0,1,5,6,7,20] [a0,b1,x5,x6,i7,x20] h
def p104z16:Prop:=CutP (iwpP P c104z16 (K104z8 P K a0 b1 L1)) [0,1,5,6,7,20,22] [a0,b1,x5,x6,i7,x20,x22] h
def p104z22:Prop:=CutP (iwpP P c104z22 (K104z18 P K a0 b1 L1)) [0,1,5,7,8] [a0,b1,x5,i7,s8] h
def p104z25:Prop:=CutP (iwpP P c104z25 (K104z18 P K a0 b1 L1)) [0,1,5,7,8] [a0,b1,x5,i7,s8] h
def p104z26:Prop:=CutP (iwpP P c104z26 (K104z6 P K a0 b1 L1)) [0,1,5,6,7] [a0,b1,x5,x6,i7] h
def p104z27:Prop:=CutP (iwpP P c104z27 (K104z0 P K)) [5] [x5] h
theorem q104z16:p104z16 P K a0 b1 x5 x6 i7 x20 x22 L1 h=
 (OP (iPick x20 (.bool true) x22) fun x23=>
 IfP x23
 (OP (iLenSl a0) fun x29=>
 OP (iBin .lss i7 x29) fun x30=>
 IfP x30
 (OP (iAdrSl 1 a0 i7) fun x34=>
 OP (iLoad false 1 h x34) fun x35=>
 OP (iBin .add x6 x35) fun x36=>
 p104z22 P K a0 b1 x5 i7 x36 L1 h)
 (p104z22 P K a0 b1 x5 i7 x6 L1 h))
 (p104z27 P K x5 h)):=cdt (by kernel_rfl)
theorem q104z14:p104z14 P K a0 b1 x5 x6 i7 x20 L1 h=
 (GdP x20 false
 (OP (iBin .gtr x6 (.int .i64 (0))) fun x22=>
 p104z16 P K a0 b1 x5 x6 i7 x20 x22 L1 h)
 (p104z16 P K a0 b1 x5 x6 i7 x20 undef L1 h)):=cdt (by kernel_rfl)
theorem q104z12:p104z12 P K a0 b1 x5 x6 i7 x14 x18 L1 h=
 (OP (iPick x14 (.bool true) x18) fun x19=>
 p104z14 P K a0 b1 x5 x6 i7 x19 L1 h):=cdt (by kernel_rfl)
theorem q104z10:p104z10 P K a0 b1 x5 x6 i7 x14 L1 h=
 (GdP x14 false
 (OP (iLenSl b1) fun x17=>
 OP (iBin .lss i7 x17) fun x18=>
 p104z12 P K a0 b1 x5 x6 i7 x14 x18 L1 h)
 (p104z12 P K a0 b1 x5 x6 i7 x14 undef L1 h)):=cdt (by kernel_rfl)
theorem q104z25:p104z25 P K a0 b1 x5 i7 s8 L1 h=
 (OP (iBin .rem s8 (.int .i64 (10000))) fun x49=>
 OH (iMkSl 3 1 [(.int .i64 (0))] h [(0,1,x49)]) fun x50 h_1=>
 OH (iApp 3 1 8 h_1 x5 x50) fun x51 h_2=>
 OP (iBin .quo s8 (.int .i64 (10000))) fun x53=>
 p104z26 P K a0 b1 x51 x53 i7 L1 h_2):=cdt (by kernel_rfl)
theorem q104z22:p104z22 P K a0 b1 x5 i7 s8 L1 h=
 (OP (iLenSl b1) fun x39=>
 OP (iBin .lss i7 x39) fun x40=>
 IfP x40
 (OP (iAdrSl 1 b1 i7) fun x44=>
 OP (iLoad false 1 h x44) fun x45=>
 OP (iBin .add s8 x45) fun x46=>
 p104z25 P K a0 b1 x5 i7 x46 L1 h)
 (p104z25 P K a0 b1 x5 i7 s8 L1 h)):=cdt (by kernel_rfl)
theorem q104z26:p104z26 P K a0 b1 x5 x6 i7 L1 h=
 (OP (iBin .add i7 (.int .i64 (1))) fun x25=>
 ([a0,b1]:List Value)=[a0,b1]∧L1 [x5,x6,x25] h):=cdt (by kernel_rfl)
theorem q104z6 (a0 b1:Value) (L1:LQ) (x5 x6 i7:Value) (h:Heap):p104z6 P K a0 b1 L1 [x5,x6,i7] h=
 (OP (iLenSl a0) fun x12=>
 OP (iBin .lss i7 x12) fun x13=>
 p104z10 P K a0 b1 x5 x6 i7 x13 L1 h):=cdt (by kernel_rfl)
theorem q104z27:p104z27 P K x5 h=
 (K x5 h):=cdt (by kernel_rfl)
def T104:Prop:=
 OH (iMkSl 3 0 [(.int .i64 (0))] h []) fun x9 h_1=>
 LoopP [x9,(.int .i64 (0)),(.int .i64 (0))] h_1 fun L1 xs hx=>
 p104z6 P K a0 b1 L1 xs hx
theorem e104:iwpP P c104 (bodyP [.tmp 4] K) (frame0 [a0,b1]) h=T104 P K a0 b1 h:=by kernel_rfl
theorem f104 {K:VK} {a0 b1:Value} {h:Heap} (H:T104 Tryz.prog K a0 b1 h):CallP Tryz.prog 104 [a0,b1] h K:=
 callP_intro k104 (Nat.le_of_ble_eq_true rfl) ((e104 Tryz.prog K a0 b1 h).mpr H)
end
end Go.Proofs.YtelmdbpaoifmoaaGreat

namespace Go.Proofs.YtelmdbpaoifmoaaGreat
open Go.Sim

theorem bigW_Z:bigW≤10000^250:=by decide+kernel
theorem canZ_len {xs:List Nat} (h:Canon 10000 xs) (hv:val 10000 xs<bigW):xs.length≤250:=h.len (by decide) (Nat.lt_of_lt_of_le hv bigW_Z)

def OwnD (b:Nat) (hx:Heap) (v:Value) (os:List Nat):Prop:=OwnS b hx 3 v (os.map fun d:Nat=>I d)

theorem OwnD.ds {b:Nat} {hx:Heap} {v:Value} {os:List Nat} (o:OwnD b hx v os):DS 3 .i64 hx v os:=by
 rcases o with ⟨h1,h2⟩ | ⟨i,_,h2,h3⟩
 ·exact .inl ⟨h1,by simpa using h2⟩
 ·refine .inr ⟨i,by rw [h2,List.length_map],.inr ⟨[],?_⟩⟩
  simp [objCells,h3]

theorem DS.cells {e:TypeId} {k:IntKind} {h:Heap} {v:Value} {xs:List Nat} (p:DS e k h v xs):sliceCells h 1 v=some (xs.map fun d:Nat=>Value.int k (d:Int))∧lenOfSl v=some xs.length:=by
 rcases p with ⟨rfl,rfl⟩ | ⟨i,rfl,hc⟩
 ·exact ⟨rfl,rfl⟩
 ·refine ⟨?_,rfl⟩
  unfold sliceCells sl
  simp only
  by_cases hz:xs.length=0
  ·rw [if_pos hz]
   have:xs=[]:=List.length_eq_zero_iff.1 hz
   subst this
   rfl
  ·obtain ⟨r,hc⟩:=hc.resolve_left (by rintro rfl;simp at hz)
   rw [if_neg hz,hc]
   simp only [Option.bind_some]
   rw [if_pos (by simp)]
   have:((xs.map (fun d:Nat=>Value.int k (d:Int))++r).drop 0).take (xs.length*1)=xs.map fun d:Nat=>Value.int k (d:Int):=by
    rw [List.drop_zero,Nat.mul_one,List.take_append_of_le_length (by simp),List.take_of_length_le (by simp)]
   rw [this]

def MagZ (h:Heap) (v:Value) (n:Nat):Prop:=∃xs,DS 3 .i64 h v xs∧Canon 10000 xs∧val 10000 xs=n
theorem MagZ.mono {h h':Heap} {v:Value} {n:Nat} (x:EX h h') (p:MagZ h v n):MagZ h' v n:=let ⟨xs,a,b,c⟩:=p;⟨xs,a.mono x,b,c⟩

theorem DS.setB {e e':TypeId} {k:IntKind} {h:Heap} {v:Value} {xs:List Nat} {j:Nat} {b:Bool} {r:List Value} (d:DS e k h v xs) (hj:h[j]?=some (.arr e' (.bool b::r))) (o:IObj):DS e k (h.set j o) v xs:=by
 rcases d with d | ⟨i,h1,h2⟩
 ·exact .inl d
 ·refine .inr ⟨i,h1,?_⟩
  rcases h2 with h2 | ⟨rest,h2⟩
  ·exact .inl h2
  ·cases xs with
   | nil=>exact .inl rfl
   | cons x xs=>
    right
    refine ⟨rest,?_⟩
    have hne:j≠i:=by
     rintro rfl
     unfold objCells at h2
     rw [hj] at h2
     simp at h2
    unfold objCells at h2⊢
    rw [List.getElem?_set_ne hne]
    exact h2

theorem MagZ.setB {h:Heap} {v:Value} {n j:Nat} {e:TypeId} {b:Bool} {r:List Value} (p:MagZ h v n) (hj:h[j]?=some (.arr e (.bool b::r))) (o:IObj):MagZ (h.set j o) v n:=
 let ⟨xs,d,c,hv⟩:=p;⟨xs,d.setB hj o,c,hv⟩

def ZV (h:Heap) (val:Value) (z:Int):Prop:=∃v,val=.agg #[B (decide (z<0)),v]∧MagZ h v z.natAbs
theorem ZV.mono {h h':Heap} {v:Value} {z:Int} (x:EX h h') (p:ZV h v z):ZV h' v z:=let ⟨w,a,b⟩:=p;⟨w,a,b.mono x⟩
theorem ZV.setB {h:Heap} {v:Value} {z:Int} {j:Nat} {e:TypeId} {b:Bool} {r:List Value} (p:ZV h v z) (hj:h[j]?=some (.arr e (.bool b::r))) (o:IObj):ZV (h.set j o) v z:=
 let ⟨w,a,q⟩:=p;⟨w,a,q.setB hj o⟩

theorem appD {h0 hx:Heap} {v:Value} {os:List Nat} {d:Nat} {K:Value→Heap→Prop} (o:OwnD h0.length hx v os) (hex:EX h0 hx) (hl:os.length≤10000)
  (hk:∀v' hx',EX h0 hx'→OwnD h0.length hx' v' (os++[d])→K v' hx'):OH (iMkSl 3 1 [.int .i64 0] hx [(0,1,I d)]) fun a h2=>OH (iApp 3 1 8 h2 v a) K:=by
 refine app1 o hex (by simp;omega) (by simp [maxLen];omega) rfl rfl ?_
 intro v' hx' h1 h2
 exact hk v' hx' h1 (by unfold OwnD;simpa using h2)

theorem C100f {s:Bool} {v:Value} {xs:List Nat} {h:Heap} {K:Value→Heap→Prop} (hd:DS 3 .i64 h v xs) (hl:Lim 10000 xs) (hs:xs.length≤1000)
  (hk:∀r h',EX h h'→ZV h' r (if s then -(val 10000 xs:Int) else val 10000 xs)→(∃b i n,r=.agg #[B b,sl 3 i 0 n]∧h.length≤i)→K r h'):CallP Tryz.prog 100 [.agg #[B s,v]] h K:=by
 refine f100 ?_
 have e1:iBox 35 h (.agg #[B s,v])=some (pt h.length 0,h++[.arr 35 [B s,v]]):=rfl
 have e2:∀g:Heap,iAlloc 35 [(.bool false),(.slice none 0 0)] g=some (pt g.length 0,g++[.arr 35 [(.bool false),(.slice none 0 0)]]):=fun _=>rfl
 simp only [T100,e1,OH_some,e2,List.length_append,List.length_cons,List.length_nil]
 have g0:(h++[IObj.arr 35 [B s,v]]++[IObj.arr 35 [(.bool false),(.slice none 0 0)]])[h.length]?=some (.arr 35 [B s,v]):=by simp
 have g1:(h++[IObj.arr 35 [B s,v]]++[IObj.arr 35 [(.bool false),(.slice none 0 0)]])[h.length+1]?=some (.arr 35 [(.bool false),(.slice none 0 0)]):=by simp
 have x1:EX h (h++[IObj.arr 35 [B s,v]]++[IObj.arr 35 [(.bool false),(.slice none 0 0)]]):=(EX.append _ _).push _
 have hlen:(h++[IObj.arr 35 [B s,v]]++[IObj.arr 35 [(.bool false),(.slice none 0 0)]]).length=h.length+2:=by simp
 generalize h++[IObj.arr 35 [B s,v]]++[IObj.arr 35 [(.bool false),(.slice none 0 0)]]=h1 at g0 g1 x1 hlen⊢
 have ld1:iLoad false 1 h1 (pt h.length 1)=some v:=by simp [iLoad,objCells,g0,iPart]
 have hd1:=hd.mono x1
 simp only [fadr_pt,Nat.zero_add,OP_some,ld1,hd1.len]
 refine loopL (σ:=Nat) (fun n=>[I n]) (fun _=>h1) (fun n=>n≤xs.length∧val 10000 (xs.take n)=val 10000 xs) (fun n=>n) xs.length rfl rfl ⟨Nat.le_refl _,by rw [List.take_length]⟩ ?_
 rintro n ⟨hn,hval⟩ L hL
 rw [q100z5]
 -- the end
 have fin:Canon 10000 (xs.take n)→p100z13 Tryz.prog K (pt h.length 0) (pt (h.length+1) 0) (I n) h1:=by
  intro hc
  rw [q100z13]
  have mk:iMkSl 3 0 [.int .i64 0] h1 []=some (sl 3 h1.length 0 0,h1++[.arr 3 []]):=rfl
  have x2:EX h1 (h1++[.arr 3 []]):=EX.append _ _
  obtain ⟨v',p1,p2⟩:=(hd1.mono x2).pop hn
  obtain ⟨c1,c2⟩:=p2.cells
  have hnl:(xs.take n).length=n:=by rw [List.length_take];omega
  simp only [mk,OH_some,fadr_pt,Nat.zero_add,OP_some,EX.load x2 ld1,p1]
  -- copied
  have app:∃w h3,iApp 3 1 8 (h1++[.arr 3 []]) (sl 3 h1.length 0 0) v'=some (w,h3)∧EX h1 h3∧DS 3 .i64 h3 w (xs.take n)∧∃i n,w=sl 3 i 0 n∧h.length≤i:=by
   by_cases hn0:n=0
   ·subst hn0
    refine ⟨sl 3 h1.length 0 0,h1++[.arr 3 []],?_,x2,.inr ⟨h1.length,by simp,.inl (by simp)⟩,h1.length,0,rfl,by omega⟩
    simp [iApp,c1,c2,sl]
   ·refine ⟨sl 3 (h1.length+1) 0 n,(h1++[IObj.arr 3 []]).set h1.length .dead++[.arr 3 ((xs.take n).map fun d:Nat=>I d)],?_,(x2.set (Nat.le_refl _) _).push _,.inr ⟨h1.length+1,by rw [hnl],.inr ⟨[],?_⟩⟩,h1.length+1,n,rfl,by omega⟩
    ·have hg:(h1++[IObj.arr 3 []])[h1.length]?=some (.arr 3 []):=get_last
     simp only [iApp,c1,c2,hnl]
     simp only [sl,hg]
     rw [if_pos ⟨trivial,trivial,by simp,by omega,by unfold maxLen;omega⟩,if_neg hn0]
     simp
    ·unfold objCells
     rw [List.getElem?_append_right (by simp)]
     simp
  obtain ⟨w,h3,a1,a2,a3,wi,wn,hwi,hwl⟩:=app
  simp only [a1,OH_some]
  have g0':=a2.get g0
  have g1':=a2.get g1
  rw [store_at g0' (by simp) a3.one.1 a3.one.2]
  simp only [OH_some,List.set_cons_succ,List.set_cons_zero]
  have k0:(h3.set h.length (.arr 35 [B s,w]))[h.length]?=some (.arr 35 [B s,w]):=set_get g0'
  have k1:(h3.set h.length (.arr 35 [B s,w]))[h.length+1]?=some (.arr 35 [(.bool false),(.slice none 0 0)]):=by rw [List.getElem?_set_ne (by omega)];exact g1'
  have d1:=a3.setB g0' (.arr 35 [B s,w])
  have x3:EX h (h3.set h.length (.arr 35 [B s,w])):=(x1.trans a2).set (Nat.le_refl _) _
  generalize h3.set h.length (.arr 35 [B s,w])=h4 at k0 k1 d1 x3⊢
  have ld0:iLoad false 1 h4 (pt h.length 0)=some (B s):=by simp [iLoad,objCells,k0,iPart]
  simp only [Nat.add_zero,ld0,OP_some]
  have last:∀c:Bool,c=(s&&decide (0<n))→OH (oStore 1 h4 (pt h.length 0) (B c)) fun _ h_1=>OP (iLoad true 2 h_1 (pt h.length 0)) fun x34=>OH (oStore 2 h_1 (pt (h.length+1) 0) x34) fun _ h_2=>OP (iLoad true 2 h_2 (pt (h.length+1) 0)) fun r0=>K r0 h_2:=by
   rintro c rfl
   rw [store_at k0 (by simp) rfl rfl]
   simp only [OH_some,List.set_cons_zero]
   rw [load2 (set_get k0)]
   simp only [OP_some]
   have m1:(h4.set h.length (.arr 35 [B (s&&decide (0<n)),w]))[h.length+1]?=some (.arr 35 [(.bool false),(.slice none 0 0)]):=by rw [List.getElem?_set_ne (by omega)];exact k1
   rw [store2 m1]
   simp only [OH_some]
   rw [load2 (set_get m1)]
   simp only [OP_some]
   refine hk _ _ ((x3.set (Nat.le_refl _) _).set (by omega) _) ⟨w,?_,(xs.take n),(d1.setB k0 _).setB m1 _,hc,?_⟩ ⟨_,wi,wn,by rw [hwi],hwl⟩
   ·have h0n:(0<n↔0<val 10000 xs):=by
     rw [←hval]
     constructor
     ·intro h0
      have:=Canon.low (by decide) hc (by intro h;rw [h] at hnl;simp at hnl;omega)
      have:0<10000^((xs.take n).length-1):=Nat.pow_pos (by decide)
      omega
     ·intro h0
      by_cases hn0:n=0
      ·subst hn0;simp [val] at h0
      ·omega
    have:(s&&decide (0<n))=decide ((if s=true then -(val 10000 xs:Int) else (val 10000 xs:Int))<0):=by
     cases s with
     | true=>
      by_cases h0:0<n
      ·have:=h0n.1 h0
       rw [decide_eq_true h0,decide_eq_true (by simp;omega)];rfl
      ·have:¬0<val 10000 xs:=fun h=>h0 (h0n.2 h)
       rw [decide_eq_false h0,decide_eq_false (by simp;omega)];rfl
     | false=>simp
    rw [this]
   ·rw [hval];cases s <;> simp
  cases s with
  | true=>
   simp only [q100z17,GdP_tt,bin_gtr,OP_some,q100z19,iPick_t,fadr_pt,Nat.add_zero]
   refine last _ ?_
   rw [Bool.true_and]
   by_cases h0:0<n
   ·simp [h0]
   ·simp [h0]
  | false=>
   simp only [q100z17,GdP_ft,q100z19,iPick_f,OP_some,fadr_pt,Nat.add_zero]
   exact last _ rfl
 simp only [bin_gtr,OP_some]
 by_cases hn0:n=0
 ·subst hn0
  rw [decide_eq_false (show ¬(0:Int)<((0:Nat):Int) by omega)]
  simp only [q100z9,GdP_ft,q100z11,iPick_f,OP_some,IfP_false]
  exact fin (by simpa using Canon.nil 10000)
 ·rw [decide_eq_true (show (0:Int)<(n:Int) by omega)]
  have e3:IntKind.wrap .i64 ((n:Int)-1)=((n-1:Nat):Int):=by rw [wrap64 (by omega) (by omega)];omega
  obtain ⟨i,p1,p2⟩:=hd1.get (j:=n-1) (by omega)
  simp only [q100z9,GdP_tt,fadr_pt,Nat.zero_add,OP_some,ld1,bin_sub,e3,p1,p2,bin_eql,q100z11,iPick_t,IfP_dec]
  refine ⟨fun hz=>?_,fun hz=>?_⟩
  ·simp only [true_and]
   refine hL (n-1) ⟨by omega,?_⟩ (by omega)
   have:=val_take_succ 10000 xs (i:=n-1) (by omega)
   rw [show n-1+1=n by omega] at this
   have hz':xs[n-1]'(by omega)=0:=by omega
   rw [hz',Nat.mul_zero] at this
   omega
  ·refine fin (can_of_last (hl.mono fun y hy=>List.mem_of_mem_take hy) ?_)
   intro h1 h2
   rw [List.getElem_take] at h2
   simp only [List.length_take] at h2
   apply hz
   have hm:min n xs.length-1=n-1:=by omega
   simp only [hm] at h2
   omega

theorem C100 {s:Bool} {v:Value} {xs:List Nat} {h:Heap} {K:Value→Heap→Prop} (hd:DS 3 .i64 h v xs) (hl:Lim 10000 xs) (hs:xs.length≤1000)
  (hk:∀r h',EX h h'→ZV h' r (if s then -(val 10000 xs:Int) else val 10000 xs)→K r h'):CallP Tryz.prog 100 [.agg #[B s,v]] h K:=
 C100f hd hl hs fun r h' x z _=>hk r h' x z

end Go.Proofs.YtelmdbpaoifmoaaGreat


namespace Go.Proofs.YtelmdbpaoifmoaaGreat
open Go.Sim

theorem quoI {a b:Nat} (hb:b≠0) (ha:a<9223372036854775808):iBin .quo (.int .i64 (a:Int)) (.int .i64 (b:Int))=some (I ((a / b:Nat):Int)):=by
 have h:¬((b:Int)=0):=by omega
 have h2:a / b≤a:=Nat.div_le_self _ _
 simp only [iBin,iInt,if_true,if_neg h]
 have e:(a:Int).tdiv (b:Int)=((a / b:Nat):Int):=rfl
 rw [e]
 generalize a / b=q at*
 rw [wrap64 (by omega) (by omega)]

theorem mkD0 (h:Heap):iMkSl 3 0 [.int .i64 0] h []=some (sl 3 h.length 0 0,h++[.arr 3 []]):=rfl

theorem ownD0 (h:Heap):OwnD h.length (h++[.arr 3 []]) (sl 3 h.length 0 0) []:=.inr ⟨h.length,Nat.le_refl _,rfl,by simp⟩

theorem C104 {va vb:Value} {xs ys:List Nat} {h:Heap} {K:Value→Heap→Prop} (hx:DS 3 .i64 h va xs) (hy:DS 3 .i64 h vb ys) (lx:Lim 10000 xs) (ly:Lim 10000 ys) (sx:xs.length≤400) (sy:ys.length≤400)
  (hk:∀v h' os,EX h h'→DS 3 .i64 h' v os→Lim 10000 os→os.length≤500→val 10000 os=val 10000 xs+val 10000 ys→K v h'):CallP Tryz.prog 104 [va,vb] h K:=by
 refine f104 ?_
 simp only [T104,mkD0,OH_some]
 refine loopL (σ:=Value×Nat×List Nat×Heap) (fun p=>[p.1,I p.2.1,I p.2.2.1.length]) (fun p=>p.2.2.2)
  (fun p=>EX h p.2.2.2∧OwnD h.length p.2.2.2 p.1 p.2.2.1∧p.2.1≤1∧Lim 10000 p.2.2.1∧p.2.2.1.length≤max xs.length ys.length+1∧(p.2.2.1.length=max xs.length ys.length+1→p.2.1=0)∧val 10000 p.2.2.1+10000^p.2.2.1.length*p.2.1=val 10000 (xs.take p.2.2.1.length)+val 10000 (ys.take p.2.2.1.length)) (fun p=>max xs.length ys.length+1-p.2.2.1.length)
  (sl 3 h.length 0 0,0,[],h++[.arr 3 []]) rfl rfl ⟨EX.append _ _,ownD0 h,by simp,fun x hx=>by simp at hx,by simp,by simp,by simp [val]⟩ ?_
 rintro ⟨v,c,os,hx'⟩ ⟨hex,hown,hc,hlim,hlen,hend,hval⟩ L hL
 simp only at hex hown hc hlim hlen hend hval hL⊢
 rw [q104z6]
 have dx:=hx.mono hex
 have dy:=hy.mono hex
 -- one digit
 have dig:∀(x y:Nat),x<10000→y<10000→(os.length<max xs.length ys.length∨0<c)→val 10000 (xs.take (os.length+1))=val 10000 (xs.take os.length)+10000^os.length*x→val 10000 (ys.take (os.length+1))=val 10000 (ys.take os.length)+10000^os.length*y→
   (x=0∧y=0∨os.length<max xs.length ys.length)→p104z25 Tryz.prog K va vb v (I os.length) (I ((c+x+y:Nat):Int)) L hx':=by
  intro x y hxl hyl hor e1 e2 hlast
  rw [q104z25]
  rw [show (.int .i64 10000:Value)=.int .i64 ((10000:Nat):Int) from rfl,rem_nat _ _ _ (by decide)]
  simp only [OP_some]
  refine appD hown hex (by omega) ?_
  intro v' h2 x2 o2
  rw [quoI (by decide) (by omega)]
  simp only [OP_some,q104z26,bin_add,inc os.length (by omega),true_and]
  have hlen':os.length<max xs.length ys.length+1:=by
   rcases hor with h | h
   ·omega
   ·apply Classical.byContradiction
    intro hc2
    have:=hend (by omega)
    omega
  have hm:(c+x+y)%10000<10000:=Nat.mod_lt _ (by decide)
  have hdm:=Nat.mod_add_div (c+x+y) 10000
  have el:(os++[(c+x+y)%10000]).length=os.length+1:=by simp
  have:=hL (v',(c+x+y) / 10000,os++[(c+x+y)%10000],h2) ⟨x2,o2,by show (c+x+y) / 10000≤1;omega,hlim.append (fun z hz=>by simp at hz;omega),by rw [el];omega,?_,?_⟩ (by rw [el];omega)
  ·rw [el] at this
   exact this
  ·intro h9
   rw [el] at h9
   show (c+x+y) / 10000=0
   rcases hlast with ⟨rfl,rfl⟩ | h
   ·omega
   ·omega
  ·rw [el]
   show val 10000 (os++[(c+x+y)%10000])+10000^(os.length+1)*((c+x+y) / 10000)=_
   rw [val_append,e1,e2,Nat.pow_succ]
   simp only [val,Nat.mul_zero,Nat.add_zero]
   generalize (c+x+y) / 10000=q at*
   generalize (c+x+y)%10000=m at*
   generalize 10000^os.length=P at*
   generalize val 10000 os=V at*
   clear hL dx dy hx hy hown
   grind
 have next:(os.length<max xs.length ys.length∨0<c)→OP (iLenSl va) fun x29=>OP (iBin .lss (I os.length) x29) fun x30=>IfP x30
   (OP (iAdrSl 1 va (I os.length)) fun x34=>OP (iLoad false 1 hx' x34) fun x35=>OP (iBin .add (I c) x35) fun x36=>p104z22 Tryz.prog K va vb v (I os.length) x36 L hx')
   (p104z22 Tryz.prog K va vb v (I os.length) (I c) L hx'):=by
  intro hor
  have second:∀x:Nat,x<10000→val 10000 (xs.take (os.length+1))=val 10000 (xs.take os.length)+10000^os.length*x→(x=0∨os.length<xs.length)→p104z22 Tryz.prog K va vb v (I os.length) (I ((c+x:Nat):Int)) L hx':=by
   intro x hxl e1 hx0
   rw [q104z22]
   simp only [dy.len,OP_some,bin_lss,IfP_dec]
   refine ⟨fun hlt=>?_,fun hge=>?_⟩
   ·obtain ⟨i,g1,g2⟩:=dy.get (j:=os.length) (by omega)
    have hyl:=ly _ (List.getElem_mem (show os.length<ys.length by omega))
    have e2:=val_take_succ 10000 ys (i:=os.length) (by omega)
    generalize ys[os.length]'(by omega)=y at g2 hyl e2
    have ea:IntKind.wrap .i64 (((c+x:Nat):Int)+(y:Int))=((c+x+y:Nat):Int):=by rw [wrap64 (by omega) (by omega)];omega
    simp only [g1,OP_some,g2,bin_add,ea]
    exact dig x y hxl hyl hor e1 e2 (.inr (by omega))
   ·have:=dig x 0 hxl (by decide) hor e1 (by rw [List.take_of_length_le (by omega),List.take_of_length_le (by omega)];simp) (by rcases hx0 with h | h;exact .inl ⟨h,rfl⟩;exact .inr (by omega))
    simpa using this
  simp only [dx.len,OP_some,bin_lss,IfP_dec]
  refine ⟨fun hlt=>?_,fun hge=>?_⟩
  ·obtain ⟨i,g1,g2⟩:=dx.get (j:=os.length) (by omega)
   have hxl:=lx _ (List.getElem_mem (show os.length<xs.length by omega))
   have e1:=val_take_succ 10000 xs (i:=os.length) (by omega)
   generalize xs[os.length]'(by omega)=x at g2 hxl e1
   have ea:IntKind.wrap .i64 ((c:Int)+(x:Int))=((c+x:Nat):Int):=by rw [wrap64 (by omega) (by omega)];omega
   simp only [g1,OP_some,g2,bin_add,ea]
   exact second x hxl e1 (.inr (by omega))
  ·have:=second 0 (by decide) (by rw [List.take_of_length_le (by omega),List.take_of_length_le (by omega)];simp) (.inl rfl)
   simpa using this
 have done:¬(os.length<max xs.length ys.length∨0<c)→p104z27 Tryz.prog K v hx':=by
  intro hno
  rw [q104z27]
  refine hk v hx' os hex hown.ds hlim (by omega) ?_
  have hc0:c=0:=by omega
  rw [hc0,Nat.mul_zero,Nat.add_zero,List.take_of_length_le (by omega),List.take_of_length_le (by omega)] at hval
  exact hval
 simp only [dx.len,OP_some,bin_lss]
 by_cases h1:os.length<xs.length
 ·rw [decide_eq_true (show (os.length:Int)<(xs.length:Int) by omega)]
  simp only [q104z10,GdP_tf,q104z12,iPick_t,OP_some,q104z14,q104z16,IfP_true]
  exact next (.inl (by omega))
 ·rw [decide_eq_false (show ¬(os.length:Int)<(xs.length:Int) by omega)]
  simp only [q104z10,GdP_ff,dy.len,OP_some,bin_lss]
  by_cases h2:os.length<ys.length
  ·rw [decide_eq_true (show (os.length:Int)<(ys.length:Int) by omega)]
   simp only [q104z12,iPick_f,OP_some,q104z14,GdP_tf,q104z16,iPick_t,IfP_true]
   exact next (.inl (by omega))
  ·rw [decide_eq_false (show ¬(os.length:Int)<(ys.length:Int) by omega)]
   simp only [q104z12,iPick_f,OP_some,q104z14,GdP_ff,bin_gtr]
   by_cases h3:0<c
   ·rw [decide_eq_true (show (0:Int)<(c:Int) by omega)]
    simp only [q104z16,iPick_f,OP_some,IfP_true]
    exact next (.inr h3)
   ·rw [decide_eq_false (show ¬(0:Int)<(c:Int) by omega)]
    simp only [q104z16,iPick_f,OP_some,IfP_false]
    exact done (by omega)

theorem C103 {va vb:Value} {xs ys:List Nat} {h:Heap} {K:Value→Heap→Prop} (hx:DS 3 .i64 h va xs) (hy:DS 3 .i64 h vb ys) (lx:Lim 10000 xs) (ly:Lim 10000 ys) (sx:xs.length≤400) (hyx:ys.length≤xs.length) (hle:val 10000 ys≤val 10000 xs)
  (hk:∀v h' os,EX h h'→DS 3 .i64 h' v os→Lim 10000 os→os.length≤500→val 10000 os=val 10000 xs-val 10000 ys→K v h'):CallP Tryz.prog 103 [va,vb] h K:=by
 refine f103 ?_
 simp only [T103,mkD0,OH_some]
 refine loopL (σ:=Value×Nat×List Nat×Heap) (fun p=>[p.1,I p.2.1,I p.2.2.1.length]) (fun p=>p.2.2.2)
  (fun p=>EX h p.2.2.2∧OwnD h.length p.2.2.2 p.1 p.2.2.1∧p.2.1≤1∧Lim 10000 p.2.2.1∧p.2.2.1.length≤xs.length∧val 10000 p.2.2.1+val 10000 (ys.take p.2.2.1.length)=val 10000 (xs.take p.2.2.1.length)+10000^p.2.2.1.length*p.2.1) (fun p=>xs.length-p.2.2.1.length)
  (sl 3 h.length 0 0,0,[],h++[.arr 3 []]) rfl rfl ⟨EX.append _ _,ownD0 h,by simp,fun x hx=>by simp at hx,by simp,by simp [val]⟩ ?_
 rintro ⟨v,c,os,hx'⟩ ⟨hex,hown,hc,hlim,hlen,hval⟩ L hL
 simp only at hex hown hc hlim hlen hval hL⊢
 rw [q103z6]
 have dx:=hx.mono hex
 have dy:=hy.mono hex
 simp only [dx.len,OP_some,bin_lss,IfP_dec]
 refine ⟨fun hlt=>?_,fun hge=>?_⟩
 ·have hil:os.length<xs.length:=by omega
  obtain ⟨i,g1,g2⟩:=dx.get hil
  have hxl:=lx _ (List.getElem_mem hil)
  have e1:=val_take_succ 10000 xs hil
  generalize xs[os.length]=x at g2 hxl e1
  have dig:∀y:Nat,y<10000→val 10000 (ys.take (os.length+1))=val 10000 (ys.take os.length)+10000^os.length*y→p103z14 Tryz.prog K va vb v (I os.length) (I ((x:Int)-c-y)) L hx':=by
   intro y hyl e2
   rw [q103z14]
   have go:∀d b:Nat,d<10000→b≤1→d+y+c=x+10000*b→p103z18 Tryz.prog K va vb v (I b) (I os.length) (I d) L hx':=by
    intro d b hd hb he
    rw [q103z18]
    refine appD hown hex (by omega) ?_
    intro v' h2 x2 o2
    simp only [q103z19,bin_add,OP_some,inc os.length (by omega),true_and]
    have el:(os++[d]).length=os.length+1:=by simp
    have:=hL (v',b,os++[d],h2) ⟨x2,o2,hb,hlim.append (fun z hz=>by simp at hz;omega),by rw [el];omega,?_⟩ (by rw [el];omega)
    ·rw [el] at this
     exact this
    ·rw [el]
     show val 10000 (os++[d])+_=_
     rw [val_append,e1,e2,Nat.pow_succ]
     simp only [val,Nat.mul_zero,Nat.add_zero]
     generalize 10000^os.length=P at*
     generalize val 10000 os=V at*
     clear hL dx dy hx hy hown
     grind
   simp only [bin_lss,OP_some,IfP_dec]
   refine ⟨fun hneg=>?_,fun hpos=>?_⟩
   ·obtain ⟨d,hd⟩:∃d:Nat,(x:Int)-c-y+10000=d:=⟨((x:Int)-c-y+10000).toNat,by omega⟩
    simp only [bin_add,OP_some,hd]
    rw [wrap64 (by omega) (by omega)]
    exact go d 1 (by omega) (by omega) (by omega)
   ·obtain ⟨d,hd⟩:∃d:Nat,(x:Int)-c-y=d:=⟨((x:Int)-c-y).toNat,by omega⟩
    rw [hd]
    exact go d 0 (by omega) (by omega) (by omega)
  simp only [g1,OP_some,g2,bin_sub,dy.len,bin_lss,IfP_dec]
  rw [wrap64 (n:=(x:Int)-c) (by omega) (by omega)]
  refine ⟨fun hly=>?_,fun hgy=>?_⟩
  ·obtain ⟨i',k1,k2⟩:=dy.get (j:=os.length) (by omega)
   have hyl:=ly _ (List.getElem_mem (show os.length<ys.length by omega))
   have e2:=val_take_succ 10000 ys (i:=os.length) (by omega)
   generalize ys[os.length]'(by omega)=y at k2 hyl e2
   simp only [k1,OP_some,k2,bin_sub]
   rw [wrap64 (by omega) (by omega)]
   exact dig y hyl e2
  ·have:=dig 0 (by decide) (by rw [List.take_of_length_le (by omega),List.take_of_length_le (by omega)];simp)
   simpa using this
 ·have hl:os.length=xs.length:=by omega
  rw [q103z20]
  rw [hl,List.take_length,List.take_of_length_le hyx] at hval
  have hlt:=val_lt hlim
  rw [hl] at hlt
  have hc0:c=0:=by
   apply Classical.byContradiction
   intro hne
   have:c=1:=by omega
   subst this
   omega
  subst hc0
  exact hk v hx' os hex hown.ds hlim (by omega) (by omega)

theorem C101 {va vb:Value} {a b:Nat} {h:Heap} {K:Value→Heap→Prop} (ha:MagZ h va a) (hb:MagZ h vb b) (la:a<bigW) (lb:b<bigW) (hk:K (I (sgn a b)) h):CallP Tryz.prog 101 [va,vb] h K:=by
 obtain ⟨xs,hx,cx,rfl⟩:=ha
 obtain ⟨ys,hy,cy,rfl⟩:=hb
 have l1:=canZ_len cx la
 have l2:=canZ_len cy lb
 have less:val 10000 xs<val 10000 ys→K (.int .i64 (-1)) h:=fun h1=>by unfold sgn at hk;rw [if_pos h1] at hk;exact hk
 have more:val 10000 ys<val 10000 xs→K (.int .i64 1) h:=fun h1=>by unfold sgn at hk;rw [if_neg (by omega),if_pos h1] at hk;exact hk
 have same:val 10000 xs=val 10000 ys→K (.int .i64 0) h:=fun h1=>by unfold sgn at hk;rw [if_neg (by omega),if_neg (by omega)] at hk;exact hk
 refine f101 ?_
 simp only [T101,hx.len,hy.len,OP_some,bin_neq,IfP_ndec,bin_lss,IfP_dec]
 refine ⟨fun hne=>⟨fun hlt=>less (Canon.lt_of_len (by decide) cx cy (by omega)),fun hge=>more (Canon.lt_of_len (by decide) cy cx (by omega))⟩,fun he=>?_⟩
 have he':xs.length=ys.length:=by omega
 simp only [bin_sub,OP_some]
 have e1:IntKind.wrap .i64 ((xs.length:Int)-1)=(xs.length:Int)-1:=by rw [wrap64 (by omega) (by omega)]
 rw [e1]
 refine loopL (σ:=Nat) (fun i=>[I ((i:Int)-1)]) (fun _=>h) (fun i=>i≤xs.length∧xs.drop i=ys.drop i) (fun i=>i) xs.length rfl rfl ⟨Nat.le_refl _,by rw [List.drop_length,he',List.drop_length]⟩ ?_
 rintro i ⟨hi,hdr⟩ L hL
 rw [q101z11]
 simp only [bin_geq,OP_some,IfP_dec]
 refine ⟨fun hge=>?_,fun hlt=>?_⟩
 ·obtain ⟨j,rfl⟩:∃j,i=j+1:=⟨i-1,by omega⟩
  have ej:(((j+1:Nat):Int)-1)=(j:Int):=by omega
  rw [ej]
  obtain ⟨ia,a1,a2⟩:=hx.get (j:=j) (by omega)
  obtain ⟨ib,b1,b2⟩:=hy.get (j:=j) (by omega)
  simp only [a1,a2,b1,b2,OP_some,true_and,bin_lss,IfP_dec]
  refine ⟨fun hlt=>less (val_lt_of_top cx.1 cy.1 he' (i:=j) (by omega) hdr (by omega)),fun hge=>?_⟩
  simp only [bin_gtr,OP_some,IfP_dec]
  refine ⟨fun hgt=>more (val_lt_of_top cy.1 cx.1 he'.symm (i:=j) (by omega) hdr.symm (by omega)),fun hle=>?_⟩
  simp only [bin_sub,OP_some]
  rw [wrap64 (by omega) (by omega)]
  refine hL j ⟨by omega,?_⟩ (by omega)
  rw [List.drop_eq_getElem_cons (by omega),List.drop_eq_getElem_cons (show j<ys.length by omega),hdr]
  congr 1
  omega
 ·have:i=0:=by omega
  subst this
  rw [List.drop_zero,List.drop_zero] at hdr
  exact same (by rw [hdr])

end Go.Proofs.YtelmdbpaoifmoaaGreat


namespace Go.Proofs.YtelmdbpaoifmoaaGreat
open Go.Sim

theorem fin2z {h':Heap} {j:Nat} {b0 v0 b v:Value} {K:Value→Heap→Prop} (hg:h'[j]?=some (.arr 35 [b0,v0])) (hk:K (.agg #[b,v]) (h'.set j (.arr 35 [b,v]))):
  OH (oStore 2 h' (pt j 0) (.agg #[b,v])) fun _ h6=>OP (iLoad true 2 h6 (pt j 0)) fun r0=>K r0 h6:=by
 rw [store2 hg]
 simp only [OH_some]
 rw [load2 (set_get hg)]
 exact OP_some.2 hk

structure Box2z (h:Heap) (va vb:Value) (sa sb:Bool) (h3:Heap):Prop where
 ex:EX h h3
 a0:iLoad false 1 h3 (pt h.length 0)=some (B sa)
 a1:iLoad false 1 h3 (pt h.length 1)=some va
 b0:iLoad false 1 h3 (pt (h.length+1) 0)=some (B sb)
 b1:iLoad false 1 h3 (pt (h.length+1) 1)=some vb
 a2:iLoad true 2 h3 (pt h.length 0)=some (.agg #[B sa,va])
 b2:iLoad true 2 h3 (pt (h.length+1) 0)=some (.agg #[B sb,vb])
 out:h3[h.length+2]?=some (.arr 35 [.bool false,.slice none 0 0])

theorem box2z {h:Heap} {va vb:Value} {sa sb:Bool} {K:Value→Value→Value→Heap→Prop} (hk:∀h3,Box2z h va vb sa sb h3→K (pt h.length 0) (pt (h.length+1) 0) (pt (h.length+2) 0) h3):
  OH (iBox 35 h (.agg #[B sa,va])) fun a2 h_1=>OH (iBox 35 h_1 (.agg #[B sb,vb])) fun b3 h_2=>OH (iAlloc 35 [(.bool false),(.slice none 0 0)] h_2) fun x4 h_3=>K a2 b3 x4 h_3:=by
 have e1:∀(g:Heap) (s:Bool) (v:Value),iBox 35 g (.agg #[B s,v])=some (pt g.length 0,g++[.arr 35 [B s,v]]):=fun _ _ _=>rfl
 have e2:∀(g:Heap),iAlloc 35 [(.bool false),(.slice none 0 0)] g=some (pt g.length 0,g++[.arr 35 [(.bool false),(.slice none 0 0)]]):=fun _=>rfl
 simp only [e1,e2,OH_some,List.length_append,List.length_cons,List.length_nil]
 have g0:(h++[IObj.arr 35 [B sa,va]]++[IObj.arr 35 [B sb,vb]]++[IObj.arr 35 [(.bool false),(.slice none 0 0)]])[h.length]?=some (.arr 35 [B sa,va]):=by simp
 have g1:(h++[IObj.arr 35 [B sa,va]]++[IObj.arr 35 [B sb,vb]]++[IObj.arr 35 [(.bool false),(.slice none 0 0)]])[h.length+1]?=some (.arr 35 [B sb,vb]):=by simp
 have g2:(h++[IObj.arr 35 [B sa,va]]++[IObj.arr 35 [B sb,vb]]++[IObj.arr 35 [(.bool false),(.slice none 0 0)]])[h.length+2]?=some (.arr 35 [(.bool false),(.slice none 0 0)]):=by simp
 refine hk _ ⟨((EX.append _ _).push _).push _,?_,?_,?_,?_,load2 g0,load2 g1,g2⟩
 ·simp [iLoad,objCells,iPart]
 ·simp [iLoad,objCells,iPart]
 ·simp [iLoad,objCells,iPart]
 ·simp [iLoad,objCells,iPart]

theorem build2 {b:Bool} {e:TypeId} {k:IntKind} {h:Heap} {v:Value} {xs:List Nat} (d:DS e k h v xs):iBuild [(.bool false),(.slice none 0 0)] [(0,1,B b),(1,1,v)]=some (.agg #[B b,v]):=by
 rcases d with ⟨rfl,_⟩ | ⟨i,rfl,_⟩ <;> rfl

theorem C70 {va vb:Value} {a b:Int} {h:Heap} {K:Value→Heap→Prop} (ha:ZV h va a) (hb:ZV h vb b) (la:a.natAbs<bigW) (lb:b.natAbs<bigW) (hk:∀r h',EX h h'→ZV h' r (a+b)→K r h'):CallP Tryz.prog 70 [va,vb] h K:=by
 obtain ⟨v,rfl,hv⟩:=ha
 obtain ⟨w,rfl,hw⟩:=hb
 refine f70 ?_
 unfold T70
 refine box2z ?_
 intro h3 x
 have hv3:=hv.mono x.ex
 have hw3:=hw.mono x.ex
 obtain ⟨xs,dx,cx,ex⟩:=id hv3
 obtain ⟨ys,dy,cy,ey⟩:=id hw3
 have l1:=canZ_len cx (by rw [ex];exact la)
 have l2:=canZ_len cy (by rw [ey];exact lb)
 simp only [fadr_pt,Nat.add_zero,Nat.zero_add,OP_some,x.a0,x.a1,x.b0,x.b1,eqb_bool,Bool.false_eq_true,if_false]
 -- the result,put in its place
 have put:∀(s:Bool) (u:Value) (os:List Nat) (h4:Heap) (z:Int),EX h3 h4→DS 3 .i64 h4 u os→Lim 10000 os→os.length≤500→(if s then -(val 10000 os:Int) else (val 10000 os:Int))=z→z=a+b→
   OP (iBuild [(.bool false),(.slice none 0 0)] [(0,1,B s),(1,1,u)]) fun x17=>CallP Tryz.prog 100 [x17] h4 fun x18 h_5=>OH (oStore 2 h_5 (pt (h.length+2) 0) x18) fun _ h_6=>OP (iLoad true 2 h_6 (pt (h.length+2) 0)) fun r0=>K r0 h_6:=by
  intro s u os h4 z x4 d4 l4 s4 hz hz2
  simp only [build2 d4,OP_some]
  refine C100 d4 l4 (by omega) ?_
  intro r h5 x5 zr
  rw [hz,hz2] at zr
  obtain ⟨q,rfl,hq⟩:=id zr
  have g':=(x4.trans x5).get x.out
  exact fin2z g' (hk _ _ (((x.ex.trans x4).trans x5).set (by omega) _) (zr.setB g' _))
 refine IfP_of (fun he=>?_) fun hne=>?_
 ·have hs:decide (a<0)=decide (b<0):=by simpa using he
  have hs':(a<0↔b<0):=by simpa using hs
  simp only [true_and]
  refine C104 dx dy cx.1 cy.1 (by omega) (by omega) ?_
  intro u h4 os x4 d4 l4 s4 v4
  refine ⟨⟨EX.load x4 x.a0,trivial⟩,?_⟩
  have:=put (decide (a<0)) u os h4 _ x4 d4 l4 s4 rfl (by
   rw [v4,ex,ey]
   by_cases h0:a<0
   ·rw [decide_eq_true h0];simp;omega
   ·rw [decide_eq_false h0];simp;omega)
  simpa using this
 ·have hs:decide (a<0)≠decide (b<0):=by simpa using hne
  have hs':¬(a<0↔b<0):=fun h=>hs (decide_eq_decide.2 h)
  refine C101 hv3 hw3 la lb ?_
  simp only [bin_geq,OP_some,IfP_dec]
  have ll:∀{p q:List Nat},Canon 10000 p→Canon 10000 q→val 10000 q≤val 10000 p→q.length≤p.length:=by
   intro p q cp cq hpq
   apply Classical.byContradiction
   intro hc
   have:=Canon.lt_of_len (by decide) cp cq (by omega)
   omega
  refine ⟨fun hge=>?_,fun hlt=>?_⟩
  ·have hle:b.natAbs≤a.natAbs:=by
    apply Classical.byContradiction
    intro hc
    unfold sgn at hge
    rw [if_pos (by omega)] at hge
    omega
   simp only [x.a0,x.a1,x.b1,OP_some,true_and]
   refine C103 dx dy cx.1 cy.1 (by omega) (ll cx cy (by omega)) (by omega) ?_
   intro u h4 os x4 d4 l4 s4 v4
   refine ⟨⟨EX.load x4 x.a0,trivial⟩,?_⟩
   have:=put (decide (a<0)) u os h4 _ x4 d4 l4 s4 rfl (by
    rw [v4,ex,ey]
    by_cases h0:a<0
    ·rw [decide_eq_true h0];simp;omega
    ·rw [decide_eq_false h0];simp;omega)
   simpa using this
  ·have hle:a.natAbs≤b.natAbs:=by
    apply Classical.byContradiction
    intro hc
    unfold sgn at hlt
    rw [if_neg (by omega),if_pos (by omega)] at hlt
    omega
   simp only [x.b0,x.a1,x.b1,OP_some,true_and]
   refine C103 dy dx cy.1 cx.1 (by omega) (ll cy cx (by omega)) (by omega) ?_
   intro u h4 os x4 d4 l4 s4 v4
   refine ⟨⟨EX.load x4 x.b0,trivial⟩,?_⟩
   have:=put (decide (b<0)) u os h4 _ x4 d4 l4 s4 rfl (by
    rw [v4,ex,ey]
    by_cases h0:b<0
    ·rw [decide_eq_true h0];simp;omega
    ·rw [decide_eq_false h0];simp;omega)
   simpa using this

theorem MagZ.len0 {h:Heap} {v:Value} {n:Nat} (p:MagZ h v n):∃l:Nat,iLenSl v=some (I l)∧(0<l↔0<n):=by
 obtain ⟨xs,d,c,rfl⟩:=p
 refine ⟨xs.length,d.len,?_⟩
 constructor
 ·intro h0
  have:=Canon.low (by decide) c (by rintro rfl;simp at h0)
  have:0<10000^(xs.length-1):=Nat.pow_pos (by decide)
  omega
 ·intro h0
  cases xs with
  | nil=>simp [val] at h0
  | cons x xs=>simp

theorem C95 {va:Value} {a:Int} {h:Heap} {K:Value→Heap→Prop} (ha:ZV h va a) (hk:∀r h',EX h h'→ZV h' r (-a)→K r h'):CallP Tryz.prog 95 [va] h K:=by
 obtain ⟨v,rfl,hv⟩:=ha
 refine f95 ?_
 have e1:iBox 35 h (.agg #[B (decide (a<0)),v])=some (pt h.length 0,h++[.arr 35 [B (decide (a<0)),v]]):=rfl
 have e2:∀(g:Heap),iAlloc 35 [(.bool false),(.slice none 0 0)] g=some (pt g.length 0,g++[.arr 35 [(.bool false),(.slice none 0 0)]]):=fun _=>rfl
 simp only [T95,e1,e2,OH_some,List.length_append,List.length_cons,List.length_nil]
 have g0:(h++[IObj.arr 35 [B (decide (a<0)),v]]++[IObj.arr 35 [(.bool false),(.slice none 0 0)]])[h.length]?=some (.arr 35 [B (decide (a<0)),v]):=by simp
 have g1:(h++[IObj.arr 35 [B (decide (a<0)),v]]++[IObj.arr 35 [(.bool false),(.slice none 0 0)]])[h.length+1]?=some (.arr 35 [(.bool false),(.slice none 0 0)]):=by simp
 have x1:EX h (h++[IObj.arr 35 [B (decide (a<0)),v]]++[IObj.arr 35 [(.bool false),(.slice none 0 0)]]):=(EX.append _ _).push _
 generalize h++[IObj.arr 35 [B (decide (a<0)),v]]++[IObj.arr 35 [(.bool false),(.slice none 0 0)]]=h1 at g0 g1 x1⊢
 have l0:iLoad false 1 h1 (pt h.length 0)=some (B (decide (a<0))):=by simp [iLoad,objCells,g0,iPart]
 have l1:iLoad false 1 h1 (pt h.length 1)=some v:=by simp [iLoad,objCells,g0,iPart]
 have hv1:=hv.mono x1
 obtain ⟨l,n1,n2⟩:=hv1.len0
 have last:∀c:Bool,c=decide (-a<0)→OH (oStore 1 h1 (pt h.length 0) (B c)) fun _ h_1=>OP (iLoad true 2 h_1 (pt h.length 0)) fun x13=>OH (oStore 2 h_1 (pt (h.length+1) 0) x13) fun _ h_2=>OP (iLoad true 2 h_2 (pt (h.length+1) 0)) fun r0=>K r0 h_2:=by
  rintro c rfl
  rw [store_at g0 (by simp) rfl rfl]
  simp only [OH_some,List.set_cons_zero]
  rw [load2 (set_get g0)]
  simp only [OP_some]
  have m1:(h1.set h.length (.arr 35 [B (decide (-a<0)),v]))[h.length+1]?=some (.arr 35 [(.bool false),(.slice none 0 0)]):=by rw [List.getElem?_set_ne (by omega)];exact g1
  refine fin2z m1 (hk _ _ ((x1.set (Nat.le_refl _) _).set (by omega) _) ⟨v,rfl,?_⟩)
  have:(-a).natAbs=a.natAbs:=by omega
  rw [this]
  exact (hv1.setB g0 _).setB m1 _
 simp only [fadr_pt,Nat.add_zero,OP_some,l0,un_not]
 by_cases h0:a<0
 ·rw [decide_eq_true h0]
  simp only [Bool.not_true,q95z4,GdP_ft,q95z6,iPick_f,OP_some,fadr_pt,Nat.add_zero]
  rw [decide_eq_true h0] at*
  exact last _ (by simp;omega)
 ·rw [decide_eq_false h0]
  simp only [Bool.not_false,q95z4,GdP_tt,fadr_pt,Nat.zero_add,OP_some,l1,n1,bin_gtr,q95z6,iPick_t,Nat.add_zero]
  refine last _ ?_
  rw [decide_eq_decide]
  omega

theorem C92 {va vb:Value} {a b:Int} {h:Heap} {K:Value→Heap→Prop} (ha:ZV h va a) (hb:ZV h vb b) (la:a.natAbs<bigW) (lb:b.natAbs<bigW) (hk:∀r h',EX h h'→ZV h' r (a-b)→K r h'):CallP Tryz.prog 92 [va,vb] h K:=by
 have ha0:=ha
 have hb0:=hb
 obtain ⟨v,rfl,hv⟩:=ha
 obtain ⟨w,rfl,hw⟩:=hb
 refine f92 ?_
 unfold T92
 refine box2z ?_
 intro h3 x
 simp only [OP_some,x.a2,x.b2,true_and]
 refine C95 (hb0.mono x.ex) ?_
 intro r1 h4 x4 i1
 refine ⟨⟨EX.load x4 x.a2,trivial⟩,?_⟩
 refine C70 (ha0.mono (x.ex.trans x4)) i1 la (by rw [Int.natAbs_neg];exact lb) ?_
 intro r2 h5 x5 i2
 have g':=(x4.trans x5).get x.out
 obtain ⟨u,rfl,hu⟩:=id i2
 refine fin2z g' (hk _ _ (((x.ex.trans x4).trans x5).set (by omega) _) ?_)
 rw [Int.sub_eq_add_neg]
 exact i2.setB g' _

def isgn (z:Int):Int:=if z=0 then 0 else if z<0 then -1 else 1

theorem C48 {va:Value} {a:Int} {h:Heap} {K:Value→Heap→Prop} (ha:ZV h va a) (hk:∀h',EX h h'→K (I (isgn a)) h'):CallP Tryz.prog 48 [va] h K:=by
 obtain ⟨v,rfl,hv⟩:=ha
 refine f48 ?_
 have e1:iBox 35 h (.agg #[B (decide (a<0)),v])=some (pt h.length 0,h++[.arr 35 [B (decide (a<0)),v]]):=rfl
 simp only [T48,e1,OH_some]
 have l0:iLoad false 1 (h++[.arr 35 [B (decide (a<0)),v]]) (pt h.length 0)=some (B (decide (a<0))):=load_last rfl
 have l1:iLoad false 1 (h++[.arr 35 [B (decide (a<0)),v]]) (pt h.length 1)=some v:=load_last rfl
 have x1:EX h (h++[.arr 35 [B (decide (a<0)),v]]):=EX.append _ _
 obtain ⟨l,n1,n2⟩:=hv.len0
 have hk':=hk _ x1
 unfold isgn at hk'
 simp only [fadr_pt,Nat.zero_add,Nat.add_zero,OP_some,l1,n1,bin_eql,IfP_dec,l0]
 refine ⟨fun h0=>?_,fun h0=>⟨fun hn=>?_,fun hn=>?_⟩⟩
 ·rw [if_pos (by omega)] at hk';exact hk'
 ·rw [if_neg (by omega),if_pos hn] at hk';exact hk'
 ·rw [if_neg (by omega),if_neg hn] at hk';exact hk'

theorem C72 {va vb:Value} {a b:Int} {h:Heap} {K:Value→Heap→Prop} (ha:ZV h va a) (hb:ZV h vb b) (la:a.natAbs<bigW) (lb:b.natAbs<bigW) (hk:∀h',EX h h'→K (I (isgn (a-b))) h'):CallP Tryz.prog 72 [va,vb] h K:=by
 have ha0:=ha
 have hb0:=hb
 obtain ⟨v,rfl,hv⟩:=ha
 obtain ⟨w,rfl,hw⟩:=hb
 refine f72 ?_
 have e1:∀(g:Heap) (s:Bool) (v:Value),iBox 35 g (.agg #[B s,v])=some (pt g.length 0,g++[.arr 35 [B s,v]]):=fun _ _ _=>rfl
 simp only [T72,e1,OH_some,List.length_append,List.length_cons,List.length_nil]
 have g0:(h++[IObj.arr 35 [B (decide (a<0)),v]]++[IObj.arr 35 [B (decide (b<0)),w]])[h.length]?=some (.arr 35 [B (decide (a<0)),v]):=by simp
 have g1:(h++[IObj.arr 35 [B (decide (a<0)),v]]++[IObj.arr 35 [B (decide (b<0)),w]])[h.length+1]?=some (.arr 35 [B (decide (b<0)),w]):=by simp
 have x1:EX h (h++[IObj.arr 35 [B (decide (a<0)),v]]++[IObj.arr 35 [B (decide (b<0)),w]]):=(EX.append _ _).push _
 simp only [Nat.zero_add,load2 g0,load2 g1,OP_some]
 refine C92 (ha0.mono x1) (hb0.mono x1) la lb ?_
 intro r h2 x2 zr
 refine C48 zr ?_
 intro h3 x3
 exact hk h3 ((x1.trans x2).trans x3)

end Go.Proofs.YtelmdbpaoifmoaaGreat


namespace Go.Proofs.YtelmdbpaoifmoaaGreat
open Go.Sim

theorem appD' {b:Nat} {hx:Heap} {v:Value} {os:List Nat} {d:Nat} {K:Value→Heap→Prop} (hb:b≤hx.length) (o:OwnD b hx v os) (hl:os.length≤10000)
  (hk:∀v' hx',(∀d,d<b→hx'[d]?=hx[d]?)→b≤hx'.length→OwnD b hx' v' (os++[d])→K v' hx'):OH (iMkSl 3 1 [.int .i64 0] hx [(0,1,I d)]) fun a h2=>OH (iApp 3 1 8 h2 v a) K:=by
 have hlen:(hx.take b).length=b:=by rw [List.length_take];omega
 have hex:EX (hx.take b) hx:=by
  refine ⟨by omega,fun i hi=>?_⟩
  rw [List.getElem?_take_of_lt (by omega)]
 refine appD (h0:=hx.take b) (by rw [hlen];exact o) hex hl ?_
 intro v' hx' x o'
 rw [hlen] at o'
 refine hk v' hx' (fun d hd=>?_) (by have:=x.1;omega) o'
 rw [x.2 d (by omega),List.getElem?_take_of_lt hd]

theorem OwnD.set {b j:Nat} {hx:Heap} {v:Value} {os:List Nat} (o:OwnD b hx v os) (hj:j<b) (x:IObj):OwnD b (hx.set j x) v os:=
 OwnS.keep o fun d _ _ hd=>by rw [List.getElem?_set_ne (by omega)]

theorem remI {a:Int} {b:Nat} (hb:b≠0):iBin .rem (.int .i64 a) (.int .i64 (b:Int))=some (I (a.tmod b)):=by
 have h:¬((b:Int)=0):=by omega
 simp only [iBin,iInt,if_true,if_neg h]
theorem quoII {a:Int} {b:Nat} (hb:b≠0) (h1: -9223372036854775808<a) (h2:a<9223372036854775808):iBin .quo (.int .i64 a) (.int .i64 (b:Int))=some (I (a.tdiv b)):=by
 have h:¬((b:Int)=0):=by omega
 have h3:(a.tdiv b).natAbs≤a.natAbs:=by
  rw [Int.natAbs_tdiv,Int.natAbs_natCast];exact Nat.div_le_self _ _
 simp only [iBin,iInt,if_true,if_neg h]
 rw [wrap64 (by omega) (by omega)]

theorem C55 {z:Int} {h:Heap} {K:Value→Heap→Prop} (hz:z.natAbs<1000000000000000000) (hk:∀r h',EX h h'→ZV h' r z→K r h'):CallP Tryz.prog 55 [I z] h K:=by
 refine f55 ?_
 have e2:∀g:Heap,iAlloc 35 [(.bool false),(.slice none 0 0)] g=some (pt g.length 0,g++[.arr 35 [(.bool false),(.slice none 0 0)]]):=fun _=>rfl
 have e3:∀b:Bool,iBuild [(.bool false),(.slice none 0 0)] [(0,1,B b)]=some (.agg #[B b,.slice none 0 0]):=fun _=>rfl
 simp only [T55,e2,OH_some,bin_lss,OP_some,e3,List.length_append,List.length_cons,List.length_nil]
 have g1:(h++[IObj.arr 35 [(.bool false),(.slice none 0 0)]]++[IObj.arr 35 [(.bool false),(.slice none 0 0)]])[h.length+1]?=some (.arr 35 [(.bool false),(.slice none 0 0)]):=by simp
 have g0:(h++[IObj.arr 35 [(.bool false),(.slice none 0 0)]]++[IObj.arr 35 [(.bool false),(.slice none 0 0)]])[h.length]?=some (.arr 35 [(.bool false),(.slice none 0 0)]):=by simp
 have x1:EX h (h++[IObj.arr 35 [(.bool false),(.slice none 0 0)]]++[IObj.arr 35 [(.bool false),(.slice none 0 0)]]):=(EX.append _ _).push _
 have hl1:(h++[IObj.arr 35 [(.bool false),(.slice none 0 0)]]++[IObj.arr 35 [(.bool false),(.slice none 0 0)]]).length=h.length+2:=by simp
 generalize h++[IObj.arr 35 [(.bool false),(.slice none 0 0)]]++[IObj.arr 35 [(.bool false),(.slice none 0 0)]]=h1 at*
 simp only [Nat.zero_add]
 rw [store2 g1]
 simp only [OH_some]
 refine loopL (σ:=Int×List Nat×Value×Heap) (fun p=>[I p.1]) (fun p=>p.2.2.2)
  (fun p=>h.length+2≤p.2.2.2.length∧EX h p.2.2.2∧p.2.2.2[h.length]?=some (.arr 35 [.bool false,.slice none 0 0])∧p.2.2.2[h.length+1]?=some (.arr 35 [B (decide (z<0)),p.2.2.1])∧OwnD (h.length+2) p.2.2.2 p.2.2.1 p.2.1∧Lim 10000 p.2.1∧p.2.1.length≤5∧p.1.natAbs<10000^(5-p.2.1.length)∧val 10000 p.2.1+10000^p.2.1.length*p.1.natAbs=z.natAbs∧(p.1=0→Canon 10000 p.2.1)) (fun p=>p.1.natAbs)
  (z,[],.slice none 0 0,h1.set (h.length+1) (.arr 35 [B (decide (z<0)),.slice none 0 0])) rfl rfl
  ⟨by simp [hl1],x1.set (by omega) _,by rw [List.getElem?_set_ne (by omega)];exact g0,set_get g1,.inl ⟨rfl,rfl⟩,fun _ hx=>by simp at hx,by simp,by simp;omega,by simp [val],fun _=>Canon.nil _⟩ ?_
 rintro ⟨a,os,v,hx⟩ ⟨hlen,hex,k0,k1,hown,hlim,hol,hab,hval,hcan⟩ L hL
 simp only at hlen hex k0 k1 hown hlim hol hab hval hcan hL⊢
 rw [q55z5]
 simp only [bin_neq,OP_some,IfP_ndec]
 refine ⟨fun hne=>?_,fun heq=>?_⟩
 ·have ha0:a≠0:=hne
  have hzle:a.natAbs≤z.natAbs:=by
   have:1*a.natAbs≤10000^os.length*a.natAbs:=Nat.mul_le_mul_right _ (Nat.pow_pos (by decide))
   omega
  have hol':os.length<5:=by
   apply Classical.byContradiction
   intro hc
   have:5-os.length=0:=by omega
   rw [this] at hab
   omega
  have hmod:(a.tmod 10000).natAbs=a.natAbs%10000:=Int.natAbs_tmod _ _
  have hdiv:(a.tdiv 10000).natAbs=a.natAbs / 10000:=Int.natAbs_tdiv _ _
  have step:p55z12 Tryz.prog K (I a) (pt h.length 0) (pt (h.length+1) 0) (I ((a.natAbs%10000:Nat):Int)) L hx:=by
   rw [q55z12]
   have ld:iLoad false 1 hx (pt (h.length+1) 1)=some v:=by simp [iLoad,objCells,k1,iPart]
   simp only [fadr_pt,Nat.zero_add,OP_some,ld]
   refine appD' hlen hown (by omega) ?_
   intro v' hx' hs hl' hown'
   have k1':hx'[h.length+1]?=some (.arr 35 [B (decide (z<0)),v]):=by rw [hs _ (by omega)];exact k1
   rw [store_at k1' (by simp) hown'.ds.one.1 hown'.ds.one.2]
   simp only [OH_some,List.set_cons_succ,List.set_cons_zero]
   rw [show (.int .i64 10000:Value)=.int .i64 ((10000:Nat):Int) from rfl,quoII (by decide) (by omega) (by omega)]
   simp only [OP_some,true_and]
   have hdm:=Nat.mod_add_div a.natAbs 10000
   have el:(os++[a.natAbs%10000]).length=os.length+1:=by simp
   have hm:a.natAbs%10000<10000:=Nat.mod_lt _ (by decide)
   have hdiv':(a.tdiv ((10000:Nat):Int)).natAbs=a.natAbs / 10000:=hdiv
   refine hL (a.tdiv ((10000:Nat):Int),os++[a.natAbs%10000],v',hx'.set (h.length+1) (.arr 35 [B (decide (z<0)),v'])) ⟨?_,?_,?_,set_get k1',hown'.set (by omega) _,hlim.append (fun y hy=>by simp at hy;omega),by rw [el];omega,?_,?_,?_⟩ ?_
   ·rw [List.length_set];exact hl'
   ·refine EX.set ⟨by have:=hex.1;omega,fun i hi=>?_⟩ (by omega) _
    rw [hs i (by omega)];exact hex.2 i hi
   ·rw [List.getElem?_set_ne (by omega),hs _ (by omega)];exact k0
   ·show (a.tdiv ((10000:Nat):Int)).natAbs<_
    rw [el,hdiv']
    have:5-os.length=(5-(os.length+1))+1:=by omega
    rw [this,Nat.pow_succ] at hab
    exact Nat.div_lt_of_lt_mul (by rw [Nat.mul_comm];exact hab)
   ·show val 10000 (os++[a.natAbs%10000])+10000^(os++[a.natAbs%10000]).length*(a.tdiv ((10000:Nat):Int)).natAbs=_
    rw [el,val_append,hdiv',←hval,Nat.pow_succ]
    simp only [val,Nat.mul_zero,Nat.add_zero]
    have:=congrArg (10000^os.length*·) hdm
    rw [Nat.mul_add] at this
    rw [←this,Nat.mul_assoc,Nat.add_assoc]
   ·intro h0
    have h0':a.natAbs / 10000=0:=by
     have h0b:a.tdiv ((10000:Nat):Int)=0:=h0
     rw [←hdiv',h0b];rfl
    refine can_of_last (hlim.append (fun y hy=>by simp at hy;omega)) ?_
    intro h1 h2
    simp only [el,Nat.add_sub_cancel] at h2
    rw [List.getElem_append_right (Nat.le_refl _)] at h2
    simp at h2
    omega
   ·show (a.tdiv ((10000:Nat):Int)).natAbs<a.natAbs
    rw [hdiv']
    exact Nat.div_lt_self (by omega) (by decide)
  rw [show (.int .i64 10000:Value)=.int .i64 ((10000:Nat):Int) from rfl,remI (by decide)]
  simp only [OP_some,bin_lss,IfP_dec]
  have hmod':(a.tmod ((10000:Nat):Int)).natAbs=a.natAbs%10000:=hmod
  refine ⟨fun hn=>?_,fun hn=>?_⟩
  ·have e4:iUn .neg (I (a.tmod ((10000:Nat):Int)))=some (I (-(a.tmod ((10000:Nat):Int)))):=by
    simp only [iUn]
    rw [wrap64 (by omega) (by omega),Int.zero_sub]
   rw [e4]
   simp only [OP_some]
   rw [show -(a.tmod ((10000:Nat):Int))=((a.natAbs%10000:Nat):Int) by omega]
   exact step
  ·rw [show a.tmod ((10000:Nat):Int)=((a.natAbs%10000:Nat):Int) by omega]
   exact step
 ·have ha:a=0:=heq
  subst ha
  rw [q55z14]
  rw [load2 k1]
  simp only [OP_some]
  rw [store2 k0]
  simp only [OH_some]
  rw [load2 (set_get k0)]
  refine OP_some.2 (hk _ _ (hex.set (Nat.le_refl _) _) ⟨v,rfl,os,hown.ds.setB k0 _,hcan rfl,?_⟩)
  simpa using hval


abbrev hz (h:Heap) (os:List Nat):Heap:=h++[.arr 3 (os.map fun d:Nat=>I d)]

theorem make_hz {h:Heap} {n:Nat} (hn:n≤1000):iMake 3 8 [.int .i64 0] h (I n) (I n)=some (sl 3 h.length 0 n,hz h (List.replicate n 0)):=by
 have hzr:∀m,zrep [Value.int .i64 0] m=(List.replicate m 0).map fun d:Nat=>I d:=by
  intro m
  induction m with
  | zero=>rfl
  | succ m ih=>
   have:zrep [Value.int .i64 0] (m+1)=Value.int .i64 0::zrep [Value.int .i64 0] m:=by simp [zrep,List.replicate_succ]
   rw [this,ih,List.replicate_succ];rfl
 simp only [iMake]
 rw [if_pos ⟨by omega,by omega,by omega,by omega⟩,Int.toNat_natCast,hzr]

theorem hz_get (h:Heap) (os:List Nat):(hz h os)[h.length]?=some (.arr 3 (os.map fun d:Nat=>I d)):=by simp [hz]

theorem hz_store {h:Heap} {os:List Nat} {j:Nat} (d:Nat) (hj:j<os.length):oStore 1 (hz h os) (pt h.length j) (I d)=some (undef,hz h (os.set j d)):=by
 rw [store_at (hz_get h os) (by simpa using hj) rfl rfl]
 simp [hz,List.map_set]

theorem hz_load {h:Heap} {os:List Nat} {j:Nat} (hj:j<os.length):iLoad false 1 (hz h os) (pt h.length j)=some (I os[j]):=by
 simp [iLoad,objCells,hz_get,iPart,hj]

theorem hz_DS (h:Heap) (os:List Nat):DS 3 .i64 (hz h os) (sl 3 h.length 0 os.length) os:=.inr ⟨h.length,rfl,.inr ⟨[],by simp [objCells,hz]⟩⟩
theorem hz_EX (h:Heap) (os:List Nat):EX h (hz h os):=EX.append _ _

theorem mul_lt4 {x y:Nat} (hx:x<10000) (hy:y<10000):x*y≤99980001:=by
 have:=Nat.mul_le_mul (show x≤9999 by omega) (show y≤9999 by omega)
 omega

theorem sgn_mul (a b:Int):(if (!(decide (a<0)==decide (b<0)))=true then -((a.natAbs*b.natAbs:Nat):Int) else ((a.natAbs*b.natAbs:Nat):Int))=a*b:=by
 have ea:(a.natAbs:Int)=if a<0 then -a else a:=by split <;> omega
 have eb:(b.natAbs:Int)=if b<0 then -b else b:=by split <;> omega
 rw [Int.natCast_mul,ea,eb]
 by_cases h1:a<0 <;> by_cases h2:b<0 <;> simp [h1,h2,Int.neg_mul,Int.mul_neg]

theorem C71 {va vb:Value} {a b:Int} {h:Heap} {K:Value→Heap→Prop} (ha:ZV h va a) (hb:ZV h vb b) (la:a.natAbs<bigW) (lb:b.natAbs<bigW) (hk:∀r h',EX h h'→ZV h' r (a*b)→K r h'):CallP Tryz.prog 71 [va,vb] h K:=by
 obtain ⟨v,rfl,hv⟩:=ha
 obtain ⟨w,rfl,hw⟩:=hb
 refine f71 ?_
 unfold T71
 refine box2z ?_
 intro h3 x
 obtain ⟨xs,dx,cx,ex⟩:=hv.mono x.ex
 obtain ⟨ys,dy,cy,ey⟩:=hw.mono x.ex
 have l1:=canZ_len cx (by rw [ex];exact la)
 have l2:=canZ_len cy (by rw [ey];exact lb)
 have hB:(0:Nat)<10000:=by decide
 have e0:IntKind.wrap .i64 ((xs.length:Int)+(ys.length:Int))=((xs.length+ys.length:Nat):Int):=by rw [wrap64 (by omega) (by omega)];omega
 simp only [fadr_pt,Nat.add_zero,Nat.zero_add,OP_some,x.a1,x.b1,dx.len,dy.len,bin_add,e0,inc (xs.length+ys.length) (by omega),make_hz (show xs.length+ys.length+1≤1000 by omega),OH_some]
 refine loopL (σ:=Nat×List Nat) (fun p=>[I p.1]) (fun p=>hz h3 p.2)
  (fun p=>p.1≤xs.length∧p.2.length=xs.length+ys.length+1∧Lim 10000 p.2∧(∀j (hj:j<p.2.length),p.1+ys.length≤j→p.2[j]=0)∧val 10000 p.2=val 10000 (xs.take p.1)*val 10000 ys) (fun p=>xs.length-p.1)
  (0,List.replicate (xs.length+ys.length+1) 0) rfl rfl ⟨by simp,by simp,Lim.zeros hB _,by simp,by simp [val_zeros,val]⟩ ?_
 rintro ⟨i,os⟩ ⟨hi,hol,hlim,hzr,hval⟩ L hL
 simp only at hi hol hlim hzr hval hL⊢
 have ldA:∀ps,iLoad false 1 (hz h3 ps) (pt h.length 1)=some v:=fun ps=>EX.load (hz_EX h3 ps) x.a1
 have ldB:∀ps,iLoad false 1 (hz h3 ps) (pt (h.length+1) 1)=some w:=fun ps=>EX.load (hz_EX h3 ps) x.b1
 rw [q71z6]
 simp only [fadr_pt,Nat.add_zero,Nat.zero_add,ldA,dx.len,bin_lss,OP_some,IfP_dec]
 refine ⟨fun hlt=>?_,fun hge=>?_⟩
 ·have hil:i<xs.length:=by omega
  have hxl:xs[i]<10000:=cx.1 _ (List.getElem_mem hil)
  have hvt:=val_take_succ 10000 xs hil
  refine loopL (σ:=Nat×Nat×List Nat) (fun p=>[I p.1,I p.2.1]) (fun p=>hz h3 p.2.2)
   (fun p=>p.2.1≤ys.length+1∧(p.2.1=ys.length+1→p.1=0)∧p.1<10000∧p.2.2.length=xs.length+ys.length+1∧Lim 10000 p.2.2∧(∀j (hj:j<p.2.2.length),i+ys.length+1≤j→p.2.2[j]=0)∧(p.2.1≤ys.length→∀j (hj:j<p.2.2.length),i+ys.length≤j→p.2.2[j]=0)∧val 10000 p.2.2+10000^(i+p.2.1)*p.1=val 10000 os+10000^i*(xs[i]*val 10000 (ys.take p.2.1))) (fun p=>ys.length+1-p.2.1)
   (0,0,os) rfl rfl ⟨by simp,by simp,hB,hol,hlim,fun j hj h=>hzr j hj (by omega),fun _=>hzr,by simp [val]⟩ ?_
  rintro ⟨c,k,ps⟩ ⟨hk0,hkc,hc,hpl,hplim,hpz,hpz2,hpval⟩ L2 hL2
  simp only at hk0 hkc hc hpl hplim hpz hpz2 hpval hL2⊢
  have dx':=dx.mono (hz_EX h3 ps)
  have dy':=dy.mono (hz_EX h3 ps)
  have hpk:i+k<ps.length:=by omega
  have hol2:ps[i+k]<10000:=hplim _ (List.getElem_mem hpk)
  have ei:IntKind.wrap .i64 ((i:Int)+(k:Int))=((i+k:Nat):Int):=by rw [wrap64 (by omega) (by omega)];omega
  -- the next digit
  have step:∀p:Nat,p≤99980001→k<ys.length+1→(k=ys.length→p=0)→xs[i]*val 10000 (ys.take (k+1))=xs[i]*val 10000 (ys.take k)+10000^k*p→
    p71z26 Tryz.prog K (pt h.length 0) (pt (h.length+1) 0) (pt (h.length+2) 0) (sl 3 h3.length 0 (xs.length+ys.length+1)) (I i) (I k) (I ((ps[i+k]+c+p:Nat):Int)) L L2 (hz h3 ps):=by
   intro p hp hkl hkp hpv
   rw [q71z26]
   have hset:=val_set 10000 ps (i+k) ((ps[i+k]+c+p)%10000) hpk
   have hmod:(ps[i+k]+c+p)%10000<10000:=Nat.mod_lt _ hB
   have hdm:=Nat.mod_add_div (ps[i+k]+c+p) 10000
   have hdiv:(ps[i+k]+c+p) / 10000<10000:=by omega
   have hend:k=ys.length→(ps[i+k]+c+p) / 10000=0:=by
    intro hke
    have:=hpz2 (by omega) (i+k) hpk (by omega)
    rw [this,hkp hke]
    omega
   simp only [bin_add,ei,OP_some]
   rw [show (.int .i64 10000:Value)=.int .i64 ((10000:Nat):Int) from rfl,rem_nat _ _ _ (by decide),quoI (by decide) (by omega)]
   simp only [OP_some]
   rw [adr_sl (show i+k<xs.length+ys.length+1 by omega)]
   simp only [OP_some]
   rw [hz_store _ hpk]
   simp only [OH_some,q71z27,bin_add,OP_some,inc k (by omega),true_and]
   refine hL2 ((ps[i+k]+c+p) / 10000,k+1,ps.set (i+k) ((ps[i+k]+c+p)%10000)) ⟨by show k+1≤ys.length+1;omega,fun h=>hend (by simp only at h;omega),hdiv,by show (ps.set _ _).length=_;rw [List.length_set];exact hpl,hplim.set hmod _,?_,?_,?_⟩ (by show ys.length+1-(k+1)<ys.length+1-k;omega)
   ·intro j hj hij
    show (ps.set (i+k) _)[j]=0
    rw [List.getElem_set_ne (by omega)]
    exact hpz j (by simpa using hj) hij
   ·intro hk1 j hj hij
    have hk2:k+1≤ys.length:=hk1
    show (ps.set (i+k) _)[j]=0
    rw [List.getElem_set_ne (by omega)]
    exact hpz2 (by omega) j (by simpa using hj) hij
   ·show val 10000 (ps.set (i+k) _)+10000^(i+(k+1))*_=val 10000 os+10000^i*(xs[i]*val 10000 (ys.take (k+1)))
    rw [hpv,←Nat.add_assoc,Nat.pow_succ]
    rw [Nat.pow_add] at hset hpval⊢
    generalize ps[i+k]=o at*
    generalize (o+c+p)%10000=m at*
    generalize (o+c+p) / 10000=q at*
    generalize xs[i]*val 10000 (ys.take k)=v at*
    generalize val 10000 (ps.set (i+k) m)=s1 at*
    generalize val 10000 ps=s0 at*
    generalize val 10000 os=s2 at*
    generalize 10000^i=P at*
    generalize 10000^k=Q at*
    clear hL2 hL dx dy dx' dy' hv hw x ldA ldB
    have h1:P*Q*(m+10000*q)=P*Q*(o+c+p):=by rw [hdm]
    grind
  have body:k<ys.length+1→OP (iBin .add (I i) (I k)) fun x40=>OP (iAdrSl 1 (sl 3 h3.length 0 (xs.length+ys.length+1)) x40) fun x41=>OP (iLoad false 1 (hz h3 ps) x41) fun x42=>OP (iBin .add x42 (I c)) fun x44=>
    OP (iLenSl w) fun x48=>OP (iBin .lss (I k) x48) fun x49=>IfP x49
     (OP (iAdrSl 1 v (I i)) fun x54=>OP (iLoad false 1 (hz h3 ps) x54) fun x55=>OP (iAdrSl 1 w (I k)) fun x59=>OP (iLoad false 1 (hz h3 ps) x59) fun x60=>OP (iBin .mul x55 x60) fun x61=>OP (iBin .add x44 x61) fun x62=>
      p71z26 Tryz.prog K (pt h.length 0) (pt (h.length+1) 0) (pt (h.length+2) 0) (sl 3 h3.length 0 (xs.length+ys.length+1)) (I i) (I k) x62 L L2 (hz h3 ps))
     (p71z26 Tryz.prog K (pt h.length 0) (pt (h.length+1) 0) (pt (h.length+2) 0) (sl 3 h3.length 0 (xs.length+ys.length+1)) (I i) (I k) x44 L L2 (hz h3 ps)):=by
   intro hkl
   have e1:IntKind.wrap .i64 ((ps[i+k]:Int)+(c:Int))=((ps[i+k]+c:Nat):Int):=by rw [wrap64 (by omega) (by omega)];omega
   simp only [bin_add,ei,OP_some]
   rw [adr_sl (show i+k<xs.length+ys.length+1 by omega)]
   simp only [OP_some,hz_load hpk,bin_add,e1,dy.len,bin_lss,IfP_dec]
   refine ⟨fun hlt2=>?_,fun hge2=>?_⟩
   ·have hkl2:k<ys.length:=by omega
    obtain ⟨ia,a1,a2⟩:=dx'.get hil
    obtain ⟨ib,b1,b2⟩:=dy'.get hkl2
    have hyl:ys[k]<10000:=cy.1 _ (List.getElem_mem hkl2)
    have hxy:=mul_lt4 hxl hyl
    have cst:((xs[i]:Int)*(ys[k]:Int))=((xs[i]*ys[k]:Nat):Int):=by simp
    have e2:IntKind.wrap .i64 ((ps[i+k]+c:Nat)+(xs[i]*ys[k]:Nat):Int)=((ps[i+k]+c+xs[i]*ys[k]:Nat):Int):=by rw [wrap64 (by omega) (by omega)];omega
    simp only [a1,a2,b1,b2,OP_some,bin_mul,cst]
    rw [wrap64 (n:=((xs[i]*ys[k]:Nat):Int)) (by omega) (by omega)]
    simp only [bin_add,OP_some,e2]
    refine step (xs[i]*ys[k]) hxy hkl (fun h=>by omega) ?_
    rw [val_take_succ 10000 ys hkl2]
    grind
   ·have hke:k=ys.length:=by omega
    have:=step 0 (by omega) hkl (fun _=>rfl) (by rw [hke,List.take_length,List.take_of_length_le (by omega)];rfl)
    simpa using this
  rw [q71z14]
  simp only [fadr_pt,Nat.add_zero,Nat.zero_add,ldB,dy.len,bin_lss,OP_some]
  have other:∀t:Bool,(t=true→k<ys.length+1)→(t=false→ys.length≤k∧c=0)→IfP (B t) (OP (iBin .add (I i) (I k)) fun x40=>OP (iAdrSl 1 (sl 3 h3.length 0 (xs.length+ys.length+1)) x40) fun x41=>OP (iLoad false 1 (hz h3 ps) x41) fun x42=>OP (iBin .add x42 (I c)) fun x44=>
    OP (iLenSl w) fun x48=>OP (iBin .lss (I k) x48) fun x49=>IfP x49
     (OP (iAdrSl 1 v (I i)) fun x54=>OP (iLoad false 1 (hz h3 ps) x54) fun x55=>OP (iAdrSl 1 w (I k)) fun x59=>OP (iLoad false 1 (hz h3 ps) x59) fun x60=>OP (iBin .mul x55 x60) fun x61=>OP (iBin .add x44 x61) fun x62=>
      p71z26 Tryz.prog K (pt h.length 0) (pt (h.length+1) 0) (pt (h.length+2) 0) (sl 3 h3.length 0 (xs.length+ys.length+1)) (I i) (I k) x62 L L2 (hz h3 ps))
     (p71z26 Tryz.prog K (pt h.length 0) (pt (h.length+1) 0) (pt (h.length+2) 0) (sl 3 h3.length 0 (xs.length+ys.length+1)) (I i) (I k) x44 L L2 (hz h3 ps)))
    (p71z28 Tryz.prog K (pt h.length 0) (pt (h.length+1) 0) (pt (h.length+2) 0) (sl 3 h3.length 0 (xs.length+ys.length+1)) (I i) L (hz h3 ps)):=by
   intro t h1 h2
   refine IfP_of (fun he=>body (h1 (by simpa using he))) fun hne=>?_
   obtain ⟨h3',rfl⟩:=h2 (by simpa using hne)
   rw [q71z28]
   simp only [bin_add,OP_some,inc i (by omega),true_and]
   have hfull:val 10000 (ys.take k)=val 10000 ys:=by rw [List.take_of_length_le h3']
   refine hL (i+1,ps) ⟨by show i+1≤xs.length;omega,hpl,hplim,fun j hj hij=>hpz j hj (by have:i+1+ys.length≤j:=hij;omega),?_⟩ (by show xs.length-(i+1)<xs.length-i;omega)
   show val 10000 ps=val 10000 (xs.take (i+1))*val 10000 ys
   rw [hvt,Nat.add_mul,←hval,Nat.mul_assoc,←hfull,←hpval]
   omega
  by_cases hkl:k<ys.length
  ·rw [decide_eq_true (show (k:Int)<(ys.length:Int) by omega)]
   simp only [q71z18,GdP_tf,q71z20,iPick_t,OP_some,fadr_pt,Nat.add_zero,Nat.zero_add,ldA,ldB,true_and]
   exact other true (fun _=>by omega) (fun h=>by cases h)
  ·rw [decide_eq_false (show ¬(k:Int)<(ys.length:Int) by omega)]
   simp only [q71z18,GdP_ff,q71z20,bin_gtr,iPick_f,OP_some,fadr_pt,Nat.add_zero,Nat.zero_add,ldA,ldB,true_and]
   exact other _ (fun h=>by
    have h0:(0:Int)<(c:Int):=by simpa using h
    apply Classical.byContradiction
    intro hc2
    have:=hkc (by omega)
    omega) (fun h=>by
    have h0:¬(0:Int)<(c:Int):=by simpa using h
    omega)
 ·have:i=xs.length:=by omega
  subst this
  rw [q71z29]
  rw [List.take_length] at hval
  have ld0:iLoad false 1 (hz h3 os) (pt h.length 0)=some (B (decide (a<0))):=EX.load (hz_EX h3 os) x.a0
  have ld1:iLoad false 1 (hz h3 os) (pt (h.length+1) 0)=some (B (decide (b<0))):=EX.load (hz_EX h3 os) x.b0
  have e:sl 3 h3.length 0 (xs.length+ys.length+1)=sl 3 h3.length 0 os.length:=by rw [hol]
  simp only [fadr_pt,Nat.zero_add,OP_some,ld0,ld1,eqb_bool,if_true,e]
  simp only [build2 (hz_DS h3 os),OP_some]
  refine C100 (hz_DS h3 os) hlim (by omega) ?_
  intro r h5 x5 zr
  have hzv:(if (!(decide (a<0)==decide (b<0)))=true then -(val 10000 os:Int) else (val 10000 os:Int))=a*b:=by
   rw [hval,ex,ey]
   exact sgn_mul a b
  rw [hzv] at zr
  obtain ⟨q,rfl,hq⟩:=id zr
  have g':=((hz_EX h3 os).trans x5).get x.out
  exact fin2z g' (hk _ _ (((x.ex.trans (hz_EX h3 os)).trans x5).set (by omega) _) (zr.setB g' _))

end Go.Proofs.YtelmdbpaoifmoaaGreat


namespace Go.Proofs.YtelmdbpaoifmoaaGreat
open Go.Sim

def QZ (h:Heap) (val:Value) (a b:Int):Prop:=∃u w,val=.agg #[B (decide (a<0)),u,B (decide (b<0)),w]∧MagZ h u a.natAbs∧MagZ h w b.natAbs
theorem QZ.mono {h h':Heap} {v:Value} {a b:Int} (x:EX h h') (p:QZ h v a b):QZ h' v a b:=let ⟨u,w,e,m,n⟩:=p;⟨u,w,e,m.mono x,n.mono x⟩
theorem QZ.setB {h:Heap} {v:Value} {a b:Int} {j:Nat} {e:TypeId} {s:Bool} {r:List Value} (p:QZ h v a b) (hj:h[j]?=some (.arr e (.bool s::r))) (o:IObj):QZ (h.set j o) v a b:=
 let ⟨u,w,e,m,n⟩:=p;⟨u,w,e,m.setB hj o,n.setB hj o⟩

theorem store4 {h:Heap} {i:Nat} {e:TypeId} {a b c d x y z w:Value} (hg:h[i]?=some (.arr e [a,b,c,d])):oStore 4 h (pt i 0) (.agg #[x,y,z,w])=some (undef,h.set i (.arr e [x,y,z,w])):=by
 simp [oStore,iStore,hg,noTuple,vcells,Value.cells,setAt]
theorem load4 {h:Heap} {i:Nat} {e:TypeId} {a b c d:Value} (hg:h[i]?=some (.arr e [a,b,c,d])):iLoad true 4 h (pt i 0)=some (.agg #[a,b,c,d]):=by
 simp [iLoad,objCells,hg,iPart]
theorem load4a {h:Heap} {i:Nat} {e:TypeId} {a b c d:Value} (hg:h[i]?=some (.arr e [a,b,c,d])):iLoad true 2 h (pt i 0)=some (.agg #[a,b]):=by
 simp [iLoad,objCells,hg,iPart]
theorem load4b {h:Heap} {i:Nat} {e:TypeId} {a b c d:Value} (hg:h[i]?=some (.arr e [a,b,c,d])):iLoad true 2 h (pt i 2)=some (.agg #[c,d]):=by
 simp [iLoad,objCells,hg,iPart]

theorem fin4 {h':Heap} {j:Nat} {e:TypeId} {b0 v0 c0 w0 a b c d:Value} {K:Value→Heap→Prop} (hg:h'[j]?=some (.arr e [b0,v0,c0,w0])) (hk:K (.agg #[a,b,c,d]) (h'.set j (.arr e [a,b,c,d]))):
  OH (oStore 4 h' (pt j 0) (.agg #[a,b,c,d])) fun _ h6=>OP (iLoad true 4 h6 (pt j 0)) fun r0=>K r0 h6:=by
 rw [store4 hg]
 simp only [OH_some]
 rw [load4 (set_get hg)]
 exact OP_some.2 hk

theorem build4 {b c:Bool} {e e':TypeId} {k k':IntKind} {h h':Heap} {v w:Value} {xs ys:List Nat} (d:DS e k h v xs) (d':DS e' k' h' w ys):
  iBuild [(.bool false),(.slice none 0 0),(.bool false),(.slice none 0 0)] [(0,2,.agg #[B b,v]),(2,2,.agg #[B c,w])]=some (.agg #[B b,v,B c,w]):=by
 rcases d with ⟨rfl,_⟩ | ⟨i,rfl,_⟩ <;> rcases d' with ⟨rfl,_⟩ | ⟨i',rfl,_⟩ <;> rfl

abbrev z4:List Value:=[(.bool false),(.slice none 0 0),(.bool false),(.slice none 0 0)]

theorem endQ {h h':Heap} {j:Nat} {va vb:Value} {a b:Int} {K:Value→Heap→Prop} (ha:ZV h' va a) (hb:ZV h' vb b) (x:EX h h') (hj:h.length≤j) (hg:h'[j]?=some (.arr 37 z4)) (hk:∀r h',EX h h'→QZ h' r a b→K r h'):
  OP (iBuild [(.bool false),(.slice none 0 0),(.bool false),(.slice none 0 0)] [(0,2,va),(2,2,vb)]) fun x15=>OH (oStore 4 h' (pt j 0) x15) fun _ h6=>OP (iLoad true 4 h6 (pt j 0)) fun r0=>K r0 h6:=by
 obtain ⟨u,rfl,hu⟩:=ha
 obtain ⟨w,rfl,hw⟩:=hb
 obtain ⟨xs,dx,cx⟩:=id hu
 obtain ⟨ys,dy,cy⟩:=id hw
 rw [build4 dx dy]
 exact OP_some.2 (fin4 hg (hk _ _ (x.set hj _) ⟨u,w,rfl,hu.setB hg _,hw.setB hg _⟩))

theorem C20 {z:Int} {h:Heap} {K:Value→Heap→Prop} (hz:z.natAbs<1000000000000000000) (hk:∀r h',EX h h'→QZ h' r z 1→K r h'):CallP Tryz.prog 20 [I z] h K:=by
 refine f20 ?_
 have e1:iAlloc 37 [(.bool false),(.slice none 0 0),(.bool false),(.slice none 0 0)] h=some (pt h.length 0,h++[.arr 37 z4]):=rfl
 simp only [T20,e1,OH_some]
 refine C55 hz ?_
 intro r1 h1 x1 z1
 refine C55 (z:=1) (by decide) ?_
 intro r2 h2 x2 z2
 exact endQ (z1.mono x2) z2 ((EX.append _ _).trans (x1.trans x2)) (Nat.le_refl _) ((x1.trans x2).get get_last) hk

structure Box4 (h:Heap) (a b c d a' b' c' d':Value) (h3:Heap):Prop where
 ex:EX h h3
 a0:iLoad true 2 h3 (pt h.length 0)=some (.agg #[a,b])
 a2:iLoad true 2 h3 (pt h.length 2)=some (.agg #[c,d])
 b0:iLoad true 2 h3 (pt (h.length+1) 0)=some (.agg #[a',b'])
 b2:iLoad true 2 h3 (pt (h.length+1) 2)=some (.agg #[c',d'])
 a4:iLoad true 4 h3 (pt h.length 0)=some (.agg #[a,b,c,d])
 b4:iLoad true 4 h3 (pt (h.length+1) 0)=some (.agg #[a',b',c',d'])
 out:h3[h.length+2]?=some (.arr 37 z4)

theorem box4 {h:Heap} {s s' t t':Bool} {b d b' d':Value} {K:Value→Value→Value→Heap→Prop} (hk:∀h3,Box4 h (B s) b (B s') d (B t) b' (B t') d' h3→K (pt h.length 0) (pt (h.length+1) 0) (pt (h.length+2) 0) h3):
  OH (iBox 37 h (.agg #[B s,b,B s',d])) fun a2 h_1=>OH (iBox 37 h_1 (.agg #[B t,b',B t',d'])) fun b3 h_2=>OH (iAlloc 37 [(.bool false),(.slice none 0 0),(.bool false),(.slice none 0 0)] h_2) fun x4 h_3=>K a2 b3 x4 h_3:=by
 have e1:∀(g:Heap) (s s':Bool) (b d:Value),iBox 37 g (.agg #[B s,b,B s',d])=some (pt g.length 0,g++[.arr 37 [B s,b,B s',d]]):=fun _ _ _ _ _=>rfl
 have e2:∀(g:Heap),iAlloc 37 [(.bool false),(.slice none 0 0),(.bool false),(.slice none 0 0)] g=some (pt g.length 0,g++[.arr 37 z4]):=fun _=>rfl
 simp only [e1,e2,OH_some,List.length_append,List.length_cons,List.length_nil]
 have g0:(h++[IObj.arr 37 [B s,b,B s',d]]++[IObj.arr 37 [B t,b',B t',d']]++[IObj.arr 37 z4])[h.length]?=some (.arr 37 [B s,b,B s',d]):=by simp
 have g1:(h++[IObj.arr 37 [B s,b,B s',d]]++[IObj.arr 37 [B t,b',B t',d']]++[IObj.arr 37 z4])[h.length+1]?=some (.arr 37 [B t,b',B t',d']):=by simp
 have g2:(h++[IObj.arr 37 [B s,b,B s',d]]++[IObj.arr 37 [B t,b',B t',d']]++[IObj.arr 37 z4])[h.length+2]?=some (.arr 37 z4):=by simp
 exact hk _ ⟨((EX.append _ _).push _).push _,load4a g0,load4b g0,load4a g1,load4b g1,load4 g0,load4 g1,g2⟩

theorem C27 {va vb:Value} {a b c d:Int} {h:Heap} {K:Value→Heap→Prop} (ha:QZ h va a b) (hb:QZ h vb c d) (la:a.natAbs<bigW) (lb:b.natAbs<bigW) (lc:c.natAbs<bigW) (ld:d.natAbs<bigW)
  (hk:∀r h',EX h h'→QZ h' r (a*c) (b*d)→K r h'):CallP Tryz.prog 27 [va,vb] h K:=by
 obtain ⟨u,w,rfl,hu,hw⟩:=ha
 obtain ⟨u',w',rfl,hu',hw'⟩:=hb
 refine f27 ?_
 unfold T27
 refine box4 ?_
 intro h3 x
 have za:ZV h3 (.agg #[B (decide (a<0)),u]) a:=⟨u,rfl,hu.mono x.ex⟩
 have zb:ZV h3 (.agg #[B (decide (b<0)),w]) b:=⟨w,rfl,hw.mono x.ex⟩
 have zc:ZV h3 (.agg #[B (decide (c<0)),u']) c:=⟨u',rfl,hu'.mono x.ex⟩
 have zd:ZV h3 (.agg #[B (decide (d<0)),w']) d:=⟨w',rfl,hw'.mono x.ex⟩
 simp only [fadr_pt,Nat.add_zero,Nat.zero_add,OP_some,x.a0,x.b0,true_and]
 refine C71 za zc la lc ?_
 intro r4 h4 x4 z4'
 simp only [EX.load x4 x.a2,EX.load x4 x.b2,OP_some,x.a2,x.b2,true_and]
 refine C71 (zb.mono x4) (zd.mono x4) lb ld ?_
 intro r5 h5 x5 z5
 exact endQ (z4'.mono x5) z5 ((x.ex.trans x4).trans x5) (by omega) ((x4.trans x5).get x.out) hk

theorem C26 {va vb:Value} {a b c d:Int} {h:Heap} {K:Value→Heap→Prop} (ha:QZ h va a b) (hb:QZ h vb c d) (la:a.natAbs<bigW) (lb:b.natAbs<bigW) (lc:c.natAbs<bigW) (ld:d.natAbs<bigW) (lad:(a*d).natAbs<bigW) (lcb:(c*b).natAbs<bigW)
  (hk:∀r h',EX h h'→QZ h' r (a*d+c*b) (b*d)→K r h'):CallP Tryz.prog 26 [va,vb] h K:=by
 obtain ⟨u,w,rfl,hu,hw⟩:=ha
 obtain ⟨u',w',rfl,hu',hw'⟩:=hb
 refine f26 ?_
 unfold T26
 refine box4 ?_
 intro h3 x
 have za:ZV h3 (.agg #[B (decide (a<0)),u]) a:=⟨u,rfl,hu.mono x.ex⟩
 have zb:ZV h3 (.agg #[B (decide (b<0)),w]) b:=⟨w,rfl,hw.mono x.ex⟩
 have zc:ZV h3 (.agg #[B (decide (c<0)),u']) c:=⟨u',rfl,hu'.mono x.ex⟩
 have zd:ZV h3 (.agg #[B (decide (d<0)),w']) d:=⟨w',rfl,hw'.mono x.ex⟩
 simp only [fadr_pt,Nat.add_zero,Nat.zero_add,OP_some,x.a0,x.b2,true_and]
 refine C71 za zd la ld ?_
 intro r4 h4 x4 z4'
 simp only [EX.load x4 x.a2,EX.load x4 x.b0,OP_some,x.a2,x.b0,true_and]
 refine C71 (zc.mono x4) (zb.mono x4) lc lb ?_
 intro r5 h5 x5 z5
 refine C70 (z4'.mono x5) z5 lad lcb ?_
 intro r6 h6 x6 z6
 have x46:=(x4.trans x5).trans x6
 simp only [EX.load x46 x.a2,EX.load x46 x.b2,EX.load (x4.trans x5) x.a2,EX.load (x4.trans x5) x.b2,EX.load x4 x.a2,EX.load x4 x.b2,OP_some,x.a2,x.b2,true_and]
 refine C71 (zb.mono x46) (zd.mono x46) lb ld ?_
 intro r7 h7 x7 z7
 exact endQ (z6.mono x7) z7 ((x.ex.trans x46).trans x7) (by omega) ((x46.trans x7).get x.out) hk

end Go.Proofs.YtelmdbpaoifmoaaGreat


namespace Go.Proofs.YtelmdbpaoifmoaaGreat
open Go.Sim

def valB (s:List UInt8):Nat:=s.foldl (fun d c=>10*d+(c.toNat-48)) 0

theorem valB_fold:∀(s:List UInt8) (a:Nat),s.foldl (fun d c=>10*d+(c.toNat-48)) a=a*10^s.length+valB s
 | [],a=>by simp [valB]
 | c::s,a=>by
  have h1:=valB_fold s (10*a+(c.toNat-48))
  have h2:=valB_fold s (10*0+(c.toNat-48))
  have e:valB (c::s)=s.foldl (fun d c=>10*d+(c.toNat-48)) (10*0+(c.toNat-48)):=rfl
  rw [e,h2,List.foldl_cons,h1,List.length_cons,Nat.pow_succ]
  generalize 10^s.length=P
  generalize c.toNat-48=d
  generalize valB s=w
  grind

theorem valB_append (s t:List UInt8):valB (s++t)=valB s*10^t.length+valB t:=by
 show (s++t).foldl _ 0=_
 rw [List.foldl_append,valB_fold]
 rfl

theorem valB_one (c:UInt8):valB [c]=c.toNat-48:=by simp [valB]

def digs (s:List UInt8):Prop:=∀c∈s,48≤c.toNat∧c.toNat≤57

theorem valB_cons (c:UInt8) (s:List UInt8):valB (c::s)=(c.toNat-48)*10^s.length+valB s:=by
 have:=valB_append [c] s
 rw [valB_one] at this
 exact this

theorem valB_lt:∀{s:List UInt8},digs s→valB s<10^s.length
 | [],_=>by simp [valB]
 | c::s,h=>by
  have h1:=valB_lt (s:=s) fun x hx=>h x (by simp [hx])
  have h2:=h c (by simp)
  rw [valB_cons,List.length_cons,Nat.pow_succ]
  have h3:=Nat.mul_le_mul_right (10^s.length) (show c.toNat-48≤9 by omega)
  omega

end Go.Proofs.YtelmdbpaoifmoaaGreat


namespace Go.Proofs.YtelmdbpaoifmoaaGreat
open Go.Sim

theorem valB_rev:∀{ds:List Nat},Lim 10 ds→valB ((ds.map dch).reverse)=val 10 ds
 | [],_=>rfl
 | d::ds,h=>by
  have h1:=valB_rev (ds:=ds) fun y hy=>h y (by simp [hy])
  have h2:=h d (by simp)
  rw [List.map_cons,List.reverse_cons,valB_append,valB_one,h1,dch_toNat h2]
  simp only [val,List.length_singleton,Nat.pow_one]
  omega

theorem decS_facts {n:Nat} (hn:n<bigW):digs (decS n)∧0<(decS n).length∧(decS n).length≤1000∧((decS n).head?=some 48→(decS n).length=1)∧valB (decS n)=n:=by
 obtain ⟨hc,hv⟩:=dig10_canon n
 by_cases h0:n=0
 ·subst h0
  have:decS 0=[48]:=rfl
  rw [this]
  exact ⟨fun c hc=>by simp at hc;subst hc;decide,by simp,by simp,by simp,rfl⟩
 ·have e:decS n=((dig10 n).map dch).reverse:=by unfold decS;rw [if_neg h0]
  have hne:dig10 n≠[]:=by
   intro h
   rw [h] at hv
   exact h0 hv.symm
  rw [e]
  refine ⟨?_,?_,?_,?_,?_⟩
  ·intro c hc'
   simp only [List.mem_reverse,List.mem_map] at hc'
   obtain ⟨d,hd,rfl⟩:=hc'
   rw [dch_toNat (hc.1 d hd)]
   have:=hc.1 d hd
   omega
  ·simp only [List.length_reverse,List.length_map]
   exact List.length_pos_iff.2 hne
  ·simp only [List.length_reverse,List.length_map]
   show _≤k1000
   refine hc.len (by decide) ?_
   rw [hv]
   exact Nat.lt_of_lt_of_le hn bigW_10
  ·intro h48
   exfalso
   rw [List.head?_reverse,List.getLast?_map] at h48
   cases hl:(dig10 n).getLast? with
   | none=>rw [hl] at h48;simp at h48
   | some d=>
    rw [hl] at h48
    have hd:d<10:=hc.1 d (List.mem_of_getLast? hl)
    have h3:dch d=48:=by simpa using h48
    have h4:=congrArg UInt8.toNat h3
    rw [dch_toNat hd] at h4
    have h5:(48:UInt8).toNat=48:=rfl
    rw [h5] at h4
    have:d=0:=by omega
    subst this
    exact hc.2 hl
  ·rw [valB_rev hc.1,hv]

def numS (z:Int):List UInt8:=if z<0 then 45::decS z.natAbs else decS z.natAbs

end Go.Proofs.YtelmdbpaoifmoaaGreat

