/-
  Part 5 of the texts behind a statement of this seat: HDM, HMk23, HMk14, HMk25, HKs, HMk22, Rd1, HZU, HZN1, HZN2, HCt28, HCt29, HCt30, HCt31, HCt32, HCt33, HZR1.
-/
import Derived.Test.YthplaillblmgfaaGreatDoorProg
import Derived.KernelRfl
import Derived.Test.YthplaillblmgfaaGreatDoorReads4
namespace Go.Proofs.YthplaillblmgfaaGreatDoor
open Go.Sim
variable (P : Program) (K : VK)
/-! F8: pommel/pommellaw08.made -/
noncomputable def c8z12 : ICode := .ops none [⟨some 18, .p (.pick (.tmp 14) (.tmp 17) (.const (.bool false)))⟩]
noncomputable def c8z10 : ICode := .seq (.ops (some (14, true)) [gm 15 3,⟨some 16, .p (.lenSl (.tmp 15))⟩,⟨some 17, .p (.bin .lss (.tmp 16) (ci (12)))⟩])
 (.cut [0, 3, 4, 14, 17] c8z12)
noncomputable def c8z8 : ICode := .cond (.tmp 18) (.skip)
 (.exit 0)
noncomputable def c8z18 : ICode := .seq (.seq (.ops none [gm 28 5,⟨some 29, .p (.bin .gtr (.tmp 28) (ci (1)))⟩])
 (.cond (.tmp 29) (.skip)
 (.exit 2)))
 (.seq (.block 3 (.ops none [gm 32 5,⟨some 33, .p (.bin .rem (.tmp 32) (ci (2)))⟩,gm 34 5,⟨some 35, .p (.bin .rem (.tmp 34) (ci (2)))⟩,⟨some 36, .p (.bin .add (.tmp 35) (ci (1)))⟩,⟨some 37, .p (.slS (.const (.string ⟨#[48, 49]⟩)) (some (.tmp 33)) (some (.tmp 36)))⟩,gm 38 6,⟨some 39, .p (.bin .add (.tmp 37) (.tmp 38))⟩,gm 6 39]))
 (.ops none [gm 30 5,⟨some 31, .p (.bin .quo (.tmp 30) (ci (2)))⟩,gm 5 31]))
noncomputable def c8z36 : ICode := .ops none [⟨some 54, .p (.pick (.tmp 47) (.const (.bool true)) (.tmp 53))⟩,gm 7 54]
noncomputable def c8z34 : ICode := .seq (.ops (some (47, false)) [gm 48 3,gm 49 8,⟨some 50, .p (.adrSl 1 (.tmp 48) (.tmp 49))⟩,⟨some 51, .l (.load false 1 (.tmp 50))⟩,gm 52 6,⟨some 53, .p (.bin .eql (.tmp 51) (.tmp 52))⟩])
 (.cut [0, 3, 4, 6, 8, 47, 53] c8z36)
noncomputable def c8z31 : ICode := .ops none [gm 44 8,⟨some 45, .p (.bin .add (.tmp 44) (ci (1)))⟩,gm 8 45]
noncomputable def c8z28 : ICode := .seq (.seq (.ops none [gm 40 8,gm 41 3,⟨some 42, .p (.lenSl (.tmp 41))⟩,⟨some 43, .p (.bin .lss (.tmp 40) (.tmp 42))⟩])
 (.cond (.tmp 43) (.skip)
 (.exit 4)))
 (.seq (.block 5 (.seq (.ops none [gm 46 7,gm 47 46])
 (.cut [0, 3, 4, 6, 8, 47] c8z34))) c8z31)
noncomputable def c8z37 : ICode := .seq (.ops none [gm 55 7,⟨some 56, .p (.un .not (.tmp 55))⟩])
 (.cond (.tmp 56) (.ops none [gm 57 3,gm 58 6,⟨some 59, .e (.mkSl 9 1 [(.string ⟨#[]⟩)] [(0, 1, (.tmp 58))])⟩,⟨some 60, .e (.app 9 1 16 (.tmp 57) (.tmp 59))⟩,gm 3 60])
 (.skip))
noncomputable def c8z25 : ICode := .cut [0, 3, 4, 6, 7] c8z37
noncomputable def c8z23 : ICode := .seq (.ops none [⟨some 7, .p (.mv (.const (.bool false)))⟩])
 (.seq (.seq (.ops none [⟨some 8, .p (.mv (ci (0)))⟩])
 (.block 4 (.loop [0, 3, 4, 6] [7, 8] c8z28))) c8z25)
noncomputable def c8z16 : ICode := .cut [0, 3, 4, 6] c8z23
noncomputable def c8z39 : ICode := .ops none [gm 19 4,⟨some 20, .p (.bin .add (.tmp 19) (ci (1)))⟩,gm 4 20]
noncomputable def c8z13 : ICode := .cut [0, 3, 4] c8z39
noncomputable def c8z7 : ICode := .seq (.block 1 (.seq (.ops none [gm 21 0,gm 22 4,⟨some 23, .p (.adrSl 1 (.tmp 21) (.tmp 22))⟩,⟨some 24, .l (.load false 1 (.tmp 23))⟩,⟨some 25, .p (.conv .i64 (.tmp 24))⟩,⟨some 26, .p (.bin .rem (.tmp 25) (ci (2046)))⟩,⟨some 27, .p (.bin .add (.tmp 26) (ci (2)))⟩,gm 5 27,⟨some 6, .p (.mv (.const (.string ⟨#[]⟩)))⟩])
 (.seq (.block 2 (.loop [0, 3, 4] [5, 6] c8z18)) c8z16))) c8z13
noncomputable def c8z6 : ICode := .seq (.seq (.seq (.ops none [gm 10 4,gm 11 0,⟨some 12, .p (.lenSl (.tmp 11))⟩,⟨some 13, .p (.bin .lss (.tmp 10) (.tmp 12))⟩,gm 14 13])
 (.cut [0, 3, 4, 14] c8z10)) c8z8) c8z7
noncomputable def c8z43 : ICode := .seq (.ops none [gm 67 3,gm 2 67])
 (.ret)
noncomputable def c8z40 : ICode := .seq (.seq (.ops none [gm 61 3,⟨some 62, .p (.lenSl (.tmp 61))⟩,⟨some 63, .p (.bin .eql (.tmp 62) (ci (0)))⟩])
 (.cond (.tmp 63) (.ops none [gm 64 3,⟨some 65, .e (.mkSl 9 1 [(.string ⟨#[]⟩)] [(0, 1, (.const (.string ⟨#[48]⟩)))])⟩,⟨some 66, .e (.app 9 1 16 (.tmp 64) (.tmp 65))⟩,gm 3 66])
 (.skip)))
 (.cut [3] c8z43)
noncomputable def c8z3 : ICode := .cut [3] c8z40
noncomputable def c8 : ICode := .seq (.ops none [⟨some 2, .p (.mv (.const (.slice none 0 0)))⟩])
 (.seq (.ops none [⟨some 9, .e (.mkSl 9 0 [(.string ⟨#[]⟩)] [])⟩,gm 3 9])
 (.seq (.seq (.ops none [⟨some 4, .p (.mv (ci (0)))⟩])
 (.block 0 (.loop [0] [3, 4] c8z6))) c8z3))
theorem k8 : compFn Tryz.prog 8 [[], [], [], [0], [3, 4], [0, 3, 4, 14], [0, 3, 4, 14, 17], [], [], [], [0, 3, 4], [5, 6], [], [], [], [0, 3, 4, 6], [], [], [0, 3, 4, 6], [7, 8], [], [], [0, 3, 4, 6, 8, 47], [0, 3, 4, 6, 8, 47, 53], [], [0, 3, 4, 6, 7], [], [0, 3, 4], [3], [], [3], []] = some (68, c8, [.tmp 2]) := by kernel_rfl
def K8z0 (_P : Program) (K : VK) : Kont := bodyP [.tmp 2] K
def K8z3 : Kont := thenK (iwpP P c8z3 (K8z0 P K)) (K8z0 P K)
def K8z5 : Kont := inBlockK 0 (K8z3 P K)
def K8z6 (x0 : Value) (L1 : LK) : Kont := thenK (fun f' h'' => (([0] : List Nat).map f' : List Value) = [x0] ∧ L1 (([3, 4] : List Nat).map f') h'') (K8z5 P K)
def p8z6 (x0 : Value) (L1 : LK) (xs : List Value) (h : Heap) : Prop := CutP (iwpP P c8z6 (K8z6 P K x0 L1)) ([0] ++ [3, 4]) ([x0] ++ xs) h
def T8 (x0 : Value) (h : Heap) : Prop :=
 OH (iMkSl 9 0 [(.string ⟨#[]⟩)] h []) fun x9 h_1 =>
 LoopP [x9, (.int .i64 (0))] h_1 fun L1 xs hx =>
 p8z6 P K x0 L1 xs hx
theorem e8 (x0 : Value) (h : Heap) : iwpP P c8 (bodyP [.tmp 2] K) (frame0 [x0]) h = T8 P K x0 h := by kernel_rfl
/-! F28: pommel/pommellaw08.lengths -/
/-! F30: pommel/pommelref08.Code -/
noncomputable def c30z18 : ICode := .ops none [⟨some 28, .p (.pick (.tmp 21) (.const (.bool true)) (.tmp 27))⟩]
noncomputable def c30z16 : ICode := .seq (.ops (some (21, false)) [gm 22 0,gm 23 3,⟨some 24, .p (.adrSl 1 (.tmp 22) (.tmp 23))⟩,⟨some 25, .l (.load false 1 (.tmp 24))⟩,⟨some 26, .call 61 [(.tmp 25)]⟩,⟨some 27, .p (.un .not (.tmp 26))⟩])
 (.cut [0, 3, 21, 27] c30z18)
noncomputable def c30z14 : ICode := .cond (.tmp 28) (.seq (.ops none [⟨some 2, .p (.mv (ci (2)))⟩])
 (.ret))
 (.skip)
noncomputable def c30z22 : ICode := .seq (.seq (.ops none [gm 29 4,gm 30 3,⟨some 31, .p (.bin .lss (.tmp 29) (.tmp 30))⟩])
 (.cond (.tmp 31) (.skip)
 (.exit 2)))
 (.seq (.block 3 (.seq (.dops [(none, [gd 34 0 0,gd 35 3 0,⟨some 36, .p (.adrSl 1 (.tmp 34) (.tmp 35)), 3⟩,⟨some 37, .l (.load false 1 (.tmp 36)), 7⟩,gd 38 0 0,gd 39 4 0,⟨some 40, .p (.adrSl 1 (.tmp 38) (.tmp 39)), 48⟩,⟨some 41, .l (.load false 1 (.tmp 40)), 112⟩,⟨some 42, .p (.bin .eql (.tmp 37) (.tmp 41)), 255⟩])])
 (.cond (.tmp 42) (.seq (.ops none [⟨some 2, .p (.mv (ci (2)))⟩])
 (.ret))
 (.skip))))
 (.ops none [gm 32 4,⟨some 33, .p (.bin .add (.tmp 32) (ci (1)))⟩,gm 4 33]))
noncomputable def c30z13 : ICode := .seq (.ops none [⟨some 4, .p (.mv (ci (0)))⟩])
 (.block 2 (.loop [0, 3] [4] c30z22))
noncomputable def c30z29 : ICode := .ops none [gm 12 3,⟨some 13, .p (.bin .add (.tmp 12) (ci (1)))⟩,gm 3 13]
noncomputable def c30z11 : ICode := .cut [0, 3] c30z29
noncomputable def c30z8 : ICode := .seq (.seq (.ops none [gm 8 3,gm 9 0,⟨some 10, .p (.lenSl (.tmp 9))⟩,⟨some 11, .p (.bin .lss (.tmp 8) (.tmp 10))⟩])
 (.cond (.tmp 11) (.skip)
 (.exit 0)))
 (.seq (.block 1 (.seq (.seq (.seq (.ops none [gm 14 0,gm 15 3,⟨some 16, .p (.adrSl 1 (.tmp 14) (.tmp 15))⟩,⟨some 17, .l (.load false 1 (.tmp 16))⟩,⟨some 18, .p (.lenS (.tmp 17))⟩,⟨some 19, .call 71 [(.tmp 18), (ci (1)), (ci (10))]⟩,⟨some 20, .p (.un .not (.tmp 19))⟩,gm 21 20])
 (.cut [0, 3, 21] c30z16)) c30z14) c30z13)) c30z11)
noncomputable def c30z30 : ICode := .seq (.seq (.ops none [gm 43 0,⟨some 44, .p (.lenSl (.tmp 43))⟩,⟨some 45, .p (.bin .eql (.tmp 44) (ci (0)))⟩])
 (.cond (.tmp 45) (.seq (.ops none [⟨some 2, .p (.mv (ci (2)))⟩])
 (.ret))
 (.skip)))
 (.seq (.ops none [⟨some 2, .p (.mv (ci (0)))⟩])
 (.ret))
noncomputable def c30z5 : ICode := .cut [0] c30z30
noncomputable def c30 : ICode := .seq (.ops none [⟨some 2, .p (.mv (ci (0)))⟩])
 (.seq (.seq (.ops none [gm 5 0,⟨some 6, .p (.lenSl (.tmp 5))⟩,⟨some 7, .p (.bin .gtr (.tmp 6) (ci (12)))⟩])
 (.cond (.tmp 7) (.seq (.ops none [⟨some 2, .p (.mv (ci (3)))⟩])
 (.ret))
 (.skip)))
 (.seq (.seq (.ops none [⟨some 3, .p (.mv (ci (0)))⟩])
 (.block 0 (.loop [0] [3] c30z8))) c30z5))
theorem k30 : compFn Tryz.prog 30 [[], [], [], [], [], [0], [3], [], [], [0, 3, 21], [0, 3, 21, 27], [], [], [], [], [0, 3], [4], [], [], [], [], [], [0, 3], [0], [], [], [], []] = some (46, c30, [.tmp 2]) := by kernel_rfl
def K30z0 (_P : Program) (K : VK) : Kont := bodyP [.tmp 2] K
def K30z5 : Kont := thenK (iwpP P c30z5 (K30z0 P K)) (K30z0 P K)
def K30z7 : Kont := inBlockK 0 (K30z5 P K)
def K30z8 (l0 : Value) (L1 : LK) : Kont := thenK (fun f' h'' => (([0] : List Nat).map f' : List Value) = [l0] ∧ L1 (([3] : List Nat).map f') h'') (K30z7 P K)
def K30z11 (l0 : Value) (L1 : LK) : Kont := thenK (iwpP P c30z11 (K30z8 P K l0 L1)) (K30z8 P K l0 L1)
def K30z12 (l0 : Value) (L1 : LK) : Kont := inBlockK 1 (K30z11 P K l0 L1)
def K30z13 (l0 : Value) (L1 : LK) : Kont := thenK (iwpP P c30z13 (K30z12 P K l0 L1)) (K30z12 P K l0 L1)
def K30z14 (l0 : Value) (L1 : LK) : Kont := thenK (iwpP P c30z14 (K30z13 P K l0 L1)) (K30z13 P K l0 L1)
def K30z21 (l0 : Value) (L1 : LK) : Kont := inBlockK 2 (K30z12 P K l0 L1)
def K30z22 (l0 i3 : Value) (L1 L2 : LK) : Kont := thenK (fun f' h'' => (([0, 3] : List Nat).map f' : List Value) = [l0, i3] ∧ L2 (([4] : List Nat).map f') h'') (K30z21 P K l0 L1)
def p30z8 (l0 : Value) (L1 : LK) (xs : List Value) (h : Heap) : Prop := CutP (iwpP P c30z8 (K30z8 P K l0 L1)) ([0] ++ [3]) ([l0] ++ xs) h
def p30z16 (l0 i3 x21 : Value) (L1 : LK) (h : Heap) : Prop := CutP (iwpP P c30z16 (K30z14 P K l0 L1)) [0, 3, 21] [l0, i3, x21] h
def p30z18 (l0 i3 x21 x27 : Value) (L1 : LK) (h : Heap) : Prop := CutP (iwpP P c30z18 (K30z14 P K l0 L1)) [0, 3, 21, 27] [l0, i3, x21, x27] h
def p30z22 (l0 i3 : Value) (L1 L2 : LK) (xs : List Value) (h : Heap) : Prop := CutP (iwpP P c30z22 (K30z22 P K l0 i3 L1 L2)) ([0, 3] ++ [4]) ([l0, i3] ++ xs) h
def p30z29 (l0 i3 : Value) (L1 : LK) (h : Heap) : Prop := CutP (iwpP P c30z29 (K30z8 P K l0 L1)) [0, 3] [l0, i3] h
def p30z30 (l0 : Value) (h : Heap) : Prop := CutP (iwpP P c30z30 (K30z0 P K)) [0] [l0] h
theorem q30z18 (l0 i3 x21 x27 : Value) (L1 : LK) (h : Heap) : p30z18 P K l0 i3 x21 x27 L1 h =
 (OP (iPick x21 (.bool true) x27) fun x28 =>
 IfP x28
 (K (.int .i64 (2)) h)
 (LoopP [(.int .i64 (0))] h fun L2 xs hx =>
 p30z22 P K l0 i3 L1 L2 xs hx)) := (CutP_def _ _ _ _).trans (by kernel_rfl)
theorem q30z16 (l0 i3 x21 : Value) (L1 : LK) (h : Heap) : p30z16 P K l0 i3 x21 L1 h =
 (GdP x21 false
 (OP (iAdrSl 1 l0 i3) fun x24 =>
 OP (iLoad false 1 h x24) fun x25 =>
 CallP P 61 [x25] h fun x26 h_1 =>
 OP (iUn .not x26) fun x27 =>
 p30z18 P K l0 i3 x21 x27 L1 h_1)
 (p30z18 P K l0 i3 x21 undef L1 h)) := (CutP_def _ _ _ _).trans (by kernel_rfl)
theorem q30z22 (l0 i3 : Value) (L1 L2 : LK) (k4 : Value) (h : Heap) : p30z22 P K l0 i3 L1 L2 [k4] h =
 (OP (iBin .lss k4 i3) fun x31 =>
 IfP x31
 (OP (iAdrSl 1 l0 i3) fun x36 =>
 OP (iLoad false 1 h x36) fun x37 =>
 (True) ∧
 OP (iAdrSl 1 l0 k4) fun x40 =>
 OP (iLoad false 1 h x40) fun x41 =>
 (True) ∧
 OP (iBin .eql x37 x41) fun x42 =>
 IfP x42
 (K (.int .i64 (2)) h)
 (OP (iBin .add k4 (.int .i64 (1))) fun x33 =>
 ([l0, i3] : List Value) = [l0, i3] ∧ L2 [x33] h))
 (p30z29 P K l0 i3 L1 h)) := (CutP_def _ _ _ _).trans (by kernel_rfl)
theorem q30z29 (l0 i3 : Value) (L1 : LK) (h : Heap) : p30z29 P K l0 i3 L1 h =
 (OP (iBin .add i3 (.int .i64 (1))) fun x13 =>
 ([l0] : List Value) = [l0] ∧ L1 [x13] h) := (CutP_def _ _ _ _).trans (by kernel_rfl)
theorem q30z8 (l0 : Value) (L1 : LK) (i3 : Value) (h : Heap) : p30z8 P K l0 L1 [i3] h =
 (OP (iLenSl l0) fun x10 =>
 OP (iBin .lss i3 x10) fun x11 =>
 IfP x11
 (OP (iAdrSl 1 l0 i3) fun x16 =>
 OP (iLoad false 1 h x16) fun x17 =>
 OP (iLenS x17) fun x18 =>
 CallP P 71 [x18, (.int .i64 (1)), (.int .i64 (10))] h fun x19 h_1 =>
 OP (iUn .not x19) fun x20 =>
 p30z16 P K l0 i3 x20 L1 h_1)
 (p30z30 P K l0 h)) := (CutP_def _ _ _ _).trans (by kernel_rfl)
theorem q30z30 (l0 : Value) (h : Heap) : p30z30 P K l0 h =
 (OP (iLenSl l0) fun x44 =>
 OP (iBin .eql x44 (.int .i64 (0))) fun x45 =>
 IfP x45
 (K (.int .i64 (2)) h)
 (K (.int .i64 (0)) h)) := (CutP_def _ _ _ _).trans (by kernel_rfl)
def T30 (l0 : Value) (h : Heap) : Prop :=
 OP (iLenSl l0) fun x6 =>
 OP (iBin .gtr x6 (.int .i64 (12))) fun x7 =>
 IfP x7
 (K (.int .i64 (3)) h)
 (LoopP [(.int .i64 (0))] h fun L1 xs hx =>
 p30z8 P K l0 L1 xs hx)
theorem e30 (l0 : Value) (h : Heap) : iwpP P c30 (bodyP [.tmp 2] K) (frame0 [l0]) h = T30 P K l0 h := by kernel_rfl
theorem f30 {K : VK} {l0 : Value} {h : Heap} (H : T30 Tryz.prog K l0 h) : CallP Tryz.prog 30 [l0] h K :=
 callP_intro k30 (Nat.le_of_ble_eq_true rfl) ((e30 Tryz.prog K l0 h).mpr H)
/-! F31: pommel/mark.IsPlain -/
/-! F61: pommel/pommelref08.bits -/
noncomputable def c61z14 : ICode := .ops none [⟨some 19, .p (.pick (.tmp 14) (.tmp 18) (.const (.bool false)))⟩]
noncomputable def c61z12 : ICode := .seq (.ops (some (14, true)) [gm 15 0,gm 16 3,⟨some 17, .p (.idxS (.tmp 15) (.tmp 16))⟩,⟨some 18, .p (.bin .neq (.tmp 17) (.const (.int .u8 (49))))⟩])
 (.cut [0, 3, 14, 18] c61z14)
noncomputable def c61z10 : ICode := .cond (.tmp 19) (.seq (.ops none [⟨some 2, .p (.mv (.const (.bool false)))⟩])
 (.ret))
 (.skip)
noncomputable def c61z8 : ICode := .ops none [gm 8 3,⟨some 9, .p (.bin .add (.tmp 8) (ci (1)))⟩,gm 3 9]
noncomputable def c61z5 : ICode := .seq (.seq (.ops none [gm 4 3,gm 5 0,⟨some 6, .p (.lenS (.tmp 5))⟩,⟨some 7, .p (.bin .lss (.tmp 4) (.tmp 6))⟩])
 (.cond (.tmp 7) (.skip)
 (.exit 0)))
 (.seq (.block 1 (.seq (.seq (.ops none [gm 10 0,gm 11 3,⟨some 12, .p (.idxS (.tmp 10) (.tmp 11))⟩,⟨some 13, .p (.bin .neq (.tmp 12) (.const (.int .u8 (48))))⟩,gm 14 13])
 (.cut [0, 3, 14] c61z12)) c61z10)) c61z8)
noncomputable def c61z2 : ICode := .seq (.ops none [⟨some 2, .p (.mv (.const (.bool true)))⟩])
 (.ret)
noncomputable def c61 : ICode := .seq (.ops none [⟨some 2, .p (.mv (.const (.bool false)))⟩])
 (.seq (.seq (.ops none [⟨some 3, .p (.mv (ci (0)))⟩])
 (.block 0 (.loop [0] [3] c61z5))) c61z2)
theorem k61 : compFn Tryz.prog 61 [[], [], [0], [3], [], [], [0, 3, 14], [0, 3, 14, 18], [], [], [], [], []] = some (20, c61, [.tmp 2]) := by kernel_rfl
def K61z0 (_P : Program) (K : VK) : Kont := bodyP [.tmp 2] K
def K61z2 : Kont := thenK (iwpP P c61z2 (K61z0 P K)) (K61z0 P K)
def K61z4 : Kont := inBlockK 0 (K61z2 P K)
def K61z5 (s0 : Value) (L1 : LK) : Kont := thenK (fun f' h'' => (([0] : List Nat).map f' : List Value) = [s0] ∧ L1 (([3] : List Nat).map f') h'') (K61z4 P K)
def K61z8 (s0 : Value) (L1 : LK) : Kont := thenK (iwpP P c61z8 (K61z5 P K s0 L1)) (K61z5 P K s0 L1)
def K61z9 (s0 : Value) (L1 : LK) : Kont := inBlockK 1 (K61z8 P K s0 L1)
def K61z10 (s0 : Value) (L1 : LK) : Kont := thenK (iwpP P c61z10 (K61z9 P K s0 L1)) (K61z9 P K s0 L1)
def p61z5 (s0 : Value) (L1 : LK) (xs : List Value) (h : Heap) : Prop := CutP (iwpP P c61z5 (K61z5 P K s0 L1)) ([0] ++ [3]) ([s0] ++ xs) h
def p61z12 (s0 i3 x14 : Value) (L1 : LK) (h : Heap) : Prop := CutP (iwpP P c61z12 (K61z10 P K s0 L1)) [0, 3, 14] [s0, i3, x14] h
def p61z14 (s0 i3 x14 x18 : Value) (L1 : LK) (h : Heap) : Prop := CutP (iwpP P c61z14 (K61z10 P K s0 L1)) [0, 3, 14, 18] [s0, i3, x14, x18] h
theorem q61z14 (s0 i3 x14 x18 : Value) (L1 : LK) (h : Heap) : p61z14 P K s0 i3 x14 x18 L1 h =
 (OP (iPick x14 x18 (.bool false)) fun x19 =>
 IfP x19
 (K (.bool false) h)
 (OP (iBin .add i3 (.int .i64 (1))) fun x9 =>
 ([s0] : List Value) = [s0] ∧ L1 [x9] h)) := (CutP_def _ _ _ _).trans (by kernel_rfl)
theorem q61z12 (s0 i3 x14 : Value) (L1 : LK) (h : Heap) : p61z12 P K s0 i3 x14 L1 h =
 (GdP x14 true
 (OP (iIdxS s0 i3) fun x17 =>
 OP (iBin .neq x17 (.int .u8 (49))) fun x18 =>
 p61z14 P K s0 i3 x14 x18 L1 h)
 (p61z14 P K s0 i3 x14 undef L1 h)) := (CutP_def _ _ _ _).trans (by kernel_rfl)
theorem q61z5 (s0 : Value) (L1 : LK) (i3 : Value) (h : Heap) : p61z5 P K s0 L1 [i3] h =
 (OP (iLenS s0) fun x6 =>
 OP (iBin .lss i3 x6) fun x7 =>
 IfP x7
 (OP (iIdxS s0 i3) fun x12 =>
 OP (iBin .neq x12 (.int .u8 (48))) fun x13 =>
 p61z12 P K s0 i3 x13 L1 h)
 (K (.bool true) h)) := (CutP_def _ _ _ _).trans (by kernel_rfl)
def T61 (s0 : Value) (h : Heap) : Prop :=
 LoopP [(.int .i64 (0))] h fun L1 xs hx =>
 p61z5 P K s0 L1 xs hx
theorem e61 (s0 : Value) (h : Heap) : iwpP P c61 (bodyP [.tmp 2] K) (frame0 [s0]) h = T61 P K s0 h := by kernel_rfl
theorem f61 {K : VK} {s0 : Value} {h : Heap} (H : T61 Tryz.prog K s0 h) : CallP Tryz.prog 61 [s0] h K :=
 callP_intro k61 (Nat.le_of_ble_eq_true rfl) ((e61 Tryz.prog K s0 h).mpr H)
/-! F63: pommel/pommelref08.begins -/
noncomputable def c63z6 : ICode := .ops none [⟨some 17, .p (.pick (.tmp 10) (.tmp 16) (.const (.bool false)))⟩,gm 4 17]
noncomputable def c63z4 : ICode := .seq (.ops (some (10, true)) [gm 11 1,gm 12 0,⟨some 13, .p (.lenS (.tmp 12))⟩,⟨some 14, .p (.slS (.tmp 11) none (some (.tmp 13)))⟩,gm 15 0,⟨some 16, .p (.bin .eql (.tmp 14) (.tmp 15))⟩])
 (.cut [10, 16] c63z6)
noncomputable def c63z2 : ICode := .ret
noncomputable def c63 : ICode := .seq (.ops none [⟨some 4, .p (.mv (.const (.bool false)))⟩])
 (.seq (.seq (.ops none [gm 5 0,⟨some 6, .p (.lenS (.tmp 5))⟩,gm 7 1,⟨some 8, .p (.lenS (.tmp 7))⟩,⟨some 9, .p (.bin .leq (.tmp 6) (.tmp 8))⟩,gm 10 9])
 (.cut [0, 1, 10] c63z4)) c63z2)
theorem k63 : compFn Tryz.prog 63 [[], [0, 1, 10], [10, 16], []] = some (18, c63, [.tmp 4]) := by kernel_rfl
def K63z0 (_P : Program) (K : VK) : Kont := bodyP [.tmp 4] K
def K63z2 : Kont := thenK (iwpP P c63z2 (K63z0 P K)) (K63z0 P K)
def p63z4 (s0 t1 x10 : Value) (h : Heap) : Prop := CutP (iwpP P c63z4 (K63z2 P K)) [0, 1, 10] [s0, t1, x10] h
def p63z6 (x10 x16 : Value) (h : Heap) : Prop := CutP (iwpP P c63z6 (K63z2 P K)) [10, 16] [x10, x16] h
theorem q63z6 (x10 x16 : Value) (h : Heap) : p63z6 P K x10 x16 h =
 (OP (iPick x10 x16 (.bool false)) fun x17 =>
 K x17 h) := (CutP_def _ _ _ _).trans (by kernel_rfl)
theorem q63z4 (s0 t1 x10 : Value) (h : Heap) : p63z4 P K s0 t1 x10 h =
 (GdP x10 true
 (OP (iLenS s0) fun x13 =>
 OP (iSlS t1 none (some x13)) fun x14 =>
 OP (iBin .eql x14 s0) fun x16 =>
 p63z6 P K x10 x16 h)
 (p63z6 P K x10 undef h)) := (CutP_def _ _ _ _).trans (by kernel_rfl)
def T63 (s0 t1 : Value) (h : Heap) : Prop :=
 OP (iLenS s0) fun x6 =>
 OP (iLenS t1) fun x8 =>
 OP (iBin .leq x6 x8) fun x9 =>
 p63z4 P K s0 t1 x9 h
theorem e63 (s0 t1 : Value) (h : Heap) : iwpP P c63 (bodyP [.tmp 4] K) (frame0 [s0, t1]) h = T63 P K s0 t1 h := by kernel_rfl
theorem f63 {K : VK} {s0 t1 : Value} {h : Heap} (H : T63 Tryz.prog K s0 t1 h) : CallP Tryz.prog 63 [s0, t1] h K :=
 callP_intro k63 (Nat.le_of_ble_eq_true rfl) ((e63 Tryz.prog K s0 t1 h).mpr H)
end Go.Proofs.YthplaillblmgfaaGreatDoor

namespace Go.Proofs.YthplaillblmgfaaGreatDoor
open Go.Sim

theorem mkW0 (h : Heap) : iMkSl 9 0 [(.string ⟨#[]⟩)] h [] = some (sl 9 h.length 0 0, h ++ [.arr 9 []]) := rfl

structure Ok' (W : List Tx) : Prop where
  nd : W.Nodup
  all : ∀ w ∈ W, w ≠ [] ∧ w.length ≤ 10 ∧ bitsB w = true

end Go.Proofs.YthplaillblmgfaaGreatDoor


namespace Go.Proofs.YthplaillblmgfaaGreatDoor
open Go.Sim

theorem app_own {h0 g : Heap} {v x : Value} {xs ys : List Value} {K : Value → Heap → Prop} (own : OwnS h0.length g 3 v xs) (hex : EX h0 g) (hs : sliceCells g 1 x = some ys) (hx : lenOfSl x = some ys.length) (hl : xs.length + ys.length ≤ 1000)
    (hk : ∀ v' g', EX h0 g' → (∀ d, d < g.length → (∀ n, v ≠ sl 3 d 0 n) → g'[d]? = g[d]?) → OwnS h0.length g' 3 v' (xs ++ ys) → K v' g') : OH (iApp 3 1 8 g v x) K := by
  rcases own with ⟨rfl, rfl⟩ | ⟨i, hi, rfl, hg⟩
  · by_cases h0' : ys.length = 0
    · have : ys = [] := List.length_eq_zero_iff.1 h0'
      subst this
      refine OH_of (v := .slice none 0 0) (h := g) ?_ (hk _ _ hex (fun _ _ _ => rfl) (.inl ⟨rfl, rfl⟩))
      simp only [iApp, hs, hx]
      rw [if_pos (by rfl)]
    · refine OH_of (v := sl 3 g.length 0 ys.length) (h := g ++ [.arr 3 ys]) ?_ (hk _ _ (hex.push _) (fun d hd _ => List.getElem?_append_left hd) (.inr ⟨g.length, hex.1, by simp, by simp⟩))
      simp only [iApp, hs, hx]
      simp at hl
      rw [if_neg h0', if_pos ⟨by omega, by simp [maxLen]; omega⟩]
  · have e : xs.length = xs.length * 1 := (Nat.mul_one _).symm
    by_cases h0' : ys.length = 0
    · have : ys = [] := List.length_eq_zero_iff.1 h0'
      subst this
      refine OH_of (v := sl 3 i 0 xs.length) (h := g) ?_ (hk _ _ hex (fun _ _ _ => rfl) (.inr ⟨i, hi, by simp, by simpa using hg⟩))
      simp only [iApp, hs, hx]
      simp only [sl, hg]
      rw [if_pos ⟨trivial, trivial, e, by simp; omega, by simp [maxLen]; omega⟩, if_pos (by rfl)]
    · refine OH_of (v := sl 3 g.length 0 (xs.length + ys.length)) (h := g.set i .dead ++ [.arr 3 (xs ++ ys)]) ?_ (hk _ _ ((hex.set hi _).push _) (fun d hd hne => ?_) (.inr ⟨g.length, hex.1, by simp, by simp⟩))
      · simp only [iApp, hs, hx]
        simp only [sl, hg]
        rw [if_pos ⟨trivial, trivial, e, by omega, by simp [maxLen]; omega⟩, if_neg h0']
      · have hdi : i ≠ d := by rintro rfl; exact hne _ rfl
        rw [List.getElem?_append_left (by simpa using hd), List.getElem?_set_ne hdi]

theorem mk0 (g : Heap) : iMkSl 3 0 [(.int .i64 (0))] g [] = some (sl 3 g.length 0 0, g ++ [.arr 3 []]) := rfl
theorem mk1 (g : Heap) (x : Int) : iMkSl 3 1 [(.int .i64 (0))] g [(0, 1, I x)] = some (sl 3 g.length 0 1, g ++ [.arr 3 [I x]]) := rfl
end Go.Proofs.YthplaillblmgfaaGreatDoor


namespace Go.Proofs.YthplaillblmgfaaGreatDoor
open Go.Sim

theorem C63 {s t : Tx} {h : Heap} {K : Value → Heap → Prop} (hk : K (B (decide (s <+: t))) h) : CallP Tryz.prog 63 [S s, S t] h K := by
  refine f63 ?_
  unfold T63
  simp only [lenS_S, OP_some, bin_leq]
  rw [q63z4]
  by_cases hl : s.length ≤ t.length
  · rw [decide_eq_true (show (s.length : Int) ≤ t.length by omega)]
    simp only [GdP_tt, lenS_S, OP_some, slS_hi (a := t) hl .i64, bin_eqlS]
    rw [q63z6]
    simp only [iPick_t, OP_some]
    have : decide (t.take s.length = s) = decide (s <+: t) := decide_eq_decide.2 (by rw [List.prefix_iff_eq_take]; exact eq_comm)
    rw [this]
    exact hk
  · rw [decide_eq_false (show ¬ (s.length : Int) ≤ t.length by omega)]
    simp only [GdP_ft, OP_some]
    rw [q63z6]
    simp only [iPick_f, OP_some]
    have : decide (s <+: t) = false := decide_eq_false fun h => hl h.length_le
    rw [this] at hk
    exact hk

def NoBeg (W : List Tx) : Prop := ∀ i j (hi : i < W.length) (hj : j < W.length), i ≠ j → ¬ W[i] <+: W[j]
structure Fst (W : List Tx) (i j : Nat) : Prop where
  hi : i < W.length
  hj : j < W.length
  ne : i ≠ j
  pre : W[i] <+: W[j]
  fst : ∀ i' j' (hi' : i' < W.length) (hj' : j' < W.length), i' ≠ j' → W[i'] <+: W[j'] → i < i' ∨ i = i' ∧ j ≤ j'

theorem Fst.uniq {W : List Tx} {i j i' j' : Nat} (a : Fst W i j) (b : Fst W i' j') : i = i' ∧ j = j' := by
  have h1 := a.fst i' j' b.hi b.hj b.ne b.pre
  have h2 := b.fst i j a.hi a.hj a.ne a.pre
  omega

theorem Fst.no {W : List Tx} {i j : Nat} (a : Fst W i j) (n : NoBeg W) : False := n i j a.hi a.hj a.ne a.pre

theorem C61 {s : Tx} {h : Heap} {K : Value → Heap → Prop} (hl : s.length < 4611686018427387904) (hk : K (B (bitsB s)) h) : CallP Tryz.prog 61 [S s] h K := by
  refine f61 ?_
  unfold T61
  refine loopL (σ := Nat) (fun i => [I i]) (fun _ => h) (fun i => i ≤ s.length ∧ bitsB (s.take i) = true) (fun i => s.length - i) 0 rfl rfl ⟨Nat.zero_le _, rfl⟩ ?_
  rintro i ⟨hi, hb⟩ L hL
  rw [q61z5]
  simp only [lenS_S, OP_some, bin_lss, IfP_dec]
  refine ⟨fun hlt => ?_, fun hge => ?_⟩
  · have hlt : i < s.length := by omega
    have bad : isBit s[i] = false → K (B false) h := fun hc => by
      have : bitsB s = false := by
        rw [bitsB, List.all_eq_false]
        exact ⟨s[i], List.getElem_mem hlt, by simp [hc]⟩
      rwa [this] at hk
    have next : isBit s[i] = true → L [I ((i + 1 : Nat) : Int)] h := fun hc => hL (i + 1) ⟨hlt, by
      rw [List.take_succ_eq_append_getElem hlt]
      exact bits_app hb (by simp [bitsB, hc])⟩ (by omega)
    have w := incM i (show i < maxLen by simp [maxLen]; omega)
    have c48 : iBin .neq (cv s[i]) (.int .u8 (48)) = some (B (!decide (s[i] = 48))) := by
      have := bin_neq (k := .u8) (a := (s[i].toNat : Int)) (b := ((48 : UInt8).toNat : Int))
      rw [decide_eq_decide.2 (cv_inj s[i] 48)] at this
      exact this
    have c49 : iBin .neq (cv s[i]) (.int .u8 (49)) = some (B (!decide (s[i] = 49))) := by
      have := bin_neq (k := .u8) (a := (s[i].toNat : Int)) (b := ((49 : UInt8).toNat : Int))
      rw [decide_eq_decide.2 (cv_inj s[i] 49)] at this
      exact this
    simp only [idxS_S (a := s) hlt .i64, OP_some, c48]
    rw [q61z12]
    by_cases e1 : s[i] = 48
    · simp only [decide_eq_true e1, Bool.not_true, GdP_ft, q61z14, iPick_f, OP_some, IfP_false, bin_add, w, true_and]
      exact next (by rw [e1]; rfl)
    · simp only [decide_eq_false e1, Bool.not_false, GdP_tt, idxS_S (a := s) hlt .i64, OP_some, c49, q61z14, iPick_t, IfP_ndec, bin_add, w, true_and]
      refine ⟨fun e2 => bad ?_, fun e2 => next (by rw [e2]; rfl)⟩
      simp [isBit, e1, e2]
  · have : i = s.length := by omega
    subst this
    rw [List.take_length] at hb
    rwa [hb] at hk

/-- Why words are no code, by the reference. -/
theorem C30 {v : Value} {W : List Tx} {h : Heap} {K : Value → Heap → Prop} (hv : SS h v W) (hl : W.length ≤ 1000) (hw : ∀ w ∈ W, w.length < 4611686018427387904) (hk : K (I (chkE W [])) h) : CallP Tryz.prog 30 [v] h K := by
  refine f30 ?_
  unfold T30
  simp only [hv.len, OP_some, bin_gtr, IfP_dec]
  have b0 : bitsB [] = true := rfl
  refine ⟨fun h1 => ?_, fun h1 => ?_⟩
  · rw [chkE, if_pos (.inl (by omega))] at hk
    exact hk
  rw [chkE, if_neg (by simp; omega)] at hk
  have bad : ¬ codeOk W → K (I 2) h := fun hc => by
    split at hk
    · exact hk
    · first | exact hk | rwa [if_neg hc] at hk
  refine loopL (σ := Nat) (fun i => [I i]) (fun _ => h) (fun i => i ≤ W.length ∧ ∀ j (hj : j < W.length), j < i → (W[j] ≠ [] ∧ W[j].length ≤ 10 ∧ bitsB W[j] = true) ∧ W[j] ∉ W.take j) (fun i => W.length - i) 0 rfl rfl ⟨Nat.zero_le _, fun _ _ hi => absurd hi (Nat.not_lt_zero _)⟩ ?_
  rintro i ⟨hi, hok⟩ L hL
  rw [q30z8]
  simp only [hv.len, OP_some, bin_lss, IfP_dec]
  refine ⟨fun hlt => ?_, fun hge => ?_⟩
  · have hlt : i < W.length := by omega
    obtain ⟨b, o, a1, a2⟩ := hv.get i hlt
    have mem : W[i] ∈ W := List.getElem_mem hlt
    simp only [a1, a2, OP_some, lenS_S]
    refine C71 ?_
    simp only [un_not, OP_some]
    rw [q30z16]
    by_cases h2 : (1 ≤ W[i].length ∧ W[i].length ≤ 10)
    · rw [decide_eq_true (show (1 : Int) ≤ W[i].length by omega), decide_eq_true (show (W[i].length : Int) ≤ 10 by omega)]
      simp only [Bool.and_true, Bool.not_true, GdP_ff, a1, a2, OP_some]
      refine C61 (hw _ mem) ?_
      simp only [un_not, OP_some]
      rw [q30z18]
      simp only [iPick_f, OP_some]
      cases hb : bitsB W[i] with
      | false =>
        simp only [Bool.not_false, IfP_true]
        exact bad fun hc => by rw [(hc.2 _ mem).2.2] at hb; cases hb
      | true =>
        simp only [Bool.not_true, IfP_false]
        refine loopL (σ := Nat) (fun i => [I i]) (fun _ => h) (fun k => k ≤ i ∧ W[i] ∉ W.take k) (fun k => i - k) 0 rfl rfl ⟨Nat.zero_le _, by simp⟩ ?_
        rintro k ⟨hki, hni⟩ L2 hL2
        rw [q30z22]
        simp only [bin_lss, OP_some, IfP_dec]
        refine ⟨fun hlt2 => ?_, fun hge => ?_⟩
        · have hk2 : k < i := by omega
          obtain ⟨b', o', a3, a4⟩ := hv.get k (by omega)
          simp only [a1, a2, a3, a4, OP_some, true_and, bin_eqlS, IfP_dec, bin_add, incM k (show k < maxLen by simp [maxLen]; omega)]
          refine ⟨fun he => bad fun hc => ?_, fun hne => hL2 (k + 1) ⟨hk2, fun hm => ?_⟩ (by omega)⟩
          · exact (List.pairwise_iff_getElem.1 hc.1) k i (by omega) hlt hk2 he.symm
          · rw [List.take_succ_eq_append_getElem (by omega : k < W.length), List.mem_append, List.mem_singleton] at hm
            exact hm.elim hni hne
        · rw [q30z29]
          simp only [bin_add, OP_some, incM i (show i < maxLen by simp [maxLen]; omega), true_and]
          refine hL (i + 1) ⟨hlt, fun j hj hji => ?_⟩ (by omega)
          rcases Nat.lt_succ_iff_lt_or_eq.1 hji with h' | h'
          · exact hok j hj h'
          · subst h'
            have : k = j := by omega
            subst this
            exact ⟨⟨by intro e; rw [e] at h2; simp at h2, h2.2, hb⟩, hni⟩
    · have e : (decide ((1 : Int) ≤ W[i].length) && decide ((W[i].length : Int) ≤ 10)) = false := by
        rw [Bool.and_eq_false_iff, decide_eq_false_iff_not, decide_eq_false_iff_not]; omega
      rw [e]
      simp only [Bool.not_false, GdP_tf, q30z18, iPick_t, OP_some, IfP_true]
      refine bad fun hc => h2 ⟨?_, (hc.2 _ mem).2.1⟩
      have := List.length_pos_iff.2 (hc.2 _ mem).1
      omega
  · have ok : codeOk W := ⟨List.pairwise_iff_getElem.2 fun a b ha hb hab e => (hok b hb (by omega)).2 (e ▸ List.mem_take_iff_getElem.2 ⟨a, by omega, rfl⟩), fun w hw => by
      obtain ⟨j, hj, rfl⟩ := List.getElem_of_mem hw
      exact (hok j hj (by omega)).1⟩
    rw [q30z30]
    simp only [hv.len, OP_some, bin_eql, IfP_dec]
    refine ⟨fun h0 => ?_, fun h0 => ?_⟩
    · rw [if_pos (.inl (List.length_eq_zero_iff.1 (by omega)))] at hk
      exact hk
    · rw [if_neg, if_pos ok] at hk
      · exact hk
      · rintro (e | e)
        · rw [e] at h0; simp at h0
        · rw [b0] at e; cases e

end Go.Proofs.YthplaillblmgfaaGreatDoor


namespace Go.Proofs.YthplaillblmgfaaGreatDoor
open Go.Sim Go.ChangeShapes Go.WideShapes Go.ChangeAt Go.RowKit

set_option maxRecDepth 100000
theorem cells9 : Tryz.prog.cellsOf 9 = 1 := by kernel_rfl

section
variable {H : Type} {enc : TypeId × Value → H} {W : World} {ρ : RMap} {h : Heap}

theorem trod_str_flat {e : TypeId} (he : Tryz.prog.underlying e = some .string) (hc : Tryz.prog.cellsOf e = 1) : ∀ n cs y, DataW.trod enc Tryz.prog W 0 (fun _ => true) true n e cs = some y → cs.length = Tryz.prog.cellsOf e ∧ ∀ x ∈ cs, scal x = true := by
  intro n cs y h
  obtain ⟨s, rfl, _, _⟩ := DataW.trod_string he h
  exact ⟨by rw [hc]; rfl, by simp [scal]⟩

theorem strs_of {e : TypeId} (he : Tryz.prog.underlying e = some .string) : ∀ {n : Nat} {xs : List Value}, xs.length = n * 1 → (∀ i, i < n → ∃ m y, DataW.trod enc Tryz.prog W 0 (fun _ => true) true m e ((xs.drop (i * 1)).take 1) = some y) → ∃ ls : List Tx, ls.length = n ∧ xs = ls.map S := by
  intro n
  induction n with
  | zero => intro xs hx _; exact ⟨[], rfl, by simpa using hx⟩
  | succ n ih =>
    intro xs hx hy
    cases xs with
    | nil => simp at hx
    | cons x xs =>
      obtain ⟨m, y, h0⟩ := hy 0 (by omega)
      obtain ⟨s, e1, _⟩ := DataW.trod_string he h0
      have ex : x = .string s := by simpa using e1
      obtain ⟨ls, l1, l2⟩ := ih (xs := xs) (by simpa using hx) fun i hi => by
        obtain ⟨m, y, h1⟩ := hy (i + 1) (by omega)
        refine ⟨m, y, ?_⟩
        simpa using h1
      refine ⟨Go.Sim.bytes s :: ls, by simp [l1], ?_⟩
      rw [List.map_cons, S_bytes, ← ex, ← l2]

theorem emb_strs {t : TypeId} (ht : Tryz.prog.underlying t = some (.slice 9)) (h9 : Tryz.prog.underlying 9 = some .string) {b : Nat} {v : Value} {d : DataW H} {ps : List MemPlace} (hok : Value.okWide Tryz.prog W .any b t v) (hd : DataW.Trod enc Tryz.prog W 0 (fun _ => true) true t v d ps) (HR : HRel Tryz.prog ρ h W) (hro : roH h) :
    ∃ (ρ' : RMap) (g : Heap) (v' : Value) (ls : List Tx), ρ.le ρ' ∧ HRel Tryz.prog ρ' (h ++ g) W ∧ roH (h ++ g) ∧ VRel ρ' v' v ∧ SS (h ++ g) v' ls := by
  simp only [Value.okWide, ht] at hok
  obtain ⟨fuel, hf⟩ := hd
  rw [slice_one ht hok] at hf
  obtain ⟨ρ', g, v', n, xs, e1, e2, e3, e4, e5, e6, e7, e8, e9⟩ := emb_slice (P := Tryz.prog) (W := W) (enc := enc) (ρ := ρ) (h := h) ht (by rw [cells9]; omega) (trod_str_flat h9 cells9) hf hok HR hro
  rw [cells9] at e7 e9
  obtain ⟨ls, q1, rfl⟩ := strs_of h9 e7 e9
  subst q1
  refine ⟨ρ', g, v', ls, e1, e2, e3, e4, ?_⟩
  rcases e6 with ⟨rfl, h0⟩ | ⟨i, rfl, h0⟩
  · have : ls = [] := List.length_eq_zero_iff.1 h0
    subst this
    exact ⟨rfl, fun k hk => by simp at hk⟩
  · rcases h0 with h0 | h0
    · have : ls = [] := List.length_eq_zero_iff.1 h0
      subst this
      exact ⟨rfl, fun k hk => by simp at hk⟩
    · exact SS.sl h0

end

end Go.Proofs.YthplaillblmgfaaGreatDoor


namespace Go.Proofs.YthplaillblmgfaaGreatDoor
open Go.Sim

def Rows' (W : List Tx) (x : List Tx) : Prop := ∀ w ∈ x, w ∈ W
def Amb (W : List Tx) (s : Tx) : Prop := ∃ x y, Rows' W x ∧ Rows' W y ∧ x ≠ y ∧ x.flatten = s ∧ y.flatten = s

theorem Rows'.snoc {W x : List Tx} (h : Rows' W x) {w : Tx} (hw : w ∈ W) : Rows' W (x ++ [w]) := fun v hv => by
  rcases List.mem_append.1 hv with hv | hv
  · exact h v hv
  · rw [List.mem_singleton.1 hv]; exact hw

theorem Rc.two {W : List Tx} {a t : Tx} (r : Rc W a t) : ∃ v w x y, v ≠ w ∧ Rows' W (v :: x) ∧ Rows' W (w :: y) ∧ (v :: x).flatten = t ∧ (w :: y).flatten ++ a = t := by
  induction r with
  | @init v w hv hw hne hp =>
    obtain ⟨r, rfl⟩ := hp
    exact ⟨_, v, [], [], Ne.symm hne, fun u hu => by rw [List.mem_singleton.1 hu]; exact hw, fun u hu => by rw [List.mem_singleton.1 hu]; exact hv, by simp, by simp⟩
  | @fwd a t u _ _ hu hp ih =>
    obtain ⟨v, w, x, y, hne, h1, h2, e1, e2⟩ := ih
    obtain ⟨r, rfl⟩ := hp
    refine ⟨w, v, y ++ [a ++ r], x, Ne.symm hne, h2.snoc hu, h1, ?_, ?_⟩
    · rw [← e2]; simp
    · rw [e1]
  | @bwd a t u _ _ hu hp ih =>
    obtain ⟨v, w, x, y, hne, h1, h2, e1, e2⟩ := ih
    obtain ⟨r, rfl⟩ := hp
    refine ⟨v, w, x, y ++ [u], hne, h1, h2.snoc hu, e1, ?_⟩
    rw [← e2]; simp

theorem Rc.amb {W : List Tx} {t : Tx} (r : Rc W [] t) : Amb W t := by
  obtain ⟨v, w, x, y, hne, h1, h2, e1, e2⟩ := r.two
  exact ⟨_, _, h1, h2, fun e => hne (List.cons.inj e).1, e1, by simpa using e2⟩

theorem Rows'.tail {W x : List Tx} {v : Tx} (h : Rows' W (v :: x)) : Rows' W x := fun w hw => h w (List.mem_cons_of_mem _ hw)

theorem run {W : List Tx} : ∀ (n : Nat) {a t : Tx} {x y : List Tx}, x.length + y.length ≤ n → Rc W a t → a ≠ [] → Rows' W x → Rows' W y → a ++ x.flatten = y.flatten → ∃ t', Rc W [] t' ∧ t' <+: t ++ x.flatten := by
  intro n
  induction n with
  | zero =>
    intro a t x y hn r ha hx hy e
    have : y = [] := List.length_eq_zero_iff.1 (by omega)
    subst this
    simp at e
    exact absurd e.1 ha
  | succ n ih =>
    intro a t x y hn r ha hx hy e
    cases y with
    | nil => simp at e; exact absurd e.1 ha
    | cons w y =>
      have hw := hy w List.mem_cons_self
      rw [List.flatten_cons] at e
      simp only [List.length_cons] at hn
      rcases List.prefix_or_prefix_of_prefix (show a <+: a ++ x.flatten from List.prefix_append _ _) (show w <+: a ++ x.flatten from e ▸ List.prefix_append _ _) with hp | hp
      · have r' := Rc.fwd r ha hw hp
        obtain ⟨q, rfl⟩ := hp
        rw [List.drop_left] at r'
        rw [List.append_assoc] at e
        have e' := List.append_cancel_left e
        by_cases hq : q = []
        · subst hq
          exact ⟨_, r', by simp⟩
        · obtain ⟨t', h1, h2⟩ := ih (by omega) r' hq hy.tail hx e'.symm
          refine ⟨t', h1, ?_⟩
          rw [e']
          simpa using h2
      · have r' := Rc.bwd r ha hw hp
        obtain ⟨q, rfl⟩ := hp
        rw [List.drop_left] at r'
        rw [List.append_assoc] at e
        have e' := List.append_cancel_left e
        by_cases hq : q = []
        · subst hq
          exact ⟨_, r', List.prefix_append _ _⟩
        · exact ih (by omega) r' hq hx hy.tail e'

theorem start {W : List Tx} {v w : Tx} {x y : List Tx} (hne : v ≠ w) (hx : Rows' W (v :: x)) (hy : Rows' W (w :: y)) (e : (v :: x).flatten = (w :: y).flatten) : ∃ t', Rc W [] t' ∧ t' <+: (v :: x).flatten := by
  have key : ∀ {v w : Tx} {x y : List Tx}, v ≠ w → Rows' W (v :: x) → Rows' W (w :: y) → v ++ x.flatten = w ++ y.flatten → v <+: w → ∃ t', Rc W [] t' ∧ t' <+: w ++ y.flatten := by
    intro v w x y hne hx hy e hp
    have r := Rc.init (hx v List.mem_cons_self) (hy w List.mem_cons_self) hne hp
    obtain ⟨q, rfl⟩ := hp
    rw [List.drop_left] at r
    rw [List.append_assoc] at e
    have e' := List.append_cancel_left e
    exact run _ (Nat.le_refl _) r (by rintro rfl; simp at hne) hy.tail hx.tail e'.symm
  rw [List.flatten_cons, List.flatten_cons] at e
  rw [List.flatten_cons]
  rcases List.prefix_or_prefix_of_prefix (show v <+: v ++ x.flatten from List.prefix_append _ _) (show w <+: v ++ x.flatten from e ▸ List.prefix_append _ _) with hp | hp
  · rw [e]; exact key hne hx hy e hp
  · exact key (Ne.symm hne) hy hx e.symm hp

theorem Amb.rc {W : List Tx} (hn : ∀ w ∈ W, w ≠ []) {s : Tx} : Amb W s → ∃ t, Rc W [] t ∧ t.length ≤ s.length := by
  rintro ⟨x, y, hx, hy, hne, e1, e2⟩
  induction x generalizing y s with
  | nil =>
    cases y with
    | nil => exact absurd rfl hne
    | cons w y =>
      subst e1
      have := hn w (hy w List.mem_cons_self)
      simp at e2
      exact absurd e2.1 this
  | cons v x ih =>
    cases y with
    | nil =>
      subst e2
      have := hn v (hx v List.mem_cons_self)
      simp at e1
      exact absurd e1.1 this
    | cons w y =>
      by_cases hvw : v = w
      · subst hvw
        rw [List.flatten_cons] at e1 e2
        have e : x.flatten = y.flatten := List.append_cancel_left (e1.trans e2.symm)
        obtain ⟨t, h1, h2⟩ := ih y hx.tail hy.tail (fun h => hne (by rw [h])) rfl e.symm
        exact ⟨t, h1, by rw [← e1, List.length_append]; omega⟩
      · obtain ⟨t, h1, h2⟩ := start hvw hx hy (e1.trans e2.symm)
        exact ⟨t, h1, by rw [← e1]; exact h2.length_le⟩

theorem flatten_rev (x : List Tx) : (x.map List.reverse).reverse.flatten = x.flatten.reverse := by
  rw [List.reverse_flatten]

theorem Amb.rev {W : List Tx} {s : Tx} : Amb W s → Amb (W.map List.reverse) s.reverse := by
  rintro ⟨x, y, hx, hy, hne, rfl, e2⟩
  have rw' : ∀ x : List Tx, Rows' W x → Rows' (W.map List.reverse) (x.map List.reverse).reverse := fun x hx w hw => by
    rw [List.mem_reverse] at hw
    obtain ⟨u, hu, rfl⟩ := List.mem_map.1 hw
    exact List.mem_map.2 ⟨u, hx u hu, rfl⟩
  refine ⟨(x.map List.reverse).reverse, (y.map List.reverse).reverse, rw' x hx, rw' y hy, fun e => hne ?_, flatten_rev x, by rw [flatten_rev, e2]⟩
  have e := congrArg List.reverse e
  rw [List.reverse_reverse, List.reverse_reverse] at e
  have := congrArg (List.map List.reverse) e
  simpa [List.map_map, Function.comp_def] using this

/-- The least text of a code turned around is as long. -/
theorem turned {W : List Tx} (hn : ∀ w ∈ W, w ≠ []) {t : Tx} (r : Rc W [] t) : ∃ u, Rc (W.map List.reverse) [] u ∧ u.length ≤ t.length := by
  have hn' : ∀ w ∈ W.map List.reverse, w ≠ [] := fun w hw => by
    obtain ⟨u, hu, rfl⟩ := List.mem_map.1 hw
    simpa using hn u hu
  obtain ⟨u, h1, h2⟩ := Amb.rc hn' r.amb.rev
  exact ⟨u, h1, by simpa using h2⟩

theorem Ok.rev {W : List Tx} (ok : Ok W) : Ok (W.map List.reverse) := by
  refine ⟨?_, fun w hw => ?_, fun w hw => ?_, fun w hw => ?_, by rw [List.length_map]; exact ok.few⟩
  · refine List.pairwise_map.2 (ok.nd.imp fun h e => h ?_)
    have e := congrArg List.reverse e
    rwa [List.reverse_reverse, List.reverse_reverse] at e
  all_goals obtain ⟨u, hu, rfl⟩ := List.mem_map.1 hw
  · simpa using ok.ne u hu
  · simpa using ok.le u hu
  · simpa [bitsB] using ok.bt u hu

end Go.Proofs.YthplaillblmgfaaGreatDoor


namespace Go.Proofs.YthplaillblmgfaaGreatDoor
open Go.Sim

def sufB (s : Tx) (i : Nat) (w : Tx) : Bool := decide (w <:+ s.take i)
def sumR (s : Tx) (cs : List Nat) (i : Nat) (V : List Tx) : Nat := ((V.filter (sufB s i)).map fun w => cs.getD (i - w.length) 0).sum
/-- For each beginning. -/
def rdL (W : List Tx) (s : Tx) : Nat → List Nat
  | 0 => [1]
  | i + 1 => rdL W s i ++ [sumR s (rdL W s i) (i + 1) W]

theorem rdL_len (W : List Tx) (s : Tx) : ∀ i, (rdL W s i).length = i + 1
  | 0 => rfl
  | i + 1 => by rw [rdL, List.length_append, rdL_len W s i]; rfl

def rdN (W : List Tx) (s : Tx) (i : Nat) : Nat := (rdL W s i).getD i 0

theorem sum_le_mul {l : List Nat} {m : Nat} (h : ∀ x ∈ l, x ≤ m) : l.sum ≤ l.length * m := by
  induction l with
  | nil => simp
  | cons x l ih =>
    have := h x List.mem_cons_self
    have := ih fun y hy => h y (List.mem_cons_of_mem _ hy)
    rw [List.sum_cons, List.length_cons, Nat.succ_mul]; omega

theorem sumR_le {s : Tx} {cs : List Nat} {i m : Nat} {V : List Tx} (hv : V.length ≤ 12) (h : ∀ x ∈ cs, x ≤ m) : sumR s cs i V ≤ 12 * m := by
  unfold sumR
  refine Nat.le_trans (sum_le_mul (m := m) fun x hx => ?_) (Nat.mul_le_mul_right _ ?_)
  · obtain ⟨w, _, rfl⟩ := List.mem_map.1 hx
    rw [List.getD_eq_getElem?_getD]
    cases hc : cs[i - w.length]? with
    | none => exact Nat.zero_le _
    | some c => exact h c (List.mem_of_getElem? hc)
  · rw [List.length_map]
    exact Nat.le_trans (List.length_filter_le _ _) hv

theorem rdL_le {W : List Tx} (hv : W.length ≤ 12) (s : Tx) : ∀ i, ∀ x ∈ rdL W s i, x ≤ 12 ^ i
  | 0, x, hx => by rw [rdL, List.mem_singleton] at hx; rw [hx]; exact Nat.le_refl _
  | i + 1, x, hx => by
    rw [rdL] at hx
    have ih := rdL_le hv s i
    rw [Nat.pow_succ, Nat.mul_comm]
    rcases List.mem_append.1 hx with hx | hx
    · have := ih x hx; omega
    · rw [List.mem_singleton.1 hx]
      exact sumR_le hv ih

theorem sumR_snoc {s : Tx} {cs : List Nat} {i : Nat} (V : List Tx) (w : Tx) : sumR s cs i (V ++ [w]) = sumR s cs i V + (if sufB s i w then cs.getD (i - w.length) 0 else 0) := by
  unfold sumR
  rw [List.filter_append, List.map_append, List.sum_append]
  by_cases h : sufB s i w = true
  · simp [h]
  · simp [h]

end Go.Proofs.YthplaillblmgfaaGreatDoor


namespace Go.Proofs.YthplaillblmgfaaGreatDoor
open Go.Sim

section
variable {h : Heap} {id : Nat}

abbrev hb (h : Heap) (id : Nat) (xs : List UInt8) : Heap := h.set id (.arr 5 (xs.map cv))

theorem hb_get (hid : id < h.length) (xs : List UInt8) : (hb h id xs)[id]? = some (.arr 5 (xs.map cv)) := by simp [hb, hid]

theorem hb_load (hid : id < h.length) {xs : List UInt8} {j : Nat} {c : UInt8} (hj : xs[j]? = some c) : iLoad false 1 (hb h id xs) (pt id j) = some (cv c) := by
  simp [iLoad, objCells, hb_get hid, iPart, hj]

theorem hb_store (hid : id < h.length) {xs : List UInt8} {j : Nat} (c : UInt8) (hj : j < xs.length) : oStore 1 (hb h id xs) (pt id j) (cv c) = some (undef, hb h id (xs.set j c)) := by
  rw [store_at (hb_get hid xs) (by simpa using hj) rfl rfl]
  simp [hb, List.map_set]

end

end Go.Proofs.YthplaillblmgfaaGreatDoor


namespace Go.Proofs.YthplaillblmgfaaGreatDoor
open Go.Sim
variable (P : Program) (K : VK)
/-! F46: pommel/num.Of -/
noncomputable def c46z5 : ICode := .seq (.ops none [gm 10 0,⟨some 11, .p (.bin .lss (.tmp 10) (ci (0)))⟩,gm 12 3,⟨some 13, .p (.conv .u32 (.tmp 12))⟩,gm 14 3,⟨some 15, .p (.bin .shr (.tmp 14) (.const (.int .u64 (32))))⟩,⟨some 16, .p (.conv .u32 (.tmp 15))⟩,⟨some 17, .e (.mkSl 116 2 [(.int .u32 (0))] [(0, 1, (.tmp 13)), (1, 1, (.tmp 16))])⟩,⟨some 18, .call 83 [(.tmp 17)]⟩,⟨some 19, .call 82 [(.tmp 11), (.tmp 18)]⟩,
 ⟨none, .e (.store 2 (.tmp 2) (.tmp 19))⟩])
 (.ret)
noncomputable def c46 : ICode := .seq (.ops none [⟨some 2, .e (.alloc 81 [(.bool false), (.slice none 0 0)])⟩])
 (.seq (.ops none [gm 4 0,⟨some 5, .p (.conv .u64 (.tmp 4))⟩,gm 3 5])
 (.seq (.seq (.ops none [gm 6 0,⟨some 7, .p (.bin .lss (.tmp 6) (ci (0)))⟩])
 (.cond (.tmp 7) (.ops none [gm 8 3,⟨some 9, .p (.un .neg (.tmp 8))⟩,gm 3 9])
 (.skip)))
 (.cut [0, 2, 3] c46z5)))
theorem k46 : compFn Tryz.prog 46 [[], [], [], [0, 2, 3], []] = some (20, c46, [.cell true 2 2]) := by kernel_rfl
def K46z0 (_P : Program) (K : VK) : Kont := bodyP [.cell true 2 2] K
def p46z5 (n0 x2 u3 : Value) (h : Heap) : Prop := CutP (iwpP P c46z5 (K46z0 P K)) [0, 2, 3] [n0, x2, u3] h
theorem q46z5 (n0 x2 u3 : Value) (h : Heap) : p46z5 P K n0 x2 u3 h =
 (OP (iBin .lss n0 (.int .i64 (0))) fun x11 =>
 OP (iConv .u32 u3) fun x13 =>
 OP (iBin .shr u3 (.int .u64 (32))) fun x15 =>
 OP (iConv .u32 x15) fun x16 =>
 OH (iMkSl 116 2 [(.int .u32 (0))] h [(0, 1, x13), (1, 1, x16)]) fun x17 h_1 =>
 CallP P 83 [x17] h_1 fun x18 h_2 =>
 CallP P 82 [x11, x18] h_2 fun x19 h_3 =>
 OH (oStore 2 h_3 x2 x19) fun _ h_4 =>
 OP (iLoad true 2 h_4 x2) fun r0 =>
 K r0 h_4) := (CutP_def _ _ _ _).trans (by kernel_rfl)
def T46 (n0 : Value) (h : Heap) : Prop :=
 OH (iAlloc 81 [(.bool false), (.slice none 0 0)] h) fun x2 h_1 =>
 OP (iConv .u64 n0) fun x5 =>
 OP (iBin .lss n0 (.int .i64 (0))) fun x7 =>
 IfP x7
 (OP (iUn .neg x5) fun x9 =>
 p46z5 P K n0 x2 x9 h_1)
 (p46z5 P K n0 x2 x5 h_1)
theorem e46 (n0 : Value) (h : Heap) : iwpP P c46 (bodyP [.cell true 2 2] K) (frame0 [n0]) h = T46 P K n0 h := by kernel_rfl
theorem f46 {K : VK} {n0 : Value} {h : Heap} (H : T46 Tryz.prog K n0 h) : CallP Tryz.prog 46 [n0] h K :=
 callP_intro k46 (Nat.le_of_ble_eq_true rfl) ((e46 Tryz.prog K n0 h).mpr H)
/-! F48: (pommel/num.Int).Add -/
noncomputable def c48 : ICode := .seq (.ops none [⟨some 2, .e (.box 81 (.tmp 0))⟩,⟨some 3, .e (.box 81 (.tmp 1))⟩,⟨some 4, .e (.alloc 81 [(.bool false), (.slice none 0 0)])⟩])
 (.seq (.block 0 (.seq (.ops none [⟨some 6, .p (.fadr 0 (.tmp 2))⟩,⟨some 7, .l (.load false 1 (.tmp 6))⟩,⟨some 8, .p (.fadr 0 (.tmp 3))⟩,⟨some 9, .l (.load false 1 (.tmp 8))⟩,⟨some 10, .p (.eqb false (.tmp 7) (.tmp 9))⟩,gm 5 10])
 (.cond (.tmp 5) (.seq (.dops [(none, [⟨some 11, .p (.fadr 0 (.tmp 2)), 0⟩,⟨some 12, .l (.load false 1 (.tmp 11)), 1⟩,⟨some 13, .p (.fadr 1 (.tmp 2)), 0⟩,⟨some 14, .l (.load false 1 (.tmp 13)), 4⟩,⟨some 15, .p (.fadr 1 (.tmp 3)), 0⟩,⟨some 16, .l (.load false 1 (.tmp 15)), 16⟩,⟨some 17, .call 85 [(.tmp 14), (.tmp 16)], 60⟩,⟨some 18, .call 82 [(.tmp 12), (.tmp 17)], 127⟩,
 ⟨none, .e (.store 2 (.tmp 4) (.tmp 18)), 255⟩])])
 (.ret))
 (.seq (.ops none [⟨some 20, .p (.fadr 1 (.tmp 2))⟩,⟨some 21, .l (.load false 1 (.tmp 20))⟩,⟨some 22, .p (.fadr 1 (.tmp 3))⟩,⟨some 23, .l (.load false 1 (.tmp 22))⟩,⟨some 24, .call 86 [(.tmp 21), (.tmp 23)]⟩,⟨some 25, .p (.bin .geq (.tmp 24) (ci (0)))⟩,gm 19 25])
 (.cond (.tmp 19) (.seq (.dops [(none, [⟨some 26, .p (.fadr 0 (.tmp 2)), 0⟩,⟨some 27, .l (.load false 1 (.tmp 26)), 1⟩,⟨some 28, .p (.fadr 1 (.tmp 2)), 0⟩,⟨some 29, .l (.load false 1 (.tmp 28)), 4⟩,⟨some 30, .p (.fadr 1 (.tmp 3)), 0⟩,⟨some 31, .l (.load false 1 (.tmp 30)), 16⟩,⟨some 32, .call 87 [(.tmp 29), (.tmp 31)], 60⟩,⟨some 33, .call 82 [(.tmp 27), (.tmp 32)], 127⟩,
 ⟨none, .e (.store 2 (.tmp 4) (.tmp 33)), 255⟩])])
 (.ret))
 (.skip))))))
 (.seq (.dops [(none, [⟨some 34, .p (.fadr 0 (.tmp 3)), 0⟩,⟨some 35, .l (.load false 1 (.tmp 34)), 1⟩,⟨some 36, .p (.fadr 1 (.tmp 3)), 0⟩,⟨some 37, .l (.load false 1 (.tmp 36)), 4⟩,⟨some 38, .p (.fadr 1 (.tmp 2)), 0⟩,⟨some 39, .l (.load false 1 (.tmp 38)), 16⟩,⟨some 40, .call 87 [(.tmp 37), (.tmp 39)], 60⟩,⟨some 41, .call 82 [(.tmp 35), (.tmp 40)], 127⟩,
 ⟨none, .e (.store 2 (.tmp 4) (.tmp 41)), 255⟩])])
 (.ret)))
theorem k48 : compFn Tryz.prog 48 [[], [], [], [], [], [], []] = some (42, c48, [.cell true 2 4]) := by kernel_rfl
def T48 (a0 b1 : Value) (h : Heap) : Prop :=
 OH (iBox 81 h a0) fun a2 h_1 =>
 OH (iBox 81 h_1 b1) fun b3 h_2 =>
 OH (iAlloc 81 [(.bool false), (.slice none 0 0)] h_2) fun x4 h_3 =>
 OP (iFadr 0 a2) fun x6 =>
 OP (iLoad false 1 h_3 x6) fun x7 =>
 OP (iFadr 0 b3) fun x8 =>
 OP (iLoad false 1 h_3 x8) fun x9 =>
 OP (iEqb false x7 x9) fun x10 =>
 IfP x10
 (OP (iFadr 0 a2) fun x11 =>
 OP (iLoad false 1 h_3 x11) fun x12 =>
 (True) ∧
 OP (iFadr 1 a2) fun x13 =>
 OP (iLoad false 1 h_3 x13) fun x14 =>
 (True) ∧
 OP (iFadr 1 b3) fun x15 =>
 OP (iLoad false 1 h_3 x15) fun x16 =>
 (True) ∧
 CallP P 85 [x14, x16] h_3 fun x17 h_4 =>
 (iLoad false 1 h_4 x11 = some x12 ∧ True) ∧
 CallP P 82 [x12, x17] h_4 fun x18 h_5 =>
 (True) ∧
 OH (oStore 2 h_5 x4 x18) fun _ h_6 =>
 (True) ∧
 OP (iLoad true 2 h_6 x4) fun r0 =>
 K r0 h_6)
 (OP (iFadr 1 a2) fun x20 =>
 OP (iLoad false 1 h_3 x20) fun x21 =>
 OP (iFadr 1 b3) fun x22 =>
 OP (iLoad false 1 h_3 x22) fun x23 =>
 CallP P 86 [x21, x23] h_3 fun x24 h_4 =>
 OP (iBin .geq x24 (.int .i64 (0))) fun x25 =>
 IfP x25
 (OP (iFadr 0 a2) fun x26 =>
 OP (iLoad false 1 h_4 x26) fun x27 =>
 (True) ∧
 OP (iFadr 1 a2) fun x28 =>
 OP (iLoad false 1 h_4 x28) fun x29 =>
 (True) ∧
 OP (iFadr 1 b3) fun x30 =>
 OP (iLoad false 1 h_4 x30) fun x31 =>
 (True) ∧
 CallP P 87 [x29, x31] h_4 fun x32 h_5 =>
 (iLoad false 1 h_5 x26 = some x27 ∧ True) ∧
 CallP P 82 [x27, x32] h_5 fun x33 h_6 =>
 (True) ∧
 OH (oStore 2 h_6 x4 x33) fun _ h_7 =>
 (True) ∧
 OP (iLoad true 2 h_7 x4) fun r0 =>
 K r0 h_7)
 (OP (iFadr 0 b3) fun x34 =>
 OP (iLoad false 1 h_4 x34) fun x35 =>
 (True) ∧
 OP (iFadr 1 b3) fun x36 =>
 OP (iLoad false 1 h_4 x36) fun x37 =>
 (True) ∧
 OP (iFadr 1 a2) fun x38 =>
 OP (iLoad false 1 h_4 x38) fun x39 =>
 (True) ∧
 CallP P 87 [x37, x39] h_4 fun x40 h_5 =>
 (iLoad false 1 h_5 x34 = some x35 ∧ True) ∧
 CallP P 82 [x35, x40] h_5 fun x41 h_6 =>
 (True) ∧
 OH (oStore 2 h_6 x4 x41) fun _ h_7 =>
 (True) ∧
 OP (iLoad true 2 h_7 x4) fun r0 =>
 K r0 h_7))
theorem e48 (a0 b1 : Value) (h : Heap) : iwpP P c48 (bodyP [.cell true 2 4] K) (frame0 [a0, b1]) h = T48 P K a0 b1 h := by kernel_rfl
theorem f48 {K : VK} {a0 b1 : Value} {h : Heap} (H : T48 Tryz.prog K a0 b1 h) : CallP Tryz.prog 48 [a0, b1] h K :=
 callP_intro k48 (Nat.le_of_ble_eq_true rfl) ((e48 Tryz.prog K a0 b1 h).mpr H)
/-! F49: pommel/num.FromInt -/
noncomputable def c49 : ICode := .seq (.ops none [⟨some 1, .e (.box 81 (.tmp 0))⟩,⟨some 2, .e (.alloc 86 [(.bool false), (.slice none 0 0), (.bool false), (.slice none 0 0)])⟩])
 (.seq (.dops [(none, [⟨some 3, .l (.load true 2 (.tmp 1)), 0⟩,⟨some 4, .call 46 [(ci (1))], 0⟩,⟨some 5, .p (.build [(.bool false), (.slice none 0 0), (.bool false), (.slice none 0 0)] [(0, 2, (.tmp 3)), (2, 2, (.tmp 4))]), 3⟩,
 ⟨none, .e (.store 4 (.tmp 2) (.tmp 5)), 7⟩])])
 (.ret))
theorem k49 : compFn Tryz.prog 49 [[], []] = some (6, c49, [.cell true 4 2]) := by kernel_rfl
def T49 (n0 : Value) (h : Heap) : Prop :=
 OH (iBox 81 h n0) fun n1 h_1 =>
 OH (iAlloc 86 [(.bool false), (.slice none 0 0), (.bool false), (.slice none 0 0)] h_1) fun x2 h_2 =>
 OP (iLoad true 2 h_2 n1) fun x3 =>
 (True) ∧
 CallP P 46 [(.int .i64 (1))] h_2 fun x4 h_3 =>
 (iLoad true 2 h_3 n1 = some x3 ∧ True) ∧
 OP (iBuild [(.bool false), (.slice none 0 0), (.bool false), (.slice none 0 0)] [(0, 2, x3), (2, 2, x4)]) fun x5 =>
 OH (oStore 4 h_3 x2 x5) fun _ h_4 =>
 (True) ∧
 OP (iLoad true 4 h_4 x2) fun r0 =>
 K r0 h_4
theorem e49 (n0 : Value) (h : Heap) : iwpP P c49 (bodyP [.cell true 4 2] K) (frame0 [n0]) h = T49 P K n0 h := by kernel_rfl
theorem f49 {K : VK} {n0 : Value} {h : Heap} (H : T49 Tryz.prog K n0 h) : CallP Tryz.prog 49 [n0] h K :=
 callP_intro k49 (Nat.le_of_ble_eq_true rfl) ((e49 Tryz.prog K n0 h).mpr H)
/-! F82: pommel/num.made -/
noncomputable def c82z6 : ICode := .ops none [⟨some 10, .p (.pick (.tmp 6) (.tmp 9) (.const (.bool false)))⟩,gm 11 1,⟨some 12, .p (.build [(.bool false), (.slice none 0 0)] [(0, 1, (.tmp 10)), (1, 1, (.tmp 11))])⟩,
 ⟨none, .e (.store 2 (.tmp 4) (.tmp 12))⟩]
noncomputable def c82z4 : ICode := .seq (.ops (some (6, true)) [gm 7 1,⟨some 8, .p (.lenSl (.tmp 7))⟩,⟨some 9, .p (.bin .gtr (.tmp 8) (ci (0)))⟩])
 (.cut [1, 4, 6, 9] c82z6)
noncomputable def c82z2 : ICode := .ret
noncomputable def c82 : ICode := .seq (.ops none [⟨some 4, .e (.alloc 81 [(.bool false), (.slice none 0 0)])⟩])
 (.seq (.seq (.ops none [gm 5 0,gm 6 5])
 (.cut [1, 4, 6] c82z4)) c82z2)
theorem k82 : compFn Tryz.prog 82 [[], [1, 4, 6], [1, 4, 6, 9], []] = some (13, c82, [.cell true 2 4]) := by kernel_rfl
def K82z0 (_P : Program) (K : VK) : Kont := bodyP [.cell true 2 4] K
def K82z2 : Kont := thenK (iwpP P c82z2 (K82z0 P K)) (K82z0 P K)
def p82z4 (mag1 x4 x6 : Value) (h : Heap) : Prop := CutP (iwpP P c82z4 (K82z2 P K)) [1, 4, 6] [mag1, x4, x6] h
def p82z6 (mag1 x4 x6 x9 : Value) (h : Heap) : Prop := CutP (iwpP P c82z6 (K82z2 P K)) [1, 4, 6, 9] [mag1, x4, x6, x9] h
theorem q82z6 (mag1 x4 x6 x9 : Value) (h : Heap) : p82z6 P K mag1 x4 x6 x9 h =
 (OP (iPick x6 x9 (.bool false)) fun x10 =>
 OP (iBuild [(.bool false), (.slice none 0 0)] [(0, 1, x10), (1, 1, mag1)]) fun x12 =>
 OH (oStore 2 h x4 x12) fun _ h_1 =>
 OP (iLoad true 2 h_1 x4) fun r0 =>
 K r0 h_1) := (CutP_def _ _ _ _).trans (by kernel_rfl)
theorem q82z4 (mag1 x4 x6 : Value) (h : Heap) : p82z4 P K mag1 x4 x6 h =
 (GdP x6 true
 (OP (iLenSl mag1) fun x8 =>
 OP (iBin .gtr x8 (.int .i64 (0))) fun x9 =>
 p82z6 P K mag1 x4 x6 x9 h)
 (p82z6 P K mag1 x4 x6 undef h)) := (CutP_def _ _ _ _).trans (by kernel_rfl)
def T82 (neg0 mag1 : Value) (h : Heap) : Prop :=
 OH (iAlloc 81 [(.bool false), (.slice none 0 0)] h) fun x4 h_1 =>
 p82z4 P K mag1 x4 neg0 h_1
theorem e82 (neg0 mag1 : Value) (h : Heap) : iwpP P c82 (bodyP [.cell true 2 4] K) (frame0 [neg0, mag1]) h = T82 P K neg0 mag1 h := by kernel_rfl
theorem f82 {K : VK} {neg0 mag1 : Value} {h : Heap} (H : T82 Tryz.prog K neg0 mag1 h) : CallP Tryz.prog 82 [neg0, mag1] h K :=
 callP_intro k82 (Nat.le_of_ble_eq_true rfl) ((e82 Tryz.prog K neg0 mag1 h).mpr H)
/-! F83: pommel/num.trim -/
noncomputable def c83z10 : ICode := .ops none [⟨some 14, .p (.pick (.tmp 6) (.tmp 13) (.const (.bool false)))⟩]
noncomputable def c83z8 : ICode := .seq (.ops (some (6, true)) [gm 7 0,gm 8 0,⟨some 9, .p (.lenSl (.tmp 8))⟩,⟨some 10, .p (.bin .sub (.tmp 9) (ci (1)))⟩,⟨some 11, .p (.adrSl 1 (.tmp 7) (.tmp 10))⟩,⟨some 12, .l (.load false 1 (.tmp 11))⟩,⟨some 13, .p (.bin .eql (.tmp 12) (.const (.int .u32 (0))))⟩])
 (.cut [0, 6, 13] c83z10)
noncomputable def c83z6 : ICode := .cond (.tmp 14) (.skip)
 (.exit 0)
noncomputable def c83z5 : ICode := .block 1 (.ops none [gm 15 0,gm 16 0,⟨some 17, .p (.lenSl (.tmp 16))⟩,⟨some 18, .p (.bin .sub (.tmp 17) (ci (1)))⟩,⟨some 19, .p (.slSl 116 1 (.tmp 15) none (some (.tmp 18)))⟩,gm 0 19])
noncomputable def c83z4 : ICode := .seq (.seq (.seq (.ops none [gm 3 0,⟨some 4, .p (.lenSl (.tmp 3))⟩,⟨some 5, .p (.bin .gtr (.tmp 4) (ci (0)))⟩,gm 6 5])
 (.cut [0, 6] c83z8)) c83z6) c83z5
noncomputable def c83z12 : ICode := .seq (.ops none [gm 20 0,gm 2 20])
 (.ret)
noncomputable def c83z2 : ICode := .cut [0] c83z12
noncomputable def c83 : ICode := .seq (.ops none [⟨some 2, .p (.mv (.const (.slice none 0 0)))⟩])
 (.seq (.block 0 (.loop [] [0] c83z4)) c83z2)
theorem k83 : compFn Tryz.prog 83 [[], [], [0], [0, 6], [0, 6, 13], [], [], [0], []] = some (21, c83, [.tmp 2]) := by kernel_rfl
def K83z0 (_P : Program) (K : VK) : Kont := bodyP [.tmp 2] K
def K83z2 : Kont := thenK (iwpP P c83z2 (K83z0 P K)) (K83z0 P K)
def K83z3 : Kont := inBlockK 0 (K83z2 P K)
def K83z4 (L1 : LK) : Kont := thenK (fun f' h'' => (([] : List Nat).map f' : List Value) = [] ∧ L1 (([0] : List Nat).map f') h'') (K83z3 P K)
def K83z5 (L1 : LK) : Kont := thenK (iwpP P c83z5 (K83z4 P K L1)) (K83z4 P K L1)
def K83z6 (L1 : LK) : Kont := thenK (iwpP P c83z6 (K83z5 P K L1)) (K83z5 P K L1)
def p83z4 (L1 : LK) (xs : List Value) (h : Heap) : Prop := CutP (iwpP P c83z4 (K83z4 P K L1)) ([] ++ [0]) ([] ++ xs) h
def p83z8 (x0 x6 : Value) (L1 : LK) (h : Heap) : Prop := CutP (iwpP P c83z8 (K83z6 P K L1)) [0, 6] [x0, x6] h
def p83z10 (x0 x6 x13 : Value) (L1 : LK) (h : Heap) : Prop := CutP (iwpP P c83z10 (K83z6 P K L1)) [0, 6, 13] [x0, x6, x13] h
def p83z12 (x0 : Value) (h : Heap) : Prop := CutP (iwpP P c83z12 (K83z0 P K)) [0] [x0] h
theorem q83z10 (x0 x6 x13 : Value) (L1 : LK) (h : Heap) : p83z10 P K x0 x6 x13 L1 h =
 (OP (iPick x6 x13 (.bool false)) fun x14 =>
 IfP x14
 (OP (iLenSl x0) fun x17 =>
 OP (iBin .sub x17 (.int .i64 (1))) fun x18 =>
 OP (iSlSl 116 1 x0 none (some x18)) fun x19 =>
 ([] : List Value) = [] ∧ L1 [x19] h)
 (p83z12 P K x0 h)) := (CutP_def _ _ _ _).trans (by kernel_rfl)
theorem q83z8 (x0 x6 : Value) (L1 : LK) (h : Heap) : p83z8 P K x0 x6 L1 h =
 (GdP x6 true
 (OP (iLenSl x0) fun x9 =>
 OP (iBin .sub x9 (.int .i64 (1))) fun x10 =>
 OP (iAdrSl 1 x0 x10) fun x11 =>
 OP (iLoad false 1 h x11) fun x12 =>
 OP (iBin .eql x12 (.int .u32 (0))) fun x13 =>
 p83z10 P K x0 x6 x13 L1 h)
 (p83z10 P K x0 x6 undef L1 h)) := (CutP_def _ _ _ _).trans (by kernel_rfl)
theorem q83z4 (L1 : LK) (x0 : Value) (h : Heap) : p83z4 P K L1 [x0] h =
 (OP (iLenSl x0) fun x4 =>
 OP (iBin .gtr x4 (.int .i64 (0))) fun x5 =>
 p83z8 P K x0 x5 L1 h) := (CutP_def _ _ _ _).trans (by kernel_rfl)
theorem q83z12 (x0 : Value) (h : Heap) : p83z12 P K x0 h =
 (K x0 h) := (CutP_def _ _ _ _).trans (by kernel_rfl)
def T83 (x0 : Value) (h : Heap) : Prop :=
 LoopP [x0] h fun L1 xs hx =>
 p83z4 P K L1 xs hx
theorem e83 (x0 : Value) (h : Heap) : iwpP P c83 (bodyP [.tmp 2] K) (frame0 [x0]) h = T83 P K x0 h := by kernel_rfl
theorem f83 {K : VK} {x0 : Value} {h : Heap} (H : T83 Tryz.prog K x0 h) : CallP Tryz.prog 83 [x0] h K :=
 callP_intro k83 (Nat.le_of_ble_eq_true rfl) ((e83 Tryz.prog K x0 h).mpr H)
/-! F85: pommel/num.plus -/
noncomputable def c85z19 : ICode := .ops none [gm 34 5,gm 35 7,gm 36 0,gm 37 7,⟨some 38, .p (.adrSl 1 (.tmp 36) (.tmp 37))⟩,⟨some 39, .l (.load false 1 (.tmp 38))⟩,gm 40 8,gm 41 6,⟨some 42, .call 114 [(.tmp 39), (.tmp 40), (.tmp 41)]⟩,gm 33 42,⟨some 43, .p (.ext (.tmp 33) 0)⟩,⟨some 44, .p (.ext (.tmp 33) 1)⟩,⟨some 45, .p (.adrSl 1 (.tmp 34) (.tmp 35))⟩,
 ⟨none, .e (.store 1 (.tmp 45) (.tmp 43))⟩,gm 6 44]
noncomputable def c85z20 : ICode := .ops none [⟨some 46, .p (.bin .add (.tmp 22) (ci (1)))⟩,gm 22 46]
noncomputable def c85z13 : ICode := .cut [0, 1, 5, 6, 21, 22] c85z20
noncomputable def c85z10 : ICode := .seq (.ops none [⟨some 23, .p (.bin .lss (.tmp 22) (.tmp 21))⟩])
 (.seq (.cond (.tmp 23) (.skip)
 (.exit 0))
 (.seq (.block 1 (.seq (.ops none [gm 24 22,gm 7 24])
 (.seq (.ops none [⟨some 8, .p (.mv (.const (.int .u32 (0))))⟩])
 (.seq (.seq (.ops none [gm 25 7,gm 26 1,⟨some 27, .p (.lenSl (.tmp 26))⟩,⟨some 28, .p (.bin .lss (.tmp 25) (.tmp 27))⟩])
 (.cond (.tmp 28) (.ops none [gm 29 1,gm 30 7,⟨some 31, .p (.adrSl 1 (.tmp 29) (.tmp 30))⟩,⟨some 32, .l (.load false 1 (.tmp 31))⟩,gm 8 32])
 (.skip)))
 (.cut [0, 1, 5, 6, 7, 8, 21, 22] c85z19))))) c85z13))
noncomputable def c85z21 : ICode := .seq (.ops none [gm 47 5,gm 48 0,⟨some 49, .p (.lenSl (.tmp 48))⟩,gm 50 6,⟨some 51, .p (.adrSl 1 (.tmp 47) (.tmp 49))⟩,
 ⟨none, .e (.store 1 (.tmp 51) (.tmp 50))⟩])
 (.seq (.ops none [gm 52 5,⟨some 53, .call 83 [(.tmp 52)]⟩,gm 4 53])
 (.ret))
noncomputable def c85z7 : ICode := .cut [0, 5, 6] c85z21
noncomputable def c85z4 : ICode := .seq (.ops none [gm 16 0,⟨some 17, .p (.lenSl (.tmp 16))⟩,⟨some 18, .p (.bin .add (.tmp 17) (ci (1)))⟩,⟨some 19, .e (.make 116 4 [(.int .u32 (0))] (.tmp 18) (.tmp 18))⟩,gm 5 19])
 (.seq (.ops none [⟨some 6, .p (.mv (.const (.int .u32 (0))))⟩])
 (.seq (.seq (.ops none [gm 20 0,⟨some 21, .p (.lenSl (.tmp 20))⟩,⟨some 22, .p (.mv (ci (0)))⟩])
 (.block 0 (.loop [0, 1, 5, 21] [6, 22] c85z10))) c85z7))
noncomputable def c85 : ICode := .seq (.ops none [⟨some 4, .p (.mv (.const (.slice none 0 0)))⟩])
 (.seq (.seq (.ops none [gm 9 0,⟨some 10, .p (.lenSl (.tmp 9))⟩,gm 11 1,⟨some 12, .p (.lenSl (.tmp 11))⟩,⟨some 13, .p (.bin .lss (.tmp 10) (.tmp 12))⟩])
 (.cond (.tmp 13) (.ops none [gm 14 1,gm 15 0,gm 0 14,gm 1 15])
 (.skip)))
 (.cut [0, 1] c85z4))
theorem k85 : compFn Tryz.prog 85 [[], [], [0, 1], [], [], [], [0, 1, 5, 21], [6, 22], [], [], [], [], [], [0, 1, 5, 6, 7, 8, 21, 22], [0, 1, 5, 6, 21, 22], [0, 5, 6], [], []] = some (54, c85, [.tmp 4]) := by kernel_rfl
def K85z0 (_P : Program) (K : VK) : Kont := bodyP [.tmp 4] K
def K85z7 : Kont := thenK (iwpP P c85z7 (K85z0 P K)) (K85z0 P K)
def K85z9 : Kont := inBlockK 0 (K85z7 P K)
def K85z10 (a0 b1 out5 x21 : Value) (L1 : LK) : Kont := thenK (fun f' h'' => (([0, 1, 5, 21] : List Nat).map f' : List Value) = [a0, b1, out5, x21] ∧ L1 (([6, 22] : List Nat).map f') h'') (K85z9 P K)
def K85z13 (a0 b1 out5 x21 : Value) (L1 : LK) : Kont := thenK (iwpP P c85z13 (K85z10 P K a0 b1 out5 x21 L1)) (K85z10 P K a0 b1 out5 x21 L1)
def K85z14 (a0 b1 out5 x21 : Value) (L1 : LK) : Kont := inBlockK 1 (K85z13 P K a0 b1 out5 x21 L1)
def p85z4 (a0 b1 : Value) (h : Heap) : Prop := CutP (iwpP P c85z4 (K85z0 P K)) [0, 1] [a0, b1] h
def p85z10 (a0 b1 out5 x21 : Value) (L1 : LK) (xs : List Value) (h : Heap) : Prop := CutP (iwpP P c85z10 (K85z10 P K a0 b1 out5 x21 L1)) ([0, 1, 5, 21] ++ [6, 22]) ([a0, b1, out5, x21] ++ xs) h
def p85z19 (a0 b1 out5 carry6 i7 y8 x21 x22 : Value) (L1 : LK) (h : Heap) : Prop := CutP (iwpP P c85z19 (K85z14 P K a0 b1 out5 x21 L1)) [0, 1, 5, 6, 7, 8, 21, 22] [a0, b1, out5, carry6, i7, y8, x21, x22] h
def p85z20 (a0 b1 out5 carry6 x21 x22 : Value) (L1 : LK) (h : Heap) : Prop := CutP (iwpP P c85z20 (K85z10 P K a0 b1 out5 x21 L1)) [0, 1, 5, 6, 21, 22] [a0, b1, out5, carry6, x21, x22] h
def p85z21 (a0 out5 carry6 : Value) (h : Heap) : Prop := CutP (iwpP P c85z21 (K85z0 P K)) [0, 5, 6] [a0, out5, carry6] h
theorem q85z19 (a0 b1 out5 carry6 i7 y8 x21 x22 : Value) (L1 : LK) (h : Heap) : p85z19 P K a0 b1 out5 carry6 i7 y8 x21 x22 L1 h =
 (OP (iAdrSl 1 a0 i7) fun x38 =>
 OP (iLoad false 1 h x38) fun x39 =>
 CallP P 114 [x39, y8, carry6] h fun x42 h_1 =>
 OP (iExt 0 x42) fun x43 =>
 OP (iExt 1 x42) fun x44 =>
 OP (iAdrSl 1 out5 i7) fun x45 =>
 OH (oStore 1 h_1 x45 x43) fun _ h_2 =>
 p85z20 P K a0 b1 out5 x44 x21 x22 L1 h_2) := (CutP_def _ _ _ _).trans (by kernel_rfl)
theorem q85z20 (a0 b1 out5 carry6 x21 x22 : Value) (L1 : LK) (h : Heap) : p85z20 P K a0 b1 out5 carry6 x21 x22 L1 h =
 (OP (iBin .add x22 (.int .i64 (1))) fun x46 =>
 ([a0, b1, out5, x21] : List Value) = [a0, b1, out5, x21] ∧ L1 [carry6, x46] h) := (CutP_def _ _ _ _).trans (by kernel_rfl)
theorem q85z10 (a0 b1 out5 x21 : Value) (L1 : LK) (carry6 x22 : Value) (h : Heap) : p85z10 P K a0 b1 out5 x21 L1 [carry6, x22] h =
 (OP (iBin .lss x22 x21) fun x23 =>
 IfP x23
 (OP (iLenSl b1) fun x27 =>
 OP (iBin .lss x22 x27) fun x28 =>
 IfP x28
 (OP (iAdrSl 1 b1 x22) fun x31 =>
 OP (iLoad false 1 h x31) fun x32 =>
 p85z19 P K a0 b1 out5 carry6 x22 x32 x21 x22 L1 h)
 (p85z19 P K a0 b1 out5 carry6 x22 (.int .u32 (0)) x21 x22 L1 h))
 (p85z21 P K a0 out5 carry6 h)) := (CutP_def _ _ _ _).trans (by kernel_rfl)
theorem q85z21 (a0 out5 carry6 : Value) (h : Heap) : p85z21 P K a0 out5 carry6 h =
 (OP (iLenSl a0) fun x49 =>
 OP (iAdrSl 1 out5 x49) fun x51 =>
 OH (oStore 1 h x51 carry6) fun _ h_1 =>
 CallP P 83 [out5] h_1 fun x53 h_2 =>
 K x53 h_2) := (CutP_def _ _ _ _).trans (by kernel_rfl)
theorem q85z4 (a0 b1 : Value) (h : Heap) : p85z4 P K a0 b1 h =
 (OP (iLenSl a0) fun x17 =>
 OP (iBin .add x17 (.int .i64 (1))) fun x18 =>
 OH (iMake 116 4 [(.int .u32 (0))] h x18 x18) fun x19 h_1 =>
 OP (iLenSl a0) fun x21 =>
 LoopP [(.int .u32 (0)), (.int .i64 (0))] h_1 fun L1 xs hx =>
 p85z10 P K a0 b1 x19 x21 L1 xs hx) := (CutP_def _ _ _ _).trans (by kernel_rfl)
def T85 (a0 b1 : Value) (h : Heap) : Prop :=
 OP (iLenSl a0) fun x10 =>
 OP (iLenSl b1) fun x12 =>
 OP (iBin .lss x10 x12) fun x13 =>
 IfP x13
 (p85z4 P K b1 a0 h)
 (p85z4 P K a0 b1 h)
theorem e85 (a0 b1 : Value) (h : Heap) : iwpP P c85 (bodyP [.tmp 4] K) (frame0 [a0, b1]) h = T85 P K a0 b1 h := by kernel_rfl
theorem f85 {K : VK} {a0 b1 : Value} {h : Heap} (H : T85 Tryz.prog K a0 b1 h) : CallP Tryz.prog 85 [a0, b1] h K :=
 callP_intro k85 (Nat.le_of_ble_eq_true rfl) ((e85 Tryz.prog K a0 b1 h).mpr H)
/-! F86: pommel/num.compare -/
noncomputable def c86z11 : ICode := .seq (.seq (.ops none [gm 19 5,⟨some 20, .p (.bin .geq (.tmp 19) (ci (0)))⟩])
 (.cond (.tmp 20) (.skip)
 (.exit 0)))
 (.seq (.block 1 (.seq (.dops [(none, [gd 23 0 0,gd 24 5 0,⟨some 25, .p (.adrSl 1 (.tmp 23) (.tmp 24)), 3⟩,⟨some 26, .l (.load false 1 (.tmp 25)), 7⟩,gd 27 1 0,gd 28 5 0,⟨some 29, .p (.adrSl 1 (.tmp 27) (.tmp 28)), 48⟩,⟨some 30, .l (.load false 1 (.tmp 29)), 112⟩,⟨some 31, .p (.bin .neq (.tmp 26) (.tmp 30)), 255⟩])])
 (.cond (.tmp 31) (.seq (.seq (.dops [(none, [gd 32 0 0,gd 33 5 0,⟨some 34, .p (.adrSl 1 (.tmp 32) (.tmp 33)), 3⟩,⟨some 35, .l (.load false 1 (.tmp 34)), 7⟩,gd 36 1 0,gd 37 5 0,⟨some 38, .p (.adrSl 1 (.tmp 36) (.tmp 37)), 48⟩,⟨some 39, .l (.load false 1 (.tmp 38)), 112⟩,⟨some 40, .p (.bin .lss (.tmp 35) (.tmp 39)), 255⟩])])
 (.cond (.tmp 40) (.seq (.ops none [⟨some 4, .p (.mv (ci (-1)))⟩])
 (.ret))
 (.skip)))
 (.seq (.ops none [⟨some 4, .p (.mv (ci (1)))⟩])
 (.ret)))
 (.skip))))
 (.ops none [gm 21 5,⟨some 22, .p (.bin .sub (.tmp 21) (ci (1)))⟩,gm 5 22]))
noncomputable def c86z8 : ICode := .seq (.ops none [⟨some 4, .p (.mv (ci (0)))⟩])
 (.ret)
noncomputable def c86 : ICode := .seq (.ops none [⟨some 4, .p (.mv (ci (0)))⟩])
 (.seq (.seq (.ops none [gm 6 0,⟨some 7, .p (.lenSl (.tmp 6))⟩,gm 8 1,⟨some 9, .p (.lenSl (.tmp 8))⟩,⟨some 10, .p (.bin .neq (.tmp 7) (.tmp 9))⟩])
 (.cond (.tmp 10) (.seq (.seq (.ops none [gm 11 0,⟨some 12, .p (.lenSl (.tmp 11))⟩,gm 13 1,⟨some 14, .p (.lenSl (.tmp 13))⟩,⟨some 15, .p (.bin .lss (.tmp 12) (.tmp 14))⟩])
 (.cond (.tmp 15) (.seq (.ops none [⟨some 4, .p (.mv (ci (-1)))⟩])
 (.ret))
 (.skip)))
 (.seq (.ops none [⟨some 4, .p (.mv (ci (1)))⟩])
 (.ret)))
 (.skip)))
 (.seq (.seq (.ops none [gm 16 0,⟨some 17, .p (.lenSl (.tmp 16))⟩,⟨some 18, .p (.bin .sub (.tmp 17) (ci (1)))⟩,gm 5 18])
 (.block 0 (.loop [0, 1] [5] c86z11))) c86z8))
theorem k86 : compFn Tryz.prog 86 [[], [], [], [], [], [], [], [], [0, 1], [5], [], [], [], [], [], [], [], [], [], []] = some (41, c86, [.tmp 4]) := by kernel_rfl
def K86z0 (_P : Program) (K : VK) : Kont := bodyP [.tmp 4] K
def K86z8 : Kont := thenK (iwpP P c86z8 (K86z0 P K)) (K86z0 P K)
def K86z10 : Kont := inBlockK 0 (K86z8 P K)
def K86z11 (a0 b1 : Value) (L1 : LK) : Kont := thenK (fun f' h'' => (([0, 1] : List Nat).map f' : List Value) = [a0, b1] ∧ L1 (([5] : List Nat).map f') h'') (K86z10 P K)
def p86z11 (a0 b1 : Value) (L1 : LK) (xs : List Value) (h : Heap) : Prop := CutP (iwpP P c86z11 (K86z11 P K a0 b1 L1)) ([0, 1] ++ [5]) ([a0, b1] ++ xs) h
theorem q86z11 (a0 b1 : Value) (L1 : LK) (i5 : Value) (h : Heap) : p86z11 P K a0 b1 L1 [i5] h =
 (OP (iBin .geq i5 (.int .i64 (0))) fun x20 =>
 IfP x20
 (OP (iAdrSl 1 a0 i5) fun x25 =>
 OP (iLoad false 1 h x25) fun x26 =>
 (True) ∧
 OP (iAdrSl 1 b1 i5) fun x29 =>
 OP (iLoad false 1 h x29) fun x30 =>
 (True) ∧
 OP (iBin .neq x26 x30) fun x31 =>
 IfP x31
 (OP (iAdrSl 1 a0 i5) fun x34 =>
 OP (iLoad false 1 h x34) fun x35 =>
 (True) ∧
 OP (iAdrSl 1 b1 i5) fun x38 =>
 OP (iLoad false 1 h x38) fun x39 =>
 (True) ∧
 OP (iBin .lss x35 x39) fun x40 =>
 IfP x40
 (K (.int .i64 (-1)) h)
 (K (.int .i64 (1)) h))
 (OP (iBin .sub i5 (.int .i64 (1))) fun x22 =>
 ([a0, b1] : List Value) = [a0, b1] ∧ L1 [x22] h))
 (K (.int .i64 (0)) h)) := (CutP_def _ _ _ _).trans (by kernel_rfl)
def T86 (a0 b1 : Value) (h : Heap) : Prop :=
 OP (iLenSl a0) fun x7 =>
 OP (iLenSl b1) fun x9 =>
 OP (iBin .neq x7 x9) fun x10 =>
 IfP x10
 (OP (iLenSl a0) fun x12 =>
 OP (iLenSl b1) fun x14 =>
 OP (iBin .lss x12 x14) fun x15 =>
 IfP x15
 (K (.int .i64 (-1)) h)
 (K (.int .i64 (1)) h))
 (OP (iLenSl a0) fun x17 =>
 OP (iBin .sub x17 (.int .i64 (1))) fun x18 =>
 LoopP [x18] h fun L1 xs hx =>
 p86z11 P K a0 b1 L1 xs hx)
theorem e86 (a0 b1 : Value) (h : Heap) : iwpP P c86 (bodyP [.tmp 4] K) (frame0 [a0, b1]) h = T86 P K a0 b1 h := by kernel_rfl
theorem f86 {K : VK} {a0 b1 : Value} {h : Heap} (H : T86 Tryz.prog K a0 b1 h) : CallP Tryz.prog 86 [a0, b1] h K :=
 callP_intro k86 (Nat.le_of_ble_eq_true rfl) ((e86 Tryz.prog K a0 b1 h).mpr H)
/-! F87: pommel/num.minus -/
noncomputable def c87z16 : ICode := .ops none [gm 26 5,gm 27 7,gm 28 0,gm 29 7,⟨some 30, .p (.adrSl 1 (.tmp 28) (.tmp 29))⟩,⟨some 31, .l (.load false 1 (.tmp 30))⟩,gm 32 8,gm 33 6,⟨some 34, .call 115 [(.tmp 31), (.tmp 32), (.tmp 33)]⟩,gm 25 34,⟨some 35, .p (.ext (.tmp 25) 0)⟩,⟨some 36, .p (.ext (.tmp 25) 1)⟩,⟨some 37, .p (.adrSl 1 (.tmp 26) (.tmp 27))⟩,
 ⟨none, .e (.store 1 (.tmp 37) (.tmp 35))⟩,gm 6 36]
noncomputable def c87z17 : ICode := .ops none [⟨some 38, .p (.bin .add (.tmp 14) (ci (1)))⟩,gm 14 38]
noncomputable def c87z10 : ICode := .cut [0, 1, 5, 6, 13, 14] c87z17
noncomputable def c87z7 : ICode := .seq (.ops none [⟨some 15, .p (.bin .lss (.tmp 14) (.tmp 13))⟩])
 (.seq (.cond (.tmp 15) (.skip)
 (.exit 0))
 (.seq (.block 1 (.seq (.ops none [gm 16 14,gm 7 16])
 (.seq (.ops none [⟨some 8, .p (.mv (.const (.int .u32 (0))))⟩])
 (.seq (.seq (.ops none [gm 17 7,gm 18 1,⟨some 19, .p (.lenSl (.tmp 18))⟩,⟨some 20, .p (.bin .lss (.tmp 17) (.tmp 19))⟩])
 (.cond (.tmp 20) (.ops none [gm 21 1,gm 22 7,⟨some 23, .p (.adrSl 1 (.tmp 21) (.tmp 22))⟩,⟨some 24, .l (.load false 1 (.tmp 23))⟩,gm 8 24])
 (.skip)))
 (.cut [0, 1, 5, 6, 7, 8, 13, 14] c87z16))))) c87z10))
noncomputable def c87z18 : ICode := .seq (.ops none [gm 39 5,⟨some 40, .call 83 [(.tmp 39)]⟩,gm 4 40])
 (.ret)
noncomputable def c87z4 : ICode := .cut [5] c87z18
noncomputable def c87 : ICode := .seq (.ops none [⟨some 4, .p (.mv (.const (.slice none 0 0)))⟩])
 (.seq (.ops none [gm 9 0,⟨some 10, .p (.lenSl (.tmp 9))⟩,⟨some 11, .e (.make 116 4 [(.int .u32 (0))] (.tmp 10) (.tmp 10))⟩,gm 5 11])
 (.seq (.ops none [⟨some 6, .p (.mv (.const (.int .u32 (0))))⟩])
 (.seq (.seq (.ops none [gm 12 0,⟨some 13, .p (.lenSl (.tmp 12))⟩,⟨some 14, .p (.mv (ci (0)))⟩])
 (.block 0 (.loop [0, 1, 5, 13] [6, 14] c87z7))) c87z4)))
theorem k87 : compFn Tryz.prog 87 [[], [], [], [], [0, 1, 5, 13], [6, 14], [], [], [], [], [], [0, 1, 5, 6, 7, 8, 13, 14], [0, 1, 5, 6, 13, 14], [5], []] = some (41, c87, [.tmp 4]) := by kernel_rfl
def K87z0 (_P : Program) (K : VK) : Kont := bodyP [.tmp 4] K
def K87z4 : Kont := thenK (iwpP P c87z4 (K87z0 P K)) (K87z0 P K)
def K87z6 : Kont := inBlockK 0 (K87z4 P K)
def K87z7 (a0 b1 out5 x13 : Value) (L1 : LK) : Kont := thenK (fun f' h'' => (([0, 1, 5, 13] : List Nat).map f' : List Value) = [a0, b1, out5, x13] ∧ L1 (([6, 14] : List Nat).map f') h'') (K87z6 P K)
def K87z10 (a0 b1 out5 x13 : Value) (L1 : LK) : Kont := thenK (iwpP P c87z10 (K87z7 P K a0 b1 out5 x13 L1)) (K87z7 P K a0 b1 out5 x13 L1)
def K87z11 (a0 b1 out5 x13 : Value) (L1 : LK) : Kont := inBlockK 1 (K87z10 P K a0 b1 out5 x13 L1)
def p87z7 (a0 b1 out5 x13 : Value) (L1 : LK) (xs : List Value) (h : Heap) : Prop := CutP (iwpP P c87z7 (K87z7 P K a0 b1 out5 x13 L1)) ([0, 1, 5, 13] ++ [6, 14]) ([a0, b1, out5, x13] ++ xs) h
def p87z16 (a0 b1 out5 borrow6 i7 y8 x13 x14 : Value) (L1 : LK) (h : Heap) : Prop := CutP (iwpP P c87z16 (K87z11 P K a0 b1 out5 x13 L1)) [0, 1, 5, 6, 7, 8, 13, 14] [a0, b1, out5, borrow6, i7, y8, x13, x14] h
def p87z17 (a0 b1 out5 borrow6 x13 x14 : Value) (L1 : LK) (h : Heap) : Prop := CutP (iwpP P c87z17 (K87z7 P K a0 b1 out5 x13 L1)) [0, 1, 5, 6, 13, 14] [a0, b1, out5, borrow6, x13, x14] h
def p87z18 (out5 : Value) (h : Heap) : Prop := CutP (iwpP P c87z18 (K87z0 P K)) [5] [out5] h
theorem q87z16 (a0 b1 out5 borrow6 i7 y8 x13 x14 : Value) (L1 : LK) (h : Heap) : p87z16 P K a0 b1 out5 borrow6 i7 y8 x13 x14 L1 h =
 (OP (iAdrSl 1 a0 i7) fun x30 =>
 OP (iLoad false 1 h x30) fun x31 =>
 CallP P 115 [x31, y8, borrow6] h fun x34 h_1 =>
 OP (iExt 0 x34) fun x35 =>
 OP (iExt 1 x34) fun x36 =>
 OP (iAdrSl 1 out5 i7) fun x37 =>
 OH (oStore 1 h_1 x37 x35) fun _ h_2 =>
 p87z17 P K a0 b1 out5 x36 x13 x14 L1 h_2) := (CutP_def _ _ _ _).trans (by kernel_rfl)
theorem q87z17 (a0 b1 out5 borrow6 x13 x14 : Value) (L1 : LK) (h : Heap) : p87z17 P K a0 b1 out5 borrow6 x13 x14 L1 h =
 (OP (iBin .add x14 (.int .i64 (1))) fun x38 =>
 ([a0, b1, out5, x13] : List Value) = [a0, b1, out5, x13] ∧ L1 [borrow6, x38] h) := (CutP_def _ _ _ _).trans (by kernel_rfl)
theorem q87z7 (a0 b1 out5 x13 : Value) (L1 : LK) (borrow6 x14 : Value) (h : Heap) : p87z7 P K a0 b1 out5 x13 L1 [borrow6, x14] h =
 (OP (iBin .lss x14 x13) fun x15 =>
 IfP x15
 (OP (iLenSl b1) fun x19 =>
 OP (iBin .lss x14 x19) fun x20 =>
 IfP x20
 (OP (iAdrSl 1 b1 x14) fun x23 =>
 OP (iLoad false 1 h x23) fun x24 =>
 p87z16 P K a0 b1 out5 borrow6 x14 x24 x13 x14 L1 h)
 (p87z16 P K a0 b1 out5 borrow6 x14 (.int .u32 (0)) x13 x14 L1 h))
 (p87z18 P K out5 h)) := (CutP_def _ _ _ _).trans (by kernel_rfl)
theorem q87z18 (out5 : Value) (h : Heap) : p87z18 P K out5 h =
 (CallP P 83 [out5] h fun x40 h_1 =>
 K x40 h_1) := (CutP_def _ _ _ _).trans (by kernel_rfl)
def T87 (a0 b1 : Value) (h : Heap) : Prop :=
 OP (iLenSl a0) fun x10 =>
 OH (iMake 116 4 [(.int .u32 (0))] h x10 x10) fun x11 h_1 =>
 OP (iLenSl a0) fun x13 =>
 LoopP [(.int .u32 (0)), (.int .i64 (0))] h_1 fun L1 xs hx =>
 p87z7 P K a0 b1 x11 x13 L1 xs hx
theorem e87 (a0 b1 : Value) (h : Heap) : iwpP P c87 (bodyP [.tmp 4] K) (frame0 [a0, b1]) h = T87 P K a0 b1 h := by kernel_rfl
theorem f87 {K : VK} {a0 b1 : Value} {h : Heap} (H : T87 Tryz.prog K a0 b1 h) : CallP Tryz.prog 87 [a0, b1] h K :=
 callP_intro k87 (Nat.le_of_ble_eq_true rfl) ((e87 Tryz.prog K a0 b1 h).mpr H)
/-! F105: (pommel/num.Int).Mul -/
/-! F114: math/bits.Add32 -/
noncomputable def c114 : ICode := .seq (.ops none [⟨some 6, .p (.mv (.const (.int .u32 (0))))⟩,⟨some 7, .p (.mv (.const (.int .u32 (0))))⟩])
 (.seq (.ops none [gm 9 0,⟨some 10, .p (.conv .u64 (.tmp 9))⟩,gm 11 1,⟨some 12, .p (.conv .u64 (.tmp 11))⟩,⟨some 13, .p (.bin .add (.tmp 10) (.tmp 12))⟩,gm 14 2,⟨some 15, .p (.conv .u64 (.tmp 14))⟩,⟨some 16, .p (.bin .add (.tmp 13) (.tmp 15))⟩,gm 8 16])
 (.seq (.ops none [gm 17 8,⟨some 18, .p (.conv .u32 (.tmp 17))⟩,gm 6 18])
 (.seq (.ops none [gm 19 8,⟨some 20, .p (.bin .shr (.tmp 19) (.const (.int .u64 (32))))⟩,⟨some 21, .p (.conv .u32 (.tmp 20))⟩,gm 7 21])
 (.ret))))
theorem k114 : compFn Tryz.prog 114 [[], [], [], []] = some (22, c114, [.tmp 6, .tmp 7]) := by kernel_rfl
def T114 (P : Program) (K : VK) (x0 y1 carry2 : Value) (h : Heap) : Prop :=
 OP (iConv .u64 x0) fun x10 =>
 OP (iConv .u64 y1) fun x12 =>
 OP (iBin .add x10 x12) fun x13 =>
 OP (iConv .u64 carry2) fun x15 =>
 OP (iBin .add x13 x15) fun x16 =>
 OP (iConv .u32 x16) fun x18 =>
 OP (iBin .shr x16 (.int .u64 (32))) fun x20 =>
 OP (iConv .u32 x20) fun x21 =>
 K (.tuple #[x18, x21]) h
theorem e114 (x0 y1 carry2 : Value) (h : Heap) : iwpP P c114 (bodyP [.tmp 6, .tmp 7] K) (frame0 [x0, y1, carry2]) h = T114 P K x0 y1 carry2 h := by kernel_rfl
theorem f114 {K : VK} {x0 y1 carry2 : Value} {h : Heap} (H : T114 Tryz.prog K x0 y1 carry2 h) : CallP Tryz.prog 114 [x0, y1, carry2] h K :=
 callP_intro k114 (Nat.le_of_ble_eq_true rfl) ((e114 Tryz.prog K x0 y1 carry2 h).mpr H)
/-! F115: math/bits.Sub32 -/
noncomputable def c115 : ICode := .seq (.ops none [⟨some 6, .p (.mv (.const (.int .u32 (0))))⟩,⟨some 7, .p (.mv (.const (.int .u32 (0))))⟩])
 (.seq (.ops none [gm 8 0,gm 9 1,⟨some 10, .p (.bin .sub (.tmp 8) (.tmp 9))⟩,gm 11 2,⟨some 12, .p (.bin .sub (.tmp 10) (.tmp 11))⟩,gm 6 12])
 (.seq (.ops none [gm 13 0,⟨some 14, .p (.un .xor (.tmp 13))⟩,gm 15 1,⟨some 16, .p (.bin .and (.tmp 14) (.tmp 15))⟩,gm 17 0,gm 18 1,⟨some 19, .p (.bin .xor (.tmp 17) (.tmp 18))⟩,⟨some 20, .p (.un .xor (.tmp 19))⟩,gm 21 6,⟨some 22, .p (.bin .and (.tmp 20) (.tmp 21))⟩,⟨some 23, .p (.bin .or (.tmp 16) (.tmp 22))⟩,⟨some 24, .p (.bin .shr (.tmp 23) (.const (.int .u64 (31))))⟩,gm 7 24])
 (.ret)))
theorem k115 : compFn Tryz.prog 115 [[], [], []] = some (25, c115, [.tmp 6, .tmp 7]) := by kernel_rfl
def T115 (P : Program) (K : VK) (x0 y1 borrow2 : Value) (h : Heap) : Prop :=
 OP (iBin .sub x0 y1) fun x10 =>
 OP (iBin .sub x10 borrow2) fun x12 =>
 OP (iUn .xor x0) fun x14 =>
 OP (iBin .and x14 y1) fun x16 =>
 OP (iBin .xor x0 y1) fun x19 =>
 OP (iUn .xor x19) fun x20 =>
 OP (iBin .and x20 x12) fun x22 =>
 OP (iBin .or x16 x22) fun x23 =>
 OP (iBin .shr x23 (.int .u64 (31))) fun x24 =>
 K (.tuple #[x12, x24]) h
theorem e115 (x0 y1 borrow2 : Value) (h : Heap) : iwpP P c115 (bodyP [.tmp 6, .tmp 7] K) (frame0 [x0, y1, borrow2]) h = T115 P K x0 y1 borrow2 h := by kernel_rfl
theorem f115 {K : VK} {x0 y1 borrow2 : Value} {h : Heap} (H : T115 Tryz.prog K x0 y1 borrow2 h) : CallP Tryz.prog 115 [x0, y1, borrow2] h K :=
 callP_intro k115 (Nat.le_of_ble_eq_true rfl) ((e115 Tryz.prog K x0 y1 borrow2 h).mpr H)
/-! F116: pommel/num.byWord -/
noncomputable def c116z7 : ICode := .seq (.seq (.ops none [gm 16 8,⟨some 17, .p (.bin .geq (.tmp 16) (ci (0)))⟩])
 (.cond (.tmp 17) (.skip)
 (.exit 0)))
 (.seq (.block 1 (.seq (.ops none [gm 20 7,⟨some 21, .p (.bin .shl (.tmp 20) (.const (.int .u64 (32))))⟩,gm 22 0,gm 23 8,⟨some 24, .p (.adrSl 1 (.tmp 22) (.tmp 23))⟩,⟨some 25, .l (.load false 1 (.tmp 24))⟩,⟨some 26, .p (.conv .u64 (.tmp 25))⟩,⟨some 27, .p (.bin .or (.tmp 21) (.tmp 26))⟩,gm 9 27])
 (.dops [(none, [gd 28 6 0,gd 29 8 0,gd 30 9 0,gd 31 1 0,⟨some 32, .p (.conv .u64 (.tmp 31)), 8⟩,⟨some 33, .p (.bin .quo (.tmp 30) (.tmp 32)), 28⟩,⟨some 34, .p (.conv .u32 (.tmp 33)), 60⟩,gd 35 9 0,gd 36 1 0,⟨some 37, .p (.conv .u64 (.tmp 36)), 256⟩,⟨some 38, .p (.bin .rem (.tmp 35) (.tmp 37)), 896⟩,⟨some 39, .p (.adrSl 1 (.tmp 28) (.tmp 29)), 127⟩,
 ⟨none, .e (.store 1 (.tmp 39) (.tmp 34)), 2175⟩,gd 7 38 8191])])))
 (.ops none [gm 18 8,⟨some 19, .p (.bin .sub (.tmp 18) (ci (1)))⟩,gm 8 19]))
noncomputable def c116z13 : ICode := .seq (.ops none [gm 40 6,⟨some 41, .call 83 [(.tmp 40)]⟩,gm 42 7,⟨some 43, .p (.conv .u32 (.tmp 42))⟩,gm 4 41,gm 5 43])
 (.ret)
noncomputable def c116z4 : ICode := .cut [6, 7] c116z13
noncomputable def c116 : ICode := .seq (.ops none [⟨some 4, .p (.mv (.const (.slice none 0 0)))⟩,⟨some 5, .p (.mv (.const (.int .u32 (0))))⟩])
 (.seq (.ops none [gm 10 0,⟨some 11, .p (.lenSl (.tmp 10))⟩,⟨some 12, .e (.make 116 4 [(.int .u32 (0))] (.tmp 11) (.tmp 11))⟩,gm 6 12])
 (.seq (.ops none [⟨some 7, .p (.mv (.const (.int .u64 (0))))⟩])
 (.seq (.seq (.ops none [gm 13 0,⟨some 14, .p (.lenSl (.tmp 13))⟩,⟨some 15, .p (.bin .sub (.tmp 14) (ci (1)))⟩,gm 8 15])
 (.block 0 (.loop [0, 1, 6] [7, 8] c116z7))) c116z4)))
theorem k116 : compFn Tryz.prog 116 [[], [], [], [], [0, 1, 6], [7, 8], [], [], [], [], [6, 7], []] = some (44, c116, [.tmp 4, .tmp 5]) := by kernel_rfl
def K116z0 (_P : Program) (K : VK) : Kont := bodyP [.tmp 4, .tmp 5] K
def K116z4 : Kont := thenK (iwpP P c116z4 (K116z0 P K)) (K116z0 P K)
def K116z6 : Kont := inBlockK 0 (K116z4 P K)
def K116z7 (a0 w1 out6 : Value) (L1 : LK) : Kont := thenK (fun f' h'' => (([0, 1, 6] : List Nat).map f' : List Value) = [a0, w1, out6] ∧ L1 (([7, 8] : List Nat).map f') h'') (K116z6 P K)
def p116z7 (a0 w1 out6 : Value) (L1 : LK) (xs : List Value) (h : Heap) : Prop := CutP (iwpP P c116z7 (K116z7 P K a0 w1 out6 L1)) ([0, 1, 6] ++ [7, 8]) ([a0, w1, out6] ++ xs) h
def p116z13 (out6 rest7 : Value) (h : Heap) : Prop := CutP (iwpP P c116z13 (K116z0 P K)) [6, 7] [out6, rest7] h
theorem q116z7 (a0 w1 out6 : Value) (L1 : LK) (rest7 i8 : Value) (h : Heap) : p116z7 P K a0 w1 out6 L1 [rest7, i8] h =
 (OP (iBin .geq i8 (.int .i64 (0))) fun x17 =>
 IfP x17
 (OP (iBin .shl rest7 (.int .u64 (32))) fun x21 =>
 OP (iAdrSl 1 a0 i8) fun x24 =>
 OP (iLoad false 1 h x24) fun x25 =>
 OP (iConv .u64 x25) fun x26 =>
 OP (iBin .or x21 x26) fun x27 =>
 OP (iConv .u64 w1) fun x32 =>
 OP (iBin .quo x27 x32) fun x33 =>
 OP (iConv .u32 x33) fun x34 =>
 OP (iConv .u64 w1) fun x37 =>
 OP (iBin .rem x27 x37) fun x38 =>
 OP (iAdrSl 1 out6 i8) fun x39 =>
 OH (oStore 1 h x39 x34) fun _ h_1 =>
 (True) ∧
 OP (iBin .sub i8 (.int .i64 (1))) fun x19 =>
 ([a0, w1, out6] : List Value) = [a0, w1, out6] ∧ L1 [x38, x19] h_1)
 (p116z13 P K out6 rest7 h)) := (CutP_def _ _ _ _).trans (by kernel_rfl)
theorem q116z13 (out6 rest7 : Value) (h : Heap) : p116z13 P K out6 rest7 h =
 (CallP P 83 [out6] h fun x41 h_1 =>
 OP (iConv .u32 rest7) fun x43 =>
 K (.tuple #[x41, x43]) h_1) := (CutP_def _ _ _ _).trans (by kernel_rfl)
def T116 (a0 w1 : Value) (h : Heap) : Prop :=
 OP (iLenSl a0) fun x11 =>
 OH (iMake 116 4 [(.int .u32 (0))] h x11 x11) fun x12 h_1 =>
 OP (iLenSl a0) fun x14 =>
 OP (iBin .sub x14 (.int .i64 (1))) fun x15 =>
 LoopP [(.int .u64 (0)), x15] h_1 fun L1 xs hx =>
 p116z7 P K a0 w1 x12 L1 xs hx
theorem e116 (a0 w1 : Value) (h : Heap) : iwpP P c116 (bodyP [.tmp 4, .tmp 5] K) (frame0 [a0, w1]) h = T116 P K a0 w1 h := by kernel_rfl
theorem f116 {K : VK} {a0 w1 : Value} {h : Heap} (H : T116 Tryz.prog K a0 w1 h) : CallP Tryz.prog 116 [a0, w1] h K :=
 callP_intro k116 (Nat.le_of_ble_eq_true rfl) ((e116 Tryz.prog K a0 w1 h).mpr H)
/-! F117: slices.Reverse[[]byte,byte] -/
noncomputable def c117z3 : ICode := .seq (.seq (.ops none [gm 7 2,gm 8 3,⟨some 9, .p (.bin .lss (.tmp 7) (.tmp 8))⟩])
 (.cond (.tmp 9) (.skip)
 (.exit 0)))
 (.seq (.block 1 (.dops [(none, [gd 14 0 0,gd 15 2 0,gd 16 0 0,gd 17 3 0,gd 18 0 0,gd 19 3 0,⟨some 20, .p (.adrSl 1 (.tmp 18) (.tmp 19)), 48⟩,⟨some 21, .l (.load false 1 (.tmp 20)), 112⟩,gd 22 0 0,gd 23 2 0,⟨some 24, .p (.adrSl 1 (.tmp 22) (.tmp 23)), 768⟩,⟨some 25, .l (.load false 1 (.tmp 24)), 1792⟩,⟨some 26, .p (.adrSl 1 (.tmp 14) (.tmp 15)), 4083⟩,
 ⟨none, .e (.store 1 (.tmp 26) (.tmp 21)), 8179⟩,⟨some 27, .p (.adrSl 1 (.tmp 16) (.tmp 17)), 16383⟩,
 ⟨none, .e (.store 1 (.tmp 27) (.tmp 25)), 32767⟩])]))
 (.ops none [gm 10 2,⟨some 11, .p (.bin .add (.tmp 10) (ci (1)))⟩,gm 12 3,⟨some 13, .p (.bin .sub (.tmp 12) (ci (1)))⟩,gm 2 11,gm 3 13]))
noncomputable def c117 : ICode := .seq (.ops none [gm 4 0,⟨some 5, .p (.lenSl (.tmp 4))⟩,⟨some 6, .p (.bin .sub (.tmp 5) (ci (1)))⟩,⟨some 2, .p (.mv (ci (0)))⟩,gm 3 6])
 (.block 0 (.loop [0] [2, 3] c117z3))
theorem k117 : compFn Tryz.prog 117 [[], [0], [2, 3], [], [], []] = some (28, c117, []) := by kernel_rfl
def K117z0 (_P : Program) (K : VK) : Kont := bodyP [] K
def K117z2 : Kont := inBlockK 0 (K117z0 P K)
def K117z3 (s0 : Value) (L1 : LK) : Kont := thenK (fun f' h'' => (([0] : List Nat).map f' : List Value) = [s0] ∧ L1 (([2, 3] : List Nat).map f') h'') (K117z2 P K)
def p117z3 (s0 : Value) (L1 : LK) (xs : List Value) (h : Heap) : Prop := CutP (iwpP P c117z3 (K117z3 P K s0 L1)) ([0] ++ [2, 3]) ([s0] ++ xs) h
theorem q117z3 (s0 : Value) (L1 : LK) (i2 j3 : Value) (h : Heap) : p117z3 P K s0 L1 [i2, j3] h =
 (OP (iBin .lss i2 j3) fun x9 =>
 IfP x9
 (OP (iAdrSl 1 s0 j3) fun x20 =>
 OP (iLoad false 1 h x20) fun x21 =>
 (True) ∧
 OP (iAdrSl 1 s0 i2) fun x24 =>
 OP (iLoad false 1 h x24) fun x25 =>
 (True) ∧
 OP (iAdrSl 1 s0 i2) fun x26 =>
 OH (oStore 1 h x26 x21) fun _ h_1 =>
 (True) ∧
 OP (iAdrSl 1 s0 j3) fun x27 =>
 OH (oStore 1 h_1 x27 x25) fun _ h_2 =>
 (True) ∧
 OP (iBin .add i2 (.int .i64 (1))) fun x11 =>
 OP (iBin .sub j3 (.int .i64 (1))) fun x13 =>
 ([s0] : List Value) = [s0] ∧ L1 [x11, x13] h_2)
 (K (.tuple #[]) h)) := (CutP_def _ _ _ _).trans (by kernel_rfl)
def T117 (s0 : Value) (h : Heap) : Prop :=
 OP (iLenSl s0) fun x5 =>
 OP (iBin .sub x5 (.int .i64 (1))) fun x6 =>
 LoopP [(.int .i64 (0)), x6] h fun L1 xs hx =>
 p117z3 P K s0 L1 xs hx
theorem e117 (s0 : Value) (h : Heap) : iwpP P c117 (bodyP [] K) (frame0 [s0]) h = T117 P K s0 h := by kernel_rfl
theorem f117 {K : VK} {s0 : Value} {h : Heap} (H : T117 Tryz.prog K s0 h) : CallP Tryz.prog 117 [s0] h K :=
 callP_intro k117 (Nat.le_of_ble_eq_true rfl) ((e117 Tryz.prog K s0 h).mpr H)
/-! F120: (pommel/num.Int).Neg -/
/-! F122: (pommel/num.Int).Cmp -/
/-! F124: pommel/num.times -/
/-! F148: (pommel/num.Int).Sub -/
/-! F149: (pommel/num.Int).Sign -/
end Go.Proofs.YthplaillblmgfaaGreatDoor

namespace Go.Proofs.YthplaillblmgfaaGreatDoor
open Go.Sim
variable (P : Program) (K : VK)
/-! F50: (pommel/num.Rat).Num -/
noncomputable def c50z8 : ICode := .seq (.seq (.ops none [⟨some 18, .l (.load true 4 (.tmp 1))⟩,⟨some 19, .call 89 [(.tmp 18)]⟩])
 (.cond (.tmp 19) (.seq (.ops none [gm 20 4,gm 2 20,⟨some 3, .p (.mv (ci (0)))⟩])
 (.ret))
 (.skip)))
 (.seq (.ops none [⟨some 21, .p (.fadr 2 (.tmp 1))⟩,⟨some 22, .p (.fadr 1 (.tmp 21))⟩,⟨some 23, .l (.load false 1 (.tmp 22))⟩,⟨some 24, .call 88 [(.tmp 23)]⟩,gm 5 24])
 (.seq (.seq (.ops none [gm 25 5,⟨some 26, .p (.lenS (.tmp 25))⟩,⟨some 27, .p (.bin .gtr (.tmp 26) (ci (4000)))⟩])
 (.cond (.tmp 27) (.seq (.ops none [⟨some 2, .p (.mv (.const (.string ⟨#[]⟩)))⟩,⟨some 3, .p (.mv (ci (4)))⟩])
 (.ret))
 (.skip)))
 (.seq (.ops none [gm 28 4,⟨some 29, .p (.bin .add (.tmp 28) (.const (.string ⟨#[47]⟩)))⟩,gm 30 5,⟨some 31, .p (.bin .add (.tmp 29) (.tmp 30))⟩,gm 2 31,⟨some 3, .p (.mv (ci (0)))⟩])
 (.ret))))
noncomputable def c50 : ICode := .seq (.ops none [⟨some 1, .e (.box 86 (.tmp 0))⟩,⟨some 2, .p (.mv (.const (.string ⟨#[]⟩)))⟩,⟨some 3, .p (.mv (ci (0)))⟩])
 (.seq (.ops none [⟨some 6, .p (.fadr 0 (.tmp 1))⟩,⟨some 7, .p (.fadr 1 (.tmp 6))⟩,⟨some 8, .l (.load false 1 (.tmp 7))⟩,⟨some 9, .call 88 [(.tmp 8)]⟩,gm 4 9])
 (.seq (.seq (.ops none [gm 10 4,⟨some 11, .p (.lenS (.tmp 10))⟩,⟨some 12, .p (.bin .gtr (.tmp 11) (ci (4000)))⟩])
 (.cond (.tmp 12) (.seq (.ops none [⟨some 2, .p (.mv (.const (.string ⟨#[]⟩)))⟩,⟨some 3, .p (.mv (ci (4)))⟩])
 (.ret))
 (.skip)))
 (.seq (.seq (.ops none [⟨some 13, .p (.fadr 0 (.tmp 1))⟩,⟨some 14, .p (.fadr 0 (.tmp 13))⟩,⟨some 15, .l (.load false 1 (.tmp 14))⟩])
 (.cond (.tmp 15) (.ops none [gm 16 4,⟨some 17, .p (.bin .add (.const (.string ⟨#[45]⟩)) (.tmp 16))⟩,gm 4 17])
 (.skip)))
 (.cut [1, 4] c50z8))))
theorem k50 : compFn Tryz.prog 50 [[], [], [], [], [], [], [1, 4], [], [], [], [], [], [], [], []] = some (32, c50, [.tmp 2, .tmp 3]) := by kernel_rfl
def K50z0 (_P : Program) (K : VK) : Kont := bodyP [.tmp 2, .tmp 3] K
def p50z8 (a1 s4 : Value) (h : Heap) : Prop := CutP (iwpP P c50z8 (K50z0 P K)) [1, 4] [a1, s4] h
theorem q50z8 (a1 s4 : Value) (h : Heap) : p50z8 P K a1 s4 h =
 (OP (iLoad true 4 h a1) fun x18 =>
 CallP P 89 [x18] h fun x19 h_1 =>
 IfP x19
 (K (.tuple #[s4, (.int .i64 (0))]) h_1)
 (OP (iFadr 2 a1) fun x21 =>
 OP (iFadr 1 x21) fun x22 =>
 OP (iLoad false 1 h_1 x22) fun x23 =>
 CallP P 88 [x23] h_1 fun x24 h_2 =>
 OP (iLenS x24) fun x26 =>
 OP (iBin .gtr x26 (.int .i64 (4000))) fun x27 =>
 IfP x27
 (K (.tuple #[(.string ⟨#[]⟩), (.int .i64 (4))]) h_2)
 (OP (iBin .add s4 (.string ⟨#[47]⟩)) fun x29 =>
 OP (iBin .add x29 x24) fun x31 =>
 K (.tuple #[x31, (.int .i64 (0))]) h_2))) := (CutP_def _ _ _ _).trans (by kernel_rfl)
def T50 (a0 : Value) (h : Heap) : Prop :=
 OH (iBox 86 h a0) fun a1 h_1 =>
 OP (iFadr 0 a1) fun x6 =>
 OP (iFadr 1 x6) fun x7 =>
 OP (iLoad false 1 h_1 x7) fun x8 =>
 CallP P 88 [x8] h_1 fun x9 h_2 =>
 OP (iLenS x9) fun x11 =>
 OP (iBin .gtr x11 (.int .i64 (4000))) fun x12 =>
 IfP x12
 (K (.tuple #[(.string ⟨#[]⟩), (.int .i64 (4))]) h_2)
 (OP (iFadr 0 a1) fun x13 =>
 OP (iFadr 0 x13) fun x14 =>
 OP (iLoad false 1 h_2 x14) fun x15 =>
 IfP x15
 (OP (iBin .add (.string ⟨#[45]⟩) x9) fun x17 =>
 p50z8 P K a1 x17 h_2)
 (p50z8 P K a1 x9 h_2))
theorem e50 (a0 : Value) (h : Heap) : iwpP P c50 (bodyP [.tmp 2, .tmp 3] K) (frame0 [a0]) h = T50 P K a0 h := by kernel_rfl
theorem f50 {K : VK} {a0 : Value} {h : Heap} (H : T50 Tryz.prog K a0 h) : CallP Tryz.prog 50 [a0] h K :=
 callP_intro k50 (Nat.le_of_ble_eq_true rfl) ((e50 Tryz.prog K a0 h).mpr H)
/-! F67: pommel/num.Whole -/
/-! F68: (pommel/num.Rat).Div -/
/-! F88: pommel/num.text -/
noncomputable def c88z26 : ICode := .ops none [⟨some 28, .p (.pick (.tmp 20) (.tmp 27) (.const (.bool false)))⟩]
noncomputable def c88z24 : ICode := .seq (.ops (some (20, true)) [⟨some 27, .p (.pick (.tmp 24) (.const (.bool true)) (.tmp 26))⟩])
 (.cut [3, 4, 5, 6, 20, 27] c88z26)
noncomputable def c88z22 : ICode := .seq (.ops (some (24, false)) [gm 25 5,⟨some 26, .p (.bin .gtr (.tmp 25) (.const (.int .u32 (0))))⟩])
 (.cut [3, 4, 5, 6, 20, 24, 26] c88z24)
noncomputable def c88z20 : ICode := .seq (.ops (some (20, true)) [gm 21 4,⟨some 22, .p (.lenSl (.tmp 21))⟩,⟨some 23, .p (.bin .gtr (.tmp 22) (ci (0)))⟩,gm 24 23])
 (.cut [3, 4, 5, 6, 20, 24] c88z22)
noncomputable def c88z18 : ICode := .cond (.tmp 28) (.skip)
 (.exit 2)
noncomputable def c88z17 : ICode := .seq (.block 3 (.seq (.ops none [gm 31 3,gm 32 5,⟨some 33, .p (.bin .rem (.tmp 32) (.const (.int .u32 (10))))⟩,⟨some 34, .p (.bin .add (.const (.int .u32 (48))) (.tmp 33))⟩,⟨some 35, .p (.conv .u8 (.tmp 34))⟩,⟨some 36, .e (.mkSl 5 1 [(.int .u8 (0))] [(0, 1, (.tmp 35))])⟩,⟨some 37, .e (.app 5 1 1 (.tmp 31) (.tmp 36))⟩,gm 3 37])
 (.ops none [gm 38 5,⟨some 39, .p (.bin .quo (.tmp 38) (.const (.int .u32 (10))))⟩,gm 5 39])))
 (.ops none [gm 29 6,⟨some 30, .p (.bin .add (.tmp 29) (ci (1)))⟩,gm 6 30])
noncomputable def c88z16 : ICode := .seq (.seq (.seq (.ops none [gm 18 6,⟨some 19, .p (.bin .lss (.tmp 18) (ci (9)))⟩,gm 20 19])
 (.cut [3, 4, 5, 6, 20] c88z20)) c88z18) c88z17
noncomputable def c88z30 : ICode := .ops none [gm 40 4,gm 0 40]
noncomputable def c88z13 : ICode := .cut [3, 4] c88z30
noncomputable def c88z8 : ICode := .seq (.seq (.ops none [gm 10 0,⟨some 11, .p (.lenSl (.tmp 10))⟩,⟨some 12, .p (.bin .gtr (.tmp 11) (ci (0)))⟩])
 (.cond (.tmp 12) (.skip)
 (.exit 0)))
 (.block 1 (.seq (.ops none [gm 14 0,⟨some 15, .call 116 [(.tmp 14), (.const (.int .u32 (1000000000)))]⟩,gm 13 15,⟨some 16, .p (.ext (.tmp 13) 0)⟩,⟨some 17, .p (.ext (.tmp 13) 1)⟩,gm 4 16,gm 5 17])
 (.seq (.seq (.ops none [⟨some 6, .p (.mv (ci (0)))⟩])
 (.block 2 (.loop [4] [3, 5, 6] c88z16))) c88z13)))
noncomputable def c88z31 : ICode := .seq (.ops none [gm 41 3,⟨some 42, .call 117 [(.tmp 41)]⟩])
 (.seq (.ops none [gm 43 3,⟨some 44, .l (.b2s (.tmp 43))⟩,gm 2 44])
 (.ret))
noncomputable def c88z6 : ICode := .cut [3] c88z31
noncomputable def c88 : ICode := .seq (.ops none [⟨some 2, .p (.mv (.const (.string ⟨#[]⟩)))⟩])
 (.seq (.seq (.ops none [gm 7 0,⟨some 8, .p (.lenSl (.tmp 7))⟩,⟨some 9, .p (.bin .eql (.tmp 8) (ci (0)))⟩])
 (.cond (.tmp 9) (.seq (.ops none [⟨some 2, .p (.mv (.const (.string ⟨#[48]⟩)))⟩])
 (.ret))
 (.skip)))
 (.seq (.ops none [⟨some 3, .p (.mv (.const (.slice none 0 0)))⟩])
 (.seq (.block 0 (.loop [] [0, 3] c88z8)) c88z6)))
theorem k88 : compFn Tryz.prog 88 [[], [], [], [], [], [], [0, 3], [], [], [], [], [4], [3, 5, 6], [3, 4, 5, 6, 20], [3, 4, 5, 6, 20, 24], [3, 4, 5, 6, 20, 24, 26], [3, 4, 5, 6, 20, 27], [], [], [], [], [3, 4], [3], [], []] = some (45, c88, [.tmp 2]) := by kernel_rfl
def K88z0 (_P : Program) (K : VK) : Kont := bodyP [.tmp 2] K
def K88z6 : Kont := thenK (iwpP P c88z6 (K88z0 P K)) (K88z0 P K)
def K88z7 : Kont := inBlockK 0 (K88z6 P K)
def K88z8 (L1 : LK) : Kont := thenK (fun f' h'' => (([] : List Nat).map f' : List Value) = [] ∧ L1 (([0, 3] : List Nat).map f') h'') (K88z7 P K)
def K88z11 (L1 : LK) : Kont := inBlockK 1 (K88z8 P K L1)
def K88z13 (L1 : LK) : Kont := thenK (iwpP P c88z13 (K88z11 P K L1)) (K88z11 P K L1)
def K88z15 (L1 : LK) : Kont := inBlockK 2 (K88z13 P K L1)
def K88z16 (q4 : Value) (L1 L2 : LK) : Kont := thenK (fun f' h'' => (([4] : List Nat).map f' : List Value) = [q4] ∧ L2 (([3, 5, 6] : List Nat).map f') h'') (K88z15 P K L1)
def K88z17 (q4 : Value) (L1 L2 : LK) : Kont := thenK (iwpP P c88z17 (K88z16 P K q4 L1 L2)) (K88z16 P K q4 L1 L2)
def K88z18 (q4 : Value) (L1 L2 : LK) : Kont := thenK (iwpP P c88z18 (K88z17 P K q4 L1 L2)) (K88z17 P K q4 L1 L2)
def p88z8 (L1 : LK) (xs : List Value) (h : Heap) : Prop := CutP (iwpP P c88z8 (K88z8 P K L1)) ([] ++ [0, 3]) ([] ++ xs) h
def p88z16 (q4 : Value) (L1 L2 : LK) (xs : List Value) (h : Heap) : Prop := CutP (iwpP P c88z16 (K88z16 P K q4 L1 L2)) ([4] ++ [3, 5, 6]) ([q4] ++ xs) h
def p88z20 (b3 q4 r5 i6 x20 : Value) (L1 L2 : LK) (h : Heap) : Prop := CutP (iwpP P c88z20 (K88z18 P K q4 L1 L2)) [3, 4, 5, 6, 20] [b3, q4, r5, i6, x20] h
def p88z22 (b3 q4 r5 i6 x20 x24 : Value) (L1 L2 : LK) (h : Heap) : Prop := CutP (iwpP P c88z22 (K88z18 P K q4 L1 L2)) [3, 4, 5, 6, 20, 24] [b3, q4, r5, i6, x20, x24] h
def p88z24 (b3 q4 r5 i6 x20 x24 x26 : Value) (L1 L2 : LK) (h : Heap) : Prop := CutP (iwpP P c88z24 (K88z18 P K q4 L1 L2)) [3, 4, 5, 6, 20, 24, 26] [b3, q4, r5, i6, x20, x24, x26] h
def p88z26 (b3 q4 r5 i6 x20 x27 : Value) (L1 L2 : LK) (h : Heap) : Prop := CutP (iwpP P c88z26 (K88z18 P K q4 L1 L2)) [3, 4, 5, 6, 20, 27] [b3, q4, r5, i6, x20, x27] h
def p88z30 (b3 q4 : Value) (L1 : LK) (h : Heap) : Prop := CutP (iwpP P c88z30 (K88z11 P K L1)) [3, 4] [b3, q4] h
def p88z31 (b3 : Value) (h : Heap) : Prop := CutP (iwpP P c88z31 (K88z0 P K)) [3] [b3] h
theorem q88z26 (b3 q4 r5 i6 x20 x27 : Value) (L1 L2 : LK) (h : Heap) : p88z26 P K b3 q4 r5 i6 x20 x27 L1 L2 h =
 (OP (iPick x20 x27 (.bool false)) fun x28 =>
 IfP x28
 (OP (iBin .rem r5 (.int .u32 (10))) fun x33 =>
 OP (iBin .add (.int .u32 (48)) x33) fun x34 =>
 OP (iConv .u8 x34) fun x35 =>
 OH (iMkSl 5 1 [(.int .u8 (0))] h [(0, 1, x35)]) fun x36 h_1 =>
 OH (iApp 5 1 1 h_1 b3 x36) fun x37 h_2 =>
 OP (iBin .quo r5 (.int .u32 (10))) fun x39 =>
 OP (iBin .add i6 (.int .i64 (1))) fun x30 =>
 ([q4] : List Value) = [q4] ∧ L2 [x37, x39, x30] h_2)
 (p88z30 P K b3 q4 L1 h)) := (CutP_def _ _ _ _).trans (by kernel_rfl)
theorem q88z24 (b3 q4 r5 i6 x20 x24 x26 : Value) (L1 L2 : LK) (h : Heap) : p88z24 P K b3 q4 r5 i6 x20 x24 x26 L1 L2 h =
 (GdP x20 true
 (OP (iPick x24 (.bool true) x26) fun x27 =>
 p88z26 P K b3 q4 r5 i6 x20 x27 L1 L2 h)
 (p88z26 P K b3 q4 r5 i6 x20 undef L1 L2 h)) := (CutP_def _ _ _ _).trans (by kernel_rfl)
theorem q88z22 (b3 q4 r5 i6 x20 x24 : Value) (L1 L2 : LK) (h : Heap) : p88z22 P K b3 q4 r5 i6 x20 x24 L1 L2 h =
 (GdP x24 false
 (OP (iBin .gtr r5 (.int .u32 (0))) fun x26 =>
 p88z24 P K b3 q4 r5 i6 x20 x24 x26 L1 L2 h)
 (p88z24 P K b3 q4 r5 i6 x20 x24 undef L1 L2 h)) := (CutP_def _ _ _ _).trans (by kernel_rfl)
theorem q88z20 (b3 q4 r5 i6 x20 : Value) (L1 L2 : LK) (h : Heap) : p88z20 P K b3 q4 r5 i6 x20 L1 L2 h =
 (GdP x20 true
 (OP (iLenSl q4) fun x22 =>
 OP (iBin .gtr x22 (.int .i64 (0))) fun x23 =>
 p88z22 P K b3 q4 r5 i6 x20 x23 L1 L2 h)
 (p88z22 P K b3 q4 r5 i6 x20 undef L1 L2 h)) := (CutP_def _ _ _ _).trans (by kernel_rfl)
theorem q88z16 (q4 : Value) (L1 L2 : LK) (b3 r5 i6 : Value) (h : Heap) : p88z16 P K q4 L1 L2 [b3, r5, i6] h =
 (OP (iBin .lss i6 (.int .i64 (9))) fun x19 =>
 p88z20 P K b3 q4 r5 i6 x19 L1 L2 h) := (CutP_def _ _ _ _).trans (by kernel_rfl)
theorem q88z30 (b3 q4 : Value) (L1 : LK) (h : Heap) : p88z30 P K b3 q4 L1 h =
 (([] : List Value) = [] ∧ L1 [q4, b3] h) := (CutP_def _ _ _ _).trans (by kernel_rfl)
theorem q88z8 (L1 : LK) (x0 b3 : Value) (h : Heap) : p88z8 P K L1 [x0, b3] h =
 (OP (iLenSl x0) fun x11 =>
 OP (iBin .gtr x11 (.int .i64 (0))) fun x12 =>
 IfP x12
 (CallP P 116 [x0, (.int .u32 (1000000000))] h fun x15 h_1 =>
 OP (iExt 0 x15) fun x16 =>
 OP (iExt 1 x15) fun x17 =>
 LoopP [b3, x17, (.int .i64 (0))] h_1 fun L2 xs hx =>
 p88z16 P K x16 L1 L2 xs hx)
 (p88z31 P K b3 h)) := (CutP_def _ _ _ _).trans (by kernel_rfl)
theorem q88z31 (b3 : Value) (h : Heap) : p88z31 P K b3 h =
 (CallP P 117 [b3] h fun x42 h_1 =>
 OP (iB2s h_1 b3) fun x44 =>
 K x44 h_1) := (CutP_def _ _ _ _).trans (by kernel_rfl)
def T88 (x0 : Value) (h : Heap) : Prop :=
 OP (iLenSl x0) fun x8 =>
 OP (iBin .eql x8 (.int .i64 (0))) fun x9 =>
 IfP x9
 (K (.string ⟨#[48]⟩) h)
 (LoopP [x0, (.slice none 0 0)] h fun L1 xs hx =>
 p88z8 P K L1 xs hx)
theorem e88 (x0 : Value) (h : Heap) : iwpP P c88 (bodyP [.tmp 2] K) (frame0 [x0]) h = T88 P K x0 h := by kernel_rfl
theorem f88 {K : VK} {x0 : Value} {h : Heap} (H : T88 Tryz.prog K x0 h) : CallP Tryz.prog 88 [x0] h K :=
 callP_intro k88 (Nat.le_of_ble_eq_true rfl) ((e88 Tryz.prog K x0 h).mpr H)
/-! F89: (pommel/num.Rat).Integer -/
noncomputable def c89z6 : ICode := .ops none [⟨some 15, .p (.pick (.tmp 8) (.tmp 14) (.const (.bool false)))⟩,gm 2 15]
noncomputable def c89z4 : ICode := .seq (.ops (some (8, true)) [⟨some 9, .p (.fadr 2 (.tmp 1))⟩,⟨some 10, .p (.fadr 1 (.tmp 9))⟩,⟨some 11, .l (.load false 1 (.tmp 10))⟩,⟨some 12, .p (.adrSl 1 (.tmp 11) (ci (0)))⟩,⟨some 13, .l (.load false 1 (.tmp 12))⟩,⟨some 14, .p (.bin .eql (.tmp 13) (.const (.int .u32 (1))))⟩])
 (.cut [8, 14] c89z6)
noncomputable def c89z2 : ICode := .ret
noncomputable def c89 : ICode := .seq (.ops none [⟨some 1, .e (.box 86 (.tmp 0))⟩,⟨some 2, .p (.mv (.const (.bool false)))⟩])
 (.seq (.seq (.ops none [⟨some 3, .p (.fadr 2 (.tmp 1))⟩,⟨some 4, .p (.fadr 1 (.tmp 3))⟩,⟨some 5, .l (.load false 1 (.tmp 4))⟩,⟨some 6, .p (.lenSl (.tmp 5))⟩,⟨some 7, .p (.bin .eql (.tmp 6) (ci (1)))⟩,gm 8 7])
 (.cut [1, 8] c89z4)) c89z2)
theorem k89 : compFn Tryz.prog 89 [[], [1, 8], [8, 14], []] = some (16, c89, [.tmp 2]) := by kernel_rfl
def K89z0 (_P : Program) (K : VK) : Kont := bodyP [.tmp 2] K
def K89z2 : Kont := thenK (iwpP P c89z2 (K89z0 P K)) (K89z0 P K)
def p89z4 (a1 x8 : Value) (h : Heap) : Prop := CutP (iwpP P c89z4 (K89z2 P K)) [1, 8] [a1, x8] h
def p89z6 (x8 x14 : Value) (h : Heap) : Prop := CutP (iwpP P c89z6 (K89z2 P K)) [8, 14] [x8, x14] h
theorem q89z6 (x8 x14 : Value) (h : Heap) : p89z6 P K x8 x14 h =
 (OP (iPick x8 x14 (.bool false)) fun x15 =>
 K x15 h) := (CutP_def _ _ _ _).trans (by kernel_rfl)
theorem q89z4 (a1 x8 : Value) (h : Heap) : p89z4 P K a1 x8 h =
 (GdP x8 true
 (OP (iFadr 2 a1) fun x9 =>
 OP (iFadr 1 x9) fun x10 =>
 OP (iLoad false 1 h x10) fun x11 =>
 OP (iAdrSl 1 x11 (.int .i64 (0))) fun x12 =>
 OP (iLoad false 1 h x12) fun x13 =>
 OP (iBin .eql x13 (.int .u32 (1))) fun x14 =>
 p89z6 P K x8 x14 h)
 (p89z6 P K x8 undef h)) := (CutP_def _ _ _ _).trans (by kernel_rfl)
def T89 (a0 : Value) (h : Heap) : Prop :=
 OH (iBox 86 h a0) fun a1 h_1 =>
 OP (iFadr 2 a1) fun x3 =>
 OP (iFadr 1 x3) fun x4 =>
 OP (iLoad false 1 h_1 x4) fun x5 =>
 OP (iLenSl x5) fun x6 =>
 OP (iBin .eql x6 (.int .i64 (1))) fun x7 =>
 p89z4 P K a1 x7 h_1
theorem e89 (a0 : Value) (h : Heap) : iwpP P c89 (bodyP [.tmp 2] K) (frame0 [a0]) h = T89 P K a0 h := by kernel_rfl
theorem f89 {K : VK} {a0 : Value} {h : Heap} (H : T89 Tryz.prog K a0 h) : CallP Tryz.prog 89 [a0] h K :=
 callP_intro k89 (Nat.le_of_ble_eq_true rfl) ((e89 Tryz.prog K a0 h).mpr H)
/-! F104: pommel/num.Ratio -/
/-! F121: (pommel/num.Int).Gcd -/
/-! F123: (pommel/num.Int).Quo -/
/-! F147: pommel/num.part -/
end Go.Proofs.YthplaillblmgfaaGreatDoor

namespace Go.Proofs.YthplaillblmgfaaGreatDoor
open Go.Sim

/-- Beyond this no number is followed. -/
def bigW : Nat := 4294967296 ^ 100

theorem lt_bigW {n : Nat} (h : n < 4294967296 ^ 20) : n < bigW := Nat.lt_of_lt_of_le h (Nat.pow_le_pow_right (by decide) (by decide))

theorem canW_len {xs : List Nat} (h : Canon 4294967296 xs) (hv : val 4294967296 xs < bigW) : xs.length ≤ 100 := h.len (by decide) hv

/-- Digits in memory: a slice of the first cells of an object, or nil. -/
def DS (e : TypeId) (k : IntKind) (h : Heap) (v : Value) (xs : List Nat) : Prop :=
  (v = .slice none 0 0 ∧ xs = []) ∨ ∃ i, v = sl e i 0 xs.length ∧ (xs = [] ∨ ∃ rest, objCells h i = some (xs.map (fun d : Nat => Value.int k (d : Int)) ++ rest))

theorem DS.mono {e : TypeId} {k : IntKind} {h h' : Heap} {v : Value} {xs : List Nat} (x : EX h h') (p : DS e k h v xs) : DS e k h' v xs :=
  p.imp id fun ⟨i, a, b⟩ => ⟨i, a, b.imp id fun ⟨r, c⟩ => ⟨r, x.cells c⟩⟩

theorem DS.len {e : TypeId} {k : IntKind} {h : Heap} {v : Value} {xs : List Nat} (p : DS e k h v xs) : iLenSl v = some (I xs.length) := by
  rcases p with ⟨rfl, rfl⟩ | ⟨i, rfl, _⟩ <;> rfl

theorem DS.get {e : TypeId} {k : IntKind} {h : Heap} {v : Value} {xs : List Nat} (p : DS e k h v xs) {j : Nat} (hj : j < xs.length) : ∃ i, iAdrSl 1 v (I j) = some (pt i j) ∧ iLoad false 1 h (pt i j) = some (.int k (xs[j] : Int)) := by
  rcases p with ⟨_, rfl⟩ | ⟨i, rfl, hc⟩
  · simp at hj
  · obtain ⟨r, hc⟩ := hc.resolve_left (by rintro rfl; simp at hj)
    refine ⟨i, adr_sl hj, ?_⟩
    have : (xs.map (fun d : Nat => Value.int k (d : Int)) ++ r)[j]? = some (.int k (xs[j] : Int)) := by rw [List.getElem?_append_left (by simpa using hj)]; simp [hj]
    simp [iLoad, hc, iPart, this]

theorem DS.nil (e : TypeId) (k : IntKind) (h : Heap) : DS e k h (.slice none 0 0) [] := .inl ⟨rfl, rfl⟩

theorem DS.one {e : TypeId} {k : IntKind} {h : Heap} {v : Value} {xs : List Nat} (p : DS e k h v xs) : noTuple v = true ∧ vcells v = [v] := by
  rcases p with ⟨rfl, _⟩ | ⟨i, rfl, _⟩ <;> exact ⟨rfl, rfl⟩

/-- The same without the last digit. -/
theorem DS.pop {e : TypeId} {k : IntKind} {h : Heap} {v : Value} {xs : List Nat} (p : DS e k h v xs) {n : Nat} (hn : n ≤ xs.length) : ∃ v', iSlSl e 1 v none (some (I n)) = some v' ∧ DS e k h v' (xs.take n) := by
  rcases p with ⟨rfl, rfl⟩ | ⟨i, rfl, hc⟩
  · simp at hn; subst hn
    exact ⟨_, rfl, .inl ⟨rfl, rfl⟩⟩
  · refine ⟨sl e i 0 n, ?_, .inr ⟨i, by rw [List.length_take, Nat.min_eq_left hn], ?_⟩⟩
    · simp [iSlSl, sl, iBounds, natOf, hn]
    · rcases hc with rfl | ⟨r, hc⟩
      · left; simp
      · right
        refine ⟨(xs.drop n).map (fun d : Nat => Value.int k (d : Int)) ++ r, ?_⟩
        rw [hc, ← List.append_assoc, ← List.map_append, List.take_append_drop]

/-- A number's size. -/
def MagV (h : Heap) (v : Value) (n : Nat) : Prop := ∃ xs, DS 116 .u32 h v xs ∧ Canon 4294967296 xs ∧ val 4294967296 xs = n

theorem MagV.mono {h h' : Heap} {v : Value} {n : Nat} (x : EX h h') (p : MagV h v n) : MagV h' v n := let ⟨xs, a, b, c⟩ := p; ⟨xs, a.mono x, b, c⟩

theorem C83 {h : Heap} {K : Value → Heap → Prop} {v : Value} {xs : List Nat} (p : DS 116 .u32 h v xs) (hl : Lim 4294967296 xs) (hs : xs.length ≤ 1000) (hk : ∀ v', MagV h v' (val 4294967296 xs) → K v' h) : CallP Tryz.prog 83 [v] h K := by
  refine f83 ?_
  refine loopL (σ := Value × List Nat) (fun p => [p.1]) (fun _ => h) (fun q => DS 116 .u32 h q.1 q.2 ∧ Lim 4294967296 q.2 ∧ val 4294967296 q.2 = val 4294967296 xs ∧ q.2.length ≤ 1000) (fun q => q.2.length) (v, xs) rfl rfl ⟨p, hl, rfl, hs⟩ ?_
  rintro ⟨v, ys⟩ ⟨p, hl, hv, hs⟩ L hL
  simp only at p hl hv hs hL ⊢
  rw [q83z4]
  have done : Canon 4294967296 ys → p83z12 Tryz.prog K v h := by
    intro hc
    rw [q83z12]
    exact hk v ⟨ys, p, hc, hv⟩
  simp only [p.len, OP_some, bin_gtr]
  by_cases h0 : ys.length = 0
  · have : ys = [] := List.length_eq_zero_iff.1 h0
    rw [decide_eq_false (show ¬ (0 : Int) < (ys.length : Int) by omega)]
    simp only [q83z8, GdP_ft, q83z10, iPick_f, OP_some, IfP_false]
    exact done (by rw [this]; exact Canon.nil 4294967296)
  · rw [decide_eq_true (show (0 : Int) < (ys.length : Int) by omega)]
    have e1 : IntKind.wrap .i64 ((ys.length : Int) - 1) = ((ys.length - 1 : Nat) : Int) := by rw [wrap64 (by omega) (by omega)]; omega
    obtain ⟨i, g1, g2⟩ := p.get (j := ys.length - 1) (by omega)
    simp only [q83z8, GdP_tt, p.len, OP_some, bin_sub, e1, g1, g2, bin_eql, q83z10, iPick_t, IfP_dec]
    refine ⟨fun hz => ?_, fun hz => ?_⟩
    · obtain ⟨v', h1, h2⟩ := p.pop (n := ys.length - 1) (by omega)
      simp only [h1, OP_some, true_and]
      have hsplit : ys = ys.take (ys.length - 1) ++ [0] := by
        have := List.take_succ_eq_append_getElem (l := ys) (i := ys.length - 1) (by omega)
        rw [show ys.length - 1 + 1 = ys.length by omega, List.take_length] at this
        have hz' : ys[ys.length - 1] = 0 := by omega
        rw [hz'] at this
        exact this
      refine hL (v', ys.take (ys.length - 1)) ⟨h2, hl.mono fun y hy => List.mem_of_mem_take hy, ?_, by rw [List.length_take]; omega⟩ (by simp; omega)
      rw [← hv]
      conv => rhs; rw [hsplit]
      rw [val_append]
      simp [val]
    · exact done (can_of_last hl fun h1 hc => hz (by rw [hc]; rfl))

/-- Fresh digits at the end of the heap. -/
abbrev hd (h : Heap) (os : List Nat) : Heap := h ++ [.arr 116 (os.map fun d : Nat => Value.int .u32 (d : Int))]

theorem make_hd {h : Heap} {n : Nat} (hn : n ≤ 1000) : iMake 116 4 [.int .u32 0] h (I n) (I n) = some (sl 116 h.length 0 n, hd h (List.replicate n 0)) := by
  have hz : ∀ m, zrep [Value.int .u32 0] m = (List.replicate m 0).map fun d : Nat => Value.int .u32 (d : Int) := by
    intro m
    induction m with
    | zero => rfl
    | succ m ih =>
      have : zrep [Value.int .u32 0] (m + 1) = Value.int .u32 0 :: zrep [Value.int .u32 0] m := by simp [zrep, List.replicate_succ]
      rw [this, ih, List.replicate_succ]; rfl
  simp only [iMake]
  rw [if_pos ⟨by omega, by omega, by omega, by omega⟩, Int.toNat_natCast, hz]

theorem hd_get (h : Heap) (os : List Nat) : (hd h os)[h.length]? = some (.arr 116 (os.map fun d : Nat => Value.int .u32 (d : Int))) := by simp [hd]

theorem hd_store {h : Heap} {os : List Nat} {j : Nat} (d : Nat) (hj : j < os.length) : oStore 1 (hd h os) (pt h.length j) (.int .u32 (d : Int)) = some (undef, hd h (os.set j d)) := by
  rw [store_at (hd_get h os) (by simpa using hj) rfl rfl]
  simp [hd, List.map_set]

theorem hd_DS (h : Heap) (os : List Nat) : DS 116 .u32 (hd h os) (sl 116 h.length 0 os.length) os := .inr ⟨h.length, rfl, .inr ⟨[], by simp [objCells, hd]⟩⟩

theorem hd_EX (h : Heap) (os : List Nat) : EX h (hd h os) := EX.append _ _

theorem wrapU64 {n : Int} (h1 : 0 ≤ n) (h2 : n < 18446744073709551616) : IntKind.wrap .u64 n = n := by
  have e : IntKind.wrap .u64 n = n % 18446744073709551616 := by simp [IntKind.wrap, IntKind.bits, IntKind.signed]
  rw [e]; omega
theorem wrapU32e (n : Int) : IntKind.wrap .u32 n = n % 4294967296 := by simp [IntKind.wrap, IntKind.bits, IntKind.signed]
theorem wrapU32 {n : Int} (h1 : 0 ≤ n) (h2 : n < 4294967296) : IntKind.wrap .u32 n = n := by rw [wrapU32e]; omega

theorem shr32 (s : Nat) : iBin .shr (.int .u64 (s : Int)) (.int .u64 32) = some (.int .u64 ((s / 4294967296 : Nat) : Int)) := by
  simp only [iBin, iShift]
  rw [if_neg (by omega)]
  have : (min (32 : Int).toNat IntKind.u64.bits) = 32 := rfl
  rw [this]
  have e2 : (2 : Int) ^ 32 = 4294967296 := by decide
  rw [e2, Int.fdiv_eq_ediv_of_nonneg _ (by omega)]
  congr 2

theorem C114 {x y c : Nat} {h : Heap} {K : Value → Heap → Prop} (hx : x < 4294967296) (hy : y < 4294967296) (hc : c ≤ 1) (hk : K (.tuple #[.int .u32 (((x + y + c) % 4294967296 : Nat) : Int), .int .u32 (((x + y + c) / 4294967296 : Nat) : Int)]) h) :
    CallP Tryz.prog 114 [.int .u32 (x : Int), .int .u32 (y : Int), .int .u32 (c : Int)] h K := by
  refine f114 ?_
  have e1 : IntKind.wrap .u64 ((x : Int) + (y : Int)) = ((x + y : Nat) : Int) := by rw [wrapU64 (by omega) (by omega)]; omega
  have e2 : IntKind.wrap .u64 (((x + y : Nat) : Int) + (c : Int)) = ((x + y + c : Nat) : Int) := by rw [wrapU64 (by omega) (by omega)]; omega
  have e3 : IntKind.wrap .u32 ((x + y + c : Nat) : Int) = (((x + y + c) % 4294967296 : Nat) : Int) := by rw [wrapU32e]; omega
  simp only [T114, conv_int, OP_some, bin_add]
  rw [wrapU64 (n := (x : Int)) (by omega) (by omega), wrapU64 (n := (y : Int)) (by omega) (by omega), e1, wrapU64 (n := (c : Int)) (by omega) (by omega), e2]
  simp only [shr32, OP_some, conv_int, e3]
  rw [wrapU32 (by omega) (by omega)]
  exact hk

/-- A sum, digit by digit. -/
theorem C85s {va vb : Value} {xs ys : List Nat} {h : Heap} {K : Value → Heap → Prop} (hx : DS 116 .u32 h va xs) (hy : DS 116 .u32 h vb ys) (lx : Lim 4294967296 xs) (ly : Lim 4294967296 ys) (hle : ys.length ≤ xs.length) (hlen : xs.length ≤ 200)
    (hk : ∀ v h', EX h h' → MagV h' v (val 4294967296 xs + val 4294967296 ys) → K v h') : p85z4 Tryz.prog K va vb h := by
  rw [q85z4]
  simp only [hx.len, OP_some, bin_add, inc xs.length (by omega), make_hd (show xs.length + 1 ≤ 1000 by omega), OH_some]
  have hW : 0 < 4294967296 := by decide
  refine loopL (σ := Nat × Nat × List Nat) (fun p => [.int .u32 (p.1 : Int), I p.2.1]) (fun p => hd h p.2.2)
    (fun p => p.2.1 ≤ xs.length ∧ p.1 ≤ 1 ∧ p.2.2.length = xs.length + 1 ∧ Lim 4294967296 p.2.2 ∧ (∀ j (hj : j < p.2.2.length), p.2.1 ≤ j → p.2.2[j] = 0) ∧ val 4294967296 p.2.2 + 4294967296 ^ p.2.1 * p.1 = val 4294967296 (xs.take p.2.1) + val 4294967296 (ys.take p.2.1)) (fun p => xs.length - p.2.1)
    (0, 0, List.replicate (xs.length + 1) 0) rfl rfl ⟨by simp, by simp, by simp, Lim.zeros hW _, by simp, by simp [val_zeros, val]⟩ ?_
  rintro ⟨c, i, os⟩ ⟨hi, hc, hol, hlim, hz, hval⟩ L hL
  simp only at hi hc hol hlim hz hval hL ⊢
  rw [q85z10]
  have hx' := hx.mono (hd_EX h os)
  have hy' := hy.mono (hd_EX h os)
  simp only [bin_lss, OP_some, IfP_dec]
  refine ⟨fun hlt => ?_, fun hge => ?_⟩
  · have hil : i < xs.length := by omega
    obtain ⟨ia, a1, a2⟩ := hx'.get hil
    have hxl : xs[i] < 4294967296 := lx _ (List.getElem_mem hil)
    have go : ∀ y : Nat, y < 4294967296 → val 4294967296 (ys.take (i + 1)) = val 4294967296 (ys.take i) + 4294967296 ^ i * y → p85z19 Tryz.prog K va vb (sl 116 h.length 0 (xs.length + 1)) (.int .u32 (c : Int)) (I i) (.int .u32 (y : Int)) (I xs.length) (I i) L (hd h os) := by
      intro y hyl hyv
      rw [q85z19]
      simp only [a1, OP_some, a2]
      refine C114 hxl hyl hc ?_
      simp only [ext_tuple, pair0, pair1, OP_some, adr_sl (show i < xs.length + 1 by omega)]
      rw [hd_store _ (by omega)]
      simp only [OH_some, q85z20, bin_add, OP_some, inc i (by omega), true_and]
      have hmod : (xs[i] + y + c) % 4294967296 < 4294967296 := Nat.mod_lt _ hW
      have hdiv : (xs[i] + y + c) / 4294967296 ≤ 1 := by omega
      refine hL ((xs[i] + y + c) / 4294967296, i + 1, os.set i ((xs[i] + y + c) % 4294967296)) ⟨by show i + 1 ≤ xs.length; omega, hdiv, by show (os.set i _).length = _; rw [List.length_set]; exact hol, hlim.set hmod i, ?_, ?_⟩ (by show xs.length - (i + 1) < xs.length - i; omega)
      · intro j hj hij
        show (os.set i _)[j] = 0
        have hij' : i ≠ j := by have : i + 1 ≤ j := hij; omega
        rw [List.getElem_set_ne hij']
        exact hz j (by simpa using hj) (by have : i + 1 ≤ j := hij; omega)
      · show val 4294967296 (os.set i _) + 4294967296 ^ (i + 1) * _ = val 4294967296 (xs.take (i + 1)) + val 4294967296 (ys.take (i + 1))
        have h1 := val_set 4294967296 os i ((xs[i] + y + c) % 4294967296) (by omega)
        rw [hz i (by omega) (Nat.le_refl _)] at h1
        rw [val_take_succ 4294967296 xs hil, hyv, Nat.pow_succ]
        have h2 := Nat.mod_add_div (xs[i] + y + c) 4294967296
        generalize (xs[i] + y + c) % 4294967296 = m at *
        generalize (xs[i] + y + c) / 4294967296 = q at *
        generalize 4294967296 ^ i = P at *
        generalize hWW : 4294967296 = w at *
        grind
    simp only [hy'.len, OP_some, bin_lss, IfP_dec]
    refine ⟨fun hly => ?_, fun hgy => ?_⟩
    · have hiy : i < ys.length := by omega
      obtain ⟨ib, b1, b2⟩ := hy'.get hiy
      simp only [b1, OP_some, b2]
      exact go _ (ly _ (List.getElem_mem hiy)) (val_take_succ 4294967296 ys hiy)
    · have := go 0 (by decide) (by rw [List.take_of_length_le (by omega), List.take_of_length_le (by omega)]; simp)
      simpa using this
  · have : i = xs.length := by omega
    subst this
    rw [q85z21]
    simp only [hx'.len, OP_some, adr_sl (show xs.length < xs.length + 1 by omega)]
    rw [hd_store _ (by omega)]
    simp only [OH_some]
    have h1 := val_set 4294967296 os xs.length c (by omega)
    rw [hz xs.length (by omega) (Nat.le_refl _)] at h1
    have hv : val 4294967296 (os.set xs.length c) = val 4294967296 xs + val 4294967296 ys := by
      rw [List.take_length, List.take_of_length_le hle] at hval
      omega
    have hcW : c < 4294967296 := Nat.lt_of_le_of_lt hc (by decide)
    have e : sl 116 h.length 0 (xs.length + 1) = sl 116 h.length 0 (os.set xs.length c).length := by rw [List.length_set, hol]
    rw [e]
    refine C83 (hd_DS h _) (hlim.set hcW _) (by rw [List.length_set]; omega) ?_
    intro v' hm
    rw [hv] at hm
    exact hk v' _ (hd_EX h _) hm

theorem C85 {va vb : Value} {a b : Nat} {h : Heap} {K : Value → Heap → Prop} (ha : MagV h va a) (hb : MagV h vb b) (la : a < bigW) (lb : b < bigW) (hk : ∀ v h', EX h h' → MagV h' v (a + b) → K v h') : CallP Tryz.prog 85 [va, vb] h K := by
  obtain ⟨xs, dx, cx, rfl⟩ := ha
  obtain ⟨ys, dy, cy, rfl⟩ := hb
  have l1 := canW_len cx la
  have l2 := canW_len cy lb
  refine f85 ?_
  simp only [T85, dx.len, dy.len, OP_some, bin_lss, IfP_dec]
  refine ⟨fun hlt => ?_, fun hge => ?_⟩
  · refine C85s dy dx cy.1 cx.1 (by omega) (by omega) ?_
    rw [Nat.add_comm (val 4294967296 ys)]
    exact hk
  · exact C85s dx dy cx.1 cy.1 (by omega) (by omega) hk

end Go.Proofs.YthplaillblmgfaaGreatDoor


namespace Go.Proofs.YthplaillblmgfaaGreatDoor
open Go.Sim

theorem bv_of (X : BitVec 32) : BitVec.ofInt IntKind.u32.bits (X.toNat : Int) = X := by
  show BitVec.ofInt 32 (X.toNat : Int) = X
  rw [BitVec.ofInt_natCast, BitVec.ofNat_toNat, BitVec.setWidth_eq]

theorem bv_lt (X : BitVec 32) : X.toNat < 4294967296 := X.isLt

theorem and32 (X Y : BitVec 32) : iBin .and (.int .u32 (X.toNat : Int)) (.int .u32 (Y.toNat : Int)) = some (.int .u32 ((X &&& Y).toNat : Int)) := by
  have h := bv_lt (X &&& Y)
  have e : (BitVec.ofInt IntKind.u32.bits (X.toNat : Int) &&& BitVec.ofInt IntKind.u32.bits (Y.toNat : Int)).toNat = (X &&& Y).toNat := by rw [bv_of, bv_of]; rfl
  simp only [iBin, iInt, if_true]
  rw [e, wrapU32 (by omega) (by omega)]

theorem or32 (X Y : BitVec 32) : iBin .or (.int .u32 (X.toNat : Int)) (.int .u32 (Y.toNat : Int)) = some (.int .u32 ((X ||| Y).toNat : Int)) := by
  have h := bv_lt (X ||| Y)
  have e : (BitVec.ofInt IntKind.u32.bits (X.toNat : Int) ||| BitVec.ofInt IntKind.u32.bits (Y.toNat : Int)).toNat = (X ||| Y).toNat := by rw [bv_of, bv_of]; rfl
  simp only [iBin, iInt, if_true]
  rw [e, wrapU32 (by omega) (by omega)]

theorem xor32 (X Y : BitVec 32) : iBin .xor (.int .u32 (X.toNat : Int)) (.int .u32 (Y.toNat : Int)) = some (.int .u32 ((X ^^^ Y).toNat : Int)) := by
  have h := bv_lt (X ^^^ Y)
  have e : (BitVec.ofInt IntKind.u32.bits (X.toNat : Int) ^^^ BitVec.ofInt IntKind.u32.bits (Y.toNat : Int)).toNat = (X ^^^ Y).toNat := by rw [bv_of, bv_of]; rfl
  simp only [iBin, iInt, if_true]
  rw [e, wrapU32 (by omega) (by omega)]

theorem not32 (X : BitVec 32) : iUn .xor (.int .u32 (X.toNat : Int)) = some (.int .u32 ((~~~X).toNat : Int)) := by
  have h := bv_lt (~~~X)
  have e : (BitVec.ofInt IntKind.u32.bits (if IntKind.u32.signed = true then -1 else IntKind.u32.max) ^^^ BitVec.ofInt IntKind.u32.bits (X.toNat : Int)).toNat = (~~~X).toNat := by
    rw [bv_of]
    show (BitVec.ofInt 32 4294967295 ^^^ X).toNat = _
    rw [show BitVec.ofInt 32 4294967295 = BitVec.allOnes 32 from by decide, BitVec.allOnes_xor]
  simp only [iUn]
  rw [e, wrapU32 (by omega) (by omega)]

theorem top32 (Z : BitVec 32) : iBin .shr (.int .u32 (Z.toNat : Int)) (.int .u64 31) = some (.int .u32 ((if Z.msb then 1 else 0 : Nat) : Int)) := by
  have h := bv_lt Z
  simp only [iBin, iShift]
  rw [if_neg (by omega)]
  have : (min (31 : Int).toNat IntKind.u32.bits) = 31 := rfl
  rw [this]
  have e2 : (2 : Int) ^ 31 = 2147483648 := by decide
  rw [e2, Int.fdiv_eq_ediv_of_nonneg _ (by omega), BitVec.msb_eq_decide]
  congr 2
  by_cases hz : 2 ^ 31 ≤ Z.toNat
  · simp [hz]; omega
  · simp [hz]; omega

theorem C115 {x y b : Nat} {h : Heap} {K : Value → Heap → Prop} (hx : x < 4294967296) (hy : y < 4294967296) (hb : b ≤ 1) (hk : K (.tuple #[.int .u32 (((x + 4294967296 + 4294967296 - y - b) % 4294967296 : Nat) : Int), .int .u32 ((if x < y + b then 1 else 0 : Nat) : Int)]) h) :
    CallP Tryz.prog 115 [.int .u32 (x : Int), .int .u32 (y : Int), .int .u32 (b : Int)] h K := by
  refine f115 ?_
  obtain ⟨X, rfl⟩ : ∃ X : BitVec 32, x = X.toNat := ⟨BitVec.ofNat 32 x, by rw [BitVec.toNat_ofNat]; exact (Nat.mod_eq_of_lt hx).symm⟩
  obtain ⟨Y, rfl⟩ : ∃ Y : BitVec 32, y = Y.toNat := ⟨BitVec.ofNat 32 y, by rw [BitVec.toNat_ofNat]; exact (Nat.mod_eq_of_lt hy).symm⟩
  obtain ⟨D, hD⟩ : ∃ D : BitVec 32, D.toNat = (X.toNat + 4294967296 + 4294967296 - Y.toNat - b) % 4294967296 := ⟨BitVec.ofNat 32 _, by rw [BitVec.toNat_ofNat]⟩
  have e1 : IntKind.wrap .u32 (IntKind.wrap .u32 ((X.toNat : Int) - (Y.toNat : Int)) - (b : Int)) = (D.toNat : Int) := by
    rw [wrapU32e, wrapU32e, hD]; omega
  simp only [T115, bin_sub, OP_some, e1, not32, and32, xor32, or32, top32]
  rw [← hD] at hk
  have e2 : (if (~~~X &&& Y ||| ~~~(X ^^^ Y) &&& D).msb then 1 else 0 : Nat) = if X.toNat < Y.toNat + b then 1 else 0 := by
    rw [BitVec.msb_or, BitVec.msb_and, BitVec.msb_and, BitVec.msb_not, BitVec.msb_not, BitVec.msb_xor, BitVec.msb_eq_decide X, BitVec.msb_eq_decide Y, BitVec.msb_eq_decide D]
    by_cases c1 : 2 ^ (32 - 1) ≤ X.toNat <;> by_cases c2 : 2 ^ (32 - 1) ≤ Y.toNat <;> by_cases c3 : 2 ^ (32 - 1) ≤ D.toNat <;> simp [c1, c2, c3] <;> omega
  rw [e2]
  exact hk

theorem C87 {va vb : Value} {a b : Nat} {h : Heap} {K : Value → Heap → Prop} (ha : MagV h va a) (hb : MagV h vb b) (la : a < bigW) (hab : b ≤ a) (hk : ∀ v h', EX h h' → MagV h' v (a - b) → K v h') : CallP Tryz.prog 87 [va, vb] h K := by
  obtain ⟨xs, hx, cx, rfl⟩ := ha
  obtain ⟨ys, hy, cy, rfl⟩ := hb
  have l1 := canW_len cx la
  have l2 := canW_len cy (Nat.lt_of_le_of_lt hab la)
  have hle : ys.length ≤ xs.length := by
    apply Classical.byContradiction
    intro hc
    have := Canon.lt_of_len (by decide) cx cy (by omega)
    omega
  refine f87 ?_
  simp only [T87, hx.len, OP_some, make_hd (show xs.length ≤ 1000 by omega), OH_some]
  have hW : (0 : Nat) < 4294967296 := by decide
  refine loopL (σ := Nat × Nat × List Nat) (fun p => [.int .u32 (p.1 : Int), I p.2.1]) (fun p => hd h p.2.2)
    (fun p => p.2.1 ≤ xs.length ∧ p.1 ≤ 1 ∧ p.2.2.length = xs.length ∧ Lim 4294967296 p.2.2 ∧ (∀ j (hj : j < p.2.2.length), p.2.1 ≤ j → p.2.2[j] = 0) ∧ val 4294967296 p.2.2 + val 4294967296 (ys.take p.2.1) = val 4294967296 (xs.take p.2.1) + 4294967296 ^ p.2.1 * p.1) (fun p => xs.length - p.2.1)
    (0, 0, List.replicate xs.length 0) rfl rfl ⟨by simp, by simp, by simp, Lim.zeros hW _, by simp, by simp [val_zeros, val]⟩ ?_
  rintro ⟨c, i, os⟩ ⟨hi, hc, hol, hlim, hz, hval⟩ L hL
  simp only at hi hc hol hlim hz hval hL ⊢
  rw [q87z7]
  have hx' := hx.mono (hd_EX h os)
  have hy' := hy.mono (hd_EX h os)
  simp only [bin_lss, OP_some, IfP_dec]
  refine ⟨fun hlt => ?_, fun hge => ?_⟩
  · have hil : i < xs.length := by omega
    obtain ⟨ia, a1, a2⟩ := hx'.get hil
    have hxl : xs[i] < 4294967296 := cx.1 _ (List.getElem_mem hil)
    have go : ∀ y : Nat, y < 4294967296 → val 4294967296 (ys.take (i + 1)) = val 4294967296 (ys.take i) + 4294967296 ^ i * y → p87z16 Tryz.prog K va vb (sl 116 h.length 0 xs.length) (.int .u32 (c : Int)) (I i) (.int .u32 (y : Int)) (I xs.length) (I i) L (hd h os) := by
      intro y hyl hyv
      rw [q87z16]
      simp only [a1, OP_some, a2]
      refine C115 hxl hyl hc ?_
      simp only [ext_tuple, pair0, pair1, OP_some, adr_sl hil]
      rw [hd_store _ (by omega)]
      simp only [OH_some, q87z17, bin_add, OP_some, inc i (by omega), true_and]
      have hmod : (xs[i] + 4294967296 + 4294967296 - y - c) % 4294967296 < 4294967296 := Nat.mod_lt _ hW
      have hb1 : (if xs[i] < y + c then 1 else 0) ≤ 1 := by split <;> omega
      have hs : (xs[i] + 4294967296 + 4294967296 - y - c) % 4294967296 + y + c = xs[i] + 4294967296 * (if xs[i] < y + c then 1 else 0) := by
        split <;> omega
      refine hL ((if xs[i] < y + c then 1 else 0), i + 1, os.set i ((xs[i] + 4294967296 + 4294967296 - y - c) % 4294967296)) ⟨by show i + 1 ≤ xs.length; omega, hb1, by show (os.set i _).length = _; rw [List.length_set]; exact hol, hlim.set hmod i, ?_, ?_⟩ (by show xs.length - (i + 1) < xs.length - i; omega)
      · intro j hj hij
        show (os.set i _)[j] = 0
        have hij' : i ≠ j := by have : i + 1 ≤ j := hij; omega
        rw [List.getElem_set_ne hij']
        exact hz j (by simpa using hj) (by have : i + 1 ≤ j := hij; omega)
      · show val 4294967296 (os.set i _) + val 4294967296 (ys.take (i + 1)) = val 4294967296 (xs.take (i + 1)) + 4294967296 ^ (i + 1) * _
        have h1 := val_set 4294967296 os i ((xs[i] + 4294967296 + 4294967296 - y - c) % 4294967296) (by omega)
        rw [hz i (by omega) (Nat.le_refl _)] at h1
        rw [val_take_succ 4294967296 xs hil, hyv, Nat.pow_succ]
        generalize (xs[i] + 4294967296 + 4294967296 - y - c) % 4294967296 = m at *
        generalize (if xs[i] < y + c then 1 else 0) = q at *
        generalize 4294967296 ^ i = P at *
        generalize (4294967296 : Nat) = w at *
        grind
    simp only [hy'.len, OP_some, bin_lss, IfP_dec]
    refine ⟨fun hly => ?_, fun hgy => ?_⟩
    · have hiy : i < ys.length := by omega
      obtain ⟨ib, b1, b2⟩ := hy'.get hiy
      simp only [b1, OP_some, b2]
      exact go _ (cy.1 _ (List.getElem_mem hiy)) (val_take_succ 4294967296 ys hiy)
    · have := go 0 (by decide) (by rw [List.take_of_length_le (by omega), List.take_of_length_le (by omega)]; simp)
      simpa using this
  · have : i = xs.length := by omega
    subst this
    rw [q87z18]
    rw [List.take_length, List.take_of_length_le hle] at hval
    have hlt := val_lt hlim
    rw [hol] at hlt
    have hc0 : c = 0 := by
      apply Classical.byContradiction
      intro hne
      have : c = 1 := by omega
      subst this
      omega
    subst hc0
    have hv : val 4294967296 os = val 4294967296 xs - val 4294967296 ys := by omega
    have e : sl 116 h.length 0 xs.length = sl 116 h.length 0 os.length := by rw [hol]
    rw [e]
    refine C83 (hd_DS h _) hlim (by omega) ?_
    intro v' hm
    rw [hv] at hm
    exact hk v' _ (hd_EX h _) hm

def sgn (a b : Nat) : Int := if a < b then -1 else if b < a then 1 else 0

/-- The greater one by its first digit from above. -/
theorem val_lt_of_top {B : Nat} {xs ys : List Nat} (lx : Lim B xs) (ly : Lim B ys) (hl : xs.length = ys.length) {i : Nat} (hi : i < xs.length) (hd : xs.drop (i + 1) = ys.drop (i + 1)) (h : xs[i] < ys[i]'(by omega)) : val B xs < val B ys := by
  have e1 : xs = xs.take i ++ xs[i] :: xs.drop (i + 1) := by rw [← List.drop_eq_getElem_cons hi, List.take_append_drop]
  have e2 : ys = ys.take i ++ ys[i]'(by omega) :: ys.drop (i + 1) := by rw [← List.drop_eq_getElem_cons (by omega), List.take_append_drop]
  have v1 : val B xs = val B (xs.take i) + B ^ i * (xs[i] + B * val B (xs.drop (i + 1))) := by
    conv => lhs; rw [e1]
    rw [val_append, List.length_take, Nat.min_eq_left (by omega)]; rfl
  have v2 : val B ys = val B (ys.take i) + B ^ i * (ys[i]'(by omega) + B * val B (ys.drop (i + 1))) := by
    conv => lhs; rw [e2]
    rw [val_append, List.length_take, Nat.min_eq_left (by omega)]; rfl
  rw [v1, v2, hd]
  have h1 := val_lt (lx.mono (ys := xs.take i) fun y hy => List.mem_of_mem_take hy)
  rw [List.length_take, Nat.min_eq_left (by omega)] at h1
  have h2 : B ^ i * (xs[i] + 1 + B * val B (ys.drop (i + 1))) ≤ B ^ i * (ys[i]'(by omega) + B * val B (ys.drop (i + 1))) := Nat.mul_le_mul_left _ (by omega)
  generalize B ^ i = P at *
  generalize B * val B (ys.drop (i + 1)) = Q at *
  generalize val B (xs.take i) = u at *
  generalize val B (ys.take i) = v at *
  have h3 : P * (xs[i] + 1 + Q) = P * (xs[i] + Q) + P := by grind
  omega

theorem C86 {va vb : Value} {a b : Nat} {h : Heap} {K : Value → Heap → Prop} (ha : MagV h va a) (hb : MagV h vb b) (la : a < bigW) (lb : b < bigW) (hk : K (I (sgn a b)) h) : CallP Tryz.prog 86 [va, vb] h K := by
  obtain ⟨xs, hx, cx, rfl⟩ := ha
  obtain ⟨ys, hy, cy, rfl⟩ := hb
  have l1 := canW_len cx la
  have l2 := canW_len cy lb
  have less : val 4294967296 xs < val 4294967296 ys → K (.int .i64 (-1)) h := fun h1 => by unfold sgn at hk; rw [if_pos h1] at hk; exact hk
  have more : val 4294967296 ys < val 4294967296 xs → K (.int .i64 1) h := fun h1 => by unfold sgn at hk; rw [if_neg (by omega), if_pos h1] at hk; exact hk
  have same : val 4294967296 xs = val 4294967296 ys → K (.int .i64 0) h := fun h1 => by unfold sgn at hk; rw [if_neg (by omega), if_neg (by omega)] at hk; exact hk
  refine f86 ?_
  simp only [T86, hx.len, hy.len, OP_some, bin_neq, IfP_ndec, bin_lss, IfP_dec]
  refine ⟨fun hne => ⟨fun hlt => less (Canon.lt_of_len (by decide) cx cy (by omega)), fun hge => more (Canon.lt_of_len (by decide) cy cx (by omega))⟩, fun he => ?_⟩
  have he' : xs.length = ys.length := by omega
  simp only [bin_sub, OP_some]
  have e1 : IntKind.wrap .i64 ((xs.length : Int) - 1) = (xs.length : Int) - 1 := by rw [wrap64 (by omega) (by omega)]
  rw [e1]
  refine loopL (σ := Nat) (fun i => [I ((i : Int) - 1)]) (fun _ => h) (fun i => i ≤ xs.length ∧ xs.drop i = ys.drop i) (fun i => i) xs.length rfl rfl ⟨Nat.le_refl _, by rw [List.drop_length, he', List.drop_length]⟩ ?_
  rintro i ⟨hi, hdr⟩ L hL
  rw [q86z11]
  simp only [bin_geq, OP_some, IfP_dec]
  refine ⟨fun hge => ?_, fun hlt => ?_⟩
  · obtain ⟨j, rfl⟩ : ∃ j, i = j + 1 := ⟨i - 1, by omega⟩
    have ej : (((j + 1 : Nat) : Int) - 1) = (j : Int) := by omega
    rw [ej]
    obtain ⟨ia, a1, a2⟩ := hx.get (j := j) (by omega)
    obtain ⟨ib, b1, b2⟩ := hy.get (j := j) (by omega)
    simp only [a1, a2, b1, b2, OP_some, true_and, bin_neq, IfP_ndec, bin_lss, IfP_dec]
    refine ⟨fun hne => ⟨fun hlt => less (val_lt_of_top cx.1 cy.1 he' (i := j) (by omega) hdr (by omega)), fun hge => more (val_lt_of_top cy.1 cx.1 he'.symm (i := j) (by omega) hdr.symm (by omega))⟩, fun heq => ?_⟩
    simp only [bin_sub, OP_some]
    rw [wrap64 (by omega) (by omega)]
    refine hL j ⟨by omega, ?_⟩ (by omega)
    rw [List.drop_eq_getElem_cons (by omega), List.drop_eq_getElem_cons (show j < ys.length by omega), hdr]
    congr 1
    omega
  · have : i = 0 := by omega
    subst this
    rw [List.drop_zero, List.drop_zero] at hdr
    exact same (by rw [hdr])

end Go.Proofs.YthplaillblmgfaaGreatDoor


namespace Go.Proofs.YthplaillblmgfaaGreatDoor
open Go.Sim

/-! ### With a sign -/

/-- An integer: whether it is below 0, and its size. -/
def IntV (h : Heap) (val : Value) (z : Int) : Prop := ∃ v, val = .agg #[B (decide (z < 0)), v] ∧ MagV h v z.natAbs

theorem IntV.mono {h h' : Heap} {v : Value} {z : Int} (x : EX h h') (p : IntV h v z) : IntV h' v z := let ⟨w, a, b⟩ := p; ⟨w, a, b.mono x⟩

theorem MagV.len0 {h : Heap} {v : Value} {n : Nat} (p : MagV h v n) : ∃ l : Nat, iLenSl v = some (I l) ∧ (0 < l ↔ 0 < n) := by
  obtain ⟨xs, d, c, rfl⟩ := p
  refine ⟨xs.length, d.len, ?_⟩
  constructor
  · intro h0
    have := Canon.low (by decide) c (by rintro rfl; simp at h0)
    have : 0 < 4294967296 ^ (xs.length - 1) := Nat.pow_pos (by decide)
    omega
  · intro h0
    cases xs with
    | nil => simp [val] at h0
    | cons x xs => simp

/-- Nothing of a number is lost if an object that begins with a truth value is written. -/
theorem MagV.setB {h : Heap} {v : Value} {n j : Nat} {e : TypeId} {b : Bool} {r : List Value} (p : MagV h v n) (hj : h[j]? = some (.arr e (.bool b :: r))) (o : IObj) : MagV (h.set j o) v n := by
  obtain ⟨xs, d, c, hv⟩ := p
  refine ⟨xs, ?_, c, hv⟩
  rcases d with d | ⟨i, h1, h2⟩
  · exact .inl d
  · refine .inr ⟨i, h1, ?_⟩
    rcases h2 with h2 | ⟨rest, h2⟩
    · exact .inl h2
    · cases xs with
      | nil => exact .inl rfl
      | cons x xs =>
        right
        refine ⟨rest, ?_⟩
        have hne : j ≠ i := by
          rintro rfl
          unfold objCells at h2
          rw [hj] at h2
          simp at h2
        unfold objCells at h2 ⊢
        rw [List.getElem?_set_ne hne]
        exact h2

theorem IntV.setB {h : Heap} {v : Value} {z : Int} {j : Nat} {e : TypeId} {b : Bool} {r : List Value} (p : IntV h v z) (hj : h[j]? = some (.arr e (.bool b :: r))) (o : IObj) : IntV (h.set j o) v z :=
  let ⟨w, a, q⟩ := p; ⟨w, a, q.setB hj o⟩

theorem store2 {h : Heap} {i : Nat} {e : TypeId} {a b x y : Value} (hg : h[i]? = some (.arr e [a, b])) : oStore 2 h (pt i 0) (.agg #[x, y]) = some (undef, h.set i (.arr e [x, y])) := by
  simp [oStore, iStore, hg, noTuple, vcells, Value.cells, setAt]

theorem load2 {h : Heap} {i : Nat} {e : TypeId} {a b : Value} (hg : h[i]? = some (.arr e [a, b])) : iLoad true 2 h (pt i 0) = some (.agg #[a, b]) := by
  simp [iLoad, objCells, hg, iPart]

theorem set_get {h : Heap} {i : Nat} {o o' : IObj} (hg : h[i]? = some o') : (h.set i o)[i]? = some o := by
  rw [List.getElem?_set_self (List.getElem?_eq_some_iff.1 hg).1]

theorem C82 {v : Value} {n : Nat} {b : Bool} {h : Heap} {K : Value → Heap → Prop} (hm : MagV h v n) (hk : ∀ h', EX h h' → K (.agg #[B (b && decide (0 < n)), v]) h') : CallP Tryz.prog 82 [B b, v] h K := by
  refine f82 ?_
  have al : iAlloc 81 [(.bool false), (.slice none 0 0)] h = some (pt h.length 0, h ++ [.arr 81 [(.bool false), (.slice none 0 0)]]) := rfl
  simp only [T82, al, OH_some]
  obtain ⟨l, h1, h2⟩ := hm.len0
  have hg : (h ++ [IObj.arr 81 [(.bool false), (.slice none 0 0)]])[h.length]? = some (.arr 81 [(.bool false), (.slice none 0 0)]) := get_last
  have hx : EX h (h ++ [IObj.arr 81 [(.bool false), (.slice none 0 0)]]) := EX.append _ _
  have fin : p82z6 Tryz.prog K v (pt h.length 0) (B b) (B (decide (0 < l))) (h ++ [IObj.arr 81 [(.bool false), (.slice none 0 0)]]) ∧ (b = false → p82z6 Tryz.prog K v (pt h.length 0) (B b) undef (h ++ [IObj.arr 81 [(.bool false), (.slice none 0 0)]])) := by
    have one : ∀ c : Bool, c = (b && decide (0 < n)) → OP (iBuild [(.bool false), (.slice none 0 0)] [(0, 1, B c), (1, 1, v)]) fun x12 => OH (oStore 2 (h ++ [IObj.arr 81 [(.bool false), (.slice none 0 0)]]) (pt h.length 0) x12) fun _ h_1 => OP (iLoad true 2 h_1 (pt h.length 0)) fun r0 => K r0 h_1 := by
      rintro c rfl
      have eb : iBuild [(.bool false), (.slice none 0 0)] [(0, 1, B (b && decide (0 < n))), (1, 1, v)] = some (.agg #[B (b && decide (0 < n)), v]) := by
        obtain ⟨xs, d, _, _⟩ := hm
        rcases d with ⟨rfl, _⟩ | ⟨i, rfl, _⟩ <;> rfl
      simp only [eb, OP_some]
      rw [store2 hg]
      simp only [OH_some]
      rw [load2 (set_get hg)]
      simp only [OP_some]
      exact hk _ (hx.set (Nat.le_refl _) _)
    constructor
    · rw [q82z6]
      cases b with
      | true => simp only [iPick_t, OP_some]; exact one _ (by simp [h2])
      | false => simp only [iPick_f, OP_some]; exact one _ (by simp)
    · rintro rfl
      rw [q82z6]
      simp only [iPick_f, OP_some]
      exact one _ (by simp)
  rw [q82z4]
  have e0 : decide ((0 : Int) < (l : Int)) = decide (0 < l) := by
    by_cases h0 : 0 < l
    · simp [h0]
    · simp [h0]
  cases b with
  | true =>
    simp only [GdP_tt, h1, OP_some, bin_gtr, e0]
    exact fin.1
  | false =>
    simp only [GdP_ft]
    exact fin.2 rfl

end Go.Proofs.YthplaillblmgfaaGreatDoor


namespace Go.Proofs.YthplaillblmgfaaGreatDoor
open Go.Sim

theorem fin2 {h' : Heap} {j : Nat} {b0 v0 b v : Value} {K : Value → Heap → Prop} (hg : h'[j]? = some (.arr 81 [b0, v0])) (hk : K (.agg #[b, v]) (h'.set j (.arr 81 [b, v]))) :
    OH (oStore 2 h' (pt j 0) (.agg #[b, v])) fun _ h6 => OP (iLoad true 2 h6 (pt j 0)) fun r0 => K r0 h6 := by
  rw [store2 hg]
  simp only [OH_some]
  rw [load2 (set_get hg)]
  exact OP_some.2 hk

/-- Two integers boxed, and a place for the result. -/
structure Box2 (h : Heap) (va vb : Value) (sa sb : Bool) (h3 : Heap) : Prop where
  ex : EX h h3
  a0 : iLoad false 1 h3 (pt h.length 0) = some (B sa)
  a1 : iLoad false 1 h3 (pt h.length 1) = some va
  b0 : iLoad false 1 h3 (pt (h.length + 1) 0) = some (B sb)
  b1 : iLoad false 1 h3 (pt (h.length + 1) 1) = some vb
  a2 : iLoad true 2 h3 (pt h.length 0) = some (.agg #[B sa, va])
  b2 : iLoad true 2 h3 (pt (h.length + 1) 0) = some (.agg #[B sb, vb])
  out : h3[h.length + 2]? = some (.arr 81 [.bool false, .slice none 0 0])

theorem box2 {h : Heap} {va vb : Value} {sa sb : Bool} {K : Value → Value → Value → Heap → Prop} (hk : ∀ h3, Box2 h va vb sa sb h3 → K (pt h.length 0) (pt (h.length + 1) 0) (pt (h.length + 2) 0) h3) :
    OH (iBox 81 h (.agg #[B sa, va])) fun a2 h_1 => OH (iBox 81 h_1 (.agg #[B sb, vb])) fun b3 h_2 => OH (iAlloc 81 [(.bool false), (.slice none 0 0)] h_2) fun x4 h_3 => K a2 b3 x4 h_3 := by
  have e1 : ∀ (g : Heap) (s : Bool) (v : Value), iBox 81 g (.agg #[B s, v]) = some (pt g.length 0, g ++ [.arr 81 [B s, v]]) := fun _ _ _ => rfl
  have e2 : ∀ (g : Heap), iAlloc 81 [(.bool false), (.slice none 0 0)] g = some (pt g.length 0, g ++ [.arr 81 [(.bool false), (.slice none 0 0)]]) := fun _ => rfl
  simp only [e1, e2, OH_some, List.length_append, List.length_cons, List.length_nil]
  have g0 : (h ++ [IObj.arr 81 [B sa, va]] ++ [IObj.arr 81 [B sb, vb]] ++ [IObj.arr 81 [(.bool false), (.slice none 0 0)]])[h.length]? = some (.arr 81 [B sa, va]) := by simp
  have g1 : (h ++ [IObj.arr 81 [B sa, va]] ++ [IObj.arr 81 [B sb, vb]] ++ [IObj.arr 81 [(.bool false), (.slice none 0 0)]])[h.length + 1]? = some (.arr 81 [B sb, vb]) := by simp
  have g2 : (h ++ [IObj.arr 81 [B sa, va]] ++ [IObj.arr 81 [B sb, vb]] ++ [IObj.arr 81 [(.bool false), (.slice none 0 0)]])[h.length + 2]? = some (.arr 81 [(.bool false), (.slice none 0 0)]) := by simp
  refine hk _ ⟨((EX.append _ _).push _).push _, ?_, ?_, ?_, ?_, load2 g0, load2 g1, g2⟩
  · simp [iLoad, objCells, iPart]
  · simp [iLoad, objCells, iPart]
  · simp [iLoad, objCells, iPart]
  · simp [iLoad, objCells, iPart]

theorem C46 {n : Int} {h : Heap} {K : Value → Heap → Prop} (h1 : -9223372036854775808 ≤ n) (h2 : n < 9223372036854775808) (hk : ∀ r h', EX h h' → IntV h' r n → K r h') : CallP Tryz.prog 46 [I n] h K := by
  refine f46 ?_
  have e2 : iAlloc 81 [(.bool false), (.slice none 0 0)] h = some (pt h.length 0, h ++ [.arr 81 [(.bool false), (.slice none 0 0)]]) := rfl
  simp only [T46, e2, OH_some]
  have x1 : EX h (h ++ [IObj.arr 81 [(.bool false), (.slice none 0 0)]]) := EX.append _ _
  have g1 : (h ++ [IObj.arr 81 [(.bool false), (.slice none 0 0)]])[h.length]? = some (.arr 81 [(.bool false), (.slice none 0 0)]) := get_last
  generalize h ++ [IObj.arr 81 [(.bool false), (.slice none 0 0)]] = hA at x1 g1 ⊢
  have go : ∀ u : Nat, u = n.natAbs → p46z5 Tryz.prog K (I n) (pt h.length 0) (.int .u64 (u : Int)) hA := by
    intro u hu
    rw [q46z5]
    have ew : IntKind.wrap .u32 (u : Int) = ((u % 4294967296 : Nat) : Int) := by rw [wrapU32e]; omega
    simp only [bin_lss, OP_some, conv_int, shr32, ew]
    rw [wrapU32 (n := ((u / 4294967296 : Nat) : Int)) (by omega) (by omega)]
    have mk : iMkSl 116 2 [.int .u32 0] hA [(0, 1, .int .u32 ((u % 4294967296 : Nat) : Int)), (1, 1, .int .u32 ((u / 4294967296 : Nat) : Int))] = some (sl 116 hA.length 0 2, hd hA [u % 4294967296, u / 4294967296]) := rfl
    simp only [mk, OH_some]
    have hl : Lim 4294967296 [u % 4294967296, u / 4294967296] := by
      intro x hx
      simp at hx
      rcases hx with rfl | rfl <;> omega
    refine C83 (hd_DS hA [u % 4294967296, u / 4294967296]) hl (by simp) ?_
    intro v hv
    have hval : val 4294967296 [u % 4294967296, u / 4294967296] = n.natAbs := by simp [val]; omega
    rw [hval] at hv
    refine C82 hv ?_
    intro h' x'
    have xx := (hd_EX hA [u % 4294967296, u / 4294967296]).trans x'
    have g' := xx.get g1
    refine fin2 g' (hk _ _ ((x1.trans xx).set (Nat.le_refl _) _) ⟨v, ?_, (hv.mono x').setB g' _⟩)
    have : (decide (n < 0) && decide (0 < n.natAbs)) = decide (n < 0) := by
      by_cases hn : n < 0
      · simp [hn]; omega
      · simp [hn]
    rw [this]
  simp only [conv_int, OP_some, bin_lss, IfP_dec]
  refine ⟨fun hn => ?_, fun hn => ?_⟩
  · have e3 : iUn .neg (.int .u64 (IntKind.wrap .u64 n)) = some (.int .u64 ((n.natAbs : Nat) : Int)) := by
      have e : ∀ m : Int, IntKind.wrap .u64 m = m % 18446744073709551616 := fun m => by simp [IntKind.wrap, IntKind.bits, IntKind.signed]
      simp only [iUn]
      rw [e, e]
      congr 2
      omega
    simp only [e3, OP_some]
    exact go _ rfl
  · have : IntKind.wrap .u64 n = ((n.natAbs : Nat) : Int) := by rw [wrapU64 (by omega) (by omega)]; omega
    rw [this]
    exact go _ rfl

theorem C48 {va vb : Value} {a b : Int} {h : Heap} {K : Value → Heap → Prop} (ha : IntV h va a) (hb : IntV h vb b) (la : a.natAbs < bigW) (lb : b.natAbs < bigW) (hk : ∀ r h', EX h h' → IntV h' r (a + b) → K r h') : CallP Tryz.prog 48 [va, vb] h K := by
  obtain ⟨v, rfl, hv⟩ := ha
  obtain ⟨w, rfl, hw⟩ := hb
  refine f48 ?_
  unfold T48
  refine box2 ?_
  intro h3 x
  have hv3 := hv.mono x.ex
  have hw3 := hw.mono x.ex
  simp only [fadr_pt, Nat.add_zero, Nat.zero_add, OP_some, x.a0, x.a1, x.b0, x.b1, eqb_bool, Bool.false_eq_true, if_false]
  refine IfP_of (fun he => ?_) fun hne => ?_
  · have hs : decide (a < 0) = decide (b < 0) := by simpa using he
    have hs' : (a < 0 ↔ b < 0) := by simpa using hs
    simp only [true_and]
    refine C85 hv3 hw3 la lb ?_
    intro u h4 x4 hu
    refine ⟨⟨EX.load x4 x.a0, trivial⟩, ?_⟩
    refine C82 hu ?_
    intro h5 x5
    have g' := (x4.trans x5).get x.out
    refine fin2 g' (hk _ _ (((x.ex.trans x4).trans x5).set (by omega) _) ⟨u, ?_, ?_⟩)
    · have : (decide (a < 0) && decide (0 < a.natAbs + b.natAbs)) = decide (a + b < 0) := by
        by_cases h0 : a < 0
        · rw [decide_eq_true h0, decide_eq_true (show 0 < a.natAbs + b.natAbs by omega), decide_eq_true (show a + b < 0 by omega)]; rfl
        · rw [decide_eq_false h0, decide_eq_false (show ¬ a + b < 0 by omega)]; rfl
      rw [this]
    · have : (a + b).natAbs = a.natAbs + b.natAbs := by omega
      rw [this]
      exact (hu.mono x5).setB g' _
  · have hs : decide (a < 0) ≠ decide (b < 0) := by simpa using hne
    have hs' : ¬ (a < 0 ↔ b < 0) := fun h => hs (decide_eq_decide.2 h)
    refine C86 hv3 hw3 la lb ?_
    simp only [bin_geq, OP_some, IfP_dec]
    refine ⟨fun hge => ?_, fun hlt => ?_⟩
    · have hle : b.natAbs ≤ a.natAbs := by
        apply Classical.byContradiction
        intro hc
        unfold sgn at hge
        rw [if_pos (by omega)] at hge
        omega
      simp only [x.a0, x.a1, x.b1, OP_some, true_and]
      refine C87 hv3 hw3 la hle ?_
      intro u h4 x4 hu
      refine ⟨⟨EX.load x4 x.a0, trivial⟩, ?_⟩
      refine C82 hu ?_
      intro h5 x5
      have g' := (x4.trans x5).get x.out
      refine fin2 g' (hk _ _ (((x.ex.trans x4).trans x5).set (by omega) _) ⟨u, ?_, ?_⟩)
      · have : (decide (a < 0) && decide (0 < a.natAbs - b.natAbs)) = decide (a + b < 0) := by
          by_cases h0 : a < 0
          · by_cases h6 : 0 < a.natAbs - b.natAbs
            · rw [decide_eq_true h0, decide_eq_true h6, decide_eq_true (show a + b < 0 by omega)]; rfl
            · rw [decide_eq_true h0, decide_eq_false h6, decide_eq_false (show ¬ a + b < 0 by omega)]; rfl
          · rw [decide_eq_false h0, decide_eq_false (show ¬ a + b < 0 by omega)]; rfl
        rw [this]
      · have : (a + b).natAbs = a.natAbs - b.natAbs := by omega
        rw [this]
        exact (hu.mono x5).setB g' _
    · have hle : a.natAbs ≤ b.natAbs := by
        apply Classical.byContradiction
        intro hc
        unfold sgn at hlt
        rw [if_neg (by omega), if_pos (by omega)] at hlt
        omega
      simp only [x.b0, x.a1, x.b1, OP_some, true_and]
      refine C87 hw3 hv3 lb hle ?_
      intro u h4 x4 hu
      refine ⟨⟨EX.load x4 x.b0, trivial⟩, ?_⟩
      refine C82 hu ?_
      intro h5 x5
      have g' := (x4.trans x5).get x.out
      refine fin2 g' (hk _ _ (((x.ex.trans x4).trans x5).set (by omega) _) ⟨u, ?_, ?_⟩)
      · have : (decide (b < 0) && decide (0 < b.natAbs - a.natAbs)) = decide (a + b < 0) := by
          by_cases h0 : b < 0
          · by_cases h6 : 0 < b.natAbs - a.natAbs
            · rw [decide_eq_true h0, decide_eq_true h6, decide_eq_true (show a + b < 0 by omega)]; rfl
            · rw [decide_eq_true h0, decide_eq_false h6, decide_eq_false (show ¬ a + b < 0 by omega)]; rfl
          · rw [decide_eq_false h0, decide_eq_false (show ¬ a + b < 0 by omega)]; rfl
        rw [this]
      · have : (a + b).natAbs = b.natAbs - a.natAbs := by omega
        rw [this]
        exact (hu.mono x5).setB g' _

end Go.Proofs.YthplaillblmgfaaGreatDoor


namespace Go.Proofs.YthplaillblmgfaaGreatDoor
open Go.Sim

theorem shl32 {r : Nat} (hr : r < 4294967296) : iBin .shl (.int .u64 (r : Int)) (.int .u64 32) = some (.int .u64 ((r * 4294967296 : Nat) : Int)) := by
  simp only [iBin, iShift]
  rw [if_neg (by omega)]
  have : (min (32 : Int).toNat IntKind.u64.bits) = 32 := rfl
  rw [this]
  have e2 : (2 : Int) ^ 32 = 4294967296 := by decide
  rw [e2, wrapU64 (by omega) (by omega)]
  congr 2

theorem or64 {r x : Nat} (hr : r < 4294967296) (hx : x < 4294967296) : iBin .or (.int .u64 ((r * 4294967296 : Nat) : Int)) (.int .u64 (x : Int)) = some (.int .u64 ((r * 4294967296 + x : Nat) : Int)) := by
  have e : (BitVec.ofInt IntKind.u64.bits ((r * 4294967296 : Nat) : Int) ||| BitVec.ofInt IntKind.u64.bits (x : Int)).toNat = r * 4294967296 + x := by
    show (BitVec.ofInt 64 ((r * 4294967296 : Nat) : Int) ||| BitVec.ofInt 64 (x : Int)).toNat = _
    rw [BitVec.ofInt_natCast, BitVec.ofInt_natCast, BitVec.toNat_or, BitVec.toNat_ofNat, BitVec.toNat_ofNat, Nat.mod_eq_of_lt (by omega), Nat.mod_eq_of_lt (by omega)]
    have := Nat.two_pow_add_eq_or_of_lt (i := 32) (b := x) (by omega) r
    rw [Nat.mul_comm r]
    exact this.symm
  simp only [iBin, iInt, if_true]
  rw [e, wrapU64 (by omega) (by omega)]

theorem quo64 {a b : Nat} (hb : b ≠ 0) (ha : a < 18446744073709551616) : iBin .quo (.int .u64 (a : Int)) (.int .u64 (b : Int)) = some (.int .u64 ((a / b : Nat) : Int)) := by
  have h : ¬ ((b : Int) = 0) := by omega
  have h2 : a / b ≤ a := Nat.div_le_self _ _
  simp only [iBin, iInt, if_true, if_neg h]
  have e : (a : Int).tdiv (b : Int) = ((a / b : Nat) : Int) := rfl
  rw [e]
  generalize a / b = q at *
  rw [wrapU64 (by omega) (by omega)]

theorem C116 {va : Value} {a w : Nat} {h : Heap} {K : Value → Heap → Prop} (ha : MagV h va a) (la : a < bigW) (w0 : 0 < w) (wW : w < 4294967296) (hk : ∀ v h', EX h h' → MagV h' v (a / w) → K (.tuple #[v, .int .u32 ((a % w : Nat) : Int)]) h') :
    CallP Tryz.prog 116 [va, .int .u32 (w : Int)] h K := by
  obtain ⟨xs, hx, cx, rfl⟩ := ha
  have l1 := canW_len cx la
  have hW : (0 : Nat) < 4294967296 := by decide
  refine f116 ?_
  have e1 : IntKind.wrap .i64 ((xs.length : Int) - 1) = (xs.length : Int) - 1 := by rw [wrap64 (by omega) (by omega)]
  simp only [T116, hx.len, OP_some, make_hd (show xs.length ≤ 1000 by omega), OH_some, bin_sub, e1]
  refine loopL (σ := Nat × Nat × List Nat) (fun p => [.int .u64 (p.1 : Int), I ((p.2.1 : Int) - 1)]) (fun p => hd h p.2.2)
    (fun p => p.2.1 ≤ xs.length ∧ p.1 < w ∧ p.2.2.length = xs.length ∧ Lim 4294967296 p.2.2 ∧ val 4294967296 (xs.drop p.2.1) = w * val 4294967296 (p.2.2.drop p.2.1) + p.1) (fun p => p.2.1)
    (0, xs.length, List.replicate xs.length 0) rfl rfl ⟨Nat.le_refl _, w0, by simp, Lim.zeros hW _, by simp [val]⟩ ?_
  rintro ⟨r, i, os⟩ ⟨hi, hr, hol, hlim, hval⟩ L hL
  simp only at hi hr hol hlim hval hL ⊢
  rw [q116z7]
  have hx' := hx.mono (hd_EX h os)
  simp only [bin_geq, OP_some, IfP_dec]
  refine ⟨fun hge => ?_, fun hlt => ?_⟩
  · obtain ⟨j, rfl⟩ : ∃ j, i = j + 1 := ⟨i - 1, by omega⟩
    have ej : (((j + 1 : Nat) : Int) - 1) = (j : Int) := by omega
    rw [ej]
    obtain ⟨ia, a1, a2⟩ := hx'.get (j := j) (by omega)
    have hxl : xs[j]'(by omega) < 4294967296 := cx.1 _ (List.getElem_mem _)
    have hdx : xs.drop j = xs[j]'(by omega) :: xs.drop (j + 1) := List.drop_eq_getElem_cons (by omega)
    generalize xs[j]'(by omega) = x at a2 hxl hdx
    simp only [shl32 (show r < 4294967296 by omega), OP_some, a1, a2, conv_int]
    rw [wrapU64 (n := (x : Int)) (by omega) (by omega)]
    simp only [or64 (show r < 4294967296 by omega) hxl, OP_some, conv_int]
    rw [wrapU64 (n := (w : Int)) (by omega) (by omega)]
    have ht : r * 4294967296 + x < w * 4294967296 := by omega
    have hq : (r * 4294967296 + x) / w < 4294967296 := (Nat.div_lt_iff_lt_mul w0).2 (by omega)
    have hm := Nat.mod_lt (r * 4294967296 + x) w0
    have hdm := Nat.div_add_mod (r * 4294967296 + x) w
    rw [quo64 (by omega) (by omega), rem_nat _ _ _ (by omega)]
    generalize (r * 4294967296 + x) / w = q at *
    generalize (r * 4294967296 + x) % w = m at *
    simp only [OP_some, conv_int]
    rw [wrapU32 (n := (q : Int)) (by omega) (by omega), adr_sl (show j < xs.length by omega)]
    simp only [OP_some]
    rw [hd_store _ (by omega)]
    simp only [OH_some, bin_sub, OP_some, true_and]
    rw [wrap64 (n := (j : Int) - 1) (by omega) (by omega)]
    refine hL (m, j, os.set j q) ⟨by show j ≤ xs.length; omega, hm, by show (os.set _ _).length = _; rw [List.length_set]; exact hol, hlim.set hq _, ?_⟩ (by show j < j + 1; omega)
    show val 4294967296 (xs.drop j) = w * val 4294967296 ((os.set j q).drop j) + m
    have hdo : (os.set j q).drop j = q :: os.drop (j + 1) := by
      rw [List.drop_eq_getElem_cons (by rw [List.length_set]; omega), List.getElem_set_self, List.drop_set_of_lt (by omega)]
    rw [hdx, hdo]
    simp only [val]
    rw [hval]
    generalize val 4294967296 (os.drop (j + 1)) = Q at *
    generalize (4294967296 : Nat) = W at *
    clear hL hx hx' a1 a2 hval
    grind
  · have : i = 0 := by omega
    subst this
    rw [List.drop_zero, List.drop_zero] at hval
    rw [q116z13]
    have e : sl 116 h.length 0 xs.length = sl 116 h.length 0 os.length := by rw [hol]
    rw [e]
    refine C83 (hd_DS h _) hlim (by omega) ?_
    intro v' hm
    simp only [conv_int, OP_some]
    rw [wrapU32 (n := (r : Int)) (by omega) (by omega)]
    have h1 : val 4294967296 xs / w = val 4294967296 os := by
      rw [hval, Nat.mul_add_div w0, Nat.div_eq_of_lt hr, Nat.add_zero]
    have h2 : val 4294967296 xs % w = r := by
      rw [hval, Nat.mul_add_mod, Nat.mod_eq_of_lt hr]
    have := hk v' _ (hd_EX h os) (by rw [h1]; exact hm)
    rw [h2] at this
    exact this

theorem C117 {h : Heap} {id : Nat} {xs : List UInt8} {K : Value → Heap → Prop} (hget : h[id]? = some (.arr 5 (xs.map cv))) (hn : xs.length ≤ 100000) (hk : K (.tuple #[]) (hb h id xs.reverse)) : CallP Tryz.prog 117 [sl 5 id 0 xs.length] h K := by
  have hid := (List.getElem?_eq_some_iff.1 hget).1
  have e0 : h = hb h id xs := by
    apply List.ext_getElem?
    intro j
    by_cases hj : id = j
    · subst hj; rw [hb_get hid, hget]
    · rw [List.getElem?_set_ne hj]
  refine f117 ?_
  have e1 : iLenSl (sl 5 id 0 xs.length) = some (I xs.length) := rfl
  have e2 : IntKind.wrap .i64 ((xs.length : Int) - 1) = (xs.length : Int) - 1 := by rw [wrap64 (by omega) (by omega)]
  simp only [T117, e1, OP_some, bin_sub, e2]
  refine loopL (σ := Nat × List UInt8) (fun p => [I p.1, I ((xs.length : Int) - 1 - p.1)]) (fun p => hb h id p.2) (fun p => p.1 ≤ xs.length ∧ p.2.length = xs.length ∧ ∀ k (hk : k < p.2.length) (hk2 : k < xs.length), p.2[k] = if k < p.1 ∨ xs.length - p.1 ≤ k then xs[xs.length - 1 - k]'(by omega) else xs[k]) (fun p => xs.length - p.1)
    (0, xs) (by simp) e0.symm ⟨by simp, rfl, fun k h1 h2 => by simp; intro h3; omega⟩ ?_
  rintro ⟨i, ys⟩ ⟨hi, hl, hy⟩ L hL
  simp only at hi hl hy hL ⊢
  rw [q117z3]
  simp only [bin_lss, OP_some, IfP_dec]
  refine ⟨fun hlt => ?_, fun hge => ?_⟩
  · obtain ⟨j, hj⟩ : ∃ j : Nat, (xs.length : Int) - 1 - i = j := ⟨xs.length - 1 - i, by omega⟩
    rw [hj]
    have hjn : j = xs.length - 1 - i := by omega
    have a1 := adr_sl (id := id) (e := 5) (n := xs.length) (j := j) (by omega)
    have a2 := adr_sl (id := id) (e := 5) (n := xs.length) (j := i) (by omega)
    have g1 : ys[j]? = some (ys[j]'(by omega)) := List.getElem?_eq_getElem (by omega)
    have g2 : ys[i]? = some (ys[i]'(by omega)) := List.getElem?_eq_getElem (by omega)
    simp only [a1, a2, OP_some, hb_load hid g1, hb_load hid g2, true_and]
    rw [hb_store hid _ (by omega)]
    simp only [OH_some]
    rw [hb_store hid _ (by rw [List.length_set]; omega)]
    simp only [OH_some, bin_add, bin_sub, OP_some, inc i (by omega), true_and]
    have ej : IntKind.wrap .i64 ((j : Int) - 1) = (xs.length : Int) - 1 - ((i + 1 : Nat) : Int) := by rw [wrap64 (by omega) (by omega)]; omega
    rw [ej]
    refine hL (i + 1, (ys.set i (ys[j]'(by omega))).set j (ys[i]'(by omega))) ⟨by show i + 1 ≤ xs.length; omega, by simp [hl], ?_⟩ (by show xs.length - (i + 1) < xs.length - i; omega)
    intro k hk1 hk2
    show ((ys.set i (ys[j]'(by omega))).set j (ys[i]'(by omega)))[k] = if k < i + 1 ∨ xs.length - (i + 1) ≤ k then xs[xs.length - 1 - k]'(by omega) else xs[k]
    have hyi := hy i (by omega) (by omega)
    have hyj := hy j (by omega) (by omega)
    rw [if_neg (by omega)] at hyi hyj
    by_cases hkj : j = k
    · subst hkj
      rw [List.getElem_set_self, if_pos (by omega), hyi]
      congr 1; omega
    · rw [List.getElem_set_ne hkj]
      by_cases hki : i = k
      · subst hki
        rw [List.getElem_set_self, if_pos (by omega), hyj]
        congr 1
      · rw [List.getElem_set_ne hki, hy k (by omega) hk2]
        by_cases hc : k < i ∨ xs.length - i ≤ k
        · rw [if_pos hc, if_pos (by omega)]
        · rw [if_neg hc, if_neg (by omega)]
  · have : ys = xs.reverse := by
      apply List.ext_getElem (by simp [hl])
      intro k h1 h2
      rw [hy k h1 (by omega), List.getElem_reverse]
      split
      · rfl
      · congr 1; omega
    rw [this]
    exact hk

/-! ### Decimal digits -/

def dig10 (n : Nat) : List Nat := if h : n = 0 then [] else n % 10 :: dig10 (n / 10)
termination_by n
decreasing_by omega

theorem dig10_canon (n : Nat) : Canon 10 (dig10 n) ∧ val 10 (dig10 n) = n := by
  induction n using Nat.strongRecOn with
  | ind n ih =>
    rw [dig10]
    by_cases h : n = 0
    · subst h; exact ⟨Canon.nil 10, rfl⟩
    · rw [dif_neg h]
      obtain ⟨h1, h2⟩ := ih (n / 10) (by omega)
      refine ⟨⟨?_, ?_⟩, ?_⟩
      · intro x hx
        rcases List.mem_cons.1 hx with rfl | hx
        · omega
        · exact h1.1 x hx
      · cases hd : dig10 (n / 10) with
        | nil =>
          rw [hd] at h2
          simp [val] at h2
          simp
          omega
        | cons y ys =>
          rw [List.getLast?_cons_cons, ← hd]
          exact h1.2
      · simp only [val, h2]; omega

/-- A digit's character. -/
def dch (d : Nat) : UInt8 := UInt8.ofNat (48 + d)
theorem dch_toNat {d : Nat} (h : d < 10) : (dch d).toNat = 48 + d := by simp [dch, UInt8.toNat_ofNat']; omega

/-- A number in decimal digits. -/
def decS (n : Nat) : List UInt8 := if n = 0 then [48] else ((dig10 n).map dch).reverse

def k1000 : Nat := 1000
theorem bigW_10 : bigW ≤ 10 ^ k1000 := by decide +kernel

end Go.Proofs.YthplaillblmgfaaGreatDoor


namespace Go.Proofs.YthplaillblmgfaaGreatDoor
open Go.Sim

theorem cvd {d : Nat} (h : d < 10) : (.int .u8 ((48 + d : Nat) : Int) : Value) = cv (dch d) := by rw [cv, dch_toNat h]

theorem pow10_pos (k : Nat) : 0 < 10 ^ k := Nat.pow_pos (by decide)

theorem len_of_pow {b n m : Nat} (hm : 0 < m) (h : 10 ^ b * m ≤ n) (hn : n < bigW) : b < 1000 := by
  have h1 : 10 ^ b ≤ 10 ^ b * m := Nat.le_mul_of_pos_right _ hm
  show b < k1000
  have h2 : 10 ^ b < 10 ^ k1000 := Nat.lt_of_le_of_lt (Nat.le_trans h1 h) (Nat.lt_of_lt_of_le hn bigW_10)
  exact (Nat.pow_lt_pow_iff_right (by decide)).1 h2

/-- One byte more: numbers stay as they are. -/
theorem app1M {h0 hx : Heap} {v z : Value} {x : UInt8} {bs : List UInt8} {K : Value → Heap → Prop} (o : OwnS h0.length hx 5 v (bs.map cv)) (hex : EX h0 hx) (hl : bs.length ≤ 100000)
    (hk : ∀ v' hx', EX h0 hx' → OwnS h0.length hx' 5 v' ((bs ++ [x]).map cv) → (∀ q n, MagV hx q n → MagV hx' q n) → K v' hx') :
    OH (iMkSl 5 1 [z] hx [(0, 1, cv x)]) fun a h2 => OH (iApp 5 1 1 h2 v a) K := by
  refine app1p o (by simp; omega) (by simp [maxLen]; omega) rfl rfl ?_
  intro hA hx' _ hlen hkeep hnew
  simp only [OH_some]
  refine hk _ _ ⟨by have := hex.1; omega, fun j hj => ?_⟩ (.inr ⟨hx.length + 1, by have := hex.1; omega, by simp, by simpa using hnew⟩) ?_
  · rw [hkeep j (by have := hex.1; omega) fun n hv => ?_]
    · exact hex.2 j hj
    · have := (o.lt hv).1; omega
  · rintro q n ⟨xs, d, c, hv⟩
    refine ⟨xs, ?_, c, hv⟩
    rcases d with d | ⟨i, h1, h2⟩
    · exact .inl d
    · refine .inr ⟨i, h1, ?_⟩
      rcases h2 with h2 | ⟨r, h2⟩
      · exact .inl h2
      · cases xs with
        | nil => exact .inl rfl
        | cons y ys =>
          right
          refine ⟨r, ?_⟩
          have hil : i < hx.length := by
            apply Classical.byContradiction
            intro hc
            unfold objCells at h2
            rw [List.getElem?_eq_none (by omega)] at h2
            simp at h2
          unfold objCells at h2 ⊢
          rw [hkeep i hil fun n hvv => ?_]
          · exact h2
          · have hg := (o.lt hvv).2.2
            rw [hg] at h2
            cases bs with
            | nil => simp at h2
            | cons b bs => simp [cv] at h2

theorem C88 {va : Value} {n : Nat} {h : Heap} {K : Value → Heap → Prop} (ha : MagV h va n) (la : n < bigW) (hk : ∀ h', EX h h' → K (S (decS n)) h') : CallP Tryz.prog 88 [va] h K := by
  refine f88 ?_
  obtain ⟨l0, e0, e1⟩ := ha.len0
  simp only [T88, e0, OP_some, bin_eql, IfP_dec]
  refine ⟨fun hz => ?_, fun hnz => ?_⟩
  · have : n = 0 := by omega
    subst this
    exact hk h (EX.refl h)
  · have hn0 : 0 < n := by omega
    refine loopL (σ := Value × Nat × Value × List Nat × Heap) (fun p => [p.1, p.2.2.1]) (fun p => p.2.2.2.2)
      (fun p => EX h p.2.2.2.2 ∧ MagV p.2.2.2.2 p.1 p.2.1 ∧ OwnS h.length p.2.2.2.2 5 p.2.2.1 ((p.2.2.2.1.map dch).map cv) ∧ Lim 10 p.2.2.2.1 ∧ val 10 p.2.2.2.1 + 10 ^ p.2.2.2.1.length * p.2.1 = n ∧ (p.2.1 = 0 → Canon 10 p.2.2.2.1)) (fun p => p.2.1)
      (va, n, .slice none 0 0, [], h) rfl rfl ⟨EX.refl h, ha, .inl ⟨rfl, rfl⟩, fun x hx => by simp at hx, by simp [val], fun h0 => by have h0 : n = 0 := h0; omega⟩ ?_
    rintro ⟨v, m, bv, b, hx⟩ ⟨hex, hm, hown, hlim, hval, hcan⟩ L hL
    simp only at hex hm hown hlim hval hcan hL ⊢
    rw [q88z8]
    obtain ⟨l, f0, f1⟩ := hm.len0
    simp only [f0, OP_some, bin_gtr, IfP_dec]
    refine ⟨fun hlt => ?_, fun hge => ?_⟩
    · have hm0 : 0 < m := by omega
      have hmb : m < bigW := by
        refine Nat.lt_of_le_of_lt ?_ la
        have : m ≤ 10 ^ b.length * m := Nat.le_mul_of_pos_left _ (pow10_pos _)
        omega
      have hbl := len_of_pow (b := b.length) hm0 (by omega) la
      refine C116 hm hmb (w := 1000000000) (by decide) (by decide) ?_
      intro q h1 x1 hq
      simp only [ext_tuple, pair0, pair1, OP_some]
      have hown1 : OwnS h.length h1 5 bv ((b.map dch).map cv) := hown.keep fun d k hv hd => by
        have := (hown.lt hv).2.1
        exact x1.2 d this
      have hqlt : m / 1000000000 < m := Nat.div_lt_self hm0 (by decide)
      have hdm := Nat.div_add_mod m 1000000000
      have hr9 := Nat.mod_lt m (show 1000000000 > 0 by decide)
      generalize m / 1000000000 = qn at *
      generalize m % 1000000000 = r0 at *
      have hqq := hq
      refine loopL (σ := Value × List Nat × Nat × Nat × Heap) (fun p => [p.1, .int .u32 (p.2.2.1 : Int), I p.2.2.2.1]) (fun p => p.2.2.2.2)
        (fun p => EX h p.2.2.2.2 ∧ MagV p.2.2.2.2 q qn ∧ OwnS h.length p.2.2.2.2 5 p.1 ((p.2.1.map dch).map cv) ∧ Lim 10 p.2.1 ∧ p.2.2.2.1 ≤ 9 ∧ p.2.2.1 < 10 ^ (9 - p.2.2.2.1) ∧ p.2.1.length ≤ b.length + p.2.2.2.1 ∧ val 10 p.2.1 + 10 ^ p.2.1.length * (p.2.2.1 + 10 ^ (9 - p.2.2.2.1) * qn) = n ∧ (qn = 0 → p.2.2.1 = 0 → Canon 10 p.2.1)) (fun p => 9 - p.2.2.2.1)
        (bv, b, r0, 0, h1) rfl rfl ⟨hex.trans x1, hq, hown1, hlim, by simp, by simpa using hr9, by simp, ?_, ?_⟩ ?_
      · show val 10 b + 10 ^ b.length * (r0 + 10 ^ (9 - 0) * qn) = n
        have : r0 + 10 ^ (9 - 0) * qn = m := by
          show r0 + 1000000000 * qn = m
          omega
        rw [this]; exact hval
      · intro h1 h2
        have h1 : qn = 0 := h1
        have h2 : r0 = 0 := h2
        subst h1; subst h2
        omega
      rintro ⟨cv1, c, r, i, hy⟩ ⟨hey, hqy, howny, hlimc, hi, hr, hcl, hvalc, hcanc⟩ L2 hL2
      simp only at hey hqy howny hlimc hi hr hcl hvalc hcanc hL2 ⊢
      rw [q88z16]
      -- leaving
      have stop : r = 0 → (i = 9 ∨ qn = 0) → p88z30 Tryz.prog K cv1 q L hy := by
        intro hr0 hor
        rw [q88z30]
        refine ⟨rfl, hL (q, qn, cv1, c, hy) ⟨hey, hqy, howny, hlimc, ?_, fun h0 => hcanc h0 hr0⟩ hqlt⟩
        show val 10 c + 10 ^ c.length * qn = n
        rw [hr0, Nat.zero_add] at hvalc
        rcases hor with h9 | h0
        · subst h9; simpa using hvalc
        · subst h0; simpa using hvalc
      simp only [bin_lss, OP_some]
      by_cases hi9 : i < 9
      · rw [decide_eq_true (show (i : Int) < 9 by omega)]
        simp only [q88z20, GdP_tt]
        obtain ⟨l2, g0, g1⟩ := hqy.len0
        simp only [g0, OP_some, bin_gtr]
        -- one digit more
        have step : (0 < qn ∨ 0 < r) → IfP (B true)
            (OP (iBin .rem (.int .u32 (r : Int)) (.int .u32 (10))) fun x33 =>
            OP (iBin .add (.int .u32 (48)) x33) fun x34 =>
            OP (iConv .u8 x34) fun x35 =>
            OH (iMkSl 5 1 [(.int .u8 (0))] hy [(0, 1, x35)]) fun x36 h_1 =>
            OH (iApp 5 1 1 h_1 cv1 x36) fun x37 h_2 =>
            OP (iBin .quo (.int .u32 (r : Int)) (.int .u32 (10))) fun x39 =>
            OP (iBin .add (I i) (.int .i64 (1))) fun x30 =>
            True ∧ L2 [x37, x39, x30] h_2)
            (p88z30 Tryz.prog K cv1 q L hy) := by
          intro hor
          have hrW : r < 4294967296 := Nat.lt_of_lt_of_le hr (Nat.le_trans (Nat.pow_le_pow_right (by decide) (show 9 - i ≤ 9 by omega)) (by decide))
          have ed : IntKind.wrap .u32 ((48 : Int) + ((r % 10 : Nat) : Int)) = ((48 + r % 10 : Nat) : Int) := by rw [wrapU32 (by omega) (by omega)]; omega
          have eq10 : iBin .quo (.int .u32 (r : Int)) (.int .u32 10) = some (.int .u32 ((r / 10 : Nat) : Int)) := by
            have h10 : ¬ ((10 : Int) = 0) := by omega
            simp only [iBin, iInt, if_true, if_neg h10]
            have e : (r : Int).tdiv 10 = ((r / 10 : Nat) : Int) := rfl
            rw [e, wrapU32 (by omega) (by omega)]
          simp only [IfP_true]
          rw [show (.int .u32 10 : Value) = .int .u32 ((10 : Nat) : Int) from rfl, rem_nat _ _ _ (by decide)]
          simp only [OP_some, bin_add, ed, conv_int]
          rw [wrapU8 (by omega) (by omega), cvd (show r % 10 < 10 by omega)]
          refine app1M (x := dch (r % 10)) howny hey (by simp; omega) ?_
          intro v' hx' hex' hown' hkeep
          rw [show (.int .u32 ((10 : Nat) : Int) : Value) = .int .u32 10 from rfl, eq10]
          simp only [OP_some, inc i (by omega), true_and]
          have hq' : MagV hx' q qn := hkeep q qn hqy
          refine hL2 (v', c ++ [r % 10], r / 10, i + 1, hx') ⟨hex', hq', by simpa using hown', hlimc.append (fun x hx => by simp at hx; omega), by show i + 1 ≤ 9; omega, ?_, by show (c ++ [r % 10]).length ≤ b.length + (i + 1); simp; omega, ?_, ?_⟩ (by show 9 - (i + 1) < 9 - i; omega)
          · show r / 10 < 10 ^ (9 - (i + 1))
            rw [show 9 - i = (9 - (i + 1)) + 1 by omega, Nat.pow_succ] at hr
            exact (Nat.div_lt_iff_lt_mul (by decide)).2 hr
          · show val 10 (c ++ [r % 10]) + 10 ^ (c ++ [r % 10]).length * (r / 10 + 10 ^ (9 - (i + 1)) * qn) = n
            rw [val_append, List.length_append, List.length_singleton, Nat.pow_succ]
            rw [show 9 - i = (9 - (i + 1)) + 1 by omega, Nat.pow_succ] at hvalc
            have hdm := Nat.div_add_mod r 10
            simp only [val, Nat.mul_zero, Nat.add_zero]
            generalize r / 10 = r1 at *
            generalize r % 10 = d at *
            generalize 10 ^ c.length = P at *
            generalize 10 ^ (9 - (i + 1)) = Q at *
            generalize val 10 c = V at *
            clear hL hL2 hr hcanc hval stop
            subst hdm
            grind
          · intro h1 h2
            have h2 : r / 10 = 0 := h2
            refine can_of_last (hlimc.append (fun x hx => by simp at hx; omega)) ?_
            intro _
            have : 0 < r := by rcases hor with h | h; omega; exact h
            simp
            omega
        by_cases hq0 : 0 < qn
        · rw [decide_eq_true (show (0 : Int) < (l2 : Int) by omega)]
          simp only [q88z22, GdP_tf, q88z24, iPick_t, OP_some, GdP_tt, q88z26]
          exact step (.inl hq0)
        · rw [decide_eq_false (show ¬ (0 : Int) < (l2 : Int) by omega)]
          simp only [q88z22, GdP_ff, bin_gtr, OP_some]
          by_cases hr0 : 0 < r
          · rw [decide_eq_true (show (0 : Int) < (r : Int) by omega)]
            simp only [q88z24, GdP_tt, iPick_f, OP_some, q88z26, iPick_t]
            exact step (.inr hr0)
          · rw [decide_eq_false (show ¬ (0 : Int) < (r : Int) by omega)]
            simp only [q88z24, GdP_tt, iPick_f, OP_some, q88z26, iPick_t, IfP_false]
            exact stop (by omega) (.inr (by omega))
      · have : i = 9 := by omega
        subst this
        rw [decide_eq_false (show ¬ ((9 : Nat) : Int) < 9 by omega)]
        simp only [q88z20, GdP_ft, q88z22, GdP_undef, q88z24, q88z26, iPick_f, OP_some, IfP_false]
        exact stop (by simpa using hr) (.inl rfl)
    · have hm0 : m = 0 := by omega
      subst hm0
      have hc := hcan rfl
      rw [Nat.mul_zero, Nat.add_zero] at hval
      have hb : b = dig10 n := Canon.unique (by decide) hc (dig10_canon n).1 (by rw [hval, (dig10_canon n).2])
      have hbne : b ≠ [] := by rintro rfl; simp [val] at hval; omega
      have hbl : b.length ≤ 2000 := by
        have h1 := Canon.low (by decide) hc hbne
        have h2 := len_of_pow (b := b.length - 1) (m := 1) (n := n) (by decide) (by omega) la
        omega
      rw [q88z31]
      obtain ⟨id, hid, hv, hg⟩ : ∃ id, h.length ≤ id ∧ bv = sl 5 id 0 (b.map dch).length ∧ hx[id]? = some (.arr 5 ((b.map dch).map cv)) := by
        rcases hown with ⟨_, h0⟩ | ⟨id, h1, h2, h3⟩
        · exact absurd (by simpa using h0) hbne
        · exact ⟨id, h1, by simpa using h2, h3⟩
      rw [hv]
      refine C117 hg (by simp; omega) ?_
      have hidl := (List.getElem?_eq_some_iff.1 hg).1
      have b2 : iB2s (Go.Proofs.YthplaillblmgfaaGreatDoor.hb hx id (b.map dch).reverse) (sl 5 id 0 (b.map dch).length) = some (S (b.map dch).reverse) := by
        refine b2s (b := 0) (e := 5) (l := (b.map dch).reverse) (.inr ⟨id, Nat.zero_le _, by simp, ?_⟩)
        rw [hb_get hidl]
      simp only [b2, OP_some]
      have : (b.map dch).reverse = decS n := by unfold decS; rw [if_neg (by omega), hb]
      rw [this]
      exact hk _ (hex.set hid _)

end Go.Proofs.YthplaillblmgfaaGreatDoor


namespace Go.Proofs.YthplaillblmgfaaGreatDoor
open Go.Sim
variable (P : Program) (K : VK)
/-! F13: pommel/pommelref01.Of -/
/-! F14: pommel/pommelref01.Whole -/
/-! F22: pommel/pommelref01.Int -/
noncomputable def c22z12 : ICode := .seq (.ops none [⟨some 16, .p (.fadr 1 (.tmp 3))⟩,⟨some 17, .l (.load false 1 (.tmp 16))⟩,gm 18 4,⟨some 19, .e (.mkSl 3 1 [(.int .i64 (0))] [(0, 1, (.tmp 18))])⟩,⟨some 20, .e (.app 3 1 8 (.tmp 17) (.tmp 19))⟩,⟨some 21, .p (.fadr 1 (.tmp 3))⟩,
 ⟨none, .e (.store 1 (.tmp 21) (.tmp 20))⟩])
 (.ops none [gm 22 0,⟨some 23, .p (.bin .quo (.tmp 22) (ci (10000)))⟩,gm 0 23])
noncomputable def c22z5 : ICode := .seq (.seq (.ops none [gm 8 0,⟨some 9, .p (.bin .neq (.tmp 8) (ci (0)))⟩])
 (.cond (.tmp 9) (.skip)
 (.exit 0)))
 (.block 1 (.seq (.ops none [gm 10 0,⟨some 11, .p (.bin .rem (.tmp 10) (ci (10000)))⟩,gm 4 11])
 (.seq (.seq (.ops none [gm 12 4,⟨some 13, .p (.bin .lss (.tmp 12) (ci (0)))⟩])
 (.cond (.tmp 13) (.ops none [gm 14 4,⟨some 15, .p (.un .neg (.tmp 14))⟩,gm 4 15])
 (.skip)))
 (.cut [0, 2, 3, 4] c22z12))))
noncomputable def c22z14 : ICode := .seq (.ops none [⟨some 24, .l (.load true 2 (.tmp 3))⟩,
 ⟨none, .e (.store 2 (.tmp 2) (.tmp 24))⟩])
 (.ret)
noncomputable def c22z3 : ICode := .cut [2, 3] c22z14
noncomputable def c22 : ICode := .seq (.ops none [⟨some 2, .e (.alloc 36 [(.bool false), (.slice none 0 0)])⟩])
 (.seq (.ops none [gm 5 0,⟨some 6, .p (.bin .lss (.tmp 5) (ci (0)))⟩,⟨some 7, .p (.build [(.bool false), (.slice none 0 0)] [(0, 1, (.tmp 6))])⟩,⟨some 3, .e (.alloc 36 [(.bool false), (.slice none 0 0)])⟩,
 ⟨none, .e (.store 2 (.tmp 3) (.tmp 7))⟩])
 (.seq (.block 0 (.loop [2, 3] [0] c22z5)) c22z3))
theorem k22 : compFn Tryz.prog 22 [[], [], [2, 3], [0], [], [], [], [], [0, 2, 3, 4], [], [2, 3], []] = some (25, c22, [.cell true 2 2]) := by kernel_rfl
def K22z0 (_P : Program) (K : VK) : Kont := bodyP [.cell true 2 2] K
def K22z3 : Kont := thenK (iwpP P c22z3 (K22z0 P K)) (K22z0 P K)
def K22z4 : Kont := inBlockK 0 (K22z3 P K)
def K22z5 (x2 z3 : Value) (L1 : LK) : Kont := thenK (fun f' h'' => (([2, 3] : List Nat).map f' : List Value) = [x2, z3] ∧ L1 (([0] : List Nat).map f') h'') (K22z4 P K)
def K22z8 (x2 z3 : Value) (L1 : LK) : Kont := inBlockK 1 (K22z5 P K x2 z3 L1)
def p22z5 (x2 z3 : Value) (L1 : LK) (xs : List Value) (h : Heap) : Prop := CutP (iwpP P c22z5 (K22z5 P K x2 z3 L1)) ([2, 3] ++ [0]) ([x2, z3] ++ xs) h
def p22z12 (v0 x2 z3 d4 : Value) (L1 : LK) (h : Heap) : Prop := CutP (iwpP P c22z12 (K22z8 P K x2 z3 L1)) [0, 2, 3, 4] [v0, x2, z3, d4] h
def p22z14 (x2 z3 : Value) (h : Heap) : Prop := CutP (iwpP P c22z14 (K22z0 P K)) [2, 3] [x2, z3] h
theorem q22z12 (v0 x2 z3 d4 : Value) (L1 : LK) (h : Heap) : p22z12 P K v0 x2 z3 d4 L1 h =
 (OP (iFadr 1 z3) fun x16 =>
 OP (iLoad false 1 h x16) fun x17 =>
 OH (iMkSl 3 1 [(.int .i64 (0))] h [(0, 1, d4)]) fun x19 h_1 =>
 OH (iApp 3 1 8 h_1 x17 x19) fun x20 h_2 =>
 OP (iFadr 1 z3) fun x21 =>
 OH (oStore 1 h_2 x21 x20) fun _ h_3 =>
 OP (iBin .quo v0 (.int .i64 (10000))) fun x23 =>
 ([x2, z3] : List Value) = [x2, z3] ∧ L1 [x23] h_3) := (CutP_def _ _ _ _).trans (by kernel_rfl)
theorem q22z5 (x2 z3 : Value) (L1 : LK) (v0 : Value) (h : Heap) : p22z5 P K x2 z3 L1 [v0] h =
 (OP (iBin .neq v0 (.int .i64 (0))) fun x9 =>
 IfP x9
 (OP (iBin .rem v0 (.int .i64 (10000))) fun x11 =>
 OP (iBin .lss x11 (.int .i64 (0))) fun x13 =>
 IfP x13
 (OP (iUn .neg x11) fun x15 =>
 p22z12 P K v0 x2 z3 x15 L1 h)
 (p22z12 P K v0 x2 z3 x11 L1 h))
 (p22z14 P K x2 z3 h)) := (CutP_def _ _ _ _).trans (by kernel_rfl)
theorem q22z14 (x2 z3 : Value) (h : Heap) : p22z14 P K x2 z3 h =
 (OP (iLoad true 2 h z3) fun x24 =>
 OH (oStore 2 h x2 x24) fun _ h_1 =>
 OP (iLoad true 2 h_1 x2) fun r0 =>
 K r0 h_1) := (CutP_def _ _ _ _).trans (by kernel_rfl)
def T22 (v0 : Value) (h : Heap) : Prop :=
 OH (iAlloc 36 [(.bool false), (.slice none 0 0)] h) fun x2 h_1 =>
 OP (iBin .lss v0 (.int .i64 (0))) fun x6 =>
 OP (iBuild [(.bool false), (.slice none 0 0)] [(0, 1, x6)]) fun x7 =>
 OH (iAlloc 36 [(.bool false), (.slice none 0 0)] h_1) fun z3 h_2 =>
 OH (oStore 2 h_2 z3 x7) fun _ h_3 =>
 LoopP [v0] h_3 fun L1 xs hx =>
 p22z5 P K x2 z3 L1 xs hx
theorem e22 (v0 : Value) (h : Heap) : iwpP P c22 (bodyP [.cell true 2 2] K) (frame0 [v0]) h = T22 P K v0 h := by kernel_rfl
theorem f22 {K : VK} {v0 : Value} {h : Heap} (H : T22 Tryz.prog K v0 h) : CallP Tryz.prog 22 [v0] h K :=
 callP_intro k22 (Nat.le_of_ble_eq_true rfl) ((e22 Tryz.prog K v0 h).mpr H)
/-! F26: pommel/pommelref01.MulQ -/
/-! F51: pommel/pommelref01.Parse -/
/-! F52: pommel/pommelref01.Cmp -/
/-! F53: pommel/pommelref01.Mul -/
noncomputable def c53z20 : ICode := .ops none [⟨some 34, .p (.pick (.tmp 31) (.const (.bool true)) (.tmp 33))⟩]
noncomputable def c53z18 : ICode := .seq (.ops (some (31, false)) [gm 32 7,⟨some 33, .p (.bin .gtr (.tmp 32) (ci (0)))⟩])
 (.cut [2, 3, 4, 5, 6, 7, 8, 31, 33] c53z20)
noncomputable def c53z16 : ICode := .cond (.tmp 34) (.skip)
 (.exit 2)
noncomputable def c53z26 : ICode := .ops none [gm 63 5,gm 64 6,gm 65 8,⟨some 66, .p (.bin .add (.tmp 64) (.tmp 65))⟩,gm 67 9,⟨some 68, .p (.bin .rem (.tmp 67) (ci (10000)))⟩,gm 69 9,⟨some 70, .p (.bin .quo (.tmp 69) (ci (10000)))⟩,⟨some 71, .p (.adrSl 1 (.tmp 63) (.tmp 66))⟩,
 ⟨none, .e (.store 1 (.tmp 71) (.tmp 68))⟩,gm 7 70]
noncomputable def c53z27 : ICode := .ops none [gm 35 8,⟨some 36, .p (.bin .add (.tmp 35) (ci (1)))⟩,gm 8 36]
noncomputable def c53z21 : ICode := .cut [2, 3, 4, 5, 6, 7, 8] c53z27
noncomputable def c53z15 : ICode := .seq (.block 3 (.seq (.ops none [gm 37 5,gm 38 6,gm 39 8,⟨some 40, .p (.bin .add (.tmp 38) (.tmp 39))⟩,⟨some 41, .p (.adrSl 1 (.tmp 37) (.tmp 40))⟩,⟨some 42, .l (.load false 1 (.tmp 41))⟩,gm 43 7,⟨some 44, .p (.bin .add (.tmp 42) (.tmp 43))⟩,gm 9 44])
 (.seq (.seq (.ops none [gm 45 8,⟨some 46, .p (.fadr 1 (.tmp 3))⟩,⟨some 47, .l (.load false 1 (.tmp 46))⟩,⟨some 48, .p (.lenSl (.tmp 47))⟩,⟨some 49, .p (.bin .lss (.tmp 45) (.tmp 48))⟩])
 (.cond (.tmp 49) (.dops [(none, [gd 50 9 0,⟨some 51, .p (.fadr 1 (.tmp 2)), 0⟩,⟨some 52, .l (.load false 1 (.tmp 51)), 2⟩,gd 53 6 0,⟨some 54, .p (.adrSl 1 (.tmp 52) (.tmp 53)), 14⟩,⟨some 55, .l (.load false 1 (.tmp 54)), 30⟩,⟨some 56, .p (.fadr 1 (.tmp 3)), 0⟩,⟨some 57, .l (.load false 1 (.tmp 56)), 64⟩,gd 58 8 0,⟨some 59, .p (.adrSl 1 (.tmp 57) (.tmp 58)), 448⟩,⟨some 60, .l (.load false 1 (.tmp 59)), 960⟩,⟨some 61, .p (.bin .mul (.tmp 55) (.tmp 60)), 2046⟩,⟨some 62, .p (.bin .add (.tmp 50) (.tmp 61)), 4095⟩,gd 9 62 8191])])
 (.skip)))
 (.cut [2, 3, 4, 5, 6, 8, 9] c53z26)))) c53z21
noncomputable def c53z14 : ICode := .seq (.seq (.seq (.ops none [gm 26 8,⟨some 27, .p (.fadr 1 (.tmp 3))⟩,⟨some 28, .l (.load false 1 (.tmp 27))⟩,⟨some 29, .p (.lenSl (.tmp 28))⟩,⟨some 30, .p (.bin .lss (.tmp 26) (.tmp 29))⟩,gm 31 30])
 (.cut [2, 3, 4, 5, 6, 7, 8, 31] c53z18)) c53z16) c53z15
noncomputable def c53z28 : ICode := .ops none [gm 24 6,⟨some 25, .p (.bin .add (.tmp 24) (ci (1)))⟩,gm 6 25]
noncomputable def c53z9 : ICode := .cut [2, 3, 4, 5, 6] c53z28
noncomputable def c53z6 : ICode := .seq (.seq (.ops none [gm 19 6,⟨some 20, .p (.fadr 1 (.tmp 2))⟩,⟨some 21, .l (.load false 1 (.tmp 20))⟩,⟨some 22, .p (.lenSl (.tmp 21))⟩,⟨some 23, .p (.bin .lss (.tmp 19) (.tmp 22))⟩])
 (.cond (.tmp 23) (.skip)
 (.exit 0)))
 (.seq (.block 1 (.seq (.ops none [⟨some 7, .p (.mv (ci (0)))⟩])
 (.seq (.ops none [⟨some 8, .p (.mv (ci (0)))⟩])
 (.block 2 (.loop [2, 3, 4, 5, 6] [7, 8] c53z14))))) c53z9)
noncomputable def c53z29 : ICode := .seq (.ops none [⟨some 72, .p (.fadr 0 (.tmp 2))⟩,⟨some 73, .l (.load false 1 (.tmp 72))⟩,⟨some 74, .p (.fadr 0 (.tmp 3))⟩,⟨some 75, .l (.load false 1 (.tmp 74))⟩,⟨some 76, .p (.eqb true (.tmp 73) (.tmp 75))⟩,gm 77 5,⟨some 78, .p (.build [(.bool false), (.slice none 0 0)] [(0, 1, (.tmp 76)), (1, 1, (.tmp 77))])⟩,⟨some 79, .call 95 [(.tmp 78)]⟩,
 ⟨none, .e (.store 2 (.tmp 4) (.tmp 79))⟩])
 (.ret)
noncomputable def c53z3 : ICode := .cut [2, 3, 4, 5] c53z29
noncomputable def c53 : ICode := .seq (.ops none [⟨some 2, .e (.box 36 (.tmp 0))⟩,⟨some 3, .e (.box 36 (.tmp 1))⟩,⟨some 4, .e (.alloc 36 [(.bool false), (.slice none 0 0)])⟩])
 (.seq (.ops none [⟨some 10, .p (.fadr 1 (.tmp 2))⟩,⟨some 11, .l (.load false 1 (.tmp 10))⟩,⟨some 12, .p (.lenSl (.tmp 11))⟩,⟨some 13, .p (.fadr 1 (.tmp 3))⟩,⟨some 14, .l (.load false 1 (.tmp 13))⟩,⟨some 15, .p (.lenSl (.tmp 14))⟩,⟨some 16, .p (.bin .add (.tmp 12) (.tmp 15))⟩,⟨some 17, .p (.bin .add (.tmp 16) (ci (1)))⟩,⟨some 18, .e (.make 3 8 [(.int .i64 (0))] (.tmp 17) (.tmp 17))⟩,gm 5 18])
 (.seq (.seq (.ops none [⟨some 6, .p (.mv (ci (0)))⟩])
 (.block 0 (.loop [2, 3, 4, 5] [6] c53z6))) c53z3))
theorem k53 : compFn Tryz.prog 53 [[], [], [], [2, 3, 4, 5], [6], [], [], [], [], [2, 3, 4, 5, 6], [7, 8], [2, 3, 4, 5, 6, 7, 8, 31], [2, 3, 4, 5, 6, 7, 8, 31, 33], [], [], [], [], [2, 3, 4, 5, 6, 8, 9], [2, 3, 4, 5, 6, 7, 8], [2, 3, 4, 5, 6], [2, 3, 4, 5], []] = some (80, c53, [.cell true 2 4]) := by kernel_rfl
def K53z0 (_P : Program) (K : VK) : Kont := bodyP [.cell true 2 4] K
def K53z3 : Kont := thenK (iwpP P c53z3 (K53z0 P K)) (K53z0 P K)
def K53z5 : Kont := inBlockK 0 (K53z3 P K)
def K53z6 (a2 b3 x4 out5 : Value) (L1 : LK) : Kont := thenK (fun f' h'' => (([2, 3, 4, 5] : List Nat).map f' : List Value) = [a2, b3, x4, out5] ∧ L1 (([6] : List Nat).map f') h'') (K53z5 P K)
def K53z9 (a2 b3 x4 out5 : Value) (L1 : LK) : Kont := thenK (iwpP P c53z9 (K53z6 P K a2 b3 x4 out5 L1)) (K53z6 P K a2 b3 x4 out5 L1)
def K53z10 (a2 b3 x4 out5 : Value) (L1 : LK) : Kont := inBlockK 1 (K53z9 P K a2 b3 x4 out5 L1)
def K53z13 (a2 b3 x4 out5 : Value) (L1 : LK) : Kont := inBlockK 2 (K53z10 P K a2 b3 x4 out5 L1)
def K53z14 (a2 b3 x4 out5 i6 : Value) (L1 L2 : LK) : Kont := thenK (fun f' h'' => (([2, 3, 4, 5, 6] : List Nat).map f' : List Value) = [a2, b3, x4, out5, i6] ∧ L2 (([7, 8] : List Nat).map f') h'') (K53z13 P K a2 b3 x4 out5 L1)
def K53z15 (a2 b3 x4 out5 i6 : Value) (L1 L2 : LK) : Kont := thenK (iwpP P c53z15 (K53z14 P K a2 b3 x4 out5 i6 L1 L2)) (K53z14 P K a2 b3 x4 out5 i6 L1 L2)
def K53z16 (a2 b3 x4 out5 i6 : Value) (L1 L2 : LK) : Kont := thenK (iwpP P c53z16 (K53z15 P K a2 b3 x4 out5 i6 L1 L2)) (K53z15 P K a2 b3 x4 out5 i6 L1 L2)
def K53z21 (a2 b3 x4 out5 i6 : Value) (L1 L2 : LK) : Kont := thenK (iwpP P c53z21 (K53z14 P K a2 b3 x4 out5 i6 L1 L2)) (K53z14 P K a2 b3 x4 out5 i6 L1 L2)
def K53z22 (a2 b3 x4 out5 i6 : Value) (L1 L2 : LK) : Kont := inBlockK 3 (K53z21 P K a2 b3 x4 out5 i6 L1 L2)
def p53z6 (a2 b3 x4 out5 : Value) (L1 : LK) (xs : List Value) (h : Heap) : Prop := CutP (iwpP P c53z6 (K53z6 P K a2 b3 x4 out5 L1)) ([2, 3, 4, 5] ++ [6]) ([a2, b3, x4, out5] ++ xs) h
def p53z14 (a2 b3 x4 out5 i6 : Value) (L1 L2 : LK) (xs : List Value) (h : Heap) : Prop := CutP (iwpP P c53z14 (K53z14 P K a2 b3 x4 out5 i6 L1 L2)) ([2, 3, 4, 5, 6] ++ [7, 8]) ([a2, b3, x4, out5, i6] ++ xs) h
def p53z18 (a2 b3 x4 out5 i6 carry7 k8 x31 : Value) (L1 L2 : LK) (h : Heap) : Prop := CutP (iwpP P c53z18 (K53z16 P K a2 b3 x4 out5 i6 L1 L2)) [2, 3, 4, 5, 6, 7, 8, 31] [a2, b3, x4, out5, i6, carry7, k8, x31] h
def p53z20 (a2 b3 x4 out5 i6 carry7 k8 x31 x33 : Value) (L1 L2 : LK) (h : Heap) : Prop := CutP (iwpP P c53z20 (K53z16 P K a2 b3 x4 out5 i6 L1 L2)) [2, 3, 4, 5, 6, 7, 8, 31, 33] [a2, b3, x4, out5, i6, carry7, k8, x31, x33] h
def p53z26 (a2 b3 x4 out5 i6 k8 s9 : Value) (L1 L2 : LK) (h : Heap) : Prop := CutP (iwpP P c53z26 (K53z22 P K a2 b3 x4 out5 i6 L1 L2)) [2, 3, 4, 5, 6, 8, 9] [a2, b3, x4, out5, i6, k8, s9] h
def p53z27 (a2 b3 x4 out5 i6 carry7 k8 : Value) (L1 L2 : LK) (h : Heap) : Prop := CutP (iwpP P c53z27 (K53z14 P K a2 b3 x4 out5 i6 L1 L2)) [2, 3, 4, 5, 6, 7, 8] [a2, b3, x4, out5, i6, carry7, k8] h
def p53z28 (a2 b3 x4 out5 i6 : Value) (L1 : LK) (h : Heap) : Prop := CutP (iwpP P c53z28 (K53z6 P K a2 b3 x4 out5 L1)) [2, 3, 4, 5, 6] [a2, b3, x4, out5, i6] h
def p53z29 (a2 b3 x4 out5 : Value) (h : Heap) : Prop := CutP (iwpP P c53z29 (K53z0 P K)) [2, 3, 4, 5] [a2, b3, x4, out5] h
theorem q53z20 (a2 b3 x4 out5 i6 carry7 k8 x31 x33 : Value) (L1 L2 : LK) (h : Heap) : p53z20 P K a2 b3 x4 out5 i6 carry7 k8 x31 x33 L1 L2 h =
 (OP (iPick x31 (.bool true) x33) fun x34 =>
 IfP x34
 (OP (iBin .add i6 k8) fun x40 =>
 OP (iAdrSl 1 out5 x40) fun x41 =>
 OP (iLoad false 1 h x41) fun x42 =>
 OP (iBin .add x42 carry7) fun x44 =>
 OP (iFadr 1 b3) fun x46 =>
 OP (iLoad false 1 h x46) fun x47 =>
 OP (iLenSl x47) fun x48 =>
 OP (iBin .lss k8 x48) fun x49 =>
 IfP x49
 (OP (iFadr 1 a2) fun x51 =>
 OP (iLoad false 1 h x51) fun x52 =>
 (True) ∧
 OP (iAdrSl 1 x52 i6) fun x54 =>
 OP (iLoad false 1 h x54) fun x55 =>
 (True) ∧
 OP (iFadr 1 b3) fun x56 =>
 OP (iLoad false 1 h x56) fun x57 =>
 (True) ∧
 OP (iAdrSl 1 x57 k8) fun x59 =>
 OP (iLoad false 1 h x59) fun x60 =>
 (True) ∧
 OP (iBin .mul x55 x60) fun x61 =>
 OP (iBin .add x44 x61) fun x62 =>
 p53z26 P K a2 b3 x4 out5 i6 k8 x62 L1 L2 h)
 (p53z26 P K a2 b3 x4 out5 i6 k8 x44 L1 L2 h))
 (p53z28 P K a2 b3 x4 out5 i6 L1 h)) := (CutP_def _ _ _ _).trans (by kernel_rfl)
theorem q53z18 (a2 b3 x4 out5 i6 carry7 k8 x31 : Value) (L1 L2 : LK) (h : Heap) : p53z18 P K a2 b3 x4 out5 i6 carry7 k8 x31 L1 L2 h =
 (GdP x31 false
 (OP (iBin .gtr carry7 (.int .i64 (0))) fun x33 =>
 p53z20 P K a2 b3 x4 out5 i6 carry7 k8 x31 x33 L1 L2 h)
 (p53z20 P K a2 b3 x4 out5 i6 carry7 k8 x31 undef L1 L2 h)) := (CutP_def _ _ _ _).trans (by kernel_rfl)
theorem q53z26 (a2 b3 x4 out5 i6 k8 s9 : Value) (L1 L2 : LK) (h : Heap) : p53z26 P K a2 b3 x4 out5 i6 k8 s9 L1 L2 h =
 (OP (iBin .add i6 k8) fun x66 =>
 OP (iBin .rem s9 (.int .i64 (10000))) fun x68 =>
 OP (iBin .quo s9 (.int .i64 (10000))) fun x70 =>
 OP (iAdrSl 1 out5 x66) fun x71 =>
 OH (oStore 1 h x71 x68) fun _ h_1 =>
 p53z27 P K a2 b3 x4 out5 i6 x70 k8 L1 L2 h_1) := (CutP_def _ _ _ _).trans (by kernel_rfl)
theorem q53z27 (a2 b3 x4 out5 i6 carry7 k8 : Value) (L1 L2 : LK) (h : Heap) : p53z27 P K a2 b3 x4 out5 i6 carry7 k8 L1 L2 h =
 (OP (iBin .add k8 (.int .i64 (1))) fun x36 =>
 ([a2, b3, x4, out5, i6] : List Value) = [a2, b3, x4, out5, i6] ∧ L2 [carry7, x36] h) := (CutP_def _ _ _ _).trans (by kernel_rfl)
theorem q53z14 (a2 b3 x4 out5 i6 : Value) (L1 L2 : LK) (carry7 k8 : Value) (h : Heap) : p53z14 P K a2 b3 x4 out5 i6 L1 L2 [carry7, k8] h =
 (OP (iFadr 1 b3) fun x27 =>
 OP (iLoad false 1 h x27) fun x28 =>
 OP (iLenSl x28) fun x29 =>
 OP (iBin .lss k8 x29) fun x30 =>
 p53z18 P K a2 b3 x4 out5 i6 carry7 k8 x30 L1 L2 h) := (CutP_def _ _ _ _).trans (by kernel_rfl)
theorem q53z28 (a2 b3 x4 out5 i6 : Value) (L1 : LK) (h : Heap) : p53z28 P K a2 b3 x4 out5 i6 L1 h =
 (OP (iBin .add i6 (.int .i64 (1))) fun x25 =>
 ([a2, b3, x4, out5] : List Value) = [a2, b3, x4, out5] ∧ L1 [x25] h) := (CutP_def _ _ _ _).trans (by kernel_rfl)
theorem q53z6 (a2 b3 x4 out5 : Value) (L1 : LK) (i6 : Value) (h : Heap) : p53z6 P K a2 b3 x4 out5 L1 [i6] h =
 (OP (iFadr 1 a2) fun x20 =>
 OP (iLoad false 1 h x20) fun x21 =>
 OP (iLenSl x21) fun x22 =>
 OP (iBin .lss i6 x22) fun x23 =>
 IfP x23
 (LoopP [(.int .i64 (0)), (.int .i64 (0))] h fun L2 xs hx =>
 p53z14 P K a2 b3 x4 out5 i6 L1 L2 xs hx)
 (p53z29 P K a2 b3 x4 out5 h)) := (CutP_def _ _ _ _).trans (by kernel_rfl)
theorem q53z29 (a2 b3 x4 out5 : Value) (h : Heap) : p53z29 P K a2 b3 x4 out5 h =
 (OP (iFadr 0 a2) fun x72 =>
 OP (iLoad false 1 h x72) fun x73 =>
 OP (iFadr 0 b3) fun x74 =>
 OP (iLoad false 1 h x74) fun x75 =>
 OP (iEqb true x73 x75) fun x76 =>
 OP (iBuild [(.bool false), (.slice none 0 0)] [(0, 1, x76), (1, 1, out5)]) fun x78 =>
 CallP P 95 [x78] h fun x79 h_1 =>
 OH (oStore 2 h_1 x4 x79) fun _ h_2 =>
 OP (iLoad true 2 h_2 x4) fun r0 =>
 K r0 h_2) := (CutP_def _ _ _ _).trans (by kernel_rfl)
def T53 (a0 b1 : Value) (h : Heap) : Prop :=
 OH (iBox 36 h a0) fun a2 h_1 =>
 OH (iBox 36 h_1 b1) fun b3 h_2 =>
 OH (iAlloc 36 [(.bool false), (.slice none 0 0)] h_2) fun x4 h_3 =>
 OP (iFadr 1 a2) fun x10 =>
 OP (iLoad false 1 h_3 x10) fun x11 =>
 OP (iLenSl x11) fun x12 =>
 OP (iFadr 1 b3) fun x13 =>
 OP (iLoad false 1 h_3 x13) fun x14 =>
 OP (iLenSl x14) fun x15 =>
 OP (iBin .add x12 x15) fun x16 =>
 OP (iBin .add x16 (.int .i64 (1))) fun x17 =>
 OH (iMake 3 8 [(.int .i64 (0))] h_3 x17 x17) fun x18 h_4 =>
 LoopP [(.int .i64 (0))] h_4 fun L1 xs hx =>
 p53z6 P K a2 b3 x4 x18 L1 xs hx
theorem e53 (a0 b1 : Value) (h : Heap) : iwpP P c53 (bodyP [.cell true 2 4] K) (frame0 [a0, b1]) h = T53 P K a0 b1 h := by kernel_rfl
theorem f53 {K : VK} {a0 b1 : Value} {h : Heap} (H : T53 Tryz.prog K a0 b1 h) : CallP Tryz.prog 53 [a0, b1] h K :=
 callP_intro k53 (Nat.le_of_ble_eq_true rfl) ((e53 Tryz.prog K a0 b1 h).mpr H)
/-! F62: pommel/pommelref01.Add -/
noncomputable def c62 : ICode := .seq (.ops none [⟨some 2, .e (.box 36 (.tmp 0))⟩,⟨some 3, .e (.box 36 (.tmp 1))⟩,⟨some 4, .e (.alloc 36 [(.bool false), (.slice none 0 0)])⟩])
 (.seq (.seq (.ops none [⟨some 5, .p (.fadr 0 (.tmp 2))⟩,⟨some 6, .l (.load false 1 (.tmp 5))⟩,⟨some 7, .p (.fadr 0 (.tmp 3))⟩,⟨some 8, .l (.load false 1 (.tmp 7))⟩,⟨some 9, .p (.eqb false (.tmp 6) (.tmp 8))⟩])
 (.cond (.tmp 9) (.seq (.dops [(none, [⟨some 10, .p (.fadr 0 (.tmp 2)), 0⟩,⟨some 11, .l (.load false 1 (.tmp 10)), 1⟩,⟨some 12, .p (.fadr 1 (.tmp 2)), 0⟩,⟨some 13, .l (.load false 1 (.tmp 12)), 4⟩,⟨some 14, .p (.fadr 1 (.tmp 3)), 0⟩,⟨some 15, .l (.load false 1 (.tmp 14)), 16⟩,⟨some 16, .call 97 [(.tmp 13), (.tmp 15)], 60⟩,⟨some 17, .p (.build [(.bool false), (.slice none 0 0)] [(0, 1, (.tmp 11)), (1, 1, (.tmp 16))]), 127⟩,⟨some 18, .call 95 [(.tmp 17)], 255⟩,
 ⟨none, .e (.store 2 (.tmp 4) (.tmp 18)), 511⟩])])
 (.ret))
 (.skip)))
 (.seq (.seq (.ops none [⟨some 19, .p (.fadr 1 (.tmp 2))⟩,⟨some 20, .l (.load false 1 (.tmp 19))⟩,⟨some 21, .p (.fadr 1 (.tmp 3))⟩,⟨some 22, .l (.load false 1 (.tmp 21))⟩,⟨some 23, .call 98 [(.tmp 20), (.tmp 22)]⟩,⟨some 24, .p (.bin .geq (.tmp 23) (ci (0)))⟩])
 (.cond (.tmp 24) (.seq (.dops [(none, [⟨some 25, .p (.fadr 0 (.tmp 2)), 0⟩,⟨some 26, .l (.load false 1 (.tmp 25)), 1⟩,⟨some 27, .p (.fadr 1 (.tmp 2)), 0⟩,⟨some 28, .l (.load false 1 (.tmp 27)), 4⟩,⟨some 29, .p (.fadr 1 (.tmp 3)), 0⟩,⟨some 30, .l (.load false 1 (.tmp 29)), 16⟩,⟨some 31, .call 99 [(.tmp 28), (.tmp 30)], 60⟩,⟨some 32, .p (.build [(.bool false), (.slice none 0 0)] [(0, 1, (.tmp 26)), (1, 1, (.tmp 31))]), 127⟩,⟨some 33, .call 95 [(.tmp 32)], 255⟩,
 ⟨none, .e (.store 2 (.tmp 4) (.tmp 33)), 511⟩])])
 (.ret))
 (.skip)))
 (.seq (.dops [(none, [⟨some 34, .p (.fadr 0 (.tmp 3)), 0⟩,⟨some 35, .l (.load false 1 (.tmp 34)), 1⟩,⟨some 36, .p (.fadr 1 (.tmp 3)), 0⟩,⟨some 37, .l (.load false 1 (.tmp 36)), 4⟩,⟨some 38, .p (.fadr 1 (.tmp 2)), 0⟩,⟨some 39, .l (.load false 1 (.tmp 38)), 16⟩,⟨some 40, .call 99 [(.tmp 37), (.tmp 39)], 60⟩,⟨some 41, .p (.build [(.bool false), (.slice none 0 0)] [(0, 1, (.tmp 35)), (1, 1, (.tmp 40))]), 127⟩,⟨some 42, .call 95 [(.tmp 41)], 255⟩,
 ⟨none, .e (.store 2 (.tmp 4) (.tmp 42)), 511⟩])])
 (.ret))))
theorem k62 : compFn Tryz.prog 62 [[], [], [], [], [], [], [], []] = some (43, c62, [.cell true 2 4]) := by kernel_rfl
def T62 (a0 b1 : Value) (h : Heap) : Prop :=
 OH (iBox 36 h a0) fun a2 h_1 =>
 OH (iBox 36 h_1 b1) fun b3 h_2 =>
 OH (iAlloc 36 [(.bool false), (.slice none 0 0)] h_2) fun x4 h_3 =>
 OP (iFadr 0 a2) fun x5 =>
 OP (iLoad false 1 h_3 x5) fun x6 =>
 OP (iFadr 0 b3) fun x7 =>
 OP (iLoad false 1 h_3 x7) fun x8 =>
 OP (iEqb false x6 x8) fun x9 =>
 IfP x9
 (OP (iFadr 0 a2) fun x10 =>
 OP (iLoad false 1 h_3 x10) fun x11 =>
 (True) ∧
 OP (iFadr 1 a2) fun x12 =>
 OP (iLoad false 1 h_3 x12) fun x13 =>
 (True) ∧
 OP (iFadr 1 b3) fun x14 =>
 OP (iLoad false 1 h_3 x14) fun x15 =>
 (True) ∧
 CallP P 97 [x13, x15] h_3 fun x16 h_4 =>
 (iLoad false 1 h_4 x10 = some x11 ∧ True) ∧
 OP (iBuild [(.bool false), (.slice none 0 0)] [(0, 1, x11), (1, 1, x16)]) fun x17 =>
 CallP P 95 [x17] h_4 fun x18 h_5 =>
 (True) ∧
 OH (oStore 2 h_5 x4 x18) fun _ h_6 =>
 (True) ∧
 OP (iLoad true 2 h_6 x4) fun r0 =>
 K r0 h_6)
 (OP (iFadr 1 a2) fun x19 =>
 OP (iLoad false 1 h_3 x19) fun x20 =>
 OP (iFadr 1 b3) fun x21 =>
 OP (iLoad false 1 h_3 x21) fun x22 =>
 CallP P 98 [x20, x22] h_3 fun x23 h_4 =>
 OP (iBin .geq x23 (.int .i64 (0))) fun x24 =>
 IfP x24
 (OP (iFadr 0 a2) fun x25 =>
 OP (iLoad false 1 h_4 x25) fun x26 =>
 (True) ∧
 OP (iFadr 1 a2) fun x27 =>
 OP (iLoad false 1 h_4 x27) fun x28 =>
 (True) ∧
 OP (iFadr 1 b3) fun x29 =>
 OP (iLoad false 1 h_4 x29) fun x30 =>
 (True) ∧
 CallP P 99 [x28, x30] h_4 fun x31 h_5 =>
 (iLoad false 1 h_5 x25 = some x26 ∧ True) ∧
 OP (iBuild [(.bool false), (.slice none 0 0)] [(0, 1, x26), (1, 1, x31)]) fun x32 =>
 CallP P 95 [x32] h_5 fun x33 h_6 =>
 (True) ∧
 OH (oStore 2 h_6 x4 x33) fun _ h_7 =>
 (True) ∧
 OP (iLoad true 2 h_7 x4) fun r0 =>
 K r0 h_7)
 (OP (iFadr 0 b3) fun x34 =>
 OP (iLoad false 1 h_4 x34) fun x35 =>
 (True) ∧
 OP (iFadr 1 b3) fun x36 =>
 OP (iLoad false 1 h_4 x36) fun x37 =>
 (True) ∧
 OP (iFadr 1 a2) fun x38 =>
 OP (iLoad false 1 h_4 x38) fun x39 =>
 (True) ∧
 CallP P 99 [x37, x39] h_4 fun x40 h_5 =>
 (iLoad false 1 h_5 x34 = some x35 ∧ True) ∧
 OP (iBuild [(.bool false), (.slice none 0 0)] [(0, 1, x35), (1, 1, x40)]) fun x41 =>
 CallP P 95 [x41] h_5 fun x42 h_6 =>
 (True) ∧
 OH (oStore 2 h_6 x4 x42) fun _ h_7 =>
 (True) ∧
 OP (iLoad true 2 h_7 x4) fun r0 =>
 K r0 h_7))
theorem e62 (a0 b1 : Value) (h : Heap) : iwpP P c62 (bodyP [.cell true 2 4] K) (frame0 [a0, b1]) h = T62 P K a0 b1 h := by kernel_rfl
theorem f62 {K : VK} {a0 b1 : Value} {h : Heap} (H : T62 Tryz.prog K a0 b1 h) : CallP Tryz.prog 62 [a0, b1] h K :=
 callP_intro k62 (Nat.le_of_ble_eq_true rfl) ((e62 Tryz.prog K a0 b1 h).mpr H)
/-! F90: pommel/pommelref01.digits -/
/-! F92: pommel/pommelref01.Neg -/
noncomputable def c92z6 : ICode := .ops none [⟨some 11, .p (.pick (.tmp 6) (.tmp 10) (.const (.bool false)))⟩,⟨some 12, .p (.fadr 0 (.tmp 1))⟩,
 ⟨none, .e (.store 1 (.tmp 12) (.tmp 11))⟩]
noncomputable def c92z4 : ICode := .seq (.ops (some (6, true)) [⟨some 7, .p (.fadr 1 (.tmp 1))⟩,⟨some 8, .l (.load false 1 (.tmp 7))⟩,⟨some 9, .p (.lenSl (.tmp 8))⟩,⟨some 10, .p (.bin .gtr (.tmp 9) (ci (0)))⟩])
 (.cut [1, 2, 6, 10] c92z6)
noncomputable def c92z2 : ICode := .seq (.ops none [⟨some 13, .l (.load true 2 (.tmp 1))⟩,
 ⟨none, .e (.store 2 (.tmp 2) (.tmp 13))⟩])
 (.ret)
noncomputable def c92 : ICode := .seq (.ops none [⟨some 1, .e (.box 36 (.tmp 0))⟩,⟨some 2, .e (.alloc 36 [(.bool false), (.slice none 0 0)])⟩])
 (.seq (.seq (.ops none [⟨some 3, .p (.fadr 0 (.tmp 1))⟩,⟨some 4, .l (.load false 1 (.tmp 3))⟩,⟨some 5, .p (.un .not (.tmp 4))⟩,gm 6 5])
 (.cut [1, 2, 6] c92z4)) c92z2)
theorem k92 : compFn Tryz.prog 92 [[], [1, 2, 6], [1, 2, 6, 10], [], []] = some (14, c92, [.cell true 2 2]) := by kernel_rfl
def K92z0 (_P : Program) (K : VK) : Kont := bodyP [.cell true 2 2] K
def K92z2 : Kont := thenK (iwpP P c92z2 (K92z0 P K)) (K92z0 P K)
def p92z4 (a1 x2 x6 : Value) (h : Heap) : Prop := CutP (iwpP P c92z4 (K92z2 P K)) [1, 2, 6] [a1, x2, x6] h
def p92z6 (a1 x2 x6 x10 : Value) (h : Heap) : Prop := CutP (iwpP P c92z6 (K92z2 P K)) [1, 2, 6, 10] [a1, x2, x6, x10] h
theorem q92z6 (a1 x2 x6 x10 : Value) (h : Heap) : p92z6 P K a1 x2 x6 x10 h =
 (OP (iPick x6 x10 (.bool false)) fun x11 =>
 OP (iFadr 0 a1) fun x12 =>
 OH (oStore 1 h x12 x11) fun _ h_1 =>
 OP (iLoad true 2 h_1 a1) fun x13 =>
 OH (oStore 2 h_1 x2 x13) fun _ h_2 =>
 OP (iLoad true 2 h_2 x2) fun r0 =>
 K r0 h_2) := (CutP_def _ _ _ _).trans (by kernel_rfl)
theorem q92z4 (a1 x2 x6 : Value) (h : Heap) : p92z4 P K a1 x2 x6 h =
 (GdP x6 true
 (OP (iFadr 1 a1) fun x7 =>
 OP (iLoad false 1 h x7) fun x8 =>
 OP (iLenSl x8) fun x9 =>
 OP (iBin .gtr x9 (.int .i64 (0))) fun x10 =>
 p92z6 P K a1 x2 x6 x10 h)
 (p92z6 P K a1 x2 x6 undef h)) := (CutP_def _ _ _ _).trans (by kernel_rfl)
def T92 (a0 : Value) (h : Heap) : Prop :=
 OH (iBox 36 h a0) fun a1 h_1 =>
 OH (iAlloc 36 [(.bool false), (.slice none 0 0)] h_1) fun x2 h_2 =>
 OP (iFadr 0 a1) fun x3 =>
 OP (iLoad false 1 h_2 x3) fun x4 =>
 OP (iUn .not x4) fun x5 =>
 p92z4 P K a1 x2 x5 h_2
theorem e92 (a0 : Value) (h : Heap) : iwpP P c92 (bodyP [.cell true 2 2] K) (frame0 [a0]) h = T92 P K a0 h := by kernel_rfl
theorem f92 {K : VK} {a0 : Value} {h : Heap} (H : T92 Tryz.prog K a0 h) : CallP Tryz.prog 92 [a0] h K :=
 callP_intro k92 (Nat.le_of_ble_eq_true rfl) ((e92 Tryz.prog K a0 h).mpr H)
/-! F93: pommel/pommelref01.Sign -/
/-! F94: pommel/pommelref01.Sub -/
noncomputable def c94 : ICode := .seq (.ops none [⟨some 2, .e (.box 36 (.tmp 0))⟩,⟨some 3, .e (.box 36 (.tmp 1))⟩,⟨some 4, .e (.alloc 36 [(.bool false), (.slice none 0 0)])⟩])
 (.seq (.dops [(none, [⟨some 5, .l (.load true 2 (.tmp 2)), 0⟩,⟨some 6, .l (.load true 2 (.tmp 3)), 0⟩,⟨some 7, .call 92 [(.tmp 6)], 2⟩,⟨some 8, .call 62 [(.tmp 5), (.tmp 7)], 7⟩,
 ⟨none, .e (.store 2 (.tmp 4) (.tmp 8)), 15⟩])])
 (.ret))
theorem k94 : compFn Tryz.prog 94 [[], []] = some (9, c94, [.cell true 2 4]) := by kernel_rfl
def T94 (a0 b1 : Value) (h : Heap) : Prop :=
 OH (iBox 36 h a0) fun a2 h_1 =>
 OH (iBox 36 h_1 b1) fun b3 h_2 =>
 OH (iAlloc 36 [(.bool false), (.slice none 0 0)] h_2) fun x4 h_3 =>
 OP (iLoad true 2 h_3 a2) fun x5 =>
 (True) ∧
 OP (iLoad true 2 h_3 b3) fun x6 =>
 (True) ∧
 CallP P 92 [x6] h_3 fun x7 h_4 =>
 (iLoad true 2 h_4 a2 = some x5 ∧ True) ∧
 CallP P 62 [x5, x7] h_4 fun x8 h_5 =>
 (True) ∧
 OH (oStore 2 h_5 x4 x8) fun _ h_6 =>
 (True) ∧
 OP (iLoad true 2 h_6 x4) fun r0 =>
 K r0 h_6
theorem e94 (a0 b1 : Value) (h : Heap) : iwpP P c94 (bodyP [.cell true 2 4] K) (frame0 [a0, b1]) h = T94 P K a0 b1 h := by kernel_rfl
theorem f94 {K : VK} {a0 b1 : Value} {h : Heap} (H : T94 Tryz.prog K a0 b1 h) : CallP Tryz.prog 94 [a0, b1] h K :=
 callP_intro k94 (Nat.le_of_ble_eq_true rfl) ((e94 Tryz.prog K a0 b1 h).mpr H)
/-! F95: pommel/pommelref01.lean -/
noncomputable def c95z11 : ICode := .ops none [⟨some 17, .p (.pick (.tmp 9) (.tmp 16) (.const (.bool false)))⟩]
noncomputable def c95z9 : ICode := .seq (.ops (some (9, true)) [⟨some 10, .p (.fadr 1 (.tmp 1))⟩,⟨some 11, .l (.load false 1 (.tmp 10))⟩,gm 12 3,⟨some 13, .p (.bin .sub (.tmp 12) (ci (1)))⟩,⟨some 14, .p (.adrSl 1 (.tmp 11) (.tmp 13))⟩,⟨some 15, .l (.load false 1 (.tmp 14))⟩,⟨some 16, .p (.bin .eql (.tmp 15) (ci (0)))⟩])
 (.cut [1, 2, 3, 9, 16] c95z11)
noncomputable def c95z7 : ICode := .cond (.tmp 17) (.skip)
 (.exit 0)
noncomputable def c95z6 : ICode := .block 1 (.ops none [gm 18 3,⟨some 19, .p (.bin .sub (.tmp 18) (ci (1)))⟩,gm 3 19])
noncomputable def c95z5 : ICode := .seq (.seq (.seq (.ops none [gm 7 3,⟨some 8, .p (.bin .gtr (.tmp 7) (ci (0)))⟩,gm 9 8])
 (.cut [1, 2, 3, 9] c95z9)) c95z7) c95z6
noncomputable def c95z19 : ICode := .ops none [⟨some 32, .p (.pick (.tmp 29) (.tmp 31) (.const (.bool false)))⟩,⟨some 33, .p (.fadr 0 (.tmp 1))⟩,
 ⟨none, .e (.store 1 (.tmp 33) (.tmp 32))⟩]
noncomputable def c95z17 : ICode := .seq (.ops (some (29, true)) [gm 30 3,⟨some 31, .p (.bin .gtr (.tmp 30) (ci (0)))⟩])
 (.cut [1, 2, 29, 31] c95z19)
noncomputable def c95z15 : ICode := .seq (.ops none [⟨some 34, .l (.load true 2 (.tmp 1))⟩,
 ⟨none, .e (.store 2 (.tmp 2) (.tmp 34))⟩])
 (.ret)
noncomputable def c95z13 : ICode := .seq (.ops none [⟨some 20, .e (.mkSl 3 0 [(.int .i64 (0))] [])⟩,⟨some 21, .p (.fadr 1 (.tmp 1))⟩,⟨some 22, .l (.load false 1 (.tmp 21))⟩,gm 23 3,⟨some 24, .p (.slSl 3 1 (.tmp 22) none (some (.tmp 23)))⟩,⟨some 25, .e (.app 3 1 8 (.tmp 20) (.tmp 24))⟩,⟨some 26, .p (.fadr 1 (.tmp 1))⟩,
 ⟨none, .e (.store 1 (.tmp 26) (.tmp 25))⟩])
 (.seq (.seq (.ops none [⟨some 27, .p (.fadr 0 (.tmp 1))⟩,⟨some 28, .l (.load false 1 (.tmp 27))⟩,gm 29 28])
 (.cut [1, 2, 3, 29] c95z17)) c95z15)
noncomputable def c95z3 : ICode := .cut [1, 2, 3] c95z13
noncomputable def c95 : ICode := .seq (.ops none [⟨some 1, .e (.box 36 (.tmp 0))⟩,⟨some 2, .e (.alloc 36 [(.bool false), (.slice none 0 0)])⟩])
 (.seq (.ops none [⟨some 4, .p (.fadr 1 (.tmp 1))⟩,⟨some 5, .l (.load false 1 (.tmp 4))⟩,⟨some 6, .p (.lenSl (.tmp 5))⟩,gm 3 6])
 (.seq (.block 0 (.loop [1, 2] [3] c95z5)) c95z3))
theorem k95 : compFn Tryz.prog 95 [[], [], [1, 2], [3], [1, 2, 3, 9], [1, 2, 3, 9, 16], [], [], [1, 2, 3], [], [1, 2, 3, 29], [1, 2, 29, 31], [], []] = some (35, c95, [.cell true 2 2]) := by kernel_rfl
def K95z0 (_P : Program) (K : VK) : Kont := bodyP [.cell true 2 2] K
def K95z3 : Kont := thenK (iwpP P c95z3 (K95z0 P K)) (K95z0 P K)
def K95z4 : Kont := inBlockK 0 (K95z3 P K)
def K95z5 (z1 x2 : Value) (L1 : LK) : Kont := thenK (fun f' h'' => (([1, 2] : List Nat).map f' : List Value) = [z1, x2] ∧ L1 (([3] : List Nat).map f') h'') (K95z4 P K)
def K95z6 (z1 x2 : Value) (L1 : LK) : Kont := thenK (iwpP P c95z6 (K95z5 P K z1 x2 L1)) (K95z5 P K z1 x2 L1)
def K95z7 (z1 x2 : Value) (L1 : LK) : Kont := thenK (iwpP P c95z7 (K95z6 P K z1 x2 L1)) (K95z6 P K z1 x2 L1)
def K95z15 : Kont := thenK (iwpP P c95z15 (K95z0 P K)) (K95z0 P K)
def p95z5 (z1 x2 : Value) (L1 : LK) (xs : List Value) (h : Heap) : Prop := CutP (iwpP P c95z5 (K95z5 P K z1 x2 L1)) ([1, 2] ++ [3]) ([z1, x2] ++ xs) h
def p95z9 (z1 x2 n3 x9 : Value) (L1 : LK) (h : Heap) : Prop := CutP (iwpP P c95z9 (K95z7 P K z1 x2 L1)) [1, 2, 3, 9] [z1, x2, n3, x9] h
def p95z11 (z1 x2 n3 x9 x16 : Value) (L1 : LK) (h : Heap) : Prop := CutP (iwpP P c95z11 (K95z7 P K z1 x2 L1)) [1, 2, 3, 9, 16] [z1, x2, n3, x9, x16] h
def p95z13 (z1 x2 n3 : Value) (h : Heap) : Prop := CutP (iwpP P c95z13 (K95z0 P K)) [1, 2, 3] [z1, x2, n3] h
def p95z17 (z1 x2 n3 x29 : Value) (h : Heap) : Prop := CutP (iwpP P c95z17 (K95z15 P K)) [1, 2, 3, 29] [z1, x2, n3, x29] h
def p95z19 (z1 x2 x29 x31 : Value) (h : Heap) : Prop := CutP (iwpP P c95z19 (K95z15 P K)) [1, 2, 29, 31] [z1, x2, x29, x31] h
theorem q95z11 (z1 x2 n3 x9 x16 : Value) (L1 : LK) (h : Heap) : p95z11 P K z1 x2 n3 x9 x16 L1 h =
 (OP (iPick x9 x16 (.bool false)) fun x17 =>
 IfP x17
 (OP (iBin .sub n3 (.int .i64 (1))) fun x19 =>
 ([z1, x2] : List Value) = [z1, x2] ∧ L1 [x19] h)
 (p95z13 P K z1 x2 n3 h)) := (CutP_def _ _ _ _).trans (by kernel_rfl)
theorem q95z9 (z1 x2 n3 x9 : Value) (L1 : LK) (h : Heap) : p95z9 P K z1 x2 n3 x9 L1 h =
 (GdP x9 true
 (OP (iFadr 1 z1) fun x10 =>
 OP (iLoad false 1 h x10) fun x11 =>
 OP (iBin .sub n3 (.int .i64 (1))) fun x13 =>
 OP (iAdrSl 1 x11 x13) fun x14 =>
 OP (iLoad false 1 h x14) fun x15 =>
 OP (iBin .eql x15 (.int .i64 (0))) fun x16 =>
 p95z11 P K z1 x2 n3 x9 x16 L1 h)
 (p95z11 P K z1 x2 n3 x9 undef L1 h)) := (CutP_def _ _ _ _).trans (by kernel_rfl)
theorem q95z5 (z1 x2 : Value) (L1 : LK) (n3 : Value) (h : Heap) : p95z5 P K z1 x2 L1 [n3] h =
 (OP (iBin .gtr n3 (.int .i64 (0))) fun x8 =>
 p95z9 P K z1 x2 n3 x8 L1 h) := (CutP_def _ _ _ _).trans (by kernel_rfl)
theorem q95z19 (z1 x2 x29 x31 : Value) (h : Heap) : p95z19 P K z1 x2 x29 x31 h =
 (OP (iPick x29 x31 (.bool false)) fun x32 =>
 OP (iFadr 0 z1) fun x33 =>
 OH (oStore 1 h x33 x32) fun _ h_1 =>
 OP (iLoad true 2 h_1 z1) fun x34 =>
 OH (oStore 2 h_1 x2 x34) fun _ h_2 =>
 OP (iLoad true 2 h_2 x2) fun r0 =>
 K r0 h_2) := (CutP_def _ _ _ _).trans (by kernel_rfl)
theorem q95z17 (z1 x2 n3 x29 : Value) (h : Heap) : p95z17 P K z1 x2 n3 x29 h =
 (GdP x29 true
 (OP (iBin .gtr n3 (.int .i64 (0))) fun x31 =>
 p95z19 P K z1 x2 x29 x31 h)
 (p95z19 P K z1 x2 x29 undef h)) := (CutP_def _ _ _ _).trans (by kernel_rfl)
theorem q95z13 (z1 x2 n3 : Value) (h : Heap) : p95z13 P K z1 x2 n3 h =
 (OH (iMkSl 3 0 [(.int .i64 (0))] h []) fun x20 h_1 =>
 OP (iFadr 1 z1) fun x21 =>
 OP (iLoad false 1 h_1 x21) fun x22 =>
 OP (iSlSl 3 1 x22 none (some n3)) fun x24 =>
 OH (iApp 3 1 8 h_1 x20 x24) fun x25 h_2 =>
 OP (iFadr 1 z1) fun x26 =>
 OH (oStore 1 h_2 x26 x25) fun _ h_3 =>
 OP (iFadr 0 z1) fun x27 =>
 OP (iLoad false 1 h_3 x27) fun x28 =>
 p95z17 P K z1 x2 n3 x28 h_3) := (CutP_def _ _ _ _).trans (by kernel_rfl)
def T95 (z0 : Value) (h : Heap) : Prop :=
 OH (iBox 36 h z0) fun z1 h_1 =>
 OH (iAlloc 36 [(.bool false), (.slice none 0 0)] h_1) fun x2 h_2 =>
 OP (iFadr 1 z1) fun x4 =>
 OP (iLoad false 1 h_2 x4) fun x5 =>
 OP (iLenSl x5) fun x6 =>
 LoopP [x6] h_2 fun L1 xs hx =>
 p95z5 P K z1 x2 L1 xs hx
theorem e95 (z0 : Value) (h : Heap) : iwpP P c95 (bodyP [.cell true 2 2] K) (frame0 [z0]) h = T95 P K z0 h := by kernel_rfl
theorem f95 {K : VK} {z0 : Value} {h : Heap} (H : T95 Tryz.prog K z0 h) : CallP Tryz.prog 95 [z0] h K :=
 callP_intro k95 (Nat.le_of_ble_eq_true rfl) ((e95 Tryz.prog K z0 h).mpr H)
/-! F97: pommel/pommelref01.plus -/
noncomputable def c97z16 : ICode := .ops none [⟨some 23, .p (.pick (.tmp 20) (.const (.bool true)) (.tmp 22))⟩]
noncomputable def c97z14 : ICode := .seq (.ops (some (20, false)) [gm 21 6,⟨some 22, .p (.bin .gtr (.tmp 21) (ci (0)))⟩])
 (.cut [0, 1, 5, 6, 7, 20, 22] c97z16)
noncomputable def c97z12 : ICode := .seq (.ops none [⟨some 19, .p (.pick (.tmp 14) (.const (.bool true)) (.tmp 18))⟩,gm 20 19])
 (.cut [0, 1, 5, 6, 7, 20] c97z14)
noncomputable def c97z10 : ICode := .seq (.ops (some (14, false)) [gm 15 7,gm 16 1,⟨some 17, .p (.lenSl (.tmp 16))⟩,⟨some 18, .p (.bin .lss (.tmp 15) (.tmp 17))⟩])
 (.cut [0, 1, 5, 6, 7, 14, 18] c97z12)
noncomputable def c97z8 : ICode := .cond (.tmp 23) (.skip)
 (.exit 0)
noncomputable def c97z25 : ICode := .ops none [gm 47 5,gm 48 8,⟨some 49, .p (.bin .rem (.tmp 48) (ci (10000)))⟩,⟨some 50, .e (.mkSl 3 1 [(.int .i64 (0))] [(0, 1, (.tmp 49))])⟩,⟨some 51, .e (.app 3 1 8 (.tmp 47) (.tmp 50))⟩,gm 52 8,⟨some 53, .p (.bin .quo (.tmp 52) (ci (10000)))⟩,gm 5 51,gm 6 53]
noncomputable def c97z22 : ICode := .seq (.seq (.ops none [gm 37 7,gm 38 1,⟨some 39, .p (.lenSl (.tmp 38))⟩,⟨some 40, .p (.bin .lss (.tmp 37) (.tmp 39))⟩])
 (.cond (.tmp 40) (.ops none [gm 41 8,gm 42 1,gm 43 7,⟨some 44, .p (.adrSl 1 (.tmp 42) (.tmp 43))⟩,⟨some 45, .l (.load false 1 (.tmp 44))⟩,⟨some 46, .p (.bin .add (.tmp 41) (.tmp 45))⟩,gm 8 46])
 (.skip)))
 (.cut [0, 1, 5, 7, 8] c97z25)
noncomputable def c97z26 : ICode := .ops none [gm 24 7,⟨some 25, .p (.bin .add (.tmp 24) (ci (1)))⟩,gm 7 25]
noncomputable def c97z17 : ICode := .cut [0, 1, 5, 6, 7] c97z26
noncomputable def c97z7 : ICode := .seq (.block 1 (.seq (.ops none [gm 26 6,gm 8 26])
 (.seq (.seq (.ops none [gm 27 7,gm 28 0,⟨some 29, .p (.lenSl (.tmp 28))⟩,⟨some 30, .p (.bin .lss (.tmp 27) (.tmp 29))⟩])
 (.cond (.tmp 30) (.ops none [gm 31 8,gm 32 0,gm 33 7,⟨some 34, .p (.adrSl 1 (.tmp 32) (.tmp 33))⟩,⟨some 35, .l (.load false 1 (.tmp 34))⟩,⟨some 36, .p (.bin .add (.tmp 31) (.tmp 35))⟩,gm 8 36])
 (.skip)))
 (.cut [0, 1, 5, 7, 8] c97z22)))) c97z17
noncomputable def c97z6 : ICode := .seq (.seq (.seq (.ops none [gm 10 7,gm 11 0,⟨some 12, .p (.lenSl (.tmp 11))⟩,⟨some 13, .p (.bin .lss (.tmp 10) (.tmp 12))⟩,gm 14 13])
 (.cut [0, 1, 5, 6, 7, 14] c97z10)) c97z8) c97z7
noncomputable def c97z27 : ICode := .seq (.ops none [gm 54 5,gm 4 54])
 (.ret)
noncomputable def c97z3 : ICode := .cut [5] c97z27
noncomputable def c97 : ICode := .seq (.ops none [⟨some 4, .p (.mv (.const (.slice none 0 0)))⟩])
 (.seq (.ops none [⟨some 9, .e (.mkSl 3 0 [(.int .i64 (0))] [])⟩,gm 5 9,⟨some 6, .p (.mv (ci (0)))⟩])
 (.seq (.seq (.ops none [⟨some 7, .p (.mv (ci (0)))⟩])
 (.block 0 (.loop [0, 1] [5, 6, 7] c97z6))) c97z3))
theorem k97 : compFn Tryz.prog 97 [[], [], [], [0, 1], [5, 6, 7], [0, 1, 5, 6, 7, 14], [0, 1, 5, 6, 7, 14, 18], [0, 1, 5, 6, 7, 20], [0, 1, 5, 6, 7, 20, 22], [], [], [], [], [0, 1, 5, 7, 8], [], [0, 1, 5, 7, 8], [0, 1, 5, 6, 7], [5], []] = some (55, c97, [.tmp 4]) := by kernel_rfl
def K97z0 (_P : Program) (K : VK) : Kont := bodyP [.tmp 4] K
def K97z3 : Kont := thenK (iwpP P c97z3 (K97z0 P K)) (K97z0 P K)
def K97z5 : Kont := inBlockK 0 (K97z3 P K)
def K97z6 (a0 b1 : Value) (L1 : LK) : Kont := thenK (fun f' h'' => (([0, 1] : List Nat).map f' : List Value) = [a0, b1] ∧ L1 (([5, 6, 7] : List Nat).map f') h'') (K97z5 P K)
def K97z7 (a0 b1 : Value) (L1 : LK) : Kont := thenK (iwpP P c97z7 (K97z6 P K a0 b1 L1)) (K97z6 P K a0 b1 L1)
def K97z8 (a0 b1 : Value) (L1 : LK) : Kont := thenK (iwpP P c97z8 (K97z7 P K a0 b1 L1)) (K97z7 P K a0 b1 L1)
def K97z17 (a0 b1 : Value) (L1 : LK) : Kont := thenK (iwpP P c97z17 (K97z6 P K a0 b1 L1)) (K97z6 P K a0 b1 L1)
def K97z18 (a0 b1 : Value) (L1 : LK) : Kont := inBlockK 1 (K97z17 P K a0 b1 L1)
def p97z6 (a0 b1 : Value) (L1 : LK) (xs : List Value) (h : Heap) : Prop := CutP (iwpP P c97z6 (K97z6 P K a0 b1 L1)) ([0, 1] ++ [5, 6, 7]) ([a0, b1] ++ xs) h
def p97z10 (a0 b1 out5 carry6 i7 x14 : Value) (L1 : LK) (h : Heap) : Prop := CutP (iwpP P c97z10 (K97z8 P K a0 b1 L1)) [0, 1, 5, 6, 7, 14] [a0, b1, out5, carry6, i7, x14] h
def p97z12 (a0 b1 out5 carry6 i7 x14 x18 : Value) (L1 : LK) (h : Heap) : Prop := CutP (iwpP P c97z12 (K97z8 P K a0 b1 L1)) [0, 1, 5, 6, 7, 14, 18] [a0, b1, out5, carry6, i7, x14, x18] h
def p97z14 (a0 b1 out5 carry6 i7 x20 : Value) (L1 : LK) (h : Heap) : Prop := CutP (iwpP P c97z14 (K97z8 P K a0 b1 L1)) [0, 1, 5, 6, 7, 20] [a0, b1, out5, carry6, i7, x20] h
def p97z16 (a0 b1 out5 carry6 i7 x20 x22 : Value) (L1 : LK) (h : Heap) : Prop := CutP (iwpP P c97z16 (K97z8 P K a0 b1 L1)) [0, 1, 5, 6, 7, 20, 22] [a0, b1, out5, carry6, i7, x20, x22] h
def p97z22 (a0 b1 out5 i7 s8 : Value) (L1 : LK) (h : Heap) : Prop := CutP (iwpP P c97z22 (K97z18 P K a0 b1 L1)) [0, 1, 5, 7, 8] [a0, b1, out5, i7, s8] h
def p97z25 (a0 b1 out5 i7 s8 : Value) (L1 : LK) (h : Heap) : Prop := CutP (iwpP P c97z25 (K97z18 P K a0 b1 L1)) [0, 1, 5, 7, 8] [a0, b1, out5, i7, s8] h
def p97z26 (a0 b1 out5 carry6 i7 : Value) (L1 : LK) (h : Heap) : Prop := CutP (iwpP P c97z26 (K97z6 P K a0 b1 L1)) [0, 1, 5, 6, 7] [a0, b1, out5, carry6, i7] h
def p97z27 (out5 : Value) (h : Heap) : Prop := CutP (iwpP P c97z27 (K97z0 P K)) [5] [out5] h
theorem q97z16 (a0 b1 out5 carry6 i7 x20 x22 : Value) (L1 : LK) (h : Heap) : p97z16 P K a0 b1 out5 carry6 i7 x20 x22 L1 h =
 (OP (iPick x20 (.bool true) x22) fun x23 =>
 IfP x23
 (OP (iLenSl a0) fun x29 =>
 OP (iBin .lss i7 x29) fun x30 =>
 IfP x30
 (OP (iAdrSl 1 a0 i7) fun x34 =>
 OP (iLoad false 1 h x34) fun x35 =>
 OP (iBin .add carry6 x35) fun x36 =>
 p97z22 P K a0 b1 out5 i7 x36 L1 h)
 (p97z22 P K a0 b1 out5 i7 carry6 L1 h))
 (p97z27 P K out5 h)) := (CutP_def _ _ _ _).trans (by kernel_rfl)
theorem q97z14 (a0 b1 out5 carry6 i7 x20 : Value) (L1 : LK) (h : Heap) : p97z14 P K a0 b1 out5 carry6 i7 x20 L1 h =
 (GdP x20 false
 (OP (iBin .gtr carry6 (.int .i64 (0))) fun x22 =>
 p97z16 P K a0 b1 out5 carry6 i7 x20 x22 L1 h)
 (p97z16 P K a0 b1 out5 carry6 i7 x20 undef L1 h)) := (CutP_def _ _ _ _).trans (by kernel_rfl)
theorem q97z12 (a0 b1 out5 carry6 i7 x14 x18 : Value) (L1 : LK) (h : Heap) : p97z12 P K a0 b1 out5 carry6 i7 x14 x18 L1 h =
 (OP (iPick x14 (.bool true) x18) fun x19 =>
 p97z14 P K a0 b1 out5 carry6 i7 x19 L1 h) := (CutP_def _ _ _ _).trans (by kernel_rfl)
theorem q97z10 (a0 b1 out5 carry6 i7 x14 : Value) (L1 : LK) (h : Heap) : p97z10 P K a0 b1 out5 carry6 i7 x14 L1 h =
 (GdP x14 false
 (OP (iLenSl b1) fun x17 =>
 OP (iBin .lss i7 x17) fun x18 =>
 p97z12 P K a0 b1 out5 carry6 i7 x14 x18 L1 h)
 (p97z12 P K a0 b1 out5 carry6 i7 x14 undef L1 h)) := (CutP_def _ _ _ _).trans (by kernel_rfl)
theorem q97z25 (a0 b1 out5 i7 s8 : Value) (L1 : LK) (h : Heap) : p97z25 P K a0 b1 out5 i7 s8 L1 h =
 (OP (iBin .rem s8 (.int .i64 (10000))) fun x49 =>
 OH (iMkSl 3 1 [(.int .i64 (0))] h [(0, 1, x49)]) fun x50 h_1 =>
 OH (iApp 3 1 8 h_1 out5 x50) fun x51 h_2 =>
 OP (iBin .quo s8 (.int .i64 (10000))) fun x53 =>
 p97z26 P K a0 b1 x51 x53 i7 L1 h_2) := (CutP_def _ _ _ _).trans (by kernel_rfl)
theorem q97z22 (a0 b1 out5 i7 s8 : Value) (L1 : LK) (h : Heap) : p97z22 P K a0 b1 out5 i7 s8 L1 h =
 (OP (iLenSl b1) fun x39 =>
 OP (iBin .lss i7 x39) fun x40 =>
 IfP x40
 (OP (iAdrSl 1 b1 i7) fun x44 =>
 OP (iLoad false 1 h x44) fun x45 =>
 OP (iBin .add s8 x45) fun x46 =>
 p97z25 P K a0 b1 out5 i7 x46 L1 h)
 (p97z25 P K a0 b1 out5 i7 s8 L1 h)) := (CutP_def _ _ _ _).trans (by kernel_rfl)
theorem q97z26 (a0 b1 out5 carry6 i7 : Value) (L1 : LK) (h : Heap) : p97z26 P K a0 b1 out5 carry6 i7 L1 h =
 (OP (iBin .add i7 (.int .i64 (1))) fun x25 =>
 ([a0, b1] : List Value) = [a0, b1] ∧ L1 [out5, carry6, x25] h) := (CutP_def _ _ _ _).trans (by kernel_rfl)
theorem q97z6 (a0 b1 : Value) (L1 : LK) (out5 carry6 i7 : Value) (h : Heap) : p97z6 P K a0 b1 L1 [out5, carry6, i7] h =
 (OP (iLenSl a0) fun x12 =>
 OP (iBin .lss i7 x12) fun x13 =>
 p97z10 P K a0 b1 out5 carry6 i7 x13 L1 h) := (CutP_def _ _ _ _).trans (by kernel_rfl)
theorem q97z27 (out5 : Value) (h : Heap) : p97z27 P K out5 h =
 (K out5 h) := (CutP_def _ _ _ _).trans (by kernel_rfl)
def T97 (a0 b1 : Value) (h : Heap) : Prop :=
 OH (iMkSl 3 0 [(.int .i64 (0))] h []) fun x9 h_1 =>
 LoopP [x9, (.int .i64 (0)), (.int .i64 (0))] h_1 fun L1 xs hx =>
 p97z6 P K a0 b1 L1 xs hx
theorem e97 (a0 b1 : Value) (h : Heap) : iwpP P c97 (bodyP [.tmp 4] K) (frame0 [a0, b1]) h = T97 P K a0 b1 h := by kernel_rfl
theorem f97 {K : VK} {a0 b1 : Value} {h : Heap} (H : T97 Tryz.prog K a0 b1 h) : CallP Tryz.prog 97 [a0, b1] h K :=
 callP_intro k97 (Nat.le_of_ble_eq_true rfl) ((e97 Tryz.prog K a0 b1 h).mpr H)
/-! F98: pommel/pommelref01.sizes -/
noncomputable def c98z11 : ICode := .seq (.seq (.ops none [gm 19 5,⟨some 20, .p (.bin .geq (.tmp 19) (ci (0)))⟩])
 (.cond (.tmp 20) (.skip)
 (.exit 0)))
 (.seq (.block 1 (.seq (.seq (.dops [(none, [gd 23 0 0,gd 24 5 0,⟨some 25, .p (.adrSl 1 (.tmp 23) (.tmp 24)), 3⟩,⟨some 26, .l (.load false 1 (.tmp 25)), 7⟩,gd 27 1 0,gd 28 5 0,⟨some 29, .p (.adrSl 1 (.tmp 27) (.tmp 28)), 48⟩,⟨some 30, .l (.load false 1 (.tmp 29)), 112⟩,⟨some 31, .p (.bin .lss (.tmp 26) (.tmp 30)), 255⟩])])
 (.cond (.tmp 31) (.seq (.ops none [⟨some 4, .p (.mv (ci (-1)))⟩])
 (.ret))
 (.skip)))
 (.seq (.dops [(none, [gd 32 0 0,gd 33 5 0,⟨some 34, .p (.adrSl 1 (.tmp 32) (.tmp 33)), 3⟩,⟨some 35, .l (.load false 1 (.tmp 34)), 7⟩,gd 36 1 0,gd 37 5 0,⟨some 38, .p (.adrSl 1 (.tmp 36) (.tmp 37)), 48⟩,⟨some 39, .l (.load false 1 (.tmp 38)), 112⟩,⟨some 40, .p (.bin .gtr (.tmp 35) (.tmp 39)), 255⟩])])
 (.cond (.tmp 40) (.seq (.ops none [⟨some 4, .p (.mv (ci (1)))⟩])
 (.ret))
 (.skip)))))
 (.ops none [gm 21 5,⟨some 22, .p (.bin .sub (.tmp 21) (ci (1)))⟩,gm 5 22]))
noncomputable def c98z8 : ICode := .seq (.ops none [⟨some 4, .p (.mv (ci (0)))⟩])
 (.ret)
noncomputable def c98 : ICode := .seq (.ops none [⟨some 4, .p (.mv (ci (0)))⟩])
 (.seq (.seq (.ops none [gm 6 0,⟨some 7, .p (.lenSl (.tmp 6))⟩,gm 8 1,⟨some 9, .p (.lenSl (.tmp 8))⟩,⟨some 10, .p (.bin .neq (.tmp 7) (.tmp 9))⟩])
 (.cond (.tmp 10) (.seq (.seq (.ops none [gm 11 0,⟨some 12, .p (.lenSl (.tmp 11))⟩,gm 13 1,⟨some 14, .p (.lenSl (.tmp 13))⟩,⟨some 15, .p (.bin .lss (.tmp 12) (.tmp 14))⟩])
 (.cond (.tmp 15) (.seq (.ops none [⟨some 4, .p (.mv (ci (-1)))⟩])
 (.ret))
 (.skip)))
 (.seq (.ops none [⟨some 4, .p (.mv (ci (1)))⟩])
 (.ret)))
 (.skip)))
 (.seq (.seq (.ops none [gm 16 0,⟨some 17, .p (.lenSl (.tmp 16))⟩,⟨some 18, .p (.bin .sub (.tmp 17) (ci (1)))⟩,gm 5 18])
 (.block 0 (.loop [0, 1] [5] c98z11))) c98z8))
theorem k98 : compFn Tryz.prog 98 [[], [], [], [], [], [], [], [], [0, 1], [5], [], [], [], [], [], [], [], [], [], []] = some (41, c98, [.tmp 4]) := by kernel_rfl
def K98z0 (_P : Program) (K : VK) : Kont := bodyP [.tmp 4] K
def K98z8 : Kont := thenK (iwpP P c98z8 (K98z0 P K)) (K98z0 P K)
def K98z10 : Kont := inBlockK 0 (K98z8 P K)
def K98z11 (a0 b1 : Value) (L1 : LK) : Kont := thenK (fun f' h'' => (([0, 1] : List Nat).map f' : List Value) = [a0, b1] ∧ L1 (([5] : List Nat).map f') h'') (K98z10 P K)
def p98z11 (a0 b1 : Value) (L1 : LK) (xs : List Value) (h : Heap) : Prop := CutP (iwpP P c98z11 (K98z11 P K a0 b1 L1)) ([0, 1] ++ [5]) ([a0, b1] ++ xs) h
theorem q98z11 (a0 b1 : Value) (L1 : LK) (i5 : Value) (h : Heap) : p98z11 P K a0 b1 L1 [i5] h =
 (OP (iBin .geq i5 (.int .i64 (0))) fun x20 =>
 IfP x20
 (OP (iAdrSl 1 a0 i5) fun x25 =>
 OP (iLoad false 1 h x25) fun x26 =>
 (True) ∧
 OP (iAdrSl 1 b1 i5) fun x29 =>
 OP (iLoad false 1 h x29) fun x30 =>
 (True) ∧
 OP (iBin .lss x26 x30) fun x31 =>
 IfP x31
 (K (.int .i64 (-1)) h)
 (OP (iAdrSl 1 a0 i5) fun x34 =>
 OP (iLoad false 1 h x34) fun x35 =>
 (True) ∧
 OP (iAdrSl 1 b1 i5) fun x38 =>
 OP (iLoad false 1 h x38) fun x39 =>
 (True) ∧
 OP (iBin .gtr x35 x39) fun x40 =>
 IfP x40
 (K (.int .i64 (1)) h)
 (OP (iBin .sub i5 (.int .i64 (1))) fun x22 =>
 ([a0, b1] : List Value) = [a0, b1] ∧ L1 [x22] h)))
 (K (.int .i64 (0)) h)) := (CutP_def _ _ _ _).trans (by kernel_rfl)
def T98 (a0 b1 : Value) (h : Heap) : Prop :=
 OP (iLenSl a0) fun x7 =>
 OP (iLenSl b1) fun x9 =>
 OP (iBin .neq x7 x9) fun x10 =>
 IfP x10
 (OP (iLenSl a0) fun x12 =>
 OP (iLenSl b1) fun x14 =>
 OP (iBin .lss x12 x14) fun x15 =>
 IfP x15
 (K (.int .i64 (-1)) h)
 (K (.int .i64 (1)) h))
 (OP (iLenSl a0) fun x17 =>
 OP (iBin .sub x17 (.int .i64 (1))) fun x18 =>
 LoopP [x18] h fun L1 xs hx =>
 p98z11 P K a0 b1 L1 xs hx)
theorem e98 (a0 b1 : Value) (h : Heap) : iwpP P c98 (bodyP [.tmp 4] K) (frame0 [a0, b1]) h = T98 P K a0 b1 h := by kernel_rfl
theorem f98 {K : VK} {a0 b1 : Value} {h : Heap} (H : T98 Tryz.prog K a0 b1 h) : CallP Tryz.prog 98 [a0, b1] h K :=
 callP_intro k98 (Nat.le_of_ble_eq_true rfl) ((e98 Tryz.prog K a0 b1 h).mpr H)
/-! F99: pommel/pommelref01.less -/
noncomputable def c99z18 : ICode := .ops none [gm 36 5,gm 37 8,⟨some 38, .e (.mkSl 3 1 [(.int .i64 (0))] [(0, 1, (.tmp 37))])⟩,⟨some 39, .e (.app 3 1 8 (.tmp 36) (.tmp 38))⟩,gm 5 39]
noncomputable def c99z14 : ICode := .seq (.ops none [⟨some 6, .p (.mv (ci (0)))⟩])
 (.seq (.seq (.ops none [gm 32 8,⟨some 33, .p (.bin .lss (.tmp 32) (ci (0)))⟩])
 (.cond (.tmp 33) (.ops none [gm 34 8,⟨some 35, .p (.bin .add (.tmp 34) (ci (10000)))⟩,gm 8 35,⟨some 6, .p (.mv (ci (1)))⟩])
 (.skip)))
 (.cut [0, 1, 5, 6, 7, 8] c99z18))
noncomputable def c99z19 : ICode := .ops none [gm 14 7,⟨some 15, .p (.bin .add (.tmp 14) (ci (1)))⟩,gm 7 15]
noncomputable def c99z9 : ICode := .cut [0, 1, 5, 6, 7] c99z19
noncomputable def c99z6 : ICode := .seq (.seq (.ops none [gm 10 7,gm 11 0,⟨some 12, .p (.lenSl (.tmp 11))⟩,⟨some 13, .p (.bin .lss (.tmp 10) (.tmp 12))⟩])
 (.cond (.tmp 13) (.skip)
 (.exit 0)))
 (.seq (.block 1 (.seq (.ops none [gm 16 0,gm 17 7,⟨some 18, .p (.adrSl 1 (.tmp 16) (.tmp 17))⟩,⟨some 19, .l (.load false 1 (.tmp 18))⟩,gm 20 6,⟨some 21, .p (.bin .sub (.tmp 19) (.tmp 20))⟩,gm 8 21])
 (.seq (.seq (.ops none [gm 22 7,gm 23 1,⟨some 24, .p (.lenSl (.tmp 23))⟩,⟨some 25, .p (.bin .lss (.tmp 22) (.tmp 24))⟩])
 (.cond (.tmp 25) (.ops none [gm 26 8,gm 27 1,gm 28 7,⟨some 29, .p (.adrSl 1 (.tmp 27) (.tmp 28))⟩,⟨some 30, .l (.load false 1 (.tmp 29))⟩,⟨some 31, .p (.bin .sub (.tmp 26) (.tmp 30))⟩,gm 8 31])
 (.skip)))
 (.cut [0, 1, 5, 7, 8] c99z14)))) c99z9)
noncomputable def c99z20 : ICode := .seq (.ops none [gm 40 5,gm 4 40])
 (.ret)
noncomputable def c99z3 : ICode := .cut [5] c99z20
noncomputable def c99 : ICode := .seq (.ops none [⟨some 4, .p (.mv (.const (.slice none 0 0)))⟩])
 (.seq (.ops none [⟨some 9, .e (.mkSl 3 0 [(.int .i64 (0))] [])⟩,gm 5 9,⟨some 6, .p (.mv (ci (0)))⟩])
 (.seq (.seq (.ops none [⟨some 7, .p (.mv (ci (0)))⟩])
 (.block 0 (.loop [0, 1] [5, 6, 7] c99z6))) c99z3))
theorem k99 : compFn Tryz.prog 99 [[], [], [], [0, 1], [5, 6, 7], [], [], [], [], [0, 1, 5, 7, 8], [], [], [0, 1, 5, 6, 7, 8], [0, 1, 5, 6, 7], [5], []] = some (41, c99, [.tmp 4]) := by kernel_rfl
def K99z0 (_P : Program) (K : VK) : Kont := bodyP [.tmp 4] K
def K99z3 : Kont := thenK (iwpP P c99z3 (K99z0 P K)) (K99z0 P K)
def K99z5 : Kont := inBlockK 0 (K99z3 P K)
def K99z6 (a0 b1 : Value) (L1 : LK) : Kont := thenK (fun f' h'' => (([0, 1] : List Nat).map f' : List Value) = [a0, b1] ∧ L1 (([5, 6, 7] : List Nat).map f') h'') (K99z5 P K)
def K99z9 (a0 b1 : Value) (L1 : LK) : Kont := thenK (iwpP P c99z9 (K99z6 P K a0 b1 L1)) (K99z6 P K a0 b1 L1)
def K99z10 (a0 b1 : Value) (L1 : LK) : Kont := inBlockK 1 (K99z9 P K a0 b1 L1)
def p99z6 (a0 b1 : Value) (L1 : LK) (xs : List Value) (h : Heap) : Prop := CutP (iwpP P c99z6 (K99z6 P K a0 b1 L1)) ([0, 1] ++ [5, 6, 7]) ([a0, b1] ++ xs) h
def p99z14 (a0 b1 out5 i7 s8 : Value) (L1 : LK) (h : Heap) : Prop := CutP (iwpP P c99z14 (K99z10 P K a0 b1 L1)) [0, 1, 5, 7, 8] [a0, b1, out5, i7, s8] h
def p99z18 (a0 b1 out5 borrow6 i7 s8 : Value) (L1 : LK) (h : Heap) : Prop := CutP (iwpP P c99z18 (K99z10 P K a0 b1 L1)) [0, 1, 5, 6, 7, 8] [a0, b1, out5, borrow6, i7, s8] h
def p99z19 (a0 b1 out5 borrow6 i7 : Value) (L1 : LK) (h : Heap) : Prop := CutP (iwpP P c99z19 (K99z6 P K a0 b1 L1)) [0, 1, 5, 6, 7] [a0, b1, out5, borrow6, i7] h
def p99z20 (out5 : Value) (h : Heap) : Prop := CutP (iwpP P c99z20 (K99z0 P K)) [5] [out5] h
theorem q99z18 (a0 b1 out5 borrow6 i7 s8 : Value) (L1 : LK) (h : Heap) : p99z18 P K a0 b1 out5 borrow6 i7 s8 L1 h =
 (OH (iMkSl 3 1 [(.int .i64 (0))] h [(0, 1, s8)]) fun x38 h_1 =>
 OH (iApp 3 1 8 h_1 out5 x38) fun x39 h_2 =>
 p99z19 P K a0 b1 x39 borrow6 i7 L1 h_2) := (CutP_def _ _ _ _).trans (by kernel_rfl)
theorem q99z14 (a0 b1 out5 i7 s8 : Value) (L1 : LK) (h : Heap) : p99z14 P K a0 b1 out5 i7 s8 L1 h =
 (OP (iBin .lss s8 (.int .i64 (0))) fun x33 =>
 IfP x33
 (OP (iBin .add s8 (.int .i64 (10000))) fun x35 =>
 p99z18 P K a0 b1 out5 (.int .i64 (1)) i7 x35 L1 h)
 (p99z18 P K a0 b1 out5 (.int .i64 (0)) i7 s8 L1 h)) := (CutP_def _ _ _ _).trans (by kernel_rfl)
theorem q99z19 (a0 b1 out5 borrow6 i7 : Value) (L1 : LK) (h : Heap) : p99z19 P K a0 b1 out5 borrow6 i7 L1 h =
 (OP (iBin .add i7 (.int .i64 (1))) fun x15 =>
 ([a0, b1] : List Value) = [a0, b1] ∧ L1 [out5, borrow6, x15] h) := (CutP_def _ _ _ _).trans (by kernel_rfl)
theorem q99z6 (a0 b1 : Value) (L1 : LK) (out5 borrow6 i7 : Value) (h : Heap) : p99z6 P K a0 b1 L1 [out5, borrow6, i7] h =
 (OP (iLenSl a0) fun x12 =>
 OP (iBin .lss i7 x12) fun x13 =>
 IfP x13
 (OP (iAdrSl 1 a0 i7) fun x18 =>
 OP (iLoad false 1 h x18) fun x19 =>
 OP (iBin .sub x19 borrow6) fun x21 =>
 OP (iLenSl b1) fun x24 =>
 OP (iBin .lss i7 x24) fun x25 =>
 IfP x25
 (OP (iAdrSl 1 b1 i7) fun x29 =>
 OP (iLoad false 1 h x29) fun x30 =>
 OP (iBin .sub x21 x30) fun x31 =>
 p99z14 P K a0 b1 out5 i7 x31 L1 h)
 (p99z14 P K a0 b1 out5 i7 x21 L1 h))
 (p99z20 P K out5 h)) := (CutP_def _ _ _ _).trans (by kernel_rfl)
theorem q99z20 (out5 : Value) (h : Heap) : p99z20 P K out5 h =
 (K out5 h) := (CutP_def _ _ _ _).trans (by kernel_rfl)
def T99 (a0 b1 : Value) (h : Heap) : Prop :=
 OH (iMkSl 3 0 [(.int .i64 (0))] h []) fun x9 h_1 =>
 LoopP [x9, (.int .i64 (0)), (.int .i64 (0))] h_1 fun L1 xs hx =>
 p99z6 P K a0 b1 L1 xs hx
theorem e99 (a0 b1 : Value) (h : Heap) : iwpP P c99 (bodyP [.tmp 4] K) (frame0 [a0, b1]) h = T99 P K a0 b1 h := by kernel_rfl
theorem f99 {K : VK} {a0 b1 : Value} {h : Heap} (H : T99 Tryz.prog K a0 b1 h) : CallP Tryz.prog 99 [a0, b1] h K :=
 callP_intro k99 (Nat.le_of_ble_eq_true rfl) ((e99 Tryz.prog K a0 b1 h).mpr H)
/-! F100: pommel/pommelref01.figures -/
noncomputable def c100z9 : ICode := .seq (.seq (.ops none [gm 15 4,⟨some 16, .p (.bin .geq (.tmp 15) (ci (0)))⟩])
 (.cond (.tmp 16) (.skip)
 (.exit 0)))
 (.seq (.block 1 (.seq (.ops none [⟨some 19, .p (.fadr 1 (.tmp 1))⟩,⟨some 20, .l (.load false 1 (.tmp 19))⟩,gm 21 4,⟨some 22, .p (.adrSl 1 (.tmp 20) (.tmp 21))⟩,⟨some 23, .l (.load false 1 (.tmp 22))⟩,gm 5 23])
 (.seq (.ops none [gm 24 5,⟨some 25, .p (.bin .quo (.tmp 24) (ci (1000)))⟩,⟨some 26, .p (.bin .add (ci (48)) (.tmp 25))⟩,⟨some 27, .p (.conv .u8 (.tmp 26))⟩,gm 28 5,⟨some 29, .p (.bin .quo (.tmp 28) (ci (100)))⟩,⟨some 30, .p (.bin .rem (.tmp 29) (ci (10)))⟩,⟨some 31, .p (.bin .add (ci (48)) (.tmp 30))⟩,⟨some 32, .p (.conv .u8 (.tmp 31))⟩,gm 33 5,⟨some 34, .p (.bin .quo (.tmp 33) (ci (10)))⟩,⟨some 35, .p (.bin .rem (.tmp 34) (ci (10)))⟩,⟨some 36, .p (.bin .add (ci (48)) (.tmp 35))⟩,⟨some 37, .p (.conv .u8 (.tmp 36))⟩,gm 38 5,⟨some 39, .p (.bin .rem (.tmp 38) (ci (10)))⟩,⟨some 40, .p (.bin .add (ci (48)) (.tmp 39))⟩,⟨some 41, .p (.conv .u8 (.tmp 40))⟩,⟨some 42, .e (.mkSl 5 4 [(.int .u8 (0))] [(0, 1, (.tmp 27)), (1, 1, (.tmp 32)), (2, 1, (.tmp 37)), (3, 1, (.tmp 41))])⟩,⟨some 43, .l (.b2s (.tmp 42))⟩,gm 6 43])
 (.ops none [gm 44 3,gm 45 6,⟨some 46, .p (.bin .add (.tmp 44) (.tmp 45))⟩,gm 3 46]))))
 (.ops none [gm 17 4,⟨some 18, .p (.bin .sub (.tmp 17) (ci (1)))⟩,gm 4 18]))
noncomputable def c100z19 : ICode := .seq (.seq (.ops none [gm 47 3,⟨some 48, .p (.idxS (.tmp 47) (ci (0)))⟩,⟨some 49, .p (.bin .eql (.tmp 48) (.const (.int .u8 (48))))⟩])
 (.cond (.tmp 49) (.skip)
 (.exit 2)))
 (.block 3 (.ops none [gm 50 3,⟨some 51, .p (.slS (.tmp 50) (some (ci (1))) none)⟩,gm 3 51]))
noncomputable def c100z23 : ICode := .seq (.ops none [gm 52 3,gm 2 52])
 (.ret)
noncomputable def c100z17 : ICode := .cut [3] c100z23
noncomputable def c100z16 : ICode := .seq (.block 2 (.loop [] [3] c100z19)) c100z17
noncomputable def c100z6 : ICode := .cut [3] c100z16
noncomputable def c100 : ICode := .seq (.ops none [⟨some 1, .e (.box 36 (.tmp 0))⟩,⟨some 2, .p (.mv (.const (.string ⟨#[]⟩)))⟩])
 (.seq (.seq (.ops none [⟨some 7, .p (.fadr 1 (.tmp 1))⟩,⟨some 8, .l (.load false 1 (.tmp 7))⟩,⟨some 9, .p (.lenSl (.tmp 8))⟩,⟨some 10, .p (.bin .eql (.tmp 9) (ci (0)))⟩])
 (.cond (.tmp 10) (.seq (.ops none [⟨some 2, .p (.mv (.const (.string ⟨#[48]⟩)))⟩])
 (.ret))
 (.skip)))
 (.seq (.ops none [⟨some 3, .p (.mv (.const (.string ⟨#[]⟩)))⟩])
 (.seq (.seq (.ops none [⟨some 11, .p (.fadr 1 (.tmp 1))⟩,⟨some 12, .l (.load false 1 (.tmp 11))⟩,⟨some 13, .p (.lenSl (.tmp 12))⟩,⟨some 14, .p (.bin .sub (.tmp 13) (ci (1)))⟩,gm 4 14])
 (.block 0 (.loop [1] [3, 4] c100z9))) c100z6)))
theorem k100 : compFn Tryz.prog 100 [[], [], [], [], [], [], [1], [3, 4], [], [], [], [], [], [3], [], [3], [], [], [3], []] = some (53, c100, [.tmp 2]) := by kernel_rfl
def K100z0 (_P : Program) (K : VK) : Kont := bodyP [.tmp 2] K
def K100z6 : Kont := thenK (iwpP P c100z6 (K100z0 P K)) (K100z0 P K)
def K100z8 : Kont := inBlockK 0 (K100z6 P K)
def K100z9 (z1 : Value) (L1 : LK) : Kont := thenK (fun f' h'' => (([1] : List Nat).map f' : List Value) = [z1] ∧ L1 (([3, 4] : List Nat).map f') h'') (K100z8 P K)
def K100z17 : Kont := thenK (iwpP P c100z17 (K100z0 P K)) (K100z0 P K)
def K100z18 : Kont := inBlockK 2 (K100z17 P K)
def K100z19 (L1 : LK) : Kont := thenK (fun f' h'' => (([] : List Nat).map f' : List Value) = [] ∧ L1 (([3] : List Nat).map f') h'') (K100z18 P K)
def p100z9 (z1 : Value) (L1 : LK) (xs : List Value) (h : Heap) : Prop := CutP (iwpP P c100z9 (K100z9 P K z1 L1)) ([1] ++ [3, 4]) ([z1] ++ xs) h
def p100z16 (s3 : Value) (h : Heap) : Prop := CutP (iwpP P c100z16 (K100z0 P K)) [3] [s3] h
def p100z19 (L1 : LK) (xs : List Value) (h : Heap) : Prop := CutP (iwpP P c100z19 (K100z19 P K L1)) ([] ++ [3]) ([] ++ xs) h
def p100z23 (s3 : Value) (h : Heap) : Prop := CutP (iwpP P c100z23 (K100z0 P K)) [3] [s3] h
theorem q100z9 (z1 : Value) (L1 : LK) (s3 i4 : Value) (h : Heap) : p100z9 P K z1 L1 [s3, i4] h =
 (OP (iBin .geq i4 (.int .i64 (0))) fun x16 =>
 IfP x16
 (OP (iFadr 1 z1) fun x19 =>
 OP (iLoad false 1 h x19) fun x20 =>
 OP (iAdrSl 1 x20 i4) fun x22 =>
 OP (iLoad false 1 h x22) fun x23 =>
 OP (iBin .quo x23 (.int .i64 (1000))) fun x25 =>
 OP (iBin .add (.int .i64 (48)) x25) fun x26 =>
 OP (iConv .u8 x26) fun x27 =>
 OP (iBin .quo x23 (.int .i64 (100))) fun x29 =>
 OP (iBin .rem x29 (.int .i64 (10))) fun x30 =>
 OP (iBin .add (.int .i64 (48)) x30) fun x31 =>
 OP (iConv .u8 x31) fun x32 =>
 OP (iBin .quo x23 (.int .i64 (10))) fun x34 =>
 OP (iBin .rem x34 (.int .i64 (10))) fun x35 =>
 OP (iBin .add (.int .i64 (48)) x35) fun x36 =>
 OP (iConv .u8 x36) fun x37 =>
 OP (iBin .rem x23 (.int .i64 (10))) fun x39 =>
 OP (iBin .add (.int .i64 (48)) x39) fun x40 =>
 OP (iConv .u8 x40) fun x41 =>
 OH (iMkSl 5 4 [(.int .u8 (0))] h [(0, 1, x27), (1, 1, x32), (2, 1, x37), (3, 1, x41)]) fun x42 h_1 =>
 OP (iB2s h_1 x42) fun x43 =>
 OP (iBin .add s3 x43) fun x46 =>
 OP (iBin .sub i4 (.int .i64 (1))) fun x18 =>
 ([z1] : List Value) = [z1] ∧ L1 [x46, x18] h_1)
 (p100z16 P K s3 h)) := (CutP_def _ _ _ _).trans (by kernel_rfl)
theorem q100z19 (L1 : LK) (s3 : Value) (h : Heap) : p100z19 P K L1 [s3] h =
 (OP (iIdxS s3 (.int .i64 (0))) fun x48 =>
 OP (iBin .eql x48 (.int .u8 (48))) fun x49 =>
 IfP x49
 (OP (iSlS s3 (some (.int .i64 (1))) none) fun x51 =>
 ([] : List Value) = [] ∧ L1 [x51] h)
 (p100z23 P K s3 h)) := (CutP_def _ _ _ _).trans (by kernel_rfl)
theorem q100z23 (s3 : Value) (h : Heap) : p100z23 P K s3 h =
 (K s3 h) := (CutP_def _ _ _ _).trans (by kernel_rfl)
theorem q100z16 (s3 : Value) (h : Heap) : p100z16 P K s3 h =
 (LoopP [s3] h fun L1 xs hx =>
 p100z19 P K L1 xs hx) := (CutP_def _ _ _ _).trans (by kernel_rfl)
def T100 (z0 : Value) (h : Heap) : Prop :=
 OH (iBox 36 h z0) fun z1 h_1 =>
 OP (iFadr 1 z1) fun x7 =>
 OP (iLoad false 1 h_1 x7) fun x8 =>
 OP (iLenSl x8) fun x9 =>
 OP (iBin .eql x9 (.int .i64 (0))) fun x10 =>
 IfP x10
 (K (.string ⟨#[48]⟩) h_1)
 (OP (iFadr 1 z1) fun x11 =>
 OP (iLoad false 1 h_1 x11) fun x12 =>
 OP (iLenSl x12) fun x13 =>
 OP (iBin .sub x13 (.int .i64 (1))) fun x14 =>
 LoopP [(.string ⟨#[]⟩), x14] h_1 fun L1 xs hx =>
 p100z9 P K z1 L1 xs hx)
theorem e100 (z0 : Value) (h : Heap) : iwpP P c100 (bodyP [.tmp 2] K) (frame0 [z0]) h = T100 P K z0 h := by kernel_rfl
theorem f100 {K : VK} {z0 : Value} {h : Heap} (H : T100 Tryz.prog K z0 h) : CallP Tryz.prog 100 [z0] h K :=
 callP_intro k100 (Nat.le_of_ble_eq_true rfl) ((e100 Tryz.prog K z0 h).mpr H)
/-! F101: pommel/pommelref01.Abs -/
noncomputable def c101 : ICode := .seq (.ops none [⟨some 1, .e (.box 36 (.tmp 0))⟩,⟨some 2, .e (.alloc 36 [(.bool false), (.slice none 0 0)])⟩])
 (.seq (.ops none [⟨some 3, .p (.fadr 0 (.tmp 1))⟩,
 ⟨none, .e (.store 1 (.tmp 3) (.const (.bool false)))⟩])
 (.seq (.ops none [⟨some 4, .l (.load true 2 (.tmp 1))⟩,
 ⟨none, .e (.store 2 (.tmp 2) (.tmp 4))⟩])
 (.ret)))
theorem k101 : compFn Tryz.prog 101 [[], [], []] = some (5, c101, [.cell true 2 2]) := by kernel_rfl
def T101 (P : Program) (K : VK) (a0 : Value) (h : Heap) : Prop :=
 OH (iBox 36 h a0) fun a1 h_1 =>
 OH (iAlloc 36 [(.bool false), (.slice none 0 0)] h_1) fun x2 h_2 =>
 OP (iFadr 0 a1) fun x3 =>
 OH (oStore 1 h_2 x3 (.bool false)) fun _ h_3 =>
 OP (iLoad true 2 h_3 a1) fun x4 =>
 OH (oStore 2 h_3 x2 x4) fun _ h_4 =>
 OP (iLoad true 2 h_4 x2) fun r0 =>
 K r0 h_4
theorem e101 (a0 : Value) (h : Heap) : iwpP P c101 (bodyP [.cell true 2 2] K) (frame0 [a0]) h = T101 P K a0 h := by kernel_rfl
theorem f101 {K : VK} {a0 : Value} {h : Heap} (H : T101 Tryz.prog K a0 h) : CallP Tryz.prog 101 [a0] h K :=
 callP_intro k101 (Nat.le_of_ble_eq_true rfl) ((e101 Tryz.prog K a0 h).mpr H)
/-! F125: pommel/pommelref01.times -/
noncomputable def c125 : ICode := .seq (.ops none [⟨some 4, .p (.mv (.const (.slice none 0 0)))⟩])
 (.seq (.ops none [gm 5 0,⟨some 6, .p (.build [(.bool false), (.slice none 0 0)] [(1, 1, (.tmp 5))])⟩,gm 7 1,⟨some 8, .call 22 [(.tmp 7)]⟩,⟨some 9, .call 53 [(.tmp 6), (.tmp 8)]⟩,⟨some 10, .call 95 [(.tmp 9)]⟩,⟨some 11, .p (.fld false 1 1 (.tmp 10))⟩,gm 4 11])
 (.ret))
theorem k125 : compFn Tryz.prog 125 [[], []] = some (12, c125, [.tmp 4]) := by kernel_rfl
def T125 (a0 d1 : Value) (h : Heap) : Prop :=
 OP (iBuild [(.bool false), (.slice none 0 0)] [(1, 1, a0)]) fun x6 =>
 CallP P 22 [d1] h fun x8 h_1 =>
 CallP P 53 [x6, x8] h_1 fun x9 h_2 =>
 CallP P 95 [x9] h_2 fun x10 h_3 =>
 OP (iFld false 1 1 x10) fun x11 =>
 K x11 h_3
theorem e125 (a0 d1 : Value) (h : Heap) : iwpP P c125 (bodyP [.tmp 4] K) (frame0 [a0, d1]) h = T125 P K a0 d1 h := by kernel_rfl
theorem f125 {K : VK} {a0 d1 : Value} {h : Heap} (H : T125 Tryz.prog K a0 d1 h) : CallP Tryz.prog 125 [a0, d1] h K :=
 callP_intro k125 (Nat.le_of_ble_eq_true rfl) ((e125 Tryz.prog K a0 d1 h).mpr H)
end Go.Proofs.YthplaillblmgfaaGreatDoor
