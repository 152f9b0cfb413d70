/-
  Part 4 of the texts behind a statement of this seat: HDA, Mp1, HMk1, HMk2, HMk3, HMk4, HMk5, HDB, HMk6, HDC, HMk8, HDLv, HKk, HDG, HMk16, HMk17, HMk18, HMk19, HMk22, Mp2, Kr1, HDH.
-/
import Derived.Test.YthplaillblmgfaaGreatDoorProg
import Derived.KernelRfl
import Derived.Test.YthplaillblmgfaaGreatDoorCards
import Derived.Test.YthplaillblmgfaaGreatDoorTie
import Derived.LaidMore
import Derived.Lay
import Derived.SevenTiedAt
import Derived.Stop.Joined
import Derived.Test.YthplaillblmgfaaGreatDoorKr3
namespace Go.Proofs.YthplaillblmgfaaGreatDoor
open Go.Sim
variable (P : Program) (K : VK)
/-! F54: pommel/mark.Huffman -/
noncomputable def oc54 := compFn Tryz.prog 54 [[], []]
@[irreducible] noncomputable def c54 : ICode := icOf oc54
theorem k54 : oc54 = some (10, c54, [.tmp 2, .tmp 3, .tmp 4]) := by kernel_rfl
def T54 (weights0 : Value) (h : Heap) : Prop :=
 CallP P 96 [(.int .i64 (0)), weights0] h fun x6 h_1 =>
 OP (iExt 0 x6) fun x7 =>
 OP (iExt 1 x6) fun x8 =>
 OP (iExt 2 x6) fun x9 =>
 K (.tuple #[x7, x8, x9]) h_1
theorem e54 (weights0 : Value) (h : Heap) : iwpP P c54 (bodyP [.tmp 2, .tmp 3, .tmp 4] K) (frame0 [weights0]) h = T54 P K weights0 h := by kernel_rfl
theorem f54 {K : VK} {weights0 : Value} {h : Heap} (H : T54 Tryz.prog K weights0 h) : CallP Tryz.prog 54 [weights0] h K :=
 callP_intro k54 (Nat.le_of_ble_eq_true rfl) ((e54 Tryz.prog K weights0 h).mpr H)
/-! F55: pommel/mark.Tucker -/
noncomputable def oc55 := compFn Tryz.prog 55 [[], []]
@[irreducible] noncomputable def c55 : ICode := icOf oc55
theorem k55 : oc55 = some (10, c55, [.tmp 2, .tmp 3, .tmp 4]) := by kernel_rfl
def T55 (weights0 : Value) (h : Heap) : Prop :=
 CallP P 96 [(.int .i64 (1)), weights0] h fun x6 h_1 =>
 OP (iExt 0 x6) fun x7 =>
 OP (iExt 1 x6) fun x8 =>
 OP (iExt 2 x6) fun x9 =>
 K (.tuple #[x7, x8, x9]) h_1
theorem e55 (weights0 : Value) (h : Heap) : iwpP P c55 (bodyP [.tmp 2, .tmp 3, .tmp 4] K) (frame0 [weights0]) h = T55 P K weights0 h := by kernel_rfl
theorem f55 {K : VK} {weights0 : Value} {h : Heap} (H : T55 Tryz.prog K weights0 h) : CallP Tryz.prog 55 [weights0] h K :=
 callP_intro k55 (Nat.le_of_ble_eq_true rfl) ((e55 Tryz.prog K weights0 h).mpr H)
/-! F66: pommel/mark.room -/
noncomputable def oc66 := compFn Tryz.prog 66 [[], []]
@[irreducible] noncomputable def c66 : ICode := icOf oc66
theorem k66 : oc66 = some (5, c66, [.tmp 2]) := by kernel_rfl
def T66 (P : Program) (K : VK) (length0 : Value) (h : Heap) : Prop :=
 OP (iBin .shr (.int .i64 (1024)) length0) fun x4 =>
 K x4 h
theorem e66 (length0 : Value) (h : Heap) : iwpP P c66 (bodyP [.tmp 2] K) (frame0 [length0]) h = T66 P K length0 h := by kernel_rfl
theorem f66 {K : VK} {length0 : Value} {h : Heap} (H : T66 Tryz.prog K length0 h) : CallP Tryz.prog 66 [length0] h K :=
 callP_intro k66 (Nat.le_of_ble_eq_true rfl) ((e66 Tryz.prog K length0 h).mpr H)
/-! F69: pommel/mark.place -/
noncomputable def oc69 := compFn Tryz.prog 69 [[], [], []]
@[irreducible] noncomputable def c69 : ICode := icOf oc69
theorem k69 : oc69 = some (16, c69, [.tmp 4]) := by kernel_rfl
def T69 (at0 length1 : Value) (h : Heap) : Prop :=
 CallP P 66 [length1] h fun x7 h_1 =>
 OP (iBin .add at0 x7) fun x10 =>
 OP (iBin .sub x10 (.int .i64 (1))) fun x11 =>
 OP (iBin .quo x11 x7) fun x13 =>
 OP (iBin .mul x13 x7) fun x15 =>
 K x15 h_1
theorem e69 (at0 length1 : Value) (h : Heap) : iwpP P c69 (bodyP [.tmp 4] K) (frame0 [at0, length1]) h = T69 P K at0 length1 h := by kernel_rfl
theorem f69 {K : VK} {at0 length1 : Value} {h : Heap} (H : T69 Tryz.prog K at0 length1 h) : CallP Tryz.prog 69 [at0, length1] h K :=
 callP_intro k69 (Nat.le_of_ble_eq_true rfl) ((e69 Tryz.prog K at0 length1 h).mpr H)
/-! F96: pommel/mark.best -/
noncomputable def oc96 := compFn Tryz.prog 96 [[], [1, 2, 23], [1, 2, 23, 26], [], [], [1, 2, 32], [1, 2, 32, 35], [1, 2, 37], [1, 2, 37, 40], [], [], [], [], [], [], [], [], [1, 7, 9], [10], [], [], [], [], [1, 7, 9, 10, 67], [68], [], [], [], [], [1, 7, 9, 10, 11, 67, 68], [12], [], [], [], [], [1, 7, 9, 10, 11, 12, 67, 68], [1, 7, 9, 10, 67, 68], [1, 7, 9, 10], [1, 7, 9], [], [], [], [7, 9, 111, 112], [14, 15, 113], [], [], [], [], [7, 9, 16, 17, 111, 112, 113], [14, 15, 18], [], [], [], [], [], [], [7, 9, 14, 15, 111, 112, 113], [9, 14], []]
@[irreducible] noncomputable def c96 : ICode := icOf oc96
@[irreducible] noncomputable def c96z6 : ICode := c96.r.l.l.l.r.l
@[irreducible] noncomputable def c96z4 : ICode := c96.r.l.l.r
@[irreducible] noncomputable def c96z2 : ICode := c96.r.r
@[irreducible] noncomputable def c96z8 : ICode := c96z6.r.l
@[irreducible] noncomputable def c96z12 : ICode := c96z4.r.l.r.l
@[irreducible] noncomputable def c96z10 : ICode := c96z4.r.r
@[irreducible] noncomputable def c96z27 : ICode := c96z2.r.r.r.r.l.r.l.l
@[irreducible] noncomputable def c96z24 : ICode := c96z2.r.r.r.r.r
@[irreducible] noncomputable def c96z14 : ICode := c96z12.r.l
@[irreducible] noncomputable def c96z35 : ICode := c96z27.r.l.l.r.r.l.l
@[irreducible] noncomputable def c96z30 : ICode := c96z27.r.r
@[irreducible] noncomputable def c96z53 : ICode := c96z24.l
@[irreducible] noncomputable def c96z16 : ICode := c96z14.r.l
@[irreducible] noncomputable def c96z43 : ICode := c96z35.r.r.l.l.r.r.l.l
@[irreducible] noncomputable def c96z38 : ICode := c96z35.r.r.r
@[irreducible] noncomputable def c96z52 : ICode := c96z30.l
@[irreducible] noncomputable def c96z59 : ICode := c96z53.r.r.l.r.l.l
@[irreducible] noncomputable def c96z56 : ICode := c96z53.r.r.r
@[irreducible] noncomputable def c96z18 : ICode := c96z16.r.l
@[irreducible] noncomputable def c96z50 : ICode := c96z43.r.r.l
@[irreducible] noncomputable def c96z51 : ICode := c96z38.l
@[irreducible] noncomputable def c96z67 : ICode := c96z59.r.r.l.l.r.r.l.l
@[irreducible] noncomputable def c96z62 : ICode := c96z59.r.r.r
@[irreducible] noncomputable def c96z76 : ICode := c96z56.l
@[irreducible] noncomputable def c96z75 : ICode := c96z62.l
theorem k96 : oc96 = some (162, c96, [.tmp 4, .tmp 5, .tmp 6]) := by kernel_rfl
def K96z0 (_P : Program) (K : VK) : Kont := bodyP [.tmp 4, .tmp 5, .tmp 6] K
def K96z2 : Kont := thenK (iwpP P c96z2 (K96z0 P K)) (K96z0 P K)
def K96z3 : Kont := inBlockK 0 (K96z2 P K)
def K96z4 : Kont := thenK (iwpP P c96z4 (K96z3 P K)) (K96z3 P K)
def K96z10 : Kont := thenK (iwpP P c96z10 (K96z3 P K)) (K96z3 P K)
def K96z24 : Kont := thenK (iwpP P c96z24 (K96z0 P K)) (K96z0 P K)
def K96z26 : Kont := inBlockK 1 (K96z24 P K)
def K96z27 (weights1 after7 least9 : Value) (L1 : LK) : Kont := thenK (fun f' h'' => (([1, 7, 9] : List Nat).map f' : List Value) = [weights1, after7, least9] ∧ L1 (([10] : List Nat).map f') h'') (K96z26 P K)
def K96z30 (weights1 after7 least9 : Value) (L1 : LK) : Kont := thenK (iwpP P c96z30 (K96z27 P K weights1 after7 least9 L1)) (K96z27 P K weights1 after7 least9 L1)
def K96z31 (weights1 after7 least9 : Value) (L1 : LK) : Kont := inBlockK 2 (K96z30 P K weights1 after7 least9 L1)
def K96z34 (weights1 after7 least9 : Value) (L1 : LK) : Kont := inBlockK 3 (K96z31 P K weights1 after7 least9 L1)
def K96z35 (weights1 after7 least9 i10 x67 : Value) (L1 L2 : LK) : Kont := thenK (fun f' h'' => (([1, 7, 9, 10, 67] : List Nat).map f' : List Value) = [weights1, after7, least9, i10, x67] ∧ L2 (([68] : List Nat).map f') h'') (K96z34 P K weights1 after7 least9 L1)
def K96z38 (weights1 after7 least9 i10 x67 : Value) (L1 L2 : LK) : Kont := thenK (iwpP P c96z38 (K96z35 P K weights1 after7 least9 i10 x67 L1 L2)) (K96z35 P K weights1 after7 least9 i10 x67 L1 L2)
def K96z39 (weights1 after7 least9 i10 x67 : Value) (L1 L2 : LK) : Kont := inBlockK 4 (K96z38 P K weights1 after7 least9 i10 x67 L1 L2)
def K96z42 (weights1 after7 least9 i10 x67 : Value) (L1 L2 : LK) : Kont := inBlockK 5 (K96z39 P K weights1 after7 least9 i10 x67 L1 L2)
def K96z43 (weights1 after7 least9 i10 at11 x67 x68 : Value) (L1 L2 L3 : LK) : Kont := thenK (fun f' h'' => (([1, 7, 9, 10, 11, 67, 68] : List Nat).map f' : List Value) = [weights1, after7, least9, i10, at11, x67, x68] ∧ L3 (([12] : List Nat).map f') h'') (K96z42 P K weights1 after7 least9 i10 x67 L1 L2)
def K96z56 : Kont := thenK (iwpP P c96z56 (K96z0 P K)) (K96z0 P K)
def K96z58 : Kont := inBlockK 7 (K96z56 P K)
def K96z59 (after7 least9 x111 x112 : Value) (L1 : LK) : Kont := thenK (fun f' h'' => (([7, 9, 111, 112] : List Nat).map f' : List Value) = [after7, least9, x111, x112] ∧ L1 (([14, 15, 113] : List Nat).map f') h'') (K96z58 P K)
def K96z62 (after7 least9 x111 x112 : Value) (L1 : LK) : Kont := thenK (iwpP P c96z62 (K96z59 P K after7 least9 x111 x112 L1)) (K96z59 P K after7 least9 x111 x112 L1)
def K96z63 (after7 least9 x111 x112 : Value) (L1 : LK) : Kont := inBlockK 8 (K96z62 P K after7 least9 x111 x112 L1)
def K96z66 (after7 least9 x111 x112 : Value) (L1 : LK) : Kont := inBlockK 9 (K96z63 P K after7 least9 x111 x112 L1)
def K96z67 (after7 least9 i16 w17 x111 x112 x113 : Value) (L1 L2 : LK) : Kont := thenK (fun f' h'' => (([7, 9, 16, 17, 111, 112, 113] : List Nat).map f' : List Value) = [after7, least9, i16, w17, x111, x112, x113] ∧ L2 (([14, 15, 18] : List Nat).map f') h'') (K96z66 P K after7 least9 x111 x112 L1)
def p96z6 (weights1 kind2 x23 : Value) (h : Heap) : Prop := CutP (iwpP P c96z6 (K96z4 P K)) [1, 2, 23] [weights1, kind2, x23] h
def p96z8 (weights1 kind2 x23 x26 : Value) (h : Heap) : Prop := CutP (iwpP P c96z8 (K96z4 P K)) [1, 2, 23, 26] [weights1, kind2, x23, x26] h
def p96z12 (weights1 kind2 x32 : Value) (h : Heap) : Prop := CutP (iwpP P c96z12 (K96z10 P K)) [1, 2, 32] [weights1, kind2, x32] h
def p96z14 (weights1 kind2 x32 x35 : Value) (h : Heap) : Prop := CutP (iwpP P c96z14 (K96z10 P K)) [1, 2, 32, 35] [weights1, kind2, x32, x35] h
def p96z16 (weights1 kind2 x37 : Value) (h : Heap) : Prop := CutP (iwpP P c96z16 (K96z10 P K)) [1, 2, 37] [weights1, kind2, x37] h
def p96z18 (weights1 kind2 x37 x40 : Value) (h : Heap) : Prop := CutP (iwpP P c96z18 (K96z10 P K)) [1, 2, 37, 40] [weights1, kind2, x37, x40] h
def p96z27 (weights1 after7 least9 : Value) (L1 : LK) (xs : List Value) (h : Heap) : Prop := CutP (iwpP P c96z27 (K96z27 P K weights1 after7 least9 L1)) ([1, 7, 9] ++ [10]) ([weights1, after7, least9] ++ xs) h
def p96z35 (weights1 after7 least9 i10 x67 : Value) (L1 L2 : LK) (xs : List Value) (h : Heap) : Prop := CutP (iwpP P c96z35 (K96z35 P K weights1 after7 least9 i10 x67 L1 L2)) ([1, 7, 9, 10, 67] ++ [68]) ([weights1, after7, least9, i10, x67] ++ xs) h
def p96z43 (weights1 after7 least9 i10 at11 x67 x68 : Value) (L1 L2 L3 : LK) (xs : List Value) (h : Heap) : Prop := CutP (iwpP P c96z43 (K96z43 P K weights1 after7 least9 i10 at11 x67 x68 L1 L2 L3)) ([1, 7, 9, 10, 11, 67, 68] ++ [12]) ([weights1, after7, least9, i10, at11, x67, x68] ++ xs) h
def p96z50 (weights1 after7 least9 i10 at11 l12 x67 x68 : Value) (L1 L2 L3 : LK) (h : Heap) : Prop := CutP (iwpP P c96z50 (K96z43 P K weights1 after7 least9 i10 at11 x67 x68 L1 L2 L3)) [1, 7, 9, 10, 11, 12, 67, 68] [weights1, after7, least9, i10, at11, l12, x67, x68] h
def p96z51 (weights1 after7 least9 i10 x67 x68 : Value) (L1 L2 : LK) (h : Heap) : Prop := CutP (iwpP P c96z51 (K96z35 P K weights1 after7 least9 i10 x67 L1 L2)) [1, 7, 9, 10, 67, 68] [weights1, after7, least9, i10, x67, x68] h
def p96z52 (weights1 after7 least9 i10 : Value) (L1 : LK) (h : Heap) : Prop := CutP (iwpP P c96z52 (K96z27 P K weights1 after7 least9 L1)) [1, 7, 9, 10] [weights1, after7, least9, i10] h
def p96z53 (weights1 after7 least9 : Value) (h : Heap) : Prop := CutP (iwpP P c96z53 (K96z0 P K)) [1, 7, 9] [weights1, after7, least9] h
def p96z59 (after7 least9 x111 x112 : Value) (L1 : LK) (xs : List Value) (h : Heap) : Prop := CutP (iwpP P c96z59 (K96z59 P K after7 least9 x111 x112 L1)) ([7, 9, 111, 112] ++ [14, 15, 113]) ([after7, least9, x111, x112] ++ xs) h
def p96z67 (after7 least9 i16 w17 x111 x112 x113 : Value) (L1 L2 : LK) (xs : List Value) (h : Heap) : Prop := CutP (iwpP P c96z67 (K96z67 P K after7 least9 i16 w17 x111 x112 x113 L1 L2)) ([7, 9, 16, 17, 111, 112, 113] ++ [14, 15, 18]) ([after7, least9, i16, w17, x111, x112, x113] ++ xs) h
def p96z75 (after7 least9 out14 at15 x111 x112 x113 : Value) (L1 : LK) (h : Heap) : Prop := CutP (iwpP P c96z75 (K96z59 P K after7 least9 x111 x112 L1)) [7, 9, 14, 15, 111, 112, 113] [after7, least9, out14, at15, x111, x112, x113] h
def p96z76 (least9 out14 : Value) (h : Heap) : Prop := CutP (iwpP P c96z76 (K96z0 P K)) [9, 14] [least9, out14] h
theorem q96z8 (weights1 kind2 x23 x26 : Value) (h : Heap) : p96z8 P K weights1 kind2 x23 x26 h =
 (OP (iPick x23 (.bool true) x26) fun x27 =>
 IfP x27
 (K (.tuple #[(.slice none 0 0), (.int .i64 (0)), (.int .i64 (3))]) h)
 (OP (iLenSl weights1) fun x30 =>
 OP (iBin .lss x30 (.int .i64 (2))) fun x31 =>
 p96z12 P K weights1 kind2 x31 h)) := (CutP_def _ _ _ _).trans (by kernel_rfl)
theorem q96z6 (weights1 kind2 x23 : Value) (h : Heap) : p96z6 P K weights1 kind2 x23 h =
 (GdP x23 false
 (OP (iLenSl weights1) fun x25 =>
 OP (iBin .gtr x25 (.int .i64 (12))) fun x26 =>
 p96z8 P K weights1 kind2 x23 x26 h)
 (p96z8 P K weights1 kind2 x23 undef h)) := (CutP_def _ _ _ _).trans (by kernel_rfl)
theorem q96z18 (weights1 kind2 x37 x40 : Value) (h : Heap) : p96z18 P K weights1 kind2 x37 x40 h =
 (OP (iPick x37 (.bool true) x40) fun x41 =>
 IfP x41
 (K (.tuple #[(.slice none 0 0), (.int .i64 (0)), (.int .i64 (1))]) h)
 (OP (iLenSl weights1) fun x44 =>
 OP (iBin .add x44 (.int .i64 (1))) fun x46 =>
 OH (iMake 34 24 [(.slice none 0 0)] h x46 x46) fun x47 h_1 =>
 OH (iMake 3 8 [(.int .i64 (0))] h_1 (.int .i64 (1025)) (.int .i64 (1025))) fun x50 h_2 =>
 OP (iAdrSl 1 x47 x44) fun x51 =>
 OH (oStore 1 h_2 x51 x50) fun _ h_3 =>
 OP (iBin .sub x44 (.int .i64 (1))) fun x53 =>
 LoopP [x53] h_3 fun L1 xs hx =>
 p96z27 P K weights1 (.func (.func 118) #[] #[kind2]) x47 L1 xs hx)) := (CutP_def _ _ _ _).trans (by kernel_rfl)
theorem q96z16 (weights1 kind2 x37 : Value) (h : Heap) : p96z16 P K weights1 kind2 x37 h =
 (GdP x37 false
 (CallP P 103 [weights1] h fun x39 h_1 =>
 OP (iBin .gtr x39 (.int .i64 (1000))) fun x40 =>
 p96z18 P K weights1 kind2 x37 x40 h_1)
 (p96z18 P K weights1 kind2 x37 undef h)) := (CutP_def _ _ _ _).trans (by kernel_rfl)
theorem q96z14 (weights1 kind2 x32 x35 : Value) (h : Heap) : p96z14 P K weights1 kind2 x32 x35 h =
 (OP (iPick x32 (.bool true) x35) fun x36 =>
 p96z16 P K weights1 kind2 x36 h) := (CutP_def _ _ _ _).trans (by kernel_rfl)
theorem q96z12 (weights1 kind2 x32 : Value) (h : Heap) : p96z12 P K weights1 kind2 x32 h =
 (GdP x32 false
 (CallP P 102 [weights1] h fun x34 h_1 =>
 OP (iBin .lss x34 (.int .i64 (0))) fun x35 =>
 p96z14 P K weights1 kind2 x32 x35 h_1)
 (p96z14 P K weights1 kind2 x32 undef h)) := (CutP_def _ _ _ _).trans (by kernel_rfl)
theorem q96z50 (weights1 after7 least9 i10 at11 l12 x67 x68 : Value) (L1 L2 L3 : LK) (h : Heap) : p96z50 P K weights1 after7 least9 i10 at11 l12 x67 x68 L1 L2 L3 h =
 (OP (iBin .add l12 (.int .i64 (1))) fun x74 =>
 ([weights1, after7, least9, i10, at11, x67, x68] : List Value) = [weights1, after7, least9, i10, at11, x67, x68] ∧ L3 [x74] h) := (CutP_def _ _ _ _).trans (by kernel_rfl)
theorem q96z43 (weights1 after7 least9 i10 at11 x67 x68 : Value) (L1 L2 L3 : LK) (l12 : Value) (h : Heap) : p96z43 P K weights1 after7 least9 i10 at11 x67 x68 L1 L2 L3 [l12] h =
 (OP (iBin .leq l12 (.int .i64 (10))) fun x72 =>
 IfP x72
 (CallVP P after7 [at11, l12] h fun x78 h_1 =>
 OP (iBin .leq x78 (.int .i64 (1024))) fun x80 =>
 IfP x80
 (OP (iAdrSl 1 least9 i10) fun x83 =>
 OP (iLoad false 1 h_1 x83) fun x84 =>
 (True) ∧
 OP (iAdrSl 1 least9 i10) fun x88 =>
 OP (iLoad false 1 h_1 x88) fun x89 =>
 (True) ∧
 OP (iAdrSl 1 x89 at11) fun x91 =>
 OP (iLoad false 1 h_1 x91) fun x92 =>
 (True) ∧
 OP (iAdrSl 1 weights1 i10) fun x95 =>
 OP (iLoad false 1 h_1 x95) fun x96 =>
 (True) ∧
 OP (iBin .mul x96 l12) fun x98 =>
 OP (iBin .add i10 (.int .i64 (1))) fun x101 =>
 OP (iAdrSl 1 least9 x101) fun x102 =>
 OP (iLoad false 1 h_1 x102) fun x103 =>
 (True) ∧
 OP (iAdrSl 1 x103 x78) fun x105 =>
 OP (iLoad false 1 h_1 x105) fun x106 =>
 (True) ∧
 OP (iBin .add x98 x106) fun x107 =>
 OP (iMinmax false [x92, x107]) fun x108 =>
 OP (iAdrSl 1 x84 at11) fun x109 =>
 OH (oStore 1 h_1 x109 x108) fun _ h_2 =>
 (True) ∧
 p96z50 P K weights1 after7 least9 i10 at11 l12 x67 x68 L1 L2 L3 h_2)
 (p96z50 P K weights1 after7 least9 i10 at11 l12 x67 x68 L1 L2 L3 h_1))
 (p96z51 P K weights1 after7 least9 i10 x67 x68 L1 L2 h)) := (CutP_def _ _ _ _).trans (by kernel_rfl)
theorem q96z51 (weights1 after7 least9 i10 x67 x68 : Value) (L1 L2 : LK) (h : Heap) : p96z51 P K weights1 after7 least9 i10 x67 x68 L1 L2 h =
 (OP (iBin .add x68 (.int .i64 (1))) fun x110 =>
 ([weights1, after7, least9, i10, x67] : List Value) = [weights1, after7, least9, i10, x67] ∧ L2 [x110] h) := (CutP_def _ _ _ _).trans (by kernel_rfl)
theorem q96z35 (weights1 after7 least9 i10 x67 : Value) (L1 L2 : LK) (x68 : Value) (h : Heap) : p96z35 P K weights1 after7 least9 i10 x67 L1 L2 [x68] h =
 (OP (iBin .lss x68 x67) fun x69 =>
 IfP x69
 (LoopP [(.int .i64 (1))] h fun L3 xs hx =>
 p96z43 P K weights1 after7 least9 i10 x68 x67 x68 L1 L2 L3 xs hx)
 (p96z52 P K weights1 after7 least9 i10 L1 h)) := (CutP_def _ _ _ _).trans (by kernel_rfl)
theorem q96z52 (weights1 after7 least9 i10 : Value) (L1 : LK) (h : Heap) : p96z52 P K weights1 after7 least9 i10 L1 h =
 (OP (iBin .sub i10 (.int .i64 (1))) fun x57 =>
 ([weights1, after7, least9] : List Value) = [weights1, after7, least9] ∧ L1 [x57] h) := (CutP_def _ _ _ _).trans (by kernel_rfl)
theorem q96z27 (weights1 after7 least9 : Value) (L1 : LK) (i10 : Value) (h : Heap) : p96z27 P K weights1 after7 least9 L1 [i10] h =
 (OP (iBin .geq i10 (.int .i64 (0))) fun x55 =>
 IfP x55
 (OH (iMkSl 3 1 [(.int .i64 (0))] h [(0, 1, (.int .i64 (240000)))]) fun x60 h_1 =>
 CallP P 119 [x60, (.int .i64 (1025))] h_1 fun x61 h_2 =>
 OP (iAdrSl 1 least9 i10) fun x62 =>
 OH (oStore 1 h_2 x62 x61) fun _ h_3 =>
 OP (iAdrSl 1 least9 i10) fun x65 =>
 OP (iLoad false 1 h_3 x65) fun x66 =>
 OP (iLenSl x66) fun x67 =>
 LoopP [(.int .i64 (0))] h_3 fun L2 xs hx =>
 p96z35 P K weights1 after7 least9 i10 x67 L1 L2 xs hx)
 (p96z53 P K weights1 after7 least9 h)) := (CutP_def _ _ _ _).trans (by kernel_rfl)
theorem q96z67 (after7 least9 i16 w17 x111 x112 x113 : Value) (L1 L2 : LK) (out14 at15 l18 : Value) (h : Heap) : p96z67 P K after7 least9 i16 w17 x111 x112 x113 L1 L2 [out14, at15, l18] h =
 (OP (iBin .leq l18 (.int .i64 (10))) fun x119 =>
 IfP x119
 (CallVP P after7 [at15, l18] h fun x125 h_1 =>
 OP (iBin .leq x125 (.int .i64 (1024))) fun x127 =>
 GdP x127 true
 (OP (iBin .mul w17 l18) fun x131 =>
 OP (iBin .add i16 (.int .i64 (1))) fun x134 =>
 OP (iAdrSl 1 least9 x134) fun x135 =>
 OP (iLoad false 1 h_1 x135) fun x136 =>
 (True) ∧
 OP (iAdrSl 1 x136 x125) fun x138 =>
 OP (iLoad false 1 h_1 x138) fun x139 =>
 (True) ∧
 OP (iBin .add x131 x139) fun x140 =>
 OP (iAdrSl 1 least9 i16) fun x143 =>
 OP (iLoad false 1 h_1 x143) fun x144 =>
 (True) ∧
 OP (iAdrSl 1 x144 at15) fun x146 =>
 OP (iLoad false 1 h_1 x146) fun x147 =>
 (True) ∧
 OP (iBin .eql x140 x147) fun x148 =>
 OP (iPick x127 x148 (.bool false)) fun x149 =>
 IfP x149
 (OH (iMkSl 3 1 [(.int .i64 (0))] h_1 [(0, 1, l18)]) fun x152 h_2 =>
 OH (iApp 3 1 8 h_2 out14 x152) fun x153 h_3 =>
 p96z75 P K after7 least9 x153 x125 x111 x112 x113 L1 h_3)
 (OP (iBin .add l18 (.int .i64 (1))) fun x121 =>
 ([after7, least9, i16, w17, x111, x112, x113] : List Value) = [after7, least9, i16, w17, x111, x112, x113] ∧ L2 [out14, at15, x121] h_1))
 (OP (iPick x127 undef (.bool false)) fun x149 =>
 IfP x149
 (OH (iMkSl 3 1 [(.int .i64 (0))] h_1 [(0, 1, l18)]) fun x152 h_2 =>
 OH (iApp 3 1 8 h_2 out14 x152) fun x153 h_3 =>
 p96z75 P K after7 least9 x153 x125 x111 x112 x113 L1 h_3)
 (OP (iBin .add l18 (.int .i64 (1))) fun x121 =>
 ([after7, least9, i16, w17, x111, x112, x113] : List Value) = [after7, least9, i16, w17, x111, x112, x113] ∧ L2 [out14, at15, x121] h_1)))
 (p96z75 P K after7 least9 out14 at15 x111 x112 x113 L1 h)) := (CutP_def _ _ _ _).trans (by kernel_rfl)
theorem q96z75 (after7 least9 out14 at15 x111 x112 x113 : Value) (L1 : LK) (h : Heap) : p96z75 P K after7 least9 out14 at15 x111 x112 x113 L1 h =
 (OP (iBin .add x113 (.int .i64 (1))) fun x155 =>
 ([after7, least9, x111, x112] : List Value) = [after7, least9, x111, x112] ∧ L1 [out14, at15, x155] h) := (CutP_def _ _ _ _).trans (by kernel_rfl)
theorem q96z59 (after7 least9 x111 x112 : Value) (L1 : LK) (out14 at15 x113 : Value) (h : Heap) : p96z59 P K after7 least9 x111 x112 L1 [out14, at15, x113] h =
 (OP (iBin .lss x113 x112) fun x114 =>
 IfP x114
 (OP (iAdrSl 1 x111 x113) fun x116 =>
 OP (iLoad false 1 h x116) fun x117 =>
 LoopP [out14, at15, (.int .i64 (1))] h fun L2 xs hx =>
 p96z67 P K after7 least9 x113 x117 x111 x112 x113 L1 L2 xs hx)
 (p96z76 P K least9 out14 h)) := (CutP_def _ _ _ _).trans (by kernel_rfl)
theorem q96z76 (least9 out14 : Value) (h : Heap) : p96z76 P K least9 out14 h =
 (OP (iAdrSl 1 least9 (.int .i64 (0))) fun x158 =>
 OP (iLoad false 1 h x158) fun x159 =>
 (True) ∧
 OP (iAdrSl 1 x159 (.int .i64 (0))) fun x160 =>
 OP (iLoad false 1 h x160) fun x161 =>
 (True) ∧
 K (.tuple #[out14, x161, (.int .i64 (0))]) h) := (CutP_def _ _ _ _).trans (by kernel_rfl)
theorem q96z53 (weights1 after7 least9 : Value) (h : Heap) : p96z53 P K weights1 after7 least9 h =
 (OP (iLenSl weights1) fun x112 =>
 LoopP [(.slice none 0 0), (.int .i64 (0)), (.int .i64 (0))] h fun L1 xs hx =>
 p96z59 P K after7 least9 weights1 x112 L1 xs hx) := (CutP_def _ _ _ _).trans (by kernel_rfl)
def T96 (kind0 weights1 : Value) (h : Heap) : Prop :=
 OH (iBox 3 h kind0) fun kind2 h_1 =>
 OP (iLoad false 1 h_1 kind2) fun x21 =>
 OP (iBin .geq x21 (.int .i64 (2))) fun x22 =>
 p96z6 P K weights1 kind2 x22 h_1
theorem e96 (kind0 weights1 : Value) (h : Heap) : iwpP P c96 (bodyP [.tmp 4, .tmp 5, .tmp 6] K) (frame0 [kind0, weights1]) h = T96 P K kind0 weights1 h := by kernel_rfl
theorem f96 {K : VK} {kind0 weights1 : Value} {h : Heap} (H : T96 Tryz.prog K kind0 weights1 h) : CallP Tryz.prog 96 [kind0, weights1] h K :=
 callP_intro k96 (Nat.le_of_ble_eq_true rfl) ((e96 Tryz.prog K kind0 weights1 h).mpr H)
/-! F102: slices.Min[[]int,int] -/
noncomputable def oc102 := compFn Tryz.prog 102 [[], [], [0], [], [], [0], [3, 4], [], [], [], [3], []]
@[irreducible] noncomputable def c102 : ICode := icOf oc102
@[irreducible] noncomputable def c102z4 : ICode := c102.r.r.l
@[irreducible] noncomputable def c102z9 : ICode := c102z4.r.l.r.l.l
@[irreducible] noncomputable def c102z6 : ICode := c102z4.r.r
@[irreducible] noncomputable def c102z14 : ICode := c102z6.l
theorem k102 : oc102 = some (25, c102, [.tmp 2]) := by kernel_rfl
def K102z0 (_P : Program) (K : VK) : Kont := bodyP [.tmp 2] K
def K102z6 : Kont := thenK (iwpP P c102z6 (K102z0 P K)) (K102z0 P K)
def K102z8 : Kont := inBlockK 0 (K102z6 P K)
def K102z9 (x0 : Value) (L1 : LK) : Kont := thenK (fun f' h'' => (([0] : List Nat).map f' : List Value) = [x0] ∧ L1 (([3, 4] : List Nat).map f') h'') (K102z8 P K)
def p102z4 (x0 : Value) (h : Heap) : Prop := CutP (iwpP P c102z4 (K102z0 P K)) [0] [x0] h
def p102z9 (x0 : Value) (L1 : LK) (xs : List Value) (h : Heap) : Prop := CutP (iwpP P c102z9 (K102z9 P K x0 L1)) ([0] ++ [3, 4]) ([x0] ++ xs) h
def p102z14 (m3 : Value) (h : Heap) : Prop := CutP (iwpP P c102z14 (K102z0 P K)) [3] [m3] h
theorem q102z9 (x0 : Value) (L1 : LK) (m3 i4 : Value) (h : Heap) : p102z9 P K x0 L1 [m3, i4] h =
 (OP (iLenSl x0) fun x14 =>
 OP (iBin .lss i4 x14) fun x15 =>
 IfP x15
 (OP (iAdrSl 1 x0 i4) fun x21 =>
 OP (iLoad false 1 h x21) fun x22 =>
 OP (iMinmax false [m3, x22]) fun x23 =>
 OP (iBin .add i4 (.int .i64 (1))) fun x17 =>
 ([x0] : List Value) = [x0] ∧ L1 [x23, x17] h)
 (p102z14 P K m3 h)) := (CutP_def _ _ _ _).trans (by kernel_rfl)
theorem q102z14 (m3 : Value) (h : Heap) : p102z14 P K m3 h =
 (K m3 h) := (CutP_def _ _ _ _).trans (by kernel_rfl)
theorem q102z4 (x0 : Value) (h : Heap) : p102z4 P K x0 h =
 (OP (iAdrSl 1 x0 (.int .i64 (0))) fun x10 =>
 OP (iLoad false 1 h x10) fun x11 =>
 LoopP [x11, (.int .i64 (1))] h fun L1 xs hx =>
 p102z9 P K x0 L1 xs hx) := (CutP_def _ _ _ _).trans (by kernel_rfl)
def T102 (x0 : Value) (h : Heap) : Prop :=
 OP (iLenSl x0) fun x6 =>
 OP (iBin .lss x6 (.int .i64 (1))) fun x7 =>
 IfP x7
 (OH none fun x8 h_1 =>
 OH none fun _ h_2 =>
 p102z4 P K x0 h_2)
 (p102z4 P K x0 h)
theorem e102 (x0 : Value) (h : Heap) : iwpP P c102 (bodyP [.tmp 2] K) (frame0 [x0]) h = T102 P K x0 h := by kernel_rfl
theorem f102 {K : VK} {x0 : Value} {h : Heap} (H : T102 Tryz.prog K x0 h) : CallP Tryz.prog 102 [x0] h K :=
 callP_intro k102 (Nat.le_of_ble_eq_true rfl) ((e102 Tryz.prog K x0 h).mpr H)
/-! F103: slices.Max[[]int,int] -/
noncomputable def oc103 := compFn Tryz.prog 103 [[], [], [0], [], [], [0], [3, 4], [], [], [], [3], []]
@[irreducible] noncomputable def c103 : ICode := icOf oc103
@[irreducible] noncomputable def c103z4 : ICode := c103.r.r.l
@[irreducible] noncomputable def c103z9 : ICode := c103z4.r.l.r.l.l
@[irreducible] noncomputable def c103z6 : ICode := c103z4.r.r
@[irreducible] noncomputable def c103z14 : ICode := c103z6.l
theorem k103 : oc103 = some (25, c103, [.tmp 2]) := by kernel_rfl
def K103z0 (_P : Program) (K : VK) : Kont := bodyP [.tmp 2] K
def K103z6 : Kont := thenK (iwpP P c103z6 (K103z0 P K)) (K103z0 P K)
def K103z8 : Kont := inBlockK 0 (K103z6 P K)
def K103z9 (x0 : Value) (L1 : LK) : Kont := thenK (fun f' h'' => (([0] : List Nat).map f' : List Value) = [x0] ∧ L1 (([3, 4] : List Nat).map f') h'') (K103z8 P K)
def p103z4 (x0 : Value) (h : Heap) : Prop := CutP (iwpP P c103z4 (K103z0 P K)) [0] [x0] h
def p103z9 (x0 : Value) (L1 : LK) (xs : List Value) (h : Heap) : Prop := CutP (iwpP P c103z9 (K103z9 P K x0 L1)) ([0] ++ [3, 4]) ([x0] ++ xs) h
def p103z14 (m3 : Value) (h : Heap) : Prop := CutP (iwpP P c103z14 (K103z0 P K)) [3] [m3] h
theorem q103z9 (x0 : Value) (L1 : LK) (m3 i4 : Value) (h : Heap) : p103z9 P K x0 L1 [m3, i4] h =
 (OP (iLenSl x0) fun x14 =>
 OP (iBin .lss i4 x14) fun x15 =>
 IfP x15
 (OP (iAdrSl 1 x0 i4) fun x21 =>
 OP (iLoad false 1 h x21) fun x22 =>
 OP (iMinmax true [m3, x22]) fun x23 =>
 OP (iBin .add i4 (.int .i64 (1))) fun x17 =>
 ([x0] : List Value) = [x0] ∧ L1 [x23, x17] h)
 (p103z14 P K m3 h)) := (CutP_def _ _ _ _).trans (by kernel_rfl)
theorem q103z14 (m3 : Value) (h : Heap) : p103z14 P K m3 h =
 (K m3 h) := (CutP_def _ _ _ _).trans (by kernel_rfl)
theorem q103z4 (x0 : Value) (h : Heap) : p103z4 P K x0 h =
 (OP (iAdrSl 1 x0 (.int .i64 (0))) fun x10 =>
 OP (iLoad false 1 h x10) fun x11 =>
 LoopP [x11, (.int .i64 (1))] h fun L1 xs hx =>
 p103z9 P K x0 L1 xs hx) := (CutP_def _ _ _ _).trans (by kernel_rfl)
def T103 (x0 : Value) (h : Heap) : Prop :=
 OP (iLenSl x0) fun x6 =>
 OP (iBin .lss x6 (.int .i64 (1))) fun x7 =>
 IfP x7
 (OH none fun x8 h_1 =>
 OH none fun _ h_2 =>
 p103z4 P K x0 h_2)
 (p103z4 P K x0 h)
theorem e103 (x0 : Value) (h : Heap) : iwpP P c103 (bodyP [.tmp 2] K) (frame0 [x0]) h = T103 P K x0 h := by kernel_rfl
theorem f103 {K : VK} {x0 : Value} {h : Heap} (H : T103 Tryz.prog K x0 h) : CallP Tryz.prog 103 [x0] h K :=
 callP_intro k103 (Nat.le_of_ble_eq_true rfl) ((e103 Tryz.prog K x0 h).mpr H)
/-! F118: pommel/mark.best$1 -/
noncomputable def oc118 := compFn Tryz.prog 118 [[], [], [0, 1], []]
@[irreducible] noncomputable def c118 : ICode := icOf oc118
@[irreducible] noncomputable def c118z4 : ICode := c118.r.r.l
theorem k118 : oc118 = some (15, c118, [.tmp 5]) := by kernel_rfl
def K118z0 (_P : Program) (K : VK) : Kont := bodyP [.tmp 5] K
def p118z4 (at0 length1 : Value) (h : Heap) : Prop := CutP (iwpP P c118z4 (K118z0 P K)) [0, 1] [at0, length1] h
theorem q118z4 (at0 length1 : Value) (h : Heap) : p118z4 P K at0 length1 h =
 (CallP P 66 [length1] h fun x13 h_1 =>
 OP (iBin .add at0 x13) fun x14 =>
 K x14 h_1) := (CutP_def _ _ _ _).trans (by kernel_rfl)
def T118 (at0 length1 x2 : Value) (h : Heap) : Prop :=
 OP (iLoad false 1 h x2) fun x6 =>
 OP (iBin .eql x6 (.int .i64 (1))) fun x7 =>
 IfP x7
 (CallP P 69 [at0, length1] h fun x10 h_1 =>
 p118z4 P K x10 length1 h_1)
 (p118z4 P K at0 length1 h)
theorem e118 (at0 length1 x2 : Value) (h : Heap) : iwpP P c118 (bodyP [.tmp 5] K) (frame0 [at0, length1, x2]) h = T118 P K at0 length1 x2 h := by kernel_rfl
theorem f118 {K : VK} {at0 length1 x2 : Value} {h : Heap} (H : T118 Tryz.prog K at0 length1 x2 h) : CallP Tryz.prog 118 [at0, length1, x2] h K :=
 callP_intro k118 (Nat.le_of_ble_eq_true rfl) ((e118 Tryz.prog K at0 length1 x2 h).mpr H)
/-! F119: slices.Repeat[[]int,int] -/
noncomputable def oc119 := compFn Tryz.prog 119 [[], [], [0, 1], [], [0, 6, 23], [0, 6, 23, 25], [], [0, 6], [], [], [7], [8], [], [], [7], []]
@[irreducible] noncomputable def c119 : ICode := icOf oc119
@[irreducible] noncomputable def c119z4 : ICode := c119.r.r.l
@[irreducible] noncomputable def c119z9 : ICode := c119z4.r.l.l.r.l
@[irreducible] noncomputable def c119z7 : ICode := c119z4.r.l.r
@[irreducible] noncomputable def c119z6 : ICode := c119z4.r.r
@[irreducible] noncomputable def c119z11 : ICode := c119z9.r.l
@[irreducible] noncomputable def c119z12 : ICode := c119z6.l
@[irreducible] noncomputable def c119z17 : ICode := c119z12.r.r.l.l.l
@[irreducible] noncomputable def c119z15 : ICode := c119z12.r.r.r
@[irreducible] noncomputable def c119z21 : ICode := c119z15.l
theorem k119 : oc119 = some (48, c119, [.tmp 4]) := by kernel_rfl
def K119z0 (_P : Program) (K : VK) : Kont := bodyP [.tmp 4] K
def K119z6 : Kont := thenK (iwpP P c119z6 (K119z0 P K)) (K119z0 P K)
def K119z7 : Kont := thenK (iwpP P c119z7 (K119z6 P K)) (K119z6 P K)
def K119z15 : Kont := thenK (iwpP P c119z15 (K119z0 P K)) (K119z0 P K)
def K119z16 : Kont := inBlockK 0 (K119z15 P K)
def K119z17 (newslice7 : Value) (L1 : LK) : Kont := thenK (fun f' h'' => (([7] : List Nat).map f' : List Value) = [newslice7] ∧ L1 (([8] : List Nat).map f') h'') (K119z16 P K)
def p119z4 (x0 count1 : Value) (h : Heap) : Prop := CutP (iwpP P c119z4 (K119z0 P K)) [0, 1] [x0, count1] h
def p119z9 (x0 lo6 x23 : Value) (h : Heap) : Prop := CutP (iwpP P c119z9 (K119z7 P K)) [0, 6, 23] [x0, lo6, x23] h
def p119z11 (x0 lo6 x23 x25 : Value) (h : Heap) : Prop := CutP (iwpP P c119z11 (K119z7 P K)) [0, 6, 23, 25] [x0, lo6, x23, x25] h
def p119z12 (x0 lo6 : Value) (h : Heap) : Prop := CutP (iwpP P c119z12 (K119z0 P K)) [0, 6] [x0, lo6] h
def p119z17 (newslice7 : Value) (L1 : LK) (xs : List Value) (h : Heap) : Prop := CutP (iwpP P c119z17 (K119z17 P K newslice7 L1)) ([7] ++ [8]) ([newslice7] ++ xs) h
def p119z21 (newslice7 : Value) (h : Heap) : Prop := CutP (iwpP P c119z21 (K119z0 P K)) [7] [newslice7] h
theorem q119z11 (x0 lo6 x23 x25 : Value) (h : Heap) : p119z11 P K x0 lo6 x23 x25 h =
 (OP (iPick x23 (.bool true) x25) fun x26 =>
 IfP x26
 (OH none fun x27 h_1 =>
 OH none fun _ h_2 =>
 p119z12 P K x0 lo6 h_2)
 (p119z12 P K x0 lo6 h)) := (CutP_def _ _ _ _).trans (by kernel_rfl)
theorem q119z9 (x0 lo6 x23 : Value) (h : Heap) : p119z9 P K x0 lo6 x23 h =
 (GdP x23 false
 (OP (iBin .gtr lo6 (.int .u64 (9223372036854775807))) fun x25 =>
 p119z11 P K x0 lo6 x23 x25 h)
 (p119z11 P K x0 lo6 x23 undef h)) := (CutP_def _ _ _ _).trans (by kernel_rfl)
theorem q119z17 (newslice7 : Value) (L1 : LK) (n8 : Value) (h : Heap) : p119z17 P K newslice7 L1 [n8] h =
 (OP (iLenSl newslice7) fun x36 =>
 OP (iBin .lss n8 x36) fun x37 =>
 IfP x37
 (OP (iSlSl 3 1 newslice7 (some n8) none) fun x41 =>
 OP (iSlSl 3 1 newslice7 none (some n8)) fun x44 =>
 OH (iCopy h x41 x44) fun x45 h_1 =>
 (True) ∧
 OP (iBin .add n8 x45) fun x46 =>
 ([newslice7] : List Value) = [newslice7] ∧ L1 [x46] h_1)
 (p119z21 P K newslice7 h)) := (CutP_def _ _ _ _).trans (by kernel_rfl)
theorem q119z21 (newslice7 : Value) (h : Heap) : p119z21 P K newslice7 h =
 (K newslice7 h) := (CutP_def _ _ _ _).trans (by kernel_rfl)
theorem q119z12 (x0 lo6 : Value) (h : Heap) : p119z12 P K x0 lo6 h =
 (OP (iConv .i64 lo6) fun x29 =>
 OH (iMake 3 8 [(.int .i64 (0))] h x29 x29) fun x30 h_1 =>
 OH (iCopy h_1 x30 x0) fun x33 h_2 =>
 LoopP [x33] h_2 fun L1 xs hx =>
 p119z17 P K x30 L1 xs hx) := (CutP_def _ _ _ _).trans (by kernel_rfl)
theorem q119z4 (x0 count1 : Value) (h : Heap) : p119z4 P K x0 count1 h =
 (OP (iLenSl x0) fun x14 =>
 OP (iConv .u64 x14) fun x15 =>
 OP (iConv .u64 count1) fun x17 =>
 CallP P 146 [x15, x17] h fun x18 h_1 =>
 OP (iExt 0 x18) fun x19 =>
 OP (iExt 1 x18) fun x20 =>
 OP (iBin .gtr x19 (.int .u64 (0))) fun x22 =>
 p119z9 P K x0 x20 x22 h_1) := (CutP_def _ _ _ _).trans (by kernel_rfl)
def T119 (x0 count1 : Value) (h : Heap) : Prop :=
 OP (iBin .lss count1 (.int .i64 (0))) fun x10 =>
 IfP x10
 (OH none fun x11 h_1 =>
 OH none fun _ h_2 =>
 p119z4 P K x0 count1 h_2)
 (p119z4 P K x0 count1 h)
theorem e119 (x0 count1 : Value) (h : Heap) : iwpP P c119 (bodyP [.tmp 4] K) (frame0 [x0, count1]) h = T119 P K x0 count1 h := by kernel_rfl
theorem f119 {K : VK} {x0 count1 : Value} {h : Heap} (H : T119 Tryz.prog K x0 count1 h) : CallP Tryz.prog 119 [x0, count1] h K :=
 callP_intro k119 (Nat.le_of_ble_eq_true rfl) ((e119 Tryz.prog K x0 count1 h).mpr H)
/-! F146: math/bits.Mul -/
/-! F163: math/bits.Mul64 -/
end Go.Proofs.YthplaillblmgfaaGreatDoor

namespace Go.Sim

def rmN (l : Nat) : Nat := 1024 / 2 ^ l
def fitN (at_ l : Nat) : Nat := (at_ + rmN l - 1) / rmN l * rmN l
def aft (r : Bool) (at_ l : Nat) : Nat := (if r then fitN at_ l else at_) + rmN l

def omin : Option Int → Option Int → Option Int
  | none, y => y
  | x, none => x
  | some a, some b => some (min a b)

def stp (r : Bool) (nx : Nat → Option Int) (w : Int) (at_ l : Nat) : Option Int := if aft r at_ l ≤ 1024 then (nx (aft r at_ l)).map (w * l + ·) else none

def lcS (r : Bool) (nx : Nat → Option Int) (w : Int) (at_ : Nat) : Nat → Option Int
  | 0 => none
  | l + 1 => omin (lcS r nx w at_ l) (stp r nx w at_ (l + 1))

def lc (r : Bool) : List Int → Nat → Option Int
  | [] => fun _ => some 0
  | w :: ws => fun at_ => lcS r (lc r ws) w at_ 10

theorem lc_cons (r : Bool) (w : Int) (ws : List Int) (at_ : Nat) : lc r (w :: ws) at_ = lcS r (lc r ws) w at_ 10 := rfl

def fstL (r : Bool) (nx : Nat → Option Int) (w : Int) (at_ : Nat) (v : Option Int) : Nat → Nat → Option Nat
  | 0, _ => none
  | k + 1, l => if stp r nx w at_ l = v then some l else fstL r nx w at_ v k (l + 1)

def chS (r : Bool) (nx : Nat → List Nat) (at_ : Nat) : Option Nat → List Nat
  | some l => l :: nx (aft r at_ l)
  | none => nx at_

def chL (r : Bool) : List Int → Nat → List Nat
  | [] => fun _ => []
  | w :: ws => fun at_ => chS r (chL r ws) at_ (fstL r (lc r ws) w at_ (lcS r (lc r ws) w at_ 10) 10 1)

theorem chL_cons (r : Bool) (w : Int) (ws : List Int) (at_ : Nat) : chL r (w :: ws) at_ = chS r (chL r ws) at_ (fstL r (lc r ws) w at_ (lc r (w :: ws) at_) 10 1) := rfl

theorem omin_none (x : Option Int) : omin x none = x := by cases x <;> rfl

theorem omin_cases (x y : Option Int) : omin x y = x ∨ omin x y = y := by
  cases x with
  | none => right; rfl
  | some a =>
    cases y with
    | none => left; rfl
    | some b =>
      simp only [omin, Option.some.injEq]
      omega

theorem omin_some {x y : Option Int} (h : x.isSome = true ∨ y.isSome = true) : (omin x y).isSome = true := by
  cases x <;> cases y <;> simp [omin] at *

theorem lcS_mem {r : Bool} {nx : Nat → Option Int} {w : Int} {at_ : Nat} : ∀ {n : Nat} {v : Int}, lcS r nx w at_ n = some v → ∃ l, 1 ≤ l ∧ l ≤ n ∧ stp r nx w at_ l = some v
  | 0, v, h => by simp [lcS] at h
  | n + 1, v, h => by
    simp only [lcS] at h
    rcases omin_cases (lcS r nx w at_ n) (stp r nx w at_ (n + 1)) with e | e
    · rw [e] at h
      obtain ⟨l, h1, h2, h3⟩ := lcS_mem h
      exact ⟨l, h1, by omega, h3⟩
    · rw [e] at h
      exact ⟨n + 1, by omega, Nat.le_refl _, h⟩

theorem lcS_some {r : Bool} {nx : Nat → Option Int} {w : Int} {at_ : Nat} : ∀ {n l : Nat}, 1 ≤ l → l ≤ n → (stp r nx w at_ l).isSome = true → (lcS r nx w at_ n).isSome = true
  | 0, l, h1, h2, _ => by omega
  | n + 1, l, h1, h2, h3 => by
    simp only [lcS]
    apply omin_some
    by_cases hl : l = n + 1
    · subst hl; exact .inr h3
    · exact .inl (lcS_some h1 (by omega) h3)

theorem stp_some {r : Bool} {nx : Nat → Option Int} {w : Int} {at_ l : Nat} {v : Int} (h : stp r nx w at_ l = some v) : aft r at_ l ≤ 1024 ∧ ∃ u, nx (aft r at_ l) = some u ∧ v = w * l + u := by
  unfold stp at h
  split at h
  · rename_i h1
    simp only [Option.map_eq_some_iff] at h
    obtain ⟨u, h2, h3⟩ := h
    exact ⟨h1, u, h2, h3.symm⟩
  · cases h

def okW (ws : List Int) : Prop := ∀ w ∈ ws, 0 ≤ w ∧ w ≤ 1000

theorem lc_bound {r : Bool} {ws : List Int} : ∀ {at_ : Nat} {v : Int}, okW ws → lc r ws at_ = some v → 0 ≤ v ∧ v ≤ 10000 * ws.length := by
  induction ws with
  | nil => intro at_ v _ h; simp [lc] at h; subst h; simp
  | cons w ws ih =>
    intro at_ v hw h
    rw [lc_cons] at h
    obtain ⟨l, h1, h2, h3⟩ := lcS_mem h
    obtain ⟨_, u, h4, rfl⟩ := stp_some h3
    have := ih (fun x hx => hw x (by simp [hx])) h4
    obtain ⟨w0, w1⟩ := hw w (by simp)
    have q1 : 0 ≤ w * (l : Int) := Int.mul_nonneg w0 (by omega)
    have q2 : w * (l : Int) ≤ 1000 * 10 := Int.mul_le_mul w1 (by omega) (by omega) (by omega)
    simp only [List.length_cons]
    omega

theorem fstL_some {r : Bool} {nx : Nat → Option Int} {w : Int} {at_ : Nat} {v : Option Int} : ∀ {k l m : Nat}, fstL r nx w at_ v k l = some m → l ≤ m ∧ m < l + k ∧ stp r nx w at_ m = v
  | 0, l, m, h => by simp [fstL] at h
  | k + 1, l, m, h => by
    simp only [fstL] at h
    split at h
    · rename_i h1
      cases h
      exact ⟨Nat.le_refl _, by omega, h1⟩
    · have := fstL_some h
      exact ⟨by omega, by omega, this.2.2⟩

theorem fstL_ex {r : Bool} {nx : Nat → Option Int} {w : Int} {at_ : Nat} {v : Option Int} : ∀ {k l m : Nat}, l ≤ m → m < l + k → stp r nx w at_ m = v → ∃ j, fstL r nx w at_ v k l = some j
  | 0, l, m, h1, h2, _ => by omega
  | k + 1, l, m, h1, h2, h3 => by
    simp only [fstL]
    split
    · exact ⟨_, rfl⟩
    · rename_i hne
      have : l ≠ m := by rintro rfl; exact hne h3
      exact fstL_ex (m := m) (by omega) (by omega) h3

theorem ch_step {r : Bool} {w : Int} {ws : List Int} {at_ : Nat} {v : Int} (h : lc r (w :: ws) at_ = some v) :
    ∃ l u, fstL r (lc r ws) w at_ (some v) 10 1 = some l ∧ 1 ≤ l ∧ l ≤ 10 ∧ aft r at_ l ≤ 1024 ∧ lc r ws (aft r at_ l) = some u ∧ v = w * l + u ∧ chL r (w :: ws) at_ = l :: chL r ws (aft r at_ l) := by
  have h' := h
  rw [lc_cons] at h'
  obtain ⟨l, h1, h2, h3⟩ := lcS_mem h'
  obtain ⟨j, hj⟩ := fstL_ex (r := r) (nx := lc r ws) (w := w) (at_ := at_) (k := 10) (l := 1) h1 (by omega) h3
  obtain ⟨j1, j2, j3⟩ := fstL_some hj
  obtain ⟨q1, u, q2, q3⟩ := stp_some j3
  refine ⟨j, u, hj, j1, by omega, q1, q2, q3, ?_⟩
  rw [chL_cons, h, hj]
  rfl

theorem lc_some {r : Bool} {ws : List Int} : ∀ {k : Nat}, k + ws.length ≤ 16 → (lc r ws (64 * k)).isSome = true := by
  induction ws with
  | nil => intro k _; rfl
  | cons w ws ih =>
    intro k h
    simp only [List.length_cons] at h
    rw [lc_cons]
    refine lcS_some (l := 4) (by decide) (by decide) ?_
    have e : aft r (64 * k) 4 = 64 * (k + 1) := by
      have e1 : rmN 4 = 64 := by decide
      unfold aft fitN
      rw [e1]
      cases r <;> simp <;> omega
    unfold stp
    rw [e, if_pos (by omega)]
    have := ih (k := k + 1) (by omega)
    revert this
    cases lc r ws (64 * (k + 1)) <;> simp

end Go.Sim


namespace Go.Proofs.YthplaillblmgfaaGreatDoor
open Go.Sim

theorem C66 {l : Nat} {h : Heap} {K : Value → Heap → Prop} (h1 : 1 ≤ l) (h2 : l ≤ 10) (hk : K (I (rmN l : Nat)) h) : CallP Tryz.prog 66 [I l] h K := by
  refine f66 ?_
  have e : iBin .shr (.int .i64 1024) (I l) = some (I (rmN l : Nat)) := by
    have : l = 1 ∨ l = 2 ∨ l = 3 ∨ l = 4 ∨ l = 5 ∨ l = 6 ∨ l = 7 ∨ l = 8 ∨ l = 9 ∨ l = 10 := by omega
    rcases this with rfl | rfl | rfl | rfl | rfl | rfl | rfl | rfl | rfl | rfl <;> rfl
  simp only [T66, e, OP_some]
  exact hk

theorem rmN_pos {l : Nat} (h1 : 1 ≤ l) (h2 : l ≤ 10) : 1 ≤ rmN l ∧ rmN l ≤ 512 := by
  have : l = 1 ∨ l = 2 ∨ l = 3 ∨ l = 4 ∨ l = 5 ∨ l = 6 ∨ l = 7 ∨ l = 8 ∨ l = 9 ∨ l = 10 := by omega
  rcases this with rfl | rfl | rfl | rfl | rfl | rfl | rfl | rfl | rfl | rfl <;> decide

theorem quoN (a b : Nat) (hb : b ≠ 0) (ha : a < 1000000) : iBin .quo (I a) (I b) = some (I (a / b : Nat)) := by
  have e : ((a : Int).tdiv b) = ((a / b : Nat) : Int) := Int.ofNat_tdiv a b
  have hle : a / b ≤ a := Nat.div_le_self _ _
  simp only [iBin, iInt]
  rw [if_pos trivial, if_neg (by omega), e]
  generalize a / b = q at hle ⊢
  rw [wrap64 (by omega) (by omega)]

theorem fitN_le {at_ l : Nat} (h1 : 1 ≤ l) (h2 : l ≤ 10) : at_ ≤ fitN at_ l ∧ fitN at_ l < at_ + rmN l := by
  have hp := (rmN_pos h1 h2).1
  unfold fitN
  have e := Nat.div_add_mod (at_ + rmN l - 1) (rmN l)
  have m := Nat.mod_lt (at_ + rmN l - 1) hp
  rw [Nat.mul_comm]
  generalize rmN l * ((at_ + rmN l - 1) / rmN l) = z at *
  omega

theorem C69 {at_ l : Nat} {h : Heap} {K : Value → Heap → Prop} (ha : at_ ≤ 1024) (h1 : 1 ≤ l) (h2 : l ≤ 10) (hk : K (I (fitN at_ l : Nat)) h) : CallP Tryz.prog 69 [I at_, I l] h K := by
  refine f69 (C66 h1 h2 ?_)
  obtain ⟨hp, hq⟩ := rmN_pos h1 h2
  have hf := fitN_le (at_ := at_) h1 h2
  have w1 : IntKind.wrap .i64 ((at_ : Int) + (rmN l : Nat)) = ((at_ + rmN l : Nat) : Int) := by rw [wrap64 (by omega) (by omega)]; omega
  have w2 : IntKind.wrap .i64 (((at_ + rmN l : Nat) : Int) - 1) = ((at_ + rmN l - 1 : Nat) : Int) := by rw [wrap64 (by omega) (by omega)]; omega
  have w3 : IntKind.wrap .i64 ((((at_ + rmN l - 1) / rmN l : Nat) : Int) * (rmN l : Nat)) = ((fitN at_ l : Nat) : Int) := by
    rw [← Int.natCast_mul]
    show IntKind.wrap .i64 ((fitN at_ l : Nat) : Int) = _
    exact wrap64 (by omega) (by omega)
  simp only [bin_add, bin_sub, OP_some, w1, w2, quoN _ _ (show rmN l ≠ 0 by omega) (show at_ + rmN l - 1 < 1000000 by omega), bin_mul, w3]
  exact hk

theorem C118 {r : Bool} {at_ l k : Nat} {h : Heap} {K : Value → Heap → Prop} (hc : h[k]? = some (.arr 3 [I (if r then 1 else 0)])) (ha : at_ ≤ 1024) (h1 : 1 ≤ l) (h2 : l ≤ 10) (hk : K (I (aft r at_ l : Nat)) h) : CallP Tryz.prog 118 [I at_, I l, pt k 0] h K := by
  refine f118 ?_
  obtain ⟨hp, hq⟩ := rmN_pos h1 h2
  have hf := fitN_le (at_ := at_) h1 h2
  have ld : iLoad false 1 h (pt k 0) = some (I (if r then 1 else 0)) := by simp [iLoad, objCells, hc, iPart]
  have fin : ∀ x : Nat, x ≤ 2000 → aft r at_ l = x + rmN l → p118z4 Tryz.prog K (I x) (I l) h := by
    intro x hx he
    rw [q118z4]
    refine C66 h1 h2 ?_
    have w : IntKind.wrap .i64 ((x : Int) + (rmN l : Nat)) = ((aft r at_ l : Nat) : Int) := by rw [wrap64 (by omega) (by omega), he]; omega
    simp only [bin_add, OP_some, w]
    exact hk
  simp only [T118, ld, OP_some, bin_eql]
  cases r with
  | true =>
    simp only [if_true, decide_true, IfP_true]
    exact C69 ha h1 h2 (fin _ (by omega) (by simp [aft]))
  | false =>
    simp only [Bool.false_eq_true, if_false]
    rw [decide_eq_false (show ¬ ((0 : Int) = 1) by decide)]
    simp only [IfP_false]
    exact fin _ (by omega) (by simp [aft])

theorem C102 {v : Value} {ns : List Int} {h : Heap} {K : Value → Heap → Prop} (hv : NS h v .i64 ns) (h0 : 0 < ns.length) (hl : ns.length ≤ 1000) (hk : ∀ m, m ∈ ns → (∀ x ∈ ns, m ≤ x) → K (I m) h) : CallP Tryz.prog 102 [v] h K := by
  refine f102 ?_
  obtain ⟨b, o, g1, g2⟩ := hv.get 0 h0
  have g1' : iAdrSl 1 v (.int .i64 (0)) = some (pt b o) := g1
  simp only [T102, hv.len, OP_some, bin_lss, decide_eq_false (show ¬ ((ns.length : Int) < 1) by omega), IfP_false]
  rw [q102z4]
  simp only [g1', g2, OP_some]
  refine loopL (σ := Nat × Int) (fun q => [I q.2, I q.1]) (fun _ => h) (fun q => (1 ≤ q.1 ∧ q.1 ≤ ns.length) ∧ q.2 ∈ ns ∧ ∀ x ∈ ns.take q.1, q.2 ≤ x) (fun q => ns.length - q.1) (1, ns[0]) rfl rfl ⟨⟨Nat.le_refl _, h0⟩, List.getElem_mem _, fun x hx => ?_⟩ ?_
  · cases ns with
    | nil => simp at h0
    | cons y ys => simp at hx; subst hx; exact Int.le_refl _
  rintro ⟨i, m⟩ ⟨⟨hi1, hi⟩, hm, hle⟩ L hL
  simp only at hi1 hi hm hle hL ⊢
  rw [q102z9]
  simp only [hv.len, OP_some, bin_lss, IfP_dec]
  refine ⟨fun hlt => ?_, fun hge => ?_⟩
  · have hil : i < ns.length := by omega
    obtain ⟨b, o, g1, g2⟩ := hv.get i hil
    simp only [g1, g2, OP_some, min2, bin_add, inc i (by omega), true_and]
    refine hL (i + 1, min m ns[i]) ⟨⟨by show 1 ≤ i + 1; omega, by show i + 1 ≤ _; omega⟩, ?_, ?_⟩ (by show ns.length - (i + 1) < ns.length - i; omega)
    · show min m ns[i] ∈ ns
      rcases Int.le_total m ns[i] with h | h
      · rw [Int.min_eq_left h]; exact hm
      · rw [Int.min_eq_right h]; exact List.getElem_mem _
    · intro x hx
      show min m ns[i] ≤ x
      simp only [List.take_succ_eq_append_getElem hil, List.mem_append, List.mem_singleton] at hx
      rcases hx with hx | rfl
      · have := hle x hx; omega
      · omega
  · have : i = ns.length := by omega
    subst this
    rw [List.take_length] at hle
    rw [q102z14]
    exact hk m hm hle

theorem C103 {v : Value} {ns : List Int} {h : Heap} {K : Value → Heap → Prop} (hv : NS h v .i64 ns) (h0 : 0 < ns.length) (hl : ns.length ≤ 1000) (hk : ∀ m, m ∈ ns → (∀ x ∈ ns, x ≤ m) → K (I m) h) : CallP Tryz.prog 103 [v] h K := by
  refine f103 ?_
  obtain ⟨b, o, g1, g2⟩ := hv.get 0 h0
  have g1' : iAdrSl 1 v (.int .i64 (0)) = some (pt b o) := g1
  simp only [T103, hv.len, OP_some, bin_lss, decide_eq_false (show ¬ ((ns.length : Int) < 1) by omega), IfP_false]
  rw [q103z4]
  simp only [g1', g2, OP_some]
  refine loopL (σ := Nat × Int) (fun q => [I q.2, I q.1]) (fun _ => h) (fun q => (1 ≤ q.1 ∧ q.1 ≤ ns.length) ∧ q.2 ∈ ns ∧ ∀ x ∈ ns.take q.1, x ≤ q.2) (fun q => ns.length - q.1) (1, ns[0]) rfl rfl ⟨⟨Nat.le_refl _, h0⟩, List.getElem_mem _, fun x hx => ?_⟩ ?_
  · cases ns with
    | nil => simp at h0
    | cons y ys => simp at hx; subst hx; exact Int.le_refl _
  rintro ⟨i, m⟩ ⟨⟨hi1, hi⟩, hm, hle⟩ L hL
  simp only at hi1 hi hm hle hL ⊢
  rw [q103z9]
  simp only [hv.len, OP_some, bin_lss, IfP_dec]
  refine ⟨fun hlt => ?_, fun hge => ?_⟩
  · have hil : i < ns.length := by omega
    obtain ⟨b, o, g1, g2⟩ := hv.get i hil
    simp only [g1, g2, OP_some, max2', bin_add, inc i (by omega), true_and]
    refine hL (i + 1, max m ns[i]) ⟨⟨by show 1 ≤ i + 1; omega, by show i + 1 ≤ _; omega⟩, ?_, ?_⟩ (by show ns.length - (i + 1) < ns.length - i; omega)
    · show max m ns[i] ∈ ns
      rcases Int.le_total m ns[i] with h | h
      · rw [Int.max_eq_right h]; exact List.getElem_mem _
      · rw [Int.max_eq_left h]; exact hm
    · intro x hx
      show x ≤ max m ns[i]
      simp only [List.take_succ_eq_append_getElem hil, List.mem_append, List.mem_singleton] at hx
      rcases hx with hx | rfl
      · have := hle x hx; omega
      · omega
  · have : i = ns.length := by omega
    subst this
    rw [List.take_length] at hle
    rw [q103z14]
    exact hk m hm hle

noncomputable def orc0 : ECall := fun _ _ _ => none
theorem orc0_sound : CallE Tryz.prog orc0 := ⟨fun _ _ _ _ _ he => by simp [orc0] at he, fun _ _ _ _ _ he => by simp [orc0] at he⟩

theorem mulE : (evK Tryz.prog evH 100 orc0 10 (.func 146) [.int .u64 1, .int .u64 1025] []).map Prod.fst = some (.tuple #[.int .u64 0, .int .u64 1025]) := by kernel_rfl

theorem C146 {h : Heap} {K : Value → Heap → Prop} (hk : K (.tuple #[.int .u64 0, .int .u64 1025]) h) : CallP Tryz.prog 146 [.int .u64 1, .int .u64 1025] h K := by
  obtain ⟨h', hc⟩ := evK_call evH 100 10 orc0_sound mulE
  exact callP_any (Ren.tuple (l := [fun _ => .int .u64 0, fun _ => .int .u64 1025]) (.cons (Ren.scal rfl) (.cons (Ren.scal rfl) .nil))) hc rfl hk

end Go.Proofs.YthplaillblmgfaaGreatDoor


namespace Go.Proofs.YthplaillblmgfaaGreatDoor
open Go.Sim

theorem slSl_lo {e : TypeId} {i n : Nat} {k : Nat} (hk : k ≤ n) : iSlSl e 1 (sl e i 0 n) (some (I k)) none = some (sl e i k (n - k)) := by
  simp [iSlSl, sl, iBounds, natOf, hk]
theorem slSl_hi {e : TypeId} {i n : Nat} {k : Nat} (hk : k ≤ n) : iSlSl e 1 (sl e i 0 n) none (some (I k)) = some (sl e i 0 k) := by
  simp [iSlSl, sl, iBounds, natOf, hk]

theorem zrep_one (x : Value) : ∀ n, zrep [x] n = List.replicate n x
  | 0 => rfl
  | n + 1 => by
    have ih := zrep_one x n
    unfold zrep at ih ⊢
    rw [List.replicate_succ, List.flatten_cons, ih, List.replicate_succ]; rfl

def repX (v : Int) (n : Nat) : List Value := List.replicate n (I v) ++ List.replicate (1025 - n) (I 0)

theorem repX_len (v : Int) {n : Nat} (hn : n ≤ 1025) : (repX v n).length = 1025 := by simp [repX]; omega

theorem copy_rep {h : Heap} {id : Nat} {v : Int} {n : Nat} (hg : h[id]? = some (.arr 3 (repX v n))) (h1 : 1 ≤ n) (hn : n < 1025) :
    iCopy h (sl 3 id n (1025 - n)) (sl 3 id 0 n) = some (I (min n (1025 - n) : Nat), h.set id (.arr 3 (repX v (n + min n (1025 - n))))) := by
  have hl := repX_len v (n := n) (by omega)
  have hs : sliceCells h 1 (sl 3 id 0 n) = some (List.replicate n (I v)) := by
    simp only [sliceCells, sl]
    rw [if_neg (by omega)]
    simp only [objCells, hg, Option.bind_some]
    rw [if_pos (by omega)]
    simp [repX]
  have hm : min n (1025 - n) ≠ 0 := by omega
  have h1 : lenOfSl (sl 3 id n (1025 - n)) = some (1025 - n) := rfl
  have h2 : lenOfSl (sl 3 id 0 n) = some n := rfl
  have hmin : Nat.min n (1025 - n) = min n (1025 - n) := rfl
  simp only [iCopy, hs, h1, h2, hmin]
  rw [if_neg hm]
  simp only [sl, hg]
  rw [if_pos (by omega)]
  congr 3
  have : setAt (repX v n) n ((List.replicate n (I v)).take (min n (1025 - n))) = repX v (n + min n (1025 - n)) := by
    unfold setAt repX
    rw [List.take_left' (by simp), List.take_replicate, List.drop_append, List.drop_eq_nil_of_le (by simp), List.nil_append]
    simp only [List.length_replicate, List.drop_replicate, ← List.append_assoc, List.replicate_append_replicate]
    congr 2 <;> omega
  rw [this]

theorem C119 {v : Int} {i : Nat} {h : Heap} {K : Value → Heap → Prop} (hi : h[i]? = some (.arr 3 [I v])) (hk : K (sl 3 h.length 0 1025) (h ++ [.arr 3 (List.replicate 1025 (I v))])) : CallP Tryz.prog 119 [sl 3 i 0 1, I 1025] h K := by
  refine f119 ?_
  have l1 : iLenSl (sl 3 i 0 1) = some (I 1) := rfl
  simp only [T119, bin_lss, OP_some, decide_eq_false (show ¬ ((1025 : Int) < 0) by decide), IfP_false]
  rw [q119z4]
  have c1 : iConv .u64 (I 1) = some (.int .u64 1) := rfl
  have c2 : iConv .u64 (I 1025) = some (.int .u64 1025) := rfl
  simp only [l1, OP_some, c1, c2]
  refine C146 ?_
  simp only [ext_tuple, pair0, pair1, OP_some, bin_gtr, decide_eq_false (show ¬ ((0 : Int) < 0) by decide)]
  rw [q119z9]
  simp only [GdP_ff, bin_gtr, OP_some, decide_eq_false (show ¬ ((9223372036854775807 : Int) < 1025) by decide)]
  rw [q119z11]
  simp only [iPick_f, OP_some, IfP_false]
  rw [q119z12]
  have c3 : iConv .i64 (.int .u64 1025) = some (I 1025) := rfl
  have mk : iMake 3 8 [(.int .i64 (0))] h (I 1025) (I 1025) = some (sl 3 h.length 0 1025, h ++ [.arr 3 (repX v 0)]) := by
    have : zrep [(.int .i64 (0))] 1025 = repX v 0 := by rw [zrep_one]; rfl
    simp only [iMake]
    rw [if_pos (by decide)]
    simp only [show Int.toNat 1025 = 1025 from rfl, this]
  simp only [c3, OP_some, mk, OH_some]
  have k0 : (h ++ [IObj.arr 3 (repX v 0)])[h.length]? = some (.arr 3 (repX v 0)) := get_last
  have hi' : (h ++ [IObj.arr 3 (repX v 0)])[i]? = some (.arr 3 [I v]) := by
    rw [List.getElem?_append_left (List.getElem?_eq_some_iff.1 hi).1]; exact hi
  have cp : iCopy (h ++ [IObj.arr 3 (repX v 0)]) (sl 3 h.length 0 1025) (sl 3 i 0 1) = some (I 1, h ++ [IObj.arr 3 (repX v 1)]) := by
    have hs : sliceCells (h ++ [IObj.arr 3 (repX v 0)]) 1 (sl 3 i 0 1) = some [I v] := by
      simp [sliceCells, sl, objCells, hi']
    have e1 : lenOfSl (sl 3 h.length 0 1025) = some 1025 := rfl
    have e2 : lenOfSl (sl 3 i 0 1) = some 1 := rfl
    have hmin : Nat.min 1 1025 = 1 := by decide
    simp only [iCopy, hs, e1, e2, hmin]
    rw [if_neg (by decide)]
    simp only [sl, k0]
    rw [if_pos (by rw [repX_len v (by omega)]; omega)]
    congr 2
    rw [List.set_append_right _ _ (Nat.le_refl _), Nat.sub_self]
    have : setAt (repX v 0) 0 ([I v].take 1) = repX v 1 := by
      have key : ∀ m, setAt (List.replicate 0 (I v) ++ List.replicate (m + 1) (I 0)) 0 ([I v].take 1) = List.replicate 1 (I v) ++ List.replicate m (I 0) := by
        intro m
        simp [setAt, List.replicate_succ]
      exact key 1024
    rw [this]; rfl
  simp only [cp, OH_some]
  have hset : ∀ n m, (h ++ [IObj.arr 3 (repX v n)]).set h.length (.arr 3 (repX v m)) = h ++ [IObj.arr 3 (repX v m)] := by
    intro n m
    rw [List.set_append_right _ _ (Nat.le_refl _), Nat.sub_self]; rfl
  refine loopL (σ := Nat) (fun n => [I n]) (fun n => h ++ [.arr 3 (repX v n)]) (fun n => 1 ≤ n ∧ n ≤ 1025) (fun n => 1025 - n) 1 rfl rfl ⟨Nat.le_refl _, by omega⟩ ?_
  rintro n ⟨hn1, hn⟩ L hL
  have ll : iLenSl (sl 3 h.length 0 1025) = some (I 1025) := rfl
  rw [q119z17]
  simp only [ll, OP_some, bin_lss, IfP_dec]
  refine ⟨fun hlt => ?_, fun hge => ?_⟩
  · have hlt' : n < 1025 := by omega
    have w : IntKind.wrap .i64 ((n : Int) + (min n (1025 - n) : Nat)) = ((n + min n (1025 - n) : Nat) : Int) := by rw [wrap64 (by omega) (by omega)]; omega
    simp only [slSl_lo hn, slSl_hi hn, OP_some, copy_rep get_last hn1 hlt', OH_some, bin_add, w, true_and, hset]
    exact hL (n + min n (1025 - n)) ⟨by omega, by omega⟩ (by omega)
  · have : n = 1025 := by omega
    subst this
    rw [q119z21]
    have : repX v 1025 = List.replicate 1025 (I v) := by
      unfold repX
      rw [Nat.sub_self, List.replicate_zero, List.append_nil]
    rw [this]
    exact hk

end Go.Proofs.YthplaillblmgfaaGreatDoor


namespace Go.Proofs.YthplaillblmgfaaGreatDoor
open Go.Sim

def rowF (f : Nat → Int) : List Value := (List.range 1025).map fun k => I (f k)
theorem rowF_len (f : Nat → Int) : (rowF f).length = 1025 := by simp [rowF]
theorem rowF_get (f : Nat → Int) {k : Nat} (hk : k < 1025) : (rowF f)[k]? = some (I (f k)) := by simp [rowF, hk]
theorem rowF_set (f : Nat → Int) (a : Nat) (x : Int) : (rowF f).set a (I x) = rowF fun k => if k = a then x else f k := by
  apply List.ext_getElem?
  intro j
  rw [List.getElem?_set]
  by_cases hj : j < 1025
  · rw [rowF_get _ hj, rowF_get _ hj, rowF_len]
    by_cases e : a = j
    · subst e; simp [hj]
    · rw [if_neg e, if_neg (fun h => e h.symm)]
  · rw [List.getElem?_eq_none (by rw [rowF_len]; omega), List.getElem?_eq_none (by rw [rowF_len]; omega)]
    split
    · rw [if_neg (by rw [rowF_len]; omega)]
    · rfl
theorem rangeF_congr {f g : Nat → Int} : ∀ n, (∀ k, k < n → f k = g k) → (List.range n).map (fun k => I (f k)) = (List.range n).map fun k => I (g k)
  | 0, _ => rfl
  | n + 1, h => by rw [List.range_succ, List.map_append, List.map_append, rangeF_congr n fun k hk => h k (by omega), List.map_cons, List.map_cons, h n (by omega)]; rfl
theorem rowF_congr {f g : Nat → Int} (h : ∀ k, k < 1025 → f k = g k) : rowF f = rowF g := rangeF_congr 1025 h
theorem rep_map (v : Int) : ∀ n, List.replicate n (I v) = (List.range n).map fun _ => I v
  | 0 => rfl
  | n + 1 => by rw [List.replicate_succ', List.range_succ, List.map_append, rep_map v n]; rfl
theorem rowF_rep (v : Int) : List.replicate 1025 (I v) = rowF fun _ => v := rep_map v 1025

def encT (top : Int) (o : Option Int) : Int := o.getD top

structure Tb (g : Heap) (il : Nat) (r : Bool) (ws : List Int) (top : Int) (i : Nat) (cs : List Value) : Prop where
  here : g[il]? = some (.arr 34 cs)
  len : cs.length = ws.length + 1
  row : ∀ j, i ≤ j → j ≤ ws.length → ∃ b, cs[j]? = some (sl 3 b 0 1025) ∧ b ≠ il ∧ g[b]? = some (.arr 3 (rowF fun a => encT top (lc r (ws.drop j) a)))

theorem Tb.ex {g g' : Heap} {il i : Nat} {r : Bool} {ws : List Int} {top : Int} {cs : List Value} (x : EX g g') (t : Tb g il r ws top i cs) : Tb g' il r ws top i cs :=
  ⟨x.get t.here, t.len, fun j h1 h2 => let ⟨b, a, c, d⟩ := t.row j h1 h2; ⟨b, a, c, x.get d⟩⟩

theorem Tb.load {g : Heap} {il i j a : Nat} {r : Bool} {ws : List Int} {top : Int} {cs : List Value} (t : Tb g il r ws top i cs) (h1 : i ≤ j) (h2 : j ≤ ws.length) (ha : a ≤ 1024) :
    ∃ b, iAdrSl 1 (sl 34 il 0 (ws.length + 1)) (I j) = some (pt il j) ∧ iLoad false 1 g (pt il j) = some (sl 3 b 0 1025) ∧ iAdrSl 1 (sl 3 b 0 1025) (I a) = some (pt b a) ∧ iLoad false 1 g (pt b a) = some (I (encT top (lc r (ws.drop j) a))) := by
  obtain ⟨b, q1, q2, q3⟩ := t.row j h1 h2
  refine ⟨b, adr_sl (by omega), ?_, adr_sl (by omega), ?_⟩
  · simp [iLoad, objCells, t.here, iPart, q1]
  · simp [iLoad, objCells, q3, iPart, rowF_get _ (show a < 1025 by omega)]

theorem enc_min {x y : Option Int} {c : Int} (hx : ∀ a, x = some a → a ≤ 240000) (hy : ∀ b, y = some b → c + b ≤ 240000) (hc : 0 ≤ c) : min (encT 240000 x) (c + encT 240000 y) = encT 240000 (omin x (y.map (c + ·))) := by
  cases x with
  | none =>
    cases y with
    | none => simp only [encT, omin, Option.map_none, Option.getD_none]; omega
    | some b => have := hy b rfl; simp only [encT, omin, Option.map_some, Option.getD_none, Option.getD_some]; omega
  | some a =>
    have := hx a rfl
    cases y with
    | none => simp only [encT, omin, Option.map_none, Option.getD_none, Option.getD_some]; omega
    | some b => simp only [encT, omin, Option.map_some, Option.getD_some]

theorem ok49 : callOk Tryz.prog 118 = true := by kernel_rfl

theorem lcS_bound {r : Bool} {w : Int} {ws : List Int} {a l : Nat} {v : Int} (hw : okW (w :: ws)) (hl : l ≤ 10) (h : lcS r (lc r ws) w a l = some v) : 0 ≤ v ∧ v ≤ 10000 * (ws.length + 1) := by
  obtain ⟨m, h1, h2, h3⟩ := lcS_mem h
  obtain ⟨_, u, h4, rfl⟩ := stp_some h3
  have := lc_bound (fun x hx => hw x (by simp [hx])) h4
  obtain ⟨w0, w1⟩ := hw w (by simp)
  have q1 : 0 ≤ w * (m : Int) := Int.mul_nonneg w0 (by omega)
  have q2 : w * (m : Int) ≤ 1000 * 10 := Int.mul_le_mul w1 (by omega) (by omega) (by omega)
  omega

theorem stp_eq {r : Bool} {nx : Nat → Option Int} {w : Int} {a l : Nat} (h : aft r a l ≤ 1024) : stp r nx w a l = (nx (aft r a l)).map (w * l + ·) := by unfold stp; rw [if_pos h]
theorem stp_no {r : Bool} {nx : Nat → Option Int} {w : Int} {a l : Nat} (h : ¬ aft r a l ≤ 1024) : stp r nx w a l = none := by unfold stp; rw [if_neg h]

theorem mul_small {w : Int} {l : Nat} (h0 : 0 ≤ w) (h1 : w ≤ 1000) (hl : l ≤ 10) : 0 ≤ w * (l : Int) ∧ w * (l : Int) ≤ 10000 :=
  ⟨Int.mul_nonneg h0 (by omega), by have := Int.mul_le_mul h1 (show (l : Int) ≤ 10 by omega) (by omega) (by omega); omega⟩

theorem row27 {r : Bool} {v : Value} {ws : List Int} {i il bi kd : Nat} {g : Heap} {cs : List Value} {K : Value → Heap → Prop} {L1 : List Value → Heap → Prop}
    (hc : okW ws) (hn : ws.length ≤ 12) (hi : i < ws.length) (hkd : g[kd]? = some (.arr 3 [I (if r then 1 else 0)])) (hil : g[il]? = some (.arr 34 cs)) (hcl : cs.length = ws.length + 1)
    (hci : cs[i]? = some (sl 3 bi 0 1025)) (hbi : g[bi]? = some (.arr 3 (rowF fun _ => 240000))) (hne : bi ≠ il) (hnk : kd ≠ bi)
    (hnx : ∃ b, cs[i + 1]? = some (sl 3 b 0 1025) ∧ b ≠ bi ∧ g[b]? = some (.arr 3 (rowF fun a => encT 240000 (lc r (ws.drop (i + 1)) a))))
    (hvk : NS (g.set bi .dead) v .i64 ws)
    (hk : p96z52 Tryz.prog K v (.func (.func 118) #[] #[pt kd 0]) (sl 34 il 0 (ws.length + 1)) (I i) L1 (g.set bi (.arr 3 (rowF fun a => encT 240000 (lc r (ws.drop i) a))))) :
    LoopP [(.int .i64 (0))] g fun L2 xs hx => p96z35 Tryz.prog K v (.func (.func 118) #[] #[pt kd 0]) (sl 34 il 0 (ws.length + 1)) (I i) (I 1025) L1 L2 xs hx := by
  obtain ⟨b, hb1, hb2, hb3⟩ := hnx
  have hbl := (List.getElem?_eq_some_iff.1 hbi).1
  have hw := hc _ (List.getElem_mem hi)
  have hdrop : ws.drop i = ws[i] :: ws.drop (i + 1) := List.drop_eq_getElem_cons hi
  have hcd : okW (ws.drop i) := fun x hx => hc x (List.mem_of_mem_drop hx)
  have hcd1 : okW (ws.drop (i + 1)) := fun x hx => hc x (List.mem_of_mem_drop hx)
  have hdl : (ws.drop (i + 1)).length ≤ 11 := by rw [List.length_drop]; omega
  -- what is loaded, whatever the row
  have G : ∀ xs : List Value, (g.set bi (.arr 3 xs))[il]? = some (.arr 34 cs) ∧ (g.set bi (.arr 3 xs))[kd]? = some (.arr 3 [I (if r then 1 else 0)]) ∧ (g.set bi (.arr 3 xs))[bi]? = some (.arr 3 xs) ∧
      (g.set bi (.arr 3 xs))[b]? = some (.arr 3 (rowF fun a => encT 240000 (lc r (ws.drop (i + 1)) a))) ∧ NS (g.set bi (.arr 3 xs)) v .i64 ws := by
    intro xs
    refine ⟨by rw [List.getElem?_set_ne hne]; exact hil, by rw [List.getElem?_set_ne (Ne.symm hnk)]; exact hkd, List.getElem?_set_self hbl, by rw [List.getElem?_set_ne (Ne.symm hb2)]; exact hb3, ?_⟩
    refine ⟨hvk.len, fun j hj => ?_, hvk.le⟩
    obtain ⟨b', o', e1, e2⟩ := hvk.get j hj
    refine ⟨b', o', e1, ?_⟩
    have hne' : bi ≠ b' := by
      rintro rfl
      simp [iLoad, objCells, List.getElem?_set_self hbl] at e2
    simp only [iLoad, pt, objCells, List.getElem?_set_ne hne'] at e2 ⊢
    exact e2
  have hp0 : ∀ f : Nat → Int, ∀ xs, xs = rowF f → g.set bi (.arr 3 xs) = g.set bi (.arr 3 (rowF f)) := fun f xs h => by rw [h]
  have hst : g = g.set bi (.arr 3 (rowF fun k => if k < 0 then encT 240000 (lc r (ws.drop i) k) else 240000)) := by
    have e : (rowF fun k => if k < 0 then encT 240000 (lc r (ws.drop i) k) else 240000) = rowF fun _ => 240000 := rowF_congr fun k _ => by simp
    rw [e]
    apply List.ext_getElem?
    intro j
    by_cases hj : bi = j
    · subst hj; rw [List.getElem?_set_self hbl]; exact hbi
    · rw [List.getElem?_set_ne hj]
  refine loopL (σ := Nat) (fun a => [I a]) (fun a => g.set bi (.arr 3 (rowF fun k => if k < a then encT 240000 (lc r (ws.drop i) k) else 240000))) (fun a => a ≤ 1025) (fun a => 1025 - a) 0 rfl hst.symm (Nat.zero_le _) ?_
  intro a ha L2 hL2
  rw [q96z35]
  simp only [bin_lss, OP_some, IfP_dec]
  refine ⟨fun hlt => ?_, fun hge => ?_⟩
  · have hal : a < 1025 := by omega
    -- the lengths
    have e0 : (rowF fun k => if k < a then encT 240000 (lc r (ws.drop i) k) else 240000) = rowF fun k => if k < a then encT 240000 (lc r (ws.drop i) k) else if k = a then encT 240000 (lcS r (lc r (ws.drop (i + 1))) ws[i] a (1 - 1)) else 240000 :=
      rowF_congr fun k _ => by
        by_cases h1 : k < a
        · rw [if_pos h1, if_pos h1]
        · rw [if_neg h1, if_neg h1]
          by_cases h2 : k = a
          · rw [if_pos h2]; rfl
          · rw [if_neg h2]
    refine loopL (σ := Nat) (fun l => [I l]) (fun l => g.set bi (.arr 3 (rowF fun k => if k < a then encT 240000 (lc r (ws.drop i) k) else if k = a then encT 240000 (lcS r (lc r (ws.drop (i + 1))) ws[i] a (l - 1)) else 240000))) (fun l => 1 ≤ l ∧ l ≤ 11) (fun l => 11 - l) 1 rfl (by rw [e0]) ⟨Nat.le_refl _, by omega⟩ ?_
    rintro l ⟨hl1, hl⟩ L3 hL3
    rw [q96z43]
    simp only [bin_leq, OP_some, IfP_dec]
    refine ⟨fun hll => ?_, fun hlg => ?_⟩
    · have hl10 : l ≤ 10 := by omega
      obtain ⟨g1, g2, g3, g4, g5⟩ := G (rowF fun k => if k < a then encT 240000 (lc r (ws.drop i) k) else if k = a then encT 240000 (lcS r (lc r (ws.drop (i + 1))) ws[i] a (l - 1)) else 240000)
      have nxt : ∀ f : Nat → Int, (∀ k, k < 1025 → f k = if k < a then encT 240000 (lc r (ws.drop i) k) else if k = a then encT 240000 (lcS r (lc r (ws.drop (i + 1))) ws[i] a l) else 240000) →
          p96z50 Tryz.prog K v (.func (.func 118) #[] #[pt kd 0]) (sl 34 il 0 (ws.length + 1)) (I i) (I a) (I l) (I 1025) (I a) L1 L2 L3 (g.set bi (.arr 3 (rowF f))) := by
        intro f hf
        rw [q96z50]
        simp only [bin_add, OP_some, inc l (by omega), true_and]
        have := hL3 (l + 1) ⟨by omega, by omega⟩ (by omega)
        rw [Nat.add_sub_cancel] at this
        rw [rowF_congr hf]
        exact this
      refine callVP_fn ok49 (C118 (r := r) g2 (by omega) hl1 hl10 ?_)
      have eS : lcS r (lc r (ws.drop (i + 1))) ws[i] a l = omin (lcS r (lc r (ws.drop (i + 1))) ws[i] a (l - 1)) (stp r (lc r (ws.drop (i + 1))) ws[i] a l) := by
        obtain ⟨m, rfl⟩ : ∃ m, l = m + 1 := ⟨l - 1, by omega⟩
        rfl
      simp only [bin_leq, OP_some, IfP_dec]
      refine ⟨fun hto => ?_, fun hto => ?_⟩
      · have hto' : aft r a l ≤ 1024 := by omega
        obtain ⟨wb, wo, w1, w2⟩ := g5.get i hi
        have ld0 : ∀ {G' : Heap}, G'[il]? = some (.arr 34 cs) → iLoad false 1 G' (pt il i) = some (sl 3 bi 0 1025) := fun h => by simp [iLoad, objCells, h, iPart, hci]
        have ld1 : ∀ {G' : Heap}, G'[il]? = some (.arr 34 cs) → iLoad false 1 G' (pt il (i + 1)) = some (sl 3 b 0 1025) := fun h => by simp [iLoad, objCells, h, iPart, hb1]
        have ad0 : iAdrSl 1 (sl 34 il 0 (ws.length + 1)) (I i) = some (pt il i) := adr_sl (by omega)
        have ad1 : iAdrSl 1 (sl 34 il 0 (ws.length + 1)) (I (i + 1 : Nat)) = some (pt il (i + 1)) := adr_sl (by omega)
        have ada : iAdrSl 1 (sl 3 bi 0 1025) (I a) = some (pt bi a) := adr_sl hal
        have adt : iAdrSl 1 (sl 3 b 0 1025) (I (aft r a l : Nat)) = some (pt b (aft r a l)) := adr_sl (by omega)
        have lda : iLoad false 1 (g.set bi (.arr 3 (rowF fun k => if k < a then encT 240000 (lc r (ws.drop i) k) else if k = a then encT 240000 (lcS r (lc r (ws.drop (i + 1))) ws[i] a (l - 1)) else 240000))) (pt bi a) = some (I (encT 240000 (lcS r (lc r (ws.drop (i + 1))) ws[i] a (l - 1)))) := by
          simp [iLoad, objCells, g3, iPart, rowF_get _ hal]
        have ldt : iLoad false 1 (g.set bi (.arr 3 (rowF fun k => if k < a then encT 240000 (lc r (ws.drop i) k) else if k = a then encT 240000 (lcS r (lc r (ws.drop (i + 1))) ws[i] a (l - 1)) else 240000))) (pt b (aft r a l)) = some (I (encT 240000 (lc r (ws.drop (i + 1)) (aft r a l)))) := by
          simp [iLoad, objCells, g4, iPart, rowF_get _ (show aft r a l < 1025 by omega)]
        have ms := mul_small hw.1 hw.2 hl10
        have wm : IntKind.wrap .i64 (ws[i] * (l : Int)) = ws[i] * (l : Int) := wrap64 (by omega) (by omega)
        have lb : ∀ u, lc r (ws.drop (i + 1)) (aft r a l) = some u → 0 ≤ u ∧ u ≤ 110000 := fun u hu => by have := lc_bound hcd1 hu; omega
        have eb : 0 ≤ encT 240000 (lc r (ws.drop (i + 1)) (aft r a l)) ∧ encT 240000 (lc r (ws.drop (i + 1)) (aft r a l)) ≤ 240000 := by
          cases hq : lc r (ws.drop (i + 1)) (aft r a l) with
          | none => simp [encT]
          | some u => have := lb u hq; simp only [encT, Option.getD_some]; omega
        have wa : IntKind.wrap .i64 (ws[i] * (l : Int) + encT 240000 (lc r (ws.drop (i + 1)) (aft r a l))) = ws[i] * (l : Int) + encT 240000 (lc r (ws.drop (i + 1)) (aft r a l)) := wrap64 (by omega) (by omega)
        have em := enc_min (x := lcS r (lc r (ws.drop (i + 1))) ws[i] a (l - 1)) (y := lc r (ws.drop (i + 1)) (aft r a l)) (c := ws[i] * (l : Int))
          (fun u hu => by rw [hdrop] at hcd; have := lcS_bound hcd (show l - 1 ≤ 10 by omega) hu; omega) (fun u hu => by have := lb u hu; omega) ms.1
        have st : oStore 1 (g.set bi (.arr 3 (rowF fun k => if k < a then encT 240000 (lc r (ws.drop i) k) else if k = a then encT 240000 (lcS r (lc r (ws.drop (i + 1))) ws[i] a (l - 1)) else 240000))) (pt bi a) (I (encT 240000 (omin (lcS r (lc r (ws.drop (i + 1))) ws[i] a (l - 1)) ((lc r (ws.drop (i + 1)) (aft r a l)).map (ws[i] * (l : Int) + ·))))) =
            some (undef, g.set bi (.arr 3 (rowF fun k => if k = a then encT 240000 (omin (lcS r (lc r (ws.drop (i + 1))) ws[i] a (l - 1)) ((lc r (ws.drop (i + 1)) (aft r a l)).map (ws[i] * (l : Int) + ·))) else if k < a then encT 240000 (lc r (ws.drop i) k) else if k = a then encT 240000 (lcS r (lc r (ws.drop (i + 1))) ws[i] a (l - 1)) else 240000))) := by
          rw [store_at g3 (by rw [rowF_len]; exact hal) rfl rfl, rowF_set, List.set_set]
        simp only [ad0, ad1, ada, adt, ld0 g1, ld1 g1, OP_some, true_and, lda, ldt, w1, w2, bin_mul, wm, bin_add, inc i (by omega), wa, min2, em, st, OH_some]
        refine nxt _ fun k _ => ?_
        rw [eS, stp_eq hto']
        by_cases h1 : k = a
        · subst h1; simp
        · simp only [if_neg h1]
      · have hto' : ¬ aft r a l ≤ 1024 := by omega
        refine nxt _ fun k _ => ?_
        rw [eS, stp_no hto', omin_none]
    · have : l = 11 := by omega
      subst this
      rw [q96z51]
      simp only [bin_add, OP_some, inc a (by omega), true_and]
      have := hL2 (a + 1) (by omega) (by omega)
      have e1 : (rowF fun k => if k < a + 1 then encT 240000 (lc r (ws.drop i) k) else 240000) = rowF fun k => if k < a then encT 240000 (lc r (ws.drop i) k) else if k = a then encT 240000 (lcS r (lc r (ws.drop (i + 1))) ws[i] a (11 - 1)) else 240000 :=
        rowF_congr fun k _ => by
          by_cases h1 : k < a
          · rw [if_pos h1, if_pos (by omega)]
          · rw [if_neg h1]
            by_cases h2 : k = a
            · subst h2
              rw [if_pos rfl, if_pos (by omega), hdrop, lc_cons]
            · rw [if_neg h2, if_neg (by omega)]
      rw [e1] at this
      exact this
  · have : a = 1025 := by omega
    subst this
    have e1 : (rowF fun k => if k < 1025 then encT 240000 (lc r (ws.drop i) k) else 240000) = rowF fun k => encT 240000 (lc r (ws.drop i) k) := rowF_congr fun k hk => by rw [if_pos hk]
    rw [e1]
    exact hk

end Go.Proofs.YthplaillblmgfaaGreatDoor


namespace Go.Proofs.YthplaillblmgfaaGreatDoor
open Go.Sim

theorem OwnS.up {b b' : Nat} {g : Heap} {e : TypeId} {v : Value} {xs : List Value} (h : b' ≤ b) (o : OwnS b g e v xs) : OwnS b' g e v xs := o.imp id fun ⟨i, a, r⟩ => ⟨i, Nat.le_trans h a, r⟩

theorem own_ns {b : Nat} {g : Heap} {v : Value} {l : List Nat} (own : OwnS b g 3 v (l.map fun l : Nat => I l)) (hl : l.length ≤ 1000) : NS g v .i64 (l.map fun l : Nat => (l : Int)) := by
  rcases own with ⟨rfl, e2⟩ | ⟨b, _, rfl, e3⟩
  · have : l = [] := by simpa using e2
    subst this
    exact NS.nil _ _
  · have := NS.arr (k := .i64) (e := 3) (ns := l.map fun l : Nat => (l : Int)) (h := g) (i := b) (by rw [e3, List.map_map]; rfl) (by simp [maxLen]; omega)
    simpa using this

theorem fst_step {r : Bool} {nx : Nat → Option Int} {w : Int} {a : Nat} {v : Option Int} {l j : Nat} (hl : l ≤ 10) (h : fstL r nx w a v (11 - l) l = some j) : (stp r nx w a l = v → j = l) ∧ (stp r nx w a l ≠ v → l < 10 ∧ fstL r nx w a v (11 - (l + 1)) (l + 1) = some j) := by
  obtain ⟨m, hm⟩ : ∃ m, 11 - l = m + 1 := ⟨10 - l, by omega⟩
  rw [hm] at h
  simp only [fstL] at h
  refine ⟨fun he => ?_, fun he => ?_⟩
  · rw [if_pos he] at h; cases h; rfl
  · rw [if_neg he] at h
    rw [show 11 - (l + 1) = m by omega]
    refine ⟨?_, h⟩
    apply Classical.byContradiction
    intro hge
    have : m = 0 := by omega
    rw [this] at h
    cases h

theorem out27 {r : Bool} {v : Value} {ws : List Int} {il kd : Nat} {g : Heap} {cs : List Value} {K : Value → Heap → Prop} (hv : NS g v .i64 ws) (hc : okW ws) (hn : ws.length ≤ 12) (hkd : g[kd]? = some (.arr 3 [I (if r then 1 else 0)])) (t : Tb g il r ws 240000 0 cs)
    {c : Int} (hlc : lc r ws 0 = some c) (hk : ∀ u h', EX g h' → OwnS g.length h' 3 u ((chL r ws 0).map fun l : Nat => I l) → K (.tuple #[u, I c, I 0]) h') :
    p96z53 Tryz.prog K v (.func (.func 118) #[] #[pt kd 0]) (sl 34 il 0 (ws.length + 1)) g := by
  rw [q96z53]
  simp only [hv.len, OP_some]
  refine loopL (σ := Nat × Nat × Value × List Nat × Heap) (fun q => [q.2.2.1, I q.2.1, I q.1]) (fun q => q.2.2.2.2)
    (fun q => q.1 ≤ ws.length ∧ q.2.1 ≤ 1024 ∧ (∃ u, lc r (ws.drop q.1) q.2.1 = some u) ∧ q.2.2.2.1 ++ chL r (ws.drop q.1) q.2.1 = chL r ws 0 ∧ EX g q.2.2.2.2 ∧ OwnS g.length q.2.2.2.2 3 q.2.2.1 (q.2.2.2.1.map fun l : Nat => I l) ∧ q.2.2.2.1.length = q.1) (fun q => ws.length - q.1)
    (0, 0, .slice none 0 0, [], g) rfl rfl ⟨Nat.zero_le _, Nat.zero_le _, ⟨c, by simpa using hlc⟩, by simp, EX.refl _, .inl ⟨rfl, rfl⟩, rfl⟩ ?_
  rintro ⟨i, a, vo, pre, g1⟩ ⟨hi, ha, ⟨u, hu⟩, hpre, x1, own, hpl⟩ L1 hL1
  simp only at hi ha hu hpre x1 own hpl hL1 ⊢
  have t1 := t.ex x1
  rw [q96z59]
  simp only [bin_lss, OP_some, IfP_dec]
  refine ⟨fun hlt => ?_, fun hge => ?_⟩
  · have hil : i < ws.length := by omega
    obtain ⟨wb, wo, w1, w2⟩ := (hv.mono x1).get i hil
    have hw := hc _ (List.getElem_mem hil)
    have hdrop : ws.drop i = ws[i] :: ws.drop (i + 1) := List.drop_eq_getElem_cons hil
    have hcd1 : okW (ws.drop (i + 1)) := fun x hx => hc x (List.mem_of_mem_drop hx)
    have hub := lc_bound (fun x hx => hc x (List.mem_of_mem_drop hx)) hu
    rw [List.length_drop] at hub
    have hul : u ≤ 120000 := by omega
    rw [hdrop] at hu hpre
    obtain ⟨j, u', hj, hj1, hj2, hj3, hj4, hj5, hj6⟩ := ch_step hu
    simp only [w1, w2, OP_some]
    refine loopL (σ := Nat) (fun l => [vo, I a, I l]) (fun _ => g1) (fun l => (1 ≤ l ∧ l ≤ 10) ∧ fstL r (lc r (ws.drop (i + 1))) ws[i] a (some u) (11 - l) l = some j) (fun l => 11 - l) 1 rfl rfl ⟨⟨by decide, by decide⟩, hj⟩ ?_
    rintro l ⟨⟨hl1, hl10⟩, hf⟩ L2 hL2
    obtain ⟨hyes, hno⟩ := fst_step hl10 hf
    rw [q96z67]
    simp only [bin_leq, OP_some, decide_eq_true (show (l : Int) ≤ 10 by omega), IfP_true]
    refine callVP_fn ok49 (C118 (r := r) (x1.get hkd) ha hl1 hl10 ?_)
    have ms := mul_small hw.1 hw.2 hl10
    have goon : stp r (lc r (ws.drop (i + 1))) ws[i] a l ≠ some u → L2 [vo, I a, I (l + 1 : Nat)] g1 := by
      intro hne
      obtain ⟨q1, q2⟩ := hno hne
      exact hL2 (l + 1) ⟨⟨by omega, by omega⟩, q2⟩ (by omega)
    by_cases hto : aft r a l ≤ 1024
    · obtain ⟨b0, a1, a2, a3, a4⟩ := t1.load (j := i) (a := a) (Nat.zero_le _) (by omega) ha
      obtain ⟨b1, c1, c2, c3, c4⟩ := t1.load (j := i + 1) (a := aft r a l) (Nat.zero_le _) (by omega) hto
      rw [hdrop, hu] at a4
      have wm : IntKind.wrap .i64 (ws[i] * (l : Int)) = ws[i] * (l : Int) := wrap64 (by omega) (by omega)
      have lb : ∀ z, lc r (ws.drop (i + 1)) (aft r a l) = some z → 0 ≤ z ∧ z ≤ 120000 := fun z hz => by have := lc_bound hcd1 hz; rw [List.length_drop] at this; omega
      have eb : 0 ≤ encT 240000 (lc r (ws.drop (i + 1)) (aft r a l)) ∧ encT 240000 (lc r (ws.drop (i + 1)) (aft r a l)) ≤ 240000 := by
        cases hq : lc r (ws.drop (i + 1)) (aft r a l) with
        | none => simp [encT]
        | some z => have := lb z hq; simp only [encT, Option.getD_some]; omega
      have wa : IntKind.wrap .i64 (ws[i] * (l : Int) + encT 240000 (lc r (ws.drop (i + 1)) (aft r a l))) = ws[i] * (l : Int) + encT 240000 (lc r (ws.drop (i + 1)) (aft r a l)) := wrap64 (by omega) (by omega)
      have hiff : (ws[i] * (l : Int) + encT 240000 (lc r (ws.drop (i + 1)) (aft r a l)) = u) ↔ stp r (lc r (ws.drop (i + 1))) ws[i] a l = some u := by
        rw [stp_eq hto]
        cases hq : lc r (ws.drop (i + 1)) (aft r a l) with
        | none => simp only [encT, Option.getD_none, Option.map_none]; constructor
                  · intro h; omega
                  · intro h; cases h
        | some z => simp only [encT, Option.getD_some, Option.map_some, Option.some.injEq]
      simp only [bin_leq, OP_some, decide_eq_true (show ((aft r a l : Nat) : Int) ≤ 1024 by omega), GdP_tt, bin_mul, wm, bin_add, inc i (by omega), c1, c2, c3, c4, true_and, wa, a1, a2, a3, a4, bin_eql, iPick_t]
      have e9 : encT 240000 (some u) = u := rfl
      rw [e9]
      by_cases hfound : ws[i] * (l : Int) + encT 240000 (lc r (ws.drop (i + 1)) (aft r a l)) = u
      · obtain rfl := hyes (hiff.1 hfound)
        rw [decide_eq_true hfound]
        simp only [IfP_true]
        refine app1 own x1 (by simp; omega) (by simp [maxLen]; omega) rfl rfl ?_
        intro v' g2 x2 own'
        rw [q96z75]
        simp only [bin_add, OP_some, inc i (by omega), true_and]
        refine hL1 (i + 1, aft r a j, v', pre ++ [j], g2) ⟨by show i + 1 ≤ _; omega, hto, ⟨u', hj4⟩, ?_, x2, by simpa using own', by simp [hpl]⟩ (by show ws.length - (i + 1) < ws.length - i; omega)
        show (pre ++ [j]) ++ chL r (ws.drop (i + 1)) (aft r a j) = _
        rw [hj6] at hpre
        rw [← hpre]; simp
      · rw [decide_eq_false hfound]
        simp only [IfP_false]
        rw [inc l (by omega)]
        exact goon fun h => hfound (hiff.2 h)
    · simp only [bin_leq, OP_some, decide_eq_false (show ¬ ((aft r a l : Nat) : Int) ≤ 1024 by omega), GdP_ft, iPick_f, IfP_false, bin_add, inc l (by omega), true_and]
      exact goon (by rw [stp_no hto]; simp)
  · have : i = ws.length := by omega
    subst this
    obtain ⟨b0, a1, a2, a3, a4⟩ := t1.load (j := 0) (a := 0) (Nat.le_refl _) (by omega) (by decide)
    rw [List.drop_zero, hlc] at a4
    have a1' : iAdrSl 1 (sl 34 il 0 (ws.length + 1)) (.int .i64 (0)) = some (pt il 0) := a1
    have a3' : iAdrSl 1 (sl 3 b0 0 1025) (.int .i64 (0)) = some (pt b0 0) := a3
    rw [q96z76]
    simp only [a1', a2, a3', a4, OP_some, true_and]
    rw [List.drop_length] at hpre
    have hpre' : pre = chL r ws 0 := by rw [← hpre]; simp [chL]
    rw [← hpre'] at hk
    exact hk vo g1 x1 own

end Go.Proofs.YthplaillblmgfaaGreatDoor


namespace Go.Proofs.YthplaillblmgfaaGreatDoor
open Go.Sim

set_option maxHeartbeats 1000000 in
theorem C96 {r : Bool} {v : Value} {ws : List Int} {h : Heap} {K : Value → Heap → Prop} (hv : NS h v .i64 ws) (hl : ws.length ≤ 1000)
    (hlong : 12 < ws.length → ∀ h', EX h h' → K (.tuple #[.slice none 0 0, I 0, I 3]) h')
    (hbad : ws.length ≤ 12 → ¬ (2 ≤ ws.length ∧ okW ws) → ∀ h', EX h h' → K (.tuple #[.slice none 0 0, I 0, I 1]) h')
    (hk : 2 ≤ ws.length → ws.length ≤ 12 → okW ws → ∀ c u h', lc r ws 0 = some c → EX h h' → OwnS h.length h' 3 u ((chL r ws 0).map fun l : Nat => I l) → K (.tuple #[u, I c, I 0]) h') :
    CallP Tryz.prog 96 [I (if r then 1 else 0), v] h K := by
  refine f96 ?_
  have bx : iBox 3 h (I (if r then 1 else 0)) = some (pt h.length 0, h ++ [.arr 3 [I (if r then 1 else 0)]]) := rfl
  have ld : iLoad false 1 (h ++ [IObj.arr 3 [I (if r then 1 else 0)]]) (pt h.length 0) = some (I (if r then 1 else 0)) := load_last rfl
  simp only [T96, bx, OH_some, ld, OP_some, bin_geq, decide_eq_false (show ¬ (2 : Int) ≤ (if r = true then 1 else 0) by cases r <;> decide)]
  have x0 : EX h (h ++ [.arr 3 [I (if r then 1 else 0)]]) := EX.append _ _
  have k0 : (h ++ [IObj.arr 3 [I (if r then 1 else 0)]])[h.length]? = some (.arr 3 [I (if r then 1 else 0)]) := get_last
  have ln : h.length < (h ++ [IObj.arr 3 [I (if r then 1 else 0)]]).length := by simp
  generalize h ++ [IObj.arr 3 [I (if r then 1 else 0)]] = h1 at x0 k0 ln ⊢
  have hv1 := hv.mono x0
  rw [q96z6]
  simp only [GdP_ff, hv1.len, OP_some, bin_gtr]
  rw [q96z8]
  simp only [iPick_f, OP_some, IfP_dec]
  refine ⟨fun hgt => hlong (by omega) _ x0, fun hle => ?_⟩
  have hle12 : ws.length ≤ 12 := by omega
  simp only [hv1.len, OP_some, bin_lss]
  rw [q96z12]
  by_cases h2 : ws.length < 2
  · simp only [decide_eq_true (show (ws.length : Int) < 2 by omega), GdP_tf, q96z14, iPick_t, OP_some, q96z16, q96z18, IfP_true]
    exact hbad hle12 (by omega) _ x0
  simp only [decide_eq_false (show ¬ (ws.length : Int) < 2 by omega), GdP_ff]
  refine C102 hv1 (by omega) hl ?_
  intro m hm hmle
  simp only [bin_lss, OP_some, q96z14, iPick_f]
  by_cases hm0 : m < 0
  · simp only [decide_eq_true hm0, q96z16, GdP_tf, q96z18, iPick_t, OP_some, IfP_true]
    exact hbad hle12 (fun hc => by have := (hc.2 m hm).1; omega) _ x0
  simp only [decide_eq_false hm0, q96z16, GdP_ff]
  refine C103 hv1 (by omega) hl ?_
  intro M hM hMle
  simp only [bin_gtr, OP_some]
  rw [q96z18]
  simp only [iPick_f, OP_some, IfP_dec]
  refine ⟨fun hb => hbad hle12 (fun hc => by have := (hc.2 M hM).2; omega) _ x0, fun hb => ?_⟩
  have hok : okW ws := fun w hw => ⟨by have := hmle w hw; omega, by have := hMle w hw; omega⟩
  obtain ⟨c, hc⟩ := Option.isSome_iff_exists.1 (lc_some (r := r) (ws := ws) (k := 0) (by omega))
  rw [Nat.mul_zero] at hc
  have w1 : IntKind.wrap .i64 ((ws.length : Int) + 1) = ((ws.length + 1 : Nat) : Int) := by rw [wrap64 (by omega) (by omega)]; omega
  have w2 : IntKind.wrap .i64 ((ws.length : Int) - 1) = (ws.length : Int) - 1 := wrap64 (by omega) (by omega)
  have mk1 : iMake 34 24 [(.slice none 0 0)] h1 (I (ws.length + 1 : Nat)) (I (ws.length + 1 : Nat)) = some (sl 34 h1.length 0 (ws.length + 1), h1 ++ [.arr 34 (List.replicate (ws.length + 1) (.slice none 0 0))]) := by
    simp only [iMake]
    rw [if_pos (by omega), zrep_one]; rfl
  have mk2 : ∀ g : Heap, iMake 3 8 [(.int .i64 (0))] g (.int .i64 (1025)) (.int .i64 (1025)) = some (sl 3 g.length 0 1025, g ++ [.arr 3 (rowF fun _ => 0)]) := by
    intro g
    simp only [iMake]
    rw [if_pos (by decide)]
    have : zrep [(.int .i64 (0))] (Int.toNat 1025) = rowF fun _ => 0 := by rw [show Int.toNat 1025 = 1025 from rfl, zrep_one]; exact rowF_rep 0
    rw [this]; rfl
  simp only [hv1.len, OP_some, bin_add, w1, mk1, mk2, OH_some, adr_sl (show ws.length < ws.length + 1 by omega), bin_sub, w2]
  have k1 : (h1 ++ [IObj.arr 34 (List.replicate (ws.length + 1) (.slice none 0 0))] ++ [IObj.arr 3 (rowF fun _ => 0)])[h1.length]? = some (.arr 34 (List.replicate (ws.length + 1) (.slice none 0 0))) := by
    rw [List.append_assoc, List.getElem?_append_right (Nat.le_refl _), Nat.sub_self]; rfl
  have k2 : (h1 ++ [IObj.arr 34 (List.replicate (ws.length + 1) (.slice none 0 0))] ++ [IObj.arr 3 (rowF fun _ => 0)])[h1.length + 1]? = some (.arr 3 (rowF fun _ => 0)) := by
    rw [List.getElem?_append_right (by simp)]; simp
  have x2 : EX h1 (h1 ++ [IObj.arr 34 (List.replicate (ws.length + 1) (.slice none 0 0))] ++ [IObj.arr 3 (rowF fun _ => 0)]) := (EX.append _ _).push _
  have l2 : (h1 ++ [IObj.arr 34 (List.replicate (ws.length + 1) (.slice none 0 0))]).length = h1.length + 1 := by simp
  rw [l2]
  generalize h1 ++ [IObj.arr 34 (List.replicate (ws.length + 1) (.slice none 0 0))] ++ [IObj.arr 3 (rowF fun _ => 0)] = g0 at k1 k2 x2 ⊢
  rw [store_at k1 (by simp) rfl rfl]
  simp only [OH_some]
  have hil : h1.length < g0.length := (List.getElem?_eq_some_iff.1 k1).1
  refine loopL (σ := Nat × List Value × Heap) (fun q => [I ((q.1 : Int) - 1)]) (fun q => q.2.2) (fun q => q.1 ≤ ws.length ∧ EX h1 q.2.2 ∧ Tb q.2.2 h1.length r ws 240000 q.1 q.2.1) (fun q => q.1)
    (ws.length, (List.replicate (ws.length + 1) (.slice none 0 0)).set ws.length (sl 3 (h1.length + 1) 0 1025), g0.set h1.length (.arr 34 ((List.replicate (ws.length + 1) (.slice none 0 0)).set ws.length (sl 3 (h1.length + 1) 0 1025)))) rfl rfl
    ⟨Nat.le_refl _, x2.set (Nat.le_refl _) _, List.getElem?_set_self hil, by simp, fun j hj1 hj2 => ?_⟩ ?_
  · obtain rfl : j = ws.length := Nat.le_antisymm hj2 hj1
    refine ⟨h1.length + 1, by simp, by omega, ?_⟩
    rw [List.getElem?_set_ne (by omega), k2, List.drop_length]
    rfl
  rintro ⟨i, cs, g⟩ ⟨hi, xg, t⟩ L hL
  simp only at hi xg t hL ⊢
  rw [q96z27]
  simp only [bin_geq, OP_some, IfP_dec]
  refine ⟨fun hge => ?_, fun hlt => ?_⟩
  · obtain ⟨k, rfl⟩ : ∃ k, i = k + 1 := ⟨i - 1, by omega⟩
    have ek : ((k + 1 : Nat) : Int) - 1 = (k : Int) := by omega
    have mks : iMkSl 3 1 [(.int .i64 (0))] g [(0, 1, (.int .i64 (240000)))] = some (sl 3 g.length 0 1, g ++ [.arr 3 [I 240000]]) := rfl
    rw [ek]
    simp only [mks, OH_some]
    refine C119 get_last ?_
    have kil := (xg.trans (EX.append g [IObj.arr 3 [I 240000]])).push [IObj.arr 3 (List.replicate 1025 (I 240000))]
    have kt : (g ++ [IObj.arr 3 [I 240000]] ++ [IObj.arr 3 (List.replicate 1025 (I 240000))])[h1.length]? = some (.arr 34 cs) := ((EX.append g [IObj.arr 3 [I 240000]]).push _).get t.here
    have hck : k < cs.length := by rw [t.len]; omega
    simp only [adr_sl (show k < ws.length + 1 by omega), OP_some]
    rw [store_at kt hck rfl rfl]
    simp only [OH_some]
    have lbi : (g ++ [IObj.arr 3 [I 240000]]).length = g.length + 1 := by simp
    rw [lbi]
    have kbi : (g ++ [IObj.arr 3 [I 240000]] ++ [IObj.arr 3 (List.replicate 1025 (I 240000))])[g.length + 1]? = some (.arr 3 (rowF fun _ => 240000)) := by
      rw [List.getElem?_append_right (by simp), rowF_rep]; simp
    have hilg := (List.getElem?_eq_some_iff.1 t.here).1
    have kold : ∀ d, d < g.length → (g ++ [IObj.arr 3 [I 240000]] ++ [IObj.arr 3 (List.replicate 1025 (I 240000))])[d]? = g[d]? := fun d hd => ((EX.append g [IObj.arr 3 [I 240000]]).push _).2 d hd
    generalize g ++ [IObj.arr 3 [I 240000]] ++ [IObj.arr 3 (List.replicate 1025 (I 240000))] = ga at kil kt kbi kold ⊢
    have hilga := (List.getElem?_eq_some_iff.1 kt).1
    have xa : EX h1 (ga.set h1.length (.arr 34 (cs.set k (sl 3 (g.length + 1) 0 1025)))) := kil.set (Nat.le_refl _) _
    have ka : (ga.set h1.length (.arr 34 (cs.set k (sl 3 (g.length + 1) 0 1025))))[h1.length]? = some (.arr 34 (cs.set k (sl 3 (g.length + 1) 0 1025))) := List.getElem?_set_self hilga
    have kb : (ga.set h1.length (.arr 34 (cs.set k (sl 3 (g.length + 1) 0 1025))))[g.length + 1]? = some (.arr 3 (rowF fun _ => 240000)) := by rw [List.getElem?_set_ne (by omega)]; exact kbi
    have kc : ∀ b, b < g.length → b ≠ h1.length → (ga.set h1.length (.arr 34 (cs.set k (sl 3 (g.length + 1) 0 1025))))[b]? = g[b]? := fun b hb hne => by rw [List.getElem?_set_ne (Ne.symm hne)]; exact kold b hb
    generalize ga.set h1.length (.arr 34 (cs.set k (sl 3 (g.length + 1) 0 1025))) = gb at xa ka kb kc ⊢
    have ldr : iLoad false 1 gb (pt h1.length k) = some (sl 3 (g.length + 1) 0 1025) := by simp [iLoad, objCells, ka, iPart, hck]
    have lr : iLenSl (sl 3 (g.length + 1) 0 1025) = some (I 1025) := rfl
    simp only [ldr, OP_some, lr]
    obtain ⟨b, rb1, rb2, rb3⟩ := t.row (k + 1) (Nat.le_refl _) hi
    have hbg := (List.getElem?_eq_some_iff.1 rb3).1
    refine row27 (i := k) (bi := g.length + 1) (cs := cs.set k (sl 3 (g.length + 1) 0 1025)) hok hle12 (by omega) (xa.get k0) ka (by simp [t.len]) (by simp [hck]) kb (by omega) (by omega) ⟨b, ?_, by omega, ?_⟩ (hv.mono ((x0.trans xa).set (by omega) _)) ?_
    · rw [List.getElem?_set_ne (by omega)]; exact rb1
    · rw [kc b hbg rb2]; exact rb3
    rw [q96z52]
    have w3 : IntKind.wrap .i64 ((k : Int) - 1) = (k : Int) - 1 := wrap64 (by omega) (by omega)
    simp only [bin_sub, w3, OP_some, true_and]
    refine hL (k, cs.set k (sl 3 (g.length + 1) 0 1025), gb.set (g.length + 1) (.arr 3 (rowF fun a => encT 240000 (lc r (ws.drop k) a)))) ⟨by show k ≤ _; omega, xa.set (by omega) _, by rw [List.getElem?_set_ne (by omega)]; exact ka, by simp [t.len], fun j hj1 hj2 => ?_⟩ (by show k < k + 1; omega)
    by_cases hjk : j = k
    · subst hjk
      exact ⟨g.length + 1, by simp [hck], by omega, List.getElem?_set_self (List.getElem?_eq_some_iff.1 kb).1⟩
    · obtain ⟨b', q1, q2, q3⟩ := t.row j (by omega) hj2
      have hb' := (List.getElem?_eq_some_iff.1 q3).1
      exact ⟨b', by rw [List.getElem?_set_ne (by omega)]; exact q1, q2, by rw [List.getElem?_set_ne (by omega), kc b' hb' q2]; exact q3⟩
  · obtain rfl : i = 0 := by omega
    refine out27 (hv.mono (x0.trans xg)) hok hle12 (xg.get k0) t hc ?_
    intro u h' x3 hu
    exact hk (by omega) hle12 hok c u h' hc (x0.trans (xg.trans x3)) (OwnS.up (x0.trans xg).1 hu)

theorem trip (a b c : Value) : (#[a, b, c] : Array Value)[0]? = some a ∧ (#[a, b, c] : Array Value)[1]? = some b ∧ (#[a, b, c] : Array Value)[2]? = some c := ⟨rfl, rfl, rfl⟩

theorem C54 {v : Value} {ws : List Int} {h : Heap} {K : Value → Heap → Prop} (hv : NS h v .i64 ws) (hl : ws.length ≤ 1000)
    (hlong : 12 < ws.length → ∀ h', EX h h' → K (.tuple #[.slice none 0 0, I 0, I 3]) h')
    (hbad : ws.length ≤ 12 → ¬ (2 ≤ ws.length ∧ okW ws) → ∀ h', EX h h' → K (.tuple #[.slice none 0 0, I 0, I 1]) h')
    (hk : 2 ≤ ws.length → ws.length ≤ 12 → okW ws → ∀ c u h', lc false ws 0 = some c → EX h h' → OwnS h.length h' 3 u ((chL false ws 0).map fun l : Nat => I l) → K (.tuple #[u, I c, I 0]) h') : CallP Tryz.prog 54 [v] h K := by
  refine f54 (C96 (r := false) hv hl (fun a h' x => ?_) (fun a b h' x => ?_) (fun a b c d e h' f x g => ?_))
  · simp only [ext_tuple, (trip _ _ _).1, (trip _ _ _).2.1, (trip _ _ _).2.2, OP_some]; exact hlong a h' x
  · simp only [ext_tuple, (trip _ _ _).1, (trip _ _ _).2.1, (trip _ _ _).2.2, OP_some]; exact hbad a b h' x
  · simp only [ext_tuple, (trip _ _ _).1, (trip _ _ _).2.1, (trip _ _ _).2.2, OP_some]; exact hk a b c d e h' f x g

theorem C55 {v : Value} {ws : List Int} {h : Heap} {K : Value → Heap → Prop} (hv : NS h v .i64 ws) (hl : ws.length ≤ 1000)
    (hlong : 12 < ws.length → ∀ h', EX h h' → K (.tuple #[.slice none 0 0, I 0, I 3]) h')
    (hbad : ws.length ≤ 12 → ¬ (2 ≤ ws.length ∧ okW ws) → ∀ h', EX h h' → K (.tuple #[.slice none 0 0, I 0, I 1]) h')
    (hk : 2 ≤ ws.length → ws.length ≤ 12 → okW ws → ∀ c u h', lc true ws 0 = some c → EX h h' → OwnS h.length h' 3 u ((chL true ws 0).map fun l : Nat => I l) → K (.tuple #[u, I c, I 0]) h') : CallP Tryz.prog 55 [v] h K := by
  refine f55 (C96 (r := true) hv hl (fun a h' x => ?_) (fun a b h' x => ?_) (fun a b c d e h' f x g => ?_))
  · simp only [ext_tuple, (trip _ _ _).1, (trip _ _ _).2.1, (trip _ _ _).2.2, OP_some]; exact hlong a h' x
  · simp only [ext_tuple, (trip _ _ _).1, (trip _ _ _).2.1, (trip _ _ _).2.2, OP_some]; exact hbad a b h' x
  · simp only [ext_tuple, (trip _ _ _).1, (trip _ _ _).2.1, (trip _ _ _).2.2, OP_some]; exact hk a b c d e h' f x g

end Go.Proofs.YthplaillblmgfaaGreatDoor


namespace Go.Proofs.YthplaillblmgfaaGreatDoor
open Go.Sim
variable (P : Program) (K : VK)
/-! F23: pommel/pommelref01.Same -/
noncomputable def oc23 := compFn Tryz.prog 23 [[], [0, 1, 9], [9, 13], []]
@[irreducible] noncomputable def c23 : ICode := icOf oc23
@[irreducible] noncomputable def c23z4 : ICode := c23.r.l.r.l
@[irreducible] noncomputable def c23z2 : ICode := c23.r.r
@[irreducible] noncomputable def c23z6 : ICode := c23z4.r.l
theorem k23 : oc23 = some (15, c23, [.tmp 4]) := by kernel_rfl
def K23z0 (_P : Program) (K : VK) : Kont := bodyP [.tmp 4] K
def K23z2 : Kont := thenK (iwpP P c23z2 (K23z0 P K)) (K23z0 P K)
def p23z4 (a0 b1 x9 : Value) (h : Heap) : Prop := CutP (iwpP P c23z4 (K23z2 P K)) [0, 1, 9] [a0, b1, x9] h
def p23z6 (x9 x13 : Value) (h : Heap) : Prop := CutP (iwpP P c23z6 (K23z2 P K)) [9, 13] [x9, x13] h
theorem q23z6 (x9 x13 : Value) (h : Heap) : p23z6 P K x9 x13 h =
 (OP (iPick x9 x13 (.bool false)) fun x14 =>
 K x14 h) := (CutP_def _ _ _ _).trans (by kernel_rfl)
theorem q23z4 (a0 b1 x9 : Value) (h : Heap) : p23z4 P K a0 b1 x9 h =
 (GdP x9 true
 (CallP P 25 [b1, a0] h fun x12 h_1 =>
 OP (iUn .not x12) fun x13 =>
 p23z6 P K x9 x13 h_1)
 (p23z6 P K x9 undef h)) := (CutP_def _ _ _ _).trans (by kernel_rfl)
def T23 (a0 b1 : Value) (h : Heap) : Prop :=
 CallP P 25 [a0, b1] h fun x7 h_1 =>
 OP (iUn .not x7) fun x8 =>
 p23z4 P K a0 b1 x8 h_1
theorem e23 (a0 b1 : Value) (h : Heap) : iwpP P c23 (bodyP [.tmp 4] K) (frame0 [a0, b1]) h = T23 P K a0 b1 h := by kernel_rfl
theorem f23 {K : VK} {a0 b1 : Value} {h : Heap} (H : T23 Tryz.prog K a0 b1 h) : CallP Tryz.prog 23 [a0, b1] h K :=
 callP_intro k23 (Nat.le_of_ble_eq_true rfl) ((e23 Tryz.prog K a0 b1 h).mpr H)
/-! F25: pommel/pommelref01.Before -/
noncomputable def oc25 := compFn Tryz.prog 25 [[], [], [0, 1], [5], [0, 1, 5, 10], [0, 1, 5, 10, 14], [], [], [], [], [], [0, 1], []]
@[irreducible] noncomputable def c25 : ICode := icOf oc25
@[irreducible] noncomputable def c25z5 : ICode := c25.r.l.r.l.l
@[irreducible] noncomputable def c25z2 : ICode := c25.r.r
@[irreducible] noncomputable def c25z9 : ICode := c25z5.l.l.r.l
@[irreducible] noncomputable def c25z7 : ICode := c25z5.l.r
@[irreducible] noncomputable def c25z6 : ICode := c25z5.r
@[irreducible] noncomputable def c25z16 : ICode := c25z2.l
@[irreducible] noncomputable def c25z11 : ICode := c25z9.r.l
theorem k25 : oc25 = some (41, c25, [.tmp 4]) := by kernel_rfl
def K25z0 (_P : Program) (K : VK) : Kont := bodyP [.tmp 4] K
def K25z2 : Kont := thenK (iwpP P c25z2 (K25z0 P K)) (K25z0 P K)
def K25z4 : Kont := inBlockK 0 (K25z2 P K)
def K25z5 (a0 b1 : Value) (L1 : LK) : Kont := thenK (fun f' h'' => (([0, 1] : List Nat).map f' : List Value) = [a0, b1] ∧ L1 (([5] : List Nat).map f') h'') (K25z4 P K)
def K25z6 (a0 b1 : Value) (L1 : LK) : Kont := thenK (iwpP P c25z6 (K25z5 P K a0 b1 L1)) (K25z5 P K a0 b1 L1)
def K25z7 (a0 b1 : Value) (L1 : LK) : Kont := thenK (iwpP P c25z7 (K25z6 P K a0 b1 L1)) (K25z6 P K a0 b1 L1)
def p25z5 (a0 b1 : Value) (L1 : LK) (xs : List Value) (h : Heap) : Prop := CutP (iwpP P c25z5 (K25z5 P K a0 b1 L1)) ([0, 1] ++ [5]) ([a0, b1] ++ xs) h
def p25z9 (a0 b1 i5 x10 : Value) (L1 : LK) (h : Heap) : Prop := CutP (iwpP P c25z9 (K25z7 P K a0 b1 L1)) [0, 1, 5, 10] [a0, b1, i5, x10] h
def p25z11 (a0 b1 i5 x10 x14 : Value) (L1 : LK) (h : Heap) : Prop := CutP (iwpP P c25z11 (K25z7 P K a0 b1 L1)) [0, 1, 5, 10, 14] [a0, b1, i5, x10, x14] h
def p25z16 (a0 b1 : Value) (h : Heap) : Prop := CutP (iwpP P c25z16 (K25z0 P K)) [0, 1] [a0, b1] h
theorem q25z11 (a0 b1 i5 x10 x14 : Value) (L1 : LK) (h : Heap) : p25z11 P K a0 b1 i5 x10 x14 L1 h =
 (OP (iPick x10 x14 (.bool false)) fun x15 =>
 IfP x15
 (OP (iAdrSl 1 a0 i5) fun x20 =>
 OP (iLoad false 1 h x20) fun x21 =>
 (True) ∧
 OP (iAdrSl 1 b1 i5) fun x24 =>
 OP (iLoad false 1 h x24) fun x25 =>
 (True) ∧
 OP (iBin .neq x21 x25) fun x26 =>
 IfP x26
 (OP (iAdrSl 1 a0 i5) fun x29 =>
 OP (iLoad false 1 h x29) fun x30 =>
 (True) ∧
 OP (iAdrSl 1 b1 i5) fun x33 =>
 OP (iLoad false 1 h x33) fun x34 =>
 (True) ∧
 OP (iBin .lss x30 x34) fun x35 =>
 K x35 h)
 (OP (iBin .add i5 (.int .i64 (1))) fun x17 =>
 ([a0, b1] : List Value) = [a0, b1] ∧ L1 [x17] h))
 (p25z16 P K a0 b1 h)) := (CutP_def _ _ _ _).trans (by kernel_rfl)
theorem q25z9 (a0 b1 i5 x10 : Value) (L1 : LK) (h : Heap) : p25z9 P K a0 b1 i5 x10 L1 h =
 (GdP x10 true
 (OP (iLenSl b1) fun x13 =>
 OP (iBin .lss i5 x13) fun x14 =>
 p25z11 P K a0 b1 i5 x10 x14 L1 h)
 (p25z11 P K a0 b1 i5 x10 undef L1 h)) := (CutP_def _ _ _ _).trans (by kernel_rfl)
theorem q25z5 (a0 b1 : Value) (L1 : LK) (i5 : Value) (h : Heap) : p25z5 P K a0 b1 L1 [i5] h =
 (OP (iLenSl a0) fun x8 =>
 OP (iBin .lss i5 x8) fun x9 =>
 p25z9 P K a0 b1 i5 x9 L1 h) := (CutP_def _ _ _ _).trans (by kernel_rfl)
theorem q25z16 (a0 b1 : Value) (h : Heap) : p25z16 P K a0 b1 h =
 (OP (iLenSl a0) fun x37 =>
 OP (iLenSl b1) fun x39 =>
 OP (iBin .lss x37 x39) fun x40 =>
 K x40 h) := (CutP_def _ _ _ _).trans (by kernel_rfl)
def T25 (a0 b1 : Value) (h : Heap) : Prop :=
 LoopP [(.int .i64 (0))] h fun L1 xs hx =>
 p25z5 P K a0 b1 L1 xs hx
theorem e25 (a0 b1 : Value) (h : Heap) : iwpP P c25 (bodyP [.tmp 4] K) (frame0 [a0, b1]) h = T25 P K a0 b1 h := by kernel_rfl
theorem f25 {K : VK} {a0 b1 : Value} {h : Heap} (H : T25 Tryz.prog K a0 b1 h) : CallP Tryz.prog 25 [a0, b1] h K :=
 callP_intro k25 (Nat.le_of_ble_eq_true rfl) ((e25 Tryz.prog K a0 b1 h).mpr H)
/-! F71: pommel/pommelref08.in -/
noncomputable def oc71 := compFn Tryz.prog 71 [[], [0, 2, 10], [10, 13], []]
@[irreducible] noncomputable def c71 : ICode := icOf oc71
@[irreducible] noncomputable def c71z4 : ICode := c71.r.l.r.l
@[irreducible] noncomputable def c71z2 : ICode := c71.r.r
@[irreducible] noncomputable def c71z6 : ICode := c71z4.r.l
theorem k71 : oc71 = some (15, c71, [.tmp 6]) := by kernel_rfl
def K71z0 (_P : Program) (K : VK) : Kont := bodyP [.tmp 6] K
def K71z2 : Kont := thenK (iwpP P c71z2 (K71z0 P K)) (K71z0 P K)
def p71z4 (v0 high2 x10 : Value) (h : Heap) : Prop := CutP (iwpP P c71z4 (K71z2 P K)) [0, 2, 10] [v0, high2, x10] h
def p71z6 (x10 x13 : Value) (h : Heap) : Prop := CutP (iwpP P c71z6 (K71z2 P K)) [10, 13] [x10, x13] h
theorem q71z6 (x10 x13 : Value) (h : Heap) : p71z6 P K x10 x13 h =
 (OP (iPick x10 x13 (.bool false)) fun x14 =>
 K x14 h) := (CutP_def _ _ _ _).trans (by kernel_rfl)
theorem q71z4 (v0 high2 x10 : Value) (h : Heap) : p71z4 P K v0 high2 x10 h =
 (GdP x10 true
 (OP (iBin .leq v0 high2) fun x13 =>
 p71z6 P K x10 x13 h)
 (p71z6 P K x10 undef h)) := (CutP_def _ _ _ _).trans (by kernel_rfl)
def T71 (v0 low1 high2 : Value) (h : Heap) : Prop :=
 OP (iBin .geq v0 low1) fun x9 =>
 p71z4 P K v0 high2 x9 h
theorem e71 (v0 low1 high2 : Value) (h : Heap) : iwpP P c71 (bodyP [.tmp 6] K) (frame0 [v0, low1, high2]) h = T71 P K v0 low1 high2 h := by kernel_rfl
theorem f71 {K : VK} {v0 low1 high2 : Value} {h : Heap} (H : T71 Tryz.prog K v0 low1 high2 h) : CallP Tryz.prog 71 [v0, low1, high2] h K :=
 callP_intro k71 (Nat.le_of_ble_eq_true rfl) ((e71 Tryz.prog K v0 low1 high2 h).mpr H)
end Go.Proofs.YthplaillblmgfaaGreatDoor

namespace Go.Proofs.YthplaillblmgfaaGreatDoor
open Go.Sim

theorem C71 {v lo hi : Int} {h : Heap} {K : Value → Heap → Prop} (hk : K (B (decide (lo ≤ v) && decide (v ≤ hi))) h) : CallP Tryz.prog 71 [I v, I lo, I hi] h K := by
  refine f71 ?_
  simp only [T71, bin_geq, OP_some]
  rw [q71z4]
  by_cases h1 : lo ≤ v
  · simp only [decide_eq_true h1, GdP_tt, bin_leq, OP_some]
    rw [q71z6]
    simp only [iPick_t, OP_some]
    rw [decide_eq_true h1] at hk
    simpa using hk
  · simp only [decide_eq_false h1, GdP_ft]
    rw [q71z6]
    simp only [iPick_f, OP_some]
    rw [decide_eq_false h1] at hk
    simpa using hk

end Go.Proofs.YthplaillblmgfaaGreatDoor


namespace Go.Proofs.YthplaillblmgfaaGreatDoor
open Go.Sim
end Go.Proofs.YthplaillblmgfaaGreatDoor


namespace Go.Proofs.YthplaillblmgfaaGreatDoor
open Go.Sim

theorem C25 {va vb : Value} {l : List Int} {h : Heap} {K : Value → Heap → Prop} (ha : NS h va .i64 l) (hb : NS h vb .i64 l) (hl : l.length ≤ 1000) (hk : K (B false) h) : CallP Tryz.prog 25 [va, vb] h K := by
  refine f25 ?_
  unfold T25
  refine loopL (σ := Nat) (fun i => [I i]) (fun _ => h) (fun i => i ≤ l.length) (fun i => l.length - i) 0 rfl rfl (Nat.zero_le _) ?_
  intro i hi L hL
  rw [q25z5]
  simp only [ha.len, OP_some, bin_lss]
  rw [q25z9]
  by_cases hlt : i < l.length
  · rw [decide_eq_true (show (i : Int) < (l.length : Int) by omega)]
    simp only [GdP_tt, hb.len, OP_some, bin_lss]
    rw [decide_eq_true (show (i : Int) < (l.length : Int) by omega), q25z11]
    obtain ⟨b, o, g1, g2⟩ := ha.get i hlt
    obtain ⟨c, q, r1, r2⟩ := hb.get i hlt
    simp only [iPick_t, OP_some, IfP_true, g1, g2, r1, r2, true_and, bin_neq, decide_true, Bool.not_true, IfP_false, bin_add, inc i (by omega)]
    exact hL (i + 1) (by omega) (by omega)
  · rw [decide_eq_false (show ¬ (i : Int) < (l.length : Int) by omega)]
    simp only [GdP_ft]
    rw [q25z11]
    simp only [iPick_f, OP_some, IfP_false]
    rw [q25z16]
    simp only [ha.len, hb.len, OP_some, bin_lss]
    rw [decide_eq_false (by omega)]
    exact hk

theorem C23 {va vb : Value} {l : List Int} {h : Heap} {K : Value → Heap → Prop} (ha : NS h va .i64 l) (hb : NS h vb .i64 l) (hl : l.length ≤ 1000) (hk : K (B true) h) : CallP Tryz.prog 23 [va, vb] h K := by
  refine f23 (C25 ha hb hl ?_)
  simp only [un_not, OP_some, Bool.not_false, q23z4, GdP_tt]
  refine C25 hb ha hl ?_
  simp only [un_not, OP_some, Bool.not_false, q23z6, iPick_t]
  exact hk


end Go.Proofs.YthplaillblmgfaaGreatDoor


namespace Go.Proofs.YthplaillblmgfaaGreatDoor
open Go.Sim

def argIs (h : Heap) (v : Value) (xs : List Value) : Bool :=
  match v with
  | .slice (some ⟨i, 0, some 3⟩) n m => n == xs.length && m == xs.length && (match h[i]? with | some (.arr 3 ys) => veqL ys xs | _ => false)
  | _ => false

theorem argIs_ns {h : Heap} {v : Value} {ns : List Int} (hl : ns.length ≤ 1000) (ha : argIs h v (ns.map I) = true) : NS h v .i64 ns := by
  unfold argIs at ha
  split at ha
  · rename_i i n m
    rw [Bool.and_eq_true, Bool.and_eq_true] at ha
    obtain ⟨⟨h1, h2⟩, h3⟩ := ha
    simp at h1 h2
    subst h1 h2
    split at h3
    · rename_i ys hg
      have := veqL_eq h3
      subst this
      exact NS.arr hg (by simp [maxLen]; omega)
    · cases h3
  · cases ha

def strsOf : List Value → Option (List (List UInt8))
  | [] => some []
  | .string s :: r => (strsOf r).map (Go.Sim.bytes s :: ·)
  | _ :: _ => none

theorem strsOf_eq : ∀ {xs : List Value} {ls : List (List UInt8)}, strsOf xs = some ls → xs = ls.map S
  | [], ls, h => by simp [strsOf] at h; subst h; rfl
  | x :: xs, ls, h => by
    cases x <;> simp [strsOf] at h
    rename_i s
    obtain ⟨r, hr, rfl⟩ := h
    rw [strsOf_eq hr, List.map_cons, S_bytes]

def entsOf : Nat → List (Nat × Value × Value) → Option (List (List UInt8 × List UInt8))
  | _, [] => some []
  | i, (b, .string k, .string v) :: r => if b = i then (entsOf (i + 1) r).map ((Go.Sim.bytes k, Go.Sim.bytes v) :: ·) else none
  | _, _ :: _ => none

theorem entsOf_eq : ∀ {es : List (Nat × Value × Value)} {i : Nat} {l : List (List UInt8 × List UInt8)}, entsOf i es = some l → es = (l.zipIdx i).map fun p => (p.2, S p.1.1, S p.1.2)
  | [], i, l, h => by simp [entsOf] at h; subst h; rfl
  | (b, k, v) :: es, i, l, h => by
    cases k with
    | string k =>
      cases v with
      | string v =>
        simp only [entsOf] at h
        split at h
        · rename_i hb
          subst hb
          simp only [Option.map_eq_some_iff] at h
          obtain ⟨r, hr, rfl⟩ := h
          rw [entsOf_eq hr]
          simp [S_bytes]
        · cases h
      | _ => simp [entsOf] at h
    | _ => simp [entsOf] at h

def insS (x : List UInt8) : List (List UInt8) → List (List UInt8)
  | [] => [x]
  | y :: l => if Op.bytesLess y x then y :: insS x l else x :: y :: l
def isoS : List (List UInt8) → List (List UInt8)
  | [] => []
  | x :: l => insS x (isoS l)
def ordS : List (List UInt8) → Bool
  | [] => true
  | [_] => true
  | x :: y :: l => decide (x ≤ y) && ordS (y :: l)

theorem insS_perm (x : List UInt8) : ∀ l, (insS x l).Perm (x :: l)
  | [] => .refl _
  | y :: l => by
    simp only [insS]
    split
    · exact ((insS_perm x l).cons y).trans (.swap ..)
    · exact .refl _
theorem isoS_perm : ∀ l, (isoS l).Perm l
  | [] => .refl _
  | x :: l => (insS_perm x _).trans ((isoS_perm l).cons x)

theorem ordS_pair : ∀ {l : List (List UInt8)}, ordS l = true → l.Pairwise fun a b => a ≤ b
  | [], _ => .nil
  | [x], _ => by simp
  | x :: y :: l, h => by
    simp only [ordS, Bool.and_eq_true, decide_eq_true_eq] at h
    have ih := ordS_pair h.2
    refine List.pairwise_cons.2 ⟨fun z hz => ?_, ih⟩
    rcases List.mem_cons.1 hz with rfl | hz
    · exact h.1
    · exact List.le_trans h.1 ((List.pairwise_cons.1 ih).1 z hz)

theorem sortS_iso {l : List (List UInt8)} (h : ordS (isoS l) = true) : sortS l = isoS l := by
  rw [← sortS_of_perm (isoS_perm l)]
  exact List.mergeSort_of_pairwise ((ordS_pair h).imp fun a => decide_eq_true a)

noncomputable def orc : ECall := fun t args h =>
  match t with
  | .func 54 =>
    match args with
    | [v] => if argIs h v [I 1, I 1, I 2] = true then some (.tuple #[sl 3 h.length 0 3, I 6, I 0], h ++ [.arr 3 [I 2, I 2, I 1]]) else none
    | _ => none
  | .func 55 =>
    match args with
    | [v] => if argIs h v [I 1, I 3, I 1] = true then some (.tuple #[sl 3 h.length 0 3, I 9, I 0], h ++ [.arr 3 [I 1, I 2, I 2]]) else none
    | _ => none
  | .func 44 =>
    match args with
    | [.map (some im)] =>
      match h[im]? with
      | some (.gmap .str c es) =>
        match entsOf 0 es with
        | some l => if l.length ≤ c ∧ 0 < l.length ∧ l.length ≤ 1000 ∧ ordS (isoS (l.map Prod.fst)) = true then some (sl 9 h.length 0 l.length, h ++ [.arr 9 ((isoS (l.map Prod.fst)).map S)]) else none
        | none => none
      | _ => none
    | _ => none
  | .func 81 =>
    match args with
    | [.slice (some ⟨i, 0, some 9⟩) n m, .string s] =>
      match h[i]? with
      | some (.arr 9 xs) =>
        match strsOf xs with
        | some ls => if n = ls.length ∧ m = ls.length ∧ 0 < ls.length ∧ ls.length ≤ 1000 ∧ (Lib.join ls (Go.Sim.bytes s)).length ≤ 100000 then some (S (Lib.join ls (Go.Sim.bytes s)), h) else none
        | none => none
      | _ => none
    | _ => none
  | _ => none

theorem lcH : lc false [1, 1, 2] 0 = some 6 ∧ chL false [1, 1, 2] 0 = [2, 2, 1] := by decide +kernel
theorem lcT : lc true [1, 3, 1] 0 = some 9 ∧ chL true [1, 3, 1] 0 = [1, 2, 2] := by decide +kernel

theorem ren3 (c d : Int) : Ren fun i => .tuple #[sl 3 i 0 3, I c, I d] := Ren.tuple (l := [fun i => sl 3 i 0 3, fun _ => I c, fun _ => I d]) (.cons (Ren.sl 3 0 3) (.cons (Ren.scal rfl) (.cons (Ren.scal rfl) .nil)))

theorem own3 {b : Nat} {h' : Heap} {u : Value} {a c d : Nat} (o : OwnS b h' 3 u ([a, c, d].map fun l : Nat => I l)) : ∃ i, b ≤ i ∧ h'[i]? = some (.arr 3 [I a, I c, I d]) ∧ u = sl 3 i 0 3 := by
  rcases o with ⟨_, e⟩ | ⟨i, h1, h2, h3⟩
  · cases e
  · exact ⟨i, h1, h3, h2⟩

theorem icall_of {P : Program} {F : FuncId} {args : List Value} {h h' : Heap} {v : Value} (hc : CallP P F args h fun u g => u = v ∧ g = h') : ICall P F args h v h' := by
  rw [CallP_eq] at hc
  obtain ⟨_, _, hc, rfl, rfl⟩ := hc
  exact hc

theorem orc_sound : CallE Tryz.prog orc := by
  constructor
  · intro F args h v h' he
    simp only [orc] at he
    split at he
    · rename_i hF
      injection hF with hF
      subst hF
      split at he
      · rename_i w
        split at he
        · rename_i ha
          simp only [Option.some.injEq, Prod.mk.injEq] at he
          obtain ⟨rfl, rfl⟩ := he
          have hv := argIs_ns (ns := [1, 1, 2]) (by decide) ha
          refine icall_of (callP_new (V := fun i => .tuple #[sl 3 i 0 3, I 6, I 0]) (o := .arr 3 [I 2, I 2, I 1]) (ren3 6 0) rfl (C54 hv (by decide) (fun h => absurd h (by decide)) (fun _ hb => absurd ⟨by decide, by intro w hw; simp at hw; omega⟩ hb) fun _ _ _ c u g hc x own => ?_) ⟨rfl, rfl⟩)
          rw [lcH.1] at hc
          cases hc
          rw [lcH.2] at own
          obtain ⟨i, h1, h2, rfl⟩ := own3 own
          exact ⟨x, i, h1, h2, rfl⟩
        · cases he
      · cases he
    · rename_i hF
      injection hF with hF
      subst hF
      split at he
      · rename_i w
        split at he
        · rename_i ha
          simp only [Option.some.injEq, Prod.mk.injEq] at he
          obtain ⟨rfl, rfl⟩ := he
          have hv := argIs_ns (ns := [1, 3, 1]) (by decide) ha
          refine icall_of (callP_new (V := fun i => .tuple #[sl 3 i 0 3, I 9, I 0]) (o := .arr 3 [I 1, I 2, I 2]) (ren3 9 0) rfl (C55 hv (by decide) (fun h => absurd h (by decide)) (fun _ hb => absurd ⟨by decide, by intro w hw; simp at hw; omega⟩ hb) fun _ _ _ c u g hc x own => ?_) ⟨rfl, rfl⟩)
          rw [lcT.1] at hc
          cases hc
          rw [lcT.2] at own
          obtain ⟨i, h1, h2, rfl⟩ := own3 own
          exact ⟨x, i, h1, h2, rfl⟩
        · cases he
      · cases he
    · rename_i hF
      injection hF with hF
      subst hF
      split at he
      · rename_i im
        split at he
        · rename_i c es hg
          split at he
          · rename_i l hl
            split at he
            · rename_i hcond
              obtain ⟨c1, c2, c3, c4⟩ := hcond
              simp only [Option.some.injEq, Prod.mk.injEq] at he
              obtain ⟨rfl, rfl⟩ := he
              have := entsOf_eq hl
              subst this
              refine icall_of (C44 (l := l) hg c1 (by rintro rfl; simp at c2) (by omega) ⟨rfl, ?_⟩)
              rw [sortS_iso c4]
            · cases he
          · cases he
        · cases he
      · cases he
    · rename_i hF
      injection hF with hF
      subst hF
      split at he
      · rename_i i n m s
        split at he
        · rename_i xs hg
          split at he
          · rename_i ls hl
            split at he
            · rename_i hcond
              obtain ⟨rfl, rfl, c2, c3, c4⟩ := hcond
              simp only [Option.some.injEq, Prod.mk.injEq] at he
              obtain ⟨rfl, rfl⟩ := he
              have := strsOf_eq hl
              subst this
              have := icall_of (C81 (ls := ls) (sep := Go.Sim.bytes s) (K := fun u g => u = S (Lib.join ls (Go.Sim.bytes s)) ∧ g = h) (by rintro rfl; simp at c2) (by omega) (by omega) hg ⟨rfl, rfl⟩)
              rwa [S_bytes] at this
            · cases he
          · cases he
        · cases he
      · cases he
    · cases he
  · intro i args h v h' he
    simp only [orc] at he
    cases he

set_option maxHeartbeats 0 in
theorem livesE : (evK Tryz.prog evH 1000 orc 30 (.func 15) [] []).map Prod.fst = some (.bool true) := by kernel_rfl

theorem C15 {h : Heap} {K : Value → Heap → Prop} (hk : K (.bool true) h) : CallP Tryz.prog 15 [] h K := by
  obtain ⟨h', hc⟩ := evK_call evH 1000 30 orc_sound livesE
  exact callP_any (Ren.scal rfl) hc rfl hk

end Go.Proofs.YthplaillblmgfaaGreatDoor


namespace Go.Proofs.YthplaillblmgfaaGreatDoor
open Go.Sim Go.ChangeShapes Go.WideShapes Go.ChangeAt Go.RowKit

set_option maxRecDepth 100000

theorem Tryz.own : ownKnob Tryz.prog.godebug = none := by kernel_rfl
theorem Tryz.laidOut : laidOutB Tryz.prog = true := by kernel_rfl
theorem cells73 : Tryz.prog.cellsOf 73 = 1 := by kernel_rfl
section
variable {H : Type} {enc : TypeId × Value → H} {W : World} {ρ : RMap} {h : Heap}

theorem slice_one {b : Nat} {t : TypeId} {e : TypeId} {v : Value} (ht : Tryz.prog.underlying t = some (.slice e)) (hok : Cell.okWide Tryz.prog W .any b t v) : v.cells.toList = [v] := by
  simp only [Cell.okWide, ht, Cell.ok] at hok
  cases v <;> simp at hok <;> rfl

theorem wf_u16 {x : Int} (h : (Lit.int .u16 x).wf = true) : 0 ≤ x ∧ x < 65536 := by
  simp [Lit.wf, IntKind.min, IntKind.max, IntKind.signed, IntKind.bits] at h
  omega
theorem emb_u16s {b : Nat} {v : Value} {d : DataW H} {ps : List MemPlace} (hok : Value.okWide Tryz.prog W .any b 22 v) (hd : DataW.Trod enc Tryz.prog W 0 (fun _ => true) true 22 v d ps) (HR : HRel Tryz.prog ρ h W) (hro : roH h) :
    ∃ (ρ' : RMap) (g : Heap) (v' : Value) (ns : List Int), ρ.le ρ' ∧ HRel Tryz.prog ρ' (h ++ g) W ∧ roH (h ++ g) ∧ VRel ρ' v' v ∧ INS (h ++ g) 73 .u16 v' ns ∧ ∀ x ∈ ns, 0 ≤ x ∧ x < 65536 := by
  simp only [Value.okWide, Tryz.underlying22] at hok
  obtain ⟨fuel, hf⟩ := hd
  rw [slice_one Tryz.underlying22 hok] at hf
  obtain ⟨ρ', g, v', n, xs, e1, e2, e3, e4, e5, e6, e7, e8, e9⟩ := emb_slice (P := Tryz.prog) (W := W) (enc := enc) (ρ := ρ) (h := h) Tryz.underlying22 (by rw [cells73]; omega) (trod_ints_flat Tryz.underlying73 cells73) hf hok HR hro
  rw [cells73] at e7 e9
  obtain ⟨ns, q1, rfl, q3⟩ := ints_of Tryz.underlying73 e7 e9
  subst q1
  exact ⟨ρ', g, v', ns, e1, e2, e3, e4, ⟨e7, e6⟩, fun x hx => wf_u16 (q3 x hx)⟩

end

end Go.Proofs.YthplaillblmgfaaGreatDoor


namespace Go.Proofs.YthplaillblmgfaaGreatDoor
open Go.Sim
variable (P : Program) (K : VK)
/-! F40: pommel/mark.check -/
noncomputable def oc40 := compFn Tryz.prog 40 [[], [0, 1, 11], [0, 1, 11, 14], [], [], [0, 1, 20], [0, 20, 23], [], [], [], [], [0, 25, 26], [27], [], [], [], [0, 5, 6, 25, 26, 27, 34], [0, 5, 6, 25, 26, 27, 34, 37], [0, 5, 6, 25, 26, 27, 39], [0, 5, 6, 25, 26, 27, 39, 42], [0, 5, 6, 25, 26, 27, 44], [0, 25, 26, 27, 44, 49], [], [], [], [], []]
@[irreducible] noncomputable def c40 : ICode := icOf oc40
@[irreducible] noncomputable def c40z6 : ICode := c40.r.l.l.l.r.l
@[irreducible] noncomputable def c40z4 : ICode := c40.r.l.l.r
@[irreducible] noncomputable def c40z2 : ICode := c40.r.r
@[irreducible] noncomputable def c40z8 : ICode := c40z6.r.l
@[irreducible] noncomputable def c40z12 : ICode := c40z4.r.l.r.l
@[irreducible] noncomputable def c40z10 : ICode := c40z4.r.r
@[irreducible] noncomputable def c40z19 : ICode := c40z2.l.r.l.l
@[irreducible] noncomputable def c40z16 : ICode := c40z2.r
@[irreducible] noncomputable def c40z14 : ICode := c40z12.r.l
@[irreducible] noncomputable def c40z27 : ICode := c40z19.r.r.l.l.r.l.r.l
@[irreducible] noncomputable def c40z25 : ICode := c40z19.r.r.l.l.r.r
@[irreducible] noncomputable def c40z22 : ICode := c40z19.r.r.r
@[irreducible] noncomputable def c40z29 : ICode := c40z27.r.l
@[irreducible] noncomputable def c40z31 : ICode := c40z29.r.l
@[irreducible] noncomputable def c40z33 : ICode := c40z31.r.l
@[irreducible] noncomputable def c40z35 : ICode := c40z33.r.l
@[irreducible] noncomputable def c40z37 : ICode := c40z35.r.l
theorem k40 : oc40 = some (52, c40, [.tmp 4]) := by kernel_rfl
def K40z0 (_P : Program) (K : VK) : Kont := bodyP [.tmp 4] K
def K40z2 : Kont := thenK (iwpP P c40z2 (K40z0 P K)) (K40z0 P K)
def K40z3 : Kont := inBlockK 0 (K40z2 P K)
def K40z4 : Kont := thenK (iwpP P c40z4 (K40z3 P K)) (K40z3 P K)
def K40z10 : Kont := thenK (iwpP P c40z10 (K40z3 P K)) (K40z3 P K)
def K40z16 : Kont := thenK (iwpP P c40z16 (K40z0 P K)) (K40z0 P K)
def K40z18 : Kont := inBlockK 1 (K40z16 P K)
def K40z19 (words0 x25 x26 : Value) (L1 : LK) : Kont := thenK (fun f' h'' => (([0, 25, 26] : List Nat).map f' : List Value) = [words0, x25, x26] ∧ L1 (([27] : List Nat).map f') h'') (K40z18 P K)
def K40z22 (words0 x25 x26 : Value) (L1 : LK) : Kont := thenK (iwpP P c40z22 (K40z19 P K words0 x25 x26 L1)) (K40z19 P K words0 x25 x26 L1)
def K40z23 (words0 x25 x26 : Value) (L1 : LK) : Kont := inBlockK 2 (K40z22 P K words0 x25 x26 L1)
def K40z25 (words0 x25 x26 : Value) (L1 : LK) : Kont := thenK (iwpP P c40z25 (K40z23 P K words0 x25 x26 L1)) (K40z23 P K words0 x25 x26 L1)
def p40z6 (words0 text1 x11 : Value) (h : Heap) : Prop := CutP (iwpP P c40z6 (K40z4 P K)) [0, 1, 11] [words0, text1, x11] h
def p40z8 (words0 text1 x11 x14 : Value) (h : Heap) : Prop := CutP (iwpP P c40z8 (K40z4 P K)) [0, 1, 11, 14] [words0, text1, x11, x14] h
def p40z12 (words0 text1 x20 : Value) (h : Heap) : Prop := CutP (iwpP P c40z12 (K40z10 P K)) [0, 1, 20] [words0, text1, x20] h
def p40z14 (words0 x20 x23 : Value) (h : Heap) : Prop := CutP (iwpP P c40z14 (K40z10 P K)) [0, 20, 23] [words0, x20, x23] h
def p40z19 (words0 x25 x26 : Value) (L1 : LK) (xs : List Value) (h : Heap) : Prop := CutP (iwpP P c40z19 (K40z19 P K words0 x25 x26 L1)) ([0, 25, 26] ++ [27]) ([words0, x25, x26] ++ xs) h
def p40z27 (words0 i5 w6 x25 x26 x27 x34 : Value) (L1 : LK) (h : Heap) : Prop := CutP (iwpP P c40z27 (K40z25 P K words0 x25 x26 L1)) [0, 5, 6, 25, 26, 27, 34] [words0, i5, w6, x25, x26, x27, x34] h
def p40z29 (words0 i5 w6 x25 x26 x27 x34 x37 : Value) (L1 : LK) (h : Heap) : Prop := CutP (iwpP P c40z29 (K40z25 P K words0 x25 x26 L1)) [0, 5, 6, 25, 26, 27, 34, 37] [words0, i5, w6, x25, x26, x27, x34, x37] h
def p40z31 (words0 i5 w6 x25 x26 x27 x39 : Value) (L1 : LK) (h : Heap) : Prop := CutP (iwpP P c40z31 (K40z25 P K words0 x25 x26 L1)) [0, 5, 6, 25, 26, 27, 39] [words0, i5, w6, x25, x26, x27, x39] h
def p40z33 (words0 i5 w6 x25 x26 x27 x39 x42 : Value) (L1 : LK) (h : Heap) : Prop := CutP (iwpP P c40z33 (K40z25 P K words0 x25 x26 L1)) [0, 5, 6, 25, 26, 27, 39, 42] [words0, i5, w6, x25, x26, x27, x39, x42] h
def p40z35 (words0 i5 w6 x25 x26 x27 x44 : Value) (L1 : LK) (h : Heap) : Prop := CutP (iwpP P c40z35 (K40z25 P K words0 x25 x26 L1)) [0, 5, 6, 25, 26, 27, 44] [words0, i5, w6, x25, x26, x27, x44] h
def p40z37 (words0 x25 x26 x27 x44 x49 : Value) (L1 : LK) (h : Heap) : Prop := CutP (iwpP P c40z37 (K40z25 P K words0 x25 x26 L1)) [0, 25, 26, 27, 44, 49] [words0, x25, x26, x27, x44, x49] h
theorem q40z8 (words0 text1 x11 x14 : Value) (h : Heap) : p40z8 P K words0 text1 x11 x14 h =
 (OP (iPick x11 (.bool true) x14) fun x15 =>
 IfP x15
 (K (.int .i64 (3)) h)
 (OP (iLenSl words0) fun x18 =>
 OP (iBin .eql x18 (.int .i64 (0))) fun x19 =>
 p40z12 P K words0 text1 x19 h)) := (CutP_def _ _ _ _).trans (by kernel_rfl)
theorem q40z6 (words0 text1 x11 : Value) (h : Heap) : p40z6 P K words0 text1 x11 h =
 (GdP x11 false
 (OP (iLenS text1) fun x13 =>
 OP (iBin .gtr x13 (.int .i64 (200))) fun x14 =>
 p40z8 P K words0 text1 x11 x14 h)
 (p40z8 P K words0 text1 x11 undef h)) := (CutP_def _ _ _ _).trans (by kernel_rfl)
theorem q40z14 (words0 x20 x23 : Value) (h : Heap) : p40z14 P K words0 x20 x23 h =
 (OP (iPick x20 (.bool true) x23) fun x24 =>
 IfP x24
 (K (.int .i64 (2)) h)
 (OP (iLenSl words0) fun x26 =>
 LoopP [(.int .i64 (0))] h fun L1 xs hx =>
 p40z19 P K words0 words0 x26 L1 xs hx)) := (CutP_def _ _ _ _).trans (by kernel_rfl)
theorem q40z12 (words0 text1 x20 : Value) (h : Heap) : p40z12 P K words0 text1 x20 h =
 (GdP x20 false
 (CallP P 77 [text1] h fun x22 h_1 =>
 OP (iUn .not x22) fun x23 =>
 p40z14 P K words0 x20 x23 h_1)
 (p40z14 P K words0 x20 undef h)) := (CutP_def _ _ _ _).trans (by kernel_rfl)
theorem q40z37 (words0 x25 x26 x27 x44 x49 : Value) (L1 : LK) (h : Heap) : p40z37 P K words0 x25 x26 x27 x44 x49 L1 h =
 (OP (iPick x44 (.bool true) x49) fun x50 =>
 IfP x50
 (K (.int .i64 (2)) h)
 (OP (iBin .add x27 (.int .i64 (1))) fun x51 =>
 ([words0, x25, x26] : List Value) = [words0, x25, x26] ∧ L1 [x51] h)) := (CutP_def _ _ _ _).trans (by kernel_rfl)
theorem q40z35 (words0 i5 w6 x25 x26 x27 x44 : Value) (L1 : LK) (h : Heap) : p40z35 P K words0 i5 w6 x25 x26 x27 x44 L1 h =
 (GdP x44 false
 (OP (iSlSl 9 1 words0 none (some i5)) fun x47 =>
 CallP P 78 [x47, w6] h fun x49 h_1 =>
 p40z37 P K words0 x25 x26 x27 x44 x49 L1 h_1)
 (p40z37 P K words0 x25 x26 x27 x44 undef L1 h)) := (CutP_def _ _ _ _).trans (by kernel_rfl)
theorem q40z33 (words0 i5 w6 x25 x26 x27 x39 x42 : Value) (L1 : LK) (h : Heap) : p40z33 P K words0 i5 w6 x25 x26 x27 x39 x42 L1 h =
 (OP (iPick x39 (.bool true) x42) fun x43 =>
 p40z35 P K words0 i5 w6 x25 x26 x27 x43 L1 h) := (CutP_def _ _ _ _).trans (by kernel_rfl)
theorem q40z31 (words0 i5 w6 x25 x26 x27 x39 : Value) (L1 : LK) (h : Heap) : p40z31 P K words0 i5 w6 x25 x26 x27 x39 L1 h =
 (GdP x39 false
 (CallP P 77 [w6] h fun x41 h_1 =>
 OP (iUn .not x41) fun x42 =>
 p40z33 P K words0 i5 w6 x25 x26 x27 x39 x42 L1 h_1)
 (p40z33 P K words0 i5 w6 x25 x26 x27 x39 undef L1 h)) := (CutP_def _ _ _ _).trans (by kernel_rfl)
theorem q40z29 (words0 i5 w6 x25 x26 x27 x34 x37 : Value) (L1 : LK) (h : Heap) : p40z29 P K words0 i5 w6 x25 x26 x27 x34 x37 L1 h =
 (OP (iPick x34 (.bool true) x37) fun x38 =>
 p40z31 P K words0 i5 w6 x25 x26 x27 x38 L1 h) := (CutP_def _ _ _ _).trans (by kernel_rfl)
theorem q40z27 (words0 i5 w6 x25 x26 x27 x34 : Value) (L1 : LK) (h : Heap) : p40z27 P K words0 i5 w6 x25 x26 x27 x34 L1 h =
 (GdP x34 false
 (OP (iLenS w6) fun x36 =>
 OP (iBin .gtr x36 (.int .i64 (10))) fun x37 =>
 p40z29 P K words0 i5 w6 x25 x26 x27 x34 x37 L1 h)
 (p40z29 P K words0 i5 w6 x25 x26 x27 x34 undef L1 h)) := (CutP_def _ _ _ _).trans (by kernel_rfl)
theorem q40z19 (words0 x25 x26 : Value) (L1 : LK) (x27 : Value) (h : Heap) : p40z19 P K words0 x25 x26 L1 [x27] h =
 (OP (iBin .lss x27 x26) fun x28 =>
 IfP x28
 (OP (iAdrSl 1 x25 x27) fun x30 =>
 OP (iLoad false 1 h x30) fun x31 =>
 OP (iBin .eql x31 (.string ⟨#[]⟩)) fun x33 =>
 p40z27 P K words0 x27 x31 x25 x26 x27 x33 L1 h)
 (K (.int .i64 (0)) h)) := (CutP_def _ _ _ _).trans (by kernel_rfl)
def T40 (words0 text1 : Value) (h : Heap) : Prop :=
 OP (iLenSl words0) fun x9 =>
 OP (iBin .gtr x9 (.int .i64 (12))) fun x10 =>
 p40z6 P K words0 text1 x10 h
theorem e40 (words0 text1 : Value) (h : Heap) : iwpP P c40 (bodyP [.tmp 4] K) (frame0 [words0, text1]) h = T40 P K words0 text1 h := by kernel_rfl
theorem f40 {K : VK} {words0 text1 : Value} {h : Heap} (H : T40 Tryz.prog K words0 text1 h) : CallP Tryz.prog 40 [words0, text1] h K :=
 callP_intro k40 (Nat.le_of_ble_eq_true rfl) ((e40 Tryz.prog K words0 text1 h).mpr H)
/-! F41: pommel/mark.Clear$1 -/
noncomputable def oc41 := compFn Tryz.prog 41 [[], [], [0, 1, 2, 6, 15], [0, 1, 2, 15, 19], [], [], [], [], []]
@[irreducible] noncomputable def c41 : ICode := icOf oc41
@[irreducible] noncomputable def c41z6 : ICode := c41.r.l.r.l.r.l
@[irreducible] noncomputable def c41z4 : ICode := c41.r.l.r.r
@[irreducible] noncomputable def c41z2 : ICode := c41.r.r
@[irreducible] noncomputable def c41z8 : ICode := c41z6.r.l
theorem k41 : oc41 = some (24, c41, [.tmp 5]) := by kernel_rfl
def K41z0 (_P : Program) (K : VK) : Kont := bodyP [.tmp 5] K
def K41z2 : Kont := thenK (iwpP P c41z2 (K41z0 P K)) (K41z0 P K)
def K41z4 : Kont := thenK (iwpP P c41z4 (K41z2 P K)) (K41z2 P K)
def p41z6 (ahead0 text1 x2 old6 x15 : Value) (h : Heap) : Prop := CutP (iwpP P c41z6 (K41z4 P K)) [0, 1, 2, 6, 15] [ahead0, text1, x2, old6, x15] h
def p41z8 (ahead0 text1 x2 x15 x19 : Value) (h : Heap) : Prop := CutP (iwpP P c41z8 (K41z4 P K)) [0, 1, 2, 15, 19] [ahead0, text1, x2, x15, x19] h
theorem q41z8 (ahead0 text1 x2 x15 x19 : Value) (h : Heap) : p41z8 P K ahead0 text1 x2 x15 x19 h =
 (OP (iPick x15 x19 (.bool false)) fun x20 =>
 IfP x20
 (K (.bool false) h)
 (OP (iLoad false 1 h x2) fun x21 =>
 OH (oMupdG .str h x21 ahead0 text1) fun _ h_1 =>
 K (.bool true) h_1)) := (CutP_def _ _ _ _).trans (by kernel_rfl)
theorem q41z6 (ahead0 text1 x2 old6 x15 : Value) (h : Heap) : p41z6 P K ahead0 text1 x2 old6 x15 h =
 (GdP x15 true
 (CallP P 42 [text1, old6] h fun x18 h_1 =>
 OP (iUn .not x18) fun x19 =>
 p41z8 P K ahead0 text1 x2 x15 x19 h_1)
 (p41z8 P K ahead0 text1 x2 x15 undef h)) := (CutP_def _ _ _ _).trans (by kernel_rfl)
def T41 (ahead0 text1 x2 : Value) (h : Heap) : Prop :=
 OP (iLoad false 1 h x2) fun x9 =>
 OP (iLookupG .str true (.string ⟨#[]⟩) h x9 ahead0) fun x11 =>
 OP (iExt 0 x11) fun x12 =>
 OP (iExt 1 x11) fun x13 =>
 p41z6 P K ahead0 text1 x2 x12 x13 h
theorem e41 (ahead0 text1 x2 : Value) (h : Heap) : iwpP P c41 (bodyP [.tmp 5] K) (frame0 [ahead0, text1, x2]) h = T41 P K ahead0 text1 x2 h := by kernel_rfl
theorem f41 {K : VK} {ahead0 text1 x2 : Value} {h : Heap} (H : T41 Tryz.prog K ahead0 text1 x2 h) : CallP Tryz.prog 41 [ahead0, text1, x2] h K :=
 callP_intro k41 (Nat.le_of_ble_eq_true rfl) ((e41 Tryz.prog K ahead0 text1 x2 h).mpr H)
/-! F42: pommel/mark.before -/
noncomputable def oc42 := compFn Tryz.prog 42 [[], [], [], [], [], []]
@[irreducible] noncomputable def c42 : ICode := icOf oc42
theorem k42 : oc42 = some (18, c42, [.tmp 4]) := by kernel_rfl
def T42 (P : Program) (K : VK) (a0 b1 : Value) (h : Heap) : Prop :=
 OP (iLenS a0) fun x7 =>
 OP (iLenS b1) fun x9 =>
 OP (iBin .sub x7 x9) fun x10 =>
 OP (iBin .neq x10 (.int .i64 (0))) fun x12 =>
 IfP x12
 (OP (iBin .lss x10 (.int .i64 (0))) fun x14 =>
 K x14 h)
 (OP (iBin .lss a0 b1) fun x17 =>
 K x17 h)
theorem e42 (a0 b1 : Value) (h : Heap) : iwpP P c42 (bodyP [.tmp 4] K) (frame0 [a0, b1]) h = T42 P K a0 b1 h := by kernel_rfl
theorem f42 {K : VK} {a0 b1 : Value} {h : Heap} (H : T42 Tryz.prog K a0 b1 h) : CallP Tryz.prog 42 [a0, b1] h K :=
 callP_intro k42 (Nat.le_of_ble_eq_true rfl) ((e42 Tryz.prog K a0 b1 h).mpr H)
/-! F43: strings.HasPrefix -/
noncomputable def oc43 := compFn Tryz.prog 43 [[], []]
@[irreducible] noncomputable def c43 : ICode := icOf oc43
theorem k43 : oc43 = some (8, c43, [.tmp 4]) := by kernel_rfl
def T43 (s0 prefix1 : Value) (h : Heap) : Prop :=
 CallP P 79 [s0, prefix1] h fun x7 h_1 =>
 K x7 h_1
theorem e43 (s0 prefix1 : Value) (h : Heap) : iwpP P c43 (bodyP [.tmp 4] K) (frame0 [s0, prefix1]) h = T43 P K s0 prefix1 h := by kernel_rfl
theorem f43 {K : VK} {s0 prefix1 : Value} {h : Heap} (H : T43 Tryz.prog K s0 prefix1 h) : CallP Tryz.prog 43 [s0, prefix1] h K :=
 callP_intro k43 (Nat.le_of_ble_eq_true rfl) ((e43 Tryz.prog K s0 prefix1 h).mpr H)
/-! F77: pommel/mark.marked -/
noncomputable def oc77 := compFn Tryz.prog 77 [[], []]
@[irreducible] noncomputable def c77 : ICode := icOf oc77
theorem k77 : oc77 = some (6, c77, [.tmp 2]) := by kernel_rfl
def T77 (s0 : Value) (h : Heap) : Prop :=
 CallP P 107 [s0, (.string ⟨#[48, 49]⟩)] h fun x4 h_1 =>
 OP (iBin .eql x4 (.string ⟨#[]⟩)) fun x5 =>
 K x5 h_1
theorem e77 (s0 : Value) (h : Heap) : iwpP P c77 (bodyP [.tmp 2] K) (frame0 [s0]) h = T77 P K s0 h := by kernel_rfl
theorem f77 {K : VK} {s0 : Value} {h : Heap} (H : T77 Tryz.prog K s0 h) : CallP Tryz.prog 77 [s0] h K :=
 callP_intro k77 (Nat.le_of_ble_eq_true rfl) ((e77 Tryz.prog K s0 h).mpr H)
/-! F78: slices.Contains[[]string,string] -/
noncomputable def oc78 := compFn Tryz.prog 78 [[], []]
@[irreducible] noncomputable def c78 : ICode := icOf oc78
theorem k78 : oc78 = some (9, c78, [.tmp 4]) := by kernel_rfl
def T78 (s0 v1 : Value) (h : Heap) : Prop :=
 CallP P 108 [s0, v1] h fun x7 h_1 =>
 OP (iBin .geq x7 (.int .i64 (0))) fun x8 =>
 K x8 h_1
theorem e78 (s0 v1 : Value) (h : Heap) : iwpP P c78 (bodyP [.tmp 4] K) (frame0 [s0, v1]) h = T78 P K s0 v1 h := by kernel_rfl
theorem f78 {K : VK} {s0 v1 : Value} {h : Heap} (H : T78 Tryz.prog K s0 v1 h) : CallP Tryz.prog 78 [s0, v1] h K :=
 callP_intro k78 (Nat.le_of_ble_eq_true rfl) ((e78 Tryz.prog K s0 v1 h).mpr H)
/-! F79: internal/stringslite.HasPrefix -/
noncomputable def oc79 := compFn Tryz.prog 79 [[], [0, 1, 10], [10, 16], []]
@[irreducible] noncomputable def c79 : ICode := icOf oc79
@[irreducible] noncomputable def c79z4 : ICode := c79.r.l.r.l
@[irreducible] noncomputable def c79z2 : ICode := c79.r.r
@[irreducible] noncomputable def c79z6 : ICode := c79z4.r.l
theorem k79 : oc79 = some (18, c79, [.tmp 4]) := by kernel_rfl
def K79z0 (_P : Program) (K : VK) : Kont := bodyP [.tmp 4] K
def K79z2 : Kont := thenK (iwpP P c79z2 (K79z0 P K)) (K79z0 P K)
def p79z4 (s0 prefix1 x10 : Value) (h : Heap) : Prop := CutP (iwpP P c79z4 (K79z2 P K)) [0, 1, 10] [s0, prefix1, x10] h
def p79z6 (x10 x16 : Value) (h : Heap) : Prop := CutP (iwpP P c79z6 (K79z2 P K)) [10, 16] [x10, x16] h
theorem q79z6 (x10 x16 : Value) (h : Heap) : p79z6 P K x10 x16 h =
 (OP (iPick x10 x16 (.bool false)) fun x17 =>
 K x17 h) := (CutP_def _ _ _ _).trans (by kernel_rfl)
theorem q79z4 (s0 prefix1 x10 : Value) (h : Heap) : p79z4 P K s0 prefix1 x10 h =
 (GdP x10 true
 (OP (iLenS prefix1) fun x13 =>
 OP (iSlS s0 none (some x13)) fun x14 =>
 OP (iBin .eql x14 prefix1) fun x16 =>
 p79z6 P K x10 x16 h)
 (p79z6 P K x10 undef h)) := (CutP_def _ _ _ _).trans (by kernel_rfl)
def T79 (s0 prefix1 : Value) (h : Heap) : Prop :=
 OP (iLenS s0) fun x6 =>
 OP (iLenS prefix1) fun x8 =>
 OP (iBin .geq x6 x8) fun x9 =>
 p79z4 P K s0 prefix1 x9 h
theorem e79 (s0 prefix1 : Value) (h : Heap) : iwpP P c79 (bodyP [.tmp 4] K) (frame0 [s0, prefix1]) h = T79 P K s0 prefix1 h := by kernel_rfl
theorem f79 {K : VK} {s0 prefix1 : Value} {h : Heap} (H : T79 Tryz.prog K s0 prefix1 h) : CallP Tryz.prog 79 [s0, prefix1] h K :=
 callP_intro k79 (Nat.le_of_ble_eq_true rfl) ((e79 Tryz.prog K s0 prefix1 h).mpr H)
/-! F107: strings.Trim -/
noncomputable def oc107 := compFn Tryz.prog 107 [[], [0, 1, 9], [0, 1, 9, 11], [], [], [], [0, 1, 17], [0, 1, 17, 20], [], [], [], [], [], [], [], []]
@[irreducible] noncomputable def c107 : ICode := icOf oc107
@[irreducible] noncomputable def c107z5 : ICode := c107.r.l.l.r.l
@[irreducible] noncomputable def c107z3 : ICode := c107.r.l.r
@[irreducible] noncomputable def c107z2 : ICode := c107.r.r
@[irreducible] noncomputable def c107z7 : ICode := c107z5.r.l
@[irreducible] noncomputable def c107z12 : ICode := c107z2.l.l.r.l
@[irreducible] noncomputable def c107z10 : ICode := c107z2.l.r
@[irreducible] noncomputable def c107z9 : ICode := c107z2.r
@[irreducible] noncomputable def c107z14 : ICode := c107z12.r.l
theorem k107 : oc107 = some (43, c107, [.tmp 4]) := by kernel_rfl
def K107z0 (_P : Program) (K : VK) : Kont := bodyP [.tmp 4] K
def K107z2 : Kont := thenK (iwpP P c107z2 (K107z0 P K)) (K107z0 P K)
def K107z3 : Kont := thenK (iwpP P c107z3 (K107z2 P K)) (K107z2 P K)
def K107z9 : Kont := thenK (iwpP P c107z9 (K107z0 P K)) (K107z0 P K)
def K107z10 : Kont := thenK (iwpP P c107z10 (K107z9 P K)) (K107z9 P K)
def p107z5 (s0 cutset1 x9 : Value) (h : Heap) : Prop := CutP (iwpP P c107z5 (K107z3 P K)) [0, 1, 9] [s0, cutset1, x9] h
def p107z7 (s0 cutset1 x9 x11 : Value) (h : Heap) : Prop := CutP (iwpP P c107z7 (K107z3 P K)) [0, 1, 9, 11] [s0, cutset1, x9, x11] h
def p107z12 (s0 cutset1 x17 : Value) (h : Heap) : Prop := CutP (iwpP P c107z12 (K107z10 P K)) [0, 1, 17] [s0, cutset1, x17] h
def p107z14 (s0 cutset1 x17 x20 : Value) (h : Heap) : Prop := CutP (iwpP P c107z14 (K107z10 P K)) [0, 1, 17, 20] [s0, cutset1, x17, x20] h
theorem q107z7 (s0 cutset1 x9 x11 : Value) (h : Heap) : p107z7 P K s0 cutset1 x9 x11 h =
 (OP (iPick x9 (.bool true) x11) fun x12 =>
 IfP x12
 (K s0 h)
 (OP (iLenS cutset1) fun x15 =>
 OP (iBin .eql x15 (.int .i64 (1))) fun x16 =>
 p107z12 P K s0 cutset1 x16 h)) := (CutP_def _ _ _ _).trans (by kernel_rfl)
theorem q107z5 (s0 cutset1 x9 : Value) (h : Heap) : p107z5 P K s0 cutset1 x9 h =
 (GdP x9 false
 (OP (iBin .eql cutset1 (.string ⟨#[]⟩)) fun x11 =>
 p107z7 P K s0 cutset1 x9 x11 h)
 (p107z7 P K s0 cutset1 x9 undef h)) := (CutP_def _ _ _ _).trans (by kernel_rfl)
theorem q107z14 (s0 cutset1 x17 x20 : Value) (h : Heap) : p107z14 P K s0 cutset1 x17 x20 h =
 (OP (iPick x17 x20 (.bool false)) fun x21 =>
 IfP x21
 (OP (iIdxS cutset1 (.int .i64 (0))) fun x24 =>
 CallP P 127 [s0, x24] h fun x25 h_1 =>
 (True) ∧
 OP (iIdxS cutset1 (.int .i64 (0))) fun x27 =>
 CallP P 126 [x25, x27] h_1 fun x28 h_2 =>
 (True) ∧
 K x28 h_2)
 (CallP P 128 [cutset1] h fun x31 h_1 =>
 OP (iExt 0 x31) fun x32 =>
 OP (iExt 1 x31) fun x33 =>
 OH (iAlloc 158 [(.bool false), (.bool false), (.bool false), (.bool false), (.bool false), (.bool false), (.bool false), (.bool false), (.bool false), (.bool false), (.bool false), (.bool false), (.bool false), (.bool false), (.bool false), (.bool false), (.bool false), (.bool false), (.bool false), (.bool false), (.bool false), (.bool false), (.bool false), (.bool false), (.bool false), (.bool false), (.bool false), (.bool false), (.bool false), (.bool false), (.bool false), (.bool false), (.bool false), (.bool false), (.bool false), (.bool false), (.bool false), (.bool false), (.bool false), (.bool false), (.bool false), (.bool false), (.bool false), (.bool false), (.bool false), (.bool false), (.bool false), (.bool false), (.bool false), (.bool false), (.bool false), (.bool false), (.bool false), (.bool false), (.bool false), (.bool false), (.bool false), (.bool false), (.bool false), (.bool false), (.bool false), (.bool false), (.bool false), (.bool false), (.bool false), (.bool false), (.bool false), (.bool false), (.bool false), (.bool false), (.bool false), (.bool false), (.bool false), (.bool false), (.bool false), (.bool false), (.bool false), (.bool false), (.bool false), (.bool false), (.bool false), (.bool false), (.bool false), (.bool false), (.bool false), (.bool false), (.bool false), (.bool false), (.bool false), (.bool false), (.bool false), (.bool false), (.bool false), (.bool false), (.bool false), (.bool false), (.bool false), (.bool false), (.bool false), (.bool false), (.bool false), (.bool false), (.bool false), (.bool false), (.bool false), (.bool false), (.bool false), (.bool false), (.bool false), (.bool false), (.bool false), (.bool false), (.bool false), (.bool false), (.bool false), (.bool false), (.bool false), (.bool false), (.bool false), (.bool false), (.bool false), (.bool false), (.bool false), (.bool false), (.bool false), (.bool false), (.bool false), (.bool false), (.bool false), (.bool false), (.bool false), (.bool false), (.bool false), (.bool false), (.bool false), (.bool false), (.bool false), (.bool false), (.bool false), (.bool false), (.bool false), (.bool false), (.bool false), (.bool false), (.bool false), (.bool false), (.bool false), (.bool false), (.bool false), (.bool false), (.bool false), (.bool false), (.bool false), (.bool false), (.bool false), (.bool false), (.bool false), (.bool false), (.bool false), (.bool false), (.bool false), (.bool false), (.bool false), (.bool false), (.bool false), (.bool false), (.bool false), (.bool false), (.bool false), (.bool false), (.bool false), (.bool false), (.bool false), (.bool false), (.bool false), (.bool false), (.bool false), (.bool false), (.bool false), (.bool false), (.bool false), (.bool false), (.bool false), (.bool false), (.bool false), (.bool false), (.bool false), (.bool false), (.bool false), (.bool false), (.bool false), (.bool false), (.bool false), (.bool false), (.bool false), (.bool false), (.bool false), (.bool false), (.bool false), (.bool false), (.bool false), (.bool false), (.bool false), (.bool false), (.bool false), (.bool false), (.bool false), (.bool false), (.bool false), (.bool false), (.bool false), (.bool false), (.bool false), (.bool false), (.bool false), (.bool false), (.bool false), (.bool false), (.bool false), (.bool false), (.bool false), (.bool false), (.bool false), (.bool false), (.bool false), (.bool false), (.bool false), (.bool false), (.bool false), (.bool false), (.bool false), (.bool false), (.bool false), (.bool false), (.bool false), (.bool false), (.bool false), (.bool false), (.bool false), (.bool false), (.bool false), (.bool false), (.bool false), (.bool false), (.bool false), (.bool false), (.bool false), (.bool false), (.bool false), (.bool false), (.bool false), (.bool false), (.bool false), (.bool false), (.bool false), (.bool false)] h_1) fun as5 h_2 =>
 OH (oStore 256 h_2 as5 x32) fun _ h_3 =>
 IfP x33
 (CallP P 130 [s0, as5] h_3 fun x36 h_4 =>
 CallP P 129 [x36, as5] h_4 fun x37 h_5 =>
 K x37 h_5)
 (CallP P 132 [s0, cutset1] h_3 fun x40 h_4 =>
 CallP P 131 [x40, cutset1] h_4 fun x42 h_5 =>
 K x42 h_5))) := (CutP_def _ _ _ _).trans (by kernel_rfl)
theorem q107z12 (s0 cutset1 x17 : Value) (h : Heap) : p107z12 P K s0 cutset1 x17 h =
 (GdP x17 true
 (OP (iIdxS cutset1 (.int .i64 (0))) fun x19 =>
 OP (iBin .lss x19 (.int .u8 (128))) fun x20 =>
 p107z14 P K s0 cutset1 x17 x20 h)
 (p107z14 P K s0 cutset1 x17 undef h)) := (CutP_def _ _ _ _).trans (by kernel_rfl)
def T107 (s0 cutset1 : Value) (h : Heap) : Prop :=
 OP (iBin .eql s0 (.string ⟨#[]⟩)) fun x8 =>
 p107z5 P K s0 cutset1 x8 h
theorem e107 (s0 cutset1 : Value) (h : Heap) : iwpP P c107 (bodyP [.tmp 4] K) (frame0 [s0, cutset1]) h = T107 P K s0 cutset1 h := by kernel_rfl
theorem f107 {K : VK} {s0 cutset1 : Value} {h : Heap} (H : T107 Tryz.prog K s0 cutset1 h) : CallP Tryz.prog 107 [s0, cutset1] h K :=
 callP_intro k107 (Nat.le_of_ble_eq_true rfl) ((e107 Tryz.prog K s0 cutset1 h).mpr H)
/-! F108: slices.Index[[]string,string] -/
noncomputable def oc108 := compFn Tryz.prog 108 [[], [], [0, 1, 7], [8], [], [], [], [], [], [], [], []]
@[irreducible] noncomputable def c108 : ICode := icOf oc108
@[irreducible] noncomputable def c108z5 : ICode := c108.r.l.r.l.l
@[irreducible] noncomputable def c108z2 : ICode := c108.r.r
theorem k108 : oc108 = some (19, c108, [.tmp 4]) := by kernel_rfl
def K108z0 (_P : Program) (K : VK) : Kont := bodyP [.tmp 4] K
def K108z2 : Kont := thenK (iwpP P c108z2 (K108z0 P K)) (K108z0 P K)
def K108z4 : Kont := inBlockK 0 (K108z2 P K)
def K108z5 (s0 v1 x7 : Value) (L1 : LK) : Kont := thenK (fun f' h'' => (([0, 1, 7] : List Nat).map f' : List Value) = [s0, v1, x7] ∧ L1 (([8] : List Nat).map f') h'') (K108z4 P K)
def p108z5 (s0 v1 x7 : Value) (L1 : LK) (xs : List Value) (h : Heap) : Prop := CutP (iwpP P c108z5 (K108z5 P K s0 v1 x7 L1)) ([0, 1, 7] ++ [8]) ([s0, v1, x7] ++ xs) h
theorem q108z5 (s0 v1 x7 : Value) (L1 : LK) (x8 : Value) (h : Heap) : p108z5 P K s0 v1 x7 L1 [x8] h =
 (OP (iBin .lss x8 x7) fun x9 =>
 IfP x9
 (OP (iAdrSl 1 s0 x8) fun x14 =>
 OP (iLoad false 1 h x14) fun x15 =>
 OP (iBin .eql v1 x15) fun x16 =>
 IfP x16
 (K x8 h)
 (OP (iBin .add x8 (.int .i64 (1))) fun x18 =>
 ([s0, v1, x7] : List Value) = [s0, v1, x7] ∧ L1 [x18] h))
 (K (.int .i64 (-1)) h)) := (CutP_def _ _ _ _).trans (by kernel_rfl)
def T108 (s0 v1 : Value) (h : Heap) : Prop :=
 OP (iLenSl s0) fun x7 =>
 LoopP [(.int .i64 (0))] h fun L1 xs hx =>
 p108z5 P K s0 v1 x7 L1 xs hx
theorem e108 (s0 v1 : Value) (h : Heap) : iwpP P c108 (bodyP [.tmp 4] K) (frame0 [s0, v1]) h = T108 P K s0 v1 h := by kernel_rfl
theorem f108 {K : VK} {s0 v1 : Value} {h : Heap} (H : T108 Tryz.prog K s0 v1 h) : CallP Tryz.prog 108 [s0, v1] h K :=
 callP_intro k108 (Nat.le_of_ble_eq_true rfl) ((e108 Tryz.prog K s0 v1 h).mpr H)
/-! F128: strings.makeASCIISet -/
noncomputable def oc128 := compFn Tryz.prog 128 [[], [], [0, 2], [4], [], [], [], [], [], [], [], [2], []]
@[irreducible] noncomputable def c128 : ICode := icOf oc128
@[irreducible] noncomputable def c128z5 : ICode := c128.r.l.r.l.l
@[irreducible] noncomputable def c128z2 : ICode := c128.r.r
theorem k128 : oc128 = some (21, c128, [.cell true 256 2, .tmp 3]) := by kernel_rfl
def K128z0 (_P : Program) (K : VK) : Kont := bodyP [.cell true 256 2, .tmp 3] K
def K128z2 : Kont := thenK (iwpP P c128z2 (K128z0 P K)) (K128z0 P K)
def K128z4 : Kont := inBlockK 0 (K128z2 P K)
def K128z5 (chars0 as2 : Value) (L1 : LK) : Kont := thenK (fun f' h'' => (([0, 2] : List Nat).map f' : List Value) = [chars0, as2] ∧ L1 (([4] : List Nat).map f') h'') (K128z4 P K)
def p128z5 (chars0 as2 : Value) (L1 : LK) (xs : List Value) (h : Heap) : Prop := CutP (iwpP P c128z5 (K128z5 P K chars0 as2 L1)) ([0, 2] ++ [4]) ([chars0, as2] ++ xs) h
def T128 (chars0 : Value) (h : Heap) : Prop :=
 OH (iAlloc 158 [(.bool false), (.bool false), (.bool false), (.bool false), (.bool false), (.bool false), (.bool false), (.bool false), (.bool false), (.bool false), (.bool false), (.bool false), (.bool false), (.bool false), (.bool false), (.bool false), (.bool false), (.bool false), (.bool false), (.bool false), (.bool false), (.bool false), (.bool false), (.bool false), (.bool false), (.bool false), (.bool false), (.bool false), (.bool false), (.bool false), (.bool false), (.bool false), (.bool false), (.bool false), (.bool false), (.bool false), (.bool false), (.bool false), (.bool false), (.bool false), (.bool false), (.bool false), (.bool false), (.bool false), (.bool false), (.bool false), (.bool false), (.bool false), (.bool false), (.bool false), (.bool false), (.bool false), (.bool false), (.bool false), (.bool false), (.bool false), (.bool false), (.bool false), (.bool false), (.bool false), (.bool false), (.bool false), (.bool false), (.bool false), (.bool false), (.bool false), (.bool false), (.bool false), (.bool false), (.bool false), (.bool false), (.bool false), (.bool false), (.bool false), (.bool false), (.bool false), (.bool false), (.bool false), (.bool false), (.bool false), (.bool false), (.bool false), (.bool false), (.bool false), (.bool false), (.bool false), (.bool false), (.bool false), (.bool false), (.bool false), (.bool false), (.bool false), (.bool false), (.bool false), (.bool false), (.bool false), (.bool false), (.bool false), (.bool false), (.bool false), (.bool false), (.bool false), (.bool false), (.bool false), (.bool false), (.bool false), (.bool false), (.bool false), (.bool false), (.bool false), (.bool false), (.bool false), (.bool false), (.bool false), (.bool false), (.bool false), (.bool false), (.bool false), (.bool false), (.bool false), (.bool false), (.bool false), (.bool false), (.bool false), (.bool false), (.bool false), (.bool false), (.bool false), (.bool false), (.bool false), (.bool false), (.bool false), (.bool false), (.bool false), (.bool false), (.bool false), (.bool false), (.bool false), (.bool false), (.bool false), (.bool false), (.bool false), (.bool false), (.bool false), (.bool false), (.bool false), (.bool false), (.bool false), (.bool false), (.bool false), (.bool false), (.bool false), (.bool false), (.bool false), (.bool false), (.bool false), (.bool false), (.bool false), (.bool false), (.bool false), (.bool false), (.bool false), (.bool false), (.bool false), (.bool false), (.bool false), (.bool false), (.bool false), (.bool false), (.bool false), (.bool false), (.bool false), (.bool false), (.bool false), (.bool false), (.bool false), (.bool false), (.bool false), (.bool false), (.bool false), (.bool false), (.bool false), (.bool false), (.bool false), (.bool false), (.bool false), (.bool false), (.bool false), (.bool false), (.bool false), (.bool false), (.bool false), (.bool false), (.bool false), (.bool false), (.bool false), (.bool false), (.bool false), (.bool false), (.bool false), (.bool false), (.bool false), (.bool false), (.bool false), (.bool false), (.bool false), (.bool false), (.bool false), (.bool false), (.bool false), (.bool false), (.bool false), (.bool false), (.bool false), (.bool false), (.bool false), (.bool false), (.bool false), (.bool false), (.bool false), (.bool false), (.bool false), (.bool false), (.bool false), (.bool false), (.bool false), (.bool false), (.bool false), (.bool false), (.bool false), (.bool false), (.bool false), (.bool false), (.bool false), (.bool false), (.bool false), (.bool false), (.bool false), (.bool false), (.bool false), (.bool false), (.bool false), (.bool false), (.bool false), (.bool false), (.bool false), (.bool false), (.bool false), (.bool false), (.bool false), (.bool false), (.bool false), (.bool false), (.bool false), (.bool false), (.bool false)] h) fun as2 h_1 =>
 LoopP [(.int .i64 (0))] h_1 fun L1 xs hx =>
 p128z5 P K chars0 as2 L1 xs hx
theorem e128 (chars0 : Value) (h : Heap) : iwpP P c128 (bodyP [.cell true 256 2, .tmp 3] K) (frame0 [chars0]) h = T128 P K chars0 h := by kernel_rfl
theorem f128 {K : VK} {chars0 : Value} {h : Heap} (H : T128 Tryz.prog K chars0 h) : CallP Tryz.prog 128 [chars0] h K :=
 callP_intro k128 (Nat.le_of_ble_eq_true rfl) ((e128 Tryz.prog K chars0 h).mpr H)
/-! F129: strings.trimLeftASCII -/
noncomputable def oc129 := compFn Tryz.prog 129 [[], [1], [0], [], [], [], [], [0], []]
@[irreducible] noncomputable def c129 : ICode := icOf oc129
@[irreducible] noncomputable def c129z4 : ICode := c129.r.l.l.l
@[irreducible] noncomputable def c129z2 : ICode := c129.r.r
@[irreducible] noncomputable def c129z10 : ICode := c129z2.l
theorem k129 : oc129 = some (16, c129, [.tmp 4]) := by kernel_rfl
def K129z0 (_P : Program) (K : VK) : Kont := bodyP [.tmp 4] K
def K129z2 : Kont := thenK (iwpP P c129z2 (K129z0 P K)) (K129z0 P K)
def K129z3 : Kont := inBlockK 0 (K129z2 P K)
def K129z4 (as1 : Value) (L1 : LK) : Kont := thenK (fun f' h'' => (([1] : List Nat).map f' : List Value) = [as1] ∧ L1 (([0] : List Nat).map f') h'') (K129z3 P K)
def p129z4 (as1 : Value) (L1 : LK) (xs : List Value) (h : Heap) : Prop := CutP (iwpP P c129z4 (K129z4 P K as1 L1)) ([1] ++ [0]) ([as1] ++ xs) h
def p129z10 (s0 : Value) (h : Heap) : Prop := CutP (iwpP P c129z10 (K129z0 P K)) [0] [s0] h
theorem q129z4 (as1 : Value) (L1 : LK) (s0 : Value) (h : Heap) : p129z4 P K as1 L1 [s0] h =
 (OP (iLenS s0) fun x6 =>
 OP (iBin .gtr x6 (.int .i64 (0))) fun x7 =>
 IfP x7
 (OP (iIdxS s0 (.int .i64 (0))) fun x10 =>
 CallP P 150 [as1, x10] h fun x11 h_1 =>
 OP (iUn .not x11) fun x12 =>
 IfP x12
 (p129z10 P K s0 h_1)
 (OP (iSlS s0 (some (.int .i64 (1))) none) fun x14 =>
 ([as1] : List Value) = [as1] ∧ L1 [x14] h_1))
 (p129z10 P K s0 h)) := (CutP_def _ _ _ _).trans (by kernel_rfl)
theorem q129z10 (s0 : Value) (h : Heap) : p129z10 P K s0 h =
 (K s0 h) := (CutP_def _ _ _ _).trans (by kernel_rfl)
def T129 (s0 as1 : Value) (h : Heap) : Prop :=
 LoopP [s0] h fun L1 xs hx =>
 p129z4 P K as1 L1 xs hx
theorem e129 (s0 as1 : Value) (h : Heap) : iwpP P c129 (bodyP [.tmp 4] K) (frame0 [s0, as1]) h = T129 P K s0 as1 h := by kernel_rfl
theorem f129 {K : VK} {s0 as1 : Value} {h : Heap} (H : T129 Tryz.prog K s0 as1 h) : CallP Tryz.prog 129 [s0, as1] h K :=
 callP_intro k129 (Nat.le_of_ble_eq_true rfl) ((e129 Tryz.prog K s0 as1 h).mpr H)
/-! F130: strings.trimRightASCII -/
noncomputable def oc130 := compFn Tryz.prog 130 [[], [1], [0], [], [], [], [], [0], []]
@[irreducible] noncomputable def c130 : ICode := icOf oc130
@[irreducible] noncomputable def c130z4 : ICode := c130.r.l.l.l
@[irreducible] noncomputable def c130z2 : ICode := c130.r.r
@[irreducible] noncomputable def c130z10 : ICode := c130z2.l
theorem k130 : oc130 = some (22, c130, [.tmp 4]) := by kernel_rfl
def K130z0 (_P : Program) (K : VK) : Kont := bodyP [.tmp 4] K
def K130z2 : Kont := thenK (iwpP P c130z2 (K130z0 P K)) (K130z0 P K)
def K130z3 : Kont := inBlockK 0 (K130z2 P K)
def K130z4 (as1 : Value) (L1 : LK) : Kont := thenK (fun f' h'' => (([1] : List Nat).map f' : List Value) = [as1] ∧ L1 (([0] : List Nat).map f') h'') (K130z3 P K)
def p130z4 (as1 : Value) (L1 : LK) (xs : List Value) (h : Heap) : Prop := CutP (iwpP P c130z4 (K130z4 P K as1 L1)) ([1] ++ [0]) ([as1] ++ xs) h
def p130z10 (s0 : Value) (h : Heap) : Prop := CutP (iwpP P c130z10 (K130z0 P K)) [0] [s0] h
theorem q130z4 (as1 : Value) (L1 : LK) (s0 : Value) (h : Heap) : p130z4 P K as1 L1 [s0] h =
 (OP (iLenS s0) fun x6 =>
 OP (iBin .gtr x6 (.int .i64 (0))) fun x7 =>
 IfP x7
 (OP (iLenS s0) fun x11 =>
 OP (iBin .sub x11 (.int .i64 (1))) fun x12 =>
 OP (iIdxS s0 x12) fun x13 =>
 CallP P 150 [as1, x13] h fun x14 h_1 =>
 OP (iUn .not x14) fun x15 =>
 IfP x15
 (p130z10 P K s0 h_1)
 (OP (iLenS s0) fun x18 =>
 OP (iBin .sub x18 (.int .i64 (1))) fun x19 =>
 OP (iSlS s0 none (some x19)) fun x20 =>
 ([as1] : List Value) = [as1] ∧ L1 [x20] h_1))
 (p130z10 P K s0 h)) := (CutP_def _ _ _ _).trans (by kernel_rfl)
theorem q130z10 (s0 : Value) (h : Heap) : p130z10 P K s0 h =
 (K s0 h) := (CutP_def _ _ _ _).trans (by kernel_rfl)
def T130 (s0 as1 : Value) (h : Heap) : Prop :=
 LoopP [s0] h fun L1 xs hx =>
 p130z4 P K as1 L1 xs hx
theorem e130 (s0 as1 : Value) (h : Heap) : iwpP P c130 (bodyP [.tmp 4] K) (frame0 [s0, as1]) h = T130 P K s0 as1 h := by kernel_rfl
theorem f130 {K : VK} {s0 as1 : Value} {h : Heap} (H : T130 Tryz.prog K s0 as1 h) : CallP Tryz.prog 130 [s0, as1] h K :=
 callP_intro k130 (Nat.le_of_ble_eq_true rfl) ((e130 Tryz.prog K s0 as1 h).mpr H)
/-! F150: (*strings.asciiSet).contains -/
noncomputable def oc150 := compFn Tryz.prog 150 [[], []]
@[irreducible] noncomputable def c150 : ICode := icOf oc150
theorem k150 : oc150 = some (10, c150, [.tmp 4]) := by kernel_rfl
def T150 (P : Program) (K : VK) (as0 c1 : Value) (h : Heap) : Prop :=
 OP (iNilck as0) fun x7 =>
 OP (iAdrArr 256 1 x7 c1) fun x8 =>
 OP (iLoad false 1 h x8) fun x9 =>
 K x9 h
theorem e150 (as0 c1 : Value) (h : Heap) : iwpP P c150 (bodyP [.tmp 4] K) (frame0 [as0, c1]) h = T150 P K as0 c1 h := by kernel_rfl
theorem f150 {K : VK} {as0 c1 : Value} {h : Heap} (H : T150 Tryz.prog K as0 c1 h) : CallP Tryz.prog 150 [as0, c1] h K :=
 callP_intro k150 (Nat.le_of_ble_eq_true rfl) ((e150 Tryz.prog K as0 c1 h).mpr H)
end Go.Proofs.YthplaillblmgfaaGreatDoor

namespace Go.Proofs.YthplaillblmgfaaGreatDoor
open Go.Sim

def isBit (c : UInt8) : Bool := c == 48 || c == 49
def bitsB (s : List UInt8) : Bool := s.all isBit

def asV : List Value := (List.range 256).map fun i => .bool (i == 48 || i == 49)

theorem asV_len : asV.length = 256 := by simp [asV]
theorem asV_get (c : UInt8) : asV[c.toNat]? = some (B (isBit c)) := by
  have h := c.toNat_lt
  unfold asV
  rw [List.getElem?_map, List.getElem?_range (by omega)]
  have e : (c.toNat == 48 || c.toNat == 49) = isBit c := by
    have e1 : (c.toNat == 48) = (c == 48) := by
      rw [Bool.eq_iff_iff, beq_iff_eq, beq_iff_eq, ← UInt8.toNat_inj]; rfl
    have e2 : (c.toNat == 49) = (c == 49) := by
      rw [Bool.eq_iff_iff, beq_iff_eq, beq_iff_eq, ← UInt8.toNat_inj]; rfl
    rw [e1, e2]; rfl
  simp only [Option.map_some, e]

theorem renL_const : ∀ vs : List Value, (∀ v ∈ vs, scal v = true) → RenL (vs.map fun v => fun _ : Nat => v)
  | [], _ => .nil
  | v :: vs, h => .cons (Ren.scal (h v (by simp))) (renL_const vs fun x hx => h x (by simp [hx]))

theorem setE : (evK Tryz.prog evH 1000 orcN 10 (.func 128) [S [48, 49]] []).map Prod.fst = some (.tuple #[.agg asV.toArray, .bool true]) := by kernel_rfl

theorem ren_agg (vs : List Value) (h : ∀ v ∈ vs, scal v = true) (hc : ∀ v ∈ vs, isCell v = true) : Ren fun _ => .agg vs.toArray := by
  have := Ren.agg (renL_const vs h) (fun j V hV => by
    obtain ⟨v, hv, rfl⟩ := List.mem_map.1 hV
    exact hc v hv)
  simpa [List.map_map, Function.comp_def] using this

theorem C128 {h : Heap} {K : Value → Heap → Prop} (hk : K (.tuple #[.agg asV.toArray, .bool true]) h) : CallP Tryz.prog 128 [S [48, 49]] h K := by
  obtain ⟨h', hc⟩ := evK_call evH 1000 10 orcN_sound setE
  have hs : ∀ v ∈ asV, scal v = true ∧ isCell v = true := by
    intro v hv
    obtain ⟨i, _, rfl⟩ := List.mem_map.1 hv
    exact ⟨rfl, rfl⟩
  exact callP_any (Ren.tuple (l := [fun _ => .agg asV.toArray, fun _ => .bool true]) (.cons (ren_agg _ (fun v hv => (hs v hv).1) fun v hv => (hs v hv).2) (.cons (Ren.scal rfl) .nil))) hc rfl hk

theorem C150 {i : Nat} {c : UInt8} {h : Heap} {K : Value → Heap → Prop} (hg : h[i]? = some (.arr 158 asV)) (hk : K (B (isBit c)) h) : CallP Tryz.prog 150 [pt i 0, cv c] h K := by
  refine f150 ?_
  have hlt := c.toNat_lt
  have a1 : iNilck (pt i 0) = some (pt i 0) := rfl
  have a2 : iAdrArr 256 1 (pt i 0) (cv c) = some (pt i c.toNat) := by
    have : (0 : Int) ≤ (c.toNat : Int) ∧ (c.toNat : Int) < 256 := by omega
    simp [iAdrArr, this]
  have a3 : iLoad false 1 h (pt i c.toNat) = some (B (isBit c)) := by simp [iLoad, objCells, hg, iPart, asV_get]
  simp only [T150, a1, a2, a3, OP_some]
  exact hk

def trimR (s : List UInt8) : List UInt8 := (s.reverse.dropWhile isBit).reverse

theorem trimR_snoc (s : List UInt8) (c : UInt8) : trimR (s ++ [c]) = if isBit c then trimR s else s ++ [c] := by
  simp only [trimR, List.reverse_append, List.reverse_cons, List.reverse_nil, List.nil_append, List.singleton_append, List.dropWhile_cons]
  split
  · rfl
  · simp

theorem C130 {i : Nat} {s0 : List UInt8} {h : Heap} {K : Value → Heap → Prop} (hl : s0.length < 4611686018427387904) (hg : h[i]? = some (.arr 158 asV)) (hk : K (S (trimR s0)) h) : CallP Tryz.prog 130 [S s0, pt i 0] h K := by
  refine f130 ?_
  unfold T130
  refine loopL (σ := List UInt8) (fun s => [S s]) (fun _ => h) (fun s => trimR s = trimR s0 ∧ s.length ≤ s0.length) (fun s => s.length) s0 rfl rfl ⟨rfl, Nat.le_refl _⟩ ?_
  rintro s ⟨hs, hsl⟩ L hL
  rw [q130z4]
  simp only [lenS_S, OP_some, bin_gtr, IfP_dec]
  refine ⟨fun hpos => ?_, fun hz => ?_⟩
  · obtain ⟨t, c, rfl⟩ : ∃ t c, s = t ++ [c] := ⟨s.dropLast, s.getLast (by rintro rfl; simp at hpos), (List.dropLast_concat_getLast _).symm⟩
    rw [List.length_append, List.length_singleton] at hsl
    have w : IntKind.wrap .i64 (((t ++ [c]).length : Int) - 1) = (t.length : Int) := by
      rw [List.length_append, List.length_singleton, wrap64 (by omega) (by omega)]; omega
    have ix : iIdxS (S (t ++ [c])) (I t.length) = some (cv c) := by
      have := idxS_S (a := t ++ [c]) (i := t.length) (by simp) .i64
      simpa using this
    have sx : iSlS (S (t ++ [c])) none (some (I t.length)) = some (S t) := by
      have := slS_hi (a := t ++ [c]) (n := t.length) (by simp) .i64
      simpa using this
    simp only [bin_sub, w, OP_some, ix]
    refine C150 hg ?_
    simp only [un_not, OP_some]
    rw [trimR_snoc] at hs
    cases hb : isBit c with
    | true =>
      rw [hb] at hs
      simp only [if_true] at hs
      simp only [Bool.not_true, IfP_false, lenS_S, bin_sub, w, OP_some, sx, true_and]
      exact hL t ⟨hs, by omega⟩ (by simp)
    | false =>
      rw [hb] at hs
      simp only [Bool.false_eq_true, if_false] at hs
      simp only [Bool.not_false, IfP_true]
      rw [q130z10, hs]
      exact hk
  · have : s = [] := by
      cases s with
      | nil => rfl
      | cons c s => simp at hz
    subst this
    rw [q130z10]
    have e : trimR s0 = [] := hs.symm
    rw [e] at hk
    exact hk

theorem C129 {i : Nat} {s0 : List UInt8} {h : Heap} {K : Value → Heap → Prop} (hg : h[i]? = some (.arr 158 asV)) (hk : K (S (s0.dropWhile isBit)) h) : CallP Tryz.prog 129 [S s0, pt i 0] h K := by
  refine f129 ?_
  unfold T129
  refine loopL (σ := List UInt8) (fun s => [S s]) (fun _ => h) (fun s => s.dropWhile isBit = s0.dropWhile isBit) (fun s => s.length) s0 rfl rfl rfl ?_
  intro s hs L hL
  rw [q129z4]
  simp only [lenS_S, OP_some, bin_gtr, IfP_dec]
  refine ⟨fun hpos => ?_, fun hz => ?_⟩
  · cases s with
    | nil => simp at hpos
    | cons c t =>
      have ix : iIdxS (S (c :: t)) (.int .i64 (0)) = some (cv c) := by
        have := idxS_S (a := c :: t) (i := 0) (by simp) .i64
        simpa using this
      have sx : iSlS (S (c :: t)) (some (.int .i64 (1))) none = some (S t) := by
        have := slS_lo (a := c :: t) (n := 1) (by simp) .i64
        simpa using this
      simp only [ix, OP_some]
      refine C150 hg ?_
      simp only [un_not, OP_some]
      cases hb : isBit c with
      | true =>
        simp only [Bool.not_true, IfP_false, sx, OP_some, true_and]
        refine hL t ?_ (by simp)
        rw [List.dropWhile_cons, if_pos hb] at hs
        exact hs
      | false =>
        simp only [Bool.not_false, IfP_true]
        rw [List.dropWhile_cons, if_neg (by rw [hb]; simp)] at hs
        rw [q129z10, hs]
        exact hk
  · have : s = [] := by
      cases s with
      | nil => rfl
      | cons c s => simp at hz
    subst this
    rw [q129z10]
    rw [← hs] at hk
    exact hk

theorem trim_nil {s : List UInt8} : (trimR s).dropWhile isBit = [] ↔ bitsB s = true := by
  have dw : ∀ l : List UInt8, l.dropWhile isBit = [] ↔ l.all isBit = true := by
    intro l
    induction l with
    | nil => simp
    | cons c l ih =>
      rw [List.dropWhile_cons]
      cases hb : isBit c <;> simp [hb, ih]
  have mem : ∀ l : List UInt8, (∀ c ∈ l.dropWhile isBit, isBit c = true) → l.dropWhile isBit = [] := by
    intro l h
    induction l with
    | nil => rfl
    | cons c l ih =>
      rw [List.dropWhile_cons] at h ⊢
      split
      · rename_i hb; rw [if_pos hb] at h; exact ih h
      · rename_i hb; rw [if_neg hb] at h; exact absurd (h c (by simp)) hb
  rw [dw, List.all_eq_true]
  unfold trimR bitsB
  constructor
  · intro h
    have : s.reverse.dropWhile isBit = [] := mem _ fun c hc => h c (by simpa using hc)
    rw [dw] at this
    simpa using this
  · intro h c hc
    have : s.reverse.dropWhile isBit = [] := (dw _).2 (by simpa using h)
    rw [this] at hc
    simp at hc

theorem iAlloc_eq (e : TypeId) (zs : List Value) (h : Heap) : iAlloc e zs h = some (pt h.length 0, h ++ [.arr e zs]) := rfl

theorem store_all {g : Heap} {i : Nat} {e : TypeId} {zs vs : List Value} (hg : g[i]? = some (.arr e zs)) (h1 : zs.length = 256) (h2 : vs.length = 256) : oStore 256 g (pt i 0) (.agg vs.toArray) = some (undef, g.set i (.arr e vs)) := by
  have hv : vcells (.agg vs.toArray) = vs := by simp [vcells, Value.cells]
  have : setAt zs 0 vs = vs := by simp [setAt, h1, h2]
  simp only [oStore, iStore, hg, hv, this]
  rw [if_pos ⟨rfl, h2, by omega⟩]
  rfl

theorem C77 {s : List UInt8} {h : Heap} {K : Value → Heap → Prop} (hl : s.length < 4611686018427387904) (hk : ∀ h', EX h h' → K (B (bitsB s)) h') : CallP Tryz.prog 77 [S s] h K := by
  refine f77 (f107 ?_)
  have e1 : ∀ s : List UInt8, iBin .eql (S s) (.string ⟨#[]⟩) = some (B (decide (s = []))) := fun s => by show iBin .eql (S s) (S []) = _; rw [bin_eqlS]
  have e2 : iBin .eql (.string ⟨#[48, 49]⟩) (.string ⟨#[]⟩) = some (B false) := rfl
  have e3 : iLenS (.string ⟨#[48, 49]⟩) = some (I 2) := rfl
  simp only [T107, e1, OP_some]
  rw [q107z5]
  by_cases hs : s = []
  · subst hs
    simp only [decide_true, GdP_tf, q107z7, iPick_t, OP_some, IfP_true, e1]
    exact hk h (EX.refl _)
  simp only [decide_eq_false hs, GdP_ff, e2, OP_some]
  rw [q107z7]
  simp only [iPick_f, OP_some, IfP_false, e3, bin_eql, decide_eq_false (show ¬ (2 : Int) = 1 by decide)]
  rw [q107z12]
  simp only [GdP_ft]
  rw [q107z14]
  have x0 : ∀ zs, EX h ((h ++ [IObj.arr 158 zs]).set h.length (.arr 158 asV)) := fun zs => (EX.append _ _).set (Nat.le_refl _) _
  have k0 : ∀ zs, ((h ++ [IObj.arr 158 zs]).set h.length (.arr 158 asV))[h.length]? = some (.arr 158 asV) := fun zs => List.getElem?_set_self (by simp)
  have x1 : iExt 0 (.tuple #[.agg asV.toArray, .bool true]) = some (.agg asV.toArray) := rfl
  have x2 : iExt 1 (.tuple #[.agg asV.toArray, .bool true]) = some (.bool true) := rfl
  refine OP_of (iPick_f _ _) (IfP_false.2 (C128 (OP_of x1 (OP_of x2 (OH_of (iAlloc_eq _ _ _) (OH_of (store_all get_last (by kernel_rfl) asV_len) (IfP_true.2 ?_)))))))
  have this : decide ((trimR s).dropWhile isBit = []) = bitsB s := by
    rw [Bool.eq_iff_iff, decide_eq_true_eq, trim_nil]
  rw [← this] at hk
  exact C130 hl (k0 _) (C129 (k0 _) (OP_of (e1 _) (hk _ (x0 _))))

end Go.Proofs.YthplaillblmgfaaGreatDoor


namespace Go.Proofs.YthplaillblmgfaaGreatDoor
open Go.Sim

theorem C79 {s p : List UInt8} {h : Heap} {K : Value → Heap → Prop} (hk : K (B (decide (p <+: s))) h) : CallP Tryz.prog 79 [S s, S p] h K := by
  refine f79 ?_
  unfold T79
  simp only [lenS_S, OP_some, bin_geq]
  rw [q79z4]
  by_cases hl : p.length ≤ s.length
  · rw [decide_eq_true (show (p.length : Int) ≤ s.length by omega)]
    simp only [GdP_tt, lenS_S, OP_some, slS_hi (a := s) hl .i64, bin_eqlS]
    rw [q79z6]
    simp only [iPick_t, OP_some]
    have : decide (s.take p.length = p) = decide (p <+: s) := decide_eq_decide.2 (by rw [List.prefix_iff_eq_take]; exact eq_comm)
    rw [this]
    exact hk
  · rw [decide_eq_false (show ¬ (p.length : Int) ≤ s.length by omega)]
    simp only [GdP_ft, OP_some]
    rw [q79z6]
    simp only [iPick_f, OP_some]
    have : decide (p <+: s) = false := decide_eq_false fun h => hl h.length_le
    rw [this] at hk
    exact hk

theorem C43 {s p : List UInt8} {h : Heap} {K : Value → Heap → Prop} (hk : K (B (decide (p <+: s))) h) : CallP Tryz.prog 43 [S s, S p] h K :=
  f43 (C79 hk)

def rk (t : List UInt8) : Nat := t.foldl (fun n c => 2 * n + (if c = 49 then 1 else 0)) 1

theorem revInd {α : Type} {P : List α → Prop} (h0 : P []) (h1 : ∀ t c, P t → P (t ++ [c])) (l : List α) : P l := by
  have : ∀ n (l : List α), l.length = n → P l := by
    intro n
    induction n with
    | zero => intro l hl; rw [List.length_eq_zero_iff.1 hl]; exact h0
    | succ n ih =>
      intro l hl
      have hn : l ≠ [] := by rintro rfl; simp at hl
      rw [← List.dropLast_concat_getLast hn]
      exact h1 _ _ (ih _ (by rw [List.length_dropLast]; omega))
  exact this _ l rfl

theorem rk_snoc (t : List UInt8) (c : UInt8) : rk (t ++ [c]) = 2 * rk t + (if c = 49 then 1 else 0) := by simp [rk, List.foldl_append]

theorem rk_app_le {a b : List UInt8} (h : rk a ≤ rk b) (r : List UInt8) : rk (a ++ r) ≤ rk (b ++ r) := by
  refine revInd (P := fun r => rk (a ++ r) ≤ rk (b ++ r)) (by simpa using h) (fun r c ih => ?_) r
  rw [← List.append_assoc, ← List.append_assoc, rk_snoc, rk_snoc]; split <;> omega

theorem rk_bounds (t : List UInt8) : 2 ^ t.length ≤ rk t ∧ rk t < 2 ^ (t.length + 1) := by
  refine revInd (P := fun t => 2 ^ t.length ≤ rk t ∧ rk t < 2 ^ (t.length + 1)) (by simp [rk]) (fun t c ih => ?_) t
  rw [rk_snoc, List.length_append, List.length_singleton, Nat.pow_succ, Nat.pow_succ 2 (t.length + 1)]
  split <;> omega

theorem rk_len {a b : List UInt8} (h : rk a ≤ rk b) : a.length ≤ b.length := by
  have h1 := (rk_bounds a).1
  have h2 := (rk_bounds b).2
  have : 2 ^ a.length < 2 ^ (b.length + 1) := by omega
  have := (Nat.pow_lt_pow_iff_right (by omega)).1 this
  omega

theorem isBit_or {c : UInt8} (h : isBit c = true) : c = 48 ∨ c = 49 := by
  simpa [isBit] using h

def vl (n : Nat) (t : List UInt8) : Nat := t.foldl (fun n c => 2 * n + (if c = 49 then 1 else 0)) n

theorem vl_bounds : ∀ (t : List UInt8) (n : Nat), n * 2 ^ t.length ≤ vl n t ∧ vl n t < (n + 1) * 2 ^ t.length
  | [], n => by simp [vl]
  | c :: t, n => by
    have e1 : ∀ w : Nat, n * (w * 2) = (2 * n) * w := fun w => by rw [Nat.mul_comm w 2, ← Nat.mul_assoc, Nat.mul_comm n 2]
    have e2 : ∀ w : Nat, (n + 1) * (w * 2) = (2 * n + 2) * w := fun w => by rw [Nat.mul_comm w 2, ← Nat.mul_assoc, Nat.mul_comm _ 2, Nat.mul_add]
    rw [List.length_cons, Nat.pow_succ, e1, e2]
    have hv : vl n (c :: t) = vl (2 * n + (if c = 49 then 1 else 0)) t := rfl
    rw [hv]
    by_cases hc : c = 49
    · rw [if_pos hc]
      have := vl_bounds t (2 * n + 1)
      exact ⟨Nat.le_trans (Nat.mul_le_mul_right _ (by omega)) this.1, this.2⟩
    · rw [if_neg hc]
      have := vl_bounds t (2 * n + 0)
      exact ⟨this.1, Nat.lt_of_lt_of_le this.2 (Nat.mul_le_mul_right _ (by omega))⟩

theorem vl_lt : ∀ {a b : List UInt8} (n : Nat), a.length = b.length → bitsB a = true → bitsB b = true → (Op.bytesLess a b = decide (vl n a < vl n b))
  | [], [], n, _, _, _ => by simp [Op.bytesLess]
  | c :: a, d :: b, n, hl, ha, hb => by
    simp only [bitsB, List.all_cons, Bool.and_eq_true] at ha hb
    simp only [List.length_cons, Nat.add_right_cancel_iff] at hl
    have ih := vl_lt (2 * n) hl ha.2 hb.2
    have ih1 := vl_lt (2 * n + 1) hl ha.2 hb.2
    have b0 := vl_bounds a (2 * n)
    have b1 := vl_bounds b (2 * n + 1)
    have b2 := vl_bounds b (2 * n)
    have b3 := vl_bounds a (2 * n + 1)
    rw [hl] at b0 b3
    simp only [vl] at *
    rcases isBit_or ha.1 with rfl | rfl <;> rcases isBit_or hb.1 with rfl | rfl <;> simp [Op.bytesLess, vl] <;> first | exact ih | exact ih1 | omega

theorem rk_short {a b : List UInt8} (h : a.length < b.length) : rk a < rk b := by
  have h1 := (rk_bounds a).2
  have h2 := (rk_bounds b).1
  have := Nat.pow_le_pow_right (n := 2) (by omega) (show a.length + 1 ≤ b.length by omega)
  omega

theorem C42 {a b : List UInt8} {h : Heap} {K : Value → Heap → Prop} (ha : bitsB a = true) (hb : bitsB b = true) (la : a.length < 4611686018427387904) (lb : b.length < 4611686018427387904) (hk : K (B (decide (rk a < rk b))) h) : CallP Tryz.prog 42 [S a, S b] h K := by
  refine f42 ?_
  unfold T42
  have w : IntKind.wrap .i64 ((a.length : Int) - b.length) = (a.length : Int) - b.length := wrap64 (by omega) (by omega)
  simp only [lenS_S, OP_some, bin_sub, w, bin_neq]
  by_cases hl : a.length = b.length
  · rw [decide_eq_true (show (a.length : Int) - b.length = 0 by omega)]
    have e : iBin .lss (S a) (S b) = some (B (Op.bytesLess a b)) := by simp [iBin, iStr, S]
    simp only [Bool.not_true, IfP_false, e, OP_some]
    rw [vl_lt 1 hl ha hb]
    exact hk
  · rw [decide_eq_false (show ¬ (a.length : Int) - b.length = 0 by omega)]
    simp only [Bool.not_false, IfP_true, bin_lss, OP_some]
    have : decide ((a.length : Int) - b.length < 0) = decide (rk a < rk b) := by
      refine decide_eq_decide.2 ⟨fun h => rk_short (by omega), fun h => ?_⟩
      have := rk_len (Nat.le_of_lt h)
      omega
    rw [this]
    exact hk

theorem C78 {v : Value} {ls : List (List UInt8)} {w : List UInt8} {h : Heap} {K : Value → Heap → Prop} (hv : SS h v ls) (hl : ls.length < 4611686018427387904) (hk : K (B (decide (w ∈ ls))) h) : CallP Tryz.prog 78 [v, S w] h K := by
  refine f78 (f108 ?_)
  unfold T108
  simp only [hv.len, OP_some]
  refine loopL (σ := Nat) (fun i => [I i]) (fun _ => h) (fun i => i ≤ ls.length ∧ ∀ j (hj : j < ls.length), j < i → ls[j] ≠ w) (fun i => ls.length - i) 0 rfl rfl ⟨Nat.zero_le _, fun j _ hj => absurd hj (by omega)⟩ ?_
  rintro i ⟨hi, hno⟩ L hL
  rw [q108z5]
  simp only [bin_lss, OP_some, IfP_dec]
  refine ⟨fun hlt => ?_, fun hge => ?_⟩
  · have hlt : i < ls.length := by omega
    obtain ⟨b, o, e1, e2⟩ := hv.get i hlt
    simp only [e1, e2, OP_some, bin_eqlS, IfP_dec, bin_geq, bin_add]
    refine ⟨fun he => ?_, fun hne => ⟨trivial, ?_⟩⟩
    · rw [decide_eq_true (show w ∈ ls from he ▸ List.getElem_mem hlt)] at hk
      rw [decide_eq_true (show (0 : Int) ≤ i by omega)]
      exact hk
    · rw [incM i (by simp [maxLen]; omega)]
      refine hL (i + 1) ⟨hlt, fun j hj hji => ?_⟩ (by omega)
      rcases Nat.lt_succ_iff_lt_or_eq.1 hji with h' | h'
      · exact hno j hj h'
      · subst h'; exact fun h => hne h.symm
  · have : w ∉ ls := by
      intro hw
      obtain ⟨j, hj, e⟩ := List.getElem_of_mem hw
      exact hno j hj (by omega) e
    rw [decide_eq_false this] at hk
    simp only [bin_geq, OP_some]
    exact hk

def codeOk (ls : List (List UInt8)) : Prop := ls.Nodup ∧ ∀ w ∈ ls, w ≠ [] ∧ w.length ≤ 10 ∧ bitsB w = true
open Classical in
noncomputable def chkE (ls : List (List UInt8)) (s : List UInt8) : Int := if 12 < ls.length ∨ 200 < s.length then 3 else if ls = [] ∨ bitsB s = false then 2 else if codeOk ls then 0 else 2

theorem own_part9 {b : Nat} {g : Heap} {v : Value} {ls : List (List UInt8)} (own : OwnS b g 9 v (ls.map S)) {k : Nat} (hk : k ≤ ls.length) : ∃ u, iSlSl 9 1 v none (some (I k)) = some u ∧ SS g u (ls.take k) := by
  rcases own with ⟨rfl, e⟩ | ⟨i, _, rfl, hg⟩
  · have : ls = [] := by simpa using e
    subst this
    have : k = 0 := by simpa using hk
    subst this
    exact ⟨.slice none 0 0, rfl, ⟨rfl, fun k hk => by simp at hk⟩⟩
  · rw [List.length_map]
    refine ⟨sl 9 i 0 k, slSl_hi hk, ⟨by simp [iLenSl, sl, lenOfSl, Nat.min_eq_left hk], fun j hj => ⟨i, j, ?_, ?_⟩⟩⟩
    · rw [List.length_take] at hj
      exact adr_sl (by omega)
    · rw [List.length_take] at hj
      have : (ls.take k)[j]'(by rw [List.length_take]; exact hj) = ls[j]'(by omega) := List.getElem_take
      rw [this]
      have hj' : j < ls.length := by omega
      simp [iLoad, objCells, hg, iPart, hj']

theorem own_ss {b : Nat} {g : Heap} {v : Value} {ls : List (List UInt8)} (own : OwnS b g 9 v (ls.map S)) : SS g v ls := by
  rcases own with ⟨rfl, e⟩ | ⟨i, _, rfl, hg⟩
  · have : ls = [] := by simpa using e
    subst this
    exact ⟨rfl, fun k hk => by simp at hk⟩
  · rw [List.length_map]
    exact SS.sl (by simp [objCells, hg])

theorem own9 {b : Nat} {g g' : Heap} {v : Value} {xs : List Value} (x : EX g g') (o : OwnS b g 9 v xs) : OwnS b g' 9 v xs := o.keep fun d _ hv _ => x.2 d (o.lt hv).2.1

theorem C40 {b : Nat} {v : Value} {ls : List (List UInt8)} {s : List UInt8} {h : Heap} {K : Value → Heap → Prop} (hv : OwnS b h 9 v (ls.map S)) (hl : ls.length < 1000000) (hw : ∀ w ∈ ls, w.length < 4611686018427387904) (hs : s.length < 4611686018427387904) (hk : ∀ h', EX h h' → K (I (chkE ls s)) h') : CallP Tryz.prog 40 [v, S s] h K := by
  refine f40 ?_
  unfold T40
  simp only [(own_ss hv).len, OP_some, bin_gtr]
  have e1 : ∀ s : List UInt8, iBin .eql (S s) (.string ⟨#[]⟩) = some (B (decide (s = []))) := fun s => by show iBin .eql (S s) (S []) = _; rw [bin_eqlS]
  rw [q40z6]
  have long : (12 < ls.length ∨ 200 < s.length) → K (I 3) h := fun hc => by
    have := hk h (EX.refl h)
    rwa [chkE, if_pos hc] at this
  by_cases h1 : 12 < ls.length
  · rw [decide_eq_true (show (12 : Int) < ls.length by omega)]
    simp only [GdP_tf, q40z8, iPick_t, OP_some, IfP_true]
    exact long (.inl h1)
  rw [decide_eq_false (show ¬ (12 : Int) < ls.length by omega)]
  simp only [GdP_ff, lenS_S, bin_gtr, OP_some, q40z8, iPick_f]
  by_cases h2 : 200 < s.length
  · rw [decide_eq_true (show (200 : Int) < s.length by omega)]
    simp only [IfP_true]
    exact long (.inr h2)
  rw [decide_eq_false (show ¬ (200 : Int) < s.length by omega)]
  simp only [IfP_false, (own_ss hv).len, OP_some, bin_eql]
  rw [q40z12]
  have bad : ∀ g, EX h g → (ls = [] ∨ bitsB s = false) → K (I 2) g := fun g xg hc => by
    have := hk g xg
    rwa [chkE, if_neg (by omega), if_pos hc] at this
  by_cases h3 : ls = []
  · rw [decide_eq_true (show (ls.length : Int) = 0 by simp [h3])]
    simp only [GdP_tf, q40z14, iPick_t, OP_some, IfP_true]
    exact bad _ (EX.refl h) (.inl h3)
  rw [decide_eq_false (show ¬ (ls.length : Int) = 0 by have := List.length_pos_iff.2 h3; omega)]
  simp only [GdP_ff]
  refine C77 hs ?_
  intro h4 x4
  simp only [un_not, OP_some, q40z14, iPick_f]
  cases hb : bitsB s with
  | false =>
    simp only [Bool.not_false, IfP_true]
    exact bad _ x4 (.inr hb)
  | true =>
    simp only [Bool.not_true, IfP_false, (own_ss hv).len, OP_some]
    have fin0 : ∀ g, EX h g → codeOk ls → K (I 0) g := fun g xg hc => by
      have := hk g xg
      rwa [chkE, if_neg (by omega), if_neg (by simp [h3, hb]), if_pos hc] at this
    have fin2 : ∀ g, EX h g → ¬ codeOk ls → K (I 2) g := fun g xg hc => by
      have := hk g xg
      rwa [chkE, if_neg (by omega), if_neg (by simp [h3, hb]), if_neg hc] at this
    refine loopL (σ := Nat × Heap) (fun q => [I q.1]) (fun q => q.2) (fun q => q.1 ≤ ls.length ∧ EX h q.2 ∧ ∀ j (hj : j < ls.length), j < q.1 → (ls[j] ≠ [] ∧ ls[j].length ≤ 10 ∧ bitsB ls[j] = true) ∧ ls[j] ∉ ls.take j) (fun q => ls.length - q.1) (0, h4) rfl rfl ⟨Nat.zero_le _, x4, fun j _ hj => absurd hj (Nat.not_lt_zero _)⟩ ?_
    rintro ⟨i, g⟩ ⟨hi, xg, hok⟩ L hL
    simp only at hi xg hok hL ⊢
    rw [q40z19]
    simp only [bin_lss, OP_some, IfP_dec]
    refine ⟨fun hlt => ?_, fun hge => ?_⟩
    · have hlt : i < ls.length := by omega
      obtain ⟨b, o, a1, a2⟩ := ((own_ss hv).mono xg).get i hlt
      have mem : ls[i] ∈ ls := List.getElem_mem hlt
      have hwl := hw _ mem
      simp only [a1, a2, OP_some, e1]
      rw [q40z27]
      by_cases w1 : ls[i] = []
      · simp only [decide_eq_true w1, GdP_tf, q40z29, q40z31, q40z33, q40z35, q40z37, iPick_t, OP_some, IfP_true]
        exact fin2 _ xg fun hc => (hc.2 _ mem).1 w1
      simp only [decide_eq_false w1, GdP_ff, lenS_S, bin_gtr, OP_some, q40z29, iPick_f]
      rw [q40z31]
      by_cases w2 : 10 < ls[i].length
      · rw [decide_eq_true (show (10 : Int) < ls[i].length by omega)]
        simp only [GdP_tf, q40z33, q40z35, q40z37, iPick_t, OP_some, IfP_true]
        exact fin2 _ xg fun hc => by have := (hc.2 _ mem).2.1; omega
      rw [decide_eq_false (show ¬ (10 : Int) < ls[i].length by omega)]
      simp only [GdP_ff]
      refine C77 hwl ?_
      intro g2 x2
      simp only [un_not, OP_some, q40z33, iPick_f]
      rw [q40z35]
      cases w3 : bitsB ls[i] with
      | false =>
        simp only [Bool.not_false, GdP_tf, q40z37, iPick_t, OP_some, IfP_true]
        exact fin2 _ (xg.trans x2) fun hc => by rw [(hc.2 _ mem).2.2] at w3; simp at w3
      | true =>
        obtain ⟨u, s1, s2⟩ := own_part9 (own9 (xg.trans x2) hv) (Nat.le_of_lt hlt)
        simp only [Bool.not_true, GdP_ff, s1, OP_some]
        refine C78 s2 (by rw [List.length_take]; omega) ?_
        rw [q40z37]
        simp only [iPick_f, OP_some, IfP_dec, bin_add]
        refine ⟨fun hin => fin2 _ (xg.trans x2) fun hc => ?_, fun hni => ⟨trivial, ?_⟩⟩
        · obtain ⟨j, hj, e⟩ := List.getElem_of_mem hin
          rw [List.length_take] at hj
          rw [List.getElem_take] at e
          exact (List.pairwise_iff_getElem.1 hc.1) j i (by omega) hlt (by omega) e
        · rw [incM i (by simp [maxLen]; omega)]
          refine hL (i + 1, g2) ⟨hlt, xg.trans x2, fun j hj hji => ?_⟩ (by show ls.length - (i + 1) < ls.length - i; omega)
          have hji : j < i + 1 := hji
          rcases Nat.lt_succ_iff_lt_or_eq.1 hji with h' | h'
          · exact hok j hj h'
          · subst h'; exact ⟨⟨w1, by omega, w3⟩, hni⟩
    · refine fin0 _ xg ⟨List.pairwise_iff_getElem.2 fun a b ha hb hab e => ?_, fun w hw => ?_⟩
      · exact (hok b hb (by omega)).2 (e ▸ List.mem_take_iff_getElem.2 ⟨a, by omega, rfl⟩)
      · obtain ⟨j, hj, rfl⟩ := List.getElem_of_mem hw
        exact (hok j hj (by omega)).1

end Go.Proofs.YthplaillblmgfaaGreatDoor


namespace Go.Proofs.YthplaillblmgfaaGreatDoor
open Go.Sim

abbrev Tx := List UInt8

def posK (k : Tx) : List (Tx × Tx) → Option Nat
  | [] => none
  | p :: l => if k = p.1 then some 0 else (posK k l).map (· + 1)

def look (k : Tx) : List (Tx × Tx) → Option Tx
  | [] => none
  | p :: l => if k = p.1 then some p.2 else look k l

def put (k t : Tx) (l : List (Tx × Tx)) : List (Tx × Tx) := match posK k l with | some j => l.set j (k, t) | none => l ++ [(k, t)]

theorem posG_zip (k : Tx) : ∀ (l : List (Tx × Tx)) (n : Nat), posG (S k) ((l.zipIdx n).map fun p => (p.2, S p.1.1, S p.1.2)) = posK k l
  | [], _ => rfl
  | p :: l, n => by
    have e : gkEq (S k) (S p.1) = decide (k = p.1) := by simp [gkEq, S]
    rw [List.zipIdx_cons, List.map_cons, posG, posK, posG_zip k l (n + 1), e]
    simp only [decide_eq_true_eq]

theorem posK_look (k : Tx) : ∀ l : List (Tx × Tx), ((posK k l).bind fun j => l[j]?).map Prod.snd = look k l
  | [] => rfl
  | p :: l => by
    rw [posK, look]
    split
    · rfl
    · rw [← posK_look k l]
      cases posK k l <;> simp

theorem posK_none {k : Tx} : ∀ {l : List (Tx × Tx)}, posK k l = none ↔ look k l = none
  | [] => by simp [posK, look]
  | p :: l => by
    rw [posK, look]
    split
    · simp
    · rw [Option.map_eq_none_iff]; exact posK_none

theorem posK_get {k : Tx} : ∀ {l : List (Tx × Tx)} {j : Nat}, posK k l = some j → ∃ t, l[j]? = some (k, t)
  | p :: l, j, h => by
    rw [posK] at h
    split at h
    · rename_i he
      cases h
      exact ⟨p.2, by rw [he]; rfl⟩
    · obtain ⟨j', h1, rfl⟩ := Option.map_eq_some_iff.1 h
      obtain ⟨t, h2⟩ := posK_get h1
      exact ⟨t, by simpa using h2⟩

theorem tmap_get (l : List (Tx × Tx)) (j : Nat) : (tmap l)[j]? = (l[j]?).map fun p => (j, S p.1, S p.2) := by
  simp [tmap, List.getElem?_zipIdx, Option.map_map, Function.comp_def]

theorem findG_tmap (k : Tx) (l : List (Tx × Tx)) : findG (S k) (tmap l) = (look k l).map S := by
  have h1 : posG (S k) (tmap l) = posK k l := posG_zip k l 0
  unfold findG
  rw [h1, ← posK_look]
  cases posK k l with
  | none => rfl
  | some j =>
    simp only [Option.bind_some, tmap_get, Option.map_map]
    cases l[j]? <;> rfl

theorem setG_tmap (k t : Tx) (l : List (Tx × Tx)) : setG l.length (S k) (S t) (tmap l) = tmap (put k t l) := by
  have h1 : posG (S k) (tmap l) = posK k l := posG_zip k l 0
  unfold setG put
  rw [h1]
  cases hp : posK k l with
  | none =>
    simp only [tmap, List.zipIdx_append, List.map_append]
    simp
  | some j =>
    apply List.ext_getElem?
    intro i
    rw [tmap_get, List.getElem?_modify, tmap_get, List.getElem?_set]
    by_cases hij : j = i
    · subst hij
      obtain ⟨t', ht⟩ := posK_get hp
      have := (List.getElem?_eq_some_iff.1 ht).1
      simp [ht, this]
    · simp [hij]

theorem clkG_tmap (k t : Tx) (l : List (Tx × Tx)) : clkG l.length (S k) (tmap l) = (put k t l).length := by
  have h1 : posG (S k) (tmap l) = posK k l := posG_zip k l 0
  unfold clkG put
  rw [h1]
  cases posK k l <;> simp

theorem look_put (k t : Tx) : ∀ l : List (Tx × Tx), ∀ a, look a (put k t l) = if a = k then some t else look a l
  | [], a => by
    simp only [put, posK, List.nil_append, look]
  | p :: l, a => by
    have ih := look_put k t l a
    unfold put at ih ⊢
    rw [posK]
    by_cases hk : k = p.1
    · simp only [if_pos hk, List.set_cons_zero, look]
      by_cases ha : a = k
      · rw [if_pos ha, if_pos ha]
      · rw [if_neg ha, if_neg ha, if_neg (hk ▸ ha)]
    · rw [if_neg hk]
      cases hp : posK k l with
      | none =>
        rw [hp] at ih
        simp only [Option.map_none, List.cons_append, look] at ih ⊢
        rw [ih]
        by_cases ha : a = k
        · subst ha; simp [hk]
        · simp [ha]
      | some j =>
        rw [hp] at ih
        simp only [Option.map_some, List.set_cons_succ, look] at ih ⊢
        rw [ih]
        by_cases ha : a = k
        · subst ha; simp [hk]
        · simp [ha]

theorem keys_put {k t : Tx} {l : List (Tx × Tx)} : (put k t l).map Prod.fst = if look k l = none then l.map Prod.fst ++ [k] else l.map Prod.fst := by
  unfold put
  cases hp : posK k l with
  | none => rw [if_pos (posK_none.1 hp)]; simp
  | some j =>
    rw [if_neg fun h => by rw [posK_none.2 h] at hp; cases hp]
    obtain ⟨t', ht⟩ := posK_get hp
    obtain ⟨hj, e⟩ := List.getElem?_eq_some_iff.1 ht
    apply List.ext_getElem?
    intro i
    simp only [List.getElem?_map, List.getElem?_set]
    by_cases hij : j = i
    · subst hij; simp [hj, e]
    · simp [hij]

theorem look_mem {k t : Tx} : ∀ {l : List (Tx × Tx)}, look k l = some t → (k, t) ∈ l
  | p :: l, h => by
    rw [look] at h
    split at h
    · rename_i he
      cases h
      rw [he]; exact List.mem_cons_self
    · exact List.mem_cons_of_mem _ (look_mem h)

theorem mem_look {k : Tx} : ∀ {l : List (Tx × Tx)}, k ∈ l.map Prod.fst → ∃ t, look k l = some t
  | p :: l, h => by
    rw [look]
    by_cases he : k = p.1
    · exact ⟨_, if_pos he⟩
    · rw [if_neg he]
      rw [List.map_cons, List.mem_cons] at h
      exact mem_look (h.resolve_left he)

def bet (k t : Tx) (l : List (Tx × Tx)) : Bool := match look k l with | some o => decide (rk t < rk o) | none => true

theorem C41 {ic im : Nat} {l : List (Tx × Tx)} {k t : Tx} {g : Heap} {K : Value → Heap → Prop} (hc : g[ic]? = some (.arr 74 [.map (some im)])) (hm : g[im]? = some (.gmap .str l.length (tmap l)))
    (ht : bitsB t = true ∧ t.length < 4611686018427387904) (ho : ∀ o, look k l = some o → bitsB o = true ∧ o.length < 4611686018427387904)
    (hf : bet k t l = false → K (B false) g) (hk : bet k t l = true → K (B true) (g.set im (.gmap .str (put k t l).length (tmap (put k t l))))) : CallP Tryz.prog 41 [S k, S t, pt ic 0] g K := by
  refine f41 ?_
  unfold T41
  have e1 : iLoad false 1 g (pt ic 0) = some (.map (some im)) := by simp [iLoad, objCells, hc, iPart]
  have gk : ∀ s : Tx, gkIs .str (S s) = true := fun _ => rfl
  have e2 : iLookupG .str true (.string ⟨#[]⟩) g (.map (some im)) (S k) = some (.tuple #[((look k l).map S).getD (S []), B (look k l).isSome]) := by
    simp only [iLookupG, hm, gk, findG_tmap]
    cases look k l <;> rfl
  have upd : iMupdG .str g (.map (some im)) (S k) (S t) = some (g.set im (.gmap .str (put k t l).length (tmap (put k t l)))) := by
    simp only [iMupdG, hm, gk, setG_tmap, clkG_tmap k t]
    rfl
  simp only [e1, OP_some, e2, ext_tuple, pair0, pair1]
  rw [q41z6]
  cases hl : look k l with
  | none =>
    simp only [Option.isSome_none, GdP_ft, q41z8, iPick_f, OP_some, IfP_false, e1, oMupdG, upd, Option.map_some, OH_some]
    exact hk (by simp [bet, hl])
  | some o =>
    simp only [Option.isSome_some, GdP_tt, Option.map_some, Option.getD_some]
    refine C42 ht.1 (ho o hl).1 ht.2 (ho o hl).2 ?_
    have hb : bet k t l = decide (rk t < rk o) := by simp [bet, hl]
    simp only [un_not, OP_some, q41z8, iPick_t]
    rw [← hb]
    cases h : bet k t l with
    | false =>
      simp only [Bool.not_false, IfP_true]
      exact hf h
    | true =>
      simp only [Bool.not_true, IfP_false, e1, OP_some, oMupdG, upd, Option.map_some, OH_some]
      exact hk h

end Go.Proofs.YthplaillblmgfaaGreatDoor


namespace Go.Proofs.YthplaillblmgfaaGreatDoor
open Go.Sim

inductive Rc (W : List Tx) : Tx → Tx → Prop
  | init {v w : Tx} : v ∈ W → w ∈ W → v ≠ w → v <+: w → Rc W (w.drop v.length) w
  | fwd {a t w : Tx} : Rc W a t → a ≠ [] → w ∈ W → a <+: w → Rc W (w.drop a.length) (t ++ w.drop a.length)
  | bwd {a t w : Tx} : Rc W a t → a ≠ [] → w ∈ W → w <+: a → Rc W (a.drop w.length) t

def sufs (W : List Tx) : List Tx := W.flatMap fun w => (List.range 11).map fun i => w.drop i

theorem sufs_len (W : List Tx) : (sufs W).length = 11 * W.length := by
  induction W with
  | nil => rfl
  | cons w W ih =>
    have : sufs (w :: W) = ((List.range 11).map fun i => w.drop i) ++ sufs W := by simp [sufs]
    rw [this, List.length_append, ih]
    simp; omega

theorem sufs_drop {W : List Tx} {w : Tx} (hw : w ∈ W) (hl : w.length ≤ 10) (n : Nat) : w.drop n ∈ sufs W := by
  rw [sufs, List.mem_flatMap]
  refine ⟨w, hw, List.mem_map.2 ⟨min n 10, List.mem_range.2 (by omega), ?_⟩⟩
  by_cases h : n ≤ 10
  · rw [Nat.min_eq_left h]
  · rw [Nat.min_eq_right (by omega), List.drop_eq_nil_of_le hl, List.drop_eq_nil_of_le (by omega)]

structure Ok (W : List Tx) : Prop where
  nd : W.Nodup
  ne : ∀ w ∈ W, w ≠ []
  le : ∀ w ∈ W, w.length ≤ 10
  bt : ∀ w ∈ W, bitsB w = true
  few : W.length ≤ 12

theorem bits_drop {w : Tx} (h : bitsB w = true) (n : Nat) : bitsB (w.drop n) = true := by
  simp only [bitsB, List.all_eq_true] at h ⊢
  exact fun x hx => h x (List.mem_of_mem_drop hx)
theorem bits_app {a b : Tx} (h : bitsB a = true) (k : bitsB b = true) : bitsB (a ++ b) = true := by
  simp only [bitsB, List.all_append, Bool.and_eq_true] at *
  exact ⟨h, k⟩

theorem Rc.key {W : List Tx} (ok : Ok W) {a t : Tx} (r : Rc W a t) : (∃ w ∈ W, ∃ n, a = w.drop n) ∧ bitsB t = true := by
  induction r with
  | init hv hw _ _ => exact ⟨⟨_, hw, _, rfl⟩, ok.bt _ hw⟩
  | fwd _ _ hw _ ih => exact ⟨⟨_, hw, _, rfl⟩, bits_app ih.2 (bits_drop (ok.bt _ hw) _)⟩
  | bwd _ _ hw _ ih =>
    obtain ⟨⟨w, h1, n, rfl⟩, h2⟩ := ih
    exact ⟨⟨w, h1, n + _, List.drop_drop ..⟩, h2⟩

theorem Rc.suf {W : List Tx} (ok : Ok W) {a t : Tx} (r : Rc W a t) : a ∈ sufs W := by
  obtain ⟨⟨w, hw, n, rfl⟩, _⟩ := r.key ok
  exact sufs_drop hw (ok.le _ hw) n

structure Good (W : List Tx) (l : List (Tx × Tx)) : Prop where
  nd : (l.map Prod.fst).Nodup
  rc : ∀ k t, look k l = some t → Rc W k t
  ln : ∀ k t, look k l = some t → t.length ≤ 10 * l.length

theorem nodup_leT : ∀ {l m : List Tx}, l.Nodup → (∀ a ∈ l, a ∈ m) → l.length ≤ m.length
  | [], _, _, _ => Nat.zero_le _
  | a :: l, m, hn, hm => by
    rw [List.nodup_cons] at hn
    have ha := hm a List.mem_cons_self
    have := nodup_leT (l := l) (m := m.erase a) hn.2 fun b hb => by
      refine (List.mem_erase_of_ne ?_).2 (hm b (List.mem_cons_of_mem _ hb))
      rintro rfl
      exact hn.1 hb
    rw [List.length_erase_of_mem ha] at this
    have := List.length_pos_of_mem ha
    rw [List.length_cons]; omega

theorem Good.few {W : List Tx} (ok : Ok W) {l : List (Tx × Tx)} (g : Good W l) : l.length ≤ 132 := by
  have h := nodup_leT g.nd (m := sufs W) fun k hk => by
    obtain ⟨t, ht⟩ := mem_look hk
    exact (g.rc k t ht).suf ok
  rw [List.length_map, sufs_len] at h
  have := ok.few
  omega

theorem Good.nil (W : List Tx) : Good W [] := ⟨List.nodup_nil, fun _ _ h => by simp [look] at h, fun _ _ h => by simp [look] at h⟩

theorem put_len {k t : Tx} {l : List (Tx × Tx)} : (put k t l).length = if look k l = none then l.length + 1 else l.length := by
  have := congrArg List.length (keys_put (k := k) (t := t) (l := l))
  rw [List.length_map] at this
  rw [this]
  split <;> simp

theorem good_put {W : List Tx} {k t : Tx} {l : List (Tx × Tx)} (g : Good W l) (r : Rc W k t) (hl : t.length ≤ 10 * l.length + 10) (hb : bet k t l = true) : Good W (put k t l) := by
  refine ⟨?_, fun a u h => ?_, fun a u h => ?_⟩
  · rw [keys_put]
    split
    · rename_i hn
      refine List.nodup_append.2 ⟨g.nd, by simp, fun a ha b hb' e => ?_⟩
      obtain ⟨u, hu⟩ := mem_look ha
      rw [List.mem_singleton.1 hb'] at e
      rw [e, hn] at hu
      cases hu
    · exact g.nd
  · rw [look_put] at h
    split at h
    · rename_i e
      cases h
      exact e ▸ r
    · exact g.rc a u h
  · rw [look_put] at h
    rw [put_len]
    split at h
    · cases h
      split
      · omega
      · rename_i hn
        cases ho : look k l with
        | none => exact absurd ho hn
        | some o =>
          simp only [bet, ho, decide_eq_true_eq] at hb
          have := rk_len (Nat.le_of_lt hb)
          have := g.ln k o ho
          omega
    · have := g.ln a u h
      split <;> omega

def Dn (l l' : List (Tx × Tx)) : Prop := ∀ k t, look k l = some t → ∃ t', look k l' = some t' ∧ rk t' ≤ rk t
theorem Dn.refl (l : List (Tx × Tx)) : Dn l l := fun _ t h => ⟨t, h, Nat.le_refl _⟩
theorem Dn.trans {a b c : List (Tx × Tx)} (x : Dn a b) (y : Dn b c) : Dn a c := fun k t h => by
  obtain ⟨t1, h1, e1⟩ := x k t h
  obtain ⟨t2, h2, e2⟩ := y k t1 h1
  exact ⟨t2, h2, Nat.le_trans e2 e1⟩
theorem Dn.put {k t : Tx} {l : List (Tx × Tx)} (hb : bet k t l = true) : Dn l (put k t l) := fun a u h => by
  rw [look_put]
  by_cases e : a = k
  · rw [if_pos e]
    subst e
    simp only [bet, h, decide_eq_true_eq] at hb
    exact ⟨t, rfl, Nat.le_of_lt hb⟩
  · rw [if_neg e]
    exact ⟨u, h, Nat.le_refl _⟩

def expo : Nat := 1400
def wt (l : List (Tx × Tx)) (k : Tx) : Nat := match look k l with | some t => rk t | none => 2 ^ expo
def mu (W : List Tx) (l : List (Tx × Tx)) : Nat := ((sufs W).map (wt l)).sum

theorem sum_lt {f g : Tx → Nat} : ∀ {m : List Tx}, (∀ k ∈ m, f k ≤ g k) → (∃ k ∈ m, f k < g k) → (m.map f).sum < (m.map g).sum
  | [], _, ⟨k, hk, _⟩ => by simp at hk
  | x :: m, h, ⟨k, hk, hlt⟩ => by
    have hx := h x List.mem_cons_self
    have hle : (m.map f).sum ≤ (m.map g).sum := by
      have : ∀ m : List Tx, (∀ k ∈ m, f k ≤ g k) → (m.map f).sum ≤ (m.map g).sum := by
        intro m
        induction m with
        | nil => intro _; exact Nat.le_refl _
        | cons y m ih =>
          intro h
          have := h y List.mem_cons_self
          have := ih fun k hk => h k (List.mem_cons_of_mem _ hk)
          simp only [List.map_cons, List.sum_cons]; omega
      exact this m fun k hk => h k (List.mem_cons_of_mem _ hk)
    simp only [List.map_cons, List.sum_cons]
    rcases List.mem_cons.1 hk with rfl | hk
    · omega
    · have := sum_lt (m := m) (fun k hk => h k (List.mem_cons_of_mem _ hk)) ⟨k, hk, hlt⟩
      omega

theorem mu_put {W : List Tx} (ok : Ok W) {k t : Tx} {l : List (Tx × Tx)} (g : Good W l) (r : Rc W k t) (hl : t.length ≤ 10 * l.length + 10) (hb : bet k t l = true) : mu W (put k t l) < mu W l := by
  have hf := g.few ok
  have big : rk t < 2 ^ expo := Nat.lt_of_lt_of_le (rk_bounds t).2 (Nat.pow_le_pow_right (by omega) (by show t.length + 1 ≤ 1400; omega))
  have key : wt (put k t l) k < wt l k := by
    unfold wt
    rw [look_put, if_pos rfl]
    cases ho : look k l with
    | none => exact big
    | some o => simpa [bet, ho] using hb
  refine sum_lt (fun a _ => ?_) ⟨k, r.suf ok, key⟩
  by_cases e : a = k
  · rw [e]; exact Nat.le_of_lt key
  · unfold wt; rw [look_put, if_neg e]; exact Nat.le_refl _

def Clo (l : List (Tx × Tx)) (a w : Tx) : Prop := a ≠ [] → ∀ t, look a l = some t →
  (a <+: w → ∃ t', look (w.drop a.length) l = some t' ∧ rk t' ≤ rk (t ++ w.drop a.length)) ∧ (¬ a <+: w → w <+: a → ∃ t', look (a.drop w.length) l = some t' ∧ rk t' ≤ rk t)

def Ini (W : List Tx) (l : List (Tx × Tx)) : Prop := ∀ v ∈ W, ∀ w ∈ W, v ≠ w → v <+: w → ∃ t', look (w.drop v.length) l = some t' ∧ rk t' ≤ rk w
theorem Ini.dn {W : List Tx} {l l' : List (Tx × Tx)} (i : Ini W l) (d : Dn l l') : Ini W l' := fun v hv w hw h1 h2 => by
  obtain ⟨t, e1, e2⟩ := i v hv w hw h1 h2
  obtain ⟨t', f1, f2⟩ := d _ _ e1
  exact ⟨t', f1, Nat.le_trans f2 e2⟩

theorem least {W : List Tx} {l : List (Tx × Tx)} (hi : Ini W l) (hc : ∀ a t, look a l = some t → ∀ w ∈ W, Clo l a w) {a t : Tx} (r : Rc W a t) : ∃ t', look a l = some t' ∧ rk t' ≤ rk t := by
  induction r with
  | init hv hw h1 h2 => exact hi _ hv _ hw h1 h2
  | fwd _ hn hw hp ih =>
    obtain ⟨t', e1, e2⟩ := ih
    obtain ⟨u, f1, f2⟩ := (hc _ _ e1 _ hw hn _ e1).1 hp
    exact ⟨u, f1, Nat.le_trans f2 (rk_app_le e2 _)⟩
  | @bwd a t w _ hn hw hp ih =>
    obtain ⟨t', e1, e2⟩ := ih
    by_cases hq : a <+: w
    · have : a = w := hq.eq_of_length (Nat.le_antisymm hq.length_le hp.length_le)
      subst this
      obtain ⟨u, f1, f2⟩ := (hc _ _ e1 _ hw hn _ e1).1 hq
      rw [List.drop_length] at f1 f2 ⊢
      rw [List.append_nil] at f2
      exact ⟨u, f1, Nat.le_trans f2 e2⟩
    · obtain ⟨u, f1, f2⟩ := (hc _ _ e1 _ hw hn _ e1).2 hq hp
      exact ⟨u, f1, Nat.le_trans f2 e2⟩

end Go.Proofs.YthplaillblmgfaaGreatDoor


namespace Go.Proofs.YthplaillblmgfaaGreatDoor
open Go.Sim

def Rows' (W : List Tx) (x : List Tx) : Prop := ∀ w ∈ x, w ∈ W
def Amb (W : List Tx) (s : Tx) : Prop := ∃ x y, Rows' W x ∧ Rows' W y ∧ x ≠ y ∧ x.flatten = s ∧ y.flatten = s

theorem Rows'.snoc {W x : List Tx} (h : Rows' W x) {w : Tx} (hw : w ∈ W) : Rows' W (x ++ [w]) := fun v hv => by
  rcases List.mem_append.1 hv with hv | hv
  · exact h v hv
  · rw [List.mem_singleton.1 hv]; exact hw

theorem Rc.two {W : List Tx} {a t : Tx} (r : Rc W a t) : ∃ v w x y, v ≠ w ∧ Rows' W (v :: x) ∧ Rows' W (w :: y) ∧ (v :: x).flatten = t ∧ (w :: y).flatten ++ a = t := by
  induction r with
  | @init v w hv hw hne hp =>
    obtain ⟨r, rfl⟩ := hp
    exact ⟨_, v, [], [], Ne.symm hne, fun u hu => by rw [List.mem_singleton.1 hu]; exact hw, fun u hu => by rw [List.mem_singleton.1 hu]; exact hv, by simp, by simp⟩
  | @fwd a t u _ _ hu hp ih =>
    obtain ⟨v, w, x, y, hne, h1, h2, e1, e2⟩ := ih
    obtain ⟨r, rfl⟩ := hp
    refine ⟨w, v, y ++ [a ++ r], x, Ne.symm hne, h2.snoc hu, h1, ?_, ?_⟩
    · rw [← e2]; simp
    · rw [e1]
  | @bwd a t u _ _ hu hp ih =>
    obtain ⟨v, w, x, y, hne, h1, h2, e1, e2⟩ := ih
    obtain ⟨r, rfl⟩ := hp
    refine ⟨v, w, x, y ++ [u], hne, h1, h2.snoc hu, e1, ?_⟩
    rw [← e2]; simp

theorem Rc.amb {W : List Tx} {t : Tx} (r : Rc W [] t) : Amb W t := by
  obtain ⟨v, w, x, y, hne, h1, h2, e1, e2⟩ := r.two
  exact ⟨_, _, h1, h2, fun e => hne (List.cons.inj e).1, e1, by simpa using e2⟩

theorem Rows'.tail {W x : List Tx} {v : Tx} (h : Rows' W (v :: x)) : Rows' W x := fun w hw => h w (List.mem_cons_of_mem _ hw)

theorem run {W : List Tx} : ∀ (n : Nat) {a t : Tx} {x y : List Tx}, x.length + y.length ≤ n → Rc W a t → a ≠ [] → Rows' W x → Rows' W y → a ++ x.flatten = y.flatten → ∃ t', Rc W [] t' ∧ t' <+: t ++ x.flatten := by
  intro n
  induction n with
  | zero =>
    intro a t x y hn r ha hx hy e
    have : y = [] := List.length_eq_zero_iff.1 (by omega)
    subst this
    simp at e
    exact absurd e.1 ha
  | succ n ih =>
    intro a t x y hn r ha hx hy e
    cases y with
    | nil => simp at e; exact absurd e.1 ha
    | cons w y =>
      have hw := hy w List.mem_cons_self
      rw [List.flatten_cons] at e
      simp only [List.length_cons] at hn
      rcases List.prefix_or_prefix_of_prefix (show a <+: a ++ x.flatten from List.prefix_append _ _) (show w <+: a ++ x.flatten from e ▸ List.prefix_append _ _) with hp | hp
      · have r' := Rc.fwd r ha hw hp
        obtain ⟨q, rfl⟩ := hp
        rw [List.drop_left] at r'
        rw [List.append_assoc] at e
        have e' := List.append_cancel_left e
        by_cases hq : q = []
        · subst hq
          exact ⟨_, r', by simp⟩
        · obtain ⟨t', h1, h2⟩ := ih (by omega) r' hq hy.tail hx e'.symm
          refine ⟨t', h1, ?_⟩
          rw [e']
          simpa using h2
      · have r' := Rc.bwd r ha hw hp
        obtain ⟨q, rfl⟩ := hp
        rw [List.drop_left] at r'
        rw [List.append_assoc] at e
        have e' := List.append_cancel_left e
        by_cases hq : q = []
        · subst hq
          exact ⟨_, r', List.prefix_append _ _⟩
        · exact ih (by omega) r' hq hx hy.tail e'

theorem start {W : List Tx} {v w : Tx} {x y : List Tx} (hne : v ≠ w) (hx : Rows' W (v :: x)) (hy : Rows' W (w :: y)) (e : (v :: x).flatten = (w :: y).flatten) : ∃ t', Rc W [] t' ∧ t' <+: (v :: x).flatten := by
  have key : ∀ {v w : Tx} {x y : List Tx}, v ≠ w → Rows' W (v :: x) → Rows' W (w :: y) → v ++ x.flatten = w ++ y.flatten → v <+: w → ∃ t', Rc W [] t' ∧ t' <+: w ++ y.flatten := by
    intro v w x y hne hx hy e hp
    have r := Rc.init (hx v List.mem_cons_self) (hy w List.mem_cons_self) hne hp
    obtain ⟨q, rfl⟩ := hp
    rw [List.drop_left] at r
    rw [List.append_assoc] at e
    have e' := List.append_cancel_left e
    exact run _ (Nat.le_refl _) r (by rintro rfl; simp at hne) hy.tail hx.tail e'.symm
  rw [List.flatten_cons, List.flatten_cons] at e
  rw [List.flatten_cons]
  rcases List.prefix_or_prefix_of_prefix (show v <+: v ++ x.flatten from List.prefix_append _ _) (show w <+: v ++ x.flatten from e ▸ List.prefix_append _ _) with hp | hp
  · rw [e]; exact key hne hx hy e hp
  · exact key (Ne.symm hne) hy hx e.symm hp

theorem Amb.rc {W : List Tx} (hn : ∀ w ∈ W, w ≠ []) {s : Tx} : Amb W s → ∃ t, Rc W [] t ∧ t.length ≤ s.length := by
  rintro ⟨x, y, hx, hy, hne, e1, e2⟩
  induction x generalizing y s with
  | nil =>
    cases y with
    | nil => exact absurd rfl hne
    | cons w y =>
      subst e1
      have := hn w (hy w List.mem_cons_self)
      simp at e2
      exact absurd e2.1 this
  | cons v x ih =>
    cases y with
    | nil =>
      subst e2
      have := hn v (hx v List.mem_cons_self)
      simp at e1
      exact absurd e1.1 this
    | cons w y =>
      by_cases hvw : v = w
      · subst hvw
        rw [List.flatten_cons] at e1 e2
        have e : x.flatten = y.flatten := List.append_cancel_left (e1.trans e2.symm)
        obtain ⟨t, h1, h2⟩ := ih y hx.tail hy.tail (fun h => hne (by rw [h])) rfl e.symm
        exact ⟨t, h1, by rw [← e1, List.length_append]; omega⟩
      · obtain ⟨t, h1, h2⟩ := start hvw hx hy (e1.trans e2.symm)
        exact ⟨t, h1, by rw [← e1]; exact h2.length_le⟩

theorem flatten_rev (x : List Tx) : (x.map List.reverse).reverse.flatten = x.flatten.reverse := by
  rw [List.reverse_flatten]

theorem Amb.rev {W : List Tx} {s : Tx} : Amb W s → Amb (W.map List.reverse) s.reverse := by
  rintro ⟨x, y, hx, hy, hne, rfl, e2⟩
  have rw' : ∀ x : List Tx, Rows' W x → Rows' (W.map List.reverse) (x.map List.reverse).reverse := fun x hx w hw => by
    rw [List.mem_reverse] at hw
    obtain ⟨u, hu, rfl⟩ := List.mem_map.1 hw
    exact List.mem_map.2 ⟨u, hx u hu, rfl⟩
  refine ⟨(x.map List.reverse).reverse, (y.map List.reverse).reverse, rw' x hx, rw' y hy, fun e => hne ?_, flatten_rev x, by rw [flatten_rev, e2]⟩
  have e := congrArg List.reverse e
  rw [List.reverse_reverse, List.reverse_reverse] at e
  have := congrArg (List.map List.reverse) e
  simpa [List.map_map, Function.comp_def] using this

theorem turned {W : List Tx} (hn : ∀ w ∈ W, w ≠ []) {t : Tx} (r : Rc W [] t) : ∃ u, Rc (W.map List.reverse) [] u ∧ u.length ≤ t.length := by
  have hn' : ∀ w ∈ W.map List.reverse, w ≠ [] := fun w hw => by
    obtain ⟨u, hu, rfl⟩ := List.mem_map.1 hw
    simpa using hn u hu
  obtain ⟨u, h1, h2⟩ := Amb.rc hn' r.amb.rev
  exact ⟨u, h1, by simpa using h2⟩

theorem Ok.rev {W : List Tx} (ok : Ok W) : Ok (W.map List.reverse) := by
  refine ⟨?_, fun w hw => ?_, fun w hw => ?_, fun w hw => ?_, by rw [List.length_map]; exact ok.few⟩
  · refine List.pairwise_map.2 (ok.nd.imp fun h e => h ?_)
    have e := congrArg List.reverse e
    rwa [List.reverse_reverse, List.reverse_reverse] at e
  all_goals obtain ⟨u, hu, rfl⟩ := List.mem_map.1 hw
  · simpa using ok.ne u hu
  · simpa using ok.le u hu
  · simpa [bitsB] using ok.bt u hu

theorem chk0 {W : List Tx} (ok : Ok W) (h0 : W ≠ []) : chkE W [] = 0 := by
  have := ok.few
  unfold chkE
  rw [if_neg (by simp; omega), if_neg (by simp [h0, bitsB]), if_pos ⟨ok.nd, fun w hw => ⟨ok.ne w hw, ok.le w hw, ok.bt w hw⟩⟩]

end Go.Proofs.YthplaillblmgfaaGreatDoor


namespace Go.Sim

def lenOk (ls : List Nat) : Prop := ∀ l ∈ ls, 1 ≤ l ∧ l ≤ 10

theorem rmN_range {l : Nat} (h1 : 1 ≤ l) (h2 : l ≤ 10) : 1 ≤ rmN l ∧ rmN l ≤ 512 := by
  have : l = 1 ∨ l = 2 ∨ l = 3 ∨ l = 4 ∨ l = 5 ∨ l = 6 ∨ l = 7 ∨ l = 8 ∨ l = 9 ∨ l = 10 := by omega
  rcases this with rfl | rfl | rfl | rfl | rfl | rfl | rfl | rfl | rfl | rfl <;> decide

theorem fitN_mul {k l : Nat} (h1 : 1 ≤ l) (h2 : l ≤ 10) : fitN (k * rmN l) l = k * rmN l := by
  have hp := (rmN_range h1 h2).1
  unfold fitN
  congr 1
  rw [show k * rmN l + rmN l - 1 = (rmN l - 1) + k * rmN l by omega, Nat.add_mul_div_right _ _ (by omega), Nat.div_eq_of_lt (by omega), Nat.zero_add]



theorem rm_dvd {l m : Nat} (h1 : 1 ≤ l) (h : l ≤ m) (hm : m ≤ 10) : rmN m ∣ rmN l := by
  have : ∀ m, m ≤ 10 → ∀ l, l ≤ m → rmN m ∣ rmN l := by decide
  exact this m hm l h


end Go.Sim


namespace Go.Proofs.YthplaillblmgfaaGreatDoor
open Go.Sim

def wsum (M : Nat) (T : List Tx) : Nat := (T.map fun t => 2 ^ (M - t.length)).sum

def strip (c : UInt8) : List Tx → List Tx
  | [] => []
  | [] :: T => strip c T
  | (d :: r) :: T => if d = c then r :: strip c T else strip c T

theorem strip_mem {c : UInt8} {r : Tx} : ∀ {T : List Tx}, r ∈ strip c T ↔ (c :: r) ∈ T
  | [] => by simp [strip]
  | [] :: T => by rw [strip, strip_mem]; simp
  | (d :: q) :: T => by
    rw [strip]
    split
    · rename_i h
      subst h
      rw [List.mem_cons, strip_mem]
      simp
    · rename_i h
      rw [strip_mem]
      have : ¬ c = d := fun e => h e.symm
      simp [this]

theorem strip_nodup {c : UInt8} : ∀ {T : List Tx}, T.Nodup → (strip c T).Nodup
  | [], _ => List.nodup_nil
  | [] :: T, h => by rw [strip]; exact strip_nodup (List.nodup_cons.1 h).2
  | (d :: q) :: T, h => by
    rw [List.nodup_cons] at h
    rw [strip]
    split
    · rename_i e
      subst e
      exact List.nodup_cons.2 ⟨fun hq => h.1 (strip_mem.1 hq), strip_nodup h.2⟩
    · exact strip_nodup h.2

theorem wsum_split {M : Nat} : ∀ {T : List Tx}, T.Nodup → (∀ t ∈ T, bitsB t = true) → wsum (M + 1) T = (if ([] : Tx) ∈ T then 2 ^ (M + 1) else 0) + wsum M (strip 48 T) + wsum M (strip 49 T)
  | [], _, _ => rfl
  | [] :: T, h, hb => by
    rw [List.nodup_cons] at h
    have ih := wsum_split (M := M) h.2 fun t ht => hb t (List.mem_cons_of_mem _ ht)
    rw [if_neg h.1] at ih
    have e : wsum (M + 1) ([] :: T) = 2 ^ (M + 1) + wsum (M + 1) T := by simp [wsum]
    rw [e, ih, strip, strip, if_pos List.mem_cons_self]
    omega
  | (d :: q) :: T, h, hb => by
    rw [List.nodup_cons] at h
    have ih := wsum_split (M := M) h.2 fun t ht => hb t (List.mem_cons_of_mem _ ht)
    have bd := hb (d :: q) List.mem_cons_self
    simp only [bitsB, List.all_cons, Bool.and_eq_true] at bd
    have e : wsum (M + 1) ((d :: q) :: T) = 2 ^ (M - q.length) + wsum (M + 1) T := by simp [wsum, Nat.add_sub_add_right]
    have em : (([] : Tx) ∈ (d :: q) :: T) ↔ ([] : Tx) ∈ T := by simp
    have ew : ∀ U, wsum M (q :: U) = 2 ^ (M - q.length) + wsum M U := fun U => by simp [wsum]
    rw [e, ih]
    simp only [em]
    rcases isBit_or bd.1 with rfl | rfl
    · have s1 : strip 48 ((48 :: q) :: T) = q :: strip 48 T := by rw [strip, if_pos rfl]
      have s2 : strip 49 ((48 :: q) :: T) = strip 49 T := by rw [strip, if_neg (by decide)]
      rw [s1, s2, ew]; omega
    · have s1 : strip 48 ((49 :: q) :: T) = strip 48 T := by rw [strip, if_neg (by decide)]
      have s2 : strip 49 ((49 :: q) :: T) = q :: strip 49 T := by rw [strip, if_pos rfl]
      rw [s1, s2, ew]; omega

theorem wsum_le : ∀ (M : Nat) {T : List Tx}, T.Nodup → (∀ t ∈ T, bitsB t = true ∧ t.length ≤ M) → wsum M T ≤ (M + 1) * 2 ^ M
  | 0, T, h, hb => by
    have all : ∀ t ∈ T, t = [] := fun t ht => List.length_eq_zero_iff.1 (by have := (hb t ht).2; omega)
    match T, h, all with
    | [], _, _ => simp [wsum]
    | [a], _, _ => simp [wsum]
    | a :: b :: T, h, all =>
      rw [List.nodup_cons] at h
      have e1 := all a (by simp)
      have e2 := all b (by simp)
      exact absurd (by rw [e1, e2]; simp) h.1
  | M + 1, T, h, hb => by
    rw [wsum_split h fun t ht => (hb t ht).1]
    have hs : ∀ c, ∀ t ∈ strip c T, bitsB t = true ∧ t.length ≤ M := fun c t ht => by
      have := hb _ (strip_mem.1 ht)
      simp only [bitsB, List.all_cons, Bool.and_eq_true, List.length_cons] at this
      exact ⟨this.1.2, by omega⟩
    have h1 := wsum_le M (strip_nodup (c := 48) h) (hs 48)
    have h2 := wsum_le M (strip_nodup (c := 49) h) (hs 49)
    have e : (M + 1 + 1) * 2 ^ (M + 1) = 2 ^ (M + 1) + ((M + 1) * 2 ^ M + (M + 1) * 2 ^ M) := by
      rw [Nat.succ_mul, Nat.pow_succ, ← Nat.mul_assoc, Nat.mul_two]; omega
    rw [e]
    have hp : 0 < 2 ^ M := Nat.pow_pos (by omega)
    split <;> omega

def rowsN (W : List Tx) : Nat → List (List Tx)
  | 0 => [[]]
  | n + 1 => W.flatMap fun w => (rowsN W n).map (w :: ·)

theorem rowsN_mem {W : List Tx} : ∀ {n : Nat} {x : List Tx}, x ∈ rowsN W n → Rows' W x ∧ x.length = n
  | 0, x, h => by rw [rowsN, List.mem_singleton] at h; subst h; exact ⟨fun w hw => by simp at hw, rfl⟩
  | n + 1, x, h => by
    obtain ⟨w, hw, hx⟩ := List.mem_flatMap.1 h
    obtain ⟨y, hy, rfl⟩ := List.mem_map.1 hx
    obtain ⟨h1, h2⟩ := rowsN_mem hy
    refine ⟨fun v hv => ?_, by simp [h2]⟩
    rcases List.mem_cons.1 hv with rfl | hv
    · exact hw
    · exact h1 v hv

theorem rowsN_nodup {W : List Tx} (nd : W.Nodup) : ∀ n, (rowsN W n).Nodup
  | 0 => by simp [rowsN]
  | n + 1 => by
    have ih := rowsN_nodup nd n
    have gen : ∀ V : List Tx, V.Nodup → (V.flatMap fun w => (rowsN W n).map (w :: ·)).Nodup := by
      intro V hv
      induction V with
      | nil => exact List.nodup_nil
      | cons v V ihv =>
        rw [List.nodup_cons] at hv
        rw [List.flatMap_cons]
        refine List.nodup_append.2 ⟨List.pairwise_map.2 (ih.imp fun h e => h (List.cons.inj e).2), ihv hv.2, fun a ha b hb e => ?_⟩
        obtain ⟨y, _, rfl⟩ := List.mem_map.1 ha
        obtain ⟨w, hw, hb'⟩ := List.mem_flatMap.1 hb
        obtain ⟨z, _, rfl⟩ := List.mem_map.1 hb'
        exact hv.1 ((List.cons.inj e).1 ▸ hw)
    exact gen W nd

theorem flat_len {W : List Tx} (ok : Ok W) {x : List Tx} (h : Rows' W x) : x.flatten.length ≤ 10 * x.length := by
  induction x with
  | nil => simp
  | cons v x ih =>
    have := ok.le v (h v List.mem_cons_self)
    have := ih h.tail
    rw [List.flatten_cons, List.length_append, List.length_cons]
    omega

def takes (W : List Tx) : Nat := (W.map fun w => 2 ^ (10 - w.length)).sum

theorem wsum_app (M : Nat) (a b : List Tx) : wsum M (a ++ b) = wsum M a + wsum M b := by simp [wsum]

theorem rows_sum {W : List Tx} (ok : Ok W) : ∀ n, wsum (10 * n) ((rowsN W n).map List.flatten) = takes W ^ n
  | 0 => by simp [rowsN, wsum]
  | n + 1 => by
    have ih := rows_sum ok n
    have one : ∀ w ∈ W, ∀ R : List (List Tx), (∀ x ∈ R, x.flatten.length ≤ 10 * n) → wsum (10 * (n + 1)) ((R.map (w :: ·)).map List.flatten) = 2 ^ (10 - w.length) * wsum (10 * n) (R.map List.flatten) := by
      intro w hw R hR
      have wl := ok.le w hw
      induction R with
      | nil => simp [wsum]
      | cons x R ihR =>
        have hx := hR x List.mem_cons_self
        have e1 : wsum (10 * (n + 1)) (((x :: R).map (w :: ·)).map List.flatten) = 2 ^ (10 * (n + 1) - (w.length + x.flatten.length)) + wsum (10 * (n + 1)) ((R.map (w :: ·)).map List.flatten) := by
          simp [wsum]
        have e2 : wsum (10 * n) ((x :: R).map List.flatten) = 2 ^ (10 * n - x.flatten.length) + wsum (10 * n) (R.map List.flatten) := by simp [wsum]
        rw [e1, ihR fun y hy => hR y (List.mem_cons_of_mem _ hy), e2, Nat.mul_add (2 ^ (10 - w.length)), ← Nat.pow_add]
        have : 10 * (n + 1) - (w.length + x.flatten.length) = 10 - w.length + (10 * n - x.flatten.length) := by omega
        rw [this]
    have gen : ∀ V : List Tx, (∀ w ∈ V, w ∈ W) → wsum (10 * (n + 1)) ((V.flatMap fun w => (rowsN W n).map (w :: ·)).map List.flatten) = takes V * takes W ^ n := by
      intro V hV
      induction V with
      | nil => simp [wsum, takes]
      | cons v V ihV =>
        have e : takes (v :: V) = 2 ^ (10 - v.length) + takes V := by simp [takes]
        rw [List.flatMap_cons, List.map_append, wsum_app, ihV fun w hw => hV w (List.mem_cons_of_mem _ hw), one v (hV v List.mem_cons_self) _ (fun x hx => by
          obtain ⟨h1, h2⟩ := rowsN_mem hx
          have := flat_len ok h1
          omega), ih, e, Nat.add_mul]
    have := gen W fun w hw => hw
    rw [Nat.pow_succ, Nat.mul_comm (takes W ^ n)]
    exact this

theorem rows_texts {W : List Tx} (ok : Ok W) (hn : ∀ t, ¬ Amb W t) (n : Nat) : takes W ^ n ≤ (10 * n + 1) * 2 ^ (10 * n) := by
  rw [← rows_sum ok n]
  refine wsum_le _ ?_ fun t ht => ?_
  · have gen : ∀ R : List (List Tx), R.Nodup → (∀ x ∈ R, Rows' W x) → (R.map List.flatten).Nodup := by
      intro R hR hm
      refine List.pairwise_map.2 ?_
      induction R with
      | nil => exact .nil
      | cons x R ih =>
        rw [List.nodup_cons] at hR
        refine List.pairwise_cons.2 ⟨fun y hy e => ?_, ih hR.2 fun y hy => hm y (List.mem_cons_of_mem _ hy)⟩
        exact hn x.flatten ⟨x, y, hm x List.mem_cons_self, hm y (List.mem_cons_of_mem _ hy), fun e => hR.1 (e ▸ hy), rfl, e.symm⟩
    exact gen _ (rowsN_nodup ok.nd n) fun x hx => (rowsN_mem hx).1
  · obtain ⟨x, hx, rfl⟩ := List.mem_map.1 ht
    obtain ⟨h1, h2⟩ := rowsN_mem hx
    have hb : ∀ x : List Tx, Rows' W x → bitsB x.flatten = true := by
      intro x hx
      induction x with
      | nil => rfl
      | cons v x ih => rw [List.flatten_cons]; exact bits_app (ok.bt v (hx v List.mem_cons_self)) (ih hx.tail)
    exact ⟨hb x h1, by have := flat_len ok h1; omega⟩

theorem bern (b : Nat) : ∀ m, b ^ m * b + m * b ^ m ≤ (b + 1) ^ m * b
  | 0 => by simp
  | m + 1 => by
    have ih := bern b m
    have h1 : (b + 1) ^ (m + 1) * b = (b + 1) ^ m * b * b + (b + 1) ^ m * b := by
      rw [Nat.pow_succ, Nat.mul_add, Nat.mul_one, Nat.add_mul, Nat.mul_right_comm]
    have h2 : (b ^ m * b + m * b ^ m) * b ≤ (b + 1) ^ m * b * b := Nat.mul_le_mul_right _ ih
    have h3 : b ^ m * b ≤ (b + 1) ^ m * b := Nat.mul_le_mul_right _ (Nat.pow_le_pow_left (by omega) m)
    have h4 : b ^ (m + 1) * b + (m + 1) * b ^ (m + 1) = (b ^ m * b + m * b ^ m) * b + b ^ m * b := by
      rw [Nat.pow_succ, Nat.succ_mul, Nat.add_mul (b ^ m * b), Nat.mul_assoc m]; omega
    rw [h1, h4]
    omega

theorem twice {b : Nat} (hb : 0 < b) : 2 * b ^ b ≤ (b + 1) ^ b := by
  have := bern b b
  have e : b ^ b * b + b * b ^ b = 2 * b ^ b * b := by rw [Nat.mul_comm b, ← Nat.two_mul, Nat.mul_assoc]
  rw [e] at this
  exact Nat.le_of_mul_le_mul_right this hb

theorem mcmillan {W : List Tx} (ok : Ok W) (hn : ∀ t, ¬ Amb W t) : takes W ≤ 1024 := by
  obtain ⟨b, hb⟩ : ∃ b : Nat, b = 2 ^ 10 := ⟨_, rfl⟩
  have hb' : b = 1024 := hb
  apply Classical.byContradiction
  intro hc
  obtain ⟨k, hk⟩ : ∃ k, 10 * (1024 * k) + 1 < 2 ^ k := ⟨20, by decide⟩
  rw [← hb'] at hk
  have h1 : (b + 1) ^ (b * k) ≤ takes W ^ (b * k) := Nat.pow_le_pow_left (by omega) _
  have h2 := rows_texts ok hn (b * k)
  have h3 : 2 ^ (10 * (b * k)) = b ^ (b * k) := by rw [Nat.pow_mul, ← hb]
  have h4 : (2 * b ^ b) ^ k ≤ ((b + 1) ^ b) ^ k := Nat.pow_le_pow_left (twice (by omega)) k
  rw [Nat.mul_pow, ← Nat.pow_mul, ← Nat.pow_mul] at h4
  rw [h3] at h2
  have hp : 0 < b ^ (b * k) := Nat.pow_pos (by omega)
  have h5 : 2 ^ k * b ^ (b * k) ≤ (10 * (b * k) + 1) * b ^ (b * k) := Nat.le_trans h4 (Nat.le_trans h1 h2)
  have := Nat.le_of_mul_le_mul_right h5 hp
  omega

end Go.Proofs.YthplaillblmgfaaGreatDoor


namespace Go.Proofs.YthplaillblmgfaaGreatDoor
open Go.Sim
variable (P : Program) (K : VK)
/-! F9: pommel/mark.Clear -/
noncomputable def oc9 := compFn Tryz.prog 9 [[], [], [], [], [], [], [], [], [0, 5, 6, 26, 27], [28], [], [], [], [], [0, 5, 6, 7, 8, 26, 27, 28, 33, 34], [35], [], [], [], [0, 5, 6, 7, 8, 10, 26, 27, 28, 33, 34, 35, 43], [0, 5, 6, 7, 8, 10, 26, 27, 28, 33, 34, 35, 43, 46], [], [0, 5, 6, 7, 8, 26, 27, 28, 33, 34, 35], [0, 5, 6, 26, 27, 28], [0, 5, 6], [], [0, 5, 6], [11], [], [], [], [], [0, 5, 6, 59, 60], [11, 61], [], [], [], [], [0, 5, 6, 13, 59, 60, 61, 65, 66], [11, 67], [], [], [], [], [], [], [0, 5, 6, 11, 13, 59, 60, 61, 65, 66, 67, 91], [0, 5, 6, 13, 59, 60, 61, 65, 66, 67, 91, 92], [], [0, 5, 6, 11, 13, 59, 60, 61, 65, 66, 67], [0, 5, 6, 11, 59, 60, 61], [5], [], [], [], [], []]
@[irreducible] noncomputable def c9 : ICode := icOf oc9
@[irreducible] noncomputable def c9z11 : ICode := c9.r.r.r.r.l.r.l.l
@[irreducible] noncomputable def c9z8 : ICode := c9.r.r.r.r.r
@[irreducible] noncomputable def c9z19 : ICode := c9z11.r.r.l.l.r.r.l.l
@[irreducible] noncomputable def c9z14 : ICode := c9z11.r.r.r
@[irreducible] noncomputable def c9z32 : ICode := c9z8.l
@[irreducible] noncomputable def c9z27 : ICode := c9z19.r.r.l.l.r.l.r.l
@[irreducible] noncomputable def c9z25 : ICode := c9z19.r.r.l.l.r.r
@[irreducible] noncomputable def c9z22 : ICode := c9z19.r.r.r
@[irreducible] noncomputable def c9z31 : ICode := c9z14.l
@[irreducible] noncomputable def c9z36 : ICode := c9z32.l.r.l.l
@[irreducible] noncomputable def c9z33 : ICode := c9z32.r
@[irreducible] noncomputable def c9z29 : ICode := c9z27.r.l
@[irreducible] noncomputable def c9z30 : ICode := c9z22.l
@[irreducible] noncomputable def c9z43 : ICode := c9z36.r.l.r.r.l.l
@[irreducible] noncomputable def c9z68 : ICode := c9z33.l
@[irreducible] noncomputable def c9z51 : ICode := c9z43.r.r.l.l.r.r.l.l
@[irreducible] noncomputable def c9z46 : ICode := c9z43.r.r.r
@[irreducible] noncomputable def c9z62 : ICode := c9z51.r.r.l.l.r.l.r.r.r.l.r.r.l
@[irreducible] noncomputable def c9z54 : ICode := c9z51.r.r.r
@[irreducible] noncomputable def c9z67 : ICode := c9z46.l
@[irreducible] noncomputable def c9z64 : ICode := c9z62.r.l
@[irreducible] noncomputable def c9z66 : ICode := c9z54.l
theorem k9 : oc9 = some (120, c9, [.tmp 2, .tmp 3]) := by kernel_rfl
def K9z0 (_P : Program) (K : VK) : Kont := bodyP [.tmp 2, .tmp 3] K
def K9z8 : Kont := thenK (iwpP P c9z8 (K9z0 P K)) (K9z0 P K)
def K9z10 : Kont := inBlockK 0 (K9z8 P K)
def K9z11 (words0 texts5 reach6 x26 x27 : Value) (L1 : LK) : Kont := thenK (fun f' h'' => (([0, 5, 6, 26, 27] : List Nat).map f' : List Value) = [words0, texts5, reach6, x26, x27] ∧ L1 (([28] : List Nat).map f') h'') (K9z10 P K)
def K9z14 (words0 texts5 reach6 x26 x27 : Value) (L1 : LK) : Kont := thenK (iwpP P c9z14 (K9z11 P K words0 texts5 reach6 x26 x27 L1)) (K9z11 P K words0 texts5 reach6 x26 x27 L1)
def K9z15 (words0 texts5 reach6 x26 x27 : Value) (L1 : LK) : Kont := inBlockK 1 (K9z14 P K words0 texts5 reach6 x26 x27 L1)
def K9z18 (words0 texts5 reach6 x26 x27 : Value) (L1 : LK) : Kont := inBlockK 2 (K9z15 P K words0 texts5 reach6 x26 x27 L1)
def K9z19 (words0 texts5 reach6 i7 v8 x26 x27 x28 x33 x34 : Value) (L1 L2 : LK) : Kont := thenK (fun f' h'' => (([0, 5, 6, 7, 8, 26, 27, 28, 33, 34] : List Nat).map f' : List Value) = [words0, texts5, reach6, i7, v8, x26, x27, x28, x33, x34] ∧ L2 (([35] : List Nat).map f') h'') (K9z18 P K words0 texts5 reach6 x26 x27 L1)
def K9z22 (words0 texts5 reach6 i7 v8 x26 x27 x28 x33 x34 : Value) (L1 L2 : LK) : Kont := thenK (iwpP P c9z22 (K9z19 P K words0 texts5 reach6 i7 v8 x26 x27 x28 x33 x34 L1 L2)) (K9z19 P K words0 texts5 reach6 i7 v8 x26 x27 x28 x33 x34 L1 L2)
def K9z23 (words0 texts5 reach6 i7 v8 x26 x27 x28 x33 x34 : Value) (L1 L2 : LK) : Kont := inBlockK 3 (K9z22 P K words0 texts5 reach6 i7 v8 x26 x27 x28 x33 x34 L1 L2)
def K9z25 (words0 texts5 reach6 i7 v8 x26 x27 x28 x33 x34 : Value) (L1 L2 : LK) : Kont := thenK (iwpP P c9z25 (K9z23 P K words0 texts5 reach6 i7 v8 x26 x27 x28 x33 x34 L1 L2)) (K9z23 P K words0 texts5 reach6 i7 v8 x26 x27 x28 x33 x34 L1 L2)
def K9z33 : Kont := thenK (iwpP P c9z33 (K9z0 P K)) (K9z0 P K)
def K9z35 : Kont := inBlockK 4 (K9z33 P K)
def K9z36 (words0 texts5 reach6 : Value) (L1 : LK) : Kont := thenK (fun f' h'' => (([0, 5, 6] : List Nat).map f' : List Value) = [words0, texts5, reach6] ∧ L1 (([11] : List Nat).map f') h'') (K9z35 P K)
def K9z39 (words0 texts5 reach6 : Value) (L1 : LK) : Kont := inBlockK 5 (K9z36 P K words0 texts5 reach6 L1)
def K9z42 (words0 texts5 reach6 : Value) (L1 : LK) : Kont := inBlockK 6 (K9z39 P K words0 texts5 reach6 L1)
def K9z43 (words0 texts5 reach6 x59 x60 : Value) (L1 L2 : LK) : Kont := thenK (fun f' h'' => (([0, 5, 6, 59, 60] : List Nat).map f' : List Value) = [words0, texts5, reach6, x59, x60] ∧ L2 (([11, 61] : List Nat).map f') h'') (K9z42 P K words0 texts5 reach6 L1)
def K9z46 (words0 texts5 reach6 x59 x60 : Value) (L1 L2 : LK) : Kont := thenK (iwpP P c9z46 (K9z43 P K words0 texts5 reach6 x59 x60 L1 L2)) (K9z43 P K words0 texts5 reach6 x59 x60 L1 L2)
def K9z47 (words0 texts5 reach6 x59 x60 : Value) (L1 L2 : LK) : Kont := inBlockK 7 (K9z46 P K words0 texts5 reach6 x59 x60 L1 L2)
def K9z50 (words0 texts5 reach6 x59 x60 : Value) (L1 L2 : LK) : Kont := inBlockK 8 (K9z47 P K words0 texts5 reach6 x59 x60 L1 L2)
def K9z51 (words0 texts5 reach6 ahead13 x59 x60 x61 x65 x66 : Value) (L1 L2 L3 : LK) : Kont := thenK (fun f' h'' => (([0, 5, 6, 13, 59, 60, 61, 65, 66] : List Nat).map f' : List Value) = [words0, texts5, reach6, ahead13, x59, x60, x61, x65, x66] ∧ L3 (([11, 67] : List Nat).map f') h'') (K9z50 P K words0 texts5 reach6 x59 x60 L1 L2)
def K9z54 (words0 texts5 reach6 ahead13 x59 x60 x61 x65 x66 : Value) (L1 L2 L3 : LK) : Kont := thenK (iwpP P c9z54 (K9z51 P K words0 texts5 reach6 ahead13 x59 x60 x61 x65 x66 L1 L2 L3)) (K9z51 P K words0 texts5 reach6 ahead13 x59 x60 x61 x65 x66 L1 L2 L3)
def K9z55 (words0 texts5 reach6 ahead13 x59 x60 x61 x65 x66 : Value) (L1 L2 L3 : LK) : Kont := inBlockK 9 (K9z54 P K words0 texts5 reach6 ahead13 x59 x60 x61 x65 x66 L1 L2 L3)
def K9z57 (words0 texts5 reach6 ahead13 x59 x60 x61 x65 x66 : Value) (L1 L2 L3 : LK) : Kont := inBlockK 10 (K9z55 P K words0 texts5 reach6 ahead13 x59 x60 x61 x65 x66 L1 L2 L3)
def p9z11 (words0 texts5 reach6 x26 x27 : Value) (L1 : LK) (xs : List Value) (h : Heap) : Prop := CutP (iwpP P c9z11 (K9z11 P K words0 texts5 reach6 x26 x27 L1)) ([0, 5, 6, 26, 27] ++ [28]) ([words0, texts5, reach6, x26, x27] ++ xs) h
def p9z19 (words0 texts5 reach6 i7 v8 x26 x27 x28 x33 x34 : Value) (L1 L2 : LK) (xs : List Value) (h : Heap) : Prop := CutP (iwpP P c9z19 (K9z19 P K words0 texts5 reach6 i7 v8 x26 x27 x28 x33 x34 L1 L2)) ([0, 5, 6, 7, 8, 26, 27, 28, 33, 34] ++ [35]) ([words0, texts5, reach6, i7, v8, x26, x27, x28, x33, x34] ++ xs) h
def p9z27 (words0 texts5 reach6 i7 v8 w10 x26 x27 x28 x33 x34 x35 x43 : Value) (L1 L2 : LK) (h : Heap) : Prop := CutP (iwpP P c9z27 (K9z25 P K words0 texts5 reach6 i7 v8 x26 x27 x28 x33 x34 L1 L2)) [0, 5, 6, 7, 8, 10, 26, 27, 28, 33, 34, 35, 43] [words0, texts5, reach6, i7, v8, w10, x26, x27, x28, x33, x34, x35, x43] h
def p9z29 (words0 texts5 reach6 i7 v8 w10 x26 x27 x28 x33 x34 x35 x43 x46 : Value) (L1 L2 : LK) (h : Heap) : Prop := CutP (iwpP P c9z29 (K9z25 P K words0 texts5 reach6 i7 v8 x26 x27 x28 x33 x34 L1 L2)) [0, 5, 6, 7, 8, 10, 26, 27, 28, 33, 34, 35, 43, 46] [words0, texts5, reach6, i7, v8, w10, x26, x27, x28, x33, x34, x35, x43, x46] h
def p9z30 (words0 texts5 reach6 i7 v8 x26 x27 x28 x33 x34 x35 : Value) (L1 L2 : LK) (h : Heap) : Prop := CutP (iwpP P c9z30 (K9z19 P K words0 texts5 reach6 i7 v8 x26 x27 x28 x33 x34 L1 L2)) [0, 5, 6, 7, 8, 26, 27, 28, 33, 34, 35] [words0, texts5, reach6, i7, v8, x26, x27, x28, x33, x34, x35] h
def p9z31 (words0 texts5 reach6 x26 x27 x28 : Value) (L1 : LK) (h : Heap) : Prop := CutP (iwpP P c9z31 (K9z11 P K words0 texts5 reach6 x26 x27 L1)) [0, 5, 6, 26, 27, 28] [words0, texts5, reach6, x26, x27, x28] h
def p9z32 (words0 texts5 reach6 : Value) (h : Heap) : Prop := CutP (iwpP P c9z32 (K9z0 P K)) [0, 5, 6] [words0, texts5, reach6] h
def p9z36 (words0 texts5 reach6 : Value) (L1 : LK) (xs : List Value) (h : Heap) : Prop := CutP (iwpP P c9z36 (K9z36 P K words0 texts5 reach6 L1)) ([0, 5, 6] ++ [11]) ([words0, texts5, reach6] ++ xs) h
def p9z43 (words0 texts5 reach6 x59 x60 : Value) (L1 L2 : LK) (xs : List Value) (h : Heap) : Prop := CutP (iwpP P c9z43 (K9z43 P K words0 texts5 reach6 x59 x60 L1 L2)) ([0, 5, 6, 59, 60] ++ [11, 61]) ([words0, texts5, reach6, x59, x60] ++ xs) h
def p9z51 (words0 texts5 reach6 ahead13 x59 x60 x61 x65 x66 : Value) (L1 L2 L3 : LK) (xs : List Value) (h : Heap) : Prop := CutP (iwpP P c9z51 (K9z51 P K words0 texts5 reach6 ahead13 x59 x60 x61 x65 x66 L1 L2 L3)) ([0, 5, 6, 13, 59, 60, 61, 65, 66] ++ [11, 67]) ([words0, texts5, reach6, ahead13, x59, x60, x61, x65, x66] ++ xs) h
def p9z62 (words0 texts5 reach6 more11 ahead13 x59 x60 x61 x65 x66 x67 x91 : Value) (L1 L2 L3 : LK) (h : Heap) : Prop := CutP (iwpP P c9z62 (K9z57 P K words0 texts5 reach6 ahead13 x59 x60 x61 x65 x66 L1 L2 L3)) [0, 5, 6, 11, 13, 59, 60, 61, 65, 66, 67, 91] [words0, texts5, reach6, more11, ahead13, x59, x60, x61, x65, x66, x67, x91] h
def p9z64 (words0 texts5 reach6 ahead13 x59 x60 x61 x65 x66 x67 x91 x92 : Value) (L1 L2 L3 : LK) (h : Heap) : Prop := CutP (iwpP P c9z64 (K9z57 P K words0 texts5 reach6 ahead13 x59 x60 x61 x65 x66 L1 L2 L3)) [0, 5, 6, 13, 59, 60, 61, 65, 66, 67, 91, 92] [words0, texts5, reach6, ahead13, x59, x60, x61, x65, x66, x67, x91, x92] h
def p9z66 (words0 texts5 reach6 more11 ahead13 x59 x60 x61 x65 x66 x67 : Value) (L1 L2 L3 : LK) (h : Heap) : Prop := CutP (iwpP P c9z66 (K9z51 P K words0 texts5 reach6 ahead13 x59 x60 x61 x65 x66 L1 L2 L3)) [0, 5, 6, 11, 13, 59, 60, 61, 65, 66, 67] [words0, texts5, reach6, more11, ahead13, x59, x60, x61, x65, x66, x67] h
def p9z67 (words0 texts5 reach6 more11 x59 x60 x61 : Value) (L1 L2 : LK) (h : Heap) : Prop := CutP (iwpP P c9z67 (K9z43 P K words0 texts5 reach6 x59 x60 L1 L2)) [0, 5, 6, 11, 59, 60, 61] [words0, texts5, reach6, more11, x59, x60, x61] h
def p9z68 (texts5 : Value) (h : Heap) : Prop := CutP (iwpP P c9z68 (K9z0 P K)) [5] [texts5] h
theorem q9z29 (words0 texts5 reach6 i7 v8 w10 x26 x27 x28 x33 x34 x35 x43 x46 : Value) (L1 L2 : LK) (h : Heap) : p9z29 P K words0 texts5 reach6 i7 v8 w10 x26 x27 x28 x33 x34 x35 x43 x46 L1 L2 h =
 (OP (iPick x43 x46 (.bool false)) fun x47 =>
 IfP x47
 (OP (iLenS v8) fun x51 =>
 OP (iSlS w10 (some x51) none) fun x52 =>
 CallVP P reach6 [x52, w10] h fun x54 h_1 =>
 p9z30 P K words0 texts5 reach6 i7 v8 x26 x27 x28 x33 x34 x35 L1 L2 h_1)
 (p9z30 P K words0 texts5 reach6 i7 v8 x26 x27 x28 x33 x34 x35 L1 L2 h)) := (CutP_def _ _ _ _).trans (by kernel_rfl)
theorem q9z27 (words0 texts5 reach6 i7 v8 w10 x26 x27 x28 x33 x34 x35 x43 : Value) (L1 L2 : LK) (h : Heap) : p9z27 P K words0 texts5 reach6 i7 v8 w10 x26 x27 x28 x33 x34 x35 x43 L1 L2 h =
 (GdP x43 true
 (CallP P 43 [w10, v8] h fun x46 h_1 =>
 p9z29 P K words0 texts5 reach6 i7 v8 w10 x26 x27 x28 x33 x34 x35 x43 x46 L1 L2 h_1)
 (p9z29 P K words0 texts5 reach6 i7 v8 w10 x26 x27 x28 x33 x34 x35 x43 undef L1 L2 h)) := (CutP_def _ _ _ _).trans (by kernel_rfl)
theorem q9z30 (words0 texts5 reach6 i7 v8 x26 x27 x28 x33 x34 x35 : Value) (L1 L2 : LK) (h : Heap) : p9z30 P K words0 texts5 reach6 i7 v8 x26 x27 x28 x33 x34 x35 L1 L2 h =
 (OP (iBin .add x35 (.int .i64 (1))) fun x55 =>
 ([words0, texts5, reach6, i7, v8, x26, x27, x28, x33, x34] : List Value) = [words0, texts5, reach6, i7, v8, x26, x27, x28, x33, x34] ∧ L2 [x55] h) := (CutP_def _ _ _ _).trans (by kernel_rfl)
theorem q9z19 (words0 texts5 reach6 i7 v8 x26 x27 x28 x33 x34 : Value) (L1 L2 : LK) (x35 : Value) (h : Heap) : p9z19 P K words0 texts5 reach6 i7 v8 x26 x27 x28 x33 x34 L1 L2 [x35] h =
 (OP (iBin .lss x35 x34) fun x36 =>
 IfP x36
 (OP (iAdrSl 1 x33 x35) fun x38 =>
 OP (iLoad false 1 h x38) fun x39 =>
 OP (iBin .neq i7 x35) fun x42 =>
 p9z27 P K words0 texts5 reach6 i7 v8 x39 x26 x27 x28 x33 x34 x35 x42 L1 L2 h)
 (p9z31 P K words0 texts5 reach6 x26 x27 x28 L1 h)) := (CutP_def _ _ _ _).trans (by kernel_rfl)
theorem q9z31 (words0 texts5 reach6 x26 x27 x28 : Value) (L1 : LK) (h : Heap) : p9z31 P K words0 texts5 reach6 x26 x27 x28 L1 h =
 (OP (iBin .add x28 (.int .i64 (1))) fun x56 =>
 ([words0, texts5, reach6, x26, x27] : List Value) = [words0, texts5, reach6, x26, x27] ∧ L1 [x56] h) := (CutP_def _ _ _ _).trans (by kernel_rfl)
theorem q9z11 (words0 texts5 reach6 x26 x27 : Value) (L1 : LK) (x28 : Value) (h : Heap) : p9z11 P K words0 texts5 reach6 x26 x27 L1 [x28] h =
 (OP (iBin .lss x28 x27) fun x29 =>
 IfP x29
 (OP (iAdrSl 1 x26 x28) fun x31 =>
 OP (iLoad false 1 h x31) fun x32 =>
 OP (iLenSl words0) fun x34 =>
 LoopP [(.int .i64 (0))] h fun L2 xs hx =>
 p9z19 P K words0 texts5 reach6 x28 x32 x26 x27 x28 words0 x34 L1 L2 xs hx)
 (p9z32 P K words0 texts5 reach6 h)) := (CutP_def _ _ _ _).trans (by kernel_rfl)
theorem q9z64 (words0 texts5 reach6 ahead13 x59 x60 x61 x65 x66 x67 x91 x92 : Value) (L1 L2 L3 : LK) (h : Heap) : p9z64 P K words0 texts5 reach6 ahead13 x59 x60 x61 x65 x66 x67 x91 x92 L1 L2 L3 h =
 (OP (iPick x91 (.bool true) x92) fun x93 =>
 p9z66 P K words0 texts5 reach6 x93 ahead13 x59 x60 x61 x65 x66 x67 L1 L2 L3 h) := (CutP_def _ _ _ _).trans (by kernel_rfl)
theorem q9z62 (words0 texts5 reach6 more11 ahead13 x59 x60 x61 x65 x66 x67 x91 : Value) (L1 L2 L3 : LK) (h : Heap) : p9z62 P K words0 texts5 reach6 more11 ahead13 x59 x60 x61 x65 x66 x67 x91 L1 L2 L3 h =
 (GdP x91 false
 (p9z64 P K words0 texts5 reach6 ahead13 x59 x60 x61 x65 x66 x67 x91 more11 L1 L2 L3 h)
 (p9z64 P K words0 texts5 reach6 ahead13 x59 x60 x61 x65 x66 x67 x91 undef L1 L2 L3 h)) := (CutP_def _ _ _ _).trans (by kernel_rfl)
theorem q9z66 (words0 texts5 reach6 more11 ahead13 x59 x60 x61 x65 x66 x67 : Value) (L1 L2 L3 : LK) (h : Heap) : p9z66 P K words0 texts5 reach6 more11 ahead13 x59 x60 x61 x65 x66 x67 L1 L2 L3 h =
 (OP (iBin .add x67 (.int .i64 (1))) fun x110 =>
 ([words0, texts5, reach6, ahead13, x59, x60, x61, x65, x66] : List Value) = [words0, texts5, reach6, ahead13, x59, x60, x61, x65, x66] ∧ L3 [more11, x110] h) := (CutP_def _ _ _ _).trans (by kernel_rfl)
theorem q9z51 (words0 texts5 reach6 ahead13 x59 x60 x61 x65 x66 : Value) (L1 L2 L3 : LK) (more11 x67 : Value) (h : Heap) : p9z51 P K words0 texts5 reach6 ahead13 x59 x60 x61 x65 x66 L1 L2 L3 [more11, x67] h =
 (OP (iBin .lss x67 x66) fun x68 =>
 IfP x68
 (OP (iAdrSl 1 x65 x67) fun x69 =>
 OP (iLoad false 1 h x69) fun x70 =>
 OP (iBin .eql ahead13 (.string ⟨#[]⟩)) fun x73 =>
 IfP x73
 (p9z66 P K words0 texts5 reach6 more11 ahead13 x59 x60 x61 x65 x66 x67 L1 L2 L3 h)
 (CallP P 43 [x70, ahead13] h fun x77 h_1 =>
 IfP x77
 (OP (iLenS ahead13) fun x80 =>
 OP (iSlS x70 (some x80) none) fun x81 =>
 OP (iLoad false 1 h_1 texts5) fun x84 =>
 OP (iLookupG .str false (.string ⟨#[]⟩) h_1 x84 ahead13) fun x86 =>
 OH (iMkSl 9 2 [(.string ⟨#[]⟩)] h_1 [(0, 1, x86), (1, 1, x81)]) fun x88 h_2 =>
 CallP P 45 [x88] h_2 fun x89 h_3 =>
 CallVP P reach6 [x81, x89] h_3 fun x90 h_4 =>
 p9z62 P K words0 texts5 reach6 more11 ahead13 x59 x60 x61 x65 x66 x67 x90 L1 L2 L3 h_4)
 (CallP P 43 [ahead13, x70] h_1 fun x97 h_2 =>
 IfP x97
 (OP (iLenS x70) fun x101 =>
 OP (iSlS ahead13 (some x101) none) fun x102 =>
 OP (iLoad false 1 h_2 texts5) fun x103 =>
 (True) ∧
 OP (iLookupG .str false (.string ⟨#[]⟩) h_2 x103 ahead13) fun x105 =>
 (True) ∧
 CallVP P reach6 [x102, x105] h_2 fun x106 h_3 =>
 (True) ∧
 GdP x106 false
 (OP (iPick x106 (.bool true) more11) fun x109 =>
 p9z66 P K words0 texts5 reach6 x109 ahead13 x59 x60 x61 x65 x66 x67 L1 L2 L3 h_3)
 (OP (iPick x106 (.bool true) undef) fun x109 =>
 p9z66 P K words0 texts5 reach6 x109 ahead13 x59 x60 x61 x65 x66 x67 L1 L2 L3 h_3))
 (p9z66 P K words0 texts5 reach6 more11 ahead13 x59 x60 x61 x65 x66 x67 L1 L2 L3 h_2))))
 (p9z67 P K words0 texts5 reach6 more11 x59 x60 x61 L1 L2 h)) := (CutP_def _ _ _ _).trans (by kernel_rfl)
theorem q9z67 (words0 texts5 reach6 more11 x59 x60 x61 : Value) (L1 L2 : LK) (h : Heap) : p9z67 P K words0 texts5 reach6 more11 x59 x60 x61 L1 L2 h =
 (OP (iBin .add x61 (.int .i64 (1))) fun x111 =>
 ([words0, texts5, reach6, x59, x60] : List Value) = [words0, texts5, reach6, x59, x60] ∧ L2 [more11, x111] h) := (CutP_def _ _ _ _).trans (by kernel_rfl)
theorem q9z43 (words0 texts5 reach6 x59 x60 : Value) (L1 L2 : LK) (more11 x61 : Value) (h : Heap) : p9z43 P K words0 texts5 reach6 x59 x60 L1 L2 [more11, x61] h =
 (OP (iBin .lss x61 x60) fun x62 =>
 IfP x62
 (OP (iAdrSl 1 x59 x61) fun x63 =>
 OP (iLoad false 1 h x63) fun x64 =>
 OP (iLenSl words0) fun x66 =>
 LoopP [more11, (.int .i64 (0))] h fun L3 xs hx =>
 p9z51 P K words0 texts5 reach6 x64 x59 x60 x61 words0 x66 L1 L2 L3 xs hx)
 (([words0, texts5, reach6] : List Value) = [words0, texts5, reach6] ∧ L1 [more11] h)) := (CutP_def _ _ _ _).trans (by kernel_rfl)
theorem q9z36 (words0 texts5 reach6 : Value) (L1 : LK) (more11 : Value) (h : Heap) : p9z36 P K words0 texts5 reach6 L1 [more11] h =
 (IfP more11
 (OP (iLoad false 1 h texts5) fun x58 =>
 CallP P 44 [x58] h fun x59 h_1 =>
 OP (iLenSl x59) fun x60 =>
 LoopP [(.bool false), (.int .i64 (0))] h_1 fun L2 xs hx =>
 p9z43 P K words0 texts5 reach6 x59 x60 L1 L2 xs hx)
 (p9z68 P K texts5 h)) := (CutP_def _ _ _ _).trans (by kernel_rfl)
theorem q9z68 (texts5 : Value) (h : Heap) : p9z68 P K texts5 h =
 (OP (iLoad false 1 h texts5) fun x113 =>
 OP (iLookupG .str true (.string ⟨#[]⟩) h x113 (.string ⟨#[]⟩)) fun x114 =>
 OP (iExt 0 x114) fun x115 =>
 OP (iExt 1 x114) fun x116 =>
 OP (iUn .not x116) fun x118 =>
 IfP x118
 (K (.tuple #[(.string ⟨#[]⟩), (.int .i64 (5))]) h)
 (K (.tuple #[x115, (.int .i64 (0))]) h)) := (CutP_def _ _ _ _).trans (by kernel_rfl)
theorem q9z32 (words0 texts5 reach6 : Value) (h : Heap) : p9z32 P K words0 texts5 reach6 h =
 (LoopP [(.bool true)] h fun L1 xs hx =>
 p9z36 P K words0 texts5 reach6 L1 xs hx) := (CutP_def _ _ _ _).trans (by kernel_rfl)
def T9 (words0 : Value) (h : Heap) : Prop :=
 CallP P 40 [words0, (.string ⟨#[]⟩)] h fun x20 h_1 =>
 OP (iBin .neq x20 (.int .i64 (0))) fun x22 =>
 IfP x22
 (K (.tuple #[(.string ⟨#[]⟩), x20]) h_1)
 (OH (iMkMapG .str h_1) fun x24 h_2 =>
 OH (iAlloc 74 [(.map none)] h_2) fun texts5 h_3 =>
 OH (oStore 1 h_3 texts5 x24) fun _ h_4 =>
 OP (iLenSl words0) fun x27 =>
 LoopP [(.int .i64 (0))] h_4 fun L1 xs hx =>
 p9z11 P K words0 texts5 (.func (.func 41) #[] #[texts5]) words0 x27 L1 xs hx)
theorem e9 (words0 : Value) (h : Heap) : iwpP P c9 (bodyP [.tmp 2, .tmp 3] K) (frame0 [words0]) h = T9 P K words0 h := by kernel_rfl
theorem f9 {K : VK} {words0 : Value} {h : Heap} (H : T9 Tryz.prog K words0 h) : CallP Tryz.prog 9 [words0] h K :=
 callP_intro k9 (Nat.le_of_ble_eq_true rfl) ((e9 Tryz.prog K words0 h).mpr H)
end Go.Proofs.YthplaillblmgfaaGreatDoor
