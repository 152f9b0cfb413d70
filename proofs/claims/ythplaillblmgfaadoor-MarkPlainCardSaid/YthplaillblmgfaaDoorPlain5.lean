/-
  Part 5 of the texts behind a statement of this seat: DG, Mk16, Mk17, Mk18, Mk19, DH, Mk20, Mk21, Mp2, DD, DE, Sp6, Sp13, Mk10, DF, Mk12.
-/
import Derived.Test.YthplaillblmgfaaDoorProg
import Derived.KernelRfl
import Derived.Test.YthplaillblmgfaaDoorPlain4
namespace Go.Proofs.YthplaillblmgfaaDoor
open Go.Sim
variable (P : Program) (K : VK)
/-! F34: pommel/mark.check -/
noncomputable def c34z8 : ICode := .ops none [⟨(some 15), .p (.pick (.tmp 11) (.const (.bool true)) (.tmp 14))⟩,
 ⟨(some 7), .p (.mv (.tmp 15))⟩]
noncomputable def c34z6 : ICode := .seq (.ops (some (11, false)) [⟨(some 12), .p (.mv (.tmp 1))⟩,
 ⟨(some 13), .p (.lenS (.tmp 12))⟩,
 ⟨(some 14), .p (.bin .gtr (.tmp 13) (.const (.int .i64 (200))))⟩])
 (.cut [0, 1, 11, 14] c34z8)
noncomputable def c34z14 : ICode := .ops none [⟨(some 24), .p (.pick (.tmp 20) (.const (.bool true)) (.tmp 23))⟩,
 ⟨(some 16), .p (.mv (.tmp 24))⟩]
noncomputable def c34z12 : ICode := .seq (.ops (some (20, false)) [⟨(some 21), .p (.mv (.tmp 1))⟩,
 ⟨(some 22), .call 51 [(.tmp 21)]⟩,
 ⟨(some 23), .p (.un .not (.tmp 22))⟩])
 (.cut [0, 20, 23] c34z14)
noncomputable def c34z10 : ICode := .cond (.tmp 16) (.seq (.ops none [⟨(some 4), .p (.mv (.const (.int .i64 (2))))⟩])
 (.ret))
 (.skip)
noncomputable def c34z4 : ICode := .cond (.tmp 7) (.seq (.ops none [⟨(some 4), .p (.mv (.const (.int .i64 (3))))⟩])
 (.ret))
 (.seq (.seq (.ops none [⟨(some 17), .p (.mv (.tmp 0))⟩,
 ⟨(some 18), .p (.lenSl (.tmp 17))⟩,
 ⟨(some 19), .p (.bin .eql (.tmp 18) (.const (.int .i64 (0))))⟩,
 ⟨(some 20), .p (.mv (.tmp 19))⟩])
 (.cut [0, 1, 20] c34z12)) c34z10)
noncomputable def c34z37 : ICode := .ops none [⟨(some 50), .p (.pick (.tmp 44) (.const (.bool true)) (.tmp 49))⟩]
noncomputable def c34z35 : ICode := .seq (.ops (some (44, false)) [⟨(some 45), .p (.mv (.tmp 0))⟩,
 ⟨(some 46), .p (.mv (.tmp 5))⟩,
 ⟨(some 47), .p (.slSl 9 1 (.tmp 45) none (some (.tmp 46)))⟩,
 ⟨(some 48), .p (.mv (.tmp 6))⟩,
 ⟨(some 49), .call 52 [(.tmp 47), (.tmp 48)]⟩])
 (.cut [0, 25, 26, 27, 44, 49] c34z37)
noncomputable def c34z33 : ICode := .seq (.ops none [⟨(some 43), .p (.pick (.tmp 39) (.const (.bool true)) (.tmp 42))⟩,
 ⟨(some 44), .p (.mv (.tmp 43))⟩])
 (.cut [0, 5, 6, 25, 26, 27, 44] c34z35)
noncomputable def c34z31 : ICode := .seq (.ops (some (39, false)) [⟨(some 40), .p (.mv (.tmp 6))⟩,
 ⟨(some 41), .call 51 [(.tmp 40)]⟩,
 ⟨(some 42), .p (.un .not (.tmp 41))⟩])
 (.cut [0, 5, 6, 25, 26, 27, 39, 42] c34z33)
noncomputable def c34z29 : ICode := .seq (.ops none [⟨(some 38), .p (.pick (.tmp 34) (.const (.bool true)) (.tmp 37))⟩,
 ⟨(some 39), .p (.mv (.tmp 38))⟩])
 (.cut [0, 5, 6, 25, 26, 27, 39] c34z31)
noncomputable def c34z27 : ICode := .seq (.ops (some (34, false)) [⟨(some 35), .p (.mv (.tmp 6))⟩,
 ⟨(some 36), .p (.lenS (.tmp 35))⟩,
 ⟨(some 37), .p (.bin .gtr (.tmp 36) (.const (.int .i64 (10))))⟩])
 (.cut [0, 5, 6, 25, 26, 27, 34, 37] c34z29)
noncomputable def c34z25 : ICode := .cond (.tmp 50) (.seq (.ops none [⟨(some 4), .p (.mv (.const (.int .i64 (2))))⟩])
 (.ret))
 (.skip)
noncomputable def c34z22 : ICode := .ops none [⟨(some 51), .p (.bin .add (.tmp 27) (.const (.int .i64 (1))))⟩,
 ⟨(some 27), .p (.mv (.tmp 51))⟩]
noncomputable def c34z19 : ICode := .seq (.ops none [⟨(some 28), .p (.bin .lss (.tmp 27) (.tmp 26))⟩])
 (.seq (.cond (.tmp 28) (.skip)
 (.exit 1))
 (.seq (.block 2 (.seq (.ops none [⟨(some 29), .p (.mv (.tmp 27))⟩,
 ⟨(some 30), .p (.adrSl 1 (.tmp 25) (.tmp 27))⟩,
 ⟨(some 31), .l (.load false 1 (.tmp 30))⟩,
 ⟨(some 5), .p (.mv (.tmp 29))⟩,
 ⟨(some 6), .p (.mv (.tmp 31))⟩])
 (.seq (.seq (.ops none [⟨(some 32), .p (.mv (.tmp 6))⟩,
 ⟨(some 33), .p (.bin .eql (.tmp 32) (.const (.string ⟨#[]⟩)))⟩,
 ⟨(some 34), .p (.mv (.tmp 33))⟩])
 (.cut [0, 5, 6, 25, 26, 27, 34] c34z27)) c34z25))) c34z22))
noncomputable def c34z16 : ICode := .seq (.ops none [⟨(some 4), .p (.mv (.const (.int .i64 (0))))⟩])
 (.ret)
noncomputable def c34z2 : ICode := .seq (.seq (.ops none [⟨(some 25), .p (.mv (.tmp 0))⟩,
 ⟨(some 26), .p (.lenSl (.tmp 25))⟩,
 ⟨(some 27), .p (.mv (.const (.int .i64 (0))))⟩])
 (.block 1 (.loop [0, 25, 26] [27] c34z19))) c34z16
noncomputable def c34 : ICode := .seq (.ops none [⟨(some 4), .p (.mv (.const (.int .i64 (0))))⟩])
 (.seq (.block 0 (.seq (.seq (.ops none [⟨(some 8), .p (.mv (.tmp 0))⟩,
 ⟨(some 9), .p (.lenSl (.tmp 8))⟩,
 ⟨(some 10), .p (.bin .gtr (.tmp 9) (.const (.int .i64 (12))))⟩,
 ⟨(some 11), .p (.mv (.tmp 10))⟩])
 (.cut [0, 1, 11] c34z6)) c34z4)) c34z2)
theorem k34 : compFn Tryd.prog 34 [[], [0, 1, 11], [0, 1, 11, 14], [], [], [0, 1, 20], [0, 20, 23], [], [], [], [], [0, 25, 26], [27], [], [], [], [0, 5, 6, 25, 26, 27, 34], [0, 5, 6, 25, 26, 27, 34, 37], [0, 5, 6, 25, 26, 27, 39], [0, 5, 6, 25, 26, 27, 39, 42], [0, 5, 6, 25, 26, 27, 44], [0, 25, 26, 27, 44, 49], [], [], [], [], []] = some (52, c34, [.tmp 4]) := by kernel_rfl
def K34z0 (_P : Program) (K : VK) : Kont := bodyP [.tmp 4] K
def K34z2 : Kont := thenK (iwpP P c34z2 (K34z0 P K)) (K34z0 P K)
def K34z3 : Kont := inBlockK 0 (K34z2 P K)
def K34z4 : Kont := thenK (iwpP P c34z4 (K34z3 P K)) (K34z3 P K)
def K34z10 : Kont := thenK (iwpP P c34z10 (K34z3 P K)) (K34z3 P K)
def K34z16 : Kont := thenK (iwpP P c34z16 (K34z0 P K)) (K34z0 P K)
def K34z18 : Kont := inBlockK 1 (K34z16 P K)
def K34z19 (words0 x25 x26 : Value) (L1 : LK) : Kont := thenK (fun f' h'' => (([0, 25, 26] : List Nat).map f' : List Value) = [words0, x25, x26] ∧ L1 (([27] : List Nat).map f') h'') (K34z18 P K)
def K34z22 (words0 x25 x26 : Value) (L1 : LK) : Kont := thenK (iwpP P c34z22 (K34z19 P K words0 x25 x26 L1)) (K34z19 P K words0 x25 x26 L1)
def K34z23 (words0 x25 x26 : Value) (L1 : LK) : Kont := inBlockK 2 (K34z22 P K words0 x25 x26 L1)
def K34z25 (words0 x25 x26 : Value) (L1 : LK) : Kont := thenK (iwpP P c34z25 (K34z23 P K words0 x25 x26 L1)) (K34z23 P K words0 x25 x26 L1)
def p34z6 (words0 text1 x11 : Value) (h : Heap) : Prop := CutP (iwpP P c34z6 (K34z4 P K)) [0, 1, 11] [words0, text1, x11] h
def p34z8 (words0 text1 x11 x14 : Value) (h : Heap) : Prop := CutP (iwpP P c34z8 (K34z4 P K)) [0, 1, 11, 14] [words0, text1, x11, x14] h
def p34z12 (words0 text1 x20 : Value) (h : Heap) : Prop := CutP (iwpP P c34z12 (K34z10 P K)) [0, 1, 20] [words0, text1, x20] h
def p34z14 (words0 x20 x23 : Value) (h : Heap) : Prop := CutP (iwpP P c34z14 (K34z10 P K)) [0, 20, 23] [words0, x20, x23] h
def p34z19 (words0 x25 x26 : Value) (L1 : LK) (xs : List Value) (h : Heap) : Prop := CutP (iwpP P c34z19 (K34z19 P K words0 x25 x26 L1)) ([0, 25, 26] ++ [27]) ([words0, x25, x26] ++ xs) h
def p34z27 (words0 i5 w6 x25 x26 x27 x34 : Value) (L1 : LK) (h : Heap) : Prop := CutP (iwpP P c34z27 (K34z25 P K words0 x25 x26 L1)) [0, 5, 6, 25, 26, 27, 34] [words0, i5, w6, x25, x26, x27, x34] h
def p34z29 (words0 i5 w6 x25 x26 x27 x34 x37 : Value) (L1 : LK) (h : Heap) : Prop := CutP (iwpP P c34z29 (K34z25 P K words0 x25 x26 L1)) [0, 5, 6, 25, 26, 27, 34, 37] [words0, i5, w6, x25, x26, x27, x34, x37] h
def p34z31 (words0 i5 w6 x25 x26 x27 x39 : Value) (L1 : LK) (h : Heap) : Prop := CutP (iwpP P c34z31 (K34z25 P K words0 x25 x26 L1)) [0, 5, 6, 25, 26, 27, 39] [words0, i5, w6, x25, x26, x27, x39] h
def p34z33 (words0 i5 w6 x25 x26 x27 x39 x42 : Value) (L1 : LK) (h : Heap) : Prop := CutP (iwpP P c34z33 (K34z25 P K words0 x25 x26 L1)) [0, 5, 6, 25, 26, 27, 39, 42] [words0, i5, w6, x25, x26, x27, x39, x42] h
def p34z35 (words0 i5 w6 x25 x26 x27 x44 : Value) (L1 : LK) (h : Heap) : Prop := CutP (iwpP P c34z35 (K34z25 P K words0 x25 x26 L1)) [0, 5, 6, 25, 26, 27, 44] [words0, i5, w6, x25, x26, x27, x44] h
def p34z37 (words0 x25 x26 x27 x44 x49 : Value) (L1 : LK) (h : Heap) : Prop := CutP (iwpP P c34z37 (K34z25 P K words0 x25 x26 L1)) [0, 25, 26, 27, 44, 49] [words0, x25, x26, x27, x44, x49] h
theorem q34z8 (words0 text1 x11 x14 : Value) (h : Heap) : p34z8 P K words0 text1 x11 x14 h =
 (OP (iPick x11 (.bool true) x14) fun x15 =>
 IfP x15
 (K (.int .i64 (3)) h)
 (OP (iLenSl words0) fun x18 =>
 OP (iBin .eql x18 (.int .i64 (0))) fun x19 =>
 p34z12 P K words0 text1 x19 h)) := (CutP_def _ _ _ _).trans (by kernel_rfl)
theorem q34z6 (words0 text1 x11 : Value) (h : Heap) : p34z6 P K words0 text1 x11 h =
 (GdP x11 false
 (OP (iLenS text1) fun x13 =>
 OP (iBin .gtr x13 (.int .i64 (200))) fun x14 =>
 p34z8 P K words0 text1 x11 x14 h)
 (p34z8 P K words0 text1 x11 undef h)) := (CutP_def _ _ _ _).trans (by kernel_rfl)
theorem q34z14 (words0 x20 x23 : Value) (h : Heap) : p34z14 P K words0 x20 x23 h =
 (OP (iPick x20 (.bool true) x23) fun x24 =>
 IfP x24
 (K (.int .i64 (2)) h)
 (OP (iLenSl words0) fun x26 =>
 LoopP [(.int .i64 (0))] h fun L1 xs hx =>
 p34z19 P K words0 words0 x26 L1 xs hx)) := (CutP_def _ _ _ _).trans (by kernel_rfl)
theorem q34z12 (words0 text1 x20 : Value) (h : Heap) : p34z12 P K words0 text1 x20 h =
 (GdP x20 false
 (CallP P 51 [text1] h fun x22 h_1 =>
 OP (iUn .not x22) fun x23 =>
 p34z14 P K words0 x20 x23 h_1)
 (p34z14 P K words0 x20 undef h)) := (CutP_def _ _ _ _).trans (by kernel_rfl)
theorem q34z37 (words0 x25 x26 x27 x44 x49 : Value) (L1 : LK) (h : Heap) : p34z37 P K words0 x25 x26 x27 x44 x49 L1 h =
 (OP (iPick x44 (.bool true) x49) fun x50 =>
 IfP x50
 (K (.int .i64 (2)) h)
 (OP (iBin .add x27 (.int .i64 (1))) fun x51 =>
 ([words0, x25, x26] : List Value) = [words0, x25, x26] ∧ L1 [x51] h)) := (CutP_def _ _ _ _).trans (by kernel_rfl)
theorem q34z35 (words0 i5 w6 x25 x26 x27 x44 : Value) (L1 : LK) (h : Heap) : p34z35 P K words0 i5 w6 x25 x26 x27 x44 L1 h =
 (GdP x44 false
 (OP (iSlSl 9 1 words0 none (some i5)) fun x47 =>
 CallP P 52 [x47, w6] h fun x49 h_1 =>
 p34z37 P K words0 x25 x26 x27 x44 x49 L1 h_1)
 (p34z37 P K words0 x25 x26 x27 x44 undef L1 h)) := (CutP_def _ _ _ _).trans (by kernel_rfl)
theorem q34z33 (words0 i5 w6 x25 x26 x27 x39 x42 : Value) (L1 : LK) (h : Heap) : p34z33 P K words0 i5 w6 x25 x26 x27 x39 x42 L1 h =
 (OP (iPick x39 (.bool true) x42) fun x43 =>
 p34z35 P K words0 i5 w6 x25 x26 x27 x43 L1 h) := (CutP_def _ _ _ _).trans (by kernel_rfl)
theorem q34z31 (words0 i5 w6 x25 x26 x27 x39 : Value) (L1 : LK) (h : Heap) : p34z31 P K words0 i5 w6 x25 x26 x27 x39 L1 h =
 (GdP x39 false
 (CallP P 51 [w6] h fun x41 h_1 =>
 OP (iUn .not x41) fun x42 =>
 p34z33 P K words0 i5 w6 x25 x26 x27 x39 x42 L1 h_1)
 (p34z33 P K words0 i5 w6 x25 x26 x27 x39 undef L1 h)) := (CutP_def _ _ _ _).trans (by kernel_rfl)
theorem q34z29 (words0 i5 w6 x25 x26 x27 x34 x37 : Value) (L1 : LK) (h : Heap) : p34z29 P K words0 i5 w6 x25 x26 x27 x34 x37 L1 h =
 (OP (iPick x34 (.bool true) x37) fun x38 =>
 p34z31 P K words0 i5 w6 x25 x26 x27 x38 L1 h) := (CutP_def _ _ _ _).trans (by kernel_rfl)
theorem q34z27 (words0 i5 w6 x25 x26 x27 x34 : Value) (L1 : LK) (h : Heap) : p34z27 P K words0 i5 w6 x25 x26 x27 x34 L1 h =
 (GdP x34 false
 (OP (iLenS w6) fun x36 =>
 OP (iBin .gtr x36 (.int .i64 (10))) fun x37 =>
 p34z29 P K words0 i5 w6 x25 x26 x27 x34 x37 L1 h)
 (p34z29 P K words0 i5 w6 x25 x26 x27 x34 undef L1 h)) := (CutP_def _ _ _ _).trans (by kernel_rfl)
theorem q34z19 (words0 x25 x26 : Value) (L1 : LK) (x27 : Value) (h : Heap) : p34z19 P K words0 x25 x26 L1 [x27] h =
 (OP (iBin .lss x27 x26) fun x28 =>
 IfP x28
 (OP (iAdrSl 1 x25 x27) fun x30 =>
 OP (iLoad false 1 h x30) fun x31 =>
 OP (iBin .eql x31 (.string ⟨#[]⟩)) fun x33 =>
 p34z27 P K words0 x27 x31 x25 x26 x27 x33 L1 h)
 (K (.int .i64 (0)) h)) := (CutP_def _ _ _ _).trans (by kernel_rfl)
def T34 (words0 text1 : Value) (h : Heap) : Prop :=
 OP (iLenSl words0) fun x9 =>
 OP (iBin .gtr x9 (.int .i64 (12))) fun x10 =>
 p34z6 P K words0 text1 x10 h
theorem e34 (words0 text1 : Value) (h : Heap) : iwpP P c34 (bodyP [.tmp 4] K) (frame0 [words0, text1]) h = T34 P K words0 text1 h := by kernel_rfl
theorem f34 {K : VK} {words0 text1 : Value} {h : Heap} (H : T34 Tryd.prog K words0 text1 h) : CallP Tryd.prog 34 [words0, text1] h K :=
 callP_intro k34 (Nat.le_of_ble_eq_true rfl) ((e34 Tryd.prog K words0 text1 h).mpr H)
/-! F35: pommel/mark.Clear$1 -/
noncomputable def c35z8 : ICode := .ops none [⟨(some 20), .p (.pick (.tmp 15) (.tmp 19) (.const (.bool false)))⟩]
noncomputable def c35z6 : ICode := .seq (.ops (some (15, true)) [⟨(some 16), .p (.mv (.tmp 1))⟩,
 ⟨(some 17), .p (.mv (.tmp 6))⟩,
 ⟨(some 18), .call 36 [(.tmp 16), (.tmp 17)]⟩,
 ⟨(some 19), .p (.un .not (.tmp 18))⟩])
 (.cut [0, 1, 2, 15, 19] c35z8)
noncomputable def c35z4 : ICode := .cond (.tmp 20) (.seq (.ops none [⟨(some 5), .p (.mv (.const (.bool false)))⟩])
 (.ret))
 (.skip)
noncomputable def c35z2 : ICode := .seq (.ops none [⟨(some 21), .l (.load false 1 (.tmp 2))⟩,
 ⟨(some 22), .p (.mv (.tmp 0))⟩,
 ⟨(some 23), .p (.mv (.tmp 1))⟩,
 ⟨none, .e (.mupdG .str (.tmp 21) (.tmp 22) (.tmp 23))⟩])
 (.seq (.ops none [⟨(some 5), .p (.mv (.const (.bool true)))⟩])
 (.ret))
noncomputable def c35 : ICode := .seq (.ops none [⟨(some 5), .p (.mv (.const (.bool false)))⟩])
 (.seq (.seq (.ops none [⟨(some 9), .l (.load false 1 (.tmp 2))⟩,
 ⟨(some 10), .p (.mv (.tmp 0))⟩,
 ⟨(some 11), .l (.lookupG .str true (.string ⟨#[]⟩) (.tmp 9) (.tmp 10))⟩,
 ⟨(some 8), .p (.mv (.tmp 11))⟩,
 ⟨(some 12), .p (.ext (.tmp 8) 0)⟩,
 ⟨(some 13), .p (.ext (.tmp 8) 1)⟩,
 ⟨(some 6), .p (.mv (.tmp 12))⟩,
 ⟨(some 7), .p (.mv (.tmp 13))⟩])
 (.seq (.seq (.ops none [⟨(some 14), .p (.mv (.tmp 7))⟩,
 ⟨(some 15), .p (.mv (.tmp 14))⟩])
 (.cut [0, 1, 2, 6, 15] c35z6)) c35z4)) c35z2)
theorem k35 : compFn Tryd.prog 35 [[], [], [0, 1, 2, 6, 15], [0, 1, 2, 15, 19], [], [], [], [], []] = some (24, c35, [.tmp 5]) := by kernel_rfl
def K35z0 (_P : Program) (K : VK) : Kont := bodyP [.tmp 5] K
def K35z2 : Kont := thenK (iwpP P c35z2 (K35z0 P K)) (K35z0 P K)
def K35z4 : Kont := thenK (iwpP P c35z4 (K35z2 P K)) (K35z2 P K)
def p35z6 (ahead0 text1 x2 old6 x15 : Value) (h : Heap) : Prop := CutP (iwpP P c35z6 (K35z4 P K)) [0, 1, 2, 6, 15] [ahead0, text1, x2, old6, x15] h
def p35z8 (ahead0 text1 x2 x15 x19 : Value) (h : Heap) : Prop := CutP (iwpP P c35z8 (K35z4 P K)) [0, 1, 2, 15, 19] [ahead0, text1, x2, x15, x19] h
theorem q35z8 (ahead0 text1 x2 x15 x19 : Value) (h : Heap) : p35z8 P K ahead0 text1 x2 x15 x19 h =
 (OP (iPick x15 x19 (.bool false)) fun x20 =>
 IfP x20
 (K (.bool false) h)
 (OP (iLoad false 1 h x2) fun x21 =>
 OH (oMupdG .str h x21 ahead0 text1) fun _ h_1 =>
 K (.bool true) h_1)) := (CutP_def _ _ _ _).trans (by kernel_rfl)
theorem q35z6 (ahead0 text1 x2 old6 x15 : Value) (h : Heap) : p35z6 P K ahead0 text1 x2 old6 x15 h =
 (GdP x15 true
 (CallP P 36 [text1, old6] h fun x18 h_1 =>
 OP (iUn .not x18) fun x19 =>
 p35z8 P K ahead0 text1 x2 x15 x19 h_1)
 (p35z8 P K ahead0 text1 x2 x15 undef h)) := (CutP_def _ _ _ _).trans (by kernel_rfl)
def T35 (ahead0 text1 x2 : Value) (h : Heap) : Prop :=
 OP (iLoad false 1 h x2) fun x9 =>
 OP (iLookupG .str true (.string ⟨#[]⟩) h x9 ahead0) fun x11 =>
 OP (iExt 0 x11) fun x12 =>
 OP (iExt 1 x11) fun x13 =>
 p35z6 P K ahead0 text1 x2 x12 x13 h
theorem e35 (ahead0 text1 x2 : Value) (h : Heap) : iwpP P c35 (bodyP [.tmp 5] K) (frame0 [ahead0, text1, x2]) h = T35 P K ahead0 text1 x2 h := by kernel_rfl
theorem f35 {K : VK} {ahead0 text1 x2 : Value} {h : Heap} (H : T35 Tryd.prog K ahead0 text1 x2 h) : CallP Tryd.prog 35 [ahead0, text1, x2] h K :=
 callP_intro k35 (Nat.le_of_ble_eq_true rfl) ((e35 Tryd.prog K ahead0 text1 x2 h).mpr H)
/-! F36: pommel/mark.before -/
noncomputable def c36 : ICode := .seq (.ops none [⟨(some 4), .p (.mv (.const (.bool false)))⟩])
 (.seq (.seq (.ops none [⟨(some 6), .p (.mv (.tmp 0))⟩,
 ⟨(some 7), .p (.lenS (.tmp 6))⟩,
 ⟨(some 8), .p (.mv (.tmp 1))⟩,
 ⟨(some 9), .p (.lenS (.tmp 8))⟩,
 ⟨(some 10), .p (.bin .sub (.tmp 7) (.tmp 9))⟩,
 ⟨(some 5), .p (.mv (.tmp 10))⟩])
 (.seq (.ops none [⟨(some 11), .p (.mv (.tmp 5))⟩,
 ⟨(some 12), .p (.bin .neq (.tmp 11) (.const (.int .i64 (0))))⟩])
 (.cond (.tmp 12) (.seq (.ops none [⟨(some 13), .p (.mv (.tmp 5))⟩,
 ⟨(some 14), .p (.bin .lss (.tmp 13) (.const (.int .i64 (0))))⟩,
 ⟨(some 4), .p (.mv (.tmp 14))⟩])
 (.ret))
 (.skip))))
 (.seq (.ops none [⟨(some 15), .p (.mv (.tmp 0))⟩,
 ⟨(some 16), .p (.mv (.tmp 1))⟩,
 ⟨(some 17), .p (.bin .lss (.tmp 15) (.tmp 16))⟩,
 ⟨(some 4), .p (.mv (.tmp 17))⟩])
 (.ret)))
theorem k36 : compFn Tryd.prog 36 [[], [], [], [], [], []] = some (18, c36, [.tmp 4]) := by kernel_rfl
def T36 (P : Program) (K : VK) (a0 b1 : Value) (h : Heap) : Prop :=
 OP (iLenS a0) fun x7 =>
 OP (iLenS b1) fun x9 =>
 OP (iBin .sub x7 x9) fun x10 =>
 OP (iBin .neq x10 (.int .i64 (0))) fun x12 =>
 IfP x12
 (OP (iBin .lss x10 (.int .i64 (0))) fun x14 =>
 K x14 h)
 (OP (iBin .lss a0 b1) fun x17 =>
 K x17 h)
theorem e36 (a0 b1 : Value) (h : Heap) : iwpP P c36 (bodyP [.tmp 4] K) (frame0 [a0, b1]) h = T36 P K a0 b1 h := by kernel_rfl
theorem f36 {K : VK} {a0 b1 : Value} {h : Heap} (H : T36 Tryd.prog K a0 b1 h) : CallP Tryd.prog 36 [a0, b1] h K :=
 callP_intro k36 (Nat.le_of_ble_eq_true rfl) ((e36 Tryd.prog K a0 b1 h).mpr H)
/-! F37: strings.HasPrefix -/
noncomputable def c37 : ICode := .seq (.ops none [⟨(some 4), .p (.mv (.const (.bool false)))⟩])
 (.seq (.ops none [⟨(some 5), .p (.mv (.tmp 0))⟩,
 ⟨(some 6), .p (.mv (.tmp 1))⟩,
 ⟨(some 7), .call 53 [(.tmp 5), (.tmp 6)]⟩,
 ⟨(some 4), .p (.mv (.tmp 7))⟩])
 (.ret))
theorem k37 : compFn Tryd.prog 37 [[], []] = some (8, c37, [.tmp 4]) := by kernel_rfl
def T37 (s0 prefix1 : Value) (h : Heap) : Prop :=
 CallP P 53 [s0, prefix1] h fun x7 h_1 =>
 K x7 h_1
theorem e37 (s0 prefix1 : Value) (h : Heap) : iwpP P c37 (bodyP [.tmp 4] K) (frame0 [s0, prefix1]) h = T37 P K s0 prefix1 h := by kernel_rfl
theorem f37 {K : VK} {s0 prefix1 : Value} {h : Heap} (H : T37 Tryd.prog K s0 prefix1 h) : CallP Tryd.prog 37 [s0, prefix1] h K :=
 callP_intro k37 (Nat.le_of_ble_eq_true rfl) ((e37 Tryd.prog K s0 prefix1 h).mpr H)
/-! F51: pommel/mark.marked -/
noncomputable def c51 : ICode := .seq (.ops none [⟨(some 2), .p (.mv (.const (.bool false)))⟩])
 (.seq (.ops none [⟨(some 3), .p (.mv (.tmp 0))⟩,
 ⟨(some 4), .call 58 [(.tmp 3), (.const (.string ⟨#[48, 49]⟩))]⟩,
 ⟨(some 5), .p (.bin .eql (.tmp 4) (.const (.string ⟨#[]⟩)))⟩,
 ⟨(some 2), .p (.mv (.tmp 5))⟩])
 (.ret))
theorem k51 : compFn Tryd.prog 51 [[], []] = some (6, c51, [.tmp 2]) := by kernel_rfl
def T51 (s0 : Value) (h : Heap) : Prop :=
 CallP P 58 [s0, (.string ⟨#[48, 49]⟩)] h fun x4 h_1 =>
 OP (iBin .eql x4 (.string ⟨#[]⟩)) fun x5 =>
 K x5 h_1
theorem e51 (s0 : Value) (h : Heap) : iwpP P c51 (bodyP [.tmp 2] K) (frame0 [s0]) h = T51 P K s0 h := by kernel_rfl
theorem f51 {K : VK} {s0 : Value} {h : Heap} (H : T51 Tryd.prog K s0 h) : CallP Tryd.prog 51 [s0] h K :=
 callP_intro k51 (Nat.le_of_ble_eq_true rfl) ((e51 Tryd.prog K s0 h).mpr H)
/-! F52: slices.Contains[[]string,string] -/
noncomputable def c52 : ICode := .seq (.ops none [⟨(some 4), .p (.mv (.const (.bool false)))⟩])
 (.seq (.ops none [⟨(some 5), .p (.mv (.tmp 0))⟩,
 ⟨(some 6), .p (.mv (.tmp 1))⟩,
 ⟨(some 7), .call 59 [(.tmp 5), (.tmp 6)]⟩,
 ⟨(some 8), .p (.bin .geq (.tmp 7) (.const (.int .i64 (0))))⟩,
 ⟨(some 4), .p (.mv (.tmp 8))⟩])
 (.ret))
theorem k52 : compFn Tryd.prog 52 [[], []] = some (9, c52, [.tmp 4]) := by kernel_rfl
def T52 (s0 v1 : Value) (h : Heap) : Prop :=
 CallP P 59 [s0, v1] h fun x7 h_1 =>
 OP (iBin .geq x7 (.int .i64 (0))) fun x8 =>
 K x8 h_1
theorem e52 (s0 v1 : Value) (h : Heap) : iwpP P c52 (bodyP [.tmp 4] K) (frame0 [s0, v1]) h = T52 P K s0 v1 h := by kernel_rfl
theorem f52 {K : VK} {s0 v1 : Value} {h : Heap} (H : T52 Tryd.prog K s0 v1 h) : CallP Tryd.prog 52 [s0, v1] h K :=
 callP_intro k52 (Nat.le_of_ble_eq_true rfl) ((e52 Tryd.prog K s0 v1 h).mpr H)
/-! F53: internal/stringslite.HasPrefix -/
noncomputable def c53z6 : ICode := .ops none [⟨(some 17), .p (.pick (.tmp 10) (.tmp 16) (.const (.bool false)))⟩,
 ⟨(some 4), .p (.mv (.tmp 17))⟩]
noncomputable def c53z4 : ICode := .seq (.ops (some (10, true)) [⟨(some 11), .p (.mv (.tmp 0))⟩,
 ⟨(some 12), .p (.mv (.tmp 1))⟩,
 ⟨(some 13), .p (.lenS (.tmp 12))⟩,
 ⟨(some 14), .p (.slS (.tmp 11) none (some (.tmp 13)))⟩,
 ⟨(some 15), .p (.mv (.tmp 1))⟩,
 ⟨(some 16), .p (.bin .eql (.tmp 14) (.tmp 15))⟩])
 (.cut [10, 16] c53z6)
noncomputable def c53z2 : ICode := .ret
noncomputable def c53 : ICode := .seq (.ops none [⟨(some 4), .p (.mv (.const (.bool false)))⟩])
 (.seq (.seq (.ops none [⟨(some 5), .p (.mv (.tmp 0))⟩,
 ⟨(some 6), .p (.lenS (.tmp 5))⟩,
 ⟨(some 7), .p (.mv (.tmp 1))⟩,
 ⟨(some 8), .p (.lenS (.tmp 7))⟩,
 ⟨(some 9), .p (.bin .geq (.tmp 6) (.tmp 8))⟩,
 ⟨(some 10), .p (.mv (.tmp 9))⟩])
 (.cut [0, 1, 10] c53z4)) c53z2)
theorem k53 : compFn Tryd.prog 53 [[], [0, 1, 10], [10, 16], []] = some (18, c53, [.tmp 4]) := by kernel_rfl
def K53z0 (_P : Program) (K : VK) : Kont := bodyP [.tmp 4] K
def K53z2 : Kont := thenK (iwpP P c53z2 (K53z0 P K)) (K53z0 P K)
def p53z4 (s0 prefix1 x10 : Value) (h : Heap) : Prop := CutP (iwpP P c53z4 (K53z2 P K)) [0, 1, 10] [s0, prefix1, x10] h
def p53z6 (x10 x16 : Value) (h : Heap) : Prop := CutP (iwpP P c53z6 (K53z2 P K)) [10, 16] [x10, x16] h
theorem q53z6 (x10 x16 : Value) (h : Heap) : p53z6 P K x10 x16 h =
 (OP (iPick x10 x16 (.bool false)) fun x17 =>
 K x17 h) := (CutP_def _ _ _ _).trans (by kernel_rfl)
theorem q53z4 (s0 prefix1 x10 : Value) (h : Heap) : p53z4 P K s0 prefix1 x10 h =
 (GdP x10 true
 (OP (iLenS prefix1) fun x13 =>
 OP (iSlS s0 none (some x13)) fun x14 =>
 OP (iBin .eql x14 prefix1) fun x16 =>
 p53z6 P K x10 x16 h)
 (p53z6 P K x10 undef h)) := (CutP_def _ _ _ _).trans (by kernel_rfl)
def T53 (s0 prefix1 : Value) (h : Heap) : Prop :=
 OP (iLenS s0) fun x6 =>
 OP (iLenS prefix1) fun x8 =>
 OP (iBin .geq x6 x8) fun x9 =>
 p53z4 P K s0 prefix1 x9 h
theorem e53 (s0 prefix1 : Value) (h : Heap) : iwpP P c53 (bodyP [.tmp 4] K) (frame0 [s0, prefix1]) h = T53 P K s0 prefix1 h := by kernel_rfl
theorem f53 {K : VK} {s0 prefix1 : Value} {h : Heap} (H : T53 Tryd.prog K s0 prefix1 h) : CallP Tryd.prog 53 [s0, prefix1] h K :=
 callP_intro k53 (Nat.le_of_ble_eq_true rfl) ((e53 Tryd.prog K s0 prefix1 h).mpr H)
/-! F58: strings.Trim -/
noncomputable def c58z7 : ICode := .ops none [⟨(some 12), .p (.pick (.tmp 9) (.const (.bool true)) (.tmp 11))⟩]
noncomputable def c58z5 : ICode := .seq (.ops (some (9, false)) [⟨(some 10), .p (.mv (.tmp 1))⟩,
 ⟨(some 11), .p (.bin .eql (.tmp 10) (.const (.string ⟨#[]⟩)))⟩])
 (.cut [0, 1, 9, 11] c58z7)
noncomputable def c58z3 : ICode := .cond (.tmp 12) (.seq (.ops none [⟨(some 13), .p (.mv (.tmp 0))⟩,
 ⟨(some 4), .p (.mv (.tmp 13))⟩])
 (.ret))
 (.skip)
noncomputable def c58z14 : ICode := .ops none [⟨(some 21), .p (.pick (.tmp 17) (.tmp 20) (.const (.bool false)))⟩]
noncomputable def c58z12 : ICode := .seq (.ops (some (17, true)) [⟨(some 18), .p (.mv (.tmp 1))⟩,
 ⟨(some 19), .p (.idxS (.tmp 18) (.const (.int .i64 (0))))⟩,
 ⟨(some 20), .p (.bin .lss (.tmp 19) (.const (.int .u8 (128))))⟩])
 (.cut [0, 1, 17, 20] c58z14)
noncomputable def c58z10 : ICode := .cond (.tmp 21) (.seq (.dops [(none, [⟨(some 22), .p (.mv (.tmp 0)), 0⟩,
 ⟨(some 23), .p (.mv (.tmp 1)), 0⟩,
 ⟨(some 24), .p (.idxS (.tmp 23) (.const (.int .i64 (0)))), 2⟩,
 ⟨(some 25), .call 68 [(.tmp 22), (.tmp 24)], 7⟩,
 ⟨(some 26), .p (.mv (.tmp 1)), 0⟩,
 ⟨(some 27), .p (.idxS (.tmp 26) (.const (.int .i64 (0)))), 16⟩,
 ⟨(some 28), .call 67 [(.tmp 25), (.tmp 27)], 63⟩,
 ⟨(some 4), .p (.mv (.tmp 28)), 127⟩])])
 (.ret))
 (.skip)
noncomputable def c58z9 : ICode := .seq (.seq (.ops none [⟨(some 30), .p (.mv (.tmp 1))⟩,
 ⟨(some 31), .call 69 [(.tmp 30)]⟩,
 ⟨(some 29), .p (.mv (.tmp 31))⟩,
 ⟨(some 32), .p (.ext (.tmp 29) 0)⟩,
 ⟨(some 33), .p (.ext (.tmp 29) 1)⟩,
 ⟨(some 5), .e (.alloc 98 [(.bool false), (.bool false), (.bool false), (.bool false), (.bool false), (.bool false), (.bool false), (.bool false), (.bool false), (.bool false), (.bool false), (.bool false), (.bool false), (.bool false), (.bool false), (.bool false), (.bool false), (.bool false), (.bool false), (.bool false), (.bool false), (.bool false), (.bool false), (.bool false), (.bool false), (.bool false), (.bool false), (.bool false), (.bool false), (.bool false), (.bool false), (.bool false), (.bool false), (.bool false), (.bool false), (.bool false), (.bool false), (.bool false), (.bool false), (.bool false), (.bool false), (.bool false), (.bool false), (.bool false), (.bool false), (.bool false), (.bool false), (.bool false), (.bool false), (.bool false), (.bool false), (.bool false), (.bool false), (.bool false), (.bool false), (.bool false), (.bool false), (.bool false), (.bool false), (.bool false), (.bool false), (.bool false), (.bool false), (.bool false), (.bool false), (.bool false), (.bool false), (.bool false), (.bool false), (.bool false), (.bool false), (.bool false), (.bool false), (.bool false), (.bool false), (.bool false), (.bool false), (.bool false), (.bool false), (.bool false), (.bool false), (.bool false), (.bool false), (.bool false), (.bool false), (.bool false), (.bool false), (.bool false), (.bool false), (.bool false), (.bool false), (.bool false), (.bool false), (.bool false), (.bool false), (.bool false), (.bool false), (.bool false), (.bool false), (.bool false), (.bool false), (.bool false), (.bool false), (.bool false), (.bool false), (.bool false), (.bool false), (.bool false), (.bool false), (.bool false), (.bool false), (.bool false), (.bool false), (.bool false), (.bool false), (.bool false), (.bool false), (.bool false), (.bool false), (.bool false), (.bool false), (.bool false), (.bool false), (.bool false), (.bool false), (.bool false), (.bool false), (.bool false), (.bool false), (.bool false), (.bool false), (.bool false), (.bool false), (.bool false), (.bool false), (.bool false), (.bool false), (.bool false), (.bool false), (.bool false), (.bool false), (.bool false), (.bool false), (.bool false), (.bool false), (.bool false), (.bool false), (.bool false), (.bool false), (.bool false), (.bool false), (.bool false), (.bool false), (.bool false), (.bool false), (.bool false), (.bool false), (.bool false), (.bool false), (.bool false), (.bool false), (.bool false), (.bool false), (.bool false), (.bool false), (.bool false), (.bool false), (.bool false), (.bool false), (.bool false), (.bool false), (.bool false), (.bool false), (.bool false), (.bool false), (.bool false), (.bool false), (.bool false), (.bool false), (.bool false), (.bool false), (.bool false), (.bool false), (.bool false), (.bool false), (.bool false), (.bool false), (.bool false), (.bool false), (.bool false), (.bool false), (.bool false), (.bool false), (.bool false), (.bool false), (.bool false), (.bool false), (.bool false), (.bool false), (.bool false), (.bool false), (.bool false), (.bool false), (.bool false), (.bool false), (.bool false), (.bool false), (.bool false), (.bool false), (.bool false), (.bool false), (.bool false), (.bool false), (.bool false), (.bool false), (.bool false), (.bool false), (.bool false), (.bool false), (.bool false), (.bool false), (.bool false), (.bool false), (.bool false), (.bool false), (.bool false), (.bool false), (.bool false), (.bool false), (.bool false), (.bool false), (.bool false), (.bool false), (.bool false), (.bool false), (.bool false), (.bool false), (.bool false), (.bool false), (.bool false), (.bool false), (.bool false), (.bool false), (.bool false), (.bool false), (.bool false), (.bool false), (.bool false), (.bool false), (.bool false), (.bool false), (.bool false), (.bool false), (.bool false), (.bool false), (.bool false)])⟩,
 ⟨none, .e (.store 256 (.tmp 5) (.tmp 32))⟩,
 ⟨(some 6), .p (.mv (.tmp 33))⟩])
 (.seq (.ops none [⟨(some 34), .p (.mv (.tmp 6))⟩])
 (.cond (.tmp 34) (.seq (.ops none [⟨(some 35), .p (.mv (.tmp 0))⟩,
 ⟨(some 36), .call 71 [(.tmp 35), (.tmp 5)]⟩,
 ⟨(some 37), .call 70 [(.tmp 36), (.tmp 5)]⟩,
 ⟨(some 4), .p (.mv (.tmp 37))⟩])
 (.ret))
 (.skip))))
 (.seq (.ops none [⟨(some 38), .p (.mv (.tmp 0))⟩,
 ⟨(some 39), .p (.mv (.tmp 1))⟩,
 ⟨(some 40), .call 73 [(.tmp 38), (.tmp 39)]⟩,
 ⟨(some 41), .p (.mv (.tmp 1))⟩,
 ⟨(some 42), .call 72 [(.tmp 40), (.tmp 41)]⟩,
 ⟨(some 4), .p (.mv (.tmp 42))⟩])
 (.ret))
noncomputable def c58z2 : ICode := .seq (.seq (.seq (.ops none [⟨(some 14), .p (.mv (.tmp 1))⟩,
 ⟨(some 15), .p (.lenS (.tmp 14))⟩,
 ⟨(some 16), .p (.bin .eql (.tmp 15) (.const (.int .i64 (1))))⟩,
 ⟨(some 17), .p (.mv (.tmp 16))⟩])
 (.cut [0, 1, 17] c58z12)) c58z10) c58z9
noncomputable def c58 : ICode := .seq (.ops none [⟨(some 4), .p (.mv (.const (.string ⟨#[]⟩)))⟩])
 (.seq (.seq (.seq (.ops none [⟨(some 7), .p (.mv (.tmp 0))⟩,
 ⟨(some 8), .p (.bin .eql (.tmp 7) (.const (.string ⟨#[]⟩)))⟩,
 ⟨(some 9), .p (.mv (.tmp 8))⟩])
 (.cut [0, 1, 9] c58z5)) c58z3) c58z2)
theorem k58 : compFn Tryd.prog 58 [[], [0, 1, 9], [0, 1, 9, 11], [], [], [], [0, 1, 17], [0, 1, 17, 20], [], [], [], [], [], [], [], []] = some (43, c58, [.tmp 4]) := by kernel_rfl
def K58z0 (_P : Program) (K : VK) : Kont := bodyP [.tmp 4] K
def K58z2 : Kont := thenK (iwpP P c58z2 (K58z0 P K)) (K58z0 P K)
def K58z3 : Kont := thenK (iwpP P c58z3 (K58z2 P K)) (K58z2 P K)
def K58z9 : Kont := thenK (iwpP P c58z9 (K58z0 P K)) (K58z0 P K)
def K58z10 : Kont := thenK (iwpP P c58z10 (K58z9 P K)) (K58z9 P K)
def p58z5 (s0 cutset1 x9 : Value) (h : Heap) : Prop := CutP (iwpP P c58z5 (K58z3 P K)) [0, 1, 9] [s0, cutset1, x9] h
def p58z7 (s0 cutset1 x9 x11 : Value) (h : Heap) : Prop := CutP (iwpP P c58z7 (K58z3 P K)) [0, 1, 9, 11] [s0, cutset1, x9, x11] h
def p58z12 (s0 cutset1 x17 : Value) (h : Heap) : Prop := CutP (iwpP P c58z12 (K58z10 P K)) [0, 1, 17] [s0, cutset1, x17] h
def p58z14 (s0 cutset1 x17 x20 : Value) (h : Heap) : Prop := CutP (iwpP P c58z14 (K58z10 P K)) [0, 1, 17, 20] [s0, cutset1, x17, x20] h
theorem q58z7 (s0 cutset1 x9 x11 : Value) (h : Heap) : p58z7 P K s0 cutset1 x9 x11 h =
 (OP (iPick x9 (.bool true) x11) fun x12 =>
 IfP x12
 (K s0 h)
 (OP (iLenS cutset1) fun x15 =>
 OP (iBin .eql x15 (.int .i64 (1))) fun x16 =>
 p58z12 P K s0 cutset1 x16 h)) := (CutP_def _ _ _ _).trans (by kernel_rfl)
theorem q58z5 (s0 cutset1 x9 : Value) (h : Heap) : p58z5 P K s0 cutset1 x9 h =
 (GdP x9 false
 (OP (iBin .eql cutset1 (.string ⟨#[]⟩)) fun x11 =>
 p58z7 P K s0 cutset1 x9 x11 h)
 (p58z7 P K s0 cutset1 x9 undef h)) := (CutP_def _ _ _ _).trans (by kernel_rfl)
theorem q58z14 (s0 cutset1 x17 x20 : Value) (h : Heap) : p58z14 P K s0 cutset1 x17 x20 h =
 (OP (iPick x17 x20 (.bool false)) fun x21 =>
 IfP x21
 (OP (iIdxS cutset1 (.int .i64 (0))) fun x24 =>
 CallP P 68 [s0, x24] h fun x25 h_1 =>
 (True) ∧
 OP (iIdxS cutset1 (.int .i64 (0))) fun x27 =>
 CallP P 67 [x25, x27] h_1 fun x28 h_2 =>
 (True) ∧
 K x28 h_2)
 (CallP P 69 [cutset1] h fun x31 h_1 =>
 OP (iExt 0 x31) fun x32 =>
 OP (iExt 1 x31) fun x33 =>
 OH (iAlloc 98 [(.bool false), (.bool false), (.bool false), (.bool false), (.bool false), (.bool false), (.bool false), (.bool false), (.bool false), (.bool false), (.bool false), (.bool false), (.bool false), (.bool false), (.bool false), (.bool false), (.bool false), (.bool false), (.bool false), (.bool false), (.bool false), (.bool false), (.bool false), (.bool false), (.bool false), (.bool false), (.bool false), (.bool false), (.bool false), (.bool false), (.bool false), (.bool false), (.bool false), (.bool false), (.bool false), (.bool false), (.bool false), (.bool false), (.bool false), (.bool false), (.bool false), (.bool false), (.bool false), (.bool false), (.bool false), (.bool false), (.bool false), (.bool false), (.bool false), (.bool false), (.bool false), (.bool false), (.bool false), (.bool false), (.bool false), (.bool false), (.bool false), (.bool false), (.bool false), (.bool false), (.bool false), (.bool false), (.bool false), (.bool false), (.bool false), (.bool false), (.bool false), (.bool false), (.bool false), (.bool false), (.bool false), (.bool false), (.bool false), (.bool false), (.bool false), (.bool false), (.bool false), (.bool false), (.bool false), (.bool false), (.bool false), (.bool false), (.bool false), (.bool false), (.bool false), (.bool false), (.bool false), (.bool false), (.bool false), (.bool false), (.bool false), (.bool false), (.bool false), (.bool false), (.bool false), (.bool false), (.bool false), (.bool false), (.bool false), (.bool false), (.bool false), (.bool false), (.bool false), (.bool false), (.bool false), (.bool false), (.bool false), (.bool false), (.bool false), (.bool false), (.bool false), (.bool false), (.bool false), (.bool false), (.bool false), (.bool false), (.bool false), (.bool false), (.bool false), (.bool false), (.bool false), (.bool false), (.bool false), (.bool false), (.bool false), (.bool false), (.bool false), (.bool false), (.bool false), (.bool false), (.bool false), (.bool false), (.bool false), (.bool false), (.bool false), (.bool false), (.bool false), (.bool false), (.bool false), (.bool false), (.bool false), (.bool false), (.bool false), (.bool false), (.bool false), (.bool false), (.bool false), (.bool false), (.bool false), (.bool false), (.bool false), (.bool false), (.bool false), (.bool false), (.bool false), (.bool false), (.bool false), (.bool false), (.bool false), (.bool false), (.bool false), (.bool false), (.bool false), (.bool false), (.bool false), (.bool false), (.bool false), (.bool false), (.bool false), (.bool false), (.bool false), (.bool false), (.bool false), (.bool false), (.bool false), (.bool false), (.bool false), (.bool false), (.bool false), (.bool false), (.bool false), (.bool false), (.bool false), (.bool false), (.bool false), (.bool false), (.bool false), (.bool false), (.bool false), (.bool false), (.bool false), (.bool false), (.bool false), (.bool false), (.bool false), (.bool false), (.bool false), (.bool false), (.bool false), (.bool false), (.bool false), (.bool false), (.bool false), (.bool false), (.bool false), (.bool false), (.bool false), (.bool false), (.bool false), (.bool false), (.bool false), (.bool false), (.bool false), (.bool false), (.bool false), (.bool false), (.bool false), (.bool false), (.bool false), (.bool false), (.bool false), (.bool false), (.bool false), (.bool false), (.bool false), (.bool false), (.bool false), (.bool false), (.bool false), (.bool false), (.bool false), (.bool false), (.bool false), (.bool false), (.bool false), (.bool false), (.bool false), (.bool false), (.bool false), (.bool false), (.bool false), (.bool false), (.bool false), (.bool false), (.bool false), (.bool false), (.bool false), (.bool false), (.bool false), (.bool false), (.bool false), (.bool false), (.bool false), (.bool false), (.bool false), (.bool false)] h_1) fun as5 h_2 =>
 OH (oStore 256 h_2 as5 x32) fun _ h_3 =>
 IfP x33
 (CallP P 71 [s0, as5] h_3 fun x36 h_4 =>
 CallP P 70 [x36, as5] h_4 fun x37 h_5 =>
 K x37 h_5)
 (CallP P 73 [s0, cutset1] h_3 fun x40 h_4 =>
 CallP P 72 [x40, cutset1] h_4 fun x42 h_5 =>
 K x42 h_5))) := (CutP_def _ _ _ _).trans (by kernel_rfl)
theorem q58z12 (s0 cutset1 x17 : Value) (h : Heap) : p58z12 P K s0 cutset1 x17 h =
 (GdP x17 true
 (OP (iIdxS cutset1 (.int .i64 (0))) fun x19 =>
 OP (iBin .lss x19 (.int .u8 (128))) fun x20 =>
 p58z14 P K s0 cutset1 x17 x20 h)
 (p58z14 P K s0 cutset1 x17 undef h)) := (CutP_def _ _ _ _).trans (by kernel_rfl)
def T58 (s0 cutset1 : Value) (h : Heap) : Prop :=
 OP (iBin .eql s0 (.string ⟨#[]⟩)) fun x8 =>
 p58z5 P K s0 cutset1 x8 h
theorem e58 (s0 cutset1 : Value) (h : Heap) : iwpP P c58 (bodyP [.tmp 4] K) (frame0 [s0, cutset1]) h = T58 P K s0 cutset1 h := by kernel_rfl
theorem f58 {K : VK} {s0 cutset1 : Value} {h : Heap} (H : T58 Tryd.prog K s0 cutset1 h) : CallP Tryd.prog 58 [s0, cutset1] h K :=
 callP_intro k58 (Nat.le_of_ble_eq_true rfl) ((e58 Tryd.prog K s0 cutset1 h).mpr H)
/-! F59: slices.Index[[]string,string] -/
noncomputable def c59z5 : ICode := .seq (.ops none [⟨(some 9), .p (.bin .lss (.tmp 8) (.tmp 7))⟩])
 (.seq (.cond (.tmp 9) (.skip)
 (.exit 0))
 (.seq (.block 1 (.seq (.ops none [⟨(some 10), .p (.mv (.tmp 8))⟩,
 ⟨(some 5), .p (.mv (.tmp 10))⟩])
 (.seq (.ops none [⟨(some 11), .p (.mv (.tmp 1))⟩,
 ⟨(some 12), .p (.mv (.tmp 0))⟩,
 ⟨(some 13), .p (.mv (.tmp 5))⟩,
 ⟨(some 14), .p (.adrSl 1 (.tmp 12) (.tmp 13))⟩,
 ⟨(some 15), .l (.load false 1 (.tmp 14))⟩,
 ⟨(some 16), .p (.bin .eql (.tmp 11) (.tmp 15))⟩])
 (.cond (.tmp 16) (.seq (.ops none [⟨(some 17), .p (.mv (.tmp 5))⟩,
 ⟨(some 4), .p (.mv (.tmp 17))⟩])
 (.ret))
 (.skip)))))
 (.ops none [⟨(some 18), .p (.bin .add (.tmp 8) (.const (.int .i64 (1))))⟩,
 ⟨(some 8), .p (.mv (.tmp 18))⟩])))
noncomputable def c59z2 : ICode := .seq (.ops none [⟨(some 4), .p (.mv (.const (.int .i64 (-1))))⟩])
 (.ret)
noncomputable def c59 : ICode := .seq (.ops none [⟨(some 4), .p (.mv (.const (.int .i64 (0))))⟩])
 (.seq (.seq (.ops none [⟨(some 6), .p (.mv (.tmp 0))⟩,
 ⟨(some 7), .p (.lenSl (.tmp 6))⟩,
 ⟨(some 8), .p (.mv (.const (.int .i64 (0))))⟩])
 (.block 0 (.loop [0, 1, 7] [8] c59z5))) c59z2)
theorem k59 : compFn Tryd.prog 59 [[], [], [0, 1, 7], [8], [], [], [], [], [], [], [], []] = some (19, c59, [.tmp 4]) := by kernel_rfl
def K59z0 (_P : Program) (K : VK) : Kont := bodyP [.tmp 4] K
def K59z2 : Kont := thenK (iwpP P c59z2 (K59z0 P K)) (K59z0 P K)
def K59z4 : Kont := inBlockK 0 (K59z2 P K)
def K59z5 (s0 v1 x7 : Value) (L1 : LK) : Kont := thenK (fun f' h'' => (([0, 1, 7] : List Nat).map f' : List Value) = [s0, v1, x7] ∧ L1 (([8] : List Nat).map f') h'') (K59z4 P K)
def p59z5 (s0 v1 x7 : Value) (L1 : LK) (xs : List Value) (h : Heap) : Prop := CutP (iwpP P c59z5 (K59z5 P K s0 v1 x7 L1)) ([0, 1, 7] ++ [8]) ([s0, v1, x7] ++ xs) h
theorem q59z5 (s0 v1 x7 : Value) (L1 : LK) (x8 : Value) (h : Heap) : p59z5 P K s0 v1 x7 L1 [x8] h =
 (OP (iBin .lss x8 x7) fun x9 =>
 IfP x9
 (OP (iAdrSl 1 s0 x8) fun x14 =>
 OP (iLoad false 1 h x14) fun x15 =>
 OP (iBin .eql v1 x15) fun x16 =>
 IfP x16
 (K x8 h)
 (OP (iBin .add x8 (.int .i64 (1))) fun x18 =>
 ([s0, v1, x7] : List Value) = [s0, v1, x7] ∧ L1 [x18] h))
 (K (.int .i64 (-1)) h)) := (CutP_def _ _ _ _).trans (by kernel_rfl)
def T59 (s0 v1 : Value) (h : Heap) : Prop :=
 OP (iLenSl s0) fun x7 =>
 LoopP [(.int .i64 (0))] h fun L1 xs hx =>
 p59z5 P K s0 v1 x7 L1 xs hx
theorem e59 (s0 v1 : Value) (h : Heap) : iwpP P c59 (bodyP [.tmp 4] K) (frame0 [s0, v1]) h = T59 P K s0 v1 h := by kernel_rfl
theorem f59 {K : VK} {s0 v1 : Value} {h : Heap} (H : T59 Tryd.prog K s0 v1 h) : CallP Tryd.prog 59 [s0, v1] h K :=
 callP_intro k59 (Nat.le_of_ble_eq_true rfl) ((e59 Tryd.prog K s0 v1 h).mpr H)
/-! F69: strings.makeASCIISet -/
/-! F70: strings.trimLeftASCII -/
noncomputable def c70z4 : ICode := .seq (.seq (.ops none [⟨(some 5), .p (.mv (.tmp 0))⟩,
 ⟨(some 6), .p (.lenS (.tmp 5))⟩,
 ⟨(some 7), .p (.bin .gtr (.tmp 6) (.const (.int .i64 (0))))⟩])
 (.cond (.tmp 7) (.skip)
 (.exit 0)))
 (.block 1 (.seq (.seq (.ops none [⟨(some 8), .p (.mv (.tmp 1))⟩,
 ⟨(some 9), .p (.mv (.tmp 0))⟩,
 ⟨(some 10), .p (.idxS (.tmp 9) (.const (.int .i64 (0))))⟩,
 ⟨(some 11), .call 87 [(.tmp 8), (.tmp 10)]⟩,
 ⟨(some 12), .p (.un .not (.tmp 11))⟩])
 (.cond (.tmp 12) (.exit 0)
 (.skip)))
 (.ops none [⟨(some 13), .p (.mv (.tmp 0))⟩,
 ⟨(some 14), .p (.slS (.tmp 13) (some (.const (.int .i64 (1)))) none)⟩,
 ⟨(some 0), .p (.mv (.tmp 14))⟩])))
noncomputable def c70z10 : ICode := .seq (.ops none [⟨(some 15), .p (.mv (.tmp 0))⟩,
 ⟨(some 4), .p (.mv (.tmp 15))⟩])
 (.ret)
noncomputable def c70z2 : ICode := .cut [0] c70z10
noncomputable def c70 : ICode := .seq (.ops none [⟨(some 4), .p (.mv (.const (.string ⟨#[]⟩)))⟩])
 (.seq (.block 0 (.loop [1] [0] c70z4)) c70z2)
theorem k70 : compFn Tryd.prog 70 [[], [1], [0], [], [], [], [], [0], []] = some (16, c70, [.tmp 4]) := by kernel_rfl
def K70z0 (_P : Program) (K : VK) : Kont := bodyP [.tmp 4] K
def K70z2 : Kont := thenK (iwpP P c70z2 (K70z0 P K)) (K70z0 P K)
def K70z3 : Kont := inBlockK 0 (K70z2 P K)
def K70z4 (as1 : Value) (L1 : LK) : Kont := thenK (fun f' h'' => (([1] : List Nat).map f' : List Value) = [as1] ∧ L1 (([0] : List Nat).map f') h'') (K70z3 P K)
def p70z4 (as1 : Value) (L1 : LK) (xs : List Value) (h : Heap) : Prop := CutP (iwpP P c70z4 (K70z4 P K as1 L1)) ([1] ++ [0]) ([as1] ++ xs) h
def p70z10 (s0 : Value) (h : Heap) : Prop := CutP (iwpP P c70z10 (K70z0 P K)) [0] [s0] h
theorem q70z4 (as1 : Value) (L1 : LK) (s0 : Value) (h : Heap) : p70z4 P K as1 L1 [s0] h =
 (OP (iLenS s0) fun x6 =>
 OP (iBin .gtr x6 (.int .i64 (0))) fun x7 =>
 IfP x7
 (OP (iIdxS s0 (.int .i64 (0))) fun x10 =>
 CallP P 87 [as1, x10] h fun x11 h_1 =>
 OP (iUn .not x11) fun x12 =>
 IfP x12
 (p70z10 P K s0 h_1)
 (OP (iSlS s0 (some (.int .i64 (1))) none) fun x14 =>
 ([as1] : List Value) = [as1] ∧ L1 [x14] h_1))
 (p70z10 P K s0 h)) := (CutP_def _ _ _ _).trans (by kernel_rfl)
theorem q70z10 (s0 : Value) (h : Heap) : p70z10 P K s0 h =
 (K s0 h) := (CutP_def _ _ _ _).trans (by kernel_rfl)
def T70 (s0 as1 : Value) (h : Heap) : Prop :=
 LoopP [s0] h fun L1 xs hx =>
 p70z4 P K as1 L1 xs hx
theorem e70 (s0 as1 : Value) (h : Heap) : iwpP P c70 (bodyP [.tmp 4] K) (frame0 [s0, as1]) h = T70 P K s0 as1 h := by kernel_rfl
theorem f70 {K : VK} {s0 as1 : Value} {h : Heap} (H : T70 Tryd.prog K s0 as1 h) : CallP Tryd.prog 70 [s0, as1] h K :=
 callP_intro k70 (Nat.le_of_ble_eq_true rfl) ((e70 Tryd.prog K s0 as1 h).mpr H)
/-! F71: strings.trimRightASCII -/
noncomputable def c71z4 : ICode := .seq (.seq (.ops none [⟨(some 5), .p (.mv (.tmp 0))⟩,
 ⟨(some 6), .p (.lenS (.tmp 5))⟩,
 ⟨(some 7), .p (.bin .gtr (.tmp 6) (.const (.int .i64 (0))))⟩])
 (.cond (.tmp 7) (.skip)
 (.exit 0)))
 (.block 1 (.seq (.seq (.ops none [⟨(some 8), .p (.mv (.tmp 1))⟩,
 ⟨(some 9), .p (.mv (.tmp 0))⟩,
 ⟨(some 10), .p (.mv (.tmp 0))⟩,
 ⟨(some 11), .p (.lenS (.tmp 10))⟩,
 ⟨(some 12), .p (.bin .sub (.tmp 11) (.const (.int .i64 (1))))⟩,
 ⟨(some 13), .p (.idxS (.tmp 9) (.tmp 12))⟩,
 ⟨(some 14), .call 87 [(.tmp 8), (.tmp 13)]⟩,
 ⟨(some 15), .p (.un .not (.tmp 14))⟩])
 (.cond (.tmp 15) (.exit 0)
 (.skip)))
 (.ops none [⟨(some 16), .p (.mv (.tmp 0))⟩,
 ⟨(some 17), .p (.mv (.tmp 0))⟩,
 ⟨(some 18), .p (.lenS (.tmp 17))⟩,
 ⟨(some 19), .p (.bin .sub (.tmp 18) (.const (.int .i64 (1))))⟩,
 ⟨(some 20), .p (.slS (.tmp 16) none (some (.tmp 19)))⟩,
 ⟨(some 0), .p (.mv (.tmp 20))⟩])))
noncomputable def c71z10 : ICode := .seq (.ops none [⟨(some 21), .p (.mv (.tmp 0))⟩,
 ⟨(some 4), .p (.mv (.tmp 21))⟩])
 (.ret)
noncomputable def c71z2 : ICode := .cut [0] c71z10
noncomputable def c71 : ICode := .seq (.ops none [⟨(some 4), .p (.mv (.const (.string ⟨#[]⟩)))⟩])
 (.seq (.block 0 (.loop [1] [0] c71z4)) c71z2)
theorem k71 : compFn Tryd.prog 71 [[], [1], [0], [], [], [], [], [0], []] = some (22, c71, [.tmp 4]) := by kernel_rfl
def K71z0 (_P : Program) (K : VK) : Kont := bodyP [.tmp 4] K
def K71z2 : Kont := thenK (iwpP P c71z2 (K71z0 P K)) (K71z0 P K)
def K71z3 : Kont := inBlockK 0 (K71z2 P K)
def K71z4 (as1 : Value) (L1 : LK) : Kont := thenK (fun f' h'' => (([1] : List Nat).map f' : List Value) = [as1] ∧ L1 (([0] : List Nat).map f') h'') (K71z3 P K)
def p71z4 (as1 : Value) (L1 : LK) (xs : List Value) (h : Heap) : Prop := CutP (iwpP P c71z4 (K71z4 P K as1 L1)) ([1] ++ [0]) ([as1] ++ xs) h
def p71z10 (s0 : Value) (h : Heap) : Prop := CutP (iwpP P c71z10 (K71z0 P K)) [0] [s0] h
theorem q71z4 (as1 : Value) (L1 : LK) (s0 : Value) (h : Heap) : p71z4 P K as1 L1 [s0] h =
 (OP (iLenS s0) fun x6 =>
 OP (iBin .gtr x6 (.int .i64 (0))) fun x7 =>
 IfP x7
 (OP (iLenS s0) fun x11 =>
 OP (iBin .sub x11 (.int .i64 (1))) fun x12 =>
 OP (iIdxS s0 x12) fun x13 =>
 CallP P 87 [as1, x13] h fun x14 h_1 =>
 OP (iUn .not x14) fun x15 =>
 IfP x15
 (p71z10 P K s0 h_1)
 (OP (iLenS s0) fun x18 =>
 OP (iBin .sub x18 (.int .i64 (1))) fun x19 =>
 OP (iSlS s0 none (some x19)) fun x20 =>
 ([as1] : List Value) = [as1] ∧ L1 [x20] h_1))
 (p71z10 P K s0 h)) := (CutP_def _ _ _ _).trans (by kernel_rfl)
theorem q71z10 (s0 : Value) (h : Heap) : p71z10 P K s0 h =
 (K s0 h) := (CutP_def _ _ _ _).trans (by kernel_rfl)
def T71 (s0 as1 : Value) (h : Heap) : Prop :=
 LoopP [s0] h fun L1 xs hx =>
 p71z4 P K as1 L1 xs hx
theorem e71 (s0 as1 : Value) (h : Heap) : iwpP P c71 (bodyP [.tmp 4] K) (frame0 [s0, as1]) h = T71 P K s0 as1 h := by kernel_rfl
theorem f71 {K : VK} {s0 as1 : Value} {h : Heap} (H : T71 Tryd.prog K s0 as1 h) : CallP Tryd.prog 71 [s0, as1] h K :=
 callP_intro k71 (Nat.le_of_ble_eq_true rfl) ((e71 Tryd.prog K s0 as1 h).mpr H)
/-! F87: (*strings.asciiSet).contains -/
noncomputable def c87 : ICode := .seq (.ops none [⟨(some 4), .p (.mv (.const (.bool false)))⟩])
 (.seq (.ops none [⟨(some 5), .p (.mv (.tmp 0))⟩,
 ⟨(some 6), .p (.mv (.tmp 1))⟩,
 ⟨(some 7), .p (.nilck (.tmp 5))⟩,
 ⟨(some 8), .p (.adrArr 256 1 (.tmp 7) (.tmp 6))⟩,
 ⟨(some 9), .l (.load false 1 (.tmp 8))⟩,
 ⟨(some 4), .p (.mv (.tmp 9))⟩])
 (.ret))
theorem k87 : compFn Tryd.prog 87 [[], []] = some (10, c87, [.tmp 4]) := by kernel_rfl
def T87 (P : Program) (K : VK) (as0 c1 : Value) (h : Heap) : Prop :=
 OP (iNilck as0) fun x7 =>
 OP (iAdrArr 256 1 x7 c1) fun x8 =>
 OP (iLoad false 1 h x8) fun x9 =>
 K x9 h
theorem e87 (as0 c1 : Value) (h : Heap) : iwpP P c87 (bodyP [.tmp 4] K) (frame0 [as0, c1]) h = T87 P K as0 c1 h := by kernel_rfl
theorem f87 {K : VK} {as0 c1 : Value} {h : Heap} (H : T87 Tryd.prog K as0 c1 h) : CallP Tryd.prog 87 [as0, c1] h K :=
 callP_intro k87 (Nat.le_of_ble_eq_true rfl) ((e87 Tryd.prog K as0 c1 h).mpr H)
end Go.Proofs.YthplaillblmgfaaDoor

namespace Go.Proofs.YthplaillblmgfaaDoor
open Go.Sim

def isBit (c : UInt8) : Bool := c == 48 || c == 49
def bitsB (s : List UInt8) : Bool := s.all isBit

/-- The set of the two letters. -/
def asV : List Value := (List.range 256).map fun i => .bool (i == 48 || i == 49)

theorem asV_len : asV.length = 256 := by simp [asV]
theorem asV_get (c : UInt8) : asV[c.toNat]? = some (B (isBit c)) := by
  have h := c.toNat_lt
  unfold asV
  rw [List.getElem?_map, List.getElem?_range (by omega)]
  have e : (c.toNat == 48 || c.toNat == 49) = isBit c := by
    have e1 : (c.toNat == 48) = (c == 48) := by
      rw [Bool.eq_iff_iff, beq_iff_eq, beq_iff_eq, ← UInt8.toNat_inj]; rfl
    have e2 : (c.toNat == 49) = (c == 49) := by
      rw [Bool.eq_iff_iff, beq_iff_eq, beq_iff_eq, ← UInt8.toNat_inj]; rfl
    rw [e1, e2]; rfl
  simp only [Option.map_some, e]

theorem renL_const : ∀ vs : List Value, (∀ v ∈ vs, scal v = true) → RenL (vs.map fun v => fun _ : Nat => v)
  | [], _ => .nil
  | v :: vs, h => .cons (Ren.scal (h v (by simp))) (renL_const vs fun x hx => h x (by simp [hx]))

theorem setE : (evK Tryd.prog evH 1000 orcN 10 (.func 69) [S [48, 49]] []).map Prod.fst = some (.tuple #[.agg asV.toArray, .bool true]) := by kernel_rfl

theorem ren_agg (vs : List Value) (h : ∀ v ∈ vs, scal v = true) (hc : ∀ v ∈ vs, isCell v = true) : Ren fun _ => .agg vs.toArray := by
  have := Ren.agg (renL_const vs h) (fun j V hV => by
    obtain ⟨v, hv, rfl⟩ := List.mem_map.1 hV
    exact hc v hv)
  simpa [List.map_map, Function.comp_def] using this

theorem C69 {h : Heap} {K : Value → Heap → Prop} (hk : K (.tuple #[.agg asV.toArray, .bool true]) h) : CallP Tryd.prog 69 [S [48, 49]] h K := by
  obtain ⟨h', hc⟩ := evK_call evH 1000 10 orcN_sound setE
  have hs : ∀ v ∈ asV, scal v = true ∧ isCell v = true := by
    intro v hv
    obtain ⟨i, _, rfl⟩ := List.mem_map.1 hv
    exact ⟨rfl, rfl⟩
  exact callP_any (Ren.tuple (l := [fun _ => .agg asV.toArray, fun _ => .bool true]) (.cons (ren_agg _ (fun v hv => (hs v hv).1) fun v hv => (hs v hv).2) (.cons (Ren.scal rfl) .nil))) hc rfl hk

theorem C87 {i : Nat} {c : UInt8} {h : Heap} {K : Value → Heap → Prop} (hg : h[i]? = some (.arr 98 asV)) (hk : K (B (isBit c)) h) : CallP Tryd.prog 87 [pt i 0, cv c] h K := by
  refine f87 ?_
  have hlt := c.toNat_lt
  have a1 : iNilck (pt i 0) = some (pt i 0) := rfl
  have a2 : iAdrArr 256 1 (pt i 0) (cv c) = some (pt i c.toNat) := by
    have : (0 : Int) ≤ (c.toNat : Int) ∧ (c.toNat : Int) < 256 := by omega
    simp [iAdrArr, this]
  have a3 : iLoad false 1 h (pt i c.toNat) = some (B (isBit c)) := by simp [iLoad, objCells, hg, iPart, asV_get]
  simp only [T87, a1, a2, a3, OP_some]
  exact hk

def trimR (s : List UInt8) : List UInt8 := (s.reverse.dropWhile isBit).reverse

theorem trimR_snoc (s : List UInt8) (c : UInt8) : trimR (s ++ [c]) = if isBit c then trimR s else s ++ [c] := by
  simp only [trimR, List.reverse_append, List.reverse_cons, List.reverse_nil, List.nil_append, List.singleton_append, List.dropWhile_cons]
  split
  · rfl
  · simp

theorem C71 {i : Nat} {s0 : List UInt8} {h : Heap} {K : Value → Heap → Prop} (hl : s0.length < 4611686018427387904) (hg : h[i]? = some (.arr 98 asV)) (hk : K (S (trimR s0)) h) : CallP Tryd.prog 71 [S s0, pt i 0] h K := by
  refine f71 ?_
  unfold T71
  refine loopL (σ := List UInt8) (fun s => [S s]) (fun _ => h) (fun s => trimR s = trimR s0 ∧ s.length ≤ s0.length) (fun s => s.length) s0 rfl rfl ⟨rfl, Nat.le_refl _⟩ ?_
  rintro s ⟨hs, hsl⟩ L hL
  rw [q71z4]
  simp only [lenS_S, OP_some, bin_gtr, IfP_dec]
  refine ⟨fun hpos => ?_, fun hz => ?_⟩
  · obtain ⟨t, c, rfl⟩ : ∃ t c, s = t ++ [c] := ⟨s.dropLast, s.getLast (by rintro rfl; simp at hpos), (List.dropLast_concat_getLast _).symm⟩
    rw [List.length_append, List.length_singleton] at hsl
    have w : IntKind.wrap .i64 (((t ++ [c]).length : Int) - 1) = (t.length : Int) := by
      rw [List.length_append, List.length_singleton, wrap64 (by omega) (by omega)]; omega
    have ix : iIdxS (S (t ++ [c])) (I t.length) = some (cv c) := by
      have := idxS_S (a := t ++ [c]) (i := t.length) (by simp) .i64
      simpa using this
    have sx : iSlS (S (t ++ [c])) none (some (I t.length)) = some (S t) := by
      have := slS_hi (a := t ++ [c]) (n := t.length) (by simp) .i64
      simpa using this
    simp only [bin_sub, w, OP_some, ix]
    refine C87 hg ?_
    simp only [un_not, OP_some]
    rw [trimR_snoc] at hs
    cases hb : isBit c with
    | true =>
      rw [hb] at hs
      simp only [if_true] at hs
      simp only [Bool.not_true, IfP_false, lenS_S, bin_sub, w, OP_some, sx, true_and]
      exact hL t ⟨hs, by omega⟩ (by simp)
    | false =>
      rw [hb] at hs
      simp only [Bool.false_eq_true, if_false] at hs
      simp only [Bool.not_false, IfP_true]
      rw [q71z10, hs]
      exact hk
  · have : s = [] := by
      cases s with
      | nil => rfl
      | cons c s => simp at hz
    subst this
    rw [q71z10]
    have e : trimR s0 = [] := hs.symm
    rw [e] at hk
    exact hk

theorem C70 {i : Nat} {s0 : List UInt8} {h : Heap} {K : Value → Heap → Prop} (hg : h[i]? = some (.arr 98 asV)) (hk : K (S (s0.dropWhile isBit)) h) : CallP Tryd.prog 70 [S s0, pt i 0] h K := by
  refine f70 ?_
  unfold T70
  refine loopL (σ := List UInt8) (fun s => [S s]) (fun _ => h) (fun s => s.dropWhile isBit = s0.dropWhile isBit) (fun s => s.length) s0 rfl rfl rfl ?_
  intro s hs L hL
  rw [q70z4]
  simp only [lenS_S, OP_some, bin_gtr, IfP_dec]
  refine ⟨fun hpos => ?_, fun hz => ?_⟩
  · cases s with
    | nil => simp at hpos
    | cons c t =>
      have ix : iIdxS (S (c :: t)) (.int .i64 (0)) = some (cv c) := by
        have := idxS_S (a := c :: t) (i := 0) (by simp) .i64
        simpa using this
      have sx : iSlS (S (c :: t)) (some (.int .i64 (1))) none = some (S t) := by
        have := slS_lo (a := c :: t) (n := 1) (by simp) .i64
        simpa using this
      simp only [ix, OP_some]
      refine C87 hg ?_
      simp only [un_not, OP_some]
      cases hb : isBit c with
      | true =>
        simp only [Bool.not_true, IfP_false, sx, OP_some, true_and]
        refine hL t ?_ (by simp)
        rw [List.dropWhile_cons, if_pos hb] at hs
        exact hs
      | false =>
        simp only [Bool.not_false, IfP_true]
        rw [List.dropWhile_cons, if_neg (by rw [hb]; simp)] at hs
        rw [q70z10, hs]
        exact hk
  · have : s = [] := by
      cases s with
      | nil => rfl
      | cons c s => simp at hz
    subst this
    rw [q70z10]
    rw [← hs] at hk
    exact hk

theorem trim_nil {s : List UInt8} : (trimR s).dropWhile isBit = [] ↔ bitsB s = true := by
  have dw : ∀ l : List UInt8, l.dropWhile isBit = [] ↔ l.all isBit = true := by
    intro l
    induction l with
    | nil => simp
    | cons c l ih =>
      rw [List.dropWhile_cons]
      cases hb : isBit c <;> simp [hb, ih]
  have mem : ∀ l : List UInt8, (∀ c ∈ l.dropWhile isBit, isBit c = true) → l.dropWhile isBit = [] := by
    intro l h
    induction l with
    | nil => rfl
    | cons c l ih =>
      rw [List.dropWhile_cons] at h ⊢
      split
      · rename_i hb; rw [if_pos hb] at h; exact ih h
      · rename_i hb; rw [if_neg hb] at h; exact absurd (h c (by simp)) hb
  rw [dw, List.all_eq_true]
  unfold trimR bitsB
  constructor
  · intro h
    have : s.reverse.dropWhile isBit = [] := mem _ fun c hc => h c (by simpa using hc)
    rw [dw] at this
    simpa using this
  · intro h c hc
    have : s.reverse.dropWhile isBit = [] := (dw _).2 (by simpa using h)
    rw [this] at hc
    simp at hc

theorem iAlloc_eq (e : TypeId) (zs : List Value) (h : Heap) : iAlloc e zs h = some (pt h.length 0, h ++ [.arr e zs]) := rfl

theorem store_all {g : Heap} {i : Nat} {e : TypeId} {zs vs : List Value} (hg : g[i]? = some (.arr e zs)) (h1 : zs.length = 256) (h2 : vs.length = 256) : oStore 256 g (pt i 0) (.agg vs.toArray) = some (undef, g.set i (.arr e vs)) := by
  have hv : vcells (.agg vs.toArray) = vs := by simp [vcells, Value.cells]
  have : setAt zs 0 vs = vs := by simp [setAt, h1, h2]
  simp only [oStore, iStore, hg, hv, this]
  rw [if_pos ⟨rfl, h2, by omega⟩]
  rfl

/-- Whether a text has the two letters alone. -/
theorem C51 {s : List UInt8} {h : Heap} {K : Value → Heap → Prop} (hl : s.length < 4611686018427387904) (hk : ∀ h', EX h h' → K (B (bitsB s)) h') : CallP Tryd.prog 51 [S s] h K := by
  refine f51 (f58 ?_)
  have e1 : ∀ s : List UInt8, iBin .eql (S s) (.string ⟨#[]⟩) = some (B (decide (s = []))) := fun s => by show iBin .eql (S s) (S []) = _; rw [bin_eqlS]
  have e2 : iBin .eql (.string ⟨#[48, 49]⟩) (.string ⟨#[]⟩) = some (B false) := rfl
  have e3 : iLenS (.string ⟨#[48, 49]⟩) = some (I 2) := rfl
  simp only [T58, e1, OP_some]
  rw [q58z5]
  by_cases hs : s = []
  · subst hs
    simp only [decide_true, GdP_tf, q58z7, iPick_t, OP_some, IfP_true, e1]
    exact hk h (EX.refl _)
  simp only [decide_eq_false hs, GdP_ff, e2, OP_some]
  rw [q58z7]
  simp only [iPick_f, OP_some, IfP_false, e3, bin_eql, decide_eq_false (show ¬ (2 : Int) = 1 by decide)]
  rw [q58z12]
  simp only [GdP_ft]
  rw [q58z14]
  have x0 : ∀ zs, EX h ((h ++ [IObj.arr 98 zs]).set h.length (.arr 98 asV)) := fun zs => (EX.append _ _).set (Nat.le_refl _) _
  have k0 : ∀ zs, ((h ++ [IObj.arr 98 zs]).set h.length (.arr 98 asV))[h.length]? = some (.arr 98 asV) := fun zs => List.getElem?_set_self (by simp)
  have x1 : iExt 0 (.tuple #[.agg asV.toArray, .bool true]) = some (.agg asV.toArray) := rfl
  have x2 : iExt 1 (.tuple #[.agg asV.toArray, .bool true]) = some (.bool true) := rfl
  refine OP_of (iPick_f _ _) (IfP_false.2 (C69 (OP_of x1 (OP_of x2 (OH_of (iAlloc_eq _ _ _) (OH_of (store_all get_last (by kernel_rfl) asV_len) (IfP_true.2 ?_)))))))
  have this : decide ((trimR s).dropWhile isBit = []) = bitsB s := by
    rw [Bool.eq_iff_iff, decide_eq_true_eq, trim_nil]
  rw [← this] at hk
  exact C71 hl (k0 _) (C70 (k0 _) (OP_of (e1 _) (hk _ (x0 _))))

end Go.Proofs.YthplaillblmgfaaDoor


namespace Go.Proofs.YthplaillblmgfaaDoor
open Go.Sim

theorem C53 {s p : List UInt8} {h : Heap} {K : Value → Heap → Prop} (hk : K (B (decide (p <+: s))) h) : CallP Tryd.prog 53 [S s, S p] h K := by
  refine f53 ?_
  unfold T53
  simp only [lenS_S, OP_some, bin_geq]
  rw [q53z4]
  by_cases hl : p.length ≤ s.length
  · rw [decide_eq_true (show (p.length : Int) ≤ s.length by omega)]
    simp only [GdP_tt, lenS_S, OP_some, slS_hi (a := s) hl .i64, bin_eqlS]
    rw [q53z6]
    simp only [iPick_t, OP_some]
    have : decide (s.take p.length = p) = decide (p <+: s) := decide_eq_decide.2 (by rw [List.prefix_iff_eq_take]; exact eq_comm)
    rw [this]
    exact hk
  · rw [decide_eq_false (show ¬ (p.length : Int) ≤ s.length by omega)]
    simp only [GdP_ft, OP_some]
    rw [q53z6]
    simp only [iPick_f, OP_some]
    have : decide (p <+: s) = false := decide_eq_false fun h => hl h.length_le
    rw [this] at hk
    exact hk

theorem C37 {s p : List UInt8} {h : Heap} {K : Value → Heap → Prop} (hk : K (B (decide (p <+: s))) h) : CallP Tryd.prog 37 [S s, S p] h K :=
  f37 (C53 hk)

/-- The number that a text of two letters is, a 1 ahead. -/
def rk (t : List UInt8) : Nat := t.foldl (fun n c => 2 * n + (if c = 49 then 1 else 0)) 1

theorem revInd {α : Type} {P : List α → Prop} (h0 : P []) (h1 : ∀ t c, P t → P (t ++ [c])) (l : List α) : P l := by
  have : ∀ n (l : List α), l.length = n → P l := by
    intro n
    induction n with
    | zero => intro l hl; rw [List.length_eq_zero_iff.1 hl]; exact h0
    | succ n ih =>
      intro l hl
      have hn : l ≠ [] := by rintro rfl; simp at hl
      rw [← List.dropLast_concat_getLast hn]
      exact h1 _ _ (ih _ (by rw [List.length_dropLast]; omega))
  exact this _ l rfl

theorem rk_snoc (t : List UInt8) (c : UInt8) : rk (t ++ [c]) = 2 * rk t + (if c = 49 then 1 else 0) := by simp [rk, List.foldl_append]

theorem rk_app_le {a b : List UInt8} (h : rk a ≤ rk b) (r : List UInt8) : rk (a ++ r) ≤ rk (b ++ r) := by
  refine revInd (P := fun r => rk (a ++ r) ≤ rk (b ++ r)) (by simpa using h) (fun r c ih => ?_) r
  rw [← List.append_assoc, ← List.append_assoc, rk_snoc, rk_snoc]; split <;> omega

theorem rk_bounds (t : List UInt8) : 2 ^ t.length ≤ rk t ∧ rk t < 2 ^ (t.length + 1) := by
  refine revInd (P := fun t => 2 ^ t.length ≤ rk t ∧ rk t < 2 ^ (t.length + 1)) (by simp [rk]) (fun t c ih => ?_) t
  rw [rk_snoc, List.length_append, List.length_singleton, Nat.pow_succ, Nat.pow_succ 2 (t.length + 1)]
  split <;> omega

theorem rk_len {a b : List UInt8} (h : rk a ≤ rk b) : a.length ≤ b.length := by
  have h1 := (rk_bounds a).1
  have h2 := (rk_bounds b).2
  have : 2 ^ a.length < 2 ^ (b.length + 1) := by omega
  have := (Nat.pow_lt_pow_iff_right (by omega)).1 this
  omega

theorem isBit_or {c : UInt8} (h : isBit c = true) : c = 48 ∨ c = 49 := by
  simpa [isBit] using h

/-- Of two texts of one length the first in byte order is the less number. -/
def vl (n : Nat) (t : List UInt8) : Nat := t.foldl (fun n c => 2 * n + (if c = 49 then 1 else 0)) n

theorem vl_bounds : ∀ (t : List UInt8) (n : Nat), n * 2 ^ t.length ≤ vl n t ∧ vl n t < (n + 1) * 2 ^ t.length
  | [], n => by simp [vl]
  | c :: t, n => by
    have e1 : ∀ w : Nat, n * (w * 2) = (2 * n) * w := fun w => by rw [Nat.mul_comm w 2, ← Nat.mul_assoc, Nat.mul_comm n 2]
    have e2 : ∀ w : Nat, (n + 1) * (w * 2) = (2 * n + 2) * w := fun w => by rw [Nat.mul_comm w 2, ← Nat.mul_assoc, Nat.mul_comm _ 2, Nat.mul_add]
    rw [List.length_cons, Nat.pow_succ, e1, e2]
    have hv : vl n (c :: t) = vl (2 * n + (if c = 49 then 1 else 0)) t := rfl
    rw [hv]
    by_cases hc : c = 49
    · rw [if_pos hc]
      have := vl_bounds t (2 * n + 1)
      exact ⟨Nat.le_trans (Nat.mul_le_mul_right _ (by omega)) this.1, this.2⟩
    · rw [if_neg hc]
      have := vl_bounds t (2 * n + 0)
      exact ⟨this.1, Nat.lt_of_lt_of_le this.2 (Nat.mul_le_mul_right _ (by omega))⟩

theorem vl_lt : ∀ {a b : List UInt8} (n : Nat), a.length = b.length → bitsB a = true → bitsB b = true → (Op.bytesLess a b = decide (vl n a < vl n b))
  | [], [], n, _, _, _ => by simp [Op.bytesLess]
  | c :: a, d :: b, n, hl, ha, hb => by
    simp only [bitsB, List.all_cons, Bool.and_eq_true] at ha hb
    simp only [List.length_cons, Nat.add_right_cancel_iff] at hl
    have ih := vl_lt (2 * n) hl ha.2 hb.2
    have ih1 := vl_lt (2 * n + 1) hl ha.2 hb.2
    have b0 := vl_bounds a (2 * n)
    have b1 := vl_bounds b (2 * n + 1)
    have b2 := vl_bounds b (2 * n)
    have b3 := vl_bounds a (2 * n + 1)
    rw [hl] at b0 b3
    simp only [vl] at *
    rcases isBit_or ha.1 with rfl | rfl <;> rcases isBit_or hb.1 with rfl | rfl <;> simp [Op.bytesLess, vl] <;> first | exact ih | exact ih1 | omega

theorem rk_short {a b : List UInt8} (h : a.length < b.length) : rk a < rk b := by
  have h1 := (rk_bounds a).2
  have h2 := (rk_bounds b).1
  have := Nat.pow_le_pow_right (n := 2) (by omega) (show a.length + 1 ≤ b.length by omega)
  omega

theorem C36 {a b : List UInt8} {h : Heap} {K : Value → Heap → Prop} (ha : bitsB a = true) (hb : bitsB b = true) (la : a.length < 4611686018427387904) (lb : b.length < 4611686018427387904) (hk : K (B (decide (rk a < rk b))) h) : CallP Tryd.prog 36 [S a, S b] h K := by
  refine f36 ?_
  unfold T36
  have w : IntKind.wrap .i64 ((a.length : Int) - b.length) = (a.length : Int) - b.length := wrap64 (by omega) (by omega)
  simp only [lenS_S, OP_some, bin_sub, w, bin_neq]
  by_cases hl : a.length = b.length
  · rw [decide_eq_true (show (a.length : Int) - b.length = 0 by omega)]
    have e : iBin .lss (S a) (S b) = some (B (Op.bytesLess a b)) := by simp [iBin, iStr, S]
    simp only [Bool.not_true, IfP_false, e, OP_some]
    rw [vl_lt 1 hl ha hb]
    exact hk
  · rw [decide_eq_false (show ¬ (a.length : Int) - b.length = 0 by omega)]
    simp only [Bool.not_false, IfP_true, bin_lss, OP_some]
    have : decide ((a.length : Int) - b.length < 0) = decide (rk a < rk b) := by
      refine decide_eq_decide.2 ⟨fun h => rk_short (by omega), fun h => ?_⟩
      have := rk_len (Nat.le_of_lt h)
      omega
    rw [this]
    exact hk

theorem C52 {v : Value} {ls : List (List UInt8)} {w : List UInt8} {h : Heap} {K : Value → Heap → Prop} (hv : SS h v ls) (hl : ls.length < 4611686018427387904) (hk : K (B (decide (w ∈ ls))) h) : CallP Tryd.prog 52 [v, S w] h K := by
  refine f52 (f59 ?_)
  unfold T59
  simp only [hv.len, OP_some]
  refine loopL (σ := Nat) (fun i => [I i]) (fun _ => h) (fun i => i ≤ ls.length ∧ ∀ j (hj : j < ls.length), j < i → ls[j] ≠ w) (fun i => ls.length - i) 0 rfl rfl ⟨Nat.zero_le _, fun j _ hj => absurd hj (by omega)⟩ ?_
  rintro i ⟨hi, hno⟩ L hL
  rw [q59z5]
  simp only [bin_lss, OP_some, IfP_dec]
  refine ⟨fun hlt => ?_, fun hge => ?_⟩
  · have hlt : i < ls.length := by omega
    obtain ⟨b, o, e1, e2⟩ := hv.get i hlt
    simp only [e1, e2, OP_some, bin_eqlS, IfP_dec, bin_geq, bin_add]
    refine ⟨fun he => ?_, fun hne => ⟨trivial, ?_⟩⟩
    · rw [decide_eq_true (show w ∈ ls from he ▸ List.getElem_mem hlt)] at hk
      rw [decide_eq_true (show (0 : Int) ≤ i by omega)]
      exact hk
    · rw [incM i (by simp [maxLen]; omega)]
      refine hL (i + 1) ⟨hlt, fun j hj hji => ?_⟩ (by omega)
      rcases Nat.lt_succ_iff_lt_or_eq.1 hji with h' | h'
      · exact hno j hj h'
      · subst h'; exact fun h => hne h.symm
  · have : w ∉ ls := by
      intro hw
      obtain ⟨j, hj, e⟩ := List.getElem_of_mem hw
      exact hno j hj (by omega) e
    rw [decide_eq_false this] at hk
    simp only [bin_geq, OP_some]
    exact hk

/-- Why texts are no code. -/
def codeOk (ls : List (List UInt8)) : Prop := ls.Nodup ∧ ∀ w ∈ ls, w ≠ [] ∧ w.length ≤ 10 ∧ bitsB w = true
open Classical in
noncomputable def chkE (ls : List (List UInt8)) (s : List UInt8) : Int := if 12 < ls.length ∨ 200 < s.length then 3 else if ls = [] ∨ bitsB s = false then 2 else if codeOk ls then 0 else 2

theorem own_part9 {b : Nat} {g : Heap} {v : Value} {ls : List (List UInt8)} (own : OwnS b g 9 v (ls.map S)) {k : Nat} (hk : k ≤ ls.length) : ∃ u, iSlSl 9 1 v none (some (I k)) = some u ∧ SS g u (ls.take k) := by
  rcases own with ⟨rfl, e⟩ | ⟨i, _, rfl, hg⟩
  · have : ls = [] := by simpa using e
    subst this
    have : k = 0 := by simpa using hk
    subst this
    exact ⟨.slice none 0 0, rfl, ⟨rfl, fun k hk => by simp at hk⟩⟩
  · rw [List.length_map]
    refine ⟨sl 9 i 0 k, slSl_hi hk, ⟨by simp [iLenSl, sl, lenOfSl, Nat.min_eq_left hk], fun j hj => ⟨i, j, ?_, ?_⟩⟩⟩
    · rw [List.length_take] at hj
      exact adr_sl (by omega)
    · rw [List.length_take] at hj
      have : (ls.take k)[j]'(by rw [List.length_take]; exact hj) = ls[j]'(by omega) := List.getElem_take
      rw [this]
      have hj' : j < ls.length := by omega
      simp [iLoad, objCells, hg, iPart, hj']

theorem own_ss {b : Nat} {g : Heap} {v : Value} {ls : List (List UInt8)} (own : OwnS b g 9 v (ls.map S)) : SS g v ls := by
  rcases own with ⟨rfl, e⟩ | ⟨i, _, rfl, hg⟩
  · have : ls = [] := by simpa using e
    subst this
    exact ⟨rfl, fun k hk => by simp at hk⟩
  · rw [List.length_map]
    exact SS.sl (by simp [objCells, hg])

theorem own9 {b : Nat} {g g' : Heap} {v : Value} {xs : List Value} (x : EX g g') (o : OwnS b g 9 v xs) : OwnS b g' 9 v xs := o.keep fun d _ hv _ => x.2 d (o.lt hv).2.1

theorem C34 {b : Nat} {v : Value} {ls : List (List UInt8)} {s : List UInt8} {h : Heap} {K : Value → Heap → Prop} (hv : OwnS b h 9 v (ls.map S)) (hl : ls.length < 1000000) (hw : ∀ w ∈ ls, w.length < 4611686018427387904) (hs : s.length < 4611686018427387904) (hk : ∀ h', EX h h' → K (I (chkE ls s)) h') : CallP Tryd.prog 34 [v, S s] h K := by
  refine f34 ?_
  unfold T34
  simp only [(own_ss hv).len, OP_some, bin_gtr]
  have e1 : ∀ s : List UInt8, iBin .eql (S s) (.string ⟨#[]⟩) = some (B (decide (s = []))) := fun s => by show iBin .eql (S s) (S []) = _; rw [bin_eqlS]
  rw [q34z6]
  have long : (12 < ls.length ∨ 200 < s.length) → K (I 3) h := fun hc => by
    have := hk h (EX.refl h)
    rwa [chkE, if_pos hc] at this
  by_cases h1 : 12 < ls.length
  · rw [decide_eq_true (show (12 : Int) < ls.length by omega)]
    simp only [GdP_tf, q34z8, iPick_t, OP_some, IfP_true]
    exact long (.inl h1)
  rw [decide_eq_false (show ¬ (12 : Int) < ls.length by omega)]
  simp only [GdP_ff, lenS_S, bin_gtr, OP_some, q34z8, iPick_f]
  by_cases h2 : 200 < s.length
  · rw [decide_eq_true (show (200 : Int) < s.length by omega)]
    simp only [IfP_true]
    exact long (.inr h2)
  rw [decide_eq_false (show ¬ (200 : Int) < s.length by omega)]
  simp only [IfP_false, (own_ss hv).len, OP_some, bin_eql]
  rw [q34z12]
  have bad : ∀ g, EX h g → (ls = [] ∨ bitsB s = false) → K (I 2) g := fun g xg hc => by
    have := hk g xg
    rwa [chkE, if_neg (by omega), if_pos hc] at this
  by_cases h3 : ls = []
  · rw [decide_eq_true (show (ls.length : Int) = 0 by simp [h3])]
    simp only [GdP_tf, q34z14, iPick_t, OP_some, IfP_true]
    exact bad _ (EX.refl h) (.inl h3)
  rw [decide_eq_false (show ¬ (ls.length : Int) = 0 by have := List.length_pos_iff.2 h3; omega)]
  simp only [GdP_ff]
  refine C51 hs ?_
  intro h4 x4
  simp only [un_not, OP_some, q34z14, iPick_f]
  cases hb : bitsB s with
  | false =>
    simp only [Bool.not_false, IfP_true]
    exact bad _ x4 (.inr hb)
  | true =>
    simp only [Bool.not_true, IfP_false, (own_ss hv).len, OP_some]
    have fin0 : ∀ g, EX h g → codeOk ls → K (I 0) g := fun g xg hc => by
      have := hk g xg
      rwa [chkE, if_neg (by omega), if_neg (by simp [h3, hb]), if_pos hc] at this
    have fin2 : ∀ g, EX h g → ¬ codeOk ls → K (I 2) g := fun g xg hc => by
      have := hk g xg
      rwa [chkE, if_neg (by omega), if_neg (by simp [h3, hb]), if_neg hc] at this
    refine loopL (σ := Nat × Heap) (fun q => [I q.1]) (fun q => q.2) (fun q => q.1 ≤ ls.length ∧ EX h q.2 ∧ ∀ j (hj : j < ls.length), j < q.1 → (ls[j] ≠ [] ∧ ls[j].length ≤ 10 ∧ bitsB ls[j] = true) ∧ ls[j] ∉ ls.take j) (fun q => ls.length - q.1) (0, h4) rfl rfl ⟨Nat.zero_le _, x4, fun j _ hj => absurd hj (Nat.not_lt_zero _)⟩ ?_
    rintro ⟨i, g⟩ ⟨hi, xg, hok⟩ L hL
    simp only at hi xg hok hL ⊢
    rw [q34z19]
    simp only [bin_lss, OP_some, IfP_dec]
    refine ⟨fun hlt => ?_, fun hge => ?_⟩
    · have hlt : i < ls.length := by omega
      obtain ⟨b, o, a1, a2⟩ := ((own_ss hv).mono xg).get i hlt
      have mem : ls[i] ∈ ls := List.getElem_mem hlt
      have hwl := hw _ mem
      simp only [a1, a2, OP_some, e1]
      rw [q34z27]
      by_cases w1 : ls[i] = []
      · simp only [decide_eq_true w1, GdP_tf, q34z29, q34z31, q34z33, q34z35, q34z37, iPick_t, OP_some, IfP_true]
        exact fin2 _ xg fun hc => (hc.2 _ mem).1 w1
      simp only [decide_eq_false w1, GdP_ff, lenS_S, bin_gtr, OP_some, q34z29, iPick_f]
      rw [q34z31]
      by_cases w2 : 10 < ls[i].length
      · rw [decide_eq_true (show (10 : Int) < ls[i].length by omega)]
        simp only [GdP_tf, q34z33, q34z35, q34z37, iPick_t, OP_some, IfP_true]
        exact fin2 _ xg fun hc => by have := (hc.2 _ mem).2.1; omega
      rw [decide_eq_false (show ¬ (10 : Int) < ls[i].length by omega)]
      simp only [GdP_ff]
      refine C51 hwl ?_
      intro g2 x2
      simp only [un_not, OP_some, q34z33, iPick_f]
      rw [q34z35]
      cases w3 : bitsB ls[i] with
      | false =>
        simp only [Bool.not_false, GdP_tf, q34z37, iPick_t, OP_some, IfP_true]
        exact fin2 _ (xg.trans x2) fun hc => by rw [(hc.2 _ mem).2.2] at w3; simp at w3
      | true =>
        obtain ⟨u, s1, s2⟩ := own_part9 (own9 (xg.trans x2) hv) (Nat.le_of_lt hlt)
        simp only [Bool.not_true, GdP_ff, s1, OP_some]
        refine C52 s2 (by rw [List.length_take]; omega) ?_
        rw [q34z37]
        simp only [iPick_f, OP_some, IfP_dec, bin_add]
        refine ⟨fun hin => fin2 _ (xg.trans x2) fun hc => ?_, fun hni => ⟨trivial, ?_⟩⟩
        · obtain ⟨j, hj, e⟩ := List.getElem_of_mem hin
          rw [List.length_take] at hj
          rw [List.getElem_take] at e
          exact (List.pairwise_iff_getElem.1 hc.1) j i (by omega) hlt (by omega) e
        · rw [incM i (by simp [maxLen]; omega)]
          refine hL (i + 1, g2) ⟨hlt, xg.trans x2, fun j hj hji => ?_⟩ (by show ls.length - (i + 1) < ls.length - i; omega)
          have hji : j < i + 1 := hji
          rcases Nat.lt_succ_iff_lt_or_eq.1 hji with h' | h'
          · exact hok j hj h'
          · subst h'; exact ⟨⟨w1, by omega, w3⟩, hni⟩
    · refine fin0 _ xg ⟨List.pairwise_iff_getElem.2 fun a b ha hb hab e => ?_, fun w hw => ?_⟩
      · exact (hok b hb (by omega)).2 (e ▸ List.mem_take_iff_getElem.2 ⟨a, by omega, rfl⟩)
      · obtain ⟨j, hj, rfl⟩ := List.getElem_of_mem hw
        exact (hok j hj (by omega)).1

end Go.Proofs.YthplaillblmgfaaDoor


namespace Go.Proofs.YthplaillblmgfaaDoor
open Go.Sim

abbrev Tx := List UInt8

def posK (k : Tx) : List (Tx × Tx) → Option Nat
  | [] => none
  | p :: l => if k = p.1 then some 0 else (posK k l).map (· + 1)

def look (k : Tx) : List (Tx × Tx) → Option Tx
  | [] => none
  | p :: l => if k = p.1 then some p.2 else look k l

def put (k t : Tx) (l : List (Tx × Tx)) : List (Tx × Tx) := match posK k l with | some j => l.set j (k, t) | none => l ++ [(k, t)]

theorem posG_zip (k : Tx) : ∀ (l : List (Tx × Tx)) (n : Nat), posG (S k) ((l.zipIdx n).map fun p => (p.2, S p.1.1, S p.1.2)) = posK k l
  | [], _ => rfl
  | p :: l, n => by
    have e : gkEq (S k) (S p.1) = decide (k = p.1) := by simp [gkEq, S]
    rw [List.zipIdx_cons, List.map_cons, posG, posK, posG_zip k l (n + 1), e]
    simp only [decide_eq_true_eq]

theorem posK_look (k : Tx) : ∀ l : List (Tx × Tx), ((posK k l).bind fun j => l[j]?).map Prod.snd = look k l
  | [] => rfl
  | p :: l => by
    rw [posK, look]
    split
    · rfl
    · rw [← posK_look k l]
      cases posK k l <;> simp

theorem posK_none {k : Tx} : ∀ {l : List (Tx × Tx)}, posK k l = none ↔ look k l = none
  | [] => by simp [posK, look]
  | p :: l => by
    rw [posK, look]
    split
    · simp
    · rw [Option.map_eq_none_iff]; exact posK_none

theorem posK_get {k : Tx} : ∀ {l : List (Tx × Tx)} {j : Nat}, posK k l = some j → ∃ t, l[j]? = some (k, t)
  | p :: l, j, h => by
    rw [posK] at h
    split at h
    · rename_i he
      cases h
      exact ⟨p.2, by rw [he]; rfl⟩
    · obtain ⟨j', h1, rfl⟩ := Option.map_eq_some_iff.1 h
      obtain ⟨t, h2⟩ := posK_get h1
      exact ⟨t, by simpa using h2⟩

theorem tmap_get (l : List (Tx × Tx)) (j : Nat) : (tmap l)[j]? = (l[j]?).map fun p => (j, S p.1, S p.2) := by
  simp [tmap, List.getElem?_zipIdx, Option.map_map, Function.comp_def]

theorem findG_tmap (k : Tx) (l : List (Tx × Tx)) : findG (S k) (tmap l) = (look k l).map S := by
  have h1 : posG (S k) (tmap l) = posK k l := posG_zip k l 0
  unfold findG
  rw [h1, ← posK_look]
  cases posK k l with
  | none => rfl
  | some j =>
    simp only [Option.bind_some, tmap_get, Option.map_map]
    cases l[j]? <;> rfl

theorem setG_tmap (k t : Tx) (l : List (Tx × Tx)) : setG l.length (S k) (S t) (tmap l) = tmap (put k t l) := by
  have h1 : posG (S k) (tmap l) = posK k l := posG_zip k l 0
  unfold setG put
  rw [h1]
  cases hp : posK k l with
  | none =>
    simp only [tmap, List.zipIdx_append, List.map_append]
    simp
  | some j =>
    apply List.ext_getElem?
    intro i
    rw [tmap_get, List.getElem?_modify, tmap_get, List.getElem?_set]
    by_cases hij : j = i
    · subst hij
      obtain ⟨t', ht⟩ := posK_get hp
      have := (List.getElem?_eq_some_iff.1 ht).1
      simp [ht, this]
    · simp [hij]

theorem clkG_tmap (k t : Tx) (l : List (Tx × Tx)) : clkG l.length (S k) (tmap l) = (put k t l).length := by
  have h1 : posG (S k) (tmap l) = posK k l := posG_zip k l 0
  unfold clkG put
  rw [h1]
  cases posK k l <;> simp

theorem look_put (k t : Tx) : ∀ l : List (Tx × Tx), ∀ a, look a (put k t l) = if a = k then some t else look a l
  | [], a => by
    simp only [put, posK, List.nil_append, look]
  | p :: l, a => by
    have ih := look_put k t l a
    unfold put at ih ⊢
    rw [posK]
    by_cases hk : k = p.1
    · simp only [if_pos hk, List.set_cons_zero, look]
      by_cases ha : a = k
      · rw [if_pos ha, if_pos ha]
      · rw [if_neg ha, if_neg ha, if_neg (hk ▸ ha)]
    · rw [if_neg hk]
      cases hp : posK k l with
      | none =>
        rw [hp] at ih
        simp only [Option.map_none, List.cons_append, look] at ih ⊢
        rw [ih]
        by_cases ha : a = k
        · subst ha; simp [hk]
        · simp [ha]
      | some j =>
        rw [hp] at ih
        simp only [Option.map_some, List.set_cons_succ, look] at ih ⊢
        rw [ih]
        by_cases ha : a = k
        · subst ha; simp [hk]
        · simp [ha]

theorem keys_put {k t : Tx} {l : List (Tx × Tx)} : (put k t l).map Prod.fst = if look k l = none then l.map Prod.fst ++ [k] else l.map Prod.fst := by
  unfold put
  cases hp : posK k l with
  | none => rw [if_pos (posK_none.1 hp)]; simp
  | some j =>
    rw [if_neg fun h => by rw [posK_none.2 h] at hp; cases hp]
    obtain ⟨t', ht⟩ := posK_get hp
    obtain ⟨hj, e⟩ := List.getElem?_eq_some_iff.1 ht
    apply List.ext_getElem?
    intro i
    simp only [List.getElem?_map, List.getElem?_set]
    by_cases hij : j = i
    · subst hij; simp [hj, e]
    · simp [hij]

theorem look_mem {k t : Tx} : ∀ {l : List (Tx × Tx)}, look k l = some t → (k, t) ∈ l
  | p :: l, h => by
    rw [look] at h
    split at h
    · rename_i he
      cases h
      rw [he]; exact List.mem_cons_self
    · exact List.mem_cons_of_mem _ (look_mem h)

theorem mem_look {k : Tx} : ∀ {l : List (Tx × Tx)}, k ∈ l.map Prod.fst → ∃ t, look k l = some t
  | p :: l, h => by
    rw [look]
    by_cases he : k = p.1
    · exact ⟨_, if_pos he⟩
    · rw [if_neg he]
      rw [List.map_cons, List.mem_cons] at h
      exact mem_look (h.resolve_left he)

/-- Whether a text comes in, and the map then. -/
def bet (k t : Tx) (l : List (Tx × Tx)) : Bool := match look k l with | some o => decide (rk t < rk o) | none => true

theorem C35 {ic im : Nat} {l : List (Tx × Tx)} {k t : Tx} {g : Heap} {K : Value → Heap → Prop} (hc : g[ic]? = some (.arr 60 [.map (some im)])) (hm : g[im]? = some (.gmap .str l.length (tmap l)))
    (ht : bitsB t = true ∧ t.length < 4611686018427387904) (ho : ∀ o, look k l = some o → bitsB o = true ∧ o.length < 4611686018427387904)
    (hf : bet k t l = false → K (B false) g) (hk : bet k t l = true → K (B true) (g.set im (.gmap .str (put k t l).length (tmap (put k t l))))) : CallP Tryd.prog 35 [S k, S t, pt ic 0] g K := by
  refine f35 ?_
  unfold T35
  have e1 : iLoad false 1 g (pt ic 0) = some (.map (some im)) := by simp [iLoad, objCells, hc, iPart]
  have gk : ∀ s : Tx, gkIs .str (S s) = true := fun _ => rfl
  have e2 : iLookupG .str true (.string ⟨#[]⟩) g (.map (some im)) (S k) = some (.tuple #[((look k l).map S).getD (S []), B (look k l).isSome]) := by
    simp only [iLookupG, hm, gk, findG_tmap]
    cases look k l <;> rfl
  have upd : iMupdG .str g (.map (some im)) (S k) (S t) = some (g.set im (.gmap .str (put k t l).length (tmap (put k t l)))) := by
    simp only [iMupdG, hm, gk, setG_tmap, clkG_tmap k t]
    rfl
  simp only [e1, OP_some, e2, ext_tuple, pair0, pair1]
  rw [q35z6]
  cases hl : look k l with
  | none =>
    simp only [Option.isSome_none, GdP_ft, q35z8, iPick_f, OP_some, IfP_false, e1, oMupdG, upd, Option.map_some, OH_some]
    exact hk (by simp [bet, hl])
  | some o =>
    simp only [Option.isSome_some, GdP_tt, Option.map_some, Option.getD_some]
    refine C36 ht.1 (ho o hl).1 ht.2 (ho o hl).2 ?_
    have hb : bet k t l = decide (rk t < rk o) := by simp [bet, hl]
    simp only [un_not, OP_some, q35z8, iPick_t]
    rw [← hb]
    cases h : bet k t l with
    | false =>
      simp only [Bool.not_false, IfP_true]
      exact hf h
    | true =>
      simp only [Bool.not_true, IfP_false, e1, OP_some, oMupdG, upd, Option.map_some, OH_some]
      exact hk h

end Go.Proofs.YthplaillblmgfaaDoor


namespace Go.Proofs.YthplaillblmgfaaDoor
open Go.Sim

/-- A text that two readings share, one of them ahead by `a`. -/
inductive Rc (W : List Tx) : Tx → Tx → Prop
  | init {v w : Tx} : v ∈ W → w ∈ W → v ≠ w → v <+: w → Rc W (w.drop v.length) w
  | fwd {a t w : Tx} : Rc W a t → a ≠ [] → w ∈ W → a <+: w → Rc W (w.drop a.length) (t ++ w.drop a.length)
  | bwd {a t w : Tx} : Rc W a t → a ≠ [] → w ∈ W → w <+: a → Rc W (a.drop w.length) t

def sufs (W : List Tx) : List Tx := W.flatMap fun w => (List.range 11).map fun i => w.drop i

theorem sufs_len (W : List Tx) : (sufs W).length = 11 * W.length := by
  induction W with
  | nil => rfl
  | cons w W ih =>
    have : sufs (w :: W) = ((List.range 11).map fun i => w.drop i) ++ sufs W := by simp [sufs]
    rw [this, List.length_append, ih]
    simp; omega

theorem sufs_drop {W : List Tx} {w : Tx} (hw : w ∈ W) (hl : w.length ≤ 10) (n : Nat) : w.drop n ∈ sufs W := by
  rw [sufs, List.mem_flatMap]
  refine ⟨w, hw, List.mem_map.2 ⟨min n 10, List.mem_range.2 (by omega), ?_⟩⟩
  by_cases h : n ≤ 10
  · rw [Nat.min_eq_left h]
  · rw [Nat.min_eq_right (by omega), List.drop_eq_nil_of_le hl, List.drop_eq_nil_of_le (by omega)]

structure Ok (W : List Tx) : Prop where
  nd : W.Nodup
  ne : ∀ w ∈ W, w ≠ []
  le : ∀ w ∈ W, w.length ≤ 10
  bt : ∀ w ∈ W, bitsB w = true
  few : W.length ≤ 12

theorem bits_drop {w : Tx} (h : bitsB w = true) (n : Nat) : bitsB (w.drop n) = true := by
  simp only [bitsB, List.all_eq_true] at h ⊢
  exact fun x hx => h x (List.mem_of_mem_drop hx)
theorem bits_app {a b : Tx} (h : bitsB a = true) (k : bitsB b = true) : bitsB (a ++ b) = true := by
  simp only [bitsB, List.all_append, Bool.and_eq_true] at *
  exact ⟨h, k⟩

theorem Rc.key {W : List Tx} (ok : Ok W) {a t : Tx} (r : Rc W a t) : (∃ w ∈ W, ∃ n, a = w.drop n) ∧ bitsB t = true := by
  induction r with
  | init hv hw _ _ => exact ⟨⟨_, hw, _, rfl⟩, ok.bt _ hw⟩
  | fwd _ _ hw _ ih => exact ⟨⟨_, hw, _, rfl⟩, bits_app ih.2 (bits_drop (ok.bt _ hw) _)⟩
  | bwd _ _ hw _ ih =>
    obtain ⟨⟨w, h1, n, rfl⟩, h2⟩ := ih
    exact ⟨⟨w, h1, n + _, List.drop_drop ..⟩, h2⟩

theorem Rc.suf {W : List Tx} (ok : Ok W) {a t : Tx} (r : Rc W a t) : a ∈ sufs W := by
  obtain ⟨⟨w, hw, n, rfl⟩, _⟩ := r.key ok
  exact sufs_drop hw (ok.le _ hw) n

structure Good (W : List Tx) (l : List (Tx × Tx)) : Prop where
  nd : (l.map Prod.fst).Nodup
  rc : ∀ k t, look k l = some t → Rc W k t
  ln : ∀ k t, look k l = some t → t.length ≤ 10 * l.length

theorem nodup_leT : ∀ {l m : List Tx}, l.Nodup → (∀ a ∈ l, a ∈ m) → l.length ≤ m.length
  | [], _, _, _ => Nat.zero_le _
  | a :: l, m, hn, hm => by
    rw [List.nodup_cons] at hn
    have ha := hm a List.mem_cons_self
    have := nodup_leT (l := l) (m := m.erase a) hn.2 fun b hb => by
      refine (List.mem_erase_of_ne ?_).2 (hm b (List.mem_cons_of_mem _ hb))
      rintro rfl
      exact hn.1 hb
    rw [List.length_erase_of_mem ha] at this
    have := List.length_pos_of_mem ha
    rw [List.length_cons]; omega

theorem Good.few {W : List Tx} (ok : Ok W) {l : List (Tx × Tx)} (g : Good W l) : l.length ≤ 132 := by
  have h := nodup_leT g.nd (m := sufs W) fun k hk => by
    obtain ⟨t, ht⟩ := mem_look hk
    exact (g.rc k t ht).suf ok
  rw [List.length_map, sufs_len] at h
  have := ok.few
  omega

theorem Good.nil (W : List Tx) : Good W [] := ⟨List.nodup_nil, fun _ _ h => by simp [look] at h, fun _ _ h => by simp [look] at h⟩

theorem put_len {k t : Tx} {l : List (Tx × Tx)} : (put k t l).length = if look k l = none then l.length + 1 else l.length := by
  have := congrArg List.length (keys_put (k := k) (t := t) (l := l))
  rw [List.length_map] at this
  rw [this]
  split <;> simp

theorem good_put {W : List Tx} {k t : Tx} {l : List (Tx × Tx)} (g : Good W l) (r : Rc W k t) (hl : t.length ≤ 10 * l.length + 10) (hb : bet k t l = true) : Good W (put k t l) := by
  refine ⟨?_, fun a u h => ?_, fun a u h => ?_⟩
  · rw [keys_put]
    split
    · rename_i hn
      refine List.nodup_append.2 ⟨g.nd, by simp, fun a ha b hb' e => ?_⟩
      obtain ⟨u, hu⟩ := mem_look ha
      rw [List.mem_singleton.1 hb'] at e
      rw [e, hn] at hu
      cases hu
    · exact g.nd
  · rw [look_put] at h
    split at h
    · rename_i e
      cases h
      exact e ▸ r
    · exact g.rc a u h
  · rw [look_put] at h
    rw [put_len]
    split at h
    · cases h
      split
      · omega
      · rename_i hn
        cases ho : look k l with
        | none => exact absurd ho hn
        | some o =>
          simp only [bet, ho, decide_eq_true_eq] at hb
          have := rk_len (Nat.le_of_lt hb)
          have := g.ln k o ho
          omega
    · have := g.ln a u h
      split <;> omega

def Dn (l l' : List (Tx × Tx)) : Prop := ∀ k t, look k l = some t → ∃ t', look k l' = some t' ∧ rk t' ≤ rk t
theorem Dn.refl (l : List (Tx × Tx)) : Dn l l := fun _ t h => ⟨t, h, Nat.le_refl _⟩
theorem Dn.trans {a b c : List (Tx × Tx)} (x : Dn a b) (y : Dn b c) : Dn a c := fun k t h => by
  obtain ⟨t1, h1, e1⟩ := x k t h
  obtain ⟨t2, h2, e2⟩ := y k t1 h1
  exact ⟨t2, h2, Nat.le_trans e2 e1⟩
theorem Dn.put {k t : Tx} {l : List (Tx × Tx)} (hb : bet k t l = true) : Dn l (put k t l) := fun a u h => by
  rw [look_put]
  by_cases e : a = k
  · rw [if_pos e]
    subst e
    simp only [bet, h, decide_eq_true_eq] at hb
    exact ⟨t, rfl, Nat.le_of_lt hb⟩
  · rw [if_neg e]
    exact ⟨u, h, Nat.le_refl _⟩

def expo : Nat := 1400
def wt (l : List (Tx × Tx)) (k : Tx) : Nat := match look k l with | some t => rk t | none => 2 ^ expo
def mu (W : List Tx) (l : List (Tx × Tx)) : Nat := ((sufs W).map (wt l)).sum

theorem sum_lt {f g : Tx → Nat} : ∀ {m : List Tx}, (∀ k ∈ m, f k ≤ g k) → (∃ k ∈ m, f k < g k) → (m.map f).sum < (m.map g).sum
  | [], _, ⟨k, hk, _⟩ => by simp at hk
  | x :: m, h, ⟨k, hk, hlt⟩ => by
    have hx := h x List.mem_cons_self
    have hle : (m.map f).sum ≤ (m.map g).sum := by
      have : ∀ m : List Tx, (∀ k ∈ m, f k ≤ g k) → (m.map f).sum ≤ (m.map g).sum := by
        intro m
        induction m with
        | nil => intro _; exact Nat.le_refl _
        | cons y m ih =>
          intro h
          have := h y List.mem_cons_self
          have := ih fun k hk => h k (List.mem_cons_of_mem _ hk)
          simp only [List.map_cons, List.sum_cons]; omega
      exact this m fun k hk => h k (List.mem_cons_of_mem _ hk)
    simp only [List.map_cons, List.sum_cons]
    rcases List.mem_cons.1 hk with rfl | hk
    · omega
    · have := sum_lt (m := m) (fun k hk => h k (List.mem_cons_of_mem _ hk)) ⟨k, hk, hlt⟩
      omega

theorem mu_put {W : List Tx} (ok : Ok W) {k t : Tx} {l : List (Tx × Tx)} (g : Good W l) (r : Rc W k t) (hl : t.length ≤ 10 * l.length + 10) (hb : bet k t l = true) : mu W (put k t l) < mu W l := by
  have hf := g.few ok
  have big : rk t < 2 ^ expo := Nat.lt_of_lt_of_le (rk_bounds t).2 (Nat.pow_le_pow_right (by omega) (by show t.length + 1 ≤ 1400; omega))
  have key : wt (put k t l) k < wt l k := by
    unfold wt
    rw [look_put, if_pos rfl]
    cases ho : look k l with
    | none => exact big
    | some o => simpa [bet, ho] using hb
  refine sum_lt (fun a _ => ?_) ⟨k, r.suf ok, key⟩
  by_cases e : a = k
  · rw [e]; exact Nat.le_of_lt key
  · unfold wt; rw [look_put, if_neg e]; exact Nat.le_refl _

/-- What a pass has looked at brings nothing new. -/
def Clo (l : List (Tx × Tx)) (a w : Tx) : Prop := a ≠ [] → ∀ t, look a l = some t →
  (a <+: w → ∃ t', look (w.drop a.length) l = some t' ∧ rk t' ≤ rk (t ++ w.drop a.length)) ∧ (¬ a <+: w → w <+: a → ∃ t', look (a.drop w.length) l = some t' ∧ rk t' ≤ rk t)

def Ini (W : List Tx) (l : List (Tx × Tx)) : Prop := ∀ v ∈ W, ∀ w ∈ W, v ≠ w → v <+: w → ∃ t', look (w.drop v.length) l = some t' ∧ rk t' ≤ rk w
theorem Ini.dn {W : List Tx} {l l' : List (Tx × Tx)} (i : Ini W l) (d : Dn l l') : Ini W l' := fun v hv w hw h1 h2 => by
  obtain ⟨t, e1, e2⟩ := i v hv w hw h1 h2
  obtain ⟨t', f1, f2⟩ := d _ _ e1
  exact ⟨t', f1, Nat.le_trans f2 e2⟩

theorem least {W : List Tx} {l : List (Tx × Tx)} (hi : Ini W l) (hc : ∀ a t, look a l = some t → ∀ w ∈ W, Clo l a w) {a t : Tx} (r : Rc W a t) : ∃ t', look a l = some t' ∧ rk t' ≤ rk t := by
  induction r with
  | init hv hw h1 h2 => exact hi _ hv _ hw h1 h2
  | fwd _ hn hw hp ih =>
    obtain ⟨t', e1, e2⟩ := ih
    obtain ⟨u, f1, f2⟩ := (hc _ _ e1 _ hw hn _ e1).1 hp
    exact ⟨u, f1, Nat.le_trans f2 (rk_app_le e2 _)⟩
  | @bwd a t w _ hn hw hp ih =>
    obtain ⟨t', e1, e2⟩ := ih
    by_cases hq : a <+: w
    · have : a = w := hq.eq_of_length (Nat.le_antisymm hq.length_le hp.length_le)
      subst this
      obtain ⟨u, f1, f2⟩ := (hc _ _ e1 _ hw hn _ e1).1 hq
      rw [List.drop_length] at f1 f2 ⊢
      rw [List.append_nil] at f2
      exact ⟨u, f1, Nat.le_trans f2 e2⟩
    · obtain ⟨u, f1, f2⟩ := (hc _ _ e1 _ hw hn _ e1).2 hq hp
      exact ⟨u, f1, Nat.le_trans f2 e2⟩

end Go.Proofs.YthplaillblmgfaaDoor


namespace Go.Proofs.YthplaillblmgfaaDoor
open Go.Sim
variable (P : Program) (K : VK)
/-! F18: pommel/mark.Clear -/
noncomputable def c18z29 : ICode := .ops none [⟨(some 47), .p (.pick (.tmp 43) (.tmp 46) (.const (.bool false)))⟩]
noncomputable def c18z27 : ICode := .seq (.ops (some (43, true)) [⟨(some 44), .p (.mv (.tmp 10))⟩,
 ⟨(some 45), .p (.mv (.tmp 8))⟩,
 ⟨(some 46), .call 37 [(.tmp 44), (.tmp 45)]⟩])
 (.cut [0, 5, 6, 7, 8, 10, 26, 27, 28, 33, 34, 35, 43, 46] c18z29)
noncomputable def c18z25 : ICode := .cond (.tmp 47) (.ops none [⟨(some 48), .p (.mv (.tmp 6))⟩,
 ⟨(some 49), .p (.mv (.tmp 10))⟩,
 ⟨(some 50), .p (.mv (.tmp 8))⟩,
 ⟨(some 51), .p (.lenS (.tmp 50))⟩,
 ⟨(some 52), .p (.slS (.tmp 49) (some (.tmp 51)) none)⟩,
 ⟨(some 53), .p (.mv (.tmp 10))⟩,
 ⟨(some 54), .callv (.tmp 48) [(.tmp 52), (.tmp 53)]⟩])
 (.skip)
noncomputable def c18z30 : ICode := .ops none [⟨(some 55), .p (.bin .add (.tmp 35) (.const (.int .i64 (1))))⟩,
 ⟨(some 35), .p (.mv (.tmp 55))⟩]
noncomputable def c18z22 : ICode := .cut [0, 5, 6, 7, 8, 26, 27, 28, 33, 34, 35] c18z30
noncomputable def c18z19 : ICode := .seq (.ops none [⟨(some 36), .p (.bin .lss (.tmp 35) (.tmp 34))⟩])
 (.seq (.cond (.tmp 36) (.skip)
 (.exit 2))
 (.seq (.block 3 (.seq (.ops none [⟨(some 37), .p (.mv (.tmp 35))⟩,
 ⟨(some 38), .p (.adrSl 1 (.tmp 33) (.tmp 35))⟩,
 ⟨(some 39), .l (.load false 1 (.tmp 38))⟩,
 ⟨(some 9), .p (.mv (.tmp 37))⟩,
 ⟨(some 10), .p (.mv (.tmp 39))⟩])
 (.seq (.seq (.ops none [⟨(some 40), .p (.mv (.tmp 7))⟩,
 ⟨(some 41), .p (.mv (.tmp 9))⟩,
 ⟨(some 42), .p (.bin .neq (.tmp 40) (.tmp 41))⟩,
 ⟨(some 43), .p (.mv (.tmp 42))⟩])
 (.cut [0, 5, 6, 7, 8, 10, 26, 27, 28, 33, 34, 35, 43] c18z27)) c18z25))) c18z22))
noncomputable def c18z31 : ICode := .ops none [⟨(some 56), .p (.bin .add (.tmp 28) (.const (.int .i64 (1))))⟩,
 ⟨(some 28), .p (.mv (.tmp 56))⟩]
noncomputable def c18z14 : ICode := .cut [0, 5, 6, 26, 27, 28] c18z31
noncomputable def c18z11 : ICode := .seq (.ops none [⟨(some 29), .p (.bin .lss (.tmp 28) (.tmp 27))⟩])
 (.seq (.cond (.tmp 29) (.skip)
 (.exit 0))
 (.seq (.block 1 (.seq (.ops none [⟨(some 30), .p (.mv (.tmp 28))⟩,
 ⟨(some 31), .p (.adrSl 1 (.tmp 26) (.tmp 28))⟩,
 ⟨(some 32), .l (.load false 1 (.tmp 31))⟩,
 ⟨(some 7), .p (.mv (.tmp 30))⟩,
 ⟨(some 8), .p (.mv (.tmp 32))⟩])
 (.seq (.ops none [⟨(some 33), .p (.mv (.tmp 0))⟩,
 ⟨(some 34), .p (.lenSl (.tmp 33))⟩,
 ⟨(some 35), .p (.mv (.const (.int .i64 (0))))⟩])
 (.block 2 (.loop [0, 5, 6, 7, 8, 26, 27, 28, 33, 34] [35] c18z19))))) c18z14))
noncomputable def c18z64 : ICode := .ops none [⟨(some 93), .p (.pick (.tmp 91) (.const (.bool true)) (.tmp 92))⟩,
 ⟨(some 11), .p (.mv (.tmp 93))⟩]
noncomputable def c18z62 : ICode := .seq (.ops (some (91, false)) [⟨(some 92), .p (.mv (.tmp 11))⟩])
 (.cut [0, 5, 6, 13, 59, 60, 61, 65, 66, 67, 91, 92] c18z64)
noncomputable def c18z66 : ICode := .ops none [⟨(some 110), .p (.bin .add (.tmp 67) (.const (.int .i64 (1))))⟩,
 ⟨(some 67), .p (.mv (.tmp 110))⟩]
noncomputable def c18z54 : ICode := .cut [0, 5, 6, 11, 13, 59, 60, 61, 65, 66, 67] c18z66
noncomputable def c18z51 : ICode := .seq (.ops none [⟨(some 68), .p (.bin .lss (.tmp 67) (.tmp 66))⟩])
 (.seq (.cond (.tmp 68) (.skip)
 (.exit 8))
 (.seq (.block 9 (.seq (.ops none [⟨(some 69), .p (.adrSl 1 (.tmp 65) (.tmp 67))⟩,
 ⟨(some 70), .l (.load false 1 (.tmp 69))⟩,
 ⟨(some 15), .p (.mv (.tmp 70))⟩])
 (.block 10 (.seq (.ops none [⟨(some 72), .p (.mv (.tmp 13))⟩,
 ⟨(some 73), .p (.bin .eql (.tmp 72) (.const (.string ⟨#[]⟩)))⟩,
 ⟨(some 71), .p (.mv (.tmp 73))⟩])
 (.cond (.tmp 71) (.skip)
 (.seq (.ops none [⟨(some 75), .p (.mv (.tmp 15))⟩,
 ⟨(some 76), .p (.mv (.tmp 13))⟩,
 ⟨(some 77), .call 37 [(.tmp 75), (.tmp 76)]⟩,
 ⟨(some 74), .p (.mv (.tmp 77))⟩])
 (.cond (.tmp 74) (.seq (.ops none [⟨(some 78), .p (.mv (.tmp 15))⟩,
 ⟨(some 79), .p (.mv (.tmp 13))⟩,
 ⟨(some 80), .p (.lenS (.tmp 79))⟩,
 ⟨(some 81), .p (.slS (.tmp 78) (some (.tmp 80)) none)⟩,
 ⟨(some 16), .p (.mv (.tmp 81))⟩])
 (.seq (.ops none [⟨(some 82), .p (.mv (.tmp 6))⟩,
 ⟨(some 83), .p (.mv (.tmp 16))⟩,
 ⟨(some 84), .l (.load false 1 (.tmp 5))⟩,
 ⟨(some 85), .p (.mv (.tmp 13))⟩,
 ⟨(some 86), .l (.lookupG .str false (.string ⟨#[]⟩) (.tmp 84) (.tmp 85))⟩,
 ⟨(some 87), .p (.mv (.tmp 16))⟩,
 ⟨(some 88), .e (.mkSl 9 2 [(.string ⟨#[]⟩)] [(0, 1, (.tmp 86)), (1, 1, (.tmp 87))])⟩,
 ⟨(some 89), .call 39 [(.tmp 88)]⟩,
 ⟨(some 90), .callv (.tmp 82) [(.tmp 83), (.tmp 89)]⟩,
 ⟨(some 91), .p (.mv (.tmp 90))⟩])
 (.cut [0, 5, 6, 11, 13, 59, 60, 61, 65, 66, 67, 91] c18z62)))
 (.seq (.ops none [⟨(some 95), .p (.mv (.tmp 13))⟩,
 ⟨(some 96), .p (.mv (.tmp 15))⟩,
 ⟨(some 97), .call 37 [(.tmp 95), (.tmp 96)]⟩,
 ⟨(some 94), .p (.mv (.tmp 97))⟩])
 (.cond (.tmp 94) (.dops [(none, [⟨(some 98), .p (.mv (.tmp 6)), 0⟩,
 ⟨(some 99), .p (.mv (.tmp 13)), 0⟩,
 ⟨(some 100), .p (.mv (.tmp 15)), 0⟩,
 ⟨(some 101), .p (.lenS (.tmp 100)), 4⟩,
 ⟨(some 102), .p (.slS (.tmp 99) (some (.tmp 101)) none), 14⟩,
 ⟨(some 103), .l (.load false 1 (.tmp 5)), 0⟩,
 ⟨(some 104), .p (.mv (.tmp 13)), 0⟩,
 ⟨(some 105), .l (.lookupG .str false (.string ⟨#[]⟩) (.tmp 103) (.tmp 104)), 96⟩,
 ⟨(some 106), .callv (.tmp 98) [(.tmp 102), (.tmp 105)], 255⟩,
 ⟨(some 107), .p (.mv (.tmp 106)), 511⟩]),
 ((some (107, false)), [⟨(some 108), .p (.mv (.tmp 11)), 1023⟩]),
 (none, [⟨(some 109), .p (.pick (.tmp 107) (.const (.bool true)) (.tmp 108)), 2047⟩,
 ⟨(some 11), .p (.mv (.tmp 109)), 4095⟩])])
 (.skip)))))))))) c18z54))
noncomputable def c18z67 : ICode := .ops none [⟨(some 111), .p (.bin .add (.tmp 61) (.const (.int .i64 (1))))⟩,
 ⟨(some 61), .p (.mv (.tmp 111))⟩]
noncomputable def c18z46 : ICode := .cut [0, 5, 6, 11, 59, 60, 61] c18z67
noncomputable def c18z43 : ICode := .seq (.ops none [⟨(some 62), .p (.bin .lss (.tmp 61) (.tmp 60))⟩])
 (.seq (.cond (.tmp 62) (.skip)
 (.exit 6))
 (.seq (.block 7 (.seq (.ops none [⟨(some 63), .p (.adrSl 1 (.tmp 59) (.tmp 61))⟩,
 ⟨(some 64), .l (.load false 1 (.tmp 63))⟩,
 ⟨(some 13), .p (.mv (.tmp 64))⟩])
 (.seq (.ops none [⟨(some 65), .p (.mv (.tmp 0))⟩,
 ⟨(some 66), .p (.lenSl (.tmp 65))⟩,
 ⟨(some 67), .p (.mv (.const (.int .i64 (0))))⟩])
 (.block 8 (.loop [0, 5, 6, 13, 59, 60, 61, 65, 66] [11, 67] c18z51))))) c18z46))
noncomputable def c18z36 : ICode := .seq (.seq (.ops none [⟨(some 57), .p (.mv (.tmp 11))⟩])
 (.cond (.tmp 57) (.skip)
 (.exit 4)))
 (.block 5 (.seq (.ops none [⟨(some 11), .p (.mv (.const (.bool false)))⟩])
 (.seq (.ops none [⟨(some 58), .l (.load false 1 (.tmp 5))⟩,
 ⟨(some 59), .call 38 [(.tmp 58)]⟩,
 ⟨(some 60), .p (.lenSl (.tmp 59))⟩,
 ⟨(some 61), .p (.mv (.const (.int .i64 (0))))⟩])
 (.block 6 (.loop [0, 5, 6, 59, 60] [11, 61] c18z43)))))
noncomputable def c18z68 : ICode := .seq (.ops none [⟨(some 113), .l (.load false 1 (.tmp 5))⟩,
 ⟨(some 114), .l (.lookupG .str true (.string ⟨#[]⟩) (.tmp 113) (.const (.string ⟨#[]⟩)))⟩,
 ⟨(some 112), .p (.mv (.tmp 114))⟩,
 ⟨(some 115), .p (.ext (.tmp 112) 0)⟩,
 ⟨(some 116), .p (.ext (.tmp 112) 1)⟩,
 ⟨(some 17), .p (.mv (.tmp 115))⟩,
 ⟨(some 18), .p (.mv (.tmp 116))⟩])
 (.seq (.seq (.ops none [⟨(some 117), .p (.mv (.tmp 18))⟩,
 ⟨(some 118), .p (.un .not (.tmp 117))⟩])
 (.cond (.tmp 118) (.seq (.ops none [⟨(some 2), .p (.mv (.const (.string ⟨#[]⟩)))⟩,
 ⟨(some 3), .p (.mv (.const (.int .i64 (5))))⟩])
 (.ret))
 (.skip)))
 (.seq (.ops none [⟨(some 119), .p (.mv (.tmp 17))⟩,
 ⟨(some 2), .p (.mv (.tmp 119))⟩,
 ⟨(some 3), .p (.mv (.const (.int .i64 (0))))⟩])
 (.ret)))
noncomputable def c18z33 : ICode := .cut [5] c18z68
noncomputable def c18z32 : ICode := .seq (.seq (.ops none [⟨(some 11), .p (.mv (.const (.bool true)))⟩])
 (.block 4 (.loop [0, 5, 6] [11] c18z36))) c18z33
noncomputable def c18z8 : ICode := .cut [0, 5, 6] c18z32
noncomputable def c18 : ICode := .seq (.ops none [⟨(some 2), .p (.mv (.const (.string ⟨#[]⟩)))⟩,
 ⟨(some 3), .p (.mv (.const (.int .i64 (0))))⟩])
 (.seq (.seq (.ops none [⟨(some 19), .p (.mv (.tmp 0))⟩,
 ⟨(some 20), .call 34 [(.tmp 19), (.const (.string ⟨#[]⟩))]⟩,
 ⟨(some 4), .p (.mv (.tmp 20))⟩])
 (.seq (.ops none [⟨(some 21), .p (.mv (.tmp 4))⟩,
 ⟨(some 22), .p (.bin .neq (.tmp 21) (.const (.int .i64 (0))))⟩])
 (.cond (.tmp 22) (.seq (.ops none [⟨(some 23), .p (.mv (.tmp 4))⟩,
 ⟨(some 2), .p (.mv (.const (.string ⟨#[]⟩)))⟩,
 ⟨(some 3), .p (.mv (.tmp 23))⟩])
 (.ret))
 (.skip))))
 (.seq (.ops none [⟨(some 24), .e (.mkMapG .str)⟩,
 ⟨(some 5), .e (.alloc 60 [(.map none)])⟩,
 ⟨none, .e (.store 1 (.tmp 5) (.tmp 24))⟩])
 (.seq (.ops none [⟨(some 25), .p (.fn 35 [] [(.tmp 5)])⟩,
 ⟨(some 6), .p (.mv (.tmp 25))⟩])
 (.seq (.seq (.ops none [⟨(some 26), .p (.mv (.tmp 0))⟩,
 ⟨(some 27), .p (.lenSl (.tmp 26))⟩,
 ⟨(some 28), .p (.mv (.const (.int .i64 (0))))⟩])
 (.block 0 (.loop [0, 5, 6, 26, 27] [28] c18z11))) c18z8))))
theorem k18 : compFn Tryd.prog 18 [[], [], [], [], [], [], [], [], [0, 5, 6, 26, 27], [28], [], [], [], [], [0, 5, 6, 7, 8, 26, 27, 28, 33, 34], [35], [], [], [], [0, 5, 6, 7, 8, 10, 26, 27, 28, 33, 34, 35, 43], [0, 5, 6, 7, 8, 10, 26, 27, 28, 33, 34, 35, 43, 46], [], [0, 5, 6, 7, 8, 26, 27, 28, 33, 34, 35], [0, 5, 6, 26, 27, 28], [0, 5, 6], [], [0, 5, 6], [11], [], [], [], [], [0, 5, 6, 59, 60], [11, 61], [], [], [], [], [0, 5, 6, 13, 59, 60, 61, 65, 66], [11, 67], [], [], [], [], [], [], [0, 5, 6, 11, 13, 59, 60, 61, 65, 66, 67, 91], [0, 5, 6, 13, 59, 60, 61, 65, 66, 67, 91, 92], [], [0, 5, 6, 11, 13, 59, 60, 61, 65, 66, 67], [0, 5, 6, 11, 59, 60, 61], [5], [], [], [], [], []] = some (120, c18, [.tmp 2, .tmp 3]) := by kernel_rfl
def K18z0 (_P : Program) (K : VK) : Kont := bodyP [.tmp 2, .tmp 3] K
def K18z8 : Kont := thenK (iwpP P c18z8 (K18z0 P K)) (K18z0 P K)
def K18z10 : Kont := inBlockK 0 (K18z8 P K)
def K18z11 (words0 texts5 reach6 x26 x27 : Value) (L1 : LK) : Kont := thenK (fun f' h'' => (([0, 5, 6, 26, 27] : List Nat).map f' : List Value) = [words0, texts5, reach6, x26, x27] ∧ L1 (([28] : List Nat).map f') h'') (K18z10 P K)
def K18z14 (words0 texts5 reach6 x26 x27 : Value) (L1 : LK) : Kont := thenK (iwpP P c18z14 (K18z11 P K words0 texts5 reach6 x26 x27 L1)) (K18z11 P K words0 texts5 reach6 x26 x27 L1)
def K18z15 (words0 texts5 reach6 x26 x27 : Value) (L1 : LK) : Kont := inBlockK 1 (K18z14 P K words0 texts5 reach6 x26 x27 L1)
def K18z18 (words0 texts5 reach6 x26 x27 : Value) (L1 : LK) : Kont := inBlockK 2 (K18z15 P K words0 texts5 reach6 x26 x27 L1)
def K18z19 (words0 texts5 reach6 i7 v8 x26 x27 x28 x33 x34 : Value) (L1 L2 : LK) : Kont := thenK (fun f' h'' => (([0, 5, 6, 7, 8, 26, 27, 28, 33, 34] : List Nat).map f' : List Value) = [words0, texts5, reach6, i7, v8, x26, x27, x28, x33, x34] ∧ L2 (([35] : List Nat).map f') h'') (K18z18 P K words0 texts5 reach6 x26 x27 L1)
def K18z22 (words0 texts5 reach6 i7 v8 x26 x27 x28 x33 x34 : Value) (L1 L2 : LK) : Kont := thenK (iwpP P c18z22 (K18z19 P K words0 texts5 reach6 i7 v8 x26 x27 x28 x33 x34 L1 L2)) (K18z19 P K words0 texts5 reach6 i7 v8 x26 x27 x28 x33 x34 L1 L2)
def K18z23 (words0 texts5 reach6 i7 v8 x26 x27 x28 x33 x34 : Value) (L1 L2 : LK) : Kont := inBlockK 3 (K18z22 P K words0 texts5 reach6 i7 v8 x26 x27 x28 x33 x34 L1 L2)
def K18z25 (words0 texts5 reach6 i7 v8 x26 x27 x28 x33 x34 : Value) (L1 L2 : LK) : Kont := thenK (iwpP P c18z25 (K18z23 P K words0 texts5 reach6 i7 v8 x26 x27 x28 x33 x34 L1 L2)) (K18z23 P K words0 texts5 reach6 i7 v8 x26 x27 x28 x33 x34 L1 L2)
def K18z33 : Kont := thenK (iwpP P c18z33 (K18z0 P K)) (K18z0 P K)
def K18z35 : Kont := inBlockK 4 (K18z33 P K)
def K18z36 (words0 texts5 reach6 : Value) (L1 : LK) : Kont := thenK (fun f' h'' => (([0, 5, 6] : List Nat).map f' : List Value) = [words0, texts5, reach6] ∧ L1 (([11] : List Nat).map f') h'') (K18z35 P K)
def K18z39 (words0 texts5 reach6 : Value) (L1 : LK) : Kont := inBlockK 5 (K18z36 P K words0 texts5 reach6 L1)
def K18z42 (words0 texts5 reach6 : Value) (L1 : LK) : Kont := inBlockK 6 (K18z39 P K words0 texts5 reach6 L1)
def K18z43 (words0 texts5 reach6 x59 x60 : Value) (L1 L2 : LK) : Kont := thenK (fun f' h'' => (([0, 5, 6, 59, 60] : List Nat).map f' : List Value) = [words0, texts5, reach6, x59, x60] ∧ L2 (([11, 61] : List Nat).map f') h'') (K18z42 P K words0 texts5 reach6 L1)
def K18z46 (words0 texts5 reach6 x59 x60 : Value) (L1 L2 : LK) : Kont := thenK (iwpP P c18z46 (K18z43 P K words0 texts5 reach6 x59 x60 L1 L2)) (K18z43 P K words0 texts5 reach6 x59 x60 L1 L2)
def K18z47 (words0 texts5 reach6 x59 x60 : Value) (L1 L2 : LK) : Kont := inBlockK 7 (K18z46 P K words0 texts5 reach6 x59 x60 L1 L2)
def K18z50 (words0 texts5 reach6 x59 x60 : Value) (L1 L2 : LK) : Kont := inBlockK 8 (K18z47 P K words0 texts5 reach6 x59 x60 L1 L2)
def K18z51 (words0 texts5 reach6 ahead13 x59 x60 x61 x65 x66 : Value) (L1 L2 L3 : LK) : Kont := thenK (fun f' h'' => (([0, 5, 6, 13, 59, 60, 61, 65, 66] : List Nat).map f' : List Value) = [words0, texts5, reach6, ahead13, x59, x60, x61, x65, x66] ∧ L3 (([11, 67] : List Nat).map f') h'') (K18z50 P K words0 texts5 reach6 x59 x60 L1 L2)
def K18z54 (words0 texts5 reach6 ahead13 x59 x60 x61 x65 x66 : Value) (L1 L2 L3 : LK) : Kont := thenK (iwpP P c18z54 (K18z51 P K words0 texts5 reach6 ahead13 x59 x60 x61 x65 x66 L1 L2 L3)) (K18z51 P K words0 texts5 reach6 ahead13 x59 x60 x61 x65 x66 L1 L2 L3)
def K18z55 (words0 texts5 reach6 ahead13 x59 x60 x61 x65 x66 : Value) (L1 L2 L3 : LK) : Kont := inBlockK 9 (K18z54 P K words0 texts5 reach6 ahead13 x59 x60 x61 x65 x66 L1 L2 L3)
def K18z57 (words0 texts5 reach6 ahead13 x59 x60 x61 x65 x66 : Value) (L1 L2 L3 : LK) : Kont := inBlockK 10 (K18z55 P K words0 texts5 reach6 ahead13 x59 x60 x61 x65 x66 L1 L2 L3)
def p18z11 (words0 texts5 reach6 x26 x27 : Value) (L1 : LK) (xs : List Value) (h : Heap) : Prop := CutP (iwpP P c18z11 (K18z11 P K words0 texts5 reach6 x26 x27 L1)) ([0, 5, 6, 26, 27] ++ [28]) ([words0, texts5, reach6, x26, x27] ++ xs) h
def p18z19 (words0 texts5 reach6 i7 v8 x26 x27 x28 x33 x34 : Value) (L1 L2 : LK) (xs : List Value) (h : Heap) : Prop := CutP (iwpP P c18z19 (K18z19 P K words0 texts5 reach6 i7 v8 x26 x27 x28 x33 x34 L1 L2)) ([0, 5, 6, 7, 8, 26, 27, 28, 33, 34] ++ [35]) ([words0, texts5, reach6, i7, v8, x26, x27, x28, x33, x34] ++ xs) h
def p18z27 (words0 texts5 reach6 i7 v8 w10 x26 x27 x28 x33 x34 x35 x43 : Value) (L1 L2 : LK) (h : Heap) : Prop := CutP (iwpP P c18z27 (K18z25 P K words0 texts5 reach6 i7 v8 x26 x27 x28 x33 x34 L1 L2)) [0, 5, 6, 7, 8, 10, 26, 27, 28, 33, 34, 35, 43] [words0, texts5, reach6, i7, v8, w10, x26, x27, x28, x33, x34, x35, x43] h
def p18z29 (words0 texts5 reach6 i7 v8 w10 x26 x27 x28 x33 x34 x35 x43 x46 : Value) (L1 L2 : LK) (h : Heap) : Prop := CutP (iwpP P c18z29 (K18z25 P K words0 texts5 reach6 i7 v8 x26 x27 x28 x33 x34 L1 L2)) [0, 5, 6, 7, 8, 10, 26, 27, 28, 33, 34, 35, 43, 46] [words0, texts5, reach6, i7, v8, w10, x26, x27, x28, x33, x34, x35, x43, x46] h
def p18z30 (words0 texts5 reach6 i7 v8 x26 x27 x28 x33 x34 x35 : Value) (L1 L2 : LK) (h : Heap) : Prop := CutP (iwpP P c18z30 (K18z19 P K words0 texts5 reach6 i7 v8 x26 x27 x28 x33 x34 L1 L2)) [0, 5, 6, 7, 8, 26, 27, 28, 33, 34, 35] [words0, texts5, reach6, i7, v8, x26, x27, x28, x33, x34, x35] h
def p18z31 (words0 texts5 reach6 x26 x27 x28 : Value) (L1 : LK) (h : Heap) : Prop := CutP (iwpP P c18z31 (K18z11 P K words0 texts5 reach6 x26 x27 L1)) [0, 5, 6, 26, 27, 28] [words0, texts5, reach6, x26, x27, x28] h
def p18z32 (words0 texts5 reach6 : Value) (h : Heap) : Prop := CutP (iwpP P c18z32 (K18z0 P K)) [0, 5, 6] [words0, texts5, reach6] h
def p18z36 (words0 texts5 reach6 : Value) (L1 : LK) (xs : List Value) (h : Heap) : Prop := CutP (iwpP P c18z36 (K18z36 P K words0 texts5 reach6 L1)) ([0, 5, 6] ++ [11]) ([words0, texts5, reach6] ++ xs) h
def p18z43 (words0 texts5 reach6 x59 x60 : Value) (L1 L2 : LK) (xs : List Value) (h : Heap) : Prop := CutP (iwpP P c18z43 (K18z43 P K words0 texts5 reach6 x59 x60 L1 L2)) ([0, 5, 6, 59, 60] ++ [11, 61]) ([words0, texts5, reach6, x59, x60] ++ xs) h
def p18z51 (words0 texts5 reach6 ahead13 x59 x60 x61 x65 x66 : Value) (L1 L2 L3 : LK) (xs : List Value) (h : Heap) : Prop := CutP (iwpP P c18z51 (K18z51 P K words0 texts5 reach6 ahead13 x59 x60 x61 x65 x66 L1 L2 L3)) ([0, 5, 6, 13, 59, 60, 61, 65, 66] ++ [11, 67]) ([words0, texts5, reach6, ahead13, x59, x60, x61, x65, x66] ++ xs) h
def p18z62 (words0 texts5 reach6 more11 ahead13 x59 x60 x61 x65 x66 x67 x91 : Value) (L1 L2 L3 : LK) (h : Heap) : Prop := CutP (iwpP P c18z62 (K18z57 P K words0 texts5 reach6 ahead13 x59 x60 x61 x65 x66 L1 L2 L3)) [0, 5, 6, 11, 13, 59, 60, 61, 65, 66, 67, 91] [words0, texts5, reach6, more11, ahead13, x59, x60, x61, x65, x66, x67, x91] h
def p18z64 (words0 texts5 reach6 ahead13 x59 x60 x61 x65 x66 x67 x91 x92 : Value) (L1 L2 L3 : LK) (h : Heap) : Prop := CutP (iwpP P c18z64 (K18z57 P K words0 texts5 reach6 ahead13 x59 x60 x61 x65 x66 L1 L2 L3)) [0, 5, 6, 13, 59, 60, 61, 65, 66, 67, 91, 92] [words0, texts5, reach6, ahead13, x59, x60, x61, x65, x66, x67, x91, x92] h
def p18z66 (words0 texts5 reach6 more11 ahead13 x59 x60 x61 x65 x66 x67 : Value) (L1 L2 L3 : LK) (h : Heap) : Prop := CutP (iwpP P c18z66 (K18z51 P K words0 texts5 reach6 ahead13 x59 x60 x61 x65 x66 L1 L2 L3)) [0, 5, 6, 11, 13, 59, 60, 61, 65, 66, 67] [words0, texts5, reach6, more11, ahead13, x59, x60, x61, x65, x66, x67] h
def p18z67 (words0 texts5 reach6 more11 x59 x60 x61 : Value) (L1 L2 : LK) (h : Heap) : Prop := CutP (iwpP P c18z67 (K18z43 P K words0 texts5 reach6 x59 x60 L1 L2)) [0, 5, 6, 11, 59, 60, 61] [words0, texts5, reach6, more11, x59, x60, x61] h
def p18z68 (texts5 : Value) (h : Heap) : Prop := CutP (iwpP P c18z68 (K18z0 P K)) [5] [texts5] h
theorem q18z29 (words0 texts5 reach6 i7 v8 w10 x26 x27 x28 x33 x34 x35 x43 x46 : Value) (L1 L2 : LK) (h : Heap) : p18z29 P K words0 texts5 reach6 i7 v8 w10 x26 x27 x28 x33 x34 x35 x43 x46 L1 L2 h =
 (OP (iPick x43 x46 (.bool false)) fun x47 =>
 IfP x47
 (OP (iLenS v8) fun x51 =>
 OP (iSlS w10 (some x51) none) fun x52 =>
 CallVP P reach6 [x52, w10] h fun x54 h_1 =>
 p18z30 P K words0 texts5 reach6 i7 v8 x26 x27 x28 x33 x34 x35 L1 L2 h_1)
 (p18z30 P K words0 texts5 reach6 i7 v8 x26 x27 x28 x33 x34 x35 L1 L2 h)) := (CutP_def _ _ _ _).trans (by kernel_rfl)
theorem q18z27 (words0 texts5 reach6 i7 v8 w10 x26 x27 x28 x33 x34 x35 x43 : Value) (L1 L2 : LK) (h : Heap) : p18z27 P K words0 texts5 reach6 i7 v8 w10 x26 x27 x28 x33 x34 x35 x43 L1 L2 h =
 (GdP x43 true
 (CallP P 37 [w10, v8] h fun x46 h_1 =>
 p18z29 P K words0 texts5 reach6 i7 v8 w10 x26 x27 x28 x33 x34 x35 x43 x46 L1 L2 h_1)
 (p18z29 P K words0 texts5 reach6 i7 v8 w10 x26 x27 x28 x33 x34 x35 x43 undef L1 L2 h)) := (CutP_def _ _ _ _).trans (by kernel_rfl)
theorem q18z30 (words0 texts5 reach6 i7 v8 x26 x27 x28 x33 x34 x35 : Value) (L1 L2 : LK) (h : Heap) : p18z30 P K words0 texts5 reach6 i7 v8 x26 x27 x28 x33 x34 x35 L1 L2 h =
 (OP (iBin .add x35 (.int .i64 (1))) fun x55 =>
 ([words0, texts5, reach6, i7, v8, x26, x27, x28, x33, x34] : List Value) = [words0, texts5, reach6, i7, v8, x26, x27, x28, x33, x34] ∧ L2 [x55] h) := (CutP_def _ _ _ _).trans (by kernel_rfl)
theorem q18z19 (words0 texts5 reach6 i7 v8 x26 x27 x28 x33 x34 : Value) (L1 L2 : LK) (x35 : Value) (h : Heap) : p18z19 P K words0 texts5 reach6 i7 v8 x26 x27 x28 x33 x34 L1 L2 [x35] h =
 (OP (iBin .lss x35 x34) fun x36 =>
 IfP x36
 (OP (iAdrSl 1 x33 x35) fun x38 =>
 OP (iLoad false 1 h x38) fun x39 =>
 OP (iBin .neq i7 x35) fun x42 =>
 p18z27 P K words0 texts5 reach6 i7 v8 x39 x26 x27 x28 x33 x34 x35 x42 L1 L2 h)
 (p18z31 P K words0 texts5 reach6 x26 x27 x28 L1 h)) := (CutP_def _ _ _ _).trans (by kernel_rfl)
theorem q18z31 (words0 texts5 reach6 x26 x27 x28 : Value) (L1 : LK) (h : Heap) : p18z31 P K words0 texts5 reach6 x26 x27 x28 L1 h =
 (OP (iBin .add x28 (.int .i64 (1))) fun x56 =>
 ([words0, texts5, reach6, x26, x27] : List Value) = [words0, texts5, reach6, x26, x27] ∧ L1 [x56] h) := (CutP_def _ _ _ _).trans (by kernel_rfl)
theorem q18z11 (words0 texts5 reach6 x26 x27 : Value) (L1 : LK) (x28 : Value) (h : Heap) : p18z11 P K words0 texts5 reach6 x26 x27 L1 [x28] h =
 (OP (iBin .lss x28 x27) fun x29 =>
 IfP x29
 (OP (iAdrSl 1 x26 x28) fun x31 =>
 OP (iLoad false 1 h x31) fun x32 =>
 OP (iLenSl words0) fun x34 =>
 LoopP [(.int .i64 (0))] h fun L2 xs hx =>
 p18z19 P K words0 texts5 reach6 x28 x32 x26 x27 x28 words0 x34 L1 L2 xs hx)
 (p18z32 P K words0 texts5 reach6 h)) := (CutP_def _ _ _ _).trans (by kernel_rfl)
theorem q18z64 (words0 texts5 reach6 ahead13 x59 x60 x61 x65 x66 x67 x91 x92 : Value) (L1 L2 L3 : LK) (h : Heap) : p18z64 P K words0 texts5 reach6 ahead13 x59 x60 x61 x65 x66 x67 x91 x92 L1 L2 L3 h =
 (OP (iPick x91 (.bool true) x92) fun x93 =>
 p18z66 P K words0 texts5 reach6 x93 ahead13 x59 x60 x61 x65 x66 x67 L1 L2 L3 h) := (CutP_def _ _ _ _).trans (by kernel_rfl)
theorem q18z62 (words0 texts5 reach6 more11 ahead13 x59 x60 x61 x65 x66 x67 x91 : Value) (L1 L2 L3 : LK) (h : Heap) : p18z62 P K words0 texts5 reach6 more11 ahead13 x59 x60 x61 x65 x66 x67 x91 L1 L2 L3 h =
 (GdP x91 false
 (p18z64 P K words0 texts5 reach6 ahead13 x59 x60 x61 x65 x66 x67 x91 more11 L1 L2 L3 h)
 (p18z64 P K words0 texts5 reach6 ahead13 x59 x60 x61 x65 x66 x67 x91 undef L1 L2 L3 h)) := (CutP_def _ _ _ _).trans (by kernel_rfl)
theorem q18z66 (words0 texts5 reach6 more11 ahead13 x59 x60 x61 x65 x66 x67 : Value) (L1 L2 L3 : LK) (h : Heap) : p18z66 P K words0 texts5 reach6 more11 ahead13 x59 x60 x61 x65 x66 x67 L1 L2 L3 h =
 (OP (iBin .add x67 (.int .i64 (1))) fun x110 =>
 ([words0, texts5, reach6, ahead13, x59, x60, x61, x65, x66] : List Value) = [words0, texts5, reach6, ahead13, x59, x60, x61, x65, x66] ∧ L3 [more11, x110] h) := (CutP_def _ _ _ _).trans (by kernel_rfl)
theorem q18z51 (words0 texts5 reach6 ahead13 x59 x60 x61 x65 x66 : Value) (L1 L2 L3 : LK) (more11 x67 : Value) (h : Heap) : p18z51 P K words0 texts5 reach6 ahead13 x59 x60 x61 x65 x66 L1 L2 L3 [more11, x67] h =
 (OP (iBin .lss x67 x66) fun x68 =>
 IfP x68
 (OP (iAdrSl 1 x65 x67) fun x69 =>
 OP (iLoad false 1 h x69) fun x70 =>
 OP (iBin .eql ahead13 (.string ⟨#[]⟩)) fun x73 =>
 IfP x73
 (p18z66 P K words0 texts5 reach6 more11 ahead13 x59 x60 x61 x65 x66 x67 L1 L2 L3 h)
 (CallP P 37 [x70, ahead13] h fun x77 h_1 =>
 IfP x77
 (OP (iLenS ahead13) fun x80 =>
 OP (iSlS x70 (some x80) none) fun x81 =>
 OP (iLoad false 1 h_1 texts5) fun x84 =>
 OP (iLookupG .str false (.string ⟨#[]⟩) h_1 x84 ahead13) fun x86 =>
 OH (iMkSl 9 2 [(.string ⟨#[]⟩)] h_1 [(0, 1, x86), (1, 1, x81)]) fun x88 h_2 =>
 CallP P 39 [x88] h_2 fun x89 h_3 =>
 CallVP P reach6 [x81, x89] h_3 fun x90 h_4 =>
 p18z62 P K words0 texts5 reach6 more11 ahead13 x59 x60 x61 x65 x66 x67 x90 L1 L2 L3 h_4)
 (CallP P 37 [ahead13, x70] h_1 fun x97 h_2 =>
 IfP x97
 (OP (iLenS x70) fun x101 =>
 OP (iSlS ahead13 (some x101) none) fun x102 =>
 OP (iLoad false 1 h_2 texts5) fun x103 =>
 (True) ∧
 OP (iLookupG .str false (.string ⟨#[]⟩) h_2 x103 ahead13) fun x105 =>
 (True) ∧
 CallVP P reach6 [x102, x105] h_2 fun x106 h_3 =>
 (True) ∧
 GdP x106 false
 (OP (iPick x106 (.bool true) more11) fun x109 =>
 p18z66 P K words0 texts5 reach6 x109 ahead13 x59 x60 x61 x65 x66 x67 L1 L2 L3 h_3)
 (OP (iPick x106 (.bool true) undef) fun x109 =>
 p18z66 P K words0 texts5 reach6 x109 ahead13 x59 x60 x61 x65 x66 x67 L1 L2 L3 h_3))
 (p18z66 P K words0 texts5 reach6 more11 ahead13 x59 x60 x61 x65 x66 x67 L1 L2 L3 h_2))))
 (p18z67 P K words0 texts5 reach6 more11 x59 x60 x61 L1 L2 h)) := (CutP_def _ _ _ _).trans (by kernel_rfl)
theorem q18z67 (words0 texts5 reach6 more11 x59 x60 x61 : Value) (L1 L2 : LK) (h : Heap) : p18z67 P K words0 texts5 reach6 more11 x59 x60 x61 L1 L2 h =
 (OP (iBin .add x61 (.int .i64 (1))) fun x111 =>
 ([words0, texts5, reach6, x59, x60] : List Value) = [words0, texts5, reach6, x59, x60] ∧ L2 [more11, x111] h) := (CutP_def _ _ _ _).trans (by kernel_rfl)
theorem q18z43 (words0 texts5 reach6 x59 x60 : Value) (L1 L2 : LK) (more11 x61 : Value) (h : Heap) : p18z43 P K words0 texts5 reach6 x59 x60 L1 L2 [more11, x61] h =
 (OP (iBin .lss x61 x60) fun x62 =>
 IfP x62
 (OP (iAdrSl 1 x59 x61) fun x63 =>
 OP (iLoad false 1 h x63) fun x64 =>
 OP (iLenSl words0) fun x66 =>
 LoopP [more11, (.int .i64 (0))] h fun L3 xs hx =>
 p18z51 P K words0 texts5 reach6 x64 x59 x60 x61 words0 x66 L1 L2 L3 xs hx)
 (([words0, texts5, reach6] : List Value) = [words0, texts5, reach6] ∧ L1 [more11] h)) := (CutP_def _ _ _ _).trans (by kernel_rfl)
theorem q18z36 (words0 texts5 reach6 : Value) (L1 : LK) (more11 : Value) (h : Heap) : p18z36 P K words0 texts5 reach6 L1 [more11] h =
 (IfP more11
 (OP (iLoad false 1 h texts5) fun x58 =>
 CallP P 38 [x58] h fun x59 h_1 =>
 OP (iLenSl x59) fun x60 =>
 LoopP [(.bool false), (.int .i64 (0))] h_1 fun L2 xs hx =>
 p18z43 P K words0 texts5 reach6 x59 x60 L1 L2 xs hx)
 (p18z68 P K texts5 h)) := (CutP_def _ _ _ _).trans (by kernel_rfl)
theorem q18z68 (texts5 : Value) (h : Heap) : p18z68 P K texts5 h =
 (OP (iLoad false 1 h texts5) fun x113 =>
 OP (iLookupG .str true (.string ⟨#[]⟩) h x113 (.string ⟨#[]⟩)) fun x114 =>
 OP (iExt 0 x114) fun x115 =>
 OP (iExt 1 x114) fun x116 =>
 OP (iUn .not x116) fun x118 =>
 IfP x118
 (K (.tuple #[(.string ⟨#[]⟩), (.int .i64 (5))]) h)
 (K (.tuple #[x115, (.int .i64 (0))]) h)) := (CutP_def _ _ _ _).trans (by kernel_rfl)
theorem q18z32 (words0 texts5 reach6 : Value) (h : Heap) : p18z32 P K words0 texts5 reach6 h =
 (LoopP [(.bool true)] h fun L1 xs hx =>
 p18z36 P K words0 texts5 reach6 L1 xs hx) := (CutP_def _ _ _ _).trans (by kernel_rfl)
def T18 (words0 : Value) (h : Heap) : Prop :=
 CallP P 34 [words0, (.string ⟨#[]⟩)] h fun x20 h_1 =>
 OP (iBin .neq x20 (.int .i64 (0))) fun x22 =>
 IfP x22
 (K (.tuple #[(.string ⟨#[]⟩), x20]) h_1)
 (OH (iMkMapG .str h_1) fun x24 h_2 =>
 OH (iAlloc 60 [(.map none)] h_2) fun texts5 h_3 =>
 OH (oStore 1 h_3 texts5 x24) fun _ h_4 =>
 OP (iLenSl words0) fun x27 =>
 LoopP [(.int .i64 (0))] h_4 fun L1 xs hx =>
 p18z11 P K words0 texts5 (.func (.func 35) #[] #[texts5]) words0 x27 L1 xs hx)
theorem e18 (words0 : Value) (h : Heap) : iwpP P c18 (bodyP [.tmp 2, .tmp 3] K) (frame0 [words0]) h = T18 P K words0 h := by kernel_rfl
theorem f18 {K : VK} {words0 : Value} {h : Heap} (H : T18 Tryd.prog K words0 h) : CallP Tryd.prog 18 [words0] h K :=
 callP_intro k18 (Nat.le_of_ble_eq_true rfl) ((e18 Tryd.prog K words0 h).mpr H)
end Go.Proofs.YthplaillblmgfaaDoor

namespace Go.Proofs.YthplaillblmgfaaDoor
open Go.Sim

theorem SS.monoC {h h' : Heap} {v : Value} {ls : List Tx} (k : CX h h') (p : SS h v ls) : SS h' v ls :=
  ⟨p.len, fun j hj => let ⟨i, o, a, b⟩ := p.get j hj; ⟨i, o, a, CX.load k b⟩⟩

/-- The map in memory. -/
structure St (h : Heap) (im ic : Nat) (l : List (Tx × Tx)) (g : Heap) : Prop where
  ex : EX h g
  hm : g[im]? = some (.gmap .str l.length (tmap l))
  hc : g[ic]? = some (.arr 60 [.map (some im)])

theorem St.push {h : Heap} {im ic : Nat} {l : List (Tx × Tx)} {g g' : Heap} (s : St h im ic l g) (x : EX g g') : St h im ic l g' := ⟨s.ex.trans x, x.get s.hm, x.get s.hc⟩

def rchV (ic : Nat) : Value := .func (.func 35) #[] #[pt ic 0]

theorem reachS {W : List Tx} (ok : Ok W) {h : Heap} {im ic : Nat} (i1 : h.length ≤ im) (i2 : ic ≠ im) {l : List (Tx × Tx)} {g : Heap} {k t : Tx} {K : Value → Heap → Prop} (st : St h im ic l g) (gd : Good W l) (r : Rc W k t) (hl : t.length ≤ 10 * l.length + 10)
    (hk : ∀ b l' g', St h im ic l' g' → CX g g' → Good W l' → Dn l l' → (∃ t', look k l' = some t' ∧ rk t' ≤ rk t) → (b = true → mu W l' < mu W l) → (b = false → l' = l) → K (B b) g') : CallVP Tryd.prog (rchV ic) [S k, S t] g K := by
  have hf := gd.few ok
  refine callVP_fn (by kernel_rfl) ?_
  show CallP Tryd.prog 35 [S k, S t, pt ic 0] g K
  refine C35 st.hc st.hm ⟨(r.key ok).2, by omega⟩ (fun o ho => ⟨((gd.rc k o ho).key ok).2, by have := gd.ln k o ho; omega⟩) (fun hb => ?_) fun hb => ?_
  · refine hk false l g st (CX.refl g) gd (Dn.refl l) ?_ (fun h => by cases h) fun _ => rfl
    cases ho : look k l with
    | none => simp [bet, ho] at hb
    | some o =>
      simp only [bet, ho, decide_eq_false_iff_not] at hb
      exact ⟨o, rfl, by omega⟩
  · refine hk true (put k t l) _ ⟨st.ex.set i1 _, set_get st.hm, ?_⟩ (CX.setG st.hm) (good_put gd r hl hb) (Dn.put hb) ⟨t, by rw [look_put, if_pos rfl], Nat.le_refl _⟩ (fun _ => mu_put ok gd r hl hb) fun h => by cases h
    rw [List.getElem?_set_ne (Ne.symm i2)]
    exact st.hc

theorem C39 {i : Nat} {a b : Tx} {h : Heap} {K : Value → Heap → Prop} (hl : a.length + b.length ≤ 1000000) (hg : h[i]? = some (.arr 9 [S a, S b])) (hk : K (S (a ++ b)) h) : CallP Tryd.prog 39 [sl 9 i 0 2] h K := by
  refine f39 ?_
  have e : Lib.join [a, b] [] = a ++ b := by simp [Lib.join]
  refine C55 (ls := [a, b]) (sep := []) (by simp) (by simp) (by rw [e]; simp; omega) hg ?_
  rw [e]
  exact hk

/-- The keys in order, whether there are any or not. -/
theorem keysC {im : Nat} {l : List (Tx × Tx)} {h : Heap} {K : Value → Heap → Prop} (hm : h[im]? = some (.gmap .str l.length (tmap l))) (hl : l.length ≤ 1000000) (hk : ∀ v g, EX h g → SS g v (sortS (l.map Prod.fst)) → K v g) : CallP Tryd.prog 38 [.map (some im)] h K := by
  by_cases h0 : l = []
  · subst h0
    refine C38n hm (hk _ _ (EX.refl h) ?_)
    have : sortS (([] : List (Tx × Tx)).map Prod.fst) = [] := List.perm_nil.1 (sortS_perm [])
    rw [this]
    exact ⟨rfl, fun k hk => by simp at hk⟩
  · refine C38 hm (Nat.le_refl _) h0 hl (hk _ _ (EX.append _ _) ?_)
    have : l.length = (sortS (l.map Prod.fst)).length := by rw [(sortS_perm _).length_eq, List.length_map]
    rw [this]
    exact SS.sl (by simp [objCells])

theorem iniC {W : List Tx} (ok : Ok W) {h : Heap} {v : Value} {im ic : Nat} (hv : SS h v W) (i1 : h.length ≤ im) (i2 : ic ≠ im) {g : Heap} {K : Value → Heap → Prop} (st : St h im ic [] g)
    (hk : ∀ l g', St h im ic l g' → Good W l → Ini W l → p18z32 Tryd.prog K v (pt ic 0) (rchV ic) g') : LoopP [I 0] g fun L1 xs hx => p18z11 Tryd.prog K v (pt ic 0) (rchV ic) v (I W.length) L1 xs hx := by
  have few := ok.few
  refine loopL (σ := Nat × List (Tx × Tx) × Heap) (fun q => [I q.1]) (fun q => q.2.2) (fun q => q.1 ≤ W.length ∧ St h im ic q.2.1 q.2.2 ∧ Good W q.2.1 ∧ ∀ i (hi : i < W.length), i < q.1 → ∀ w ∈ W, W[i] ≠ w → W[i] <+: w → ∃ t', look (w.drop W[i].length) q.2.1 = some t' ∧ rk t' ≤ rk w) (fun q => W.length - q.1) (0, [], g) rfl rfl ⟨Nat.zero_le _, st, Good.nil W, fun i _ hi => absurd hi (Nat.not_lt_zero _)⟩ ?_
  rintro ⟨i, l, g1⟩ ⟨hi, s1, gd, done⟩ L hL
  simp only at hi s1 gd done hL ⊢
  rw [q18z11]
  simp only [bin_lss, OP_some, IfP_dec]
  refine ⟨fun hlt => ?_, fun hge => ?_⟩
  · have hlt : i < W.length := by omega
    obtain ⟨b, o, a1, a2⟩ := (hv.mono s1.ex).get i hlt
    simp only [a1, a2, OP_some, hv.len]
    refine loopL (σ := Nat × List (Tx × Tx) × Heap) (fun q => [I q.1]) (fun q => q.2.2) (fun q => q.1 ≤ W.length ∧ St h im ic q.2.1 q.2.2 ∧ Good W q.2.1 ∧ Dn l q.2.1 ∧ ∀ j (hj : j < W.length), j < q.1 → W[i] ≠ W[j] → W[i] <+: W[j] → ∃ t', look (W[j].drop W[i].length) q.2.1 = some t' ∧ rk t' ≤ rk W[j]) (fun q => W.length - q.1) (0, l, g1) rfl rfl ⟨Nat.zero_le _, s1, gd, Dn.refl l, fun j _ hj => absurd hj (Nat.not_lt_zero _)⟩ ?_
    rintro ⟨j, l2, g2⟩ ⟨hj, s2, gd2, dn, done2⟩ L2 hL2
    simp only at hj s2 gd2 dn done2 hL2 ⊢
    rw [q18z19]
    simp only [bin_lss, OP_some, IfP_dec]
    refine ⟨fun hlt2 => ?_, fun hge2 => ?_⟩
    · have hlt2 : j < W.length := by omega
      obtain ⟨b2, o2, c1, c2⟩ := (hv.mono s2.ex).get j hlt2
      have step : ∀ l3 g3, St h im ic l3 g3 → Good W l3 → Dn l2 l3 → (W[i] ≠ W[j] → W[i] <+: W[j] → ∃ t', look (W[j].drop W[i].length) l3 = some t' ∧ rk t' ≤ rk W[j]) → p18z30 Tryd.prog K v (pt ic 0) (rchV ic) (I i) (S W[i]) v (I W.length) (I i) v (I W.length) (I j) L L2 g3 := by
        intro l3 g3 s3 gd3 dn3 new
        rw [q18z30]
        simp only [bin_add, OP_some, true_and]
        rw [incM j (by simp [maxLen]; omega)]
        refine hL2 (j + 1, l3, g3) ⟨hlt2, s3, gd3, dn.trans dn3, fun j' hj' hlt' h1 h2 => ?_⟩ (by show W.length - (j + 1) < W.length - j; omega)
        have hlt' : j' < j + 1 := hlt'
        rcases Nat.lt_succ_iff_lt_or_eq.1 hlt' with h' | h'
        · obtain ⟨t', e1, e2⟩ := done2 j' hj' h' h1 h2
          obtain ⟨t2, f1, f2⟩ := dn3 _ _ e1
          exact ⟨t2, f1, Nat.le_trans f2 e2⟩
        · subst h'; exact new h1 h2
      simp only [c1, c2, OP_some, bin_neq]
      rw [q18z27]
      by_cases hij : i = j
      · rw [decide_eq_true (show (i : Int) = j by omega)]
        simp only [Bool.not_true, GdP_ft, q18z29, iPick_f, OP_some, IfP_false]
        exact step l2 g2 s2 gd2 (Dn.refl _) fun h => absurd (by subst hij; rfl) h
      · rw [decide_eq_false (show ¬ (i : Int) = j by omega)]
        simp only [Bool.not_false, GdP_tt]
        refine C37 ?_
        rw [q18z29]
        simp only [iPick_t, OP_some, IfP_dec, lenS_S]
        refine ⟨fun hp => ?_, fun hp => step l2 g2 s2 gd2 (Dn.refl _) fun _ h => absurd h hp⟩
        rw [slS_lo (a := W[j]) hp.length_le .i64]
        simp only [OP_some]
        have hne : W[i] ≠ W[j] := fun e => by
          rcases Nat.lt_or_gt_of_ne hij with h' | h'
          · exact (List.pairwise_iff_getElem.1 ok.nd) i j hlt hlt2 h' e
          · exact (List.pairwise_iff_getElem.1 ok.nd) j i hlt2 hlt h' e.symm
        have r := Rc.init (List.getElem_mem hlt) (List.getElem_mem hlt2) hne hp
        refine reachS ok i1 i2 s2 gd2 r (by have := ok.le _ (List.getElem_mem hlt2); omega) ?_
        intro _ l3 g3 s3 _ gd3 dn3 new _ _
        exact step l3 g3 s3 gd3 dn3 fun _ _ => new
    · rw [q18z31]
      simp only [bin_add, OP_some, true_and]
      rw [incM i (by simp [maxLen]; omega)]
      refine hL (i + 1, l2, g2) ⟨hlt, s2, gd2, fun i' hi' hlt' w hw h1 h2 => ?_⟩ (by show W.length - (i + 1) < W.length - i; omega)
      have hlt' : i' < i + 1 := hlt'
      rcases Nat.lt_succ_iff_lt_or_eq.1 hlt' with h' | h'
      · obtain ⟨t', e1, e2⟩ := done i' hi' h' w hw h1 h2
        obtain ⟨t2, f1, f2⟩ := dn _ _ e1
        exact ⟨t2, f1, Nat.le_trans f2 e2⟩
      · subst h'
        obtain ⟨j', hj', rfl⟩ := List.getElem_of_mem hw
        exact done2 j' hj' (by omega) h1 h2
  · refine hk l g1 s1 gd fun w1 hw1 w hw h1 h2 => ?_
    obtain ⟨j', hj', rfl⟩ := List.getElem_of_mem hw1
    exact done j' hj' (by omega) w hw h1 h2

end Go.Proofs.YthplaillblmgfaaDoor


namespace Go.Proofs.YthplaillblmgfaaDoor
open Go.Sim

theorem mk2 (g : Heap) (a b : Tx) : iMkSl 9 2 [(.string ⟨#[]⟩)] g [(0, 1, S a), (1, 1, S b)] = some (sl 9 g.length 0 2, g ++ [.arr 9 [S a, S b]]) := by
  have va : vcells (S a) = [S a] := rfl
  have vb : vcells (S b) = [S b] := rfl
  have na : noTuple (S a) = true := rfl
  have nb : noTuple (S b) = true := rfl
  simp [iMkSl, fillL, zrep, setAt, va, vb, na, nb]

section
variable {W : List Tx} (ok : Ok W) {h : Heap} {v kv : Value} {im ic : Nat} {K : Value → Heap → Prop}
include ok

/-- One key, all words. -/
theorem keyC (i1 : h.length ≤ im) (i2 : ic ≠ im) {l0 l1 : List (Tx × Tx)} {a : Tx} {more : Bool} {kn : Nat} {idx : Value} {L1 L2 : List Value → Heap → Prop} {g : Heap} (hv : SS h v W) (ha : ∃ t, look a l1 = some t) (st : St h im ic l1 g) (gd : Good W l1) (h1 : more = true → mu W l1 < mu W l0) (h2 : more = false → l1 = l0)
    (hk : ∀ more' l' g', St h im ic l' g' → CX g g' → Good W l' → Dn l1 l' → (more' = true → mu W l' < mu W l0) → (more' = false → more = false ∧ l' = l0 ∧ ∀ w ∈ W, Clo l0 a w) → p18z67 Tryd.prog K v (pt ic 0) (rchV ic) (B more') kv (I kn) idx L1 L2 g') :
    LoopP [B more, I 0] g fun L3 xs hx => p18z51 Tryd.prog K v (pt ic 0) (rchV ic) (S a) kv (I kn) idx v (I W.length) L1 L2 L3 xs hx := by
  have few := ok.few
  have e1 : ∀ s : List UInt8, iBin .eql (S s) (.string ⟨#[]⟩) = some (B (decide (s = []))) := fun s => by show iBin .eql (S s) (S []) = _; rw [bin_eqlS]
  refine loopL (σ := Bool × Nat × List (Tx × Tx) × Heap) (fun q => [B q.1, I q.2.1]) (fun q => q.2.2.2) (fun q => q.2.1 ≤ W.length ∧ St h im ic q.2.2.1 q.2.2.2 ∧ CX g q.2.2.2 ∧ Good W q.2.2.1 ∧ Dn l1 q.2.2.1 ∧ (q.1 = true → mu W q.2.2.1 < mu W l0) ∧ (q.1 = false → more = false ∧ q.2.2.1 = l0 ∧ ∀ j (hj : j < W.length), j < q.2.1 → Clo l0 a W[j])) (fun q => W.length - q.2.1) (more, 0, l1, g) rfl rfl ⟨Nat.zero_le _, st, CX.refl g, gd, Dn.refl l1, h1, fun hm => ⟨hm, h2 hm, fun j _ hj => absurd hj (Nat.not_lt_zero _)⟩⟩ ?_
  rintro ⟨m, j, l, g1⟩ ⟨hj, s1, cx, gd1, dn, h3, h4⟩ L hL
  simp only at hj s1 cx gd1 dn h3 h4 hL ⊢
  rw [q18z51]
  simp only [bin_lss, OP_some, IfP_dec]
  refine ⟨fun hlt => ?_, fun hge => ?_⟩
  · have hlt : j < W.length := by omega
    obtain ⟨b, o, a1, a2⟩ := (hv.mono s1.ex).get j hlt
    have mem := List.getElem_mem hlt
    have wl := ok.le _ mem
    -- the step ends: a new map, what it has of this word
    have step : ∀ m' l2 g2, St h im ic l2 g2 → CX g1 g2 → Good W l2 → Dn l l2 → (m' = true → mu W l2 < mu W l0) → (m' = false → m = false ∧ l2 = l ∧ Clo l2 a W[j]) → p18z66 Tryd.prog K v (pt ic 0) (rchV ic) (B m') (S a) kv (I kn) idx v (I W.length) (I j) L1 L2 L g2 := by
      intro m' l2 g2 s2 cx2 gd2 dn2 q1 q2
      rw [q18z66]
      simp only [bin_add, OP_some, true_and]
      rw [incM j (by simp [maxLen]; omega)]
      refine hL (m', j + 1, l2, g2) ⟨hlt, s2, cx.trans cx2, gd2, dn.trans dn2, q1, fun hm => ?_⟩ (by show W.length - (j + 1) < W.length - j; omega)
      obtain ⟨r1, r2, r3⟩ := q2 hm
      obtain ⟨r4, r5, r6⟩ := h4 r1
      have el : l2 = l0 := r2.trans r5
      refine ⟨r4, el, fun j' hj' hlt' => ?_⟩
      have hlt' : j' < j + 1 := hlt'
      rcases Nat.lt_succ_iff_lt_or_eq.1 hlt' with h' | h'
      · exact r6 j' hj' h'
      · subst h'; exact el ▸ r3
    have same : (Clo l a W[j]) → p18z66 Tryd.prog K v (pt ic 0) (rchV ic) (B m) (S a) kv (I kn) idx v (I W.length) (I j) L1 L2 L g1 := fun hc => step m l g1 s1 (CX.refl g1) gd1 (Dn.refl l) h3 fun hm => ⟨hm, rfl, hc⟩
    simp only [a1, a2, OP_some, e1, IfP_dec]
    refine ⟨fun h0 => same fun hn => absurd h0 hn, fun h0 => ?_⟩
    obtain ⟨t0, ht0⟩ := ha
    obtain ⟨t, ht, _⟩ := dn _ _ ht0
    have rc := gd1.rc a t ht
    have tl := gd1.ln a t ht
    have fw := gd1.few ok
    have ld : ∀ g', St h im ic l g' → iLoad false 1 g' (pt ic 0) = some (.map (some im)) := fun g' s => by simp [iLoad, objCells, s.hc, iPart]
    have lk : ∀ g', St h im ic l g' → iLookupG .str false (.string ⟨#[]⟩) g' (.map (some im)) (S a) = some (S t) := fun g' s => by
      simp only [iLookupG, s.hm, findG_tmap, ht]
      rfl
    refine C37 ?_
    simp only [IfP_dec]
    refine ⟨fun hp => ?_, fun hp => C37 ?_⟩
    · simp only [lenS_S, OP_some, slS_lo (a := W[j]) hp.length_le .i64, ld g1 s1, lk g1 s1, mk2, OH_some]
      have dl : (W[j].drop a.length).length ≤ 10 := by rw [List.length_drop]; omega
      refine C39 (by omega) get_last ?_
      refine reachS ok i1 i2 (s1.push (EX.append _ _)) gd1 (Rc.fwd rc h0 mem hp) (by rw [List.length_append]; omega) ?_
      intro bb l2 g2 s2 cx2 gd2 dn2 new q1 q2
      have cx3 : CX g1 g2 := (CX.ex (EX.append _ _)).trans cx2
      rw [q18z62]
      cases bb with
      | true =>
        simp only [GdP_tf, q18z64, iPick_t, OP_some]
        refine step true l2 g2 s2 cx3 gd2 dn2 (fun _ => ?_) fun h => by cases h
        have := q1 rfl
        cases m with
        | true => have := h3 rfl; omega
        | false => rw [(h4 rfl).2.1] at this; exact this
      | false =>
        simp only [GdP_ff, q18z64, iPick_f, OP_some]
        have el := q2 rfl
        subst el
        refine step m l2 g2 s2 cx3 gd2 dn2 h3 fun hm => ⟨hm, rfl, fun _ t' ht' => ⟨fun _ => ?_, fun hn => absurd hp hn⟩⟩
        rw [ht] at ht'
        cases ht'
        exact new
    · simp only [IfP_dec]
      refine ⟨fun hq => ?_, fun hq => same fun _ t' _ => ⟨fun h => absurd h hp, fun _ h => absurd h hq⟩⟩
      simp only [lenS_S, OP_some, slS_lo (a := a) hq.length_le .i64, ld g1 s1, lk g1 s1, true_and]
      refine reachS ok i1 i2 s1 gd1 (Rc.bwd rc h0 mem hq) (by omega) ?_
      intro bb l2 g2 s2 cx3 gd2 dn2 new q1 q2
      cases bb with
      | true =>
        simp only [GdP_tf, iPick_t, OP_some]
        refine step true l2 g2 s2 cx3 gd2 dn2 (fun _ => ?_) fun h => by cases h
        have := q1 rfl
        cases m with
        | true => have := h3 rfl; omega
        | false => rw [(h4 rfl).2.1] at this; exact this
      | false =>
        simp only [GdP_ff, iPick_f, OP_some]
        have el := q2 rfl
        subst el
        refine step m l2 g2 s2 cx3 gd2 dn2 h3 fun hm => ⟨hm, rfl, fun _ t' ht' => ⟨fun h => absurd h hp, fun _ _ => ?_⟩⟩
        rw [ht] at ht'
        cases ht'
        exact new
  · refine hk m l g1 s1 cx gd1 dn h3 fun hm => ?_
    obtain ⟨r1, r2, r3⟩ := h4 hm
    refine ⟨r1, r2, fun w hw => ?_⟩
    obtain ⟨j', hj', rfl⟩ := List.getElem_of_mem hw
    exact r3 j' hj' (by omega)

/-- One pass. -/
theorem passC (i1 : h.length ≤ im) (i2 : ic ≠ im) {l0 : List (Tx × Tx)} {ks : List Tx} {L1 : List Value → Heap → Prop} {g : Heap} (hv : SS h v W) (hkv : SS g kv ks) (hks : ∀ a ∈ ks, ∃ t, look a l0 = some t) (hln : ks.length ≤ 1000000) (st : St h im ic l0 g) (gd : Good W l0)
    (hk : ∀ more' l' g', St h im ic l' g' → Good W l' → Dn l0 l' → (more' = true → mu W l' < mu W l0) → (more' = false → l' = l0 ∧ ∀ a ∈ ks, ∀ w ∈ W, Clo l0 a w) → L1 [B more'] g') :
    LoopP [B false, I 0] g fun L2 xs hx => p18z43 Tryd.prog K v (pt ic 0) (rchV ic) kv (I ks.length) L1 L2 xs hx := by
  refine loopL (σ := Bool × Nat × List (Tx × Tx) × Heap) (fun q => [B q.1, I q.2.1]) (fun q => q.2.2.2) (fun q => q.2.1 ≤ ks.length ∧ St h im ic q.2.2.1 q.2.2.2 ∧ CX g q.2.2.2 ∧ Good W q.2.2.1 ∧ Dn l0 q.2.2.1 ∧ (q.1 = true → mu W q.2.2.1 < mu W l0) ∧ (q.1 = false → q.2.2.1 = l0 ∧ ∀ j (hj : j < ks.length), j < q.2.1 → ∀ w ∈ W, Clo l0 ks[j] w)) (fun q => ks.length - q.2.1) (false, 0, l0, g) rfl rfl ⟨Nat.zero_le _, st, CX.refl g, gd, Dn.refl l0, fun h => (by cases h), fun _ => ⟨rfl, fun j _ hj => absurd hj (Nat.not_lt_zero _)⟩⟩ ?_
  rintro ⟨m, j, l, g1⟩ ⟨hj, s1, cx, gd1, dn, h3, h4⟩ L hL
  simp only at hj s1 cx gd1 dn h3 h4 hL ⊢
  rw [q18z43]
  simp only [bin_lss, OP_some, IfP_dec]
  refine ⟨fun hlt => ?_, fun hge => ⟨trivial, ?_⟩⟩
  · have hlt : j < ks.length := by omega
    obtain ⟨b, o, a1, a2⟩ := (SS.monoC cx hkv).get j hlt
    simp only [a1, a2, OP_some, hv.len]
    obtain ⟨t0, ht0⟩ := hks _ (List.getElem_mem hlt)
    obtain ⟨t1, ht1, _⟩ := dn _ _ ht0
    refine keyC ok i1 i2 hv ⟨t1, ht1⟩ s1 gd1 h3 (fun hm => (h4 hm).1) ?_
    intro m' l2 g2 s2 cx2 gd2 dn2 q1 q2
    rw [q18z67]
    simp only [bin_add, OP_some, true_and]
    rw [incM j (by simp [maxLen]; omega)]
    refine hL (m', j + 1, l2, g2) ⟨hlt, s2, cx.trans cx2, gd2, dn.trans dn2, q1, fun hm => ?_⟩ (by show ks.length - (j + 1) < ks.length - j; omega)
    obtain ⟨r1, r2, r3⟩ := q2 hm
    refine ⟨r2, fun j' hj' hlt' => ?_⟩
    have hlt' : j' < j + 1 := hlt'
    rcases Nat.lt_succ_iff_lt_or_eq.1 hlt' with h' | h'
    · exact (h4 r1).2 j' hj' h'
    · subst h'; exact r3
  · refine hk m l g1 s1 gd1 dn h3 fun hm => ⟨(h4 hm).1, fun a ha => ?_⟩
    obtain ⟨j', hj', rfl⟩ := List.getElem_of_mem ha
    exact (h4 hm).2 j' hj' (by omega)

theorem loopC (i1 : h.length ≤ im) (i2 : ic ≠ im) {l : List (Tx × Tx)} {g : Heap} (hv : SS h v W) (st : St h im ic l g) (gd : Good W l) (hi : Ini W l)
    (hno : (∀ t, ¬ Rc W [] t) → ∀ h', EX h h' → K (.tuple #[S [], I 5]) h')
    (hyes : ∀ t, Rc W [] t → (∀ t', Rc W [] t' → rk t ≤ rk t') → ∀ h', EX h h' → K (.tuple #[S t, I 0]) h') : p18z32 Tryd.prog K v (pt ic 0) (rchV ic) g := by
  rw [q18z32]
  have ld : ∀ l g', St h im ic l g' → iLoad false 1 g' (pt ic 0) = some (.map (some im)) := fun l g' s => by simp [iLoad, objCells, s.hc, iPart]
  refine loopL (σ := Bool × List (Tx × Tx) × Heap) (fun q => [B q.1]) (fun q => q.2.2) (fun q => St h im ic q.2.1 q.2.2 ∧ Good W q.2.1 ∧ Ini W q.2.1 ∧ (q.1 = false → ∀ a t, look a q.2.1 = some t → ∀ w ∈ W, Clo q.2.1 a w)) (fun q => 2 * mu W q.2.1 + (if q.1 then 1 else 0)) (true, l, g) rfl rfl ⟨st, gd, hi, fun h => by cases h⟩ ?_
  rintro ⟨m, l1, g1⟩ ⟨s1, gd1, in1, cl⟩ L hL
  simp only at s1 gd1 in1 cl hL ⊢
  have few := gd1.few ok
  rw [q18z36]
  cases m with
  | true =>
    simp only [IfP_true, ld _ _ s1, OP_some]
    refine keysC s1.hm (by omega) ?_
    intro kv g2 x2 hkv
    simp only [hkv.len, OP_some]
    have mem : ∀ a, a ∈ sortS (l1.map Prod.fst) ↔ a ∈ l1.map Prod.fst := fun a => (sortS_perm _).mem_iff
    refine passC ok i1 i2 hv hkv (fun a ha => mem_look ((mem a).1 ha)) (by rw [(sortS_perm _).length_eq, List.length_map]; omega) (s1.push x2) gd1 ?_
    intro m' l2 g3 s3 gd3 dn q1 q2
    refine hL (m', l2, g3) ⟨s3, gd3, in1.dn dn, fun hm a t ht w hw => ?_⟩ ?_
    · obtain ⟨r1, r2⟩ := q2 hm
      simp only at r1 ht ⊢
      rw [r1] at ht ⊢
      exact r2 a ((mem a).2 (List.mem_map.2 ⟨_, look_mem ht, rfl⟩)) w hw
    · show 2 * mu W l2 + (if m' = true then 1 else 0) < 2 * mu W l1 + 1
      cases m' with
      | true => have := q1 rfl; simp only [if_true]; omega
      | false => rw [(q2 rfl).1]; simp
  | false =>
    simp only [IfP_false]
    rw [q18z68]
    have e2 : iLookupG .str true (.string ⟨#[]⟩) g1 (.map (some im)) (S []) = some (.tuple #[((look [] l1).map S).getD (S []), B (look [] l1).isSome]) := by
      simp only [iLookupG, s1.hm, findG_tmap]
      cases look [] l1 <;> rfl
    have e2' : iLookupG .str true (.string ⟨#[]⟩) g1 (.map (some im)) (.string ⟨#[]⟩) = some (.tuple #[((look [] l1).map S).getD (S []), B (look [] l1).isSome]) := e2
    simp only [ld _ _ s1, OP_some, e2', ext_tuple, pair0, pair1, un_not]
    have key : ∀ {t : Tx}, Rc W [] t → ∃ t', look [] l1 = some t' ∧ rk t' ≤ rk t := fun r => least in1 (cl rfl) r
    cases hl : look [] l1 with
    | none =>
      simp only [Option.isSome_none, Bool.not_false, IfP_true]
      refine hno (fun t r => ?_) _ s1.ex
      obtain ⟨t', e, _⟩ := key r
      rw [hl] at e
      cases e
    | some t =>
      simp only [Option.isSome_some, Bool.not_true, IfP_false, Option.map_some, Option.getD_some]
      refine hyes t (gd1.rc _ _ hl) (fun t' r => ?_) _ s1.ex
      obtain ⟨u, e, hle⟩ := key r
      rw [hl] at e
      cases e
      exact hle

end

theorem codeOk_Ok {ls : List Tx} (h : chkE ls [] = 0) : ls ≠ [] ∧ Ok ls := by
  unfold chkE at h
  split at h
  · cases h
  · rename_i h1
    split at h
    · cases h
    · rename_i h2
      split at h
      · rename_i h3
        exact ⟨fun e => h2 (.inl e), ⟨h3.1, fun w hw => (h3.2 w hw).1, fun w hw => (h3.2 w hw).2.1, fun w hw => (h3.2 w hw).2.2, by omega⟩⟩
      · cases h

theorem C18 {b : Nat} {v : Value} {ls : List Tx} {h : Heap} {K : Value → Heap → Prop} (hv : OwnS b h 9 v (ls.map S)) (hl : ls.length < 1000000) (hw : ∀ w ∈ ls, w.length < 4611686018427387904)
    (he : chkE ls [] ≠ 0 → ∀ h', EX h h' → K (.tuple #[S [], I (chkE ls [])]) h')
    (hno : chkE ls [] = 0 → (∀ t, ¬ Rc ls [] t) → ∀ h', EX h h' → K (.tuple #[S [], I 5]) h')
    (hyes : chkE ls [] = 0 → ∀ t, Rc ls [] t → (∀ t', Rc ls [] t' → rk t ≤ rk t') → ∀ h', EX h h' → K (.tuple #[S t, I 0]) h') : CallP Tryd.prog 18 [v] h K := by
  refine f18 ?_
  unfold T18
  have nilS : (.string ⟨#[]⟩ : Value) = S [] := rfl
  rw [nilS]
  refine C34 (s := []) hv hl hw (by simp) ?_
  intro h1 x1
  simp only [bin_neq, OP_some, IfP_ndec]
  refine ⟨fun hc => he hc h1 x1, fun hc => ?_⟩
  have ok := (codeOk_Ok hc).2
  have hs := (own_ss hv).mono x1
  have n1 : h1.length + 1 = (h1 ++ [IObj.gmap .str 0 []]).length := by simp
  have e1 : iAlloc 60 [(.map none)] (h1 ++ [IObj.gmap .str 0 []]) = some (pt (h1.length + 1) 0, h1 ++ [IObj.gmap .str 0 []] ++ [.arr 60 [.map none]]) := by
    rw [n1]; rfl
  have e2 : oStore 1 (h1 ++ [IObj.gmap .str 0 []] ++ [.arr 60 [.map none]]) (pt (h1.length + 1) 0) (.map (some h1.length)) = some (undef, h1 ++ [IObj.gmap .str 0 []] ++ [.arr 60 [.map (some h1.length)]]) := by
    have hg : (h1 ++ [IObj.gmap .str 0 []] ++ [IObj.arr 60 [.map none]])[h1.length + 1]? = some (.arr 60 [.map none]) := by rw [n1]; exact get_last
    rw [store_at hg (by simp) rfl rfl, n1]
    simp
  simp only [iMkMapG, OH_some, e1, e2, hs.len, OP_some]
  have ex : EX h1 (h1 ++ [IObj.gmap .str 0 []] ++ [.arr 60 [.map (some h1.length)]]) := (EX.append _ _).trans (EX.append _ _)
  refine iniC ok hs (Nat.le_refl _) (by omega) ⟨ex, ?_, ?_⟩ ?_
  · have : (h1 ++ [IObj.gmap .str 0 []])[h1.length]? = some (.gmap .str 0 []) := get_last
    exact (EX.append _ _).get this
  · rw [n1]; exact get_last
  · intro l g s gd hi
    exact loopC ok (Nat.le_refl _) (by omega) hs s gd hi (fun q h' x => hno hc q h' (x1.trans x)) fun t r q h' x => hyes hc t r q h' (x1.trans x)

end Go.Proofs.YthplaillblmgfaaDoor


namespace Go.Sim

def lenOk (ls : List Nat) : Prop := ∀ l ∈ ls, 1 ≤ l ∧ l ≤ 10

theorem rmN_range {l : Nat} (h1 : 1 ≤ l) (h2 : l ≤ 10) : 1 ≤ rmN l ∧ rmN l ≤ 512 := by
  have : l = 1 ∨ l = 2 ∨ l = 3 ∨ l = 4 ∨ l = 5 ∨ l = 6 ∨ l = 7 ∨ l = 8 ∨ l = 9 ∨ l = 10 := by omega
  rcases this with rfl | rfl | rfl | rfl | rfl | rfl | rfl | rfl | rfl | rfl <;> decide

theorem fitN_bd {a l : Nat} (h1 : 1 ≤ l) (h2 : l ≤ 10) : a ≤ fitN a l ∧ fitN a l < a + rmN l := by
  have hp := (rmN_range h1 h2).1
  unfold fitN
  have e := Nat.div_add_mod (a + rmN l - 1) (rmN l)
  have m := Nat.mod_lt (a + rmN l - 1) hp
  rw [Nat.mul_comm]
  generalize rmN l * ((a + rmN l - 1) / rmN l) = z at *
  omega

/-! ### Weights in another order -/

/-! ### Rising words cost no less; weights that fall -/

/-! ### One letter more -/

end Go.Sim


namespace Go.Proofs.YthplaillblmgfaaDoor
open Go.Sim
variable (P : Program) (K : VK)
/-! F4: pommel/pommellaw08.MarkFalling -/
noncomputable def c4z14 : ICode := .seq (.seq (.dops [(none, [⟨(some 31), .p (.mv (.tmp 8)), 0⟩,
 ⟨(some 32), .p (.bin .gtr (.tmp 31) (.const (.int .i64 (0)))), 1⟩,
 ⟨(some 33), .p (.mv (.tmp 32)), 3⟩]),
 ((some (33, true)), [⟨(some 34), .p (.mv (.tmp 6)), 7⟩,
 ⟨(some 35), .p (.mv (.tmp 8)), 7⟩,
 ⟨(some 36), .p (.bin .sub (.tmp 35) (.const (.int .i64 (1)))), 23⟩,
 ⟨(some 37), .p (.adrSl 1 (.tmp 34) (.tmp 36)), 63⟩,
 ⟨(some 38), .l (.load false 1 (.tmp 37)), 127⟩,
 ⟨(some 39), .p (.mv (.tmp 5)), 7⟩,
 ⟨(some 40), .p (.mv (.tmp 7)), 7⟩,
 ⟨(some 41), .p (.adrSl 1 (.tmp 39) (.tmp 40)), 775⟩,
 ⟨(some 42), .l (.load false 1 (.tmp 41)), 1799⟩,
 ⟨(some 43), .p (.bin .lss (.tmp 38) (.tmp 42)), 4095⟩]),
 (none, [⟨(some 44), .p (.pick (.tmp 33) (.tmp 43) (.const (.bool false))), 8191⟩])])
 (.cond (.tmp 44) (.skip)
 (.exit 2)))
 (.block 3 (.ops none [⟨(some 45), .p (.mv (.tmp 8))⟩,
 ⟨(some 46), .p (.bin .sub (.tmp 45) (.const (.int .i64 (1))))⟩,
 ⟨(some 8), .p (.mv (.tmp 46))⟩]))
noncomputable def c4z18 : ICode := .dops [(none, [⟨(some 47), .e (.fl (.mkSl 3 0 [(.int .i64 (0))] [])), 0⟩,
 ⟨(some 52), .p (.mv (.tmp 5)), 0⟩,
 ⟨(some 53), .p (.mv (.tmp 7)), 0⟩,
 ⟨(some 54), .p (.adrSl 1 (.tmp 52) (.tmp 53)), 6⟩,
 ⟨(some 55), .l (.load false 1 (.tmp 54)), 14⟩,
 ⟨(some 56), .e (.fl (.mkSl 3 1 [(.int .i64 (0))] [(0, 1, (.tmp 55))])), 30⟩,
 ⟨(some 48), .p (.mv (.tmp 6)), 0⟩,
 ⟨(some 49), .p (.mv (.tmp 8)), 0⟩,
 ⟨(some 50), .p (.slSl 3 1 (.tmp 48) none (some (.tmp 49))), 192⟩,
 ⟨(some 51), .e (.app 3 1 8 (.tmp 47) (.tmp 50)), 449⟩,
 ⟨(some 57), .e (.app 3 1 8 (.tmp 51) (.tmp 56)), 1023⟩,
 ⟨(some 58), .p (.mv (.tmp 6)), 0⟩,
 ⟨(some 59), .p (.mv (.tmp 8)), 0⟩,
 ⟨(some 60), .p (.slSl 3 1 (.tmp 58) (some (.tmp 59)) none), 6144⟩,
 ⟨(some 61), .e (.app 3 1 8 (.tmp 57) (.tmp 60)), 16383⟩,
 ⟨(some 6), .p (.mv (.tmp 61)), 32767⟩])]
noncomputable def c4z12 : ICode := .cut [1, 5, 6, 7, 8] c4z18
noncomputable def c4z19 : ICode := .ops none [⟨(some 27), .p (.mv (.tmp 7))⟩,
 ⟨(some 28), .p (.bin .add (.tmp 27) (.const (.int .i64 (1))))⟩,
 ⟨(some 7), .p (.mv (.tmp 28))⟩]
noncomputable def c4z9 : ICode := .cut [1, 5, 6, 7] c4z19
noncomputable def c4z6 : ICode := .seq (.seq (.ops none [⟨(some 23), .p (.mv (.tmp 7))⟩,
 ⟨(some 24), .p (.mv (.tmp 5))⟩,
 ⟨(some 25), .p (.lenSl (.tmp 24))⟩,
 ⟨(some 26), .p (.bin .lss (.tmp 23) (.tmp 25))⟩])
 (.cond (.tmp 26) (.skip)
 (.exit 0)))
 (.seq (.block 1 (.seq (.ops none [⟨(some 29), .p (.mv (.tmp 6))⟩,
 ⟨(some 30), .p (.lenSl (.tmp 29))⟩,
 ⟨(some 8), .p (.mv (.tmp 30))⟩])
 (.seq (.block 2 (.loop [1, 5, 6, 7] [8] c4z14)) c4z12))) c4z9)
noncomputable def c4z46 : ICode := .ops none [⟨(some 116), .p (.pick (.tmp 114) (.tmp 115) (.const (.bool false)))⟩,
 ⟨(some 4), .p (.mv (.tmp 116))⟩]
noncomputable def c4z44 : ICode := .seq (.ops (some (114, true)) [⟨(some 115), .call 13 []⟩])
 (.cut [114, 115] c4z46)
noncomputable def c4z42 : ICode := .seq (.ops none [⟨(some 113), .p (.pick (.tmp 109) (.tmp 112) (.const (.bool false)))⟩,
 ⟨(some 114), .p (.mv (.tmp 113))⟩])
 (.cut [114] c4z44)
noncomputable def c4z40 : ICode := .seq (.ops (some (109, true)) [⟨(some 110), .p (.mv (.tmp 12))⟩,
 ⟨(some 111), .p (.mv (.tmp 18))⟩,
 ⟨(some 112), .p (.bin .eql (.tmp 110) (.tmp 111))⟩])
 (.cut [109, 112] c4z42)
noncomputable def c4z38 : ICode := .seq (.ops none [⟨(some 108), .p (.pick (.tmp 104) (.tmp 107) (.const (.bool false)))⟩,
 ⟨(some 109), .p (.mv (.tmp 108))⟩])
 (.cut [12, 18, 109] c4z40)
noncomputable def c4z36 : ICode := .seq (.ops (some (104, true)) [⟨(some 105), .p (.mv (.tmp 12))⟩,
 ⟨(some 106), .p (.mv (.tmp 15))⟩,
 ⟨(some 107), .p (.bin .eql (.tmp 105) (.tmp 106))⟩])
 (.cut [12, 18, 104, 107] c4z38)
noncomputable def c4z34 : ICode := .seq (.ops none [⟨(some 103), .p (.pick (.tmp 100) (.tmp 102) (.const (.bool false)))⟩,
 ⟨(some 104), .p (.mv (.tmp 103))⟩])
 (.cut [12, 15, 18, 104] c4z36)
noncomputable def c4z32 : ICode := .seq (.ops (some (100, true)) [⟨(some 101), .p (.mv (.tmp 19))⟩,
 ⟨(some 102), .p (.bin .eql (.tmp 101) (.const (.int .i64 (0))))⟩])
 (.cut [12, 15, 18, 100, 102] c4z34)
noncomputable def c4z30 : ICode := .seq (.ops none [⟨(some 99), .p (.pick (.tmp 96) (.tmp 98) (.const (.bool false)))⟩,
 ⟨(some 100), .p (.mv (.tmp 99))⟩])
 (.cut [12, 15, 18, 19, 100] c4z32)
noncomputable def c4z28 : ICode := .seq (.ops (some (96, true)) [⟨(some 97), .p (.mv (.tmp 16))⟩,
 ⟨(some 98), .p (.bin .eql (.tmp 97) (.const (.int .i64 (0))))⟩])
 (.cut [12, 15, 18, 19, 96, 98] c4z30)
noncomputable def c4z26 : ICode := .ret
noncomputable def c4z20 : ICode := .seq (.ops none [⟨(some 62), .p (.mv (.tmp 1))⟩,
 ⟨(some 63), .p (.conv .i64 (.tmp 62))⟩,
 ⟨(some 64), .p (.mv (.tmp 5))⟩,
 ⟨(some 65), .p (.lenSl (.tmp 64))⟩,
 ⟨(some 66), .p (.bin .rem (.tmp 63) (.tmp 65))⟩,
 ⟨(some 9), .p (.mv (.tmp 66))⟩])
 (.seq (.dops [(none, [⟨(some 67), .e (.mkSl 3 0 [(.int .i64 (0))] []), 0⟩,
 ⟨(some 68), .p (.mv (.tmp 5)), 0⟩,
 ⟨(some 69), .p (.mv (.tmp 9)), 0⟩,
 ⟨(some 70), .p (.slSl 3 1 (.tmp 68) (some (.tmp 69)) none), 6⟩,
 ⟨(some 71), .e (.app 3 1 8 (.tmp 67) (.tmp 70)), 15⟩,
 ⟨(some 72), .p (.mv (.tmp 5)), 0⟩,
 ⟨(some 73), .p (.mv (.tmp 9)), 0⟩,
 ⟨(some 74), .p (.slSl 3 1 (.tmp 72) none (some (.tmp 73))), 96⟩,
 ⟨(some 75), .e (.app 3 1 8 (.tmp 71) (.tmp 74)), 255⟩,
 ⟨(some 10), .p (.mv (.tmp 75)), 511⟩])])
 (.seq (.ops none [⟨(some 77), .p (.mv (.tmp 6))⟩,
 ⟨(some 78), .call 10 [(.tmp 77)]⟩,
 ⟨(some 76), .p (.mv (.tmp 78))⟩,
 ⟨(some 79), .p (.ext (.tmp 76) 0)⟩,
 ⟨(some 80), .p (.ext (.tmp 76) 1)⟩,
 ⟨(some 81), .p (.ext (.tmp 76) 2)⟩,
 ⟨(some 11), .p (.mv (.tmp 79))⟩,
 ⟨(some 12), .p (.mv (.tmp 80))⟩,
 ⟨(some 13), .p (.mv (.tmp 81))⟩])
 (.seq (.ops none [⟨(some 83), .p (.mv (.tmp 6))⟩,
 ⟨(some 84), .call 11 [(.tmp 83)]⟩,
 ⟨(some 82), .p (.mv (.tmp 84))⟩,
 ⟨(some 85), .p (.ext (.tmp 82) 0)⟩,
 ⟨(some 86), .p (.ext (.tmp 82) 1)⟩,
 ⟨(some 87), .p (.ext (.tmp 82) 2)⟩,
 ⟨(some 14), .p (.mv (.tmp 85))⟩,
 ⟨(some 15), .p (.mv (.tmp 86))⟩,
 ⟨(some 16), .p (.mv (.tmp 87))⟩])
 (.seq (.ops none [⟨(some 89), .p (.mv (.tmp 10))⟩,
 ⟨(some 90), .call 10 [(.tmp 89)]⟩,
 ⟨(some 88), .p (.mv (.tmp 90))⟩,
 ⟨(some 91), .p (.ext (.tmp 88) 0)⟩,
 ⟨(some 92), .p (.ext (.tmp 88) 1)⟩,
 ⟨(some 93), .p (.ext (.tmp 88) 2)⟩,
 ⟨(some 17), .p (.mv (.tmp 91))⟩,
 ⟨(some 18), .p (.mv (.tmp 92))⟩,
 ⟨(some 19), .p (.mv (.tmp 93))⟩])
 (.seq (.seq (.ops none [⟨(some 94), .p (.mv (.tmp 13))⟩,
 ⟨(some 95), .p (.bin .eql (.tmp 94) (.const (.int .i64 (0))))⟩,
 ⟨(some 96), .p (.mv (.tmp 95))⟩])
 (.cut [12, 15, 16, 18, 19, 96] c4z28)) c4z26)))))
noncomputable def c4z3 : ICode := .cut [1, 5, 6] c4z20
noncomputable def c4 : ICode := .seq (.ops none [⟨(some 4), .p (.mv (.const (.bool false)))⟩])
 (.seq (.ops none [⟨(some 20), .p (.mv (.tmp 0))⟩,
 ⟨(some 21), .call 16 [(.tmp 20)]⟩,
 ⟨(some 22), .e (.mkSl 3 0 [(.int .i64 (0))] [])⟩,
 ⟨(some 5), .p (.mv (.tmp 21))⟩,
 ⟨(some 6), .p (.mv (.tmp 22))⟩])
 (.seq (.seq (.ops none [⟨(some 7), .p (.mv (.const (.int .i64 (0))))⟩])
 (.block 0 (.loop [1, 5] [6, 7] c4z6))) c4z3))
theorem k4 : compFn Tryd.prog 4 [[], [], [], [1, 5], [6, 7], [], [], [], [1, 5, 6, 7], [8], [], [], [1, 5, 6, 7, 8], [1, 5, 6, 7], [1, 5, 6], [], [], [], [], [], [12, 15, 16, 18, 19, 96], [12, 15, 18, 19, 96, 98], [12, 15, 18, 19, 100], [12, 15, 18, 100, 102], [12, 15, 18, 104], [12, 18, 104, 107], [12, 18, 109], [109, 112], [114], [114, 115], []] = some (117, c4, [.tmp 4]) := by kernel_rfl
def K4z0 (_P : Program) (K : VK) : Kont := bodyP [.tmp 4] K
def K4z3 : Kont := thenK (iwpP P c4z3 (K4z0 P K)) (K4z0 P K)
def K4z5 : Kont := inBlockK 0 (K4z3 P K)
def K4z6 (by1 w5 : Value) (L1 : LK) : Kont := thenK (fun f' h'' => (([1, 5] : List Nat).map f' : List Value) = [by1, w5] ∧ L1 (([6, 7] : List Nat).map f') h'') (K4z5 P K)
def p4z6 (by1 w5 : Value) (L1 : LK) (xs : List Value) (h : Heap) : Prop := CutP (iwpP P c4z6 (K4z6 P K by1 w5 L1)) ([1, 5] ++ [6, 7]) ([by1, w5] ++ xs) h
def T4 (x0 by1 : Value) (h : Heap) : Prop :=
 CallP P 16 [x0] h fun x21 h_1 =>
 OH (iMkSl 3 0 [(.int .i64 (0))] h_1 []) fun x22 h_2 =>
 LoopP [x22, (.int .i64 (0))] h_2 fun L1 xs hx =>
 p4z6 P K by1 x21 L1 xs hx
theorem e4 (x0 by1 : Value) (h : Heap) : iwpP P c4 (bodyP [.tmp 4] K) (frame0 [x0, by1]) h = T4 P K x0 by1 h := by kernel_rfl
theorem f4 {K : VK} {x0 by1 : Value} {h : Heap} (H : T4 Tryd.prog K x0 by1 h) : CallP Tryd.prog 4 [x0, by1] h K :=
 callP_intro k4 (Nat.le_of_ble_eq_true rfl) ((e4 Tryd.prog K x0 by1 h).mpr H)
/-! F16: pommel/pommellaw08.weights -/
end Go.Proofs.YthplaillblmgfaaDoor

namespace Go.Proofs.YthplaillblmgfaaDoor
open Go.Sim
variable (P : Program) (K : VK)
/-! F24: pommel/mark.Plain -/
/-! F25: pommel/mark.Rising -/
noncomputable def c25z11 : ICode := .seq (.ops none [⟨(some 17), .p (.bin .lss (.tmp 16) (.tmp 15))⟩])
 (.seq (.cond (.tmp 17) (.skip)
 (.exit 0))
 (.seq (.block 1 (.seq (.ops none [⟨(some 18), .p (.adrSl 1 (.tmp 14) (.tmp 16))⟩,
 ⟨(some 19), .l (.load false 1 (.tmp 18))⟩,
 ⟨(some 8), .p (.mv (.tmp 19))⟩])
 (.seq (.seq (.ops none [⟨(some 20), .p (.mv (.tmp 6))⟩,
 ⟨(some 21), .p (.mv (.tmp 8))⟩,
 ⟨(some 22), .call 44 [(.tmp 20), (.tmp 21)]⟩,
 ⟨(some 6), .p (.mv (.tmp 22))⟩])
 (.seq (.ops none [⟨(some 23), .p (.mv (.tmp 6))⟩,
 ⟨(some 24), .p (.mv (.tmp 8))⟩,
 ⟨(some 25), .call 45 [(.tmp 24)]⟩,
 ⟨(some 26), .p (.bin .add (.tmp 23) (.tmp 25))⟩,
 ⟨(some 27), .p (.bin .gtr (.tmp 26) (.const (.int .i64 (1024))))⟩])
 (.cond (.tmp 27) (.seq (.ops none [⟨(some 2), .p (.mv (.const (.slice none 0 0)))⟩,
 ⟨(some 3), .p (.mv (.const (.int .i64 (5))))⟩])
 (.ret))
 (.skip))))
 (.seq (.ops none [⟨(some 28), .p (.mv (.tmp 5))⟩,
 ⟨(some 29), .p (.mv (.tmp 6))⟩,
 ⟨(some 30), .p (.mv (.tmp 8))⟩,
 ⟨(some 31), .call 46 [(.tmp 29), (.tmp 30)]⟩,
 ⟨(some 32), .e (.mkSl 9 1 [(.string ⟨#[]⟩)] [(0, 1, (.tmp 31))])⟩,
 ⟨(some 33), .e (.app 9 1 16 (.tmp 28) (.tmp 32))⟩,
 ⟨(some 5), .p (.mv (.tmp 33))⟩])
 (.ops none [⟨(some 34), .p (.mv (.tmp 6))⟩,
 ⟨(some 35), .p (.mv (.tmp 8))⟩,
 ⟨(some 36), .call 45 [(.tmp 35)]⟩,
 ⟨(some 37), .p (.bin .add (.tmp 34) (.tmp 36))⟩,
 ⟨(some 6), .p (.mv (.tmp 37))⟩])))))
 (.ops none [⟨(some 38), .p (.bin .add (.tmp 16) (.const (.int .i64 (1))))⟩,
 ⟨(some 16), .p (.mv (.tmp 38))⟩])))
noncomputable def c25z22 : ICode := .seq (.ops none [⟨(some 39), .p (.mv (.tmp 5))⟩,
 ⟨(some 2), .p (.mv (.tmp 39))⟩,
 ⟨(some 3), .p (.mv (.const (.int .i64 (0))))⟩])
 (.ret)
noncomputable def c25z8 : ICode := .cut [5] c25z22
noncomputable def c25 : ICode := .seq (.ops none [⟨(some 2), .p (.mv (.const (.slice none 0 0)))⟩,
 ⟨(some 3), .p (.mv (.const (.int .i64 (0))))⟩])
 (.seq (.seq (.ops none [⟨(some 9), .p (.mv (.tmp 0))⟩,
 ⟨(some 10), .call 43 [(.tmp 9)]⟩,
 ⟨(some 4), .p (.mv (.tmp 10))⟩])
 (.seq (.ops none [⟨(some 11), .p (.mv (.tmp 4))⟩,
 ⟨(some 12), .p (.bin .neq (.tmp 11) (.const (.int .i64 (0))))⟩])
 (.cond (.tmp 12) (.seq (.ops none [⟨(some 13), .p (.mv (.tmp 4))⟩,
 ⟨(some 2), .p (.mv (.const (.slice none 0 0)))⟩,
 ⟨(some 3), .p (.mv (.tmp 13))⟩])
 (.ret))
 (.skip))))
 (.seq (.ops none [⟨(some 5), .p (.mv (.const (.slice none 0 0)))⟩])
 (.seq (.ops none [⟨(some 6), .p (.mv (.const (.int .i64 (0))))⟩])
 (.seq (.seq (.ops none [⟨(some 14), .p (.mv (.tmp 0))⟩,
 ⟨(some 15), .p (.lenSl (.tmp 14))⟩,
 ⟨(some 16), .p (.mv (.const (.int .i64 (0))))⟩])
 (.block 0 (.loop [14, 15] [5, 6, 16] c25z11))) c25z8))))
theorem k25 : compFn Tryd.prog 25 [[], [], [], [], [], [], [], [], [14, 15], [5, 6, 16], [], [], [], [], [], [], [], [], [], [5], []] = some (40, c25, [.tmp 2, .tmp 3]) := by kernel_rfl
def K25z0 (_P : Program) (K : VK) : Kont := bodyP [.tmp 2, .tmp 3] K
def K25z8 : Kont := thenK (iwpP P c25z8 (K25z0 P K)) (K25z0 P K)
def K25z10 : Kont := inBlockK 0 (K25z8 P K)
def K25z11 (x14 x15 : Value) (L1 : LK) : Kont := thenK (fun f' h'' => (([14, 15] : List Nat).map f' : List Value) = [x14, x15] ∧ L1 (([5, 6, 16] : List Nat).map f') h'') (K25z10 P K)
def p25z11 (x14 x15 : Value) (L1 : LK) (xs : List Value) (h : Heap) : Prop := CutP (iwpP P c25z11 (K25z11 P K x14 x15 L1)) ([14, 15] ++ [5, 6, 16]) ([x14, x15] ++ xs) h
def p25z22 (out5 : Value) (h : Heap) : Prop := CutP (iwpP P c25z22 (K25z0 P K)) [5] [out5] h
theorem q25z11 (x14 x15 : Value) (L1 : LK) (out5 at6 x16 : Value) (h : Heap) : p25z11 P K x14 x15 L1 [out5, at6, x16] h =
 (OP (iBin .lss x16 x15) fun x17 =>
 IfP x17
 (OP (iAdrSl 1 x14 x16) fun x18 =>
 OP (iLoad false 1 h x18) fun x19 =>
 CallP P 44 [at6, x19] h fun x22 h_1 =>
 CallP P 45 [x19] h_1 fun x25 h_2 =>
 OP (iBin .add x22 x25) fun x26 =>
 OP (iBin .gtr x26 (.int .i64 (1024))) fun x27 =>
 IfP x27
 (K (.tuple #[(.slice none 0 0), (.int .i64 (5))]) h_2)
 (CallP P 46 [x22, x19] h_2 fun x31 h_3 =>
 OH (iMkSl 9 1 [(.string ⟨#[]⟩)] h_3 [(0, 1, x31)]) fun x32 h_4 =>
 OH (iApp 9 1 16 h_4 out5 x32) fun x33 h_5 =>
 CallP P 45 [x19] h_5 fun x36 h_6 =>
 OP (iBin .add x22 x36) fun x37 =>
 OP (iBin .add x16 (.int .i64 (1))) fun x38 =>
 ([x14, x15] : List Value) = [x14, x15] ∧ L1 [x33, x37, x38] h_6))
 (p25z22 P K out5 h)) := (CutP_def _ _ _ _).trans (by kernel_rfl)
theorem q25z22 (out5 : Value) (h : Heap) : p25z22 P K out5 h =
 (K (.tuple #[out5, (.int .i64 (0))]) h) := (CutP_def _ _ _ _).trans (by kernel_rfl)
def T25 (lengths0 : Value) (h : Heap) : Prop :=
 CallP P 43 [lengths0] h fun x10 h_1 =>
 OP (iBin .neq x10 (.int .i64 (0))) fun x12 =>
 IfP x12
 (K (.tuple #[(.slice none 0 0), x10]) h_1)
 (OP (iLenSl lengths0) fun x15 =>
 LoopP [(.slice none 0 0), (.int .i64 (0)), (.int .i64 (0))] h_1 fun L1 xs hx =>
 p25z11 P K lengths0 x15 L1 xs hx)
theorem e25 (lengths0 : Value) (h : Heap) : iwpP P c25 (bodyP [.tmp 2, .tmp 3] K) (frame0 [lengths0]) h = T25 P K lengths0 h := by kernel_rfl
theorem f25 {K : VK} {lengths0 : Value} {h : Heap} (H : T25 Tryd.prog K lengths0 h) : CallP Tryd.prog 25 [lengths0] h K :=
 callP_intro k25 (Nat.le_of_ble_eq_true rfl) ((e25 Tryd.prog K lengths0 h).mpr H)
/-! F43: pommel/mark.lengthy -/
noncomputable def c43z14 : ICode := .ops none [⟨(some 20), .p (.pick (.tmp 16) (.const (.bool true)) (.tmp 19))⟩,
 ⟨(some 7), .p (.mv (.tmp 20))⟩]
noncomputable def c43z12 : ICode := .seq (.ops (some (16, false)) [⟨(some 17), .p (.mv (.tmp 0))⟩,
 ⟨(some 18), .call 48 [(.tmp 17)]⟩,
 ⟨(some 19), .p (.bin .gtr (.tmp 18) (.const (.int .i64 (10))))⟩])
 (.cut [16, 19] c43z14)
noncomputable def c43z10 : ICode := .seq (.ops none [⟨(some 15), .p (.pick (.tmp 11) (.const (.bool true)) (.tmp 14))⟩,
 ⟨(some 16), .p (.mv (.tmp 15))⟩])
 (.cut [0, 16] c43z12)
noncomputable def c43z8 : ICode := .seq (.ops (some (11, false)) [⟨(some 12), .p (.mv (.tmp 0))⟩,
 ⟨(some 13), .call 47 [(.tmp 12)]⟩,
 ⟨(some 14), .p (.bin .lss (.tmp 13) (.const (.int .i64 (1))))⟩])
 (.cut [0, 11, 14] c43z10)
noncomputable def c43z6 : ICode := .cond (.tmp 7) (.seq (.ops none [⟨(some 2), .p (.mv (.const (.int .i64 (1))))⟩])
 (.ret))
 (.skip)
noncomputable def c43z2 : ICode := .seq (.ops none [⟨(some 2), .p (.mv (.const (.int .i64 (0))))⟩])
 (.ret)
noncomputable def c43 : ICode := .seq (.ops none [⟨(some 2), .p (.mv (.const (.int .i64 (0))))⟩])
 (.seq (.block 0 (.seq (.ops none [⟨(some 4), .p (.mv (.tmp 0))⟩,
 ⟨(some 5), .p (.lenSl (.tmp 4))⟩,
 ⟨(some 6), .p (.bin .gtr (.tmp 5) (.const (.int .i64 (12))))⟩,
 ⟨(some 3), .p (.mv (.tmp 6))⟩])
 (.cond (.tmp 3) (.seq (.ops none [⟨(some 2), .p (.mv (.const (.int .i64 (3))))⟩])
 (.ret))
 (.seq (.seq (.ops none [⟨(some 8), .p (.mv (.tmp 0))⟩,
 ⟨(some 9), .p (.lenSl (.tmp 8))⟩,
 ⟨(some 10), .p (.bin .eql (.tmp 9) (.const (.int .i64 (0))))⟩,
 ⟨(some 11), .p (.mv (.tmp 10))⟩])
 (.cut [0, 11] c43z8)) c43z6)))) c43z2)
theorem k43 : compFn Tryd.prog 43 [[], [], [], [0, 11], [0, 11, 14], [0, 16], [16, 19], [], [], [], []] = some (21, c43, [.tmp 2]) := by kernel_rfl
def K43z0 (_P : Program) (K : VK) : Kont := bodyP [.tmp 2] K
def K43z2 : Kont := thenK (iwpP P c43z2 (K43z0 P K)) (K43z0 P K)
def K43z3 : Kont := inBlockK 0 (K43z2 P K)
def K43z6 : Kont := thenK (iwpP P c43z6 (K43z3 P K)) (K43z3 P K)
def p43z8 (l0 x11 : Value) (h : Heap) : Prop := CutP (iwpP P c43z8 (K43z6 P K)) [0, 11] [l0, x11] h
def p43z10 (l0 x11 x14 : Value) (h : Heap) : Prop := CutP (iwpP P c43z10 (K43z6 P K)) [0, 11, 14] [l0, x11, x14] h
def p43z12 (l0 x16 : Value) (h : Heap) : Prop := CutP (iwpP P c43z12 (K43z6 P K)) [0, 16] [l0, x16] h
def p43z14 (x16 x19 : Value) (h : Heap) : Prop := CutP (iwpP P c43z14 (K43z6 P K)) [16, 19] [x16, x19] h
theorem q43z14 (x16 x19 : Value) (h : Heap) : p43z14 P K x16 x19 h =
 (OP (iPick x16 (.bool true) x19) fun x20 =>
 IfP x20
 (K (.int .i64 (1)) h)
 (K (.int .i64 (0)) h)) := (CutP_def _ _ _ _).trans (by kernel_rfl)
theorem q43z12 (l0 x16 : Value) (h : Heap) : p43z12 P K l0 x16 h =
 (GdP x16 false
 (CallP P 48 [l0] h fun x18 h_1 =>
 OP (iBin .gtr x18 (.int .i64 (10))) fun x19 =>
 p43z14 P K x16 x19 h_1)
 (p43z14 P K x16 undef h)) := (CutP_def _ _ _ _).trans (by kernel_rfl)
theorem q43z10 (l0 x11 x14 : Value) (h : Heap) : p43z10 P K l0 x11 x14 h =
 (OP (iPick x11 (.bool true) x14) fun x15 =>
 p43z12 P K l0 x15 h) := (CutP_def _ _ _ _).trans (by kernel_rfl)
theorem q43z8 (l0 x11 : Value) (h : Heap) : p43z8 P K l0 x11 h =
 (GdP x11 false
 (CallP P 47 [l0] h fun x13 h_1 =>
 OP (iBin .lss x13 (.int .i64 (1))) fun x14 =>
 p43z10 P K l0 x11 x14 h_1)
 (p43z10 P K l0 x11 undef h)) := (CutP_def _ _ _ _).trans (by kernel_rfl)
def T43 (l0 : Value) (h : Heap) : Prop :=
 OP (iLenSl l0) fun x5 =>
 OP (iBin .gtr x5 (.int .i64 (12))) fun x6 =>
 IfP x6
 (K (.int .i64 (3)) h)
 (OP (iLenSl l0) fun x9 =>
 OP (iBin .eql x9 (.int .i64 (0))) fun x10 =>
 p43z8 P K l0 x10 h)
theorem e43 (l0 : Value) (h : Heap) : iwpP P c43 (bodyP [.tmp 2] K) (frame0 [l0]) h = T43 P K l0 h := by kernel_rfl
theorem f43 {K : VK} {l0 : Value} {h : Heap} (H : T43 Tryd.prog K l0 h) : CallP Tryd.prog 43 [l0] h K :=
 callP_intro k43 (Nat.le_of_ble_eq_true rfl) ((e43 Tryd.prog K l0 h).mpr H)
/-! F46: pommel/mark.written -/
noncomputable def c46z6 : ICode := .seq (.ops none [⟨(some 12), .p (.bin .lss (.tmp 11) (.tmp 10))⟩])
 (.seq (.cond (.tmp 12) (.skip)
 (.exit 0))
 (.seq (.block 1 (.seq (.ops none [⟨(some 13), .p (.mv (.tmp 11))⟩,
 ⟨(some 6), .p (.mv (.tmp 13))⟩])
 (.ops none [⟨(some 14), .p (.mv (.tmp 5))⟩,
 ⟨(some 15), .p (.mv (.tmp 6))⟩,
 ⟨(some 16), .p (.mv (.tmp 0))⟩,
 ⟨(some 17), .p (.mv (.tmp 6))⟩,
 ⟨(some 18), .p (.bin .sub (.const (.int .i64 (9))) (.tmp 17))⟩,
 ⟨(some 19), .p (.bin .shr (.tmp 16) (.tmp 18))⟩,
 ⟨(some 20), .p (.bin .and (.tmp 19) (.const (.int .i64 (1))))⟩,
 ⟨(some 21), .p (.conv .u8 (.tmp 20))⟩,
 ⟨(some 22), .p (.bin .add (.const (.int .u8 (48))) (.tmp 21))⟩,
 ⟨(some 23), .p (.adrSl 1 (.tmp 14) (.tmp 15))⟩,
 ⟨none, .e (.store 1 (.tmp 23) (.tmp 22))⟩])))
 (.ops none [⟨(some 24), .p (.bin .add (.tmp 11) (.const (.int .i64 (1))))⟩,
 ⟨(some 11), .p (.mv (.tmp 24))⟩])))
noncomputable def c46z12 : ICode := .seq (.ops none [⟨(some 25), .p (.mv (.tmp 5))⟩,
 ⟨(some 26), .l (.b2s (.tmp 25))⟩,
 ⟨(some 4), .p (.mv (.tmp 26))⟩])
 (.ret)
noncomputable def c46z3 : ICode := .cut [5] c46z12
noncomputable def c46 : ICode := .seq (.ops none [⟨(some 4), .p (.mv (.const (.string ⟨#[]⟩)))⟩])
 (.seq (.ops none [⟨(some 7), .p (.mv (.tmp 1))⟩,
 ⟨(some 8), .e (.make 5 1 [(.int .u8 (0))] (.tmp 7) (.tmp 7))⟩,
 ⟨(some 5), .p (.mv (.tmp 8))⟩])
 (.seq (.seq (.ops none [⟨(some 9), .p (.mv (.tmp 5))⟩,
 ⟨(some 10), .p (.lenSl (.tmp 9))⟩,
 ⟨(some 11), .p (.mv (.const (.int .i64 (0))))⟩])
 (.block 0 (.loop [0, 5, 10] [11] c46z6))) c46z3))
theorem k46 : compFn Tryd.prog 46 [[], [], [], [0, 5, 10], [11], [], [], [], [], [5], []] = some (27, c46, [.tmp 4]) := by kernel_rfl
def K46z0 (_P : Program) (K : VK) : Kont := bodyP [.tmp 4] K
def K46z3 : Kont := thenK (iwpP P c46z3 (K46z0 P K)) (K46z0 P K)
def K46z5 : Kont := inBlockK 0 (K46z3 P K)
def K46z6 (at0 out5 x10 : Value) (L1 : LK) : Kont := thenK (fun f' h'' => (([0, 5, 10] : List Nat).map f' : List Value) = [at0, out5, x10] ∧ L1 (([11] : List Nat).map f') h'') (K46z5 P K)
def p46z6 (at0 out5 x10 : Value) (L1 : LK) (xs : List Value) (h : Heap) : Prop := CutP (iwpP P c46z6 (K46z6 P K at0 out5 x10 L1)) ([0, 5, 10] ++ [11]) ([at0, out5, x10] ++ xs) h
def p46z12 (out5 : Value) (h : Heap) : Prop := CutP (iwpP P c46z12 (K46z0 P K)) [5] [out5] h
theorem q46z6 (at0 out5 x10 : Value) (L1 : LK) (x11 : Value) (h : Heap) : p46z6 P K at0 out5 x10 L1 [x11] h =
 (OP (iBin .lss x11 x10) fun x12 =>
 IfP x12
 (OP (iBin .sub (.int .i64 (9)) x11) fun x18 =>
 OP (iBin .shr at0 x18) fun x19 =>
 OP (iBin .and x19 (.int .i64 (1))) fun x20 =>
 OP (iConv .u8 x20) fun x21 =>
 OP (iBin .add (.int .u8 (48)) x21) fun x22 =>
 OP (iAdrSl 1 out5 x11) fun x23 =>
 OH (oStore 1 h x23 x22) fun _ h_1 =>
 OP (iBin .add x11 (.int .i64 (1))) fun x24 =>
 ([at0, out5, x10] : List Value) = [at0, out5, x10] ∧ L1 [x24] h_1)
 (p46z12 P K out5 h)) := (CutP_def _ _ _ _).trans (by kernel_rfl)
theorem q46z12 (out5 : Value) (h : Heap) : p46z12 P K out5 h =
 (OP (iB2s h out5) fun x26 =>
 K x26 h) := (CutP_def _ _ _ _).trans (by kernel_rfl)
def T46 (at0 length1 : Value) (h : Heap) : Prop :=
 OH (iMake 5 1 [(.int .u8 (0))] h length1 length1) fun x8 h_1 =>
 OP (iLenSl x8) fun x10 =>
 LoopP [(.int .i64 (0))] h_1 fun L1 xs hx =>
 p46z6 P K at0 x8 x10 L1 xs hx
theorem e46 (at0 length1 : Value) (h : Heap) : iwpP P c46 (bodyP [.tmp 4] K) (frame0 [at0, length1]) h = T46 P K at0 length1 h := by kernel_rfl
theorem f46 {K : VK} {at0 length1 : Value} {h : Heap} (H : T46 Tryd.prog K at0 length1 h) : CallP Tryd.prog 46 [at0, length1] h K :=
 callP_intro k46 (Nat.le_of_ble_eq_true rfl) ((e46 Tryd.prog K at0 length1 h).mpr H)
end Go.Proofs.YthplaillblmgfaaDoor

namespace Go.Sim

def val (B : Nat) : List Nat → Nat
  | [] => 0
  | d :: ds => d + B * val B ds

def Lim (B : Nat) (xs : List Nat) : Prop := ∀ x ∈ xs, x < B
/-- Digits, and no 0 at the end. -/
def Canon (B : Nat) (xs : List Nat) : Prop := Lim B xs ∧ xs.getLast? ≠ some 0

theorem Lim.mono {B : Nat} {xs ys : List Nat} (h : Lim B xs) (hs : ∀ y ∈ ys, y ∈ xs) : Lim B ys := fun y hy => h y (hs y hy)
theorem Lim.append {B : Nat} {xs ys : List Nat} (h : Lim B xs) (k : Lim B ys) : Lim B (xs ++ ys) := fun y hy => (List.mem_append.1 hy).elim (h y) (k y)
theorem Lim.set {B : Nat} {xs : List Nat} (h : Lim B xs) {d : Nat} (hd : d < B) (i : Nat) : Lim B (xs.set i d) := fun y hy => by
  rcases List.mem_or_eq_of_mem_set hy with h1 | h1
  · exact h y h1
  · rw [h1]; exact hd
theorem Canon.cons {B : Nat} {x : Nat} {xs : List Nat} (h : Canon B (x :: xs)) : x < B ∧ Canon B xs ∧ (xs = [] → x ≠ 0) := by
  refine ⟨h.1 x (by simp), ⟨fun y hy => h.1 y (by simp [hy]), ?_⟩, ?_⟩
  · intro hl
    apply h.2
    cases xs with
    | nil => simp at hl
    | cons y ys => simpa [List.getLast?_cons_cons] using hl
  · rintro rfl rfl
    exact h.2 rfl

theorem Canon.zero {B : Nat} (hB : 0 < B) : ∀ {xs : List Nat}, Canon B xs → val B xs = 0 → xs = []
  | [], _, _ => rfl
  | x :: xs, h, h0 => by
    obtain ⟨_, h2, h3⟩ := h.cons
    simp only [val] at h0
    have hx : x = 0 := by omega
    have hv : B * val B xs = 0 := by omega
    have : val B xs = 0 := by
      rcases Nat.mul_eq_zero.1 hv with h | h
      · omega
      · exact h
    exact absurd hx (h3 (Canon.zero hB h2 this))

theorem Canon.low {B : Nat} (hB : 0 < B) : ∀ {xs : List Nat}, Canon B xs → xs ≠ [] → B ^ (xs.length - 1) ≤ val B xs
  | [x], h, _ => by
    have := h.cons.2.2 rfl
    simp [val]
    omega
  | x :: y :: xs, h, _ => by
    have ih := Canon.low hB h.cons.2.1 (by simp)
    simp only [List.length_cons, Nat.add_sub_cancel] at ih ⊢
    rw [show val B (x :: y :: xs) = x + B * val B (y :: xs) from rfl, Nat.pow_succ]
    have : B * B ^ xs.length ≤ B * val B (y :: xs) := Nat.mul_le_mul_left _ ih
    rw [Nat.mul_comm (B ^ xs.length)]
    omega

theorem Canon.len {B k : Nat} (hB : 1 < B) {xs : List Nat} (h : Canon B xs) (hv : val B xs < B ^ k) : xs.length ≤ k := by
  by_cases hx : xs = []
  · subst hx; simp
  · have h1 := Canon.low (by omega) h hx
    have h2 : B ^ (xs.length - 1) < B ^ k := Nat.lt_of_le_of_lt h1 hv
    have := (Nat.pow_lt_pow_iff_right hB).1 h2
    have : 0 < xs.length := List.length_pos_iff.2 hx
    omega

theorem Canon.nil (B : Nat) : Canon B [] := ⟨fun x hx => by simp at hx, by simp⟩

end Go.Sim


namespace Go.Sim

/-- The kinds that sets have. -/
def SK (k : IntKind) : Prop := k = .u16 ∨ k = .i64

theorem SK.wrap {k : IntKind} (hk : SK k) {n : Int} (h0 : 0 ≤ n) (h1 : n < 32768) : k.wrap n = n := by
  rcases hk with rfl | rfl
  · have e : IntKind.wrap .u16 n = n % 65536 := by simp [IntKind.wrap, IntKind.bits, IntKind.signed]
    rw [e]; omega
  · exact wrap64 (by omega) (by omega)

theorem SK.bits {k : IntKind} (hk : SK k) : 16 ≤ k.bits := by
  rcases hk with rfl | rfl <;> decide

theorem SK.toNat {k : IntKind} (hk : SK k) {a : Nat} (ha : a < 1024) : (BitVec.ofInt k.bits (a : Int)).toNat = a := by
  have h := hk.bits
  have h2 : (2 : Nat) ^ 16 ≤ 2 ^ k.bits := Nat.pow_le_pow_right (by decide) h
  rw [BitVec.toNat_ofInt]
  have h3 : ((2 ^ k.bits : Nat) : Int) = 2 ^ k.bits := by simp
  rw [Int.emod_eq_of_lt (by omega) (by omega)]
  omega

theorem andK {k : IntKind} (hk : SK k) {a b : Nat} (ha : a < 1024) (hb : b < 1024) : iBin .and (.int k (a : Int)) (.int k (b : Int)) = some (.int k ((a &&& b : Nat) : Int)) := by
  have e : iBin .and (.int k (a : Int)) (.int k (b : Int)) = some (Value.int k (k.wrap ((BitVec.ofInt k.bits (a : Int) &&& BitVec.ofInt k.bits (b : Int)).toNat : Int))) := by simp [iBin, iInt]
  rw [e, BitVec.toNat_and, hk.toNat ha, hk.toNat hb]
  have : a &&& b < 2 ^ 10 := Nat.and_lt_two_pow _ hb
  rw [hk.wrap (by omega) (by omega)]

theorem shrK {k : IntKind} (hk : SK k) {s a : Nat} (ha : a < 16) : iBin .shr (.int k (s : Int)) (I a) = some (.int k ((s / 2 ^ a : Nat) : Int)) := by
  have h := hk.bits
  simp only [iBin, iShift]
  rw [if_neg (by omega)]
  have : min ((a : Int).toNat) k.bits = a := by omega
  rw [this, Int.fdiv_eq_ediv_of_nonneg _ (Int.pow_nonneg (by decide))]
  rfl

theorem bit_and (z : Nat) : z &&& 1 = z % 2 := Nat.and_one_is_mod z

end Go.Sim


namespace Go.Proofs.YthplaillblmgfaaDoor
open Go.Sim

theorem skI : SK .i64 := .inr rfl

/-- The first letters of a place. -/
def wrd (a l : Nat) : List UInt8 := (List.range l).map fun i => if a.testBit (9 - i) then 49 else 48
theorem wrd_len (a l : Nat) : (wrd a l).length = l := by simp [wrd]

theorem C46 {a l : Nat} {h : Heap} {K : Value → Heap → Prop} (ha : a < 1024) (h1 : 1 ≤ l) (h2 : l ≤ 10) (hk : ∀ h', EX h h' → K (S (wrd a l)) h') : CallP Tryd.prog 46 [I a, I l] h K := by
  refine f46 ?_
  have mk : iMake 5 1 [(.int .u8 (0))] h (I l) (I l) = some (sl 5 h.length 0 l, h ++ [.arr 5 (List.replicate l (.int .u8 0))]) := by
    simp only [iMake]
    rw [if_pos (by omega), zrep_one]; rfl
  have ll : iLenSl (sl 5 h.length 0 l) = some (I l) := rfl
  simp only [T46, mk, OH_some, ll, OP_some]
  have x0 : EX h (h ++ [.arr 5 (List.replicate l (.int .u8 0))]) := EX.append _ _
  have k0 : (h ++ [IObj.arr 5 (List.replicate l (.int .u8 0))])[h.length]? = some (.arr 5 (List.replicate l (.int .u8 0))) := get_last
  have hst : h ++ [IObj.arr 5 (List.replicate l (.int .u8 0))] = (h ++ [IObj.arr 5 (List.replicate l (.int .u8 0))]).set h.length (.arr 5 (((wrd a 0).map cv) ++ List.replicate (l - 0) (.int .u8 0))) := by
    apply List.ext_getElem?
    intro j
    by_cases hj : h.length = j
    · subst hj; rw [List.getElem?_set_self (by simp), k0]; simp [wrd]
    · rw [List.getElem?_set_ne hj]
  generalize h ++ [IObj.arr 5 (List.replicate l (.int .u8 0))] = g at x0 k0 hst ⊢
  have hgl := (List.getElem?_eq_some_iff.1 k0).1
  refine loopL (σ := Nat) (fun i => [I i]) (fun i => g.set h.length (.arr 5 (((wrd a i).map cv) ++ List.replicate (l - i) (.int .u8 0)))) (fun i => i ≤ l) (fun i => l - i) 0 rfl hst.symm (Nat.zero_le _) ?_
  intro i hi L hL
  rw [q46z6]
  simp only [bin_lss, OP_some, IfP_dec]
  refine ⟨fun hlt => ?_, fun hge => ?_⟩
  · have hil : i < l := by omega
    have w1 : IntKind.wrap .i64 (9 - (i : Int)) = ((9 - i : Nat) : Int) := by rw [wrap64 (by omega) (by omega)]; omega
    have hdl : a / 2 ^ (9 - i) < 1024 := Nat.lt_of_le_of_lt (Nat.div_le_self _ _) ha
    have an : iBin .and (I (a / 2 ^ (9 - i) : Nat)) (.int .i64 1) = some (I (a / 2 ^ (9 - i) % 2 : Nat)) := by
      have := andK skI hdl (show 1 < 1024 by decide)
      rw [bit_and] at this
      exact this
    have cn : iConv .u8 (I (a / 2 ^ (9 - i) % 2 : Nat)) = some (.int .u8 (a / 2 ^ (9 - i) % 2 : Nat)) := by
      have : a / 2 ^ (9 - i) % 2 < 2 := Nat.mod_lt _ (by decide)
      rw [conv_int, wrapU8 (by omega) (by omega)]
    have ad : IntKind.wrap .u8 (48 + ((a / 2 ^ (9 - i) % 2 : Nat) : Int)) = ((if a.testBit (9 - i) then (49 : UInt8) else 48).toNat : Int) := by
      rw [Nat.testBit_eq_decide_div_mod_eq]
      have : a / 2 ^ (9 - i) % 2 < 2 := Nat.mod_lt _ (by decide)
      rw [wrapU8 (by omega) (by omega)]
      by_cases h0 : a / 2 ^ (9 - i) % 2 = 1
      · rw [h0]; rfl
      · rw [show a / 2 ^ (9 - i) % 2 = 0 by omega]; rfl
    simp only [bin_sub, w1, OP_some, shrK skI (show 9 - i < 16 by omega), an, cn, bin_add, ad, adr_sl hil]
    rw [store_at (List.getElem?_set_self hgl) (by rw [List.length_append, List.length_map, wrd_len, List.length_replicate]; omega) rfl rfl]
    simp only [OH_some, inc i (by omega), true_and, List.set_set]
    have e : ((wrd a i).map cv ++ List.replicate (l - i) (Value.int .u8 0)).set i (.int .u8 ((if a.testBit (9 - i) then (49 : UInt8) else 48).toNat : Int)) = (wrd a (i + 1)).map cv ++ List.replicate (l - (i + 1)) (Value.int .u8 0) := by
      obtain ⟨m, hm⟩ : ∃ m, l - i = m + 1 := ⟨l - i - 1, by omega⟩
      rw [hm, show l - (i + 1) = m by omega, List.set_append_right _ _ (by simp [wrd_len]), List.length_map, wrd_len, Nat.sub_self, List.replicate_succ]
      simp [wrd, List.range_succ]
    rw [e]
    exact hL (i + 1) (by omega) (by omega)
  · have : i = l := by omega
    subst this
    rw [q46z12, Nat.sub_self, List.replicate_zero, List.append_nil]
    have hg := List.getElem?_set_self (l := g) (i := h.length) (a := IObj.arr 5 ((wrd a i).map cv)) hgl
    have own : OwnS h.length (g.set h.length (.arr 5 ((wrd a i).map cv))) 5 (sl 5 h.length 0 i) ((wrd a i).map cv) := .inr ⟨h.length, Nat.le_refl _, by rw [List.length_map, wrd_len], hg⟩
    rw [b2s own]
    exact OP_some.2 (hk _ (x0.set (Nat.le_refl _) _))

/-- Why lengths are not valid. -/
def lenE (l : List Int) : Int := if 12 < l.length then 3 else if l.length = 0 ∨ ¬ (∀ x ∈ l, 1 ≤ x ∧ x ≤ 10) then 1 else 0

theorem C43 {v : Value} {l : List Int} {h : Heap} {K : Value → Heap → Prop} (hv : NS h v .i64 l) (hl : l.length ≤ 1000) (hk : K (I (lenE l)) h) : CallP Tryd.prog 43 [v] h K := by
  refine f43 ?_
  unfold T43
  unfold lenE at hk
  simp only [hv.len, OP_some, bin_gtr, IfP_dec]
  refine ⟨fun h1 => by rw [if_pos (by omega)] at hk; exact hk, fun h1 => ?_⟩
  rw [if_neg (by omega)] at hk
  simp only [bin_eql, OP_some]
  rw [q43z8]
  by_cases h0 : l.length = 0
  · simp only [decide_eq_true (show (l.length : Int) = 0 by omega), GdP_tf, q43z10, q43z12, q43z14, iPick_t, OP_some, IfP_true]
    rw [if_pos (.inl h0)] at hk
    exact hk
  simp only [decide_eq_false (show ¬ (l.length : Int) = 0 by omega), GdP_ff]
  refine C47 hv (by omega) hl ?_
  intro m hm hmle
  simp only [bin_lss, OP_some, q43z10, iPick_f]
  by_cases hm1 : m < 1
  · simp only [decide_eq_true hm1, q43z12, GdP_tf, q43z14, iPick_t, OP_some, IfP_true]
    rw [if_pos (.inr fun hc => by have := (hc m hm).1; omega)] at hk
    exact hk
  simp only [decide_eq_false hm1, q43z12, GdP_ff]
  refine C48 hv (by omega) hl ?_
  intro M hM hMle
  simp only [bin_gtr, OP_some]
  rw [q43z14]
  simp only [iPick_f, OP_some, IfP_dec]
  refine ⟨fun hb => ?_, fun hb => ?_⟩
  · rw [if_pos (.inr fun hc => by have := (hc M hM).2; omega)] at hk; exact hk
  · rw [if_neg] at hk
    · exact hk
    · rintro (h | h)
      · exact h0 h
      · exact h fun x hx => ⟨by have := hmle x hx; omega, by have := hMle x hx; omega⟩

/-- The words of a code that rises, from a place on. -/
def risL : Nat → List Nat → Option (List (List UInt8))
  | _, [] => some []
  | a, l :: ls => if fitN a l + rmN l ≤ 1024 then (risL (fitN a l + rmN l) ls).map (wrd (fitN a l) l :: ·) else none

theorem C25 {v : Value} {ls : List Nat} {h : Heap} {K : Value → Heap → Prop} (hv : NS h v .i64 (ls.map fun l : Nat => (l : Int))) (hl : ls.length ≤ 12) (h0 : 0 < ls.length) (hok : lenOk ls)
    (hno : risL 0 ls = none → ∀ h', EX h h' → K (.tuple #[.slice none 0 0, I 5]) h')
    (hk : ∀ ws u h', risL 0 ls = some ws → EX h h' → OwnS h.length h' 9 u (ws.map S) → K (.tuple #[u, I 0]) h') : CallP Tryd.prog 25 [v] h K := by
  refine f25 (C43 hv (by rw [List.length_map]; omega) ?_)
  have e0 : lenE (ls.map fun l : Nat => (l : Int)) = 0 := by
    unfold lenE
    rw [List.length_map, if_neg (by omega), if_neg]
    rintro (h | h)
    · omega
    · refine h fun x hx => ?_
      obtain ⟨l, hl, rfl⟩ := List.mem_map.1 hx
      have := hok l hl
      omega
  have hlen : iLenSl v = some (I ls.length) := by have := hv.len; rwa [List.length_map] at this
  simp only [e0, bin_neq, OP_some, decide_true, Bool.not_true, IfP_false, hlen]
  refine loopL (σ := Nat × Nat × Value × List (List UInt8) × Heap) (fun q => [q.2.2.1, I q.2.1, I q.1]) (fun q => q.2.2.2.2)
    (fun q => q.1 ≤ ls.length ∧ q.2.1 ≤ 1024 ∧ EX h q.2.2.2.2 ∧ OwnS h.length q.2.2.2.2 9 q.2.2.1 (q.2.2.2.1.map S) ∧ q.2.2.2.1.length = q.1 ∧ risL 0 ls = (risL q.2.1 (ls.drop q.1)).map (q.2.2.2.1 ++ ·)) (fun q => ls.length - q.1)
    (0, 0, .slice none 0 0, [], h) rfl rfl ⟨Nat.zero_le _, Nat.zero_le _, EX.refl _, .inl ⟨rfl, rfl⟩, rfl, by simp⟩ ?_
  rintro ⟨i, a, vo, pre, g⟩ ⟨hi, ha, xg, own, hpl, hris⟩ L hL
  simp only at hi ha xg own hpl hris hL ⊢
  rw [q25z11]
  simp only [bin_lss, OP_some, IfP_dec]
  refine ⟨fun hlt => ?_, fun hge => ?_⟩
  · have hil : i < ls.length := by omega
    have h1 := hok _ (List.getElem_mem hil)
    obtain ⟨b, o, g1, g2⟩ := NS.getN (hv.mono xg) hil
    have hf := fitN_le (at_ := a) h1.1 h1.2
    have hr := rmN_pos h1.1 h1.2
    have wr : IntKind.wrap .i64 ((fitN a ls[i] : Nat) + (rmN ls[i] : Nat) : Int) = ((fitN a ls[i] + rmN ls[i] : Nat) : Int) := by rw [wrap64 (by omega) (by omega)]; omega
    have hdrop : ls.drop i = ls[i] :: ls.drop (i + 1) := List.drop_eq_getElem_cons hil
    rw [hdrop] at hris
    simp only [risL] at hris
    simp only [g1, g2, OP_some]
    refine C44 ha h1.1 h1.2 (C45 h1.1 h1.2 ?_)
    simp only [bin_add, wr, OP_some, bin_gtr, IfP_dec]
    refine ⟨fun hb => ?_, fun hb => ?_⟩
    · rw [if_neg (by omega)] at hris
      exact hno hris g xg
    · rw [if_pos (by omega), Option.map_map] at hris
      refine C46 (by omega) h1.1 h1.2 ?_
      intro g2 x2
      refine app1 (own.keep fun d n hv hd => x2.2 d (own.lt hv).2.1) (xg.trans x2) (by simp; omega) (by simp [maxLen]; omega) rfl rfl ?_
      intro v' g3 x3 own'
      refine C45 h1.1 h1.2 ?_
      simp only [bin_add, wr, OP_some, inc i (by omega), true_and]
      refine hL (i + 1, fitN a ls[i] + rmN ls[i], v', pre ++ [wrd (fitN a ls[i]) ls[i]], g3) ⟨by show i + 1 ≤ _; omega, by show fitN a ls[i] + rmN ls[i] ≤ 1024; omega, x3, by simpa using own', by simp [hpl], ?_⟩ (by show ls.length - (i + 1) < ls.length - i; omega)
      show risL 0 ls = (risL (fitN a ls[i] + rmN ls[i]) (ls.drop (i + 1))).map ((pre ++ [wrd (fitN a ls[i]) ls[i]]) ++ ·)
      rw [hris]
      congr 1
      funext x
      simp
  · have : i = ls.length := by omega
    subst this
    rw [List.drop_length] at hris
    rw [q25z22]
    exact hk pre vo g (by rw [hris]; simp [risL]) xg own

end Go.Proofs.YthplaillblmgfaaDoor


namespace Go.Proofs.YthplaillblmgfaaDoor
open Go.Sim
variable (P : Program) (K : VK)
/-! F7: pommel/pommellaw08.MarkHuffman -/
noncomputable def c7z34 : ICode := .ops none [⟨(some 71), .p (.pick (.tmp 68) (.const (.bool true)) (.tmp 70))⟩]
noncomputable def c7z32 : ICode := .seq (.ops (some (68, false)) [⟨(some 69), .call 13 []⟩,
 ⟨(some 70), .p (.un .not (.tmp 69))⟩])
 (.cut [3, 4, 5, 7, 8, 68, 70] c7z34)
noncomputable def c7z30 : ICode := .seq (.ops none [⟨(some 67), .p (.pick (.tmp 63) (.const (.bool true)) (.tmp 66))⟩,
 ⟨(some 68), .p (.mv (.tmp 67))⟩])
 (.cut [3, 4, 5, 7, 8, 68] c7z32)
noncomputable def c7z28 : ICode := .seq (.ops (some (63, false)) [⟨(some 64), .p (.mv (.tmp 7))⟩,
 ⟨(some 65), .call 12 [(.tmp 64), (.const (.int .i64 (1))), (.const (.int .i64 (1))), (.const (.int .i64 (10)))]⟩,
 ⟨(some 66), .p (.bin .neq (.tmp 65) (.const (.int .i64 (0))))⟩])
 (.cut [3, 4, 5, 7, 8, 63, 66] c7z30)
noncomputable def c7z26 : ICode := .seq (.ops none [⟨(some 62), .p (.pick (.tmp 58) (.const (.bool true)) (.tmp 61))⟩,
 ⟨(some 63), .p (.mv (.tmp 62))⟩])
 (.cut [3, 4, 5, 7, 8, 63] c7z28)
noncomputable def c7z24 : ICode := .seq (.ops (some (58, false)) [⟨(some 59), .p (.mv (.tmp 4))⟩,
 ⟨(some 60), .call 12 [(.tmp 59), (.const (.int .i64 (1))), (.const (.int .i64 (1))), (.const (.int .i64 (10)))]⟩,
 ⟨(some 61), .p (.bin .neq (.tmp 60) (.const (.int .i64 (0))))⟩])
 (.cut [3, 4, 5, 7, 8, 58, 61] c7z26)
noncomputable def c7z22 : ICode := .seq (.ops none [⟨(some 57), .p (.pick (.tmp 53) (.const (.bool true)) (.tmp 56))⟩,
 ⟨(some 58), .p (.mv (.tmp 57))⟩])
 (.cut [3, 4, 5, 7, 8, 58] c7z24)
noncomputable def c7z20 : ICode := .seq (.ops (some (53, false)) [⟨(some 54), .p (.mv (.tmp 5))⟩,
 ⟨(some 55), .p (.mv (.tmp 8))⟩,
 ⟨(some 56), .p (.bin .gtr (.tmp 54) (.tmp 55))⟩])
 (.cut [3, 4, 5, 7, 8, 53, 56] c7z22)
noncomputable def c7z18 : ICode := .seq (.ops none [⟨(some 52), .p (.pick (.tmp 46) (.const (.bool true)) (.tmp 51))⟩,
 ⟨(some 53), .p (.mv (.tmp 52))⟩])
 (.cut [3, 4, 5, 7, 8, 53] c7z20)
noncomputable def c7z16 : ICode := .seq (.ops (some (46, false)) [⟨(some 47), .p (.mv (.tmp 7))⟩,
 ⟨(some 48), .p (.lenSl (.tmp 47))⟩,
 ⟨(some 49), .p (.mv (.tmp 3))⟩,
 ⟨(some 50), .p (.lenSl (.tmp 49))⟩,
 ⟨(some 51), .p (.bin .neq (.tmp 48) (.tmp 50))⟩])
 (.cut [3, 4, 5, 7, 8, 46, 51] c7z18)
noncomputable def c7z14 : ICode := .seq (.ops none [⟨(some 45), .p (.pick (.tmp 39) (.const (.bool true)) (.tmp 44))⟩,
 ⟨(some 46), .p (.mv (.tmp 45))⟩])
 (.cut [3, 4, 5, 7, 8, 46] c7z16)
noncomputable def c7z12 : ICode := .seq (.ops (some (39, false)) [⟨(some 40), .p (.mv (.tmp 4))⟩,
 ⟨(some 41), .p (.lenSl (.tmp 40))⟩,
 ⟨(some 42), .p (.mv (.tmp 3))⟩,
 ⟨(some 43), .p (.lenSl (.tmp 42))⟩,
 ⟨(some 44), .p (.bin .neq (.tmp 41) (.tmp 43))⟩])
 (.cut [3, 4, 5, 7, 8, 39, 44] c7z14)
noncomputable def c7z10 : ICode := .seq (.ops none [⟨(some 38), .p (.pick (.tmp 35) (.const (.bool true)) (.tmp 37))⟩,
 ⟨(some 39), .p (.mv (.tmp 38))⟩])
 (.cut [3, 4, 5, 7, 8, 39] c7z12)
noncomputable def c7z8 : ICode := .seq (.ops (some (35, false)) [⟨(some 36), .p (.mv (.tmp 9))⟩,
 ⟨(some 37), .p (.bin .neq (.tmp 36) (.const (.int .i64 (0))))⟩])
 (.cut [3, 4, 5, 7, 8, 35, 37] c7z10)
noncomputable def c7z6 : ICode := .cond (.tmp 71) (.seq (.ops none [⟨(some 2), .p (.mv (.const (.bool false)))⟩])
 (.ret))
 (.skip)
noncomputable def c7z40 : ICode := .seq (.seq (.ops none [⟨(some 72), .p (.mv (.tmp 14))⟩,
 ⟨(some 73), .p (.mv (.tmp 3))⟩,
 ⟨(some 74), .p (.lenSl (.tmp 73))⟩,
 ⟨(some 75), .p (.bin .lss (.tmp 72) (.tmp 74))⟩])
 (.cond (.tmp 75) (.skip)
 (.exit 0)))
 (.seq (.block 1 (.dops [(none, [⟨(some 78), .p (.mv (.tmp 10)), 0⟩,
 ⟨(some 79), .p (.mv (.tmp 3)), 0⟩,
 ⟨(some 80), .p (.mv (.tmp 14)), 0⟩,
 ⟨(some 81), .p (.adrSl 1 (.tmp 79) (.tmp 80)), 6⟩,
 ⟨(some 82), .l (.load false 1 (.tmp 81)), 14⟩,
 ⟨(some 83), .p (.bin .add (.tmp 78) (.tmp 82)), 31⟩,
 ⟨(some 84), .p (.mv (.tmp 11)), 0⟩,
 ⟨(some 85), .p (.mv (.tmp 3)), 0⟩,
 ⟨(some 86), .p (.mv (.tmp 14)), 0⟩,
 ⟨(some 87), .p (.adrSl 1 (.tmp 85) (.tmp 86)), 384⟩,
 ⟨(some 88), .l (.load false 1 (.tmp 87)), 896⟩,
 ⟨(some 89), .p (.mv (.tmp 4)), 0⟩,
 ⟨(some 90), .p (.mv (.tmp 14)), 0⟩,
 ⟨(some 91), .p (.adrSl 1 (.tmp 89) (.tmp 90)), 6144⟩,
 ⟨(some 92), .l (.load false 1 (.tmp 91)), 14336⟩,
 ⟨(some 93), .p (.bin .mul (.tmp 88) (.tmp 92)), 32640⟩,
 ⟨(some 94), .p (.bin .add (.tmp 84) (.tmp 93)), 65472⟩,
 ⟨(some 95), .p (.mv (.tmp 12)), 0⟩,
 ⟨(some 96), .p (.mv (.tmp 3)), 0⟩,
 ⟨(some 97), .p (.mv (.tmp 14)), 0⟩,
 ⟨(some 98), .p (.adrSl 1 (.tmp 96) (.tmp 97)), 786432⟩,
 ⟨(some 99), .l (.load false 1 (.tmp 98)), 1835008⟩,
 ⟨(some 100), .p (.mv (.tmp 7)), 0⟩,
 ⟨(some 101), .p (.mv (.tmp 14)), 0⟩,
 ⟨(some 102), .p (.adrSl 1 (.tmp 100) (.tmp 101)), 12582912⟩,
 ⟨(some 103), .l (.load false 1 (.tmp 102)), 29360128⟩,
 ⟨(some 104), .p (.bin .mul (.tmp 99) (.tmp 103)), 66846720⟩,
 ⟨(some 105), .p (.bin .add (.tmp 95) (.tmp 104)), 134086656⟩,
 ⟨(some 106), .p (.mv (.tmp 13)), 0⟩,
 ⟨(some 107), .p (.mv (.tmp 4)), 0⟩,
 ⟨(some 108), .p (.mv (.tmp 14)), 0⟩,
 ⟨(some 109), .p (.adrSl 1 (.tmp 107) (.tmp 108)), 1610612736⟩,
 ⟨(some 110), .l (.load false 1 (.tmp 109)), 3758096384⟩,
 ⟨(some 111), .p (.minmax true [(.tmp 106), (.tmp 110)]), 8321499136⟩,
 ⟨(some 10), .p (.mv (.tmp 83)), 63⟩,
 ⟨(some 11), .p (.mv (.tmp 94)), 17180000255⟩,
 ⟨(some 12), .p (.mv (.tmp 105)), 51808043007⟩,
 ⟨(some 13), .p (.mv (.tmp 111)), 137438953471⟩])]))
 (.ops none [⟨(some 76), .p (.mv (.tmp 14))⟩,
 ⟨(some 77), .p (.bin .add (.tmp 76) (.const (.int .i64 (1))))⟩,
 ⟨(some 14), .p (.mv (.tmp 77))⟩]))
noncomputable def c7z68 : ICode := .ops none [⟨(some 148), .p (.pick (.tmp 145) (.tmp 147) (.const (.bool false)))⟩,
 ⟨(some 2), .p (.mv (.tmp 148))⟩]
noncomputable def c7z66 : ICode := .seq (.ops (some (145, true)) [⟨(some 146), .p (.mv (.tmp 18))⟩,
 ⟨(some 147), .p (.bin .eql (.tmp 146) (.const (.int .i64 (0))))⟩])
 (.cut [145, 147] c7z68)
noncomputable def c7z64 : ICode := .seq (.ops none [⟨(some 144), .p (.pick (.tmp 141) (.tmp 143) (.const (.bool false)))⟩,
 ⟨(some 145), .p (.mv (.tmp 144))⟩])
 (.cut [18, 145] c7z66)
noncomputable def c7z62 : ICode := .seq (.ops (some (141, true)) [⟨(some 142), .p (.mv (.tmp 16))⟩,
 ⟨(some 143), .p (.bin .eql (.tmp 142) (.const (.int .i64 (0))))⟩])
 (.cut [18, 141, 143] c7z64)
noncomputable def c7z60 : ICode := .seq (.ops none [⟨(some 140), .p (.pick (.tmp 130) (.tmp 139) (.const (.bool false)))⟩,
 ⟨(some 141), .p (.mv (.tmp 140))⟩])
 (.cut [16, 18, 141] c7z62)
noncomputable def c7z58 : ICode := .seq (.ops (some (130, true)) [⟨(some 139), .p (.pick (.tmp 133) (.const (.bool true)) (.tmp 138))⟩])
 (.cut [16, 18, 130, 139] c7z60)
noncomputable def c7z56 : ICode := .seq (.ops (some (133, false)) [⟨(some 134), .p (.mv (.tmp 8))⟩,
 ⟨(some 135), .p (.mv (.tmp 5))⟩,
 ⟨(some 136), .p (.mv (.tmp 10))⟩,
 ⟨(some 137), .p (.bin .add (.tmp 135) (.tmp 136))⟩,
 ⟨(some 138), .p (.bin .leq (.tmp 134) (.tmp 137))⟩])
 (.cut [16, 18, 130, 133, 138] c7z58)
noncomputable def c7z54 : ICode := .seq (.ops (some (130, true)) [⟨(some 131), .p (.mv (.tmp 13))⟩,
 ⟨(some 132), .p (.bin .eql (.tmp 131) (.const (.int .i64 (10))))⟩,
 ⟨(some 133), .p (.mv (.tmp 132))⟩])
 (.cut [5, 8, 10, 16, 18, 130, 133] c7z56)
noncomputable def c7z52 : ICode := .seq (.ops none [⟨(some 129), .p (.pick (.tmp 125) (.tmp 128) (.const (.bool false)))⟩,
 ⟨(some 130), .p (.mv (.tmp 129))⟩])
 (.cut [5, 8, 10, 13, 16, 18, 130] c7z54)
noncomputable def c7z50 : ICode := .seq (.ops (some (125, true)) [⟨(some 126), .p (.mv (.tmp 12))⟩,
 ⟨(some 127), .p (.mv (.tmp 8))⟩,
 ⟨(some 128), .p (.bin .eql (.tmp 126) (.tmp 127))⟩])
 (.cut [5, 8, 10, 13, 16, 18, 125, 128] c7z52)
noncomputable def c7z48 : ICode := .ret
noncomputable def c7z45 : ICode := .seq (.ops none [⟨(some 113), .p (.mv (.tmp 4))⟩,
 ⟨(some 114), .call 24 [(.tmp 113)]⟩,
 ⟨(some 112), .p (.mv (.tmp 114))⟩,
 ⟨(some 115), .p (.ext (.tmp 112) 0)⟩,
 ⟨(some 116), .p (.ext (.tmp 112) 1)⟩,
 ⟨(some 15), .p (.mv (.tmp 115))⟩,
 ⟨(some 16), .p (.mv (.tmp 116))⟩])
 (.seq (.ops none [⟨(some 118), .p (.mv (.tmp 7))⟩,
 ⟨(some 119), .call 25 [(.tmp 118)]⟩,
 ⟨(some 117), .p (.mv (.tmp 119))⟩,
 ⟨(some 120), .p (.ext (.tmp 117) 0)⟩,
 ⟨(some 121), .p (.ext (.tmp 117) 1)⟩,
 ⟨(some 17), .p (.mv (.tmp 120))⟩,
 ⟨(some 18), .p (.mv (.tmp 121))⟩])
 (.seq (.seq (.ops none [⟨(some 122), .p (.mv (.tmp 11))⟩,
 ⟨(some 123), .p (.mv (.tmp 5))⟩,
 ⟨(some 124), .p (.bin .eql (.tmp 122) (.tmp 123))⟩,
 ⟨(some 125), .p (.mv (.tmp 124))⟩])
 (.cut [5, 8, 10, 12, 13, 16, 18, 125] c7z50)) c7z48))
noncomputable def c7z37 : ICode := .cut [4, 5, 7, 8, 10, 11, 12, 13] c7z45
noncomputable def c7z5 : ICode := .seq (.ops none [⟨(some 10), .p (.mv (.const (.int .i64 (0))))⟩,
 ⟨(some 11), .p (.mv (.const (.int .i64 (0))))⟩,
 ⟨(some 12), .p (.mv (.const (.int .i64 (0))))⟩,
 ⟨(some 13), .p (.mv (.const (.int .i64 (0))))⟩])
 (.seq (.seq (.ops none [⟨(some 14), .p (.mv (.const (.int .i64 (0))))⟩])
 (.block 0 (.loop [3, 4, 5, 7, 8] [10, 11, 12, 13, 14] c7z40))) c7z37)
noncomputable def c7 : ICode := .seq (.ops none [⟨(some 2), .p (.mv (.const (.bool false)))⟩])
 (.seq (.ops none [⟨(some 19), .p (.mv (.tmp 0))⟩,
 ⟨(some 20), .call 16 [(.tmp 19)]⟩,
 ⟨(some 3), .p (.mv (.tmp 20))⟩])
 (.seq (.ops none [⟨(some 22), .p (.mv (.tmp 3))⟩,
 ⟨(some 23), .call 10 [(.tmp 22)]⟩,
 ⟨(some 21), .p (.mv (.tmp 23))⟩,
 ⟨(some 24), .p (.ext (.tmp 21) 0)⟩,
 ⟨(some 25), .p (.ext (.tmp 21) 1)⟩,
 ⟨(some 26), .p (.ext (.tmp 21) 2)⟩,
 ⟨(some 4), .p (.mv (.tmp 24))⟩,
 ⟨(some 5), .p (.mv (.tmp 25))⟩,
 ⟨(some 6), .p (.mv (.tmp 26))⟩])
 (.seq (.ops none [⟨(some 28), .p (.mv (.tmp 3))⟩,
 ⟨(some 29), .call 11 [(.tmp 28)]⟩,
 ⟨(some 27), .p (.mv (.tmp 29))⟩,
 ⟨(some 30), .p (.ext (.tmp 27) 0)⟩,
 ⟨(some 31), .p (.ext (.tmp 27) 1)⟩,
 ⟨(some 32), .p (.ext (.tmp 27) 2)⟩,
 ⟨(some 7), .p (.mv (.tmp 30))⟩,
 ⟨(some 8), .p (.mv (.tmp 31))⟩,
 ⟨(some 9), .p (.mv (.tmp 32))⟩])
 (.seq (.seq (.seq (.ops none [⟨(some 33), .p (.mv (.tmp 6))⟩,
 ⟨(some 34), .p (.bin .neq (.tmp 33) (.const (.int .i64 (0))))⟩,
 ⟨(some 35), .p (.mv (.tmp 34))⟩])
 (.cut [3, 4, 5, 7, 8, 9, 35] c7z8)) c7z6) c7z5))))
theorem k7 : compFn Tryd.prog 7 [[], [], [], [], [3, 4, 5, 7, 8, 9, 35], [3, 4, 5, 7, 8, 35, 37], [3, 4, 5, 7, 8, 39], [3, 4, 5, 7, 8, 39, 44], [3, 4, 5, 7, 8, 46], [3, 4, 5, 7, 8, 46, 51], [3, 4, 5, 7, 8, 53], [3, 4, 5, 7, 8, 53, 56], [3, 4, 5, 7, 8, 58], [3, 4, 5, 7, 8, 58, 61], [3, 4, 5, 7, 8, 63], [3, 4, 5, 7, 8, 63, 66], [3, 4, 5, 7, 8, 68], [3, 4, 5, 7, 8, 68, 70], [], [], [], [], [], [3, 4, 5, 7, 8], [10, 11, 12, 13, 14], [], [], [], [4, 5, 7, 8, 10, 11, 12, 13], [], [], [5, 8, 10, 12, 13, 16, 18, 125], [5, 8, 10, 13, 16, 18, 125, 128], [5, 8, 10, 13, 16, 18, 130], [5, 8, 10, 16, 18, 130, 133], [16, 18, 130, 133, 138], [16, 18, 130, 139], [16, 18, 141], [18, 141, 143], [18, 145], [145, 147], []] = some (149, c7, [.tmp 2]) := by kernel_rfl
def K7z0 (_P : Program) (K : VK) : Kont := bodyP [.tmp 2] K
def K7z5 : Kont := thenK (iwpP P c7z5 (K7z0 P K)) (K7z0 P K)
def K7z6 : Kont := thenK (iwpP P c7z6 (K7z5 P K)) (K7z5 P K)
def p7z8 (w3 l4 c5 m7 d8 f9 x35 : Value) (h : Heap) : Prop := CutP (iwpP P c7z8 (K7z6 P K)) [3, 4, 5, 7, 8, 9, 35] [w3, l4, c5, m7, d8, f9, x35] h
def T7 (x0 : Value) (h : Heap) : Prop :=
 CallP P 16 [x0] h fun x20 h_1 =>
 CallP P 10 [x20] h_1 fun x23 h_2 =>
 OP (iExt 0 x23) fun x24 =>
 OP (iExt 1 x23) fun x25 =>
 OP (iExt 2 x23) fun x26 =>
 CallP P 11 [x20] h_2 fun x29 h_3 =>
 OP (iExt 0 x29) fun x30 =>
 OP (iExt 1 x29) fun x31 =>
 OP (iExt 2 x29) fun x32 =>
 OP (iBin .neq x26 (.int .i64 (0))) fun x34 =>
 p7z8 P K x20 x24 x25 x30 x31 x32 x34 h_3
theorem e7 (x0 : Value) (h : Heap) : iwpP P c7 (bodyP [.tmp 2] K) (frame0 [x0]) h = T7 P K x0 h := by kernel_rfl
theorem f7 {K : VK} {x0 : Value} {h : Heap} (H : T7 Tryd.prog K x0 h) : CallP Tryd.prog 7 [x0] h K :=
 callP_intro k7 (Nat.le_of_ble_eq_true rfl) ((e7 Tryd.prog K x0 h).mpr H)
end Go.Proofs.YthplaillblmgfaaDoor

namespace Go.Proofs.YthplaillblmgfaaDoor
open Go.Sim

theorem INS.at {h : Heap} {e : TypeId} {k : IntKind} {v : Value} {ns : List Int} (p : INS h e k v ns) {i : Nat} (hi : i < ns.length) : ∃ b o, iAdrSl 1 v (I i) = some (pt b o) ∧ iLoad false 1 h (pt b o) = some (.int k ns[i]) := by
  rcases p.2 with ⟨_, h0⟩ | ⟨j, rfl, hc⟩
  · omega
  · have hc := hc.resolve_left (by omega)
    exact ⟨j, i, adr_sl hi, by simp [iLoad, hc, iPart, hi]⟩

end Go.Proofs.YthplaillblmgfaaDoor

