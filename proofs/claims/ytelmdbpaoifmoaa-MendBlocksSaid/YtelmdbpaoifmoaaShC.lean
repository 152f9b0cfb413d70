/-
  Ideal code of the functions that the proof reaches, written by program; the kernel holds it against the code.
-/
import Derived.Test.YtelmdbpaoifmoaaProg
import Derived.Test.YtelmdbpaoifmoaaMgd
import Derived.KernelRfl
namespace Go.Proofs.Ytelmdbpaoifmoaa
open Go.Sim
/-! F12: pommel/pommelref06.Order -/
noncomputable def c12z20 : ICode := .ops none [⟨(some 44), .p (.pick (.tmp 34) (.const (.bool true)) (.tmp 43))⟩]
noncomputable def c12z18 : ICode := .seq (.ops (some (34, false)) [⟨(some 35), .p (.mv (.tmp 1))⟩,
    ⟨(some 36), .p (.mv (.tmp 2))⟩,
    ⟨(some 37), .p (.mv (.tmp 8))⟩,
    ⟨(some 38), .p (.adrSl 1 (.tmp 36) (.tmp 37))⟩,
    ⟨(some 39), .l (.load false 1 (.tmp 38))⟩,
    ⟨(some 40), .call 28 [(.tmp 35), (.tmp 39)]⟩,
    ⟨(some 41), .p (.mv (.tmp 7))⟩,
    ⟨(some 42), .p (.bin .andNot (.tmp 40) (.tmp 41))⟩,
    ⟨(some 43), .p (.bin .neq (.tmp 42) (.const (.int .i64 (0))))⟩])
 (.cut [0, 1, 2, 7, 8, 34, 43] c12z20)
noncomputable def c12z16 : ICode := .seq (.ops none [⟨(some 33), .p (.pick (.tmp 24) (.const (.bool true)) (.tmp 32))⟩,
    ⟨(some 34), .p (.mv (.tmp 33))⟩])
 (.cut [0, 1, 2, 7, 8, 34] c12z18)
noncomputable def c12z14 : ICode := .seq (.ops (some (24, false)) [⟨(some 25), .p (.mv (.tmp 7))⟩,
    ⟨(some 26), .p (.mv (.tmp 2))⟩,
    ⟨(some 27), .p (.mv (.tmp 8))⟩,
    ⟨(some 28), .p (.adrSl 1 (.tmp 26) (.tmp 27))⟩,
    ⟨(some 29), .l (.load false 1 (.tmp 28))⟩,
    ⟨(some 30), .p (.bin .shr (.tmp 25) (.tmp 29))⟩,
    ⟨(some 31), .p (.bin .and (.tmp 30) (.const (.int .i64 (1))))⟩,
    ⟨(some 32), .p (.bin .eql (.tmp 31) (.const (.int .i64 (1))))⟩])
 (.cut [0, 1, 2, 7, 8, 24, 32] c12z16)
noncomputable def c12z12 : ICode := .cond (.tmp 44) (.seq (.ops none [⟨(some 6), .p (.mv (.const (.bool false)))⟩])
  (.ret))
 (.skip)
noncomputable def c12z11 : ICode := .ops none [⟨(some 45), .p (.mv (.tmp 7))⟩,
   ⟨(some 46), .p (.mv (.tmp 2))⟩,
   ⟨(some 47), .p (.mv (.tmp 8))⟩,
   ⟨(some 48), .p (.adrSl 1 (.tmp 46) (.tmp 47))⟩,
   ⟨(some 49), .l (.load false 1 (.tmp 48))⟩,
   ⟨(some 50), .p (.bin .shl (.const (.int .i64 (1))) (.tmp 49))⟩,
   ⟨(some 51), .p (.bin .or (.tmp 45) (.tmp 50))⟩,
   ⟨(some 7), .p (.mv (.tmp 51))⟩]
noncomputable def c12z9 : ICode := .ops none [⟨(some 13), .p (.mv (.tmp 8))⟩,
   ⟨(some 14), .p (.bin .add (.tmp 13) (.const (.int .i64 (1))))⟩,
   ⟨(some 8), .p (.mv (.tmp 14))⟩]
noncomputable def c12z6 : ICode := .seq (.seq (.ops none [⟨(some 9), .p (.mv (.tmp 8))⟩,
     ⟨(some 10), .p (.mv (.tmp 2))⟩,
     ⟨(some 11), .p (.lenSl (.tmp 10))⟩,
     ⟨(some 12), .p (.bin .lss (.tmp 9) (.tmp 11))⟩])
  (.cond (.tmp 12) (.skip)
  (.exit 0)))
 (.seq (.block 1 (.seq (.seq (.seq (.ops none [⟨(some 15), .p (.mv (.tmp 2))⟩,
        ⟨(some 16), .p (.mv (.tmp 8))⟩,
        ⟨(some 17), .p (.adrSl 1 (.tmp 15) (.tmp 16))⟩,
        ⟨(some 18), .l (.load false 1 (.tmp 17))⟩,
        ⟨(some 19), .p (.mv (.tmp 0))⟩,
        ⟨(some 20), .p (.lenSl (.tmp 19))⟩,
        ⟨(some 21), .p (.bin .sub (.tmp 20) (.const (.int .i64 (1))))⟩,
        ⟨(some 22), .call 27 [(.tmp 18), (.const (.int .i64 (0))), (.tmp 21)]⟩,
        ⟨(some 23), .p (.un .not (.tmp 22))⟩,
        ⟨(some 24), .p (.mv (.tmp 23))⟩])
     (.cut [0, 1, 2, 7, 8, 24] c12z14)) c12z12) c12z11)) c12z9)
noncomputable def c12z22 : ICode := .seq (.ops none [⟨(some 52), .p (.mv (.tmp 2))⟩,
    ⟨(some 53), .p (.lenSl (.tmp 52))⟩,
    ⟨(some 54), .p (.mv (.tmp 0))⟩,
    ⟨(some 55), .p (.lenSl (.tmp 54))⟩,
    ⟨(some 56), .p (.bin .eql (.tmp 53) (.tmp 55))⟩,
    ⟨(some 6), .p (.mv (.tmp 56))⟩])
 (.ret)
noncomputable def c12z3 : ICode := .cut [0, 2] c12z22
noncomputable def c12 : ICode := .seq (.ops none [⟨(some 6), .p (.mv (.const (.bool false)))⟩])
 (.seq (.ops none [⟨(some 7), .p (.mv (.const (.int .i64 (0))))⟩])
 (.seq (.seq (.ops none [⟨(some 8), .p (.mv (.const (.int .i64 (0))))⟩])
  (.block 0 (.loop [0, 1, 2] [7, 8] c12z6))) c12z3))
theorem k12 : compFn Try.prog 12 [[], [], [], [0, 1, 2], [7, 8], [], [], [0, 1, 2, 7, 8, 24], [0, 1, 2, 7, 8, 24, 32], [0, 1, 2, 7, 8, 34], [0, 1, 2, 7, 8, 34, 43], [], [], [], [], [0, 2], []] = some (57, c12, [.tmp 6]) := by kernel_rfl
def K12z0 (_P : Program) (K : Value → Heap → Prop) : Exit → (Nat → Value) → Heap → Prop := bodyP [.tmp 6] K
def K12z3 (P : Program) (K : Value → Heap → Prop) : Exit → (Nat → Value) → Heap → Prop := thenK (iwpP P c12z3 (K12z0 P K)) (K12z0 P K)
def K12z5 (P : Program) (K : Value → Heap → Prop) : Exit → (Nat → Value) → Heap → Prop := inBlockK 0 (K12z3 P K)
def K12z6 (P : Program) (K : Value → Heap → Prop) (jobs0 pairs1 l2 : Value) (L1 : List Value → Heap → Prop) : Exit → (Nat → Value) → Heap → Prop := thenK (fun f' h'' => (([0, 1, 2] : List Nat).map f' : List Value) = [jobs0, pairs1, l2] ∧ L1 (([7, 8] : List Nat).map f') h'') (K12z5 P K)
def K12z9 (P : Program) (K : Value → Heap → Prop) (jobs0 pairs1 l2 : Value) (L1 : List Value → Heap → Prop) : Exit → (Nat → Value) → Heap → Prop := thenK (iwpP P c12z9 (K12z6 P K jobs0 pairs1 l2 L1)) (K12z6 P K jobs0 pairs1 l2 L1)
def K12z10 (P : Program) (K : Value → Heap → Prop) (jobs0 pairs1 l2 : Value) (L1 : List Value → Heap → Prop) : Exit → (Nat → Value) → Heap → Prop := inBlockK 1 (K12z9 P K jobs0 pairs1 l2 L1)
def K12z11 (P : Program) (K : Value → Heap → Prop) (jobs0 pairs1 l2 : Value) (L1 : List Value → Heap → Prop) : Exit → (Nat → Value) → Heap → Prop := thenK (iwpP P c12z11 (K12z10 P K jobs0 pairs1 l2 L1)) (K12z10 P K jobs0 pairs1 l2 L1)
def K12z12 (P : Program) (K : Value → Heap → Prop) (jobs0 pairs1 l2 : Value) (L1 : List Value → Heap → Prop) : Exit → (Nat → Value) → Heap → Prop := thenK (iwpP P c12z12 (K12z11 P K jobs0 pairs1 l2 L1)) (K12z11 P K jobs0 pairs1 l2 L1)
def p12z6 (P : Program) (K : Value → Heap → Prop) (jobs0 pairs1 l2 : Value) (L1 : List Value → Heap → Prop) (xs : List Value) (h : Heap) : Prop := CutP (iwpP P c12z6 (K12z6 P K jobs0 pairs1 l2 L1)) ([0, 1, 2] ++ [7, 8]) ([jobs0, pairs1, l2] ++ xs) h
def p12z14 (P : Program) (K : Value → Heap → Prop) (jobs0 pairs1 l2 done7 i8 x24 : Value) (L1 : List Value → Heap → Prop) (h : Heap) : Prop := CutP (iwpP P c12z14 (K12z12 P K jobs0 pairs1 l2 L1)) [0, 1, 2, 7, 8, 24] [jobs0, pairs1, l2, done7, i8, x24] h
def p12z16 (P : Program) (K : Value → Heap → Prop) (jobs0 pairs1 l2 done7 i8 x24 x32 : Value) (L1 : List Value → Heap → Prop) (h : Heap) : Prop := CutP (iwpP P c12z16 (K12z12 P K jobs0 pairs1 l2 L1)) [0, 1, 2, 7, 8, 24, 32] [jobs0, pairs1, l2, done7, i8, x24, x32] h
def p12z18 (P : Program) (K : Value → Heap → Prop) (jobs0 pairs1 l2 done7 i8 x34 : Value) (L1 : List Value → Heap → Prop) (h : Heap) : Prop := CutP (iwpP P c12z18 (K12z12 P K jobs0 pairs1 l2 L1)) [0, 1, 2, 7, 8, 34] [jobs0, pairs1, l2, done7, i8, x34] h
def p12z20 (P : Program) (K : Value → Heap → Prop) (jobs0 pairs1 l2 done7 i8 x34 x43 : Value) (L1 : List Value → Heap → Prop) (h : Heap) : Prop := CutP (iwpP P c12z20 (K12z12 P K jobs0 pairs1 l2 L1)) [0, 1, 2, 7, 8, 34, 43] [jobs0, pairs1, l2, done7, i8, x34, x43] h
def p12z22 (P : Program) (K : Value → Heap → Prop) (jobs0 l2 : Value) (h : Heap) : Prop := CutP (iwpP P c12z22 (K12z0 P K)) [0, 2] [jobs0, l2] h
theorem q12z20 (P : Program) (K : Value → Heap → Prop) (jobs0 pairs1 l2 done7 i8 x34 x43 : Value) (L1 : List Value → Heap → Prop) (h : Heap) : p12z20 P K jobs0 pairs1 l2 done7 i8 x34 x43 L1 h =
  (OP (iPick x34 (.bool true) x43) fun x44 =>
  IfP x44
    (K (.bool false) h)
    (OP (iAdrSl 1 l2 i8) fun x48 =>
    OP (iLoad false 1 h x48) fun x49 =>
    OP (iBin .shl (.int .i64 (1)) x49) fun x50 =>
    OP (iBin .or done7 x50) fun x51 =>
    OP (iBin .add i8 (.int .i64 (1))) fun x14 =>
    ([jobs0, pairs1, l2] : List Value) = [jobs0, pairs1, l2] ∧ L1 [x51, x14] h)) := (CutP_def _ _ _ _).trans (by kernel_rfl)
theorem q12z18 (P : Program) (K : Value → Heap → Prop) (jobs0 pairs1 l2 done7 i8 x34 : Value) (L1 : List Value → Heap → Prop) (h : Heap) : p12z18 P K jobs0 pairs1 l2 done7 i8 x34 L1 h =
  (GdP x34 false
    (OP (iAdrSl 1 l2 i8) fun x38 =>
    OP (iLoad false 1 h x38) fun x39 =>
    CallP P 28 [pairs1, x39] h fun x40 h_1 =>
    OP (iBin .andNot x40 done7) fun x42 =>
    OP (iBin .neq x42 (.int .i64 (0))) fun x43 =>
    p12z20 P K jobs0 pairs1 l2 done7 i8 x34 x43 L1 h_1)
    (p12z20 P K jobs0 pairs1 l2 done7 i8 x34 undef L1 h)) := (CutP_def _ _ _ _).trans (by kernel_rfl)
theorem q12z16 (P : Program) (K : Value → Heap → Prop) (jobs0 pairs1 l2 done7 i8 x24 x32 : Value) (L1 : List Value → Heap → Prop) (h : Heap) : p12z16 P K jobs0 pairs1 l2 done7 i8 x24 x32 L1 h =
  (OP (iPick x24 (.bool true) x32) fun x33 =>
  p12z18 P K jobs0 pairs1 l2 done7 i8 x33 L1 h) := (CutP_def _ _ _ _).trans (by kernel_rfl)
theorem q12z14 (P : Program) (K : Value → Heap → Prop) (jobs0 pairs1 l2 done7 i8 x24 : Value) (L1 : List Value → Heap → Prop) (h : Heap) : p12z14 P K jobs0 pairs1 l2 done7 i8 x24 L1 h =
  (GdP x24 false
    (OP (iAdrSl 1 l2 i8) fun x28 =>
    OP (iLoad false 1 h x28) fun x29 =>
    OP (iBin .shr done7 x29) fun x30 =>
    OP (iBin .and x30 (.int .i64 (1))) fun x31 =>
    OP (iBin .eql x31 (.int .i64 (1))) fun x32 =>
    p12z16 P K jobs0 pairs1 l2 done7 i8 x24 x32 L1 h)
    (p12z16 P K jobs0 pairs1 l2 done7 i8 x24 undef L1 h)) := (CutP_def _ _ _ _).trans (by kernel_rfl)
theorem q12z6 (P : Program) (K : Value → Heap → Prop) (jobs0 pairs1 l2 : Value) (L1 : List Value → Heap → Prop) (done7 i8 : Value) (h : Heap) : p12z6 P K jobs0 pairs1 l2 L1 [done7, i8] h =
  (OP (iLenSl l2) fun x11 =>
  OP (iBin .lss i8 x11) fun x12 =>
  IfP x12
    (OP (iAdrSl 1 l2 i8) fun x17 =>
    OP (iLoad false 1 h x17) fun x18 =>
    OP (iLenSl jobs0) fun x20 =>
    OP (iBin .sub x20 (.int .i64 (1))) fun x21 =>
    CallP P 27 [x18, (.int .i64 (0)), x21] h fun x22 h_1 =>
    OP (iUn .not x22) fun x23 =>
    p12z14 P K jobs0 pairs1 l2 done7 i8 x23 L1 h_1)
    (p12z22 P K jobs0 l2 h)) := (CutP_def _ _ _ _).trans (by kernel_rfl)
theorem q12z22 (P : Program) (K : Value → Heap → Prop) (jobs0 l2 : Value) (h : Heap) : p12z22 P K jobs0 l2 h =
  (OP (iLenSl l2) fun x53 =>
  OP (iLenSl jobs0) fun x55 =>
  OP (iBin .eql x53 x55) fun x56 =>
  K x56 h) := (CutP_def _ _ _ _).trans (by kernel_rfl)
def T12 (P : Program) (K : Value → Heap → Prop) (jobs0 pairs1 l2 : Value) (h : Heap) : Prop :=
  LoopP [(.int .i64 (0)), (.int .i64 (0))] h fun L1 xs hx =>
  p12z6 P K jobs0 pairs1 l2 L1 xs hx
theorem e12 (P : Program) (K : Value → Heap → Prop) (jobs0 pairs1 l2 : Value) (h : Heap) : iwpP P c12 (bodyP [.tmp 6] K) (frame0 [jobs0, pairs1, l2]) h = T12 P K jobs0 pairs1 l2 h := by kernel_rfl
theorem f12 {K : Value → Heap → Prop} {jobs0 pairs1 l2 : Value} {h : Heap} (H : T12 Try.prog K jobs0 pairs1 l2 h) : CallP Try.prog 12 [jobs0, pairs1, l2] h K :=
  callP_intro k12 (Nat.le_of_ble_eq_true rfl) ((e12 Try.prog K jobs0 pairs1 l2 h).mpr H)
/-! F13: pommel/pommelref06.Cost -/
noncomputable def c13z6 : ICode := .seq (.seq (.ops none [⟨(some 8), .p (.mv (.tmp 7))⟩,
     ⟨(some 9), .p (.mv (.tmp 1))⟩,
     ⟨(some 10), .p (.lenSl (.tmp 9))⟩,
     ⟨(some 11), .p (.bin .lss (.tmp 8) (.tmp 10))⟩])
  (.cond (.tmp 11) (.skip)
  (.exit 0)))
 (.seq (.block 1 (.seq (.ops none [⟨(some 14), .p (.mv (.tmp 5))⟩,
      ⟨(some 15), .p (.mv (.tmp 0))⟩,
      ⟨(some 16), .p (.mv (.tmp 1))⟩,
      ⟨(some 17), .p (.mv (.tmp 7))⟩,
      ⟨(some 18), .p (.adrSl 1 (.tmp 16) (.tmp 17))⟩,
      ⟨(some 19), .l (.load false 1 (.tmp 18))⟩,
      ⟨(some 20), .p (.adrSl 2 (.tmp 15) (.tmp 19))⟩,
      ⟨(some 21), .p (.fadr 0 (.tmp 20))⟩,
      ⟨(some 22), .l (.load false 1 (.tmp 21))⟩,
      ⟨(some 23), .p (.bin .add (.tmp 14) (.tmp 22))⟩,
      ⟨(some 5), .p (.mv (.tmp 23))⟩])
   (.ops none [⟨(some 24), .p (.mv (.tmp 6))⟩,
     ⟨(some 25), .p (.mv (.tmp 0))⟩,
     ⟨(some 26), .p (.mv (.tmp 1))⟩,
     ⟨(some 27), .p (.mv (.tmp 7))⟩,
     ⟨(some 28), .p (.adrSl 1 (.tmp 26) (.tmp 27))⟩,
     ⟨(some 29), .l (.load false 1 (.tmp 28))⟩,
     ⟨(some 30), .p (.adrSl 2 (.tmp 25) (.tmp 29))⟩,
     ⟨(some 31), .p (.fadr 1 (.tmp 30))⟩,
     ⟨(some 32), .l (.load false 1 (.tmp 31))⟩,
     ⟨(some 33), .p (.mv (.tmp 5))⟩,
     ⟨(some 34), .p (.bin .mul (.tmp 32) (.tmp 33))⟩,
     ⟨(some 35), .p (.bin .add (.tmp 24) (.tmp 34))⟩,
     ⟨(some 6), .p (.mv (.tmp 35))⟩])))
 (.ops none [⟨(some 12), .p (.mv (.tmp 7))⟩,
   ⟨(some 13), .p (.bin .add (.tmp 12) (.const (.int .i64 (1))))⟩,
   ⟨(some 7), .p (.mv (.tmp 13))⟩]))
noncomputable def c13z12 : ICode := .seq (.ops none [⟨(some 36), .p (.mv (.tmp 6))⟩,
    ⟨(some 4), .p (.mv (.tmp 36))⟩])
 (.ret)
noncomputable def c13z3 : ICode := .cut [6] c13z12
noncomputable def c13 : ICode := .seq (.ops none [⟨(some 4), .p (.mv (.const (.int .i64 (0))))⟩])
 (.seq (.ops none [⟨(some 5), .p (.mv (.const (.int .i64 (0))))⟩,
    ⟨(some 6), .p (.mv (.const (.int .i64 (0))))⟩])
 (.seq (.seq (.ops none [⟨(some 7), .p (.mv (.const (.int .i64 (0))))⟩])
  (.block 0 (.loop [0, 1] [5, 6, 7] c13z6))) c13z3))
theorem k13 : compFn Try.prog 13 [[], [], [], [0, 1], [5, 6, 7], [], [], [], [], [6], []] = some (37, c13, [.tmp 4]) := by kernel_rfl
def K13z0 (_P : Program) (K : Value → Heap → Prop) : Exit → (Nat → Value) → Heap → Prop := bodyP [.tmp 4] K
def K13z3 (P : Program) (K : Value → Heap → Prop) : Exit → (Nat → Value) → Heap → Prop := thenK (iwpP P c13z3 (K13z0 P K)) (K13z0 P K)
def K13z5 (P : Program) (K : Value → Heap → Prop) : Exit → (Nat → Value) → Heap → Prop := inBlockK 0 (K13z3 P K)
def K13z6 (P : Program) (K : Value → Heap → Prop) (jobs0 l1 : Value) (L1 : List Value → Heap → Prop) : Exit → (Nat → Value) → Heap → Prop := thenK (fun f' h'' => (([0, 1] : List Nat).map f' : List Value) = [jobs0, l1] ∧ L1 (([5, 6, 7] : List Nat).map f') h'') (K13z5 P K)
def p13z6 (P : Program) (K : Value → Heap → Prop) (jobs0 l1 : Value) (L1 : List Value → Heap → Prop) (xs : List Value) (h : Heap) : Prop := CutP (iwpP P c13z6 (K13z6 P K jobs0 l1 L1)) ([0, 1] ++ [5, 6, 7]) ([jobs0, l1] ++ xs) h
def p13z12 (P : Program) (K : Value → Heap → Prop) (cost6 : Value) (h : Heap) : Prop := CutP (iwpP P c13z12 (K13z0 P K)) [6] [cost6] h
theorem q13z6 (P : Program) (K : Value → Heap → Prop) (jobs0 l1 : Value) (L1 : List Value → Heap → Prop) (end5 cost6 i7 : Value) (h : Heap) : p13z6 P K jobs0 l1 L1 [end5, cost6, i7] h =
  (OP (iLenSl l1) fun x10 =>
  OP (iBin .lss i7 x10) fun x11 =>
  IfP x11
    (OP (iAdrSl 1 l1 i7) fun x18 =>
    OP (iLoad false 1 h x18) fun x19 =>
    OP (iAdrSl 2 jobs0 x19) fun x20 =>
    OP (iFadr 0 x20) fun x21 =>
    OP (iLoad false 1 h x21) fun x22 =>
    OP (iBin .add end5 x22) fun x23 =>
    OP (iAdrSl 1 l1 i7) fun x28 =>
    OP (iLoad false 1 h x28) fun x29 =>
    OP (iAdrSl 2 jobs0 x29) fun x30 =>
    OP (iFadr 1 x30) fun x31 =>
    OP (iLoad false 1 h x31) fun x32 =>
    OP (iBin .mul x32 x23) fun x34 =>
    OP (iBin .add cost6 x34) fun x35 =>
    OP (iBin .add i7 (.int .i64 (1))) fun x13 =>
    ([jobs0, l1] : List Value) = [jobs0, l1] ∧ L1 [x23, x35, x13] h)
    (p13z12 P K cost6 h)) := (CutP_def _ _ _ _).trans (by kernel_rfl)
theorem q13z12 (P : Program) (K : Value → Heap → Prop) (cost6 : Value) (h : Heap) : p13z12 P K cost6 h =
  (K cost6 h) := (CutP_def _ _ _ _).trans (by kernel_rfl)
def T13 (P : Program) (K : Value → Heap → Prop) (jobs0 l1 : Value) (h : Heap) : Prop :=
  LoopP [(.int .i64 (0)), (.int .i64 (0)), (.int .i64 (0))] h fun L1 xs hx =>
  p13z6 P K jobs0 l1 L1 xs hx
theorem e13 (P : Program) (K : Value → Heap → Prop) (jobs0 l1 : Value) (h : Heap) : iwpP P c13 (bodyP [.tmp 4] K) (frame0 [jobs0, l1]) h = T13 P K jobs0 l1 h := by kernel_rfl
theorem f13 {K : Value → Heap → Prop} {jobs0 l1 : Value} {h : Heap} (H : T13 Try.prog K jobs0 l1 h) : CallP Try.prog 13 [jobs0, l1] h K :=
  callP_intro k13 (Nat.le_of_ble_eq_true rfl) ((e13 Try.prog K jobs0 l1 h).mpr H)
/-! F27: pommel/pommelref06.in -/
noncomputable def c27z6 : ICode := .ops none [⟨(some 14), .p (.pick (.tmp 10) (.tmp 13) (.const (.bool false)))⟩,
   ⟨(some 6), .p (.mv (.tmp 14))⟩]
noncomputable def c27z4 : ICode := .seq (.ops (some (10, true)) [⟨(some 11), .p (.mv (.tmp 0))⟩,
    ⟨(some 12), .p (.mv (.tmp 2))⟩,
    ⟨(some 13), .p (.bin .leq (.tmp 11) (.tmp 12))⟩])
 (.cut [10, 13] c27z6)
noncomputable def c27z2 : ICode := .ret
noncomputable def c27 : ICode := .seq (.ops none [⟨(some 6), .p (.mv (.const (.bool false)))⟩])
 (.seq (.seq (.ops none [⟨(some 7), .p (.mv (.tmp 0))⟩,
     ⟨(some 8), .p (.mv (.tmp 1))⟩,
     ⟨(some 9), .p (.bin .geq (.tmp 7) (.tmp 8))⟩,
     ⟨(some 10), .p (.mv (.tmp 9))⟩])
  (.cut [0, 2, 10] c27z4)) c27z2)
theorem k27 : compFn Try.prog 27 [[], [0, 2, 10], [10, 13], []] = some (15, c27, [.tmp 6]) := by kernel_rfl
def K27z0 (_P : Program) (K : Value → Heap → Prop) : Exit → (Nat → Value) → Heap → Prop := bodyP [.tmp 6] K
def K27z2 (P : Program) (K : Value → Heap → Prop) : Exit → (Nat → Value) → Heap → Prop := thenK (iwpP P c27z2 (K27z0 P K)) (K27z0 P K)
def p27z4 (P : Program) (K : Value → Heap → Prop) (v0 high2 x10 : Value) (h : Heap) : Prop := CutP (iwpP P c27z4 (K27z2 P K)) [0, 2, 10] [v0, high2, x10] h
def p27z6 (P : Program) (K : Value → Heap → Prop) (x10 x13 : Value) (h : Heap) : Prop := CutP (iwpP P c27z6 (K27z2 P K)) [10, 13] [x10, x13] h
theorem q27z6 (P : Program) (K : Value → Heap → Prop) (x10 x13 : Value) (h : Heap) : p27z6 P K x10 x13 h =
  (OP (iPick x10 x13 (.bool false)) fun x14 =>
  K x14 h) := (CutP_def _ _ _ _).trans (by kernel_rfl)
theorem q27z4 (P : Program) (K : Value → Heap → Prop) (v0 high2 x10 : Value) (h : Heap) : p27z4 P K v0 high2 x10 h =
  (GdP x10 true
    (OP (iBin .leq v0 high2) fun x13 =>
    p27z6 P K x10 x13 h)
    (p27z6 P K x10 undef h)) := (CutP_def _ _ _ _).trans (by kernel_rfl)
def T27 (P : Program) (K : Value → Heap → Prop) (v0 low1 high2 : Value) (h : Heap) : Prop :=
  OP (iBin .geq v0 low1) fun x9 =>
  p27z4 P K v0 high2 x9 h
theorem e27 (P : Program) (K : Value → Heap → Prop) (v0 low1 high2 : Value) (h : Heap) : iwpP P c27 (bodyP [.tmp 6] K) (frame0 [v0, low1, high2]) h = T27 P K v0 low1 high2 h := by kernel_rfl
theorem f27 {K : Value → Heap → Prop} {v0 low1 high2 : Value} {h : Heap} (H : T27 Try.prog K v0 low1 high2 h) : CallP Try.prog 27 [v0, low1, high2] h K :=
  callP_intro k27 (Nat.le_of_ble_eq_true rfl) ((e27 Try.prog K v0 low1 high2 h).mpr H)
/-! F28: pommel/pommelref06.ahead -/
noncomputable def c28z12 : ICode := .ops none [⟨(some 11), .p (.mv (.tmp 6))⟩,
   ⟨(some 12), .p (.bin .add (.tmp 11) (.const (.int .i64 (1))))⟩,
   ⟨(some 6), .p (.mv (.tmp 12))⟩]
noncomputable def c28z6 : ICode := .seq (.seq (.ops none [⟨(some 7), .p (.mv (.tmp 6))⟩,
     ⟨(some 8), .p (.mv (.tmp 0))⟩,
     ⟨(some 9), .p (.lenSl (.tmp 8))⟩,
     ⟨(some 10), .p (.bin .lss (.tmp 7) (.tmp 9))⟩])
  (.cond (.tmp 10) (.skip)
  (.exit 0)))
 (.seq (.block 1 (.seq (.ops none [⟨(some 13), .p (.mv (.tmp 0))⟩,
      ⟨(some 14), .p (.mv (.tmp 6))⟩,
      ⟨(some 15), .p (.adrSl 2 (.tmp 13) (.tmp 14))⟩,
      ⟨(some 16), .p (.fadr 1 (.tmp 15))⟩,
      ⟨(some 17), .l (.load false 1 (.tmp 16))⟩,
      ⟨(some 18), .p (.mv (.tmp 1))⟩,
      ⟨(some 19), .p (.bin .eql (.tmp 17) (.tmp 18))⟩])
   (.cond (.tmp 19) (.ops none [⟨(some 20), .p (.mv (.tmp 5))⟩,
      ⟨(some 21), .p (.mv (.tmp 0))⟩,
      ⟨(some 22), .p (.mv (.tmp 6))⟩,
      ⟨(some 23), .p (.adrSl 2 (.tmp 21) (.tmp 22))⟩,
      ⟨(some 24), .p (.fadr 0 (.tmp 23))⟩,
      ⟨(some 25), .l (.load false 1 (.tmp 24))⟩,
      ⟨(some 26), .p (.bin .shl (.const (.int .i64 (1))) (.tmp 25))⟩,
      ⟨(some 27), .p (.bin .or (.tmp 20) (.tmp 26))⟩,
      ⟨(some 5), .p (.mv (.tmp 27))⟩])
   (.skip))))
 (.cut [0, 1, 5, 6] c28z12))
noncomputable def c28z13 : ICode := .seq (.ops none [⟨(some 28), .p (.mv (.tmp 5))⟩,
    ⟨(some 4), .p (.mv (.tmp 28))⟩])
 (.ret)
noncomputable def c28z3 : ICode := .cut [5] c28z13
noncomputable def c28 : ICode := .seq (.ops none [⟨(some 4), .p (.mv (.const (.int .i64 (0))))⟩])
 (.seq (.ops none [⟨(some 5), .p (.mv (.const (.int .i64 (0))))⟩])
 (.seq (.seq (.ops none [⟨(some 6), .p (.mv (.const (.int .i64 (0))))⟩])
  (.block 0 (.loop [0, 1] [5, 6] c28z6))) c28z3))
theorem k28 : compFn Try.prog 28 [[], [], [], [0, 1], [5, 6], [], [], [], [0, 1, 5, 6], [5], []] = some (29, c28, [.tmp 4]) := by kernel_rfl
def K28z0 (_P : Program) (K : Value → Heap → Prop) : Exit → (Nat → Value) → Heap → Prop := bodyP [.tmp 4] K
def K28z3 (P : Program) (K : Value → Heap → Prop) : Exit → (Nat → Value) → Heap → Prop := thenK (iwpP P c28z3 (K28z0 P K)) (K28z0 P K)
def K28z5 (P : Program) (K : Value → Heap → Prop) : Exit → (Nat → Value) → Heap → Prop := inBlockK 0 (K28z3 P K)
def K28z6 (P : Program) (K : Value → Heap → Prop) (pairs0 j1 : Value) (L1 : List Value → Heap → Prop) : Exit → (Nat → Value) → Heap → Prop := thenK (fun f' h'' => (([0, 1] : List Nat).map f' : List Value) = [pairs0, j1] ∧ L1 (([5, 6] : List Nat).map f') h'') (K28z5 P K)
def p28z6 (P : Program) (K : Value → Heap → Prop) (pairs0 j1 : Value) (L1 : List Value → Heap → Prop) (xs : List Value) (h : Heap) : Prop := CutP (iwpP P c28z6 (K28z6 P K pairs0 j1 L1)) ([0, 1] ++ [5, 6]) ([pairs0, j1] ++ xs) h
def p28z12 (P : Program) (K : Value → Heap → Prop) (pairs0 j1 set5 i6 : Value) (L1 : List Value → Heap → Prop) (h : Heap) : Prop := CutP (iwpP P c28z12 (K28z6 P K pairs0 j1 L1)) [0, 1, 5, 6] [pairs0, j1, set5, i6] h
def p28z13 (P : Program) (K : Value → Heap → Prop) (set5 : Value) (h : Heap) : Prop := CutP (iwpP P c28z13 (K28z0 P K)) [5] [set5] h
theorem q28z12 (P : Program) (K : Value → Heap → Prop) (pairs0 j1 set5 i6 : Value) (L1 : List Value → Heap → Prop) (h : Heap) : p28z12 P K pairs0 j1 set5 i6 L1 h =
  (OP (iBin .add i6 (.int .i64 (1))) fun x12 =>
  ([pairs0, j1] : List Value) = [pairs0, j1] ∧ L1 [set5, x12] h) := (CutP_def _ _ _ _).trans (by kernel_rfl)
theorem q28z6 (P : Program) (K : Value → Heap → Prop) (pairs0 j1 : Value) (L1 : List Value → Heap → Prop) (set5 i6 : Value) (h : Heap) : p28z6 P K pairs0 j1 L1 [set5, i6] h =
  (OP (iLenSl pairs0) fun x9 =>
  OP (iBin .lss i6 x9) fun x10 =>
  IfP x10
    (OP (iAdrSl 2 pairs0 i6) fun x15 =>
    OP (iFadr 1 x15) fun x16 =>
    OP (iLoad false 1 h x16) fun x17 =>
    OP (iBin .eql x17 j1) fun x19 =>
    IfP x19
      (OP (iAdrSl 2 pairs0 i6) fun x23 =>
      OP (iFadr 0 x23) fun x24 =>
      OP (iLoad false 1 h x24) fun x25 =>
      OP (iBin .shl (.int .i64 (1)) x25) fun x26 =>
      OP (iBin .or set5 x26) fun x27 =>
      p28z12 P K pairs0 j1 x27 i6 L1 h)
      (p28z12 P K pairs0 j1 set5 i6 L1 h))
    (p28z13 P K set5 h)) := (CutP_def _ _ _ _).trans (by kernel_rfl)
theorem q28z13 (P : Program) (K : Value → Heap → Prop) (set5 : Value) (h : Heap) : p28z13 P K set5 h =
  (K set5 h) := (CutP_def _ _ _ _).trans (by kernel_rfl)
def T28 (P : Program) (K : Value → Heap → Prop) (pairs0 j1 : Value) (h : Heap) : Prop :=
  LoopP [(.int .i64 (0)), (.int .i64 (0))] h fun L1 xs hx =>
  p28z6 P K pairs0 j1 L1 xs hx
theorem e28 (P : Program) (K : Value → Heap → Prop) (pairs0 j1 : Value) (h : Heap) : iwpP P c28 (bodyP [.tmp 4] K) (frame0 [pairs0, j1]) h = T28 P K pairs0 j1 h := by kernel_rfl
theorem f28 {K : Value → Heap → Prop} {pairs0 j1 : Value} {h : Heap} (H : T28 Try.prog K pairs0 j1 h) : CallP Try.prog 28 [pairs0, j1] h K :=
  callP_intro k28 (Nat.le_of_ble_eq_true rfl) ((e28 Try.prog K pairs0 j1 h).mpr H)
end Go.Proofs.Ytelmdbpaoifmoaa
