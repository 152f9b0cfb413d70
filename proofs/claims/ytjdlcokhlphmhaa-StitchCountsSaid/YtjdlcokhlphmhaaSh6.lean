/-
  Ideal code of the functions that the proof reaches, written by program; the kernel holds it against the code.
-/
import Derived.Test.YtjdlcokhlphmhaaProg
import Derived.Test.YtjdlcokhlphmhaaSim20
import Derived.KernelRfl
namespace Go.Proofs.Ytjdlcokhlphmhaa
open Go.Sim
/-! F25: pommel/pommelref01.Same -/
noncomputable def c25z6 : ICode := .ops none [⟨(some 14), .p (.pick (.tmp 9) (.tmp 13) (.const (.bool false)))⟩,
   ⟨(some 4), .p (.mv (.tmp 14))⟩]
noncomputable def c25z4 : ICode := .seq (.ops (some (9, true)) [⟨(some 10), .p (.mv (.tmp 1))⟩,
    ⟨(some 11), .p (.mv (.tmp 0))⟩,
    ⟨(some 12), .call 70 [(.tmp 10), (.tmp 11)]⟩,
    ⟨(some 13), .p (.un .not (.tmp 12))⟩])
 (.cut [9, 13] c25z6)
noncomputable def c25z2 : ICode := .ret
noncomputable def c25 : ICode := .seq (.ops none [⟨(some 4), .p (.mv (.const (.bool false)))⟩])
 (.seq (.seq (.ops none [⟨(some 5), .p (.mv (.tmp 0))⟩,
     ⟨(some 6), .p (.mv (.tmp 1))⟩,
     ⟨(some 7), .call 70 [(.tmp 5), (.tmp 6)]⟩,
     ⟨(some 8), .p (.un .not (.tmp 7))⟩,
     ⟨(some 9), .p (.mv (.tmp 8))⟩])
  (.cut [0, 1, 9] c25z4)) c25z2)
theorem k25 : compFn Try.prog 25 [[], [0, 1, 9], [9, 13], []] = some (15, c25, [.tmp 4]) := by kernel_rfl
def K25z0 (_P : Program) (K : Value → Heap → Prop) : Exit → (Nat → Value) → Heap → Prop := bodyP [.tmp 4] K
def K25z2 (P : Program) (K : Value → Heap → Prop) : Exit → (Nat → Value) → Heap → Prop := thenK (iwpP P c25z2 (K25z0 P K)) (K25z0 P K)
def p25z4 (P : Program) (K : Value → Heap → Prop) (a0 b1 x9 : Value) (h : Heap) : Prop := CutP (iwpP P c25z4 (K25z2 P K)) [0, 1, 9] [a0, b1, x9] h
def p25z6 (P : Program) (K : Value → Heap → Prop) (x9 x13 : Value) (h : Heap) : Prop := CutP (iwpP P c25z6 (K25z2 P K)) [9, 13] [x9, x13] h
theorem q25z6 (P : Program) (K : Value → Heap → Prop) (x9 x13 : Value) (h : Heap) : p25z6 P K x9 x13 h =
  (OP (iPick x9 x13 (.bool false)) fun x14 =>
  K x14 h) := (CutP_def _ _ _ _).trans (by kernel_rfl)
theorem q25z4 (P : Program) (K : Value → Heap → Prop) (a0 b1 x9 : Value) (h : Heap) : p25z4 P K a0 b1 x9 h =
  (GdP x9 true
    (CallP P 70 [b1, a0] h fun x12 h_1 =>
    OP (iUn .not x12) fun x13 =>
    p25z6 P K x9 x13 h_1)
    (p25z6 P K x9 undef h)) := (CutP_def _ _ _ _).trans (by kernel_rfl)
def T25 (P : Program) (K : Value → Heap → Prop) (a0 b1 : Value) (h : Heap) : Prop :=
  CallP P 70 [a0, b1] h fun x7 h_1 =>
  OP (iUn .not x7) fun x8 =>
  p25z4 P K a0 b1 x8 h_1
theorem e25 (P : Program) (K : Value → Heap → Prop) (a0 b1 : Value) (h : Heap) : iwpP P c25 (bodyP [.tmp 4] K) (frame0 [a0, b1]) h = T25 P K a0 b1 h := by kernel_rfl
theorem f25 {K : Value → Heap → Prop} {a0 b1 : Value} {h : Heap} (H : T25 Try.prog K a0 b1 h) : CallP Try.prog 25 [a0, b1] h K :=
  callP_intro k25 (Nat.le_of_ble_eq_true rfl) ((e25 Try.prog K a0 b1 h).mpr H)
/-! F55: pommel/pommellaw03.joined -/
noncomputable def c55z6 : ICode := .seq (.seq (.ops none [⟨(some 5), .p (.mv (.tmp 4))⟩,
     ⟨(some 6), .p (.mv (.tmp 0))⟩,
     ⟨(some 7), .p (.lenSl (.tmp 6))⟩,
     ⟨(some 8), .p (.bin .lss (.tmp 5) (.tmp 7))⟩])
  (.cond (.tmp 8) (.skip)
  (.exit 0)))
 (.seq (.block 1 (.ops none [⟨(some 11), .p (.mv (.tmp 3))⟩,
     ⟨(some 12), .p (.mv (.tmp 0))⟩,
     ⟨(some 13), .p (.mv (.tmp 4))⟩,
     ⟨(some 14), .p (.adrSl 1 (.tmp 12) (.tmp 13))⟩,
     ⟨(some 15), .l (.load false 1 (.tmp 14))⟩,
     ⟨(some 16), .p (.bin .add (.tmp 11) (.tmp 15))⟩,
     ⟨(some 3), .p (.mv (.tmp 16))⟩]))
 (.ops none [⟨(some 9), .p (.mv (.tmp 4))⟩,
   ⟨(some 10), .p (.bin .add (.tmp 9) (.const (.int .i64 (1))))⟩,
   ⟨(some 4), .p (.mv (.tmp 10))⟩]))
noncomputable def c55z11 : ICode := .seq (.ops none [⟨(some 17), .p (.mv (.tmp 3))⟩,
    ⟨(some 2), .p (.mv (.tmp 17))⟩])
 (.ret)
noncomputable def c55z3 : ICode := .cut [3] c55z11
noncomputable def c55 : ICode := .seq (.ops none [⟨(some 2), .p (.mv (.const (.string ⟨#[]⟩)))⟩])
 (.seq (.ops none [⟨(some 3), .p (.mv (.const (.string ⟨#[]⟩)))⟩])
 (.seq (.seq (.ops none [⟨(some 4), .p (.mv (.const (.int .i64 (0))))⟩])
  (.block 0 (.loop [0] [3, 4] c55z6))) c55z3))
theorem k55 : compFn Try.prog 55 [[], [], [], [0], [3, 4], [], [], [], [3], []] = some (18, c55, [.tmp 2]) := by kernel_rfl
def K55z0 (_P : Program) (K : Value → Heap → Prop) : Exit → (Nat → Value) → Heap → Prop := bodyP [.tmp 2] K
def K55z3 (P : Program) (K : Value → Heap → Prop) : Exit → (Nat → Value) → Heap → Prop := thenK (iwpP P c55z3 (K55z0 P K)) (K55z0 P K)
def K55z5 (P : Program) (K : Value → Heap → Prop) : Exit → (Nat → Value) → Heap → Prop := inBlockK 0 (K55z3 P K)
def K55z6 (P : Program) (K : Value → Heap → Prop) (l0 : Value) (L1 : List Value → Heap → Prop) : Exit → (Nat → Value) → Heap → Prop := thenK (fun f' h'' => (([0] : List Nat).map f' : List Value) = [l0] ∧ L1 (([3, 4] : List Nat).map f') h'') (K55z5 P K)
def p55z6 (P : Program) (K : Value → Heap → Prop) (l0 : Value) (L1 : List Value → Heap → Prop) (xs : List Value) (h : Heap) : Prop := CutP (iwpP P c55z6 (K55z6 P K l0 L1)) ([0] ++ [3, 4]) ([l0] ++ xs) h
def p55z11 (P : Program) (K : Value → Heap → Prop) (s3 : Value) (h : Heap) : Prop := CutP (iwpP P c55z11 (K55z0 P K)) [3] [s3] h
theorem q55z6 (P : Program) (K : Value → Heap → Prop) (l0 : Value) (L1 : List Value → Heap → Prop) (s3 i4 : Value) (h : Heap) : p55z6 P K l0 L1 [s3, i4] h =
  (OP (iLenSl l0) fun x7 =>
  OP (iBin .lss i4 x7) fun x8 =>
  IfP x8
    (OP (iAdrSl 1 l0 i4) fun x14 =>
    OP (iLoad false 1 h x14) fun x15 =>
    OP (iBin .add s3 x15) fun x16 =>
    OP (iBin .add i4 (.int .i64 (1))) fun x10 =>
    ([l0] : List Value) = [l0] ∧ L1 [x16, x10] h)
    (p55z11 P K s3 h)) := (CutP_def _ _ _ _).trans (by kernel_rfl)
theorem q55z11 (P : Program) (K : Value → Heap → Prop) (s3 : Value) (h : Heap) : p55z11 P K s3 h =
  (K s3 h) := (CutP_def _ _ _ _).trans (by kernel_rfl)
def T55 (P : Program) (K : Value → Heap → Prop) (l0 : Value) (h : Heap) : Prop :=
  LoopP [(.string ⟨#[]⟩), (.int .i64 (0))] h fun L1 xs hx =>
  p55z6 P K l0 L1 xs hx
theorem e55 (P : Program) (K : Value → Heap → Prop) (l0 : Value) (h : Heap) : iwpP P c55 (bodyP [.tmp 2] K) (frame0 [l0]) h = T55 P K l0 h := by kernel_rfl
theorem f55 {K : Value → Heap → Prop} {l0 : Value} {h : Heap} (H : T55 Try.prog K l0 h) : CallP Try.prog 55 [l0] h K :=
  callP_intro k55 (Nat.le_of_ble_eq_true rfl) ((e55 Try.prog K l0 h).mpr H)
/-! F70: pommel/pommelref01.Before -/
noncomputable def c70z11 : ICode := .ops none [⟨(some 15), .p (.pick (.tmp 10) (.tmp 14) (.const (.bool false)))⟩]
noncomputable def c70z9 : ICode := .seq (.ops (some (10, true)) [⟨(some 11), .p (.mv (.tmp 5))⟩,
    ⟨(some 12), .p (.mv (.tmp 1))⟩,
    ⟨(some 13), .p (.lenSl (.tmp 12))⟩,
    ⟨(some 14), .p (.bin .lss (.tmp 11) (.tmp 13))⟩])
 (.cut [0, 1, 5, 10, 14] c70z11)
noncomputable def c70z7 : ICode := .cond (.tmp 15) (.skip)
 (.exit 0)
noncomputable def c70z6 : ICode := .seq (.block 1 (.seq (.dops [(none, [⟨(some 18), .p (.mv (.tmp 0)), 0⟩,
      ⟨(some 19), .p (.mv (.tmp 5)), 0⟩,
      ⟨(some 20), .p (.adrSl 1 (.tmp 18) (.tmp 19)), 3⟩,
      ⟨(some 21), .l (.load false 1 (.tmp 20)), 7⟩,
      ⟨(some 22), .p (.mv (.tmp 1)), 0⟩,
      ⟨(some 23), .p (.mv (.tmp 5)), 0⟩,
      ⟨(some 24), .p (.adrSl 1 (.tmp 22) (.tmp 23)), 48⟩,
      ⟨(some 25), .l (.load false 1 (.tmp 24)), 112⟩,
      ⟨(some 26), .p (.bin .neq (.tmp 21) (.tmp 25)), 255⟩])])
   (.cond (.tmp 26) (.seq (.dops [(none, [⟨(some 27), .p (.mv (.tmp 0)), 0⟩,
       ⟨(some 28), .p (.mv (.tmp 5)), 0⟩,
       ⟨(some 29), .p (.adrSl 1 (.tmp 27) (.tmp 28)), 3⟩,
       ⟨(some 30), .l (.load false 1 (.tmp 29)), 7⟩,
       ⟨(some 31), .p (.mv (.tmp 1)), 0⟩,
       ⟨(some 32), .p (.mv (.tmp 5)), 0⟩,
       ⟨(some 33), .p (.adrSl 1 (.tmp 31) (.tmp 32)), 48⟩,
       ⟨(some 34), .l (.load false 1 (.tmp 33)), 112⟩,
       ⟨(some 35), .p (.bin .lss (.tmp 30) (.tmp 34)), 255⟩,
       ⟨(some 4), .p (.mv (.tmp 35)), 511⟩])])
    (.ret))
   (.skip))))
 (.ops none [⟨(some 16), .p (.mv (.tmp 5))⟩,
   ⟨(some 17), .p (.bin .add (.tmp 16) (.const (.int .i64 (1))))⟩,
   ⟨(some 5), .p (.mv (.tmp 17))⟩])
noncomputable def c70z5 : ICode := .seq (.seq (.seq (.ops none [⟨(some 6), .p (.mv (.tmp 5))⟩,
      ⟨(some 7), .p (.mv (.tmp 0))⟩,
      ⟨(some 8), .p (.lenSl (.tmp 7))⟩,
      ⟨(some 9), .p (.bin .lss (.tmp 6) (.tmp 8))⟩,
      ⟨(some 10), .p (.mv (.tmp 9))⟩])
   (.cut [0, 1, 5, 10] c70z9)) c70z7) c70z6
noncomputable def c70z16 : ICode := .seq (.ops none [⟨(some 36), .p (.mv (.tmp 0))⟩,
    ⟨(some 37), .p (.lenSl (.tmp 36))⟩,
    ⟨(some 38), .p (.mv (.tmp 1))⟩,
    ⟨(some 39), .p (.lenSl (.tmp 38))⟩,
    ⟨(some 40), .p (.bin .lss (.tmp 37) (.tmp 39))⟩,
    ⟨(some 4), .p (.mv (.tmp 40))⟩])
 (.ret)
noncomputable def c70z2 : ICode := .cut [0, 1] c70z16
noncomputable def c70 : ICode := .seq (.ops none [⟨(some 4), .p (.mv (.const (.bool false)))⟩])
 (.seq (.seq (.ops none [⟨(some 5), .p (.mv (.const (.int .i64 (0))))⟩])
  (.block 0 (.loop [0, 1] [5] c70z5))) c70z2)
theorem k70 : compFn Try.prog 70 [[], [], [0, 1], [5], [0, 1, 5, 10], [0, 1, 5, 10, 14], [], [], [], [], [], [0, 1], []] = some (41, c70, [.tmp 4]) := by kernel_rfl
def K70z0 (_P : Program) (K : Value → Heap → Prop) : Exit → (Nat → Value) → Heap → Prop := bodyP [.tmp 4] K
def K70z2 (P : Program) (K : Value → Heap → Prop) : Exit → (Nat → Value) → Heap → Prop := thenK (iwpP P c70z2 (K70z0 P K)) (K70z0 P K)
def K70z4 (P : Program) (K : Value → Heap → Prop) : Exit → (Nat → Value) → Heap → Prop := inBlockK 0 (K70z2 P K)
def K70z5 (P : Program) (K : Value → Heap → Prop) (a0 b1 : Value) (L1 : List Value → Heap → Prop) : Exit → (Nat → Value) → Heap → Prop := thenK (fun f' h'' => (([0, 1] : List Nat).map f' : List Value) = [a0, b1] ∧ L1 (([5] : List Nat).map f') h'') (K70z4 P K)
def K70z6 (P : Program) (K : Value → Heap → Prop) (a0 b1 : Value) (L1 : List Value → Heap → Prop) : Exit → (Nat → Value) → Heap → Prop := thenK (iwpP P c70z6 (K70z5 P K a0 b1 L1)) (K70z5 P K a0 b1 L1)
def K70z7 (P : Program) (K : Value → Heap → Prop) (a0 b1 : Value) (L1 : List Value → Heap → Prop) : Exit → (Nat → Value) → Heap → Prop := thenK (iwpP P c70z7 (K70z6 P K a0 b1 L1)) (K70z6 P K a0 b1 L1)
def p70z5 (P : Program) (K : Value → Heap → Prop) (a0 b1 : Value) (L1 : List Value → Heap → Prop) (xs : List Value) (h : Heap) : Prop := CutP (iwpP P c70z5 (K70z5 P K a0 b1 L1)) ([0, 1] ++ [5]) ([a0, b1] ++ xs) h
def p70z9 (P : Program) (K : Value → Heap → Prop) (a0 b1 i5 x10 : Value) (L1 : List Value → Heap → Prop) (h : Heap) : Prop := CutP (iwpP P c70z9 (K70z7 P K a0 b1 L1)) [0, 1, 5, 10] [a0, b1, i5, x10] h
def p70z11 (P : Program) (K : Value → Heap → Prop) (a0 b1 i5 x10 x14 : Value) (L1 : List Value → Heap → Prop) (h : Heap) : Prop := CutP (iwpP P c70z11 (K70z7 P K a0 b1 L1)) [0, 1, 5, 10, 14] [a0, b1, i5, x10, x14] h
def p70z16 (P : Program) (K : Value → Heap → Prop) (a0 b1 : Value) (h : Heap) : Prop := CutP (iwpP P c70z16 (K70z0 P K)) [0, 1] [a0, b1] h
theorem q70z11 (P : Program) (K : Value → Heap → Prop) (a0 b1 i5 x10 x14 : Value) (L1 : List Value → Heap → Prop) (h : Heap) : p70z11 P K a0 b1 i5 x10 x14 L1 h =
  (OP (iPick x10 x14 (.bool false)) fun x15 =>
  IfP x15
    (OP (iAdrSl 1 a0 i5) fun x20 =>
    OP (iLoad false 1 h x20) fun x21 =>
    (True) ∧
    OP (iAdrSl 1 b1 i5) fun x24 =>
    OP (iLoad false 1 h x24) fun x25 =>
    (True) ∧
    OP (iBin .neq x21 x25) fun x26 =>
    IfP x26
      (OP (iAdrSl 1 a0 i5) fun x29 =>
      OP (iLoad false 1 h x29) fun x30 =>
      (True) ∧
      OP (iAdrSl 1 b1 i5) fun x33 =>
      OP (iLoad false 1 h x33) fun x34 =>
      (True) ∧
      OP (iBin .lss x30 x34) fun x35 =>
      K x35 h)
      (OP (iBin .add i5 (.int .i64 (1))) fun x17 =>
      ([a0, b1] : List Value) = [a0, b1] ∧ L1 [x17] h))
    (p70z16 P K a0 b1 h)) := (CutP_def _ _ _ _).trans (by kernel_rfl)
theorem q70z9 (P : Program) (K : Value → Heap → Prop) (a0 b1 i5 x10 : Value) (L1 : List Value → Heap → Prop) (h : Heap) : p70z9 P K a0 b1 i5 x10 L1 h =
  (GdP x10 true
    (OP (iLenSl b1) fun x13 =>
    OP (iBin .lss i5 x13) fun x14 =>
    p70z11 P K a0 b1 i5 x10 x14 L1 h)
    (p70z11 P K a0 b1 i5 x10 undef L1 h)) := (CutP_def _ _ _ _).trans (by kernel_rfl)
theorem q70z5 (P : Program) (K : Value → Heap → Prop) (a0 b1 : Value) (L1 : List Value → Heap → Prop) (i5 : Value) (h : Heap) : p70z5 P K a0 b1 L1 [i5] h =
  (OP (iLenSl a0) fun x8 =>
  OP (iBin .lss i5 x8) fun x9 =>
  p70z9 P K a0 b1 i5 x9 L1 h) := (CutP_def _ _ _ _).trans (by kernel_rfl)
theorem q70z16 (P : Program) (K : Value → Heap → Prop) (a0 b1 : Value) (h : Heap) : p70z16 P K a0 b1 h =
  (OP (iLenSl a0) fun x37 =>
  OP (iLenSl b1) fun x39 =>
  OP (iBin .lss x37 x39) fun x40 =>
  K x40 h) := (CutP_def _ _ _ _).trans (by kernel_rfl)
def T70 (P : Program) (K : Value → Heap → Prop) (a0 b1 : Value) (h : Heap) : Prop :=
  LoopP [(.int .i64 (0))] h fun L1 xs hx =>
  p70z5 P K a0 b1 L1 xs hx
theorem e70 (P : Program) (K : Value → Heap → Prop) (a0 b1 : Value) (h : Heap) : iwpP P c70 (bodyP [.tmp 4] K) (frame0 [a0, b1]) h = T70 P K a0 b1 h := by kernel_rfl
theorem f70 {K : Value → Heap → Prop} {a0 b1 : Value} {h : Heap} (H : T70 Try.prog K a0 b1 h) : CallP Try.prog 70 [a0, b1] h K :=
  callP_intro k70 (Nat.le_of_ble_eq_true rfl) ((e70 Try.prog K a0 b1 h).mpr H)
/-! F120: cmp.Less[byte] -/
noncomputable def c120z10 : ICode := .ops none [⟨(some 16), .p (.pick (.tmp 12) (.const (.bool true)) (.tmp 15))⟩,
   ⟨(some 4), .p (.mv (.tmp 16))⟩]
noncomputable def c120z8 : ICode := .seq (.ops (some (12, false)) [⟨(some 13), .p (.mv (.tmp 0))⟩,
    ⟨(some 14), .p (.mv (.tmp 1))⟩,
    ⟨(some 15), .p (.bin .lss (.tmp 13) (.tmp 14))⟩])
 (.cut [12, 15] c120z10)
noncomputable def c120z6 : ICode := .seq (.ops none [⟨(some 11), .p (.pick (.tmp 7) (.tmp 10) (.const (.bool false)))⟩,
    ⟨(some 12), .p (.mv (.tmp 11))⟩])
 (.cut [0, 1, 12] c120z8)
noncomputable def c120z4 : ICode := .seq (.ops (some (7, true)) [⟨(some 8), .p (.mv (.tmp 1))⟩,
    ⟨(some 9), .call 131 [(.tmp 8)]⟩,
    ⟨(some 10), .p (.un .not (.tmp 9))⟩])
 (.cut [0, 1, 7, 10] c120z6)
noncomputable def c120z2 : ICode := .ret
noncomputable def c120 : ICode := .seq (.ops none [⟨(some 4), .p (.mv (.const (.bool false)))⟩])
 (.seq (.seq (.ops none [⟨(some 5), .p (.mv (.tmp 0))⟩,
     ⟨(some 6), .call 131 [(.tmp 5)]⟩,
     ⟨(some 7), .p (.mv (.tmp 6))⟩])
  (.cut [0, 1, 7] c120z4)) c120z2)
theorem k120 : compFn Try.prog 120 [[], [0, 1, 7], [0, 1, 7, 10], [0, 1, 12], [12, 15], []] = some (17, c120, [.tmp 4]) := by kernel_rfl
def K120z0 (_P : Program) (K : Value → Heap → Prop) : Exit → (Nat → Value) → Heap → Prop := bodyP [.tmp 4] K
def K120z2 (P : Program) (K : Value → Heap → Prop) : Exit → (Nat → Value) → Heap → Prop := thenK (iwpP P c120z2 (K120z0 P K)) (K120z0 P K)
def p120z4 (P : Program) (K : Value → Heap → Prop) (x0 y1 x7 : Value) (h : Heap) : Prop := CutP (iwpP P c120z4 (K120z2 P K)) [0, 1, 7] [x0, y1, x7] h
def p120z6 (P : Program) (K : Value → Heap → Prop) (x0 y1 x7 x10 : Value) (h : Heap) : Prop := CutP (iwpP P c120z6 (K120z2 P K)) [0, 1, 7, 10] [x0, y1, x7, x10] h
def p120z8 (P : Program) (K : Value → Heap → Prop) (x0 y1 x12 : Value) (h : Heap) : Prop := CutP (iwpP P c120z8 (K120z2 P K)) [0, 1, 12] [x0, y1, x12] h
def p120z10 (P : Program) (K : Value → Heap → Prop) (x12 x15 : Value) (h : Heap) : Prop := CutP (iwpP P c120z10 (K120z2 P K)) [12, 15] [x12, x15] h
theorem q120z10 (P : Program) (K : Value → Heap → Prop) (x12 x15 : Value) (h : Heap) : p120z10 P K x12 x15 h =
  (OP (iPick x12 (.bool true) x15) fun x16 =>
  K x16 h) := (CutP_def _ _ _ _).trans (by kernel_rfl)
theorem q120z8 (P : Program) (K : Value → Heap → Prop) (x0 y1 x12 : Value) (h : Heap) : p120z8 P K x0 y1 x12 h =
  (GdP x12 false
    (OP (iBin .lss x0 y1) fun x15 =>
    p120z10 P K x12 x15 h)
    (p120z10 P K x12 undef h)) := (CutP_def _ _ _ _).trans (by kernel_rfl)
theorem q120z6 (P : Program) (K : Value → Heap → Prop) (x0 y1 x7 x10 : Value) (h : Heap) : p120z6 P K x0 y1 x7 x10 h =
  (OP (iPick x7 x10 (.bool false)) fun x11 =>
  p120z8 P K x0 y1 x11 h) := (CutP_def _ _ _ _).trans (by kernel_rfl)
theorem q120z4 (P : Program) (K : Value → Heap → Prop) (x0 y1 x7 : Value) (h : Heap) : p120z4 P K x0 y1 x7 h =
  (GdP x7 true
    (CallP P 131 [y1] h fun x9 h_1 =>
    OP (iUn .not x9) fun x10 =>
    p120z6 P K x0 y1 x7 x10 h_1)
    (p120z6 P K x0 y1 x7 undef h)) := (CutP_def _ _ _ _).trans (by kernel_rfl)
def T120 (P : Program) (K : Value → Heap → Prop) (x0 y1 : Value) (h : Heap) : Prop :=
  CallP P 131 [x0] h fun x6 h_1 =>
  p120z4 P K x0 y1 x6 h_1
theorem e120 (P : Program) (K : Value → Heap → Prop) (x0 y1 : Value) (h : Heap) : iwpP P c120 (bodyP [.tmp 4] K) (frame0 [x0, y1]) h = T120 P K x0 y1 h := by kernel_rfl
theorem f120 {K : Value → Heap → Prop} {x0 y1 : Value} {h : Heap} (H : T120 Try.prog K x0 y1 h) : CallP Try.prog 120 [x0, y1] h K :=
  callP_intro k120 (Nat.le_of_ble_eq_true rfl) ((e120 Try.prog K x0 y1 h).mpr H)
/-! F131: cmp.isNaN[byte] -/
noncomputable def c131 : ICode := .seq (.ops none [⟨(some 2), .p (.mv (.const (.bool false)))⟩])
 (.seq (.ops none [⟨(some 3), .p (.mv (.tmp 0))⟩,
    ⟨(some 4), .p (.mv (.tmp 0))⟩,
    ⟨(some 5), .p (.bin .neq (.tmp 3) (.tmp 4))⟩,
    ⟨(some 2), .p (.mv (.tmp 5))⟩])
 (.ret))
theorem k131 : compFn Try.prog 131 [[], []] = some (6, c131, [.tmp 2]) := by kernel_rfl
def K131z0 (_P : Program) (K : Value → Heap → Prop) : Exit → (Nat → Value) → Heap → Prop := bodyP [.tmp 2] K
def T131 (P : Program) (K : Value → Heap → Prop) (x0 : Value) (h : Heap) : Prop :=
  OP (iBin .neq x0 x0) fun x5 =>
  K x5 h
theorem e131 (P : Program) (K : Value → Heap → Prop) (x0 : Value) (h : Heap) : iwpP P c131 (bodyP [.tmp 2] K) (frame0 [x0]) h = T131 P K x0 h := by kernel_rfl
theorem f131 {K : Value → Heap → Prop} {x0 : Value} {h : Heap} (H : T131 Try.prog K x0 h) : CallP Try.prog 131 [x0] h K :=
  callP_intro k131 (Nat.le_of_ble_eq_true rfl) ((e131 Try.prog K x0 h).mpr H)
end Go.Proofs.Ytjdlcokhlphmhaa
