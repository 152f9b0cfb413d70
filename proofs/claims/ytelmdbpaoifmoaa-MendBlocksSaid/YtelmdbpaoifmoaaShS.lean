/-
  Ideal code of the functions that the proof reaches, written by program; the kernel holds it against the code.
-/
import Derived.Test.YtelmdbpaoifmoaaProg
import Derived.Test.YtelmdbpaoifmoaaMgd
import Derived.KernelRfl
namespace Go.Proofs.Ytelmdbpaoifmoaa
open Go.Sim
/-! F3: pommel/pommellaw06.MendSmith -/
noncomputable def c3z17 : ICode := .ops none [⟨(some 40), .p (.pick (.tmp 37) (.const (.bool true)) (.tmp 39))⟩]
noncomputable def c3z15 : ICode := .seq (.ops (some (37, false)) [⟨(some 38), .call 14 []⟩,
    ⟨(some 39), .p (.un .not (.tmp 38))⟩])
 (.cut [3, 5, 37, 39] c3z17)
noncomputable def c3z13 : ICode := .seq (.ops none [⟨(some 36), .p (.pick (.tmp 30) (.const (.bool true)) (.tmp 35))⟩,
    ⟨(some 37), .p (.mv (.tmp 36))⟩])
 (.cut [3, 5, 37] c3z15)
noncomputable def c3z11 : ICode := .seq (.ops (some (30, false)) [⟨(some 31), .p (.mv (.tmp 6))⟩,
    ⟨(some 32), .p (.mv (.tmp 3))⟩,
    ⟨(some 33), .p (.mv (.tmp 5))⟩,
    ⟨(some 34), .call 13 [(.tmp 32), (.tmp 33)]⟩,
    ⟨(some 35), .p (.bin .neq (.tmp 31) (.tmp 34))⟩])
 (.cut [3, 5, 30, 35] c3z13)
noncomputable def c3z9 : ICode := .seq (.ops none [⟨(some 29), .p (.pick (.tmp 24) (.const (.bool true)) (.tmp 28))⟩,
    ⟨(some 30), .p (.mv (.tmp 29))⟩])
 (.cut [3, 5, 6, 30] c3z11)
noncomputable def c3z7 : ICode := .seq (.ops (some (24, false)) [⟨(some 25), .p (.mv (.tmp 3))⟩,
    ⟨(some 26), .p (.mv (.tmp 5))⟩,
    ⟨(some 27), .call 12 [(.tmp 25), (.const (.slice none 0 0)), (.tmp 26)]⟩,
    ⟨(some 28), .p (.un .not (.tmp 27))⟩])
 (.cut [3, 5, 6, 24, 28] c3z9)
noncomputable def c3z5 : ICode := .cond (.tmp 40) (.seq (.ops none [⟨(some 2), .p (.mv (.const (.bool false)))⟩])
  (.ret))
 (.skip)
noncomputable def c3z22 : ICode := .seq (.seq (.ops none [⟨(some 41), .p (.mv (.tmp 8))⟩,
     ⟨(some 42), .p (.mv (.tmp 5))⟩,
     ⟨(some 43), .p (.lenSl (.tmp 42))⟩,
     ⟨(some 44), .p (.bin .lss (.tmp 41) (.tmp 43))⟩])
  (.cond (.tmp 44) (.skip)
  (.exit 0)))
 (.seq (.block 1 (.seq (.dops [(none, [⟨(some 9), .e (.fl (.alloc 35 [(.int .i64 (0)), (.int .i64 (0))])), 0⟩,
      ⟨(some 10), .e (.fl (.alloc 35 [(.int .i64 (0)), (.int .i64 (0))])), 0⟩,
      ⟨(some 47), .p (.mv (.tmp 3)), 0⟩,
      ⟨(some 48), .p (.mv (.tmp 5)), 0⟩,
      ⟨(some 49), .p (.mv (.tmp 8)), 0⟩,
      ⟨(some 50), .p (.bin .sub (.tmp 49) (.const (.int .i64 (1)))), 16⟩,
      ⟨(some 51), .p (.adrSl 1 (.tmp 48) (.tmp 50)), 56⟩,
      ⟨(some 52), .l (.load false 1 (.tmp 51)), 120⟩,
      ⟨(some 53), .p (.adrSl 2 (.tmp 47) (.tmp 52)), 252⟩,
      ⟨(some 54), .l (.load true 2 (.tmp 53)), 508⟩,
      ⟨(some 55), .p (.mv (.tmp 3)), 0⟩,
      ⟨(some 56), .p (.mv (.tmp 5)), 0⟩,
      ⟨(some 57), .p (.mv (.tmp 8)), 0⟩,
      ⟨(some 58), .p (.adrSl 1 (.tmp 56) (.tmp 57)), 6144⟩,
      ⟨(some 59), .l (.load false 1 (.tmp 58)), 14336⟩,
      ⟨(some 60), .p (.adrSl 2 (.tmp 55) (.tmp 59)), 31744⟩,
      ⟨(some 61), .l (.load true 2 (.tmp 60)), 64512⟩,
      ⟨none, .e (.store 2 (.tmp 9) (.tmp 54)), 1023⟩,
      ⟨none, .e (.store 2 (.tmp 10) (.tmp 61)), 262143⟩])])
   (.seq (.dops [(none, [⟨(some 62), .p (.fadr 1 (.tmp 9)), 0⟩,
      ⟨(some 63), .l (.load false 1 (.tmp 62)), 1⟩,
      ⟨(some 64), .p (.fadr 0 (.tmp 10)), 0⟩,
      ⟨(some 65), .l (.load false 1 (.tmp 64)), 4⟩,
      ⟨(some 66), .p (.bin .mul (.tmp 63) (.tmp 65)), 15⟩,
      ⟨(some 67), .p (.fadr 1 (.tmp 10)), 0⟩,
      ⟨(some 68), .l (.load false 1 (.tmp 67)), 32⟩,
      ⟨(some 69), .p (.fadr 0 (.tmp 9)), 0⟩,
      ⟨(some 70), .l (.load false 1 (.tmp 69)), 128⟩,
      ⟨(some 71), .p (.bin .mul (.tmp 68) (.tmp 70)), 480⟩,
      ⟨(some 72), .p (.bin .lss (.tmp 66) (.tmp 71)), 1023⟩,
      ⟨(some 73), .p (.mv (.tmp 72)), 2047⟩]),
     ((some (73, false)), [⟨(some 74), .p (.fadr 1 (.tmp 9)), 4095⟩,
      ⟨(some 75), .l (.load false 1 (.tmp 74)), 8191⟩,
      ⟨(some 76), .p (.fadr 0 (.tmp 10)), 4095⟩,
      ⟨(some 77), .l (.load false 1 (.tmp 76)), 20479⟩,
      ⟨(some 78), .p (.bin .mul (.tmp 75) (.tmp 77)), 65535⟩,
      ⟨(some 79), .p (.fadr 1 (.tmp 10)), 4095⟩,
      ⟨(some 80), .l (.load false 1 (.tmp 79)), 135167⟩,
      ⟨(some 81), .p (.fadr 0 (.tmp 9)), 4095⟩,
      ⟨(some 82), .l (.load false 1 (.tmp 81)), 528383⟩,
      ⟨(some 83), .p (.bin .mul (.tmp 80) (.tmp 82)), 1970175⟩,
      ⟨(some 84), .p (.bin .eql (.tmp 78) (.tmp 83)), 4194303⟩,
      ⟨(some 85), .p (.mv (.tmp 84)), 8388607⟩]),
     ((some (85, true)), [⟨(some 86), .p (.mv (.tmp 5)), 16777215⟩,
      ⟨(some 87), .p (.mv (.tmp 8)), 16777215⟩,
      ⟨(some 88), .p (.bin .sub (.tmp 87) (.const (.int .i64 (1)))), 50331647⟩,
      ⟨(some 89), .p (.adrSl 1 (.tmp 86) (.tmp 88)), 134217727⟩,
      ⟨(some 90), .l (.load false 1 (.tmp 89)), 268435455⟩,
      ⟨(some 91), .p (.mv (.tmp 5)), 16777215⟩,
      ⟨(some 92), .p (.mv (.tmp 8)), 16777215⟩,
      ⟨(some 93), .p (.adrSl 1 (.tmp 91) (.tmp 92)), 1627389951⟩,
      ⟨(some 94), .l (.load false 1 (.tmp 93)), 3774873599⟩,
      ⟨(some 95), .p (.bin .gtr (.tmp 90) (.tmp 94)), 8589934591⟩]),
     ((some (73, false)), [⟨(some 96), .p (.pick (.tmp 85) (.tmp 95) (.const (.bool false))), 17179869183⟩]),
     (none, [⟨(some 97), .p (.pick (.tmp 73) (.const (.bool true)) (.tmp 96)), 34359738367⟩])])
   (.cond (.tmp 97) (.seq (.ops none [⟨(some 2), .p (.mv (.const (.bool false)))⟩])
    (.ret))
   (.skip)))))
 (.ops none [⟨(some 45), .p (.mv (.tmp 8))⟩,
   ⟨(some 46), .p (.bin .add (.tmp 45) (.const (.int .i64 (1))))⟩,
   ⟨(some 8), .p (.mv (.tmp 46))⟩]))
noncomputable def c3z19 : ICode := .seq (.ops none [⟨(some 2), .p (.mv (.const (.bool true)))⟩])
 (.ret)
noncomputable def c3z4 : ICode := .seq (.seq (.ops none [⟨(some 8), .p (.mv (.const (.int .i64 (1))))⟩])
  (.block 0 (.loop [3, 5] [8] c3z22))) c3z19
noncomputable def c3 : ICode := .seq (.ops none [⟨(some 2), .p (.mv (.const (.bool false)))⟩])
 (.seq (.ops none [⟨(some 12), .p (.mv (.tmp 0))⟩,
    ⟨(some 13), .call 10 [(.tmp 12), (.const (.slice none 0 0)), (.const (.int .i64 (10))), (.const (.int .i64 (0)))]⟩,
    ⟨(some 11), .p (.mv (.tmp 13))⟩,
    ⟨(some 14), .p (.ext (.tmp 11) 0)⟩,
    ⟨(some 15), .p (.ext (.tmp 11) 1)⟩,
    ⟨(some 3), .p (.mv (.tmp 14))⟩,
    ⟨(some 4), .p (.mv (.tmp 15))⟩])
 (.seq (.ops none [⟨(some 17), .p (.mv (.tmp 3))⟩,
    ⟨(some 18), .call 11 [(.tmp 17), (.const (.slice none 0 0))]⟩,
    ⟨(some 16), .p (.mv (.tmp 18))⟩,
    ⟨(some 19), .p (.ext (.tmp 16) 0)⟩,
    ⟨(some 20), .p (.ext (.tmp 16) 1)⟩,
    ⟨(some 21), .p (.ext (.tmp 16) 2)⟩,
    ⟨(some 5), .p (.mv (.tmp 19))⟩,
    ⟨(some 6), .p (.mv (.tmp 20))⟩,
    ⟨(some 7), .p (.mv (.tmp 21))⟩])
 (.seq (.seq (.seq (.ops none [⟨(some 22), .p (.mv (.tmp 7))⟩,
      ⟨(some 23), .p (.bin .neq (.tmp 22) (.const (.int .i64 (0))))⟩,
      ⟨(some 24), .p (.mv (.tmp 23))⟩])
   (.cut [3, 5, 6, 24] c3z7)) c3z5) c3z4)))
theorem k3 : compFn Try.prog 3 [[], [], [], [3, 5, 6, 24], [3, 5, 6, 24, 28], [3, 5, 6, 30], [3, 5, 30, 35], [3, 5, 37], [3, 5, 37, 39], [], [], [], [], [3, 5], [8], [], [], [], [], [], [], [], []] = some (98, c3, [.tmp 2]) := by kernel_rfl
def K3z0 (_P : Program) (K : Value → Heap → Prop) : Exit → (Nat → Value) → Heap → Prop := bodyP [.tmp 2] K
def K3z4 (P : Program) (K : Value → Heap → Prop) : Exit → (Nat → Value) → Heap → Prop := thenK (iwpP P c3z4 (K3z0 P K)) (K3z0 P K)
def K3z5 (P : Program) (K : Value → Heap → Prop) : Exit → (Nat → Value) → Heap → Prop := thenK (iwpP P c3z5 (K3z4 P K)) (K3z4 P K)
def K3z19 (P : Program) (K : Value → Heap → Prop) : Exit → (Nat → Value) → Heap → Prop := thenK (iwpP P c3z19 (K3z0 P K)) (K3z0 P K)
def K3z21 (P : Program) (K : Value → Heap → Prop) : Exit → (Nat → Value) → Heap → Prop := inBlockK 0 (K3z19 P K)
def K3z22 (P : Program) (K : Value → Heap → Prop) (j3 l5 : Value) (L1 : List Value → Heap → Prop) : Exit → (Nat → Value) → Heap → Prop := thenK (fun f' h'' => (([3, 5] : List Nat).map f' : List Value) = [j3, l5] ∧ L1 (([8] : List Nat).map f') h'') (K3z21 P K)
def p3z7 (P : Program) (K : Value → Heap → Prop) (j3 l5 c6 x24 : Value) (h : Heap) : Prop := CutP (iwpP P c3z7 (K3z5 P K)) [3, 5, 6, 24] [j3, l5, c6, x24] h
def p3z9 (P : Program) (K : Value → Heap → Prop) (j3 l5 c6 x24 x28 : Value) (h : Heap) : Prop := CutP (iwpP P c3z9 (K3z5 P K)) [3, 5, 6, 24, 28] [j3, l5, c6, x24, x28] h
def p3z11 (P : Program) (K : Value → Heap → Prop) (j3 l5 c6 x30 : Value) (h : Heap) : Prop := CutP (iwpP P c3z11 (K3z5 P K)) [3, 5, 6, 30] [j3, l5, c6, x30] h
def p3z13 (P : Program) (K : Value → Heap → Prop) (j3 l5 x30 x35 : Value) (h : Heap) : Prop := CutP (iwpP P c3z13 (K3z5 P K)) [3, 5, 30, 35] [j3, l5, x30, x35] h
def p3z15 (P : Program) (K : Value → Heap → Prop) (j3 l5 x37 : Value) (h : Heap) : Prop := CutP (iwpP P c3z15 (K3z5 P K)) [3, 5, 37] [j3, l5, x37] h
def p3z17 (P : Program) (K : Value → Heap → Prop) (j3 l5 x37 x39 : Value) (h : Heap) : Prop := CutP (iwpP P c3z17 (K3z5 P K)) [3, 5, 37, 39] [j3, l5, x37, x39] h
def p3z22 (P : Program) (K : Value → Heap → Prop) (j3 l5 : Value) (L1 : List Value → Heap → Prop) (xs : List Value) (h : Heap) : Prop := CutP (iwpP P c3z22 (K3z22 P K j3 l5 L1)) ([3, 5] ++ [8]) ([j3, l5] ++ xs) h
theorem q3z17 (P : Program) (K : Value → Heap → Prop) (j3 l5 x37 x39 : Value) (h : Heap) : p3z17 P K j3 l5 x37 x39 h =
  (OP (iPick x37 (.bool true) x39) fun x40 =>
  IfP x40
    (K (.bool false) h)
    (LoopP [(.int .i64 (1))] h fun L1 xs hx =>
    p3z22 P K j3 l5 L1 xs hx)) := (CutP_def _ _ _ _).trans (by kernel_rfl)
theorem q3z15 (P : Program) (K : Value → Heap → Prop) (j3 l5 x37 : Value) (h : Heap) : p3z15 P K j3 l5 x37 h =
  (GdP x37 false
    (CallP P 14 [] h fun x38 h_1 =>
    OP (iUn .not x38) fun x39 =>
    p3z17 P K j3 l5 x37 x39 h_1)
    (p3z17 P K j3 l5 x37 undef h)) := (CutP_def _ _ _ _).trans (by kernel_rfl)
theorem q3z13 (P : Program) (K : Value → Heap → Prop) (j3 l5 x30 x35 : Value) (h : Heap) : p3z13 P K j3 l5 x30 x35 h =
  (OP (iPick x30 (.bool true) x35) fun x36 =>
  p3z15 P K j3 l5 x36 h) := (CutP_def _ _ _ _).trans (by kernel_rfl)
theorem q3z11 (P : Program) (K : Value → Heap → Prop) (j3 l5 c6 x30 : Value) (h : Heap) : p3z11 P K j3 l5 c6 x30 h =
  (GdP x30 false
    (CallP P 13 [j3, l5] h fun x34 h_1 =>
    OP (iBin .neq c6 x34) fun x35 =>
    p3z13 P K j3 l5 x30 x35 h_1)
    (p3z13 P K j3 l5 x30 undef h)) := (CutP_def _ _ _ _).trans (by kernel_rfl)
theorem q3z9 (P : Program) (K : Value → Heap → Prop) (j3 l5 c6 x24 x28 : Value) (h : Heap) : p3z9 P K j3 l5 c6 x24 x28 h =
  (OP (iPick x24 (.bool true) x28) fun x29 =>
  p3z11 P K j3 l5 c6 x29 h) := (CutP_def _ _ _ _).trans (by kernel_rfl)
theorem q3z7 (P : Program) (K : Value → Heap → Prop) (j3 l5 c6 x24 : Value) (h : Heap) : p3z7 P K j3 l5 c6 x24 h =
  (GdP x24 false
    (CallP P 12 [j3, (.slice none 0 0), l5] h fun x27 h_1 =>
    OP (iUn .not x27) fun x28 =>
    p3z9 P K j3 l5 c6 x24 x28 h_1)
    (p3z9 P K j3 l5 c6 x24 undef h)) := (CutP_def _ _ _ _).trans (by kernel_rfl)
theorem q3z22 (P : Program) (K : Value → Heap → Prop) (j3 l5 : Value) (L1 : List Value → Heap → Prop) (i8 : Value) (h : Heap) : p3z22 P K j3 l5 L1 [i8] h =
  (OP (iLenSl l5) fun x43 =>
  OP (iBin .lss i8 x43) fun x44 =>
  IfP x44
    (OH (iAlloc 35 [(.int .i64 (0)), (.int .i64 (0))] h) fun a9 h_1 =>
    OP (iObj h_1 a9) fun u =>
    (True) ∧
    OH (iAlloc 35 [(.int .i64 (0)), (.int .i64 (0))] h_1) fun d10 h_2 =>
    OP (iObj h_2 d10) fun u_1 =>
    (iObj h_2 a9 = some u ∧ True) ∧
    OP (iBin .sub i8 (.int .i64 (1))) fun x50 =>
    OP (iAdrSl 1 l5 x50) fun x51 =>
    OP (iLoad false 1 h_2 x51) fun x52 =>
    (iLoad false 1 h x51 = some x52 ∧ iLoad false 1 h_1 x51 = some x52 ∧ True) ∧
    OP (iAdrSl 2 j3 x52) fun x53 =>
    OP (iLoad true 2 h_2 x53) fun x54 =>
    (iLoad true 2 h x53 = some x54 ∧ iLoad true 2 h_1 x53 = some x54 ∧ True) ∧
    OP (iAdrSl 1 l5 i8) fun x58 =>
    OP (iLoad false 1 h_2 x58) fun x59 =>
    (iLoad false 1 h x58 = some x59 ∧ iLoad false 1 h_1 x58 = some x59 ∧ True) ∧
    OP (iAdrSl 2 j3 x59) fun x60 =>
    OP (iLoad true 2 h_2 x60) fun x61 =>
    (iLoad true 2 h x60 = some x61 ∧ iLoad true 2 h_1 x60 = some x61 ∧ True) ∧
    OH (oStore 2 h_2 a9 x54) fun _ h_3 =>
    (iLoad false 1 h_3 x58 = some x59 ∧ iLoad true 2 h_3 x60 = some x61 ∧ True) ∧
    OH (oStore 2 h_3 d10 x61) fun _ h_4 =>
    (True) ∧
    OP (iFadr 1 a9) fun x62 =>
    OP (iLoad false 1 h_4 x62) fun x63 =>
    (True) ∧
    OP (iFadr 0 d10) fun x64 =>
    OP (iLoad false 1 h_4 x64) fun x65 =>
    (True) ∧
    OP (iBin .mul x63 x65) fun x66 =>
    OP (iFadr 1 d10) fun x67 =>
    OP (iLoad false 1 h_4 x67) fun x68 =>
    (True) ∧
    OP (iFadr 0 a9) fun x69 =>
    OP (iLoad false 1 h_4 x69) fun x70 =>
    (True) ∧
    OP (iBin .mul x68 x70) fun x71 =>
    OP (iBin .lss x66 x71) fun x72 =>
    GdP x72 false
      (OP (iFadr 1 a9) fun x74 =>
      OP (iLoad false 1 h_4 x74) fun x75 =>
      (True) ∧
      OP (iFadr 0 d10) fun x76 =>
      OP (iLoad false 1 h_4 x76) fun x77 =>
      (True) ∧
      OP (iBin .mul x75 x77) fun x78 =>
      OP (iFadr 1 d10) fun x79 =>
      OP (iLoad false 1 h_4 x79) fun x80 =>
      (True) ∧
      OP (iFadr 0 a9) fun x81 =>
      OP (iLoad false 1 h_4 x81) fun x82 =>
      (True) ∧
      OP (iBin .mul x80 x82) fun x83 =>
      OP (iBin .eql x78 x83) fun x84 =>
      GdP x84 true
        (OP (iBin .sub i8 (.int .i64 (1))) fun x88 =>
        OP (iAdrSl 1 l5 x88) fun x89 =>
        OP (iLoad false 1 h_4 x89) fun x90 =>
        (True) ∧
        OP (iAdrSl 1 l5 i8) fun x93 =>
        OP (iLoad false 1 h_4 x93) fun x94 =>
        (True) ∧
        OP (iBin .gtr x90 x94) fun x95 =>
        GdP x72 false
          (OP (iPick x84 x95 (.bool false)) fun x96 =>
          OP (iPick x72 (.bool true) x96) fun x97 =>
          IfP x97
            (K (.bool false) h_4)
            (OP (iBin .add i8 (.int .i64 (1))) fun x46 =>
            ([j3, l5] : List Value) = [j3, l5] ∧ L1 [x46] h_4))
          (OP (iPick x72 (.bool true) undef) fun x97 =>
          IfP x97
            (K (.bool false) h_4)
            (OP (iBin .add i8 (.int .i64 (1))) fun x46 =>
            ([j3, l5] : List Value) = [j3, l5] ∧ L1 [x46] h_4)))
        (GdP x72 false
          (OP (iPick x84 undef (.bool false)) fun x96 =>
          OP (iPick x72 (.bool true) x96) fun x97 =>
          IfP x97
            (K (.bool false) h_4)
            (OP (iBin .add i8 (.int .i64 (1))) fun x46 =>
            ([j3, l5] : List Value) = [j3, l5] ∧ L1 [x46] h_4))
          (OP (iPick x72 (.bool true) undef) fun x97 =>
          IfP x97
            (K (.bool false) h_4)
            (OP (iBin .add i8 (.int .i64 (1))) fun x46 =>
            ([j3, l5] : List Value) = [j3, l5] ∧ L1 [x46] h_4))))
      (GdP undef true
        (OP (iBin .sub i8 (.int .i64 (1))) fun x88 =>
        OP (iAdrSl 1 l5 x88) fun x89 =>
        OP (iLoad false 1 h_4 x89) fun x90 =>
        (True) ∧
        OP (iAdrSl 1 l5 i8) fun x93 =>
        OP (iLoad false 1 h_4 x93) fun x94 =>
        (True) ∧
        OP (iBin .gtr x90 x94) fun x95 =>
        GdP x72 false
          (OP (iPick undef x95 (.bool false)) fun x96 =>
          OP (iPick x72 (.bool true) x96) fun x97 =>
          IfP x97
            (K (.bool false) h_4)
            (OP (iBin .add i8 (.int .i64 (1))) fun x46 =>
            ([j3, l5] : List Value) = [j3, l5] ∧ L1 [x46] h_4))
          (OP (iPick x72 (.bool true) undef) fun x97 =>
          IfP x97
            (K (.bool false) h_4)
            (OP (iBin .add i8 (.int .i64 (1))) fun x46 =>
            ([j3, l5] : List Value) = [j3, l5] ∧ L1 [x46] h_4)))
        (GdP x72 false
          (OP (iPick undef undef (.bool false)) fun x96 =>
          OP (iPick x72 (.bool true) x96) fun x97 =>
          IfP x97
            (K (.bool false) h_4)
            (OP (iBin .add i8 (.int .i64 (1))) fun x46 =>
            ([j3, l5] : List Value) = [j3, l5] ∧ L1 [x46] h_4))
          (OP (iPick x72 (.bool true) undef) fun x97 =>
          IfP x97
            (K (.bool false) h_4)
            (OP (iBin .add i8 (.int .i64 (1))) fun x46 =>
            ([j3, l5] : List Value) = [j3, l5] ∧ L1 [x46] h_4)))))
    (K (.bool true) h)) := (CutP_def _ _ _ _).trans (by kernel_rfl)
def T3 (P : Program) (K : Value → Heap → Prop) (x0 : Value) (h : Heap) : Prop :=
  CallP P 10 [x0, (.slice none 0 0), (.int .i64 (10)), (.int .i64 (0))] h fun x13 h_1 =>
  OP (iExt 0 x13) fun x14 =>
  OP (iExt 1 x13) fun x15 =>
  CallP P 11 [x14, (.slice none 0 0)] h_1 fun x18 h_2 =>
  OP (iExt 0 x18) fun x19 =>
  OP (iExt 1 x18) fun x20 =>
  OP (iExt 2 x18) fun x21 =>
  OP (iBin .neq x21 (.int .i64 (0))) fun x23 =>
  p3z7 P K x14 x19 x20 x23 h_2
theorem e3 (P : Program) (K : Value → Heap → Prop) (x0 : Value) (h : Heap) : iwpP P c3 (bodyP [.tmp 2] K) (frame0 [x0]) h = T3 P K x0 h := by kernel_rfl
theorem f3 {K : Value → Heap → Prop} {x0 : Value} {h : Heap} (H : T3 Try.prog K x0 h) : CallP Try.prog 3 [x0] h K :=
  callP_intro k3 (Nat.le_of_ble_eq_true rfl) ((e3 Try.prog K x0 h).mpr H)
end Go.Proofs.Ytelmdbpaoifmoaa
