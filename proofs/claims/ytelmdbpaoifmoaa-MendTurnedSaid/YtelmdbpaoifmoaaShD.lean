/-
  Ideal code of the functions that the proof reaches, written by program; the kernel holds it against the code.
-/
import Derived.Test.YtelmdbpaoifmoaaProg
import Derived.Test.YtelmdbpaoifmoaaMgd
import Derived.KernelRfl
namespace Go.Proofs.Ytelmdbpaoifmoaa
open Go.Sim
/-! F3: pommel/pommellaw06.MendSmith -/
noncomputable def c3z17 : ICode := .ops none [⟨(some 40), .p (.pick (.tmp 37) (.const (.bool true)) (.tmp 39))⟩]
noncomputable def c3z15 : ICode := .seq (.ops (some (37, false)) [⟨(some 38), .call 14 []⟩,
    ⟨(some 39), .p (.un .not (.tmp 38))⟩])
 (.cut [3, 5, 37, 39] c3z17)
noncomputable def c3z13 : ICode := .seq (.ops none [⟨(some 36), .p (.pick (.tmp 30) (.const (.bool true)) (.tmp 35))⟩,
    ⟨(some 37), .p (.mv (.tmp 36))⟩])
 (.cut [3, 5, 37] c3z15)
noncomputable def c3z11 : ICode := .seq (.ops (some (30, false)) [⟨(some 31), .p (.mv (.tmp 6))⟩,
    ⟨(some 32), .p (.mv (.tmp 3))⟩,
    ⟨(some 33), .p (.mv (.tmp 5))⟩,
    ⟨(some 34), .call 13 [(.tmp 32), (.tmp 33)]⟩,
    ⟨(some 35), .p (.bin .neq (.tmp 31) (.tmp 34))⟩])
 (.cut [3, 5, 30, 35] c3z13)
noncomputable def c3z9 : ICode := .seq (.ops none [⟨(some 29), .p (.pick (.tmp 24) (.const (.bool true)) (.tmp 28))⟩,
    ⟨(some 30), .p (.mv (.tmp 29))⟩])
 (.cut [3, 5, 6, 30] c3z11)
noncomputable def c3z7 : ICode := .seq (.ops (some (24, false)) [⟨(some 25), .p (.mv (.tmp 3))⟩,
    ⟨(some 26), .p (.mv (.tmp 5))⟩,
    ⟨(some 27), .call 12 [(.tmp 25), (.const (.slice none 0 0)), (.tmp 26)]⟩,
    ⟨(some 28), .p (.un .not (.tmp 27))⟩])
 (.cut [3, 5, 6, 24, 28] c3z9)
noncomputable def c3z5 : ICode := .cond (.tmp 40) (.seq (.ops none [⟨(some 2), .p (.mv (.const (.bool false)))⟩])
  (.ret))
 (.skip)
noncomputable def c3z22 : ICode := .seq (.seq (.ops none [⟨(some 41), .p (.mv (.tmp 8))⟩,
     ⟨(some 42), .p (.mv (.tmp 5))⟩,
     ⟨(some 43), .p (.lenSl (.tmp 42))⟩,
     ⟨(some 44), .p (.bin .lss (.tmp 41) (.tmp 43))⟩])
  (.cond (.tmp 44) (.skip)
  (.exit 0)))
 (.seq (.block 1 (.seq (.dops [(none, [⟨(some 9), .e (.fl (.alloc 35 [(.int .i64 (0)), (.int .i64 (0))])), 0⟩,
      ⟨(some 10), .e (.fl (.alloc 35 [(.int .i64 (0)), (.int .i64 (0))])), 0⟩,
      ⟨(some 47), .p (.mv (.tmp 3)), 0⟩,
      ⟨(some 48), .p (.mv (.tmp 5)), 0⟩,
      ⟨(some 49), .p (.mv (.tmp 8)), 0⟩,
      ⟨(some 50), .p (.bin .sub (.tmp 49) (.const (.int .i64 (1)))), 16⟩,
      ⟨(some 51), .p (.adrSl 1 (.tmp 48) (.tmp 50)), 56⟩,
      ⟨(some 52), .l (.load false 1 (.tmp 51)), 120⟩,
      ⟨(some 53), .p (.adrSl 2 (.tmp 47) (.tmp 52)), 252⟩,
      ⟨(some 54), .l (.load true 2 (.tmp 53)), 508⟩,
      ⟨(some 55), .p (.mv (.tmp 3)), 0⟩,
      ⟨(some 56), .p (.mv (.tmp 5)), 0⟩,
      ⟨(some 57), .p (.mv (.tmp 8)), 0⟩,
      ⟨(some 58), .p (.adrSl 1 (.tmp 56) (.tmp 57)), 6144⟩,
      ⟨(some 59), .l (.load false 1 (.tmp 58)), 14336⟩,
      ⟨(some 60), .p (.adrSl 2 (.tmp 55) (.tmp 59)), 31744⟩,
      ⟨(some 61), .l (.load true 2 (.tmp 60)), 64512⟩,
      ⟨none, .e (.store 2 (.tmp 9) (.tmp 54)), 1023⟩,
      ⟨none, .e (.store 2 (.tmp 10) (.tmp 61)), 262143⟩])])
   (.seq (.dops [(none, [⟨(some 62), .p (.fadr 1 (.tmp 9)), 0⟩,
      ⟨(some 63), .l (.load false 1 (.tmp 62)), 1⟩,
      ⟨(some 64), .p (.fadr 0 (.tmp 10)), 0⟩,
      ⟨(some 65), .l (.load false 1 (.tmp 64)), 4⟩,
      ⟨(some 66), .p (.bin .mul (.tmp 63) (.tmp 65)), 15⟩,
      ⟨(some 67), .p (.fadr 1 (.tmp 10)), 0⟩,
      ⟨(some 68), .l (.load false 1 (.tmp 67)), 32⟩,
      ⟨(some 69), .p (.fadr 0 (.tmp 9)), 0⟩,
      ⟨(some 70), .l (.load false 1 (.tmp 69)), 128⟩,
      ⟨(some 71), .p (.bin .mul (.tmp 68) (.tmp 70)), 480⟩,
      ⟨(some 72), .p (.bin .lss (.tmp 66) (.tmp 71)), 1023⟩,
      ⟨(some 73), .p (.mv (.tmp 72)), 2047⟩]),
     ((some (73, false)), [⟨(some 74), .p (.fadr 1 (.tmp 9)), 4095⟩,
      ⟨(some 75), .l (.load false 1 (.tmp 74)), 8191⟩,
      ⟨(some 76), .p (.fadr 0 (.tmp 10)), 4095⟩,
      ⟨(some 77), .l (.load false 1 (.tmp 76)), 20479⟩,
      ⟨(some 78), .p (.bin .mul (.tmp 75) (.tmp 77)), 65535⟩,
      ⟨(some 79), .p (.fadr 1 (.tmp 10)), 4095⟩,
      ⟨(some 80), .l (.load false 1 (.tmp 79)), 135167⟩,
      ⟨(some 81), .p (.fadr 0 (.tmp 9)), 4095⟩,
      ⟨(some 82), .l (.load false 1 (.tmp 81)), 528383⟩,
      ⟨(some 83), .p (.bin .mul (.tmp 80) (.tmp 82)), 1970175⟩,
      ⟨(some 84), .p (.bin .eql (.tmp 78) (.tmp 83)), 4194303⟩,
      ⟨(some 85), .p (.mv (.tmp 84)), 8388607⟩]),
     ((some (85, true)), [⟨(some 86), .p (.mv (.tmp 5)), 16777215⟩,
      ⟨(some 87), .p (.mv (.tmp 8)), 16777215⟩,
      ⟨(some 88), .p (.bin .sub (.tmp 87) (.const (.int .i64 (1)))), 50331647⟩,
      ⟨(some 89), .p (.adrSl 1 (.tmp 86) (.tmp 88)), 134217727⟩,
      ⟨(some 90), .l (.load false 1 (.tmp 89)), 268435455⟩,
      ⟨(some 91), .p (.mv (.tmp 5)), 16777215⟩,
      ⟨(some 92), .p (.mv (.tmp 8)), 16777215⟩,
      ⟨(some 93), .p (.adrSl 1 (.tmp 91) (.tmp 92)), 1627389951⟩,
      ⟨(some 94), .l (.load false 1 (.tmp 93)), 3774873599⟩,
      ⟨(some 95), .p (.bin .gtr (.tmp 90) (.tmp 94)), 8589934591⟩]),
     ((some (73, false)), [⟨(some 96), .p (.pick (.tmp 85) (.tmp 95) (.const (.bool false))), 17179869183⟩]),
     (none, [⟨(some 97), .p (.pick (.tmp 73) (.const (.bool true)) (.tmp 96)), 34359738367⟩])])
   (.cond (.tmp 97) (.seq (.ops none [⟨(some 2), .p (.mv (.const (.bool false)))⟩])
    (.ret))
   (.skip)))))
 (.ops none [⟨(some 45), .p (.mv (.tmp 8))⟩,
   ⟨(some 46), .p (.bin .add (.tmp 45) (.const (.int .i64 (1))))⟩,
   ⟨(some 8), .p (.mv (.tmp 46))⟩]))
noncomputable def c3z19 : ICode := .seq (.ops none [⟨(some 2), .p (.mv (.const (.bool true)))⟩])
 (.ret)
noncomputable def c3z4 : ICode := .seq (.seq (.ops none [⟨(some 8), .p (.mv (.const (.int .i64 (1))))⟩])
  (.block 0 (.loop [3, 5] [8] c3z22))) c3z19
noncomputable def c3 : ICode := .seq (.ops none [⟨(some 2), .p (.mv (.const (.bool false)))⟩])
 (.seq (.ops none [⟨(some 12), .p (.mv (.tmp 0))⟩,
    ⟨(some 13), .call 10 [(.tmp 12), (.const (.slice none 0 0)), (.const (.int .i64 (10))), (.const (.int .i64 (0)))]⟩,
    ⟨(some 11), .p (.mv (.tmp 13))⟩,
    ⟨(some 14), .p (.ext (.tmp 11) 0)⟩,
    ⟨(some 15), .p (.ext (.tmp 11) 1)⟩,
    ⟨(some 3), .p (.mv (.tmp 14))⟩,
    ⟨(some 4), .p (.mv (.tmp 15))⟩])
 (.seq (.ops none [⟨(some 17), .p (.mv (.tmp 3))⟩,
    ⟨(some 18), .call 11 [(.tmp 17), (.const (.slice none 0 0))]⟩,
    ⟨(some 16), .p (.mv (.tmp 18))⟩,
    ⟨(some 19), .p (.ext (.tmp 16) 0)⟩,
    ⟨(some 20), .p (.ext (.tmp 16) 1)⟩,
    ⟨(some 21), .p (.ext (.tmp 16) 2)⟩,
    ⟨(some 5), .p (.mv (.tmp 19))⟩,
    ⟨(some 6), .p (.mv (.tmp 20))⟩,
    ⟨(some 7), .p (.mv (.tmp 21))⟩])
 (.seq (.seq (.seq (.ops none [⟨(some 22), .p (.mv (.tmp 7))⟩,
      ⟨(some 23), .p (.bin .neq (.tmp 22) (.const (.int .i64 (0))))⟩,
      ⟨(some 24), .p (.mv (.tmp 23))⟩])
   (.cut [3, 5, 6, 24] c3z7)) c3z5) c3z4)))
theorem k3 : compFn Try.prog 3 [[], [], [], [3, 5, 6, 24], [3, 5, 6, 24, 28], [3, 5, 6, 30], [3, 5, 30, 35], [3, 5, 37], [3, 5, 37, 39], [], [], [], [], [3, 5], [8], [], [], [], [], [], [], [], []] = some (98, c3, [.tmp 2]) := by kernel_rfl
def K3z0 (_P : Program) (K : Value → Heap → Prop) : Exit → (Nat → Value) → Heap → Prop := bodyP [.tmp 2] K
def K3z4 (P : Program) (K : Value → Heap → Prop) : Exit → (Nat → Value) → Heap → Prop := thenK (iwpP P c3z4 (K3z0 P K)) (K3z0 P K)
def K3z5 (P : Program) (K : Value → Heap → Prop) : Exit → (Nat → Value) → Heap → Prop := thenK (iwpP P c3z5 (K3z4 P K)) (K3z4 P K)
def K3z19 (P : Program) (K : Value → Heap → Prop) : Exit → (Nat → Value) → Heap → Prop := thenK (iwpP P c3z19 (K3z0 P K)) (K3z0 P K)
def K3z21 (P : Program) (K : Value → Heap → Prop) : Exit → (Nat → Value) → Heap → Prop := inBlockK 0 (K3z19 P K)
def K3z22 (P : Program) (K : Value → Heap → Prop) (j3 l5 : Value) (L1 : List Value → Heap → Prop) : Exit → (Nat → Value) → Heap → Prop := thenK (fun f' h'' => (([3, 5] : List Nat).map f' : List Value) = [j3, l5] ∧ L1 (([8] : List Nat).map f') h'') (K3z21 P K)
def p3z7 (P : Program) (K : Value → Heap → Prop) (j3 l5 c6 x24 : Value) (h : Heap) : Prop := CutP (iwpP P c3z7 (K3z5 P K)) [3, 5, 6, 24] [j3, l5, c6, x24] h
def p3z9 (P : Program) (K : Value → Heap → Prop) (j3 l5 c6 x24 x28 : Value) (h : Heap) : Prop := CutP (iwpP P c3z9 (K3z5 P K)) [3, 5, 6, 24, 28] [j3, l5, c6, x24, x28] h
def p3z11 (P : Program) (K : Value → Heap → Prop) (j3 l5 c6 x30 : Value) (h : Heap) : Prop := CutP (iwpP P c3z11 (K3z5 P K)) [3, 5, 6, 30] [j3, l5, c6, x30] h
def p3z13 (P : Program) (K : Value → Heap → Prop) (j3 l5 x30 x35 : Value) (h : Heap) : Prop := CutP (iwpP P c3z13 (K3z5 P K)) [3, 5, 30, 35] [j3, l5, x30, x35] h
def p3z15 (P : Program) (K : Value → Heap → Prop) (j3 l5 x37 : Value) (h : Heap) : Prop := CutP (iwpP P c3z15 (K3z5 P K)) [3, 5, 37] [j3, l5, x37] h
def p3z17 (P : Program) (K : Value → Heap → Prop) (j3 l5 x37 x39 : Value) (h : Heap) : Prop := CutP (iwpP P c3z17 (K3z5 P K)) [3, 5, 37, 39] [j3, l5, x37, x39] h
def p3z22 (P : Program) (K : Value → Heap → Prop) (j3 l5 : Value) (L1 : List Value → Heap → Prop) (xs : List Value) (h : Heap) : Prop := CutP (iwpP P c3z22 (K3z22 P K j3 l5 L1)) ([3, 5] ++ [8]) ([j3, l5] ++ xs) h
theorem q3z17 (P : Program) (K : Value → Heap → Prop) (j3 l5 x37 x39 : Value) (h : Heap) : p3z17 P K j3 l5 x37 x39 h =
  (OP (iPick x37 (.bool true) x39) fun x40 =>
  IfP x40
    (K (.bool false) h)
    (LoopP [(.int .i64 (1))] h fun L1 xs hx =>
    p3z22 P K j3 l5 L1 xs hx)) := (CutP_def _ _ _ _).trans (by kernel_rfl)
theorem q3z15 (P : Program) (K : Value → Heap → Prop) (j3 l5 x37 : Value) (h : Heap) : p3z15 P K j3 l5 x37 h =
  (GdP x37 false
    (CallP P 14 [] h fun x38 h_1 =>
    OP (iUn .not x38) fun x39 =>
    p3z17 P K j3 l5 x37 x39 h_1)
    (p3z17 P K j3 l5 x37 undef h)) := (CutP_def _ _ _ _).trans (by kernel_rfl)
theorem q3z13 (P : Program) (K : Value → Heap → Prop) (j3 l5 x30 x35 : Value) (h : Heap) : p3z13 P K j3 l5 x30 x35 h =
  (OP (iPick x30 (.bool true) x35) fun x36 =>
  p3z15 P K j3 l5 x36 h) := (CutP_def _ _ _ _).trans (by kernel_rfl)
theorem q3z11 (P : Program) (K : Value → Heap → Prop) (j3 l5 c6 x30 : Value) (h : Heap) : p3z11 P K j3 l5 c6 x30 h =
  (GdP x30 false
    (CallP P 13 [j3, l5] h fun x34 h_1 =>
    OP (iBin .neq c6 x34) fun x35 =>
    p3z13 P K j3 l5 x30 x35 h_1)
    (p3z13 P K j3 l5 x30 undef h)) := (CutP_def _ _ _ _).trans (by kernel_rfl)
theorem q3z9 (P : Program) (K : Value → Heap → Prop) (j3 l5 c6 x24 x28 : Value) (h : Heap) : p3z9 P K j3 l5 c6 x24 x28 h =
  (OP (iPick x24 (.bool true) x28) fun x29 =>
  p3z11 P K j3 l5 c6 x29 h) := (CutP_def _ _ _ _).trans (by kernel_rfl)
theorem q3z7 (P : Program) (K : Value → Heap → Prop) (j3 l5 c6 x24 : Value) (h : Heap) : p3z7 P K j3 l5 c6 x24 h =
  (GdP x24 false
    (CallP P 12 [j3, (.slice none 0 0), l5] h fun x27 h_1 =>
    OP (iUn .not x27) fun x28 =>
    p3z9 P K j3 l5 c6 x24 x28 h_1)
    (p3z9 P K j3 l5 c6 x24 undef h)) := (CutP_def _ _ _ _).trans (by kernel_rfl)
theorem q3z22 (P : Program) (K : Value → Heap → Prop) (j3 l5 : Value) (L1 : List Value → Heap → Prop) (i8 : Value) (h : Heap) : p3z22 P K j3 l5 L1 [i8] h =
  (OP (iLenSl l5) fun x43 =>
  OP (iBin .lss i8 x43) fun x44 =>
  IfP x44
    (OH (iAlloc 35 [(.int .i64 (0)), (.int .i64 (0))] h) fun a9 h_1 =>
    OP (iObj h_1 a9) fun u =>
    (True) ∧
    OH (iAlloc 35 [(.int .i64 (0)), (.int .i64 (0))] h_1) fun d10 h_2 =>
    OP (iObj h_2 d10) fun u_1 =>
    (iObj h_2 a9 = some u ∧ True) ∧
    OP (iBin .sub i8 (.int .i64 (1))) fun x50 =>
    OP (iAdrSl 1 l5 x50) fun x51 =>
    OP (iLoad false 1 h_2 x51) fun x52 =>
    (iLoad false 1 h x51 = some x52 ∧ iLoad false 1 h_1 x51 = some x52 ∧ True) ∧
    OP (iAdrSl 2 j3 x52) fun x53 =>
    OP (iLoad true 2 h_2 x53) fun x54 =>
    (iLoad true 2 h x53 = some x54 ∧ iLoad true 2 h_1 x53 = some x54 ∧ True) ∧
    OP (iAdrSl 1 l5 i8) fun x58 =>
    OP (iLoad false 1 h_2 x58) fun x59 =>
    (iLoad false 1 h x58 = some x59 ∧ iLoad false 1 h_1 x58 = some x59 ∧ True) ∧
    OP (iAdrSl 2 j3 x59) fun x60 =>
    OP (iLoad true 2 h_2 x60) fun x61 =>
    (iLoad true 2 h x60 = some x61 ∧ iLoad true 2 h_1 x60 = some x61 ∧ True) ∧
    OH (oStore 2 h_2 a9 x54) fun _ h_3 =>
    (iLoad false 1 h_3 x58 = some x59 ∧ iLoad true 2 h_3 x60 = some x61 ∧ True) ∧
    OH (oStore 2 h_3 d10 x61) fun _ h_4 =>
    (True) ∧
    OP (iFadr 1 a9) fun x62 =>
    OP (iLoad false 1 h_4 x62) fun x63 =>
    (True) ∧
    OP (iFadr 0 d10) fun x64 =>
    OP (iLoad false 1 h_4 x64) fun x65 =>
    (True) ∧
    OP (iBin .mul x63 x65) fun x66 =>
    OP (iFadr 1 d10) fun x67 =>
    OP (iLoad false 1 h_4 x67) fun x68 =>
    (True) ∧
    OP (iFadr 0 a9) fun x69 =>
    OP (iLoad false 1 h_4 x69) fun x70 =>
    (True) ∧
    OP (iBin .mul x68 x70) fun x71 =>
    OP (iBin .lss x66 x71) fun x72 =>
    GdP x72 false
      (OP (iFadr 1 a9) fun x74 =>
      OP (iLoad false 1 h_4 x74) fun x75 =>
      (True) ∧
      OP (iFadr 0 d10) fun x76 =>
      OP (iLoad false 1 h_4 x76) fun x77 =>
      (True) ∧
      OP (iBin .mul x75 x77) fun x78 =>
      OP (iFadr 1 d10) fun x79 =>
      OP (iLoad false 1 h_4 x79) fun x80 =>
      (True) ∧
      OP (iFadr 0 a9) fun x81 =>
      OP (iLoad false 1 h_4 x81) fun x82 =>
      (True) ∧
      OP (iBin .mul x80 x82) fun x83 =>
      OP (iBin .eql x78 x83) fun x84 =>
      GdP x84 true
        (OP (iBin .sub i8 (.int .i64 (1))) fun x88 =>
        OP (iAdrSl 1 l5 x88) fun x89 =>
        OP (iLoad false 1 h_4 x89) fun x90 =>
        (True) ∧
        OP (iAdrSl 1 l5 i8) fun x93 =>
        OP (iLoad false 1 h_4 x93) fun x94 =>
        (True) ∧
        OP (iBin .gtr x90 x94) fun x95 =>
        GdP x72 false
          (OP (iPick x84 x95 (.bool false)) fun x96 =>
          OP (iPick x72 (.bool true) x96) fun x97 =>
          IfP x97
            (K (.bool false) h_4)
            (OP (iBin .add i8 (.int .i64 (1))) fun x46 =>
            ([j3, l5] : List Value) = [j3, l5] ∧ L1 [x46] h_4))
          (OP (iPick x72 (.bool true) undef) fun x97 =>
          IfP x97
            (K (.bool false) h_4)
            (OP (iBin .add i8 (.int .i64 (1))) fun x46 =>
            ([j3, l5] : List Value) = [j3, l5] ∧ L1 [x46] h_4)))
        (GdP x72 false
          (OP (iPick x84 undef (.bool false)) fun x96 =>
          OP (iPick x72 (.bool true) x96) fun x97 =>
          IfP x97
            (K (.bool false) h_4)
            (OP (iBin .add i8 (.int .i64 (1))) fun x46 =>
            ([j3, l5] : List Value) = [j3, l5] ∧ L1 [x46] h_4))
          (OP (iPick x72 (.bool true) undef) fun x97 =>
          IfP x97
            (K (.bool false) h_4)
            (OP (iBin .add i8 (.int .i64 (1))) fun x46 =>
            ([j3, l5] : List Value) = [j3, l5] ∧ L1 [x46] h_4))))
      (GdP undef true
        (OP (iBin .sub i8 (.int .i64 (1))) fun x88 =>
        OP (iAdrSl 1 l5 x88) fun x89 =>
        OP (iLoad false 1 h_4 x89) fun x90 =>
        (True) ∧
        OP (iAdrSl 1 l5 i8) fun x93 =>
        OP (iLoad false 1 h_4 x93) fun x94 =>
        (True) ∧
        OP (iBin .gtr x90 x94) fun x95 =>
        GdP x72 false
          (OP (iPick undef x95 (.bool false)) fun x96 =>
          OP (iPick x72 (.bool true) x96) fun x97 =>
          IfP x97
            (K (.bool false) h_4)
            (OP (iBin .add i8 (.int .i64 (1))) fun x46 =>
            ([j3, l5] : List Value) = [j3, l5] ∧ L1 [x46] h_4))
          (OP (iPick x72 (.bool true) undef) fun x97 =>
          IfP x97
            (K (.bool false) h_4)
            (OP (iBin .add i8 (.int .i64 (1))) fun x46 =>
            ([j3, l5] : List Value) = [j3, l5] ∧ L1 [x46] h_4)))
        (GdP x72 false
          (OP (iPick undef undef (.bool false)) fun x96 =>
          OP (iPick x72 (.bool true) x96) fun x97 =>
          IfP x97
            (K (.bool false) h_4)
            (OP (iBin .add i8 (.int .i64 (1))) fun x46 =>
            ([j3, l5] : List Value) = [j3, l5] ∧ L1 [x46] h_4))
          (OP (iPick x72 (.bool true) undef) fun x97 =>
          IfP x97
            (K (.bool false) h_4)
            (OP (iBin .add i8 (.int .i64 (1))) fun x46 =>
            ([j3, l5] : List Value) = [j3, l5] ∧ L1 [x46] h_4)))))
    (K (.bool true) h)) := (CutP_def _ _ _ _).trans (by kernel_rfl)
def T3 (P : Program) (K : Value → Heap → Prop) (x0 : Value) (h : Heap) : Prop :=
  CallP P 10 [x0, (.slice none 0 0), (.int .i64 (10)), (.int .i64 (0))] h fun x13 h_1 =>
  OP (iExt 0 x13) fun x14 =>
  OP (iExt 1 x13) fun x15 =>
  CallP P 11 [x14, (.slice none 0 0)] h_1 fun x18 h_2 =>
  OP (iExt 0 x18) fun x19 =>
  OP (iExt 1 x18) fun x20 =>
  OP (iExt 2 x18) fun x21 =>
  OP (iBin .neq x21 (.int .i64 (0))) fun x23 =>
  p3z7 P K x14 x19 x20 x23 h_2
theorem e3 (P : Program) (K : Value → Heap → Prop) (x0 : Value) (h : Heap) : iwpP P c3 (bodyP [.tmp 2] K) (frame0 [x0]) h = T3 P K x0 h := by kernel_rfl
theorem f3 {K : Value → Heap → Prop} {x0 : Value} {h : Heap} (H : T3 Try.prog K x0 h) : CallP Try.prog 3 [x0] h K :=
  callP_intro k3 (Nat.le_of_ble_eq_true rfl) ((e3 Try.prog K x0 h).mpr H)
/-! F7: pommel/pommellaw06.MendPairs -/
noncomputable def c7z39 : ICode := .ops none [⟨(some 102), .p (.pick (.tmp 100) (.tmp 101) (.const (.bool false)))⟩,
   ⟨(some 6), .p (.mv (.tmp 102))⟩]
noncomputable def c7z37 : ICode := .seq (.ops (some (100, true)) [⟨(some 101), .call 14 []⟩])
 (.cut [100, 101] c7z39)
noncomputable def c7z35 : ICode := .seq (.ops none [⟨(some 99), .p (.pick (.tmp 96) (.tmp 98) (.const (.bool false)))⟩,
    ⟨(some 100), .p (.mv (.tmp 99))⟩])
 (.cut [100] c7z37)
noncomputable def c7z33 : ICode := .seq (.ops (some (96, true)) [⟨(some 97), .p (.mv (.tmp 19))⟩,
    ⟨(some 98), .p (.bin .geq (.tmp 97) (.const (.int .i64 (1))))⟩])
 (.cut [96, 98] c7z35)
noncomputable def c7z31 : ICode := .seq (.ops none [⟨(some 95), .p (.pick (.tmp 91) (.tmp 94) (.const (.bool false)))⟩,
    ⟨(some 96), .p (.mv (.tmp 95))⟩])
 (.cut [19, 96] c7z33)
noncomputable def c7z29 : ICode := .seq (.ops (some (91, true)) [⟨(some 92), .p (.mv (.tmp 17))⟩,
    ⟨(some 93), .p (.mv (.tmp 19))⟩,
    ⟨(some 94), .p (.bin .geq (.tmp 92) (.tmp 93))⟩])
 (.cut [19, 91, 94] c7z31)
noncomputable def c7z27 : ICode := .seq (.ops none [⟨(some 90), .p (.pick (.tmp 86) (.tmp 89) (.const (.bool false)))⟩,
    ⟨(some 91), .p (.mv (.tmp 90))⟩])
 (.cut [17, 19, 91] c7z29)
noncomputable def c7z25 : ICode := .seq (.ops (some (86, true)) [⟨(some 87), .p (.mv (.tmp 12))⟩,
    ⟨(some 88), .p (.mv (.tmp 15))⟩,
    ⟨(some 89), .p (.bin .leq (.tmp 87) (.tmp 88))⟩])
 (.cut [17, 19, 86, 89] c7z27)
noncomputable def c7z23 : ICode := .seq (.ops none [⟨(some 85), .p (.pick (.tmp 82) (.tmp 84) (.const (.bool false)))⟩,
    ⟨(some 86), .p (.mv (.tmp 85))⟩])
 (.cut [12, 15, 17, 19, 86] c7z25)
noncomputable def c7z21 : ICode := .seq (.ops (some (82, true)) [⟨(some 83), .p (.mv (.tmp 20))⟩,
    ⟨(some 84), .p (.bin .eql (.tmp 83) (.const (.int .i64 (0))))⟩])
 (.cut [12, 15, 17, 19, 82, 84] c7z23)
noncomputable def c7z19 : ICode := .seq (.ops none [⟨(some 81), .p (.pick (.tmp 78) (.tmp 80) (.const (.bool false)))⟩,
    ⟨(some 82), .p (.mv (.tmp 81))⟩])
 (.cut [12, 15, 17, 19, 20, 82] c7z21)
noncomputable def c7z17 : ICode := .seq (.ops (some (78, true)) [⟨(some 79), .p (.mv (.tmp 18))⟩,
    ⟨(some 80), .p (.bin .eql (.tmp 79) (.const (.int .i64 (0))))⟩])
 (.cut [12, 15, 17, 19, 20, 78, 80] c7z19)
noncomputable def c7z15 : ICode := .seq (.ops none [⟨(some 77), .p (.pick (.tmp 74) (.tmp 76) (.const (.bool false)))⟩,
    ⟨(some 78), .p (.mv (.tmp 77))⟩])
 (.cut [12, 15, 17, 18, 19, 20, 78] c7z17)
noncomputable def c7z13 : ICode := .seq (.ops (some (74, true)) [⟨(some 75), .p (.mv (.tmp 16))⟩,
    ⟨(some 76), .p (.bin .eql (.tmp 75) (.const (.int .i64 (0))))⟩])
 (.cut [12, 15, 17, 18, 19, 20, 74, 76] c7z15)
noncomputable def c7z11 : ICode := .ret
noncomputable def c7z6 : ICode := .seq (.ops none [⟨(some 47), .p (.mv (.tmp 7))⟩,
    ⟨(some 48), .p (.mv (.tmp 8))⟩,
    ⟨(some 49), .call 11 [(.tmp 47), (.tmp 48)]⟩,
    ⟨(some 46), .p (.mv (.tmp 49))⟩,
    ⟨(some 50), .p (.ext (.tmp 46) 0)⟩,
    ⟨(some 51), .p (.ext (.tmp 46) 1)⟩,
    ⟨(some 52), .p (.ext (.tmp 46) 2)⟩,
    ⟨(some 11), .p (.mv (.tmp 50))⟩,
    ⟨(some 12), .p (.mv (.tmp 51))⟩,
    ⟨(some 13), .p (.mv (.tmp 52))⟩])
 (.seq (.ops none [⟨(some 54), .p (.mv (.tmp 7))⟩,
    ⟨(some 55), .p (.mv (.tmp 10))⟩,
    ⟨(some 56), .call 11 [(.tmp 54), (.tmp 55)]⟩,
    ⟨(some 53), .p (.mv (.tmp 56))⟩,
    ⟨(some 57), .p (.ext (.tmp 53) 0)⟩,
    ⟨(some 58), .p (.ext (.tmp 53) 1)⟩,
    ⟨(some 59), .p (.ext (.tmp 53) 2)⟩,
    ⟨(some 14), .p (.mv (.tmp 57))⟩,
    ⟨(some 15), .p (.mv (.tmp 58))⟩,
    ⟨(some 16), .p (.mv (.tmp 59))⟩])
 (.seq (.ops none [⟨(some 61), .p (.mv (.tmp 7))⟩,
    ⟨(some 62), .p (.mv (.tmp 8))⟩,
    ⟨(some 63), .call 18 [(.tmp 61), (.tmp 62)]⟩,
    ⟨(some 60), .p (.mv (.tmp 63))⟩,
    ⟨(some 64), .p (.ext (.tmp 60) 0)⟩,
    ⟨(some 65), .p (.ext (.tmp 60) 1)⟩,
    ⟨(some 17), .p (.mv (.tmp 64))⟩,
    ⟨(some 18), .p (.mv (.tmp 65))⟩])
 (.seq (.ops none [⟨(some 67), .p (.mv (.tmp 7))⟩,
    ⟨(some 68), .p (.mv (.tmp 10))⟩,
    ⟨(some 69), .call 18 [(.tmp 67), (.tmp 68)]⟩,
    ⟨(some 66), .p (.mv (.tmp 69))⟩,
    ⟨(some 70), .p (.ext (.tmp 66) 0)⟩,
    ⟨(some 71), .p (.ext (.tmp 66) 1)⟩,
    ⟨(some 19), .p (.mv (.tmp 70))⟩,
    ⟨(some 20), .p (.mv (.tmp 71))⟩])
 (.seq (.seq (.ops none [⟨(some 72), .p (.mv (.tmp 13))⟩,
     ⟨(some 73), .p (.bin .eql (.tmp 72) (.const (.int .i64 (0))))⟩,
     ⟨(some 74), .p (.mv (.tmp 73))⟩])
  (.cut [12, 15, 16, 17, 18, 19, 20, 74] c7z13)) c7z11))))
noncomputable def c7 : ICode := .seq (.ops none [⟨(some 5), .e (.box 51 (.tmp 2))⟩,
    ⟨(some 6), .p (.mv (.const (.bool false)))⟩])
 (.seq (.ops none [⟨(some 22), .p (.mv (.tmp 0))⟩,
    ⟨(some 23), .p (.mv (.tmp 1))⟩,
    ⟨(some 24), .call 10 [(.tmp 22), (.tmp 23), (.const (.int .i64 (10))), (.const (.int .i64 (0)))]⟩,
    ⟨(some 21), .p (.mv (.tmp 24))⟩,
    ⟨(some 25), .p (.ext (.tmp 21) 0)⟩,
    ⟨(some 26), .p (.ext (.tmp 21) 1)⟩,
    ⟨(some 7), .p (.mv (.tmp 25))⟩,
    ⟨(some 8), .p (.mv (.tmp 26))⟩])
 (.seq (.dops [(none, [⟨(some 29), .e (.fl (.mkSl 51 0 [(.int .u8 (0)), (.int .u8 (0))] [])), 0⟩,
    ⟨(some 36), .l (.load true 2 (.tmp 5)), 0⟩,
    ⟨(some 37), .e (.fl (.mkSl 51 1 [(.int .u8 (0)), (.int .u8 (0))] [(0, 2, (.tmp 36))])), 2⟩,
    ⟨(some 28), .p (.mv (.tmp 0)), 0⟩,
    ⟨(some 30), .p (.mv (.tmp 1)), 0⟩,
    ⟨(some 31), .p (.mv (.tmp 1)), 0⟩,
    ⟨(some 32), .p (.lenSl (.tmp 31)), 32⟩,
    ⟨(some 33), .p (.minmax false [(.tmp 32), (.const (.int .i64 (19)))]), 96⟩,
    ⟨(some 34), .p (.slSl 51 2 (.tmp 30) none (some (.tmp 33))), 240⟩,
    ⟨(some 35), .e (.app 51 2 2 (.tmp 29) (.tmp 34)), 497⟩,
    ⟨(some 38), .e (.app 51 2 2 (.tmp 35) (.tmp 37)), 1015⟩,
    ⟨(some 39), .call 10 [(.tmp 28), (.tmp 38), (.const (.int .i64 (10))), (.const (.int .i64 (0)))], 2047⟩,
    ⟨(some 27), .p (.mv (.tmp 39)), 4095⟩,
    ⟨(some 40), .p (.ext (.tmp 27) 0), 8191⟩,
    ⟨(some 41), .p (.ext (.tmp 27) 1), 8191⟩,
    ⟨(some 9), .p (.mv (.tmp 40)), 16383⟩,
    ⟨(some 10), .p (.mv (.tmp 41)), 65535⟩])])
 (.seq (.seq (.ops none [⟨(some 42), .p (.mv (.tmp 1))⟩,
     ⟨(some 43), .p (.lenSl (.tmp 42))⟩,
     ⟨(some 44), .p (.bin .geq (.tmp 43) (.const (.int .i64 (20))))⟩])
  (.cond (.tmp 44) (.ops none [⟨(some 45), .p (.mv (.tmp 8))⟩,
     ⟨(some 10), .p (.mv (.tmp 45))⟩])
  (.skip)))
 (.cut [7, 8, 10] c7z6))))
theorem k7 : compFn Try.prog 7 [[], [], [], [], [7, 8, 10], [], [], [], [], [12, 15, 16, 17, 18, 19, 20, 74], [12, 15, 17, 18, 19, 20, 74, 76], [12, 15, 17, 18, 19, 20, 78], [12, 15, 17, 19, 20, 78, 80], [12, 15, 17, 19, 20, 82], [12, 15, 17, 19, 82, 84], [12, 15, 17, 19, 86], [17, 19, 86, 89], [17, 19, 91], [19, 91, 94], [19, 96], [96, 98], [100], [100, 101], []] = some (103, c7, [.tmp 6]) := by kernel_rfl
def K7z0 (_P : Program) (K : Value → Heap → Prop) : Exit → (Nat → Value) → Heap → Prop := bodyP [.tmp 6] K
def K7z11 (P : Program) (K : Value → Heap → Prop) : Exit → (Nat → Value) → Heap → Prop := thenK (iwpP P c7z11 (K7z0 P K)) (K7z0 P K)
def p7z6 (P : Program) (K : Value → Heap → Prop) (j7 p8 q10 : Value) (h : Heap) : Prop := CutP (iwpP P c7z6 (K7z0 P K)) [7, 8, 10] [j7, p8, q10] h
def p7z13 (P : Program) (K : Value → Heap → Prop) (c12 d15 f16 n17 g18 m19 h20 x74 : Value) (h : Heap) : Prop := CutP (iwpP P c7z13 (K7z11 P K)) [12, 15, 16, 17, 18, 19, 20, 74] [c12, d15, f16, n17, g18, m19, h20, x74] h
def p7z15 (P : Program) (K : Value → Heap → Prop) (c12 d15 n17 g18 m19 h20 x74 x76 : Value) (h : Heap) : Prop := CutP (iwpP P c7z15 (K7z11 P K)) [12, 15, 17, 18, 19, 20, 74, 76] [c12, d15, n17, g18, m19, h20, x74, x76] h
def p7z17 (P : Program) (K : Value → Heap → Prop) (c12 d15 n17 g18 m19 h20 x78 : Value) (h : Heap) : Prop := CutP (iwpP P c7z17 (K7z11 P K)) [12, 15, 17, 18, 19, 20, 78] [c12, d15, n17, g18, m19, h20, x78] h
def p7z19 (P : Program) (K : Value → Heap → Prop) (c12 d15 n17 m19 h20 x78 x80 : Value) (h : Heap) : Prop := CutP (iwpP P c7z19 (K7z11 P K)) [12, 15, 17, 19, 20, 78, 80] [c12, d15, n17, m19, h20, x78, x80] h
def p7z21 (P : Program) (K : Value → Heap → Prop) (c12 d15 n17 m19 h20 x82 : Value) (h : Heap) : Prop := CutP (iwpP P c7z21 (K7z11 P K)) [12, 15, 17, 19, 20, 82] [c12, d15, n17, m19, h20, x82] h
def p7z23 (P : Program) (K : Value → Heap → Prop) (c12 d15 n17 m19 x82 x84 : Value) (h : Heap) : Prop := CutP (iwpP P c7z23 (K7z11 P K)) [12, 15, 17, 19, 82, 84] [c12, d15, n17, m19, x82, x84] h
def p7z25 (P : Program) (K : Value → Heap → Prop) (c12 d15 n17 m19 x86 : Value) (h : Heap) : Prop := CutP (iwpP P c7z25 (K7z11 P K)) [12, 15, 17, 19, 86] [c12, d15, n17, m19, x86] h
def p7z27 (P : Program) (K : Value → Heap → Prop) (n17 m19 x86 x89 : Value) (h : Heap) : Prop := CutP (iwpP P c7z27 (K7z11 P K)) [17, 19, 86, 89] [n17, m19, x86, x89] h
def p7z29 (P : Program) (K : Value → Heap → Prop) (n17 m19 x91 : Value) (h : Heap) : Prop := CutP (iwpP P c7z29 (K7z11 P K)) [17, 19, 91] [n17, m19, x91] h
def p7z31 (P : Program) (K : Value → Heap → Prop) (m19 x91 x94 : Value) (h : Heap) : Prop := CutP (iwpP P c7z31 (K7z11 P K)) [19, 91, 94] [m19, x91, x94] h
def p7z33 (P : Program) (K : Value → Heap → Prop) (m19 x96 : Value) (h : Heap) : Prop := CutP (iwpP P c7z33 (K7z11 P K)) [19, 96] [m19, x96] h
def p7z35 (P : Program) (K : Value → Heap → Prop) (x96 x98 : Value) (h : Heap) : Prop := CutP (iwpP P c7z35 (K7z11 P K)) [96, 98] [x96, x98] h
def p7z37 (P : Program) (K : Value → Heap → Prop) (x100 : Value) (h : Heap) : Prop := CutP (iwpP P c7z37 (K7z11 P K)) [100] [x100] h
def p7z39 (P : Program) (K : Value → Heap → Prop) (x100 x101 : Value) (h : Heap) : Prop := CutP (iwpP P c7z39 (K7z11 P K)) [100, 101] [x100, x101] h
theorem q7z39 (P : Program) (K : Value → Heap → Prop) (x100 x101 : Value) (h : Heap) : p7z39 P K x100 x101 h =
  (OP (iPick x100 x101 (.bool false)) fun x102 =>
  K x102 h) := (CutP_def _ _ _ _).trans (by kernel_rfl)
theorem q7z37 (P : Program) (K : Value → Heap → Prop) (x100 : Value) (h : Heap) : p7z37 P K x100 h =
  (GdP x100 true
    (CallP P 14 [] h fun x101 h_1 =>
    p7z39 P K x100 x101 h_1)
    (p7z39 P K x100 undef h)) := (CutP_def _ _ _ _).trans (by kernel_rfl)
theorem q7z35 (P : Program) (K : Value → Heap → Prop) (x96 x98 : Value) (h : Heap) : p7z35 P K x96 x98 h =
  (OP (iPick x96 x98 (.bool false)) fun x99 =>
  p7z37 P K x99 h) := (CutP_def _ _ _ _).trans (by kernel_rfl)
theorem q7z33 (P : Program) (K : Value → Heap → Prop) (m19 x96 : Value) (h : Heap) : p7z33 P K m19 x96 h =
  (GdP x96 true
    (OP (iBin .geq m19 (.int .i64 (1))) fun x98 =>
    p7z35 P K x96 x98 h)
    (p7z35 P K x96 undef h)) := (CutP_def _ _ _ _).trans (by kernel_rfl)
theorem q7z31 (P : Program) (K : Value → Heap → Prop) (m19 x91 x94 : Value) (h : Heap) : p7z31 P K m19 x91 x94 h =
  (OP (iPick x91 x94 (.bool false)) fun x95 =>
  p7z33 P K m19 x95 h) := (CutP_def _ _ _ _).trans (by kernel_rfl)
theorem q7z29 (P : Program) (K : Value → Heap → Prop) (n17 m19 x91 : Value) (h : Heap) : p7z29 P K n17 m19 x91 h =
  (GdP x91 true
    (OP (iBin .geq n17 m19) fun x94 =>
    p7z31 P K m19 x91 x94 h)
    (p7z31 P K m19 x91 undef h)) := (CutP_def _ _ _ _).trans (by kernel_rfl)
theorem q7z27 (P : Program) (K : Value → Heap → Prop) (n17 m19 x86 x89 : Value) (h : Heap) : p7z27 P K n17 m19 x86 x89 h =
  (OP (iPick x86 x89 (.bool false)) fun x90 =>
  p7z29 P K n17 m19 x90 h) := (CutP_def _ _ _ _).trans (by kernel_rfl)
theorem q7z25 (P : Program) (K : Value → Heap → Prop) (c12 d15 n17 m19 x86 : Value) (h : Heap) : p7z25 P K c12 d15 n17 m19 x86 h =
  (GdP x86 true
    (OP (iBin .leq c12 d15) fun x89 =>
    p7z27 P K n17 m19 x86 x89 h)
    (p7z27 P K n17 m19 x86 undef h)) := (CutP_def _ _ _ _).trans (by kernel_rfl)
theorem q7z23 (P : Program) (K : Value → Heap → Prop) (c12 d15 n17 m19 x82 x84 : Value) (h : Heap) : p7z23 P K c12 d15 n17 m19 x82 x84 h =
  (OP (iPick x82 x84 (.bool false)) fun x85 =>
  p7z25 P K c12 d15 n17 m19 x85 h) := (CutP_def _ _ _ _).trans (by kernel_rfl)
theorem q7z21 (P : Program) (K : Value → Heap → Prop) (c12 d15 n17 m19 h20 x82 : Value) (h : Heap) : p7z21 P K c12 d15 n17 m19 h20 x82 h =
  (GdP x82 true
    (OP (iBin .eql h20 (.int .i64 (0))) fun x84 =>
    p7z23 P K c12 d15 n17 m19 x82 x84 h)
    (p7z23 P K c12 d15 n17 m19 x82 undef h)) := (CutP_def _ _ _ _).trans (by kernel_rfl)
theorem q7z19 (P : Program) (K : Value → Heap → Prop) (c12 d15 n17 m19 h20 x78 x80 : Value) (h : Heap) : p7z19 P K c12 d15 n17 m19 h20 x78 x80 h =
  (OP (iPick x78 x80 (.bool false)) fun x81 =>
  p7z21 P K c12 d15 n17 m19 h20 x81 h) := (CutP_def _ _ _ _).trans (by kernel_rfl)
theorem q7z17 (P : Program) (K : Value → Heap → Prop) (c12 d15 n17 g18 m19 h20 x78 : Value) (h : Heap) : p7z17 P K c12 d15 n17 g18 m19 h20 x78 h =
  (GdP x78 true
    (OP (iBin .eql g18 (.int .i64 (0))) fun x80 =>
    p7z19 P K c12 d15 n17 m19 h20 x78 x80 h)
    (p7z19 P K c12 d15 n17 m19 h20 x78 undef h)) := (CutP_def _ _ _ _).trans (by kernel_rfl)
theorem q7z15 (P : Program) (K : Value → Heap → Prop) (c12 d15 n17 g18 m19 h20 x74 x76 : Value) (h : Heap) : p7z15 P K c12 d15 n17 g18 m19 h20 x74 x76 h =
  (OP (iPick x74 x76 (.bool false)) fun x77 =>
  p7z17 P K c12 d15 n17 g18 m19 h20 x77 h) := (CutP_def _ _ _ _).trans (by kernel_rfl)
theorem q7z13 (P : Program) (K : Value → Heap → Prop) (c12 d15 f16 n17 g18 m19 h20 x74 : Value) (h : Heap) : p7z13 P K c12 d15 f16 n17 g18 m19 h20 x74 h =
  (GdP x74 true
    (OP (iBin .eql f16 (.int .i64 (0))) fun x76 =>
    p7z15 P K c12 d15 n17 g18 m19 h20 x74 x76 h)
    (p7z15 P K c12 d15 n17 g18 m19 h20 x74 undef h)) := (CutP_def _ _ _ _).trans (by kernel_rfl)
theorem q7z6 (P : Program) (K : Value → Heap → Prop) (j7 p8 q10 : Value) (h : Heap) : p7z6 P K j7 p8 q10 h =
  (CallP P 11 [j7, p8] h fun x49 h_1 =>
  OP (iExt 0 x49) fun x50 =>
  OP (iExt 1 x49) fun x51 =>
  OP (iExt 2 x49) fun x52 =>
  CallP P 11 [j7, q10] h_1 fun x56 h_2 =>
  OP (iExt 0 x56) fun x57 =>
  OP (iExt 1 x56) fun x58 =>
  OP (iExt 2 x56) fun x59 =>
  CallP P 18 [j7, p8] h_2 fun x63 h_3 =>
  OP (iExt 0 x63) fun x64 =>
  OP (iExt 1 x63) fun x65 =>
  CallP P 18 [j7, q10] h_3 fun x69 h_4 =>
  OP (iExt 0 x69) fun x70 =>
  OP (iExt 1 x69) fun x71 =>
  OP (iBin .eql x52 (.int .i64 (0))) fun x73 =>
  p7z13 P K x51 x58 x59 x64 x65 x70 x71 x73 h_4) := (CutP_def _ _ _ _).trans (by kernel_rfl)
def T7 (P : Program) (K : Value → Heap → Prop) (x0 y1 more2 : Value) (h : Heap) : Prop :=
  OH (iBox 51 h more2) fun more5 h_1 =>
  CallP P 10 [x0, y1, (.int .i64 (10)), (.int .i64 (0))] h_1 fun x24 h_2 =>
  OP (iExt 0 x24) fun x25 =>
  OP (iExt 1 x24) fun x26 =>
  OH (iMkSl 51 0 [(.int .u8 (0)), (.int .u8 (0))] h_2 []) fun x29 h_3 =>
  OP (iObj h_3 x29) fun u =>
  (True) ∧
  OP (iLoad true 2 h_3 more5) fun x36 =>
  (iLoad true 2 h_2 more5 = some x36 ∧ True) ∧
  OH (iMkSl 51 1 [(.int .u8 (0)), (.int .u8 (0))] h_3 [(0, 2, x36)]) fun x37 h_4 =>
  OP (iObj h_4 x37) fun u_1 =>
  (iObj h_4 x29 = some u ∧ True) ∧
  OP (iLenSl y1) fun x32 =>
  OP (iMinmax false [x32, (.int .i64 (19))]) fun x33 =>
  OP (iSlSl 51 2 y1 none (some x33)) fun x34 =>
  OH (iApp 51 2 2 h_4 x29 x34) fun x35 h_5 =>
  (iLoad true 2 h_5 more5 = some x36 ∧ iObj h_5 x37 = some u_1 ∧ True) ∧
  OH (iApp 51 2 2 h_5 x35 x37) fun x38 h_6 =>
  (True) ∧
  CallP P 10 [x0, x38, (.int .i64 (10)), (.int .i64 (0))] h_6 fun x39 h_7 =>
  (True) ∧
  OP (iExt 0 x39) fun x40 =>
  OP (iExt 1 x39) fun x41 =>
  OP (iLenSl y1) fun x43 =>
  OP (iBin .geq x43 (.int .i64 (20))) fun x44 =>
  IfP x44
    (p7z6 P K x25 x26 x26 h_7)
    (p7z6 P K x25 x26 x41 h_7)
theorem e7 (P : Program) (K : Value → Heap → Prop) (x0 y1 more2 : Value) (h : Heap) : iwpP P c7 (bodyP [.tmp 6] K) (frame0 [x0, y1, more2]) h = T7 P K x0 y1 more2 h := by kernel_rfl
theorem f7 {K : Value → Heap → Prop} {x0 y1 more2 : Value} {h : Heap} (H : T7 Try.prog K x0 y1 more2 h) : CallP Try.prog 7 [x0, y1, more2] h K :=
  callP_intro k7 (Nat.le_of_ble_eq_true rfl) ((e7 Try.prog K x0 y1 more2 h).mpr H)
/-! F8: pommel/pommellaw06.MendTurned -/
noncomputable def c8z7 : ICode := .seq (.seq (.ops none [⟨(some 29), .p (.mv (.tmp 9))⟩,
     ⟨(some 30), .p (.mv (.tmp 5))⟩,
     ⟨(some 31), .p (.lenSl (.tmp 30))⟩,
     ⟨(some 32), .p (.bin .lss (.tmp 29) (.tmp 31))⟩])
  (.cond (.tmp 32) (.skip)
  (.exit 0)))
 (.seq (.block 1 (.dops [(none, [⟨(some 35), .p (.mv (.tmp 7)), 0⟩,
     ⟨(some 36), .p (.mv (.tmp 5)), 0⟩,
     ⟨(some 37), .p (.mv (.tmp 9)), 0⟩,
     ⟨(some 38), .p (.adrSl 2 (.tmp 36) (.tmp 37)), 6⟩,
     ⟨(some 39), .p (.fadr 1 (.tmp 38)), 14⟩,
     ⟨(some 40), .l (.load false 1 (.tmp 39)), 30⟩,
     ⟨(some 41), .p (.mv (.tmp 5)), 0⟩,
     ⟨(some 42), .p (.mv (.tmp 9)), 0⟩,
     ⟨(some 43), .p (.adrSl 2 (.tmp 41) (.tmp 42)), 192⟩,
     ⟨(some 44), .p (.fadr 0 (.tmp 43)), 448⟩,
     ⟨(some 45), .l (.load false 1 (.tmp 44)), 960⟩,
     ⟨(some 46), .p (.build [(.int .i64 (0)), (.int .i64 (0))] [(0, 1, (.tmp 40)), (1, 1, (.tmp 45))]), 2046⟩,
     ⟨(some 47), .e (.mkSl 35 1 [(.int .i64 (0)), (.int .i64 (0))] [(0, 2, (.tmp 46))]), 4094⟩,
     ⟨(some 48), .e (.app 35 2 16 (.tmp 35) (.tmp 47)), 8191⟩,
     ⟨(some 7), .p (.mv (.tmp 48)), 16383⟩])]))
 (.ops none [⟨(some 33), .p (.mv (.tmp 9))⟩,
   ⟨(some 34), .p (.bin .add (.tmp 33) (.const (.int .i64 (1))))⟩,
   ⟨(some 9), .p (.mv (.tmp 34))⟩]))
noncomputable def c8z16 : ICode := .seq (.seq (.ops none [⟨(some 49), .p (.mv (.tmp 10))⟩,
     ⟨(some 50), .p (.mv (.tmp 6))⟩,
     ⟨(some 51), .p (.lenSl (.tmp 50))⟩,
     ⟨(some 52), .p (.bin .lss (.tmp 49) (.tmp 51))⟩])
  (.cond (.tmp 52) (.skip)
  (.exit 2)))
 (.seq (.block 3 (.dops [(none, [⟨(some 55), .p (.mv (.tmp 8)), 0⟩,
     ⟨(some 56), .p (.mv (.tmp 6)), 0⟩,
     ⟨(some 57), .p (.mv (.tmp 10)), 0⟩,
     ⟨(some 58), .p (.adrSl 2 (.tmp 56) (.tmp 57)), 6⟩,
     ⟨(some 59), .p (.fadr 1 (.tmp 58)), 14⟩,
     ⟨(some 60), .l (.load false 1 (.tmp 59)), 30⟩,
     ⟨(some 61), .p (.mv (.tmp 6)), 0⟩,
     ⟨(some 62), .p (.mv (.tmp 10)), 0⟩,
     ⟨(some 63), .p (.adrSl 2 (.tmp 61) (.tmp 62)), 192⟩,
     ⟨(some 64), .p (.fadr 0 (.tmp 63)), 448⟩,
     ⟨(some 65), .l (.load false 1 (.tmp 64)), 960⟩,
     ⟨(some 66), .p (.build [(.int .i64 (0)), (.int .i64 (0))] [(0, 1, (.tmp 60)), (1, 1, (.tmp 65))]), 2046⟩,
     ⟨(some 67), .e (.mkSl 54 1 [(.int .i64 (0)), (.int .i64 (0))] [(0, 2, (.tmp 66))]), 4094⟩,
     ⟨(some 68), .e (.app 54 2 16 (.tmp 55) (.tmp 67)), 8191⟩,
     ⟨(some 8), .p (.mv (.tmp 68)), 16383⟩])]))
 (.ops none [⟨(some 53), .p (.mv (.tmp 10))⟩,
   ⟨(some 54), .p (.bin .add (.tmp 53) (.const (.int .i64 (1))))⟩,
   ⟨(some 10), .p (.mv (.tmp 54))⟩]))
noncomputable def c8z50 : ICode := .ops none [⟨(some 121), .p (.pick (.tmp 119) (.tmp 120) (.const (.bool false)))⟩,
   ⟨(some 4), .p (.mv (.tmp 121))⟩]
noncomputable def c8z48 : ICode := .seq (.ops (some (119, true)) [⟨(some 120), .call 14 []⟩])
 (.cut [119, 120] c8z50)
noncomputable def c8z46 : ICode := .seq (.ops none [⟨(some 118), .p (.pick (.tmp 114) (.tmp 117) (.const (.bool false)))⟩,
    ⟨(some 119), .p (.mv (.tmp 118))⟩])
 (.cut [119] c8z48)
noncomputable def c8z44 : ICode := .seq (.ops (some (114, true)) [⟨(some 115), .p (.mv (.tmp 17))⟩,
    ⟨(some 116), .p (.mv (.tmp 19))⟩,
    ⟨(some 117), .p (.bin .eql (.tmp 115) (.tmp 116))⟩])
 (.cut [114, 117] c8z46)
noncomputable def c8z42 : ICode := .seq (.ops none [⟨(some 113), .p (.pick (.tmp 109) (.tmp 112) (.const (.bool false)))⟩,
    ⟨(some 114), .p (.mv (.tmp 113))⟩])
 (.cut [17, 19, 114] c8z44)
noncomputable def c8z40 : ICode := .seq (.ops (some (109, true)) [⟨(some 110), .p (.mv (.tmp 12))⟩,
    ⟨(some 111), .p (.mv (.tmp 15))⟩,
    ⟨(some 112), .p (.bin .eql (.tmp 110) (.tmp 111))⟩])
 (.cut [17, 19, 109, 112] c8z42)
noncomputable def c8z38 : ICode := .seq (.ops none [⟨(some 108), .p (.pick (.tmp 105) (.tmp 107) (.const (.bool false)))⟩,
    ⟨(some 109), .p (.mv (.tmp 108))⟩])
 (.cut [12, 15, 17, 19, 109] c8z40)
noncomputable def c8z36 : ICode := .seq (.ops (some (105, true)) [⟨(some 106), .p (.mv (.tmp 20))⟩,
    ⟨(some 107), .p (.bin .eql (.tmp 106) (.const (.int .i64 (0))))⟩])
 (.cut [12, 15, 17, 19, 105, 107] c8z38)
noncomputable def c8z34 : ICode := .seq (.ops none [⟨(some 104), .p (.pick (.tmp 101) (.tmp 103) (.const (.bool false)))⟩,
    ⟨(some 105), .p (.mv (.tmp 104))⟩])
 (.cut [12, 15, 17, 19, 20, 105] c8z36)
noncomputable def c8z32 : ICode := .seq (.ops (some (101, true)) [⟨(some 102), .p (.mv (.tmp 18))⟩,
    ⟨(some 103), .p (.bin .eql (.tmp 102) (.const (.int .i64 (0))))⟩])
 (.cut [12, 15, 17, 19, 20, 101, 103] c8z34)
noncomputable def c8z30 : ICode := .seq (.ops none [⟨(some 100), .p (.pick (.tmp 97) (.tmp 99) (.const (.bool false)))⟩,
    ⟨(some 101), .p (.mv (.tmp 100))⟩])
 (.cut [12, 15, 17, 18, 19, 20, 101] c8z32)
noncomputable def c8z28 : ICode := .seq (.ops (some (97, true)) [⟨(some 98), .p (.mv (.tmp 16))⟩,
    ⟨(some 99), .p (.bin .eql (.tmp 98) (.const (.int .i64 (0))))⟩])
 (.cut [12, 15, 17, 18, 19, 20, 97, 99] c8z30)
noncomputable def c8z26 : ICode := .ret
noncomputable def c8z21 : ICode := .seq (.ops none [⟨(some 70), .p (.mv (.tmp 5))⟩,
    ⟨(some 71), .p (.mv (.tmp 6))⟩,
    ⟨(some 72), .call 11 [(.tmp 70), (.tmp 71)]⟩,
    ⟨(some 69), .p (.mv (.tmp 72))⟩,
    ⟨(some 73), .p (.ext (.tmp 69) 0)⟩,
    ⟨(some 74), .p (.ext (.tmp 69) 1)⟩,
    ⟨(some 75), .p (.ext (.tmp 69) 2)⟩,
    ⟨(some 11), .p (.mv (.tmp 73))⟩,
    ⟨(some 12), .p (.mv (.tmp 74))⟩,
    ⟨(some 13), .p (.mv (.tmp 75))⟩])
 (.seq (.ops none [⟨(some 77), .p (.mv (.tmp 7))⟩,
    ⟨(some 78), .p (.mv (.tmp 8))⟩,
    ⟨(some 79), .call 11 [(.tmp 77), (.tmp 78)]⟩,
    ⟨(some 76), .p (.mv (.tmp 79))⟩,
    ⟨(some 80), .p (.ext (.tmp 76) 0)⟩,
    ⟨(some 81), .p (.ext (.tmp 76) 1)⟩,
    ⟨(some 82), .p (.ext (.tmp 76) 2)⟩,
    ⟨(some 14), .p (.mv (.tmp 80))⟩,
    ⟨(some 15), .p (.mv (.tmp 81))⟩,
    ⟨(some 16), .p (.mv (.tmp 82))⟩])
 (.seq (.ops none [⟨(some 84), .p (.mv (.tmp 5))⟩,
    ⟨(some 85), .p (.mv (.tmp 6))⟩,
    ⟨(some 86), .call 18 [(.tmp 84), (.tmp 85)]⟩,
    ⟨(some 83), .p (.mv (.tmp 86))⟩,
    ⟨(some 87), .p (.ext (.tmp 83) 0)⟩,
    ⟨(some 88), .p (.ext (.tmp 83) 1)⟩,
    ⟨(some 17), .p (.mv (.tmp 87))⟩,
    ⟨(some 18), .p (.mv (.tmp 88))⟩])
 (.seq (.ops none [⟨(some 90), .p (.mv (.tmp 7))⟩,
    ⟨(some 91), .p (.mv (.tmp 8))⟩,
    ⟨(some 92), .call 18 [(.tmp 90), (.tmp 91)]⟩,
    ⟨(some 89), .p (.mv (.tmp 92))⟩,
    ⟨(some 93), .p (.ext (.tmp 89) 0)⟩,
    ⟨(some 94), .p (.ext (.tmp 89) 1)⟩,
    ⟨(some 19), .p (.mv (.tmp 93))⟩,
    ⟨(some 20), .p (.mv (.tmp 94))⟩])
 (.seq (.seq (.ops none [⟨(some 95), .p (.mv (.tmp 13))⟩,
     ⟨(some 96), .p (.bin .eql (.tmp 95) (.const (.int .i64 (0))))⟩,
     ⟨(some 97), .p (.mv (.tmp 96))⟩])
  (.cut [12, 15, 16, 17, 18, 19, 20, 97] c8z28)) c8z26))))
noncomputable def c8z13 : ICode := .cut [5, 6, 7, 8] c8z21
noncomputable def c8z12 : ICode := .seq (.seq (.ops none [⟨(some 10), .p (.mv (.const (.int .i64 (0))))⟩])
  (.block 2 (.loop [5, 6, 7] [8, 10] c8z16))) c8z13
noncomputable def c8z4 : ICode := .cut [5, 6, 7, 8] c8z12
noncomputable def c8 : ICode := .seq (.ops none [⟨(some 4), .p (.mv (.const (.bool false)))⟩])
 (.seq (.ops none [⟨(some 22), .p (.mv (.tmp 0))⟩,
    ⟨(some 23), .p (.mv (.tmp 1))⟩,
    ⟨(some 24), .call 10 [(.tmp 22), (.tmp 23), (.const (.int .i64 (10))), (.const (.int .i64 (1)))]⟩,
    ⟨(some 21), .p (.mv (.tmp 24))⟩,
    ⟨(some 25), .p (.ext (.tmp 21) 0)⟩,
    ⟨(some 26), .p (.ext (.tmp 21) 1)⟩,
    ⟨(some 5), .p (.mv (.tmp 25))⟩,
    ⟨(some 6), .p (.mv (.tmp 26))⟩])
 (.seq (.ops none [⟨(some 27), .e (.mkSl 35 0 [(.int .i64 (0)), (.int .i64 (0))] [])⟩,
    ⟨(some 28), .e (.mkSl 54 0 [(.int .i64 (0)), (.int .i64 (0))] [])⟩,
    ⟨(some 7), .p (.mv (.tmp 27))⟩,
    ⟨(some 8), .p (.mv (.tmp 28))⟩])
 (.seq (.seq (.ops none [⟨(some 9), .p (.mv (.const (.int .i64 (0))))⟩])
  (.block 0 (.loop [5, 6, 8] [7, 9] c8z7))) c8z4)))
theorem k8 : compFn Try.prog 8 [[], [], [], [], [5, 6, 8], [7, 9], [], [], [], [5, 6, 7, 8], [], [5, 6, 7], [8, 10], [], [], [], [5, 6, 7, 8], [], [], [], [], [12, 15, 16, 17, 18, 19, 20, 97], [12, 15, 17, 18, 19, 20, 97, 99], [12, 15, 17, 18, 19, 20, 101], [12, 15, 17, 19, 20, 101, 103], [12, 15, 17, 19, 20, 105], [12, 15, 17, 19, 105, 107], [12, 15, 17, 19, 109], [17, 19, 109, 112], [17, 19, 114], [114, 117], [119], [119, 120], []] = some (122, c8, [.tmp 4]) := by kernel_rfl
def K8z0 (_P : Program) (K : Value → Heap → Prop) : Exit → (Nat → Value) → Heap → Prop := bodyP [.tmp 4] K
def K8z4 (P : Program) (K : Value → Heap → Prop) : Exit → (Nat → Value) → Heap → Prop := thenK (iwpP P c8z4 (K8z0 P K)) (K8z0 P K)
def K8z6 (P : Program) (K : Value → Heap → Prop) : Exit → (Nat → Value) → Heap → Prop := inBlockK 0 (K8z4 P K)
def K8z7 (P : Program) (K : Value → Heap → Prop) (j5 p6 q8 : Value) (L1 : List Value → Heap → Prop) : Exit → (Nat → Value) → Heap → Prop := thenK (fun f' h'' => (([5, 6, 8] : List Nat).map f' : List Value) = [j5, p6, q8] ∧ L1 (([7, 9] : List Nat).map f') h'') (K8z6 P K)
def K8z13 (P : Program) (K : Value → Heap → Prop) : Exit → (Nat → Value) → Heap → Prop := thenK (iwpP P c8z13 (K8z0 P K)) (K8z0 P K)
def K8z15 (P : Program) (K : Value → Heap → Prop) : Exit → (Nat → Value) → Heap → Prop := inBlockK 2 (K8z13 P K)
def K8z16 (P : Program) (K : Value → Heap → Prop) (j5 p6 k7 : Value) (L1 : List Value → Heap → Prop) : Exit → (Nat → Value) → Heap → Prop := thenK (fun f' h'' => (([5, 6, 7] : List Nat).map f' : List Value) = [j5, p6, k7] ∧ L1 (([8, 10] : List Nat).map f') h'') (K8z15 P K)
def K8z26 (P : Program) (K : Value → Heap → Prop) : Exit → (Nat → Value) → Heap → Prop := thenK (iwpP P c8z26 (K8z0 P K)) (K8z0 P K)
def p8z7 (P : Program) (K : Value → Heap → Prop) (j5 p6 q8 : Value) (L1 : List Value → Heap → Prop) (xs : List Value) (h : Heap) : Prop := CutP (iwpP P c8z7 (K8z7 P K j5 p6 q8 L1)) ([5, 6, 8] ++ [7, 9]) ([j5, p6, q8] ++ xs) h
def p8z12 (P : Program) (K : Value → Heap → Prop) (j5 p6 k7 q8 : Value) (h : Heap) : Prop := CutP (iwpP P c8z12 (K8z0 P K)) [5, 6, 7, 8] [j5, p6, k7, q8] h
def p8z16 (P : Program) (K : Value → Heap → Prop) (j5 p6 k7 : Value) (L1 : List Value → Heap → Prop) (xs : List Value) (h : Heap) : Prop := CutP (iwpP P c8z16 (K8z16 P K j5 p6 k7 L1)) ([5, 6, 7] ++ [8, 10]) ([j5, p6, k7] ++ xs) h
def p8z21 (P : Program) (K : Value → Heap → Prop) (j5 p6 k7 q8 : Value) (h : Heap) : Prop := CutP (iwpP P c8z21 (K8z0 P K)) [5, 6, 7, 8] [j5, p6, k7, q8] h
def p8z28 (P : Program) (K : Value → Heap → Prop) (c12 d15 f16 n17 g18 m19 h20 x97 : Value) (h : Heap) : Prop := CutP (iwpP P c8z28 (K8z26 P K)) [12, 15, 16, 17, 18, 19, 20, 97] [c12, d15, f16, n17, g18, m19, h20, x97] h
def p8z30 (P : Program) (K : Value → Heap → Prop) (c12 d15 n17 g18 m19 h20 x97 x99 : Value) (h : Heap) : Prop := CutP (iwpP P c8z30 (K8z26 P K)) [12, 15, 17, 18, 19, 20, 97, 99] [c12, d15, n17, g18, m19, h20, x97, x99] h
def p8z32 (P : Program) (K : Value → Heap → Prop) (c12 d15 n17 g18 m19 h20 x101 : Value) (h : Heap) : Prop := CutP (iwpP P c8z32 (K8z26 P K)) [12, 15, 17, 18, 19, 20, 101] [c12, d15, n17, g18, m19, h20, x101] h
def p8z34 (P : Program) (K : Value → Heap → Prop) (c12 d15 n17 m19 h20 x101 x103 : Value) (h : Heap) : Prop := CutP (iwpP P c8z34 (K8z26 P K)) [12, 15, 17, 19, 20, 101, 103] [c12, d15, n17, m19, h20, x101, x103] h
def p8z36 (P : Program) (K : Value → Heap → Prop) (c12 d15 n17 m19 h20 x105 : Value) (h : Heap) : Prop := CutP (iwpP P c8z36 (K8z26 P K)) [12, 15, 17, 19, 20, 105] [c12, d15, n17, m19, h20, x105] h
def p8z38 (P : Program) (K : Value → Heap → Prop) (c12 d15 n17 m19 x105 x107 : Value) (h : Heap) : Prop := CutP (iwpP P c8z38 (K8z26 P K)) [12, 15, 17, 19, 105, 107] [c12, d15, n17, m19, x105, x107] h
def p8z40 (P : Program) (K : Value → Heap → Prop) (c12 d15 n17 m19 x109 : Value) (h : Heap) : Prop := CutP (iwpP P c8z40 (K8z26 P K)) [12, 15, 17, 19, 109] [c12, d15, n17, m19, x109] h
def p8z42 (P : Program) (K : Value → Heap → Prop) (n17 m19 x109 x112 : Value) (h : Heap) : Prop := CutP (iwpP P c8z42 (K8z26 P K)) [17, 19, 109, 112] [n17, m19, x109, x112] h
def p8z44 (P : Program) (K : Value → Heap → Prop) (n17 m19 x114 : Value) (h : Heap) : Prop := CutP (iwpP P c8z44 (K8z26 P K)) [17, 19, 114] [n17, m19, x114] h
def p8z46 (P : Program) (K : Value → Heap → Prop) (x114 x117 : Value) (h : Heap) : Prop := CutP (iwpP P c8z46 (K8z26 P K)) [114, 117] [x114, x117] h
def p8z48 (P : Program) (K : Value → Heap → Prop) (x119 : Value) (h : Heap) : Prop := CutP (iwpP P c8z48 (K8z26 P K)) [119] [x119] h
def p8z50 (P : Program) (K : Value → Heap → Prop) (x119 x120 : Value) (h : Heap) : Prop := CutP (iwpP P c8z50 (K8z26 P K)) [119, 120] [x119, x120] h
theorem q8z7 (P : Program) (K : Value → Heap → Prop) (j5 p6 q8 : Value) (L1 : List Value → Heap → Prop) (k7 i9 : Value) (h : Heap) : p8z7 P K j5 p6 q8 L1 [k7, i9] h =
  (OP (iLenSl j5) fun x31 =>
  OP (iBin .lss i9 x31) fun x32 =>
  IfP x32
    (OP (iAdrSl 2 j5 i9) fun x38 =>
    OP (iFadr 1 x38) fun x39 =>
    OP (iLoad false 1 h x39) fun x40 =>
    (True) ∧
    OP (iAdrSl 2 j5 i9) fun x43 =>
    OP (iFadr 0 x43) fun x44 =>
    OP (iLoad false 1 h x44) fun x45 =>
    (True) ∧
    OP (iBuild [(.int .i64 (0)), (.int .i64 (0))] [(0, 1, x40), (1, 1, x45)]) fun x46 =>
    OH (iMkSl 35 1 [(.int .i64 (0)), (.int .i64 (0))] h [(0, 2, x46)]) fun x47 h_1 =>
    (True) ∧
    OH (iApp 35 2 16 h_1 k7 x47) fun x48 h_2 =>
    (True) ∧
    OP (iBin .add i9 (.int .i64 (1))) fun x34 =>
    ([j5, p6, q8] : List Value) = [j5, p6, q8] ∧ L1 [x48, x34] h_2)
    (p8z12 P K j5 p6 k7 q8 h)) := (CutP_def _ _ _ _).trans (by kernel_rfl)
theorem q8z16 (P : Program) (K : Value → Heap → Prop) (j5 p6 k7 : Value) (L1 : List Value → Heap → Prop) (q8 i10 : Value) (h : Heap) : p8z16 P K j5 p6 k7 L1 [q8, i10] h =
  (OP (iLenSl p6) fun x51 =>
  OP (iBin .lss i10 x51) fun x52 =>
  IfP x52
    (OP (iAdrSl 2 p6 i10) fun x58 =>
    OP (iFadr 1 x58) fun x59 =>
    OP (iLoad false 1 h x59) fun x60 =>
    (True) ∧
    OP (iAdrSl 2 p6 i10) fun x63 =>
    OP (iFadr 0 x63) fun x64 =>
    OP (iLoad false 1 h x64) fun x65 =>
    (True) ∧
    OP (iBuild [(.int .i64 (0)), (.int .i64 (0))] [(0, 1, x60), (1, 1, x65)]) fun x66 =>
    OH (iMkSl 54 1 [(.int .i64 (0)), (.int .i64 (0))] h [(0, 2, x66)]) fun x67 h_1 =>
    (True) ∧
    OH (iApp 54 2 16 h_1 q8 x67) fun x68 h_2 =>
    (True) ∧
    OP (iBin .add i10 (.int .i64 (1))) fun x54 =>
    ([j5, p6, k7] : List Value) = [j5, p6, k7] ∧ L1 [x68, x54] h_2)
    (p8z21 P K j5 p6 k7 q8 h)) := (CutP_def _ _ _ _).trans (by kernel_rfl)
theorem q8z50 (P : Program) (K : Value → Heap → Prop) (x119 x120 : Value) (h : Heap) : p8z50 P K x119 x120 h =
  (OP (iPick x119 x120 (.bool false)) fun x121 =>
  K x121 h) := (CutP_def _ _ _ _).trans (by kernel_rfl)
theorem q8z48 (P : Program) (K : Value → Heap → Prop) (x119 : Value) (h : Heap) : p8z48 P K x119 h =
  (GdP x119 true
    (CallP P 14 [] h fun x120 h_1 =>
    p8z50 P K x119 x120 h_1)
    (p8z50 P K x119 undef h)) := (CutP_def _ _ _ _).trans (by kernel_rfl)
theorem q8z46 (P : Program) (K : Value → Heap → Prop) (x114 x117 : Value) (h : Heap) : p8z46 P K x114 x117 h =
  (OP (iPick x114 x117 (.bool false)) fun x118 =>
  p8z48 P K x118 h) := (CutP_def _ _ _ _).trans (by kernel_rfl)
theorem q8z44 (P : Program) (K : Value → Heap → Prop) (n17 m19 x114 : Value) (h : Heap) : p8z44 P K n17 m19 x114 h =
  (GdP x114 true
    (OP (iBin .eql n17 m19) fun x117 =>
    p8z46 P K x114 x117 h)
    (p8z46 P K x114 undef h)) := (CutP_def _ _ _ _).trans (by kernel_rfl)
theorem q8z42 (P : Program) (K : Value → Heap → Prop) (n17 m19 x109 x112 : Value) (h : Heap) : p8z42 P K n17 m19 x109 x112 h =
  (OP (iPick x109 x112 (.bool false)) fun x113 =>
  p8z44 P K n17 m19 x113 h) := (CutP_def _ _ _ _).trans (by kernel_rfl)
theorem q8z40 (P : Program) (K : Value → Heap → Prop) (c12 d15 n17 m19 x109 : Value) (h : Heap) : p8z40 P K c12 d15 n17 m19 x109 h =
  (GdP x109 true
    (OP (iBin .eql c12 d15) fun x112 =>
    p8z42 P K n17 m19 x109 x112 h)
    (p8z42 P K n17 m19 x109 undef h)) := (CutP_def _ _ _ _).trans (by kernel_rfl)
theorem q8z38 (P : Program) (K : Value → Heap → Prop) (c12 d15 n17 m19 x105 x107 : Value) (h : Heap) : p8z38 P K c12 d15 n17 m19 x105 x107 h =
  (OP (iPick x105 x107 (.bool false)) fun x108 =>
  p8z40 P K c12 d15 n17 m19 x108 h) := (CutP_def _ _ _ _).trans (by kernel_rfl)
theorem q8z36 (P : Program) (K : Value → Heap → Prop) (c12 d15 n17 m19 h20 x105 : Value) (h : Heap) : p8z36 P K c12 d15 n17 m19 h20 x105 h =
  (GdP x105 true
    (OP (iBin .eql h20 (.int .i64 (0))) fun x107 =>
    p8z38 P K c12 d15 n17 m19 x105 x107 h)
    (p8z38 P K c12 d15 n17 m19 x105 undef h)) := (CutP_def _ _ _ _).trans (by kernel_rfl)
theorem q8z34 (P : Program) (K : Value → Heap → Prop) (c12 d15 n17 m19 h20 x101 x103 : Value) (h : Heap) : p8z34 P K c12 d15 n17 m19 h20 x101 x103 h =
  (OP (iPick x101 x103 (.bool false)) fun x104 =>
  p8z36 P K c12 d15 n17 m19 h20 x104 h) := (CutP_def _ _ _ _).trans (by kernel_rfl)
theorem q8z32 (P : Program) (K : Value → Heap → Prop) (c12 d15 n17 g18 m19 h20 x101 : Value) (h : Heap) : p8z32 P K c12 d15 n17 g18 m19 h20 x101 h =
  (GdP x101 true
    (OP (iBin .eql g18 (.int .i64 (0))) fun x103 =>
    p8z34 P K c12 d15 n17 m19 h20 x101 x103 h)
    (p8z34 P K c12 d15 n17 m19 h20 x101 undef h)) := (CutP_def _ _ _ _).trans (by kernel_rfl)
theorem q8z30 (P : Program) (K : Value → Heap → Prop) (c12 d15 n17 g18 m19 h20 x97 x99 : Value) (h : Heap) : p8z30 P K c12 d15 n17 g18 m19 h20 x97 x99 h =
  (OP (iPick x97 x99 (.bool false)) fun x100 =>
  p8z32 P K c12 d15 n17 g18 m19 h20 x100 h) := (CutP_def _ _ _ _).trans (by kernel_rfl)
theorem q8z28 (P : Program) (K : Value → Heap → Prop) (c12 d15 f16 n17 g18 m19 h20 x97 : Value) (h : Heap) : p8z28 P K c12 d15 f16 n17 g18 m19 h20 x97 h =
  (GdP x97 true
    (OP (iBin .eql f16 (.int .i64 (0))) fun x99 =>
    p8z30 P K c12 d15 n17 g18 m19 h20 x97 x99 h)
    (p8z30 P K c12 d15 n17 g18 m19 h20 x97 undef h)) := (CutP_def _ _ _ _).trans (by kernel_rfl)
theorem q8z21 (P : Program) (K : Value → Heap → Prop) (j5 p6 k7 q8 : Value) (h : Heap) : p8z21 P K j5 p6 k7 q8 h =
  (CallP P 11 [j5, p6] h fun x72 h_1 =>
  OP (iExt 0 x72) fun x73 =>
  OP (iExt 1 x72) fun x74 =>
  OP (iExt 2 x72) fun x75 =>
  CallP P 11 [k7, q8] h_1 fun x79 h_2 =>
  OP (iExt 0 x79) fun x80 =>
  OP (iExt 1 x79) fun x81 =>
  OP (iExt 2 x79) fun x82 =>
  CallP P 18 [j5, p6] h_2 fun x86 h_3 =>
  OP (iExt 0 x86) fun x87 =>
  OP (iExt 1 x86) fun x88 =>
  CallP P 18 [k7, q8] h_3 fun x92 h_4 =>
  OP (iExt 0 x92) fun x93 =>
  OP (iExt 1 x92) fun x94 =>
  OP (iBin .eql x75 (.int .i64 (0))) fun x96 =>
  p8z28 P K x74 x81 x82 x87 x88 x93 x94 x96 h_4) := (CutP_def _ _ _ _).trans (by kernel_rfl)
theorem q8z12 (P : Program) (K : Value → Heap → Prop) (j5 p6 k7 q8 : Value) (h : Heap) : p8z12 P K j5 p6 k7 q8 h =
  (LoopP [q8, (.int .i64 (0))] h fun L1 xs hx =>
  p8z16 P K j5 p6 k7 L1 xs hx) := (CutP_def _ _ _ _).trans (by kernel_rfl)
def T8 (P : Program) (K : Value → Heap → Prop) (x0 y1 : Value) (h : Heap) : Prop :=
  CallP P 10 [x0, y1, (.int .i64 (10)), (.int .i64 (1))] h fun x24 h_1 =>
  OP (iExt 0 x24) fun x25 =>
  OP (iExt 1 x24) fun x26 =>
  OH (iMkSl 35 0 [(.int .i64 (0)), (.int .i64 (0))] h_1 []) fun x27 h_2 =>
  OH (iMkSl 54 0 [(.int .i64 (0)), (.int .i64 (0))] h_2 []) fun x28 h_3 =>
  LoopP [x27, (.int .i64 (0))] h_3 fun L1 xs hx =>
  p8z7 P K x25 x26 x28 L1 xs hx
theorem e8 (P : Program) (K : Value → Heap → Prop) (x0 y1 : Value) (h : Heap) : iwpP P c8 (bodyP [.tmp 4] K) (frame0 [x0, y1]) h = T8 P K x0 y1 h := by kernel_rfl
theorem f8 {K : Value → Heap → Prop} {x0 y1 : Value} {h : Heap} (H : T8 Try.prog K x0 y1 h) : CallP Try.prog 8 [x0, y1] h K :=
  callP_intro k8 (Nat.le_of_ble_eq_true rfl) ((e8 Try.prog K x0 y1 h).mpr H)
/-! F9: pommel/pommellaw06.MendBlocks -/
noncomputable def c9z8 : ICode := .seq (.seq (.ops none [⟨(some 42), .p (.mv (.tmp 13))⟩,
     ⟨(some 43), .p (.mv (.tmp 10))⟩,
     ⟨(some 44), .p (.lenSl (.tmp 43))⟩,
     ⟨(some 45), .p (.bin .lss (.tmp 42) (.tmp 44))⟩])
  (.cond (.tmp 45) (.skip)
  (.exit 0)))
 (.seq (.block 1 (.dops [(none, [⟨(some 48), .p (.mv (.tmp 12)), 0⟩,
     ⟨(some 49), .p (.mv (.tmp 10)), 0⟩,
     ⟨(some 50), .p (.mv (.tmp 13)), 0⟩,
     ⟨(some 51), .p (.adrSl 2 (.tmp 49) (.tmp 50)), 6⟩,
     ⟨(some 52), .p (.fadr 0 (.tmp 51)), 14⟩,
     ⟨(some 53), .l (.load false 1 (.tmp 52)), 30⟩,
     ⟨(some 54), .p (.mv (.tmp 7)), 0⟩,
     ⟨(some 55), .p (.lenSl (.tmp 54)), 64⟩,
     ⟨(some 56), .p (.bin .add (.tmp 53) (.tmp 55)), 254⟩,
     ⟨(some 57), .p (.mv (.tmp 10)), 0⟩,
     ⟨(some 58), .p (.mv (.tmp 13)), 0⟩,
     ⟨(some 59), .p (.adrSl 2 (.tmp 57) (.tmp 58)), 1536⟩,
     ⟨(some 60), .p (.fadr 1 (.tmp 59)), 3584⟩,
     ⟨(some 61), .l (.load false 1 (.tmp 60)), 7680⟩,
     ⟨(some 62), .p (.mv (.tmp 7)), 0⟩,
     ⟨(some 63), .p (.lenSl (.tmp 62)), 16384⟩,
     ⟨(some 64), .p (.bin .add (.tmp 61) (.tmp 63)), 65024⟩,
     ⟨(some 65), .p (.build [(.int .i64 (0)), (.int .i64 (0))] [(0, 1, (.tmp 56)), (1, 1, (.tmp 64))]), 131070⟩,
     ⟨(some 66), .e (.mkSl 54 1 [(.int .i64 (0)), (.int .i64 (0))] [(0, 2, (.tmp 65))]), 262142⟩,
     ⟨(some 67), .e (.app 54 2 16 (.tmp 48) (.tmp 66)), 524287⟩,
     ⟨(some 12), .p (.mv (.tmp 67)), 1048575⟩])]))
 (.ops none [⟨(some 46), .p (.mv (.tmp 13))⟩,
   ⟨(some 47), .p (.bin .add (.tmp 46) (.const (.int .i64 (1))))⟩,
   ⟨(some 13), .p (.mv (.tmp 47))⟩]))
noncomputable def c9z21 : ICode := .seq (.seq (.ops none [⟨(some 90), .p (.mv (.tmp 21))⟩,
     ⟨(some 91), .p (.mv (.tmp 9))⟩,
     ⟨(some 92), .p (.lenSl (.tmp 91))⟩,
     ⟨(some 93), .p (.bin .leq (.tmp 90) (.tmp 92))⟩])
  (.cond (.tmp 93) (.skip)
  (.exit 2)))
 (.seq (.block 3 (.ops none [⟨(some 96), .p (.mv (.tmp 20))⟩,
     ⟨(some 97), .p (.mv (.tmp 7))⟩,
     ⟨(some 98), .p (.lenSl (.tmp 97))⟩,
     ⟨(some 99), .p (.mv (.tmp 21))⟩,
     ⟨(some 100), .p (.bin .add (.tmp 98) (.tmp 99))⟩,
     ⟨(some 101), .p (.bin .mul (.tmp 96) (.tmp 100))⟩,
     ⟨(some 102), .p (.mv (.tmp 21))⟩,
     ⟨(some 103), .p (.bin .quo (.tmp 101) (.tmp 102))⟩,
     ⟨(some 20), .p (.mv (.tmp 103))⟩]))
 (.ops none [⟨(some 94), .p (.mv (.tmp 21))⟩,
   ⟨(some 95), .p (.bin .add (.tmp 94) (.const (.int .i64 (1))))⟩,
   ⟨(some 21), .p (.mv (.tmp 95))⟩]))
noncomputable def c9z43 : ICode := .ops none [⟨(some 125), .p (.pick (.tmp 123) (.tmp 124) (.const (.bool false)))⟩,
   ⟨(some 6), .p (.mv (.tmp 125))⟩]
noncomputable def c9z41 : ICode := .seq (.ops (some (123, true)) [⟨(some 124), .call 14 []⟩])
 (.cut [123, 124] c9z43)
noncomputable def c9z39 : ICode := .seq (.ops none [⟨(some 122), .p (.pick (.tmp 114) (.tmp 121) (.const (.bool false)))⟩,
    ⟨(some 123), .p (.mv (.tmp 122))⟩])
 (.cut [123] c9z41)
noncomputable def c9z37 : ICode := .seq (.ops (some (114, true)) [⟨(some 115), .p (.mv (.tmp 18))⟩,
    ⟨(some 116), .p (.mv (.tmp 14))⟩,
    ⟨(some 117), .p (.mv (.tmp 16))⟩,
    ⟨(some 118), .p (.bin .mul (.tmp 116) (.tmp 117))⟩,
    ⟨(some 119), .p (.mv (.tmp 20))⟩,
    ⟨(some 120), .p (.bin .mul (.tmp 118) (.tmp 119))⟩,
    ⟨(some 121), .p (.bin .eql (.tmp 115) (.tmp 120))⟩])
 (.cut [114, 121] c9z39)
noncomputable def c9z35 : ICode := .seq (.ops none [⟨(some 113), .p (.pick (.tmp 110) (.tmp 112) (.const (.bool false)))⟩,
    ⟨(some 114), .p (.mv (.tmp 113))⟩])
 (.cut [14, 16, 18, 20, 114] c9z37)
noncomputable def c9z33 : ICode := .seq (.ops (some (110, true)) [⟨(some 111), .p (.mv (.tmp 19))⟩,
    ⟨(some 112), .p (.bin .eql (.tmp 111) (.const (.int .i64 (0))))⟩])
 (.cut [14, 16, 18, 20, 110, 112] c9z35)
noncomputable def c9z31 : ICode := .seq (.ops none [⟨(some 109), .p (.pick (.tmp 106) (.tmp 108) (.const (.bool false)))⟩,
    ⟨(some 110), .p (.mv (.tmp 109))⟩])
 (.cut [14, 16, 18, 19, 20, 110] c9z33)
noncomputable def c9z29 : ICode := .seq (.ops (some (106, true)) [⟨(some 107), .p (.mv (.tmp 17))⟩,
    ⟨(some 108), .p (.bin .eql (.tmp 107) (.const (.int .i64 (0))))⟩])
 (.cut [14, 16, 18, 19, 20, 106, 108] c9z31)
noncomputable def c9z27 : ICode := .ret
noncomputable def c9z26 : ICode := .seq (.seq (.ops none [⟨(some 104), .p (.mv (.tmp 15))⟩,
     ⟨(some 105), .p (.bin .eql (.tmp 104) (.const (.int .i64 (0))))⟩,
     ⟨(some 106), .p (.mv (.tmp 105))⟩])
  (.cut [14, 16, 17, 18, 19, 20, 106] c9z29)) c9z27
noncomputable def c9z18 : ICode := .cut [14, 15, 16, 17, 18, 19, 20] c9z26
noncomputable def c9z13 : ICode := .seq (.ops none [⟨(some 69), .p (.mv (.tmp 7))⟩,
    ⟨(some 70), .p (.mv (.tmp 8))⟩,
    ⟨(some 71), .call 18 [(.tmp 69), (.tmp 70)]⟩,
    ⟨(some 68), .p (.mv (.tmp 71))⟩,
    ⟨(some 72), .p (.ext (.tmp 68) 0)⟩,
    ⟨(some 73), .p (.ext (.tmp 68) 1)⟩,
    ⟨(some 14), .p (.mv (.tmp 72))⟩,
    ⟨(some 15), .p (.mv (.tmp 73))⟩])
 (.seq (.ops none [⟨(some 75), .p (.mv (.tmp 9))⟩,
    ⟨(some 76), .p (.mv (.tmp 10))⟩,
    ⟨(some 77), .call 18 [(.tmp 75), (.tmp 76)]⟩,
    ⟨(some 74), .p (.mv (.tmp 77))⟩,
    ⟨(some 78), .p (.ext (.tmp 74) 0)⟩,
    ⟨(some 79), .p (.ext (.tmp 74) 1)⟩,
    ⟨(some 16), .p (.mv (.tmp 78))⟩,
    ⟨(some 17), .p (.mv (.tmp 79))⟩])
 (.seq (.ops none [⟨(some 81), .p (.mv (.tmp 11))⟩,
    ⟨(some 82), .p (.mv (.tmp 12))⟩,
    ⟨(some 83), .p (.mv (.tmp 12))⟩,
    ⟨(some 84), .p (.lenSl (.tmp 83))⟩,
    ⟨(some 85), .p (.minmax false [(.tmp 84), (.const (.int .i64 (40)))])⟩,
    ⟨(some 86), .p (.slSl 54 2 (.tmp 82) none (some (.tmp 85)))⟩,
    ⟨(some 87), .call 18 [(.tmp 81), (.tmp 86)]⟩,
    ⟨(some 80), .p (.mv (.tmp 87))⟩,
    ⟨(some 88), .p (.ext (.tmp 80) 0)⟩,
    ⟨(some 89), .p (.ext (.tmp 80) 1)⟩,
    ⟨(some 18), .p (.mv (.tmp 88))⟩,
    ⟨(some 19), .p (.mv (.tmp 89))⟩])
 (.seq (.ops none [⟨(some 20), .p (.mv (.const (.int .i64 (1))))⟩])
 (.seq (.seq (.ops none [⟨(some 21), .p (.mv (.const (.int .i64 (1))))⟩])
  (.block 2 (.loop [7, 9, 14, 15, 16, 17, 18, 19] [20, 21] c9z21))) c9z18))))
noncomputable def c9z5 : ICode := .cut [7, 8, 9, 10, 11, 12] c9z13
noncomputable def c9 : ICode := .seq (.ops none [⟨(some 6), .p (.mv (.const (.bool false)))⟩])
 (.seq (.ops none [⟨(some 23), .p (.mv (.tmp 0))⟩,
    ⟨(some 24), .p (.mv (.tmp 2))⟩,
    ⟨(some 25), .call 10 [(.tmp 23), (.tmp 24), (.const (.int .i64 (5))), (.const (.int .i64 (0)))]⟩,
    ⟨(some 22), .p (.mv (.tmp 25))⟩,
    ⟨(some 26), .p (.ext (.tmp 22) 0)⟩,
    ⟨(some 27), .p (.ext (.tmp 22) 1)⟩,
    ⟨(some 7), .p (.mv (.tmp 26))⟩,
    ⟨(some 8), .p (.mv (.tmp 27))⟩])
 (.seq (.ops none [⟨(some 29), .p (.mv (.tmp 1))⟩,
    ⟨(some 30), .p (.mv (.tmp 2))⟩,
    ⟨(some 31), .call 10 [(.tmp 29), (.tmp 30), (.const (.int .i64 (5))), (.const (.int .i64 (0)))]⟩,
    ⟨(some 28), .p (.mv (.tmp 31))⟩,
    ⟨(some 32), .p (.ext (.tmp 28) 0)⟩,
    ⟨(some 33), .p (.ext (.tmp 28) 1)⟩,
    ⟨(some 9), .p (.mv (.tmp 32))⟩,
    ⟨(some 10), .p (.mv (.tmp 33))⟩])
 (.seq (.ops none [⟨(some 34), .e (.mkSl 35 0 [(.int .i64 (0)), (.int .i64 (0))] [])⟩,
    ⟨(some 35), .p (.mv (.tmp 7))⟩,
    ⟨(some 36), .e (.app 35 2 16 (.tmp 34) (.tmp 35))⟩,
    ⟨(some 37), .p (.mv (.tmp 9))⟩,
    ⟨(some 38), .e (.app 35 2 16 (.tmp 36) (.tmp 37))⟩,
    ⟨(some 39), .e (.mkSl 54 0 [(.int .i64 (0)), (.int .i64 (0))] [])⟩,
    ⟨(some 40), .p (.mv (.tmp 8))⟩,
    ⟨(some 41), .e (.app 54 2 16 (.tmp 39) (.tmp 40))⟩,
    ⟨(some 11), .p (.mv (.tmp 38))⟩,
    ⟨(some 12), .p (.mv (.tmp 41))⟩])
 (.seq (.seq (.ops none [⟨(some 13), .p (.mv (.const (.int .i64 (0))))⟩])
  (.block 0 (.loop [7, 8, 9, 10, 11] [12, 13] c9z8))) c9z5))))
theorem k9 : compFn Try.prog 9 [[], [], [], [], [], [7, 8, 9, 10, 11], [12, 13], [], [], [], [7, 8, 9, 10, 11, 12], [], [], [], [], [], [7, 9, 14, 15, 16, 17, 18, 19], [20, 21], [], [], [], [14, 15, 16, 17, 18, 19, 20], [14, 16, 17, 18, 19, 20, 106], [14, 16, 18, 19, 20, 106, 108], [14, 16, 18, 19, 20, 110], [14, 16, 18, 20, 110, 112], [14, 16, 18, 20, 114], [114, 121], [123], [123, 124], []] = some (126, c9, [.tmp 6]) := by kernel_rfl
def K9z0 (_P : Program) (K : Value → Heap → Prop) : Exit → (Nat → Value) → Heap → Prop := bodyP [.tmp 6] K
def K9z5 (P : Program) (K : Value → Heap → Prop) : Exit → (Nat → Value) → Heap → Prop := thenK (iwpP P c9z5 (K9z0 P K)) (K9z0 P K)
def K9z7 (P : Program) (K : Value → Heap → Prop) : Exit → (Nat → Value) → Heap → Prop := inBlockK 0 (K9z5 P K)
def K9z8 (P : Program) (K : Value → Heap → Prop) (j7 p8 k9 q10 all11 : Value) (L1 : List Value → Heap → Prop) : Exit → (Nat → Value) → Heap → Prop := thenK (fun f' h'' => (([7, 8, 9, 10, 11] : List Nat).map f' : List Value) = [j7, p8, k9, q10, all11] ∧ L1 (([12, 13] : List Nat).map f') h'') (K9z7 P K)
def K9z18 (P : Program) (K : Value → Heap → Prop) : Exit → (Nat → Value) → Heap → Prop := thenK (iwpP P c9z18 (K9z0 P K)) (K9z0 P K)
def K9z20 (P : Program) (K : Value → Heap → Prop) : Exit → (Nat → Value) → Heap → Prop := inBlockK 2 (K9z18 P K)
def K9z21 (P : Program) (K : Value → Heap → Prop) (j7 k9 a14 e15 c16 f17 d18 g19 : Value) (L1 : List Value → Heap → Prop) : Exit → (Nat → Value) → Heap → Prop := thenK (fun f' h'' => (([7, 9, 14, 15, 16, 17, 18, 19] : List Nat).map f' : List Value) = [j7, k9, a14, e15, c16, f17, d18, g19] ∧ L1 (([20, 21] : List Nat).map f') h'') (K9z20 P K)
def K9z27 (P : Program) (K : Value → Heap → Prop) : Exit → (Nat → Value) → Heap → Prop := thenK (iwpP P c9z27 (K9z0 P K)) (K9z0 P K)
def p9z8 (P : Program) (K : Value → Heap → Prop) (j7 p8 k9 q10 all11 : Value) (L1 : List Value → Heap → Prop) (xs : List Value) (h : Heap) : Prop := CutP (iwpP P c9z8 (K9z8 P K j7 p8 k9 q10 all11 L1)) ([7, 8, 9, 10, 11] ++ [12, 13]) ([j7, p8, k9, q10, all11] ++ xs) h
def p9z13 (P : Program) (K : Value → Heap → Prop) (j7 p8 k9 q10 all11 pairs12 : Value) (h : Heap) : Prop := CutP (iwpP P c9z13 (K9z0 P K)) [7, 8, 9, 10, 11, 12] [j7, p8, k9, q10, all11, pairs12] h
def p9z21 (P : Program) (K : Value → Heap → Prop) (j7 k9 a14 e15 c16 f17 d18 g19 : Value) (L1 : List Value → Heap → Prop) (xs : List Value) (h : Heap) : Prop := CutP (iwpP P c9z21 (K9z21 P K j7 k9 a14 e15 c16 f17 d18 g19 L1)) ([7, 9, 14, 15, 16, 17, 18, 19] ++ [20, 21]) ([j7, k9, a14, e15, c16, f17, d18, g19] ++ xs) h
def p9z26 (P : Program) (K : Value → Heap → Prop) (a14 e15 c16 f17 d18 g19 shuffles20 : Value) (h : Heap) : Prop := CutP (iwpP P c9z26 (K9z0 P K)) [14, 15, 16, 17, 18, 19, 20] [a14, e15, c16, f17, d18, g19, shuffles20] h
def p9z29 (P : Program) (K : Value → Heap → Prop) (a14 c16 f17 d18 g19 shuffles20 x106 : Value) (h : Heap) : Prop := CutP (iwpP P c9z29 (K9z27 P K)) [14, 16, 17, 18, 19, 20, 106] [a14, c16, f17, d18, g19, shuffles20, x106] h
def p9z31 (P : Program) (K : Value → Heap → Prop) (a14 c16 d18 g19 shuffles20 x106 x108 : Value) (h : Heap) : Prop := CutP (iwpP P c9z31 (K9z27 P K)) [14, 16, 18, 19, 20, 106, 108] [a14, c16, d18, g19, shuffles20, x106, x108] h
def p9z33 (P : Program) (K : Value → Heap → Prop) (a14 c16 d18 g19 shuffles20 x110 : Value) (h : Heap) : Prop := CutP (iwpP P c9z33 (K9z27 P K)) [14, 16, 18, 19, 20, 110] [a14, c16, d18, g19, shuffles20, x110] h
def p9z35 (P : Program) (K : Value → Heap → Prop) (a14 c16 d18 shuffles20 x110 x112 : Value) (h : Heap) : Prop := CutP (iwpP P c9z35 (K9z27 P K)) [14, 16, 18, 20, 110, 112] [a14, c16, d18, shuffles20, x110, x112] h
def p9z37 (P : Program) (K : Value → Heap → Prop) (a14 c16 d18 shuffles20 x114 : Value) (h : Heap) : Prop := CutP (iwpP P c9z37 (K9z27 P K)) [14, 16, 18, 20, 114] [a14, c16, d18, shuffles20, x114] h
def p9z39 (P : Program) (K : Value → Heap → Prop) (x114 x121 : Value) (h : Heap) : Prop := CutP (iwpP P c9z39 (K9z27 P K)) [114, 121] [x114, x121] h
def p9z41 (P : Program) (K : Value → Heap → Prop) (x123 : Value) (h : Heap) : Prop := CutP (iwpP P c9z41 (K9z27 P K)) [123] [x123] h
def p9z43 (P : Program) (K : Value → Heap → Prop) (x123 x124 : Value) (h : Heap) : Prop := CutP (iwpP P c9z43 (K9z27 P K)) [123, 124] [x123, x124] h
theorem q9z8 (P : Program) (K : Value → Heap → Prop) (j7 p8 k9 q10 all11 : Value) (L1 : List Value → Heap → Prop) (pairs12 i13 : Value) (h : Heap) : p9z8 P K j7 p8 k9 q10 all11 L1 [pairs12, i13] h =
  (OP (iLenSl q10) fun x44 =>
  OP (iBin .lss i13 x44) fun x45 =>
  IfP x45
    (OP (iAdrSl 2 q10 i13) fun x51 =>
    OP (iFadr 0 x51) fun x52 =>
    OP (iLoad false 1 h x52) fun x53 =>
    (True) ∧
    OP (iLenSl j7) fun x55 =>
    OP (iBin .add x53 x55) fun x56 =>
    OP (iAdrSl 2 q10 i13) fun x59 =>
    OP (iFadr 1 x59) fun x60 =>
    OP (iLoad false 1 h x60) fun x61 =>
    (True) ∧
    OP (iLenSl j7) fun x63 =>
    OP (iBin .add x61 x63) fun x64 =>
    OP (iBuild [(.int .i64 (0)), (.int .i64 (0))] [(0, 1, x56), (1, 1, x64)]) fun x65 =>
    OH (iMkSl 54 1 [(.int .i64 (0)), (.int .i64 (0))] h [(0, 2, x65)]) fun x66 h_1 =>
    (True) ∧
    OH (iApp 54 2 16 h_1 pairs12 x66) fun x67 h_2 =>
    (True) ∧
    OP (iBin .add i13 (.int .i64 (1))) fun x47 =>
    ([j7, p8, k9, q10, all11] : List Value) = [j7, p8, k9, q10, all11] ∧ L1 [x67, x47] h_2)
    (p9z13 P K j7 p8 k9 q10 all11 pairs12 h)) := (CutP_def _ _ _ _).trans (by kernel_rfl)
theorem q9z21 (P : Program) (K : Value → Heap → Prop) (j7 k9 a14 e15 c16 f17 d18 g19 : Value) (L1 : List Value → Heap → Prop) (shuffles20 i21 : Value) (h : Heap) : p9z21 P K j7 k9 a14 e15 c16 f17 d18 g19 L1 [shuffles20, i21] h =
  (OP (iLenSl k9) fun x92 =>
  OP (iBin .leq i21 x92) fun x93 =>
  IfP x93
    (OP (iLenSl j7) fun x98 =>
    OP (iBin .add x98 i21) fun x100 =>
    OP (iBin .mul shuffles20 x100) fun x101 =>
    OP (iBin .quo x101 i21) fun x103 =>
    OP (iBin .add i21 (.int .i64 (1))) fun x95 =>
    ([j7, k9, a14, e15, c16, f17, d18, g19] : List Value) = [j7, k9, a14, e15, c16, f17, d18, g19] ∧ L1 [x103, x95] h)
    (p9z26 P K a14 e15 c16 f17 d18 g19 shuffles20 h)) := (CutP_def _ _ _ _).trans (by kernel_rfl)
theorem q9z43 (P : Program) (K : Value → Heap → Prop) (x123 x124 : Value) (h : Heap) : p9z43 P K x123 x124 h =
  (OP (iPick x123 x124 (.bool false)) fun x125 =>
  K x125 h) := (CutP_def _ _ _ _).trans (by kernel_rfl)
theorem q9z41 (P : Program) (K : Value → Heap → Prop) (x123 : Value) (h : Heap) : p9z41 P K x123 h =
  (GdP x123 true
    (CallP P 14 [] h fun x124 h_1 =>
    p9z43 P K x123 x124 h_1)
    (p9z43 P K x123 undef h)) := (CutP_def _ _ _ _).trans (by kernel_rfl)
theorem q9z39 (P : Program) (K : Value → Heap → Prop) (x114 x121 : Value) (h : Heap) : p9z39 P K x114 x121 h =
  (OP (iPick x114 x121 (.bool false)) fun x122 =>
  p9z41 P K x122 h) := (CutP_def _ _ _ _).trans (by kernel_rfl)
theorem q9z37 (P : Program) (K : Value → Heap → Prop) (a14 c16 d18 shuffles20 x114 : Value) (h : Heap) : p9z37 P K a14 c16 d18 shuffles20 x114 h =
  (GdP x114 true
    (OP (iBin .mul a14 c16) fun x118 =>
    OP (iBin .mul x118 shuffles20) fun x120 =>
    OP (iBin .eql d18 x120) fun x121 =>
    p9z39 P K x114 x121 h)
    (p9z39 P K x114 undef h)) := (CutP_def _ _ _ _).trans (by kernel_rfl)
theorem q9z35 (P : Program) (K : Value → Heap → Prop) (a14 c16 d18 shuffles20 x110 x112 : Value) (h : Heap) : p9z35 P K a14 c16 d18 shuffles20 x110 x112 h =
  (OP (iPick x110 x112 (.bool false)) fun x113 =>
  p9z37 P K a14 c16 d18 shuffles20 x113 h) := (CutP_def _ _ _ _).trans (by kernel_rfl)
theorem q9z33 (P : Program) (K : Value → Heap → Prop) (a14 c16 d18 g19 shuffles20 x110 : Value) (h : Heap) : p9z33 P K a14 c16 d18 g19 shuffles20 x110 h =
  (GdP x110 true
    (OP (iBin .eql g19 (.int .i64 (0))) fun x112 =>
    p9z35 P K a14 c16 d18 shuffles20 x110 x112 h)
    (p9z35 P K a14 c16 d18 shuffles20 x110 undef h)) := (CutP_def _ _ _ _).trans (by kernel_rfl)
theorem q9z31 (P : Program) (K : Value → Heap → Prop) (a14 c16 d18 g19 shuffles20 x106 x108 : Value) (h : Heap) : p9z31 P K a14 c16 d18 g19 shuffles20 x106 x108 h =
  (OP (iPick x106 x108 (.bool false)) fun x109 =>
  p9z33 P K a14 c16 d18 g19 shuffles20 x109 h) := (CutP_def _ _ _ _).trans (by kernel_rfl)
theorem q9z29 (P : Program) (K : Value → Heap → Prop) (a14 c16 f17 d18 g19 shuffles20 x106 : Value) (h : Heap) : p9z29 P K a14 c16 f17 d18 g19 shuffles20 x106 h =
  (GdP x106 true
    (OP (iBin .eql f17 (.int .i64 (0))) fun x108 =>
    p9z31 P K a14 c16 d18 g19 shuffles20 x106 x108 h)
    (p9z31 P K a14 c16 d18 g19 shuffles20 x106 undef h)) := (CutP_def _ _ _ _).trans (by kernel_rfl)
theorem q9z26 (P : Program) (K : Value → Heap → Prop) (a14 e15 c16 f17 d18 g19 shuffles20 : Value) (h : Heap) : p9z26 P K a14 e15 c16 f17 d18 g19 shuffles20 h =
  (OP (iBin .eql e15 (.int .i64 (0))) fun x105 =>
  p9z29 P K a14 c16 f17 d18 g19 shuffles20 x105 h) := (CutP_def _ _ _ _).trans (by kernel_rfl)
theorem q9z13 (P : Program) (K : Value → Heap → Prop) (j7 p8 k9 q10 all11 pairs12 : Value) (h : Heap) : p9z13 P K j7 p8 k9 q10 all11 pairs12 h =
  (CallP P 18 [j7, p8] h fun x71 h_1 =>
  OP (iExt 0 x71) fun x72 =>
  OP (iExt 1 x71) fun x73 =>
  CallP P 18 [k9, q10] h_1 fun x77 h_2 =>
  OP (iExt 0 x77) fun x78 =>
  OP (iExt 1 x77) fun x79 =>
  OP (iLenSl pairs12) fun x84 =>
  OP (iMinmax false [x84, (.int .i64 (40))]) fun x85 =>
  OP (iSlSl 54 2 pairs12 none (some x85)) fun x86 =>
  CallP P 18 [all11, x86] h_2 fun x87 h_3 =>
  OP (iExt 0 x87) fun x88 =>
  OP (iExt 1 x87) fun x89 =>
  LoopP [(.int .i64 (1)), (.int .i64 (1))] h_3 fun L1 xs hx =>
  p9z21 P K j7 k9 x72 x73 x78 x79 x88 x89 L1 xs hx) := (CutP_def _ _ _ _).trans (by kernel_rfl)
def T9 (P : Program) (K : Value → Heap → Prop) (x0 y1 z2 : Value) (h : Heap) : Prop :=
  CallP P 10 [x0, z2, (.int .i64 (5)), (.int .i64 (0))] h fun x25 h_1 =>
  OP (iExt 0 x25) fun x26 =>
  OP (iExt 1 x25) fun x27 =>
  CallP P 10 [y1, z2, (.int .i64 (5)), (.int .i64 (0))] h_1 fun x31 h_2 =>
  OP (iExt 0 x31) fun x32 =>
  OP (iExt 1 x31) fun x33 =>
  OH (iMkSl 35 0 [(.int .i64 (0)), (.int .i64 (0))] h_2 []) fun x34 h_3 =>
  OH (iApp 35 2 16 h_3 x34 x26) fun x36 h_4 =>
  OH (iApp 35 2 16 h_4 x36 x32) fun x38 h_5 =>
  OH (iMkSl 54 0 [(.int .i64 (0)), (.int .i64 (0))] h_5 []) fun x39 h_6 =>
  OH (iApp 54 2 16 h_6 x39 x27) fun x41 h_7 =>
  LoopP [x41, (.int .i64 (0))] h_7 fun L1 xs hx =>
  p9z8 P K x26 x27 x32 x33 x38 L1 xs hx
theorem e9 (P : Program) (K : Value → Heap → Prop) (x0 y1 z2 : Value) (h : Heap) : iwpP P c9 (bodyP [.tmp 6] K) (frame0 [x0, y1, z2]) h = T9 P K x0 y1 z2 h := by kernel_rfl
theorem f9 {K : Value → Heap → Prop} {x0 y1 z2 : Value} {h : Heap} (H : T9 Try.prog K x0 y1 z2 h) : CallP Try.prog 9 [x0, y1, z2] h K :=
  callP_intro k9 (Nat.le_of_ble_eq_true rfl) ((e9 Try.prog K x0 y1 z2 h).mpr H)
/-! F14: pommel/pommellaw06.lives -/
noncomputable def c14z44 : ICode := .ops none [⟨(some 83), .p (.pick (.tmp 80) (.tmp 82) (.const (.bool false)))⟩,
   ⟨(some 0), .p (.mv (.tmp 83))⟩]
noncomputable def c14z42 : ICode := .seq (.ops (some (80, true)) [⟨(some 81), .p (.mv (.tmp 12))⟩,
    ⟨(some 82), .p (.bin .eql (.tmp 81) (.const (.int .i64 (0))))⟩])
 (.cut [80, 82] c14z44)
noncomputable def c14z40 : ICode := .seq (.ops none [⟨(some 79), .p (.pick (.tmp 76) (.tmp 78) (.const (.bool false)))⟩,
    ⟨(some 80), .p (.mv (.tmp 79))⟩])
 (.cut [12, 80] c14z42)
noncomputable def c14z38 : ICode := .seq (.ops (some (76, true)) [⟨(some 77), .p (.mv (.tmp 11))⟩,
    ⟨(some 78), .p (.bin .eql (.tmp 77) (.const (.string ⟨#[51]⟩)))⟩])
 (.cut [12, 76, 78] c14z40)
noncomputable def c14z36 : ICode := .seq (.ops none [⟨(some 75), .p (.pick (.tmp 72) (.tmp 74) (.const (.bool false)))⟩,
    ⟨(some 76), .p (.mv (.tmp 75))⟩])
 (.cut [11, 12, 76] c14z38)
noncomputable def c14z34 : ICode := .seq (.ops (some (72, true)) [⟨(some 73), .p (.mv (.tmp 10))⟩,
    ⟨(some 74), .p (.bin .eql (.tmp 73) (.const (.int .i64 (0))))⟩])
 (.cut [11, 12, 72, 74] c14z36)
noncomputable def c14z32 : ICode := .seq (.ops none [⟨(some 71), .p (.pick (.tmp 68) (.tmp 70) (.const (.bool false)))⟩,
    ⟨(some 72), .p (.mv (.tmp 71))⟩])
 (.cut [10, 11, 12, 72] c14z34)
noncomputable def c14z30 : ICode := .seq (.ops (some (68, true)) [⟨(some 69), .p (.mv (.tmp 9))⟩,
    ⟨(some 70), .p (.bin .eql (.tmp 69) (.const (.int .i64 (2))))⟩])
 (.cut [10, 11, 12, 68, 70] c14z32)
noncomputable def c14z28 : ICode := .seq (.ops none [⟨(some 67), .p (.pick (.tmp 64) (.tmp 66) (.const (.bool false)))⟩,
    ⟨(some 68), .p (.mv (.tmp 67))⟩])
 (.cut [9, 10, 11, 12, 68] c14z30)
noncomputable def c14z26 : ICode := .seq (.ops (some (64, true)) [⟨(some 65), .p (.mv (.tmp 8))⟩,
    ⟨(some 66), .p (.bin .eql (.tmp 65) (.const (.string ⟨#[52, 47, 51]⟩)))⟩])
 (.cut [9, 10, 11, 12, 64, 66] c14z28)
noncomputable def c14z24 : ICode := .seq (.ops none [⟨(some 63), .p (.pick (.tmp 60) (.tmp 62) (.const (.bool false)))⟩,
    ⟨(some 64), .p (.mv (.tmp 63))⟩])
 (.cut [8, 9, 10, 11, 12, 64] c14z26)
noncomputable def c14z22 : ICode := .seq (.ops (some (60, true)) [⟨(some 61), .p (.mv (.tmp 6))⟩,
    ⟨(some 62), .p (.bin .eql (.tmp 61) (.const (.int .i64 (0))))⟩])
 (.cut [8, 9, 10, 11, 12, 60, 62] c14z24)
noncomputable def c14z20 : ICode := .seq (.ops none [⟨(some 59), .p (.pick (.tmp 54) (.tmp 58) (.const (.bool false)))⟩,
    ⟨(some 60), .p (.mv (.tmp 59))⟩])
 (.cut [6, 8, 9, 10, 11, 12, 60] c14z22)
noncomputable def c14z18 : ICode := .seq (.ops (some (54, true)) [⟨(some 55), .p (.mv (.tmp 5))⟩,
    ⟨(some 56), .e (.mkSl 3 2 [(.int .i64 (0))] [(0, 1, (.const (.int .i64 (0)))), (1, 1, (.const (.int .i64 (1))))])⟩,
    ⟨(some 57), .e (.mkSl 27 1 [(.slice none 0 0)] [(0, 1, (.tmp 56))])⟩,
    ⟨(some 58), .call 32 [(.tmp 55), (.tmp 57)]⟩])
 (.cut [6, 8, 9, 10, 11, 12, 54, 58] c14z20)
noncomputable def c14z16 : ICode := .seq (.ops none [⟨(some 53), .p (.pick (.tmp 50) (.tmp 52) (.const (.bool false)))⟩,
    ⟨(some 54), .p (.mv (.tmp 53))⟩])
 (.cut [5, 6, 8, 9, 10, 11, 12, 54] c14z18)
noncomputable def c14z14 : ICode := .seq (.ops (some (50, true)) [⟨(some 51), .p (.mv (.tmp 4))⟩,
    ⟨(some 52), .p (.bin .eql (.tmp 51) (.const (.int .i64 (0))))⟩])
 (.cut [5, 6, 8, 9, 10, 11, 12, 50, 52] c14z16)
noncomputable def c14z12 : ICode := .seq (.ops none [⟨(some 49), .p (.pick (.tmp 46) (.tmp 48) (.const (.bool false)))⟩,
    ⟨(some 50), .p (.mv (.tmp 49))⟩])
 (.cut [4, 5, 6, 8, 9, 10, 11, 12, 50] c14z14)
noncomputable def c14z10 : ICode := .seq (.ops (some (46, true)) [⟨(some 47), .p (.mv (.tmp 3))⟩,
    ⟨(some 48), .p (.bin .eql (.tmp 47) (.const (.int .i64 (5))))⟩])
 (.cut [4, 5, 6, 8, 9, 10, 11, 12, 46, 48] c14z12)
noncomputable def c14z8 : ICode := .ret
noncomputable def c14 : ICode := .seq (.ops none [⟨(some 0), .p (.mv (.const (.bool false)))⟩])
 (.seq (.ops none [⟨(some 13), .p (.build [(.int .i64 (0)), (.int .i64 (0))] [(0, 1, (.const (.int .i64 (3)))), (1, 1, (.const (.int .i64 (1))))])⟩,
    ⟨(some 14), .p (.build [(.int .i64 (0)), (.int .i64 (0))] [(0, 1, (.const (.int .i64 (1)))), (1, 1, (.const (.int .i64 (1))))])⟩,
    ⟨(some 15), .e (.mkSl 35 2 [(.int .i64 (0)), (.int .i64 (0))] [(0, 2, (.tmp 13)), (2, 2, (.tmp 14))])⟩,
    ⟨(some 1), .p (.mv (.tmp 15))⟩])
 (.seq (.ops none [⟨(some 17), .p (.mv (.tmp 1))⟩,
    ⟨(some 18), .call 11 [(.tmp 17), (.const (.slice none 0 0))]⟩,
    ⟨(some 16), .p (.mv (.tmp 18))⟩,
    ⟨(some 19), .p (.ext (.tmp 16) 0)⟩,
    ⟨(some 20), .p (.ext (.tmp 16) 1)⟩,
    ⟨(some 21), .p (.ext (.tmp 16) 2)⟩,
    ⟨(some 2), .p (.mv (.tmp 19))⟩,
    ⟨(some 3), .p (.mv (.tmp 20))⟩,
    ⟨(some 4), .p (.mv (.tmp 21))⟩])
 (.seq (.ops none [⟨(some 23), .p (.mv (.tmp 1))⟩,
    ⟨(some 24), .p (.build [(.int .i64 (0)), (.int .i64 (0))] [(0, 1, (.const (.int .i64 (0)))), (1, 1, (.const (.int .i64 (1))))])⟩,
    ⟨(some 25), .e (.mkSl 54 1 [(.int .i64 (0)), (.int .i64 (0))] [(0, 2, (.tmp 24))])⟩,
    ⟨(some 26), .call 29 [(.tmp 23), (.tmp 25)]⟩,
    ⟨(some 22), .p (.mv (.tmp 26))⟩,
    ⟨(some 27), .p (.ext (.tmp 22) 0)⟩,
    ⟨(some 28), .p (.ext (.tmp 22) 1)⟩,
    ⟨(some 5), .p (.mv (.tmp 27))⟩,
    ⟨(some 6), .p (.mv (.tmp 28))⟩])
 (.seq (.ops none [⟨(some 29), .e (.mkSl 72 2 [(.string ⟨#[]⟩)] [(0, 1, (.const (.string ⟨#[49, 47, 50]⟩))), (1, 1, (.const (.string ⟨#[49, 47, 50]⟩)))])⟩,
    ⟨(some 30), .p (.build [(.slice none 0 0), (.int .i64 (0))] [(0, 1, (.tmp 29)), (1, 1, (.const (.int .i64 (2))))])⟩,
    ⟨(some 7), .e (.alloc 75 [(.slice none 0 0), (.int .i64 (0))])⟩,
    ⟨none, .e (.store 2 (.tmp 7) (.tmp 30))⟩])
 (.seq (.ops none [⟨(some 32), .l (.load true 2 (.tmp 7))⟩,
    ⟨(some 33), .call 30 [(.tmp 32), (.const (.int .i64 (0)))]⟩,
    ⟨(some 31), .p (.mv (.tmp 33))⟩,
    ⟨(some 34), .p (.ext (.tmp 31) 0)⟩,
    ⟨(some 35), .p (.ext (.tmp 31) 1)⟩,
    ⟨(some 36), .p (.ext (.tmp 31) 2)⟩,
    ⟨(some 8), .p (.mv (.tmp 34))⟩,
    ⟨(some 9), .p (.mv (.tmp 35))⟩,
    ⟨(some 10), .p (.mv (.tmp 36))⟩])
 (.seq (.ops none [⟨(some 38), .l (.load true 2 (.tmp 7))⟩,
    ⟨(some 39), .e (.mkSl 75 1 [(.slice none 0 0), (.int .i64 (0))] [(0, 2, (.tmp 38))])⟩,
    ⟨(some 40), .call 31 [(.tmp 39)]⟩,
    ⟨(some 37), .p (.mv (.tmp 40))⟩,
    ⟨(some 41), .p (.ext (.tmp 37) 0)⟩,
    ⟨(some 42), .p (.ext (.tmp 37) 1)⟩,
    ⟨(some 11), .p (.mv (.tmp 41))⟩,
    ⟨(some 12), .p (.mv (.tmp 42))⟩])
 (.seq (.seq (.ops none [⟨(some 43), .p (.mv (.tmp 2))⟩,
     ⟨(some 44), .e (.mkSl 3 2 [(.int .i64 (0))] [(0, 1, (.const (.int .i64 (1)))), (1, 1, (.const (.int .i64 (0))))])⟩,
     ⟨(some 45), .call 20 [(.tmp 43), (.tmp 44)]⟩,
     ⟨(some 46), .p (.mv (.tmp 45))⟩])
  (.cut [3, 4, 5, 6, 8, 9, 10, 11, 12, 46] c14z10)) c14z8)))))))
theorem k14 : compFn Try.prog 14 [[], [], [], [], [], [], [], [3, 4, 5, 6, 8, 9, 10, 11, 12, 46], [4, 5, 6, 8, 9, 10, 11, 12, 46, 48], [4, 5, 6, 8, 9, 10, 11, 12, 50], [5, 6, 8, 9, 10, 11, 12, 50, 52], [5, 6, 8, 9, 10, 11, 12, 54], [6, 8, 9, 10, 11, 12, 54, 58], [6, 8, 9, 10, 11, 12, 60], [8, 9, 10, 11, 12, 60, 62], [8, 9, 10, 11, 12, 64], [9, 10, 11, 12, 64, 66], [9, 10, 11, 12, 68], [10, 11, 12, 68, 70], [10, 11, 12, 72], [11, 12, 72, 74], [11, 12, 76], [12, 76, 78], [12, 80], [80, 82], []] = some (84, c14, [.tmp 0]) := by kernel_rfl
def K14z0 (_P : Program) (K : Value → Heap → Prop) : Exit → (Nat → Value) → Heap → Prop := bodyP [.tmp 0] K
def K14z8 (P : Program) (K : Value → Heap → Prop) : Exit → (Nat → Value) → Heap → Prop := thenK (iwpP P c14z8 (K14z0 P K)) (K14z0 P K)
def p14z10 (P : Program) (K : Value → Heap → Prop) (c3 e4 s5 f6 i8 d9 g10 v11 h12 x46 : Value) (h : Heap) : Prop := CutP (iwpP P c14z10 (K14z8 P K)) [3, 4, 5, 6, 8, 9, 10, 11, 12, 46] [c3, e4, s5, f6, i8, d9, g10, v11, h12, x46] h
def p14z12 (P : Program) (K : Value → Heap → Prop) (e4 s5 f6 i8 d9 g10 v11 h12 x46 x48 : Value) (h : Heap) : Prop := CutP (iwpP P c14z12 (K14z8 P K)) [4, 5, 6, 8, 9, 10, 11, 12, 46, 48] [e4, s5, f6, i8, d9, g10, v11, h12, x46, x48] h
def p14z14 (P : Program) (K : Value → Heap → Prop) (e4 s5 f6 i8 d9 g10 v11 h12 x50 : Value) (h : Heap) : Prop := CutP (iwpP P c14z14 (K14z8 P K)) [4, 5, 6, 8, 9, 10, 11, 12, 50] [e4, s5, f6, i8, d9, g10, v11, h12, x50] h
def p14z16 (P : Program) (K : Value → Heap → Prop) (s5 f6 i8 d9 g10 v11 h12 x50 x52 : Value) (h : Heap) : Prop := CutP (iwpP P c14z16 (K14z8 P K)) [5, 6, 8, 9, 10, 11, 12, 50, 52] [s5, f6, i8, d9, g10, v11, h12, x50, x52] h
def p14z18 (P : Program) (K : Value → Heap → Prop) (s5 f6 i8 d9 g10 v11 h12 x54 : Value) (h : Heap) : Prop := CutP (iwpP P c14z18 (K14z8 P K)) [5, 6, 8, 9, 10, 11, 12, 54] [s5, f6, i8, d9, g10, v11, h12, x54] h
def p14z20 (P : Program) (K : Value → Heap → Prop) (f6 i8 d9 g10 v11 h12 x54 x58 : Value) (h : Heap) : Prop := CutP (iwpP P c14z20 (K14z8 P K)) [6, 8, 9, 10, 11, 12, 54, 58] [f6, i8, d9, g10, v11, h12, x54, x58] h
def p14z22 (P : Program) (K : Value → Heap → Prop) (f6 i8 d9 g10 v11 h12 x60 : Value) (h : Heap) : Prop := CutP (iwpP P c14z22 (K14z8 P K)) [6, 8, 9, 10, 11, 12, 60] [f6, i8, d9, g10, v11, h12, x60] h
def p14z24 (P : Program) (K : Value → Heap → Prop) (i8 d9 g10 v11 h12 x60 x62 : Value) (h : Heap) : Prop := CutP (iwpP P c14z24 (K14z8 P K)) [8, 9, 10, 11, 12, 60, 62] [i8, d9, g10, v11, h12, x60, x62] h
def p14z26 (P : Program) (K : Value → Heap → Prop) (i8 d9 g10 v11 h12 x64 : Value) (h : Heap) : Prop := CutP (iwpP P c14z26 (K14z8 P K)) [8, 9, 10, 11, 12, 64] [i8, d9, g10, v11, h12, x64] h
def p14z28 (P : Program) (K : Value → Heap → Prop) (d9 g10 v11 h12 x64 x66 : Value) (h : Heap) : Prop := CutP (iwpP P c14z28 (K14z8 P K)) [9, 10, 11, 12, 64, 66] [d9, g10, v11, h12, x64, x66] h
def p14z30 (P : Program) (K : Value → Heap → Prop) (d9 g10 v11 h12 x68 : Value) (h : Heap) : Prop := CutP (iwpP P c14z30 (K14z8 P K)) [9, 10, 11, 12, 68] [d9, g10, v11, h12, x68] h
def p14z32 (P : Program) (K : Value → Heap → Prop) (g10 v11 h12 x68 x70 : Value) (h : Heap) : Prop := CutP (iwpP P c14z32 (K14z8 P K)) [10, 11, 12, 68, 70] [g10, v11, h12, x68, x70] h
def p14z34 (P : Program) (K : Value → Heap → Prop) (g10 v11 h12 x72 : Value) (h : Heap) : Prop := CutP (iwpP P c14z34 (K14z8 P K)) [10, 11, 12, 72] [g10, v11, h12, x72] h
def p14z36 (P : Program) (K : Value → Heap → Prop) (v11 h12 x72 x74 : Value) (h : Heap) : Prop := CutP (iwpP P c14z36 (K14z8 P K)) [11, 12, 72, 74] [v11, h12, x72, x74] h
def p14z38 (P : Program) (K : Value → Heap → Prop) (v11 h12 x76 : Value) (h : Heap) : Prop := CutP (iwpP P c14z38 (K14z8 P K)) [11, 12, 76] [v11, h12, x76] h
def p14z40 (P : Program) (K : Value → Heap → Prop) (h12 x76 x78 : Value) (h : Heap) : Prop := CutP (iwpP P c14z40 (K14z8 P K)) [12, 76, 78] [h12, x76, x78] h
def p14z42 (P : Program) (K : Value → Heap → Prop) (h12 x80 : Value) (h : Heap) : Prop := CutP (iwpP P c14z42 (K14z8 P K)) [12, 80] [h12, x80] h
def p14z44 (P : Program) (K : Value → Heap → Prop) (x80 x82 : Value) (h : Heap) : Prop := CutP (iwpP P c14z44 (K14z8 P K)) [80, 82] [x80, x82] h
theorem q14z44 (P : Program) (K : Value → Heap → Prop) (x80 x82 : Value) (h : Heap) : p14z44 P K x80 x82 h =
  (OP (iPick x80 x82 (.bool false)) fun x83 =>
  K x83 h) := (CutP_def _ _ _ _).trans (by kernel_rfl)
theorem q14z42 (P : Program) (K : Value → Heap → Prop) (h12 x80 : Value) (h : Heap) : p14z42 P K h12 x80 h =
  (GdP x80 true
    (OP (iBin .eql h12 (.int .i64 (0))) fun x82 =>
    p14z44 P K x80 x82 h)
    (p14z44 P K x80 undef h)) := (CutP_def _ _ _ _).trans (by kernel_rfl)
theorem q14z40 (P : Program) (K : Value → Heap → Prop) (h12 x76 x78 : Value) (h : Heap) : p14z40 P K h12 x76 x78 h =
  (OP (iPick x76 x78 (.bool false)) fun x79 =>
  p14z42 P K h12 x79 h) := (CutP_def _ _ _ _).trans (by kernel_rfl)
theorem q14z38 (P : Program) (K : Value → Heap → Prop) (v11 h12 x76 : Value) (h : Heap) : p14z38 P K v11 h12 x76 h =
  (GdP x76 true
    (OP (iBin .eql v11 (.string ⟨#[51]⟩)) fun x78 =>
    p14z40 P K h12 x76 x78 h)
    (p14z40 P K h12 x76 undef h)) := (CutP_def _ _ _ _).trans (by kernel_rfl)
theorem q14z36 (P : Program) (K : Value → Heap → Prop) (v11 h12 x72 x74 : Value) (h : Heap) : p14z36 P K v11 h12 x72 x74 h =
  (OP (iPick x72 x74 (.bool false)) fun x75 =>
  p14z38 P K v11 h12 x75 h) := (CutP_def _ _ _ _).trans (by kernel_rfl)
theorem q14z34 (P : Program) (K : Value → Heap → Prop) (g10 v11 h12 x72 : Value) (h : Heap) : p14z34 P K g10 v11 h12 x72 h =
  (GdP x72 true
    (OP (iBin .eql g10 (.int .i64 (0))) fun x74 =>
    p14z36 P K v11 h12 x72 x74 h)
    (p14z36 P K v11 h12 x72 undef h)) := (CutP_def _ _ _ _).trans (by kernel_rfl)
theorem q14z32 (P : Program) (K : Value → Heap → Prop) (g10 v11 h12 x68 x70 : Value) (h : Heap) : p14z32 P K g10 v11 h12 x68 x70 h =
  (OP (iPick x68 x70 (.bool false)) fun x71 =>
  p14z34 P K g10 v11 h12 x71 h) := (CutP_def _ _ _ _).trans (by kernel_rfl)
theorem q14z30 (P : Program) (K : Value → Heap → Prop) (d9 g10 v11 h12 x68 : Value) (h : Heap) : p14z30 P K d9 g10 v11 h12 x68 h =
  (GdP x68 true
    (OP (iBin .eql d9 (.int .i64 (2))) fun x70 =>
    p14z32 P K g10 v11 h12 x68 x70 h)
    (p14z32 P K g10 v11 h12 x68 undef h)) := (CutP_def _ _ _ _).trans (by kernel_rfl)
theorem q14z28 (P : Program) (K : Value → Heap → Prop) (d9 g10 v11 h12 x64 x66 : Value) (h : Heap) : p14z28 P K d9 g10 v11 h12 x64 x66 h =
  (OP (iPick x64 x66 (.bool false)) fun x67 =>
  p14z30 P K d9 g10 v11 h12 x67 h) := (CutP_def _ _ _ _).trans (by kernel_rfl)
theorem q14z26 (P : Program) (K : Value → Heap → Prop) (i8 d9 g10 v11 h12 x64 : Value) (h : Heap) : p14z26 P K i8 d9 g10 v11 h12 x64 h =
  (GdP x64 true
    (OP (iBin .eql i8 (.string ⟨#[52, 47, 51]⟩)) fun x66 =>
    p14z28 P K d9 g10 v11 h12 x64 x66 h)
    (p14z28 P K d9 g10 v11 h12 x64 undef h)) := (CutP_def _ _ _ _).trans (by kernel_rfl)
theorem q14z24 (P : Program) (K : Value → Heap → Prop) (i8 d9 g10 v11 h12 x60 x62 : Value) (h : Heap) : p14z24 P K i8 d9 g10 v11 h12 x60 x62 h =
  (OP (iPick x60 x62 (.bool false)) fun x63 =>
  p14z26 P K i8 d9 g10 v11 h12 x63 h) := (CutP_def _ _ _ _).trans (by kernel_rfl)
theorem q14z22 (P : Program) (K : Value → Heap → Prop) (f6 i8 d9 g10 v11 h12 x60 : Value) (h : Heap) : p14z22 P K f6 i8 d9 g10 v11 h12 x60 h =
  (GdP x60 true
    (OP (iBin .eql f6 (.int .i64 (0))) fun x62 =>
    p14z24 P K i8 d9 g10 v11 h12 x60 x62 h)
    (p14z24 P K i8 d9 g10 v11 h12 x60 undef h)) := (CutP_def _ _ _ _).trans (by kernel_rfl)
theorem q14z20 (P : Program) (K : Value → Heap → Prop) (f6 i8 d9 g10 v11 h12 x54 x58 : Value) (h : Heap) : p14z20 P K f6 i8 d9 g10 v11 h12 x54 x58 h =
  (OP (iPick x54 x58 (.bool false)) fun x59 =>
  p14z22 P K f6 i8 d9 g10 v11 h12 x59 h) := (CutP_def _ _ _ _).trans (by kernel_rfl)
theorem q14z18 (P : Program) (K : Value → Heap → Prop) (s5 f6 i8 d9 g10 v11 h12 x54 : Value) (h : Heap) : p14z18 P K s5 f6 i8 d9 g10 v11 h12 x54 h =
  (GdP x54 true
    (OH (iMkSl 3 2 [(.int .i64 (0))] h [(0, 1, (.int .i64 (0))), (1, 1, (.int .i64 (1)))]) fun x56 h_1 =>
    OH (iMkSl 27 1 [(.slice none 0 0)] h_1 [(0, 1, x56)]) fun x57 h_2 =>
    CallP P 32 [s5, x57] h_2 fun x58 h_3 =>
    p14z20 P K f6 i8 d9 g10 v11 h12 x54 x58 h_3)
    (p14z20 P K f6 i8 d9 g10 v11 h12 x54 undef h)) := (CutP_def _ _ _ _).trans (by kernel_rfl)
theorem q14z16 (P : Program) (K : Value → Heap → Prop) (s5 f6 i8 d9 g10 v11 h12 x50 x52 : Value) (h : Heap) : p14z16 P K s5 f6 i8 d9 g10 v11 h12 x50 x52 h =
  (OP (iPick x50 x52 (.bool false)) fun x53 =>
  p14z18 P K s5 f6 i8 d9 g10 v11 h12 x53 h) := (CutP_def _ _ _ _).trans (by kernel_rfl)
theorem q14z14 (P : Program) (K : Value → Heap → Prop) (e4 s5 f6 i8 d9 g10 v11 h12 x50 : Value) (h : Heap) : p14z14 P K e4 s5 f6 i8 d9 g10 v11 h12 x50 h =
  (GdP x50 true
    (OP (iBin .eql e4 (.int .i64 (0))) fun x52 =>
    p14z16 P K s5 f6 i8 d9 g10 v11 h12 x50 x52 h)
    (p14z16 P K s5 f6 i8 d9 g10 v11 h12 x50 undef h)) := (CutP_def _ _ _ _).trans (by kernel_rfl)
theorem q14z12 (P : Program) (K : Value → Heap → Prop) (e4 s5 f6 i8 d9 g10 v11 h12 x46 x48 : Value) (h : Heap) : p14z12 P K e4 s5 f6 i8 d9 g10 v11 h12 x46 x48 h =
  (OP (iPick x46 x48 (.bool false)) fun x49 =>
  p14z14 P K e4 s5 f6 i8 d9 g10 v11 h12 x49 h) := (CutP_def _ _ _ _).trans (by kernel_rfl)
theorem q14z10 (P : Program) (K : Value → Heap → Prop) (c3 e4 s5 f6 i8 d9 g10 v11 h12 x46 : Value) (h : Heap) : p14z10 P K c3 e4 s5 f6 i8 d9 g10 v11 h12 x46 h =
  (GdP x46 true
    (OP (iBin .eql c3 (.int .i64 (5))) fun x48 =>
    p14z12 P K e4 s5 f6 i8 d9 g10 v11 h12 x46 x48 h)
    (p14z12 P K e4 s5 f6 i8 d9 g10 v11 h12 x46 undef h)) := (CutP_def _ _ _ _).trans (by kernel_rfl)
def T14 (P : Program) (K : Value → Heap → Prop) (h : Heap) : Prop :=
  OP (iBuild [(.int .i64 (0)), (.int .i64 (0))] [(0, 1, (.int .i64 (3))), (1, 1, (.int .i64 (1)))]) fun x13 =>
  OP (iBuild [(.int .i64 (0)), (.int .i64 (0))] [(0, 1, (.int .i64 (1))), (1, 1, (.int .i64 (1)))]) fun x14 =>
  OH (iMkSl 35 2 [(.int .i64 (0)), (.int .i64 (0))] h [(0, 2, x13), (2, 2, x14)]) fun x15 h_1 =>
  CallP P 11 [x15, (.slice none 0 0)] h_1 fun x18 h_2 =>
  OP (iExt 0 x18) fun x19 =>
  OP (iExt 1 x18) fun x20 =>
  OP (iExt 2 x18) fun x21 =>
  OP (iBuild [(.int .i64 (0)), (.int .i64 (0))] [(0, 1, (.int .i64 (0))), (1, 1, (.int .i64 (1)))]) fun x24 =>
  OH (iMkSl 54 1 [(.int .i64 (0)), (.int .i64 (0))] h_2 [(0, 2, x24)]) fun x25 h_3 =>
  CallP P 29 [x15, x25] h_3 fun x26 h_4 =>
  OP (iExt 0 x26) fun x27 =>
  OP (iExt 1 x26) fun x28 =>
  OH (iMkSl 72 2 [(.string ⟨#[]⟩)] h_4 [(0, 1, (.string ⟨#[49, 47, 50]⟩)), (1, 1, (.string ⟨#[49, 47, 50]⟩))]) fun x29 h_5 =>
  OP (iBuild [(.slice none 0 0), (.int .i64 (0))] [(0, 1, x29), (1, 1, (.int .i64 (2)))]) fun x30 =>
  OH (iAlloc 75 [(.slice none 0 0), (.int .i64 (0))] h_5) fun x7 h_6 =>
  OH (oStore 2 h_6 x7 x30) fun _ h_7 =>
  OP (iLoad true 2 h_7 x7) fun x32 =>
  CallP P 30 [x32, (.int .i64 (0))] h_7 fun x33 h_8 =>
  OP (iExt 0 x33) fun x34 =>
  OP (iExt 1 x33) fun x35 =>
  OP (iExt 2 x33) fun x36 =>
  OP (iLoad true 2 h_8 x7) fun x38 =>
  OH (iMkSl 75 1 [(.slice none 0 0), (.int .i64 (0))] h_8 [(0, 2, x38)]) fun x39 h_9 =>
  CallP P 31 [x39] h_9 fun x40 h_10 =>
  OP (iExt 0 x40) fun x41 =>
  OP (iExt 1 x40) fun x42 =>
  OH (iMkSl 3 2 [(.int .i64 (0))] h_10 [(0, 1, (.int .i64 (1))), (1, 1, (.int .i64 (0)))]) fun x44 h_11 =>
  CallP P 20 [x19, x44] h_11 fun x45 h_12 =>
  p14z10 P K x20 x21 x27 x28 x34 x35 x36 x41 x42 x45 h_12
theorem e14 (P : Program) (K : Value → Heap → Prop) (h : Heap) : iwpP P c14 (bodyP [.tmp 0] K) (frame0 []) h = T14 P K h := by kernel_rfl
theorem f14 {K : Value → Heap → Prop} {h : Heap} (H : T14 Try.prog K h) : CallP Try.prog 14 [] h K :=
  callP_intro k14 (Nat.le_of_ble_eq_true rfl) ((e14 Try.prog K h).mpr H)
end Go.Proofs.Ytelmdbpaoifmoaa
