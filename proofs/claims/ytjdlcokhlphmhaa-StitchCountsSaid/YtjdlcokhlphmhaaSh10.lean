/-
  Ideal code of the functions that the proof reaches, written by program; the kernel holds it against the code.
-/
import Derived.Test.YtjdlcokhlphmhaaProg
import Derived.Test.YtjdlcokhlphmhaaSim20
import Derived.KernelRfl
namespace Go.Proofs.Ytjdlcokhlphmhaa
open Go.Sim
/-! F7: pommel/pommellaw03.StitchFree -/
noncomputable def c7z11 : ICode := .seq (.seq (.ops none [⟨(some 55), .p (.mv (.tmp 18))⟩,
     ⟨(some 56), .p (.mv (.tmp 10))⟩,
     ⟨(some 57), .p (.bin .lss (.tmp 55) (.tmp 56))⟩])
  (.cond (.tmp 57) (.skip)
  (.exit 0)))
 (.seq (.block 1 (.dops [(none, [⟨(some 60), .l (.load true 4 (.tmp 17)), 0⟩,
     ⟨(some 61), .p (.mv (.tmp 9)), 0⟩,
     ⟨(some 62), .call 35 [(.tmp 61)], 2⟩,
     ⟨(some 63), .call 38 [(.tmp 60), (.tmp 62)], 7⟩,
     ⟨none, .e (.store 4 (.tmp 17) (.tmp 63)), 15⟩])]))
 (.ops none [⟨(some 58), .p (.mv (.tmp 18))⟩,
   ⟨(some 59), .p (.bin .add (.tmp 58) (.const (.int .i64 (1))))⟩,
   ⟨(some 18), .p (.mv (.tmp 59))⟩]))
noncomputable def c7z44 : ICode := .ops none [⟨(some 110), .p (.pick (.tmp 107) (.const (.bool true)) (.tmp 109))⟩]
noncomputable def c7z42 : ICode := .seq (.ops (some (107, false)) [⟨(some 108), .call 20 []⟩,
    ⟨(some 109), .p (.un .not (.tmp 108))⟩])
 (.cut [21, 107, 109] c7z44)
noncomputable def c7z40 : ICode := .seq (.ops none [⟨(some 106), .p (.pick (.tmp 100) (.const (.bool true)) (.tmp 105))⟩,
    ⟨(some 107), .p (.mv (.tmp 106))⟩])
 (.cut [21, 107] c7z42)
noncomputable def c7z38 : ICode := .seq (.ops (some (100, false)) [⟨(some 101), .p (.mv (.tmp 21))⟩,
    ⟨(some 102), .p (.lenS (.tmp 101))⟩,
    ⟨(some 103), .p (.mv (.tmp 11))⟩,
    ⟨(some 104), .p (.lenS (.tmp 103))⟩,
    ⟨(some 105), .p (.bin .neq (.tmp 102) (.tmp 104))⟩])
 (.cut [21, 100, 105] c7z40)
noncomputable def c7z36 : ICode := .seq (.ops none [⟨(some 99), .p (.pick (.tmp 96) (.const (.bool true)) (.tmp 98))⟩,
    ⟨(some 100), .p (.mv (.tmp 99))⟩])
 (.cut [11, 21, 100] c7z38)
noncomputable def c7z34 : ICode := .seq (.ops (some (96, false)) [⟨(some 97), .p (.mv (.tmp 22))⟩,
    ⟨(some 98), .p (.bin .neq (.tmp 97) (.const (.int .i64 (0))))⟩])
 (.cut [11, 21, 96, 98] c7z36)
noncomputable def c7z32 : ICode := .seq (.ops none [⟨(some 95), .p (.pick (.tmp 90) (.const (.bool true)) (.tmp 94))⟩,
    ⟨(some 96), .p (.mv (.tmp 95))⟩])
 (.cut [11, 21, 22, 96] c7z34)
noncomputable def c7z30 : ICode := .seq (.ops (some (90, false)) [⟨(some 91), .p (.mv (.tmp 15))⟩,
    ⟨(some 92), .l (.load true 4 (.tmp 17))⟩,
    ⟨(some 93), .call 27 [(.tmp 91), (.tmp 92)]⟩,
    ⟨(some 94), .p (.un .not (.tmp 93))⟩])
 (.cut [11, 21, 22, 90, 94] c7z32)
noncomputable def c7z28 : ICode := .seq (.ops none [⟨(some 89), .p (.pick (.tmp 86) (.const (.bool true)) (.tmp 88))⟩,
    ⟨(some 90), .p (.mv (.tmp 89))⟩])
 (.cut [11, 15, 17, 21, 22, 90] c7z30)
noncomputable def c7z26 : ICode := .seq (.ops (some (86, false)) [⟨(some 87), .p (.mv (.tmp 16))⟩,
    ⟨(some 88), .p (.bin .neq (.tmp 87) (.const (.int .i64 (0))))⟩])
 (.cut [11, 15, 17, 21, 22, 86, 88] c7z28)
noncomputable def c7z24 : ICode := .seq (.ops none [⟨(some 85), .p (.pick (.tmp 82) (.const (.bool true)) (.tmp 84))⟩,
    ⟨(some 86), .p (.mv (.tmp 85))⟩])
 (.cut [11, 15, 16, 17, 21, 22, 86] c7z26)
noncomputable def c7z22 : ICode := .seq (.ops (some (82, false)) [⟨(some 83), .p (.mv (.tmp 14))⟩,
    ⟨(some 84), .p (.bin .neq (.tmp 83) (.const (.int .i64 (0))))⟩])
 (.cut [11, 15, 16, 17, 21, 22, 82, 84] c7z24)
noncomputable def c7z20 : ICode := .cond (.tmp 110) (.seq (.ops none [⟨(some 6), .p (.mv (.const (.bool false)))⟩])
  (.ret))
 (.skip)
noncomputable def c7z49 : ICode := .seq (.seq (.ops none [⟨(some 111), .p (.mv (.tmp 23))⟩,
     ⟨(some 112), .p (.mv (.tmp 21))⟩,
     ⟨(some 113), .p (.lenS (.tmp 112))⟩,
     ⟨(some 114), .p (.bin .lss (.tmp 111) (.tmp 113))⟩])
  (.cond (.tmp 114) (.skip)
  (.exit 2)))
 (.seq (.block 3 (.seq (.dops [(none, [⟨(some 117), .p (.mv (.tmp 21)), 0⟩,
      ⟨(some 118), .p (.mv (.tmp 23)), 0⟩,
      ⟨(some 119), .p (.bin .sub (.tmp 118) (.const (.int .i64 (1)))), 2⟩,
      ⟨(some 120), .p (.idxS (.tmp 117) (.tmp 119)), 7⟩,
      ⟨(some 121), .p (.mv (.tmp 21)), 0⟩,
      ⟨(some 122), .p (.mv (.tmp 23)), 0⟩,
      ⟨(some 123), .p (.idxS (.tmp 121) (.tmp 122)), 48⟩,
      ⟨(some 124), .p (.bin .gtr (.tmp 120) (.tmp 123)), 127⟩])])
   (.cond (.tmp 124) (.seq (.ops none [⟨(some 6), .p (.mv (.const (.bool false)))⟩])
    (.ret))
   (.skip))))
 (.ops none [⟨(some 115), .p (.mv (.tmp 23))⟩,
   ⟨(some 116), .p (.bin .add (.tmp 115) (.const (.int .i64 (1))))⟩,
   ⟨(some 23), .p (.mv (.tmp 116))⟩]))
noncomputable def c7z46 : ICode := .seq (.ops none [⟨(some 6), .p (.mv (.const (.bool true)))⟩])
 (.ret)
noncomputable def c7z19 : ICode := .seq (.seq (.ops none [⟨(some 23), .p (.mv (.const (.int .i64 (1))))⟩])
  (.block 2 (.loop [21] [23] c7z49))) c7z46
noncomputable def c7z16 : ICode := .seq (.ops none [⟨(some 65), .p (.mv (.tmp 7))⟩,
    ⟨(some 66), .p (.build [(.int .u8 (0)), (.int .u16 (0))] [(0, 1, (.tmp 65)), (1, 1, (.const (.int .u16 (65535))))])⟩,
    ⟨(some 67), .call 30 [(.tmp 66)]⟩,
    ⟨(some 64), .p (.mv (.tmp 67))⟩,
    ⟨(some 68), .p (.ext (.tmp 64) 0)⟩,
    ⟨(some 69), .p (.ext (.tmp 64) 1)⟩,
    ⟨(some 19), .p (.mv (.tmp 68))⟩,
    ⟨(some 20), .p (.mv (.tmp 69))⟩])
 (.seq (.ops none [⟨(some 71), .p (.mv (.tmp 9))⟩,
    ⟨(some 72), .p (.mv (.tmp 20))⟩,
    ⟨(some 73), .p (.mv (.tmp 11))⟩,
    ⟨(some 74), .call 41 [(.tmp 71), (.tmp 72), (.tmp 73)]⟩,
    ⟨(some 70), .p (.mv (.tmp 74))⟩,
    ⟨(some 75), .p (.ext (.tmp 70) 0)⟩,
    ⟨(some 76), .p (.ext (.tmp 70) 1)⟩,
    ⟨(some 21), .p (.mv (.tmp 75))⟩,
    ⟨(some 22), .p (.mv (.tmp 76))⟩])
 (.seq (.seq (.seq (.ops none [⟨(some 77), .p (.mv (.tmp 13))⟩,
      ⟨(some 78), .p (.mv (.tmp 11))⟩,
      ⟨(some 79), .p (.mv (.tmp 12))⟩,
      ⟨(some 80), .p (.bin .eql (.tmp 78) (.tmp 79))⟩,
      ⟨(some 81), .p (.eqb true (.tmp 77) (.tmp 80))⟩,
      ⟨(some 82), .p (.mv (.tmp 81))⟩])
   (.cut [11, 14, 15, 16, 17, 21, 22, 82] c7z22)) c7z20) c7z19))
noncomputable def c7z8 : ICode := .cut [7, 9, 11, 12, 13, 14, 15, 16, 17] c7z16
noncomputable def c7 : ICode := .seq (.ops none [⟨(some 3), .e (.box 67 (.tmp 0))⟩,
    ⟨(some 6), .p (.mv (.const (.bool false)))⟩])
 (.seq (.dops [(none, [⟨(some 24), .p (.adrArr 2 1 (.tmp 3) (.const (.int .i64 (0)))), 0⟩,
    ⟨(some 25), .l (.load false 1 (.tmp 24)), 1⟩,
    ⟨(some 26), .p (.adrArr 2 1 (.tmp 3) (.const (.int .i64 (1)))), 0⟩,
    ⟨(some 27), .l (.load false 1 (.tmp 26)), 4⟩,
    ⟨(some 7), .p (.mv (.tmp 25)), 3⟩,
    ⟨(some 8), .p (.mv (.tmp 27)), 31⟩])])
 (.seq (.ops none [⟨(some 28), .p (.mv (.tmp 7))⟩,
    ⟨(some 29), .p (.conv .i64 (.tmp 28))⟩,
    ⟨(some 30), .p (.bin .rem (.tmp 29) (.const (.int .i64 (6))))⟩,
    ⟨(some 31), .p (.bin .add (.tmp 30) (.const (.int .i64 (1))))⟩,
    ⟨(some 32), .p (.mv (.tmp 8))⟩,
    ⟨(some 33), .p (.conv .i64 (.tmp 32))⟩,
    ⟨(some 34), .p (.bin .rem (.tmp 33) (.const (.int .i64 (61))))⟩,
    ⟨(some 9), .p (.mv (.tmp 31))⟩,
    ⟨(some 10), .p (.mv (.tmp 34))⟩])
 (.seq (.ops none [⟨(some 35), .p (.mv (.tmp 9))⟩,
    ⟨(some 36), .p (.mv (.tmp 1))⟩,
    ⟨(some 37), .call 31 [(.tmp 35), (.tmp 36), (.const (.int .i64 (20)))]⟩,
    ⟨(some 38), .p (.mv (.tmp 9))⟩,
    ⟨(some 39), .p (.mv (.tmp 2))⟩,
    ⟨(some 40), .call 31 [(.tmp 38), (.tmp 39), (.const (.int .i64 (20)))]⟩,
    ⟨(some 11), .p (.mv (.tmp 37))⟩,
    ⟨(some 12), .p (.mv (.tmp 40))⟩])
 (.seq (.ops none [⟨(some 42), .p (.mv (.tmp 9))⟩,
    ⟨(some 43), .p (.mv (.tmp 11))⟩,
    ⟨(some 44), .p (.mv (.tmp 12))⟩,
    ⟨(some 45), .call 18 [(.tmp 42), (.const (.slice none 0 0)), (.tmp 43), (.tmp 44)]⟩,
    ⟨(some 41), .p (.mv (.tmp 45))⟩,
    ⟨(some 46), .p (.ext (.tmp 41) 0)⟩,
    ⟨(some 47), .p (.ext (.tmp 41) 1)⟩,
    ⟨(some 13), .p (.mv (.tmp 46))⟩,
    ⟨(some 14), .p (.mv (.tmp 47))⟩])
 (.seq (.ops none [⟨(some 49), .p (.mv (.tmp 9))⟩,
    ⟨(some 50), .p (.mv (.tmp 10))⟩,
    ⟨(some 51), .call 22 [(.tmp 49), (.const (.slice none 0 0)), (.tmp 50)]⟩,
    ⟨(some 48), .p (.mv (.tmp 51))⟩,
    ⟨(some 52), .p (.ext (.tmp 48) 0)⟩,
    ⟨(some 53), .p (.ext (.tmp 48) 1)⟩,
    ⟨(some 15), .p (.mv (.tmp 52))⟩,
    ⟨(some 16), .p (.mv (.tmp 53))⟩])
 (.seq (.ops none [⟨(some 54), .call 35 [(.const (.int .i64 (1)))]⟩,
    ⟨(some 17), .e (.alloc 50 [(.bool false), (.slice none 0 0), (.bool false), (.slice none 0 0)])⟩,
    ⟨none, .e (.store 4 (.tmp 17) (.tmp 54))⟩])
 (.seq (.seq (.ops none [⟨(some 18), .p (.mv (.const (.int .i64 (0))))⟩])
  (.block 0 (.loop [7, 9, 10, 11, 12, 13, 14, 15, 16, 17] [18] c7z11))) c7z8)))))))
theorem k7 : compFn Try.prog 7 [[], [], [], [], [], [], [], [], [7, 9, 10, 11, 12, 13, 14, 15, 16, 17], [18], [], [], [], [7, 9, 11, 12, 13, 14, 15, 16, 17], [], [], [11, 14, 15, 16, 17, 21, 22, 82], [11, 15, 16, 17, 21, 22, 82, 84], [11, 15, 16, 17, 21, 22, 86], [11, 15, 17, 21, 22, 86, 88], [11, 15, 17, 21, 22, 90], [11, 21, 22, 90, 94], [11, 21, 22, 96], [11, 21, 96, 98], [11, 21, 100], [21, 100, 105], [21, 107], [21, 107, 109], [], [], [], [], [21], [23], [], [], [], [], [], [], []] = some (125, c7, [.tmp 6]) := by kernel_rfl
def K7z0 (_P : Program) (K : Value → Heap → Prop) : Exit → (Nat → Value) → Heap → Prop := bodyP [.tmp 6] K
def K7z8 (P : Program) (K : Value → Heap → Prop) : Exit → (Nat → Value) → Heap → Prop := thenK (iwpP P c7z8 (K7z0 P K)) (K7z0 P K)
def K7z10 (P : Program) (K : Value → Heap → Prop) : Exit → (Nat → Value) → Heap → Prop := inBlockK 0 (K7z8 P K)
def K7z11 (P : Program) (K : Value → Heap → Prop) (k7 size9 m10 s11 t12 is13 e14 c15 f16 power17 : Value) (L1 : List Value → Heap → Prop) : Exit → (Nat → Value) → Heap → Prop := thenK (fun f' h'' => (([7, 9, 10, 11, 12, 13, 14, 15, 16, 17] : List Nat).map f' : List Value) = [k7, size9, m10, s11, t12, is13, e14, c15, f16, power17] ∧ L1 (([18] : List Nat).map f') h'') (K7z10 P K)
def K7z19 (P : Program) (K : Value → Heap → Prop) : Exit → (Nat → Value) → Heap → Prop := thenK (iwpP P c7z19 (K7z0 P K)) (K7z0 P K)
def K7z20 (P : Program) (K : Value → Heap → Prop) : Exit → (Nat → Value) → Heap → Prop := thenK (iwpP P c7z20 (K7z19 P K)) (K7z19 P K)
def K7z46 (P : Program) (K : Value → Heap → Prop) : Exit → (Nat → Value) → Heap → Prop := thenK (iwpP P c7z46 (K7z0 P K)) (K7z0 P K)
def K7z48 (P : Program) (K : Value → Heap → Prop) : Exit → (Nat → Value) → Heap → Prop := inBlockK 2 (K7z46 P K)
def K7z49 (P : Program) (K : Value → Heap → Prop) (l21 : Value) (L1 : List Value → Heap → Prop) : Exit → (Nat → Value) → Heap → Prop := thenK (fun f' h'' => (([21] : List Nat).map f' : List Value) = [l21] ∧ L1 (([23] : List Nat).map f') h'') (K7z48 P K)
def p7z11 (P : Program) (K : Value → Heap → Prop) (k7 size9 m10 s11 t12 is13 e14 c15 f16 power17 : Value) (L1 : List Value → Heap → Prop) (xs : List Value) (h : Heap) : Prop := CutP (iwpP P c7z11 (K7z11 P K k7 size9 m10 s11 t12 is13 e14 c15 f16 power17 L1)) ([7, 9, 10, 11, 12, 13, 14, 15, 16, 17] ++ [18]) ([k7, size9, m10, s11, t12, is13, e14, c15, f16, power17] ++ xs) h
def p7z16 (P : Program) (K : Value → Heap → Prop) (k7 size9 s11 t12 is13 e14 c15 f16 power17 : Value) (h : Heap) : Prop := CutP (iwpP P c7z16 (K7z0 P K)) [7, 9, 11, 12, 13, 14, 15, 16, 17] [k7, size9, s11, t12, is13, e14, c15, f16, power17] h
def p7z22 (P : Program) (K : Value → Heap → Prop) (s11 e14 c15 f16 power17 l21 g22 x82 : Value) (h : Heap) : Prop := CutP (iwpP P c7z22 (K7z20 P K)) [11, 14, 15, 16, 17, 21, 22, 82] [s11, e14, c15, f16, power17, l21, g22, x82] h
def p7z24 (P : Program) (K : Value → Heap → Prop) (s11 c15 f16 power17 l21 g22 x82 x84 : Value) (h : Heap) : Prop := CutP (iwpP P c7z24 (K7z20 P K)) [11, 15, 16, 17, 21, 22, 82, 84] [s11, c15, f16, power17, l21, g22, x82, x84] h
def p7z26 (P : Program) (K : Value → Heap → Prop) (s11 c15 f16 power17 l21 g22 x86 : Value) (h : Heap) : Prop := CutP (iwpP P c7z26 (K7z20 P K)) [11, 15, 16, 17, 21, 22, 86] [s11, c15, f16, power17, l21, g22, x86] h
def p7z28 (P : Program) (K : Value → Heap → Prop) (s11 c15 power17 l21 g22 x86 x88 : Value) (h : Heap) : Prop := CutP (iwpP P c7z28 (K7z20 P K)) [11, 15, 17, 21, 22, 86, 88] [s11, c15, power17, l21, g22, x86, x88] h
def p7z30 (P : Program) (K : Value → Heap → Prop) (s11 c15 power17 l21 g22 x90 : Value) (h : Heap) : Prop := CutP (iwpP P c7z30 (K7z20 P K)) [11, 15, 17, 21, 22, 90] [s11, c15, power17, l21, g22, x90] h
def p7z32 (P : Program) (K : Value → Heap → Prop) (s11 l21 g22 x90 x94 : Value) (h : Heap) : Prop := CutP (iwpP P c7z32 (K7z20 P K)) [11, 21, 22, 90, 94] [s11, l21, g22, x90, x94] h
def p7z34 (P : Program) (K : Value → Heap → Prop) (s11 l21 g22 x96 : Value) (h : Heap) : Prop := CutP (iwpP P c7z34 (K7z20 P K)) [11, 21, 22, 96] [s11, l21, g22, x96] h
def p7z36 (P : Program) (K : Value → Heap → Prop) (s11 l21 x96 x98 : Value) (h : Heap) : Prop := CutP (iwpP P c7z36 (K7z20 P K)) [11, 21, 96, 98] [s11, l21, x96, x98] h
def p7z38 (P : Program) (K : Value → Heap → Prop) (s11 l21 x100 : Value) (h : Heap) : Prop := CutP (iwpP P c7z38 (K7z20 P K)) [11, 21, 100] [s11, l21, x100] h
def p7z40 (P : Program) (K : Value → Heap → Prop) (l21 x100 x105 : Value) (h : Heap) : Prop := CutP (iwpP P c7z40 (K7z20 P K)) [21, 100, 105] [l21, x100, x105] h
def p7z42 (P : Program) (K : Value → Heap → Prop) (l21 x107 : Value) (h : Heap) : Prop := CutP (iwpP P c7z42 (K7z20 P K)) [21, 107] [l21, x107] h
def p7z44 (P : Program) (K : Value → Heap → Prop) (l21 x107 x109 : Value) (h : Heap) : Prop := CutP (iwpP P c7z44 (K7z20 P K)) [21, 107, 109] [l21, x107, x109] h
def p7z49 (P : Program) (K : Value → Heap → Prop) (l21 : Value) (L1 : List Value → Heap → Prop) (xs : List Value) (h : Heap) : Prop := CutP (iwpP P c7z49 (K7z49 P K l21 L1)) ([21] ++ [23]) ([l21] ++ xs) h
theorem q7z11 (P : Program) (K : Value → Heap → Prop) (k7 size9 m10 s11 t12 is13 e14 c15 f16 power17 : Value) (L1 : List Value → Heap → Prop) (i18 : Value) (h : Heap) : p7z11 P K k7 size9 m10 s11 t12 is13 e14 c15 f16 power17 L1 [i18] h =
  (OP (iBin .lss i18 m10) fun x57 =>
  IfP x57
    (OP (iLoad true 4 h power17) fun x60 =>
    (True) ∧
    CallP P 35 [size9] h fun x62 h_1 =>
    (iLoad true 4 h_1 power17 = some x60 ∧ True) ∧
    CallP P 38 [x60, x62] h_1 fun x63 h_2 =>
    (True) ∧
    OH (oStore 4 h_2 power17 x63) fun _ h_3 =>
    (True) ∧
    OP (iBin .add i18 (.int .i64 (1))) fun x59 =>
    ([k7, size9, m10, s11, t12, is13, e14, c15, f16, power17] : List Value) = [k7, size9, m10, s11, t12, is13, e14, c15, f16, power17] ∧ L1 [x59] h_3)
    (p7z16 P K k7 size9 s11 t12 is13 e14 c15 f16 power17 h)) := (CutP_def _ _ _ _).trans (by kernel_rfl)
theorem q7z44 (P : Program) (K : Value → Heap → Prop) (l21 x107 x109 : Value) (h : Heap) : p7z44 P K l21 x107 x109 h =
  (OP (iPick x107 (.bool true) x109) fun x110 =>
  IfP x110
    (K (.bool false) h)
    (LoopP [(.int .i64 (1))] h fun L1 xs hx =>
    p7z49 P K l21 L1 xs hx)) := (CutP_def _ _ _ _).trans (by kernel_rfl)
theorem q7z42 (P : Program) (K : Value → Heap → Prop) (l21 x107 : Value) (h : Heap) : p7z42 P K l21 x107 h =
  (GdP x107 false
    (CallP P 20 [] h fun x108 h_1 =>
    OP (iUn .not x108) fun x109 =>
    p7z44 P K l21 x107 x109 h_1)
    (p7z44 P K l21 x107 undef h)) := (CutP_def _ _ _ _).trans (by kernel_rfl)
theorem q7z40 (P : Program) (K : Value → Heap → Prop) (l21 x100 x105 : Value) (h : Heap) : p7z40 P K l21 x100 x105 h =
  (OP (iPick x100 (.bool true) x105) fun x106 =>
  p7z42 P K l21 x106 h) := (CutP_def _ _ _ _).trans (by kernel_rfl)
theorem q7z38 (P : Program) (K : Value → Heap → Prop) (s11 l21 x100 : Value) (h : Heap) : p7z38 P K s11 l21 x100 h =
  (GdP x100 false
    (OP (iLenS l21) fun x102 =>
    OP (iLenS s11) fun x104 =>
    OP (iBin .neq x102 x104) fun x105 =>
    p7z40 P K l21 x100 x105 h)
    (p7z40 P K l21 x100 undef h)) := (CutP_def _ _ _ _).trans (by kernel_rfl)
theorem q7z36 (P : Program) (K : Value → Heap → Prop) (s11 l21 x96 x98 : Value) (h : Heap) : p7z36 P K s11 l21 x96 x98 h =
  (OP (iPick x96 (.bool true) x98) fun x99 =>
  p7z38 P K s11 l21 x99 h) := (CutP_def _ _ _ _).trans (by kernel_rfl)
theorem q7z34 (P : Program) (K : Value → Heap → Prop) (s11 l21 g22 x96 : Value) (h : Heap) : p7z34 P K s11 l21 g22 x96 h =
  (GdP x96 false
    (OP (iBin .neq g22 (.int .i64 (0))) fun x98 =>
    p7z36 P K s11 l21 x96 x98 h)
    (p7z36 P K s11 l21 x96 undef h)) := (CutP_def _ _ _ _).trans (by kernel_rfl)
theorem q7z32 (P : Program) (K : Value → Heap → Prop) (s11 l21 g22 x90 x94 : Value) (h : Heap) : p7z32 P K s11 l21 g22 x90 x94 h =
  (OP (iPick x90 (.bool true) x94) fun x95 =>
  p7z34 P K s11 l21 g22 x95 h) := (CutP_def _ _ _ _).trans (by kernel_rfl)
theorem q7z30 (P : Program) (K : Value → Heap → Prop) (s11 c15 power17 l21 g22 x90 : Value) (h : Heap) : p7z30 P K s11 c15 power17 l21 g22 x90 h =
  (GdP x90 false
    (OP (iLoad true 4 h power17) fun x92 =>
    CallP P 27 [c15, x92] h fun x93 h_1 =>
    OP (iUn .not x93) fun x94 =>
    p7z32 P K s11 l21 g22 x90 x94 h_1)
    (p7z32 P K s11 l21 g22 x90 undef h)) := (CutP_def _ _ _ _).trans (by kernel_rfl)
theorem q7z28 (P : Program) (K : Value → Heap → Prop) (s11 c15 power17 l21 g22 x86 x88 : Value) (h : Heap) : p7z28 P K s11 c15 power17 l21 g22 x86 x88 h =
  (OP (iPick x86 (.bool true) x88) fun x89 =>
  p7z30 P K s11 c15 power17 l21 g22 x89 h) := (CutP_def _ _ _ _).trans (by kernel_rfl)
theorem q7z26 (P : Program) (K : Value → Heap → Prop) (s11 c15 f16 power17 l21 g22 x86 : Value) (h : Heap) : p7z26 P K s11 c15 f16 power17 l21 g22 x86 h =
  (GdP x86 false
    (OP (iBin .neq f16 (.int .i64 (0))) fun x88 =>
    p7z28 P K s11 c15 power17 l21 g22 x86 x88 h)
    (p7z28 P K s11 c15 power17 l21 g22 x86 undef h)) := (CutP_def _ _ _ _).trans (by kernel_rfl)
theorem q7z24 (P : Program) (K : Value → Heap → Prop) (s11 c15 f16 power17 l21 g22 x82 x84 : Value) (h : Heap) : p7z24 P K s11 c15 f16 power17 l21 g22 x82 x84 h =
  (OP (iPick x82 (.bool true) x84) fun x85 =>
  p7z26 P K s11 c15 f16 power17 l21 g22 x85 h) := (CutP_def _ _ _ _).trans (by kernel_rfl)
theorem q7z22 (P : Program) (K : Value → Heap → Prop) (s11 e14 c15 f16 power17 l21 g22 x82 : Value) (h : Heap) : p7z22 P K s11 e14 c15 f16 power17 l21 g22 x82 h =
  (GdP x82 false
    (OP (iBin .neq e14 (.int .i64 (0))) fun x84 =>
    p7z24 P K s11 c15 f16 power17 l21 g22 x82 x84 h)
    (p7z24 P K s11 c15 f16 power17 l21 g22 x82 undef h)) := (CutP_def _ _ _ _).trans (by kernel_rfl)
theorem q7z49 (P : Program) (K : Value → Heap → Prop) (l21 : Value) (L1 : List Value → Heap → Prop) (i23 : Value) (h : Heap) : p7z49 P K l21 L1 [i23] h =
  (OP (iLenS l21) fun x113 =>
  OP (iBin .lss i23 x113) fun x114 =>
  IfP x114
    (OP (iBin .sub i23 (.int .i64 (1))) fun x119 =>
    OP (iIdxS l21 x119) fun x120 =>
    OP (iIdxS l21 i23) fun x123 =>
    OP (iBin .gtr x120 x123) fun x124 =>
    IfP x124
      (K (.bool false) h)
      (OP (iBin .add i23 (.int .i64 (1))) fun x116 =>
      ([l21] : List Value) = [l21] ∧ L1 [x116] h))
    (K (.bool true) h)) := (CutP_def _ _ _ _).trans (by kernel_rfl)
theorem q7z16 (P : Program) (K : Value → Heap → Prop) (k7 size9 s11 t12 is13 e14 c15 f16 power17 : Value) (h : Heap) : p7z16 P K k7 size9 s11 t12 is13 e14 c15 f16 power17 h =
  (OP (iBuild [(.int .u8 (0)), (.int .u16 (0))] [(0, 1, k7), (1, 1, (.int .u16 (65535)))]) fun x66 =>
  CallP P 30 [x66] h fun x67 h_1 =>
  OP (iExt 0 x67) fun x68 =>
  OP (iExt 1 x67) fun x69 =>
  CallP P 41 [size9, x69, s11] h_1 fun x74 h_2 =>
  OP (iExt 0 x74) fun x75 =>
  OP (iExt 1 x74) fun x76 =>
  OP (iBin .eql s11 t12) fun x80 =>
  OP (iEqb true is13 x80) fun x81 =>
  p7z22 P K s11 e14 c15 f16 power17 x75 x76 x81 h_2) := (CutP_def _ _ _ _).trans (by kernel_rfl)
def T7 (P : Program) (K : Value → Heap → Prop) (z0 x1 y2 : Value) (h : Heap) : Prop :=
  OH (iBox 67 h z0) fun z3 h_1 =>
  OP (iAdrArr 2 1 z3 (.int .i64 (0))) fun x24 =>
  OP (iLoad false 1 h_1 x24) fun x25 =>
  (True) ∧
  OP (iAdrArr 2 1 z3 (.int .i64 (1))) fun x26 =>
  OP (iLoad false 1 h_1 x26) fun x27 =>
  (True) ∧
  OP (iConv .i64 x25) fun x29 =>
  OP (iBin .rem x29 (.int .i64 (6))) fun x30 =>
  OP (iBin .add x30 (.int .i64 (1))) fun x31 =>
  OP (iConv .i64 x27) fun x33 =>
  OP (iBin .rem x33 (.int .i64 (61))) fun x34 =>
  CallP P 31 [x31, x1, (.int .i64 (20))] h_1 fun x37 h_2 =>
  CallP P 31 [x31, y2, (.int .i64 (20))] h_2 fun x40 h_3 =>
  CallP P 18 [x31, (.slice none 0 0), x37, x40] h_3 fun x45 h_4 =>
  OP (iExt 0 x45) fun x46 =>
  OP (iExt 1 x45) fun x47 =>
  CallP P 22 [x31, (.slice none 0 0), x34] h_4 fun x51 h_5 =>
  OP (iExt 0 x51) fun x52 =>
  OP (iExt 1 x51) fun x53 =>
  CallP P 35 [(.int .i64 (1))] h_5 fun x54 h_6 =>
  OH (iAlloc 50 [(.bool false), (.slice none 0 0), (.bool false), (.slice none 0 0)] h_6) fun power17 h_7 =>
  OH (oStore 4 h_7 power17 x54) fun _ h_8 =>
  LoopP [(.int .i64 (0))] h_8 fun L1 xs hx =>
  p7z11 P K x25 x31 x34 x37 x40 x46 x47 x52 x53 power17 L1 xs hx
theorem e7 (P : Program) (K : Value → Heap → Prop) (z0 x1 y2 : Value) (h : Heap) : iwpP P c7 (bodyP [.tmp 6] K) (frame0 [z0, x1, y2]) h = T7 P K z0 x1 y2 h := by kernel_rfl
theorem f7 {K : Value → Heap → Prop} {z0 x1 y2 : Value} {h : Heap} (H : T7 Try.prog K z0 x1 y2 h) : CallP Try.prog 7 [z0, x1, y2] h K :=
  callP_intro k7 (Nat.le_of_ble_eq_true rfl) ((e7 Try.prog K z0 x1 y2 h).mpr H)
/-! F27: pommel/pommelref01.Is -/
noncomputable def c27z7 : ICode := .ops none [⟨(some 17), .p (.pick (.tmp 13) (.tmp 16) (.const (.bool false)))⟩,
   ⟨(some 4), .p (.mv (.tmp 17))⟩]
noncomputable def c27z5 : ICode := .seq (.ops (some (13, true)) [⟨(some 14), .p (.mv (.tmp 0))⟩,
    ⟨(some 15), .p (.mv (.tmp 5))⟩,
    ⟨(some 16), .p (.bin .eql (.tmp 14) (.tmp 15))⟩])
 (.cut [13, 16] c27z7)
noncomputable def c27z3 : ICode := .ret
noncomputable def c27 : ICode := .seq (.ops none [⟨(some 3), .e (.box 50 (.tmp 1))⟩,
    ⟨(some 4), .p (.mv (.const (.bool false)))⟩])
 (.seq (.ops none [⟨(some 8), .l (.load true 4 (.tmp 3))⟩,
    ⟨(some 9), .call 72 [(.tmp 8)]⟩,
    ⟨(some 7), .p (.mv (.tmp 9))⟩,
    ⟨(some 10), .p (.ext (.tmp 7) 0)⟩,
    ⟨(some 11), .p (.ext (.tmp 7) 1)⟩,
    ⟨(some 5), .p (.mv (.tmp 10))⟩,
    ⟨(some 6), .p (.mv (.tmp 11))⟩])
 (.seq (.seq (.ops none [⟨(some 12), .p (.mv (.tmp 6))⟩,
     ⟨(some 13), .p (.mv (.tmp 12))⟩])
  (.cut [0, 5, 13] c27z5)) c27z3))
theorem k27 : compFn Try.prog 27 [[], [], [0, 5, 13], [13, 16], []] = some (18, c27, [.tmp 4]) := by kernel_rfl
def K27z0 (_P : Program) (K : Value → Heap → Prop) : Exit → (Nat → Value) → Heap → Prop := bodyP [.tmp 4] K
def K27z3 (P : Program) (K : Value → Heap → Prop) : Exit → (Nat → Value) → Heap → Prop := thenK (iwpP P c27z3 (K27z0 P K)) (K27z0 P K)
def p27z5 (P : Program) (K : Value → Heap → Prop) (x0 y5 x13 : Value) (h : Heap) : Prop := CutP (iwpP P c27z5 (K27z3 P K)) [0, 5, 13] [x0, y5, x13] h
def p27z7 (P : Program) (K : Value → Heap → Prop) (x13 x16 : Value) (h : Heap) : Prop := CutP (iwpP P c27z7 (K27z3 P K)) [13, 16] [x13, x16] h
theorem q27z7 (P : Program) (K : Value → Heap → Prop) (x13 x16 : Value) (h : Heap) : p27z7 P K x13 x16 h =
  (OP (iPick x13 x16 (.bool false)) fun x17 =>
  K x17 h) := (CutP_def _ _ _ _).trans (by kernel_rfl)
theorem q27z5 (P : Program) (K : Value → Heap → Prop) (x0 y5 x13 : Value) (h : Heap) : p27z5 P K x0 y5 x13 h =
  (GdP x13 true
    (OP (iBin .eql x0 y5) fun x16 =>
    p27z7 P K x13 x16 h)
    (p27z7 P K x13 undef h)) := (CutP_def _ _ _ _).trans (by kernel_rfl)
def T27 (P : Program) (K : Value → Heap → Prop) (x0 q1 : Value) (h : Heap) : Prop :=
  OH (iBox 50 h q1) fun q3 h_1 =>
  OP (iLoad true 4 h_1 q3) fun x8 =>
  CallP P 72 [x8] h_1 fun x9 h_2 =>
  OP (iExt 0 x9) fun x10 =>
  OP (iExt 1 x9) fun x11 =>
  p27z5 P K x0 x10 x11 h_2
theorem e27 (P : Program) (K : Value → Heap → Prop) (x0 q1 : Value) (h : Heap) : iwpP P c27 (bodyP [.tmp 4] K) (frame0 [x0, q1]) h = T27 P K x0 q1 h := by kernel_rfl
theorem f27 {K : Value → Heap → Prop} {x0 q1 : Value} {h : Heap} (H : T27 Try.prog K x0 q1 h) : CallP Try.prog 27 [x0, q1] h K :=
  callP_intro k27 (Nat.le_of_ble_eq_true rfl) ((e27 Try.prog K x0 q1 h).mpr H)
/-! F72: pommel/pommelref01.Num -/
noncomputable def c72z9 : ICode := .ops none [⟨(some 22), .p (.pick (.tmp 18) (.const (.bool true)) (.tmp 21))⟩]
noncomputable def c72z7 : ICode := .seq (.ops (some (18, false)) [⟨(some 19), .p (.mv (.tmp 5))⟩,
    ⟨(some 20), .p (.lenS (.tmp 19))⟩,
    ⟨(some 21), .p (.bin .gtr (.tmp 20) (.const (.int .i64 (4000))))⟩])
 (.cut [1, 4, 5, 18, 21] c72z9)
noncomputable def c72z5 : ICode := .cond (.tmp 22) (.seq (.ops none [⟨(some 2), .p (.mv (.const (.string ⟨#[]⟩)))⟩,
     ⟨(some 3), .p (.mv (.const (.bool false)))⟩])
  (.ret))
 (.skip)
noncomputable def c72z16 : ICode := .seq (.ops none [⟨(some 34), .p (.mv (.tmp 4))⟩,
    ⟨(some 2), .p (.mv (.tmp 34))⟩,
    ⟨(some 3), .p (.mv (.const (.bool true)))⟩])
 (.ret)
noncomputable def c72z13 : ICode := .seq (.seq (.ops none [⟨(some 28), .p (.mv (.tmp 5))⟩,
     ⟨(some 29), .p (.bin .neq (.tmp 28) (.const (.string ⟨#[49]⟩)))⟩])
  (.cond (.tmp 29) (.ops none [⟨(some 30), .p (.mv (.tmp 4))⟩,
     ⟨(some 31), .p (.mv (.tmp 5))⟩,
     ⟨(some 32), .p (.bin .add (.const (.string ⟨#[47]⟩)) (.tmp 31))⟩,
     ⟨(some 33), .p (.bin .add (.tmp 30) (.tmp 32))⟩,
     ⟨(some 4), .p (.mv (.tmp 33))⟩])
  (.skip)))
 (.cut [4] c72z16)
noncomputable def c72z4 : ICode := .seq (.seq (.ops none [⟨(some 23), .p (.fadr 0 (.tmp 1))⟩,
     ⟨(some 24), .p (.fadr 0 (.tmp 23))⟩,
     ⟨(some 25), .l (.load false 1 (.tmp 24))⟩])
  (.cond (.tmp 25) (.ops none [⟨(some 26), .p (.mv (.tmp 4))⟩,
     ⟨(some 27), .p (.bin .add (.const (.string ⟨#[45]⟩)) (.tmp 26))⟩,
     ⟨(some 4), .p (.mv (.tmp 27))⟩])
  (.skip)))
 (.cut [4, 5] c72z13)
noncomputable def c72 : ICode := .seq (.ops none [⟨(some 1), .e (.box 50 (.tmp 0))⟩,
    ⟨(some 2), .p (.mv (.const (.string ⟨#[]⟩)))⟩,
    ⟨(some 3), .p (.mv (.const (.bool false)))⟩])
 (.seq (.ops none [⟨(some 6), .l (.load true 4 (.tmp 1))⟩,
    ⟨(some 7), .call 95 [(.tmp 6)]⟩,
    ⟨none, .e (.store 4 (.tmp 1) (.tmp 7))⟩])
 (.seq (.dops [(none, [⟨(some 8), .p (.fadr 0 (.tmp 1)), 0⟩,
    ⟨(some 9), .l (.load true 2 (.tmp 8)), 1⟩,
    ⟨(some 10), .call 97 [(.tmp 9)], 3⟩,
    ⟨(some 11), .call 96 [(.tmp 10)], 7⟩,
    ⟨(some 12), .p (.fadr 2 (.tmp 1)), 0⟩,
    ⟨(some 13), .l (.load true 2 (.tmp 12)), 16⟩,
    ⟨(some 14), .call 96 [(.tmp 13)], 63⟩,
    ⟨(some 4), .p (.mv (.tmp 11)), 127⟩,
    ⟨(some 5), .p (.mv (.tmp 14)), 255⟩])])
 (.seq (.seq (.seq (.ops none [⟨(some 15), .p (.mv (.tmp 4))⟩,
      ⟨(some 16), .p (.lenS (.tmp 15))⟩,
      ⟨(some 17), .p (.bin .gtr (.tmp 16) (.const (.int .i64 (4000))))⟩,
      ⟨(some 18), .p (.mv (.tmp 17))⟩])
   (.cut [1, 4, 5, 18] c72z7)) c72z5) c72z4)))
theorem k72 : compFn Try.prog 72 [[], [], [], [1, 4, 5, 18], [1, 4, 5, 18, 21], [], [], [], [], [4, 5], [], [4], []] = some (35, c72, [.tmp 2, .tmp 3]) := by kernel_rfl
def K72z0 (_P : Program) (K : Value → Heap → Prop) : Exit → (Nat → Value) → Heap → Prop := bodyP [.tmp 2, .tmp 3] K
def K72z4 (P : Program) (K : Value → Heap → Prop) : Exit → (Nat → Value) → Heap → Prop := thenK (iwpP P c72z4 (K72z0 P K)) (K72z0 P K)
def K72z5 (P : Program) (K : Value → Heap → Prop) : Exit → (Nat → Value) → Heap → Prop := thenK (iwpP P c72z5 (K72z4 P K)) (K72z4 P K)
def p72z7 (P : Program) (K : Value → Heap → Prop) (q1 s4 d5 x18 : Value) (h : Heap) : Prop := CutP (iwpP P c72z7 (K72z5 P K)) [1, 4, 5, 18] [q1, s4, d5, x18] h
def p72z9 (P : Program) (K : Value → Heap → Prop) (q1 s4 d5 x18 x21 : Value) (h : Heap) : Prop := CutP (iwpP P c72z9 (K72z5 P K)) [1, 4, 5, 18, 21] [q1, s4, d5, x18, x21] h
def p72z13 (P : Program) (K : Value → Heap → Prop) (s4 d5 : Value) (h : Heap) : Prop := CutP (iwpP P c72z13 (K72z0 P K)) [4, 5] [s4, d5] h
def p72z16 (P : Program) (K : Value → Heap → Prop) (s4 : Value) (h : Heap) : Prop := CutP (iwpP P c72z16 (K72z0 P K)) [4] [s4] h
theorem q72z9 (P : Program) (K : Value → Heap → Prop) (q1 s4 d5 x18 x21 : Value) (h : Heap) : p72z9 P K q1 s4 d5 x18 x21 h =
  (OP (iPick x18 (.bool true) x21) fun x22 =>
  IfP x22
    (K (.tuple #[(.string ⟨#[]⟩), (.bool false)]) h)
    (OP (iFadr 0 q1) fun x23 =>
    OP (iFadr 0 x23) fun x24 =>
    OP (iLoad false 1 h x24) fun x25 =>
    IfP x25
      (OP (iBin .add (.string ⟨#[45]⟩) s4) fun x27 =>
      p72z13 P K x27 d5 h)
      (p72z13 P K s4 d5 h))) := (CutP_def _ _ _ _).trans (by kernel_rfl)
theorem q72z7 (P : Program) (K : Value → Heap → Prop) (q1 s4 d5 x18 : Value) (h : Heap) : p72z7 P K q1 s4 d5 x18 h =
  (GdP x18 false
    (OP (iLenS d5) fun x20 =>
    OP (iBin .gtr x20 (.int .i64 (4000))) fun x21 =>
    p72z9 P K q1 s4 d5 x18 x21 h)
    (p72z9 P K q1 s4 d5 x18 undef h)) := (CutP_def _ _ _ _).trans (by kernel_rfl)
theorem q72z16 (P : Program) (K : Value → Heap → Prop) (s4 : Value) (h : Heap) : p72z16 P K s4 h =
  (K (.tuple #[s4, (.bool true)]) h) := (CutP_def _ _ _ _).trans (by kernel_rfl)
theorem q72z13 (P : Program) (K : Value → Heap → Prop) (s4 d5 : Value) (h : Heap) : p72z13 P K s4 d5 h =
  (OP (iBin .neq d5 (.string ⟨#[49]⟩)) fun x29 =>
  IfP x29
    (OP (iBin .add (.string ⟨#[47]⟩) d5) fun x32 =>
    OP (iBin .add s4 x32) fun x33 =>
    p72z16 P K x33 h)
    (p72z16 P K s4 h)) := (CutP_def _ _ _ _).trans (by kernel_rfl)
def T72 (P : Program) (K : Value → Heap → Prop) (q0 : Value) (h : Heap) : Prop :=
  OH (iBox 50 h q0) fun q1 h_1 =>
  OP (iLoad true 4 h_1 q1) fun x6 =>
  CallP P 95 [x6] h_1 fun x7 h_2 =>
  OH (oStore 4 h_2 q1 x7) fun _ h_3 =>
  OP (iFadr 0 q1) fun x8 =>
  OP (iLoad true 2 h_3 x8) fun x9 =>
  (True) ∧
  CallP P 97 [x9] h_3 fun x10 h_4 =>
  (True) ∧
  CallP P 96 [x10] h_4 fun x11 h_5 =>
  (True) ∧
  OP (iFadr 2 q1) fun x12 =>
  OP (iLoad true 2 h_5 x12) fun x13 =>
  (iLoad true 2 h_3 x12 = some x13 ∧ iLoad true 2 h_4 x12 = some x13 ∧ True) ∧
  CallP P 96 [x13] h_5 fun x14 h_6 =>
  (True) ∧
  OP (iLenS x11) fun x16 =>
  OP (iBin .gtr x16 (.int .i64 (4000))) fun x17 =>
  p72z7 P K q1 x11 x14 x17 h_6
theorem e72 (P : Program) (K : Value → Heap → Prop) (q0 : Value) (h : Heap) : iwpP P c72 (bodyP [.tmp 2, .tmp 3] K) (frame0 [q0]) h = T72 P K q0 h := by kernel_rfl
theorem f72 {K : Value → Heap → Prop} {q0 : Value} {h : Heap} (H : T72 Try.prog K q0 h) : CallP Try.prog 72 [q0] h K :=
  callP_intro k72 (Nat.le_of_ble_eq_true rfl) ((e72 Try.prog K q0 h).mpr H)
/-! F95: pommel/pommelref01.Lowest -/
noncomputable def c95 : ICode := .seq (.ops none [⟨(some 1), .e (.box 50 (.tmp 0))⟩,
    ⟨(some 2), .e (.alloc 50 [(.bool false), (.slice none 0 0), (.bool false), (.slice none 0 0)])⟩])
 (.seq (.ops none [⟨(some 8), .p (.fadr 0 (.tmp 1))⟩,
    ⟨(some 9), .l (.load true 2 (.tmp 8))⟩,
    ⟨(some 10), .p (.fadr 2 (.tmp 1))⟩,
    ⟨(some 11), .l (.load true 2 (.tmp 10))⟩,
    ⟨(some 12), .call 103 [(.tmp 9), (.tmp 11)]⟩,
    ⟨(some 3), .e (.alloc 46 [(.bool false), (.slice none 0 0)])⟩,
    ⟨none, .e (.store 2 (.tmp 3) (.tmp 12))⟩])
 (.seq (.ops none [⟨(some 14), .p (.fadr 0 (.tmp 1))⟩,
    ⟨(some 15), .l (.load true 2 (.tmp 14))⟩,
    ⟨(some 16), .l (.load true 2 (.tmp 3))⟩,
    ⟨(some 17), .call 113 [(.tmp 15), (.tmp 16)]⟩,
    ⟨(some 13), .p (.mv (.tmp 17))⟩,
    ⟨(some 18), .p (.ext (.tmp 13) 0)⟩,
    ⟨(some 19), .p (.ext (.tmp 13) 1)⟩,
    ⟨(some 4), .e (.alloc 46 [(.bool false), (.slice none 0 0)])⟩,
    ⟨(some 5), .e (.alloc 46 [(.bool false), (.slice none 0 0)])⟩,
    ⟨none, .e (.store 2 (.tmp 4) (.tmp 18))⟩,
    ⟨none, .e (.store 2 (.tmp 5) (.tmp 19))⟩])
 (.seq (.ops none [⟨(some 21), .p (.fadr 2 (.tmp 1))⟩,
    ⟨(some 22), .l (.load true 2 (.tmp 21))⟩,
    ⟨(some 23), .l (.load true 2 (.tmp 3))⟩,
    ⟨(some 24), .call 113 [(.tmp 22), (.tmp 23)]⟩,
    ⟨(some 20), .p (.mv (.tmp 24))⟩,
    ⟨(some 25), .p (.ext (.tmp 20) 0)⟩,
    ⟨(some 26), .p (.ext (.tmp 20) 1)⟩,
    ⟨(some 6), .e (.alloc 46 [(.bool false), (.slice none 0 0)])⟩,
    ⟨(some 7), .e (.alloc 46 [(.bool false), (.slice none 0 0)])⟩,
    ⟨none, .e (.store 2 (.tmp 6) (.tmp 25))⟩,
    ⟨none, .e (.store 2 (.tmp 7) (.tmp 26))⟩])
 (.seq (.ops none [⟨(some 27), .l (.load true 2 (.tmp 4))⟩,
    ⟨(some 28), .l (.load true 2 (.tmp 6))⟩,
    ⟨(some 29), .p (.build [(.bool false), (.slice none 0 0), (.bool false), (.slice none 0 0)] [(0, 2, (.tmp 27)), (2, 2, (.tmp 28))])⟩,
    ⟨none, .e (.store 4 (.tmp 2) (.tmp 29))⟩])
 (.ret)))))
theorem k95 : compFn Try.prog 95 [[], [], [], [], []] = some (30, c95, [.cell true 4 2]) := by kernel_rfl
def K95z0 (_P : Program) (K : Value → Heap → Prop) : Exit → (Nat → Value) → Heap → Prop := bodyP [.cell true 4 2] K
def T95 (P : Program) (K : Value → Heap → Prop) (q0 : Value) (h : Heap) : Prop :=
  OH (iBox 50 h q0) fun q1 h_1 =>
  OH (iAlloc 50 [(.bool false), (.slice none 0 0), (.bool false), (.slice none 0 0)] h_1) fun x2 h_2 =>
  OP (iFadr 0 q1) fun x8 =>
  OP (iLoad true 2 h_2 x8) fun x9 =>
  OP (iFadr 2 q1) fun x10 =>
  OP (iLoad true 2 h_2 x10) fun x11 =>
  CallP P 103 [x9, x11] h_2 fun x12 h_3 =>
  OH (iAlloc 46 [(.bool false), (.slice none 0 0)] h_3) fun g3 h_4 =>
  OH (oStore 2 h_4 g3 x12) fun _ h_5 =>
  OP (iFadr 0 q1) fun x14 =>
  OP (iLoad true 2 h_5 x14) fun x15 =>
  OP (iLoad true 2 h_5 g3) fun x16 =>
  CallP P 113 [x15, x16] h_5 fun x17 h_6 =>
  OP (iExt 0 x17) fun x18 =>
  OP (iExt 1 x17) fun x19 =>
  OH (iAlloc 46 [(.bool false), (.slice none 0 0)] h_6) fun n4 h_7 =>
  OH (iAlloc 46 [(.bool false), (.slice none 0 0)] h_7) fun x5 h_8 =>
  OH (oStore 2 h_8 n4 x18) fun _ h_9 =>
  OH (oStore 2 h_9 x5 x19) fun _ h_10 =>
  OP (iFadr 2 q1) fun x21 =>
  OP (iLoad true 2 h_10 x21) fun x22 =>
  OP (iLoad true 2 h_10 g3) fun x23 =>
  CallP P 113 [x22, x23] h_10 fun x24 h_11 =>
  OP (iExt 0 x24) fun x25 =>
  OP (iExt 1 x24) fun x26 =>
  OH (iAlloc 46 [(.bool false), (.slice none 0 0)] h_11) fun d6 h_12 =>
  OH (iAlloc 46 [(.bool false), (.slice none 0 0)] h_12) fun x7 h_13 =>
  OH (oStore 2 h_13 d6 x25) fun _ h_14 =>
  OH (oStore 2 h_14 x7 x26) fun _ h_15 =>
  OP (iLoad true 2 h_15 n4) fun x27 =>
  OP (iLoad true 2 h_15 d6) fun x28 =>
  OP (iBuild [(.bool false), (.slice none 0 0), (.bool false), (.slice none 0 0)] [(0, 2, x27), (2, 2, x28)]) fun x29 =>
  OH (oStore 4 h_15 x2 x29) fun _ h_16 =>
  OP (iLoad true 4 h_16 x2) fun r0 =>
  K r0 h_16
theorem e95 (P : Program) (K : Value → Heap → Prop) (q0 : Value) (h : Heap) : iwpP P c95 (bodyP [.cell true 4 2] K) (frame0 [q0]) h = T95 P K q0 h := by kernel_rfl
theorem f95 {K : Value → Heap → Prop} {q0 : Value} {h : Heap} (H : T95 Try.prog K q0 h) : CallP Try.prog 95 [q0] h K :=
  callP_intro k95 (Nat.le_of_ble_eq_true rfl) ((e95 Try.prog K q0 h).mpr H)
/-! F96: pommel/pommelref01.figures -/
noncomputable def c96z9 : ICode := .seq (.seq (.ops none [⟨(some 15), .p (.mv (.tmp 4))⟩,
     ⟨(some 16), .p (.bin .geq (.tmp 15) (.const (.int .i64 (0))))⟩])
  (.cond (.tmp 16) (.skip)
  (.exit 0)))
 (.seq (.block 1 (.seq (.ops none [⟨(some 19), .p (.fadr 1 (.tmp 1))⟩,
      ⟨(some 20), .l (.load false 1 (.tmp 19))⟩,
      ⟨(some 21), .p (.mv (.tmp 4))⟩,
      ⟨(some 22), .p (.adrSl 1 (.tmp 20) (.tmp 21))⟩,
      ⟨(some 23), .l (.load false 1 (.tmp 22))⟩,
      ⟨(some 5), .p (.mv (.tmp 23))⟩])
   (.seq (.ops none [⟨(some 24), .p (.mv (.tmp 5))⟩,
      ⟨(some 25), .p (.bin .quo (.tmp 24) (.const (.int .i64 (1000))))⟩,
      ⟨(some 26), .p (.bin .add (.const (.int .i64 (48))) (.tmp 25))⟩,
      ⟨(some 27), .p (.conv .u8 (.tmp 26))⟩,
      ⟨(some 28), .p (.mv (.tmp 5))⟩,
      ⟨(some 29), .p (.bin .quo (.tmp 28) (.const (.int .i64 (100))))⟩,
      ⟨(some 30), .p (.bin .rem (.tmp 29) (.const (.int .i64 (10))))⟩,
      ⟨(some 31), .p (.bin .add (.const (.int .i64 (48))) (.tmp 30))⟩,
      ⟨(some 32), .p (.conv .u8 (.tmp 31))⟩,
      ⟨(some 33), .p (.mv (.tmp 5))⟩,
      ⟨(some 34), .p (.bin .quo (.tmp 33) (.const (.int .i64 (10))))⟩,
      ⟨(some 35), .p (.bin .rem (.tmp 34) (.const (.int .i64 (10))))⟩,
      ⟨(some 36), .p (.bin .add (.const (.int .i64 (48))) (.tmp 35))⟩,
      ⟨(some 37), .p (.conv .u8 (.tmp 36))⟩,
      ⟨(some 38), .p (.mv (.tmp 5))⟩,
      ⟨(some 39), .p (.bin .rem (.tmp 38) (.const (.int .i64 (10))))⟩,
      ⟨(some 40), .p (.bin .add (.const (.int .i64 (48))) (.tmp 39))⟩,
      ⟨(some 41), .p (.conv .u8 (.tmp 40))⟩,
      ⟨(some 42), .e (.mkSl 5 4 [(.int .u8 (0))] [(0, 1, (.tmp 27)), (1, 1, (.tmp 32)), (2, 1, (.tmp 37)), (3, 1, (.tmp 41))])⟩,
      ⟨(some 43), .l (.b2s (.tmp 42))⟩,
      ⟨(some 6), .p (.mv (.tmp 43))⟩])
   (.ops none [⟨(some 44), .p (.mv (.tmp 3))⟩,
     ⟨(some 45), .p (.mv (.tmp 6))⟩,
     ⟨(some 46), .p (.bin .add (.tmp 44) (.tmp 45))⟩,
     ⟨(some 3), .p (.mv (.tmp 46))⟩]))))
 (.ops none [⟨(some 17), .p (.mv (.tmp 4))⟩,
   ⟨(some 18), .p (.bin .sub (.tmp 17) (.const (.int .i64 (1))))⟩,
   ⟨(some 4), .p (.mv (.tmp 18))⟩]))
noncomputable def c96z19 : ICode := .seq (.seq (.ops none [⟨(some 47), .p (.mv (.tmp 3))⟩,
     ⟨(some 48), .p (.idxS (.tmp 47) (.const (.int .i64 (0))))⟩,
     ⟨(some 49), .p (.bin .eql (.tmp 48) (.const (.int .u8 (48))))⟩])
  (.cond (.tmp 49) (.skip)
  (.exit 2)))
 (.block 3 (.ops none [⟨(some 50), .p (.mv (.tmp 3))⟩,
    ⟨(some 51), .p (.slS (.tmp 50) (some (.const (.int .i64 (1)))) none)⟩,
    ⟨(some 3), .p (.mv (.tmp 51))⟩]))
noncomputable def c96z23 : ICode := .seq (.ops none [⟨(some 52), .p (.mv (.tmp 3))⟩,
    ⟨(some 2), .p (.mv (.tmp 52))⟩])
 (.ret)
noncomputable def c96z17 : ICode := .cut [3] c96z23
noncomputable def c96z16 : ICode := .seq (.block 2 (.loop [] [3] c96z19)) c96z17
noncomputable def c96z6 : ICode := .cut [3] c96z16
noncomputable def c96 : ICode := .seq (.ops none [⟨(some 1), .e (.box 46 (.tmp 0))⟩,
    ⟨(some 2), .p (.mv (.const (.string ⟨#[]⟩)))⟩])
 (.seq (.seq (.ops none [⟨(some 7), .p (.fadr 1 (.tmp 1))⟩,
     ⟨(some 8), .l (.load false 1 (.tmp 7))⟩,
     ⟨(some 9), .p (.lenSl (.tmp 8))⟩,
     ⟨(some 10), .p (.bin .eql (.tmp 9) (.const (.int .i64 (0))))⟩])
  (.cond (.tmp 10) (.seq (.ops none [⟨(some 2), .p (.mv (.const (.string ⟨#[48]⟩)))⟩])
   (.ret))
  (.skip)))
 (.seq (.ops none [⟨(some 3), .p (.mv (.const (.string ⟨#[]⟩)))⟩])
 (.seq (.seq (.ops none [⟨(some 11), .p (.fadr 1 (.tmp 1))⟩,
     ⟨(some 12), .l (.load false 1 (.tmp 11))⟩,
     ⟨(some 13), .p (.lenSl (.tmp 12))⟩,
     ⟨(some 14), .p (.bin .sub (.tmp 13) (.const (.int .i64 (1))))⟩,
     ⟨(some 4), .p (.mv (.tmp 14))⟩])
  (.block 0 (.loop [1] [3, 4] c96z9))) c96z6)))
theorem k96 : compFn Try.prog 96 [[], [], [], [], [], [], [1], [3, 4], [], [], [], [], [], [3], [], [3], [], [], [3], []] = some (53, c96, [.tmp 2]) := by kernel_rfl
def K96z0 (_P : Program) (K : Value → Heap → Prop) : Exit → (Nat → Value) → Heap → Prop := bodyP [.tmp 2] K
def K96z6 (P : Program) (K : Value → Heap → Prop) : Exit → (Nat → Value) → Heap → Prop := thenK (iwpP P c96z6 (K96z0 P K)) (K96z0 P K)
def K96z8 (P : Program) (K : Value → Heap → Prop) : Exit → (Nat → Value) → Heap → Prop := inBlockK 0 (K96z6 P K)
def K96z9 (P : Program) (K : Value → Heap → Prop) (z1 : Value) (L1 : List Value → Heap → Prop) : Exit → (Nat → Value) → Heap → Prop := thenK (fun f' h'' => (([1] : List Nat).map f' : List Value) = [z1] ∧ L1 (([3, 4] : List Nat).map f') h'') (K96z8 P K)
def K96z17 (P : Program) (K : Value → Heap → Prop) : Exit → (Nat → Value) → Heap → Prop := thenK (iwpP P c96z17 (K96z0 P K)) (K96z0 P K)
def K96z18 (P : Program) (K : Value → Heap → Prop) : Exit → (Nat → Value) → Heap → Prop := inBlockK 2 (K96z17 P K)
def K96z19 (P : Program) (K : Value → Heap → Prop) (L1 : List Value → Heap → Prop) : Exit → (Nat → Value) → Heap → Prop := thenK (fun f' h'' => (([] : List Nat).map f' : List Value) = [] ∧ L1 (([3] : List Nat).map f') h'') (K96z18 P K)
def p96z9 (P : Program) (K : Value → Heap → Prop) (z1 : Value) (L1 : List Value → Heap → Prop) (xs : List Value) (h : Heap) : Prop := CutP (iwpP P c96z9 (K96z9 P K z1 L1)) ([1] ++ [3, 4]) ([z1] ++ xs) h
def p96z16 (P : Program) (K : Value → Heap → Prop) (s3 : Value) (h : Heap) : Prop := CutP (iwpP P c96z16 (K96z0 P K)) [3] [s3] h
def p96z19 (P : Program) (K : Value → Heap → Prop) (L1 : List Value → Heap → Prop) (xs : List Value) (h : Heap) : Prop := CutP (iwpP P c96z19 (K96z19 P K L1)) ([] ++ [3]) ([] ++ xs) h
def p96z23 (P : Program) (K : Value → Heap → Prop) (s3 : Value) (h : Heap) : Prop := CutP (iwpP P c96z23 (K96z0 P K)) [3] [s3] h
theorem q96z9 (P : Program) (K : Value → Heap → Prop) (z1 : Value) (L1 : List Value → Heap → Prop) (s3 i4 : Value) (h : Heap) : p96z9 P K z1 L1 [s3, i4] h =
  (OP (iBin .geq i4 (.int .i64 (0))) fun x16 =>
  IfP x16
    (OP (iFadr 1 z1) fun x19 =>
    OP (iLoad false 1 h x19) fun x20 =>
    OP (iAdrSl 1 x20 i4) fun x22 =>
    OP (iLoad false 1 h x22) fun x23 =>
    OP (iBin .quo x23 (.int .i64 (1000))) fun x25 =>
    OP (iBin .add (.int .i64 (48)) x25) fun x26 =>
    OP (iConv .u8 x26) fun x27 =>
    OP (iBin .quo x23 (.int .i64 (100))) fun x29 =>
    OP (iBin .rem x29 (.int .i64 (10))) fun x30 =>
    OP (iBin .add (.int .i64 (48)) x30) fun x31 =>
    OP (iConv .u8 x31) fun x32 =>
    OP (iBin .quo x23 (.int .i64 (10))) fun x34 =>
    OP (iBin .rem x34 (.int .i64 (10))) fun x35 =>
    OP (iBin .add (.int .i64 (48)) x35) fun x36 =>
    OP (iConv .u8 x36) fun x37 =>
    OP (iBin .rem x23 (.int .i64 (10))) fun x39 =>
    OP (iBin .add (.int .i64 (48)) x39) fun x40 =>
    OP (iConv .u8 x40) fun x41 =>
    OH (iMkSl 5 4 [(.int .u8 (0))] h [(0, 1, x27), (1, 1, x32), (2, 1, x37), (3, 1, x41)]) fun x42 h_1 =>
    OP (iB2s h_1 x42) fun x43 =>
    OP (iBin .add s3 x43) fun x46 =>
    OP (iBin .sub i4 (.int .i64 (1))) fun x18 =>
    ([z1] : List Value) = [z1] ∧ L1 [x46, x18] h_1)
    (p96z16 P K s3 h)) := (CutP_def _ _ _ _).trans (by kernel_rfl)
theorem q96z19 (P : Program) (K : Value → Heap → Prop) (L1 : List Value → Heap → Prop) (s3 : Value) (h : Heap) : p96z19 P K L1 [s3] h =
  (OP (iIdxS s3 (.int .i64 (0))) fun x48 =>
  OP (iBin .eql x48 (.int .u8 (48))) fun x49 =>
  IfP x49
    (OP (iSlS s3 (some (.int .i64 (1))) none) fun x51 =>
    ([] : List Value) = [] ∧ L1 [x51] h)
    (p96z23 P K s3 h)) := (CutP_def _ _ _ _).trans (by kernel_rfl)
theorem q96z23 (P : Program) (K : Value → Heap → Prop) (s3 : Value) (h : Heap) : p96z23 P K s3 h =
  (K s3 h) := (CutP_def _ _ _ _).trans (by kernel_rfl)
theorem q96z16 (P : Program) (K : Value → Heap → Prop) (s3 : Value) (h : Heap) : p96z16 P K s3 h =
  (LoopP [s3] h fun L1 xs hx =>
  p96z19 P K L1 xs hx) := (CutP_def _ _ _ _).trans (by kernel_rfl)
def T96 (P : Program) (K : Value → Heap → Prop) (z0 : Value) (h : Heap) : Prop :=
  OH (iBox 46 h z0) fun z1 h_1 =>
  OP (iFadr 1 z1) fun x7 =>
  OP (iLoad false 1 h_1 x7) fun x8 =>
  OP (iLenSl x8) fun x9 =>
  OP (iBin .eql x9 (.int .i64 (0))) fun x10 =>
  IfP x10
    (K (.string ⟨#[48]⟩) h_1)
    (OP (iFadr 1 z1) fun x11 =>
    OP (iLoad false 1 h_1 x11) fun x12 =>
    OP (iLenSl x12) fun x13 =>
    OP (iBin .sub x13 (.int .i64 (1))) fun x14 =>
    LoopP [(.string ⟨#[]⟩), x14] h_1 fun L1 xs hx =>
    p96z9 P K z1 L1 xs hx)
theorem e96 (P : Program) (K : Value → Heap → Prop) (z0 : Value) (h : Heap) : iwpP P c96 (bodyP [.tmp 2] K) (frame0 [z0]) h = T96 P K z0 h := by kernel_rfl
theorem f96 {K : Value → Heap → Prop} {z0 : Value} {h : Heap} (H : T96 Try.prog K z0 h) : CallP Try.prog 96 [z0] h K :=
  callP_intro k96 (Nat.le_of_ble_eq_true rfl) ((e96 Try.prog K z0 h).mpr H)
/-! F97: pommel/pommelref01.Abs -/
noncomputable def c97 : ICode := .seq (.ops none [⟨(some 1), .e (.box 46 (.tmp 0))⟩,
    ⟨(some 2), .e (.alloc 46 [(.bool false), (.slice none 0 0)])⟩])
 (.seq (.ops none [⟨(some 3), .p (.fadr 0 (.tmp 1))⟩,
    ⟨none, .e (.store 1 (.tmp 3) (.const (.bool false)))⟩])
 (.seq (.ops none [⟨(some 4), .l (.load true 2 (.tmp 1))⟩,
    ⟨none, .e (.store 2 (.tmp 2) (.tmp 4))⟩])
 (.ret)))
theorem k97 : compFn Try.prog 97 [[], [], []] = some (5, c97, [.cell true 2 2]) := by kernel_rfl
def K97z0 (_P : Program) (K : Value → Heap → Prop) : Exit → (Nat → Value) → Heap → Prop := bodyP [.cell true 2 2] K
def T97 (P : Program) (K : Value → Heap → Prop) (a0 : Value) (h : Heap) : Prop :=
  OH (iBox 46 h a0) fun a1 h_1 =>
  OH (iAlloc 46 [(.bool false), (.slice none 0 0)] h_1) fun x2 h_2 =>
  OP (iFadr 0 a1) fun x3 =>
  OH (oStore 1 h_2 x3 (.bool false)) fun _ h_3 =>
  OP (iLoad true 2 h_3 a1) fun x4 =>
  OH (oStore 2 h_3 x2 x4) fun _ h_4 =>
  OP (iLoad true 2 h_4 x2) fun r0 =>
  K r0 h_4
theorem e97 (P : Program) (K : Value → Heap → Prop) (a0 : Value) (h : Heap) : iwpP P c97 (bodyP [.cell true 2 2] K) (frame0 [a0]) h = T97 P K a0 h := by kernel_rfl
theorem f97 {K : Value → Heap → Prop} {a0 : Value} {h : Heap} (H : T97 Try.prog K a0 h) : CallP Try.prog 97 [a0] h K :=
  callP_intro k97 (Nat.le_of_ble_eq_true rfl) ((e97 Try.prog K a0 h).mpr H)
/-! F103: pommel/pommelref01.Gcd -/
noncomputable def c103z5 : ICode := .seq (.seq (.ops none [⟨(some 11), .p (.fadr 1 (.tmp 3))⟩,
     ⟨(some 12), .l (.load false 1 (.tmp 11))⟩,
     ⟨(some 13), .p (.lenSl (.tmp 12))⟩,
     ⟨(some 14), .p (.bin .gtr (.tmp 13) (.const (.int .i64 (0))))⟩])
  (.cond (.tmp 14) (.skip)
  (.exit 0)))
 (.block 1 (.seq (.ops none [⟨(some 16), .l (.load true 2 (.tmp 2))⟩,
     ⟨(some 17), .l (.load true 2 (.tmp 3))⟩,
     ⟨(some 18), .call 113 [(.tmp 16), (.tmp 17)]⟩,
     ⟨(some 15), .p (.mv (.tmp 18))⟩,
     ⟨(some 19), .p (.ext (.tmp 15) 0)⟩,
     ⟨(some 20), .p (.ext (.tmp 15) 1)⟩,
     ⟨(some 5), .e (.alloc 46 [(.bool false), (.slice none 0 0)])⟩,
     ⟨(some 6), .e (.alloc 46 [(.bool false), (.slice none 0 0)])⟩,
     ⟨none, .e (.store 2 (.tmp 5) (.tmp 19))⟩,
     ⟨none, .e (.store 2 (.tmp 6) (.tmp 20))⟩])
  (.dops [(none, [⟨(some 21), .l (.load true 2 (.tmp 3)), 0⟩,
    ⟨(some 22), .l (.load true 2 (.tmp 6)), 0⟩,
    ⟨none, .e (.store 2 (.tmp 2) (.tmp 21)), 1⟩,
    ⟨none, .e (.store 2 (.tmp 3) (.tmp 22)), 7⟩])])))
noncomputable def c103z10 : ICode := .seq (.ops none [⟨(some 23), .l (.load true 2 (.tmp 2))⟩,
    ⟨none, .e (.store 2 (.tmp 4) (.tmp 23))⟩])
 (.ret)
noncomputable def c103z3 : ICode := .cut [2, 4] c103z10
noncomputable def c103 : ICode := .seq (.ops none [⟨(some 2), .e (.box 46 (.tmp 0))⟩,
    ⟨(some 3), .e (.box 46 (.tmp 1))⟩,
    ⟨(some 4), .e (.alloc 46 [(.bool false), (.slice none 0 0)])⟩])
 (.seq (.dops [(none, [⟨(some 7), .l (.load true 2 (.tmp 2)), 0⟩,
    ⟨(some 8), .call 97 [(.tmp 7)], 1⟩,
    ⟨(some 9), .l (.load true 2 (.tmp 3)), 0⟩,
    ⟨(some 10), .call 97 [(.tmp 9)], 7⟩,
    ⟨none, .e (.store 2 (.tmp 2) (.tmp 8)), 15⟩,
    ⟨none, .e (.store 2 (.tmp 3) (.tmp 10)), 31⟩])])
 (.seq (.block 0 (.loop [2, 3, 4] [] c103z5)) c103z3))
theorem k103 : compFn Try.prog 103 [[], [], [2, 3, 4], [], [], [], [], [2, 4], []] = some (24, c103, [.cell true 2 4]) := by kernel_rfl
def K103z0 (_P : Program) (K : Value → Heap → Prop) : Exit → (Nat → Value) → Heap → Prop := bodyP [.cell true 2 4] K
def K103z3 (P : Program) (K : Value → Heap → Prop) : Exit → (Nat → Value) → Heap → Prop := thenK (iwpP P c103z3 (K103z0 P K)) (K103z0 P K)
def K103z4 (P : Program) (K : Value → Heap → Prop) : Exit → (Nat → Value) → Heap → Prop := inBlockK 0 (K103z3 P K)
def K103z5 (P : Program) (K : Value → Heap → Prop) (a2 b3 x4 : Value) (L1 : List Value → Heap → Prop) : Exit → (Nat → Value) → Heap → Prop := thenK (fun f' h'' => (([2, 3, 4] : List Nat).map f' : List Value) = [a2, b3, x4] ∧ L1 (([] : List Nat).map f') h'') (K103z4 P K)
def p103z5 (P : Program) (K : Value → Heap → Prop) (a2 b3 x4 : Value) (L1 : List Value → Heap → Prop) (xs : List Value) (h : Heap) : Prop := CutP (iwpP P c103z5 (K103z5 P K a2 b3 x4 L1)) ([2, 3, 4] ++ []) ([a2, b3, x4] ++ xs) h
def p103z10 (P : Program) (K : Value → Heap → Prop) (a2 x4 : Value) (h : Heap) : Prop := CutP (iwpP P c103z10 (K103z0 P K)) [2, 4] [a2, x4] h
theorem q103z5 (P : Program) (K : Value → Heap → Prop) (a2 b3 x4 : Value) (L1 : List Value → Heap → Prop) (h : Heap) : p103z5 P K a2 b3 x4 L1 [] h =
  (OP (iFadr 1 b3) fun x11 =>
  OP (iLoad false 1 h x11) fun x12 =>
  OP (iLenSl x12) fun x13 =>
  OP (iBin .gtr x13 (.int .i64 (0))) fun x14 =>
  IfP x14
    (OP (iLoad true 2 h a2) fun x16 =>
    OP (iLoad true 2 h b3) fun x17 =>
    CallP P 113 [x16, x17] h fun x18 h_1 =>
    OP (iExt 0 x18) fun x19 =>
    OP (iExt 1 x18) fun x20 =>
    OH (iAlloc 46 [(.bool false), (.slice none 0 0)] h_1) fun x5 h_2 =>
    OH (iAlloc 46 [(.bool false), (.slice none 0 0)] h_2) fun rest6 h_3 =>
    OH (oStore 2 h_3 x5 x19) fun _ h_4 =>
    OH (oStore 2 h_4 rest6 x20) fun _ h_5 =>
    OP (iLoad true 2 h_5 b3) fun x21 =>
    (True) ∧
    OP (iLoad true 2 h_5 rest6) fun x22 =>
    (True) ∧
    OH (oStore 2 h_5 a2 x21) fun _ h_6 =>
    (iLoad true 2 h_6 rest6 = some x22 ∧ True) ∧
    OH (oStore 2 h_6 b3 x22) fun _ h_7 =>
    (True) ∧
    ([a2, b3, x4] : List Value) = [a2, b3, x4] ∧ L1 [] h_7)
    (p103z10 P K a2 x4 h)) := (CutP_def _ _ _ _).trans (by kernel_rfl)
theorem q103z10 (P : Program) (K : Value → Heap → Prop) (a2 x4 : Value) (h : Heap) : p103z10 P K a2 x4 h =
  (OP (iLoad true 2 h a2) fun x23 =>
  OH (oStore 2 h x4 x23) fun _ h_1 =>
  OP (iLoad true 2 h_1 x4) fun r0 =>
  K r0 h_1) := (CutP_def _ _ _ _).trans (by kernel_rfl)
def T103 (P : Program) (K : Value → Heap → Prop) (a0 b1 : Value) (h : Heap) : Prop :=
  OH (iBox 46 h a0) fun a2 h_1 =>
  OH (iBox 46 h_1 b1) fun b3 h_2 =>
  OH (iAlloc 46 [(.bool false), (.slice none 0 0)] h_2) fun x4 h_3 =>
  OP (iLoad true 2 h_3 a2) fun x7 =>
  (True) ∧
  CallP P 97 [x7] h_3 fun x8 h_4 =>
  (True) ∧
  OP (iLoad true 2 h_4 b3) fun x9 =>
  (iLoad true 2 h_3 b3 = some x9 ∧ True) ∧
  CallP P 97 [x9] h_4 fun x10 h_5 =>
  (True) ∧
  OH (oStore 2 h_5 a2 x8) fun _ h_6 =>
  (True) ∧
  OH (oStore 2 h_6 b3 x10) fun _ h_7 =>
  (True) ∧
  LoopP [] h_7 fun L1 xs hx =>
  p103z5 P K a2 b3 x4 L1 xs hx
theorem e103 (P : Program) (K : Value → Heap → Prop) (a0 b1 : Value) (h : Heap) : iwpP P c103 (bodyP [.cell true 2 4] K) (frame0 [a0, b1]) h = T103 P K a0 b1 h := by kernel_rfl
theorem f103 {K : Value → Heap → Prop} {a0 b1 : Value} {h : Heap} (H : T103 Try.prog K a0 b1 h) : CallP Try.prog 103 [a0, b1] h K :=
  callP_intro k103 (Nat.le_of_ble_eq_true rfl) ((e103 Try.prog K a0 b1 h).mpr H)
/-! F113: pommel/pommelref01.DivMod -/
noncomputable def c113z15 : ICode := .seq (.seq (.ops none [⟨(some 38), .p (.mv (.tmp 10))⟩,
     ⟨(some 39), .p (.mv (.tmp 9))⟩,
     ⟨(some 40), .p (.bin .sub (.tmp 38) (.tmp 39))⟩,
     ⟨(some 41), .p (.bin .gtr (.tmp 40) (.const (.int .i64 (1))))⟩])
  (.cond (.tmp 41) (.skip)
  (.exit 2)))
 (.block 3 (.seq (.ops none [⟨(some 42), .p (.mv (.tmp 9))⟩,
     ⟨(some 43), .p (.mv (.tmp 10))⟩,
     ⟨(some 44), .p (.bin .add (.tmp 42) (.tmp 43))⟩,
     ⟨(some 45), .p (.bin .quo (.tmp 44) (.const (.int .i64 (2))))⟩,
     ⟨(some 11), .p (.mv (.tmp 45))⟩])
  (.seq (.ops none [⟨(some 46), .p (.fadr 1 (.tmp 3))⟩,
     ⟨(some 47), .l (.load false 1 (.tmp 46))⟩,
     ⟨(some 48), .p (.mv (.tmp 11))⟩,
     ⟨(some 49), .call 125 [(.tmp 47), (.tmp 48)]⟩,
     ⟨(some 50), .p (.mv (.tmp 7))⟩,
     ⟨(some 51), .call 100 [(.tmp 49), (.tmp 50)]⟩,
     ⟨(some 52), .p (.bin .leq (.tmp 51) (.const (.int .i64 (0))))⟩])
  (.cond (.tmp 52) (.ops none [⟨(some 53), .p (.mv (.tmp 11))⟩,
     ⟨(some 9), .p (.mv (.tmp 53))⟩])
  (.ops none [⟨(some 54), .p (.mv (.tmp 11))⟩,
     ⟨(some 10), .p (.mv (.tmp 54))⟩])))))
noncomputable def c113z21 : ICode := .seq (.ops none [⟨(some 55), .p (.mv (.tmp 6))⟩,
    ⟨(some 56), .p (.mv (.tmp 8))⟩,
    ⟨(some 57), .p (.mv (.tmp 9))⟩,
    ⟨(some 58), .p (.adrSl 1 (.tmp 55) (.tmp 56))⟩,
    ⟨none, .e (.store 1 (.tmp 58) (.tmp 57))⟩])
 (.ops none [⟨(some 59), .p (.mv (.tmp 7))⟩,
   ⟨(some 60), .p (.fadr 1 (.tmp 3))⟩,
   ⟨(some 61), .l (.load false 1 (.tmp 60))⟩,
   ⟨(some 62), .p (.mv (.tmp 9))⟩,
   ⟨(some 63), .call 125 [(.tmp 61), (.tmp 62)]⟩,
   ⟨(some 64), .call 101 [(.tmp 59), (.tmp 63)]⟩,
   ⟨(some 65), .p (.build [(.bool false), (.slice none 0 0)] [(1, 1, (.tmp 64))])⟩,
   ⟨(some 66), .call 98 [(.tmp 65)]⟩,
   ⟨(some 67), .p (.fld false 1 1 (.tmp 66))⟩,
   ⟨(some 7), .p (.mv (.tmp 67))⟩])
noncomputable def c113z13 : ICode := .cut [2, 3, 4, 5, 6, 7, 8, 9] c113z21
noncomputable def c113z23 : ICode := .ops none [⟨(some 25), .p (.mv (.tmp 8))⟩,
   ⟨(some 26), .p (.bin .sub (.tmp 25) (.const (.int .i64 (1))))⟩,
   ⟨(some 8), .p (.mv (.tmp 26))⟩]
noncomputable def c113z9 : ICode := .cut [2, 3, 4, 5, 6, 7, 8] c113z23
noncomputable def c113z6 : ICode := .seq (.seq (.ops none [⟨(some 23), .p (.mv (.tmp 8))⟩,
     ⟨(some 24), .p (.bin .geq (.tmp 23) (.const (.int .i64 (0))))⟩])
  (.cond (.tmp 24) (.skip)
  (.exit 0)))
 (.seq (.block 1 (.seq (.ops none [⟨(some 27), .p (.fadr 1 (.tmp 2))⟩,
      ⟨(some 28), .l (.load false 1 (.tmp 27))⟩,
      ⟨(some 29), .p (.mv (.tmp 8))⟩,
      ⟨(some 30), .p (.adrSl 1 (.tmp 28) (.tmp 29))⟩,
      ⟨(some 31), .l (.load false 1 (.tmp 30))⟩,
      ⟨(some 32), .e (.mkSl 3 1 [(.int .i64 (0))] [(0, 1, (.tmp 31))])⟩,
      ⟨(some 33), .p (.mv (.tmp 7))⟩,
      ⟨(some 34), .e (.app 3 1 8 (.tmp 32) (.tmp 33))⟩,
      ⟨(some 35), .p (.build [(.bool false), (.slice none 0 0)] [(1, 1, (.tmp 34))])⟩,
      ⟨(some 36), .call 98 [(.tmp 35)]⟩,
      ⟨(some 37), .p (.fld false 1 1 (.tmp 36))⟩,
      ⟨(some 7), .p (.mv (.tmp 37))⟩])
   (.seq (.ops none [⟨(some 9), .p (.mv (.const (.int .i64 (0))))⟩,
      ⟨(some 10), .p (.mv (.const (.int .i64 (10000))))⟩])
   (.seq (.block 2 (.loop [2, 3, 4, 5, 6, 7, 8] [9, 10] c113z15)) c113z13)))) c113z9)
noncomputable def c113z31 : ICode := .ops none [⟨(some 83), .p (.pick (.tmp 78) (.tmp 82) (.const (.bool false)))⟩]
noncomputable def c113z29 : ICode := .seq (.ops (some (78, true)) [⟨(some 79), .p (.fadr 1 (.tmp 13))⟩,
    ⟨(some 80), .l (.load false 1 (.tmp 79))⟩,
    ⟨(some 81), .p (.lenSl (.tmp 80))⟩,
    ⟨(some 82), .p (.bin .gtr (.tmp 81) (.const (.int .i64 (0))))⟩])
 (.cut [3, 4, 5, 12, 13, 78, 82] c113z31)
noncomputable def c113z27 : ICode := .cond (.tmp 83) (.seq (.dops [(none, [⟨(some 84), .l (.load true 2 (.tmp 12)), 0⟩,
     ⟨(some 85), .call 29 [(.const (.int .i64 (1)))], 0⟩,
     ⟨(some 86), .call 105 [(.tmp 84), (.tmp 85)], 3⟩,
     ⟨(some 87), .l (.load true 2 (.tmp 3)), 0⟩,
     ⟨(some 88), .l (.load true 2 (.tmp 13)), 0⟩,
     ⟨(some 89), .call 105 [(.tmp 87), (.tmp 88)], 31⟩,
     ⟨none, .e (.store 2 (.tmp 4) (.tmp 86)), 63⟩,
     ⟨none, .e (.store 2 (.tmp 5) (.tmp 89)), 127⟩])])
  (.ret))
 (.skip)
noncomputable def c113z26 : ICode := .seq (.dops [(none, [⟨(some 90), .l (.load true 2 (.tmp 12)), 0⟩,
    ⟨(some 91), .l (.load true 2 (.tmp 13)), 0⟩,
    ⟨none, .e (.store 2 (.tmp 4) (.tmp 90)), 1⟩,
    ⟨none, .e (.store 2 (.tmp 5) (.tmp 91)), 7⟩])])
 (.ret)
noncomputable def c113z24 : ICode := .seq (.ops none [⟨(some 68), .p (.fadr 0 (.tmp 2))⟩,
    ⟨(some 69), .l (.load false 1 (.tmp 68))⟩,
    ⟨(some 70), .p (.mv (.tmp 6))⟩,
    ⟨(some 71), .p (.build [(.bool false), (.slice none 0 0)] [(0, 1, (.tmp 69)), (1, 1, (.tmp 70))])⟩,
    ⟨(some 72), .call 98 [(.tmp 71)]⟩,
    ⟨(some 73), .p (.mv (.tmp 7))⟩,
    ⟨(some 74), .p (.build [(.bool false), (.slice none 0 0)] [(1, 1, (.tmp 73))])⟩,
    ⟨(some 75), .call 98 [(.tmp 74)]⟩,
    ⟨(some 12), .e (.alloc 46 [(.bool false), (.slice none 0 0)])⟩,
    ⟨(some 13), .e (.alloc 46 [(.bool false), (.slice none 0 0)])⟩,
    ⟨none, .e (.store 2 (.tmp 12) (.tmp 72))⟩,
    ⟨none, .e (.store 2 (.tmp 13) (.tmp 75))⟩])
 (.seq (.seq (.seq (.ops none [⟨(some 76), .p (.fadr 0 (.tmp 2))⟩,
      ⟨(some 77), .l (.load false 1 (.tmp 76))⟩,
      ⟨(some 78), .p (.mv (.tmp 77))⟩])
   (.cut [3, 4, 5, 12, 13, 78] c113z29)) c113z27) c113z26)
noncomputable def c113z3 : ICode := .cut [2, 3, 4, 5, 6, 7] c113z24
noncomputable def c113 : ICode := .seq (.ops none [⟨(some 2), .e (.box 46 (.tmp 0))⟩,
    ⟨(some 3), .e (.box 46 (.tmp 1))⟩,
    ⟨(some 4), .e (.alloc 46 [(.bool false), (.slice none 0 0)])⟩,
    ⟨(some 5), .e (.alloc 46 [(.bool false), (.slice none 0 0)])⟩])
 (.seq (.ops none [⟨(some 14), .p (.fadr 1 (.tmp 2))⟩,
    ⟨(some 15), .l (.load false 1 (.tmp 14))⟩,
    ⟨(some 16), .p (.lenSl (.tmp 15))⟩,
    ⟨(some 17), .e (.make 3 8 [(.int .i64 (0))] (.tmp 16) (.tmp 16))⟩,
    ⟨(some 18), .e (.mkSl 3 0 [(.int .i64 (0))] [])⟩,
    ⟨(some 6), .p (.mv (.tmp 17))⟩,
    ⟨(some 7), .p (.mv (.tmp 18))⟩])
 (.seq (.seq (.ops none [⟨(some 19), .p (.fadr 1 (.tmp 2))⟩,
     ⟨(some 20), .l (.load false 1 (.tmp 19))⟩,
     ⟨(some 21), .p (.lenSl (.tmp 20))⟩,
     ⟨(some 22), .p (.bin .sub (.tmp 21) (.const (.int .i64 (1))))⟩,
     ⟨(some 8), .p (.mv (.tmp 22))⟩])
  (.block 0 (.loop [2, 3, 4, 5, 6] [7, 8] c113z6))) c113z3))
theorem k113 : compFn Try.prog 113 [[], [], [], [2, 3, 4, 5, 6], [7, 8], [], [], [], [], [2, 3, 4, 5, 6, 7, 8], [9, 10], [], [], [], [], [2, 3, 4, 5, 6, 7, 8, 9], [], [2, 3, 4, 5, 6, 7, 8], [2, 3, 4, 5, 6, 7], [], [3, 4, 5, 12, 13, 78], [3, 4, 5, 12, 13, 78, 82], [], [], [], []] = some (92, c113, [.cell true 2 4, .cell true 2 5]) := by kernel_rfl
def K113z0 (_P : Program) (K : Value → Heap → Prop) : Exit → (Nat → Value) → Heap → Prop := bodyP [.cell true 2 4, .cell true 2 5] K
def K113z3 (P : Program) (K : Value → Heap → Prop) : Exit → (Nat → Value) → Heap → Prop := thenK (iwpP P c113z3 (K113z0 P K)) (K113z0 P K)
def K113z5 (P : Program) (K : Value → Heap → Prop) : Exit → (Nat → Value) → Heap → Prop := inBlockK 0 (K113z3 P K)
def K113z6 (P : Program) (K : Value → Heap → Prop) (a2 b3 x4 x5 q6 : Value) (L1 : List Value → Heap → Prop) : Exit → (Nat → Value) → Heap → Prop := thenK (fun f' h'' => (([2, 3, 4, 5, 6] : List Nat).map f' : List Value) = [a2, b3, x4, x5, q6] ∧ L1 (([7, 8] : List Nat).map f') h'') (K113z5 P K)
def K113z9 (P : Program) (K : Value → Heap → Prop) (a2 b3 x4 x5 q6 : Value) (L1 : List Value → Heap → Prop) : Exit → (Nat → Value) → Heap → Prop := thenK (iwpP P c113z9 (K113z6 P K a2 b3 x4 x5 q6 L1)) (K113z6 P K a2 b3 x4 x5 q6 L1)
def K113z10 (P : Program) (K : Value → Heap → Prop) (a2 b3 x4 x5 q6 : Value) (L1 : List Value → Heap → Prop) : Exit → (Nat → Value) → Heap → Prop := inBlockK 1 (K113z9 P K a2 b3 x4 x5 q6 L1)
def K113z13 (P : Program) (K : Value → Heap → Prop) (a2 b3 x4 x5 q6 : Value) (L1 : List Value → Heap → Prop) : Exit → (Nat → Value) → Heap → Prop := thenK (iwpP P c113z13 (K113z10 P K a2 b3 x4 x5 q6 L1)) (K113z10 P K a2 b3 x4 x5 q6 L1)
def K113z14 (P : Program) (K : Value → Heap → Prop) (a2 b3 x4 x5 q6 : Value) (L1 : List Value → Heap → Prop) : Exit → (Nat → Value) → Heap → Prop := inBlockK 2 (K113z13 P K a2 b3 x4 x5 q6 L1)
def K113z15 (P : Program) (K : Value → Heap → Prop) (a2 b3 x4 x5 q6 rest7 i8 : Value) (L1 L2 : List Value → Heap → Prop) : Exit → (Nat → Value) → Heap → Prop := thenK (fun f' h'' => (([2, 3, 4, 5, 6, 7, 8] : List Nat).map f' : List Value) = [a2, b3, x4, x5, q6, rest7, i8] ∧ L2 (([9, 10] : List Nat).map f') h'') (K113z14 P K a2 b3 x4 x5 q6 L1)
def K113z26 (P : Program) (K : Value → Heap → Prop) : Exit → (Nat → Value) → Heap → Prop := thenK (iwpP P c113z26 (K113z0 P K)) (K113z0 P K)
def K113z27 (P : Program) (K : Value → Heap → Prop) : Exit → (Nat → Value) → Heap → Prop := thenK (iwpP P c113z27 (K113z26 P K)) (K113z26 P K)
def p113z6 (P : Program) (K : Value → Heap → Prop) (a2 b3 x4 x5 q6 : Value) (L1 : List Value → Heap → Prop) (xs : List Value) (h : Heap) : Prop := CutP (iwpP P c113z6 (K113z6 P K a2 b3 x4 x5 q6 L1)) ([2, 3, 4, 5, 6] ++ [7, 8]) ([a2, b3, x4, x5, q6] ++ xs) h
def p113z15 (P : Program) (K : Value → Heap → Prop) (a2 b3 x4 x5 q6 rest7 i8 : Value) (L1 L2 : List Value → Heap → Prop) (xs : List Value) (h : Heap) : Prop := CutP (iwpP P c113z15 (K113z15 P K a2 b3 x4 x5 q6 rest7 i8 L1 L2)) ([2, 3, 4, 5, 6, 7, 8] ++ [9, 10]) ([a2, b3, x4, x5, q6, rest7, i8] ++ xs) h
def p113z21 (P : Program) (K : Value → Heap → Prop) (a2 b3 x4 x5 q6 rest7 i8 low9 : Value) (L1 : List Value → Heap → Prop) (h : Heap) : Prop := CutP (iwpP P c113z21 (K113z10 P K a2 b3 x4 x5 q6 L1)) [2, 3, 4, 5, 6, 7, 8, 9] [a2, b3, x4, x5, q6, rest7, i8, low9] h
def p113z23 (P : Program) (K : Value → Heap → Prop) (a2 b3 x4 x5 q6 rest7 i8 : Value) (L1 : List Value → Heap → Prop) (h : Heap) : Prop := CutP (iwpP P c113z23 (K113z6 P K a2 b3 x4 x5 q6 L1)) [2, 3, 4, 5, 6, 7, 8] [a2, b3, x4, x5, q6, rest7, i8] h
def p113z24 (P : Program) (K : Value → Heap → Prop) (a2 b3 x4 x5 q6 rest7 : Value) (h : Heap) : Prop := CutP (iwpP P c113z24 (K113z0 P K)) [2, 3, 4, 5, 6, 7] [a2, b3, x4, x5, q6, rest7] h
def p113z29 (P : Program) (K : Value → Heap → Prop) (b3 x4 x5 quotient12 left13 x78 : Value) (h : Heap) : Prop := CutP (iwpP P c113z29 (K113z27 P K)) [3, 4, 5, 12, 13, 78] [b3, x4, x5, quotient12, left13, x78] h
def p113z31 (P : Program) (K : Value → Heap → Prop) (b3 x4 x5 quotient12 left13 x78 x82 : Value) (h : Heap) : Prop := CutP (iwpP P c113z31 (K113z27 P K)) [3, 4, 5, 12, 13, 78, 82] [b3, x4, x5, quotient12, left13, x78, x82] h
theorem q113z15 (P : Program) (K : Value → Heap → Prop) (a2 b3 x4 x5 q6 rest7 i8 : Value) (L1 L2 : List Value → Heap → Prop) (low9 high10 : Value) (h : Heap) : p113z15 P K a2 b3 x4 x5 q6 rest7 i8 L1 L2 [low9, high10] h =
  (OP (iBin .sub high10 low9) fun x40 =>
  OP (iBin .gtr x40 (.int .i64 (1))) fun x41 =>
  IfP x41
    (OP (iBin .add low9 high10) fun x44 =>
    OP (iBin .quo x44 (.int .i64 (2))) fun x45 =>
    OP (iFadr 1 b3) fun x46 =>
    OP (iLoad false 1 h x46) fun x47 =>
    CallP P 125 [x47, x45] h fun x49 h_1 =>
    CallP P 100 [x49, rest7] h_1 fun x51 h_2 =>
    OP (iBin .leq x51 (.int .i64 (0))) fun x52 =>
    IfP x52
      (([a2, b3, x4, x5, q6, rest7, i8] : List Value) = [a2, b3, x4, x5, q6, rest7, i8] ∧ L2 [x45, high10] h_2)
      (([a2, b3, x4, x5, q6, rest7, i8] : List Value) = [a2, b3, x4, x5, q6, rest7, i8] ∧ L2 [low9, x45] h_2))
    (p113z21 P K a2 b3 x4 x5 q6 rest7 i8 low9 L1 h)) := (CutP_def _ _ _ _).trans (by kernel_rfl)
theorem q113z21 (P : Program) (K : Value → Heap → Prop) (a2 b3 x4 x5 q6 rest7 i8 low9 : Value) (L1 : List Value → Heap → Prop) (h : Heap) : p113z21 P K a2 b3 x4 x5 q6 rest7 i8 low9 L1 h =
  (OP (iAdrSl 1 q6 i8) fun x58 =>
  OH (oStore 1 h x58 low9) fun _ h_1 =>
  OP (iFadr 1 b3) fun x60 =>
  OP (iLoad false 1 h_1 x60) fun x61 =>
  CallP P 125 [x61, low9] h_1 fun x63 h_2 =>
  CallP P 101 [rest7, x63] h_2 fun x64 h_3 =>
  OP (iBuild [(.bool false), (.slice none 0 0)] [(1, 1, x64)]) fun x65 =>
  CallP P 98 [x65] h_3 fun x66 h_4 =>
  OP (iFld false 1 1 x66) fun x67 =>
  p113z23 P K a2 b3 x4 x5 q6 x67 i8 L1 h_4) := (CutP_def _ _ _ _).trans (by kernel_rfl)
theorem q113z23 (P : Program) (K : Value → Heap → Prop) (a2 b3 x4 x5 q6 rest7 i8 : Value) (L1 : List Value → Heap → Prop) (h : Heap) : p113z23 P K a2 b3 x4 x5 q6 rest7 i8 L1 h =
  (OP (iBin .sub i8 (.int .i64 (1))) fun x26 =>
  ([a2, b3, x4, x5, q6] : List Value) = [a2, b3, x4, x5, q6] ∧ L1 [rest7, x26] h) := (CutP_def _ _ _ _).trans (by kernel_rfl)
theorem q113z6 (P : Program) (K : Value → Heap → Prop) (a2 b3 x4 x5 q6 : Value) (L1 : List Value → Heap → Prop) (rest7 i8 : Value) (h : Heap) : p113z6 P K a2 b3 x4 x5 q6 L1 [rest7, i8] h =
  (OP (iBin .geq i8 (.int .i64 (0))) fun x24 =>
  IfP x24
    (OP (iFadr 1 a2) fun x27 =>
    OP (iLoad false 1 h x27) fun x28 =>
    OP (iAdrSl 1 x28 i8) fun x30 =>
    OP (iLoad false 1 h x30) fun x31 =>
    OH (iMkSl 3 1 [(.int .i64 (0))] h [(0, 1, x31)]) fun x32 h_1 =>
    OH (iApp 3 1 8 h_1 x32 rest7) fun x34 h_2 =>
    OP (iBuild [(.bool false), (.slice none 0 0)] [(1, 1, x34)]) fun x35 =>
    CallP P 98 [x35] h_2 fun x36 h_3 =>
    OP (iFld false 1 1 x36) fun x37 =>
    LoopP [(.int .i64 (0)), (.int .i64 (10000))] h_3 fun L2 xs hx =>
    p113z15 P K a2 b3 x4 x5 q6 x37 i8 L1 L2 xs hx)
    (p113z24 P K a2 b3 x4 x5 q6 rest7 h)) := (CutP_def _ _ _ _).trans (by kernel_rfl)
theorem q113z31 (P : Program) (K : Value → Heap → Prop) (b3 x4 x5 quotient12 left13 x78 x82 : Value) (h : Heap) : p113z31 P K b3 x4 x5 quotient12 left13 x78 x82 h =
  (OP (iPick x78 x82 (.bool false)) fun x83 =>
  IfP x83
    (OP (iLoad true 2 h quotient12) fun x84 =>
    (True) ∧
    CallP P 29 [(.int .i64 (1))] h fun x85 h_1 =>
    (iLoad true 2 h_1 quotient12 = some x84 ∧ True) ∧
    CallP P 105 [x84, x85] h_1 fun x86 h_2 =>
    (True) ∧
    OP (iLoad true 2 h_2 b3) fun x87 =>
    (iLoad true 2 h b3 = some x87 ∧ iLoad true 2 h_1 b3 = some x87 ∧ True) ∧
    OP (iLoad true 2 h_2 left13) fun x88 =>
    (iLoad true 2 h left13 = some x88 ∧ iLoad true 2 h_1 left13 = some x88 ∧ True) ∧
    CallP P 105 [x87, x88] h_2 fun x89 h_3 =>
    (True) ∧
    OH (oStore 2 h_3 x4 x86) fun _ h_4 =>
    (True) ∧
    OH (oStore 2 h_4 x5 x89) fun _ h_5 =>
    (True) ∧
    OP (iLoad true 2 h_5 x4) fun r0 =>
    OP (iLoad true 2 h_5 x5) fun r1 =>
    K (.tuple #[r0, r1]) h_5)
    (OP (iLoad true 2 h quotient12) fun x90 =>
    (True) ∧
    OP (iLoad true 2 h left13) fun x91 =>
    (True) ∧
    OH (oStore 2 h x4 x90) fun _ h_1 =>
    (iLoad true 2 h_1 left13 = some x91 ∧ True) ∧
    OH (oStore 2 h_1 x5 x91) fun _ h_2 =>
    (True) ∧
    OP (iLoad true 2 h_2 x4) fun r0 =>
    OP (iLoad true 2 h_2 x5) fun r1 =>
    K (.tuple #[r0, r1]) h_2)) := (CutP_def _ _ _ _).trans (by kernel_rfl)
theorem q113z29 (P : Program) (K : Value → Heap → Prop) (b3 x4 x5 quotient12 left13 x78 : Value) (h : Heap) : p113z29 P K b3 x4 x5 quotient12 left13 x78 h =
  (GdP x78 true
    (OP (iFadr 1 left13) fun x79 =>
    OP (iLoad false 1 h x79) fun x80 =>
    OP (iLenSl x80) fun x81 =>
    OP (iBin .gtr x81 (.int .i64 (0))) fun x82 =>
    p113z31 P K b3 x4 x5 quotient12 left13 x78 x82 h)
    (p113z31 P K b3 x4 x5 quotient12 left13 x78 undef h)) := (CutP_def _ _ _ _).trans (by kernel_rfl)
theorem q113z24 (P : Program) (K : Value → Heap → Prop) (a2 b3 x4 x5 q6 rest7 : Value) (h : Heap) : p113z24 P K a2 b3 x4 x5 q6 rest7 h =
  (OP (iFadr 0 a2) fun x68 =>
  OP (iLoad false 1 h x68) fun x69 =>
  OP (iBuild [(.bool false), (.slice none 0 0)] [(0, 1, x69), (1, 1, q6)]) fun x71 =>
  CallP P 98 [x71] h fun x72 h_1 =>
  OP (iBuild [(.bool false), (.slice none 0 0)] [(1, 1, rest7)]) fun x74 =>
  CallP P 98 [x74] h_1 fun x75 h_2 =>
  OH (iAlloc 46 [(.bool false), (.slice none 0 0)] h_2) fun quotient12 h_3 =>
  OH (iAlloc 46 [(.bool false), (.slice none 0 0)] h_3) fun left13 h_4 =>
  OH (oStore 2 h_4 quotient12 x72) fun _ h_5 =>
  OH (oStore 2 h_5 left13 x75) fun _ h_6 =>
  OP (iFadr 0 a2) fun x76 =>
  OP (iLoad false 1 h_6 x76) fun x77 =>
  p113z29 P K b3 x4 x5 quotient12 left13 x77 h_6) := (CutP_def _ _ _ _).trans (by kernel_rfl)
def T113 (P : Program) (K : Value → Heap → Prop) (a0 b1 : Value) (h : Heap) : Prop :=
  OH (iBox 46 h a0) fun a2 h_1 =>
  OH (iBox 46 h_1 b1) fun b3 h_2 =>
  OH (iAlloc 46 [(.bool false), (.slice none 0 0)] h_2) fun x4 h_3 =>
  OH (iAlloc 46 [(.bool false), (.slice none 0 0)] h_3) fun x5 h_4 =>
  OP (iFadr 1 a2) fun x14 =>
  OP (iLoad false 1 h_4 x14) fun x15 =>
  OP (iLenSl x15) fun x16 =>
  OH (iMake 3 8 [(.int .i64 (0))] h_4 x16 x16) fun x17 h_5 =>
  OH (iMkSl 3 0 [(.int .i64 (0))] h_5 []) fun x18 h_6 =>
  OP (iFadr 1 a2) fun x19 =>
  OP (iLoad false 1 h_6 x19) fun x20 =>
  OP (iLenSl x20) fun x21 =>
  OP (iBin .sub x21 (.int .i64 (1))) fun x22 =>
  LoopP [x18, x22] h_6 fun L1 xs hx =>
  p113z6 P K a2 b3 x4 x5 x17 L1 xs hx
theorem e113 (P : Program) (K : Value → Heap → Prop) (a0 b1 : Value) (h : Heap) : iwpP P c113 (bodyP [.cell true 2 4, .cell true 2 5] K) (frame0 [a0, b1]) h = T113 P K a0 b1 h := by kernel_rfl
theorem f113 {K : Value → Heap → Prop} {a0 b1 : Value} {h : Heap} (H : T113 Try.prog K a0 b1 h) : CallP Try.prog 113 [a0, b1] h K :=
  callP_intro k113 (Nat.le_of_ble_eq_true rfl) ((e113 Try.prog K a0 b1 h).mpr H)
/-! F125: pommel/pommelref01.times -/
noncomputable def c125 : ICode := .seq (.ops none [⟨(some 4), .p (.mv (.const (.slice none 0 0)))⟩])
 (.seq (.ops none [⟨(some 5), .p (.mv (.tmp 0))⟩,
    ⟨(some 6), .p (.build [(.bool false), (.slice none 0 0)] [(1, 1, (.tmp 5))])⟩,
    ⟨(some 7), .p (.mv (.tmp 1))⟩,
    ⟨(some 8), .call 29 [(.tmp 7)]⟩,
    ⟨(some 9), .call 77 [(.tmp 6), (.tmp 8)]⟩,
    ⟨(some 10), .call 98 [(.tmp 9)]⟩,
    ⟨(some 11), .p (.fld false 1 1 (.tmp 10))⟩,
    ⟨(some 4), .p (.mv (.tmp 11))⟩])
 (.ret))
theorem k125 : compFn Try.prog 125 [[], []] = some (12, c125, [.tmp 4]) := by kernel_rfl
def K125z0 (_P : Program) (K : Value → Heap → Prop) : Exit → (Nat → Value) → Heap → Prop := bodyP [.tmp 4] K
def T125 (P : Program) (K : Value → Heap → Prop) (a0 d1 : Value) (h : Heap) : Prop :=
  OP (iBuild [(.bool false), (.slice none 0 0)] [(1, 1, a0)]) fun x6 =>
  CallP P 29 [d1] h fun x8 h_1 =>
  CallP P 77 [x6, x8] h_1 fun x9 h_2 =>
  CallP P 98 [x9] h_2 fun x10 h_3 =>
  OP (iFld false 1 1 x10) fun x11 =>
  K x11 h_3
theorem e125 (P : Program) (K : Value → Heap → Prop) (a0 d1 : Value) (h : Heap) : iwpP P c125 (bodyP [.tmp 4] K) (frame0 [a0, d1]) h = T125 P K a0 d1 h := by kernel_rfl
theorem f125 {K : Value → Heap → Prop} {a0 d1 : Value} {h : Heap} (H : T125 Try.prog K a0 d1 h) : CallP Try.prog 125 [a0, d1] h K :=
  callP_intro k125 (Nat.le_of_ble_eq_true rfl) ((e125 Try.prog K a0 d1 h).mpr H)
end Go.Proofs.Ytjdlcokhlphmhaa
