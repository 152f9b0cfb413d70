/-
  Ideal code of the functions that the proof reaches, written by program; the kernel holds it against the code.
-/
import Derived.Test.YtelmdbpaoifmoaaProg
import Derived.Test.YtelmdbpaoifmoaaMgd
import Derived.KernelRfl
namespace Go.Proofs.Ytelmdbpaoifmoaa
open Go.Sim
/-! F38: (*pommel/mend.plan).sidney -/
noncomputable def c38z22 : ICode := .ops none [⟨(some 47), .p (.bin .add (.tmp 29) (.const (.int .i64 (1))))⟩,
   ⟨(some 29), .p (.mv (.tmp 47))⟩]
noncomputable def c38z15 : ICode := .seq (.ops none [⟨(some 30), .p (.bin .lss (.tmp 29) (.tmp 28))⟩])
 (.seq (.cond (.tmp 30) (.skip)
  (.exit 2))
 (.seq (.block 3 (.seq (.ops none [⟨(some 31), .p (.adrSl 1 (.tmp 27) (.tmp 29))⟩,
      ⟨(some 32), .l (.load false 1 (.tmp 31))⟩,
      ⟨(some 6), .p (.mv (.tmp 32))⟩])
   (.seq (.ops none [⟨(some 33), .p (.mv (.tmp 0))⟩,
      ⟨(some 34), .p (.nilck (.tmp 33))⟩,
      ⟨(some 35), .p (.fadr 1 (.tmp 34))⟩,
      ⟨(some 36), .l (.load false 1 (.tmp 35))⟩,
      ⟨(some 37), .p (.mv (.tmp 6))⟩,
      ⟨(some 38), .p (.adrSl 1 (.tmp 36) (.tmp 37))⟩,
      ⟨(some 39), .l (.load false 1 (.tmp 38))⟩,
      ⟨(some 40), .p (.mv (.tmp 4))⟩,
      ⟨(some 41), .p (.conv .u16 (.tmp 40))⟩,
      ⟨(some 42), .p (.bin .andNot (.tmp 39) (.tmp 41))⟩,
      ⟨(some 43), .p (.bin .neq (.tmp 42) (.const (.int .u16 (0))))⟩])
   (.cond (.tmp 43) (.ops none [⟨(some 44), .p (.mv (.tmp 3))⟩,
      ⟨(some 45), .p (.mv (.tmp 4))⟩,
      ⟨(some 46), .p (.conv .u16 (.tmp 45))⟩,
      ⟨none, .e (.delG (.int .u16) (.tmp 44) (.tmp 46))⟩])
   (.skip)))))
 (.cut [0, 3, 4, 18, 19, 27, 28, 29] c38z22)))
noncomputable def c38z23 : ICode := .ops none [⟨(some 48), .p (.bin .add (.tmp 19) (.const (.int .i64 (1))))⟩,
   ⟨(some 19), .p (.mv (.tmp 48))⟩]
noncomputable def c38z9 : ICode := .cut [0, 3, 18, 19] c38z23
noncomputable def c38z6 : ICode := .seq (.ops none [⟨(some 20), .p (.bin .lss (.tmp 19) (.tmp 18))⟩])
 (.seq (.cond (.tmp 20) (.skip)
  (.exit 0))
 (.seq (.block 1 (.seq (.ops none [⟨(some 21), .p (.mv (.tmp 19))⟩,
      ⟨(some 4), .p (.mv (.tmp 21))⟩])
   (.seq (.ops none [⟨(some 22), .p (.mv (.tmp 3))⟩,
      ⟨(some 23), .p (.mv (.tmp 4))⟩,
      ⟨(some 24), .p (.conv .u16 (.tmp 23))⟩,
      ⟨none, .e (.mupdG (.int .u16) (.tmp 22) (.tmp 24) (.const (.bool true)))⟩])
   (.seq (.ops none [⟨(some 25), .p (.mv (.tmp 4))⟩,
      ⟨(some 26), .p (.conv .u16 (.tmp 25))⟩,
      ⟨(some 27), .call 36 [(.tmp 26)]⟩,
      ⟨(some 28), .p (.lenSl (.tmp 27))⟩,
      ⟨(some 29), .p (.mv (.const (.int .i64 (0))))⟩])
   (.block 2 (.loop [0, 3, 4, 18, 19, 27, 28] [29] c38z15)))))) c38z9))
noncomputable def c38z47 : ICode := .ops none [⟨(some 68), .p (.pick (.tmp 64) (.const (.bool true)) (.tmp 67))⟩]
noncomputable def c38z45 : ICode := .seq (.ops (some (64, false)) [⟨(some 65), .p (.mv (.tmp 10))⟩,
    ⟨(some 66), .p (.mv (.tmp 8))⟩,
    ⟨(some 67), .p (.bin .eql (.tmp 65) (.tmp 66))⟩])
 (.cut [0, 3, 7, 8, 9, 10, 54, 64, 67] c38z47)
noncomputable def c38z43 : ICode := .cond (.tmp 68) (.exit 7)
 (.skip)
noncomputable def c38z55 : ICode := .ops none [⟨(some 93), .p (.pick (.tmp 89) (.const (.bool true)) (.tmp 92))⟩,
   ⟨(some 86), .p (.mv (.tmp 93))⟩]
noncomputable def c38z53 : ICode := .seq (.ops (some (89, false)) [⟨(some 90), .p (.mv (.tmp 12))⟩,
    ⟨(some 91), .p (.mv (.tmp 13))⟩,
    ⟨(some 92), .p (.bin .gtr (.tmp 90) (.tmp 91))⟩])
 (.cut [0, 3, 7, 8, 9, 11, 12, 13, 54, 89, 92] c38z55)
noncomputable def c38z51 : ICode := .cond (.tmp 86) (.ops none [⟨(some 94), .p (.mv (.tmp 11))⟩,
    ⟨(some 9), .p (.mv (.tmp 94))⟩])
 (.seq (.ops none [⟨(some 96), .p (.mv (.tmp 12))⟩,
     ⟨(some 97), .p (.mv (.tmp 13))⟩,
     ⟨(some 98), .p (.bin .eql (.tmp 96) (.tmp 97))⟩,
     ⟨(some 95), .p (.mv (.tmp 98))⟩])
  (.cond (.tmp 95) (.ops none [⟨(some 99), .p (.mv (.tmp 9))⟩,
     ⟨(some 100), .p (.mv (.tmp 11))⟩,
     ⟨(some 101), .p (.bin .or (.tmp 99) (.tmp 100))⟩,
     ⟨(some 9), .p (.mv (.tmp 101))⟩])
  (.skip)))
noncomputable def c38z42 : ICode := .seq (.ops none [⟨(some 69), .p (.mv (.tmp 10))⟩,
    ⟨(some 70), .p (.mv (.tmp 8))⟩,
    ⟨(some 71), .p (.bin .andNot (.tmp 69) (.tmp 70))⟩,
    ⟨(some 11), .p (.mv (.tmp 71))⟩])
 (.seq (.ops none [⟨(some 72), .p (.mv (.tmp 0))⟩,
    ⟨(some 73), .p (.mv (.tmp 11))⟩,
    ⟨(some 74), .call 45 [(.tmp 72), (.tmp 73)]⟩,
    ⟨(some 75), .p (.mv (.tmp 0))⟩,
    ⟨(some 76), .p (.mv (.tmp 9))⟩,
    ⟨(some 77), .call 25 [(.tmp 75), (.tmp 76)]⟩,
    ⟨(some 78), .p (.bin .mul (.tmp 74) (.tmp 77))⟩,
    ⟨(some 79), .p (.mv (.tmp 0))⟩,
    ⟨(some 80), .p (.mv (.tmp 9))⟩,
    ⟨(some 81), .call 45 [(.tmp 79), (.tmp 80)]⟩,
    ⟨(some 82), .p (.mv (.tmp 0))⟩,
    ⟨(some 83), .p (.mv (.tmp 11))⟩,
    ⟨(some 84), .call 25 [(.tmp 82), (.tmp 83)]⟩,
    ⟨(some 85), .p (.bin .mul (.tmp 81) (.tmp 84))⟩,
    ⟨(some 12), .p (.mv (.tmp 78))⟩,
    ⟨(some 13), .p (.mv (.tmp 85))⟩])
 (.block 8 (.seq (.seq (.ops none [⟨(some 87), .p (.mv (.tmp 9))⟩,
      ⟨(some 88), .p (.bin .eql (.tmp 87) (.const (.int .u16 (0))))⟩,
      ⟨(some 89), .p (.mv (.tmp 88))⟩])
   (.cut [0, 3, 7, 8, 9, 11, 12, 13, 54, 89] c38z53)) c38z51)))
noncomputable def c38z37 : ICode := .seq (.ops none [⟨(some 55), .e (.next (.tmp 54))⟩,
    ⟨(some 56), .p (.ext (.tmp 55) 0)⟩])
 (.seq (.cond (.tmp 56) (.skip)
  (.exit 6))
 (.block 7 (.seq (.ops none [⟨(some 57), .l (.entry (.tmp 54))⟩,
     ⟨(some 58), .p (.ext (.tmp 57) 0)⟩,
     ⟨(some 10), .p (.mv (.tmp 58))⟩])
  (.seq (.seq (.seq (.ops none [⟨(some 59), .p (.mv (.tmp 10))⟩,
       ⟨(some 60), .p (.mv (.tmp 8))⟩,
       ⟨(some 61), .p (.bin .and (.tmp 59) (.tmp 60))⟩,
       ⟨(some 62), .p (.mv (.tmp 8))⟩,
       ⟨(some 63), .p (.bin .neq (.tmp 61) (.tmp 62))⟩,
       ⟨(some 64), .p (.mv (.tmp 63))⟩])
    (.cut [0, 3, 7, 8, 9, 10, 54, 64] c38z45)) c38z43) c38z42))))
noncomputable def c38z57 : ICode := .ops none [⟨(some 102), .p (.mv (.tmp 7))⟩,
   ⟨(some 103), .p (.mv (.tmp 9))⟩,
   ⟨(some 104), .e (.mkSl 63 1 [(.int .u16 (0))] [(0, 1, (.tmp 103))])⟩,
   ⟨(some 105), .e (.app 63 1 2 (.tmp 102) (.tmp 104))⟩,
   ⟨(some 106), .p (.mv (.tmp 8))⟩,
   ⟨(some 107), .p (.mv (.tmp 9))⟩,
   ⟨(some 108), .p (.bin .or (.tmp 106) (.tmp 107))⟩,
   ⟨(some 7), .p (.mv (.tmp 105))⟩,
   ⟨(some 8), .p (.mv (.tmp 108))⟩]
noncomputable def c38z34 : ICode := .cut [0, 3, 7, 8, 9] c38z57
noncomputable def c38z29 : ICode := .seq (.seq (.ops none [⟨(some 49), .p (.mv (.tmp 8))⟩,
     ⟨(some 50), .p (.mv (.tmp 0))⟩,
     ⟨(some 51), .call 24 [(.tmp 50)]⟩,
     ⟨(some 52), .p (.bin .neq (.tmp 49) (.tmp 51))⟩])
  (.cond (.tmp 52) (.skip)
  (.exit 4)))
 (.block 5 (.seq (.ops none [⟨(some 9), .p (.mv (.const (.int .u16 (0))))⟩])
  (.seq (.seq (.ops none [⟨(some 53), .p (.mv (.tmp 3))⟩,
      ⟨(some 54), .e (.rangeG (.tmp 53))⟩])
   (.block 6 (.loop [0, 3, 7, 8, 54] [9] c38z37))) c38z34)))
noncomputable def c38z58 : ICode := .seq (.ops none [⟨(some 109), .p (.mv (.tmp 7))⟩,
    ⟨(some 2), .p (.mv (.tmp 109))⟩])
 (.ret)
noncomputable def c38z26 : ICode := .cut [7] c38z58
noncomputable def c38z24 : ICode := .seq (.ops none [⟨(some 7), .p (.mv (.const (.slice none 0 0)))⟩])
 (.seq (.seq (.ops none [⟨(some 8), .p (.mv (.const (.int .u16 (0))))⟩])
  (.block 4 (.loop [0, 3] [7, 8] c38z29))) c38z26)
noncomputable def c38z3 : ICode := .cut [0, 3] c38z24
noncomputable def c38 : ICode := .seq (.ops none [⟨(some 2), .p (.mv (.const (.slice none 0 0)))⟩])
 (.seq (.ops none [⟨(some 14), .e (.mkMapG (.int .u16))⟩,
    ⟨(some 3), .p (.mv (.tmp 14))⟩])
 (.seq (.seq (.ops none [⟨(some 15), .p (.mv (.tmp 0))⟩,
     ⟨(some 16), .call 24 [(.tmp 15)]⟩,
     ⟨(some 17), .p (.conv .i64 (.tmp 16))⟩,
     ⟨(some 18), .p (.bin .add (.tmp 17) (.const (.int .i64 (1))))⟩,
     ⟨(some 19), .p (.mv (.const (.int .i64 (0))))⟩])
  (.block 0 (.loop [0, 3, 18] [19] c38z6))) c38z3))
theorem k38 : compFn Try.prog 38 [[], [], [], [0, 3, 18], [19], [], [], [], [], [], [0, 3, 4, 18, 19, 27, 28], [29], [], [], [], [], [0, 3, 4, 18, 19, 27, 28, 29], [0, 3, 18, 19], [0, 3], [], [], [0, 3], [7, 8], [], [], [], [], [0, 3, 7, 8, 54], [9], [], [], [], [0, 3, 7, 8, 9, 10, 54, 64], [0, 3, 7, 8, 9, 10, 54, 64, 67], [], [], [], [], [0, 3, 7, 8, 9, 11, 12, 13, 54, 89], [0, 3, 7, 8, 9, 11, 12, 13, 54, 89, 92], [], [], [0, 3, 7, 8, 9], [7], []] = some (110, c38, [.tmp 2]) := by kernel_rfl
def K38z0 (_P : Program) (K : Value → Heap → Prop) : Exit → (Nat → Value) → Heap → Prop := bodyP [.tmp 2] K
def K38z3 (P : Program) (K : Value → Heap → Prop) : Exit → (Nat → Value) → Heap → Prop := thenK (iwpNP P c38z3 (K38z0 P K)) (K38z0 P K)
def K38z5 (P : Program) (K : Value → Heap → Prop) : Exit → (Nat → Value) → Heap → Prop := inBlockK 0 (K38z3 P K)
def K38z6 (P : Program) (K : Value → Heap → Prop) (p0 beginnings3 x18 : Value) (L1 : List Value → Heap → Prop) : Exit → (Nat → Value) → Heap → Prop := thenK (fun f' h'' => (([0, 3, 18] : List Nat).map f' : List Value) = [p0, beginnings3, x18] ∧ L1 (([19] : List Nat).map f') h'') (K38z5 P K)
def K38z9 (P : Program) (K : Value → Heap → Prop) (p0 beginnings3 x18 : Value) (L1 : List Value → Heap → Prop) : Exit → (Nat → Value) → Heap → Prop := thenK (iwpNP P c38z9 (K38z6 P K p0 beginnings3 x18 L1)) (K38z6 P K p0 beginnings3 x18 L1)
def K38z10 (P : Program) (K : Value → Heap → Prop) (p0 beginnings3 x18 : Value) (L1 : List Value → Heap → Prop) : Exit → (Nat → Value) → Heap → Prop := inBlockK 1 (K38z9 P K p0 beginnings3 x18 L1)
def K38z14 (P : Program) (K : Value → Heap → Prop) (p0 beginnings3 x18 : Value) (L1 : List Value → Heap → Prop) : Exit → (Nat → Value) → Heap → Prop := inBlockK 2 (K38z10 P K p0 beginnings3 x18 L1)
def K38z15 (P : Program) (K : Value → Heap → Prop) (p0 beginnings3 s4 x18 x19 x27 x28 : Value) (L1 L2 : List Value → Heap → Prop) : Exit → (Nat → Value) → Heap → Prop := thenK (fun f' h'' => (([0, 3, 4, 18, 19, 27, 28] : List Nat).map f' : List Value) = [p0, beginnings3, s4, x18, x19, x27, x28] ∧ L2 (([29] : List Nat).map f') h'') (K38z14 P K p0 beginnings3 x18 L1)
def K38z26 (P : Program) (K : Value → Heap → Prop) : Exit → (Nat → Value) → Heap → Prop := thenK (iwpNP P c38z26 (K38z0 P K)) (K38z0 P K)
def K38z28 (P : Program) (K : Value → Heap → Prop) : Exit → (Nat → Value) → Heap → Prop := inBlockK 4 (K38z26 P K)
def K38z29 (P : Program) (K : Value → Heap → Prop) (p0 beginnings3 : Value) (L1 : List Value → Heap → Prop) : Exit → (Nat → Value) → Heap → Prop := thenK (fun f' h'' => (([0, 3] : List Nat).map f' : List Value) = [p0, beginnings3] ∧ L1 (([7, 8] : List Nat).map f') h'') (K38z28 P K)
def K38z32 (P : Program) (K : Value → Heap → Prop) (p0 beginnings3 : Value) (L1 : List Value → Heap → Prop) : Exit → (Nat → Value) → Heap → Prop := inBlockK 5 (K38z29 P K p0 beginnings3 L1)
def K38z34 (P : Program) (K : Value → Heap → Prop) (p0 beginnings3 : Value) (L1 : List Value → Heap → Prop) : Exit → (Nat → Value) → Heap → Prop := thenK (iwpNP P c38z34 (K38z32 P K p0 beginnings3 L1)) (K38z32 P K p0 beginnings3 L1)
def K38z36 (P : Program) (K : Value → Heap → Prop) (p0 beginnings3 : Value) (L1 : List Value → Heap → Prop) : Exit → (Nat → Value) → Heap → Prop := inBlockK 6 (K38z34 P K p0 beginnings3 L1)
def K38z37 (P : Program) (K : Value → Heap → Prop) (p0 beginnings3 out7 done8 x54 : Value) (L1 L2 : List Value → Heap → Prop) : Exit → (Nat → Value) → Heap → Prop := thenK (fun f' h'' => (([0, 3, 7, 8, 54] : List Nat).map f' : List Value) = [p0, beginnings3, out7, done8, x54] ∧ L2 (([9] : List Nat).map f') h'') (K38z36 P K p0 beginnings3 L1)
def K38z40 (P : Program) (K : Value → Heap → Prop) (p0 beginnings3 out7 done8 x54 : Value) (L1 L2 : List Value → Heap → Prop) : Exit → (Nat → Value) → Heap → Prop := inBlockK 7 (K38z37 P K p0 beginnings3 out7 done8 x54 L1 L2)
def K38z42 (P : Program) (K : Value → Heap → Prop) (p0 beginnings3 out7 done8 x54 : Value) (L1 L2 : List Value → Heap → Prop) : Exit → (Nat → Value) → Heap → Prop := thenK (iwpNP P c38z42 (K38z40 P K p0 beginnings3 out7 done8 x54 L1 L2)) (K38z40 P K p0 beginnings3 out7 done8 x54 L1 L2)
def K38z43 (P : Program) (K : Value → Heap → Prop) (p0 beginnings3 out7 done8 x54 : Value) (L1 L2 : List Value → Heap → Prop) : Exit → (Nat → Value) → Heap → Prop := thenK (iwpNP P c38z43 (K38z42 P K p0 beginnings3 out7 done8 x54 L1 L2)) (K38z42 P K p0 beginnings3 out7 done8 x54 L1 L2)
def K38z50 (P : Program) (K : Value → Heap → Prop) (p0 beginnings3 out7 done8 x54 : Value) (L1 L2 : List Value → Heap → Prop) : Exit → (Nat → Value) → Heap → Prop := inBlockK 8 (K38z40 P K p0 beginnings3 out7 done8 x54 L1 L2)
def K38z51 (P : Program) (K : Value → Heap → Prop) (p0 beginnings3 out7 done8 x54 : Value) (L1 L2 : List Value → Heap → Prop) : Exit → (Nat → Value) → Heap → Prop := thenK (iwpNP P c38z51 (K38z50 P K p0 beginnings3 out7 done8 x54 L1 L2)) (K38z50 P K p0 beginnings3 out7 done8 x54 L1 L2)
def p38z6 (P : Program) (K : Value → Heap → Prop) (p0 beginnings3 x18 : Value) (L1 : List Value → Heap → Prop) (xs : List Value) (h : Heap) : Prop := CutP (iwpNP P c38z6 (K38z6 P K p0 beginnings3 x18 L1)) ([0, 3, 18] ++ [19]) ([p0, beginnings3, x18] ++ xs) h
def p38z15 (P : Program) (K : Value → Heap → Prop) (p0 beginnings3 s4 x18 x19 x27 x28 : Value) (L1 L2 : List Value → Heap → Prop) (xs : List Value) (h : Heap) : Prop := CutP (iwpNP P c38z15 (K38z15 P K p0 beginnings3 s4 x18 x19 x27 x28 L1 L2)) ([0, 3, 4, 18, 19, 27, 28] ++ [29]) ([p0, beginnings3, s4, x18, x19, x27, x28] ++ xs) h
def p38z22 (P : Program) (K : Value → Heap → Prop) (p0 beginnings3 s4 x18 x19 x27 x28 x29 : Value) (L1 L2 : List Value → Heap → Prop) (h : Heap) : Prop := CutP (iwpNP P c38z22 (K38z15 P K p0 beginnings3 s4 x18 x19 x27 x28 L1 L2)) [0, 3, 4, 18, 19, 27, 28, 29] [p0, beginnings3, s4, x18, x19, x27, x28, x29] h
def p38z23 (P : Program) (K : Value → Heap → Prop) (p0 beginnings3 x18 x19 : Value) (L1 : List Value → Heap → Prop) (h : Heap) : Prop := CutP (iwpNP P c38z23 (K38z6 P K p0 beginnings3 x18 L1)) [0, 3, 18, 19] [p0, beginnings3, x18, x19] h
def p38z24 (P : Program) (K : Value → Heap → Prop) (p0 beginnings3 : Value) (h : Heap) : Prop := CutP (iwpNP P c38z24 (K38z0 P K)) [0, 3] [p0, beginnings3] h
def p38z29 (P : Program) (K : Value → Heap → Prop) (p0 beginnings3 : Value) (L1 : List Value → Heap → Prop) (xs : List Value) (h : Heap) : Prop := CutP (iwpNP P c38z29 (K38z29 P K p0 beginnings3 L1)) ([0, 3] ++ [7, 8]) ([p0, beginnings3] ++ xs) h
def p38z37 (P : Program) (K : Value → Heap → Prop) (p0 beginnings3 out7 done8 x54 : Value) (L1 L2 : List Value → Heap → Prop) (xs : List Value) (h : Heap) : Prop := CutP (iwpNP P c38z37 (K38z37 P K p0 beginnings3 out7 done8 x54 L1 L2)) ([0, 3, 7, 8, 54] ++ [9]) ([p0, beginnings3, out7, done8, x54] ++ xs) h
def p38z45 (P : Program) (K : Value → Heap → Prop) (p0 beginnings3 out7 done8 best9 s10 x54 x64 : Value) (L1 L2 : List Value → Heap → Prop) (h : Heap) : Prop := CutP (iwpNP P c38z45 (K38z43 P K p0 beginnings3 out7 done8 x54 L1 L2)) [0, 3, 7, 8, 9, 10, 54, 64] [p0, beginnings3, out7, done8, best9, s10, x54, x64] h
def p38z47 (P : Program) (K : Value → Heap → Prop) (p0 beginnings3 out7 done8 best9 s10 x54 x64 x67 : Value) (L1 L2 : List Value → Heap → Prop) (h : Heap) : Prop := CutP (iwpNP P c38z47 (K38z43 P K p0 beginnings3 out7 done8 x54 L1 L2)) [0, 3, 7, 8, 9, 10, 54, 64, 67] [p0, beginnings3, out7, done8, best9, s10, x54, x64, x67] h
def p38z53 (P : Program) (K : Value → Heap → Prop) (p0 beginnings3 out7 done8 best9 more11 a12 b13 x54 x89 : Value) (L1 L2 : List Value → Heap → Prop) (h : Heap) : Prop := CutP (iwpNP P c38z53 (K38z51 P K p0 beginnings3 out7 done8 x54 L1 L2)) [0, 3, 7, 8, 9, 11, 12, 13, 54, 89] [p0, beginnings3, out7, done8, best9, more11, a12, b13, x54, x89] h
def p38z55 (P : Program) (K : Value → Heap → Prop) (p0 beginnings3 out7 done8 best9 more11 a12 b13 x54 x89 x92 : Value) (L1 L2 : List Value → Heap → Prop) (h : Heap) : Prop := CutP (iwpNP P c38z55 (K38z51 P K p0 beginnings3 out7 done8 x54 L1 L2)) [0, 3, 7, 8, 9, 11, 12, 13, 54, 89, 92] [p0, beginnings3, out7, done8, best9, more11, a12, b13, x54, x89, x92] h
def p38z57 (P : Program) (K : Value → Heap → Prop) (p0 beginnings3 out7 done8 best9 : Value) (L1 : List Value → Heap → Prop) (h : Heap) : Prop := CutP (iwpNP P c38z57 (K38z32 P K p0 beginnings3 L1)) [0, 3, 7, 8, 9] [p0, beginnings3, out7, done8, best9] h
def p38z58 (P : Program) (K : Value → Heap → Prop) (out7 : Value) (h : Heap) : Prop := CutP (iwpNP P c38z58 (K38z0 P K)) [7] [out7] h
theorem q38z22 (P : Program) (K : Value → Heap → Prop) (p0 beginnings3 s4 x18 x19 x27 x28 x29 : Value) (L1 L2 : List Value → Heap → Prop) (h : Heap) : p38z22 P K p0 beginnings3 s4 x18 x19 x27 x28 x29 L1 L2 h =
  (OP (iBin .add x29 (.int .i64 (1))) fun x47 =>
  ([p0, beginnings3, s4, x18, x19, x27, x28] : List Value) = [p0, beginnings3, s4, x18, x19, x27, x28] ∧ L2 [x47] h) := (CutP_def _ _ _ _).trans (by kernel_rfl)
theorem q38z15 (P : Program) (K : Value → Heap → Prop) (p0 beginnings3 s4 x18 x19 x27 x28 : Value) (L1 L2 : List Value → Heap → Prop) (x29 : Value) (h : Heap) : p38z15 P K p0 beginnings3 s4 x18 x19 x27 x28 L1 L2 [x29] h =
  (OP (iBin .lss x29 x28) fun x30 =>
  IfP x30
    (OP (iAdrSl 1 x27 x29) fun x31 =>
    OP (iLoad false 1 h x31) fun x32 =>
    OP (iNilck p0) fun x34 =>
    OP (iFadr 1 x34) fun x35 =>
    OP (iLoad false 1 h x35) fun x36 =>
    OP (iAdrSl 1 x36 x32) fun x38 =>
    OP (iLoad false 1 h x38) fun x39 =>
    OP (iConv .u16 s4) fun x41 =>
    OP (iBin .andNot x39 x41) fun x42 =>
    OP (iBin .neq x42 (.int .u16 (0))) fun x43 =>
    IfP x43
      (OP (iConv .u16 s4) fun x46 =>
      OH (oDelG (.int .u16) h beginnings3 x46) fun _ h_1 =>
      p38z22 P K p0 beginnings3 s4 x18 x19 x27 x28 x29 L1 L2 h_1)
      (p38z22 P K p0 beginnings3 s4 x18 x19 x27 x28 x29 L1 L2 h))
    (p38z23 P K p0 beginnings3 x18 x19 L1 h)) := (CutP_def _ _ _ _).trans (by kernel_rfl)
theorem q38z23 (P : Program) (K : Value → Heap → Prop) (p0 beginnings3 x18 x19 : Value) (L1 : List Value → Heap → Prop) (h : Heap) : p38z23 P K p0 beginnings3 x18 x19 L1 h =
  (OP (iBin .add x19 (.int .i64 (1))) fun x48 =>
  ([p0, beginnings3, x18] : List Value) = [p0, beginnings3, x18] ∧ L1 [x48] h) := (CutP_def _ _ _ _).trans (by kernel_rfl)
theorem q38z6 (P : Program) (K : Value → Heap → Prop) (p0 beginnings3 x18 : Value) (L1 : List Value → Heap → Prop) (x19 : Value) (h : Heap) : p38z6 P K p0 beginnings3 x18 L1 [x19] h =
  (OP (iBin .lss x19 x18) fun x20 =>
  IfP x20
    (OP (iConv .u16 x19) fun x24 =>
    OH (oMupdG (.int .u16) h beginnings3 x24 (.bool true)) fun _ h_1 =>
    OP (iConv .u16 x19) fun x26 =>
    CallP P 36 [x26] h_1 fun x27 h_2 =>
    OP (iLenSl x27) fun x28 =>
    LoopP [(.int .i64 (0))] h_2 fun L2 xs hx =>
    p38z15 P K p0 beginnings3 x19 x18 x19 x27 x28 L1 L2 xs hx)
    (p38z24 P K p0 beginnings3 h)) := (CutP_def _ _ _ _).trans (by kernel_rfl)
theorem q38z47 (P : Program) (K : Value → Heap → Prop) (p0 beginnings3 out7 done8 best9 s10 x54 x64 x67 : Value) (L1 L2 : List Value → Heap → Prop) (h : Heap) : p38z47 P K p0 beginnings3 out7 done8 best9 s10 x54 x64 x67 L1 L2 h =
  (OP (iPick x64 (.bool true) x67) fun x68 =>
  IfP x68
    (([p0, beginnings3, out7, done8, x54] : List Value) = [p0, beginnings3, out7, done8, x54] ∧ L2 [best9] h)
    (OP (iBin .andNot s10 done8) fun x71 =>
    CallP P 45 [p0, x71] h fun x74 h_1 =>
    CallP P 25 [p0, best9] h_1 fun x77 h_2 =>
    OP (iBin .mul x74 x77) fun x78 =>
    CallP P 45 [p0, best9] h_2 fun x81 h_3 =>
    CallP P 25 [p0, x71] h_3 fun x84 h_4 =>
    OP (iBin .mul x81 x84) fun x85 =>
    OP (iBin .eql best9 (.int .u16 (0))) fun x88 =>
    p38z53 P K p0 beginnings3 out7 done8 best9 x71 x78 x85 x54 x88 L1 L2 h_4)) := (CutP_def _ _ _ _).trans (by kernel_rfl)
theorem q38z45 (P : Program) (K : Value → Heap → Prop) (p0 beginnings3 out7 done8 best9 s10 x54 x64 : Value) (L1 L2 : List Value → Heap → Prop) (h : Heap) : p38z45 P K p0 beginnings3 out7 done8 best9 s10 x54 x64 L1 L2 h =
  (GdP x64 false
    (OP (iBin .eql s10 done8) fun x67 =>
    p38z47 P K p0 beginnings3 out7 done8 best9 s10 x54 x64 x67 L1 L2 h)
    (p38z47 P K p0 beginnings3 out7 done8 best9 s10 x54 x64 undef L1 L2 h)) := (CutP_def _ _ _ _).trans (by kernel_rfl)
theorem q38z55 (P : Program) (K : Value → Heap → Prop) (p0 beginnings3 out7 done8 best9 more11 a12 b13 x54 x89 x92 : Value) (L1 L2 : List Value → Heap → Prop) (h : Heap) : p38z55 P K p0 beginnings3 out7 done8 best9 more11 a12 b13 x54 x89 x92 L1 L2 h =
  (OP (iPick x89 (.bool true) x92) fun x93 =>
  IfP x93
    (([p0, beginnings3, out7, done8, x54] : List Value) = [p0, beginnings3, out7, done8, x54] ∧ L2 [more11] h)
    (OP (iBin .eql a12 b13) fun x98 =>
    IfP x98
      (OP (iBin .or best9 more11) fun x101 =>
      ([p0, beginnings3, out7, done8, x54] : List Value) = [p0, beginnings3, out7, done8, x54] ∧ L2 [x101] h)
      (([p0, beginnings3, out7, done8, x54] : List Value) = [p0, beginnings3, out7, done8, x54] ∧ L2 [best9] h))) := (CutP_def _ _ _ _).trans (by kernel_rfl)
theorem q38z53 (P : Program) (K : Value → Heap → Prop) (p0 beginnings3 out7 done8 best9 more11 a12 b13 x54 x89 : Value) (L1 L2 : List Value → Heap → Prop) (h : Heap) : p38z53 P K p0 beginnings3 out7 done8 best9 more11 a12 b13 x54 x89 L1 L2 h =
  (GdP x89 false
    (OP (iBin .gtr a12 b13) fun x92 =>
    p38z55 P K p0 beginnings3 out7 done8 best9 more11 a12 b13 x54 x89 x92 L1 L2 h)
    (p38z55 P K p0 beginnings3 out7 done8 best9 more11 a12 b13 x54 x89 undef L1 L2 h)) := (CutP_def _ _ _ _).trans (by kernel_rfl)
theorem q38z37 (P : Program) (K : Value → Heap → Prop) (p0 beginnings3 out7 done8 x54 : Value) (L1 L2 : List Value → Heap → Prop) (best9 : Value) (h : Heap) : p38z37 P K p0 beginnings3 out7 done8 x54 L1 L2 [best9] h =
  (NxP (nexts h x54) fun x55 h_1 =>
  OP (iExt 0 x55) fun x56 =>
  IfP x56
    (OP (iEntry h_1 x54) fun x57 =>
    OP (iExt 0 x57) fun x58 =>
    OP (iBin .and x58 done8) fun x61 =>
    OP (iBin .neq x61 done8) fun x63 =>
    p38z45 P K p0 beginnings3 out7 done8 best9 x58 x54 x63 L1 L2 h_1)
    (p38z57 P K p0 beginnings3 out7 done8 best9 L1 h_1)) := (CutP_def _ _ _ _).trans (by kernel_rfl)
theorem q38z57 (P : Program) (K : Value → Heap → Prop) (p0 beginnings3 out7 done8 best9 : Value) (L1 : List Value → Heap → Prop) (h : Heap) : p38z57 P K p0 beginnings3 out7 done8 best9 L1 h =
  (OH (iMkSl 63 1 [(.int .u16 (0))] h [(0, 1, best9)]) fun x104 h_1 =>
  OH (iApp 63 1 2 h_1 out7 x104) fun x105 h_2 =>
  OP (iBin .or done8 best9) fun x108 =>
  ([p0, beginnings3] : List Value) = [p0, beginnings3] ∧ L1 [x105, x108] h_2) := (CutP_def _ _ _ _).trans (by kernel_rfl)
theorem q38z29 (P : Program) (K : Value → Heap → Prop) (p0 beginnings3 : Value) (L1 : List Value → Heap → Prop) (out7 done8 : Value) (h : Heap) : p38z29 P K p0 beginnings3 L1 [out7, done8] h =
  (CallP P 24 [p0] h fun x51 h_1 =>
  OP (iBin .neq done8 x51) fun x52 =>
  IfP x52
    (OH (iRangeG h_1 beginnings3) fun x54 h_2 =>
    LoopP [(.int .u16 (0))] h_2 fun L2 xs hx =>
    p38z37 P K p0 beginnings3 out7 done8 x54 L1 L2 xs hx)
    (p38z58 P K out7 h_1)) := (CutP_def _ _ _ _).trans (by kernel_rfl)
theorem q38z58 (P : Program) (K : Value → Heap → Prop) (out7 : Value) (h : Heap) : p38z58 P K out7 h =
  (K out7 h) := (CutP_def _ _ _ _).trans (by kernel_rfl)
theorem q38z24 (P : Program) (K : Value → Heap → Prop) (p0 beginnings3 : Value) (h : Heap) : p38z24 P K p0 beginnings3 h =
  (LoopP [(.slice none 0 0), (.int .u16 (0))] h fun L1 xs hx =>
  p38z29 P K p0 beginnings3 L1 xs hx) := (CutP_def _ _ _ _).trans (by kernel_rfl)
def T38 (P : Program) (K : Value → Heap → Prop) (p0 : Value) (h : Heap) : Prop :=
  OH (iMkMapG (.int .u16) h) fun x14 h_1 =>
  CallP P 24 [p0] h_1 fun x16 h_2 =>
  OP (iConv .i64 x16) fun x17 =>
  OP (iBin .add x17 (.int .i64 (1))) fun x18 =>
  LoopP [(.int .i64 (0))] h_2 fun L1 xs hx =>
  p38z6 P K p0 x14 x18 L1 xs hx
theorem e38 (P : Program) (K : Value → Heap → Prop) (p0 : Value) (h : Heap) : iwpNP P c38 (bodyP [.tmp 2] K) (frame0 [p0]) h = T38 P K p0 h := by kernel_rfl
theorem f38 {K : Value → Heap → Prop} {p0 : Value} {h : Heap} (H : T38 Try.prog K p0 h) : CallNP Try.prog 38 [p0] h K :=
  callNP_intro k38 (Nat.le_of_ble_eq_true rfl) ((e38 Try.prog K p0 h).mpr H)
end Go.Proofs.Ytelmdbpaoifmoaa
