/-
  Ideal code of the functions that the proof reaches, written by program; the kernel holds it against the code.
-/
import Derived.Test.YtelmdbpaoifmoaaProg
import Derived.Test.YtelmdbpaoifmoaaMgd
import Derived.KernelRfl
namespace Go.Proofs.Ytelmdbpaoifmoaa
open Go.Sim
/-! F4: pommel/pommellaw06.MendCosts -/
noncomputable def c4z20 : ICode := .ops none [⟨(some 50), .p (.pick (.tmp 48) (.tmp 49) (.const (.bool false)))⟩,
   ⟨(some 4), .p (.mv (.tmp 50))⟩]
noncomputable def c4z18 : ICode := .seq (.ops (some (48, true)) [⟨(some 49), .call 14 []⟩])
 (.cut [48, 49] c4z20)
noncomputable def c4z16 : ICode := .seq (.ops none [⟨(some 47), .p (.pick (.tmp 43) (.tmp 46) (.const (.bool false)))⟩,
    ⟨(some 48), .p (.mv (.tmp 47))⟩])
 (.cut [48] c4z18)
noncomputable def c4z14 : ICode := .seq (.ops (some (43, true)) [⟨(some 44), .p (.mv (.tmp 9))⟩,
    ⟨(some 45), .p (.mv (.tmp 10))⟩,
    ⟨(some 46), .p (.bin .eql (.tmp 44) (.tmp 45))⟩])
 (.cut [43, 46] c4z16)
noncomputable def c4z12 : ICode := .ret
noncomputable def c4z29 : ICode := .ops none [⟨(some 62), .p (.pick (.tmp 60) (.tmp 61) (.const (.bool false)))⟩,
   ⟨(some 4), .p (.mv (.tmp 62))⟩]
noncomputable def c4z27 : ICode := .seq (.ops (some (60, true)) [⟨(some 61), .call 14 []⟩])
 (.cut [60, 61] c4z29)
noncomputable def c4z25 : ICode := .seq (.ops none [⟨(some 59), .p (.pick (.tmp 56) (.tmp 58) (.const (.bool false)))⟩,
    ⟨(some 60), .p (.mv (.tmp 59))⟩])
 (.cut [60] c4z27)
noncomputable def c4z23 : ICode := .seq (.ops (some (56, true)) [⟨(some 57), .p (.mv (.tmp 9))⟩,
    ⟨(some 58), .p (.bin .eql (.tmp 57) (.const (.int .i64 (0))))⟩])
 (.cut [56, 58] c4z25)
noncomputable def c4z21 : ICode := .ret
noncomputable def c4z10 : ICode := .seq (.seq (.ops none [⟨(some 51), .p (.mv (.tmp 8))⟩,
     ⟨(some 52), .p (.mv (.tmp 5))⟩,
     ⟨(some 53), .p (.mv (.tmp 7))⟩,
     ⟨(some 54), .call 13 [(.tmp 52), (.tmp 53)]⟩,
     ⟨(some 55), .p (.bin .eql (.tmp 51) (.tmp 54))⟩,
     ⟨(some 56), .p (.mv (.tmp 55))⟩])
  (.cut [9, 56] c4z23)) c4z21
noncomputable def c4z9 : ICode := .seq (.seq (.ops none [⟨(some 39), .p (.mv (.tmp 10))⟩,
     ⟨(some 40), .p (.bin .neq (.tmp 39) (.const (.int .i64 (0))))⟩])
  (.cond (.tmp 40) (.seq (.seq (.ops none [⟨(some 41), .p (.mv (.tmp 8))⟩,
       ⟨(some 42), .p (.bin .eql (.tmp 41) (.const (.int .i64 (0))))⟩,
       ⟨(some 43), .p (.mv (.tmp 42))⟩])
    (.cut [9, 10, 43] c4z14)) c4z12)
  (.skip))) c4z10
noncomputable def c4 : ICode := .seq (.ops none [⟨(some 2), .e (.box 38 (.tmp 0))⟩,
    ⟨(some 4), .p (.mv (.const (.bool false)))⟩])
 (.seq (.ops none [⟨(some 12), .l (.load true 2 (.tmp 2))⟩,
    ⟨(some 13), .call 15 [(.tmp 12), (.const (.int .i64 (10)))]⟩,
    ⟨(some 11), .p (.mv (.tmp 13))⟩,
    ⟨(some 14), .p (.ext (.tmp 11) 0)⟩,
    ⟨(some 15), .p (.ext (.tmp 11) 1)⟩,
    ⟨(some 5), .p (.mv (.tmp 14))⟩,
    ⟨(some 6), .p (.mv (.tmp 15))⟩])
 (.seq (.ops none [⟨(some 16), .e (.mkSl 3 0 [(.int .i64 (0))] [])⟩,
    ⟨(some 17), .p (.mv (.tmp 1))⟩,
    ⟨(some 18), .p (.mv (.tmp 1))⟩,
    ⟨(some 19), .p (.lenSl (.tmp 18))⟩,
    ⟨(some 20), .p (.minmax false [(.tmp 19), (.const (.int .i64 (11)))])⟩,
    ⟨(some 21), .p (.slSl 3 1 (.tmp 17) none (some (.tmp 20)))⟩,
    ⟨(some 22), .e (.app 3 1 8 (.tmp 16) (.tmp 21))⟩,
    ⟨(some 7), .p (.mv (.tmp 22))⟩])
 (.seq (.ops none [⟨(some 24), .p (.mv (.tmp 5))⟩,
    ⟨(some 25), .p (.mv (.tmp 6))⟩,
    ⟨(some 26), .p (.mv (.tmp 7))⟩,
    ⟨(some 27), .call 16 [(.tmp 24), (.tmp 25), (.tmp 26)]⟩,
    ⟨(some 23), .p (.mv (.tmp 27))⟩,
    ⟨(some 28), .p (.ext (.tmp 23) 0)⟩,
    ⟨(some 29), .p (.ext (.tmp 23) 1)⟩,
    ⟨(some 8), .p (.mv (.tmp 28))⟩,
    ⟨(some 9), .p (.mv (.tmp 29))⟩])
 (.seq (.ops none [⟨(some 10), .p (.mv (.const (.int .i64 (0))))⟩])
 (.seq (.seq (.ops none [⟨(some 30), .p (.mv (.tmp 5))⟩,
     ⟨(some 31), .p (.mv (.tmp 6))⟩,
     ⟨(some 32), .call 17 [(.tmp 30), (.tmp 31)]⟩,
     ⟨(some 33), .p (.un .not (.tmp 32))⟩])
  (.cond (.tmp 33) (.ops none [⟨(some 10), .p (.mv (.const (.int .i64 (1))))⟩])
  (.seq (.ops none [⟨(some 34), .p (.mv (.tmp 5))⟩,
      ⟨(some 35), .p (.mv (.tmp 6))⟩,
      ⟨(some 36), .p (.mv (.tmp 7))⟩,
      ⟨(some 37), .call 12 [(.tmp 34), (.tmp 35), (.tmp 36)]⟩,
      ⟨(some 38), .p (.un .not (.tmp 37))⟩])
   (.cond (.tmp 38) (.ops none [⟨(some 10), .p (.mv (.const (.int .i64 (2))))⟩])
   (.skip)))))
 (.cut [5, 7, 8, 9, 10] c4z9))))))
theorem k4 : compFn Try.prog 4 [[], [], [], [], [], [], [], [5, 7, 8, 9, 10], [], [9, 10, 43], [43, 46], [48], [48, 49], [], [], [9, 56], [56, 58], [60], [60, 61], []] = some (63, c4, [.tmp 4]) := by kernel_rfl
def K4z0 (_P : Program) (K : Value → Heap → Prop) : Exit → (Nat → Value) → Heap → Prop := bodyP [.tmp 4] K
def K4z10 (P : Program) (K : Value → Heap → Prop) : Exit → (Nat → Value) → Heap → Prop := thenK (iwpP P c4z10 (K4z0 P K)) (K4z0 P K)
def K4z12 (P : Program) (K : Value → Heap → Prop) : Exit → (Nat → Value) → Heap → Prop := thenK (iwpP P c4z12 (K4z10 P K)) (K4z10 P K)
def K4z21 (P : Program) (K : Value → Heap → Prop) : Exit → (Nat → Value) → Heap → Prop := thenK (iwpP P c4z21 (K4z0 P K)) (K4z0 P K)
def p4z9 (P : Program) (K : Value → Heap → Prop) (j5 l7 c8 e9 bad10 : Value) (h : Heap) : Prop := CutP (iwpP P c4z9 (K4z0 P K)) [5, 7, 8, 9, 10] [j5, l7, c8, e9, bad10] h
def p4z14 (P : Program) (K : Value → Heap → Prop) (e9 bad10 x43 : Value) (h : Heap) : Prop := CutP (iwpP P c4z14 (K4z12 P K)) [9, 10, 43] [e9, bad10, x43] h
def p4z16 (P : Program) (K : Value → Heap → Prop) (x43 x46 : Value) (h : Heap) : Prop := CutP (iwpP P c4z16 (K4z12 P K)) [43, 46] [x43, x46] h
def p4z18 (P : Program) (K : Value → Heap → Prop) (x48 : Value) (h : Heap) : Prop := CutP (iwpP P c4z18 (K4z12 P K)) [48] [x48] h
def p4z20 (P : Program) (K : Value → Heap → Prop) (x48 x49 : Value) (h : Heap) : Prop := CutP (iwpP P c4z20 (K4z12 P K)) [48, 49] [x48, x49] h
def p4z23 (P : Program) (K : Value → Heap → Prop) (e9 x56 : Value) (h : Heap) : Prop := CutP (iwpP P c4z23 (K4z21 P K)) [9, 56] [e9, x56] h
def p4z25 (P : Program) (K : Value → Heap → Prop) (x56 x58 : Value) (h : Heap) : Prop := CutP (iwpP P c4z25 (K4z21 P K)) [56, 58] [x56, x58] h
def p4z27 (P : Program) (K : Value → Heap → Prop) (x60 : Value) (h : Heap) : Prop := CutP (iwpP P c4z27 (K4z21 P K)) [60] [x60] h
def p4z29 (P : Program) (K : Value → Heap → Prop) (x60 x61 : Value) (h : Heap) : Prop := CutP (iwpP P c4z29 (K4z21 P K)) [60, 61] [x60, x61] h
theorem q4z20 (P : Program) (K : Value → Heap → Prop) (x48 x49 : Value) (h : Heap) : p4z20 P K x48 x49 h =
  (OP (iPick x48 x49 (.bool false)) fun x50 =>
  K x50 h) := (CutP_def _ _ _ _).trans (by kernel_rfl)
theorem q4z18 (P : Program) (K : Value → Heap → Prop) (x48 : Value) (h : Heap) : p4z18 P K x48 h =
  (GdP x48 true
    (CallP P 14 [] h fun x49 h_1 =>
    p4z20 P K x48 x49 h_1)
    (p4z20 P K x48 undef h)) := (CutP_def _ _ _ _).trans (by kernel_rfl)
theorem q4z16 (P : Program) (K : Value → Heap → Prop) (x43 x46 : Value) (h : Heap) : p4z16 P K x43 x46 h =
  (OP (iPick x43 x46 (.bool false)) fun x47 =>
  p4z18 P K x47 h) := (CutP_def _ _ _ _).trans (by kernel_rfl)
theorem q4z14 (P : Program) (K : Value → Heap → Prop) (e9 bad10 x43 : Value) (h : Heap) : p4z14 P K e9 bad10 x43 h =
  (GdP x43 true
    (OP (iBin .eql e9 bad10) fun x46 =>
    p4z16 P K x43 x46 h)
    (p4z16 P K x43 undef h)) := (CutP_def _ _ _ _).trans (by kernel_rfl)
theorem q4z29 (P : Program) (K : Value → Heap → Prop) (x60 x61 : Value) (h : Heap) : p4z29 P K x60 x61 h =
  (OP (iPick x60 x61 (.bool false)) fun x62 =>
  K x62 h) := (CutP_def _ _ _ _).trans (by kernel_rfl)
theorem q4z27 (P : Program) (K : Value → Heap → Prop) (x60 : Value) (h : Heap) : p4z27 P K x60 h =
  (GdP x60 true
    (CallP P 14 [] h fun x61 h_1 =>
    p4z29 P K x60 x61 h_1)
    (p4z29 P K x60 undef h)) := (CutP_def _ _ _ _).trans (by kernel_rfl)
theorem q4z25 (P : Program) (K : Value → Heap → Prop) (x56 x58 : Value) (h : Heap) : p4z25 P K x56 x58 h =
  (OP (iPick x56 x58 (.bool false)) fun x59 =>
  p4z27 P K x59 h) := (CutP_def _ _ _ _).trans (by kernel_rfl)
theorem q4z23 (P : Program) (K : Value → Heap → Prop) (e9 x56 : Value) (h : Heap) : p4z23 P K e9 x56 h =
  (GdP x56 true
    (OP (iBin .eql e9 (.int .i64 (0))) fun x58 =>
    p4z25 P K x56 x58 h)
    (p4z25 P K x56 undef h)) := (CutP_def _ _ _ _).trans (by kernel_rfl)
theorem q4z9 (P : Program) (K : Value → Heap → Prop) (j5 l7 c8 e9 bad10 : Value) (h : Heap) : p4z9 P K j5 l7 c8 e9 bad10 h =
  (OP (iBin .neq bad10 (.int .i64 (0))) fun x40 =>
  IfP x40
    (OP (iBin .eql c8 (.int .i64 (0))) fun x42 =>
    p4z14 P K e9 bad10 x42 h)
    (CallP P 13 [j5, l7] h fun x54 h_1 =>
    OP (iBin .eql c8 x54) fun x55 =>
    p4z23 P K e9 x55 h_1)) := (CutP_def _ _ _ _).trans (by kernel_rfl)
def T4 (P : Program) (K : Value → Heap → Prop) (s0 x1 : Value) (h : Heap) : Prop :=
  OH (iBox 38 h s0) fun s2 h_1 =>
  OP (iLoad true 2 h_1 s2) fun x12 =>
  CallP P 15 [x12, (.int .i64 (10))] h_1 fun x13 h_2 =>
  OP (iExt 0 x13) fun x14 =>
  OP (iExt 1 x13) fun x15 =>
  OH (iMkSl 3 0 [(.int .i64 (0))] h_2 []) fun x16 h_3 =>
  OP (iLenSl x1) fun x19 =>
  OP (iMinmax false [x19, (.int .i64 (11))]) fun x20 =>
  OP (iSlSl 3 1 x1 none (some x20)) fun x21 =>
  OH (iApp 3 1 8 h_3 x16 x21) fun x22 h_4 =>
  CallP P 16 [x14, x15, x22] h_4 fun x27 h_5 =>
  OP (iExt 0 x27) fun x28 =>
  OP (iExt 1 x27) fun x29 =>
  CallP P 17 [x14, x15] h_5 fun x32 h_6 =>
  OP (iUn .not x32) fun x33 =>
  IfP x33
    (p4z9 P K x14 x22 x28 x29 (.int .i64 (1)) h_6)
    (CallP P 12 [x14, x15, x22] h_6 fun x37 h_7 =>
    OP (iUn .not x37) fun x38 =>
    IfP x38
      (p4z9 P K x14 x22 x28 x29 (.int .i64 (2)) h_7)
      (p4z9 P K x14 x22 x28 x29 (.int .i64 (0)) h_7))
theorem e4 (P : Program) (K : Value → Heap → Prop) (s0 x1 : Value) (h : Heap) : iwpP P c4 (bodyP [.tmp 4] K) (frame0 [s0, x1]) h = T4 P K s0 x1 h := by kernel_rfl
theorem f4 {K : Value → Heap → Prop} {s0 x1 : Value} {h : Heap} (H : T4 Try.prog K s0 x1 h) : CallP Try.prog 4 [s0, x1] h K :=
  callP_intro k4 (Nat.le_of_ble_eq_true rfl) ((e4 Try.prog K s0 x1 h).mpr H)
/-! F5: pommel/pommellaw06.MendBests -/
noncomputable def c5z27 : ICode := .ops none [⟨(some 55), .p (.pick (.tmp 53) (.tmp 54) (.const (.bool false)))⟩,
   ⟨(some 2), .p (.mv (.tmp 55))⟩]
noncomputable def c5z25 : ICode := .seq (.ops (some (53, true)) [⟨(some 54), .call 14 []⟩])
 (.cut [53, 54] c5z27)
noncomputable def c5z23 : ICode := .seq (.ops none [⟨(some 52), .p (.pick (.tmp 49) (.tmp 51) (.const (.bool false)))⟩,
    ⟨(some 53), .p (.mv (.tmp 52))⟩])
 (.cut [53] c5z25)
noncomputable def c5z21 : ICode := .seq (.ops (some (49, true)) [⟨(some 50), .p (.mv (.tmp 9))⟩,
    ⟨(some 51), .p (.bin .eql (.tmp 50) (.const (.int .i64 (1))))⟩])
 (.cut [49, 51] c5z23)
noncomputable def c5z19 : ICode := .seq (.ops none [⟨(some 48), .p (.pick (.tmp 45) (.tmp 47) (.const (.bool false)))⟩,
    ⟨(some 49), .p (.mv (.tmp 48))⟩])
 (.cut [9, 49] c5z21)
noncomputable def c5z17 : ICode := .seq (.ops (some (45, true)) [⟨(some 46), .p (.mv (.tmp 8))⟩,
    ⟨(some 47), .p (.bin .eql (.tmp 46) (.const (.int .i64 (0))))⟩])
 (.cut [9, 45, 47] c5z19)
noncomputable def c5z15 : ICode := .seq (.ops none [⟨(some 44), .p (.pick (.tmp 41) (.tmp 43) (.const (.bool false)))⟩,
    ⟨(some 45), .p (.mv (.tmp 44))⟩])
 (.cut [8, 9, 45] c5z17)
noncomputable def c5z13 : ICode := .seq (.ops (some (41, true)) [⟨(some 42), .p (.mv (.tmp 7))⟩,
    ⟨(some 43), .p (.bin .eql (.tmp 42) (.const (.int .i64 (1))))⟩])
 (.cut [8, 9, 41, 43] c5z15)
noncomputable def c5z11 : ICode := .seq (.ops none [⟨(some 40), .p (.pick (.tmp 37) (.tmp 39) (.const (.bool false)))⟩,
    ⟨(some 41), .p (.mv (.tmp 40))⟩])
 (.cut [7, 8, 9, 41] c5z13)
noncomputable def c5z9 : ICode := .seq (.ops (some (37, true)) [⟨(some 38), .p (.mv (.tmp 6))⟩,
    ⟨(some 39), .p (.bin .eql (.tmp 38) (.const (.int .i64 (0))))⟩])
 (.cut [7, 8, 9, 37, 39] c5z11)
noncomputable def c5z7 : ICode := .ret
noncomputable def c5z49 : ICode := .ops none [⟨(some 87), .p (.pick (.tmp 85) (.tmp 86) (.const (.bool false)))⟩,
   ⟨(some 2), .p (.mv (.tmp 87))⟩]
noncomputable def c5z47 : ICode := .seq (.ops (some (85, true)) [⟨(some 86), .call 14 []⟩])
 (.cut [85, 86] c5z49)
noncomputable def c5z45 : ICode := .seq (.ops none [⟨(some 84), .p (.pick (.tmp 81) (.tmp 83) (.const (.bool false)))⟩,
    ⟨(some 85), .p (.mv (.tmp 84))⟩])
 (.cut [85] c5z47)
noncomputable def c5z43 : ICode := .seq (.ops (some (81, true)) [⟨(some 82), .p (.mv (.tmp 9))⟩,
    ⟨(some 83), .p (.bin .eql (.tmp 82) (.const (.int .i64 (0))))⟩])
 (.cut [81, 83] c5z45)
noncomputable def c5z41 : ICode := .seq (.ops none [⟨(some 80), .p (.pick (.tmp 76) (.tmp 79) (.const (.bool false)))⟩,
    ⟨(some 81), .p (.mv (.tmp 80))⟩])
 (.cut [9, 81] c5z43)
noncomputable def c5z39 : ICode := .seq (.ops (some (76, true)) [⟨(some 77), .p (.mv (.tmp 8))⟩,
    ⟨(some 78), .p (.mv (.tmp 11))⟩,
    ⟨(some 79), .p (.bin .eql (.tmp 77) (.tmp 78))⟩])
 (.cut [9, 76, 79] c5z41)
noncomputable def c5z37 : ICode := .seq (.ops none [⟨(some 75), .p (.pick (.tmp 72) (.tmp 74) (.const (.bool false)))⟩,
    ⟨(some 76), .p (.mv (.tmp 75))⟩])
 (.cut [8, 9, 11, 76] c5z39)
noncomputable def c5z35 : ICode := .seq (.ops (some (72, true)) [⟨(some 73), .p (.mv (.tmp 7))⟩,
    ⟨(some 74), .p (.bin .eql (.tmp 73) (.const (.int .i64 (0))))⟩])
 (.cut [8, 9, 11, 72, 74] c5z37)
noncomputable def c5z33 : ICode := .seq (.ops none [⟨(some 71), .p (.pick (.tmp 65) (.tmp 70) (.const (.bool false)))⟩,
    ⟨(some 72), .p (.mv (.tmp 71))⟩])
 (.cut [7, 8, 9, 11, 72] c5z35)
noncomputable def c5z31 : ICode := .seq (.ops (some (65, true)) [⟨(some 66), .p (.mv (.tmp 6))⟩,
    ⟨(some 67), .p (.mv (.tmp 3))⟩,
    ⟨(some 68), .p (.mv (.tmp 10))⟩,
    ⟨(some 69), .call 13 [(.tmp 67), (.tmp 68)]⟩,
    ⟨(some 70), .p (.bin .eql (.tmp 66) (.tmp 69))⟩])
 (.cut [7, 8, 9, 11, 65, 70] c5z33)
noncomputable def c5z29 : ICode := .ret
noncomputable def c5z5 : ICode := .seq (.ops none [⟨(some 57), .p (.mv (.tmp 3))⟩,
    ⟨(some 58), .p (.mv (.tmp 4))⟩,
    ⟨(some 59), .call 19 [(.tmp 57), (.tmp 58), (.const (.slice none 0 0)), (.const (.int .i64 (0)))]⟩,
    ⟨(some 56), .p (.mv (.tmp 59))⟩,
    ⟨(some 60), .p (.ext (.tmp 56) 0)⟩,
    ⟨(some 61), .p (.ext (.tmp 56) 1)⟩,
    ⟨(some 10), .p (.mv (.tmp 60))⟩,
    ⟨(some 11), .p (.mv (.tmp 61))⟩])
 (.seq (.seq (.ops none [⟨(some 62), .p (.mv (.tmp 5))⟩,
     ⟨(some 63), .p (.mv (.tmp 10))⟩,
     ⟨(some 64), .call 20 [(.tmp 62), (.tmp 63)]⟩,
     ⟨(some 65), .p (.mv (.tmp 64))⟩])
  (.cut [3, 6, 7, 8, 9, 10, 11, 65] c5z31)) c5z29)
noncomputable def c5 : ICode := .seq (.ops none [⟨(some 1), .e (.box 38 (.tmp 0))⟩,
    ⟨(some 2), .p (.mv (.const (.bool false)))⟩])
 (.seq (.ops none [⟨(some 13), .l (.load true 2 (.tmp 1))⟩,
    ⟨(some 14), .call 15 [(.tmp 13), (.const (.int .i64 (6)))]⟩,
    ⟨(some 12), .p (.mv (.tmp 14))⟩,
    ⟨(some 15), .p (.ext (.tmp 12) 0)⟩,
    ⟨(some 16), .p (.ext (.tmp 12) 1)⟩,
    ⟨(some 3), .p (.mv (.tmp 15))⟩,
    ⟨(some 4), .p (.mv (.tmp 16))⟩])
 (.seq (.ops none [⟨(some 18), .p (.mv (.tmp 3))⟩,
    ⟨(some 19), .p (.mv (.tmp 4))⟩,
    ⟨(some 20), .call 11 [(.tmp 18), (.tmp 19)]⟩,
    ⟨(some 17), .p (.mv (.tmp 20))⟩,
    ⟨(some 21), .p (.ext (.tmp 17) 0)⟩,
    ⟨(some 22), .p (.ext (.tmp 17) 1)⟩,
    ⟨(some 23), .p (.ext (.tmp 17) 2)⟩,
    ⟨(some 5), .p (.mv (.tmp 21))⟩,
    ⟨(some 6), .p (.mv (.tmp 22))⟩,
    ⟨(some 7), .p (.mv (.tmp 23))⟩])
 (.seq (.ops none [⟨(some 25), .p (.mv (.tmp 3))⟩,
    ⟨(some 26), .p (.mv (.tmp 4))⟩,
    ⟨(some 27), .call 18 [(.tmp 25), (.tmp 26)]⟩,
    ⟨(some 24), .p (.mv (.tmp 27))⟩,
    ⟨(some 28), .p (.ext (.tmp 24) 0)⟩,
    ⟨(some 29), .p (.ext (.tmp 24) 1)⟩,
    ⟨(some 8), .p (.mv (.tmp 28))⟩,
    ⟨(some 9), .p (.mv (.tmp 29))⟩])
 (.seq (.seq (.ops none [⟨(some 30), .p (.mv (.tmp 3))⟩,
     ⟨(some 31), .p (.mv (.tmp 4))⟩,
     ⟨(some 32), .call 17 [(.tmp 30), (.tmp 31)]⟩,
     ⟨(some 33), .p (.un .not (.tmp 32))⟩])
  (.cond (.tmp 33) (.seq (.seq (.ops none [⟨(some 34), .p (.mv (.tmp 5))⟩,
       ⟨(some 35), .p (.lenSl (.tmp 34))⟩,
       ⟨(some 36), .p (.bin .eql (.tmp 35) (.const (.int .i64 (0))))⟩,
       ⟨(some 37), .p (.mv (.tmp 36))⟩])
    (.cut [6, 7, 8, 9, 37] c5z9)) c5z7)
  (.skip))) c5z5))))
theorem k5 : compFn Try.prog 5 [[], [], [], [], [], [6, 7, 8, 9, 37], [7, 8, 9, 37, 39], [7, 8, 9, 41], [8, 9, 41, 43], [8, 9, 45], [9, 45, 47], [9, 49], [49, 51], [53], [53, 54], [], [], [], [3, 6, 7, 8, 9, 10, 11, 65], [7, 8, 9, 11, 65, 70], [7, 8, 9, 11, 72], [8, 9, 11, 72, 74], [8, 9, 11, 76], [9, 76, 79], [9, 81], [81, 83], [85], [85, 86], []] = some (88, c5, [.tmp 2]) := by kernel_rfl
def K5z0 (_P : Program) (K : Value → Heap → Prop) : Exit → (Nat → Value) → Heap → Prop := bodyP [.tmp 2] K
def K5z5 (P : Program) (K : Value → Heap → Prop) : Exit → (Nat → Value) → Heap → Prop := thenK (iwpP P c5z5 (K5z0 P K)) (K5z0 P K)
def K5z7 (P : Program) (K : Value → Heap → Prop) : Exit → (Nat → Value) → Heap → Prop := thenK (iwpP P c5z7 (K5z5 P K)) (K5z5 P K)
def K5z29 (P : Program) (K : Value → Heap → Prop) : Exit → (Nat → Value) → Heap → Prop := thenK (iwpP P c5z29 (K5z0 P K)) (K5z0 P K)
def p5z9 (P : Program) (K : Value → Heap → Prop) (c6 e7 n8 f9 x37 : Value) (h : Heap) : Prop := CutP (iwpP P c5z9 (K5z7 P K)) [6, 7, 8, 9, 37] [c6, e7, n8, f9, x37] h
def p5z11 (P : Program) (K : Value → Heap → Prop) (e7 n8 f9 x37 x39 : Value) (h : Heap) : Prop := CutP (iwpP P c5z11 (K5z7 P K)) [7, 8, 9, 37, 39] [e7, n8, f9, x37, x39] h
def p5z13 (P : Program) (K : Value → Heap → Prop) (e7 n8 f9 x41 : Value) (h : Heap) : Prop := CutP (iwpP P c5z13 (K5z7 P K)) [7, 8, 9, 41] [e7, n8, f9, x41] h
def p5z15 (P : Program) (K : Value → Heap → Prop) (n8 f9 x41 x43 : Value) (h : Heap) : Prop := CutP (iwpP P c5z15 (K5z7 P K)) [8, 9, 41, 43] [n8, f9, x41, x43] h
def p5z17 (P : Program) (K : Value → Heap → Prop) (n8 f9 x45 : Value) (h : Heap) : Prop := CutP (iwpP P c5z17 (K5z7 P K)) [8, 9, 45] [n8, f9, x45] h
def p5z19 (P : Program) (K : Value → Heap → Prop) (f9 x45 x47 : Value) (h : Heap) : Prop := CutP (iwpP P c5z19 (K5z7 P K)) [9, 45, 47] [f9, x45, x47] h
def p5z21 (P : Program) (K : Value → Heap → Prop) (f9 x49 : Value) (h : Heap) : Prop := CutP (iwpP P c5z21 (K5z7 P K)) [9, 49] [f9, x49] h
def p5z23 (P : Program) (K : Value → Heap → Prop) (x49 x51 : Value) (h : Heap) : Prop := CutP (iwpP P c5z23 (K5z7 P K)) [49, 51] [x49, x51] h
def p5z25 (P : Program) (K : Value → Heap → Prop) (x53 : Value) (h : Heap) : Prop := CutP (iwpP P c5z25 (K5z7 P K)) [53] [x53] h
def p5z27 (P : Program) (K : Value → Heap → Prop) (x53 x54 : Value) (h : Heap) : Prop := CutP (iwpP P c5z27 (K5z7 P K)) [53, 54] [x53, x54] h
def p5z31 (P : Program) (K : Value → Heap → Prop) (j3 c6 e7 n8 f9 want10 many11 x65 : Value) (h : Heap) : Prop := CutP (iwpP P c5z31 (K5z29 P K)) [3, 6, 7, 8, 9, 10, 11, 65] [j3, c6, e7, n8, f9, want10, many11, x65] h
def p5z33 (P : Program) (K : Value → Heap → Prop) (e7 n8 f9 many11 x65 x70 : Value) (h : Heap) : Prop := CutP (iwpP P c5z33 (K5z29 P K)) [7, 8, 9, 11, 65, 70] [e7, n8, f9, many11, x65, x70] h
def p5z35 (P : Program) (K : Value → Heap → Prop) (e7 n8 f9 many11 x72 : Value) (h : Heap) : Prop := CutP (iwpP P c5z35 (K5z29 P K)) [7, 8, 9, 11, 72] [e7, n8, f9, many11, x72] h
def p5z37 (P : Program) (K : Value → Heap → Prop) (n8 f9 many11 x72 x74 : Value) (h : Heap) : Prop := CutP (iwpP P c5z37 (K5z29 P K)) [8, 9, 11, 72, 74] [n8, f9, many11, x72, x74] h
def p5z39 (P : Program) (K : Value → Heap → Prop) (n8 f9 many11 x76 : Value) (h : Heap) : Prop := CutP (iwpP P c5z39 (K5z29 P K)) [8, 9, 11, 76] [n8, f9, many11, x76] h
def p5z41 (P : Program) (K : Value → Heap → Prop) (f9 x76 x79 : Value) (h : Heap) : Prop := CutP (iwpP P c5z41 (K5z29 P K)) [9, 76, 79] [f9, x76, x79] h
def p5z43 (P : Program) (K : Value → Heap → Prop) (f9 x81 : Value) (h : Heap) : Prop := CutP (iwpP P c5z43 (K5z29 P K)) [9, 81] [f9, x81] h
def p5z45 (P : Program) (K : Value → Heap → Prop) (x81 x83 : Value) (h : Heap) : Prop := CutP (iwpP P c5z45 (K5z29 P K)) [81, 83] [x81, x83] h
def p5z47 (P : Program) (K : Value → Heap → Prop) (x85 : Value) (h : Heap) : Prop := CutP (iwpP P c5z47 (K5z29 P K)) [85] [x85] h
def p5z49 (P : Program) (K : Value → Heap → Prop) (x85 x86 : Value) (h : Heap) : Prop := CutP (iwpP P c5z49 (K5z29 P K)) [85, 86] [x85, x86] h
theorem q5z27 (P : Program) (K : Value → Heap → Prop) (x53 x54 : Value) (h : Heap) : p5z27 P K x53 x54 h =
  (OP (iPick x53 x54 (.bool false)) fun x55 =>
  K x55 h) := (CutP_def _ _ _ _).trans (by kernel_rfl)
theorem q5z25 (P : Program) (K : Value → Heap → Prop) (x53 : Value) (h : Heap) : p5z25 P K x53 h =
  (GdP x53 true
    (CallP P 14 [] h fun x54 h_1 =>
    p5z27 P K x53 x54 h_1)
    (p5z27 P K x53 undef h)) := (CutP_def _ _ _ _).trans (by kernel_rfl)
theorem q5z23 (P : Program) (K : Value → Heap → Prop) (x49 x51 : Value) (h : Heap) : p5z23 P K x49 x51 h =
  (OP (iPick x49 x51 (.bool false)) fun x52 =>
  p5z25 P K x52 h) := (CutP_def _ _ _ _).trans (by kernel_rfl)
theorem q5z21 (P : Program) (K : Value → Heap → Prop) (f9 x49 : Value) (h : Heap) : p5z21 P K f9 x49 h =
  (GdP x49 true
    (OP (iBin .eql f9 (.int .i64 (1))) fun x51 =>
    p5z23 P K x49 x51 h)
    (p5z23 P K x49 undef h)) := (CutP_def _ _ _ _).trans (by kernel_rfl)
theorem q5z19 (P : Program) (K : Value → Heap → Prop) (f9 x45 x47 : Value) (h : Heap) : p5z19 P K f9 x45 x47 h =
  (OP (iPick x45 x47 (.bool false)) fun x48 =>
  p5z21 P K f9 x48 h) := (CutP_def _ _ _ _).trans (by kernel_rfl)
theorem q5z17 (P : Program) (K : Value → Heap → Prop) (n8 f9 x45 : Value) (h : Heap) : p5z17 P K n8 f9 x45 h =
  (GdP x45 true
    (OP (iBin .eql n8 (.int .i64 (0))) fun x47 =>
    p5z19 P K f9 x45 x47 h)
    (p5z19 P K f9 x45 undef h)) := (CutP_def _ _ _ _).trans (by kernel_rfl)
theorem q5z15 (P : Program) (K : Value → Heap → Prop) (n8 f9 x41 x43 : Value) (h : Heap) : p5z15 P K n8 f9 x41 x43 h =
  (OP (iPick x41 x43 (.bool false)) fun x44 =>
  p5z17 P K n8 f9 x44 h) := (CutP_def _ _ _ _).trans (by kernel_rfl)
theorem q5z13 (P : Program) (K : Value → Heap → Prop) (e7 n8 f9 x41 : Value) (h : Heap) : p5z13 P K e7 n8 f9 x41 h =
  (GdP x41 true
    (OP (iBin .eql e7 (.int .i64 (1))) fun x43 =>
    p5z15 P K n8 f9 x41 x43 h)
    (p5z15 P K n8 f9 x41 undef h)) := (CutP_def _ _ _ _).trans (by kernel_rfl)
theorem q5z11 (P : Program) (K : Value → Heap → Prop) (e7 n8 f9 x37 x39 : Value) (h : Heap) : p5z11 P K e7 n8 f9 x37 x39 h =
  (OP (iPick x37 x39 (.bool false)) fun x40 =>
  p5z13 P K e7 n8 f9 x40 h) := (CutP_def _ _ _ _).trans (by kernel_rfl)
theorem q5z9 (P : Program) (K : Value → Heap → Prop) (c6 e7 n8 f9 x37 : Value) (h : Heap) : p5z9 P K c6 e7 n8 f9 x37 h =
  (GdP x37 true
    (OP (iBin .eql c6 (.int .i64 (0))) fun x39 =>
    p5z11 P K e7 n8 f9 x37 x39 h)
    (p5z11 P K e7 n8 f9 x37 undef h)) := (CutP_def _ _ _ _).trans (by kernel_rfl)
theorem q5z49 (P : Program) (K : Value → Heap → Prop) (x85 x86 : Value) (h : Heap) : p5z49 P K x85 x86 h =
  (OP (iPick x85 x86 (.bool false)) fun x87 =>
  K x87 h) := (CutP_def _ _ _ _).trans (by kernel_rfl)
theorem q5z47 (P : Program) (K : Value → Heap → Prop) (x85 : Value) (h : Heap) : p5z47 P K x85 h =
  (GdP x85 true
    (CallP P 14 [] h fun x86 h_1 =>
    p5z49 P K x85 x86 h_1)
    (p5z49 P K x85 undef h)) := (CutP_def _ _ _ _).trans (by kernel_rfl)
theorem q5z45 (P : Program) (K : Value → Heap → Prop) (x81 x83 : Value) (h : Heap) : p5z45 P K x81 x83 h =
  (OP (iPick x81 x83 (.bool false)) fun x84 =>
  p5z47 P K x84 h) := (CutP_def _ _ _ _).trans (by kernel_rfl)
theorem q5z43 (P : Program) (K : Value → Heap → Prop) (f9 x81 : Value) (h : Heap) : p5z43 P K f9 x81 h =
  (GdP x81 true
    (OP (iBin .eql f9 (.int .i64 (0))) fun x83 =>
    p5z45 P K x81 x83 h)
    (p5z45 P K x81 undef h)) := (CutP_def _ _ _ _).trans (by kernel_rfl)
theorem q5z41 (P : Program) (K : Value → Heap → Prop) (f9 x76 x79 : Value) (h : Heap) : p5z41 P K f9 x76 x79 h =
  (OP (iPick x76 x79 (.bool false)) fun x80 =>
  p5z43 P K f9 x80 h) := (CutP_def _ _ _ _).trans (by kernel_rfl)
theorem q5z39 (P : Program) (K : Value → Heap → Prop) (n8 f9 many11 x76 : Value) (h : Heap) : p5z39 P K n8 f9 many11 x76 h =
  (GdP x76 true
    (OP (iBin .eql n8 many11) fun x79 =>
    p5z41 P K f9 x76 x79 h)
    (p5z41 P K f9 x76 undef h)) := (CutP_def _ _ _ _).trans (by kernel_rfl)
theorem q5z37 (P : Program) (K : Value → Heap → Prop) (n8 f9 many11 x72 x74 : Value) (h : Heap) : p5z37 P K n8 f9 many11 x72 x74 h =
  (OP (iPick x72 x74 (.bool false)) fun x75 =>
  p5z39 P K n8 f9 many11 x75 h) := (CutP_def _ _ _ _).trans (by kernel_rfl)
theorem q5z35 (P : Program) (K : Value → Heap → Prop) (e7 n8 f9 many11 x72 : Value) (h : Heap) : p5z35 P K e7 n8 f9 many11 x72 h =
  (GdP x72 true
    (OP (iBin .eql e7 (.int .i64 (0))) fun x74 =>
    p5z37 P K n8 f9 many11 x72 x74 h)
    (p5z37 P K n8 f9 many11 x72 undef h)) := (CutP_def _ _ _ _).trans (by kernel_rfl)
theorem q5z33 (P : Program) (K : Value → Heap → Prop) (e7 n8 f9 many11 x65 x70 : Value) (h : Heap) : p5z33 P K e7 n8 f9 many11 x65 x70 h =
  (OP (iPick x65 x70 (.bool false)) fun x71 =>
  p5z35 P K e7 n8 f9 many11 x71 h) := (CutP_def _ _ _ _).trans (by kernel_rfl)
theorem q5z31 (P : Program) (K : Value → Heap → Prop) (j3 c6 e7 n8 f9 want10 many11 x65 : Value) (h : Heap) : p5z31 P K j3 c6 e7 n8 f9 want10 many11 x65 h =
  (GdP x65 true
    (CallP P 13 [j3, want10] h fun x69 h_1 =>
    OP (iBin .eql c6 x69) fun x70 =>
    p5z33 P K e7 n8 f9 many11 x65 x70 h_1)
    (p5z33 P K e7 n8 f9 many11 x65 undef h)) := (CutP_def _ _ _ _).trans (by kernel_rfl)
def T5 (P : Program) (K : Value → Heap → Prop) (s0 : Value) (h : Heap) : Prop :=
  OH (iBox 38 h s0) fun s1 h_1 =>
  OP (iLoad true 2 h_1 s1) fun x13 =>
  CallP P 15 [x13, (.int .i64 (6))] h_1 fun x14 h_2 =>
  OP (iExt 0 x14) fun x15 =>
  OP (iExt 1 x14) fun x16 =>
  CallP P 11 [x15, x16] h_2 fun x20 h_3 =>
  OP (iExt 0 x20) fun x21 =>
  OP (iExt 1 x20) fun x22 =>
  OP (iExt 2 x20) fun x23 =>
  CallP P 18 [x15, x16] h_3 fun x27 h_4 =>
  OP (iExt 0 x27) fun x28 =>
  OP (iExt 1 x27) fun x29 =>
  CallP P 17 [x15, x16] h_4 fun x32 h_5 =>
  OP (iUn .not x32) fun x33 =>
  IfP x33
    (OP (iLenSl x21) fun x35 =>
    OP (iBin .eql x35 (.int .i64 (0))) fun x36 =>
    p5z9 P K x22 x23 x28 x29 x36 h_5)
    (CallP P 19 [x15, x16, (.slice none 0 0), (.int .i64 (0))] h_5 fun x59 h_6 =>
    OP (iExt 0 x59) fun x60 =>
    OP (iExt 1 x59) fun x61 =>
    CallP P 20 [x21, x60] h_6 fun x64 h_7 =>
    p5z31 P K x15 x22 x23 x28 x29 x60 x61 x64 h_7)
theorem e5 (P : Program) (K : Value → Heap → Prop) (s0 : Value) (h : Heap) : iwpP P c5 (bodyP [.tmp 2] K) (frame0 [s0]) h = T5 P K s0 h := by kernel_rfl
theorem f5 {K : Value → Heap → Prop} {s0 : Value} {h : Heap} (H : T5 Try.prog K s0 h) : CallP Try.prog 5 [s0] h K :=
  callP_intro k5 (Nat.le_of_ble_eq_true rfl) ((e5 Try.prog K s0 h).mpr H)
/-! F6: pommel/pommellaw06.MendLeast -/
noncomputable def c6z27 : ICode := .ops none [⟨(some 55), .p (.pick (.tmp 53) (.tmp 54) (.const (.bool false)))⟩,
   ⟨(some 2), .p (.mv (.tmp 55))⟩]
noncomputable def c6z25 : ICode := .seq (.ops (some (53, true)) [⟨(some 54), .call 14 []⟩])
 (.cut [53, 54] c6z27)
noncomputable def c6z23 : ICode := .seq (.ops none [⟨(some 52), .p (.pick (.tmp 49) (.tmp 51) (.const (.bool false)))⟩,
    ⟨(some 53), .p (.mv (.tmp 52))⟩])
 (.cut [53] c6z25)
noncomputable def c6z21 : ICode := .seq (.ops (some (49, true)) [⟨(some 50), .p (.mv (.tmp 9))⟩,
    ⟨(some 51), .p (.bin .eql (.tmp 50) (.const (.int .i64 (1))))⟩])
 (.cut [49, 51] c6z23)
noncomputable def c6z19 : ICode := .seq (.ops none [⟨(some 48), .p (.pick (.tmp 45) (.tmp 47) (.const (.bool false)))⟩,
    ⟨(some 49), .p (.mv (.tmp 48))⟩])
 (.cut [9, 49] c6z21)
noncomputable def c6z17 : ICode := .seq (.ops (some (45, true)) [⟨(some 46), .p (.mv (.tmp 8))⟩,
    ⟨(some 47), .p (.bin .eql (.tmp 46) (.const (.int .i64 (0))))⟩])
 (.cut [9, 45, 47] c6z19)
noncomputable def c6z15 : ICode := .seq (.ops none [⟨(some 44), .p (.pick (.tmp 41) (.tmp 43) (.const (.bool false)))⟩,
    ⟨(some 45), .p (.mv (.tmp 44))⟩])
 (.cut [8, 9, 45] c6z17)
noncomputable def c6z13 : ICode := .seq (.ops (some (41, true)) [⟨(some 42), .p (.mv (.tmp 7))⟩,
    ⟨(some 43), .p (.bin .eql (.tmp 42) (.const (.int .i64 (1))))⟩])
 (.cut [8, 9, 41, 43] c6z15)
noncomputable def c6z11 : ICode := .seq (.ops none [⟨(some 40), .p (.pick (.tmp 37) (.tmp 39) (.const (.bool false)))⟩,
    ⟨(some 41), .p (.mv (.tmp 40))⟩])
 (.cut [7, 8, 9, 41] c6z13)
noncomputable def c6z9 : ICode := .seq (.ops (some (37, true)) [⟨(some 38), .p (.mv (.tmp 6))⟩,
    ⟨(some 39), .p (.bin .eql (.tmp 38) (.const (.int .i64 (0))))⟩])
 (.cut [7, 8, 9, 37, 39] c6z11)
noncomputable def c6z7 : ICode := .ret
noncomputable def c6z53 : ICode := .ops none [⟨(some 93), .p (.pick (.tmp 91) (.tmp 92) (.const (.bool false)))⟩,
   ⟨(some 2), .p (.mv (.tmp 93))⟩]
noncomputable def c6z51 : ICode := .seq (.ops (some (91, true)) [⟨(some 92), .call 14 []⟩])
 (.cut [91, 92] c6z53)
noncomputable def c6z49 : ICode := .seq (.ops none [⟨(some 90), .p (.pick (.tmp 87) (.tmp 89) (.const (.bool false)))⟩,
    ⟨(some 91), .p (.mv (.tmp 90))⟩])
 (.cut [91] c6z51)
noncomputable def c6z47 : ICode := .seq (.ops (some (87, true)) [⟨(some 88), .p (.mv (.tmp 9))⟩,
    ⟨(some 89), .p (.bin .eql (.tmp 88) (.const (.int .i64 (0))))⟩])
 (.cut [87, 89] c6z49)
noncomputable def c6z45 : ICode := .seq (.ops none [⟨(some 86), .p (.pick (.tmp 82) (.tmp 85) (.const (.bool false)))⟩,
    ⟨(some 87), .p (.mv (.tmp 86))⟩])
 (.cut [9, 87] c6z47)
noncomputable def c6z43 : ICode := .seq (.ops (some (82, true)) [⟨(some 83), .p (.mv (.tmp 8))⟩,
    ⟨(some 84), .p (.mv (.tmp 11))⟩,
    ⟨(some 85), .p (.bin .eql (.tmp 83) (.tmp 84))⟩])
 (.cut [9, 82, 85] c6z45)
noncomputable def c6z41 : ICode := .seq (.ops none [⟨(some 81), .p (.pick (.tmp 78) (.tmp 80) (.const (.bool false)))⟩,
    ⟨(some 82), .p (.mv (.tmp 81))⟩])
 (.cut [8, 9, 11, 82] c6z43)
noncomputable def c6z39 : ICode := .seq (.ops (some (78, true)) [⟨(some 79), .p (.mv (.tmp 7))⟩,
    ⟨(some 80), .p (.bin .eql (.tmp 79) (.const (.int .i64 (0))))⟩])
 (.cut [8, 9, 11, 78, 80] c6z41)
noncomputable def c6z37 : ICode := .seq (.ops none [⟨(some 77), .p (.pick (.tmp 71) (.tmp 76) (.const (.bool false)))⟩,
    ⟨(some 78), .p (.mv (.tmp 77))⟩])
 (.cut [7, 8, 9, 11, 78] c6z39)
noncomputable def c6z35 : ICode := .seq (.ops (some (71, true)) [⟨(some 72), .p (.mv (.tmp 3))⟩,
    ⟨(some 73), .p (.mv (.tmp 5))⟩,
    ⟨(some 74), .call 13 [(.tmp 72), (.tmp 73)]⟩,
    ⟨(some 75), .p (.mv (.tmp 10))⟩,
    ⟨(some 76), .p (.bin .eql (.tmp 74) (.tmp 75))⟩])
 (.cut [7, 8, 9, 11, 71, 76] c6z37)
noncomputable def c6z33 : ICode := .seq (.ops none [⟨(some 70), .p (.pick (.tmp 66) (.tmp 69) (.const (.bool false)))⟩,
    ⟨(some 71), .p (.mv (.tmp 70))⟩])
 (.cut [3, 5, 7, 8, 9, 10, 11, 71] c6z35)
noncomputable def c6z31 : ICode := .seq (.ops (some (66, true)) [⟨(some 67), .p (.mv (.tmp 6))⟩,
    ⟨(some 68), .p (.mv (.tmp 10))⟩,
    ⟨(some 69), .p (.bin .eql (.tmp 67) (.tmp 68))⟩])
 (.cut [3, 5, 7, 8, 9, 10, 11, 66, 69] c6z33)
noncomputable def c6z29 : ICode := .ret
noncomputable def c6z5 : ICode := .seq (.ops none [⟨(some 57), .p (.mv (.tmp 3))⟩,
    ⟨(some 58), .p (.mv (.tmp 4))⟩,
    ⟨(some 59), .call 21 [(.tmp 57), (.tmp 58)]⟩,
    ⟨(some 56), .p (.mv (.tmp 59))⟩,
    ⟨(some 60), .p (.ext (.tmp 56) 0)⟩,
    ⟨(some 61), .p (.ext (.tmp 56) 1)⟩,
    ⟨(some 10), .p (.mv (.tmp 60))⟩,
    ⟨(some 11), .p (.mv (.tmp 61))⟩])
 (.seq (.seq (.ops none [⟨(some 62), .p (.mv (.tmp 3))⟩,
     ⟨(some 63), .p (.mv (.tmp 4))⟩,
     ⟨(some 64), .p (.mv (.tmp 5))⟩,
     ⟨(some 65), .call 12 [(.tmp 62), (.tmp 63), (.tmp 64)]⟩,
     ⟨(some 66), .p (.mv (.tmp 65))⟩])
  (.cut [3, 5, 6, 7, 8, 9, 10, 11, 66] c6z31)) c6z29)
noncomputable def c6 : ICode := .seq (.ops none [⟨(some 1), .e (.box 38 (.tmp 0))⟩,
    ⟨(some 2), .p (.mv (.const (.bool false)))⟩])
 (.seq (.ops none [⟨(some 13), .l (.load true 2 (.tmp 1))⟩,
    ⟨(some 14), .call 15 [(.tmp 13), (.const (.int .i64 (10)))]⟩,
    ⟨(some 12), .p (.mv (.tmp 14))⟩,
    ⟨(some 15), .p (.ext (.tmp 12) 0)⟩,
    ⟨(some 16), .p (.ext (.tmp 12) 1)⟩,
    ⟨(some 3), .p (.mv (.tmp 15))⟩,
    ⟨(some 4), .p (.mv (.tmp 16))⟩])
 (.seq (.ops none [⟨(some 18), .p (.mv (.tmp 3))⟩,
    ⟨(some 19), .p (.mv (.tmp 4))⟩,
    ⟨(some 20), .call 11 [(.tmp 18), (.tmp 19)]⟩,
    ⟨(some 17), .p (.mv (.tmp 20))⟩,
    ⟨(some 21), .p (.ext (.tmp 17) 0)⟩,
    ⟨(some 22), .p (.ext (.tmp 17) 1)⟩,
    ⟨(some 23), .p (.ext (.tmp 17) 2)⟩,
    ⟨(some 5), .p (.mv (.tmp 21))⟩,
    ⟨(some 6), .p (.mv (.tmp 22))⟩,
    ⟨(some 7), .p (.mv (.tmp 23))⟩])
 (.seq (.ops none [⟨(some 25), .p (.mv (.tmp 3))⟩,
    ⟨(some 26), .p (.mv (.tmp 4))⟩,
    ⟨(some 27), .call 18 [(.tmp 25), (.tmp 26)]⟩,
    ⟨(some 24), .p (.mv (.tmp 27))⟩,
    ⟨(some 28), .p (.ext (.tmp 24) 0)⟩,
    ⟨(some 29), .p (.ext (.tmp 24) 1)⟩,
    ⟨(some 8), .p (.mv (.tmp 28))⟩,
    ⟨(some 9), .p (.mv (.tmp 29))⟩])
 (.seq (.seq (.ops none [⟨(some 30), .p (.mv (.tmp 3))⟩,
     ⟨(some 31), .p (.mv (.tmp 4))⟩,
     ⟨(some 32), .call 17 [(.tmp 30), (.tmp 31)]⟩,
     ⟨(some 33), .p (.un .not (.tmp 32))⟩])
  (.cond (.tmp 33) (.seq (.seq (.ops none [⟨(some 34), .p (.mv (.tmp 5))⟩,
       ⟨(some 35), .p (.lenSl (.tmp 34))⟩,
       ⟨(some 36), .p (.bin .eql (.tmp 35) (.const (.int .i64 (0))))⟩,
       ⟨(some 37), .p (.mv (.tmp 36))⟩])
    (.cut [6, 7, 8, 9, 37] c6z9)) c6z7)
  (.skip))) c6z5))))
theorem k6 : compFn Try.prog 6 [[], [], [], [], [], [6, 7, 8, 9, 37], [7, 8, 9, 37, 39], [7, 8, 9, 41], [8, 9, 41, 43], [8, 9, 45], [9, 45, 47], [9, 49], [49, 51], [53], [53, 54], [], [], [], [3, 5, 6, 7, 8, 9, 10, 11, 66], [3, 5, 7, 8, 9, 10, 11, 66, 69], [3, 5, 7, 8, 9, 10, 11, 71], [7, 8, 9, 11, 71, 76], [7, 8, 9, 11, 78], [8, 9, 11, 78, 80], [8, 9, 11, 82], [9, 82, 85], [9, 87], [87, 89], [91], [91, 92], []] = some (94, c6, [.tmp 2]) := by kernel_rfl
def K6z0 (_P : Program) (K : Value → Heap → Prop) : Exit → (Nat → Value) → Heap → Prop := bodyP [.tmp 2] K
def K6z5 (P : Program) (K : Value → Heap → Prop) : Exit → (Nat → Value) → Heap → Prop := thenK (iwpP P c6z5 (K6z0 P K)) (K6z0 P K)
def K6z7 (P : Program) (K : Value → Heap → Prop) : Exit → (Nat → Value) → Heap → Prop := thenK (iwpP P c6z7 (K6z5 P K)) (K6z5 P K)
def K6z29 (P : Program) (K : Value → Heap → Prop) : Exit → (Nat → Value) → Heap → Prop := thenK (iwpP P c6z29 (K6z0 P K)) (K6z0 P K)
def p6z9 (P : Program) (K : Value → Heap → Prop) (c6 e7 n8 f9 x37 : Value) (h : Heap) : Prop := CutP (iwpP P c6z9 (K6z7 P K)) [6, 7, 8, 9, 37] [c6, e7, n8, f9, x37] h
def p6z11 (P : Program) (K : Value → Heap → Prop) (e7 n8 f9 x37 x39 : Value) (h : Heap) : Prop := CutP (iwpP P c6z11 (K6z7 P K)) [7, 8, 9, 37, 39] [e7, n8, f9, x37, x39] h
def p6z13 (P : Program) (K : Value → Heap → Prop) (e7 n8 f9 x41 : Value) (h : Heap) : Prop := CutP (iwpP P c6z13 (K6z7 P K)) [7, 8, 9, 41] [e7, n8, f9, x41] h
def p6z15 (P : Program) (K : Value → Heap → Prop) (n8 f9 x41 x43 : Value) (h : Heap) : Prop := CutP (iwpP P c6z15 (K6z7 P K)) [8, 9, 41, 43] [n8, f9, x41, x43] h
def p6z17 (P : Program) (K : Value → Heap → Prop) (n8 f9 x45 : Value) (h : Heap) : Prop := CutP (iwpP P c6z17 (K6z7 P K)) [8, 9, 45] [n8, f9, x45] h
def p6z19 (P : Program) (K : Value → Heap → Prop) (f9 x45 x47 : Value) (h : Heap) : Prop := CutP (iwpP P c6z19 (K6z7 P K)) [9, 45, 47] [f9, x45, x47] h
def p6z21 (P : Program) (K : Value → Heap → Prop) (f9 x49 : Value) (h : Heap) : Prop := CutP (iwpP P c6z21 (K6z7 P K)) [9, 49] [f9, x49] h
def p6z23 (P : Program) (K : Value → Heap → Prop) (x49 x51 : Value) (h : Heap) : Prop := CutP (iwpP P c6z23 (K6z7 P K)) [49, 51] [x49, x51] h
def p6z25 (P : Program) (K : Value → Heap → Prop) (x53 : Value) (h : Heap) : Prop := CutP (iwpP P c6z25 (K6z7 P K)) [53] [x53] h
def p6z27 (P : Program) (K : Value → Heap → Prop) (x53 x54 : Value) (h : Heap) : Prop := CutP (iwpP P c6z27 (K6z7 P K)) [53, 54] [x53, x54] h
def p6z31 (P : Program) (K : Value → Heap → Prop) (j3 l5 c6 e7 n8 f9 cost10 many11 x66 : Value) (h : Heap) : Prop := CutP (iwpP P c6z31 (K6z29 P K)) [3, 5, 6, 7, 8, 9, 10, 11, 66] [j3, l5, c6, e7, n8, f9, cost10, many11, x66] h
def p6z33 (P : Program) (K : Value → Heap → Prop) (j3 l5 e7 n8 f9 cost10 many11 x66 x69 : Value) (h : Heap) : Prop := CutP (iwpP P c6z33 (K6z29 P K)) [3, 5, 7, 8, 9, 10, 11, 66, 69] [j3, l5, e7, n8, f9, cost10, many11, x66, x69] h
def p6z35 (P : Program) (K : Value → Heap → Prop) (j3 l5 e7 n8 f9 cost10 many11 x71 : Value) (h : Heap) : Prop := CutP (iwpP P c6z35 (K6z29 P K)) [3, 5, 7, 8, 9, 10, 11, 71] [j3, l5, e7, n8, f9, cost10, many11, x71] h
def p6z37 (P : Program) (K : Value → Heap → Prop) (e7 n8 f9 many11 x71 x76 : Value) (h : Heap) : Prop := CutP (iwpP P c6z37 (K6z29 P K)) [7, 8, 9, 11, 71, 76] [e7, n8, f9, many11, x71, x76] h
def p6z39 (P : Program) (K : Value → Heap → Prop) (e7 n8 f9 many11 x78 : Value) (h : Heap) : Prop := CutP (iwpP P c6z39 (K6z29 P K)) [7, 8, 9, 11, 78] [e7, n8, f9, many11, x78] h
def p6z41 (P : Program) (K : Value → Heap → Prop) (n8 f9 many11 x78 x80 : Value) (h : Heap) : Prop := CutP (iwpP P c6z41 (K6z29 P K)) [8, 9, 11, 78, 80] [n8, f9, many11, x78, x80] h
def p6z43 (P : Program) (K : Value → Heap → Prop) (n8 f9 many11 x82 : Value) (h : Heap) : Prop := CutP (iwpP P c6z43 (K6z29 P K)) [8, 9, 11, 82] [n8, f9, many11, x82] h
def p6z45 (P : Program) (K : Value → Heap → Prop) (f9 x82 x85 : Value) (h : Heap) : Prop := CutP (iwpP P c6z45 (K6z29 P K)) [9, 82, 85] [f9, x82, x85] h
def p6z47 (P : Program) (K : Value → Heap → Prop) (f9 x87 : Value) (h : Heap) : Prop := CutP (iwpP P c6z47 (K6z29 P K)) [9, 87] [f9, x87] h
def p6z49 (P : Program) (K : Value → Heap → Prop) (x87 x89 : Value) (h : Heap) : Prop := CutP (iwpP P c6z49 (K6z29 P K)) [87, 89] [x87, x89] h
def p6z51 (P : Program) (K : Value → Heap → Prop) (x91 : Value) (h : Heap) : Prop := CutP (iwpP P c6z51 (K6z29 P K)) [91] [x91] h
def p6z53 (P : Program) (K : Value → Heap → Prop) (x91 x92 : Value) (h : Heap) : Prop := CutP (iwpP P c6z53 (K6z29 P K)) [91, 92] [x91, x92] h
theorem q6z27 (P : Program) (K : Value → Heap → Prop) (x53 x54 : Value) (h : Heap) : p6z27 P K x53 x54 h =
  (OP (iPick x53 x54 (.bool false)) fun x55 =>
  K x55 h) := (CutP_def _ _ _ _).trans (by kernel_rfl)
theorem q6z25 (P : Program) (K : Value → Heap → Prop) (x53 : Value) (h : Heap) : p6z25 P K x53 h =
  (GdP x53 true
    (CallP P 14 [] h fun x54 h_1 =>
    p6z27 P K x53 x54 h_1)
    (p6z27 P K x53 undef h)) := (CutP_def _ _ _ _).trans (by kernel_rfl)
theorem q6z23 (P : Program) (K : Value → Heap → Prop) (x49 x51 : Value) (h : Heap) : p6z23 P K x49 x51 h =
  (OP (iPick x49 x51 (.bool false)) fun x52 =>
  p6z25 P K x52 h) := (CutP_def _ _ _ _).trans (by kernel_rfl)
theorem q6z21 (P : Program) (K : Value → Heap → Prop) (f9 x49 : Value) (h : Heap) : p6z21 P K f9 x49 h =
  (GdP x49 true
    (OP (iBin .eql f9 (.int .i64 (1))) fun x51 =>
    p6z23 P K x49 x51 h)
    (p6z23 P K x49 undef h)) := (CutP_def _ _ _ _).trans (by kernel_rfl)
theorem q6z19 (P : Program) (K : Value → Heap → Prop) (f9 x45 x47 : Value) (h : Heap) : p6z19 P K f9 x45 x47 h =
  (OP (iPick x45 x47 (.bool false)) fun x48 =>
  p6z21 P K f9 x48 h) := (CutP_def _ _ _ _).trans (by kernel_rfl)
theorem q6z17 (P : Program) (K : Value → Heap → Prop) (n8 f9 x45 : Value) (h : Heap) : p6z17 P K n8 f9 x45 h =
  (GdP x45 true
    (OP (iBin .eql n8 (.int .i64 (0))) fun x47 =>
    p6z19 P K f9 x45 x47 h)
    (p6z19 P K f9 x45 undef h)) := (CutP_def _ _ _ _).trans (by kernel_rfl)
theorem q6z15 (P : Program) (K : Value → Heap → Prop) (n8 f9 x41 x43 : Value) (h : Heap) : p6z15 P K n8 f9 x41 x43 h =
  (OP (iPick x41 x43 (.bool false)) fun x44 =>
  p6z17 P K n8 f9 x44 h) := (CutP_def _ _ _ _).trans (by kernel_rfl)
theorem q6z13 (P : Program) (K : Value → Heap → Prop) (e7 n8 f9 x41 : Value) (h : Heap) : p6z13 P K e7 n8 f9 x41 h =
  (GdP x41 true
    (OP (iBin .eql e7 (.int .i64 (1))) fun x43 =>
    p6z15 P K n8 f9 x41 x43 h)
    (p6z15 P K n8 f9 x41 undef h)) := (CutP_def _ _ _ _).trans (by kernel_rfl)
theorem q6z11 (P : Program) (K : Value → Heap → Prop) (e7 n8 f9 x37 x39 : Value) (h : Heap) : p6z11 P K e7 n8 f9 x37 x39 h =
  (OP (iPick x37 x39 (.bool false)) fun x40 =>
  p6z13 P K e7 n8 f9 x40 h) := (CutP_def _ _ _ _).trans (by kernel_rfl)
theorem q6z9 (P : Program) (K : Value → Heap → Prop) (c6 e7 n8 f9 x37 : Value) (h : Heap) : p6z9 P K c6 e7 n8 f9 x37 h =
  (GdP x37 true
    (OP (iBin .eql c6 (.int .i64 (0))) fun x39 =>
    p6z11 P K e7 n8 f9 x37 x39 h)
    (p6z11 P K e7 n8 f9 x37 undef h)) := (CutP_def _ _ _ _).trans (by kernel_rfl)
theorem q6z53 (P : Program) (K : Value → Heap → Prop) (x91 x92 : Value) (h : Heap) : p6z53 P K x91 x92 h =
  (OP (iPick x91 x92 (.bool false)) fun x93 =>
  K x93 h) := (CutP_def _ _ _ _).trans (by kernel_rfl)
theorem q6z51 (P : Program) (K : Value → Heap → Prop) (x91 : Value) (h : Heap) : p6z51 P K x91 h =
  (GdP x91 true
    (CallP P 14 [] h fun x92 h_1 =>
    p6z53 P K x91 x92 h_1)
    (p6z53 P K x91 undef h)) := (CutP_def _ _ _ _).trans (by kernel_rfl)
theorem q6z49 (P : Program) (K : Value → Heap → Prop) (x87 x89 : Value) (h : Heap) : p6z49 P K x87 x89 h =
  (OP (iPick x87 x89 (.bool false)) fun x90 =>
  p6z51 P K x90 h) := (CutP_def _ _ _ _).trans (by kernel_rfl)
theorem q6z47 (P : Program) (K : Value → Heap → Prop) (f9 x87 : Value) (h : Heap) : p6z47 P K f9 x87 h =
  (GdP x87 true
    (OP (iBin .eql f9 (.int .i64 (0))) fun x89 =>
    p6z49 P K x87 x89 h)
    (p6z49 P K x87 undef h)) := (CutP_def _ _ _ _).trans (by kernel_rfl)
theorem q6z45 (P : Program) (K : Value → Heap → Prop) (f9 x82 x85 : Value) (h : Heap) : p6z45 P K f9 x82 x85 h =
  (OP (iPick x82 x85 (.bool false)) fun x86 =>
  p6z47 P K f9 x86 h) := (CutP_def _ _ _ _).trans (by kernel_rfl)
theorem q6z43 (P : Program) (K : Value → Heap → Prop) (n8 f9 many11 x82 : Value) (h : Heap) : p6z43 P K n8 f9 many11 x82 h =
  (GdP x82 true
    (OP (iBin .eql n8 many11) fun x85 =>
    p6z45 P K f9 x82 x85 h)
    (p6z45 P K f9 x82 undef h)) := (CutP_def _ _ _ _).trans (by kernel_rfl)
theorem q6z41 (P : Program) (K : Value → Heap → Prop) (n8 f9 many11 x78 x80 : Value) (h : Heap) : p6z41 P K n8 f9 many11 x78 x80 h =
  (OP (iPick x78 x80 (.bool false)) fun x81 =>
  p6z43 P K n8 f9 many11 x81 h) := (CutP_def _ _ _ _).trans (by kernel_rfl)
theorem q6z39 (P : Program) (K : Value → Heap → Prop) (e7 n8 f9 many11 x78 : Value) (h : Heap) : p6z39 P K e7 n8 f9 many11 x78 h =
  (GdP x78 true
    (OP (iBin .eql e7 (.int .i64 (0))) fun x80 =>
    p6z41 P K n8 f9 many11 x78 x80 h)
    (p6z41 P K n8 f9 many11 x78 undef h)) := (CutP_def _ _ _ _).trans (by kernel_rfl)
theorem q6z37 (P : Program) (K : Value → Heap → Prop) (e7 n8 f9 many11 x71 x76 : Value) (h : Heap) : p6z37 P K e7 n8 f9 many11 x71 x76 h =
  (OP (iPick x71 x76 (.bool false)) fun x77 =>
  p6z39 P K e7 n8 f9 many11 x77 h) := (CutP_def _ _ _ _).trans (by kernel_rfl)
theorem q6z35 (P : Program) (K : Value → Heap → Prop) (j3 l5 e7 n8 f9 cost10 many11 x71 : Value) (h : Heap) : p6z35 P K j3 l5 e7 n8 f9 cost10 many11 x71 h =
  (GdP x71 true
    (CallP P 13 [j3, l5] h fun x74 h_1 =>
    OP (iBin .eql x74 cost10) fun x76 =>
    p6z37 P K e7 n8 f9 many11 x71 x76 h_1)
    (p6z37 P K e7 n8 f9 many11 x71 undef h)) := (CutP_def _ _ _ _).trans (by kernel_rfl)
theorem q6z33 (P : Program) (K : Value → Heap → Prop) (j3 l5 e7 n8 f9 cost10 many11 x66 x69 : Value) (h : Heap) : p6z33 P K j3 l5 e7 n8 f9 cost10 many11 x66 x69 h =
  (OP (iPick x66 x69 (.bool false)) fun x70 =>
  p6z35 P K j3 l5 e7 n8 f9 cost10 many11 x70 h) := (CutP_def _ _ _ _).trans (by kernel_rfl)
theorem q6z31 (P : Program) (K : Value → Heap → Prop) (j3 l5 c6 e7 n8 f9 cost10 many11 x66 : Value) (h : Heap) : p6z31 P K j3 l5 c6 e7 n8 f9 cost10 many11 x66 h =
  (GdP x66 true
    (OP (iBin .eql c6 cost10) fun x69 =>
    p6z33 P K j3 l5 e7 n8 f9 cost10 many11 x66 x69 h)
    (p6z33 P K j3 l5 e7 n8 f9 cost10 many11 x66 undef h)) := (CutP_def _ _ _ _).trans (by kernel_rfl)
def T6 (P : Program) (K : Value → Heap → Prop) (s0 : Value) (h : Heap) : Prop :=
  OH (iBox 38 h s0) fun s1 h_1 =>
  OP (iLoad true 2 h_1 s1) fun x13 =>
  CallP P 15 [x13, (.int .i64 (10))] h_1 fun x14 h_2 =>
  OP (iExt 0 x14) fun x15 =>
  OP (iExt 1 x14) fun x16 =>
  CallP P 11 [x15, x16] h_2 fun x20 h_3 =>
  OP (iExt 0 x20) fun x21 =>
  OP (iExt 1 x20) fun x22 =>
  OP (iExt 2 x20) fun x23 =>
  CallP P 18 [x15, x16] h_3 fun x27 h_4 =>
  OP (iExt 0 x27) fun x28 =>
  OP (iExt 1 x27) fun x29 =>
  CallP P 17 [x15, x16] h_4 fun x32 h_5 =>
  OP (iUn .not x32) fun x33 =>
  IfP x33
    (OP (iLenSl x21) fun x35 =>
    OP (iBin .eql x35 (.int .i64 (0))) fun x36 =>
    p6z9 P K x22 x23 x28 x29 x36 h_5)
    (CallP P 21 [x15, x16] h_5 fun x59 h_6 =>
    OP (iExt 0 x59) fun x60 =>
    OP (iExt 1 x59) fun x61 =>
    CallP P 12 [x15, x16, x21] h_6 fun x65 h_7 =>
    p6z31 P K x15 x21 x22 x23 x28 x29 x60 x61 x65 h_7)
theorem e6 (P : Program) (K : Value → Heap → Prop) (s0 : Value) (h : Heap) : iwpP P c6 (bodyP [.tmp 2] K) (frame0 [s0]) h = T6 P K s0 h := by kernel_rfl
theorem f6 {K : Value → Heap → Prop} {s0 : Value} {h : Heap} (H : T6 Try.prog K s0 h) : CallP Try.prog 6 [s0] h K :=
  callP_intro k6 (Nat.le_of_ble_eq_true rfl) ((e6 Try.prog K s0 h).mpr H)
/-! F10: pommel/pommellaw06.made -/
noncomputable def c10z12 : ICode := .ops none [⟨(some 26), .p (.pick (.tmp 22) (.tmp 25) (.const (.bool false)))⟩]
noncomputable def c10z10 : ICode := .seq (.ops (some (22, true)) [⟨(some 23), .p (.mv (.tmp 12))⟩,
    ⟨(some 24), .p (.mv (.tmp 2))⟩,
    ⟨(some 25), .p (.bin .lss (.tmp 23) (.tmp 24))⟩])
 (.cut [0, 1, 2, 3, 10, 11, 12, 22, 25] c10z12)
noncomputable def c10z8 : ICode := .cond (.tmp 26) (.skip)
 (.exit 0)
noncomputable def c10z7 : ICode := .seq (.block 1 (.dops [(none, [⟨(some 29), .p (.mv (.tmp 10)), 0⟩,
     ⟨(some 30), .p (.mv (.tmp 0)), 0⟩,
     ⟨(some 31), .p (.mv (.tmp 12)), 0⟩,
     ⟨(some 32), .p (.adrSl 2 (.tmp 30) (.tmp 31)), 6⟩,
     ⟨(some 33), .p (.adrArr 2 1 (.tmp 32) (.const (.int .i64 (0)))), 14⟩,
     ⟨(some 34), .l (.load false 1 (.tmp 33)), 30⟩,
     ⟨(some 35), .p (.conv .i64 (.tmp 34)), 62⟩,
     ⟨(some 36), .p (.bin .rem (.tmp 35) (.const (.int .i64 (50)))), 126⟩,
     ⟨(some 37), .p (.bin .add (.tmp 36) (.const (.int .i64 (1)))), 254⟩,
     ⟨(some 38), .p (.mv (.tmp 0)), 0⟩,
     ⟨(some 39), .p (.mv (.tmp 12)), 0⟩,
     ⟨(some 40), .p (.adrSl 2 (.tmp 38) (.tmp 39)), 1536⟩,
     ⟨(some 41), .p (.adrArr 2 1 (.tmp 40) (.const (.int .i64 (1)))), 3584⟩,
     ⟨(some 42), .l (.load false 1 (.tmp 41)), 7680⟩,
     ⟨(some 43), .p (.conv .i64 (.tmp 42)), 15872⟩,
     ⟨(some 44), .p (.mv (.tmp 3)), 0⟩,
     ⟨(some 45), .p (.bin .sub (.const (.int .i64 (51))) (.tmp 44)), 32768⟩,
     ⟨(some 46), .p (.bin .rem (.tmp 43) (.tmp 45)), 130560⟩,
     ⟨(some 47), .p (.mv (.tmp 3)), 0⟩,
     ⟨(some 48), .p (.bin .add (.tmp 46) (.tmp 47)), 523776⟩,
     ⟨(some 49), .p (.build [(.int .i64 (0)), (.int .i64 (0))] [(0, 1, (.tmp 37)), (1, 1, (.tmp 48))]), 1048574⟩,
     ⟨(some 50), .e (.mkSl 35 1 [(.int .i64 (0)), (.int .i64 (0))] [(0, 2, (.tmp 49))]), 2097150⟩,
     ⟨(some 51), .e (.app 35 2 16 (.tmp 29) (.tmp 50)), 4194303⟩,
     ⟨(some 10), .p (.mv (.tmp 51)), 8388607⟩])]))
 (.ops none [⟨(some 27), .p (.mv (.tmp 12))⟩,
   ⟨(some 28), .p (.bin .add (.tmp 27) (.const (.int .i64 (1))))⟩,
   ⟨(some 12), .p (.mv (.tmp 28))⟩])
noncomputable def c10z6 : ICode := .seq (.seq (.seq (.ops none [⟨(some 18), .p (.mv (.tmp 12))⟩,
      ⟨(some 19), .p (.mv (.tmp 0))⟩,
      ⟨(some 20), .p (.lenSl (.tmp 19))⟩,
      ⟨(some 21), .p (.bin .lss (.tmp 18) (.tmp 20))⟩,
      ⟨(some 22), .p (.mv (.tmp 21))⟩])
   (.cut [0, 1, 2, 3, 10, 11, 12, 22] c10z10)) c10z8) c10z7
noncomputable def c10z28 : ICode := .ops none [⟨(some 66), .p (.pick (.tmp 63) (.tmp 65) (.const (.bool false)))⟩]
noncomputable def c10z26 : ICode := .seq (.ops (some (63, true)) [⟨(some 64), .p (.mv (.tmp 13))⟩,
    ⟨(some 65), .p (.bin .lss (.tmp 64) (.const (.int .i64 (20))))⟩])
 (.cut [1, 10, 11, 13, 63, 65] c10z28)
noncomputable def c10z24 : ICode := .cond (.tmp 66) (.skip)
 (.exit 2)
noncomputable def c10z35 : ICode := .ops none [⟨(some 67), .p (.mv (.tmp 13))⟩,
   ⟨(some 68), .p (.bin .add (.tmp 67) (.const (.int .i64 (1))))⟩,
   ⟨(some 13), .p (.mv (.tmp 68))⟩]
noncomputable def c10z23 : ICode := .seq (.block 3 (.seq (.dops [(none, [⟨(some 69), .p (.mv (.tmp 1)), 0⟩,
      ⟨(some 70), .p (.mv (.tmp 13)), 0⟩,
      ⟨(some 71), .p (.adrSl 2 (.tmp 69) (.tmp 70)), 3⟩,
      ⟨(some 72), .p (.adrArr 2 1 (.tmp 71) (.const (.int .i64 (0)))), 7⟩,
      ⟨(some 73), .l (.load false 1 (.tmp 72)), 15⟩,
      ⟨(some 74), .p (.conv .i64 (.tmp 73)), 31⟩,
      ⟨(some 75), .p (.mv (.tmp 10)), 0⟩,
      ⟨(some 76), .p (.lenSl (.tmp 75)), 64⟩,
      ⟨(some 77), .p (.bin .rem (.tmp 74) (.tmp 76)), 255⟩,
      ⟨(some 78), .p (.mv (.tmp 1)), 0⟩,
      ⟨(some 79), .p (.mv (.tmp 13)), 0⟩,
      ⟨(some 80), .p (.adrSl 2 (.tmp 78) (.tmp 79)), 1536⟩,
      ⟨(some 81), .p (.adrArr 2 1 (.tmp 80) (.const (.int .i64 (1)))), 3584⟩,
      ⟨(some 82), .l (.load false 1 (.tmp 81)), 7680⟩,
      ⟨(some 83), .p (.conv .i64 (.tmp 82)), 15872⟩,
      ⟨(some 84), .p (.mv (.tmp 10)), 0⟩,
      ⟨(some 85), .p (.lenSl (.tmp 84)), 32768⟩,
      ⟨(some 86), .p (.bin .rem (.tmp 83) (.tmp 85)), 130560⟩,
      ⟨(some 14), .p (.mv (.tmp 77)), 511⟩,
      ⟨(some 15), .p (.mv (.tmp 86)), 524287⟩])])
   (.seq (.seq (.ops none [⟨(some 87), .p (.mv (.tmp 14))⟩,
       ⟨(some 88), .p (.mv (.tmp 15))⟩,
       ⟨(some 89), .p (.bin .eql (.tmp 87) (.tmp 88))⟩])
    (.cond (.tmp 89) (.exit 3)
    (.skip)))
   (.seq (.ops none [⟨(some 90), .p (.mv (.tmp 14))⟩,
      ⟨(some 91), .p (.bin .mul (.const (.int .i64 (7))) (.tmp 90))⟩,
      ⟨(some 92), .p (.bin .rem (.tmp 91) (.const (.int .i64 (11))))⟩,
      ⟨(some 93), .p (.mv (.tmp 15))⟩,
      ⟨(some 94), .p (.bin .mul (.const (.int .i64 (7))) (.tmp 93))⟩,
      ⟨(some 95), .p (.bin .rem (.tmp 94) (.const (.int .i64 (11))))⟩,
      ⟨(some 96), .p (.bin .lss (.tmp 92) (.tmp 95))⟩])
   (.cond (.tmp 96) (.ops none [⟨(some 97), .p (.mv (.tmp 11))⟩,
      ⟨(some 98), .p (.mv (.tmp 14))⟩,
      ⟨(some 99), .p (.mv (.tmp 15))⟩,
      ⟨(some 100), .p (.build [(.int .i64 (0)), (.int .i64 (0))] [(0, 1, (.tmp 98)), (1, 1, (.tmp 99))])⟩,
      ⟨(some 101), .e (.mkSl 54 1 [(.int .i64 (0)), (.int .i64 (0))] [(0, 2, (.tmp 100))])⟩,
      ⟨(some 102), .e (.app 54 2 16 (.tmp 97) (.tmp 101))⟩,
      ⟨(some 11), .p (.mv (.tmp 102))⟩])
   (.ops none [⟨(some 103), .p (.mv (.tmp 11))⟩,
      ⟨(some 104), .p (.mv (.tmp 15))⟩,
      ⟨(some 105), .p (.mv (.tmp 14))⟩,
      ⟨(some 106), .p (.build [(.int .i64 (0)), (.int .i64 (0))] [(0, 1, (.tmp 104)), (1, 1, (.tmp 105))])⟩,
      ⟨(some 107), .e (.mkSl 54 1 [(.int .i64 (0)), (.int .i64 (0))] [(0, 2, (.tmp 106))])⟩,
      ⟨(some 108), .e (.app 54 2 16 (.tmp 103) (.tmp 107))⟩,
      ⟨(some 11), .p (.mv (.tmp 108))⟩]))))))
 (.cut [1, 10, 11, 13] c10z35)
noncomputable def c10z22 : ICode := .seq (.seq (.seq (.ops none [⟨(some 59), .p (.mv (.tmp 13))⟩,
      ⟨(some 60), .p (.mv (.tmp 1))⟩,
      ⟨(some 61), .p (.lenSl (.tmp 60))⟩,
      ⟨(some 62), .p (.bin .lss (.tmp 59) (.tmp 61))⟩,
      ⟨(some 63), .p (.mv (.tmp 62))⟩])
   (.cut [1, 10, 11, 13, 63] c10z26)) c10z24) c10z23
noncomputable def c10z36 : ICode := .seq (.ops none [⟨(some 109), .p (.mv (.tmp 10))⟩,
    ⟨(some 110), .p (.mv (.tmp 11))⟩,
    ⟨(some 8), .p (.mv (.tmp 109))⟩,
    ⟨(some 9), .p (.mv (.tmp 110))⟩])
 (.ret)
noncomputable def c10z19 : ICode := .cut [10, 11] c10z36
noncomputable def c10z18 : ICode := .seq (.seq (.ops none [⟨(some 13), .p (.mv (.const (.int .i64 (0))))⟩])
  (.block 2 (.loop [1, 10] [11, 13] c10z22))) c10z19
noncomputable def c10z15 : ICode := .seq (.seq (.ops none [⟨(some 52), .p (.mv (.tmp 10))⟩,
     ⟨(some 53), .p (.lenSl (.tmp 52))⟩,
     ⟨(some 54), .p (.bin .eql (.tmp 53) (.const (.int .i64 (0))))⟩])
  (.cond (.tmp 54) (.ops none [⟨(some 55), .p (.mv (.tmp 10))⟩,
     ⟨(some 56), .p (.build [(.int .i64 (0)), (.int .i64 (0))] [(0, 1, (.const (.int .i64 (1)))), (1, 1, (.const (.int .i64 (1))))])⟩,
     ⟨(some 57), .e (.mkSl 35 1 [(.int .i64 (0)), (.int .i64 (0))] [(0, 2, (.tmp 56))])⟩,
     ⟨(some 58), .e (.app 35 2 16 (.tmp 55) (.tmp 57))⟩,
     ⟨(some 10), .p (.mv (.tmp 58))⟩])
  (.skip)))
 (.cut [1, 10, 11] c10z18)
noncomputable def c10z3 : ICode := .cut [1, 10, 11] c10z15
noncomputable def c10 : ICode := .seq (.ops none [⟨(some 8), .p (.mv (.const (.slice none 0 0)))⟩,
    ⟨(some 9), .p (.mv (.const (.slice none 0 0)))⟩])
 (.seq (.ops none [⟨(some 16), .e (.mkSl 35 0 [(.int .i64 (0)), (.int .i64 (0))] [])⟩,
    ⟨(some 17), .e (.mkSl 54 0 [(.int .i64 (0)), (.int .i64 (0))] [])⟩,
    ⟨(some 10), .p (.mv (.tmp 16))⟩,
    ⟨(some 11), .p (.mv (.tmp 17))⟩])
 (.seq (.seq (.ops none [⟨(some 12), .p (.mv (.const (.int .i64 (0))))⟩])
  (.block 0 (.loop [0, 1, 2, 3, 11] [10, 12] c10z6))) c10z3))
theorem k10 : compFn Try.prog 10 [[], [], [], [0, 1, 2, 3, 11], [10, 12], [0, 1, 2, 3, 10, 11, 12, 22], [0, 1, 2, 3, 10, 11, 12, 22, 25], [], [], [], [1, 10, 11], [], [1, 10, 11], [], [1, 10], [11, 13], [1, 10, 11, 13, 63], [1, 10, 11, 13, 63, 65], [], [], [], [], [], [], [1, 10, 11, 13], [10, 11], []] = some (111, c10, [.tmp 8, .tmp 9]) := by kernel_rfl
def K10z0 (_P : Program) (K : Value → Heap → Prop) : Exit → (Nat → Value) → Heap → Prop := bodyP [.tmp 8, .tmp 9] K
def K10z3 (P : Program) (K : Value → Heap → Prop) : Exit → (Nat → Value) → Heap → Prop := thenK (iwpP P c10z3 (K10z0 P K)) (K10z0 P K)
def K10z5 (P : Program) (K : Value → Heap → Prop) : Exit → (Nat → Value) → Heap → Prop := inBlockK 0 (K10z3 P K)
def K10z6 (P : Program) (K : Value → Heap → Prop) (x0 y1 most2 least3 p11 : Value) (L1 : List Value → Heap → Prop) : Exit → (Nat → Value) → Heap → Prop := thenK (fun f' h'' => (([0, 1, 2, 3, 11] : List Nat).map f' : List Value) = [x0, y1, most2, least3, p11] ∧ L1 (([10, 12] : List Nat).map f') h'') (K10z5 P K)
def K10z7 (P : Program) (K : Value → Heap → Prop) (x0 y1 most2 least3 p11 : Value) (L1 : List Value → Heap → Prop) : Exit → (Nat → Value) → Heap → Prop := thenK (iwpP P c10z7 (K10z6 P K x0 y1 most2 least3 p11 L1)) (K10z6 P K x0 y1 most2 least3 p11 L1)
def K10z8 (P : Program) (K : Value → Heap → Prop) (x0 y1 most2 least3 p11 : Value) (L1 : List Value → Heap → Prop) : Exit → (Nat → Value) → Heap → Prop := thenK (iwpP P c10z8 (K10z7 P K x0 y1 most2 least3 p11 L1)) (K10z7 P K x0 y1 most2 least3 p11 L1)
def K10z19 (P : Program) (K : Value → Heap → Prop) : Exit → (Nat → Value) → Heap → Prop := thenK (iwpP P c10z19 (K10z0 P K)) (K10z0 P K)
def K10z21 (P : Program) (K : Value → Heap → Prop) : Exit → (Nat → Value) → Heap → Prop := inBlockK 2 (K10z19 P K)
def K10z22 (P : Program) (K : Value → Heap → Prop) (y1 j10 : Value) (L1 : List Value → Heap → Prop) : Exit → (Nat → Value) → Heap → Prop := thenK (fun f' h'' => (([1, 10] : List Nat).map f' : List Value) = [y1, j10] ∧ L1 (([11, 13] : List Nat).map f') h'') (K10z21 P K)
def K10z23 (P : Program) (K : Value → Heap → Prop) (y1 j10 : Value) (L1 : List Value → Heap → Prop) : Exit → (Nat → Value) → Heap → Prop := thenK (iwpP P c10z23 (K10z22 P K y1 j10 L1)) (K10z22 P K y1 j10 L1)
def K10z24 (P : Program) (K : Value → Heap → Prop) (y1 j10 : Value) (L1 : List Value → Heap → Prop) : Exit → (Nat → Value) → Heap → Prop := thenK (iwpP P c10z24 (K10z23 P K y1 j10 L1)) (K10z23 P K y1 j10 L1)
def p10z6 (P : Program) (K : Value → Heap → Prop) (x0 y1 most2 least3 p11 : Value) (L1 : List Value → Heap → Prop) (xs : List Value) (h : Heap) : Prop := CutP (iwpP P c10z6 (K10z6 P K x0 y1 most2 least3 p11 L1)) ([0, 1, 2, 3, 11] ++ [10, 12]) ([x0, y1, most2, least3, p11] ++ xs) h
def p10z10 (P : Program) (K : Value → Heap → Prop) (x0 y1 most2 least3 j10 p11 i12 x22 : Value) (L1 : List Value → Heap → Prop) (h : Heap) : Prop := CutP (iwpP P c10z10 (K10z8 P K x0 y1 most2 least3 p11 L1)) [0, 1, 2, 3, 10, 11, 12, 22] [x0, y1, most2, least3, j10, p11, i12, x22] h
def p10z12 (P : Program) (K : Value → Heap → Prop) (x0 y1 most2 least3 j10 p11 i12 x22 x25 : Value) (L1 : List Value → Heap → Prop) (h : Heap) : Prop := CutP (iwpP P c10z12 (K10z8 P K x0 y1 most2 least3 p11 L1)) [0, 1, 2, 3, 10, 11, 12, 22, 25] [x0, y1, most2, least3, j10, p11, i12, x22, x25] h
def p10z15 (P : Program) (K : Value → Heap → Prop) (y1 j10 p11 : Value) (h : Heap) : Prop := CutP (iwpP P c10z15 (K10z0 P K)) [1, 10, 11] [y1, j10, p11] h
def p10z18 (P : Program) (K : Value → Heap → Prop) (y1 j10 p11 : Value) (h : Heap) : Prop := CutP (iwpP P c10z18 (K10z0 P K)) [1, 10, 11] [y1, j10, p11] h
def p10z22 (P : Program) (K : Value → Heap → Prop) (y1 j10 : Value) (L1 : List Value → Heap → Prop) (xs : List Value) (h : Heap) : Prop := CutP (iwpP P c10z22 (K10z22 P K y1 j10 L1)) ([1, 10] ++ [11, 13]) ([y1, j10] ++ xs) h
def p10z26 (P : Program) (K : Value → Heap → Prop) (y1 j10 p11 i13 x63 : Value) (L1 : List Value → Heap → Prop) (h : Heap) : Prop := CutP (iwpP P c10z26 (K10z24 P K y1 j10 L1)) [1, 10, 11, 13, 63] [y1, j10, p11, i13, x63] h
def p10z28 (P : Program) (K : Value → Heap → Prop) (y1 j10 p11 i13 x63 x65 : Value) (L1 : List Value → Heap → Prop) (h : Heap) : Prop := CutP (iwpP P c10z28 (K10z24 P K y1 j10 L1)) [1, 10, 11, 13, 63, 65] [y1, j10, p11, i13, x63, x65] h
def p10z35 (P : Program) (K : Value → Heap → Prop) (y1 j10 p11 i13 : Value) (L1 : List Value → Heap → Prop) (h : Heap) : Prop := CutP (iwpP P c10z35 (K10z22 P K y1 j10 L1)) [1, 10, 11, 13] [y1, j10, p11, i13] h
def p10z36 (P : Program) (K : Value → Heap → Prop) (j10 p11 : Value) (h : Heap) : Prop := CutP (iwpP P c10z36 (K10z0 P K)) [10, 11] [j10, p11] h
theorem q10z12 (P : Program) (K : Value → Heap → Prop) (x0 y1 most2 least3 j10 p11 i12 x22 x25 : Value) (L1 : List Value → Heap → Prop) (h : Heap) : p10z12 P K x0 y1 most2 least3 j10 p11 i12 x22 x25 L1 h =
  (OP (iPick x22 x25 (.bool false)) fun x26 =>
  IfP x26
    (OP (iAdrSl 2 x0 i12) fun x32 =>
    OP (iAdrArr 2 1 x32 (.int .i64 (0))) fun x33 =>
    OP (iLoad false 1 h x33) fun x34 =>
    (True) ∧
    OP (iConv .i64 x34) fun x35 =>
    OP (iBin .rem x35 (.int .i64 (50))) fun x36 =>
    OP (iBin .add x36 (.int .i64 (1))) fun x37 =>
    OP (iAdrSl 2 x0 i12) fun x40 =>
    OP (iAdrArr 2 1 x40 (.int .i64 (1))) fun x41 =>
    OP (iLoad false 1 h x41) fun x42 =>
    (True) ∧
    OP (iConv .i64 x42) fun x43 =>
    OP (iBin .sub (.int .i64 (51)) least3) fun x45 =>
    OP (iBin .rem x43 x45) fun x46 =>
    OP (iBin .add x46 least3) fun x48 =>
    OP (iBuild [(.int .i64 (0)), (.int .i64 (0))] [(0, 1, x37), (1, 1, x48)]) fun x49 =>
    OH (iMkSl 35 1 [(.int .i64 (0)), (.int .i64 (0))] h [(0, 2, x49)]) fun x50 h_1 =>
    (True) ∧
    OH (iApp 35 2 16 h_1 j10 x50) fun x51 h_2 =>
    (True) ∧
    OP (iBin .add i12 (.int .i64 (1))) fun x28 =>
    ([x0, y1, most2, least3, p11] : List Value) = [x0, y1, most2, least3, p11] ∧ L1 [x51, x28] h_2)
    (p10z15 P K y1 j10 p11 h)) := (CutP_def _ _ _ _).trans (by kernel_rfl)
theorem q10z10 (P : Program) (K : Value → Heap → Prop) (x0 y1 most2 least3 j10 p11 i12 x22 : Value) (L1 : List Value → Heap → Prop) (h : Heap) : p10z10 P K x0 y1 most2 least3 j10 p11 i12 x22 L1 h =
  (GdP x22 true
    (OP (iBin .lss i12 most2) fun x25 =>
    p10z12 P K x0 y1 most2 least3 j10 p11 i12 x22 x25 L1 h)
    (p10z12 P K x0 y1 most2 least3 j10 p11 i12 x22 undef L1 h)) := (CutP_def _ _ _ _).trans (by kernel_rfl)
theorem q10z6 (P : Program) (K : Value → Heap → Prop) (x0 y1 most2 least3 p11 : Value) (L1 : List Value → Heap → Prop) (j10 i12 : Value) (h : Heap) : p10z6 P K x0 y1 most2 least3 p11 L1 [j10, i12] h =
  (OP (iLenSl x0) fun x20 =>
  OP (iBin .lss i12 x20) fun x21 =>
  p10z10 P K x0 y1 most2 least3 j10 p11 i12 x21 L1 h) := (CutP_def _ _ _ _).trans (by kernel_rfl)
theorem q10z28 (P : Program) (K : Value → Heap → Prop) (y1 j10 p11 i13 x63 x65 : Value) (L1 : List Value → Heap → Prop) (h : Heap) : p10z28 P K y1 j10 p11 i13 x63 x65 L1 h =
  (OP (iPick x63 x65 (.bool false)) fun x66 =>
  IfP x66
    (OP (iAdrSl 2 y1 i13) fun x71 =>
    OP (iAdrArr 2 1 x71 (.int .i64 (0))) fun x72 =>
    OP (iLoad false 1 h x72) fun x73 =>
    (True) ∧
    OP (iConv .i64 x73) fun x74 =>
    OP (iLenSl j10) fun x76 =>
    OP (iBin .rem x74 x76) fun x77 =>
    OP (iAdrSl 2 y1 i13) fun x80 =>
    OP (iAdrArr 2 1 x80 (.int .i64 (1))) fun x81 =>
    OP (iLoad false 1 h x81) fun x82 =>
    (True) ∧
    OP (iConv .i64 x82) fun x83 =>
    OP (iLenSl j10) fun x85 =>
    OP (iBin .rem x83 x85) fun x86 =>
    OP (iBin .eql x77 x86) fun x89 =>
    IfP x89
      (p10z35 P K y1 j10 p11 i13 L1 h)
      (OP (iBin .mul (.int .i64 (7)) x77) fun x91 =>
      OP (iBin .rem x91 (.int .i64 (11))) fun x92 =>
      OP (iBin .mul (.int .i64 (7)) x86) fun x94 =>
      OP (iBin .rem x94 (.int .i64 (11))) fun x95 =>
      OP (iBin .lss x92 x95) fun x96 =>
      IfP x96
        (OP (iBuild [(.int .i64 (0)), (.int .i64 (0))] [(0, 1, x77), (1, 1, x86)]) fun x100 =>
        OH (iMkSl 54 1 [(.int .i64 (0)), (.int .i64 (0))] h [(0, 2, x100)]) fun x101 h_1 =>
        OH (iApp 54 2 16 h_1 p11 x101) fun x102 h_2 =>
        p10z35 P K y1 j10 x102 i13 L1 h_2)
        (OP (iBuild [(.int .i64 (0)), (.int .i64 (0))] [(0, 1, x86), (1, 1, x77)]) fun x106 =>
        OH (iMkSl 54 1 [(.int .i64 (0)), (.int .i64 (0))] h [(0, 2, x106)]) fun x107 h_1 =>
        OH (iApp 54 2 16 h_1 p11 x107) fun x108 h_2 =>
        p10z35 P K y1 j10 x108 i13 L1 h_2)))
    (p10z36 P K j10 p11 h)) := (CutP_def _ _ _ _).trans (by kernel_rfl)
theorem q10z26 (P : Program) (K : Value → Heap → Prop) (y1 j10 p11 i13 x63 : Value) (L1 : List Value → Heap → Prop) (h : Heap) : p10z26 P K y1 j10 p11 i13 x63 L1 h =
  (GdP x63 true
    (OP (iBin .lss i13 (.int .i64 (20))) fun x65 =>
    p10z28 P K y1 j10 p11 i13 x63 x65 L1 h)
    (p10z28 P K y1 j10 p11 i13 x63 undef L1 h)) := (CutP_def _ _ _ _).trans (by kernel_rfl)
theorem q10z35 (P : Program) (K : Value → Heap → Prop) (y1 j10 p11 i13 : Value) (L1 : List Value → Heap → Prop) (h : Heap) : p10z35 P K y1 j10 p11 i13 L1 h =
  (OP (iBin .add i13 (.int .i64 (1))) fun x68 =>
  ([y1, j10] : List Value) = [y1, j10] ∧ L1 [p11, x68] h) := (CutP_def _ _ _ _).trans (by kernel_rfl)
theorem q10z22 (P : Program) (K : Value → Heap → Prop) (y1 j10 : Value) (L1 : List Value → Heap → Prop) (p11 i13 : Value) (h : Heap) : p10z22 P K y1 j10 L1 [p11, i13] h =
  (OP (iLenSl y1) fun x61 =>
  OP (iBin .lss i13 x61) fun x62 =>
  p10z26 P K y1 j10 p11 i13 x62 L1 h) := (CutP_def _ _ _ _).trans (by kernel_rfl)
theorem q10z36 (P : Program) (K : Value → Heap → Prop) (j10 p11 : Value) (h : Heap) : p10z36 P K j10 p11 h =
  (K (.tuple #[j10, p11]) h) := (CutP_def _ _ _ _).trans (by kernel_rfl)
theorem q10z18 (P : Program) (K : Value → Heap → Prop) (y1 j10 p11 : Value) (h : Heap) : p10z18 P K y1 j10 p11 h =
  (LoopP [p11, (.int .i64 (0))] h fun L1 xs hx =>
  p10z22 P K y1 j10 L1 xs hx) := (CutP_def _ _ _ _).trans (by kernel_rfl)
theorem q10z15 (P : Program) (K : Value → Heap → Prop) (y1 j10 p11 : Value) (h : Heap) : p10z15 P K y1 j10 p11 h =
  (OP (iLenSl j10) fun x53 =>
  OP (iBin .eql x53 (.int .i64 (0))) fun x54 =>
  IfP x54
    (OP (iBuild [(.int .i64 (0)), (.int .i64 (0))] [(0, 1, (.int .i64 (1))), (1, 1, (.int .i64 (1)))]) fun x56 =>
    OH (iMkSl 35 1 [(.int .i64 (0)), (.int .i64 (0))] h [(0, 2, x56)]) fun x57 h_1 =>
    OH (iApp 35 2 16 h_1 j10 x57) fun x58 h_2 =>
    p10z18 P K y1 x58 p11 h_2)
    (p10z18 P K y1 j10 p11 h)) := (CutP_def _ _ _ _).trans (by kernel_rfl)
def T10 (P : Program) (K : Value → Heap → Prop) (x0 y1 most2 least3 : Value) (h : Heap) : Prop :=
  OH (iMkSl 35 0 [(.int .i64 (0)), (.int .i64 (0))] h []) fun x16 h_1 =>
  OH (iMkSl 54 0 [(.int .i64 (0)), (.int .i64 (0))] h_1 []) fun x17 h_2 =>
  LoopP [x16, (.int .i64 (0))] h_2 fun L1 xs hx =>
  p10z6 P K x0 y1 most2 least3 x17 L1 xs hx
theorem e10 (P : Program) (K : Value → Heap → Prop) (x0 y1 most2 least3 : Value) (h : Heap) : iwpP P c10 (bodyP [.tmp 8, .tmp 9] K) (frame0 [x0, y1, most2, least3]) h = T10 P K x0 y1 most2 least3 h := by kernel_rfl
theorem f10 {K : Value → Heap → Prop} {x0 y1 most2 least3 : Value} {h : Heap} (H : T10 Try.prog K x0 y1 most2 least3 h) : CallP Try.prog 10 [x0, y1, most2, least3] h K :=
  callP_intro k10 (Nat.le_of_ble_eq_true rfl) ((e10 Try.prog K x0 y1 most2 least3 h).mpr H)
/-! F12: pommel/pommelref06.Order -/
noncomputable def c12z20 : ICode := .ops none [⟨(some 44), .p (.pick (.tmp 34) (.const (.bool true)) (.tmp 43))⟩]
noncomputable def c12z18 : ICode := .seq (.ops (some (34, false)) [⟨(some 35), .p (.mv (.tmp 1))⟩,
    ⟨(some 36), .p (.mv (.tmp 2))⟩,
    ⟨(some 37), .p (.mv (.tmp 8))⟩,
    ⟨(some 38), .p (.adrSl 1 (.tmp 36) (.tmp 37))⟩,
    ⟨(some 39), .l (.load false 1 (.tmp 38))⟩,
    ⟨(some 40), .call 28 [(.tmp 35), (.tmp 39)]⟩,
    ⟨(some 41), .p (.mv (.tmp 7))⟩,
    ⟨(some 42), .p (.bin .andNot (.tmp 40) (.tmp 41))⟩,
    ⟨(some 43), .p (.bin .neq (.tmp 42) (.const (.int .i64 (0))))⟩])
 (.cut [0, 1, 2, 7, 8, 34, 43] c12z20)
noncomputable def c12z16 : ICode := .seq (.ops none [⟨(some 33), .p (.pick (.tmp 24) (.const (.bool true)) (.tmp 32))⟩,
    ⟨(some 34), .p (.mv (.tmp 33))⟩])
 (.cut [0, 1, 2, 7, 8, 34] c12z18)
noncomputable def c12z14 : ICode := .seq (.ops (some (24, false)) [⟨(some 25), .p (.mv (.tmp 7))⟩,
    ⟨(some 26), .p (.mv (.tmp 2))⟩,
    ⟨(some 27), .p (.mv (.tmp 8))⟩,
    ⟨(some 28), .p (.adrSl 1 (.tmp 26) (.tmp 27))⟩,
    ⟨(some 29), .l (.load false 1 (.tmp 28))⟩,
    ⟨(some 30), .p (.bin .shr (.tmp 25) (.tmp 29))⟩,
    ⟨(some 31), .p (.bin .and (.tmp 30) (.const (.int .i64 (1))))⟩,
    ⟨(some 32), .p (.bin .eql (.tmp 31) (.const (.int .i64 (1))))⟩])
 (.cut [0, 1, 2, 7, 8, 24, 32] c12z16)
noncomputable def c12z12 : ICode := .cond (.tmp 44) (.seq (.ops none [⟨(some 6), .p (.mv (.const (.bool false)))⟩])
  (.ret))
 (.skip)
noncomputable def c12z11 : ICode := .ops none [⟨(some 45), .p (.mv (.tmp 7))⟩,
   ⟨(some 46), .p (.mv (.tmp 2))⟩,
   ⟨(some 47), .p (.mv (.tmp 8))⟩,
   ⟨(some 48), .p (.adrSl 1 (.tmp 46) (.tmp 47))⟩,
   ⟨(some 49), .l (.load false 1 (.tmp 48))⟩,
   ⟨(some 50), .p (.bin .shl (.const (.int .i64 (1))) (.tmp 49))⟩,
   ⟨(some 51), .p (.bin .or (.tmp 45) (.tmp 50))⟩,
   ⟨(some 7), .p (.mv (.tmp 51))⟩]
noncomputable def c12z9 : ICode := .ops none [⟨(some 13), .p (.mv (.tmp 8))⟩,
   ⟨(some 14), .p (.bin .add (.tmp 13) (.const (.int .i64 (1))))⟩,
   ⟨(some 8), .p (.mv (.tmp 14))⟩]
noncomputable def c12z6 : ICode := .seq (.seq (.ops none [⟨(some 9), .p (.mv (.tmp 8))⟩,
     ⟨(some 10), .p (.mv (.tmp 2))⟩,
     ⟨(some 11), .p (.lenSl (.tmp 10))⟩,
     ⟨(some 12), .p (.bin .lss (.tmp 9) (.tmp 11))⟩])
  (.cond (.tmp 12) (.skip)
  (.exit 0)))
 (.seq (.block 1 (.seq (.seq (.seq (.ops none [⟨(some 15), .p (.mv (.tmp 2))⟩,
        ⟨(some 16), .p (.mv (.tmp 8))⟩,
        ⟨(some 17), .p (.adrSl 1 (.tmp 15) (.tmp 16))⟩,
        ⟨(some 18), .l (.load false 1 (.tmp 17))⟩,
        ⟨(some 19), .p (.mv (.tmp 0))⟩,
        ⟨(some 20), .p (.lenSl (.tmp 19))⟩,
        ⟨(some 21), .p (.bin .sub (.tmp 20) (.const (.int .i64 (1))))⟩,
        ⟨(some 22), .call 27 [(.tmp 18), (.const (.int .i64 (0))), (.tmp 21)]⟩,
        ⟨(some 23), .p (.un .not (.tmp 22))⟩,
        ⟨(some 24), .p (.mv (.tmp 23))⟩])
     (.cut [0, 1, 2, 7, 8, 24] c12z14)) c12z12) c12z11)) c12z9)
noncomputable def c12z22 : ICode := .seq (.ops none [⟨(some 52), .p (.mv (.tmp 2))⟩,
    ⟨(some 53), .p (.lenSl (.tmp 52))⟩,
    ⟨(some 54), .p (.mv (.tmp 0))⟩,
    ⟨(some 55), .p (.lenSl (.tmp 54))⟩,
    ⟨(some 56), .p (.bin .eql (.tmp 53) (.tmp 55))⟩,
    ⟨(some 6), .p (.mv (.tmp 56))⟩])
 (.ret)
noncomputable def c12z3 : ICode := .cut [0, 2] c12z22
noncomputable def c12 : ICode := .seq (.ops none [⟨(some 6), .p (.mv (.const (.bool false)))⟩])
 (.seq (.ops none [⟨(some 7), .p (.mv (.const (.int .i64 (0))))⟩])
 (.seq (.seq (.ops none [⟨(some 8), .p (.mv (.const (.int .i64 (0))))⟩])
  (.block 0 (.loop [0, 1, 2] [7, 8] c12z6))) c12z3))
theorem k12 : compFn Try.prog 12 [[], [], [], [0, 1, 2], [7, 8], [], [], [0, 1, 2, 7, 8, 24], [0, 1, 2, 7, 8, 24, 32], [0, 1, 2, 7, 8, 34], [0, 1, 2, 7, 8, 34, 43], [], [], [], [], [0, 2], []] = some (57, c12, [.tmp 6]) := by kernel_rfl
def K12z0 (_P : Program) (K : Value → Heap → Prop) : Exit → (Nat → Value) → Heap → Prop := bodyP [.tmp 6] K
def K12z3 (P : Program) (K : Value → Heap → Prop) : Exit → (Nat → Value) → Heap → Prop := thenK (iwpP P c12z3 (K12z0 P K)) (K12z0 P K)
def K12z5 (P : Program) (K : Value → Heap → Prop) : Exit → (Nat → Value) → Heap → Prop := inBlockK 0 (K12z3 P K)
def K12z6 (P : Program) (K : Value → Heap → Prop) (jobs0 pairs1 l2 : Value) (L1 : List Value → Heap → Prop) : Exit → (Nat → Value) → Heap → Prop := thenK (fun f' h'' => (([0, 1, 2] : List Nat).map f' : List Value) = [jobs0, pairs1, l2] ∧ L1 (([7, 8] : List Nat).map f') h'') (K12z5 P K)
def K12z9 (P : Program) (K : Value → Heap → Prop) (jobs0 pairs1 l2 : Value) (L1 : List Value → Heap → Prop) : Exit → (Nat → Value) → Heap → Prop := thenK (iwpP P c12z9 (K12z6 P K jobs0 pairs1 l2 L1)) (K12z6 P K jobs0 pairs1 l2 L1)
def K12z10 (P : Program) (K : Value → Heap → Prop) (jobs0 pairs1 l2 : Value) (L1 : List Value → Heap → Prop) : Exit → (Nat → Value) → Heap → Prop := inBlockK 1 (K12z9 P K jobs0 pairs1 l2 L1)
def K12z11 (P : Program) (K : Value → Heap → Prop) (jobs0 pairs1 l2 : Value) (L1 : List Value → Heap → Prop) : Exit → (Nat → Value) → Heap → Prop := thenK (iwpP P c12z11 (K12z10 P K jobs0 pairs1 l2 L1)) (K12z10 P K jobs0 pairs1 l2 L1)
def K12z12 (P : Program) (K : Value → Heap → Prop) (jobs0 pairs1 l2 : Value) (L1 : List Value → Heap → Prop) : Exit → (Nat → Value) → Heap → Prop := thenK (iwpP P c12z12 (K12z11 P K jobs0 pairs1 l2 L1)) (K12z11 P K jobs0 pairs1 l2 L1)
def p12z6 (P : Program) (K : Value → Heap → Prop) (jobs0 pairs1 l2 : Value) (L1 : List Value → Heap → Prop) (xs : List Value) (h : Heap) : Prop := CutP (iwpP P c12z6 (K12z6 P K jobs0 pairs1 l2 L1)) ([0, 1, 2] ++ [7, 8]) ([jobs0, pairs1, l2] ++ xs) h
def p12z14 (P : Program) (K : Value → Heap → Prop) (jobs0 pairs1 l2 done7 i8 x24 : Value) (L1 : List Value → Heap → Prop) (h : Heap) : Prop := CutP (iwpP P c12z14 (K12z12 P K jobs0 pairs1 l2 L1)) [0, 1, 2, 7, 8, 24] [jobs0, pairs1, l2, done7, i8, x24] h
def p12z16 (P : Program) (K : Value → Heap → Prop) (jobs0 pairs1 l2 done7 i8 x24 x32 : Value) (L1 : List Value → Heap → Prop) (h : Heap) : Prop := CutP (iwpP P c12z16 (K12z12 P K jobs0 pairs1 l2 L1)) [0, 1, 2, 7, 8, 24, 32] [jobs0, pairs1, l2, done7, i8, x24, x32] h
def p12z18 (P : Program) (K : Value → Heap → Prop) (jobs0 pairs1 l2 done7 i8 x34 : Value) (L1 : List Value → Heap → Prop) (h : Heap) : Prop := CutP (iwpP P c12z18 (K12z12 P K jobs0 pairs1 l2 L1)) [0, 1, 2, 7, 8, 34] [jobs0, pairs1, l2, done7, i8, x34] h
def p12z20 (P : Program) (K : Value → Heap → Prop) (jobs0 pairs1 l2 done7 i8 x34 x43 : Value) (L1 : List Value → Heap → Prop) (h : Heap) : Prop := CutP (iwpP P c12z20 (K12z12 P K jobs0 pairs1 l2 L1)) [0, 1, 2, 7, 8, 34, 43] [jobs0, pairs1, l2, done7, i8, x34, x43] h
def p12z22 (P : Program) (K : Value → Heap → Prop) (jobs0 l2 : Value) (h : Heap) : Prop := CutP (iwpP P c12z22 (K12z0 P K)) [0, 2] [jobs0, l2] h
theorem q12z20 (P : Program) (K : Value → Heap → Prop) (jobs0 pairs1 l2 done7 i8 x34 x43 : Value) (L1 : List Value → Heap → Prop) (h : Heap) : p12z20 P K jobs0 pairs1 l2 done7 i8 x34 x43 L1 h =
  (OP (iPick x34 (.bool true) x43) fun x44 =>
  IfP x44
    (K (.bool false) h)
    (OP (iAdrSl 1 l2 i8) fun x48 =>
    OP (iLoad false 1 h x48) fun x49 =>
    OP (iBin .shl (.int .i64 (1)) x49) fun x50 =>
    OP (iBin .or done7 x50) fun x51 =>
    OP (iBin .add i8 (.int .i64 (1))) fun x14 =>
    ([jobs0, pairs1, l2] : List Value) = [jobs0, pairs1, l2] ∧ L1 [x51, x14] h)) := (CutP_def _ _ _ _).trans (by kernel_rfl)
theorem q12z18 (P : Program) (K : Value → Heap → Prop) (jobs0 pairs1 l2 done7 i8 x34 : Value) (L1 : List Value → Heap → Prop) (h : Heap) : p12z18 P K jobs0 pairs1 l2 done7 i8 x34 L1 h =
  (GdP x34 false
    (OP (iAdrSl 1 l2 i8) fun x38 =>
    OP (iLoad false 1 h x38) fun x39 =>
    CallP P 28 [pairs1, x39] h fun x40 h_1 =>
    OP (iBin .andNot x40 done7) fun x42 =>
    OP (iBin .neq x42 (.int .i64 (0))) fun x43 =>
    p12z20 P K jobs0 pairs1 l2 done7 i8 x34 x43 L1 h_1)
    (p12z20 P K jobs0 pairs1 l2 done7 i8 x34 undef L1 h)) := (CutP_def _ _ _ _).trans (by kernel_rfl)
theorem q12z16 (P : Program) (K : Value → Heap → Prop) (jobs0 pairs1 l2 done7 i8 x24 x32 : Value) (L1 : List Value → Heap → Prop) (h : Heap) : p12z16 P K jobs0 pairs1 l2 done7 i8 x24 x32 L1 h =
  (OP (iPick x24 (.bool true) x32) fun x33 =>
  p12z18 P K jobs0 pairs1 l2 done7 i8 x33 L1 h) := (CutP_def _ _ _ _).trans (by kernel_rfl)
theorem q12z14 (P : Program) (K : Value → Heap → Prop) (jobs0 pairs1 l2 done7 i8 x24 : Value) (L1 : List Value → Heap → Prop) (h : Heap) : p12z14 P K jobs0 pairs1 l2 done7 i8 x24 L1 h =
  (GdP x24 false
    (OP (iAdrSl 1 l2 i8) fun x28 =>
    OP (iLoad false 1 h x28) fun x29 =>
    OP (iBin .shr done7 x29) fun x30 =>
    OP (iBin .and x30 (.int .i64 (1))) fun x31 =>
    OP (iBin .eql x31 (.int .i64 (1))) fun x32 =>
    p12z16 P K jobs0 pairs1 l2 done7 i8 x24 x32 L1 h)
    (p12z16 P K jobs0 pairs1 l2 done7 i8 x24 undef L1 h)) := (CutP_def _ _ _ _).trans (by kernel_rfl)
theorem q12z6 (P : Program) (K : Value → Heap → Prop) (jobs0 pairs1 l2 : Value) (L1 : List Value → Heap → Prop) (done7 i8 : Value) (h : Heap) : p12z6 P K jobs0 pairs1 l2 L1 [done7, i8] h =
  (OP (iLenSl l2) fun x11 =>
  OP (iBin .lss i8 x11) fun x12 =>
  IfP x12
    (OP (iAdrSl 1 l2 i8) fun x17 =>
    OP (iLoad false 1 h x17) fun x18 =>
    OP (iLenSl jobs0) fun x20 =>
    OP (iBin .sub x20 (.int .i64 (1))) fun x21 =>
    CallP P 27 [x18, (.int .i64 (0)), x21] h fun x22 h_1 =>
    OP (iUn .not x22) fun x23 =>
    p12z14 P K jobs0 pairs1 l2 done7 i8 x23 L1 h_1)
    (p12z22 P K jobs0 l2 h)) := (CutP_def _ _ _ _).trans (by kernel_rfl)
theorem q12z22 (P : Program) (K : Value → Heap → Prop) (jobs0 l2 : Value) (h : Heap) : p12z22 P K jobs0 l2 h =
  (OP (iLenSl l2) fun x53 =>
  OP (iLenSl jobs0) fun x55 =>
  OP (iBin .eql x53 x55) fun x56 =>
  K x56 h) := (CutP_def _ _ _ _).trans (by kernel_rfl)
def T12 (P : Program) (K : Value → Heap → Prop) (jobs0 pairs1 l2 : Value) (h : Heap) : Prop :=
  LoopP [(.int .i64 (0)), (.int .i64 (0))] h fun L1 xs hx =>
  p12z6 P K jobs0 pairs1 l2 L1 xs hx
theorem e12 (P : Program) (K : Value → Heap → Prop) (jobs0 pairs1 l2 : Value) (h : Heap) : iwpP P c12 (bodyP [.tmp 6] K) (frame0 [jobs0, pairs1, l2]) h = T12 P K jobs0 pairs1 l2 h := by kernel_rfl
theorem f12 {K : Value → Heap → Prop} {jobs0 pairs1 l2 : Value} {h : Heap} (H : T12 Try.prog K jobs0 pairs1 l2 h) : CallP Try.prog 12 [jobs0, pairs1, l2] h K :=
  callP_intro k12 (Nat.le_of_ble_eq_true rfl) ((e12 Try.prog K jobs0 pairs1 l2 h).mpr H)
/-! F13: pommel/pommelref06.Cost -/
noncomputable def c13z6 : ICode := .seq (.seq (.ops none [⟨(some 8), .p (.mv (.tmp 7))⟩,
     ⟨(some 9), .p (.mv (.tmp 1))⟩,
     ⟨(some 10), .p (.lenSl (.tmp 9))⟩,
     ⟨(some 11), .p (.bin .lss (.tmp 8) (.tmp 10))⟩])
  (.cond (.tmp 11) (.skip)
  (.exit 0)))
 (.seq (.block 1 (.seq (.ops none [⟨(some 14), .p (.mv (.tmp 5))⟩,
      ⟨(some 15), .p (.mv (.tmp 0))⟩,
      ⟨(some 16), .p (.mv (.tmp 1))⟩,
      ⟨(some 17), .p (.mv (.tmp 7))⟩,
      ⟨(some 18), .p (.adrSl 1 (.tmp 16) (.tmp 17))⟩,
      ⟨(some 19), .l (.load false 1 (.tmp 18))⟩,
      ⟨(some 20), .p (.adrSl 2 (.tmp 15) (.tmp 19))⟩,
      ⟨(some 21), .p (.fadr 0 (.tmp 20))⟩,
      ⟨(some 22), .l (.load false 1 (.tmp 21))⟩,
      ⟨(some 23), .p (.bin .add (.tmp 14) (.tmp 22))⟩,
      ⟨(some 5), .p (.mv (.tmp 23))⟩])
   (.ops none [⟨(some 24), .p (.mv (.tmp 6))⟩,
     ⟨(some 25), .p (.mv (.tmp 0))⟩,
     ⟨(some 26), .p (.mv (.tmp 1))⟩,
     ⟨(some 27), .p (.mv (.tmp 7))⟩,
     ⟨(some 28), .p (.adrSl 1 (.tmp 26) (.tmp 27))⟩,
     ⟨(some 29), .l (.load false 1 (.tmp 28))⟩,
     ⟨(some 30), .p (.adrSl 2 (.tmp 25) (.tmp 29))⟩,
     ⟨(some 31), .p (.fadr 1 (.tmp 30))⟩,
     ⟨(some 32), .l (.load false 1 (.tmp 31))⟩,
     ⟨(some 33), .p (.mv (.tmp 5))⟩,
     ⟨(some 34), .p (.bin .mul (.tmp 32) (.tmp 33))⟩,
     ⟨(some 35), .p (.bin .add (.tmp 24) (.tmp 34))⟩,
     ⟨(some 6), .p (.mv (.tmp 35))⟩])))
 (.ops none [⟨(some 12), .p (.mv (.tmp 7))⟩,
   ⟨(some 13), .p (.bin .add (.tmp 12) (.const (.int .i64 (1))))⟩,
   ⟨(some 7), .p (.mv (.tmp 13))⟩]))
noncomputable def c13z12 : ICode := .seq (.ops none [⟨(some 36), .p (.mv (.tmp 6))⟩,
    ⟨(some 4), .p (.mv (.tmp 36))⟩])
 (.ret)
noncomputable def c13z3 : ICode := .cut [6] c13z12
noncomputable def c13 : ICode := .seq (.ops none [⟨(some 4), .p (.mv (.const (.int .i64 (0))))⟩])
 (.seq (.ops none [⟨(some 5), .p (.mv (.const (.int .i64 (0))))⟩,
    ⟨(some 6), .p (.mv (.const (.int .i64 (0))))⟩])
 (.seq (.seq (.ops none [⟨(some 7), .p (.mv (.const (.int .i64 (0))))⟩])
  (.block 0 (.loop [0, 1] [5, 6, 7] c13z6))) c13z3))
theorem k13 : compFn Try.prog 13 [[], [], [], [0, 1], [5, 6, 7], [], [], [], [], [6], []] = some (37, c13, [.tmp 4]) := by kernel_rfl
def K13z0 (_P : Program) (K : Value → Heap → Prop) : Exit → (Nat → Value) → Heap → Prop := bodyP [.tmp 4] K
def K13z3 (P : Program) (K : Value → Heap → Prop) : Exit → (Nat → Value) → Heap → Prop := thenK (iwpP P c13z3 (K13z0 P K)) (K13z0 P K)
def K13z5 (P : Program) (K : Value → Heap → Prop) : Exit → (Nat → Value) → Heap → Prop := inBlockK 0 (K13z3 P K)
def K13z6 (P : Program) (K : Value → Heap → Prop) (jobs0 l1 : Value) (L1 : List Value → Heap → Prop) : Exit → (Nat → Value) → Heap → Prop := thenK (fun f' h'' => (([0, 1] : List Nat).map f' : List Value) = [jobs0, l1] ∧ L1 (([5, 6, 7] : List Nat).map f') h'') (K13z5 P K)
def p13z6 (P : Program) (K : Value → Heap → Prop) (jobs0 l1 : Value) (L1 : List Value → Heap → Prop) (xs : List Value) (h : Heap) : Prop := CutP (iwpP P c13z6 (K13z6 P K jobs0 l1 L1)) ([0, 1] ++ [5, 6, 7]) ([jobs0, l1] ++ xs) h
def p13z12 (P : Program) (K : Value → Heap → Prop) (cost6 : Value) (h : Heap) : Prop := CutP (iwpP P c13z12 (K13z0 P K)) [6] [cost6] h
theorem q13z6 (P : Program) (K : Value → Heap → Prop) (jobs0 l1 : Value) (L1 : List Value → Heap → Prop) (end5 cost6 i7 : Value) (h : Heap) : p13z6 P K jobs0 l1 L1 [end5, cost6, i7] h =
  (OP (iLenSl l1) fun x10 =>
  OP (iBin .lss i7 x10) fun x11 =>
  IfP x11
    (OP (iAdrSl 1 l1 i7) fun x18 =>
    OP (iLoad false 1 h x18) fun x19 =>
    OP (iAdrSl 2 jobs0 x19) fun x20 =>
    OP (iFadr 0 x20) fun x21 =>
    OP (iLoad false 1 h x21) fun x22 =>
    OP (iBin .add end5 x22) fun x23 =>
    OP (iAdrSl 1 l1 i7) fun x28 =>
    OP (iLoad false 1 h x28) fun x29 =>
    OP (iAdrSl 2 jobs0 x29) fun x30 =>
    OP (iFadr 1 x30) fun x31 =>
    OP (iLoad false 1 h x31) fun x32 =>
    OP (iBin .mul x32 x23) fun x34 =>
    OP (iBin .add cost6 x34) fun x35 =>
    OP (iBin .add i7 (.int .i64 (1))) fun x13 =>
    ([jobs0, l1] : List Value) = [jobs0, l1] ∧ L1 [x23, x35, x13] h)
    (p13z12 P K cost6 h)) := (CutP_def _ _ _ _).trans (by kernel_rfl)
theorem q13z12 (P : Program) (K : Value → Heap → Prop) (cost6 : Value) (h : Heap) : p13z12 P K cost6 h =
  (K cost6 h) := (CutP_def _ _ _ _).trans (by kernel_rfl)
def T13 (P : Program) (K : Value → Heap → Prop) (jobs0 l1 : Value) (h : Heap) : Prop :=
  LoopP [(.int .i64 (0)), (.int .i64 (0)), (.int .i64 (0))] h fun L1 xs hx =>
  p13z6 P K jobs0 l1 L1 xs hx
theorem e13 (P : Program) (K : Value → Heap → Prop) (jobs0 l1 : Value) (h : Heap) : iwpP P c13 (bodyP [.tmp 4] K) (frame0 [jobs0, l1]) h = T13 P K jobs0 l1 h := by kernel_rfl
theorem f13 {K : Value → Heap → Prop} {jobs0 l1 : Value} {h : Heap} (H : T13 Try.prog K jobs0 l1 h) : CallP Try.prog 13 [jobs0, l1] h K :=
  callP_intro k13 (Nat.le_of_ble_eq_true rfl) ((e13 Try.prog K jobs0 l1 h).mpr H)
/-! F15: (pommel/pommellaw06.Shop).few -/
noncomputable def c15z4 : ICode := .seq (.dops [(none, [⟨(some 10), .e (.fl (.mkSl 35 0 [(.int .i64 (0)), (.int .i64 (0))] [])), 0⟩,
    ⟨(some 20), .e (.fl (.mkSl 54 0 [(.int .i64 (0)), (.int .i64 (0))] [])), 0⟩,
    ⟨(some 11), .p (.fadr 0 (.tmp 2)), 0⟩,
    ⟨(some 12), .l (.load false 1 (.tmp 11)), 4⟩,
    ⟨(some 13), .p (.fadr 0 (.tmp 2)), 0⟩,
    ⟨(some 14), .l (.load false 1 (.tmp 13)), 16⟩,
    ⟨(some 15), .p (.lenSl (.tmp 14)), 48⟩,
    ⟨(some 16), .p (.mv (.tmp 1)), 0⟩,
    ⟨(some 17), .p (.minmax false [(.tmp 15), (.tmp 16)]), 240⟩,
    ⟨(some 18), .p (.slSl 35 2 (.tmp 12) none (some (.tmp 17))), 508⟩,
    ⟨(some 19), .e (.app 35 2 16 (.tmp 10) (.tmp 18)), 1021⟩,
    ⟨(some 21), .p (.fadr 1 (.tmp 2)), 0⟩,
    ⟨(some 22), .l (.load false 1 (.tmp 21)), 2048⟩,
    ⟨(some 23), .p (.fadr 1 (.tmp 2)), 0⟩,
    ⟨(some 24), .l (.load false 1 (.tmp 23)), 8192⟩,
    ⟨(some 25), .p (.lenSl (.tmp 24)), 24576⟩,
    ⟨(some 26), .p (.minmax false [(.tmp 25), (.const (.int .i64 (41)))]), 57344⟩,
    ⟨(some 27), .p (.slSl 54 2 (.tmp 22) none (some (.tmp 26))), 129024⟩,
    ⟨(some 28), .e (.app 54 2 16 (.tmp 20) (.tmp 27)), 262143⟩,
    ⟨(some 4), .p (.mv (.tmp 19)), 524287⟩,
    ⟨(some 5), .p (.mv (.tmp 28)), 1048575⟩])])
 (.ret)
noncomputable def c15 : ICode := .seq (.ops none [⟨(some 2), .e (.box 38 (.tmp 0))⟩,
    ⟨(some 4), .p (.mv (.const (.slice none 0 0)))⟩,
    ⟨(some 5), .p (.mv (.const (.slice none 0 0)))⟩])
 (.seq (.seq (.ops none [⟨(some 6), .p (.fadr 0 (.tmp 2))⟩,
     ⟨(some 7), .l (.load false 1 (.tmp 6))⟩,
     ⟨(some 8), .p (.lenSl (.tmp 7))⟩,
     ⟨(some 9), .p (.bin .gtr (.tmp 8) (.const (.int .i64 (10))))⟩])
  (.cond (.tmp 9) (.ops none [⟨(some 1), .p (.mv (.const (.int .i64 (11))))⟩])
  (.skip)))
 (.cut [1, 2] c15z4))
theorem k15 : compFn Try.prog 15 [[], [], [1, 2], []] = some (29, c15, [.tmp 4, .tmp 5]) := by kernel_rfl
def K15z0 (_P : Program) (K : Value → Heap → Prop) : Exit → (Nat → Value) → Heap → Prop := bodyP [.tmp 4, .tmp 5] K
def p15z4 (P : Program) (K : Value → Heap → Prop) (most1 s2 : Value) (h : Heap) : Prop := CutP (iwpP P c15z4 (K15z0 P K)) [1, 2] [most1, s2] h
theorem q15z4 (P : Program) (K : Value → Heap → Prop) (most1 s2 : Value) (h : Heap) : p15z4 P K most1 s2 h =
  (OH (iMkSl 35 0 [(.int .i64 (0)), (.int .i64 (0))] h []) fun x10 h_1 =>
  OP (iObj h_1 x10) fun u =>
  (True) ∧
  OH (iMkSl 54 0 [(.int .i64 (0)), (.int .i64 (0))] h_1 []) fun x20 h_2 =>
  OP (iObj h_2 x20) fun u_1 =>
  (iObj h_2 x10 = some u ∧ True) ∧
  OP (iFadr 0 s2) fun x11 =>
  OP (iLoad false 1 h_2 x11) fun x12 =>
  (iLoad false 1 h x11 = some x12 ∧ iLoad false 1 h_1 x11 = some x12 ∧ True) ∧
  OP (iFadr 0 s2) fun x13 =>
  OP (iLoad false 1 h_2 x13) fun x14 =>
  (iLoad false 1 h x13 = some x14 ∧ iLoad false 1 h_1 x13 = some x14 ∧ True) ∧
  OP (iLenSl x14) fun x15 =>
  OP (iMinmax false [x15, most1]) fun x17 =>
  OP (iSlSl 35 2 x12 none (some x17)) fun x18 =>
  OH (iApp 35 2 16 h_2 x10 x18) fun x19 h_3 =>
  (iObj h_3 x20 = some u_1 ∧ True) ∧
  OP (iFadr 1 s2) fun x21 =>
  OP (iLoad false 1 h_3 x21) fun x22 =>
  (iLoad false 1 h x21 = some x22 ∧ iLoad false 1 h_1 x21 = some x22 ∧ iLoad false 1 h_2 x21 = some x22 ∧ True) ∧
  OP (iFadr 1 s2) fun x23 =>
  OP (iLoad false 1 h_3 x23) fun x24 =>
  (iLoad false 1 h x23 = some x24 ∧ iLoad false 1 h_1 x23 = some x24 ∧ iLoad false 1 h_2 x23 = some x24 ∧ True) ∧
  OP (iLenSl x24) fun x25 =>
  OP (iMinmax false [x25, (.int .i64 (41))]) fun x26 =>
  OP (iSlSl 54 2 x22 none (some x26)) fun x27 =>
  OH (iApp 54 2 16 h_3 x20 x27) fun x28 h_4 =>
  (True) ∧
  K (.tuple #[x19, x28]) h_4) := (CutP_def _ _ _ _).trans (by kernel_rfl)
def T15 (P : Program) (K : Value → Heap → Prop) (s0 most1 : Value) (h : Heap) : Prop :=
  OH (iBox 38 h s0) fun s2 h_1 =>
  OP (iFadr 0 s2) fun x6 =>
  OP (iLoad false 1 h_1 x6) fun x7 =>
  OP (iLenSl x7) fun x8 =>
  OP (iBin .gtr x8 (.int .i64 (10))) fun x9 =>
  IfP x9
    (p15z4 P K (.int .i64 (11)) s2 h_1)
    (p15z4 P K most1 s2 h_1)
theorem e15 (P : Program) (K : Value → Heap → Prop) (s0 most1 : Value) (h : Heap) : iwpP P c15 (bodyP [.tmp 4, .tmp 5] K) (frame0 [s0, most1]) h = T15 P K s0 most1 h := by kernel_rfl
theorem f15 {K : Value → Heap → Prop} {s0 most1 : Value} {h : Heap} (H : T15 Try.prog K s0 most1 h) : CallP Try.prog 15 [s0, most1] h K :=
  callP_intro k15 (Nat.le_of_ble_eq_true rfl) ((e15 Try.prog K s0 most1 h).mpr H)
/-! F17: pommel/pommelref06.Valid -/
noncomputable def c17z14 : ICode := .ops none [⟨(some 31), .p (.pick (.tmp 23) (.const (.bool true)) (.tmp 30))⟩]
noncomputable def c17z12 : ICode := .seq (.ops (some (23, false)) [⟨(some 24), .p (.mv (.tmp 0))⟩,
    ⟨(some 25), .p (.mv (.tmp 5))⟩,
    ⟨(some 26), .p (.adrSl 2 (.tmp 24) (.tmp 25))⟩,
    ⟨(some 27), .p (.fadr 1 (.tmp 26))⟩,
    ⟨(some 28), .l (.load false 1 (.tmp 27))⟩,
    ⟨(some 29), .call 27 [(.tmp 28), (.const (.int .i64 (0))), (.const (.int .i64 (50)))]⟩,
    ⟨(some 30), .p (.un .not (.tmp 29))⟩])
 (.cut [0, 1, 5, 23, 30] c17z14)
noncomputable def c17z10 : ICode := .cond (.tmp 31) (.seq (.ops none [⟨(some 4), .p (.mv (.const (.bool false)))⟩])
  (.ret))
 (.skip)
noncomputable def c17z8 : ICode := .ops none [⟨(some 14), .p (.mv (.tmp 5))⟩,
   ⟨(some 15), .p (.bin .add (.tmp 14) (.const (.int .i64 (1))))⟩,
   ⟨(some 5), .p (.mv (.tmp 15))⟩]
noncomputable def c17z5 : ICode := .seq (.seq (.ops none [⟨(some 10), .p (.mv (.tmp 5))⟩,
     ⟨(some 11), .p (.mv (.tmp 0))⟩,
     ⟨(some 12), .p (.lenSl (.tmp 11))⟩,
     ⟨(some 13), .p (.bin .lss (.tmp 10) (.tmp 12))⟩])
  (.cond (.tmp 13) (.skip)
  (.exit 0)))
 (.seq (.block 1 (.seq (.seq (.ops none [⟨(some 16), .p (.mv (.tmp 0))⟩,
       ⟨(some 17), .p (.mv (.tmp 5))⟩,
       ⟨(some 18), .p (.adrSl 2 (.tmp 16) (.tmp 17))⟩,
       ⟨(some 19), .p (.fadr 0 (.tmp 18))⟩,
       ⟨(some 20), .l (.load false 1 (.tmp 19))⟩,
       ⟨(some 21), .call 27 [(.tmp 20), (.const (.int .i64 (1))), (.const (.int .i64 (50)))]⟩,
       ⟨(some 22), .p (.un .not (.tmp 21))⟩,
       ⟨(some 23), .p (.mv (.tmp 22))⟩])
    (.cut [0, 1, 5, 23] c17z12)) c17z10)) c17z8)
noncomputable def c17z20 : ICode := .seq (.seq (.ops none [⟨(some 32), .p (.mv (.tmp 6))⟩,
     ⟨(some 33), .p (.mv (.tmp 1))⟩,
     ⟨(some 34), .p (.lenSl (.tmp 33))⟩,
     ⟨(some 35), .p (.bin .lss (.tmp 32) (.tmp 34))⟩])
  (.cond (.tmp 35) (.skip)
  (.exit 2)))
 (.seq (.block 3 (.seq (.dops [(none, [⟨(some 38), .p (.mv (.tmp 1)), 0⟩,
      ⟨(some 39), .p (.mv (.tmp 6)), 0⟩,
      ⟨(some 40), .p (.adrSl 2 (.tmp 38) (.tmp 39)), 3⟩,
      ⟨(some 41), .p (.fadr 0 (.tmp 40)), 7⟩,
      ⟨(some 42), .l (.load false 1 (.tmp 41)), 15⟩,
      ⟨(some 43), .p (.mv (.tmp 0)), 0⟩,
      ⟨(some 44), .p (.lenSl (.tmp 43)), 32⟩,
      ⟨(some 45), .p (.bin .sub (.tmp 44) (.const (.int .i64 (1)))), 96⟩,
      ⟨(some 46), .call 27 [(.tmp 42), (.const (.int .i64 (0))), (.tmp 45)], 255⟩,
      ⟨(some 47), .p (.un .not (.tmp 46)), 511⟩,
      ⟨(some 48), .p (.mv (.tmp 47)), 1023⟩]),
     ((some (48, false)), [⟨(some 49), .p (.mv (.tmp 1)), 2047⟩,
      ⟨(some 50), .p (.mv (.tmp 6)), 2047⟩,
      ⟨(some 51), .p (.adrSl 2 (.tmp 49) (.tmp 50)), 8191⟩,
      ⟨(some 52), .p (.fadr 1 (.tmp 51)), 16383⟩,
      ⟨(some 53), .l (.load false 1 (.tmp 52)), 32767⟩,
      ⟨(some 54), .p (.mv (.tmp 0)), 2047⟩,
      ⟨(some 55), .p (.lenSl (.tmp 54)), 67583⟩,
      ⟨(some 56), .p (.bin .sub (.tmp 55) (.const (.int .i64 (1)))), 198655⟩,
      ⟨(some 57), .call 27 [(.tmp 53), (.const (.int .i64 (0))), (.tmp 56)], 524287⟩,
      ⟨(some 58), .p (.un .not (.tmp 57)), 1048575⟩]),
     (none, [⟨(some 59), .p (.pick (.tmp 48) (.const (.bool true)) (.tmp 58)), 2097151⟩,
      ⟨(some 60), .p (.mv (.tmp 59)), 4194303⟩]),
     ((some (60, false)), [⟨(some 61), .p (.mv (.tmp 1)), 8388607⟩,
      ⟨(some 62), .p (.mv (.tmp 6)), 8388607⟩,
      ⟨(some 63), .p (.adrSl 2 (.tmp 61) (.tmp 62)), 33554431⟩,
      ⟨(some 64), .p (.fadr 0 (.tmp 63)), 67108863⟩,
      ⟨(some 65), .l (.load false 1 (.tmp 64)), 134217727⟩,
      ⟨(some 66), .p (.mv (.tmp 1)), 8388607⟩,
      ⟨(some 67), .p (.mv (.tmp 6)), 8388607⟩,
      ⟨(some 68), .p (.adrSl 2 (.tmp 66) (.tmp 67)), 813694975⟩,
      ⟨(some 69), .p (.fadr 1 (.tmp 68)), 1887436799⟩,
      ⟨(some 70), .l (.load false 1 (.tmp 69)), 4034920447⟩,
      ⟨(some 71), .p (.bin .eql (.tmp 65) (.tmp 70)), 8589934591⟩]),
     (none, [⟨(some 72), .p (.pick (.tmp 60) (.const (.bool true)) (.tmp 71)), 17179869183⟩])])
   (.cond (.tmp 72) (.seq (.ops none [⟨(some 4), .p (.mv (.const (.bool false)))⟩])
    (.ret))
   (.skip))))
 (.ops none [⟨(some 36), .p (.mv (.tmp 6))⟩,
   ⟨(some 37), .p (.bin .add (.tmp 36) (.const (.int .i64 (1))))⟩,
   ⟨(some 6), .p (.mv (.tmp 37))⟩]))
noncomputable def c17z33 : ICode := .ops none [⟨(some 81), .p (.pick (.tmp 77) (.const (.bool true)) (.tmp 80))⟩]
noncomputable def c17z31 : ICode := .seq (.ops (some (77, false)) [⟨(some 78), .p (.mv (.tmp 1))⟩,
    ⟨(some 79), .p (.lenSl (.tmp 78))⟩,
    ⟨(some 80), .p (.bin .gtr (.tmp 79) (.const (.int .i64 (40))))⟩])
 (.cut [0, 1, 77, 80] c17z33)
noncomputable def c17z29 : ICode := .cond (.tmp 81) (.seq (.ops none [⟨(some 4), .p (.mv (.const (.bool false)))⟩])
  (.ret))
 (.skip)
noncomputable def c17z52 : ICode := .ops none [⟨(some 96), .p (.mv (.tmp 9))⟩,
   ⟨(some 97), .p (.bin .add (.tmp 96) (.const (.int .i64 (1))))⟩,
   ⟨(some 9), .p (.mv (.tmp 97))⟩]
noncomputable def c17z46 : ICode := .seq (.seq (.ops none [⟨(some 92), .p (.mv (.tmp 9))⟩,
     ⟨(some 93), .p (.mv (.tmp 0))⟩,
     ⟨(some 94), .p (.lenSl (.tmp 93))⟩,
     ⟨(some 95), .p (.bin .lss (.tmp 92) (.tmp 94))⟩])
  (.cond (.tmp 95) (.skip)
  (.exit 6)))
 (.seq (.block 7 (.seq (.ops none [⟨(some 98), .p (.mv (.tmp 1))⟩,
      ⟨(some 99), .p (.mv (.tmp 9))⟩,
      ⟨(some 100), .call 28 [(.tmp 98), (.tmp 99)]⟩,
      ⟨(some 101), .p (.mv (.tmp 7))⟩,
      ⟨(some 102), .p (.bin .and (.tmp 100) (.tmp 101))⟩,
      ⟨(some 103), .p (.bin .eql (.tmp 102) (.const (.int .i64 (0))))⟩])
   (.cond (.tmp 103) (.ops none [⟨(some 104), .p (.mv (.tmp 7))⟩,
      ⟨(some 105), .p (.mv (.tmp 9))⟩,
      ⟨(some 106), .p (.bin .shl (.const (.int .i64 (1))) (.tmp 105))⟩,
      ⟨(some 107), .p (.bin .andNot (.tmp 104) (.tmp 106))⟩,
      ⟨(some 7), .p (.mv (.tmp 107))⟩])
   (.skip))))
 (.cut [0, 1, 7, 8, 9] c17z52))
noncomputable def c17z53 : ICode := .ops none [⟨(some 90), .p (.mv (.tmp 8))⟩,
   ⟨(some 91), .p (.bin .add (.tmp 90) (.const (.int .i64 (1))))⟩,
   ⟨(some 8), .p (.mv (.tmp 91))⟩]
noncomputable def c17z42 : ICode := .cut [0, 1, 7, 8] c17z53
noncomputable def c17z39 : ICode := .seq (.seq (.ops none [⟨(some 86), .p (.mv (.tmp 8))⟩,
     ⟨(some 87), .p (.mv (.tmp 0))⟩,
     ⟨(some 88), .p (.lenSl (.tmp 87))⟩,
     ⟨(some 89), .p (.bin .lss (.tmp 86) (.tmp 88))⟩])
  (.cond (.tmp 89) (.skip)
  (.exit 4)))
 (.seq (.block 5 (.seq (.ops none [⟨(some 9), .p (.mv (.const (.int .i64 (0))))⟩])
   (.block 6 (.loop [0, 1, 8] [7, 9] c17z46)))) c17z42)
noncomputable def c17z54 : ICode := .seq (.ops none [⟨(some 108), .p (.mv (.tmp 7))⟩,
    ⟨(some 109), .p (.bin .eql (.tmp 108) (.const (.int .i64 (0))))⟩,
    ⟨(some 4), .p (.mv (.tmp 109))⟩])
 (.ret)
noncomputable def c17z36 : ICode := .cut [7] c17z54
noncomputable def c17z28 : ICode := .seq (.ops none [⟨(some 82), .p (.mv (.tmp 0))⟩,
    ⟨(some 83), .p (.lenSl (.tmp 82))⟩,
    ⟨(some 84), .p (.bin .shl (.const (.int .i64 (1))) (.tmp 83))⟩,
    ⟨(some 85), .p (.bin .sub (.tmp 84) (.const (.int .i64 (1))))⟩,
    ⟨(some 7), .p (.mv (.tmp 85))⟩])
 (.seq (.seq (.ops none [⟨(some 8), .p (.mv (.const (.int .i64 (0))))⟩])
  (.block 4 (.loop [0, 1] [7, 8] c17z39))) c17z36)
noncomputable def c17z27 : ICode := .seq (.seq (.seq (.ops none [⟨(some 73), .p (.mv (.tmp 0))⟩,
      ⟨(some 74), .p (.lenSl (.tmp 73))⟩,
      ⟨(some 75), .call 27 [(.tmp 74), (.const (.int .i64 (1))), (.const (.int .i64 (10)))]⟩,
      ⟨(some 76), .p (.un .not (.tmp 75))⟩,
      ⟨(some 77), .p (.mv (.tmp 76))⟩])
   (.cut [0, 1, 77] c17z31)) c17z29) c17z28
noncomputable def c17z17 : ICode := .cut [0, 1] c17z27
noncomputable def c17z16 : ICode := .seq (.seq (.ops none [⟨(some 6), .p (.mv (.const (.int .i64 (0))))⟩])
  (.block 2 (.loop [0, 1] [6] c17z20))) c17z17
noncomputable def c17z2 : ICode := .cut [0, 1] c17z16
noncomputable def c17 : ICode := .seq (.ops none [⟨(some 4), .p (.mv (.const (.bool false)))⟩])
 (.seq (.seq (.ops none [⟨(some 5), .p (.mv (.const (.int .i64 (0))))⟩])
  (.block 0 (.loop [0, 1] [5] c17z5))) c17z2)
theorem k17 : compFn Try.prog 17 [[], [], [0, 1], [5], [], [], [0, 1, 5, 23], [0, 1, 5, 23, 30], [], [], [], [0, 1], [], [0, 1], [6], [], [], [], [], [], [0, 1], [0, 1, 77], [0, 1, 77, 80], [], [], [], [], [], [0, 1], [7, 8], [], [], [], [0, 1, 8], [7, 9], [], [], [], [0, 1, 7, 8, 9], [0, 1, 7, 8], [7], []] = some (110, c17, [.tmp 4]) := by kernel_rfl
def K17z0 (_P : Program) (K : Value → Heap → Prop) : Exit → (Nat → Value) → Heap → Prop := bodyP [.tmp 4] K
def K17z2 (P : Program) (K : Value → Heap → Prop) : Exit → (Nat → Value) → Heap → Prop := thenK (iwpP P c17z2 (K17z0 P K)) (K17z0 P K)
def K17z4 (P : Program) (K : Value → Heap → Prop) : Exit → (Nat → Value) → Heap → Prop := inBlockK 0 (K17z2 P K)
def K17z5 (P : Program) (K : Value → Heap → Prop) (jobs0 pairs1 : Value) (L1 : List Value → Heap → Prop) : Exit → (Nat → Value) → Heap → Prop := thenK (fun f' h'' => (([0, 1] : List Nat).map f' : List Value) = [jobs0, pairs1] ∧ L1 (([5] : List Nat).map f') h'') (K17z4 P K)
def K17z8 (P : Program) (K : Value → Heap → Prop) (jobs0 pairs1 : Value) (L1 : List Value → Heap → Prop) : Exit → (Nat → Value) → Heap → Prop := thenK (iwpP P c17z8 (K17z5 P K jobs0 pairs1 L1)) (K17z5 P K jobs0 pairs1 L1)
def K17z9 (P : Program) (K : Value → Heap → Prop) (jobs0 pairs1 : Value) (L1 : List Value → Heap → Prop) : Exit → (Nat → Value) → Heap → Prop := inBlockK 1 (K17z8 P K jobs0 pairs1 L1)
def K17z10 (P : Program) (K : Value → Heap → Prop) (jobs0 pairs1 : Value) (L1 : List Value → Heap → Prop) : Exit → (Nat → Value) → Heap → Prop := thenK (iwpP P c17z10 (K17z9 P K jobs0 pairs1 L1)) (K17z9 P K jobs0 pairs1 L1)
def K17z17 (P : Program) (K : Value → Heap → Prop) : Exit → (Nat → Value) → Heap → Prop := thenK (iwpP P c17z17 (K17z0 P K)) (K17z0 P K)
def K17z19 (P : Program) (K : Value → Heap → Prop) : Exit → (Nat → Value) → Heap → Prop := inBlockK 2 (K17z17 P K)
def K17z20 (P : Program) (K : Value → Heap → Prop) (jobs0 pairs1 : Value) (L1 : List Value → Heap → Prop) : Exit → (Nat → Value) → Heap → Prop := thenK (fun f' h'' => (([0, 1] : List Nat).map f' : List Value) = [jobs0, pairs1] ∧ L1 (([6] : List Nat).map f') h'') (K17z19 P K)
def K17z28 (P : Program) (K : Value → Heap → Prop) : Exit → (Nat → Value) → Heap → Prop := thenK (iwpP P c17z28 (K17z0 P K)) (K17z0 P K)
def K17z29 (P : Program) (K : Value → Heap → Prop) : Exit → (Nat → Value) → Heap → Prop := thenK (iwpP P c17z29 (K17z28 P K)) (K17z28 P K)
def K17z36 (P : Program) (K : Value → Heap → Prop) : Exit → (Nat → Value) → Heap → Prop := thenK (iwpP P c17z36 (K17z0 P K)) (K17z0 P K)
def K17z38 (P : Program) (K : Value → Heap → Prop) : Exit → (Nat → Value) → Heap → Prop := inBlockK 4 (K17z36 P K)
def K17z39 (P : Program) (K : Value → Heap → Prop) (jobs0 pairs1 : Value) (L1 : List Value → Heap → Prop) : Exit → (Nat → Value) → Heap → Prop := thenK (fun f' h'' => (([0, 1] : List Nat).map f' : List Value) = [jobs0, pairs1] ∧ L1 (([7, 8] : List Nat).map f') h'') (K17z38 P K)
def K17z42 (P : Program) (K : Value → Heap → Prop) (jobs0 pairs1 : Value) (L1 : List Value → Heap → Prop) : Exit → (Nat → Value) → Heap → Prop := thenK (iwpP P c17z42 (K17z39 P K jobs0 pairs1 L1)) (K17z39 P K jobs0 pairs1 L1)
def K17z43 (P : Program) (K : Value → Heap → Prop) (jobs0 pairs1 : Value) (L1 : List Value → Heap → Prop) : Exit → (Nat → Value) → Heap → Prop := inBlockK 5 (K17z42 P K jobs0 pairs1 L1)
def K17z45 (P : Program) (K : Value → Heap → Prop) (jobs0 pairs1 : Value) (L1 : List Value → Heap → Prop) : Exit → (Nat → Value) → Heap → Prop := inBlockK 6 (K17z43 P K jobs0 pairs1 L1)
def K17z46 (P : Program) (K : Value → Heap → Prop) (jobs0 pairs1 round8 : Value) (L1 L2 : List Value → Heap → Prop) : Exit → (Nat → Value) → Heap → Prop := thenK (fun f' h'' => (([0, 1, 8] : List Nat).map f' : List Value) = [jobs0, pairs1, round8] ∧ L2 (([7, 9] : List Nat).map f') h'') (K17z45 P K jobs0 pairs1 L1)
def p17z5 (P : Program) (K : Value → Heap → Prop) (jobs0 pairs1 : Value) (L1 : List Value → Heap → Prop) (xs : List Value) (h : Heap) : Prop := CutP (iwpP P c17z5 (K17z5 P K jobs0 pairs1 L1)) ([0, 1] ++ [5]) ([jobs0, pairs1] ++ xs) h
def p17z12 (P : Program) (K : Value → Heap → Prop) (jobs0 pairs1 i5 x23 : Value) (L1 : List Value → Heap → Prop) (h : Heap) : Prop := CutP (iwpP P c17z12 (K17z10 P K jobs0 pairs1 L1)) [0, 1, 5, 23] [jobs0, pairs1, i5, x23] h
def p17z14 (P : Program) (K : Value → Heap → Prop) (jobs0 pairs1 i5 x23 x30 : Value) (L1 : List Value → Heap → Prop) (h : Heap) : Prop := CutP (iwpP P c17z14 (K17z10 P K jobs0 pairs1 L1)) [0, 1, 5, 23, 30] [jobs0, pairs1, i5, x23, x30] h
def p17z16 (P : Program) (K : Value → Heap → Prop) (jobs0 pairs1 : Value) (h : Heap) : Prop := CutP (iwpP P c17z16 (K17z0 P K)) [0, 1] [jobs0, pairs1] h
def p17z20 (P : Program) (K : Value → Heap → Prop) (jobs0 pairs1 : Value) (L1 : List Value → Heap → Prop) (xs : List Value) (h : Heap) : Prop := CutP (iwpP P c17z20 (K17z20 P K jobs0 pairs1 L1)) ([0, 1] ++ [6]) ([jobs0, pairs1] ++ xs) h
def p17z27 (P : Program) (K : Value → Heap → Prop) (jobs0 pairs1 : Value) (h : Heap) : Prop := CutP (iwpP P c17z27 (K17z0 P K)) [0, 1] [jobs0, pairs1] h
def p17z31 (P : Program) (K : Value → Heap → Prop) (jobs0 pairs1 x77 : Value) (h : Heap) : Prop := CutP (iwpP P c17z31 (K17z29 P K)) [0, 1, 77] [jobs0, pairs1, x77] h
def p17z33 (P : Program) (K : Value → Heap → Prop) (jobs0 pairs1 x77 x80 : Value) (h : Heap) : Prop := CutP (iwpP P c17z33 (K17z29 P K)) [0, 1, 77, 80] [jobs0, pairs1, x77, x80] h
def p17z39 (P : Program) (K : Value → Heap → Prop) (jobs0 pairs1 : Value) (L1 : List Value → Heap → Prop) (xs : List Value) (h : Heap) : Prop := CutP (iwpP P c17z39 (K17z39 P K jobs0 pairs1 L1)) ([0, 1] ++ [7, 8]) ([jobs0, pairs1] ++ xs) h
def p17z46 (P : Program) (K : Value → Heap → Prop) (jobs0 pairs1 round8 : Value) (L1 L2 : List Value → Heap → Prop) (xs : List Value) (h : Heap) : Prop := CutP (iwpP P c17z46 (K17z46 P K jobs0 pairs1 round8 L1 L2)) ([0, 1, 8] ++ [7, 9]) ([jobs0, pairs1, round8] ++ xs) h
def p17z52 (P : Program) (K : Value → Heap → Prop) (jobs0 pairs1 left7 round8 j9 : Value) (L1 L2 : List Value → Heap → Prop) (h : Heap) : Prop := CutP (iwpP P c17z52 (K17z46 P K jobs0 pairs1 round8 L1 L2)) [0, 1, 7, 8, 9] [jobs0, pairs1, left7, round8, j9] h
def p17z53 (P : Program) (K : Value → Heap → Prop) (jobs0 pairs1 left7 round8 : Value) (L1 : List Value → Heap → Prop) (h : Heap) : Prop := CutP (iwpP P c17z53 (K17z39 P K jobs0 pairs1 L1)) [0, 1, 7, 8] [jobs0, pairs1, left7, round8] h
def p17z54 (P : Program) (K : Value → Heap → Prop) (left7 : Value) (h : Heap) : Prop := CutP (iwpP P c17z54 (K17z0 P K)) [7] [left7] h
theorem q17z14 (P : Program) (K : Value → Heap → Prop) (jobs0 pairs1 i5 x23 x30 : Value) (L1 : List Value → Heap → Prop) (h : Heap) : p17z14 P K jobs0 pairs1 i5 x23 x30 L1 h =
  (OP (iPick x23 (.bool true) x30) fun x31 =>
  IfP x31
    (K (.bool false) h)
    (OP (iBin .add i5 (.int .i64 (1))) fun x15 =>
    ([jobs0, pairs1] : List Value) = [jobs0, pairs1] ∧ L1 [x15] h)) := (CutP_def _ _ _ _).trans (by kernel_rfl)
theorem q17z12 (P : Program) (K : Value → Heap → Prop) (jobs0 pairs1 i5 x23 : Value) (L1 : List Value → Heap → Prop) (h : Heap) : p17z12 P K jobs0 pairs1 i5 x23 L1 h =
  (GdP x23 false
    (OP (iAdrSl 2 jobs0 i5) fun x26 =>
    OP (iFadr 1 x26) fun x27 =>
    OP (iLoad false 1 h x27) fun x28 =>
    CallP P 27 [x28, (.int .i64 (0)), (.int .i64 (50))] h fun x29 h_1 =>
    OP (iUn .not x29) fun x30 =>
    p17z14 P K jobs0 pairs1 i5 x23 x30 L1 h_1)
    (p17z14 P K jobs0 pairs1 i5 x23 undef L1 h)) := (CutP_def _ _ _ _).trans (by kernel_rfl)
theorem q17z5 (P : Program) (K : Value → Heap → Prop) (jobs0 pairs1 : Value) (L1 : List Value → Heap → Prop) (i5 : Value) (h : Heap) : p17z5 P K jobs0 pairs1 L1 [i5] h =
  (OP (iLenSl jobs0) fun x12 =>
  OP (iBin .lss i5 x12) fun x13 =>
  IfP x13
    (OP (iAdrSl 2 jobs0 i5) fun x18 =>
    OP (iFadr 0 x18) fun x19 =>
    OP (iLoad false 1 h x19) fun x20 =>
    CallP P 27 [x20, (.int .i64 (1)), (.int .i64 (50))] h fun x21 h_1 =>
    OP (iUn .not x21) fun x22 =>
    p17z12 P K jobs0 pairs1 i5 x22 L1 h_1)
    (p17z16 P K jobs0 pairs1 h)) := (CutP_def _ _ _ _).trans (by kernel_rfl)
theorem q17z20 (P : Program) (K : Value → Heap → Prop) (jobs0 pairs1 : Value) (L1 : List Value → Heap → Prop) (i6 : Value) (h : Heap) : p17z20 P K jobs0 pairs1 L1 [i6] h =
  (OP (iLenSl pairs1) fun x34 =>
  OP (iBin .lss i6 x34) fun x35 =>
  IfP x35
    (OP (iAdrSl 2 pairs1 i6) fun x40 =>
    OP (iFadr 0 x40) fun x41 =>
    OP (iLoad false 1 h x41) fun x42 =>
    (True) ∧
    OP (iLenSl jobs0) fun x44 =>
    OP (iBin .sub x44 (.int .i64 (1))) fun x45 =>
    CallP P 27 [x42, (.int .i64 (0)), x45] h fun x46 h_1 =>
    (True) ∧
    OP (iUn .not x46) fun x47 =>
    GdP x47 false
      (OP (iAdrSl 2 pairs1 i6) fun x51 =>
      OP (iFadr 1 x51) fun x52 =>
      OP (iLoad false 1 h_1 x52) fun x53 =>
      (True) ∧
      OP (iLenSl jobs0) fun x55 =>
      OP (iBin .sub x55 (.int .i64 (1))) fun x56 =>
      CallP P 27 [x53, (.int .i64 (0)), x56] h_1 fun x57 h_2 =>
      (True) ∧
      OP (iUn .not x57) fun x58 =>
      OP (iPick x47 (.bool true) x58) fun x59 =>
      GdP x59 false
        (OP (iAdrSl 2 pairs1 i6) fun x63 =>
        OP (iFadr 0 x63) fun x64 =>
        OP (iLoad false 1 h_2 x64) fun x65 =>
        (True) ∧
        OP (iAdrSl 2 pairs1 i6) fun x68 =>
        OP (iFadr 1 x68) fun x69 =>
        OP (iLoad false 1 h_2 x69) fun x70 =>
        (True) ∧
        OP (iBin .eql x65 x70) fun x71 =>
        OP (iPick x59 (.bool true) x71) fun x72 =>
        IfP x72
          (K (.bool false) h_2)
          (OP (iBin .add i6 (.int .i64 (1))) fun x37 =>
          ([jobs0, pairs1] : List Value) = [jobs0, pairs1] ∧ L1 [x37] h_2))
        (OP (iPick x59 (.bool true) undef) fun x72 =>
        IfP x72
          (K (.bool false) h_2)
          (OP (iBin .add i6 (.int .i64 (1))) fun x37 =>
          ([jobs0, pairs1] : List Value) = [jobs0, pairs1] ∧ L1 [x37] h_2)))
      ((True) ∧
      OP (iPick x47 (.bool true) undef) fun x59 =>
      GdP x59 false
        (OP (iAdrSl 2 pairs1 i6) fun x63 =>
        OP (iFadr 0 x63) fun x64 =>
        OP (iLoad false 1 h_1 x64) fun x65 =>
        (True) ∧
        OP (iAdrSl 2 pairs1 i6) fun x68 =>
        OP (iFadr 1 x68) fun x69 =>
        OP (iLoad false 1 h_1 x69) fun x70 =>
        (True) ∧
        OP (iBin .eql x65 x70) fun x71 =>
        OP (iPick x59 (.bool true) x71) fun x72 =>
        IfP x72
          (K (.bool false) h_1)
          (OP (iBin .add i6 (.int .i64 (1))) fun x37 =>
          ([jobs0, pairs1] : List Value) = [jobs0, pairs1] ∧ L1 [x37] h_1))
        (OP (iPick x59 (.bool true) undef) fun x72 =>
        IfP x72
          (K (.bool false) h_1)
          (OP (iBin .add i6 (.int .i64 (1))) fun x37 =>
          ([jobs0, pairs1] : List Value) = [jobs0, pairs1] ∧ L1 [x37] h_1))))
    (p17z27 P K jobs0 pairs1 h)) := (CutP_def _ _ _ _).trans (by kernel_rfl)
theorem q17z33 (P : Program) (K : Value → Heap → Prop) (jobs0 pairs1 x77 x80 : Value) (h : Heap) : p17z33 P K jobs0 pairs1 x77 x80 h =
  (OP (iPick x77 (.bool true) x80) fun x81 =>
  IfP x81
    (K (.bool false) h)
    (OP (iLenSl jobs0) fun x83 =>
    OP (iBin .shl (.int .i64 (1)) x83) fun x84 =>
    OP (iBin .sub x84 (.int .i64 (1))) fun x85 =>
    LoopP [x85, (.int .i64 (0))] h fun L1 xs hx =>
    p17z39 P K jobs0 pairs1 L1 xs hx)) := (CutP_def _ _ _ _).trans (by kernel_rfl)
theorem q17z31 (P : Program) (K : Value → Heap → Prop) (jobs0 pairs1 x77 : Value) (h : Heap) : p17z31 P K jobs0 pairs1 x77 h =
  (GdP x77 false
    (OP (iLenSl pairs1) fun x79 =>
    OP (iBin .gtr x79 (.int .i64 (40))) fun x80 =>
    p17z33 P K jobs0 pairs1 x77 x80 h)
    (p17z33 P K jobs0 pairs1 x77 undef h)) := (CutP_def _ _ _ _).trans (by kernel_rfl)
theorem q17z52 (P : Program) (K : Value → Heap → Prop) (jobs0 pairs1 left7 round8 j9 : Value) (L1 L2 : List Value → Heap → Prop) (h : Heap) : p17z52 P K jobs0 pairs1 left7 round8 j9 L1 L2 h =
  (OP (iBin .add j9 (.int .i64 (1))) fun x97 =>
  ([jobs0, pairs1, round8] : List Value) = [jobs0, pairs1, round8] ∧ L2 [left7, x97] h) := (CutP_def _ _ _ _).trans (by kernel_rfl)
theorem q17z46 (P : Program) (K : Value → Heap → Prop) (jobs0 pairs1 round8 : Value) (L1 L2 : List Value → Heap → Prop) (left7 j9 : Value) (h : Heap) : p17z46 P K jobs0 pairs1 round8 L1 L2 [left7, j9] h =
  (OP (iLenSl jobs0) fun x94 =>
  OP (iBin .lss j9 x94) fun x95 =>
  IfP x95
    (CallP P 28 [pairs1, j9] h fun x100 h_1 =>
    OP (iBin .and x100 left7) fun x102 =>
    OP (iBin .eql x102 (.int .i64 (0))) fun x103 =>
    IfP x103
      (OP (iBin .shl (.int .i64 (1)) j9) fun x106 =>
      OP (iBin .andNot left7 x106) fun x107 =>
      p17z52 P K jobs0 pairs1 x107 round8 j9 L1 L2 h_1)
      (p17z52 P K jobs0 pairs1 left7 round8 j9 L1 L2 h_1))
    (p17z53 P K jobs0 pairs1 left7 round8 L1 h)) := (CutP_def _ _ _ _).trans (by kernel_rfl)
theorem q17z53 (P : Program) (K : Value → Heap → Prop) (jobs0 pairs1 left7 round8 : Value) (L1 : List Value → Heap → Prop) (h : Heap) : p17z53 P K jobs0 pairs1 left7 round8 L1 h =
  (OP (iBin .add round8 (.int .i64 (1))) fun x91 =>
  ([jobs0, pairs1] : List Value) = [jobs0, pairs1] ∧ L1 [left7, x91] h) := (CutP_def _ _ _ _).trans (by kernel_rfl)
theorem q17z39 (P : Program) (K : Value → Heap → Prop) (jobs0 pairs1 : Value) (L1 : List Value → Heap → Prop) (left7 round8 : Value) (h : Heap) : p17z39 P K jobs0 pairs1 L1 [left7, round8] h =
  (OP (iLenSl jobs0) fun x88 =>
  OP (iBin .lss round8 x88) fun x89 =>
  IfP x89
    (LoopP [left7, (.int .i64 (0))] h fun L2 xs hx =>
    p17z46 P K jobs0 pairs1 round8 L1 L2 xs hx)
    (p17z54 P K left7 h)) := (CutP_def _ _ _ _).trans (by kernel_rfl)
theorem q17z54 (P : Program) (K : Value → Heap → Prop) (left7 : Value) (h : Heap) : p17z54 P K left7 h =
  (OP (iBin .eql left7 (.int .i64 (0))) fun x109 =>
  K x109 h) := (CutP_def _ _ _ _).trans (by kernel_rfl)
theorem q17z27 (P : Program) (K : Value → Heap → Prop) (jobs0 pairs1 : Value) (h : Heap) : p17z27 P K jobs0 pairs1 h =
  (OP (iLenSl jobs0) fun x74 =>
  CallP P 27 [x74, (.int .i64 (1)), (.int .i64 (10))] h fun x75 h_1 =>
  OP (iUn .not x75) fun x76 =>
  p17z31 P K jobs0 pairs1 x76 h_1) := (CutP_def _ _ _ _).trans (by kernel_rfl)
theorem q17z16 (P : Program) (K : Value → Heap → Prop) (jobs0 pairs1 : Value) (h : Heap) : p17z16 P K jobs0 pairs1 h =
  (LoopP [(.int .i64 (0))] h fun L1 xs hx =>
  p17z20 P K jobs0 pairs1 L1 xs hx) := (CutP_def _ _ _ _).trans (by kernel_rfl)
def T17 (P : Program) (K : Value → Heap → Prop) (jobs0 pairs1 : Value) (h : Heap) : Prop :=
  LoopP [(.int .i64 (0))] h fun L1 xs hx =>
  p17z5 P K jobs0 pairs1 L1 xs hx
theorem e17 (P : Program) (K : Value → Heap → Prop) (jobs0 pairs1 : Value) (h : Heap) : iwpP P c17 (bodyP [.tmp 4] K) (frame0 [jobs0, pairs1]) h = T17 P K jobs0 pairs1 h := by kernel_rfl
theorem f17 {K : Value → Heap → Prop} {jobs0 pairs1 : Value} {h : Heap} (H : T17 Try.prog K jobs0 pairs1 h) : CallP Try.prog 17 [jobs0, pairs1] h K :=
  callP_intro k17 (Nat.le_of_ble_eq_true rfl) ((e17 Try.prog K jobs0 pairs1 h).mpr H)
/-! F19: pommel/pommelref06.Best -/
noncomputable def c19z20 : ICode := .ops none [⟨(some 39), .p (.pick (.tmp 32) (.const (.bool true)) (.tmp 38))⟩]
noncomputable def c19z18 : ICode := .seq (.ops (some (32, false)) [⟨(some 33), .p (.mv (.tmp 1))⟩,
    ⟨(some 34), .p (.mv (.tmp 12))⟩,
    ⟨(some 35), .call 28 [(.tmp 33), (.tmp 34)]⟩,
    ⟨(some 36), .p (.mv (.tmp 3))⟩,
    ⟨(some 37), .p (.bin .andNot (.tmp 35) (.tmp 36))⟩,
    ⟨(some 38), .p (.bin .neq (.tmp 37) (.const (.int .i64 (0))))⟩])
 (.cut [0, 1, 2, 3, 10, 11, 12, 32, 38] c19z20)
noncomputable def c19z16 : ICode := .cond (.tmp 39) (.exit 1)
 (.skip)
noncomputable def c19z27 : ICode := .ops none [⟨(some 69), .p (.pick (.tmp 61) (.const (.bool true)) (.tmp 68))⟩]
noncomputable def c19z25 : ICode := .seq (.ops (some (61, false)) [⟨(some 62), .p (.mv (.tmp 0))⟩,
    ⟨(some 63), .p (.mv (.tmp 13))⟩,
    ⟨(some 64), .call 13 [(.tmp 62), (.tmp 63)]⟩,
    ⟨(some 65), .p (.mv (.tmp 0))⟩,
    ⟨(some 66), .p (.mv (.tmp 10))⟩,
    ⟨(some 67), .call 13 [(.tmp 65), (.tmp 66)]⟩,
    ⟨(some 68), .p (.bin .lss (.tmp 64) (.tmp 67))⟩])
 (.cut [0, 1, 2, 3, 10, 11, 12, 13, 61, 68] c19z27)
noncomputable def c19z23 : ICode := .cond (.tmp 69) (.ops none [⟨(some 70), .p (.mv (.tmp 13))⟩,
    ⟨(some 10), .p (.mv (.tmp 70))⟩])
 (.skip)
noncomputable def c19z15 : ICode := .seq (.dops [(none, [⟨(some 43), .e (.fl (.mkSl 3 0 [(.int .i64 (0))] [])), 0⟩,
    ⟨(some 46), .p (.mv (.tmp 12)), 0⟩,
    ⟨(some 47), .e (.fl (.mkSl 3 1 [(.int .i64 (0))] [(0, 1, (.tmp 46))])), 2⟩,
    ⟨(some 41), .p (.mv (.tmp 0)), 0⟩,
    ⟨(some 42), .p (.mv (.tmp 1)), 0⟩,
    ⟨(some 44), .p (.mv (.tmp 2)), 0⟩,
    ⟨(some 45), .e (.app 3 1 8 (.tmp 43) (.tmp 44)), 33⟩,
    ⟨(some 48), .e (.app 3 1 8 (.tmp 45) (.tmp 47)), 103⟩,
    ⟨(some 49), .p (.mv (.tmp 3)), 0⟩,
    ⟨(some 50), .p (.mv (.tmp 12)), 0⟩,
    ⟨(some 51), .p (.bin .shl (.const (.int .i64 (1))) (.tmp 50)), 512⟩,
    ⟨(some 52), .p (.bin .or (.tmp 49) (.tmp 51)), 1792⟩,
    ⟨(some 53), .call 19 [(.tmp 41), (.tmp 42), (.tmp 48), (.tmp 52)], 4095⟩,
    ⟨(some 40), .p (.mv (.tmp 53)), 8191⟩,
    ⟨(some 54), .p (.ext (.tmp 40) 0), 16383⟩,
    ⟨(some 55), .p (.ext (.tmp 40) 1), 16383⟩,
    ⟨(some 13), .p (.mv (.tmp 54)), 32767⟩,
    ⟨(some 14), .p (.mv (.tmp 55)), 131071⟩])])
 (.seq (.ops none [⟨(some 56), .p (.mv (.tmp 11))⟩,
    ⟨(some 57), .p (.mv (.tmp 14))⟩,
    ⟨(some 58), .p (.bin .add (.tmp 56) (.tmp 57))⟩,
    ⟨(some 11), .p (.mv (.tmp 58))⟩])
 (.seq (.seq (.ops none [⟨(some 59), .p (.mv (.tmp 10))⟩,
     ⟨(some 60), .p (.eqnil false (.tmp 59) (.const (.slice none 0 0)))⟩,
     ⟨(some 61), .p (.mv (.tmp 60))⟩])
  (.cut [0, 1, 2, 3, 10, 11, 12, 13, 61] c19z25)) c19z23))
noncomputable def c19z28 : ICode := .ops none [⟨(some 25), .p (.mv (.tmp 12))⟩,
   ⟨(some 26), .p (.bin .add (.tmp 25) (.const (.int .i64 (1))))⟩,
   ⟨(some 12), .p (.mv (.tmp 26))⟩]
noncomputable def c19z13 : ICode := .cut [0, 1, 2, 3, 10, 11, 12] c19z28
noncomputable def c19z10 : ICode := .seq (.seq (.ops none [⟨(some 21), .p (.mv (.tmp 12))⟩,
     ⟨(some 22), .p (.mv (.tmp 0))⟩,
     ⟨(some 23), .p (.lenSl (.tmp 22))⟩,
     ⟨(some 24), .p (.bin .lss (.tmp 21) (.tmp 23))⟩])
  (.cond (.tmp 24) (.skip)
  (.exit 0)))
 (.seq (.block 1 (.seq (.seq (.seq (.ops none [⟨(some 27), .p (.mv (.tmp 3))⟩,
        ⟨(some 28), .p (.mv (.tmp 12))⟩,
        ⟨(some 29), .p (.bin .shr (.tmp 27) (.tmp 28))⟩,
        ⟨(some 30), .p (.bin .and (.tmp 29) (.const (.int .i64 (1))))⟩,
        ⟨(some 31), .p (.bin .eql (.tmp 30) (.const (.int .i64 (1))))⟩,
        ⟨(some 32), .p (.mv (.tmp 31))⟩])
     (.cut [0, 1, 2, 3, 10, 11, 12, 32] c19z18)) c19z16) c19z15)) c19z13)
noncomputable def c19z29 : ICode := .seq (.ops none [⟨(some 71), .p (.mv (.tmp 10))⟩,
    ⟨(some 72), .p (.mv (.tmp 11))⟩,
    ⟨(some 8), .p (.mv (.tmp 71))⟩,
    ⟨(some 9), .p (.mv (.tmp 72))⟩])
 (.ret)
noncomputable def c19z7 : ICode := .cut [10, 11] c19z29
noncomputable def c19 : ICode := .seq (.ops none [⟨(some 8), .p (.mv (.const (.slice none 0 0)))⟩,
    ⟨(some 9), .p (.mv (.const (.int .i64 (0))))⟩])
 (.seq (.seq (.ops none [⟨(some 15), .p (.mv (.tmp 2))⟩,
     ⟨(some 16), .p (.lenSl (.tmp 15))⟩,
     ⟨(some 17), .p (.mv (.tmp 0))⟩,
     ⟨(some 18), .p (.lenSl (.tmp 17))⟩,
     ⟨(some 19), .p (.bin .eql (.tmp 16) (.tmp 18))⟩])
  (.cond (.tmp 19) (.seq (.ops none [⟨(some 20), .p (.mv (.tmp 2))⟩,
      ⟨(some 8), .p (.mv (.tmp 20))⟩,
      ⟨(some 9), .p (.mv (.const (.int .i64 (1))))⟩])
   (.ret))
  (.skip)))
 (.seq (.ops none [⟨(some 10), .p (.mv (.const (.slice none 0 0)))⟩])
 (.seq (.ops none [⟨(some 11), .p (.mv (.const (.int .i64 (0))))⟩])
 (.seq (.seq (.ops none [⟨(some 12), .p (.mv (.const (.int .i64 (0))))⟩])
  (.block 0 (.loop [0, 1, 2, 3] [10, 11, 12] c19z10))) c19z7))))
theorem k19 : compFn Try.prog 19 [[], [], [], [], [], [], [], [0, 1, 2, 3], [10, 11, 12], [], [], [0, 1, 2, 3, 10, 11, 12, 32], [0, 1, 2, 3, 10, 11, 12, 32, 38], [], [], [], [], [0, 1, 2, 3, 10, 11, 12, 13, 61], [0, 1, 2, 3, 10, 11, 12, 13, 61, 68], [], [0, 1, 2, 3, 10, 11, 12], [10, 11], []] = some (73, c19, [.tmp 8, .tmp 9]) := by kernel_rfl
def K19z0 (_P : Program) (K : Value → Heap → Prop) : Exit → (Nat → Value) → Heap → Prop := bodyP [.tmp 8, .tmp 9] K
def K19z7 (P : Program) (K : Value → Heap → Prop) : Exit → (Nat → Value) → Heap → Prop := thenK (iwpP P c19z7 (K19z0 P K)) (K19z0 P K)
def K19z9 (P : Program) (K : Value → Heap → Prop) : Exit → (Nat → Value) → Heap → Prop := inBlockK 0 (K19z7 P K)
def K19z10 (P : Program) (K : Value → Heap → Prop) (jobs0 pairs1 l2 done3 : Value) (L1 : List Value → Heap → Prop) : Exit → (Nat → Value) → Heap → Prop := thenK (fun f' h'' => (([0, 1, 2, 3] : List Nat).map f' : List Value) = [jobs0, pairs1, l2, done3] ∧ L1 (([10, 11, 12] : List Nat).map f') h'') (K19z9 P K)
def K19z13 (P : Program) (K : Value → Heap → Prop) (jobs0 pairs1 l2 done3 : Value) (L1 : List Value → Heap → Prop) : Exit → (Nat → Value) → Heap → Prop := thenK (iwpP P c19z13 (K19z10 P K jobs0 pairs1 l2 done3 L1)) (K19z10 P K jobs0 pairs1 l2 done3 L1)
def K19z14 (P : Program) (K : Value → Heap → Prop) (jobs0 pairs1 l2 done3 : Value) (L1 : List Value → Heap → Prop) : Exit → (Nat → Value) → Heap → Prop := inBlockK 1 (K19z13 P K jobs0 pairs1 l2 done3 L1)
def K19z15 (P : Program) (K : Value → Heap → Prop) (jobs0 pairs1 l2 done3 : Value) (L1 : List Value → Heap → Prop) : Exit → (Nat → Value) → Heap → Prop := thenK (iwpP P c19z15 (K19z14 P K jobs0 pairs1 l2 done3 L1)) (K19z14 P K jobs0 pairs1 l2 done3 L1)
def K19z16 (P : Program) (K : Value → Heap → Prop) (jobs0 pairs1 l2 done3 : Value) (L1 : List Value → Heap → Prop) : Exit → (Nat → Value) → Heap → Prop := thenK (iwpP P c19z16 (K19z15 P K jobs0 pairs1 l2 done3 L1)) (K19z15 P K jobs0 pairs1 l2 done3 L1)
def K19z23 (P : Program) (K : Value → Heap → Prop) (jobs0 pairs1 l2 done3 : Value) (L1 : List Value → Heap → Prop) : Exit → (Nat → Value) → Heap → Prop := thenK (iwpP P c19z23 (K19z14 P K jobs0 pairs1 l2 done3 L1)) (K19z14 P K jobs0 pairs1 l2 done3 L1)
def p19z10 (P : Program) (K : Value → Heap → Prop) (jobs0 pairs1 l2 done3 : Value) (L1 : List Value → Heap → Prop) (xs : List Value) (h : Heap) : Prop := CutP (iwpP P c19z10 (K19z10 P K jobs0 pairs1 l2 done3 L1)) ([0, 1, 2, 3] ++ [10, 11, 12]) ([jobs0, pairs1, l2, done3] ++ xs) h
def p19z18 (P : Program) (K : Value → Heap → Prop) (jobs0 pairs1 l2 done3 best10 many11 j12 x32 : Value) (L1 : List Value → Heap → Prop) (h : Heap) : Prop := CutP (iwpP P c19z18 (K19z16 P K jobs0 pairs1 l2 done3 L1)) [0, 1, 2, 3, 10, 11, 12, 32] [jobs0, pairs1, l2, done3, best10, many11, j12, x32] h
def p19z20 (P : Program) (K : Value → Heap → Prop) (jobs0 pairs1 l2 done3 best10 many11 j12 x32 x38 : Value) (L1 : List Value → Heap → Prop) (h : Heap) : Prop := CutP (iwpP P c19z20 (K19z16 P K jobs0 pairs1 l2 done3 L1)) [0, 1, 2, 3, 10, 11, 12, 32, 38] [jobs0, pairs1, l2, done3, best10, many11, j12, x32, x38] h
def p19z25 (P : Program) (K : Value → Heap → Prop) (jobs0 pairs1 l2 done3 best10 many11 j12 x13 x61 : Value) (L1 : List Value → Heap → Prop) (h : Heap) : Prop := CutP (iwpP P c19z25 (K19z23 P K jobs0 pairs1 l2 done3 L1)) [0, 1, 2, 3, 10, 11, 12, 13, 61] [jobs0, pairs1, l2, done3, best10, many11, j12, x13, x61] h
def p19z27 (P : Program) (K : Value → Heap → Prop) (jobs0 pairs1 l2 done3 best10 many11 j12 x13 x61 x68 : Value) (L1 : List Value → Heap → Prop) (h : Heap) : Prop := CutP (iwpP P c19z27 (K19z23 P K jobs0 pairs1 l2 done3 L1)) [0, 1, 2, 3, 10, 11, 12, 13, 61, 68] [jobs0, pairs1, l2, done3, best10, many11, j12, x13, x61, x68] h
def p19z28 (P : Program) (K : Value → Heap → Prop) (jobs0 pairs1 l2 done3 best10 many11 j12 : Value) (L1 : List Value → Heap → Prop) (h : Heap) : Prop := CutP (iwpP P c19z28 (K19z10 P K jobs0 pairs1 l2 done3 L1)) [0, 1, 2, 3, 10, 11, 12] [jobs0, pairs1, l2, done3, best10, many11, j12] h
def p19z29 (P : Program) (K : Value → Heap → Prop) (best10 many11 : Value) (h : Heap) : Prop := CutP (iwpP P c19z29 (K19z0 P K)) [10, 11] [best10, many11] h
theorem q19z20 (P : Program) (K : Value → Heap → Prop) (jobs0 pairs1 l2 done3 best10 many11 j12 x32 x38 : Value) (L1 : List Value → Heap → Prop) (h : Heap) : p19z20 P K jobs0 pairs1 l2 done3 best10 many11 j12 x32 x38 L1 h =
  (OP (iPick x32 (.bool true) x38) fun x39 =>
  IfP x39
    (p19z28 P K jobs0 pairs1 l2 done3 best10 many11 j12 L1 h)
    (OH (iMkSl 3 0 [(.int .i64 (0))] h []) fun x43 h_1 =>
    OP (iObj h_1 x43) fun u =>
    (True) ∧
    OH (iMkSl 3 1 [(.int .i64 (0))] h_1 [(0, 1, j12)]) fun x47 h_2 =>
    OP (iObj h_2 x47) fun u_1 =>
    (iObj h_2 x43 = some u ∧ True) ∧
    OH (iApp 3 1 8 h_2 x43 l2) fun x45 h_3 =>
    (iObj h_3 x47 = some u_1 ∧ True) ∧
    OH (iApp 3 1 8 h_3 x45 x47) fun x48 h_4 =>
    (True) ∧
    OP (iBin .shl (.int .i64 (1)) j12) fun x51 =>
    OP (iBin .or done3 x51) fun x52 =>
    CallP P 19 [jobs0, pairs1, x48, x52] h_4 fun x53 h_5 =>
    (True) ∧
    OP (iExt 0 x53) fun x54 =>
    OP (iExt 1 x53) fun x55 =>
    OP (iBin .add many11 x55) fun x58 =>
    OP (iEqnil false best10 (.slice none 0 0)) fun x60 =>
    p19z25 P K jobs0 pairs1 l2 done3 best10 x58 j12 x54 x60 L1 h_5)) := (CutP_def _ _ _ _).trans (by kernel_rfl)
theorem q19z18 (P : Program) (K : Value → Heap → Prop) (jobs0 pairs1 l2 done3 best10 many11 j12 x32 : Value) (L1 : List Value → Heap → Prop) (h : Heap) : p19z18 P K jobs0 pairs1 l2 done3 best10 many11 j12 x32 L1 h =
  (GdP x32 false
    (CallP P 28 [pairs1, j12] h fun x35 h_1 =>
    OP (iBin .andNot x35 done3) fun x37 =>
    OP (iBin .neq x37 (.int .i64 (0))) fun x38 =>
    p19z20 P K jobs0 pairs1 l2 done3 best10 many11 j12 x32 x38 L1 h_1)
    (p19z20 P K jobs0 pairs1 l2 done3 best10 many11 j12 x32 undef L1 h)) := (CutP_def _ _ _ _).trans (by kernel_rfl)
theorem q19z27 (P : Program) (K : Value → Heap → Prop) (jobs0 pairs1 l2 done3 best10 many11 j12 x13 x61 x68 : Value) (L1 : List Value → Heap → Prop) (h : Heap) : p19z27 P K jobs0 pairs1 l2 done3 best10 many11 j12 x13 x61 x68 L1 h =
  (OP (iPick x61 (.bool true) x68) fun x69 =>
  IfP x69
    (p19z28 P K jobs0 pairs1 l2 done3 x13 many11 j12 L1 h)
    (p19z28 P K jobs0 pairs1 l2 done3 best10 many11 j12 L1 h)) := (CutP_def _ _ _ _).trans (by kernel_rfl)
theorem q19z25 (P : Program) (K : Value → Heap → Prop) (jobs0 pairs1 l2 done3 best10 many11 j12 x13 x61 : Value) (L1 : List Value → Heap → Prop) (h : Heap) : p19z25 P K jobs0 pairs1 l2 done3 best10 many11 j12 x13 x61 L1 h =
  (GdP x61 false
    (CallP P 13 [jobs0, x13] h fun x64 h_1 =>
    CallP P 13 [jobs0, best10] h_1 fun x67 h_2 =>
    OP (iBin .lss x64 x67) fun x68 =>
    p19z27 P K jobs0 pairs1 l2 done3 best10 many11 j12 x13 x61 x68 L1 h_2)
    (p19z27 P K jobs0 pairs1 l2 done3 best10 many11 j12 x13 x61 undef L1 h)) := (CutP_def _ _ _ _).trans (by kernel_rfl)
theorem q19z28 (P : Program) (K : Value → Heap → Prop) (jobs0 pairs1 l2 done3 best10 many11 j12 : Value) (L1 : List Value → Heap → Prop) (h : Heap) : p19z28 P K jobs0 pairs1 l2 done3 best10 many11 j12 L1 h =
  (OP (iBin .add j12 (.int .i64 (1))) fun x26 =>
  ([jobs0, pairs1, l2, done3] : List Value) = [jobs0, pairs1, l2, done3] ∧ L1 [best10, many11, x26] h) := (CutP_def _ _ _ _).trans (by kernel_rfl)
theorem q19z10 (P : Program) (K : Value → Heap → Prop) (jobs0 pairs1 l2 done3 : Value) (L1 : List Value → Heap → Prop) (best10 many11 j12 : Value) (h : Heap) : p19z10 P K jobs0 pairs1 l2 done3 L1 [best10, many11, j12] h =
  (OP (iLenSl jobs0) fun x23 =>
  OP (iBin .lss j12 x23) fun x24 =>
  IfP x24
    (OP (iBin .shr done3 j12) fun x29 =>
    OP (iBin .and x29 (.int .i64 (1))) fun x30 =>
    OP (iBin .eql x30 (.int .i64 (1))) fun x31 =>
    p19z18 P K jobs0 pairs1 l2 done3 best10 many11 j12 x31 L1 h)
    (p19z29 P K best10 many11 h)) := (CutP_def _ _ _ _).trans (by kernel_rfl)
theorem q19z29 (P : Program) (K : Value → Heap → Prop) (best10 many11 : Value) (h : Heap) : p19z29 P K best10 many11 h =
  (K (.tuple #[best10, many11]) h) := (CutP_def _ _ _ _).trans (by kernel_rfl)
def T19 (P : Program) (K : Value → Heap → Prop) (jobs0 pairs1 l2 done3 : Value) (h : Heap) : Prop :=
  OP (iLenSl l2) fun x16 =>
  OP (iLenSl jobs0) fun x18 =>
  OP (iBin .eql x16 x18) fun x19 =>
  IfP x19
    (K (.tuple #[l2, (.int .i64 (1))]) h)
    (LoopP [(.slice none 0 0), (.int .i64 (0)), (.int .i64 (0))] h fun L1 xs hx =>
    p19z10 P K jobs0 pairs1 l2 done3 L1 xs hx)
theorem e19 (P : Program) (K : Value → Heap → Prop) (jobs0 pairs1 l2 done3 : Value) (h : Heap) : iwpP P c19 (bodyP [.tmp 8, .tmp 9] K) (frame0 [jobs0, pairs1, l2, done3]) h = T19 P K jobs0 pairs1 l2 done3 h := by kernel_rfl
theorem f19 {K : Value → Heap → Prop} {jobs0 pairs1 l2 done3 : Value} {h : Heap} (H : T19 Try.prog K jobs0 pairs1 l2 done3 h) : CallP Try.prog 19 [jobs0, pairs1, l2, done3] h K :=
  callP_intro k19 (Nat.le_of_ble_eq_true rfl) ((e19 Try.prog K jobs0 pairs1 l2 done3 h).mpr H)
/-! F20: pommel/pommelref01.Same -/
noncomputable def c20z6 : ICode := .ops none [⟨(some 14), .p (.pick (.tmp 9) (.tmp 13) (.const (.bool false)))⟩,
   ⟨(some 4), .p (.mv (.tmp 14))⟩]
noncomputable def c20z4 : ICode := .seq (.ops (some (9, true)) [⟨(some 10), .p (.mv (.tmp 1))⟩,
    ⟨(some 11), .p (.mv (.tmp 0))⟩,
    ⟨(some 12), .call 34 [(.tmp 10), (.tmp 11)]⟩,
    ⟨(some 13), .p (.un .not (.tmp 12))⟩])
 (.cut [9, 13] c20z6)
noncomputable def c20z2 : ICode := .ret
noncomputable def c20 : ICode := .seq (.ops none [⟨(some 4), .p (.mv (.const (.bool false)))⟩])
 (.seq (.seq (.ops none [⟨(some 5), .p (.mv (.tmp 0))⟩,
     ⟨(some 6), .p (.mv (.tmp 1))⟩,
     ⟨(some 7), .call 34 [(.tmp 5), (.tmp 6)]⟩,
     ⟨(some 8), .p (.un .not (.tmp 7))⟩,
     ⟨(some 9), .p (.mv (.tmp 8))⟩])
  (.cut [0, 1, 9] c20z4)) c20z2)
theorem k20 : compFn Try.prog 20 [[], [0, 1, 9], [9, 13], []] = some (15, c20, [.tmp 4]) := by kernel_rfl
def K20z0 (_P : Program) (K : Value → Heap → Prop) : Exit → (Nat → Value) → Heap → Prop := bodyP [.tmp 4] K
def K20z2 (P : Program) (K : Value → Heap → Prop) : Exit → (Nat → Value) → Heap → Prop := thenK (iwpP P c20z2 (K20z0 P K)) (K20z0 P K)
def p20z4 (P : Program) (K : Value → Heap → Prop) (a0 b1 x9 : Value) (h : Heap) : Prop := CutP (iwpP P c20z4 (K20z2 P K)) [0, 1, 9] [a0, b1, x9] h
def p20z6 (P : Program) (K : Value → Heap → Prop) (x9 x13 : Value) (h : Heap) : Prop := CutP (iwpP P c20z6 (K20z2 P K)) [9, 13] [x9, x13] h
theorem q20z6 (P : Program) (K : Value → Heap → Prop) (x9 x13 : Value) (h : Heap) : p20z6 P K x9 x13 h =
  (OP (iPick x9 x13 (.bool false)) fun x14 =>
  K x14 h) := (CutP_def _ _ _ _).trans (by kernel_rfl)
theorem q20z4 (P : Program) (K : Value → Heap → Prop) (a0 b1 x9 : Value) (h : Heap) : p20z4 P K a0 b1 x9 h =
  (GdP x9 true
    (CallP P 34 [b1, a0] h fun x12 h_1 =>
    OP (iUn .not x12) fun x13 =>
    p20z6 P K x9 x13 h_1)
    (p20z6 P K x9 undef h)) := (CutP_def _ _ _ _).trans (by kernel_rfl)
def T20 (P : Program) (K : Value → Heap → Prop) (a0 b1 : Value) (h : Heap) : Prop :=
  CallP P 34 [a0, b1] h fun x7 h_1 =>
  OP (iUn .not x7) fun x8 =>
  p20z4 P K a0 b1 x8 h_1
theorem e20 (P : Program) (K : Value → Heap → Prop) (a0 b1 : Value) (h : Heap) : iwpP P c20 (bodyP [.tmp 4] K) (frame0 [a0, b1]) h = T20 P K a0 b1 h := by kernel_rfl
theorem f20 {K : Value → Heap → Prop} {a0 b1 : Value} {h : Heap} (H : T20 Try.prog K a0 b1 h) : CallP Try.prog 20 [a0, b1] h K :=
  callP_intro k20 (Nat.le_of_ble_eq_true rfl) ((e20 Try.prog K a0 b1 h).mpr H)
/-! F21: pommel/pommelref06.Least -/
noncomputable def c21z24 : ICode := .ops none [⟨(some 37), .p (.mv (.tmp 11))⟩,
   ⟨(some 38), .p (.bin .add (.tmp 37) (.const (.int .i64 (1))))⟩,
   ⟨(some 11), .p (.mv (.tmp 38))⟩]
noncomputable def c21z18 : ICode := .seq (.seq (.ops none [⟨(some 34), .p (.mv (.tmp 11))⟩,
     ⟨(some 35), .p (.mv (.tmp 6))⟩,
     ⟨(some 36), .p (.bin .lss (.tmp 34) (.tmp 35))⟩])
  (.cond (.tmp 36) (.skip)
  (.exit 2)))
 (.seq (.block 3 (.seq (.ops none [⟨(some 39), .p (.mv (.tmp 9))⟩,
      ⟨(some 40), .p (.mv (.tmp 11))⟩,
      ⟨(some 41), .p (.bin .shr (.tmp 39) (.tmp 40))⟩,
      ⟨(some 42), .p (.bin .and (.tmp 41) (.const (.int .i64 (1))))⟩,
      ⟨(some 43), .p (.bin .eql (.tmp 42) (.const (.int .i64 (1))))⟩])
   (.cond (.tmp 43) (.ops none [⟨(some 44), .p (.mv (.tmp 10))⟩,
      ⟨(some 45), .p (.mv (.tmp 0))⟩,
      ⟨(some 46), .p (.mv (.tmp 11))⟩,
      ⟨(some 47), .p (.adrSl 2 (.tmp 45) (.tmp 46))⟩,
      ⟨(some 48), .p (.fadr 0 (.tmp 47))⟩,
      ⟨(some 49), .l (.load false 1 (.tmp 48))⟩,
      ⟨(some 50), .p (.bin .add (.tmp 44) (.tmp 49))⟩,
      ⟨(some 10), .p (.mv (.tmp 50))⟩])
   (.skip))))
 (.cut [0, 1, 6, 7, 8, 9, 10, 11] c21z24))
noncomputable def c21z43 : ICode := .ops none [⟨(some 79), .p (.pick (.tmp 72) (.const (.bool true)) (.tmp 78))⟩]
noncomputable def c21z41 : ICode := .seq (.ops (some (72, false)) [⟨(some 73), .p (.mv (.tmp 1))⟩,
    ⟨(some 74), .p (.mv (.tmp 12))⟩,
    ⟨(some 75), .call 28 [(.tmp 73), (.tmp 74)]⟩,
    ⟨(some 76), .p (.mv (.tmp 13))⟩,
    ⟨(some 77), .p (.bin .andNot (.tmp 75) (.tmp 76))⟩,
    ⟨(some 78), .p (.bin .neq (.tmp 77) (.const (.int .i64 (0))))⟩])
 (.cut [0, 1, 6, 7, 8, 9, 10, 12, 13, 72, 78] c21z43)
noncomputable def c21z39 : ICode := .seq (.ops none [⟨(some 71), .p (.pick (.tmp 65) (.const (.bool true)) (.tmp 70))⟩,
    ⟨(some 72), .p (.mv (.tmp 71))⟩])
 (.cut [0, 1, 6, 7, 8, 9, 10, 12, 13, 72] c21z41)
noncomputable def c21z37 : ICode := .seq (.ops (some (65, false)) [⟨(some 66), .p (.mv (.tmp 8))⟩,
    ⟨(some 67), .p (.mv (.tmp 13))⟩,
    ⟨(some 68), .p (.adrSl 1 (.tmp 66) (.tmp 67))⟩,
    ⟨(some 69), .l (.load false 1 (.tmp 68))⟩,
    ⟨(some 70), .p (.bin .eql (.tmp 69) (.const (.int .i64 (0))))⟩])
 (.cut [0, 1, 6, 7, 8, 9, 10, 12, 13, 65, 70] c21z39)
noncomputable def c21z35 : ICode := .cond (.tmp 79) (.exit 5)
 (.skip)
noncomputable def c21z50 : ICode := .ops none [⟨(some 114), .p (.pick (.tmp 107) (.const (.bool true)) (.tmp 113))⟩]
noncomputable def c21z48 : ICode := .seq (.ops (some (107, false)) [⟨(some 108), .p (.mv (.tmp 14))⟩,
    ⟨(some 109), .p (.mv (.tmp 7))⟩,
    ⟨(some 110), .p (.mv (.tmp 9))⟩,
    ⟨(some 111), .p (.adrSl 1 (.tmp 109) (.tmp 110))⟩,
    ⟨(some 112), .l (.load false 1 (.tmp 111))⟩,
    ⟨(some 113), .p (.bin .lss (.tmp 108) (.tmp 112))⟩])
 (.cut [0, 1, 6, 7, 8, 9, 10, 12, 14, 107, 113] c21z50)
noncomputable def c21z46 : ICode := .cond (.tmp 114) (.ops none [⟨(some 115), .p (.mv (.tmp 7))⟩,
    ⟨(some 116), .p (.mv (.tmp 9))⟩,
    ⟨(some 117), .p (.mv (.tmp 14))⟩,
    ⟨(some 118), .p (.adrSl 1 (.tmp 115) (.tmp 116))⟩,
    ⟨none, .e (.store 1 (.tmp 118) (.tmp 117))⟩])
 (.skip)
noncomputable def c21z34 : ICode := .seq (.dops [(none, [⟨(some 80), .p (.mv (.tmp 8)), 0⟩,
    ⟨(some 81), .p (.mv (.tmp 9)), 0⟩,
    ⟨(some 82), .p (.adrSl 1 (.tmp 80) (.tmp 81)), 3⟩,
    ⟨(some 83), .l (.load false 1 (.tmp 82)), 7⟩,
    ⟨(some 84), .p (.mv (.tmp 8)), 0⟩,
    ⟨(some 85), .p (.mv (.tmp 13)), 0⟩,
    ⟨(some 86), .p (.adrSl 1 (.tmp 84) (.tmp 85)), 48⟩,
    ⟨(some 87), .l (.load false 1 (.tmp 86)), 112⟩,
    ⟨(some 88), .p (.bin .add (.tmp 83) (.tmp 87)), 255⟩,
    ⟨(some 89), .p (.adrSl 1 (.tmp 80) (.tmp 81)), 511⟩,
    ⟨none, .e (.store 1 (.tmp 89) (.tmp 88)), 1023⟩])])
 (.seq (.dops [(none, [⟨(some 90), .p (.mv (.tmp 7)), 0⟩,
    ⟨(some 91), .p (.mv (.tmp 13)), 0⟩,
    ⟨(some 92), .p (.adrSl 1 (.tmp 90) (.tmp 91)), 3⟩,
    ⟨(some 93), .l (.load false 1 (.tmp 92)), 7⟩,
    ⟨(some 94), .p (.mv (.tmp 0)), 0⟩,
    ⟨(some 95), .p (.mv (.tmp 12)), 0⟩,
    ⟨(some 96), .p (.adrSl 2 (.tmp 94) (.tmp 95)), 48⟩,
    ⟨(some 97), .p (.fadr 1 (.tmp 96)), 112⟩,
    ⟨(some 98), .l (.load false 1 (.tmp 97)), 240⟩,
    ⟨(some 99), .p (.mv (.tmp 10)), 0⟩,
    ⟨(some 100), .p (.bin .mul (.tmp 98) (.tmp 99)), 1008⟩,
    ⟨(some 101), .p (.bin .add (.tmp 93) (.tmp 100)), 2047⟩,
    ⟨(some 14), .p (.mv (.tmp 101)), 4095⟩])])
 (.seq (.seq (.ops none [⟨(some 102), .p (.mv (.tmp 7))⟩,
     ⟨(some 103), .p (.mv (.tmp 9))⟩,
     ⟨(some 104), .p (.adrSl 1 (.tmp 102) (.tmp 103))⟩,
     ⟨(some 105), .l (.load false 1 (.tmp 104))⟩,
     ⟨(some 106), .p (.bin .lss (.tmp 105) (.const (.int .i64 (0))))⟩,
     ⟨(some 107), .p (.mv (.tmp 106))⟩])
  (.cut [0, 1, 6, 7, 8, 9, 10, 12, 14, 107] c21z48)) c21z46))
noncomputable def c21z51 : ICode := .ops none [⟨(some 54), .p (.mv (.tmp 12))⟩,
   ⟨(some 55), .p (.bin .add (.tmp 54) (.const (.int .i64 (1))))⟩,
   ⟨(some 12), .p (.mv (.tmp 55))⟩]
noncomputable def c21z31 : ICode := .cut [0, 1, 6, 7, 8, 9, 10, 12] c21z51
noncomputable def c21z28 : ICode := .seq (.seq (.ops none [⟨(some 51), .p (.mv (.tmp 12))⟩,
     ⟨(some 52), .p (.mv (.tmp 6))⟩,
     ⟨(some 53), .p (.bin .lss (.tmp 51) (.tmp 52))⟩])
  (.cond (.tmp 53) (.skip)
  (.exit 4)))
 (.seq (.block 5 (.seq (.ops none [⟨(some 56), .p (.mv (.tmp 9))⟩,
      ⟨(some 57), .p (.mv (.tmp 12))⟩,
      ⟨(some 58), .p (.bin .shl (.const (.int .i64 (1))) (.tmp 57))⟩,
      ⟨(some 59), .p (.bin .andNot (.tmp 56) (.tmp 58))⟩,
      ⟨(some 13), .p (.mv (.tmp 59))⟩])
   (.seq (.seq (.seq (.ops none [⟨(some 60), .p (.mv (.tmp 9))⟩,
        ⟨(some 61), .p (.mv (.tmp 12))⟩,
        ⟨(some 62), .p (.bin .shr (.tmp 60) (.tmp 61))⟩,
        ⟨(some 63), .p (.bin .and (.tmp 62) (.const (.int .i64 (1))))⟩,
        ⟨(some 64), .p (.bin .eql (.tmp 63) (.const (.int .i64 (0))))⟩,
        ⟨(some 65), .p (.mv (.tmp 64))⟩])
     (.cut [0, 1, 6, 7, 8, 9, 10, 12, 13, 65] c21z37)) c21z35) c21z34))) c21z31)
noncomputable def c21z25 : ICode := .seq (.ops none [⟨(some 12), .p (.mv (.const (.int .i64 (0))))⟩])
 (.block 4 (.loop [0, 1, 6, 7, 8, 9, 10] [12] c21z28))
noncomputable def c21z15 : ICode := .cut [0, 1, 6, 7, 8, 9, 10] c21z25
noncomputable def c21z52 : ICode := .ops none [⟨(some 29), .p (.mv (.tmp 9))⟩,
   ⟨(some 30), .p (.bin .add (.tmp 29) (.const (.int .i64 (1))))⟩,
   ⟨(some 9), .p (.mv (.tmp 30))⟩]
noncomputable def c21z11 : ICode := .cut [0, 1, 6, 7, 8, 9] c21z52
noncomputable def c21z8 : ICode := .seq (.seq (.ops none [⟨(some 25), .p (.mv (.tmp 9))⟩,
     ⟨(some 26), .p (.mv (.tmp 6))⟩,
     ⟨(some 27), .p (.bin .shl (.const (.int .i64 (1))) (.tmp 26))⟩,
     ⟨(some 28), .p (.bin .lss (.tmp 25) (.tmp 27))⟩])
  (.cond (.tmp 28) (.skip)
  (.exit 0)))
 (.seq (.block 1 (.seq (.ops none [⟨(some 31), .p (.mv (.tmp 7))⟩,
      ⟨(some 32), .p (.mv (.tmp 9))⟩,
      ⟨(some 33), .p (.adrSl 1 (.tmp 31) (.tmp 32))⟩,
      ⟨none, .e (.store 1 (.tmp 33) (.const (.int .i64 (-1))))⟩])
   (.seq (.ops none [⟨(some 10), .p (.mv (.const (.int .i64 (0))))⟩])
   (.seq (.seq (.ops none [⟨(some 11), .p (.mv (.const (.int .i64 (0))))⟩])
    (.block 2 (.loop [0, 1, 6, 7, 8, 9] [10, 11] c21z18))) c21z15)))) c21z11)
noncomputable def c21z53 : ICode := .seq (.dops [(none, [⟨(some 119), .p (.mv (.tmp 7)), 0⟩,
    ⟨(some 120), .p (.mv (.tmp 6)), 0⟩,
    ⟨(some 121), .p (.bin .shl (.const (.int .i64 (1))) (.tmp 120)), 2⟩,
    ⟨(some 122), .p (.bin .sub (.tmp 121) (.const (.int .i64 (1)))), 6⟩,
    ⟨(some 123), .p (.adrSl 1 (.tmp 119) (.tmp 122)), 15⟩,
    ⟨(some 124), .l (.load false 1 (.tmp 123)), 31⟩,
    ⟨(some 125), .p (.mv (.tmp 8)), 0⟩,
    ⟨(some 126), .p (.mv (.tmp 6)), 0⟩,
    ⟨(some 127), .p (.bin .shl (.const (.int .i64 (1))) (.tmp 126)), 128⟩,
    ⟨(some 128), .p (.bin .sub (.tmp 127) (.const (.int .i64 (1)))), 384⟩,
    ⟨(some 129), .p (.adrSl 1 (.tmp 125) (.tmp 128)), 960⟩,
    ⟨(some 130), .l (.load false 1 (.tmp 129)), 1984⟩,
    ⟨(some 4), .p (.mv (.tmp 124)), 63⟩,
    ⟨(some 5), .p (.mv (.tmp 130)), 8191⟩])])
 (.ret)
noncomputable def c21z5 : ICode := .cut [6, 7, 8] c21z53
noncomputable def c21 : ICode := .seq (.ops none [⟨(some 4), .p (.mv (.const (.int .i64 (0))))⟩,
    ⟨(some 5), .p (.mv (.const (.int .i64 (0))))⟩])
 (.seq (.ops none [⟨(some 15), .p (.mv (.tmp 0))⟩,
    ⟨(some 16), .p (.lenSl (.tmp 15))⟩,
    ⟨(some 6), .p (.mv (.tmp 16))⟩])
 (.seq (.dops [(none, [⟨(some 17), .p (.mv (.tmp 6)), 0⟩,
    ⟨(some 18), .p (.bin .shl (.const (.int .i64 (1))) (.tmp 17)), 1⟩,
    ⟨(some 19), .e (.fl (.make 3 8 [(.int .i64 (0))] (.tmp 18) (.tmp 18))), 3⟩,
    ⟨(some 20), .p (.mv (.tmp 6)), 0⟩,
    ⟨(some 21), .p (.bin .shl (.const (.int .i64 (1))) (.tmp 20)), 8⟩,
    ⟨(some 22), .e (.fl (.make 3 8 [(.int .i64 (0))] (.tmp 21) (.tmp 21))), 24⟩,
    ⟨(some 7), .p (.mv (.tmp 19)), 7⟩,
    ⟨(some 8), .p (.mv (.tmp 22)), 127⟩])])
 (.seq (.ops none [⟨(some 23), .p (.mv (.tmp 8))⟩,
    ⟨(some 24), .p (.adrSl 1 (.tmp 23) (.const (.int .i64 (0))))⟩,
    ⟨none, .e (.store 1 (.tmp 24) (.const (.int .i64 (1))))⟩])
 (.seq (.seq (.ops none [⟨(some 9), .p (.mv (.const (.int .i64 (1))))⟩])
  (.block 0 (.loop [0, 1, 6, 7, 8] [9] c21z8))) c21z5))))
theorem k21 : compFn Try.prog 21 [[], [], [], [], [], [0, 1, 6, 7, 8], [9], [], [], [], [], [], [0, 1, 6, 7, 8, 9], [10, 11], [], [], [], [0, 1, 6, 7, 8, 9, 10, 11], [0, 1, 6, 7, 8, 9, 10], [], [0, 1, 6, 7, 8, 9, 10], [12], [], [], [], [0, 1, 6, 7, 8, 9, 10, 12, 13, 65], [0, 1, 6, 7, 8, 9, 10, 12, 13, 65, 70], [0, 1, 6, 7, 8, 9, 10, 12, 13, 72], [0, 1, 6, 7, 8, 9, 10, 12, 13, 72, 78], [], [], [], [], [0, 1, 6, 7, 8, 9, 10, 12, 14, 107], [0, 1, 6, 7, 8, 9, 10, 12, 14, 107, 113], [], [0, 1, 6, 7, 8, 9, 10, 12], [0, 1, 6, 7, 8, 9], [6, 7, 8], []] = some (131, c21, [.tmp 4, .tmp 5]) := by kernel_rfl
def K21z0 (_P : Program) (K : Value → Heap → Prop) : Exit → (Nat → Value) → Heap → Prop := bodyP [.tmp 4, .tmp 5] K
def K21z5 (P : Program) (K : Value → Heap → Prop) : Exit → (Nat → Value) → Heap → Prop := thenK (iwpP P c21z5 (K21z0 P K)) (K21z0 P K)
def K21z7 (P : Program) (K : Value → Heap → Prop) : Exit → (Nat → Value) → Heap → Prop := inBlockK 0 (K21z5 P K)
def K21z8 (P : Program) (K : Value → Heap → Prop) (jobs0 pairs1 n6 cost7 ways8 : Value) (L1 : List Value → Heap → Prop) : Exit → (Nat → Value) → Heap → Prop := thenK (fun f' h'' => (([0, 1, 6, 7, 8] : List Nat).map f' : List Value) = [jobs0, pairs1, n6, cost7, ways8] ∧ L1 (([9] : List Nat).map f') h'') (K21z7 P K)
def K21z11 (P : Program) (K : Value → Heap → Prop) (jobs0 pairs1 n6 cost7 ways8 : Value) (L1 : List Value → Heap → Prop) : Exit → (Nat → Value) → Heap → Prop := thenK (iwpP P c21z11 (K21z8 P K jobs0 pairs1 n6 cost7 ways8 L1)) (K21z8 P K jobs0 pairs1 n6 cost7 ways8 L1)
def K21z12 (P : Program) (K : Value → Heap → Prop) (jobs0 pairs1 n6 cost7 ways8 : Value) (L1 : List Value → Heap → Prop) : Exit → (Nat → Value) → Heap → Prop := inBlockK 1 (K21z11 P K jobs0 pairs1 n6 cost7 ways8 L1)
def K21z15 (P : Program) (K : Value → Heap → Prop) (jobs0 pairs1 n6 cost7 ways8 : Value) (L1 : List Value → Heap → Prop) : Exit → (Nat → Value) → Heap → Prop := thenK (iwpP P c21z15 (K21z12 P K jobs0 pairs1 n6 cost7 ways8 L1)) (K21z12 P K jobs0 pairs1 n6 cost7 ways8 L1)
def K21z17 (P : Program) (K : Value → Heap → Prop) (jobs0 pairs1 n6 cost7 ways8 : Value) (L1 : List Value → Heap → Prop) : Exit → (Nat → Value) → Heap → Prop := inBlockK 2 (K21z15 P K jobs0 pairs1 n6 cost7 ways8 L1)
def K21z18 (P : Program) (K : Value → Heap → Prop) (jobs0 pairs1 n6 cost7 ways8 set9 : Value) (L1 L2 : List Value → Heap → Prop) : Exit → (Nat → Value) → Heap → Prop := thenK (fun f' h'' => (([0, 1, 6, 7, 8, 9] : List Nat).map f' : List Value) = [jobs0, pairs1, n6, cost7, ways8, set9] ∧ L2 (([10, 11] : List Nat).map f') h'') (K21z17 P K jobs0 pairs1 n6 cost7 ways8 L1)
def K21z27 (P : Program) (K : Value → Heap → Prop) (jobs0 pairs1 n6 cost7 ways8 : Value) (L1 : List Value → Heap → Prop) : Exit → (Nat → Value) → Heap → Prop := inBlockK 4 (K21z12 P K jobs0 pairs1 n6 cost7 ways8 L1)
def K21z28 (P : Program) (K : Value → Heap → Prop) (jobs0 pairs1 n6 cost7 ways8 set9 end10 : Value) (L1 L2 : List Value → Heap → Prop) : Exit → (Nat → Value) → Heap → Prop := thenK (fun f' h'' => (([0, 1, 6, 7, 8, 9, 10] : List Nat).map f' : List Value) = [jobs0, pairs1, n6, cost7, ways8, set9, end10] ∧ L2 (([12] : List Nat).map f') h'') (K21z27 P K jobs0 pairs1 n6 cost7 ways8 L1)
def K21z31 (P : Program) (K : Value → Heap → Prop) (jobs0 pairs1 n6 cost7 ways8 set9 end10 : Value) (L1 L2 : List Value → Heap → Prop) : Exit → (Nat → Value) → Heap → Prop := thenK (iwpP P c21z31 (K21z28 P K jobs0 pairs1 n6 cost7 ways8 set9 end10 L1 L2)) (K21z28 P K jobs0 pairs1 n6 cost7 ways8 set9 end10 L1 L2)
def K21z32 (P : Program) (K : Value → Heap → Prop) (jobs0 pairs1 n6 cost7 ways8 set9 end10 : Value) (L1 L2 : List Value → Heap → Prop) : Exit → (Nat → Value) → Heap → Prop := inBlockK 5 (K21z31 P K jobs0 pairs1 n6 cost7 ways8 set9 end10 L1 L2)
def K21z34 (P : Program) (K : Value → Heap → Prop) (jobs0 pairs1 n6 cost7 ways8 set9 end10 : Value) (L1 L2 : List Value → Heap → Prop) : Exit → (Nat → Value) → Heap → Prop := thenK (iwpP P c21z34 (K21z32 P K jobs0 pairs1 n6 cost7 ways8 set9 end10 L1 L2)) (K21z32 P K jobs0 pairs1 n6 cost7 ways8 set9 end10 L1 L2)
def K21z35 (P : Program) (K : Value → Heap → Prop) (jobs0 pairs1 n6 cost7 ways8 set9 end10 : Value) (L1 L2 : List Value → Heap → Prop) : Exit → (Nat → Value) → Heap → Prop := thenK (iwpP P c21z35 (K21z34 P K jobs0 pairs1 n6 cost7 ways8 set9 end10 L1 L2)) (K21z34 P K jobs0 pairs1 n6 cost7 ways8 set9 end10 L1 L2)
def K21z46 (P : Program) (K : Value → Heap → Prop) (jobs0 pairs1 n6 cost7 ways8 set9 end10 : Value) (L1 L2 : List Value → Heap → Prop) : Exit → (Nat → Value) → Heap → Prop := thenK (iwpP P c21z46 (K21z32 P K jobs0 pairs1 n6 cost7 ways8 set9 end10 L1 L2)) (K21z32 P K jobs0 pairs1 n6 cost7 ways8 set9 end10 L1 L2)
def p21z8 (P : Program) (K : Value → Heap → Prop) (jobs0 pairs1 n6 cost7 ways8 : Value) (L1 : List Value → Heap → Prop) (xs : List Value) (h : Heap) : Prop := CutP (iwpP P c21z8 (K21z8 P K jobs0 pairs1 n6 cost7 ways8 L1)) ([0, 1, 6, 7, 8] ++ [9]) ([jobs0, pairs1, n6, cost7, ways8] ++ xs) h
def p21z18 (P : Program) (K : Value → Heap → Prop) (jobs0 pairs1 n6 cost7 ways8 set9 : Value) (L1 L2 : List Value → Heap → Prop) (xs : List Value) (h : Heap) : Prop := CutP (iwpP P c21z18 (K21z18 P K jobs0 pairs1 n6 cost7 ways8 set9 L1 L2)) ([0, 1, 6, 7, 8, 9] ++ [10, 11]) ([jobs0, pairs1, n6, cost7, ways8, set9] ++ xs) h
def p21z24 (P : Program) (K : Value → Heap → Prop) (jobs0 pairs1 n6 cost7 ways8 set9 end10 j11 : Value) (L1 L2 : List Value → Heap → Prop) (h : Heap) : Prop := CutP (iwpP P c21z24 (K21z18 P K jobs0 pairs1 n6 cost7 ways8 set9 L1 L2)) [0, 1, 6, 7, 8, 9, 10, 11] [jobs0, pairs1, n6, cost7, ways8, set9, end10, j11] h
def p21z25 (P : Program) (K : Value → Heap → Prop) (jobs0 pairs1 n6 cost7 ways8 set9 end10 : Value) (L1 : List Value → Heap → Prop) (h : Heap) : Prop := CutP (iwpP P c21z25 (K21z12 P K jobs0 pairs1 n6 cost7 ways8 L1)) [0, 1, 6, 7, 8, 9, 10] [jobs0, pairs1, n6, cost7, ways8, set9, end10] h
def p21z28 (P : Program) (K : Value → Heap → Prop) (jobs0 pairs1 n6 cost7 ways8 set9 end10 : Value) (L1 L2 : List Value → Heap → Prop) (xs : List Value) (h : Heap) : Prop := CutP (iwpP P c21z28 (K21z28 P K jobs0 pairs1 n6 cost7 ways8 set9 end10 L1 L2)) ([0, 1, 6, 7, 8, 9, 10] ++ [12]) ([jobs0, pairs1, n6, cost7, ways8, set9, end10] ++ xs) h
def p21z37 (P : Program) (K : Value → Heap → Prop) (jobs0 pairs1 n6 cost7 ways8 set9 end10 j12 without13 x65 : Value) (L1 L2 : List Value → Heap → Prop) (h : Heap) : Prop := CutP (iwpP P c21z37 (K21z35 P K jobs0 pairs1 n6 cost7 ways8 set9 end10 L1 L2)) [0, 1, 6, 7, 8, 9, 10, 12, 13, 65] [jobs0, pairs1, n6, cost7, ways8, set9, end10, j12, without13, x65] h
def p21z39 (P : Program) (K : Value → Heap → Prop) (jobs0 pairs1 n6 cost7 ways8 set9 end10 j12 without13 x65 x70 : Value) (L1 L2 : List Value → Heap → Prop) (h : Heap) : Prop := CutP (iwpP P c21z39 (K21z35 P K jobs0 pairs1 n6 cost7 ways8 set9 end10 L1 L2)) [0, 1, 6, 7, 8, 9, 10, 12, 13, 65, 70] [jobs0, pairs1, n6, cost7, ways8, set9, end10, j12, without13, x65, x70] h
def p21z41 (P : Program) (K : Value → Heap → Prop) (jobs0 pairs1 n6 cost7 ways8 set9 end10 j12 without13 x72 : Value) (L1 L2 : List Value → Heap → Prop) (h : Heap) : Prop := CutP (iwpP P c21z41 (K21z35 P K jobs0 pairs1 n6 cost7 ways8 set9 end10 L1 L2)) [0, 1, 6, 7, 8, 9, 10, 12, 13, 72] [jobs0, pairs1, n6, cost7, ways8, set9, end10, j12, without13, x72] h
def p21z43 (P : Program) (K : Value → Heap → Prop) (jobs0 pairs1 n6 cost7 ways8 set9 end10 j12 without13 x72 x78 : Value) (L1 L2 : List Value → Heap → Prop) (h : Heap) : Prop := CutP (iwpP P c21z43 (K21z35 P K jobs0 pairs1 n6 cost7 ways8 set9 end10 L1 L2)) [0, 1, 6, 7, 8, 9, 10, 12, 13, 72, 78] [jobs0, pairs1, n6, cost7, ways8, set9, end10, j12, without13, x72, x78] h
def p21z48 (P : Program) (K : Value → Heap → Prop) (jobs0 pairs1 n6 cost7 ways8 set9 end10 j12 v14 x107 : Value) (L1 L2 : List Value → Heap → Prop) (h : Heap) : Prop := CutP (iwpP P c21z48 (K21z46 P K jobs0 pairs1 n6 cost7 ways8 set9 end10 L1 L2)) [0, 1, 6, 7, 8, 9, 10, 12, 14, 107] [jobs0, pairs1, n6, cost7, ways8, set9, end10, j12, v14, x107] h
def p21z50 (P : Program) (K : Value → Heap → Prop) (jobs0 pairs1 n6 cost7 ways8 set9 end10 j12 v14 x107 x113 : Value) (L1 L2 : List Value → Heap → Prop) (h : Heap) : Prop := CutP (iwpP P c21z50 (K21z46 P K jobs0 pairs1 n6 cost7 ways8 set9 end10 L1 L2)) [0, 1, 6, 7, 8, 9, 10, 12, 14, 107, 113] [jobs0, pairs1, n6, cost7, ways8, set9, end10, j12, v14, x107, x113] h
def p21z51 (P : Program) (K : Value → Heap → Prop) (jobs0 pairs1 n6 cost7 ways8 set9 end10 j12 : Value) (L1 L2 : List Value → Heap → Prop) (h : Heap) : Prop := CutP (iwpP P c21z51 (K21z28 P K jobs0 pairs1 n6 cost7 ways8 set9 end10 L1 L2)) [0, 1, 6, 7, 8, 9, 10, 12] [jobs0, pairs1, n6, cost7, ways8, set9, end10, j12] h
def p21z52 (P : Program) (K : Value → Heap → Prop) (jobs0 pairs1 n6 cost7 ways8 set9 : Value) (L1 : List Value → Heap → Prop) (h : Heap) : Prop := CutP (iwpP P c21z52 (K21z8 P K jobs0 pairs1 n6 cost7 ways8 L1)) [0, 1, 6, 7, 8, 9] [jobs0, pairs1, n6, cost7, ways8, set9] h
def p21z53 (P : Program) (K : Value → Heap → Prop) (n6 cost7 ways8 : Value) (h : Heap) : Prop := CutP (iwpP P c21z53 (K21z0 P K)) [6, 7, 8] [n6, cost7, ways8] h
theorem q21z24 (P : Program) (K : Value → Heap → Prop) (jobs0 pairs1 n6 cost7 ways8 set9 end10 j11 : Value) (L1 L2 : List Value → Heap → Prop) (h : Heap) : p21z24 P K jobs0 pairs1 n6 cost7 ways8 set9 end10 j11 L1 L2 h =
  (OP (iBin .add j11 (.int .i64 (1))) fun x38 =>
  ([jobs0, pairs1, n6, cost7, ways8, set9] : List Value) = [jobs0, pairs1, n6, cost7, ways8, set9] ∧ L2 [end10, x38] h) := (CutP_def _ _ _ _).trans (by kernel_rfl)
theorem q21z18 (P : Program) (K : Value → Heap → Prop) (jobs0 pairs1 n6 cost7 ways8 set9 : Value) (L1 L2 : List Value → Heap → Prop) (end10 j11 : Value) (h : Heap) : p21z18 P K jobs0 pairs1 n6 cost7 ways8 set9 L1 L2 [end10, j11] h =
  (OP (iBin .lss j11 n6) fun x36 =>
  IfP x36
    (OP (iBin .shr set9 j11) fun x41 =>
    OP (iBin .and x41 (.int .i64 (1))) fun x42 =>
    OP (iBin .eql x42 (.int .i64 (1))) fun x43 =>
    IfP x43
      (OP (iAdrSl 2 jobs0 j11) fun x47 =>
      OP (iFadr 0 x47) fun x48 =>
      OP (iLoad false 1 h x48) fun x49 =>
      OP (iBin .add end10 x49) fun x50 =>
      p21z24 P K jobs0 pairs1 n6 cost7 ways8 set9 x50 j11 L1 L2 h)
      (p21z24 P K jobs0 pairs1 n6 cost7 ways8 set9 end10 j11 L1 L2 h))
    (p21z25 P K jobs0 pairs1 n6 cost7 ways8 set9 end10 L1 h)) := (CutP_def _ _ _ _).trans (by kernel_rfl)
theorem q21z43 (P : Program) (K : Value → Heap → Prop) (jobs0 pairs1 n6 cost7 ways8 set9 end10 j12 without13 x72 x78 : Value) (L1 L2 : List Value → Heap → Prop) (h : Heap) : p21z43 P K jobs0 pairs1 n6 cost7 ways8 set9 end10 j12 without13 x72 x78 L1 L2 h =
  (OP (iPick x72 (.bool true) x78) fun x79 =>
  IfP x79
    (p21z51 P K jobs0 pairs1 n6 cost7 ways8 set9 end10 j12 L1 L2 h)
    (OP (iAdrSl 1 ways8 set9) fun x82 =>
    OP (iLoad false 1 h x82) fun x83 =>
    (True) ∧
    OP (iAdrSl 1 ways8 without13) fun x86 =>
    OP (iLoad false 1 h x86) fun x87 =>
    (True) ∧
    OP (iBin .add x83 x87) fun x88 =>
    OP (iAdrSl 1 ways8 set9) fun x89 =>
    OH (oStore 1 h x89 x88) fun _ h_1 =>
    (True) ∧
    OP (iAdrSl 1 cost7 without13) fun x92 =>
    OP (iLoad false 1 h_1 x92) fun x93 =>
    (True) ∧
    OP (iAdrSl 2 jobs0 j12) fun x96 =>
    OP (iFadr 1 x96) fun x97 =>
    OP (iLoad false 1 h_1 x97) fun x98 =>
    (True) ∧
    OP (iBin .mul x98 end10) fun x100 =>
    OP (iBin .add x93 x100) fun x101 =>
    OP (iAdrSl 1 cost7 set9) fun x104 =>
    OP (iLoad false 1 h_1 x104) fun x105 =>
    OP (iBin .lss x105 (.int .i64 (0))) fun x106 =>
    p21z48 P K jobs0 pairs1 n6 cost7 ways8 set9 end10 j12 x101 x106 L1 L2 h_1)) := (CutP_def _ _ _ _).trans (by kernel_rfl)
theorem q21z41 (P : Program) (K : Value → Heap → Prop) (jobs0 pairs1 n6 cost7 ways8 set9 end10 j12 without13 x72 : Value) (L1 L2 : List Value → Heap → Prop) (h : Heap) : p21z41 P K jobs0 pairs1 n6 cost7 ways8 set9 end10 j12 without13 x72 L1 L2 h =
  (GdP x72 false
    (CallP P 28 [pairs1, j12] h fun x75 h_1 =>
    OP (iBin .andNot x75 without13) fun x77 =>
    OP (iBin .neq x77 (.int .i64 (0))) fun x78 =>
    p21z43 P K jobs0 pairs1 n6 cost7 ways8 set9 end10 j12 without13 x72 x78 L1 L2 h_1)
    (p21z43 P K jobs0 pairs1 n6 cost7 ways8 set9 end10 j12 without13 x72 undef L1 L2 h)) := (CutP_def _ _ _ _).trans (by kernel_rfl)
theorem q21z39 (P : Program) (K : Value → Heap → Prop) (jobs0 pairs1 n6 cost7 ways8 set9 end10 j12 without13 x65 x70 : Value) (L1 L2 : List Value → Heap → Prop) (h : Heap) : p21z39 P K jobs0 pairs1 n6 cost7 ways8 set9 end10 j12 without13 x65 x70 L1 L2 h =
  (OP (iPick x65 (.bool true) x70) fun x71 =>
  p21z41 P K jobs0 pairs1 n6 cost7 ways8 set9 end10 j12 without13 x71 L1 L2 h) := (CutP_def _ _ _ _).trans (by kernel_rfl)
theorem q21z37 (P : Program) (K : Value → Heap → Prop) (jobs0 pairs1 n6 cost7 ways8 set9 end10 j12 without13 x65 : Value) (L1 L2 : List Value → Heap → Prop) (h : Heap) : p21z37 P K jobs0 pairs1 n6 cost7 ways8 set9 end10 j12 without13 x65 L1 L2 h =
  (GdP x65 false
    (OP (iAdrSl 1 ways8 without13) fun x68 =>
    OP (iLoad false 1 h x68) fun x69 =>
    OP (iBin .eql x69 (.int .i64 (0))) fun x70 =>
    p21z39 P K jobs0 pairs1 n6 cost7 ways8 set9 end10 j12 without13 x65 x70 L1 L2 h)
    (p21z39 P K jobs0 pairs1 n6 cost7 ways8 set9 end10 j12 without13 x65 undef L1 L2 h)) := (CutP_def _ _ _ _).trans (by kernel_rfl)
theorem q21z50 (P : Program) (K : Value → Heap → Prop) (jobs0 pairs1 n6 cost7 ways8 set9 end10 j12 v14 x107 x113 : Value) (L1 L2 : List Value → Heap → Prop) (h : Heap) : p21z50 P K jobs0 pairs1 n6 cost7 ways8 set9 end10 j12 v14 x107 x113 L1 L2 h =
  (OP (iPick x107 (.bool true) x113) fun x114 =>
  IfP x114
    (OP (iAdrSl 1 cost7 set9) fun x118 =>
    OH (oStore 1 h x118 v14) fun _ h_1 =>
    p21z51 P K jobs0 pairs1 n6 cost7 ways8 set9 end10 j12 L1 L2 h_1)
    (p21z51 P K jobs0 pairs1 n6 cost7 ways8 set9 end10 j12 L1 L2 h)) := (CutP_def _ _ _ _).trans (by kernel_rfl)
theorem q21z48 (P : Program) (K : Value → Heap → Prop) (jobs0 pairs1 n6 cost7 ways8 set9 end10 j12 v14 x107 : Value) (L1 L2 : List Value → Heap → Prop) (h : Heap) : p21z48 P K jobs0 pairs1 n6 cost7 ways8 set9 end10 j12 v14 x107 L1 L2 h =
  (GdP x107 false
    (OP (iAdrSl 1 cost7 set9) fun x111 =>
    OP (iLoad false 1 h x111) fun x112 =>
    OP (iBin .lss v14 x112) fun x113 =>
    p21z50 P K jobs0 pairs1 n6 cost7 ways8 set9 end10 j12 v14 x107 x113 L1 L2 h)
    (p21z50 P K jobs0 pairs1 n6 cost7 ways8 set9 end10 j12 v14 x107 undef L1 L2 h)) := (CutP_def _ _ _ _).trans (by kernel_rfl)
theorem q21z51 (P : Program) (K : Value → Heap → Prop) (jobs0 pairs1 n6 cost7 ways8 set9 end10 j12 : Value) (L1 L2 : List Value → Heap → Prop) (h : Heap) : p21z51 P K jobs0 pairs1 n6 cost7 ways8 set9 end10 j12 L1 L2 h =
  (OP (iBin .add j12 (.int .i64 (1))) fun x55 =>
  ([jobs0, pairs1, n6, cost7, ways8, set9, end10] : List Value) = [jobs0, pairs1, n6, cost7, ways8, set9, end10] ∧ L2 [x55] h) := (CutP_def _ _ _ _).trans (by kernel_rfl)
theorem q21z28 (P : Program) (K : Value → Heap → Prop) (jobs0 pairs1 n6 cost7 ways8 set9 end10 : Value) (L1 L2 : List Value → Heap → Prop) (j12 : Value) (h : Heap) : p21z28 P K jobs0 pairs1 n6 cost7 ways8 set9 end10 L1 L2 [j12] h =
  (OP (iBin .lss j12 n6) fun x53 =>
  IfP x53
    (OP (iBin .shl (.int .i64 (1)) j12) fun x58 =>
    OP (iBin .andNot set9 x58) fun x59 =>
    OP (iBin .shr set9 j12) fun x62 =>
    OP (iBin .and x62 (.int .i64 (1))) fun x63 =>
    OP (iBin .eql x63 (.int .i64 (0))) fun x64 =>
    p21z37 P K jobs0 pairs1 n6 cost7 ways8 set9 end10 j12 x59 x64 L1 L2 h)
    (p21z52 P K jobs0 pairs1 n6 cost7 ways8 set9 L1 h)) := (CutP_def _ _ _ _).trans (by kernel_rfl)
theorem q21z25 (P : Program) (K : Value → Heap → Prop) (jobs0 pairs1 n6 cost7 ways8 set9 end10 : Value) (L1 : List Value → Heap → Prop) (h : Heap) : p21z25 P K jobs0 pairs1 n6 cost7 ways8 set9 end10 L1 h =
  (LoopP [(.int .i64 (0))] h fun L2 xs hx =>
  p21z28 P K jobs0 pairs1 n6 cost7 ways8 set9 end10 L1 L2 xs hx) := (CutP_def _ _ _ _).trans (by kernel_rfl)
theorem q21z52 (P : Program) (K : Value → Heap → Prop) (jobs0 pairs1 n6 cost7 ways8 set9 : Value) (L1 : List Value → Heap → Prop) (h : Heap) : p21z52 P K jobs0 pairs1 n6 cost7 ways8 set9 L1 h =
  (OP (iBin .add set9 (.int .i64 (1))) fun x30 =>
  ([jobs0, pairs1, n6, cost7, ways8] : List Value) = [jobs0, pairs1, n6, cost7, ways8] ∧ L1 [x30] h) := (CutP_def _ _ _ _).trans (by kernel_rfl)
theorem q21z8 (P : Program) (K : Value → Heap → Prop) (jobs0 pairs1 n6 cost7 ways8 : Value) (L1 : List Value → Heap → Prop) (set9 : Value) (h : Heap) : p21z8 P K jobs0 pairs1 n6 cost7 ways8 L1 [set9] h =
  (OP (iBin .shl (.int .i64 (1)) n6) fun x27 =>
  OP (iBin .lss set9 x27) fun x28 =>
  IfP x28
    (OP (iAdrSl 1 cost7 set9) fun x33 =>
    OH (oStore 1 h x33 (.int .i64 (-1))) fun _ h_1 =>
    LoopP [(.int .i64 (0)), (.int .i64 (0))] h_1 fun L2 xs hx =>
    p21z18 P K jobs0 pairs1 n6 cost7 ways8 set9 L1 L2 xs hx)
    (p21z53 P K n6 cost7 ways8 h)) := (CutP_def _ _ _ _).trans (by kernel_rfl)
theorem q21z53 (P : Program) (K : Value → Heap → Prop) (n6 cost7 ways8 : Value) (h : Heap) : p21z53 P K n6 cost7 ways8 h =
  (OP (iBin .shl (.int .i64 (1)) n6) fun x121 =>
  OP (iBin .sub x121 (.int .i64 (1))) fun x122 =>
  OP (iAdrSl 1 cost7 x122) fun x123 =>
  OP (iLoad false 1 h x123) fun x124 =>
  (True) ∧
  OP (iBin .shl (.int .i64 (1)) n6) fun x127 =>
  OP (iBin .sub x127 (.int .i64 (1))) fun x128 =>
  OP (iAdrSl 1 ways8 x128) fun x129 =>
  OP (iLoad false 1 h x129) fun x130 =>
  (True) ∧
  K (.tuple #[x124, x130]) h) := (CutP_def _ _ _ _).trans (by kernel_rfl)
def T21 (P : Program) (K : Value → Heap → Prop) (jobs0 pairs1 : Value) (h : Heap) : Prop :=
  OP (iLenSl jobs0) fun x16 =>
  OP (iBin .shl (.int .i64 (1)) x16) fun x18 =>
  OH (iMake 3 8 [(.int .i64 (0))] h x18 x18) fun x19 h_1 =>
  OP (iObj h_1 x19) fun u =>
  (True) ∧
  OP (iBin .shl (.int .i64 (1)) x16) fun x21 =>
  OH (iMake 3 8 [(.int .i64 (0))] h_1 x21 x21) fun x22 h_2 =>
  OP (iObj h_2 x22) fun u_1 =>
  (iObj h_2 x19 = some u ∧ True) ∧
  OP (iAdrSl 1 x22 (.int .i64 (0))) fun x24 =>
  OH (oStore 1 h_2 x24 (.int .i64 (1))) fun _ h_3 =>
  LoopP [(.int .i64 (1))] h_3 fun L1 xs hx =>
  p21z8 P K jobs0 pairs1 x16 x19 x22 L1 xs hx
theorem e21 (P : Program) (K : Value → Heap → Prop) (jobs0 pairs1 : Value) (h : Heap) : iwpP P c21 (bodyP [.tmp 4, .tmp 5] K) (frame0 [jobs0, pairs1]) h = T21 P K jobs0 pairs1 h := by kernel_rfl
theorem f21 {K : Value → Heap → Prop} {jobs0 pairs1 : Value} {h : Heap} (H : T21 Try.prog K jobs0 pairs1 h) : CallP Try.prog 21 [jobs0, pairs1] h K :=
  callP_intro k21 (Nat.le_of_ble_eq_true rfl) ((e21 Try.prog K jobs0 pairs1 h).mpr H)
/-! F27: pommel/pommelref06.in -/
noncomputable def c27z6 : ICode := .ops none [⟨(some 14), .p (.pick (.tmp 10) (.tmp 13) (.const (.bool false)))⟩,
   ⟨(some 6), .p (.mv (.tmp 14))⟩]
noncomputable def c27z4 : ICode := .seq (.ops (some (10, true)) [⟨(some 11), .p (.mv (.tmp 0))⟩,
    ⟨(some 12), .p (.mv (.tmp 2))⟩,
    ⟨(some 13), .p (.bin .leq (.tmp 11) (.tmp 12))⟩])
 (.cut [10, 13] c27z6)
noncomputable def c27z2 : ICode := .ret
noncomputable def c27 : ICode := .seq (.ops none [⟨(some 6), .p (.mv (.const (.bool false)))⟩])
 (.seq (.seq (.ops none [⟨(some 7), .p (.mv (.tmp 0))⟩,
     ⟨(some 8), .p (.mv (.tmp 1))⟩,
     ⟨(some 9), .p (.bin .geq (.tmp 7) (.tmp 8))⟩,
     ⟨(some 10), .p (.mv (.tmp 9))⟩])
  (.cut [0, 2, 10] c27z4)) c27z2)
theorem k27 : compFn Try.prog 27 [[], [0, 2, 10], [10, 13], []] = some (15, c27, [.tmp 6]) := by kernel_rfl
def K27z0 (_P : Program) (K : Value → Heap → Prop) : Exit → (Nat → Value) → Heap → Prop := bodyP [.tmp 6] K
def K27z2 (P : Program) (K : Value → Heap → Prop) : Exit → (Nat → Value) → Heap → Prop := thenK (iwpP P c27z2 (K27z0 P K)) (K27z0 P K)
def p27z4 (P : Program) (K : Value → Heap → Prop) (v0 high2 x10 : Value) (h : Heap) : Prop := CutP (iwpP P c27z4 (K27z2 P K)) [0, 2, 10] [v0, high2, x10] h
def p27z6 (P : Program) (K : Value → Heap → Prop) (x10 x13 : Value) (h : Heap) : Prop := CutP (iwpP P c27z6 (K27z2 P K)) [10, 13] [x10, x13] h
theorem q27z6 (P : Program) (K : Value → Heap → Prop) (x10 x13 : Value) (h : Heap) : p27z6 P K x10 x13 h =
  (OP (iPick x10 x13 (.bool false)) fun x14 =>
  K x14 h) := (CutP_def _ _ _ _).trans (by kernel_rfl)
theorem q27z4 (P : Program) (K : Value → Heap → Prop) (v0 high2 x10 : Value) (h : Heap) : p27z4 P K v0 high2 x10 h =
  (GdP x10 true
    (OP (iBin .leq v0 high2) fun x13 =>
    p27z6 P K x10 x13 h)
    (p27z6 P K x10 undef h)) := (CutP_def _ _ _ _).trans (by kernel_rfl)
def T27 (P : Program) (K : Value → Heap → Prop) (v0 low1 high2 : Value) (h : Heap) : Prop :=
  OP (iBin .geq v0 low1) fun x9 =>
  p27z4 P K v0 high2 x9 h
theorem e27 (P : Program) (K : Value → Heap → Prop) (v0 low1 high2 : Value) (h : Heap) : iwpP P c27 (bodyP [.tmp 6] K) (frame0 [v0, low1, high2]) h = T27 P K v0 low1 high2 h := by kernel_rfl
theorem f27 {K : Value → Heap → Prop} {v0 low1 high2 : Value} {h : Heap} (H : T27 Try.prog K v0 low1 high2 h) : CallP Try.prog 27 [v0, low1, high2] h K :=
  callP_intro k27 (Nat.le_of_ble_eq_true rfl) ((e27 Try.prog K v0 low1 high2 h).mpr H)
/-! F28: pommel/pommelref06.ahead -/
noncomputable def c28z12 : ICode := .ops none [⟨(some 11), .p (.mv (.tmp 6))⟩,
   ⟨(some 12), .p (.bin .add (.tmp 11) (.const (.int .i64 (1))))⟩,
   ⟨(some 6), .p (.mv (.tmp 12))⟩]
noncomputable def c28z6 : ICode := .seq (.seq (.ops none [⟨(some 7), .p (.mv (.tmp 6))⟩,
     ⟨(some 8), .p (.mv (.tmp 0))⟩,
     ⟨(some 9), .p (.lenSl (.tmp 8))⟩,
     ⟨(some 10), .p (.bin .lss (.tmp 7) (.tmp 9))⟩])
  (.cond (.tmp 10) (.skip)
  (.exit 0)))
 (.seq (.block 1 (.seq (.ops none [⟨(some 13), .p (.mv (.tmp 0))⟩,
      ⟨(some 14), .p (.mv (.tmp 6))⟩,
      ⟨(some 15), .p (.adrSl 2 (.tmp 13) (.tmp 14))⟩,
      ⟨(some 16), .p (.fadr 1 (.tmp 15))⟩,
      ⟨(some 17), .l (.load false 1 (.tmp 16))⟩,
      ⟨(some 18), .p (.mv (.tmp 1))⟩,
      ⟨(some 19), .p (.bin .eql (.tmp 17) (.tmp 18))⟩])
   (.cond (.tmp 19) (.ops none [⟨(some 20), .p (.mv (.tmp 5))⟩,
      ⟨(some 21), .p (.mv (.tmp 0))⟩,
      ⟨(some 22), .p (.mv (.tmp 6))⟩,
      ⟨(some 23), .p (.adrSl 2 (.tmp 21) (.tmp 22))⟩,
      ⟨(some 24), .p (.fadr 0 (.tmp 23))⟩,
      ⟨(some 25), .l (.load false 1 (.tmp 24))⟩,
      ⟨(some 26), .p (.bin .shl (.const (.int .i64 (1))) (.tmp 25))⟩,
      ⟨(some 27), .p (.bin .or (.tmp 20) (.tmp 26))⟩,
      ⟨(some 5), .p (.mv (.tmp 27))⟩])
   (.skip))))
 (.cut [0, 1, 5, 6] c28z12))
noncomputable def c28z13 : ICode := .seq (.ops none [⟨(some 28), .p (.mv (.tmp 5))⟩,
    ⟨(some 4), .p (.mv (.tmp 28))⟩])
 (.ret)
noncomputable def c28z3 : ICode := .cut [5] c28z13
noncomputable def c28 : ICode := .seq (.ops none [⟨(some 4), .p (.mv (.const (.int .i64 (0))))⟩])
 (.seq (.ops none [⟨(some 5), .p (.mv (.const (.int .i64 (0))))⟩])
 (.seq (.seq (.ops none [⟨(some 6), .p (.mv (.const (.int .i64 (0))))⟩])
  (.block 0 (.loop [0, 1] [5, 6] c28z6))) c28z3))
theorem k28 : compFn Try.prog 28 [[], [], [], [0, 1], [5, 6], [], [], [], [0, 1, 5, 6], [5], []] = some (29, c28, [.tmp 4]) := by kernel_rfl
def K28z0 (_P : Program) (K : Value → Heap → Prop) : Exit → (Nat → Value) → Heap → Prop := bodyP [.tmp 4] K
def K28z3 (P : Program) (K : Value → Heap → Prop) : Exit → (Nat → Value) → Heap → Prop := thenK (iwpP P c28z3 (K28z0 P K)) (K28z0 P K)
def K28z5 (P : Program) (K : Value → Heap → Prop) : Exit → (Nat → Value) → Heap → Prop := inBlockK 0 (K28z3 P K)
def K28z6 (P : Program) (K : Value → Heap → Prop) (pairs0 j1 : Value) (L1 : List Value → Heap → Prop) : Exit → (Nat → Value) → Heap → Prop := thenK (fun f' h'' => (([0, 1] : List Nat).map f' : List Value) = [pairs0, j1] ∧ L1 (([5, 6] : List Nat).map f') h'') (K28z5 P K)
def p28z6 (P : Program) (K : Value → Heap → Prop) (pairs0 j1 : Value) (L1 : List Value → Heap → Prop) (xs : List Value) (h : Heap) : Prop := CutP (iwpP P c28z6 (K28z6 P K pairs0 j1 L1)) ([0, 1] ++ [5, 6]) ([pairs0, j1] ++ xs) h
def p28z12 (P : Program) (K : Value → Heap → Prop) (pairs0 j1 set5 i6 : Value) (L1 : List Value → Heap → Prop) (h : Heap) : Prop := CutP (iwpP P c28z12 (K28z6 P K pairs0 j1 L1)) [0, 1, 5, 6] [pairs0, j1, set5, i6] h
def p28z13 (P : Program) (K : Value → Heap → Prop) (set5 : Value) (h : Heap) : Prop := CutP (iwpP P c28z13 (K28z0 P K)) [5] [set5] h
theorem q28z12 (P : Program) (K : Value → Heap → Prop) (pairs0 j1 set5 i6 : Value) (L1 : List Value → Heap → Prop) (h : Heap) : p28z12 P K pairs0 j1 set5 i6 L1 h =
  (OP (iBin .add i6 (.int .i64 (1))) fun x12 =>
  ([pairs0, j1] : List Value) = [pairs0, j1] ∧ L1 [set5, x12] h) := (CutP_def _ _ _ _).trans (by kernel_rfl)
theorem q28z6 (P : Program) (K : Value → Heap → Prop) (pairs0 j1 : Value) (L1 : List Value → Heap → Prop) (set5 i6 : Value) (h : Heap) : p28z6 P K pairs0 j1 L1 [set5, i6] h =
  (OP (iLenSl pairs0) fun x9 =>
  OP (iBin .lss i6 x9) fun x10 =>
  IfP x10
    (OP (iAdrSl 2 pairs0 i6) fun x15 =>
    OP (iFadr 1 x15) fun x16 =>
    OP (iLoad false 1 h x16) fun x17 =>
    OP (iBin .eql x17 j1) fun x19 =>
    IfP x19
      (OP (iAdrSl 2 pairs0 i6) fun x23 =>
      OP (iFadr 0 x23) fun x24 =>
      OP (iLoad false 1 h x24) fun x25 =>
      OP (iBin .shl (.int .i64 (1)) x25) fun x26 =>
      OP (iBin .or set5 x26) fun x27 =>
      p28z12 P K pairs0 j1 x27 i6 L1 h)
      (p28z12 P K pairs0 j1 set5 i6 L1 h))
    (p28z13 P K set5 h)) := (CutP_def _ _ _ _).trans (by kernel_rfl)
theorem q28z13 (P : Program) (K : Value → Heap → Prop) (set5 : Value) (h : Heap) : p28z13 P K set5 h =
  (K set5 h) := (CutP_def _ _ _ _).trans (by kernel_rfl)
def T28 (P : Program) (K : Value → Heap → Prop) (pairs0 j1 : Value) (h : Heap) : Prop :=
  LoopP [(.int .i64 (0)), (.int .i64 (0))] h fun L1 xs hx =>
  p28z6 P K pairs0 j1 L1 xs hx
theorem e28 (P : Program) (K : Value → Heap → Prop) (pairs0 j1 : Value) (h : Heap) : iwpP P c28 (bodyP [.tmp 4] K) (frame0 [pairs0, j1]) h = T28 P K pairs0 j1 h := by kernel_rfl
theorem f28 {K : Value → Heap → Prop} {pairs0 j1 : Value} {h : Heap} (H : T28 Try.prog K pairs0 j1 h) : CallP Try.prog 28 [pairs0, j1] h K :=
  callP_intro k28 (Nat.le_of_ble_eq_true rfl) ((e28 Try.prog K pairs0 j1 h).mpr H)
/-! F32: pommel/pommelref01.SameLists -/
noncomputable def c32z8 : ICode := .seq (.seq (.ops none [⟨(some 11), .p (.mv (.tmp 5))⟩,
     ⟨(some 12), .p (.mv (.tmp 0))⟩,
     ⟨(some 13), .p (.lenSl (.tmp 12))⟩,
     ⟨(some 14), .p (.bin .lss (.tmp 11) (.tmp 13))⟩])
  (.cond (.tmp 14) (.skip)
  (.exit 0)))
 (.seq (.block 1 (.seq (.dops [(none, [⟨(some 17), .p (.mv (.tmp 0)), 0⟩,
      ⟨(some 18), .p (.mv (.tmp 5)), 0⟩,
      ⟨(some 19), .p (.adrSl 1 (.tmp 17) (.tmp 18)), 3⟩,
      ⟨(some 20), .l (.load false 1 (.tmp 19)), 7⟩,
      ⟨(some 21), .p (.mv (.tmp 1)), 0⟩,
      ⟨(some 22), .p (.mv (.tmp 5)), 0⟩,
      ⟨(some 23), .p (.adrSl 1 (.tmp 21) (.tmp 22)), 48⟩,
      ⟨(some 24), .l (.load false 1 (.tmp 23)), 112⟩,
      ⟨(some 25), .call 20 [(.tmp 20), (.tmp 24)], 255⟩,
      ⟨(some 26), .p (.un .not (.tmp 25)), 511⟩])])
   (.cond (.tmp 26) (.seq (.ops none [⟨(some 4), .p (.mv (.const (.bool false)))⟩])
    (.ret))
   (.skip))))
 (.ops none [⟨(some 15), .p (.mv (.tmp 5))⟩,
   ⟨(some 16), .p (.bin .add (.tmp 15) (.const (.int .i64 (1))))⟩,
   ⟨(some 5), .p (.mv (.tmp 16))⟩]))
noncomputable def c32z5 : ICode := .seq (.ops none [⟨(some 4), .p (.mv (.const (.bool true)))⟩])
 (.ret)
noncomputable def c32 : ICode := .seq (.ops none [⟨(some 4), .p (.mv (.const (.bool false)))⟩])
 (.seq (.seq (.ops none [⟨(some 6), .p (.mv (.tmp 0))⟩,
     ⟨(some 7), .p (.lenSl (.tmp 6))⟩,
     ⟨(some 8), .p (.mv (.tmp 1))⟩,
     ⟨(some 9), .p (.lenSl (.tmp 8))⟩,
     ⟨(some 10), .p (.bin .neq (.tmp 7) (.tmp 9))⟩])
  (.cond (.tmp 10) (.seq (.ops none [⟨(some 4), .p (.mv (.const (.bool false)))⟩])
   (.ret))
  (.skip)))
 (.seq (.seq (.ops none [⟨(some 5), .p (.mv (.const (.int .i64 (0))))⟩])
  (.block 0 (.loop [0, 1] [5] c32z8))) c32z5))
theorem k32 : compFn Try.prog 32 [[], [], [], [], [], [0, 1], [5], [], [], [], [], [], [], []] = some (27, c32, [.tmp 4]) := by kernel_rfl
def K32z0 (_P : Program) (K : Value → Heap → Prop) : Exit → (Nat → Value) → Heap → Prop := bodyP [.tmp 4] K
def K32z5 (P : Program) (K : Value → Heap → Prop) : Exit → (Nat → Value) → Heap → Prop := thenK (iwpP P c32z5 (K32z0 P K)) (K32z0 P K)
def K32z7 (P : Program) (K : Value → Heap → Prop) : Exit → (Nat → Value) → Heap → Prop := inBlockK 0 (K32z5 P K)
def K32z8 (P : Program) (K : Value → Heap → Prop) (a0 b1 : Value) (L1 : List Value → Heap → Prop) : Exit → (Nat → Value) → Heap → Prop := thenK (fun f' h'' => (([0, 1] : List Nat).map f' : List Value) = [a0, b1] ∧ L1 (([5] : List Nat).map f') h'') (K32z7 P K)
def p32z8 (P : Program) (K : Value → Heap → Prop) (a0 b1 : Value) (L1 : List Value → Heap → Prop) (xs : List Value) (h : Heap) : Prop := CutP (iwpP P c32z8 (K32z8 P K a0 b1 L1)) ([0, 1] ++ [5]) ([a0, b1] ++ xs) h
theorem q32z8 (P : Program) (K : Value → Heap → Prop) (a0 b1 : Value) (L1 : List Value → Heap → Prop) (i5 : Value) (h : Heap) : p32z8 P K a0 b1 L1 [i5] h =
  (OP (iLenSl a0) fun x13 =>
  OP (iBin .lss i5 x13) fun x14 =>
  IfP x14
    (OP (iAdrSl 1 a0 i5) fun x19 =>
    OP (iLoad false 1 h x19) fun x20 =>
    (True) ∧
    OP (iAdrSl 1 b1 i5) fun x23 =>
    OP (iLoad false 1 h x23) fun x24 =>
    (True) ∧
    CallP P 20 [x20, x24] h fun x25 h_1 =>
    (True) ∧
    OP (iUn .not x25) fun x26 =>
    IfP x26
      (K (.bool false) h_1)
      (OP (iBin .add i5 (.int .i64 (1))) fun x16 =>
      ([a0, b1] : List Value) = [a0, b1] ∧ L1 [x16] h_1))
    (K (.bool true) h)) := (CutP_def _ _ _ _).trans (by kernel_rfl)
def T32 (P : Program) (K : Value → Heap → Prop) (a0 b1 : Value) (h : Heap) : Prop :=
  OP (iLenSl a0) fun x7 =>
  OP (iLenSl b1) fun x9 =>
  OP (iBin .neq x7 x9) fun x10 =>
  IfP x10
    (K (.bool false) h)
    (LoopP [(.int .i64 (0))] h fun L1 xs hx =>
    p32z8 P K a0 b1 L1 xs hx)
theorem e32 (P : Program) (K : Value → Heap → Prop) (a0 b1 : Value) (h : Heap) : iwpP P c32 (bodyP [.tmp 4] K) (frame0 [a0, b1]) h = T32 P K a0 b1 h := by kernel_rfl
theorem f32 {K : Value → Heap → Prop} {a0 b1 : Value} {h : Heap} (H : T32 Try.prog K a0 b1 h) : CallP Try.prog 32 [a0, b1] h K :=
  callP_intro k32 (Nat.le_of_ble_eq_true rfl) ((e32 Try.prog K a0 b1 h).mpr H)
/-! F34: pommel/pommelref01.Before -/
noncomputable def c34z11 : ICode := .ops none [⟨(some 15), .p (.pick (.tmp 10) (.tmp 14) (.const (.bool false)))⟩]
noncomputable def c34z9 : ICode := .seq (.ops (some (10, true)) [⟨(some 11), .p (.mv (.tmp 5))⟩,
    ⟨(some 12), .p (.mv (.tmp 1))⟩,
    ⟨(some 13), .p (.lenSl (.tmp 12))⟩,
    ⟨(some 14), .p (.bin .lss (.tmp 11) (.tmp 13))⟩])
 (.cut [0, 1, 5, 10, 14] c34z11)
noncomputable def c34z7 : ICode := .cond (.tmp 15) (.skip)
 (.exit 0)
noncomputable def c34z6 : ICode := .seq (.block 1 (.seq (.dops [(none, [⟨(some 18), .p (.mv (.tmp 0)), 0⟩,
      ⟨(some 19), .p (.mv (.tmp 5)), 0⟩,
      ⟨(some 20), .p (.adrSl 1 (.tmp 18) (.tmp 19)), 3⟩,
      ⟨(some 21), .l (.load false 1 (.tmp 20)), 7⟩,
      ⟨(some 22), .p (.mv (.tmp 1)), 0⟩,
      ⟨(some 23), .p (.mv (.tmp 5)), 0⟩,
      ⟨(some 24), .p (.adrSl 1 (.tmp 22) (.tmp 23)), 48⟩,
      ⟨(some 25), .l (.load false 1 (.tmp 24)), 112⟩,
      ⟨(some 26), .p (.bin .neq (.tmp 21) (.tmp 25)), 255⟩])])
   (.cond (.tmp 26) (.seq (.dops [(none, [⟨(some 27), .p (.mv (.tmp 0)), 0⟩,
       ⟨(some 28), .p (.mv (.tmp 5)), 0⟩,
       ⟨(some 29), .p (.adrSl 1 (.tmp 27) (.tmp 28)), 3⟩,
       ⟨(some 30), .l (.load false 1 (.tmp 29)), 7⟩,
       ⟨(some 31), .p (.mv (.tmp 1)), 0⟩,
       ⟨(some 32), .p (.mv (.tmp 5)), 0⟩,
       ⟨(some 33), .p (.adrSl 1 (.tmp 31) (.tmp 32)), 48⟩,
       ⟨(some 34), .l (.load false 1 (.tmp 33)), 112⟩,
       ⟨(some 35), .p (.bin .lss (.tmp 30) (.tmp 34)), 255⟩,
       ⟨(some 4), .p (.mv (.tmp 35)), 511⟩])])
    (.ret))
   (.skip))))
 (.ops none [⟨(some 16), .p (.mv (.tmp 5))⟩,
   ⟨(some 17), .p (.bin .add (.tmp 16) (.const (.int .i64 (1))))⟩,
   ⟨(some 5), .p (.mv (.tmp 17))⟩])
noncomputable def c34z5 : ICode := .seq (.seq (.seq (.ops none [⟨(some 6), .p (.mv (.tmp 5))⟩,
      ⟨(some 7), .p (.mv (.tmp 0))⟩,
      ⟨(some 8), .p (.lenSl (.tmp 7))⟩,
      ⟨(some 9), .p (.bin .lss (.tmp 6) (.tmp 8))⟩,
      ⟨(some 10), .p (.mv (.tmp 9))⟩])
   (.cut [0, 1, 5, 10] c34z9)) c34z7) c34z6
noncomputable def c34z16 : ICode := .seq (.ops none [⟨(some 36), .p (.mv (.tmp 0))⟩,
    ⟨(some 37), .p (.lenSl (.tmp 36))⟩,
    ⟨(some 38), .p (.mv (.tmp 1))⟩,
    ⟨(some 39), .p (.lenSl (.tmp 38))⟩,
    ⟨(some 40), .p (.bin .lss (.tmp 37) (.tmp 39))⟩,
    ⟨(some 4), .p (.mv (.tmp 40))⟩])
 (.ret)
noncomputable def c34z2 : ICode := .cut [0, 1] c34z16
noncomputable def c34 : ICode := .seq (.ops none [⟨(some 4), .p (.mv (.const (.bool false)))⟩])
 (.seq (.seq (.ops none [⟨(some 5), .p (.mv (.const (.int .i64 (0))))⟩])
  (.block 0 (.loop [0, 1] [5] c34z5))) c34z2)
theorem k34 : compFn Try.prog 34 [[], [], [0, 1], [5], [0, 1, 5, 10], [0, 1, 5, 10, 14], [], [], [], [], [], [0, 1], []] = some (41, c34, [.tmp 4]) := by kernel_rfl
def K34z0 (_P : Program) (K : Value → Heap → Prop) : Exit → (Nat → Value) → Heap → Prop := bodyP [.tmp 4] K
def K34z2 (P : Program) (K : Value → Heap → Prop) : Exit → (Nat → Value) → Heap → Prop := thenK (iwpP P c34z2 (K34z0 P K)) (K34z0 P K)
def K34z4 (P : Program) (K : Value → Heap → Prop) : Exit → (Nat → Value) → Heap → Prop := inBlockK 0 (K34z2 P K)
def K34z5 (P : Program) (K : Value → Heap → Prop) (a0 b1 : Value) (L1 : List Value → Heap → Prop) : Exit → (Nat → Value) → Heap → Prop := thenK (fun f' h'' => (([0, 1] : List Nat).map f' : List Value) = [a0, b1] ∧ L1 (([5] : List Nat).map f') h'') (K34z4 P K)
def K34z6 (P : Program) (K : Value → Heap → Prop) (a0 b1 : Value) (L1 : List Value → Heap → Prop) : Exit → (Nat → Value) → Heap → Prop := thenK (iwpP P c34z6 (K34z5 P K a0 b1 L1)) (K34z5 P K a0 b1 L1)
def K34z7 (P : Program) (K : Value → Heap → Prop) (a0 b1 : Value) (L1 : List Value → Heap → Prop) : Exit → (Nat → Value) → Heap → Prop := thenK (iwpP P c34z7 (K34z6 P K a0 b1 L1)) (K34z6 P K a0 b1 L1)
def p34z5 (P : Program) (K : Value → Heap → Prop) (a0 b1 : Value) (L1 : List Value → Heap → Prop) (xs : List Value) (h : Heap) : Prop := CutP (iwpP P c34z5 (K34z5 P K a0 b1 L1)) ([0, 1] ++ [5]) ([a0, b1] ++ xs) h
def p34z9 (P : Program) (K : Value → Heap → Prop) (a0 b1 i5 x10 : Value) (L1 : List Value → Heap → Prop) (h : Heap) : Prop := CutP (iwpP P c34z9 (K34z7 P K a0 b1 L1)) [0, 1, 5, 10] [a0, b1, i5, x10] h
def p34z11 (P : Program) (K : Value → Heap → Prop) (a0 b1 i5 x10 x14 : Value) (L1 : List Value → Heap → Prop) (h : Heap) : Prop := CutP (iwpP P c34z11 (K34z7 P K a0 b1 L1)) [0, 1, 5, 10, 14] [a0, b1, i5, x10, x14] h
def p34z16 (P : Program) (K : Value → Heap → Prop) (a0 b1 : Value) (h : Heap) : Prop := CutP (iwpP P c34z16 (K34z0 P K)) [0, 1] [a0, b1] h
theorem q34z11 (P : Program) (K : Value → Heap → Prop) (a0 b1 i5 x10 x14 : Value) (L1 : List Value → Heap → Prop) (h : Heap) : p34z11 P K a0 b1 i5 x10 x14 L1 h =
  (OP (iPick x10 x14 (.bool false)) fun x15 =>
  IfP x15
    (OP (iAdrSl 1 a0 i5) fun x20 =>
    OP (iLoad false 1 h x20) fun x21 =>
    (True) ∧
    OP (iAdrSl 1 b1 i5) fun x24 =>
    OP (iLoad false 1 h x24) fun x25 =>
    (True) ∧
    OP (iBin .neq x21 x25) fun x26 =>
    IfP x26
      (OP (iAdrSl 1 a0 i5) fun x29 =>
      OP (iLoad false 1 h x29) fun x30 =>
      (True) ∧
      OP (iAdrSl 1 b1 i5) fun x33 =>
      OP (iLoad false 1 h x33) fun x34 =>
      (True) ∧
      OP (iBin .lss x30 x34) fun x35 =>
      K x35 h)
      (OP (iBin .add i5 (.int .i64 (1))) fun x17 =>
      ([a0, b1] : List Value) = [a0, b1] ∧ L1 [x17] h))
    (p34z16 P K a0 b1 h)) := (CutP_def _ _ _ _).trans (by kernel_rfl)
theorem q34z9 (P : Program) (K : Value → Heap → Prop) (a0 b1 i5 x10 : Value) (L1 : List Value → Heap → Prop) (h : Heap) : p34z9 P K a0 b1 i5 x10 L1 h =
  (GdP x10 true
    (OP (iLenSl b1) fun x13 =>
    OP (iBin .lss i5 x13) fun x14 =>
    p34z11 P K a0 b1 i5 x10 x14 L1 h)
    (p34z11 P K a0 b1 i5 x10 undef L1 h)) := (CutP_def _ _ _ _).trans (by kernel_rfl)
theorem q34z5 (P : Program) (K : Value → Heap → Prop) (a0 b1 : Value) (L1 : List Value → Heap → Prop) (i5 : Value) (h : Heap) : p34z5 P K a0 b1 L1 [i5] h =
  (OP (iLenSl a0) fun x8 =>
  OP (iBin .lss i5 x8) fun x9 =>
  p34z9 P K a0 b1 i5 x9 L1 h) := (CutP_def _ _ _ _).trans (by kernel_rfl)
theorem q34z16 (P : Program) (K : Value → Heap → Prop) (a0 b1 : Value) (h : Heap) : p34z16 P K a0 b1 h =
  (OP (iLenSl a0) fun x37 =>
  OP (iLenSl b1) fun x39 =>
  OP (iBin .lss x37 x39) fun x40 =>
  K x40 h) := (CutP_def _ _ _ _).trans (by kernel_rfl)
def T34 (P : Program) (K : Value → Heap → Prop) (a0 b1 : Value) (h : Heap) : Prop :=
  LoopP [(.int .i64 (0))] h fun L1 xs hx =>
  p34z5 P K a0 b1 L1 xs hx
theorem e34 (P : Program) (K : Value → Heap → Prop) (a0 b1 : Value) (h : Heap) : iwpP P c34 (bodyP [.tmp 4] K) (frame0 [a0, b1]) h = T34 P K a0 b1 h := by kernel_rfl
theorem f34 {K : Value → Heap → Prop} {a0 b1 : Value} {h : Heap} (H : T34 Try.prog K a0 b1 h) : CallP Try.prog 34 [a0, b1] h K :=
  callP_intro k34 (Nat.le_of_ble_eq_true rfl) ((e34 Try.prog K a0 b1 h).mpr H)
end Go.Proofs.Ytelmdbpaoifmoaa
