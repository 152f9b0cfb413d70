/-
  Ideal code of the functions that the proof reaches, written by program; the kernel holds it against the code.
-/
import Derived.Test.YtjdlcokhlphmhaaProg
import Derived.Test.YtjdlcokhlphmhaaSim20
import Derived.KernelRfl
namespace Go.Proofs.Ytjdlcokhlphmhaa
open Go.Sim
/-! F12: pommel/pommellaw03.StitchWays -/
def c12z16 : ICode := .ops none [⟨(some 41), .p (.pick (.tmp 39) (.tmp 40) (.const (.bool false)))⟩,
   ⟨(some 4), .p (.mv (.tmp 41))⟩]
def c12z14 : ICode := .seq (.ops (some (39, true)) [⟨(some 40), .call 20 []⟩])
 (.cut [39, 40] c12z16)
def c12z12 : ICode := .seq (.ops none [⟨(some 38), .p (.pick (.tmp 34) (.tmp 37) (.const (.bool false)))⟩,
    ⟨(some 39), .p (.mv (.tmp 38))⟩])
 (.cut [39] c12z14)
def c12z10 : ICode := .seq (.ops (some (34, true)) [⟨(some 35), .p (.mv (.tmp 9))⟩,
    ⟨(some 36), .p (.mv (.tmp 10))⟩,
    ⟨(some 37), .p (.bin .eql (.tmp 35) (.tmp 36))⟩])
 (.cut [34, 37] c12z12)
def c12z8 : ICode := .ret
def c12z25 : ICode := .ops none [⟨(some 56), .p (.pick (.tmp 54) (.tmp 55) (.const (.bool false)))⟩,
   ⟨(some 4), .p (.mv (.tmp 56))⟩]
def c12z23 : ICode := .seq (.ops (some (54, true)) [⟨(some 55), .call 20 []⟩])
 (.cut [54, 55] c12z25)
def c12z21 : ICode := .seq (.ops none [⟨(some 53), .p (.pick (.tmp 50) (.tmp 52) (.const (.bool false)))⟩,
    ⟨(some 54), .p (.mv (.tmp 53))⟩])
 (.cut [54] c12z23)
def c12z19 : ICode := .seq (.ops (some (50, true)) [⟨(some 51), .p (.mv (.tmp 9))⟩,
    ⟨(some 52), .p (.bin .eql (.tmp 51) (.const (.int .i64 (0))))⟩])
 (.cut [50, 52] c12z21)
def c12z17 : ICode := .ret
def c12z5 : ICode := .seq (.seq (.ops none [⟨(some 42), .p (.mv (.tmp 8))⟩,
     ⟨(some 43), .p (.mv (.tmp 6))⟩,
     ⟨(some 44), .p (.mv (.tmp 6))⟩,
     ⟨(some 45), .p (.mv (.tmp 7))⟩,
     ⟨(some 46), .call 21 [(.tmp 44), (.tmp 45)]⟩,
     ⟨(some 47), .e (.mkMap)⟩,
     ⟨(some 48), .call 54 [(.tmp 43), (.tmp 46), (.tmp 47)]⟩,
     ⟨(some 49), .p (.bin .eql (.tmp 42) (.tmp 48))⟩,
     ⟨(some 50), .p (.mv (.tmp 49))⟩])
  (.cut [9, 50] c12z19)) c12z17
def c12 : ICode := .seq (.ops none [⟨(some 2), .e (.box 24 (.tmp 0))⟩,
    ⟨(some 4), .p (.mv (.const (.bool false)))⟩])
 (.seq (.ops none [⟨(some 12), .l (.load true 2 (.tmp 2))⟩,
    ⟨(some 13), .call 16 [(.tmp 12)]⟩,
    ⟨(some 11), .p (.mv (.tmp 13))⟩,
    ⟨(some 14), .p (.ext (.tmp 11) 0)⟩,
    ⟨(some 15), .p (.ext (.tmp 11) 1)⟩,
    ⟨(some 5), .p (.mv (.tmp 14))⟩,
    ⟨(some 6), .p (.mv (.tmp 15))⟩])
 (.seq (.ops none [⟨(some 16), .p (.mv (.tmp 1))⟩,
    ⟨(some 17), .call 17 [(.tmp 16), (.const (.int .i64 (17)))]⟩,
    ⟨(some 7), .p (.mv (.tmp 17))⟩])
 (.seq (.ops none [⟨(some 19), .p (.mv (.tmp 5))⟩,
    ⟨(some 20), .p (.mv (.tmp 6))⟩,
    ⟨(some 21), .p (.mv (.tmp 7))⟩,
    ⟨(some 22), .call 53 [(.tmp 19), (.tmp 20), (.tmp 21)]⟩,
    ⟨(some 18), .p (.mv (.tmp 22))⟩,
    ⟨(some 23), .p (.ext (.tmp 18) 0)⟩,
    ⟨(some 24), .p (.ext (.tmp 18) 1)⟩,
    ⟨(some 8), .p (.mv (.tmp 23))⟩,
    ⟨(some 9), .p (.mv (.tmp 24))⟩])
 (.seq (.seq (.ops none [⟨(some 25), .p (.mv (.tmp 5))⟩,
     ⟨(some 26), .p (.mv (.tmp 6))⟩,
     ⟨(some 27), .p (.mv (.tmp 7))⟩,
     ⟨(some 28), .e (.mkSl 9 1 [(.string ⟨#[]⟩)] [(0, 1, (.tmp 27))])⟩,
     ⟨(some 29), .call 19 [(.tmp 25), (.tmp 26), (.const (.int .i64 (16))), (.tmp 28)]⟩,
     ⟨(some 10), .p (.mv (.tmp 29))⟩])
  (.seq (.ops none [⟨(some 30), .p (.mv (.tmp 10))⟩,
     ⟨(some 31), .p (.bin .neq (.tmp 30) (.const (.int .i64 (0))))⟩])
  (.cond (.tmp 31) (.seq (.seq (.ops none [⟨(some 32), .p (.mv (.tmp 8))⟩,
       ⟨(some 33), .p (.bin .eql (.tmp 32) (.const (.int .i64 (0))))⟩,
       ⟨(some 34), .p (.mv (.tmp 33))⟩])
    (.cut [9, 10, 34] c12z10)) c12z8)
  (.skip)))) c12z5))))
theorem k12 : compFn Try.prog 12 [[], [], [], [], [], [], [9, 10, 34], [34, 37], [39], [39, 40], [], [], [9, 50], [50, 52], [54], [54, 55], []] = some (57, c12, [.tmp 4]) := by kernel_rfl
def K12z0 (_P : Program) (K : Value → Heap → Prop) : Exit → (Nat → Value) → Heap → Prop := bodyP [.tmp 4] K
def K12z5 (P : Program) (K : Value → Heap → Prop) : Exit → (Nat → Value) → Heap → Prop := thenK (iwpP P c12z5 (K12z0 P K)) (K12z0 P K)
def K12z8 (P : Program) (K : Value → Heap → Prop) : Exit → (Nat → Value) → Heap → Prop := thenK (iwpP P c12z8 (K12z5 P K)) (K12z5 P K)
def K12z17 (P : Program) (K : Value → Heap → Prop) : Exit → (Nat → Value) → Heap → Prop := thenK (iwpP P c12z17 (K12z0 P K)) (K12z0 P K)
def p12z10 (P : Program) (K : Value → Heap → Prop) (e9 bad10 x34 : Value) (h : Heap) : Prop := CutP (iwpP P c12z10 (K12z8 P K)) [9, 10, 34] [e9, bad10, x34] h
def p12z12 (P : Program) (K : Value → Heap → Prop) (x34 x37 : Value) (h : Heap) : Prop := CutP (iwpP P c12z12 (K12z8 P K)) [34, 37] [x34, x37] h
def p12z14 (P : Program) (K : Value → Heap → Prop) (x39 : Value) (h : Heap) : Prop := CutP (iwpP P c12z14 (K12z8 P K)) [39] [x39] h
def p12z16 (P : Program) (K : Value → Heap → Prop) (x39 x40 : Value) (h : Heap) : Prop := CutP (iwpP P c12z16 (K12z8 P K)) [39, 40] [x39, x40] h
def p12z19 (P : Program) (K : Value → Heap → Prop) (e9 x50 : Value) (h : Heap) : Prop := CutP (iwpP P c12z19 (K12z17 P K)) [9, 50] [e9, x50] h
def p12z21 (P : Program) (K : Value → Heap → Prop) (x50 x52 : Value) (h : Heap) : Prop := CutP (iwpP P c12z21 (K12z17 P K)) [50, 52] [x50, x52] h
def p12z23 (P : Program) (K : Value → Heap → Prop) (x54 : Value) (h : Heap) : Prop := CutP (iwpP P c12z23 (K12z17 P K)) [54] [x54] h
def p12z25 (P : Program) (K : Value → Heap → Prop) (x54 x55 : Value) (h : Heap) : Prop := CutP (iwpP P c12z25 (K12z17 P K)) [54, 55] [x54, x55] h
theorem q12z16 (P : Program) (K : Value → Heap → Prop) (x39 x40 : Value) (h : Heap) : p12z16 P K x39 x40 h =
  (OP (iPick x39 x40 (.bool false)) fun x41 =>
  K x41 h) := (CutP_def _ _ _ _).trans (by kernel_rfl)
theorem q12z14 (P : Program) (K : Value → Heap → Prop) (x39 : Value) (h : Heap) : p12z14 P K x39 h =
  (GdP x39 true
    (CallP P 20 [] h fun x40 h_1 =>
    p12z16 P K x39 x40 h_1)
    (p12z16 P K x39 undef h)) := (CutP_def _ _ _ _).trans (by kernel_rfl)
theorem q12z12 (P : Program) (K : Value → Heap → Prop) (x34 x37 : Value) (h : Heap) : p12z12 P K x34 x37 h =
  (OP (iPick x34 x37 (.bool false)) fun x38 =>
  p12z14 P K x38 h) := (CutP_def _ _ _ _).trans (by kernel_rfl)
theorem q12z10 (P : Program) (K : Value → Heap → Prop) (e9 bad10 x34 : Value) (h : Heap) : p12z10 P K e9 bad10 x34 h =
  (GdP x34 true
    (OP (iBin .eql e9 bad10) fun x37 =>
    p12z12 P K x34 x37 h)
    (p12z12 P K x34 undef h)) := (CutP_def _ _ _ _).trans (by kernel_rfl)
theorem q12z25 (P : Program) (K : Value → Heap → Prop) (x54 x55 : Value) (h : Heap) : p12z25 P K x54 x55 h =
  (OP (iPick x54 x55 (.bool false)) fun x56 =>
  K x56 h) := (CutP_def _ _ _ _).trans (by kernel_rfl)
theorem q12z23 (P : Program) (K : Value → Heap → Prop) (x54 : Value) (h : Heap) : p12z23 P K x54 h =
  (GdP x54 true
    (CallP P 20 [] h fun x55 h_1 =>
    p12z25 P K x54 x55 h_1)
    (p12z25 P K x54 undef h)) := (CutP_def _ _ _ _).trans (by kernel_rfl)
theorem q12z21 (P : Program) (K : Value → Heap → Prop) (x50 x52 : Value) (h : Heap) : p12z21 P K x50 x52 h =
  (OP (iPick x50 x52 (.bool false)) fun x53 =>
  p12z23 P K x53 h) := (CutP_def _ _ _ _).trans (by kernel_rfl)
theorem q12z19 (P : Program) (K : Value → Heap → Prop) (e9 x50 : Value) (h : Heap) : p12z19 P K e9 x50 h =
  (GdP x50 true
    (OP (iBin .eql e9 (.int .i64 (0))) fun x52 =>
    p12z21 P K x50 x52 h)
    (p12z21 P K x50 undef h)) := (CutP_def _ _ _ _).trans (by kernel_rfl)
def T12 (P : Program) (K : Value → Heap → Prop) (t0 x1 : Value) (h : Heap) : Prop :=
  OH (iBox 24 h t0) fun t2 h_1 =>
  OP (iLoad true 2 h_1 t2) fun x12 =>
  CallP P 16 [x12] h_1 fun x13 h_2 =>
  OP (iExt 0 x13) fun x14 =>
  OP (iExt 1 x13) fun x15 =>
  CallP P 17 [x1, (.int .i64 (17))] h_2 fun x17 h_3 =>
  CallP P 53 [x14, x15, x17] h_3 fun x22 h_4 =>
  OP (iExt 0 x22) fun x23 =>
  OP (iExt 1 x22) fun x24 =>
  OH (iMkSl 9 1 [(.string ⟨#[]⟩)] h_4 [(0, 1, x17)]) fun x28 h_5 =>
  CallP P 19 [x14, x15, (.int .i64 (16)), x28] h_5 fun x29 h_6 =>
  OP (iBin .neq x29 (.int .i64 (0))) fun x31 =>
  IfP x31
    (OP (iBin .eql x23 (.int .i64 (0))) fun x33 =>
    p12z10 P K x24 x29 x33 h_6)
    (CallP P 21 [x15, x17] h_6 fun x46 h_7 =>
    OH (iMkMap h_7) fun x47 h_8 =>
    CallP P 54 [x15, x46, x47] h_8 fun x48 h_9 =>
    OP (iBin .eql x23 x48) fun x49 =>
    p12z19 P K x24 x49 h_9)
theorem e12 (P : Program) (K : Value → Heap → Prop) (t0 x1 : Value) (h : Heap) : iwpP P c12 (bodyP [.tmp 4] K) (frame0 [t0, x1]) h = T12 P K t0 x1 h := by kernel_rfl
theorem f12 {K : Value → Heap → Prop} {t0 x1 : Value} {h : Heap} (H : T12 Try.prog K t0 x1 h) : CallP Try.prog 12 [t0, x1] h K :=
  callP_intro k12 (Nat.le_of_ble_eq_true rfl) ((e12 Try.prog K t0 x1 h).mpr H)
/-! F14: pommel/pommellaw03.StitchForms -/
def c14z56 : ICode := .ops none [⟨(some 136), .p (.pick (.tmp 133) (.const (.bool true)) (.tmp 135))⟩]
def c14z54 : ICode := .seq (.ops (some (133, false)) [⟨(some 134), .call 20 []⟩,
    ⟨(some 135), .p (.un .not (.tmp 134))⟩])
 (.cut [7, 8, 9, 10, 11, 133, 135] c14z56)
def c14z52 : ICode := .seq (.ops none [⟨(some 132), .p (.pick (.tmp 129) (.const (.bool true)) (.tmp 131))⟩,
    ⟨(some 133), .p (.mv (.tmp 132))⟩])
 (.cut [7, 8, 9, 10, 11, 133] c14z54)
def c14z50 : ICode := .seq (.ops (some (129, false)) [⟨(some 130), .p (.mv (.tmp 21))⟩,
    ⟨(some 131), .p (.un .not (.tmp 130))⟩])
 (.cut [7, 8, 9, 10, 11, 129, 131] c14z52)
def c14z48 : ICode := .seq (.ops none [⟨(some 128), .p (.pick (.tmp 125) (.const (.bool true)) (.tmp 127))⟩,
    ⟨(some 129), .p (.mv (.tmp 128))⟩])
 (.cut [7, 8, 9, 10, 11, 21, 129] c14z50)
def c14z46 : ICode := .seq (.ops (some (125, false)) [⟨(some 126), .p (.mv (.tmp 19))⟩,
    ⟨(some 127), .p (.un .not (.tmp 126))⟩])
 (.cut [7, 8, 9, 10, 11, 21, 125, 127] c14z48)
def c14z44 : ICode := .seq (.ops none [⟨(some 124), .p (.pick (.tmp 120) (.const (.bool true)) (.tmp 123))⟩,
    ⟨(some 125), .p (.mv (.tmp 124))⟩])
 (.cut [7, 8, 9, 10, 11, 19, 21, 125] c14z46)
def c14z42 : ICode := .seq (.ops (some (120, false)) [⟨(some 121), .p (.mv (.tmp 15))⟩,
    ⟨(some 122), .p (.mv (.tmp 9))⟩,
    ⟨(some 123), .p (.bin .gtr (.tmp 121) (.tmp 122))⟩])
 (.cut [7, 8, 9, 10, 11, 19, 21, 120, 123] c14z44)
def c14z40 : ICode := .seq (.ops none [⟨(some 119), .p (.pick (.tmp 115) (.const (.bool true)) (.tmp 118))⟩,
    ⟨(some 120), .p (.mv (.tmp 119))⟩])
 (.cut [7, 8, 9, 10, 11, 15, 19, 21, 120] c14z42)
def c14z38 : ICode := .seq (.ops (some (115, false)) [⟨(some 116), .p (.mv (.tmp 15))⟩,
    ⟨(some 117), .p (.mv (.tmp 17))⟩,
    ⟨(some 118), .p (.bin .neq (.tmp 116) (.tmp 117))⟩])
 (.cut [7, 8, 9, 10, 11, 15, 19, 21, 115, 118] c14z40)
def c14z36 : ICode := .seq (.ops none [⟨(some 114), .p (.pick (.tmp 109) (.const (.bool true)) (.tmp 113))⟩,
    ⟨(some 115), .p (.mv (.tmp 114))⟩])
 (.cut [7, 8, 9, 10, 11, 15, 17, 19, 21, 115] c14z38)
def c14z34 : ICode := .seq (.ops (some (109, false)) [⟨(some 110), .p (.mv (.tmp 11))⟩,
    ⟨(some 111), .p (.mv (.tmp 13))⟩,
    ⟨(some 112), .call 44 [(.tmp 110), (.tmp 111)]⟩,
    ⟨(some 113), .p (.un .not (.tmp 112))⟩])
 (.cut [7, 8, 9, 10, 11, 15, 17, 19, 21, 109, 113] c14z36)
def c14z32 : ICode := .seq (.ops none [⟨(some 108), .p (.pick (.tmp 105) (.const (.bool true)) (.tmp 107))⟩,
    ⟨(some 109), .p (.mv (.tmp 108))⟩])
 (.cut [7, 8, 9, 10, 11, 13, 15, 17, 19, 21, 109] c14z34)
def c14z30 : ICode := .seq (.ops (some (105, false)) [⟨(some 106), .p (.mv (.tmp 22))⟩,
    ⟨(some 107), .p (.bin .neq (.tmp 106) (.const (.int .i64 (0))))⟩])
 (.cut [7, 8, 9, 10, 11, 13, 15, 17, 19, 21, 105, 107] c14z32)
def c14z28 : ICode := .seq (.ops none [⟨(some 104), .p (.pick (.tmp 101) (.const (.bool true)) (.tmp 103))⟩,
    ⟨(some 105), .p (.mv (.tmp 104))⟩])
 (.cut [7, 8, 9, 10, 11, 13, 15, 17, 19, 21, 22, 105] c14z30)
def c14z26 : ICode := .seq (.ops (some (101, false)) [⟨(some 102), .p (.mv (.tmp 20))⟩,
    ⟨(some 103), .p (.bin .neq (.tmp 102) (.const (.int .i64 (0))))⟩])
 (.cut [7, 8, 9, 10, 11, 13, 15, 17, 19, 21, 22, 101, 103] c14z28)
def c14z24 : ICode := .seq (.ops none [⟨(some 100), .p (.pick (.tmp 97) (.const (.bool true)) (.tmp 99))⟩,
    ⟨(some 101), .p (.mv (.tmp 100))⟩])
 (.cut [7, 8, 9, 10, 11, 13, 15, 17, 19, 20, 21, 22, 101] c14z26)
def c14z22 : ICode := .seq (.ops (some (97, false)) [⟨(some 98), .p (.mv (.tmp 18))⟩,
    ⟨(some 99), .p (.bin .neq (.tmp 98) (.const (.int .i64 (0))))⟩])
 (.cut [7, 8, 9, 10, 11, 13, 15, 17, 19, 20, 21, 22, 97, 99] c14z24)
def c14z20 : ICode := .seq (.ops none [⟨(some 96), .p (.pick (.tmp 93) (.const (.bool true)) (.tmp 95))⟩,
    ⟨(some 97), .p (.mv (.tmp 96))⟩])
 (.cut [7, 8, 9, 10, 11, 13, 15, 17, 18, 19, 20, 21, 22, 97] c14z22)
def c14z18 : ICode := .seq (.ops (some (93, false)) [⟨(some 94), .p (.mv (.tmp 16))⟩,
    ⟨(some 95), .p (.bin .neq (.tmp 94) (.const (.int .i64 (0))))⟩])
 (.cut [7, 8, 9, 10, 11, 13, 15, 17, 18, 19, 20, 21, 22, 93, 95] c14z20)
def c14z16 : ICode := .seq (.ops none [⟨(some 92), .p (.pick (.tmp 89) (.const (.bool true)) (.tmp 91))⟩,
    ⟨(some 93), .p (.mv (.tmp 92))⟩])
 (.cut [7, 8, 9, 10, 11, 13, 15, 16, 17, 18, 19, 20, 21, 22, 93] c14z18)
def c14z14 : ICode := .seq (.ops (some (89, false)) [⟨(some 90), .p (.mv (.tmp 14))⟩,
    ⟨(some 91), .p (.bin .neq (.tmp 90) (.const (.int .i64 (0))))⟩])
 (.cut [7, 8, 9, 10, 11, 13, 15, 16, 17, 18, 19, 20, 21, 22, 89, 91] c14z16)
def c14z12 : ICode := .cond (.tmp 136) (.seq (.ops none [⟨(some 6), .p (.mv (.const (.bool false)))⟩])
  (.ret))
 (.skip)
def c14z75 : ICode := .seq (.seq (.ops none [⟨(some 152), .p (.mv (.tmp 25))⟩,
     ⟨(some 153), .p (.mv (.tmp 24))⟩,
     ⟨(some 154), .p (.bin .lss (.tmp 152) (.tmp 153))⟩])
  (.cond (.tmp 154) (.skip)
  (.exit 4)))
 (.seq (.block 5 (.seq (.dops [(none, [⟨(some 157), .p (.mv (.tmp 11)), 0⟩,
      ⟨(some 158), .p (.mv (.tmp 23)), 0⟩,
      ⟨(some 159), .p (.adrSl 1 (.tmp 157) (.tmp 158)), 3⟩,
      ⟨(some 160), .l (.load false 1 (.tmp 159)), 7⟩,
      ⟨(some 161), .p (.mv (.tmp 25)), 0⟩,
      ⟨(some 162), .p (.idxS (.tmp 160) (.tmp 161)), 31⟩,
      ⟨(some 163), .p (.mv (.tmp 11)), 0⟩,
      ⟨(some 164), .p (.mv (.tmp 23)), 0⟩,
      ⟨(some 165), .p (.adrSl 1 (.tmp 163) (.tmp 164)), 192⟩,
      ⟨(some 166), .l (.load false 1 (.tmp 165)), 448⟩,
      ⟨(some 167), .p (.mv (.tmp 24)), 0⟩,
      ⟨(some 168), .p (.idxS (.tmp 166) (.tmp 167)), 1984⟩,
      ⟨(some 169), .p (.bin .geq (.tmp 162) (.tmp 168)), 4095⟩,
      ⟨(some 170), .p (.mv (.tmp 169)), 8191⟩]),
     ((some (170, false)), [⟨(some 171), .p (.mv (.tmp 8)), 16383⟩,
      ⟨(some 172), .p (.mv (.tmp 11)), 16383⟩,
      ⟨(some 173), .p (.mv (.tmp 23)), 16383⟩,
      ⟨(some 174), .p (.adrSl 1 (.tmp 172) (.tmp 173)), 114687⟩,
      ⟨(some 175), .l (.load false 1 (.tmp 174)), 245759⟩,
      ⟨(some 176), .p (.mv (.tmp 25)), 16383⟩,
      ⟨(some 177), .p (.idxS (.tmp 175) (.tmp 176)), 1032191⟩,
      ⟨(some 178), .p (.mv (.tmp 11)), 16383⟩,
      ⟨(some 179), .p (.mv (.tmp 23)), 16383⟩,
      ⟨(some 180), .p (.adrSl 1 (.tmp 178) (.tmp 179)), 6307839⟩,
      ⟨(some 181), .l (.load false 1 (.tmp 180)), 14696447⟩,
      ⟨(some 182), .p (.mv (.tmp 24)), 16383⟩,
      ⟨(some 183), .p (.idxS (.tmp 181) (.tmp 182)), 65028095⟩,
      ⟨(some 184), .call 33 [(.tmp 171), (.tmp 177), (.tmp 183)], 134217727⟩,
      ⟨(some 185), .p (.un .not (.tmp 184)), 268435455⟩]),
     (none, [⟨(some 186), .p (.pick (.tmp 170) (.const (.bool true)) (.tmp 185)), 536870911⟩])])
   (.cond (.tmp 186) (.seq (.ops none [⟨(some 6), .p (.mv (.const (.bool false)))⟩])
    (.ret))
   (.skip))))
 (.ops none [⟨(some 155), .p (.mv (.tmp 25))⟩,
   ⟨(some 156), .p (.bin .add (.tmp 155) (.const (.int .i64 (1))))⟩,
   ⟨(some 25), .p (.mv (.tmp 156))⟩]))
def c14z82 : ICode := .ops none [⟨(some 150), .p (.mv (.tmp 24))⟩,
   ⟨(some 151), .p (.bin .add (.tmp 150) (.const (.int .i64 (1))))⟩,
   ⟨(some 24), .p (.mv (.tmp 151))⟩]
def c14z71 : ICode := .cut [7, 8, 9, 10, 11, 23, 24] c14z82
def c14z68 : ICode := .seq (.seq (.ops none [⟨(some 143), .p (.mv (.tmp 24))⟩,
     ⟨(some 144), .p (.mv (.tmp 11))⟩,
     ⟨(some 145), .p (.mv (.tmp 23))⟩,
     ⟨(some 146), .p (.adrSl 1 (.tmp 144) (.tmp 145))⟩,
     ⟨(some 147), .l (.load false 1 (.tmp 146))⟩,
     ⟨(some 148), .p (.lenS (.tmp 147))⟩,
     ⟨(some 149), .p (.bin .lss (.tmp 143) (.tmp 148))⟩])
  (.cond (.tmp 149) (.skip)
  (.exit 2)))
 (.seq (.block 3 (.seq (.ops none [⟨(some 25), .p (.mv (.const (.int .i64 (0))))⟩])
   (.block 4 (.loop [7, 8, 9, 10, 11, 23, 24] [25] c14z75)))) c14z71)
def c14z83 : ICode := .ops none [⟨(some 141), .p (.mv (.tmp 23))⟩,
   ⟨(some 142), .p (.bin .add (.tmp 141) (.const (.int .i64 (1))))⟩,
   ⟨(some 23), .p (.mv (.tmp 142))⟩]
def c14z64 : ICode := .cut [7, 8, 9, 10, 11, 23] c14z83
def c14z61 : ICode := .seq (.seq (.ops none [⟨(some 137), .p (.mv (.tmp 23))⟩,
     ⟨(some 138), .p (.mv (.tmp 11))⟩,
     ⟨(some 139), .p (.lenSl (.tmp 138))⟩,
     ⟨(some 140), .p (.bin .lss (.tmp 137) (.tmp 139))⟩])
  (.cond (.tmp 140) (.skip)
  (.exit 0)))
 (.seq (.block 1 (.seq (.ops none [⟨(some 24), .p (.mv (.const (.int .i64 (0))))⟩])
   (.block 2 (.loop [7, 8, 9, 10, 11, 23] [24] c14z68)))) c14z64)
def c14z102 : ICode := .ops none [⟨(some 218), .p (.pick (.tmp 215) (.tmp 217) (.const (.bool false)))⟩,
   ⟨(some 6), .p (.mv (.tmp 218))⟩]
def c14z100 : ICode := .seq (.ops (some (215, true)) [⟨(some 216), .p (.mv (.tmp 26))⟩,
    ⟨(some 217), .p (.bin .geq (.tmp 216) (.const (.int .i64 (1))))⟩])
 (.cut [215, 217] c14z102)
def c14z98 : ICode := .seq (.ops none [⟨(some 214), .p (.pick (.tmp 210) (.tmp 213) (.const (.bool false)))⟩,
    ⟨(some 215), .p (.mv (.tmp 214))⟩])
 (.cut [26, 215] c14z100)
def c14z96 : ICode := .seq (.ops (some (210, true)) [⟨(some 211), .p (.mv (.tmp 26))⟩,
    ⟨(some 212), .p (.mv (.tmp 28))⟩,
    ⟨(some 213), .p (.bin .eql (.tmp 211) (.tmp 212))⟩])
 (.cut [26, 210, 213] c14z98)
def c14z94 : ICode := .seq (.ops none [⟨(some 209), .p (.pick (.tmp 206) (.tmp 208) (.const (.bool false)))⟩,
    ⟨(some 210), .p (.mv (.tmp 209))⟩])
 (.cut [26, 28, 210] c14z96)
def c14z92 : ICode := .seq (.ops (some (206, true)) [⟨(some 207), .p (.mv (.tmp 29))⟩,
    ⟨(some 208), .p (.bin .eql (.tmp 207) (.const (.int .i64 (0))))⟩])
 (.cut [26, 28, 206, 208] c14z94)
def c14z90 : ICode := .ret
def c14z84 : ICode := .seq (.seq (.ops none [⟨(some 187), .p (.mv (.tmp 9))⟩,
     ⟨(some 188), .p (.lenS (.tmp 187))⟩,
     ⟨(some 189), .p (.bin .gtr (.tmp 188) (.const (.int .i64 (10))))⟩])
  (.cond (.tmp 189) (.seq (.ops none [⟨(some 6), .p (.mv (.const (.bool true)))⟩])
   (.ret))
  (.skip)))
 (.seq (.ops none [⟨(some 191), .p (.mv (.tmp 7))⟩,
    ⟨(some 192), .p (.mv (.tmp 8))⟩,
    ⟨(some 193), .p (.mv (.tmp 9))⟩,
    ⟨(some 194), .call 53 [(.tmp 191), (.tmp 192), (.tmp 193)]⟩,
    ⟨(some 190), .p (.mv (.tmp 194))⟩,
    ⟨(some 195), .p (.ext (.tmp 190) 0)⟩,
    ⟨(some 196), .p (.ext (.tmp 190) 1)⟩,
    ⟨(some 26), .p (.mv (.tmp 195))⟩,
    ⟨(some 27), .p (.mv (.tmp 196))⟩])
 (.seq (.ops none [⟨(some 198), .p (.mv (.tmp 7))⟩,
    ⟨(some 199), .p (.mv (.tmp 8))⟩,
    ⟨(some 200), .p (.mv (.tmp 10))⟩,
    ⟨(some 201), .call 53 [(.tmp 198), (.tmp 199), (.tmp 200)]⟩,
    ⟨(some 197), .p (.mv (.tmp 201))⟩,
    ⟨(some 202), .p (.ext (.tmp 197) 0)⟩,
    ⟨(some 203), .p (.ext (.tmp 197) 1)⟩,
    ⟨(some 28), .p (.mv (.tmp 202))⟩,
    ⟨(some 29), .p (.mv (.tmp 203))⟩])
 (.seq (.seq (.ops none [⟨(some 204), .p (.mv (.tmp 27))⟩,
     ⟨(some 205), .p (.bin .eql (.tmp 204) (.const (.int .i64 (0))))⟩,
     ⟨(some 206), .p (.mv (.tmp 205))⟩])
  (.cut [26, 28, 29, 206] c14z92)) c14z90)))
def c14z58 : ICode := .cut [7, 8, 9, 10] c14z84
def c14z11 : ICode := .seq (.seq (.ops none [⟨(some 23), .p (.mv (.const (.int .i64 (0))))⟩])
  (.block 0 (.loop [7, 8, 9, 10, 11] [23] c14z61))) c14z58
def c14 : ICode := .seq (.ops none [⟨(some 3), .e (.box 54 (.tmp 0))⟩,
    ⟨(some 6), .p (.mv (.const (.bool false)))⟩])
 (.seq (.ops none [⟨(some 31), .l (.load true 2 (.tmp 3))⟩,
    ⟨(some 32), .call 30 [(.tmp 31)]⟩,
    ⟨(some 30), .p (.mv (.tmp 32))⟩,
    ⟨(some 33), .p (.ext (.tmp 30) 0)⟩,
    ⟨(some 34), .p (.ext (.tmp 30) 1)⟩,
    ⟨(some 7), .p (.mv (.tmp 33))⟩,
    ⟨(some 8), .p (.mv (.tmp 34))⟩])
 (.seq (.ops none [⟨(some 35), .p (.mv (.tmp 7))⟩,
    ⟨(some 36), .p (.mv (.tmp 1))⟩,
    ⟨(some 37), .call 31 [(.tmp 35), (.tmp 36), (.const (.int .i64 (40)))]⟩,
    ⟨(some 9), .p (.mv (.tmp 37))⟩])
 (.seq (.ops none [⟨(some 38), .p (.mv (.tmp 8))⟩,
    ⟨(some 39), .p (.mv (.tmp 9))⟩,
    ⟨(some 40), .p (.mv (.tmp 2))⟩,
    ⟨(some 41), .call 32 [(.tmp 38), (.tmp 39), (.tmp 40)]⟩,
    ⟨(some 10), .p (.mv (.tmp 41))⟩])
 (.seq (.ops none [⟨(some 43), .p (.mv (.tmp 7))⟩,
    ⟨(some 44), .p (.mv (.tmp 8))⟩,
    ⟨(some 45), .p (.mv (.tmp 9))⟩,
    ⟨(some 46), .call 42 [(.tmp 43), (.tmp 44), (.tmp 45)]⟩,
    ⟨(some 42), .p (.mv (.tmp 46))⟩,
    ⟨(some 47), .p (.ext (.tmp 42) 0)⟩,
    ⟨(some 48), .p (.ext (.tmp 42) 1)⟩,
    ⟨(some 11), .p (.mv (.tmp 47))⟩,
    ⟨(some 12), .p (.mv (.tmp 48))⟩])
 (.seq (.ops none [⟨(some 50), .p (.mv (.tmp 7))⟩,
    ⟨(some 51), .p (.mv (.tmp 8))⟩,
    ⟨(some 52), .p (.mv (.tmp 10))⟩,
    ⟨(some 53), .call 42 [(.tmp 50), (.tmp 51), (.tmp 52)]⟩,
    ⟨(some 49), .p (.mv (.tmp 53))⟩,
    ⟨(some 54), .p (.ext (.tmp 49) 0)⟩,
    ⟨(some 55), .p (.ext (.tmp 49) 1)⟩,
    ⟨(some 13), .p (.mv (.tmp 54))⟩,
    ⟨(some 14), .p (.mv (.tmp 55))⟩])
 (.seq (.ops none [⟨(some 57), .p (.mv (.tmp 7))⟩,
    ⟨(some 58), .p (.mv (.tmp 8))⟩,
    ⟨(some 59), .p (.mv (.tmp 9))⟩,
    ⟨(some 60), .call 41 [(.tmp 57), (.tmp 58), (.tmp 59)]⟩,
    ⟨(some 56), .p (.mv (.tmp 60))⟩,
    ⟨(some 61), .p (.ext (.tmp 56) 0)⟩,
    ⟨(some 62), .p (.ext (.tmp 56) 1)⟩,
    ⟨(some 15), .p (.mv (.tmp 61))⟩,
    ⟨(some 16), .p (.mv (.tmp 62))⟩])
 (.seq (.ops none [⟨(some 64), .p (.mv (.tmp 7))⟩,
    ⟨(some 65), .p (.mv (.tmp 8))⟩,
    ⟨(some 66), .p (.mv (.tmp 10))⟩,
    ⟨(some 67), .call 41 [(.tmp 64), (.tmp 65), (.tmp 66)]⟩,
    ⟨(some 63), .p (.mv (.tmp 67))⟩,
    ⟨(some 68), .p (.ext (.tmp 63) 0)⟩,
    ⟨(some 69), .p (.ext (.tmp 63) 1)⟩,
    ⟨(some 17), .p (.mv (.tmp 68))⟩,
    ⟨(some 18), .p (.mv (.tmp 69))⟩])
 (.seq (.ops none [⟨(some 71), .p (.mv (.tmp 7))⟩,
    ⟨(some 72), .p (.mv (.tmp 8))⟩,
    ⟨(some 73), .p (.mv (.tmp 9))⟩,
    ⟨(some 74), .p (.mv (.tmp 10))⟩,
    ⟨(some 75), .call 18 [(.tmp 71), (.tmp 72), (.tmp 73), (.tmp 74)]⟩,
    ⟨(some 70), .p (.mv (.tmp 75))⟩,
    ⟨(some 76), .p (.ext (.tmp 70) 0)⟩,
    ⟨(some 77), .p (.ext (.tmp 70) 1)⟩,
    ⟨(some 19), .p (.mv (.tmp 76))⟩,
    ⟨(some 20), .p (.mv (.tmp 77))⟩])
 (.seq (.ops none [⟨(some 79), .p (.mv (.tmp 7))⟩,
    ⟨(some 80), .p (.mv (.tmp 8))⟩,
    ⟨(some 81), .p (.mv (.tmp 9))⟩,
    ⟨(some 82), .p (.mv (.tmp 11))⟩,
    ⟨(some 83), .call 55 [(.tmp 82)]⟩,
    ⟨(some 84), .call 18 [(.tmp 79), (.tmp 80), (.tmp 81), (.tmp 83)]⟩,
    ⟨(some 78), .p (.mv (.tmp 84))⟩,
    ⟨(some 85), .p (.ext (.tmp 78) 0)⟩,
    ⟨(some 86), .p (.ext (.tmp 78) 1)⟩,
    ⟨(some 21), .p (.mv (.tmp 85))⟩,
    ⟨(some 22), .p (.mv (.tmp 86))⟩])
 (.seq (.seq (.seq (.ops none [⟨(some 87), .p (.mv (.tmp 12))⟩,
      ⟨(some 88), .p (.bin .neq (.tmp 87) (.const (.int .i64 (0))))⟩,
      ⟨(some 89), .p (.mv (.tmp 88))⟩])
   (.cut [7, 8, 9, 10, 11, 13, 14, 15, 16, 17, 18, 19, 20, 21, 22, 89] c14z14)) c14z12) c14z11))))))))))
theorem k14 : compFn Try.prog 14 [[], [], [], [], [], [], [], [], [], [], [7, 8, 9, 10, 11, 13, 14, 15, 16, 17, 18, 19, 20, 21, 22, 89], [7, 8, 9, 10, 11, 13, 15, 16, 17, 18, 19, 20, 21, 22, 89, 91], [7, 8, 9, 10, 11, 13, 15, 16, 17, 18, 19, 20, 21, 22, 93], [7, 8, 9, 10, 11, 13, 15, 17, 18, 19, 20, 21, 22, 93, 95], [7, 8, 9, 10, 11, 13, 15, 17, 18, 19, 20, 21, 22, 97], [7, 8, 9, 10, 11, 13, 15, 17, 19, 20, 21, 22, 97, 99], [7, 8, 9, 10, 11, 13, 15, 17, 19, 20, 21, 22, 101], [7, 8, 9, 10, 11, 13, 15, 17, 19, 21, 22, 101, 103], [7, 8, 9, 10, 11, 13, 15, 17, 19, 21, 22, 105], [7, 8, 9, 10, 11, 13, 15, 17, 19, 21, 105, 107], [7, 8, 9, 10, 11, 13, 15, 17, 19, 21, 109], [7, 8, 9, 10, 11, 15, 17, 19, 21, 109, 113], [7, 8, 9, 10, 11, 15, 17, 19, 21, 115], [7, 8, 9, 10, 11, 15, 19, 21, 115, 118], [7, 8, 9, 10, 11, 15, 19, 21, 120], [7, 8, 9, 10, 11, 19, 21, 120, 123], [7, 8, 9, 10, 11, 19, 21, 125], [7, 8, 9, 10, 11, 21, 125, 127], [7, 8, 9, 10, 11, 21, 129], [7, 8, 9, 10, 11, 129, 131], [7, 8, 9, 10, 11, 133], [7, 8, 9, 10, 11, 133, 135], [], [], [], [], [7, 8, 9, 10, 11], [23], [], [], [], [7, 8, 9, 10, 11, 23], [24], [], [], [], [7, 8, 9, 10, 11, 23, 24], [25], [], [], [], [], [], [7, 8, 9, 10, 11, 23, 24], [7, 8, 9, 10, 11, 23], [7, 8, 9, 10], [], [], [], [], [], [26, 28, 29, 206], [26, 28, 206, 208], [26, 28, 210], [26, 210, 213], [26, 215], [215, 217], []] = some (219, c14, [.tmp 6]) := by kernel_rfl
def K14z0 (_P : Program) (K : Value → Heap → Prop) : Exit → (Nat → Value) → Heap → Prop := bodyP [.tmp 6] K
def K14z11 (P : Program) (K : Value → Heap → Prop) : Exit → (Nat → Value) → Heap → Prop := thenK (iwpP P c14z11 (K14z0 P K)) (K14z0 P K)
def K14z12 (P : Program) (K : Value → Heap → Prop) : Exit → (Nat → Value) → Heap → Prop := thenK (iwpP P c14z12 (K14z11 P K)) (K14z11 P K)
def K14z58 (P : Program) (K : Value → Heap → Prop) : Exit → (Nat → Value) → Heap → Prop := thenK (iwpP P c14z58 (K14z0 P K)) (K14z0 P K)
def K14z60 (P : Program) (K : Value → Heap → Prop) : Exit → (Nat → Value) → Heap → Prop := inBlockK 0 (K14z58 P K)
def K14z61 (P : Program) (K : Value → Heap → Prop) (k7 p8 s9 t10 l11 : Value) (L1 : List Value → Heap → Prop) : Exit → (Nat → Value) → Heap → Prop := thenK (fun f' h'' => (([7, 8, 9, 10, 11] : List Nat).map f' : List Value) = [k7, p8, s9, t10, l11] ∧ L1 (([23] : List Nat).map f') h'') (K14z60 P K)
def K14z64 (P : Program) (K : Value → Heap → Prop) (k7 p8 s9 t10 l11 : Value) (L1 : List Value → Heap → Prop) : Exit → (Nat → Value) → Heap → Prop := thenK (iwpP P c14z64 (K14z61 P K k7 p8 s9 t10 l11 L1)) (K14z61 P K k7 p8 s9 t10 l11 L1)
def K14z65 (P : Program) (K : Value → Heap → Prop) (k7 p8 s9 t10 l11 : Value) (L1 : List Value → Heap → Prop) : Exit → (Nat → Value) → Heap → Prop := inBlockK 1 (K14z64 P K k7 p8 s9 t10 l11 L1)
def K14z67 (P : Program) (K : Value → Heap → Prop) (k7 p8 s9 t10 l11 : Value) (L1 : List Value → Heap → Prop) : Exit → (Nat → Value) → Heap → Prop := inBlockK 2 (K14z65 P K k7 p8 s9 t10 l11 L1)
def K14z68 (P : Program) (K : Value → Heap → Prop) (k7 p8 s9 t10 l11 a23 : Value) (L1 L2 : List Value → Heap → Prop) : Exit → (Nat → Value) → Heap → Prop := thenK (fun f' h'' => (([7, 8, 9, 10, 11, 23] : List Nat).map f' : List Value) = [k7, p8, s9, t10, l11, a23] ∧ L2 (([24] : List Nat).map f') h'') (K14z67 P K k7 p8 s9 t10 l11 L1)
def K14z71 (P : Program) (K : Value → Heap → Prop) (k7 p8 s9 t10 l11 a23 : Value) (L1 L2 : List Value → Heap → Prop) : Exit → (Nat → Value) → Heap → Prop := thenK (iwpP P c14z71 (K14z68 P K k7 p8 s9 t10 l11 a23 L1 L2)) (K14z68 P K k7 p8 s9 t10 l11 a23 L1 L2)
def K14z72 (P : Program) (K : Value → Heap → Prop) (k7 p8 s9 t10 l11 a23 : Value) (L1 L2 : List Value → Heap → Prop) : Exit → (Nat → Value) → Heap → Prop := inBlockK 3 (K14z71 P K k7 p8 s9 t10 l11 a23 L1 L2)
def K14z74 (P : Program) (K : Value → Heap → Prop) (k7 p8 s9 t10 l11 a23 : Value) (L1 L2 : List Value → Heap → Prop) : Exit → (Nat → Value) → Heap → Prop := inBlockK 4 (K14z72 P K k7 p8 s9 t10 l11 a23 L1 L2)
def K14z75 (P : Program) (K : Value → Heap → Prop) (k7 p8 s9 t10 l11 a23 q24 : Value) (L1 L2 L3 : List Value → Heap → Prop) : Exit → (Nat → Value) → Heap → Prop := thenK (fun f' h'' => (([7, 8, 9, 10, 11, 23, 24] : List Nat).map f' : List Value) = [k7, p8, s9, t10, l11, a23, q24] ∧ L3 (([25] : List Nat).map f') h'') (K14z74 P K k7 p8 s9 t10 l11 a23 L1 L2)
def K14z90 (P : Program) (K : Value → Heap → Prop) : Exit → (Nat → Value) → Heap → Prop := thenK (iwpP P c14z90 (K14z0 P K)) (K14z0 P K)
def p14z14 (P : Program) (K : Value → Heap → Prop) (k7 p8 s9 t10 l11 m13 f14 u15 g16 v17 h18 is19 i20 also21 j22 x89 : Value) (h : Heap) : Prop := CutP (iwpP P c14z14 (K14z12 P K)) [7, 8, 9, 10, 11, 13, 14, 15, 16, 17, 18, 19, 20, 21, 22, 89] [k7, p8, s9, t10, l11, m13, f14, u15, g16, v17, h18, is19, i20, also21, j22, x89] h
def p14z16 (P : Program) (K : Value → Heap → Prop) (k7 p8 s9 t10 l11 m13 u15 g16 v17 h18 is19 i20 also21 j22 x89 x91 : Value) (h : Heap) : Prop := CutP (iwpP P c14z16 (K14z12 P K)) [7, 8, 9, 10, 11, 13, 15, 16, 17, 18, 19, 20, 21, 22, 89, 91] [k7, p8, s9, t10, l11, m13, u15, g16, v17, h18, is19, i20, also21, j22, x89, x91] h
def p14z18 (P : Program) (K : Value → Heap → Prop) (k7 p8 s9 t10 l11 m13 u15 g16 v17 h18 is19 i20 also21 j22 x93 : Value) (h : Heap) : Prop := CutP (iwpP P c14z18 (K14z12 P K)) [7, 8, 9, 10, 11, 13, 15, 16, 17, 18, 19, 20, 21, 22, 93] [k7, p8, s9, t10, l11, m13, u15, g16, v17, h18, is19, i20, also21, j22, x93] h
def p14z20 (P : Program) (K : Value → Heap → Prop) (k7 p8 s9 t10 l11 m13 u15 v17 h18 is19 i20 also21 j22 x93 x95 : Value) (h : Heap) : Prop := CutP (iwpP P c14z20 (K14z12 P K)) [7, 8, 9, 10, 11, 13, 15, 17, 18, 19, 20, 21, 22, 93, 95] [k7, p8, s9, t10, l11, m13, u15, v17, h18, is19, i20, also21, j22, x93, x95] h
def p14z22 (P : Program) (K : Value → Heap → Prop) (k7 p8 s9 t10 l11 m13 u15 v17 h18 is19 i20 also21 j22 x97 : Value) (h : Heap) : Prop := CutP (iwpP P c14z22 (K14z12 P K)) [7, 8, 9, 10, 11, 13, 15, 17, 18, 19, 20, 21, 22, 97] [k7, p8, s9, t10, l11, m13, u15, v17, h18, is19, i20, also21, j22, x97] h
def p14z24 (P : Program) (K : Value → Heap → Prop) (k7 p8 s9 t10 l11 m13 u15 v17 is19 i20 also21 j22 x97 x99 : Value) (h : Heap) : Prop := CutP (iwpP P c14z24 (K14z12 P K)) [7, 8, 9, 10, 11, 13, 15, 17, 19, 20, 21, 22, 97, 99] [k7, p8, s9, t10, l11, m13, u15, v17, is19, i20, also21, j22, x97, x99] h
def p14z26 (P : Program) (K : Value → Heap → Prop) (k7 p8 s9 t10 l11 m13 u15 v17 is19 i20 also21 j22 x101 : Value) (h : Heap) : Prop := CutP (iwpP P c14z26 (K14z12 P K)) [7, 8, 9, 10, 11, 13, 15, 17, 19, 20, 21, 22, 101] [k7, p8, s9, t10, l11, m13, u15, v17, is19, i20, also21, j22, x101] h
def p14z28 (P : Program) (K : Value → Heap → Prop) (k7 p8 s9 t10 l11 m13 u15 v17 is19 also21 j22 x101 x103 : Value) (h : Heap) : Prop := CutP (iwpP P c14z28 (K14z12 P K)) [7, 8, 9, 10, 11, 13, 15, 17, 19, 21, 22, 101, 103] [k7, p8, s9, t10, l11, m13, u15, v17, is19, also21, j22, x101, x103] h
def p14z30 (P : Program) (K : Value → Heap → Prop) (k7 p8 s9 t10 l11 m13 u15 v17 is19 also21 j22 x105 : Value) (h : Heap) : Prop := CutP (iwpP P c14z30 (K14z12 P K)) [7, 8, 9, 10, 11, 13, 15, 17, 19, 21, 22, 105] [k7, p8, s9, t10, l11, m13, u15, v17, is19, also21, j22, x105] h
def p14z32 (P : Program) (K : Value → Heap → Prop) (k7 p8 s9 t10 l11 m13 u15 v17 is19 also21 x105 x107 : Value) (h : Heap) : Prop := CutP (iwpP P c14z32 (K14z12 P K)) [7, 8, 9, 10, 11, 13, 15, 17, 19, 21, 105, 107] [k7, p8, s9, t10, l11, m13, u15, v17, is19, also21, x105, x107] h
def p14z34 (P : Program) (K : Value → Heap → Prop) (k7 p8 s9 t10 l11 m13 u15 v17 is19 also21 x109 : Value) (h : Heap) : Prop := CutP (iwpP P c14z34 (K14z12 P K)) [7, 8, 9, 10, 11, 13, 15, 17, 19, 21, 109] [k7, p8, s9, t10, l11, m13, u15, v17, is19, also21, x109] h
def p14z36 (P : Program) (K : Value → Heap → Prop) (k7 p8 s9 t10 l11 u15 v17 is19 also21 x109 x113 : Value) (h : Heap) : Prop := CutP (iwpP P c14z36 (K14z12 P K)) [7, 8, 9, 10, 11, 15, 17, 19, 21, 109, 113] [k7, p8, s9, t10, l11, u15, v17, is19, also21, x109, x113] h
def p14z38 (P : Program) (K : Value → Heap → Prop) (k7 p8 s9 t10 l11 u15 v17 is19 also21 x115 : Value) (h : Heap) : Prop := CutP (iwpP P c14z38 (K14z12 P K)) [7, 8, 9, 10, 11, 15, 17, 19, 21, 115] [k7, p8, s9, t10, l11, u15, v17, is19, also21, x115] h
def p14z40 (P : Program) (K : Value → Heap → Prop) (k7 p8 s9 t10 l11 u15 is19 also21 x115 x118 : Value) (h : Heap) : Prop := CutP (iwpP P c14z40 (K14z12 P K)) [7, 8, 9, 10, 11, 15, 19, 21, 115, 118] [k7, p8, s9, t10, l11, u15, is19, also21, x115, x118] h
def p14z42 (P : Program) (K : Value → Heap → Prop) (k7 p8 s9 t10 l11 u15 is19 also21 x120 : Value) (h : Heap) : Prop := CutP (iwpP P c14z42 (K14z12 P K)) [7, 8, 9, 10, 11, 15, 19, 21, 120] [k7, p8, s9, t10, l11, u15, is19, also21, x120] h
def p14z44 (P : Program) (K : Value → Heap → Prop) (k7 p8 s9 t10 l11 is19 also21 x120 x123 : Value) (h : Heap) : Prop := CutP (iwpP P c14z44 (K14z12 P K)) [7, 8, 9, 10, 11, 19, 21, 120, 123] [k7, p8, s9, t10, l11, is19, also21, x120, x123] h
def p14z46 (P : Program) (K : Value → Heap → Prop) (k7 p8 s9 t10 l11 is19 also21 x125 : Value) (h : Heap) : Prop := CutP (iwpP P c14z46 (K14z12 P K)) [7, 8, 9, 10, 11, 19, 21, 125] [k7, p8, s9, t10, l11, is19, also21, x125] h
def p14z48 (P : Program) (K : Value → Heap → Prop) (k7 p8 s9 t10 l11 also21 x125 x127 : Value) (h : Heap) : Prop := CutP (iwpP P c14z48 (K14z12 P K)) [7, 8, 9, 10, 11, 21, 125, 127] [k7, p8, s9, t10, l11, also21, x125, x127] h
def p14z50 (P : Program) (K : Value → Heap → Prop) (k7 p8 s9 t10 l11 also21 x129 : Value) (h : Heap) : Prop := CutP (iwpP P c14z50 (K14z12 P K)) [7, 8, 9, 10, 11, 21, 129] [k7, p8, s9, t10, l11, also21, x129] h
def p14z52 (P : Program) (K : Value → Heap → Prop) (k7 p8 s9 t10 l11 x129 x131 : Value) (h : Heap) : Prop := CutP (iwpP P c14z52 (K14z12 P K)) [7, 8, 9, 10, 11, 129, 131] [k7, p8, s9, t10, l11, x129, x131] h
def p14z54 (P : Program) (K : Value → Heap → Prop) (k7 p8 s9 t10 l11 x133 : Value) (h : Heap) : Prop := CutP (iwpP P c14z54 (K14z12 P K)) [7, 8, 9, 10, 11, 133] [k7, p8, s9, t10, l11, x133] h
def p14z56 (P : Program) (K : Value → Heap → Prop) (k7 p8 s9 t10 l11 x133 x135 : Value) (h : Heap) : Prop := CutP (iwpP P c14z56 (K14z12 P K)) [7, 8, 9, 10, 11, 133, 135] [k7, p8, s9, t10, l11, x133, x135] h
def p14z61 (P : Program) (K : Value → Heap → Prop) (k7 p8 s9 t10 l11 : Value) (L1 : List Value → Heap → Prop) (xs : List Value) (h : Heap) : Prop := CutP (iwpP P c14z61 (K14z61 P K k7 p8 s9 t10 l11 L1)) ([7, 8, 9, 10, 11] ++ [23]) ([k7, p8, s9, t10, l11] ++ xs) h
def p14z68 (P : Program) (K : Value → Heap → Prop) (k7 p8 s9 t10 l11 a23 : Value) (L1 L2 : List Value → Heap → Prop) (xs : List Value) (h : Heap) : Prop := CutP (iwpP P c14z68 (K14z68 P K k7 p8 s9 t10 l11 a23 L1 L2)) ([7, 8, 9, 10, 11, 23] ++ [24]) ([k7, p8, s9, t10, l11, a23] ++ xs) h
def p14z75 (P : Program) (K : Value → Heap → Prop) (k7 p8 s9 t10 l11 a23 q24 : Value) (L1 L2 L3 : List Value → Heap → Prop) (xs : List Value) (h : Heap) : Prop := CutP (iwpP P c14z75 (K14z75 P K k7 p8 s9 t10 l11 a23 q24 L1 L2 L3)) ([7, 8, 9, 10, 11, 23, 24] ++ [25]) ([k7, p8, s9, t10, l11, a23, q24] ++ xs) h
def p14z82 (P : Program) (K : Value → Heap → Prop) (k7 p8 s9 t10 l11 a23 q24 : Value) (L1 L2 : List Value → Heap → Prop) (h : Heap) : Prop := CutP (iwpP P c14z82 (K14z68 P K k7 p8 s9 t10 l11 a23 L1 L2)) [7, 8, 9, 10, 11, 23, 24] [k7, p8, s9, t10, l11, a23, q24] h
def p14z83 (P : Program) (K : Value → Heap → Prop) (k7 p8 s9 t10 l11 a23 : Value) (L1 : List Value → Heap → Prop) (h : Heap) : Prop := CutP (iwpP P c14z83 (K14z61 P K k7 p8 s9 t10 l11 L1)) [7, 8, 9, 10, 11, 23] [k7, p8, s9, t10, l11, a23] h
def p14z84 (P : Program) (K : Value → Heap → Prop) (k7 p8 s9 t10 : Value) (h : Heap) : Prop := CutP (iwpP P c14z84 (K14z0 P K)) [7, 8, 9, 10] [k7, p8, s9, t10] h
def p14z92 (P : Program) (K : Value → Heap → Prop) (n26 o28 d29 x206 : Value) (h : Heap) : Prop := CutP (iwpP P c14z92 (K14z90 P K)) [26, 28, 29, 206] [n26, o28, d29, x206] h
def p14z94 (P : Program) (K : Value → Heap → Prop) (n26 o28 x206 x208 : Value) (h : Heap) : Prop := CutP (iwpP P c14z94 (K14z90 P K)) [26, 28, 206, 208] [n26, o28, x206, x208] h
def p14z96 (P : Program) (K : Value → Heap → Prop) (n26 o28 x210 : Value) (h : Heap) : Prop := CutP (iwpP P c14z96 (K14z90 P K)) [26, 28, 210] [n26, o28, x210] h
def p14z98 (P : Program) (K : Value → Heap → Prop) (n26 x210 x213 : Value) (h : Heap) : Prop := CutP (iwpP P c14z98 (K14z90 P K)) [26, 210, 213] [n26, x210, x213] h
def p14z100 (P : Program) (K : Value → Heap → Prop) (n26 x215 : Value) (h : Heap) : Prop := CutP (iwpP P c14z100 (K14z90 P K)) [26, 215] [n26, x215] h
def p14z102 (P : Program) (K : Value → Heap → Prop) (x215 x217 : Value) (h : Heap) : Prop := CutP (iwpP P c14z102 (K14z90 P K)) [215, 217] [x215, x217] h
theorem q14z56 (P : Program) (K : Value → Heap → Prop) (k7 p8 s9 t10 l11 x133 x135 : Value) (h : Heap) : p14z56 P K k7 p8 s9 t10 l11 x133 x135 h =
  (OP (iPick x133 (.bool true) x135) fun x136 =>
  IfP x136
    (K (.bool false) h)
    (LoopP [(.int .i64 (0))] h fun L1 xs hx =>
    p14z61 P K k7 p8 s9 t10 l11 L1 xs hx)) := (CutP_def _ _ _ _).trans (by kernel_rfl)
theorem q14z54 (P : Program) (K : Value → Heap → Prop) (k7 p8 s9 t10 l11 x133 : Value) (h : Heap) : p14z54 P K k7 p8 s9 t10 l11 x133 h =
  (GdP x133 false
    (CallP P 20 [] h fun x134 h_1 =>
    OP (iUn .not x134) fun x135 =>
    p14z56 P K k7 p8 s9 t10 l11 x133 x135 h_1)
    (p14z56 P K k7 p8 s9 t10 l11 x133 undef h)) := (CutP_def _ _ _ _).trans (by kernel_rfl)
theorem q14z52 (P : Program) (K : Value → Heap → Prop) (k7 p8 s9 t10 l11 x129 x131 : Value) (h : Heap) : p14z52 P K k7 p8 s9 t10 l11 x129 x131 h =
  (OP (iPick x129 (.bool true) x131) fun x132 =>
  p14z54 P K k7 p8 s9 t10 l11 x132 h) := (CutP_def _ _ _ _).trans (by kernel_rfl)
theorem q14z50 (P : Program) (K : Value → Heap → Prop) (k7 p8 s9 t10 l11 also21 x129 : Value) (h : Heap) : p14z50 P K k7 p8 s9 t10 l11 also21 x129 h =
  (GdP x129 false
    (OP (iUn .not also21) fun x131 =>
    p14z52 P K k7 p8 s9 t10 l11 x129 x131 h)
    (p14z52 P K k7 p8 s9 t10 l11 x129 undef h)) := (CutP_def _ _ _ _).trans (by kernel_rfl)
theorem q14z48 (P : Program) (K : Value → Heap → Prop) (k7 p8 s9 t10 l11 also21 x125 x127 : Value) (h : Heap) : p14z48 P K k7 p8 s9 t10 l11 also21 x125 x127 h =
  (OP (iPick x125 (.bool true) x127) fun x128 =>
  p14z50 P K k7 p8 s9 t10 l11 also21 x128 h) := (CutP_def _ _ _ _).trans (by kernel_rfl)
theorem q14z46 (P : Program) (K : Value → Heap → Prop) (k7 p8 s9 t10 l11 is19 also21 x125 : Value) (h : Heap) : p14z46 P K k7 p8 s9 t10 l11 is19 also21 x125 h =
  (GdP x125 false
    (OP (iUn .not is19) fun x127 =>
    p14z48 P K k7 p8 s9 t10 l11 also21 x125 x127 h)
    (p14z48 P K k7 p8 s9 t10 l11 also21 x125 undef h)) := (CutP_def _ _ _ _).trans (by kernel_rfl)
theorem q14z44 (P : Program) (K : Value → Heap → Prop) (k7 p8 s9 t10 l11 is19 also21 x120 x123 : Value) (h : Heap) : p14z44 P K k7 p8 s9 t10 l11 is19 also21 x120 x123 h =
  (OP (iPick x120 (.bool true) x123) fun x124 =>
  p14z46 P K k7 p8 s9 t10 l11 is19 also21 x124 h) := (CutP_def _ _ _ _).trans (by kernel_rfl)
theorem q14z42 (P : Program) (K : Value → Heap → Prop) (k7 p8 s9 t10 l11 u15 is19 also21 x120 : Value) (h : Heap) : p14z42 P K k7 p8 s9 t10 l11 u15 is19 also21 x120 h =
  (GdP x120 false
    (OP (iBin .gtr u15 s9) fun x123 =>
    p14z44 P K k7 p8 s9 t10 l11 is19 also21 x120 x123 h)
    (p14z44 P K k7 p8 s9 t10 l11 is19 also21 x120 undef h)) := (CutP_def _ _ _ _).trans (by kernel_rfl)
theorem q14z40 (P : Program) (K : Value → Heap → Prop) (k7 p8 s9 t10 l11 u15 is19 also21 x115 x118 : Value) (h : Heap) : p14z40 P K k7 p8 s9 t10 l11 u15 is19 also21 x115 x118 h =
  (OP (iPick x115 (.bool true) x118) fun x119 =>
  p14z42 P K k7 p8 s9 t10 l11 u15 is19 also21 x119 h) := (CutP_def _ _ _ _).trans (by kernel_rfl)
theorem q14z38 (P : Program) (K : Value → Heap → Prop) (k7 p8 s9 t10 l11 u15 v17 is19 also21 x115 : Value) (h : Heap) : p14z38 P K k7 p8 s9 t10 l11 u15 v17 is19 also21 x115 h =
  (GdP x115 false
    (OP (iBin .neq u15 v17) fun x118 =>
    p14z40 P K k7 p8 s9 t10 l11 u15 is19 also21 x115 x118 h)
    (p14z40 P K k7 p8 s9 t10 l11 u15 is19 also21 x115 undef h)) := (CutP_def _ _ _ _).trans (by kernel_rfl)
theorem q14z36 (P : Program) (K : Value → Heap → Prop) (k7 p8 s9 t10 l11 u15 v17 is19 also21 x109 x113 : Value) (h : Heap) : p14z36 P K k7 p8 s9 t10 l11 u15 v17 is19 also21 x109 x113 h =
  (OP (iPick x109 (.bool true) x113) fun x114 =>
  p14z38 P K k7 p8 s9 t10 l11 u15 v17 is19 also21 x114 h) := (CutP_def _ _ _ _).trans (by kernel_rfl)
theorem q14z34 (P : Program) (K : Value → Heap → Prop) (k7 p8 s9 t10 l11 m13 u15 v17 is19 also21 x109 : Value) (h : Heap) : p14z34 P K k7 p8 s9 t10 l11 m13 u15 v17 is19 also21 x109 h =
  (GdP x109 false
    (CallP P 44 [l11, m13] h fun x112 h_1 =>
    OP (iUn .not x112) fun x113 =>
    p14z36 P K k7 p8 s9 t10 l11 u15 v17 is19 also21 x109 x113 h_1)
    (p14z36 P K k7 p8 s9 t10 l11 u15 v17 is19 also21 x109 undef h)) := (CutP_def _ _ _ _).trans (by kernel_rfl)
theorem q14z32 (P : Program) (K : Value → Heap → Prop) (k7 p8 s9 t10 l11 m13 u15 v17 is19 also21 x105 x107 : Value) (h : Heap) : p14z32 P K k7 p8 s9 t10 l11 m13 u15 v17 is19 also21 x105 x107 h =
  (OP (iPick x105 (.bool true) x107) fun x108 =>
  p14z34 P K k7 p8 s9 t10 l11 m13 u15 v17 is19 also21 x108 h) := (CutP_def _ _ _ _).trans (by kernel_rfl)
theorem q14z30 (P : Program) (K : Value → Heap → Prop) (k7 p8 s9 t10 l11 m13 u15 v17 is19 also21 j22 x105 : Value) (h : Heap) : p14z30 P K k7 p8 s9 t10 l11 m13 u15 v17 is19 also21 j22 x105 h =
  (GdP x105 false
    (OP (iBin .neq j22 (.int .i64 (0))) fun x107 =>
    p14z32 P K k7 p8 s9 t10 l11 m13 u15 v17 is19 also21 x105 x107 h)
    (p14z32 P K k7 p8 s9 t10 l11 m13 u15 v17 is19 also21 x105 undef h)) := (CutP_def _ _ _ _).trans (by kernel_rfl)
theorem q14z28 (P : Program) (K : Value → Heap → Prop) (k7 p8 s9 t10 l11 m13 u15 v17 is19 also21 j22 x101 x103 : Value) (h : Heap) : p14z28 P K k7 p8 s9 t10 l11 m13 u15 v17 is19 also21 j22 x101 x103 h =
  (OP (iPick x101 (.bool true) x103) fun x104 =>
  p14z30 P K k7 p8 s9 t10 l11 m13 u15 v17 is19 also21 j22 x104 h) := (CutP_def _ _ _ _).trans (by kernel_rfl)
theorem q14z26 (P : Program) (K : Value → Heap → Prop) (k7 p8 s9 t10 l11 m13 u15 v17 is19 i20 also21 j22 x101 : Value) (h : Heap) : p14z26 P K k7 p8 s9 t10 l11 m13 u15 v17 is19 i20 also21 j22 x101 h =
  (GdP x101 false
    (OP (iBin .neq i20 (.int .i64 (0))) fun x103 =>
    p14z28 P K k7 p8 s9 t10 l11 m13 u15 v17 is19 also21 j22 x101 x103 h)
    (p14z28 P K k7 p8 s9 t10 l11 m13 u15 v17 is19 also21 j22 x101 undef h)) := (CutP_def _ _ _ _).trans (by kernel_rfl)
theorem q14z24 (P : Program) (K : Value → Heap → Prop) (k7 p8 s9 t10 l11 m13 u15 v17 is19 i20 also21 j22 x97 x99 : Value) (h : Heap) : p14z24 P K k7 p8 s9 t10 l11 m13 u15 v17 is19 i20 also21 j22 x97 x99 h =
  (OP (iPick x97 (.bool true) x99) fun x100 =>
  p14z26 P K k7 p8 s9 t10 l11 m13 u15 v17 is19 i20 also21 j22 x100 h) := (CutP_def _ _ _ _).trans (by kernel_rfl)
theorem q14z22 (P : Program) (K : Value → Heap → Prop) (k7 p8 s9 t10 l11 m13 u15 v17 h18 is19 i20 also21 j22 x97 : Value) (h : Heap) : p14z22 P K k7 p8 s9 t10 l11 m13 u15 v17 h18 is19 i20 also21 j22 x97 h =
  (GdP x97 false
    (OP (iBin .neq h18 (.int .i64 (0))) fun x99 =>
    p14z24 P K k7 p8 s9 t10 l11 m13 u15 v17 is19 i20 also21 j22 x97 x99 h)
    (p14z24 P K k7 p8 s9 t10 l11 m13 u15 v17 is19 i20 also21 j22 x97 undef h)) := (CutP_def _ _ _ _).trans (by kernel_rfl)
theorem q14z20 (P : Program) (K : Value → Heap → Prop) (k7 p8 s9 t10 l11 m13 u15 v17 h18 is19 i20 also21 j22 x93 x95 : Value) (h : Heap) : p14z20 P K k7 p8 s9 t10 l11 m13 u15 v17 h18 is19 i20 also21 j22 x93 x95 h =
  (OP (iPick x93 (.bool true) x95) fun x96 =>
  p14z22 P K k7 p8 s9 t10 l11 m13 u15 v17 h18 is19 i20 also21 j22 x96 h) := (CutP_def _ _ _ _).trans (by kernel_rfl)
theorem q14z18 (P : Program) (K : Value → Heap → Prop) (k7 p8 s9 t10 l11 m13 u15 g16 v17 h18 is19 i20 also21 j22 x93 : Value) (h : Heap) : p14z18 P K k7 p8 s9 t10 l11 m13 u15 g16 v17 h18 is19 i20 also21 j22 x93 h =
  (GdP x93 false
    (OP (iBin .neq g16 (.int .i64 (0))) fun x95 =>
    p14z20 P K k7 p8 s9 t10 l11 m13 u15 v17 h18 is19 i20 also21 j22 x93 x95 h)
    (p14z20 P K k7 p8 s9 t10 l11 m13 u15 v17 h18 is19 i20 also21 j22 x93 undef h)) := (CutP_def _ _ _ _).trans (by kernel_rfl)
theorem q14z16 (P : Program) (K : Value → Heap → Prop) (k7 p8 s9 t10 l11 m13 u15 g16 v17 h18 is19 i20 also21 j22 x89 x91 : Value) (h : Heap) : p14z16 P K k7 p8 s9 t10 l11 m13 u15 g16 v17 h18 is19 i20 also21 j22 x89 x91 h =
  (OP (iPick x89 (.bool true) x91) fun x92 =>
  p14z18 P K k7 p8 s9 t10 l11 m13 u15 g16 v17 h18 is19 i20 also21 j22 x92 h) := (CutP_def _ _ _ _).trans (by kernel_rfl)
theorem q14z14 (P : Program) (K : Value → Heap → Prop) (k7 p8 s9 t10 l11 m13 f14 u15 g16 v17 h18 is19 i20 also21 j22 x89 : Value) (h : Heap) : p14z14 P K k7 p8 s9 t10 l11 m13 f14 u15 g16 v17 h18 is19 i20 also21 j22 x89 h =
  (GdP x89 false
    (OP (iBin .neq f14 (.int .i64 (0))) fun x91 =>
    p14z16 P K k7 p8 s9 t10 l11 m13 u15 g16 v17 h18 is19 i20 also21 j22 x89 x91 h)
    (p14z16 P K k7 p8 s9 t10 l11 m13 u15 g16 v17 h18 is19 i20 also21 j22 x89 undef h)) := (CutP_def _ _ _ _).trans (by kernel_rfl)
theorem q14z75 (P : Program) (K : Value → Heap → Prop) (k7 p8 s9 t10 l11 a23 q24 : Value) (L1 L2 L3 : List Value → Heap → Prop) (z25 : Value) (h : Heap) : p14z75 P K k7 p8 s9 t10 l11 a23 q24 L1 L2 L3 [z25] h =
  (OP (iBin .lss z25 q24) fun x154 =>
  IfP x154
    (OP (iAdrSl 1 l11 a23) fun x159 =>
    OP (iLoad false 1 h x159) fun x160 =>
    (True) ∧
    OP (iIdxS x160 z25) fun x162 =>
    OP (iAdrSl 1 l11 a23) fun x165 =>
    OP (iLoad false 1 h x165) fun x166 =>
    (True) ∧
    OP (iIdxS x166 q24) fun x168 =>
    OP (iBin .geq x162 x168) fun x169 =>
    GdP x169 false
      (OP (iAdrSl 1 l11 a23) fun x174 =>
      OP (iLoad false 1 h x174) fun x175 =>
      (True) ∧
      OP (iIdxS x175 z25) fun x177 =>
      OP (iAdrSl 1 l11 a23) fun x180 =>
      OP (iLoad false 1 h x180) fun x181 =>
      (True) ∧
      OP (iIdxS x181 q24) fun x183 =>
      CallP P 33 [p8, x177, x183] h fun x184 h_1 =>
      (True) ∧
      OP (iUn .not x184) fun x185 =>
      OP (iPick x169 (.bool true) x185) fun x186 =>
      IfP x186
        (K (.bool false) h_1)
        (OP (iBin .add z25 (.int .i64 (1))) fun x156 =>
        ([k7, p8, s9, t10, l11, a23, q24] : List Value) = [k7, p8, s9, t10, l11, a23, q24] ∧ L3 [x156] h_1))
      ((True) ∧
      OP (iPick x169 (.bool true) undef) fun x186 =>
      IfP x186
        (K (.bool false) h)
        (OP (iBin .add z25 (.int .i64 (1))) fun x156 =>
        ([k7, p8, s9, t10, l11, a23, q24] : List Value) = [k7, p8, s9, t10, l11, a23, q24] ∧ L3 [x156] h)))
    (p14z82 P K k7 p8 s9 t10 l11 a23 q24 L1 L2 h)) := (CutP_def _ _ _ _).trans (by kernel_rfl)
theorem q14z82 (P : Program) (K : Value → Heap → Prop) (k7 p8 s9 t10 l11 a23 q24 : Value) (L1 L2 : List Value → Heap → Prop) (h : Heap) : p14z82 P K k7 p8 s9 t10 l11 a23 q24 L1 L2 h =
  (OP (iBin .add q24 (.int .i64 (1))) fun x151 =>
  ([k7, p8, s9, t10, l11, a23] : List Value) = [k7, p8, s9, t10, l11, a23] ∧ L2 [x151] h) := (CutP_def _ _ _ _).trans (by kernel_rfl)
theorem q14z68 (P : Program) (K : Value → Heap → Prop) (k7 p8 s9 t10 l11 a23 : Value) (L1 L2 : List Value → Heap → Prop) (q24 : Value) (h : Heap) : p14z68 P K k7 p8 s9 t10 l11 a23 L1 L2 [q24] h =
  (OP (iAdrSl 1 l11 a23) fun x146 =>
  OP (iLoad false 1 h x146) fun x147 =>
  OP (iLenS x147) fun x148 =>
  OP (iBin .lss q24 x148) fun x149 =>
  IfP x149
    (LoopP [(.int .i64 (0))] h fun L3 xs hx =>
    p14z75 P K k7 p8 s9 t10 l11 a23 q24 L1 L2 L3 xs hx)
    (p14z83 P K k7 p8 s9 t10 l11 a23 L1 h)) := (CutP_def _ _ _ _).trans (by kernel_rfl)
theorem q14z83 (P : Program) (K : Value → Heap → Prop) (k7 p8 s9 t10 l11 a23 : Value) (L1 : List Value → Heap → Prop) (h : Heap) : p14z83 P K k7 p8 s9 t10 l11 a23 L1 h =
  (OP (iBin .add a23 (.int .i64 (1))) fun x142 =>
  ([k7, p8, s9, t10, l11] : List Value) = [k7, p8, s9, t10, l11] ∧ L1 [x142] h) := (CutP_def _ _ _ _).trans (by kernel_rfl)
theorem q14z61 (P : Program) (K : Value → Heap → Prop) (k7 p8 s9 t10 l11 : Value) (L1 : List Value → Heap → Prop) (a23 : Value) (h : Heap) : p14z61 P K k7 p8 s9 t10 l11 L1 [a23] h =
  (OP (iLenSl l11) fun x139 =>
  OP (iBin .lss a23 x139) fun x140 =>
  IfP x140
    (LoopP [(.int .i64 (0))] h fun L2 xs hx =>
    p14z68 P K k7 p8 s9 t10 l11 a23 L1 L2 xs hx)
    (p14z84 P K k7 p8 s9 t10 h)) := (CutP_def _ _ _ _).trans (by kernel_rfl)
theorem q14z102 (P : Program) (K : Value → Heap → Prop) (x215 x217 : Value) (h : Heap) : p14z102 P K x215 x217 h =
  (OP (iPick x215 x217 (.bool false)) fun x218 =>
  K x218 h) := (CutP_def _ _ _ _).trans (by kernel_rfl)
theorem q14z100 (P : Program) (K : Value → Heap → Prop) (n26 x215 : Value) (h : Heap) : p14z100 P K n26 x215 h =
  (GdP x215 true
    (OP (iBin .geq n26 (.int .i64 (1))) fun x217 =>
    p14z102 P K x215 x217 h)
    (p14z102 P K x215 undef h)) := (CutP_def _ _ _ _).trans (by kernel_rfl)
theorem q14z98 (P : Program) (K : Value → Heap → Prop) (n26 x210 x213 : Value) (h : Heap) : p14z98 P K n26 x210 x213 h =
  (OP (iPick x210 x213 (.bool false)) fun x214 =>
  p14z100 P K n26 x214 h) := (CutP_def _ _ _ _).trans (by kernel_rfl)
theorem q14z96 (P : Program) (K : Value → Heap → Prop) (n26 o28 x210 : Value) (h : Heap) : p14z96 P K n26 o28 x210 h =
  (GdP x210 true
    (OP (iBin .eql n26 o28) fun x213 =>
    p14z98 P K n26 x210 x213 h)
    (p14z98 P K n26 x210 undef h)) := (CutP_def _ _ _ _).trans (by kernel_rfl)
theorem q14z94 (P : Program) (K : Value → Heap → Prop) (n26 o28 x206 x208 : Value) (h : Heap) : p14z94 P K n26 o28 x206 x208 h =
  (OP (iPick x206 x208 (.bool false)) fun x209 =>
  p14z96 P K n26 o28 x209 h) := (CutP_def _ _ _ _).trans (by kernel_rfl)
theorem q14z92 (P : Program) (K : Value → Heap → Prop) (n26 o28 d29 x206 : Value) (h : Heap) : p14z92 P K n26 o28 d29 x206 h =
  (GdP x206 true
    (OP (iBin .eql d29 (.int .i64 (0))) fun x208 =>
    p14z94 P K n26 o28 x206 x208 h)
    (p14z94 P K n26 o28 x206 undef h)) := (CutP_def _ _ _ _).trans (by kernel_rfl)
theorem q14z84 (P : Program) (K : Value → Heap → Prop) (k7 p8 s9 t10 : Value) (h : Heap) : p14z84 P K k7 p8 s9 t10 h =
  (OP (iLenS s9) fun x188 =>
  OP (iBin .gtr x188 (.int .i64 (10))) fun x189 =>
  IfP x189
    (K (.bool true) h)
    (CallP P 53 [k7, p8, s9] h fun x194 h_1 =>
    OP (iExt 0 x194) fun x195 =>
    OP (iExt 1 x194) fun x196 =>
    CallP P 53 [k7, p8, t10] h_1 fun x201 h_2 =>
    OP (iExt 0 x201) fun x202 =>
    OP (iExt 1 x201) fun x203 =>
    OP (iBin .eql x196 (.int .i64 (0))) fun x205 =>
    p14z92 P K x195 x202 x203 x205 h_2)) := (CutP_def _ _ _ _).trans (by kernel_rfl)
def T14 (P : Program) (K : Value → Heap → Prop) (c0 x1 by2 : Value) (h : Heap) : Prop :=
  OH (iBox 54 h c0) fun c3 h_1 =>
  OP (iLoad true 2 h_1 c3) fun x31 =>
  CallP P 30 [x31] h_1 fun x32 h_2 =>
  OP (iExt 0 x32) fun x33 =>
  OP (iExt 1 x32) fun x34 =>
  CallP P 31 [x33, x1, (.int .i64 (40))] h_2 fun x37 h_3 =>
  CallP P 32 [x34, x37, by2] h_3 fun x41 h_4 =>
  CallP P 42 [x33, x34, x37] h_4 fun x46 h_5 =>
  OP (iExt 0 x46) fun x47 =>
  OP (iExt 1 x46) fun x48 =>
  CallP P 42 [x33, x34, x41] h_5 fun x53 h_6 =>
  OP (iExt 0 x53) fun x54 =>
  OP (iExt 1 x53) fun x55 =>
  CallP P 41 [x33, x34, x37] h_6 fun x60 h_7 =>
  OP (iExt 0 x60) fun x61 =>
  OP (iExt 1 x60) fun x62 =>
  CallP P 41 [x33, x34, x41] h_7 fun x67 h_8 =>
  OP (iExt 0 x67) fun x68 =>
  OP (iExt 1 x67) fun x69 =>
  CallP P 18 [x33, x34, x37, x41] h_8 fun x75 h_9 =>
  OP (iExt 0 x75) fun x76 =>
  OP (iExt 1 x75) fun x77 =>
  CallP P 55 [x47] h_9 fun x83 h_10 =>
  CallP P 18 [x33, x34, x37, x83] h_10 fun x84 h_11 =>
  OP (iExt 0 x84) fun x85 =>
  OP (iExt 1 x84) fun x86 =>
  OP (iBin .neq x48 (.int .i64 (0))) fun x88 =>
  p14z14 P K x33 x34 x37 x41 x47 x54 x55 x61 x62 x68 x69 x76 x77 x85 x86 x88 h_11
theorem e14 (P : Program) (K : Value → Heap → Prop) (c0 x1 by2 : Value) (h : Heap) : iwpP P c14 (bodyP [.tmp 6] K) (frame0 [c0, x1, by2]) h = T14 P K c0 x1 by2 h := by kernel_rfl
theorem f14 {K : Value → Heap → Prop} {c0 x1 by2 : Value} {h : Heap} (H : T14 Try.prog K c0 x1 by2 h) : CallP Try.prog 14 [c0, x1, by2] h K :=
  callP_intro k14 (Nat.le_of_ble_eq_true rfl) ((e14 Try.prog K c0 x1 by2 h).mpr H)
/-! F29: pommel/pommelref01.Int -/
def c29z12 : ICode := .seq (.ops none [⟨(some 16), .p (.fadr 1 (.tmp 3))⟩,
    ⟨(some 17), .l (.load false 1 (.tmp 16))⟩,
    ⟨(some 18), .p (.mv (.tmp 4))⟩,
    ⟨(some 19), .e (.mkSl 3 1 [(.int .i64 (0))] [(0, 1, (.tmp 18))])⟩,
    ⟨(some 20), .e (.app 3 1 8 (.tmp 17) (.tmp 19))⟩,
    ⟨(some 21), .p (.fadr 1 (.tmp 3))⟩,
    ⟨none, .e (.store 1 (.tmp 21) (.tmp 20))⟩])
 (.ops none [⟨(some 22), .p (.mv (.tmp 0))⟩,
   ⟨(some 23), .p (.bin .quo (.tmp 22) (.const (.int .i64 (10000))))⟩,
   ⟨(some 0), .p (.mv (.tmp 23))⟩])
def c29z5 : ICode := .seq (.seq (.ops none [⟨(some 8), .p (.mv (.tmp 0))⟩,
     ⟨(some 9), .p (.bin .neq (.tmp 8) (.const (.int .i64 (0))))⟩])
  (.cond (.tmp 9) (.skip)
  (.exit 0)))
 (.block 1 (.seq (.ops none [⟨(some 10), .p (.mv (.tmp 0))⟩,
     ⟨(some 11), .p (.bin .rem (.tmp 10) (.const (.int .i64 (10000))))⟩,
     ⟨(some 4), .p (.mv (.tmp 11))⟩])
  (.seq (.seq (.ops none [⟨(some 12), .p (.mv (.tmp 4))⟩,
      ⟨(some 13), .p (.bin .lss (.tmp 12) (.const (.int .i64 (0))))⟩])
   (.cond (.tmp 13) (.ops none [⟨(some 14), .p (.mv (.tmp 4))⟩,
      ⟨(some 15), .p (.un .neg (.tmp 14))⟩,
      ⟨(some 4), .p (.mv (.tmp 15))⟩])
   (.skip)))
  (.cut [0, 2, 3, 4] c29z12))))
def c29z14 : ICode := .seq (.ops none [⟨(some 24), .l (.load true 2 (.tmp 3))⟩,
    ⟨none, .e (.store 2 (.tmp 2) (.tmp 24))⟩])
 (.ret)
def c29z3 : ICode := .cut [2, 3] c29z14
def c29 : ICode := .seq (.ops none [⟨(some 2), .e (.alloc 46 [(.bool false), (.slice none 0 0)])⟩])
 (.seq (.ops none [⟨(some 5), .p (.mv (.tmp 0))⟩,
    ⟨(some 6), .p (.bin .lss (.tmp 5) (.const (.int .i64 (0))))⟩,
    ⟨(some 7), .p (.build [(.bool false), (.slice none 0 0)] [(0, 1, (.tmp 6))])⟩,
    ⟨(some 3), .e (.alloc 46 [(.bool false), (.slice none 0 0)])⟩,
    ⟨none, .e (.store 2 (.tmp 3) (.tmp 7))⟩])
 (.seq (.block 0 (.loop [2, 3] [0] c29z5)) c29z3))
theorem k29 : compFn Try.prog 29 [[], [], [2, 3], [0], [], [], [], [], [0, 2, 3, 4], [], [2, 3], []] = some (25, c29, [.cell true 2 2]) := by kernel_rfl
def K29z0 (_P : Program) (K : Value → Heap → Prop) : Exit → (Nat → Value) → Heap → Prop := bodyP [.cell true 2 2] K
def K29z3 (P : Program) (K : Value → Heap → Prop) : Exit → (Nat → Value) → Heap → Prop := thenK (iwpP P c29z3 (K29z0 P K)) (K29z0 P K)
def K29z4 (P : Program) (K : Value → Heap → Prop) : Exit → (Nat → Value) → Heap → Prop := inBlockK 0 (K29z3 P K)
def K29z5 (P : Program) (K : Value → Heap → Prop) (x2 z3 : Value) (L1 : List Value → Heap → Prop) : Exit → (Nat → Value) → Heap → Prop := thenK (fun f' h'' => (([2, 3] : List Nat).map f' : List Value) = [x2, z3] ∧ L1 (([0] : List Nat).map f') h'') (K29z4 P K)
def K29z8 (P : Program) (K : Value → Heap → Prop) (x2 z3 : Value) (L1 : List Value → Heap → Prop) : Exit → (Nat → Value) → Heap → Prop := inBlockK 1 (K29z5 P K x2 z3 L1)
def p29z5 (P : Program) (K : Value → Heap → Prop) (x2 z3 : Value) (L1 : List Value → Heap → Prop) (xs : List Value) (h : Heap) : Prop := CutP (iwpP P c29z5 (K29z5 P K x2 z3 L1)) ([2, 3] ++ [0]) ([x2, z3] ++ xs) h
def p29z12 (P : Program) (K : Value → Heap → Prop) (v0 x2 z3 d4 : Value) (L1 : List Value → Heap → Prop) (h : Heap) : Prop := CutP (iwpP P c29z12 (K29z8 P K x2 z3 L1)) [0, 2, 3, 4] [v0, x2, z3, d4] h
def p29z14 (P : Program) (K : Value → Heap → Prop) (x2 z3 : Value) (h : Heap) : Prop := CutP (iwpP P c29z14 (K29z0 P K)) [2, 3] [x2, z3] h
theorem q29z12 (P : Program) (K : Value → Heap → Prop) (v0 x2 z3 d4 : Value) (L1 : List Value → Heap → Prop) (h : Heap) : p29z12 P K v0 x2 z3 d4 L1 h =
  (OP (iFadr 1 z3) fun x16 =>
  OP (iLoad false 1 h x16) fun x17 =>
  OH (iMkSl 3 1 [(.int .i64 (0))] h [(0, 1, d4)]) fun x19 h_1 =>
  OH (iApp 3 1 8 h_1 x17 x19) fun x20 h_2 =>
  OP (iFadr 1 z3) fun x21 =>
  OH (oStore 1 h_2 x21 x20) fun _ h_3 =>
  OP (iBin .quo v0 (.int .i64 (10000))) fun x23 =>
  ([x2, z3] : List Value) = [x2, z3] ∧ L1 [x23] h_3) := (CutP_def _ _ _ _).trans (by kernel_rfl)
theorem q29z5 (P : Program) (K : Value → Heap → Prop) (x2 z3 : Value) (L1 : List Value → Heap → Prop) (v0 : Value) (h : Heap) : p29z5 P K x2 z3 L1 [v0] h =
  (OP (iBin .neq v0 (.int .i64 (0))) fun x9 =>
  IfP x9
    (OP (iBin .rem v0 (.int .i64 (10000))) fun x11 =>
    OP (iBin .lss x11 (.int .i64 (0))) fun x13 =>
    IfP x13
      (OP (iUn .neg x11) fun x15 =>
      p29z12 P K v0 x2 z3 x15 L1 h)
      (p29z12 P K v0 x2 z3 x11 L1 h))
    (p29z14 P K x2 z3 h)) := (CutP_def _ _ _ _).trans (by kernel_rfl)
theorem q29z14 (P : Program) (K : Value → Heap → Prop) (x2 z3 : Value) (h : Heap) : p29z14 P K x2 z3 h =
  (OP (iLoad true 2 h z3) fun x24 =>
  OH (oStore 2 h x2 x24) fun _ h_1 =>
  OP (iLoad true 2 h_1 x2) fun r0 =>
  K r0 h_1) := (CutP_def _ _ _ _).trans (by kernel_rfl)
def T29 (P : Program) (K : Value → Heap → Prop) (v0 : Value) (h : Heap) : Prop :=
  OH (iAlloc 46 [(.bool false), (.slice none 0 0)] h) fun x2 h_1 =>
  OP (iBin .lss v0 (.int .i64 (0))) fun x6 =>
  OP (iBuild [(.bool false), (.slice none 0 0)] [(0, 1, x6)]) fun x7 =>
  OH (iAlloc 46 [(.bool false), (.slice none 0 0)] h_1) fun z3 h_2 =>
  OH (oStore 2 h_2 z3 x7) fun _ h_3 =>
  LoopP [v0] h_3 fun L1 xs hx =>
  p29z5 P K x2 z3 L1 xs hx
theorem e29 (P : Program) (K : Value → Heap → Prop) (v0 : Value) (h : Heap) : iwpP P c29 (bodyP [.cell true 2 2] K) (frame0 [v0]) h = T29 P K v0 h := by kernel_rfl
theorem f29 {K : Value → Heap → Prop} {v0 : Value} {h : Heap} (H : T29 Try.prog K v0 h) : CallP Try.prog 29 [v0] h K :=
  callP_intro k29 (Nat.le_of_ble_eq_true rfl) ((e29 Try.prog K v0 h).mpr H)
/-! F53: pommel/stitch.Ways -/
def c53 : ICode := .seq (.ops none [⟨(some 6), .p (.mv (.const (.int .i64 (0))))⟩,
    ⟨(some 7), .p (.mv (.const (.int .i64 (0))))⟩])
 (.seq (.ops none [⟨(some 13), .p (.mv (.tmp 0))⟩,
    ⟨(some 14), .p (.mv (.tmp 1))⟩,
    ⟨(some 15), .p (.mv (.tmp 2))⟩,
    ⟨(some 16), .e (.mkSl 9 1 [(.string ⟨#[]⟩)] [(0, 1, (.tmp 15))])⟩,
    ⟨(some 17), .call 56 [(.tmp 13), (.tmp 14), (.const (.int .i64 (16))), (.tmp 16)]⟩,
    ⟨(some 12), .p (.mv (.tmp 17))⟩,
    ⟨(some 18), .p (.ext (.tmp 12) 0)⟩,
    ⟨(some 19), .p (.ext (.tmp 12) 1)⟩,
    ⟨(some 8), .e (.alloc 91 [(.pointer none)])⟩,
    ⟨none, .e (.store 1 (.tmp 8) (.tmp 18))⟩,
    ⟨(some 9), .p (.mv (.tmp 19))⟩])
 (.seq (.seq (.ops none [⟨(some 20), .p (.mv (.tmp 9))⟩,
     ⟨(some 21), .p (.bin .neq (.tmp 20) (.const (.int .i64 (0))))⟩])
  (.cond (.tmp 21) (.seq (.ops none [⟨(some 22), .p (.mv (.tmp 9))⟩,
      ⟨(some 6), .p (.mv (.const (.int .i64 (0))))⟩,
      ⟨(some 7), .p (.mv (.tmp 22))⟩])
   (.ret))
  (.skip)))
 (.seq (.ops none [⟨(some 23), .e (.mkMap)⟩,
    ⟨none, .e (.mupd (.tmp 23) (.const (.string ⟨#[]⟩)) (.const (.int .i64 (1))))⟩,
    ⟨(some 24), .p (.mv (.tmp 23))⟩,
    ⟨(some 10), .e (.alloc 88 [(.map none)])⟩,
    ⟨none, .e (.store 1 (.tmp 10) (.tmp 24))⟩])
 (.seq (.ops none [⟨(some 11), .e (.alloc 133 [.nilFunc])⟩])
 (.seq (.ops none [⟨(some 25), .p (.fn 83 [] [(.tmp 10), (.tmp 8), (.tmp 11)])⟩,
    ⟨none, .e (.store 1 (.tmp 11) (.tmp 25))⟩])
 (.seq (.dops [(none, [⟨(some 26), .l (.load false 1 (.tmp 11)), 0⟩,
    ⟨(some 27), .l (.load false 1 (.tmp 8)), 0⟩,
    ⟨(some 28), .p (.mv (.tmp 2)), 0⟩,
    ⟨(some 29), .call 57 [(.tmp 27), (.tmp 28)], 6⟩,
    ⟨(some 30), .callv (.tmp 26) [(.tmp 29)], 15⟩,
    ⟨(some 6), .p (.mv (.tmp 30)), 31⟩,
    ⟨(some 7), .p (.mv (.const (.int .i64 (0)))), 63⟩])])
 (.ret)))))))
theorem k53 : compFn Try.prog 53 [[], [], [], [], [], [], [], [], []] = some (31, c53, [.tmp 6, .tmp 7]) := by kernel_rfl
def K53z0 (_P : Program) (K : Value → Heap → Prop) : Exit → (Nat → Value) → Heap → Prop := bodyP [.tmp 6, .tmp 7] K
def T53 (P : Program) (K : Value → Heap → Prop) (k0 pairs1 s2 : Value) (h : Heap) : Prop :=
  OH (iMkSl 9 1 [(.string ⟨#[]⟩)] h [(0, 1, s2)]) fun x16 h_1 =>
  CallP P 56 [k0, pairs1, (.int .i64 (16)), x16] h_1 fun x17 h_2 =>
  OP (iExt 0 x17) fun x18 =>
  OP (iExt 1 x17) fun x19 =>
  OH (iAlloc 91 [(.pointer none)] h_2) fun t8 h_3 =>
  OH (oStore 1 h_3 t8 x18) fun _ h_4 =>
  OP (iBin .neq x19 (.int .i64 (0))) fun x21 =>
  IfP x21
    (K (.tuple #[(.int .i64 (0)), x19]) h_4)
    (OH (iMkMap h_4) fun x23 h_5 =>
    OH (oMupd h_5 x23 (.string ⟨#[]⟩) (.int .i64 (1))) fun _ h_6 =>
    OH (iAlloc 88 [(.map none)] h_6) fun known10 h_7 =>
    OH (oStore 1 h_7 known10 x23) fun _ h_8 =>
    OH (iAlloc 133 [.nilFunc] h_8) fun ways11 h_9 =>
    OH (oStore 1 h_9 ways11 (.func (.func 83) #[] #[known10, t8, ways11])) fun _ h_10 =>
    OP (iLoad false 1 h_10 ways11) fun x26 =>
    (True) ∧
    OP (iLoad false 1 h_10 t8) fun x27 =>
    (True) ∧
    CallP P 57 [x27, s2] h_10 fun x29 h_11 =>
    (iLoad false 1 h_11 ways11 = some x26 ∧ True) ∧
    CallVP P x26 [x29] h_11 fun x30 h_12 =>
    (True) ∧
    K (.tuple #[x30, (.int .i64 (0))]) h_12)
theorem e53 (P : Program) (K : Value → Heap → Prop) (k0 pairs1 s2 : Value) (h : Heap) : iwpP P c53 (bodyP [.tmp 6, .tmp 7] K) (frame0 [k0, pairs1, s2]) h = T53 P K k0 pairs1 s2 h := by kernel_rfl
theorem f53 {K : Value → Heap → Prop} {k0 pairs1 s2 : Value} {h : Heap} (H : T53 Try.prog K k0 pairs1 s2 h) : CallP Try.prog 53 [k0, pairs1, s2] h K :=
  callP_intro k53 (Nat.le_of_ble_eq_true rfl) ((e53 Try.prog K k0 pairs1 s2 h).mpr H)
/-! F54: pommel/pommelref03.Ways -/
def c54z20 : ICode := .ops none [⟨(some 24), .p (.mv (.tmp 10))⟩,
   ⟨(some 25), .p (.bin .add (.tmp 24) (.const (.int .u8 (1))))⟩,
   ⟨(some 10), .p (.mv (.tmp 25))⟩]
def c54z13 : ICode := .seq (.seq (.ops none [⟨(some 22), .p (.mv (.tmp 10))⟩,
     ⟨(some 23), .p (.bin .leq (.tmp 22) (.const (.int .u8 (102))))⟩])
  (.cond (.tmp 23) (.skip)
  (.exit 0)))
 (.seq (.block 1 (.seq (.ops none [⟨(some 26), .p (.mv (.tmp 0))⟩,
      ⟨(some 27), .p (.mv (.tmp 1))⟩,
      ⟨(some 28), .p (.mv (.tmp 10))⟩,
      ⟨(some 29), .call 59 [(.tmp 26), (.tmp 27), (.tmp 28)]⟩,
      ⟨(some 11), .p (.mv (.tmp 29))⟩])
   (.seq (.ops none [⟨(some 30), .p (.mv (.tmp 11))⟩,
      ⟨(some 31), .p (.bin .geq (.tmp 30) (.const (.int .i64 (0))))⟩])
   (.cond (.tmp 31) (.ops none [⟨(some 32), .p (.mv (.tmp 9))⟩,
      ⟨(some 33), .p (.mv (.tmp 0))⟩,
      ⟨(some 34), .p (.mv (.tmp 0))⟩,
      ⟨(some 35), .p (.mv (.tmp 1))⟩,
      ⟨(some 36), .p (.mv (.tmp 11))⟩,
      ⟨(some 37), .call 60 [(.tmp 35), (.tmp 36)]⟩,
      ⟨(some 38), .call 21 [(.tmp 34), (.tmp 37)]⟩,
      ⟨(some 39), .p (.mv (.tmp 2))⟩,
      ⟨(some 40), .call 54 [(.tmp 33), (.tmp 38), (.tmp 39)]⟩,
      ⟨(some 41), .p (.bin .add (.tmp 32) (.tmp 40))⟩,
      ⟨(some 9), .p (.mv (.tmp 41))⟩])
   (.skip)))))
 (.cut [0, 1, 2, 9, 10] c54z20))
def c54z21 : ICode := .seq (.ops none [⟨(some 42), .p (.mv (.tmp 2))⟩,
    ⟨(some 43), .p (.mv (.tmp 1))⟩,
    ⟨(some 44), .p (.mv (.tmp 9))⟩,
    ⟨none, .e (.mupd (.tmp 42) (.tmp 43) (.tmp 44))⟩])
 (.seq (.ops none [⟨(some 45), .p (.mv (.tmp 9))⟩,
    ⟨(some 6), .p (.mv (.tmp 45))⟩])
 (.ret))
def c54z10 : ICode := .cut [1, 2, 9] c54z21
def c54 : ICode := .seq (.ops none [⟨(some 6), .p (.mv (.const (.int .i64 (0))))⟩])
 (.seq (.seq (.ops none [⟨(some 12), .p (.mv (.tmp 1))⟩,
     ⟨(some 13), .p (.bin .eql (.tmp 12) (.const (.string ⟨#[]⟩)))⟩])
  (.cond (.tmp 13) (.seq (.ops none [⟨(some 6), .p (.mv (.const (.int .i64 (1))))⟩])
   (.ret))
  (.skip)))
 (.seq (.seq (.ops none [⟨(some 15), .p (.mv (.tmp 2))⟩,
     ⟨(some 16), .p (.mv (.tmp 1))⟩,
     ⟨(some 17), .l (.lookup true (.int .i64 (0)) (.tmp 15) (.tmp 16))⟩,
     ⟨(some 14), .p (.mv (.tmp 17))⟩,
     ⟨(some 18), .p (.ext (.tmp 14) 0)⟩,
     ⟨(some 19), .p (.ext (.tmp 14) 1)⟩,
     ⟨(some 7), .p (.mv (.tmp 18))⟩,
     ⟨(some 8), .p (.mv (.tmp 19))⟩])
  (.seq (.ops none [⟨(some 20), .p (.mv (.tmp 8))⟩])
  (.cond (.tmp 20) (.seq (.ops none [⟨(some 21), .p (.mv (.tmp 7))⟩,
      ⟨(some 6), .p (.mv (.tmp 21))⟩])
   (.ret))
  (.skip))))
 (.seq (.ops none [⟨(some 9), .p (.mv (.const (.int .i64 (0))))⟩])
 (.seq (.seq (.ops none [⟨(some 10), .p (.mv (.const (.int .u8 (97))))⟩])
  (.block 0 (.loop [0, 1, 2] [9, 10] c54z13))) c54z10))))
theorem k54 : compFn Try.prog 54 [[], [], [], [], [], [], [], [], [], [], [0, 1, 2], [9, 10], [], [], [], [], [0, 1, 2, 9, 10], [1, 2, 9], [], []] = some (46, c54, [.tmp 6]) := by kernel_rfl
def K54z0 (_P : Program) (K : Value → Heap → Prop) : Exit → (Nat → Value) → Heap → Prop := bodyP [.tmp 6] K
def K54z10 (P : Program) (K : Value → Heap → Prop) : Exit → (Nat → Value) → Heap → Prop := thenK (iwpP P c54z10 (K54z0 P K)) (K54z0 P K)
def K54z12 (P : Program) (K : Value → Heap → Prop) : Exit → (Nat → Value) → Heap → Prop := inBlockK 0 (K54z10 P K)
def K54z13 (P : Program) (K : Value → Heap → Prop) (pairs0 s1 known2 : Value) (L1 : List Value → Heap → Prop) : Exit → (Nat → Value) → Heap → Prop := thenK (fun f' h'' => (([0, 1, 2] : List Nat).map f' : List Value) = [pairs0, s1, known2] ∧ L1 (([9, 10] : List Nat).map f') h'') (K54z12 P K)
def p54z13 (P : Program) (K : Value → Heap → Prop) (pairs0 s1 known2 : Value) (L1 : List Value → Heap → Prop) (xs : List Value) (h : Heap) : Prop := CutP (iwpP P c54z13 (K54z13 P K pairs0 s1 known2 L1)) ([0, 1, 2] ++ [9, 10]) ([pairs0, s1, known2] ++ xs) h
def p54z20 (P : Program) (K : Value → Heap → Prop) (pairs0 s1 known2 sum9 x10 : Value) (L1 : List Value → Heap → Prop) (h : Heap) : Prop := CutP (iwpP P c54z20 (K54z13 P K pairs0 s1 known2 L1)) [0, 1, 2, 9, 10] [pairs0, s1, known2, sum9, x10] h
def p54z21 (P : Program) (K : Value → Heap → Prop) (s1 known2 sum9 : Value) (h : Heap) : Prop := CutP (iwpP P c54z21 (K54z0 P K)) [1, 2, 9] [s1, known2, sum9] h
theorem q54z20 (P : Program) (K : Value → Heap → Prop) (pairs0 s1 known2 sum9 x10 : Value) (L1 : List Value → Heap → Prop) (h : Heap) : p54z20 P K pairs0 s1 known2 sum9 x10 L1 h =
  (OP (iBin .add x10 (.int .u8 (1))) fun x25 =>
  ([pairs0, s1, known2] : List Value) = [pairs0, s1, known2] ∧ L1 [sum9, x25] h) := (CutP_def _ _ _ _).trans (by kernel_rfl)
theorem q54z13 (P : Program) (K : Value → Heap → Prop) (pairs0 s1 known2 : Value) (L1 : List Value → Heap → Prop) (sum9 x10 : Value) (h : Heap) : p54z13 P K pairs0 s1 known2 L1 [sum9, x10] h =
  (OP (iBin .leq x10 (.int .u8 (102))) fun x23 =>
  IfP x23
    (CallP P 59 [pairs0, s1, x10] h fun x29 h_1 =>
    OP (iBin .geq x29 (.int .i64 (0))) fun x31 =>
    IfP x31
      (CallP P 60 [s1, x29] h_1 fun x37 h_2 =>
      CallP P 21 [pairs0, x37] h_2 fun x38 h_3 =>
      CallP P 54 [pairs0, x38, known2] h_3 fun x40 h_4 =>
      OP (iBin .add sum9 x40) fun x41 =>
      p54z20 P K pairs0 s1 known2 x41 x10 L1 h_4)
      (p54z20 P K pairs0 s1 known2 sum9 x10 L1 h_1))
    (p54z21 P K s1 known2 sum9 h)) := (CutP_def _ _ _ _).trans (by kernel_rfl)
theorem q54z21 (P : Program) (K : Value → Heap → Prop) (s1 known2 sum9 : Value) (h : Heap) : p54z21 P K s1 known2 sum9 h =
  (OH (oMupd h known2 s1 sum9) fun _ h_1 =>
  K sum9 h_1) := (CutP_def _ _ _ _).trans (by kernel_rfl)
def T54 (P : Program) (K : Value → Heap → Prop) (pairs0 s1 known2 : Value) (h : Heap) : Prop :=
  OP (iBin .eql s1 (.string ⟨#[]⟩)) fun x13 =>
  IfP x13
    (K (.int .i64 (1)) h)
    (OP (iLookup true (.int .i64 (0)) h known2 s1) fun x17 =>
    OP (iExt 0 x17) fun x18 =>
    OP (iExt 1 x17) fun x19 =>
    IfP x19
      (K x18 h)
      (LoopP [(.int .i64 (0)), (.int .u8 (97))] h fun L1 xs hx =>
      p54z13 P K pairs0 s1 known2 L1 xs hx))
theorem e54 (P : Program) (K : Value → Heap → Prop) (pairs0 s1 known2 : Value) (h : Heap) : iwpP P c54 (bodyP [.tmp 6] K) (frame0 [pairs0, s1, known2]) h = T54 P K pairs0 s1 known2 h := by kernel_rfl
theorem f54 {K : Value → Heap → Prop} {pairs0 s1 known2 : Value} {h : Heap} (H : T54 Try.prog K pairs0 s1 known2 h) : CallP Try.prog 54 [pairs0, s1, known2] h K :=
  callP_intro k54 (Nat.le_of_ble_eq_true rfl) ((e54 Try.prog K pairs0 s1 known2 h).mpr H)
/-! F83: pommel/stitch.Ways$1 -/
def c83z18 : ICode := .ops none [⟨(some 43), .p (.bin .add (.tmp 23) (.const (.int .i64 (1))))⟩,
   ⟨(some 23), .p (.mv (.tmp 43))⟩]
def c83z10 : ICode := .seq (.ops none [⟨(some 24), .p (.bin .lss (.tmp 23) (.tmp 22))⟩])
 (.seq (.cond (.tmp 24) (.skip)
  (.exit 0))
 (.seq (.block 1 (.seq (.ops none [⟨(some 25), .p (.mv (.tmp 23))⟩,
      ⟨(some 9), .p (.mv (.tmp 25))⟩])
   (.seq (.ops none [⟨(some 26), .l (.load false 1 (.tmp 2))⟩,
      ⟨(some 27), .p (.mv (.tmp 0))⟩,
      ⟨(some 28), .p (.mv (.tmp 9))⟩,
      ⟨(some 29), .p (.conv .u8 (.tmp 28))⟩,
      ⟨(some 30), .p (.bin .add (.const (.int .u8 (97))) (.tmp 29))⟩,
      ⟨(some 31), .call 84 [(.tmp 26), (.tmp 27), (.tmp 30)]⟩,
      ⟨(some 10), .p (.mv (.tmp 31))⟩])
   (.seq (.ops none [⟨(some 32), .p (.mv (.tmp 10))⟩,
      ⟨(some 33), .p (.bin .geq (.tmp 32) (.const (.int .i64 (0))))⟩])
   (.cond (.tmp 33) (.dops [(none, [⟨(some 34), .p (.mv (.tmp 8)), 0⟩,
      ⟨(some 35), .l (.load false 1 (.tmp 3)), 0⟩,
      ⟨(some 36), .l (.load false 1 (.tmp 2)), 0⟩,
      ⟨(some 37), .p (.mv (.tmp 0)), 0⟩,
      ⟨(some 38), .p (.mv (.tmp 10)), 0⟩,
      ⟨(some 39), .call 85 [(.tmp 37), (.tmp 38)], 24⟩,
      ⟨(some 40), .call 57 [(.tmp 36), (.tmp 39)], 60⟩,
      ⟨(some 41), .callv (.tmp 35) [(.tmp 40)], 126⟩,
      ⟨(some 42), .p (.bin .add (.tmp 34) (.tmp 41)), 255⟩,
      ⟨(some 8), .p (.mv (.tmp 42)), 511⟩])])
   (.skip))))))
 (.cut [0, 1, 2, 3, 8, 22, 23] c83z18)))
def c83z19 : ICode := .seq (.ops none [⟨(some 44), .l (.load false 1 (.tmp 1))⟩,
    ⟨(some 45), .p (.mv (.tmp 0))⟩,
    ⟨(some 46), .p (.mv (.tmp 8))⟩,
    ⟨none, .e (.mupd (.tmp 44) (.tmp 45) (.tmp 46))⟩])
 (.seq (.ops none [⟨(some 47), .p (.mv (.tmp 8))⟩,
    ⟨(some 5), .p (.mv (.tmp 47))⟩])
 (.ret))
def c83z7 : ICode := .cut [0, 1, 8] c83z19
def c83 : ICode := .seq (.ops none [⟨(some 5), .p (.mv (.const (.int .i64 (0))))⟩])
 (.seq (.seq (.ops none [⟨(some 12), .l (.load false 1 (.tmp 1))⟩,
     ⟨(some 13), .p (.mv (.tmp 0))⟩,
     ⟨(some 14), .l (.lookup true (.int .i64 (0)) (.tmp 12) (.tmp 13))⟩,
     ⟨(some 11), .p (.mv (.tmp 14))⟩,
     ⟨(some 15), .p (.ext (.tmp 11) 0)⟩,
     ⟨(some 16), .p (.ext (.tmp 11) 1)⟩,
     ⟨(some 6), .p (.mv (.tmp 15))⟩,
     ⟨(some 7), .p (.mv (.tmp 16))⟩])
  (.seq (.ops none [⟨(some 17), .p (.mv (.tmp 7))⟩])
  (.cond (.tmp 17) (.seq (.ops none [⟨(some 18), .p (.mv (.tmp 6))⟩,
      ⟨(some 5), .p (.mv (.tmp 18))⟩])
   (.ret))
  (.skip))))
 (.seq (.ops none [⟨(some 8), .p (.mv (.const (.int .i64 (0))))⟩])
 (.seq (.seq (.ops none [⟨(some 19), .l (.load false 1 (.tmp 2))⟩,
     ⟨(some 20), .p (.nilck (.tmp 19))⟩,
     ⟨(some 21), .p (.fadr 0 (.tmp 20))⟩,
     ⟨(some 22), .l (.load false 1 (.tmp 21))⟩,
     ⟨(some 23), .p (.mv (.const (.int .i64 (0))))⟩])
  (.block 0 (.loop [0, 1, 2, 3, 22] [8, 23] c83z10))) c83z7)))
theorem k83 : compFn Try.prog 83 [[], [], [], [], [], [], [], [0, 1, 2, 3, 22], [8, 23], [], [], [], [], [], [0, 1, 2, 3, 8, 22, 23], [0, 1, 8], [], []] = some (48, c83, [.tmp 5]) := by kernel_rfl
def K83z0 (_P : Program) (K : Value → Heap → Prop) : Exit → (Nat → Value) → Heap → Prop := bodyP [.tmp 5] K
def K83z7 (P : Program) (K : Value → Heap → Prop) : Exit → (Nat → Value) → Heap → Prop := thenK (iwpP P c83z7 (K83z0 P K)) (K83z0 P K)
def K83z9 (P : Program) (K : Value → Heap → Prop) : Exit → (Nat → Value) → Heap → Prop := inBlockK 0 (K83z7 P K)
def K83z10 (P : Program) (K : Value → Heap → Prop) (s0 x1 x2 x3 x22 : Value) (L1 : List Value → Heap → Prop) : Exit → (Nat → Value) → Heap → Prop := thenK (fun f' h'' => (([0, 1, 2, 3, 22] : List Nat).map f' : List Value) = [s0, x1, x2, x3, x22] ∧ L1 (([8, 23] : List Nat).map f') h'') (K83z9 P K)
def p83z10 (P : Program) (K : Value → Heap → Prop) (s0 x1 x2 x3 x22 : Value) (L1 : List Value → Heap → Prop) (xs : List Value) (h : Heap) : Prop := CutP (iwpP P c83z10 (K83z10 P K s0 x1 x2 x3 x22 L1)) ([0, 1, 2, 3, 22] ++ [8, 23]) ([s0, x1, x2, x3, x22] ++ xs) h
def p83z18 (P : Program) (K : Value → Heap → Prop) (s0 x1 x2 x3 n8 x22 x23 : Value) (L1 : List Value → Heap → Prop) (h : Heap) : Prop := CutP (iwpP P c83z18 (K83z10 P K s0 x1 x2 x3 x22 L1)) [0, 1, 2, 3, 8, 22, 23] [s0, x1, x2, x3, n8, x22, x23] h
def p83z19 (P : Program) (K : Value → Heap → Prop) (s0 x1 n8 : Value) (h : Heap) : Prop := CutP (iwpP P c83z19 (K83z0 P K)) [0, 1, 8] [s0, x1, n8] h
theorem q83z18 (P : Program) (K : Value → Heap → Prop) (s0 x1 x2 x3 n8 x22 x23 : Value) (L1 : List Value → Heap → Prop) (h : Heap) : p83z18 P K s0 x1 x2 x3 n8 x22 x23 L1 h =
  (OP (iBin .add x23 (.int .i64 (1))) fun x43 =>
  ([s0, x1, x2, x3, x22] : List Value) = [s0, x1, x2, x3, x22] ∧ L1 [n8, x43] h) := (CutP_def _ _ _ _).trans (by kernel_rfl)
theorem q83z10 (P : Program) (K : Value → Heap → Prop) (s0 x1 x2 x3 x22 : Value) (L1 : List Value → Heap → Prop) (n8 x23 : Value) (h : Heap) : p83z10 P K s0 x1 x2 x3 x22 L1 [n8, x23] h =
  (OP (iBin .lss x23 x22) fun x24 =>
  IfP x24
    (OP (iLoad false 1 h x2) fun x26 =>
    OP (iConv .u8 x23) fun x29 =>
    OP (iBin .add (.int .u8 (97)) x29) fun x30 =>
    CallP P 84 [x26, s0, x30] h fun x31 h_1 =>
    OP (iBin .geq x31 (.int .i64 (0))) fun x33 =>
    IfP x33
      (OP (iLoad false 1 h_1 x3) fun x35 =>
      (True) ∧
      OP (iLoad false 1 h_1 x2) fun x36 =>
      (True) ∧
      CallP P 85 [s0, x31] h_1 fun x39 h_2 =>
      (iLoad false 1 h_2 x3 = some x35 ∧ iLoad false 1 h_2 x2 = some x36 ∧ True) ∧
      CallP P 57 [x36, x39] h_2 fun x40 h_3 =>
      (iLoad false 1 h_3 x3 = some x35 ∧ True) ∧
      CallVP P x35 [x40] h_3 fun x41 h_4 =>
      (True) ∧
      OP (iBin .add n8 x41) fun x42 =>
      p83z18 P K s0 x1 x2 x3 x42 x22 x23 L1 h_4)
      (p83z18 P K s0 x1 x2 x3 n8 x22 x23 L1 h_1))
    (p83z19 P K s0 x1 n8 h)) := (CutP_def _ _ _ _).trans (by kernel_rfl)
theorem q83z19 (P : Program) (K : Value → Heap → Prop) (s0 x1 n8 : Value) (h : Heap) : p83z19 P K s0 x1 n8 h =
  (OP (iLoad false 1 h x1) fun x44 =>
  OH (oMupd h x44 s0 n8) fun _ h_1 =>
  K n8 h_1) := (CutP_def _ _ _ _).trans (by kernel_rfl)
def T83 (P : Program) (K : Value → Heap → Prop) (s0 x1 x2 x3 : Value) (h : Heap) : Prop :=
  OP (iLoad false 1 h x1) fun x12 =>
  OP (iLookup true (.int .i64 (0)) h x12 s0) fun x14 =>
  OP (iExt 0 x14) fun x15 =>
  OP (iExt 1 x14) fun x16 =>
  IfP x16
    (K x15 h)
    (OP (iLoad false 1 h x2) fun x19 =>
    OP (iNilck x19) fun x20 =>
    OP (iFadr 0 x20) fun x21 =>
    OP (iLoad false 1 h x21) fun x22 =>
    LoopP [(.int .i64 (0)), (.int .i64 (0))] h fun L1 xs hx =>
    p83z10 P K s0 x1 x2 x3 x22 L1 xs hx)
theorem e83 (P : Program) (K : Value → Heap → Prop) (s0 x1 x2 x3 : Value) (h : Heap) : iwpP P c83 (bodyP [.tmp 5] K) (frame0 [s0, x1, x2, x3]) h = T83 P K s0 x1 x2 x3 h := by kernel_rfl
theorem f83 {K : Value → Heap → Prop} {s0 x1 x2 x3 : Value} {h : Heap} (H : T83 Try.prog K s0 x1 x2 x3 h) : CallP Try.prog 83 [s0, x1, x2, x3] h K :=
  callP_intro k83 (Nat.le_of_ble_eq_true rfl) ((e83 Try.prog K s0 x1 x2 x3 h).mpr H)
end Go.Proofs.Ytjdlcokhlphmhaa
