/-
  Ideal code of the functions that the proof reaches, written by program; the kernel holds it against the code.
-/
import Derived.Test.YtjdlcokhlphmhaaProg
import Derived.Test.YtjdlcokhlphmhaaSim20
import Derived.KernelRfl
namespace Go.Proofs.Ytjdlcokhlphmhaa
open Go.Sim
/-! F3: pommel/pommellaw03.StitchEquals -/
def c3z16 : ICode := .ops none [⟨(some 48), .p (.pick (.tmp 46) (.tmp 47) (.const (.bool false)))⟩,
   ⟨(some 6), .p (.mv (.tmp 48))⟩]
def c3z14 : ICode := .seq (.ops (some (46, true)) [⟨(some 47), .call 20 []⟩])
 (.cut [46, 47] c3z16)
def c3z12 : ICode := .seq (.ops none [⟨(some 45), .p (.pick (.tmp 41) (.tmp 44) (.const (.bool false)))⟩,
    ⟨(some 46), .p (.mv (.tmp 45))⟩])
 (.cut [46] c3z14)
def c3z10 : ICode := .seq (.ops (some (41, true)) [⟨(some 42), .p (.mv (.tmp 12))⟩,
    ⟨(some 43), .p (.mv (.tmp 13))⟩,
    ⟨(some 44), .p (.bin .eql (.tmp 42) (.tmp 43))⟩])
 (.cut [41, 44] c3z12)
def c3z8 : ICode := .ret
def c3z25 : ICode := .ops none [⟨(some 64), .p (.pick (.tmp 62) (.tmp 63) (.const (.bool false)))⟩,
   ⟨(some 6), .p (.mv (.tmp 64))⟩]
def c3z23 : ICode := .seq (.ops (some (62, true)) [⟨(some 63), .call 20 []⟩])
 (.cut [62, 63] c3z25)
def c3z21 : ICode := .seq (.ops none [⟨(some 61), .p (.pick (.tmp 58) (.tmp 60) (.const (.bool false)))⟩,
    ⟨(some 62), .p (.mv (.tmp 61))⟩])
 (.cut [62] c3z23)
def c3z19 : ICode := .seq (.ops (some (58, true)) [⟨(some 59), .p (.mv (.tmp 12))⟩,
    ⟨(some 60), .p (.bin .eql (.tmp 59) (.const (.int .i64 (0))))⟩])
 (.cut [58, 60] c3z21)
def c3z17 : ICode := .ret
def c3z5 : ICode := .seq (.seq (.ops none [⟨(some 49), .p (.mv (.tmp 11))⟩,
     ⟨(some 50), .p (.mv (.tmp 8))⟩,
     ⟨(some 51), .p (.mv (.tmp 9))⟩,
     ⟨(some 52), .call 21 [(.tmp 50), (.tmp 51)]⟩,
     ⟨(some 53), .p (.mv (.tmp 8))⟩,
     ⟨(some 54), .p (.mv (.tmp 10))⟩,
     ⟨(some 55), .call 21 [(.tmp 53), (.tmp 54)]⟩,
     ⟨(some 56), .p (.bin .eql (.tmp 52) (.tmp 55))⟩,
     ⟨(some 57), .p (.eqb false (.tmp 49) (.tmp 56))⟩,
     ⟨(some 58), .p (.mv (.tmp 57))⟩])
  (.cut [12, 58] c3z19)) c3z17
def c3 : ICode := .seq (.ops none [⟨(some 3), .e (.box 24 (.tmp 0))⟩,
    ⟨(some 6), .p (.mv (.const (.bool false)))⟩])
 (.seq (.ops none [⟨(some 15), .l (.load true 2 (.tmp 3))⟩,
    ⟨(some 16), .call 16 [(.tmp 15)]⟩,
    ⟨(some 14), .p (.mv (.tmp 16))⟩,
    ⟨(some 17), .p (.ext (.tmp 14) 0)⟩,
    ⟨(some 18), .p (.ext (.tmp 14) 1)⟩,
    ⟨(some 7), .p (.mv (.tmp 17))⟩,
    ⟨(some 8), .p (.mv (.tmp 18))⟩])
 (.seq (.ops none [⟨(some 19), .p (.mv (.tmp 1))⟩,
    ⟨(some 20), .call 17 [(.tmp 19), (.const (.int .i64 (41)))]⟩,
    ⟨(some 21), .p (.mv (.tmp 2))⟩,
    ⟨(some 22), .call 17 [(.tmp 21), (.const (.int .i64 (41)))]⟩,
    ⟨(some 9), .p (.mv (.tmp 20))⟩,
    ⟨(some 10), .p (.mv (.tmp 22))⟩])
 (.seq (.ops none [⟨(some 24), .p (.mv (.tmp 7))⟩,
    ⟨(some 25), .p (.mv (.tmp 8))⟩,
    ⟨(some 26), .p (.mv (.tmp 9))⟩,
    ⟨(some 27), .p (.mv (.tmp 10))⟩,
    ⟨(some 28), .call 18 [(.tmp 24), (.tmp 25), (.tmp 26), (.tmp 27)]⟩,
    ⟨(some 23), .p (.mv (.tmp 28))⟩,
    ⟨(some 29), .p (.ext (.tmp 23) 0)⟩,
    ⟨(some 30), .p (.ext (.tmp 23) 1)⟩,
    ⟨(some 11), .p (.mv (.tmp 29))⟩,
    ⟨(some 12), .p (.mv (.tmp 30))⟩])
 (.seq (.seq (.ops none [⟨(some 31), .p (.mv (.tmp 7))⟩,
     ⟨(some 32), .p (.mv (.tmp 8))⟩,
     ⟨(some 33), .p (.mv (.tmp 9))⟩,
     ⟨(some 34), .p (.mv (.tmp 10))⟩,
     ⟨(some 35), .e (.mkSl 9 2 [(.string ⟨#[]⟩)] [(0, 1, (.tmp 33)), (1, 1, (.tmp 34))])⟩,
     ⟨(some 36), .call 19 [(.tmp 31), (.tmp 32), (.const (.int .i64 (40))), (.tmp 35)]⟩,
     ⟨(some 13), .p (.mv (.tmp 36))⟩])
  (.seq (.ops none [⟨(some 37), .p (.mv (.tmp 13))⟩,
     ⟨(some 38), .p (.bin .neq (.tmp 37) (.const (.int .i64 (0))))⟩])
  (.cond (.tmp 38) (.seq (.seq (.ops none [⟨(some 39), .p (.mv (.tmp 11))⟩,
       ⟨(some 40), .p (.un .not (.tmp 39))⟩,
       ⟨(some 41), .p (.mv (.tmp 40))⟩])
    (.cut [12, 13, 41] c3z10)) c3z8)
  (.skip)))) c3z5))))
theorem k3 : compFn Try.prog 3 [[], [], [], [], [], [], [12, 13, 41], [41, 44], [46], [46, 47], [], [], [12, 58], [58, 60], [62], [62, 63], []] = some (65, c3, [.tmp 6]) := by kernel_rfl
def K3z0 (_P : Program) (K : Value → Heap → Prop) : Exit → (Nat → Value) → Heap → Prop := bodyP [.tmp 6] K
def K3z5 (P : Program) (K : Value → Heap → Prop) : Exit → (Nat → Value) → Heap → Prop := thenK (iwpP P c3z5 (K3z0 P K)) (K3z0 P K)
def K3z8 (P : Program) (K : Value → Heap → Prop) : Exit → (Nat → Value) → Heap → Prop := thenK (iwpP P c3z8 (K3z5 P K)) (K3z5 P K)
def K3z17 (P : Program) (K : Value → Heap → Prop) : Exit → (Nat → Value) → Heap → Prop := thenK (iwpP P c3z17 (K3z0 P K)) (K3z0 P K)
def p3z10 (P : Program) (K : Value → Heap → Prop) (e12 bad13 x41 : Value) (h : Heap) : Prop := CutP (iwpP P c3z10 (K3z8 P K)) [12, 13, 41] [e12, bad13, x41] h
def p3z12 (P : Program) (K : Value → Heap → Prop) (x41 x44 : Value) (h : Heap) : Prop := CutP (iwpP P c3z12 (K3z8 P K)) [41, 44] [x41, x44] h
def p3z14 (P : Program) (K : Value → Heap → Prop) (x46 : Value) (h : Heap) : Prop := CutP (iwpP P c3z14 (K3z8 P K)) [46] [x46] h
def p3z16 (P : Program) (K : Value → Heap → Prop) (x46 x47 : Value) (h : Heap) : Prop := CutP (iwpP P c3z16 (K3z8 P K)) [46, 47] [x46, x47] h
def p3z19 (P : Program) (K : Value → Heap → Prop) (e12 x58 : Value) (h : Heap) : Prop := CutP (iwpP P c3z19 (K3z17 P K)) [12, 58] [e12, x58] h
def p3z21 (P : Program) (K : Value → Heap → Prop) (x58 x60 : Value) (h : Heap) : Prop := CutP (iwpP P c3z21 (K3z17 P K)) [58, 60] [x58, x60] h
def p3z23 (P : Program) (K : Value → Heap → Prop) (x62 : Value) (h : Heap) : Prop := CutP (iwpP P c3z23 (K3z17 P K)) [62] [x62] h
def p3z25 (P : Program) (K : Value → Heap → Prop) (x62 x63 : Value) (h : Heap) : Prop := CutP (iwpP P c3z25 (K3z17 P K)) [62, 63] [x62, x63] h
theorem q3z16 (P : Program) (K : Value → Heap → Prop) (x46 x47 : Value) (h : Heap) : p3z16 P K x46 x47 h =
  (OP (iPick x46 x47 (.bool false)) fun x48 =>
  K x48 h) := (CutP_def _ _ _ _).trans (by kernel_rfl)
theorem q3z14 (P : Program) (K : Value → Heap → Prop) (x46 : Value) (h : Heap) : p3z14 P K x46 h =
  (GdP x46 true
    (CallP P 20 [] h fun x47 h_1 =>
    p3z16 P K x46 x47 h_1)
    (p3z16 P K x46 undef h)) := (CutP_def _ _ _ _).trans (by kernel_rfl)
theorem q3z12 (P : Program) (K : Value → Heap → Prop) (x41 x44 : Value) (h : Heap) : p3z12 P K x41 x44 h =
  (OP (iPick x41 x44 (.bool false)) fun x45 =>
  p3z14 P K x45 h) := (CutP_def _ _ _ _).trans (by kernel_rfl)
theorem q3z10 (P : Program) (K : Value → Heap → Prop) (e12 bad13 x41 : Value) (h : Heap) : p3z10 P K e12 bad13 x41 h =
  (GdP x41 true
    (OP (iBin .eql e12 bad13) fun x44 =>
    p3z12 P K x41 x44 h)
    (p3z12 P K x41 undef h)) := (CutP_def _ _ _ _).trans (by kernel_rfl)
theorem q3z25 (P : Program) (K : Value → Heap → Prop) (x62 x63 : Value) (h : Heap) : p3z25 P K x62 x63 h =
  (OP (iPick x62 x63 (.bool false)) fun x64 =>
  K x64 h) := (CutP_def _ _ _ _).trans (by kernel_rfl)
theorem q3z23 (P : Program) (K : Value → Heap → Prop) (x62 : Value) (h : Heap) : p3z23 P K x62 h =
  (GdP x62 true
    (CallP P 20 [] h fun x63 h_1 =>
    p3z25 P K x62 x63 h_1)
    (p3z25 P K x62 undef h)) := (CutP_def _ _ _ _).trans (by kernel_rfl)
theorem q3z21 (P : Program) (K : Value → Heap → Prop) (x58 x60 : Value) (h : Heap) : p3z21 P K x58 x60 h =
  (OP (iPick x58 x60 (.bool false)) fun x61 =>
  p3z23 P K x61 h) := (CutP_def _ _ _ _).trans (by kernel_rfl)
theorem q3z19 (P : Program) (K : Value → Heap → Prop) (e12 x58 : Value) (h : Heap) : p3z19 P K e12 x58 h =
  (GdP x58 true
    (OP (iBin .eql e12 (.int .i64 (0))) fun x60 =>
    p3z21 P K x58 x60 h)
    (p3z21 P K x58 undef h)) := (CutP_def _ _ _ _).trans (by kernel_rfl)
def T3 (P : Program) (K : Value → Heap → Prop) (t0 x1 y2 : Value) (h : Heap) : Prop :=
  OH (iBox 24 h t0) fun t3 h_1 =>
  OP (iLoad true 2 h_1 t3) fun x15 =>
  CallP P 16 [x15] h_1 fun x16 h_2 =>
  OP (iExt 0 x16) fun x17 =>
  OP (iExt 1 x16) fun x18 =>
  CallP P 17 [x1, (.int .i64 (41))] h_2 fun x20 h_3 =>
  CallP P 17 [y2, (.int .i64 (41))] h_3 fun x22 h_4 =>
  CallP P 18 [x17, x18, x20, x22] h_4 fun x28 h_5 =>
  OP (iExt 0 x28) fun x29 =>
  OP (iExt 1 x28) fun x30 =>
  OH (iMkSl 9 2 [(.string ⟨#[]⟩)] h_5 [(0, 1, x20), (1, 1, x22)]) fun x35 h_6 =>
  CallP P 19 [x17, x18, (.int .i64 (40)), x35] h_6 fun x36 h_7 =>
  OP (iBin .neq x36 (.int .i64 (0))) fun x38 =>
  IfP x38
    (OP (iUn .not x29) fun x40 =>
    p3z10 P K x30 x36 x40 h_7)
    (CallP P 21 [x18, x20] h_7 fun x52 h_8 =>
    CallP P 21 [x18, x22] h_8 fun x55 h_9 =>
    OP (iBin .eql x52 x55) fun x56 =>
    OP (iEqb false x29 x56) fun x57 =>
    p3z19 P K x30 x57 h_9)
theorem e3 (P : Program) (K : Value → Heap → Prop) (t0 x1 y2 : Value) (h : Heap) : iwpP P c3 (bodyP [.tmp 6] K) (frame0 [t0, x1, y2]) h = T3 P K t0 x1 y2 h := by kernel_rfl
theorem f3 {K : Value → Heap → Prop} {t0 x1 y2 : Value} {h : Heap} (H : T3 Try.prog K t0 x1 y2 h) : CallP Try.prog 3 [t0, x1, y2] h K :=
  callP_intro k3 (Nat.le_of_ble_eq_true rfl) ((e3 Try.prog K t0 x1 y2 h).mpr H)
/-! F16: (pommel/pommellaw03.Threads).few -/
def c16 : ICode := .seq (.ops none [⟨(some 1), .e (.box 24 (.tmp 0))⟩,
    ⟨(some 2), .p (.mv (.const (.int .i64 (0))))⟩,
    ⟨(some 3), .p (.mv (.const (.slice none 0 0)))⟩])
 (.seq (.dops [(none, [⟨(some 4), .p (.fadr 0 (.tmp 1)), 0⟩,
    ⟨(some 5), .l (.load false 1 (.tmp 4)), 1⟩,
    ⟨(some 6), .e (.mkSl 98 0 [(.int .i64 (0)), (.int .i64 (0))] []), 0⟩,
    ⟨(some 7), .p (.fadr 1 (.tmp 1)), 0⟩,
    ⟨(some 8), .l (.load false 1 (.tmp 7)), 8⟩,
    ⟨(some 9), .p (.fadr 1 (.tmp 1)), 0⟩,
    ⟨(some 10), .l (.load false 1 (.tmp 9)), 32⟩,
    ⟨(some 11), .p (.lenSl (.tmp 10)), 96⟩,
    ⟨(some 12), .p (.minmax false [(.tmp 11), (.const (.int .i64 (31)))]), 224⟩,
    ⟨(some 13), .p (.slSl 98 2 (.tmp 8) none (some (.tmp 12))), 504⟩,
    ⟨(some 14), .e (.app 98 2 16 (.tmp 6) (.tmp 13)), 1020⟩,
    ⟨(some 2), .p (.mv (.tmp 5)), 2047⟩,
    ⟨(some 3), .p (.mv (.tmp 14)), 4095⟩])])
 (.ret))
theorem k16 : compFn Try.prog 16 [[], []] = some (15, c16, [.tmp 2, .tmp 3]) := by kernel_rfl
def K16z0 (_P : Program) (K : Value → Heap → Prop) : Exit → (Nat → Value) → Heap → Prop := bodyP [.tmp 2, .tmp 3] K
def T16 (P : Program) (K : Value → Heap → Prop) (t0 : Value) (h : Heap) : Prop :=
  OH (iBox 24 h t0) fun t1 h_1 =>
  OP (iFadr 0 t1) fun x4 =>
  OP (iLoad false 1 h_1 x4) fun x5 =>
  (True) ∧
  OH (iMkSl 98 0 [(.int .i64 (0)), (.int .i64 (0))] h_1 []) fun x6 h_2 =>
  (iLoad false 1 h_2 x4 = some x5 ∧ True) ∧
  OP (iFadr 1 t1) fun x7 =>
  OP (iLoad false 1 h_2 x7) fun x8 =>
  (iLoad false 1 h_1 x7 = some x8 ∧ True) ∧
  OP (iFadr 1 t1) fun x9 =>
  OP (iLoad false 1 h_2 x9) fun x10 =>
  (iLoad false 1 h_1 x9 = some x10 ∧ True) ∧
  OP (iLenSl x10) fun x11 =>
  OP (iMinmax false [x11, (.int .i64 (31))]) fun x12 =>
  OP (iSlSl 98 2 x8 none (some x12)) fun x13 =>
  OH (iApp 98 2 16 h_2 x6 x13) fun x14 h_3 =>
  (iLoad false 1 h_3 x4 = some x5 ∧ True) ∧
  K (.tuple #[x5, x14]) h_3
theorem e16 (P : Program) (K : Value → Heap → Prop) (t0 : Value) (h : Heap) : iwpP P c16 (bodyP [.tmp 2, .tmp 3] K) (frame0 [t0]) h = T16 P K t0 h := by kernel_rfl
theorem f16 {K : Value → Heap → Prop} {t0 : Value} {h : Heap} (H : T16 Try.prog K t0 h) : CallP Try.prog 16 [t0] h K :=
  callP_intro k16 (Nat.le_of_ble_eq_true rfl) ((e16 Try.prog K t0 h).mpr H)
/-! F17: pommel/pommellaw03.cut -/
def c17 : ICode := .seq (.ops none [⟨(some 4), .p (.mv (.const (.string ⟨#[]⟩)))⟩])
 (.seq (.ops none [⟨(some 5), .p (.mv (.tmp 0))⟩,
    ⟨(some 6), .p (.mv (.tmp 0))⟩,
    ⟨(some 7), .p (.lenS (.tmp 6))⟩,
    ⟨(some 8), .p (.mv (.tmp 1))⟩,
    ⟨(some 9), .p (.minmax false [(.tmp 7), (.tmp 8)])⟩,
    ⟨(some 10), .p (.slS (.tmp 5) none (some (.tmp 9)))⟩,
    ⟨(some 4), .p (.mv (.tmp 10))⟩])
 (.ret))
theorem k17 : compFn Try.prog 17 [[], []] = some (11, c17, [.tmp 4]) := by kernel_rfl
def K17z0 (_P : Program) (K : Value → Heap → Prop) : Exit → (Nat → Value) → Heap → Prop := bodyP [.tmp 4] K
def T17 (P : Program) (K : Value → Heap → Prop) (s0 n1 : Value) (h : Heap) : Prop :=
  OP (iLenS s0) fun x7 =>
  OP (iMinmax false [x7, n1]) fun x9 =>
  OP (iSlS s0 none (some x9)) fun x10 =>
  K x10 h
theorem e17 (P : Program) (K : Value → Heap → Prop) (s0 n1 : Value) (h : Heap) : iwpP P c17 (bodyP [.tmp 4] K) (frame0 [s0, n1]) h = T17 P K s0 n1 h := by kernel_rfl
theorem f17 {K : Value → Heap → Prop} {s0 n1 : Value} {h : Heap} (H : T17 Try.prog K s0 n1 h) : CallP Try.prog 17 [s0, n1] h K :=
  callP_intro k17 (Nat.le_of_ble_eq_true rfl) ((e17 Try.prog K s0 n1 h).mpr H)
/-! F18: pommel/stitch.Equal -/
def c18 : ICode := .seq (.ops none [⟨(some 8), .p (.mv (.const (.bool false)))⟩,
    ⟨(some 9), .p (.mv (.const (.int .i64 (0))))⟩])
 (.seq (.ops none [⟨(some 13), .p (.mv (.tmp 0))⟩,
    ⟨(some 14), .p (.mv (.tmp 1))⟩,
    ⟨(some 15), .p (.mv (.tmp 2))⟩,
    ⟨(some 16), .p (.mv (.tmp 3))⟩,
    ⟨(some 17), .e (.mkSl 9 2 [(.string ⟨#[]⟩)] [(0, 1, (.tmp 15)), (1, 1, (.tmp 16))])⟩,
    ⟨(some 18), .call 56 [(.tmp 13), (.tmp 14), (.const (.int .i64 (40))), (.tmp 17)]⟩,
    ⟨(some 12), .p (.mv (.tmp 18))⟩,
    ⟨(some 19), .p (.ext (.tmp 12) 0)⟩,
    ⟨(some 20), .p (.ext (.tmp 12) 1)⟩,
    ⟨(some 10), .p (.mv (.tmp 19))⟩,
    ⟨(some 11), .p (.mv (.tmp 20))⟩])
 (.seq (.seq (.ops none [⟨(some 21), .p (.mv (.tmp 11))⟩,
     ⟨(some 22), .p (.bin .neq (.tmp 21) (.const (.int .i64 (0))))⟩])
  (.cond (.tmp 22) (.seq (.ops none [⟨(some 23), .p (.mv (.tmp 11))⟩,
      ⟨(some 8), .p (.mv (.const (.bool false)))⟩,
      ⟨(some 9), .p (.mv (.tmp 23))⟩])
   (.ret))
  (.skip)))
 (.seq (.ops none [⟨(some 24), .p (.mv (.tmp 10))⟩,
    ⟨(some 25), .p (.mv (.tmp 2))⟩,
    ⟨(some 26), .call 57 [(.tmp 24), (.tmp 25)]⟩,
    ⟨(some 27), .p (.mv (.tmp 10))⟩,
    ⟨(some 28), .p (.mv (.tmp 3))⟩,
    ⟨(some 29), .call 57 [(.tmp 27), (.tmp 28)]⟩,
    ⟨(some 30), .p (.bin .eql (.tmp 26) (.tmp 29))⟩,
    ⟨(some 8), .p (.mv (.tmp 30))⟩,
    ⟨(some 9), .p (.mv (.const (.int .i64 (0))))⟩])
 (.ret))))
theorem k18 : compFn Try.prog 18 [[], [], [], [], [], []] = some (31, c18, [.tmp 8, .tmp 9]) := by kernel_rfl
def K18z0 (_P : Program) (K : Value → Heap → Prop) : Exit → (Nat → Value) → Heap → Prop := bodyP [.tmp 8, .tmp 9] K
def T18 (P : Program) (K : Value → Heap → Prop) (k0 pairs1 s2 u3 : Value) (h : Heap) : Prop :=
  OH (iMkSl 9 2 [(.string ⟨#[]⟩)] h [(0, 1, s2), (1, 1, u3)]) fun x17 h_1 =>
  CallP P 56 [k0, pairs1, (.int .i64 (40)), x17] h_1 fun x18 h_2 =>
  OP (iExt 0 x18) fun x19 =>
  OP (iExt 1 x18) fun x20 =>
  OP (iBin .neq x20 (.int .i64 (0))) fun x22 =>
  IfP x22
    (K (.tuple #[(.bool false), x20]) h_2)
    (CallP P 57 [x19, s2] h_2 fun x26 h_3 =>
    CallP P 57 [x19, u3] h_3 fun x29 h_4 =>
    OP (iBin .eql x26 x29) fun x30 =>
    K (.tuple #[x30, (.int .i64 (0))]) h_4)
theorem e18 (P : Program) (K : Value → Heap → Prop) (k0 pairs1 s2 u3 : Value) (h : Heap) : iwpP P c18 (bodyP [.tmp 8, .tmp 9] K) (frame0 [k0, pairs1, s2, u3]) h = T18 P K k0 pairs1 s2 u3 h := by kernel_rfl
theorem f18 {K : Value → Heap → Prop} {k0 pairs1 s2 u3 : Value} {h : Heap} (H : T18 Try.prog K k0 pairs1 s2 u3 h) : CallP Try.prog 18 [k0, pairs1, s2, u3] h K :=
  callP_intro k18 (Nat.le_of_ble_eq_true rfl) ((e18 Try.prog K k0 pairs1 s2 u3 h).mpr H)
/-! F19: pommel/pommellaw03.why -/
def c19z30 : ICode := .ops none [⟨(some 46), .p (.pick (.tmp 39) (.const (.bool true)) (.tmp 45))⟩]
def c19z28 : ICode := .seq (.ops (some (39, false)) [⟨(some 45), .p (.pick (.tmp 42) (.tmp 44) (.const (.bool false)))⟩])
 (.cut [0, 2, 3, 10, 11, 12, 17, 18, 19, 39, 45] c19z30)
def c19z26 : ICode := .seq (.ops (some (42, true)) [⟨(some 43), .p (.mv (.tmp 12))⟩,
    ⟨(some 44), .p (.bin .eql (.tmp 43) (.const (.int .i64 (3))))⟩])
 (.cut [0, 2, 3, 10, 11, 12, 17, 18, 19, 39, 42, 44] c19z28)
def c19z24 : ICode := .seq (.ops (some (39, false)) [⟨(some 40), .p (.mv (.tmp 10))⟩,
    ⟨(some 41), .p (.bin .eql (.tmp 40) (.const (.int .i64 (2))))⟩,
    ⟨(some 42), .p (.mv (.tmp 41))⟩])
 (.cut [0, 2, 3, 10, 11, 12, 17, 18, 19, 39, 42] c19z26)
def c19z22 : ICode := .cond (.tmp 46) (.seq (.ops none [⟨(some 47), .p (.mv (.tmp 12))⟩,
     ⟨(some 8), .p (.mv (.tmp 47))⟩])
  (.ret))
 (.skip)
def c19z19 : ICode := .ops none [⟨(some 27), .p (.mv (.tmp 11))⟩,
   ⟨(some 28), .p (.bin .add (.tmp 27) (.const (.int .i64 (1))))⟩,
   ⟨(some 11), .p (.mv (.tmp 28))⟩]
def c19z16 : ICode := .seq (.seq (.ops none [⟨(some 23), .p (.mv (.tmp 11))⟩,
     ⟨(some 24), .p (.mv (.tmp 3))⟩,
     ⟨(some 25), .p (.lenSl (.tmp 24))⟩,
     ⟨(some 26), .p (.bin .lss (.tmp 23) (.tmp 25))⟩])
  (.cond (.tmp 26) (.skip)
  (.exit 2)))
 (.seq (.block 3 (.seq (.ops none [⟨(some 29), .p (.mv (.tmp 0))⟩,
      ⟨(some 30), .p (.mv (.tmp 3))⟩,
      ⟨(some 31), .p (.mv (.tmp 11))⟩,
      ⟨(some 32), .p (.adrSl 1 (.tmp 30) (.tmp 31))⟩,
      ⟨(some 33), .l (.load false 1 (.tmp 32))⟩,
      ⟨(some 34), .p (.mv (.tmp 2))⟩,
      ⟨(some 35), .call 58 [(.tmp 29), (.tmp 33), (.tmp 34)]⟩,
      ⟨(some 12), .p (.mv (.tmp 35))⟩])
   (.seq (.seq (.ops none [⟨(some 36), .p (.mv (.tmp 12))⟩,
       ⟨(some 37), .p (.mv (.tmp 10))⟩,
       ⟨(some 38), .p (.bin .eql (.tmp 36) (.tmp 37))⟩,
       ⟨(some 39), .p (.mv (.tmp 38))⟩])
    (.cut [0, 2, 3, 10, 11, 12, 17, 18, 19, 39] c19z24)) c19z22))) c19z19)
def c19z32 : ICode := .ops none [⟨(some 48), .p (.bin .add (.tmp 19) (.const (.int .i64 (1))))⟩,
   ⟨(some 19), .p (.mv (.tmp 48))⟩]
def c19z11 : ICode := .cut [0, 2, 3, 17, 18, 19] c19z32
def c19z8 : ICode := .seq (.ops none [⟨(some 20), .p (.bin .lss (.tmp 19) (.tmp 18))⟩])
 (.seq (.cond (.tmp 20) (.skip)
  (.exit 0))
 (.seq (.block 1 (.seq (.ops none [⟨(some 21), .p (.adrSl 1 (.tmp 17) (.tmp 19))⟩,
      ⟨(some 22), .l (.load false 1 (.tmp 21))⟩,
      ⟨(some 10), .p (.mv (.tmp 22))⟩])
   (.seq (.ops none [⟨(some 11), .p (.mv (.const (.int .i64 (0))))⟩])
   (.block 2 (.loop [0, 2, 3, 10, 17, 18, 19] [11] c19z16))))) c19z11))
def c19z5 : ICode := .seq (.ops none [⟨(some 8), .p (.mv (.const (.int .i64 (0))))⟩])
 (.ret)
def c19 : ICode := .seq (.ops none [⟨(some 8), .p (.mv (.const (.int .i64 (0))))⟩])
 (.seq (.seq (.ops none [⟨(some 13), .p (.mv (.tmp 0))⟩,
     ⟨(some 14), .p (.mv (.tmp 1))⟩,
     ⟨(some 15), .call 24 [(.tmp 13), (.tmp 14)]⟩,
     ⟨(some 16), .p (.un .not (.tmp 15))⟩])
  (.cond (.tmp 16) (.seq (.ops none [⟨(some 8), .p (.mv (.const (.int .i64 (1))))⟩])
   (.ret))
  (.skip)))
 (.seq (.seq (.ops none [⟨(some 17), .e (.mkSl 28 2 [(.int .i64 (0))] [(0, 1, (.const (.int .i64 (3)))), (1, 1, (.const (.int .i64 (2))))])⟩,
     ⟨(some 18), .p (.lenSl (.tmp 17))⟩,
     ⟨(some 19), .p (.mv (.const (.int .i64 (0))))⟩])
  (.block 0 (.loop [0, 2, 3, 17, 18] [19] c19z8))) c19z5))
theorem k19 : compFn Try.prog 19 [[], [], [], [], [], [0, 2, 3, 17, 18], [19], [], [], [], [], [0, 2, 3, 10, 17, 18, 19], [11], [], [], [], [0, 2, 3, 10, 11, 12, 17, 18, 19, 39], [0, 2, 3, 10, 11, 12, 17, 18, 19, 39, 42], [0, 2, 3, 10, 11, 12, 17, 18, 19, 39, 42, 44], [0, 2, 3, 10, 11, 12, 17, 18, 19, 39, 45], [], [], [], [0, 2, 3, 17, 18, 19], [], []] = some (49, c19, [.tmp 8]) := by kernel_rfl
def K19z0 (_P : Program) (K : Value → Heap → Prop) : Exit → (Nat → Value) → Heap → Prop := bodyP [.tmp 8] K
def K19z5 (P : Program) (K : Value → Heap → Prop) : Exit → (Nat → Value) → Heap → Prop := thenK (iwpP P c19z5 (K19z0 P K)) (K19z0 P K)
def K19z7 (P : Program) (K : Value → Heap → Prop) : Exit → (Nat → Value) → Heap → Prop := inBlockK 0 (K19z5 P K)
def K19z8 (P : Program) (K : Value → Heap → Prop) (k0 most2 l3 x17 x18 : Value) (L1 : List Value → Heap → Prop) : Exit → (Nat → Value) → Heap → Prop := thenK (fun f' h'' => (([0, 2, 3, 17, 18] : List Nat).map f' : List Value) = [k0, most2, l3, x17, x18] ∧ L1 (([19] : List Nat).map f') h'') (K19z7 P K)
def K19z11 (P : Program) (K : Value → Heap → Prop) (k0 most2 l3 x17 x18 : Value) (L1 : List Value → Heap → Prop) : Exit → (Nat → Value) → Heap → Prop := thenK (iwpP P c19z11 (K19z8 P K k0 most2 l3 x17 x18 L1)) (K19z8 P K k0 most2 l3 x17 x18 L1)
def K19z12 (P : Program) (K : Value → Heap → Prop) (k0 most2 l3 x17 x18 : Value) (L1 : List Value → Heap → Prop) : Exit → (Nat → Value) → Heap → Prop := inBlockK 1 (K19z11 P K k0 most2 l3 x17 x18 L1)
def K19z15 (P : Program) (K : Value → Heap → Prop) (k0 most2 l3 x17 x18 : Value) (L1 : List Value → Heap → Prop) : Exit → (Nat → Value) → Heap → Prop := inBlockK 2 (K19z12 P K k0 most2 l3 x17 x18 L1)
def K19z16 (P : Program) (K : Value → Heap → Prop) (k0 most2 l3 bad10 x17 x18 x19 : Value) (L1 L2 : List Value → Heap → Prop) : Exit → (Nat → Value) → Heap → Prop := thenK (fun f' h'' => (([0, 2, 3, 10, 17, 18, 19] : List Nat).map f' : List Value) = [k0, most2, l3, bad10, x17, x18, x19] ∧ L2 (([11] : List Nat).map f') h'') (K19z15 P K k0 most2 l3 x17 x18 L1)
def K19z19 (P : Program) (K : Value → Heap → Prop) (k0 most2 l3 bad10 x17 x18 x19 : Value) (L1 L2 : List Value → Heap → Prop) : Exit → (Nat → Value) → Heap → Prop := thenK (iwpP P c19z19 (K19z16 P K k0 most2 l3 bad10 x17 x18 x19 L1 L2)) (K19z16 P K k0 most2 l3 bad10 x17 x18 x19 L1 L2)
def K19z20 (P : Program) (K : Value → Heap → Prop) (k0 most2 l3 bad10 x17 x18 x19 : Value) (L1 L2 : List Value → Heap → Prop) : Exit → (Nat → Value) → Heap → Prop := inBlockK 3 (K19z19 P K k0 most2 l3 bad10 x17 x18 x19 L1 L2)
def K19z22 (P : Program) (K : Value → Heap → Prop) (k0 most2 l3 bad10 x17 x18 x19 : Value) (L1 L2 : List Value → Heap → Prop) : Exit → (Nat → Value) → Heap → Prop := thenK (iwpP P c19z22 (K19z20 P K k0 most2 l3 bad10 x17 x18 x19 L1 L2)) (K19z20 P K k0 most2 l3 bad10 x17 x18 x19 L1 L2)
def p19z8 (P : Program) (K : Value → Heap → Prop) (k0 most2 l3 x17 x18 : Value) (L1 : List Value → Heap → Prop) (xs : List Value) (h : Heap) : Prop := CutP (iwpP P c19z8 (K19z8 P K k0 most2 l3 x17 x18 L1)) ([0, 2, 3, 17, 18] ++ [19]) ([k0, most2, l3, x17, x18] ++ xs) h
def p19z16 (P : Program) (K : Value → Heap → Prop) (k0 most2 l3 bad10 x17 x18 x19 : Value) (L1 L2 : List Value → Heap → Prop) (xs : List Value) (h : Heap) : Prop := CutP (iwpP P c19z16 (K19z16 P K k0 most2 l3 bad10 x17 x18 x19 L1 L2)) ([0, 2, 3, 10, 17, 18, 19] ++ [11]) ([k0, most2, l3, bad10, x17, x18, x19] ++ xs) h
def p19z24 (P : Program) (K : Value → Heap → Prop) (k0 most2 l3 bad10 i11 e12 x17 x18 x19 x39 : Value) (L1 L2 : List Value → Heap → Prop) (h : Heap) : Prop := CutP (iwpP P c19z24 (K19z22 P K k0 most2 l3 bad10 x17 x18 x19 L1 L2)) [0, 2, 3, 10, 11, 12, 17, 18, 19, 39] [k0, most2, l3, bad10, i11, e12, x17, x18, x19, x39] h
def p19z26 (P : Program) (K : Value → Heap → Prop) (k0 most2 l3 bad10 i11 e12 x17 x18 x19 x39 x42 : Value) (L1 L2 : List Value → Heap → Prop) (h : Heap) : Prop := CutP (iwpP P c19z26 (K19z22 P K k0 most2 l3 bad10 x17 x18 x19 L1 L2)) [0, 2, 3, 10, 11, 12, 17, 18, 19, 39, 42] [k0, most2, l3, bad10, i11, e12, x17, x18, x19, x39, x42] h
def p19z28 (P : Program) (K : Value → Heap → Prop) (k0 most2 l3 bad10 i11 e12 x17 x18 x19 x39 x42 x44 : Value) (L1 L2 : List Value → Heap → Prop) (h : Heap) : Prop := CutP (iwpP P c19z28 (K19z22 P K k0 most2 l3 bad10 x17 x18 x19 L1 L2)) [0, 2, 3, 10, 11, 12, 17, 18, 19, 39, 42, 44] [k0, most2, l3, bad10, i11, e12, x17, x18, x19, x39, x42, x44] h
def p19z30 (P : Program) (K : Value → Heap → Prop) (k0 most2 l3 bad10 i11 e12 x17 x18 x19 x39 x45 : Value) (L1 L2 : List Value → Heap → Prop) (h : Heap) : Prop := CutP (iwpP P c19z30 (K19z22 P K k0 most2 l3 bad10 x17 x18 x19 L1 L2)) [0, 2, 3, 10, 11, 12, 17, 18, 19, 39, 45] [k0, most2, l3, bad10, i11, e12, x17, x18, x19, x39, x45] h
def p19z32 (P : Program) (K : Value → Heap → Prop) (k0 most2 l3 x17 x18 x19 : Value) (L1 : List Value → Heap → Prop) (h : Heap) : Prop := CutP (iwpP P c19z32 (K19z8 P K k0 most2 l3 x17 x18 L1)) [0, 2, 3, 17, 18, 19] [k0, most2, l3, x17, x18, x19] h
theorem q19z30 (P : Program) (K : Value → Heap → Prop) (k0 most2 l3 bad10 i11 e12 x17 x18 x19 x39 x45 : Value) (L1 L2 : List Value → Heap → Prop) (h : Heap) : p19z30 P K k0 most2 l3 bad10 i11 e12 x17 x18 x19 x39 x45 L1 L2 h =
  (OP (iPick x39 (.bool true) x45) fun x46 =>
  IfP x46
    (K e12 h)
    (OP (iBin .add i11 (.int .i64 (1))) fun x28 =>
    ([k0, most2, l3, bad10, x17, x18, x19] : List Value) = [k0, most2, l3, bad10, x17, x18, x19] ∧ L2 [x28] h)) := (CutP_def _ _ _ _).trans (by kernel_rfl)
theorem q19z28 (P : Program) (K : Value → Heap → Prop) (k0 most2 l3 bad10 i11 e12 x17 x18 x19 x39 x42 x44 : Value) (L1 L2 : List Value → Heap → Prop) (h : Heap) : p19z28 P K k0 most2 l3 bad10 i11 e12 x17 x18 x19 x39 x42 x44 L1 L2 h =
  (GdP x39 false
    (OP (iPick x42 x44 (.bool false)) fun x45 =>
    p19z30 P K k0 most2 l3 bad10 i11 e12 x17 x18 x19 x39 x45 L1 L2 h)
    (p19z30 P K k0 most2 l3 bad10 i11 e12 x17 x18 x19 x39 undef L1 L2 h)) := (CutP_def _ _ _ _).trans (by kernel_rfl)
theorem q19z26 (P : Program) (K : Value → Heap → Prop) (k0 most2 l3 bad10 i11 e12 x17 x18 x19 x39 x42 : Value) (L1 L2 : List Value → Heap → Prop) (h : Heap) : p19z26 P K k0 most2 l3 bad10 i11 e12 x17 x18 x19 x39 x42 L1 L2 h =
  (GdP x42 true
    (OP (iBin .eql e12 (.int .i64 (3))) fun x44 =>
    p19z28 P K k0 most2 l3 bad10 i11 e12 x17 x18 x19 x39 x42 x44 L1 L2 h)
    (p19z28 P K k0 most2 l3 bad10 i11 e12 x17 x18 x19 x39 x42 undef L1 L2 h)) := (CutP_def _ _ _ _).trans (by kernel_rfl)
theorem q19z24 (P : Program) (K : Value → Heap → Prop) (k0 most2 l3 bad10 i11 e12 x17 x18 x19 x39 : Value) (L1 L2 : List Value → Heap → Prop) (h : Heap) : p19z24 P K k0 most2 l3 bad10 i11 e12 x17 x18 x19 x39 L1 L2 h =
  (GdP x39 false
    (OP (iBin .eql bad10 (.int .i64 (2))) fun x41 =>
    p19z26 P K k0 most2 l3 bad10 i11 e12 x17 x18 x19 x39 x41 L1 L2 h)
    (p19z26 P K k0 most2 l3 bad10 i11 e12 x17 x18 x19 x39 undef L1 L2 h)) := (CutP_def _ _ _ _).trans (by kernel_rfl)
theorem q19z16 (P : Program) (K : Value → Heap → Prop) (k0 most2 l3 bad10 x17 x18 x19 : Value) (L1 L2 : List Value → Heap → Prop) (i11 : Value) (h : Heap) : p19z16 P K k0 most2 l3 bad10 x17 x18 x19 L1 L2 [i11] h =
  (OP (iLenSl l3) fun x25 =>
  OP (iBin .lss i11 x25) fun x26 =>
  IfP x26
    (OP (iAdrSl 1 l3 i11) fun x32 =>
    OP (iLoad false 1 h x32) fun x33 =>
    CallP P 58 [k0, x33, most2] h fun x35 h_1 =>
    OP (iBin .eql x35 bad10) fun x38 =>
    p19z24 P K k0 most2 l3 bad10 i11 x35 x17 x18 x19 x38 L1 L2 h_1)
    (p19z32 P K k0 most2 l3 x17 x18 x19 L1 h)) := (CutP_def _ _ _ _).trans (by kernel_rfl)
theorem q19z32 (P : Program) (K : Value → Heap → Prop) (k0 most2 l3 x17 x18 x19 : Value) (L1 : List Value → Heap → Prop) (h : Heap) : p19z32 P K k0 most2 l3 x17 x18 x19 L1 h =
  (OP (iBin .add x19 (.int .i64 (1))) fun x48 =>
  ([k0, most2, l3, x17, x18] : List Value) = [k0, most2, l3, x17, x18] ∧ L1 [x48] h) := (CutP_def _ _ _ _).trans (by kernel_rfl)
theorem q19z8 (P : Program) (K : Value → Heap → Prop) (k0 most2 l3 x17 x18 : Value) (L1 : List Value → Heap → Prop) (x19 : Value) (h : Heap) : p19z8 P K k0 most2 l3 x17 x18 L1 [x19] h =
  (OP (iBin .lss x19 x18) fun x20 =>
  IfP x20
    (OP (iAdrSl 1 x17 x19) fun x21 =>
    OP (iLoad false 1 h x21) fun x22 =>
    LoopP [(.int .i64 (0))] h fun L2 xs hx =>
    p19z16 P K k0 most2 l3 x22 x17 x18 x19 L1 L2 xs hx)
    (K (.int .i64 (0)) h)) := (CutP_def _ _ _ _).trans (by kernel_rfl)
def T19 (P : Program) (K : Value → Heap → Prop) (k0 p1 most2 l3 : Value) (h : Heap) : Prop :=
  CallP P 24 [k0, p1] h fun x15 h_1 =>
  OP (iUn .not x15) fun x16 =>
  IfP x16
    (K (.int .i64 (1)) h_1)
    (OH (iMkSl 28 2 [(.int .i64 (0))] h_1 [(0, 1, (.int .i64 (3))), (1, 1, (.int .i64 (2)))]) fun x17 h_2 =>
    OP (iLenSl x17) fun x18 =>
    LoopP [(.int .i64 (0))] h_2 fun L1 xs hx =>
    p19z8 P K k0 most2 l3 x17 x18 L1 xs hx)
theorem e19 (P : Program) (K : Value → Heap → Prop) (k0 p1 most2 l3 : Value) (h : Heap) : iwpP P c19 (bodyP [.tmp 8] K) (frame0 [k0, p1, most2, l3]) h = T19 P K k0 p1 most2 l3 h := by kernel_rfl
theorem f19 {K : Value → Heap → Prop} {k0 p1 most2 l3 : Value} {h : Heap} (H : T19 Try.prog K k0 p1 most2 l3 h) : CallP Try.prog 19 [k0, p1, most2, l3] h K :=
  callP_intro k19 (Nat.le_of_ble_eq_true rfl) ((e19 Try.prog K k0 p1 most2 l3 h).mpr H)
/-! F21: pommel/pommelref03.Least -/
def c21z11 : ICode := .seq (.seq (.ops none [⟨(some 10), .p (.mv (.tmp 6))⟩,
     ⟨(some 11), .p (.bin .leq (.tmp 10) (.const (.int .u8 (102))))⟩])
  (.cond (.tmp 11) (.skip)
  (.exit 2)))
 (.seq (.block 3 (.seq (.ops none [⟨(some 14), .p (.mv (.tmp 0))⟩,
      ⟨(some 15), .p (.mv (.tmp 1))⟩,
      ⟨(some 16), .p (.mv (.tmp 6))⟩,
      ⟨(some 17), .call 59 [(.tmp 14), (.tmp 15), (.tmp 16)]⟩,
      ⟨(some 7), .p (.mv (.tmp 17))⟩])
   (.seq (.ops none [⟨(some 18), .p (.mv (.tmp 7))⟩,
      ⟨(some 19), .p (.bin .geq (.tmp 18) (.const (.int .i64 (0))))⟩])
   (.cond (.tmp 19) (.seq (.dops [(none, [⟨(some 20), .p (.mv (.tmp 5)), 0⟩,
       ⟨(some 21), .p (.mv (.tmp 1)), 0⟩,
       ⟨(some 22), .p (.mv (.tmp 7)), 0⟩,
       ⟨(some 23), .p (.mv (.tmp 7)), 0⟩,
       ⟨(some 24), .p (.bin .add (.tmp 23) (.const (.int .i64 (1)))), 8⟩,
       ⟨(some 25), .p (.slS (.tmp 21) (some (.tmp 22)) (some (.tmp 24))), 30⟩,
       ⟨(some 26), .p (.bin .add (.tmp 20) (.tmp 25)), 63⟩,
       ⟨(some 27), .p (.mv (.tmp 1)), 0⟩,
       ⟨(some 28), .p (.mv (.tmp 7)), 0⟩,
       ⟨(some 29), .call 60 [(.tmp 27), (.tmp 28)], 384⟩,
       ⟨(some 5), .p (.mv (.tmp 26)), 1023⟩,
       ⟨(some 1), .p (.mv (.tmp 29)), 2047⟩])])
    (.exit 2))
   (.skip)))))
 (.ops none [⟨(some 12), .p (.mv (.tmp 6))⟩,
   ⟨(some 13), .p (.bin .add (.tmp 12) (.const (.int .u8 (1))))⟩,
   ⟨(some 6), .p (.mv (.tmp 13))⟩]))
def c21z5 : ICode := .seq (.seq (.ops none [⟨(some 8), .p (.mv (.tmp 1))⟩,
     ⟨(some 9), .p (.bin .neq (.tmp 8) (.const (.string ⟨#[]⟩)))⟩])
  (.cond (.tmp 9) (.skip)
  (.exit 0)))
 (.block 1 (.seq (.ops none [⟨(some 6), .p (.mv (.const (.int .u8 (97))))⟩])
  (.block 2 (.loop [0] [1, 5, 6] c21z11))))
def c21z19 : ICode := .seq (.ops none [⟨(some 30), .p (.mv (.tmp 5))⟩,
    ⟨(some 4), .p (.mv (.tmp 30))⟩])
 (.ret)
def c21z3 : ICode := .cut [5] c21z19
def c21 : ICode := .seq (.ops none [⟨(some 4), .p (.mv (.const (.string ⟨#[]⟩)))⟩])
 (.seq (.ops none [⟨(some 5), .p (.mv (.const (.string ⟨#[]⟩)))⟩])
 (.seq (.block 0 (.loop [0] [1, 5] c21z5)) c21z3))
theorem k21 : compFn Try.prog 21 [[], [], [0], [1, 5], [], [], [], [0], [1, 5, 6], [], [], [], [], [], [], [5], []] = some (31, c21, [.tmp 4]) := by kernel_rfl
def K21z0 (_P : Program) (K : Value → Heap → Prop) : Exit → (Nat → Value) → Heap → Prop := bodyP [.tmp 4] K
def K21z3 (P : Program) (K : Value → Heap → Prop) : Exit → (Nat → Value) → Heap → Prop := thenK (iwpP P c21z3 (K21z0 P K)) (K21z0 P K)
def K21z4 (P : Program) (K : Value → Heap → Prop) : Exit → (Nat → Value) → Heap → Prop := inBlockK 0 (K21z3 P K)
def K21z5 (P : Program) (K : Value → Heap → Prop) (pairs0 : Value) (L1 : List Value → Heap → Prop) : Exit → (Nat → Value) → Heap → Prop := thenK (fun f' h'' => (([0] : List Nat).map f' : List Value) = [pairs0] ∧ L1 (([1, 5] : List Nat).map f') h'') (K21z4 P K)
def K21z8 (P : Program) (K : Value → Heap → Prop) (pairs0 : Value) (L1 : List Value → Heap → Prop) : Exit → (Nat → Value) → Heap → Prop := inBlockK 1 (K21z5 P K pairs0 L1)
def K21z10 (P : Program) (K : Value → Heap → Prop) (pairs0 : Value) (L1 : List Value → Heap → Prop) : Exit → (Nat → Value) → Heap → Prop := inBlockK 2 (K21z8 P K pairs0 L1)
def K21z11 (P : Program) (K : Value → Heap → Prop) (pairs0 : Value) (L1 L2 : List Value → Heap → Prop) : Exit → (Nat → Value) → Heap → Prop := thenK (fun f' h'' => (([0] : List Nat).map f' : List Value) = [pairs0] ∧ L2 (([1, 5, 6] : List Nat).map f') h'') (K21z10 P K pairs0 L1)
def p21z5 (P : Program) (K : Value → Heap → Prop) (pairs0 : Value) (L1 : List Value → Heap → Prop) (xs : List Value) (h : Heap) : Prop := CutP (iwpP P c21z5 (K21z5 P K pairs0 L1)) ([0] ++ [1, 5]) ([pairs0] ++ xs) h
def p21z11 (P : Program) (K : Value → Heap → Prop) (pairs0 : Value) (L1 L2 : List Value → Heap → Prop) (xs : List Value) (h : Heap) : Prop := CutP (iwpP P c21z11 (K21z11 P K pairs0 L1 L2)) ([0] ++ [1, 5, 6]) ([pairs0] ++ xs) h
def p21z19 (P : Program) (K : Value → Heap → Prop) (out5 : Value) (h : Heap) : Prop := CutP (iwpP P c21z19 (K21z0 P K)) [5] [out5] h
theorem q21z11 (P : Program) (K : Value → Heap → Prop) (pairs0 : Value) (L1 L2 : List Value → Heap → Prop) (s1 out5 x6 : Value) (h : Heap) : p21z11 P K pairs0 L1 L2 [s1, out5, x6] h =
  (OP (iBin .leq x6 (.int .u8 (102))) fun x11 =>
  IfP x11
    (CallP P 59 [pairs0, s1, x6] h fun x17 h_1 =>
    OP (iBin .geq x17 (.int .i64 (0))) fun x19 =>
    IfP x19
      (OP (iBin .add x17 (.int .i64 (1))) fun x24 =>
      OP (iSlS s1 (some x17) (some x24)) fun x25 =>
      OP (iBin .add out5 x25) fun x26 =>
      CallP P 60 [s1, x17] h_1 fun x29 h_2 =>
      (True) ∧
      ([pairs0] : List Value) = [pairs0] ∧ L1 [x29, x26] h_2)
      (OP (iBin .add x6 (.int .u8 (1))) fun x13 =>
      ([pairs0] : List Value) = [pairs0] ∧ L2 [s1, out5, x13] h_1))
    (([pairs0] : List Value) = [pairs0] ∧ L1 [s1, out5] h)) := (CutP_def _ _ _ _).trans (by kernel_rfl)
theorem q21z5 (P : Program) (K : Value → Heap → Prop) (pairs0 : Value) (L1 : List Value → Heap → Prop) (s1 out5 : Value) (h : Heap) : p21z5 P K pairs0 L1 [s1, out5] h =
  (OP (iBin .neq s1 (.string ⟨#[]⟩)) fun x9 =>
  IfP x9
    (LoopP [s1, out5, (.int .u8 (97))] h fun L2 xs hx =>
    p21z11 P K pairs0 L1 L2 xs hx)
    (p21z19 P K out5 h)) := (CutP_def _ _ _ _).trans (by kernel_rfl)
theorem q21z19 (P : Program) (K : Value → Heap → Prop) (out5 : Value) (h : Heap) : p21z19 P K out5 h =
  (K out5 h) := (CutP_def _ _ _ _).trans (by kernel_rfl)
def T21 (P : Program) (K : Value → Heap → Prop) (pairs0 s1 : Value) (h : Heap) : Prop :=
  LoopP [s1, (.string ⟨#[]⟩)] h fun L1 xs hx =>
  p21z5 P K pairs0 L1 xs hx
theorem e21 (P : Program) (K : Value → Heap → Prop) (pairs0 s1 : Value) (h : Heap) : iwpP P c21 (bodyP [.tmp 4] K) (frame0 [pairs0, s1]) h = T21 P K pairs0 s1 h := by kernel_rfl
theorem f21 {K : Value → Heap → Prop} {pairs0 s1 : Value} {h : Heap} (H : T21 Try.prog K pairs0 s1 h) : CallP Try.prog 21 [pairs0, s1] h K :=
  callP_intro k21 (Nat.le_of_ble_eq_true rfl) ((e21 Try.prog K pairs0 s1 h).mpr H)
/-! F24: pommel/pommelref03.Threads -/
def c24z5 : ICode := .seq (.seq (.ops none [⟨(some 6), .p (.mv (.tmp 5))⟩,
     ⟨(some 7), .p (.mv (.tmp 1))⟩,
     ⟨(some 8), .p (.lenSl (.tmp 7))⟩,
     ⟨(some 9), .p (.bin .lss (.tmp 6) (.tmp 8))⟩])
  (.cond (.tmp 9) (.skip)
  (.exit 0)))
 (.seq (.block 1 (.seq (.dops [(none, [⟨(some 12), .p (.mv (.tmp 1)), 0⟩,
      ⟨(some 13), .p (.mv (.tmp 5)), 0⟩,
      ⟨(some 14), .p (.adrSl 2 (.tmp 12) (.tmp 13)), 3⟩,
      ⟨(some 15), .p (.fadr 0 (.tmp 14)), 7⟩,
      ⟨(some 16), .l (.load false 1 (.tmp 15)), 15⟩,
      ⟨(some 17), .p (.mv (.tmp 0)), 0⟩,
      ⟨(some 18), .p (.bin .sub (.tmp 17) (.const (.int .i64 (1)))), 32⟩,
      ⟨(some 19), .call 69 [(.tmp 16), (.const (.int .i64 (0))), (.tmp 18)], 127⟩,
      ⟨(some 20), .p (.un .not (.tmp 19)), 255⟩,
      ⟨(some 21), .p (.mv (.tmp 20)), 511⟩]),
     ((some (21, false)), [⟨(some 22), .p (.mv (.tmp 1)), 1023⟩,
      ⟨(some 23), .p (.mv (.tmp 5)), 1023⟩,
      ⟨(some 24), .p (.adrSl 2 (.tmp 22) (.tmp 23)), 4095⟩,
      ⟨(some 25), .p (.fadr 1 (.tmp 24)), 8191⟩,
      ⟨(some 26), .l (.load false 1 (.tmp 25)), 16383⟩,
      ⟨(some 27), .p (.mv (.tmp 0)), 1023⟩,
      ⟨(some 28), .p (.bin .sub (.tmp 27) (.const (.int .i64 (1)))), 33791⟩,
      ⟨(some 29), .call 69 [(.tmp 26), (.const (.int .i64 (0))), (.tmp 28)], 131071⟩,
      ⟨(some 30), .p (.un .not (.tmp 29)), 262143⟩]),
     (none, [⟨(some 31), .p (.pick (.tmp 21) (.const (.bool true)) (.tmp 30)), 524287⟩,
      ⟨(some 32), .p (.mv (.tmp 31)), 1048575⟩]),
     ((some (32, false)), [⟨(some 33), .p (.mv (.tmp 1)), 2097151⟩,
      ⟨(some 34), .p (.mv (.tmp 5)), 2097151⟩,
      ⟨(some 35), .p (.adrSl 2 (.tmp 33) (.tmp 34)), 8388607⟩,
      ⟨(some 36), .p (.fadr 0 (.tmp 35)), 16777215⟩,
      ⟨(some 37), .l (.load false 1 (.tmp 36)), 33554431⟩,
      ⟨(some 38), .p (.mv (.tmp 1)), 2097151⟩,
      ⟨(some 39), .p (.mv (.tmp 5)), 2097151⟩,
      ⟨(some 40), .p (.adrSl 2 (.tmp 38) (.tmp 39)), 203423743⟩,
      ⟨(some 41), .p (.fadr 1 (.tmp 40)), 471859199⟩,
      ⟨(some 42), .l (.load false 1 (.tmp 41)), 1008730111⟩,
      ⟨(some 43), .p (.bin .eql (.tmp 37) (.tmp 42)), 2147483647⟩]),
     (none, [⟨(some 44), .p (.pick (.tmp 32) (.const (.bool true)) (.tmp 43)), 4294967295⟩])])
   (.cond (.tmp 44) (.seq (.ops none [⟨(some 4), .p (.mv (.const (.bool false)))⟩])
    (.ret))
   (.skip))))
 (.ops none [⟨(some 10), .p (.mv (.tmp 5))⟩,
   ⟨(some 11), .p (.bin .add (.tmp 10) (.const (.int .i64 (1))))⟩,
   ⟨(some 5), .p (.mv (.tmp 11))⟩]))
def c24z17 : ICode := .ops none [⟨(some 51), .p (.pick (.tmp 47) (.tmp 50) (.const (.bool false)))⟩,
   ⟨(some 4), .p (.mv (.tmp 51))⟩]
def c24z15 : ICode := .seq (.ops (some (47, true)) [⟨(some 48), .p (.mv (.tmp 1))⟩,
    ⟨(some 49), .p (.lenSl (.tmp 48))⟩,
    ⟨(some 50), .p (.bin .leq (.tmp 49) (.const (.int .i64 (30))))⟩])
 (.cut [47, 50] c24z17)
def c24z13 : ICode := .ret
def c24z12 : ICode := .seq (.seq (.ops none [⟨(some 45), .p (.mv (.tmp 0))⟩,
     ⟨(some 46), .call 69 [(.tmp 45), (.const (.int .i64 (1))), (.const (.int .i64 (6)))]⟩,
     ⟨(some 47), .p (.mv (.tmp 46))⟩])
  (.cut [1, 47] c24z15)) c24z13
def c24z2 : ICode := .cut [0, 1] c24z12
def c24 : ICode := .seq (.ops none [⟨(some 4), .p (.mv (.const (.bool false)))⟩])
 (.seq (.seq (.ops none [⟨(some 5), .p (.mv (.const (.int .i64 (0))))⟩])
  (.block 0 (.loop [0, 1] [5] c24z5))) c24z2)
theorem k24 : compFn Try.prog 24 [[], [], [0, 1], [5], [], [], [], [], [], [0, 1], [1, 47], [47, 50], []] = some (52, c24, [.tmp 4]) := by kernel_rfl
def K24z0 (_P : Program) (K : Value → Heap → Prop) : Exit → (Nat → Value) → Heap → Prop := bodyP [.tmp 4] K
def K24z2 (P : Program) (K : Value → Heap → Prop) : Exit → (Nat → Value) → Heap → Prop := thenK (iwpP P c24z2 (K24z0 P K)) (K24z0 P K)
def K24z4 (P : Program) (K : Value → Heap → Prop) : Exit → (Nat → Value) → Heap → Prop := inBlockK 0 (K24z2 P K)
def K24z5 (P : Program) (K : Value → Heap → Prop) (k0 pairs1 : Value) (L1 : List Value → Heap → Prop) : Exit → (Nat → Value) → Heap → Prop := thenK (fun f' h'' => (([0, 1] : List Nat).map f' : List Value) = [k0, pairs1] ∧ L1 (([5] : List Nat).map f') h'') (K24z4 P K)
def K24z13 (P : Program) (K : Value → Heap → Prop) : Exit → (Nat → Value) → Heap → Prop := thenK (iwpP P c24z13 (K24z0 P K)) (K24z0 P K)
def p24z5 (P : Program) (K : Value → Heap → Prop) (k0 pairs1 : Value) (L1 : List Value → Heap → Prop) (xs : List Value) (h : Heap) : Prop := CutP (iwpP P c24z5 (K24z5 P K k0 pairs1 L1)) ([0, 1] ++ [5]) ([k0, pairs1] ++ xs) h
def p24z12 (P : Program) (K : Value → Heap → Prop) (k0 pairs1 : Value) (h : Heap) : Prop := CutP (iwpP P c24z12 (K24z0 P K)) [0, 1] [k0, pairs1] h
def p24z15 (P : Program) (K : Value → Heap → Prop) (pairs1 x47 : Value) (h : Heap) : Prop := CutP (iwpP P c24z15 (K24z13 P K)) [1, 47] [pairs1, x47] h
def p24z17 (P : Program) (K : Value → Heap → Prop) (x47 x50 : Value) (h : Heap) : Prop := CutP (iwpP P c24z17 (K24z13 P K)) [47, 50] [x47, x50] h
theorem q24z5 (P : Program) (K : Value → Heap → Prop) (k0 pairs1 : Value) (L1 : List Value → Heap → Prop) (i5 : Value) (h : Heap) : p24z5 P K k0 pairs1 L1 [i5] h =
  (OP (iLenSl pairs1) fun x8 =>
  OP (iBin .lss i5 x8) fun x9 =>
  IfP x9
    (OP (iAdrSl 2 pairs1 i5) fun x14 =>
    OP (iFadr 0 x14) fun x15 =>
    OP (iLoad false 1 h x15) fun x16 =>
    (True) ∧
    OP (iBin .sub k0 (.int .i64 (1))) fun x18 =>
    CallP P 69 [x16, (.int .i64 (0)), x18] h fun x19 h_1 =>
    (True) ∧
    OP (iUn .not x19) fun x20 =>
    GdP x20 false
      (OP (iAdrSl 2 pairs1 i5) fun x24 =>
      OP (iFadr 1 x24) fun x25 =>
      OP (iLoad false 1 h_1 x25) fun x26 =>
      (True) ∧
      OP (iBin .sub k0 (.int .i64 (1))) fun x28 =>
      CallP P 69 [x26, (.int .i64 (0)), x28] h_1 fun x29 h_2 =>
      (True) ∧
      OP (iUn .not x29) fun x30 =>
      OP (iPick x20 (.bool true) x30) fun x31 =>
      GdP x31 false
        (OP (iAdrSl 2 pairs1 i5) fun x35 =>
        OP (iFadr 0 x35) fun x36 =>
        OP (iLoad false 1 h_2 x36) fun x37 =>
        (True) ∧
        OP (iAdrSl 2 pairs1 i5) fun x40 =>
        OP (iFadr 1 x40) fun x41 =>
        OP (iLoad false 1 h_2 x41) fun x42 =>
        (True) ∧
        OP (iBin .eql x37 x42) fun x43 =>
        OP (iPick x31 (.bool true) x43) fun x44 =>
        IfP x44
          (K (.bool false) h_2)
          (OP (iBin .add i5 (.int .i64 (1))) fun x11 =>
          ([k0, pairs1] : List Value) = [k0, pairs1] ∧ L1 [x11] h_2))
        (OP (iPick x31 (.bool true) undef) fun x44 =>
        IfP x44
          (K (.bool false) h_2)
          (OP (iBin .add i5 (.int .i64 (1))) fun x11 =>
          ([k0, pairs1] : List Value) = [k0, pairs1] ∧ L1 [x11] h_2)))
      ((True) ∧
      OP (iPick x20 (.bool true) undef) fun x31 =>
      GdP x31 false
        (OP (iAdrSl 2 pairs1 i5) fun x35 =>
        OP (iFadr 0 x35) fun x36 =>
        OP (iLoad false 1 h_1 x36) fun x37 =>
        (True) ∧
        OP (iAdrSl 2 pairs1 i5) fun x40 =>
        OP (iFadr 1 x40) fun x41 =>
        OP (iLoad false 1 h_1 x41) fun x42 =>
        (True) ∧
        OP (iBin .eql x37 x42) fun x43 =>
        OP (iPick x31 (.bool true) x43) fun x44 =>
        IfP x44
          (K (.bool false) h_1)
          (OP (iBin .add i5 (.int .i64 (1))) fun x11 =>
          ([k0, pairs1] : List Value) = [k0, pairs1] ∧ L1 [x11] h_1))
        (OP (iPick x31 (.bool true) undef) fun x44 =>
        IfP x44
          (K (.bool false) h_1)
          (OP (iBin .add i5 (.int .i64 (1))) fun x11 =>
          ([k0, pairs1] : List Value) = [k0, pairs1] ∧ L1 [x11] h_1))))
    (p24z12 P K k0 pairs1 h)) := (CutP_def _ _ _ _).trans (by kernel_rfl)
theorem q24z17 (P : Program) (K : Value → Heap → Prop) (x47 x50 : Value) (h : Heap) : p24z17 P K x47 x50 h =
  (OP (iPick x47 x50 (.bool false)) fun x51 =>
  K x51 h) := (CutP_def _ _ _ _).trans (by kernel_rfl)
theorem q24z15 (P : Program) (K : Value → Heap → Prop) (pairs1 x47 : Value) (h : Heap) : p24z15 P K pairs1 x47 h =
  (GdP x47 true
    (OP (iLenSl pairs1) fun x49 =>
    OP (iBin .leq x49 (.int .i64 (30))) fun x50 =>
    p24z17 P K x47 x50 h)
    (p24z17 P K x47 undef h)) := (CutP_def _ _ _ _).trans (by kernel_rfl)
theorem q24z12 (P : Program) (K : Value → Heap → Prop) (k0 pairs1 : Value) (h : Heap) : p24z12 P K k0 pairs1 h =
  (CallP P 69 [k0, (.int .i64 (1)), (.int .i64 (6))] h fun x46 h_1 =>
  p24z15 P K pairs1 x46 h_1) := (CutP_def _ _ _ _).trans (by kernel_rfl)
def T24 (P : Program) (K : Value → Heap → Prop) (k0 pairs1 : Value) (h : Heap) : Prop :=
  LoopP [(.int .i64 (0))] h fun L1 xs hx =>
  p24z5 P K k0 pairs1 L1 xs hx
theorem e24 (P : Program) (K : Value → Heap → Prop) (k0 pairs1 : Value) (h : Heap) : iwpP P c24 (bodyP [.tmp 4] K) (frame0 [k0, pairs1]) h = T24 P K k0 pairs1 h := by kernel_rfl
theorem f24 {K : Value → Heap → Prop} {k0 pairs1 : Value} {h : Heap} (H : T24 Try.prog K k0 pairs1 h) : CallP Try.prog 24 [k0, pairs1] h K :=
  callP_intro k24 (Nat.le_of_ble_eq_true rfl) ((e24 Try.prog K k0 pairs1 h).mpr H)
/-! F33: pommel/pommelref03.Free -/
def c33z23 : ICode := .ops none [⟨(some 47), .p (.pick (.tmp 38) (.const (.bool true)) (.tmp 46))⟩]
def c33z21 : ICode := .seq (.ops (some (38, false)) [⟨(some 46), .p (.pick (.tmp 42) (.tmp 45) (.const (.bool false)))⟩])
 (.cut [0, 1, 2, 7, 38, 46] c33z23)
def c33z19 : ICode := .seq (.ops (some (42, true)) [⟨(some 43), .p (.mv (.tmp 9))⟩,
    ⟨(some 44), .p (.mv (.tmp 1))⟩,
    ⟨(some 45), .p (.bin .eql (.tmp 43) (.tmp 44))⟩])
 (.cut [0, 1, 2, 7, 38, 42, 45] c33z21)
def c33z17 : ICode := .seq (.ops (some (38, false)) [⟨(some 39), .p (.mv (.tmp 8))⟩,
    ⟨(some 40), .p (.mv (.tmp 2))⟩,
    ⟨(some 41), .p (.bin .eql (.tmp 39) (.tmp 40))⟩,
    ⟨(some 42), .p (.mv (.tmp 41))⟩])
 (.cut [0, 1, 2, 7, 9, 38, 42] c33z19)
def c33z15 : ICode := .seq (.ops none [⟨(some 37), .p (.pick (.tmp 33) (.tmp 36) (.const (.bool false)))⟩,
    ⟨(some 38), .p (.mv (.tmp 37))⟩])
 (.cut [0, 1, 2, 7, 8, 9, 38] c33z17)
def c33z13 : ICode := .seq (.ops (some (33, true)) [⟨(some 34), .p (.mv (.tmp 9))⟩,
    ⟨(some 35), .p (.mv (.tmp 2))⟩,
    ⟨(some 36), .p (.bin .eql (.tmp 34) (.tmp 35))⟩])
 (.cut [0, 1, 2, 7, 8, 9, 33, 36] c33z15)
def c33z11 : ICode := .cond (.tmp 47) (.seq (.ops none [⟨(some 6), .p (.mv (.const (.bool true)))⟩])
  (.ret))
 (.skip)
def c33z8 : ICode := .ops none [⟨(some 14), .p (.mv (.tmp 7))⟩,
   ⟨(some 15), .p (.bin .add (.tmp 14) (.const (.int .i64 (1))))⟩,
   ⟨(some 7), .p (.mv (.tmp 15))⟩]
def c33z5 : ICode := .seq (.seq (.ops none [⟨(some 10), .p (.mv (.tmp 7))⟩,
     ⟨(some 11), .p (.mv (.tmp 0))⟩,
     ⟨(some 12), .p (.lenSl (.tmp 11))⟩,
     ⟨(some 13), .p (.bin .lss (.tmp 10) (.tmp 12))⟩])
  (.cond (.tmp 13) (.skip)
  (.exit 0)))
 (.seq (.block 1 (.seq (.dops [(none, [⟨(some 16), .p (.mv (.tmp 0)), 0⟩,
      ⟨(some 17), .p (.mv (.tmp 7)), 0⟩,
      ⟨(some 18), .p (.adrSl 2 (.tmp 16) (.tmp 17)), 3⟩,
      ⟨(some 19), .p (.fadr 0 (.tmp 18)), 7⟩,
      ⟨(some 20), .l (.load false 1 (.tmp 19)), 15⟩,
      ⟨(some 21), .p (.bin .add (.const (.int .i64 (97))) (.tmp 20)), 31⟩,
      ⟨(some 22), .p (.conv .u8 (.tmp 21)), 63⟩,
      ⟨(some 23), .p (.mv (.tmp 0)), 0⟩,
      ⟨(some 24), .p (.mv (.tmp 7)), 0⟩,
      ⟨(some 25), .p (.adrSl 2 (.tmp 23) (.tmp 24)), 384⟩,
      ⟨(some 26), .p (.fadr 1 (.tmp 25)), 896⟩,
      ⟨(some 27), .l (.load false 1 (.tmp 26)), 1920⟩,
      ⟨(some 28), .p (.bin .add (.const (.int .i64 (97))) (.tmp 27)), 3968⟩,
      ⟨(some 29), .p (.conv .u8 (.tmp 28)), 8064⟩,
      ⟨(some 8), .p (.mv (.tmp 22)), 127⟩,
      ⟨(some 9), .p (.mv (.tmp 29)), 32767⟩])])
   (.seq (.seq (.ops none [⟨(some 30), .p (.mv (.tmp 8))⟩,
       ⟨(some 31), .p (.mv (.tmp 1))⟩,
       ⟨(some 32), .p (.bin .eql (.tmp 30) (.tmp 31))⟩,
       ⟨(some 33), .p (.mv (.tmp 32))⟩])
    (.cut [0, 1, 2, 7, 8, 9, 33] c33z13)) c33z11))) c33z8)
def c33z2 : ICode := .seq (.ops none [⟨(some 6), .p (.mv (.const (.bool false)))⟩])
 (.ret)
def c33 : ICode := .seq (.ops none [⟨(some 6), .p (.mv (.const (.bool false)))⟩])
 (.seq (.seq (.ops none [⟨(some 7), .p (.mv (.const (.int .i64 (0))))⟩])
  (.block 0 (.loop [0, 1, 2] [7] c33z5))) c33z2)
theorem k33 : compFn Try.prog 33 [[], [], [0, 1, 2], [7], [], [], [], [0, 1, 2, 7, 8, 9, 33], [0, 1, 2, 7, 8, 9, 33, 36], [0, 1, 2, 7, 8, 9, 38], [0, 1, 2, 7, 9, 38, 42], [0, 1, 2, 7, 38, 42, 45], [0, 1, 2, 7, 38, 46], [], [], [], [], []] = some (48, c33, [.tmp 6]) := by kernel_rfl
def K33z0 (_P : Program) (K : Value → Heap → Prop) : Exit → (Nat → Value) → Heap → Prop := bodyP [.tmp 6] K
def K33z2 (P : Program) (K : Value → Heap → Prop) : Exit → (Nat → Value) → Heap → Prop := thenK (iwpP P c33z2 (K33z0 P K)) (K33z0 P K)
def K33z4 (P : Program) (K : Value → Heap → Prop) : Exit → (Nat → Value) → Heap → Prop := inBlockK 0 (K33z2 P K)
def K33z5 (P : Program) (K : Value → Heap → Prop) (pairs0 x1 y2 : Value) (L1 : List Value → Heap → Prop) : Exit → (Nat → Value) → Heap → Prop := thenK (fun f' h'' => (([0, 1, 2] : List Nat).map f' : List Value) = [pairs0, x1, y2] ∧ L1 (([7] : List Nat).map f') h'') (K33z4 P K)
def K33z8 (P : Program) (K : Value → Heap → Prop) (pairs0 x1 y2 : Value) (L1 : List Value → Heap → Prop) : Exit → (Nat → Value) → Heap → Prop := thenK (iwpP P c33z8 (K33z5 P K pairs0 x1 y2 L1)) (K33z5 P K pairs0 x1 y2 L1)
def K33z9 (P : Program) (K : Value → Heap → Prop) (pairs0 x1 y2 : Value) (L1 : List Value → Heap → Prop) : Exit → (Nat → Value) → Heap → Prop := inBlockK 1 (K33z8 P K pairs0 x1 y2 L1)
def K33z11 (P : Program) (K : Value → Heap → Prop) (pairs0 x1 y2 : Value) (L1 : List Value → Heap → Prop) : Exit → (Nat → Value) → Heap → Prop := thenK (iwpP P c33z11 (K33z9 P K pairs0 x1 y2 L1)) (K33z9 P K pairs0 x1 y2 L1)
def p33z5 (P : Program) (K : Value → Heap → Prop) (pairs0 x1 y2 : Value) (L1 : List Value → Heap → Prop) (xs : List Value) (h : Heap) : Prop := CutP (iwpP P c33z5 (K33z5 P K pairs0 x1 y2 L1)) ([0, 1, 2] ++ [7]) ([pairs0, x1, y2] ++ xs) h
def p33z13 (P : Program) (K : Value → Heap → Prop) (pairs0 x1 y2 i7 a8 c9 x33 : Value) (L1 : List Value → Heap → Prop) (h : Heap) : Prop := CutP (iwpP P c33z13 (K33z11 P K pairs0 x1 y2 L1)) [0, 1, 2, 7, 8, 9, 33] [pairs0, x1, y2, i7, a8, c9, x33] h
def p33z15 (P : Program) (K : Value → Heap → Prop) (pairs0 x1 y2 i7 a8 c9 x33 x36 : Value) (L1 : List Value → Heap → Prop) (h : Heap) : Prop := CutP (iwpP P c33z15 (K33z11 P K pairs0 x1 y2 L1)) [0, 1, 2, 7, 8, 9, 33, 36] [pairs0, x1, y2, i7, a8, c9, x33, x36] h
def p33z17 (P : Program) (K : Value → Heap → Prop) (pairs0 x1 y2 i7 a8 c9 x38 : Value) (L1 : List Value → Heap → Prop) (h : Heap) : Prop := CutP (iwpP P c33z17 (K33z11 P K pairs0 x1 y2 L1)) [0, 1, 2, 7, 8, 9, 38] [pairs0, x1, y2, i7, a8, c9, x38] h
def p33z19 (P : Program) (K : Value → Heap → Prop) (pairs0 x1 y2 i7 c9 x38 x42 : Value) (L1 : List Value → Heap → Prop) (h : Heap) : Prop := CutP (iwpP P c33z19 (K33z11 P K pairs0 x1 y2 L1)) [0, 1, 2, 7, 9, 38, 42] [pairs0, x1, y2, i7, c9, x38, x42] h
def p33z21 (P : Program) (K : Value → Heap → Prop) (pairs0 x1 y2 i7 x38 x42 x45 : Value) (L1 : List Value → Heap → Prop) (h : Heap) : Prop := CutP (iwpP P c33z21 (K33z11 P K pairs0 x1 y2 L1)) [0, 1, 2, 7, 38, 42, 45] [pairs0, x1, y2, i7, x38, x42, x45] h
def p33z23 (P : Program) (K : Value → Heap → Prop) (pairs0 x1 y2 i7 x38 x46 : Value) (L1 : List Value → Heap → Prop) (h : Heap) : Prop := CutP (iwpP P c33z23 (K33z11 P K pairs0 x1 y2 L1)) [0, 1, 2, 7, 38, 46] [pairs0, x1, y2, i7, x38, x46] h
theorem q33z23 (P : Program) (K : Value → Heap → Prop) (pairs0 x1 y2 i7 x38 x46 : Value) (L1 : List Value → Heap → Prop) (h : Heap) : p33z23 P K pairs0 x1 y2 i7 x38 x46 L1 h =
  (OP (iPick x38 (.bool true) x46) fun x47 =>
  IfP x47
    (K (.bool true) h)
    (OP (iBin .add i7 (.int .i64 (1))) fun x15 =>
    ([pairs0, x1, y2] : List Value) = [pairs0, x1, y2] ∧ L1 [x15] h)) := (CutP_def _ _ _ _).trans (by kernel_rfl)
theorem q33z21 (P : Program) (K : Value → Heap → Prop) (pairs0 x1 y2 i7 x38 x42 x45 : Value) (L1 : List Value → Heap → Prop) (h : Heap) : p33z21 P K pairs0 x1 y2 i7 x38 x42 x45 L1 h =
  (GdP x38 false
    (OP (iPick x42 x45 (.bool false)) fun x46 =>
    p33z23 P K pairs0 x1 y2 i7 x38 x46 L1 h)
    (p33z23 P K pairs0 x1 y2 i7 x38 undef L1 h)) := (CutP_def _ _ _ _).trans (by kernel_rfl)
theorem q33z19 (P : Program) (K : Value → Heap → Prop) (pairs0 x1 y2 i7 c9 x38 x42 : Value) (L1 : List Value → Heap → Prop) (h : Heap) : p33z19 P K pairs0 x1 y2 i7 c9 x38 x42 L1 h =
  (GdP x42 true
    (OP (iBin .eql c9 x1) fun x45 =>
    p33z21 P K pairs0 x1 y2 i7 x38 x42 x45 L1 h)
    (p33z21 P K pairs0 x1 y2 i7 x38 x42 undef L1 h)) := (CutP_def _ _ _ _).trans (by kernel_rfl)
theorem q33z17 (P : Program) (K : Value → Heap → Prop) (pairs0 x1 y2 i7 a8 c9 x38 : Value) (L1 : List Value → Heap → Prop) (h : Heap) : p33z17 P K pairs0 x1 y2 i7 a8 c9 x38 L1 h =
  (GdP x38 false
    (OP (iBin .eql a8 y2) fun x41 =>
    p33z19 P K pairs0 x1 y2 i7 c9 x38 x41 L1 h)
    (p33z19 P K pairs0 x1 y2 i7 c9 x38 undef L1 h)) := (CutP_def _ _ _ _).trans (by kernel_rfl)
theorem q33z15 (P : Program) (K : Value → Heap → Prop) (pairs0 x1 y2 i7 a8 c9 x33 x36 : Value) (L1 : List Value → Heap → Prop) (h : Heap) : p33z15 P K pairs0 x1 y2 i7 a8 c9 x33 x36 L1 h =
  (OP (iPick x33 x36 (.bool false)) fun x37 =>
  p33z17 P K pairs0 x1 y2 i7 a8 c9 x37 L1 h) := (CutP_def _ _ _ _).trans (by kernel_rfl)
theorem q33z13 (P : Program) (K : Value → Heap → Prop) (pairs0 x1 y2 i7 a8 c9 x33 : Value) (L1 : List Value → Heap → Prop) (h : Heap) : p33z13 P K pairs0 x1 y2 i7 a8 c9 x33 L1 h =
  (GdP x33 true
    (OP (iBin .eql c9 y2) fun x36 =>
    p33z15 P K pairs0 x1 y2 i7 a8 c9 x33 x36 L1 h)
    (p33z15 P K pairs0 x1 y2 i7 a8 c9 x33 undef L1 h)) := (CutP_def _ _ _ _).trans (by kernel_rfl)
theorem q33z5 (P : Program) (K : Value → Heap → Prop) (pairs0 x1 y2 : Value) (L1 : List Value → Heap → Prop) (i7 : Value) (h : Heap) : p33z5 P K pairs0 x1 y2 L1 [i7] h =
  (OP (iLenSl pairs0) fun x12 =>
  OP (iBin .lss i7 x12) fun x13 =>
  IfP x13
    (OP (iAdrSl 2 pairs0 i7) fun x18 =>
    OP (iFadr 0 x18) fun x19 =>
    OP (iLoad false 1 h x19) fun x20 =>
    (True) ∧
    OP (iBin .add (.int .i64 (97)) x20) fun x21 =>
    OP (iConv .u8 x21) fun x22 =>
    OP (iAdrSl 2 pairs0 i7) fun x25 =>
    OP (iFadr 1 x25) fun x26 =>
    OP (iLoad false 1 h x26) fun x27 =>
    (True) ∧
    OP (iBin .add (.int .i64 (97)) x27) fun x28 =>
    OP (iConv .u8 x28) fun x29 =>
    OP (iBin .eql x22 x1) fun x32 =>
    p33z13 P K pairs0 x1 y2 i7 x22 x29 x32 L1 h)
    (K (.bool false) h)) := (CutP_def _ _ _ _).trans (by kernel_rfl)
def T33 (P : Program) (K : Value → Heap → Prop) (pairs0 x1 y2 : Value) (h : Heap) : Prop :=
  LoopP [(.int .i64 (0))] h fun L1 xs hx =>
  p33z5 P K pairs0 x1 y2 L1 xs hx
theorem e33 (P : Program) (K : Value → Heap → Prop) (pairs0 x1 y2 : Value) (h : Heap) : iwpP P c33 (bodyP [.tmp 6] K) (frame0 [pairs0, x1, y2]) h = T33 P K pairs0 x1 y2 h := by kernel_rfl
theorem f33 {K : Value → Heap → Prop} {pairs0 x1 y2 : Value} {h : Heap} (H : T33 Try.prog K pairs0 x1 y2 h) : CallP Try.prog 33 [pairs0, x1, y2] h K :=
  callP_intro k33 (Nat.le_of_ble_eq_true rfl) ((e33 Try.prog K pairs0 x1 y2 h).mpr H)
/-! F56: pommel/stitch.seams -/
def c56z9 : ICode := .seq (.ops none [⟨(some 28), .p (.bin .lss (.tmp 27) (.tmp 26))⟩])
 (.seq (.cond (.tmp 28) (.skip)
  (.exit 0))
 (.seq (.block 1 (.seq (.ops none [⟨(some 29), .p (.adrSl 1 (.tmp 25) (.tmp 27))⟩,
      ⟨(some 30), .l (.load false 1 (.tmp 29))⟩,
      ⟨(some 13), .p (.mv (.tmp 30))⟩])
   (.seq (.ops none [⟨(some 31), .p (.mv (.tmp 13))⟩,
      ⟨(some 32), .p (.lenS (.tmp 31))⟩,
      ⟨(some 33), .p (.mv (.tmp 2))⟩,
      ⟨(some 34), .p (.bin .gtr (.tmp 32) (.tmp 33))⟩])
   (.cond (.tmp 34) (.seq (.ops none [⟨(some 8), .p (.mv (.const (.pointer none)))⟩,
       ⟨(some 9), .p (.mv (.const (.int .i64 (3))))⟩])
    (.ret))
   (.skip)))))
 (.ops none [⟨(some 35), .p (.bin .add (.tmp 27) (.const (.int .i64 (1))))⟩,
   ⟨(some 27), .p (.mv (.tmp 35))⟩])))
def c56z39 : ICode := .ops none [⟨(some 59), .p (.pick (.tmp 51) (.const (.bool true)) (.tmp 58))⟩]
def c56z37 : ICode := .seq (.ops (some (51, false)) [⟨(some 52), .p (.mv (.tmp 15))⟩,
    ⟨(some 53), .p (.mv (.tmp 16))⟩,
    ⟨(some 54), .p (.idxS (.tmp 52) (.tmp 53))⟩,
    ⟨(some 55), .p (.mv (.tmp 0))⟩,
    ⟨(some 56), .p (.conv .u8 (.tmp 55))⟩,
    ⟨(some 57), .p (.bin .add (.const (.int .u8 (97))) (.tmp 56))⟩,
    ⟨(some 58), .p (.bin .geq (.tmp 54) (.tmp 57))⟩])
 (.cut [0, 10, 15, 36, 37, 38, 43, 44, 51, 58] c56z39)
def c56z35 : ICode := .cond (.tmp 59) (.seq (.ops none [⟨(some 8), .p (.mv (.const (.pointer none)))⟩,
     ⟨(some 9), .p (.mv (.const (.int .i64 (2))))⟩])
  (.ret))
 (.skip)
def c56z32 : ICode := .ops none [⟨(some 60), .p (.bin .add (.tmp 44) (.const (.int .i64 (1))))⟩,
   ⟨(some 44), .p (.mv (.tmp 60))⟩]
def c56z29 : ICode := .seq (.ops none [⟨(some 45), .p (.bin .lss (.tmp 44) (.tmp 43))⟩])
 (.seq (.cond (.tmp 45) (.skip)
  (.exit 4))
 (.seq (.block 5 (.seq (.ops none [⟨(some 46), .p (.mv (.tmp 44))⟩,
      ⟨(some 16), .p (.mv (.tmp 46))⟩])
   (.seq (.seq (.ops none [⟨(some 47), .p (.mv (.tmp 15))⟩,
       ⟨(some 48), .p (.mv (.tmp 16))⟩,
       ⟨(some 49), .p (.idxS (.tmp 47) (.tmp 48))⟩,
       ⟨(some 50), .p (.bin .lss (.tmp 49) (.const (.int .u8 (97))))⟩,
       ⟨(some 51), .p (.mv (.tmp 50))⟩])
    (.cut [0, 10, 15, 16, 36, 37, 38, 43, 44, 51] c56z37)) c56z35))) c56z32))
def c56z41 : ICode := .ops none [⟨(some 61), .p (.bin .add (.tmp 38) (.const (.int .i64 (1))))⟩,
   ⟨(some 38), .p (.mv (.tmp 61))⟩]
def c56z24 : ICode := .cut [0, 10, 36, 37, 38] c56z41
def c56z21 : ICode := .seq (.ops none [⟨(some 39), .p (.bin .lss (.tmp 38) (.tmp 37))⟩])
 (.seq (.cond (.tmp 39) (.skip)
  (.exit 2))
 (.seq (.block 3 (.seq (.ops none [⟨(some 40), .p (.adrSl 1 (.tmp 36) (.tmp 38))⟩,
      ⟨(some 41), .l (.load false 1 (.tmp 40))⟩,
      ⟨(some 15), .p (.mv (.tmp 41))⟩])
   (.seq (.ops none [⟨(some 42), .p (.mv (.tmp 15))⟩,
      ⟨(some 43), .p (.lenS (.tmp 42))⟩,
      ⟨(some 44), .p (.mv (.const (.int .i64 (0))))⟩])
   (.block 4 (.loop [0, 10, 15, 36, 37, 38, 43] [44] c56z29))))) c56z24))
def c56z42 : ICode := .seq (.ops none [⟨(some 62), .p (.mv (.tmp 10))⟩,
    ⟨(some 8), .p (.mv (.tmp 62))⟩,
    ⟨(some 9), .p (.mv (.const (.int .i64 (0))))⟩])
 (.ret)
def c56z18 : ICode := .cut [10] c56z42
def c56z17 : ICode := .seq (.seq (.ops none [⟨(some 36), .p (.mv (.tmp 3))⟩,
     ⟨(some 37), .p (.lenSl (.tmp 36))⟩,
     ⟨(some 38), .p (.mv (.const (.int .i64 (0))))⟩])
  (.block 2 (.loop [0, 10, 36, 37] [38] c56z21))) c56z18
def c56z6 : ICode := .cut [0, 3, 10] c56z17
def c56 : ICode := .seq (.ops none [⟨(some 8), .p (.mv (.const (.pointer none)))⟩,
    ⟨(some 9), .p (.mv (.const (.int .i64 (0))))⟩])
 (.seq (.ops none [⟨(some 18), .p (.mv (.tmp 0))⟩,
    ⟨(some 19), .p (.mv (.tmp 1))⟩,
    ⟨(some 20), .call 61 [(.tmp 18), (.tmp 19)]⟩,
    ⟨(some 17), .p (.mv (.tmp 20))⟩,
    ⟨(some 21), .p (.ext (.tmp 17) 0)⟩,
    ⟨(some 22), .p (.ext (.tmp 17) 1)⟩,
    ⟨(some 10), .p (.mv (.tmp 21))⟩,
    ⟨(some 11), .p (.mv (.tmp 22))⟩])
 (.seq (.seq (.ops none [⟨(some 23), .p (.mv (.tmp 11))⟩,
     ⟨(some 24), .p (.un .not (.tmp 23))⟩])
  (.cond (.tmp 24) (.seq (.ops none [⟨(some 8), .p (.mv (.const (.pointer none)))⟩,
      ⟨(some 9), .p (.mv (.const (.int .i64 (1))))⟩])
   (.ret))
  (.skip)))
 (.seq (.seq (.ops none [⟨(some 25), .p (.mv (.tmp 3))⟩,
     ⟨(some 26), .p (.lenSl (.tmp 25))⟩,
     ⟨(some 27), .p (.mv (.const (.int .i64 (0))))⟩])
  (.block 0 (.loop [0, 2, 3, 10, 25, 26] [27] c56z9))) c56z6)))
theorem k56 : compFn Try.prog 56 [[], [], [], [], [], [], [0, 2, 3, 10, 25, 26], [27], [], [], [], [], [], [], [0, 3, 10], [], [0, 10, 36, 37], [38], [], [], [], [], [0, 10, 15, 36, 37, 38, 43], [44], [], [], [], [0, 10, 15, 16, 36, 37, 38, 43, 44, 51], [0, 10, 15, 36, 37, 38, 43, 44, 51, 58], [], [], [], [0, 10, 36, 37, 38], [10], []] = some (63, c56, [.tmp 8, .tmp 9]) := by kernel_rfl
def K56z0 (_P : Program) (K : Value → Heap → Prop) : Exit → (Nat → Value) → Heap → Prop := bodyP [.tmp 8, .tmp 9] K
def K56z6 (P : Program) (K : Value → Heap → Prop) : Exit → (Nat → Value) → Heap → Prop := thenK (iwpP P c56z6 (K56z0 P K)) (K56z0 P K)
def K56z8 (P : Program) (K : Value → Heap → Prop) : Exit → (Nat → Value) → Heap → Prop := inBlockK 0 (K56z6 P K)
def K56z9 (P : Program) (K : Value → Heap → Prop) (k0 most2 l3 t10 x25 x26 : Value) (L1 : List Value → Heap → Prop) : Exit → (Nat → Value) → Heap → Prop := thenK (fun f' h'' => (([0, 2, 3, 10, 25, 26] : List Nat).map f' : List Value) = [k0, most2, l3, t10, x25, x26] ∧ L1 (([27] : List Nat).map f') h'') (K56z8 P K)
def K56z18 (P : Program) (K : Value → Heap → Prop) : Exit → (Nat → Value) → Heap → Prop := thenK (iwpP P c56z18 (K56z0 P K)) (K56z0 P K)
def K56z20 (P : Program) (K : Value → Heap → Prop) : Exit → (Nat → Value) → Heap → Prop := inBlockK 2 (K56z18 P K)
def K56z21 (P : Program) (K : Value → Heap → Prop) (k0 t10 x36 x37 : Value) (L1 : List Value → Heap → Prop) : Exit → (Nat → Value) → Heap → Prop := thenK (fun f' h'' => (([0, 10, 36, 37] : List Nat).map f' : List Value) = [k0, t10, x36, x37] ∧ L1 (([38] : List Nat).map f') h'') (K56z20 P K)
def K56z24 (P : Program) (K : Value → Heap → Prop) (k0 t10 x36 x37 : Value) (L1 : List Value → Heap → Prop) : Exit → (Nat → Value) → Heap → Prop := thenK (iwpP P c56z24 (K56z21 P K k0 t10 x36 x37 L1)) (K56z21 P K k0 t10 x36 x37 L1)
def K56z25 (P : Program) (K : Value → Heap → Prop) (k0 t10 x36 x37 : Value) (L1 : List Value → Heap → Prop) : Exit → (Nat → Value) → Heap → Prop := inBlockK 3 (K56z24 P K k0 t10 x36 x37 L1)
def K56z28 (P : Program) (K : Value → Heap → Prop) (k0 t10 x36 x37 : Value) (L1 : List Value → Heap → Prop) : Exit → (Nat → Value) → Heap → Prop := inBlockK 4 (K56z25 P K k0 t10 x36 x37 L1)
def K56z29 (P : Program) (K : Value → Heap → Prop) (k0 t10 s15 x36 x37 x38 x43 : Value) (L1 L2 : List Value → Heap → Prop) : Exit → (Nat → Value) → Heap → Prop := thenK (fun f' h'' => (([0, 10, 15, 36, 37, 38, 43] : List Nat).map f' : List Value) = [k0, t10, s15, x36, x37, x38, x43] ∧ L2 (([44] : List Nat).map f') h'') (K56z28 P K k0 t10 x36 x37 L1)
def K56z32 (P : Program) (K : Value → Heap → Prop) (k0 t10 s15 x36 x37 x38 x43 : Value) (L1 L2 : List Value → Heap → Prop) : Exit → (Nat → Value) → Heap → Prop := thenK (iwpP P c56z32 (K56z29 P K k0 t10 s15 x36 x37 x38 x43 L1 L2)) (K56z29 P K k0 t10 s15 x36 x37 x38 x43 L1 L2)
def K56z33 (P : Program) (K : Value → Heap → Prop) (k0 t10 s15 x36 x37 x38 x43 : Value) (L1 L2 : List Value → Heap → Prop) : Exit → (Nat → Value) → Heap → Prop := inBlockK 5 (K56z32 P K k0 t10 s15 x36 x37 x38 x43 L1 L2)
def K56z35 (P : Program) (K : Value → Heap → Prop) (k0 t10 s15 x36 x37 x38 x43 : Value) (L1 L2 : List Value → Heap → Prop) : Exit → (Nat → Value) → Heap → Prop := thenK (iwpP P c56z35 (K56z33 P K k0 t10 s15 x36 x37 x38 x43 L1 L2)) (K56z33 P K k0 t10 s15 x36 x37 x38 x43 L1 L2)
def p56z9 (P : Program) (K : Value → Heap → Prop) (k0 most2 l3 t10 x25 x26 : Value) (L1 : List Value → Heap → Prop) (xs : List Value) (h : Heap) : Prop := CutP (iwpP P c56z9 (K56z9 P K k0 most2 l3 t10 x25 x26 L1)) ([0, 2, 3, 10, 25, 26] ++ [27]) ([k0, most2, l3, t10, x25, x26] ++ xs) h
def p56z17 (P : Program) (K : Value → Heap → Prop) (k0 l3 t10 : Value) (h : Heap) : Prop := CutP (iwpP P c56z17 (K56z0 P K)) [0, 3, 10] [k0, l3, t10] h
def p56z21 (P : Program) (K : Value → Heap → Prop) (k0 t10 x36 x37 : Value) (L1 : List Value → Heap → Prop) (xs : List Value) (h : Heap) : Prop := CutP (iwpP P c56z21 (K56z21 P K k0 t10 x36 x37 L1)) ([0, 10, 36, 37] ++ [38]) ([k0, t10, x36, x37] ++ xs) h
def p56z29 (P : Program) (K : Value → Heap → Prop) (k0 t10 s15 x36 x37 x38 x43 : Value) (L1 L2 : List Value → Heap → Prop) (xs : List Value) (h : Heap) : Prop := CutP (iwpP P c56z29 (K56z29 P K k0 t10 s15 x36 x37 x38 x43 L1 L2)) ([0, 10, 15, 36, 37, 38, 43] ++ [44]) ([k0, t10, s15, x36, x37, x38, x43] ++ xs) h
def p56z37 (P : Program) (K : Value → Heap → Prop) (k0 t10 s15 i16 x36 x37 x38 x43 x44 x51 : Value) (L1 L2 : List Value → Heap → Prop) (h : Heap) : Prop := CutP (iwpP P c56z37 (K56z35 P K k0 t10 s15 x36 x37 x38 x43 L1 L2)) [0, 10, 15, 16, 36, 37, 38, 43, 44, 51] [k0, t10, s15, i16, x36, x37, x38, x43, x44, x51] h
def p56z39 (P : Program) (K : Value → Heap → Prop) (k0 t10 s15 x36 x37 x38 x43 x44 x51 x58 : Value) (L1 L2 : List Value → Heap → Prop) (h : Heap) : Prop := CutP (iwpP P c56z39 (K56z35 P K k0 t10 s15 x36 x37 x38 x43 L1 L2)) [0, 10, 15, 36, 37, 38, 43, 44, 51, 58] [k0, t10, s15, x36, x37, x38, x43, x44, x51, x58] h
def p56z41 (P : Program) (K : Value → Heap → Prop) (k0 t10 x36 x37 x38 : Value) (L1 : List Value → Heap → Prop) (h : Heap) : Prop := CutP (iwpP P c56z41 (K56z21 P K k0 t10 x36 x37 L1)) [0, 10, 36, 37, 38] [k0, t10, x36, x37, x38] h
def p56z42 (P : Program) (K : Value → Heap → Prop) (t10 : Value) (h : Heap) : Prop := CutP (iwpP P c56z42 (K56z0 P K)) [10] [t10] h
theorem q56z9 (P : Program) (K : Value → Heap → Prop) (k0 most2 l3 t10 x25 x26 : Value) (L1 : List Value → Heap → Prop) (x27 : Value) (h : Heap) : p56z9 P K k0 most2 l3 t10 x25 x26 L1 [x27] h =
  (OP (iBin .lss x27 x26) fun x28 =>
  IfP x28
    (OP (iAdrSl 1 x25 x27) fun x29 =>
    OP (iLoad false 1 h x29) fun x30 =>
    OP (iLenS x30) fun x32 =>
    OP (iBin .gtr x32 most2) fun x34 =>
    IfP x34
      (K (.tuple #[(.pointer none), (.int .i64 (3))]) h)
      (OP (iBin .add x27 (.int .i64 (1))) fun x35 =>
      ([k0, most2, l3, t10, x25, x26] : List Value) = [k0, most2, l3, t10, x25, x26] ∧ L1 [x35] h))
    (p56z17 P K k0 l3 t10 h)) := (CutP_def _ _ _ _).trans (by kernel_rfl)
theorem q56z39 (P : Program) (K : Value → Heap → Prop) (k0 t10 s15 x36 x37 x38 x43 x44 x51 x58 : Value) (L1 L2 : List Value → Heap → Prop) (h : Heap) : p56z39 P K k0 t10 s15 x36 x37 x38 x43 x44 x51 x58 L1 L2 h =
  (OP (iPick x51 (.bool true) x58) fun x59 =>
  IfP x59
    (K (.tuple #[(.pointer none), (.int .i64 (2))]) h)
    (OP (iBin .add x44 (.int .i64 (1))) fun x60 =>
    ([k0, t10, s15, x36, x37, x38, x43] : List Value) = [k0, t10, s15, x36, x37, x38, x43] ∧ L2 [x60] h)) := (CutP_def _ _ _ _).trans (by kernel_rfl)
theorem q56z37 (P : Program) (K : Value → Heap → Prop) (k0 t10 s15 i16 x36 x37 x38 x43 x44 x51 : Value) (L1 L2 : List Value → Heap → Prop) (h : Heap) : p56z37 P K k0 t10 s15 i16 x36 x37 x38 x43 x44 x51 L1 L2 h =
  (GdP x51 false
    (OP (iIdxS s15 i16) fun x54 =>
    OP (iConv .u8 k0) fun x56 =>
    OP (iBin .add (.int .u8 (97)) x56) fun x57 =>
    OP (iBin .geq x54 x57) fun x58 =>
    p56z39 P K k0 t10 s15 x36 x37 x38 x43 x44 x51 x58 L1 L2 h)
    (p56z39 P K k0 t10 s15 x36 x37 x38 x43 x44 x51 undef L1 L2 h)) := (CutP_def _ _ _ _).trans (by kernel_rfl)
theorem q56z29 (P : Program) (K : Value → Heap → Prop) (k0 t10 s15 x36 x37 x38 x43 : Value) (L1 L2 : List Value → Heap → Prop) (x44 : Value) (h : Heap) : p56z29 P K k0 t10 s15 x36 x37 x38 x43 L1 L2 [x44] h =
  (OP (iBin .lss x44 x43) fun x45 =>
  IfP x45
    (OP (iIdxS s15 x44) fun x49 =>
    OP (iBin .lss x49 (.int .u8 (97))) fun x50 =>
    p56z37 P K k0 t10 s15 x44 x36 x37 x38 x43 x44 x50 L1 L2 h)
    (p56z41 P K k0 t10 x36 x37 x38 L1 h)) := (CutP_def _ _ _ _).trans (by kernel_rfl)
theorem q56z41 (P : Program) (K : Value → Heap → Prop) (k0 t10 x36 x37 x38 : Value) (L1 : List Value → Heap → Prop) (h : Heap) : p56z41 P K k0 t10 x36 x37 x38 L1 h =
  (OP (iBin .add x38 (.int .i64 (1))) fun x61 =>
  ([k0, t10, x36, x37] : List Value) = [k0, t10, x36, x37] ∧ L1 [x61] h) := (CutP_def _ _ _ _).trans (by kernel_rfl)
theorem q56z21 (P : Program) (K : Value → Heap → Prop) (k0 t10 x36 x37 : Value) (L1 : List Value → Heap → Prop) (x38 : Value) (h : Heap) : p56z21 P K k0 t10 x36 x37 L1 [x38] h =
  (OP (iBin .lss x38 x37) fun x39 =>
  IfP x39
    (OP (iAdrSl 1 x36 x38) fun x40 =>
    OP (iLoad false 1 h x40) fun x41 =>
    OP (iLenS x41) fun x43 =>
    LoopP [(.int .i64 (0))] h fun L2 xs hx =>
    p56z29 P K k0 t10 x41 x36 x37 x38 x43 L1 L2 xs hx)
    (p56z42 P K t10 h)) := (CutP_def _ _ _ _).trans (by kernel_rfl)
theorem q56z42 (P : Program) (K : Value → Heap → Prop) (t10 : Value) (h : Heap) : p56z42 P K t10 h =
  (K (.tuple #[t10, (.int .i64 (0))]) h) := (CutP_def _ _ _ _).trans (by kernel_rfl)
theorem q56z17 (P : Program) (K : Value → Heap → Prop) (k0 l3 t10 : Value) (h : Heap) : p56z17 P K k0 l3 t10 h =
  (OP (iLenSl l3) fun x37 =>
  LoopP [(.int .i64 (0))] h fun L1 xs hx =>
  p56z21 P K k0 t10 l3 x37 L1 xs hx) := (CutP_def _ _ _ _).trans (by kernel_rfl)
def T56 (P : Program) (K : Value → Heap → Prop) (k0 pairs1 most2 l3 : Value) (h : Heap) : Prop :=
  CallP P 61 [k0, pairs1] h fun x20 h_1 =>
  OP (iExt 0 x20) fun x21 =>
  OP (iExt 1 x20) fun x22 =>
  OP (iUn .not x22) fun x24 =>
  IfP x24
    (K (.tuple #[(.pointer none), (.int .i64 (1))]) h_1)
    (OP (iLenSl l3) fun x26 =>
    LoopP [(.int .i64 (0))] h_1 fun L1 xs hx =>
    p56z9 P K k0 most2 l3 x21 l3 x26 L1 xs hx)
theorem e56 (P : Program) (K : Value → Heap → Prop) (k0 pairs1 most2 l3 : Value) (h : Heap) : iwpP P c56 (bodyP [.tmp 8, .tmp 9] K) (frame0 [k0, pairs1, most2, l3]) h = T56 P K k0 pairs1 most2 l3 h := by kernel_rfl
theorem f56 {K : Value → Heap → Prop} {k0 pairs1 most2 l3 : Value} {h : Heap} (H : T56 Try.prog K k0 pairs1 most2 l3 h) : CallP Try.prog 56 [k0, pairs1, most2, l3] h K :=
  callP_intro k56 (Nat.le_of_ble_eq_true rfl) ((e56 Try.prog K k0 pairs1 most2 l3 h).mpr H)
/-! F57: (*pommel/stitch.threads).least -/
def c57z11 : ICode := .seq (.ops none [⟨(some 16), .p (.bin .lss (.tmp 15) (.tmp 14))⟩])
 (.seq (.cond (.tmp 16) (.skip)
  (.exit 2))
 (.seq (.block 3 (.seq (.ops none [⟨(some 17), .p (.mv (.tmp 15))⟩,
      ⟨(some 6), .p (.mv (.tmp 17))⟩])
   (.seq (.ops none [⟨(some 18), .p (.mv (.tmp 6))⟩,
      ⟨(some 19), .p (.conv .u8 (.tmp 18))⟩,
      ⟨(some 20), .p (.bin .add (.const (.int .u8 (97))) (.tmp 19))⟩,
      ⟨(some 7), .p (.mv (.tmp 20))⟩])
   (.seq (.ops none [⟨(some 21), .p (.mv (.tmp 0))⟩,
      ⟨(some 22), .p (.mv (.tmp 1))⟩,
      ⟨(some 23), .p (.mv (.tmp 7))⟩,
      ⟨(some 24), .call 84 [(.tmp 21), (.tmp 22), (.tmp 23)]⟩,
      ⟨(some 8), .p (.mv (.tmp 24))⟩])
   (.seq (.ops none [⟨(some 25), .p (.mv (.tmp 8))⟩,
      ⟨(some 26), .p (.bin .geq (.tmp 25) (.const (.int .i64 (0))))⟩])
   (.cond (.tmp 26) (.seq (.ops none [⟨(some 27), .p (.mv (.tmp 5))⟩,
       ⟨(some 28), .p (.mv (.tmp 7))⟩,
       ⟨(some 29), .e (.mkSl 5 1 [(.int .u8 (0))] [(0, 1, (.tmp 28))])⟩,
       ⟨(some 30), .e (.app 5 1 1 (.tmp 27) (.tmp 29))⟩,
       ⟨(some 31), .p (.mv (.tmp 1))⟩,
       ⟨(some 32), .p (.mv (.tmp 8))⟩,
       ⟨(some 33), .call 85 [(.tmp 31), (.tmp 32)]⟩,
       ⟨(some 5), .p (.mv (.tmp 30))⟩,
       ⟨(some 1), .p (.mv (.tmp 33))⟩])
    (.exit 2))
   (.skip)))))))
 (.ops none [⟨(some 34), .p (.bin .add (.tmp 15) (.const (.int .i64 (1))))⟩,
   ⟨(some 15), .p (.mv (.tmp 34))⟩])))
def c57z5 : ICode := .seq (.seq (.ops none [⟨(some 9), .p (.mv (.tmp 1))⟩,
     ⟨(some 10), .p (.bin .neq (.tmp 9) (.const (.string ⟨#[]⟩)))⟩])
  (.cond (.tmp 10) (.skip)
  (.exit 0)))
 (.block 1 (.seq (.ops none [⟨(some 11), .p (.mv (.tmp 0))⟩,
     ⟨(some 12), .p (.nilck (.tmp 11))⟩,
     ⟨(some 13), .p (.fadr 0 (.tmp 12))⟩,
     ⟨(some 14), .l (.load false 1 (.tmp 13))⟩,
     ⟨(some 15), .p (.mv (.const (.int .i64 (0))))⟩])
  (.block 2 (.loop [0, 14] [1, 5, 15] c57z11))))
def c57z21 : ICode := .seq (.ops none [⟨(some 35), .p (.mv (.tmp 5))⟩,
    ⟨(some 36), .l (.b2s (.tmp 35))⟩,
    ⟨(some 4), .p (.mv (.tmp 36))⟩])
 (.ret)
def c57z3 : ICode := .cut [5] c57z21
def c57 : ICode := .seq (.ops none [⟨(some 4), .p (.mv (.const (.string ⟨#[]⟩)))⟩])
 (.seq (.ops none [⟨(some 5), .p (.mv (.const (.slice none 0 0)))⟩])
 (.seq (.block 0 (.loop [0] [1, 5] c57z5)) c57z3))
theorem k57 : compFn Try.prog 57 [[], [], [0], [1, 5], [], [], [], [0, 14], [1, 5, 15], [], [], [], [], [], [], [], [], [5], []] = some (37, c57, [.tmp 4]) := by kernel_rfl
def K57z0 (_P : Program) (K : Value → Heap → Prop) : Exit → (Nat → Value) → Heap → Prop := bodyP [.tmp 4] K
def K57z3 (P : Program) (K : Value → Heap → Prop) : Exit → (Nat → Value) → Heap → Prop := thenK (iwpP P c57z3 (K57z0 P K)) (K57z0 P K)
def K57z4 (P : Program) (K : Value → Heap → Prop) : Exit → (Nat → Value) → Heap → Prop := inBlockK 0 (K57z3 P K)
def K57z5 (P : Program) (K : Value → Heap → Prop) (t0 : Value) (L1 : List Value → Heap → Prop) : Exit → (Nat → Value) → Heap → Prop := thenK (fun f' h'' => (([0] : List Nat).map f' : List Value) = [t0] ∧ L1 (([1, 5] : List Nat).map f') h'') (K57z4 P K)
def K57z8 (P : Program) (K : Value → Heap → Prop) (t0 : Value) (L1 : List Value → Heap → Prop) : Exit → (Nat → Value) → Heap → Prop := inBlockK 1 (K57z5 P K t0 L1)
def K57z10 (P : Program) (K : Value → Heap → Prop) (t0 : Value) (L1 : List Value → Heap → Prop) : Exit → (Nat → Value) → Heap → Prop := inBlockK 2 (K57z8 P K t0 L1)
def K57z11 (P : Program) (K : Value → Heap → Prop) (t0 x14 : Value) (L1 L2 : List Value → Heap → Prop) : Exit → (Nat → Value) → Heap → Prop := thenK (fun f' h'' => (([0, 14] : List Nat).map f' : List Value) = [t0, x14] ∧ L2 (([1, 5, 15] : List Nat).map f') h'') (K57z10 P K t0 L1)
def p57z5 (P : Program) (K : Value → Heap → Prop) (t0 : Value) (L1 : List Value → Heap → Prop) (xs : List Value) (h : Heap) : Prop := CutP (iwpP P c57z5 (K57z5 P K t0 L1)) ([0] ++ [1, 5]) ([t0] ++ xs) h
def p57z11 (P : Program) (K : Value → Heap → Prop) (t0 x14 : Value) (L1 L2 : List Value → Heap → Prop) (xs : List Value) (h : Heap) : Prop := CutP (iwpP P c57z11 (K57z11 P K t0 x14 L1 L2)) ([0, 14] ++ [1, 5, 15]) ([t0, x14] ++ xs) h
def p57z21 (P : Program) (K : Value → Heap → Prop) (out5 : Value) (h : Heap) : Prop := CutP (iwpP P c57z21 (K57z0 P K)) [5] [out5] h
theorem q57z11 (P : Program) (K : Value → Heap → Prop) (t0 x14 : Value) (L1 L2 : List Value → Heap → Prop) (s1 out5 x15 : Value) (h : Heap) : p57z11 P K t0 x14 L1 L2 [s1, out5, x15] h =
  (OP (iBin .lss x15 x14) fun x16 =>
  IfP x16
    (OP (iConv .u8 x15) fun x19 =>
    OP (iBin .add (.int .u8 (97)) x19) fun x20 =>
    CallP P 84 [t0, s1, x20] h fun x24 h_1 =>
    OP (iBin .geq x24 (.int .i64 (0))) fun x26 =>
    IfP x26
      (OH (iMkSl 5 1 [(.int .u8 (0))] h_1 [(0, 1, x20)]) fun x29 h_2 =>
      OH (iApp 5 1 1 h_2 out5 x29) fun x30 h_3 =>
      CallP P 85 [s1, x24] h_3 fun x33 h_4 =>
      ([t0] : List Value) = [t0] ∧ L1 [x33, x30] h_4)
      (OP (iBin .add x15 (.int .i64 (1))) fun x34 =>
      ([t0, x14] : List Value) = [t0, x14] ∧ L2 [s1, out5, x34] h_1))
    (([t0] : List Value) = [t0] ∧ L1 [s1, out5] h)) := (CutP_def _ _ _ _).trans (by kernel_rfl)
theorem q57z5 (P : Program) (K : Value → Heap → Prop) (t0 : Value) (L1 : List Value → Heap → Prop) (s1 out5 : Value) (h : Heap) : p57z5 P K t0 L1 [s1, out5] h =
  (OP (iBin .neq s1 (.string ⟨#[]⟩)) fun x10 =>
  IfP x10
    (OP (iNilck t0) fun x12 =>
    OP (iFadr 0 x12) fun x13 =>
    OP (iLoad false 1 h x13) fun x14 =>
    LoopP [s1, out5, (.int .i64 (0))] h fun L2 xs hx =>
    p57z11 P K t0 x14 L1 L2 xs hx)
    (p57z21 P K out5 h)) := (CutP_def _ _ _ _).trans (by kernel_rfl)
theorem q57z21 (P : Program) (K : Value → Heap → Prop) (out5 : Value) (h : Heap) : p57z21 P K out5 h =
  (OP (iB2s h out5) fun x36 =>
  K x36 h) := (CutP_def _ _ _ _).trans (by kernel_rfl)
def T57 (P : Program) (K : Value → Heap → Prop) (t0 s1 : Value) (h : Heap) : Prop :=
  LoopP [s1, (.slice none 0 0)] h fun L1 xs hx =>
  p57z5 P K t0 L1 xs hx
theorem e57 (P : Program) (K : Value → Heap → Prop) (t0 s1 : Value) (h : Heap) : iwpP P c57 (bodyP [.tmp 4] K) (frame0 [t0, s1]) h = T57 P K t0 s1 h := by kernel_rfl
theorem f57 {K : Value → Heap → Prop} {t0 s1 : Value} {h : Heap} (H : T57 Try.prog K t0 s1 h) : CallP Try.prog 57 [t0, s1] h K :=
  callP_intro k57 (Nat.le_of_ble_eq_true rfl) ((e57 Try.prog K t0 s1 h).mpr H)
/-! F58: pommel/pommelref03.Seam -/
def c58z17 : ICode := .ops none [⟨(some 30), .p (.pick (.tmp 22) (.const (.bool true)) (.tmp 29))⟩]
def c58z15 : ICode := .seq (.ops (some (22, false)) [⟨(some 23), .p (.mv (.tmp 1))⟩,
    ⟨(some 24), .p (.mv (.tmp 7))⟩,
    ⟨(some 25), .p (.idxS (.tmp 23) (.tmp 24))⟩,
    ⟨(some 26), .p (.bin .sub (.tmp 25) (.const (.int .u8 (97))))⟩,
    ⟨(some 27), .p (.conv .i64 (.tmp 26))⟩,
    ⟨(some 28), .p (.mv (.tmp 0))⟩,
    ⟨(some 29), .p (.bin .geq (.tmp 27) (.tmp 28))⟩])
 (.cut [0, 1, 7, 22, 29] c58z17)
def c58z13 : ICode := .cond (.tmp 30) (.seq (.ops none [⟨(some 6), .p (.mv (.const (.int .i64 (2))))⟩])
  (.ret))
 (.skip)
def c58z11 : ICode := .ops none [⟨(some 16), .p (.mv (.tmp 7))⟩,
   ⟨(some 17), .p (.bin .add (.tmp 16) (.const (.int .i64 (1))))⟩,
   ⟨(some 7), .p (.mv (.tmp 17))⟩]
def c58z8 : ICode := .seq (.seq (.ops none [⟨(some 12), .p (.mv (.tmp 7))⟩,
     ⟨(some 13), .p (.mv (.tmp 1))⟩,
     ⟨(some 14), .p (.lenS (.tmp 13))⟩,
     ⟨(some 15), .p (.bin .lss (.tmp 12) (.tmp 14))⟩])
  (.cond (.tmp 15) (.skip)
  (.exit 0)))
 (.seq (.block 1 (.seq (.seq (.ops none [⟨(some 18), .p (.mv (.tmp 1))⟩,
       ⟨(some 19), .p (.mv (.tmp 7))⟩,
       ⟨(some 20), .p (.idxS (.tmp 18) (.tmp 19))⟩,
       ⟨(some 21), .p (.bin .lss (.tmp 20) (.const (.int .u8 (97))))⟩,
       ⟨(some 22), .p (.mv (.tmp 21))⟩])
    (.cut [0, 1, 7, 22] c58z15)) c58z13)) c58z11)
def c58z5 : ICode := .seq (.ops none [⟨(some 6), .p (.mv (.const (.int .i64 (0))))⟩])
 (.ret)
def c58 : ICode := .seq (.ops none [⟨(some 6), .p (.mv (.const (.int .i64 (0))))⟩])
 (.seq (.seq (.ops none [⟨(some 8), .p (.mv (.tmp 1))⟩,
     ⟨(some 9), .p (.lenS (.tmp 8))⟩,
     ⟨(some 10), .p (.mv (.tmp 2))⟩,
     ⟨(some 11), .p (.bin .gtr (.tmp 9) (.tmp 10))⟩])
  (.cond (.tmp 11) (.seq (.ops none [⟨(some 6), .p (.mv (.const (.int .i64 (3))))⟩])
   (.ret))
  (.skip)))
 (.seq (.seq (.ops none [⟨(some 7), .p (.mv (.const (.int .i64 (0))))⟩])
  (.block 0 (.loop [0, 1] [7] c58z8))) c58z5))
theorem k58 : compFn Try.prog 58 [[], [], [], [], [], [0, 1], [7], [], [], [0, 1, 7, 22], [0, 1, 7, 22, 29], [], [], [], [], []] = some (31, c58, [.tmp 6]) := by kernel_rfl
def K58z0 (_P : Program) (K : Value → Heap → Prop) : Exit → (Nat → Value) → Heap → Prop := bodyP [.tmp 6] K
def K58z5 (P : Program) (K : Value → Heap → Prop) : Exit → (Nat → Value) → Heap → Prop := thenK (iwpP P c58z5 (K58z0 P K)) (K58z0 P K)
def K58z7 (P : Program) (K : Value → Heap → Prop) : Exit → (Nat → Value) → Heap → Prop := inBlockK 0 (K58z5 P K)
def K58z8 (P : Program) (K : Value → Heap → Prop) (k0 s1 : Value) (L1 : List Value → Heap → Prop) : Exit → (Nat → Value) → Heap → Prop := thenK (fun f' h'' => (([0, 1] : List Nat).map f' : List Value) = [k0, s1] ∧ L1 (([7] : List Nat).map f') h'') (K58z7 P K)
def K58z11 (P : Program) (K : Value → Heap → Prop) (k0 s1 : Value) (L1 : List Value → Heap → Prop) : Exit → (Nat → Value) → Heap → Prop := thenK (iwpP P c58z11 (K58z8 P K k0 s1 L1)) (K58z8 P K k0 s1 L1)
def K58z12 (P : Program) (K : Value → Heap → Prop) (k0 s1 : Value) (L1 : List Value → Heap → Prop) : Exit → (Nat → Value) → Heap → Prop := inBlockK 1 (K58z11 P K k0 s1 L1)
def K58z13 (P : Program) (K : Value → Heap → Prop) (k0 s1 : Value) (L1 : List Value → Heap → Prop) : Exit → (Nat → Value) → Heap → Prop := thenK (iwpP P c58z13 (K58z12 P K k0 s1 L1)) (K58z12 P K k0 s1 L1)
def p58z8 (P : Program) (K : Value → Heap → Prop) (k0 s1 : Value) (L1 : List Value → Heap → Prop) (xs : List Value) (h : Heap) : Prop := CutP (iwpP P c58z8 (K58z8 P K k0 s1 L1)) ([0, 1] ++ [7]) ([k0, s1] ++ xs) h
def p58z15 (P : Program) (K : Value → Heap → Prop) (k0 s1 i7 x22 : Value) (L1 : List Value → Heap → Prop) (h : Heap) : Prop := CutP (iwpP P c58z15 (K58z13 P K k0 s1 L1)) [0, 1, 7, 22] [k0, s1, i7, x22] h
def p58z17 (P : Program) (K : Value → Heap → Prop) (k0 s1 i7 x22 x29 : Value) (L1 : List Value → Heap → Prop) (h : Heap) : Prop := CutP (iwpP P c58z17 (K58z13 P K k0 s1 L1)) [0, 1, 7, 22, 29] [k0, s1, i7, x22, x29] h
theorem q58z17 (P : Program) (K : Value → Heap → Prop) (k0 s1 i7 x22 x29 : Value) (L1 : List Value → Heap → Prop) (h : Heap) : p58z17 P K k0 s1 i7 x22 x29 L1 h =
  (OP (iPick x22 (.bool true) x29) fun x30 =>
  IfP x30
    (K (.int .i64 (2)) h)
    (OP (iBin .add i7 (.int .i64 (1))) fun x17 =>
    ([k0, s1] : List Value) = [k0, s1] ∧ L1 [x17] h)) := (CutP_def _ _ _ _).trans (by kernel_rfl)
theorem q58z15 (P : Program) (K : Value → Heap → Prop) (k0 s1 i7 x22 : Value) (L1 : List Value → Heap → Prop) (h : Heap) : p58z15 P K k0 s1 i7 x22 L1 h =
  (GdP x22 false
    (OP (iIdxS s1 i7) fun x25 =>
    OP (iBin .sub x25 (.int .u8 (97))) fun x26 =>
    OP (iConv .i64 x26) fun x27 =>
    OP (iBin .geq x27 k0) fun x29 =>
    p58z17 P K k0 s1 i7 x22 x29 L1 h)
    (p58z17 P K k0 s1 i7 x22 undef L1 h)) := (CutP_def _ _ _ _).trans (by kernel_rfl)
theorem q58z8 (P : Program) (K : Value → Heap → Prop) (k0 s1 : Value) (L1 : List Value → Heap → Prop) (i7 : Value) (h : Heap) : p58z8 P K k0 s1 L1 [i7] h =
  (OP (iLenS s1) fun x14 =>
  OP (iBin .lss i7 x14) fun x15 =>
  IfP x15
    (OP (iIdxS s1 i7) fun x20 =>
    OP (iBin .lss x20 (.int .u8 (97))) fun x21 =>
    p58z15 P K k0 s1 i7 x21 L1 h)
    (K (.int .i64 (0)) h)) := (CutP_def _ _ _ _).trans (by kernel_rfl)
def T58 (P : Program) (K : Value → Heap → Prop) (k0 s1 most2 : Value) (h : Heap) : Prop :=
  OP (iLenS s1) fun x9 =>
  OP (iBin .gtr x9 most2) fun x11 =>
  IfP x11
    (K (.int .i64 (3)) h)
    (LoopP [(.int .i64 (0))] h fun L1 xs hx =>
    p58z8 P K k0 s1 L1 xs hx)
theorem e58 (P : Program) (K : Value → Heap → Prop) (k0 s1 most2 : Value) (h : Heap) : iwpP P c58 (bodyP [.tmp 6] K) (frame0 [k0, s1, most2]) h = T58 P K k0 s1 most2 h := by kernel_rfl
theorem f58 {K : Value → Heap → Prop} {k0 s1 most2 : Value} {h : Heap} (H : T58 Try.prog K k0 s1 most2 h) : CallP Try.prog 58 [k0, s1, most2] h K :=
  callP_intro k58 (Nat.le_of_ble_eq_true rfl) ((e58 Try.prog K k0 s1 most2 h).mpr H)
/-! F59: pommel/pommelref03.First -/
def c59z5 : ICode := .seq (.seq (.ops none [⟨(some 8), .p (.mv (.tmp 7))⟩,
     ⟨(some 9), .p (.mv (.tmp 1))⟩,
     ⟨(some 10), .p (.lenS (.tmp 9))⟩,
     ⟨(some 11), .p (.bin .lss (.tmp 8) (.tmp 10))⟩])
  (.cond (.tmp 11) (.skip)
  (.exit 0)))
 (.seq (.block 1 (.seq (.seq (.ops none [⟨(some 14), .p (.mv (.tmp 1))⟩,
       ⟨(some 15), .p (.mv (.tmp 7))⟩,
       ⟨(some 16), .p (.idxS (.tmp 14) (.tmp 15))⟩,
       ⟨(some 17), .p (.mv (.tmp 2))⟩,
       ⟨(some 18), .p (.bin .eql (.tmp 16) (.tmp 17))⟩])
    (.cond (.tmp 18) (.seq (.ops none [⟨(some 19), .p (.mv (.tmp 7))⟩,
        ⟨(some 6), .p (.mv (.tmp 19))⟩])
     (.ret))
    (.skip)))
   (.seq (.ops none [⟨(some 20), .p (.mv (.tmp 0))⟩,
      ⟨(some 21), .p (.mv (.tmp 1))⟩,
      ⟨(some 22), .p (.mv (.tmp 7))⟩,
      ⟨(some 23), .p (.idxS (.tmp 21) (.tmp 22))⟩,
      ⟨(some 24), .p (.mv (.tmp 2))⟩,
      ⟨(some 25), .call 33 [(.tmp 20), (.tmp 23), (.tmp 24)]⟩,
      ⟨(some 26), .p (.un .not (.tmp 25))⟩])
   (.cond (.tmp 26) (.seq (.ops none [⟨(some 6), .p (.mv (.const (.int .i64 (-1))))⟩])
    (.ret))
   (.skip)))))
 (.ops none [⟨(some 12), .p (.mv (.tmp 7))⟩,
   ⟨(some 13), .p (.bin .add (.tmp 12) (.const (.int .i64 (1))))⟩,
   ⟨(some 7), .p (.mv (.tmp 13))⟩]))
def c59z2 : ICode := .seq (.ops none [⟨(some 6), .p (.mv (.const (.int .i64 (-1))))⟩])
 (.ret)
def c59 : ICode := .seq (.ops none [⟨(some 6), .p (.mv (.const (.int .i64 (0))))⟩])
 (.seq (.seq (.ops none [⟨(some 7), .p (.mv (.const (.int .i64 (0))))⟩])
  (.block 0 (.loop [0, 1, 2] [7] c59z5))) c59z2)
theorem k59 : compFn Try.prog 59 [[], [], [0, 1, 2], [7], [], [], [], [], [], [], [], [], [], []] = some (27, c59, [.tmp 6]) := by kernel_rfl
def K59z0 (_P : Program) (K : Value → Heap → Prop) : Exit → (Nat → Value) → Heap → Prop := bodyP [.tmp 6] K
def K59z2 (P : Program) (K : Value → Heap → Prop) : Exit → (Nat → Value) → Heap → Prop := thenK (iwpP P c59z2 (K59z0 P K)) (K59z0 P K)
def K59z4 (P : Program) (K : Value → Heap → Prop) : Exit → (Nat → Value) → Heap → Prop := inBlockK 0 (K59z2 P K)
def K59z5 (P : Program) (K : Value → Heap → Prop) (pairs0 s1 x2 : Value) (L1 : List Value → Heap → Prop) : Exit → (Nat → Value) → Heap → Prop := thenK (fun f' h'' => (([0, 1, 2] : List Nat).map f' : List Value) = [pairs0, s1, x2] ∧ L1 (([7] : List Nat).map f') h'') (K59z4 P K)
def p59z5 (P : Program) (K : Value → Heap → Prop) (pairs0 s1 x2 : Value) (L1 : List Value → Heap → Prop) (xs : List Value) (h : Heap) : Prop := CutP (iwpP P c59z5 (K59z5 P K pairs0 s1 x2 L1)) ([0, 1, 2] ++ [7]) ([pairs0, s1, x2] ++ xs) h
theorem q59z5 (P : Program) (K : Value → Heap → Prop) (pairs0 s1 x2 : Value) (L1 : List Value → Heap → Prop) (i7 : Value) (h : Heap) : p59z5 P K pairs0 s1 x2 L1 [i7] h =
  (OP (iLenS s1) fun x10 =>
  OP (iBin .lss i7 x10) fun x11 =>
  IfP x11
    (OP (iIdxS s1 i7) fun x16 =>
    OP (iBin .eql x16 x2) fun x18 =>
    IfP x18
      (K i7 h)
      (OP (iIdxS s1 i7) fun x23 =>
      CallP P 33 [pairs0, x23, x2] h fun x25 h_1 =>
      OP (iUn .not x25) fun x26 =>
      IfP x26
        (K (.int .i64 (-1)) h_1)
        (OP (iBin .add i7 (.int .i64 (1))) fun x13 =>
        ([pairs0, s1, x2] : List Value) = [pairs0, s1, x2] ∧ L1 [x13] h_1)))
    (K (.int .i64 (-1)) h)) := (CutP_def _ _ _ _).trans (by kernel_rfl)
def T59 (P : Program) (K : Value → Heap → Prop) (pairs0 s1 x2 : Value) (h : Heap) : Prop :=
  LoopP [(.int .i64 (0))] h fun L1 xs hx =>
  p59z5 P K pairs0 s1 x2 L1 xs hx
theorem e59 (P : Program) (K : Value → Heap → Prop) (pairs0 s1 x2 : Value) (h : Heap) : iwpP P c59 (bodyP [.tmp 6] K) (frame0 [pairs0, s1, x2]) h = T59 P K pairs0 s1 x2 h := by kernel_rfl
theorem f59 {K : Value → Heap → Prop} {pairs0 s1 x2 : Value} {h : Heap} (H : T59 Try.prog K pairs0 s1 x2 h) : CallP Try.prog 59 [pairs0, s1, x2] h K :=
  callP_intro k59 (Nat.le_of_ble_eq_true rfl) ((e59 Try.prog K pairs0 s1 x2 h).mpr H)
/-! F60: pommel/pommelref03.Without -/
def c60 : ICode := .seq (.ops none [⟨(some 4), .p (.mv (.const (.string ⟨#[]⟩)))⟩])
 (.seq (.dops [(none, [⟨(some 5), .p (.mv (.tmp 0)), 0⟩,
    ⟨(some 6), .p (.mv (.tmp 1)), 0⟩,
    ⟨(some 7), .p (.slS (.tmp 5) none (some (.tmp 6))), 3⟩,
    ⟨(some 8), .p (.mv (.tmp 0)), 0⟩,
    ⟨(some 9), .p (.mv (.tmp 1)), 0⟩,
    ⟨(some 10), .p (.bin .add (.tmp 9) (.const (.int .i64 (1)))), 16⟩,
    ⟨(some 11), .p (.slS (.tmp 8) (some (.tmp 10)) none), 56⟩,
    ⟨(some 12), .p (.bin .add (.tmp 7) (.tmp 11)), 127⟩,
    ⟨(some 4), .p (.mv (.tmp 12)), 255⟩])])
 (.ret))
theorem k60 : compFn Try.prog 60 [[], []] = some (13, c60, [.tmp 4]) := by kernel_rfl
def K60z0 (_P : Program) (K : Value → Heap → Prop) : Exit → (Nat → Value) → Heap → Prop := bodyP [.tmp 4] K
def T60 (P : Program) (K : Value → Heap → Prop) (s0 i1 : Value) (h : Heap) : Prop :=
  OP (iSlS s0 none (some i1)) fun x7 =>
  OP (iBin .add i1 (.int .i64 (1))) fun x10 =>
  OP (iSlS s0 (some x10) none) fun x11 =>
  OP (iBin .add x7 x11) fun x12 =>
  K x12 h
theorem e60 (P : Program) (K : Value → Heap → Prop) (s0 i1 : Value) (h : Heap) : iwpP P c60 (bodyP [.tmp 4] K) (frame0 [s0, i1]) h = T60 P K s0 i1 h := by kernel_rfl
theorem f60 {K : Value → Heap → Prop} {s0 i1 : Value} {h : Heap} (H : T60 Try.prog K s0 i1 h) : CallP Try.prog 60 [s0, i1] h K :=
  callP_intro k60 (Nat.le_of_ble_eq_true rfl) ((e60 Try.prog K s0 i1 h).mpr H)
/-! F61: pommel/stitch.read -/
def c61z11 : ICode := .ops none [⟨(some 19), .p (.pick (.tmp 15) (.const (.bool true)) (.tmp 18))⟩]
def c61z9 : ICode := .seq (.ops (some (15, false)) [⟨(some 16), .p (.mv (.tmp 1))⟩,
    ⟨(some 17), .p (.lenSl (.tmp 16))⟩,
    ⟨(some 18), .p (.bin .gtr (.tmp 17) (.const (.int .i64 (30))))⟩])
 (.cut [0, 1, 15, 18] c61z11)
def c61z7 : ICode := .seq (.ops none [⟨(some 14), .p (.pick (.tmp 11) (.const (.bool true)) (.tmp 13))⟩,
    ⟨(some 15), .p (.mv (.tmp 14))⟩])
 (.cut [0, 1, 15] c61z9)
def c61z5 : ICode := .seq (.ops (some (11, false)) [⟨(some 12), .p (.mv (.tmp 0))⟩,
    ⟨(some 13), .p (.bin .gtr (.tmp 12) (.const (.int .i64 (6))))⟩])
 (.cut [0, 1, 11, 13] c61z7)
def c61z3 : ICode := .cond (.tmp 19) (.seq (.ops none [⟨(some 4), .p (.mv (.const (.pointer none)))⟩,
     ⟨(some 5), .p (.mv (.const (.bool false)))⟩])
  (.ret))
 (.skip)
def c61z32 : ICode := .ops none [⟨(some 50), .p (.pick (.tmp 44) (.const (.bool true)) (.tmp 49))⟩]
def c61z30 : ICode := .seq (.ops (some (44, false)) [⟨(some 45), .p (.fadr 0 (.tmp 8))⟩,
    ⟨(some 46), .l (.load false 1 (.tmp 45))⟩,
    ⟨(some 47), .p (.fadr 1 (.tmp 8))⟩,
    ⟨(some 48), .l (.load false 1 (.tmp 47))⟩,
    ⟨(some 49), .p (.bin .eql (.tmp 46) (.tmp 48))⟩])
 (.cut [0, 6, 8, 23, 24, 25, 44, 49] c61z32)
def c61z28 : ICode := .seq (.ops none [⟨(some 43), .p (.pick (.tmp 35) (.const (.bool true)) (.tmp 42))⟩,
    ⟨(some 44), .p (.mv (.tmp 43))⟩])
 (.cut [0, 6, 8, 23, 24, 25, 44] c61z30)
def c61z26 : ICode := .seq (.ops (some (35, false)) [⟨(some 36), .p (.fadr 0 (.tmp 8))⟩,
    ⟨(some 37), .l (.load false 1 (.tmp 36))⟩,
    ⟨(some 38), .p (.fadr 1 (.tmp 8))⟩,
    ⟨(some 39), .l (.load false 1 (.tmp 38))⟩,
    ⟨(some 40), .p (.minmax true [(.tmp 37), (.tmp 39)])⟩,
    ⟨(some 41), .p (.mv (.tmp 0))⟩,
    ⟨(some 42), .p (.bin .geq (.tmp 40) (.tmp 41))⟩])
 (.cut [0, 6, 8, 23, 24, 25, 35, 42] c61z28)
def c61z24 : ICode := .cond (.tmp 50) (.seq (.ops none [⟨(some 4), .p (.mv (.const (.pointer none)))⟩,
     ⟨(some 5), .p (.mv (.const (.bool false)))⟩])
  (.ret))
 (.skip)
def c61z23 : ICode := .dops [(none, [⟨(some 51), .p (.mv (.tmp 6)), 0⟩,
   ⟨(some 52), .p (.fadr 0 (.tmp 8)), 0⟩,
   ⟨(some 53), .l (.load false 1 (.tmp 52)), 2⟩,
   ⟨(some 54), .p (.fadr 1 (.tmp 8)), 0⟩,
   ⟨(some 55), .l (.load false 1 (.tmp 54)), 8⟩,
   ⟨(some 56), .p (.mv (.tmp 6)), 0⟩,
   ⟨(some 57), .p (.fadr 1 (.tmp 8)), 0⟩,
   ⟨(some 58), .l (.load false 1 (.tmp 57)), 64⟩,
   ⟨(some 59), .p (.fadr 0 (.tmp 8)), 0⟩,
   ⟨(some 60), .l (.load false 1 (.tmp 59)), 256⟩,
   ⟨(some 61), .p (.nilck (.tmp 51)), 1⟩,
   ⟨(some 62), .p (.fadr 1 (.tmp 61)), 1025⟩,
   ⟨(some 63), .p (.adrArr 6 6 (.tmp 62) (.tmp 53)), 3079⟩,
   ⟨(some 64), .p (.adrArr 6 1 (.tmp 63) (.tmp 55)), 7199⟩,
   ⟨none, .e (.store 1 (.tmp 64) (.const (.bool true))), 15391⟩,
   ⟨(some 65), .p (.nilck (.tmp 56)), 32⟩,
   ⟨(some 66), .p (.fadr 1 (.tmp 65)), 32800⟩,
   ⟨(some 67), .p (.adrArr 6 6 (.tmp 66) (.tmp 58)), 98528⟩,
   ⟨(some 68), .p (.adrArr 6 1 (.tmp 67) (.tmp 60)), 262143⟩,
   ⟨none, .e (.store 1 (.tmp 68) (.const (.bool true))), 524287⟩])]
def c61z20 : ICode := .ops none [⟨(some 69), .p (.bin .add (.tmp 25) (.const (.int .i64 (1))))⟩,
   ⟨(some 25), .p (.mv (.tmp 69))⟩]
def c61z17 : ICode := .seq (.ops none [⟨(some 26), .p (.bin .lss (.tmp 25) (.tmp 24))⟩])
 (.seq (.cond (.tmp 26) (.skip)
  (.exit 0))
 (.seq (.block 1 (.seq (.ops none [⟨(some 27), .p (.adrSl 2 (.tmp 23) (.tmp 25))⟩,
      ⟨(some 28), .l (.load true 2 (.tmp 27))⟩,
      ⟨(some 8), .e (.alloc 98 [(.int .i64 (0)), (.int .i64 (0))])⟩,
      ⟨none, .e (.store 2 (.tmp 8) (.tmp 28))⟩])
   (.seq (.seq (.seq (.ops none [⟨(some 29), .p (.fadr 0 (.tmp 8))⟩,
        ⟨(some 30), .l (.load false 1 (.tmp 29))⟩,
        ⟨(some 31), .p (.fadr 1 (.tmp 8))⟩,
        ⟨(some 32), .l (.load false 1 (.tmp 31))⟩,
        ⟨(some 33), .p (.minmax false [(.tmp 30), (.tmp 32)])⟩,
        ⟨(some 34), .p (.bin .lss (.tmp 33) (.const (.int .i64 (0))))⟩,
        ⟨(some 35), .p (.mv (.tmp 34))⟩])
     (.cut [0, 6, 8, 23, 24, 25, 35] c61z26)) c61z24) c61z23))) c61z20))
def c61z34 : ICode := .seq (.ops none [⟨(some 70), .p (.mv (.tmp 6))⟩,
    ⟨(some 4), .p (.mv (.tmp 70))⟩,
    ⟨(some 5), .p (.mv (.const (.bool true)))⟩])
 (.ret)
def c61z14 : ICode := .cut [6] c61z34
def c61z2 : ICode := .seq (.ops none [⟨(some 20), .p (.mv (.tmp 0))⟩,
    ⟨(some 21), .p (.build [(.int .i64 (0)), (.bool false), (.bool false), (.bool false), (.bool false), (.bool false), (.bool false), (.bool false), (.bool false), (.bool false), (.bool false), (.bool false), (.bool false), (.bool false), (.bool false), (.bool false), (.bool false), (.bool false), (.bool false), (.bool false), (.bool false), (.bool false), (.bool false), (.bool false), (.bool false), (.bool false), (.bool false), (.bool false), (.bool false), (.bool false), (.bool false), (.bool false), (.bool false), (.bool false), (.bool false), (.bool false), (.bool false)] [(0, 1, (.tmp 20))])⟩,
    ⟨(some 22), .e (.box 138 (.tmp 21))⟩,
    ⟨(some 6), .p (.mv (.tmp 22))⟩])
 (.seq (.seq (.ops none [⟨(some 23), .p (.mv (.tmp 1))⟩,
     ⟨(some 24), .p (.lenSl (.tmp 23))⟩,
     ⟨(some 25), .p (.mv (.const (.int .i64 (0))))⟩])
  (.block 0 (.loop [0, 6, 23, 24] [25] c61z17))) c61z14)
def c61 : ICode := .seq (.ops none [⟨(some 4), .p (.mv (.const (.pointer none)))⟩,
    ⟨(some 5), .p (.mv (.const (.bool false)))⟩])
 (.seq (.seq (.seq (.ops none [⟨(some 9), .p (.mv (.tmp 0))⟩,
      ⟨(some 10), .p (.bin .lss (.tmp 9) (.const (.int .i64 (1))))⟩,
      ⟨(some 11), .p (.mv (.tmp 10))⟩])
   (.cut [0, 1, 11] c61z5)) c61z3) c61z2)
theorem k61 : compFn Try.prog 61 [[], [0, 1, 11], [0, 1, 11, 13], [0, 1, 15], [0, 1, 15, 18], [], [], [], [], [], [0, 6, 23, 24], [25], [], [], [], [0, 6, 8, 23, 24, 25, 35], [0, 6, 8, 23, 24, 25, 35, 42], [0, 6, 8, 23, 24, 25, 44], [0, 6, 8, 23, 24, 25, 44, 49], [], [], [], [], [6], []] = some (71, c61, [.tmp 4, .tmp 5]) := by kernel_rfl
def K61z0 (_P : Program) (K : Value → Heap → Prop) : Exit → (Nat → Value) → Heap → Prop := bodyP [.tmp 4, .tmp 5] K
def K61z2 (P : Program) (K : Value → Heap → Prop) : Exit → (Nat → Value) → Heap → Prop := thenK (iwpP P c61z2 (K61z0 P K)) (K61z0 P K)
def K61z3 (P : Program) (K : Value → Heap → Prop) : Exit → (Nat → Value) → Heap → Prop := thenK (iwpP P c61z3 (K61z2 P K)) (K61z2 P K)
def K61z14 (P : Program) (K : Value → Heap → Prop) : Exit → (Nat → Value) → Heap → Prop := thenK (iwpP P c61z14 (K61z0 P K)) (K61z0 P K)
def K61z16 (P : Program) (K : Value → Heap → Prop) : Exit → (Nat → Value) → Heap → Prop := inBlockK 0 (K61z14 P K)
def K61z17 (P : Program) (K : Value → Heap → Prop) (k0 t6 x23 x24 : Value) (L1 : List Value → Heap → Prop) : Exit → (Nat → Value) → Heap → Prop := thenK (fun f' h'' => (([0, 6, 23, 24] : List Nat).map f' : List Value) = [k0, t6, x23, x24] ∧ L1 (([25] : List Nat).map f') h'') (K61z16 P K)
def K61z20 (P : Program) (K : Value → Heap → Prop) (k0 t6 x23 x24 : Value) (L1 : List Value → Heap → Prop) : Exit → (Nat → Value) → Heap → Prop := thenK (iwpP P c61z20 (K61z17 P K k0 t6 x23 x24 L1)) (K61z17 P K k0 t6 x23 x24 L1)
def K61z21 (P : Program) (K : Value → Heap → Prop) (k0 t6 x23 x24 : Value) (L1 : List Value → Heap → Prop) : Exit → (Nat → Value) → Heap → Prop := inBlockK 1 (K61z20 P K k0 t6 x23 x24 L1)
def K61z23 (P : Program) (K : Value → Heap → Prop) (k0 t6 x23 x24 : Value) (L1 : List Value → Heap → Prop) : Exit → (Nat → Value) → Heap → Prop := thenK (iwpP P c61z23 (K61z21 P K k0 t6 x23 x24 L1)) (K61z21 P K k0 t6 x23 x24 L1)
def K61z24 (P : Program) (K : Value → Heap → Prop) (k0 t6 x23 x24 : Value) (L1 : List Value → Heap → Prop) : Exit → (Nat → Value) → Heap → Prop := thenK (iwpP P c61z24 (K61z23 P K k0 t6 x23 x24 L1)) (K61z23 P K k0 t6 x23 x24 L1)
def p61z5 (P : Program) (K : Value → Heap → Prop) (k0 pairs1 x11 : Value) (h : Heap) : Prop := CutP (iwpP P c61z5 (K61z3 P K)) [0, 1, 11] [k0, pairs1, x11] h
def p61z7 (P : Program) (K : Value → Heap → Prop) (k0 pairs1 x11 x13 : Value) (h : Heap) : Prop := CutP (iwpP P c61z7 (K61z3 P K)) [0, 1, 11, 13] [k0, pairs1, x11, x13] h
def p61z9 (P : Program) (K : Value → Heap → Prop) (k0 pairs1 x15 : Value) (h : Heap) : Prop := CutP (iwpP P c61z9 (K61z3 P K)) [0, 1, 15] [k0, pairs1, x15] h
def p61z11 (P : Program) (K : Value → Heap → Prop) (k0 pairs1 x15 x18 : Value) (h : Heap) : Prop := CutP (iwpP P c61z11 (K61z3 P K)) [0, 1, 15, 18] [k0, pairs1, x15, x18] h
def p61z17 (P : Program) (K : Value → Heap → Prop) (k0 t6 x23 x24 : Value) (L1 : List Value → Heap → Prop) (xs : List Value) (h : Heap) : Prop := CutP (iwpP P c61z17 (K61z17 P K k0 t6 x23 x24 L1)) ([0, 6, 23, 24] ++ [25]) ([k0, t6, x23, x24] ++ xs) h
def p61z26 (P : Program) (K : Value → Heap → Prop) (k0 t6 p8 x23 x24 x25 x35 : Value) (L1 : List Value → Heap → Prop) (h : Heap) : Prop := CutP (iwpP P c61z26 (K61z24 P K k0 t6 x23 x24 L1)) [0, 6, 8, 23, 24, 25, 35] [k0, t6, p8, x23, x24, x25, x35] h
def p61z28 (P : Program) (K : Value → Heap → Prop) (k0 t6 p8 x23 x24 x25 x35 x42 : Value) (L1 : List Value → Heap → Prop) (h : Heap) : Prop := CutP (iwpP P c61z28 (K61z24 P K k0 t6 x23 x24 L1)) [0, 6, 8, 23, 24, 25, 35, 42] [k0, t6, p8, x23, x24, x25, x35, x42] h
def p61z30 (P : Program) (K : Value → Heap → Prop) (k0 t6 p8 x23 x24 x25 x44 : Value) (L1 : List Value → Heap → Prop) (h : Heap) : Prop := CutP (iwpP P c61z30 (K61z24 P K k0 t6 x23 x24 L1)) [0, 6, 8, 23, 24, 25, 44] [k0, t6, p8, x23, x24, x25, x44] h
def p61z32 (P : Program) (K : Value → Heap → Prop) (k0 t6 p8 x23 x24 x25 x44 x49 : Value) (L1 : List Value → Heap → Prop) (h : Heap) : Prop := CutP (iwpP P c61z32 (K61z24 P K k0 t6 x23 x24 L1)) [0, 6, 8, 23, 24, 25, 44, 49] [k0, t6, p8, x23, x24, x25, x44, x49] h
def p61z34 (P : Program) (K : Value → Heap → Prop) (t6 : Value) (h : Heap) : Prop := CutP (iwpP P c61z34 (K61z0 P K)) [6] [t6] h
theorem q61z11 (P : Program) (K : Value → Heap → Prop) (k0 pairs1 x15 x18 : Value) (h : Heap) : p61z11 P K k0 pairs1 x15 x18 h =
  (OP (iPick x15 (.bool true) x18) fun x19 =>
  IfP x19
    (K (.tuple #[(.pointer none), (.bool false)]) h)
    (OP (iBuild [(.int .i64 (0)), (.bool false), (.bool false), (.bool false), (.bool false), (.bool false), (.bool false), (.bool false), (.bool false), (.bool false), (.bool false), (.bool false), (.bool false), (.bool false), (.bool false), (.bool false), (.bool false), (.bool false), (.bool false), (.bool false), (.bool false), (.bool false), (.bool false), (.bool false), (.bool false), (.bool false), (.bool false), (.bool false), (.bool false), (.bool false), (.bool false), (.bool false), (.bool false), (.bool false), (.bool false), (.bool false), (.bool false)] [(0, 1, k0)]) fun x21 =>
    OH (iBox 138 h x21) fun x22 h_1 =>
    OP (iLenSl pairs1) fun x24 =>
    LoopP [(.int .i64 (0))] h_1 fun L1 xs hx =>
    p61z17 P K k0 x22 pairs1 x24 L1 xs hx)) := (CutP_def _ _ _ _).trans (by kernel_rfl)
theorem q61z9 (P : Program) (K : Value → Heap → Prop) (k0 pairs1 x15 : Value) (h : Heap) : p61z9 P K k0 pairs1 x15 h =
  (GdP x15 false
    (OP (iLenSl pairs1) fun x17 =>
    OP (iBin .gtr x17 (.int .i64 (30))) fun x18 =>
    p61z11 P K k0 pairs1 x15 x18 h)
    (p61z11 P K k0 pairs1 x15 undef h)) := (CutP_def _ _ _ _).trans (by kernel_rfl)
theorem q61z7 (P : Program) (K : Value → Heap → Prop) (k0 pairs1 x11 x13 : Value) (h : Heap) : p61z7 P K k0 pairs1 x11 x13 h =
  (OP (iPick x11 (.bool true) x13) fun x14 =>
  p61z9 P K k0 pairs1 x14 h) := (CutP_def _ _ _ _).trans (by kernel_rfl)
theorem q61z5 (P : Program) (K : Value → Heap → Prop) (k0 pairs1 x11 : Value) (h : Heap) : p61z5 P K k0 pairs1 x11 h =
  (GdP x11 false
    (OP (iBin .gtr k0 (.int .i64 (6))) fun x13 =>
    p61z7 P K k0 pairs1 x11 x13 h)
    (p61z7 P K k0 pairs1 x11 undef h)) := (CutP_def _ _ _ _).trans (by kernel_rfl)
theorem q61z32 (P : Program) (K : Value → Heap → Prop) (k0 t6 p8 x23 x24 x25 x44 x49 : Value) (L1 : List Value → Heap → Prop) (h : Heap) : p61z32 P K k0 t6 p8 x23 x24 x25 x44 x49 L1 h =
  (OP (iPick x44 (.bool true) x49) fun x50 =>
  IfP x50
    (K (.tuple #[(.pointer none), (.bool false)]) h)
    (OP (iFadr 0 p8) fun x52 =>
    OP (iLoad false 1 h x52) fun x53 =>
    (True) ∧
    OP (iFadr 1 p8) fun x54 =>
    OP (iLoad false 1 h x54) fun x55 =>
    (True) ∧
    OP (iFadr 1 p8) fun x57 =>
    OP (iLoad false 1 h x57) fun x58 =>
    (True) ∧
    OP (iFadr 0 p8) fun x59 =>
    OP (iLoad false 1 h x59) fun x60 =>
    (True) ∧
    OP (iNilck t6) fun x61 =>
    OP (iFadr 1 x61) fun x62 =>
    OP (iAdrArr 6 6 x62 x53) fun x63 =>
    OP (iAdrArr 6 1 x63 x55) fun x64 =>
    OH (oStore 1 h x64 (.bool true)) fun _ h_1 =>
    (iLoad false 1 h_1 x57 = some x58 ∧ iLoad false 1 h_1 x59 = some x60 ∧ True) ∧
    OP (iNilck t6) fun x65 =>
    OP (iFadr 1 x65) fun x66 =>
    OP (iAdrArr 6 6 x66 x58) fun x67 =>
    OP (iAdrArr 6 1 x67 x60) fun x68 =>
    OH (oStore 1 h_1 x68 (.bool true)) fun _ h_2 =>
    (True) ∧
    OP (iBin .add x25 (.int .i64 (1))) fun x69 =>
    ([k0, t6, x23, x24] : List Value) = [k0, t6, x23, x24] ∧ L1 [x69] h_2)) := (CutP_def _ _ _ _).trans (by kernel_rfl)
theorem q61z30 (P : Program) (K : Value → Heap → Prop) (k0 t6 p8 x23 x24 x25 x44 : Value) (L1 : List Value → Heap → Prop) (h : Heap) : p61z30 P K k0 t6 p8 x23 x24 x25 x44 L1 h =
  (GdP x44 false
    (OP (iFadr 0 p8) fun x45 =>
    OP (iLoad false 1 h x45) fun x46 =>
    OP (iFadr 1 p8) fun x47 =>
    OP (iLoad false 1 h x47) fun x48 =>
    OP (iBin .eql x46 x48) fun x49 =>
    p61z32 P K k0 t6 p8 x23 x24 x25 x44 x49 L1 h)
    (p61z32 P K k0 t6 p8 x23 x24 x25 x44 undef L1 h)) := (CutP_def _ _ _ _).trans (by kernel_rfl)
theorem q61z28 (P : Program) (K : Value → Heap → Prop) (k0 t6 p8 x23 x24 x25 x35 x42 : Value) (L1 : List Value → Heap → Prop) (h : Heap) : p61z28 P K k0 t6 p8 x23 x24 x25 x35 x42 L1 h =
  (OP (iPick x35 (.bool true) x42) fun x43 =>
  p61z30 P K k0 t6 p8 x23 x24 x25 x43 L1 h) := (CutP_def _ _ _ _).trans (by kernel_rfl)
theorem q61z26 (P : Program) (K : Value → Heap → Prop) (k0 t6 p8 x23 x24 x25 x35 : Value) (L1 : List Value → Heap → Prop) (h : Heap) : p61z26 P K k0 t6 p8 x23 x24 x25 x35 L1 h =
  (GdP x35 false
    (OP (iFadr 0 p8) fun x36 =>
    OP (iLoad false 1 h x36) fun x37 =>
    OP (iFadr 1 p8) fun x38 =>
    OP (iLoad false 1 h x38) fun x39 =>
    OP (iMinmax true [x37, x39]) fun x40 =>
    OP (iBin .geq x40 k0) fun x42 =>
    p61z28 P K k0 t6 p8 x23 x24 x25 x35 x42 L1 h)
    (p61z28 P K k0 t6 p8 x23 x24 x25 x35 undef L1 h)) := (CutP_def _ _ _ _).trans (by kernel_rfl)
theorem q61z17 (P : Program) (K : Value → Heap → Prop) (k0 t6 x23 x24 : Value) (L1 : List Value → Heap → Prop) (x25 : Value) (h : Heap) : p61z17 P K k0 t6 x23 x24 L1 [x25] h =
  (OP (iBin .lss x25 x24) fun x26 =>
  IfP x26
    (OP (iAdrSl 2 x23 x25) fun x27 =>
    OP (iLoad true 2 h x27) fun x28 =>
    OH (iAlloc 98 [(.int .i64 (0)), (.int .i64 (0))] h) fun p8 h_1 =>
    OH (oStore 2 h_1 p8 x28) fun _ h_2 =>
    OP (iFadr 0 p8) fun x29 =>
    OP (iLoad false 1 h_2 x29) fun x30 =>
    OP (iFadr 1 p8) fun x31 =>
    OP (iLoad false 1 h_2 x31) fun x32 =>
    OP (iMinmax false [x30, x32]) fun x33 =>
    OP (iBin .lss x33 (.int .i64 (0))) fun x34 =>
    p61z26 P K k0 t6 p8 x23 x24 x25 x34 L1 h_2)
    (p61z34 P K t6 h)) := (CutP_def _ _ _ _).trans (by kernel_rfl)
theorem q61z34 (P : Program) (K : Value → Heap → Prop) (t6 : Value) (h : Heap) : p61z34 P K t6 h =
  (K (.tuple #[t6, (.bool true)]) h) := (CutP_def _ _ _ _).trans (by kernel_rfl)
def T61 (P : Program) (K : Value → Heap → Prop) (k0 pairs1 : Value) (h : Heap) : Prop :=
  OP (iBin .lss k0 (.int .i64 (1))) fun x10 =>
  p61z5 P K k0 pairs1 x10 h
theorem e61 (P : Program) (K : Value → Heap → Prop) (k0 pairs1 : Value) (h : Heap) : iwpP P c61 (bodyP [.tmp 4, .tmp 5] K) (frame0 [k0, pairs1]) h = T61 P K k0 pairs1 h := by kernel_rfl
theorem f61 {K : Value → Heap → Prop} {k0 pairs1 : Value} {h : Heap} (H : T61 Try.prog K k0 pairs1 h) : CallP Try.prog 61 [k0, pairs1] h K :=
  callP_intro k61 (Nat.le_of_ble_eq_true rfl) ((e61 Try.prog K k0 pairs1 h).mpr H)
/-! F69: pommel/pommelref03.in -/
def c69z6 : ICode := .ops none [⟨(some 14), .p (.pick (.tmp 10) (.tmp 13) (.const (.bool false)))⟩,
   ⟨(some 6), .p (.mv (.tmp 14))⟩]
def c69z4 : ICode := .seq (.ops (some (10, true)) [⟨(some 11), .p (.mv (.tmp 0))⟩,
    ⟨(some 12), .p (.mv (.tmp 2))⟩,
    ⟨(some 13), .p (.bin .leq (.tmp 11) (.tmp 12))⟩])
 (.cut [10, 13] c69z6)
def c69z2 : ICode := .ret
def c69 : ICode := .seq (.ops none [⟨(some 6), .p (.mv (.const (.bool false)))⟩])
 (.seq (.seq (.ops none [⟨(some 7), .p (.mv (.tmp 0))⟩,
     ⟨(some 8), .p (.mv (.tmp 1))⟩,
     ⟨(some 9), .p (.bin .geq (.tmp 7) (.tmp 8))⟩,
     ⟨(some 10), .p (.mv (.tmp 9))⟩])
  (.cut [0, 2, 10] c69z4)) c69z2)
theorem k69 : compFn Try.prog 69 [[], [0, 2, 10], [10, 13], []] = some (15, c69, [.tmp 6]) := by kernel_rfl
def K69z0 (_P : Program) (K : Value → Heap → Prop) : Exit → (Nat → Value) → Heap → Prop := bodyP [.tmp 6] K
def K69z2 (P : Program) (K : Value → Heap → Prop) : Exit → (Nat → Value) → Heap → Prop := thenK (iwpP P c69z2 (K69z0 P K)) (K69z0 P K)
def p69z4 (P : Program) (K : Value → Heap → Prop) (v0 high2 x10 : Value) (h : Heap) : Prop := CutP (iwpP P c69z4 (K69z2 P K)) [0, 2, 10] [v0, high2, x10] h
def p69z6 (P : Program) (K : Value → Heap → Prop) (x10 x13 : Value) (h : Heap) : Prop := CutP (iwpP P c69z6 (K69z2 P K)) [10, 13] [x10, x13] h
theorem q69z6 (P : Program) (K : Value → Heap → Prop) (x10 x13 : Value) (h : Heap) : p69z6 P K x10 x13 h =
  (OP (iPick x10 x13 (.bool false)) fun x14 =>
  K x14 h) := (CutP_def _ _ _ _).trans (by kernel_rfl)
theorem q69z4 (P : Program) (K : Value → Heap → Prop) (v0 high2 x10 : Value) (h : Heap) : p69z4 P K v0 high2 x10 h =
  (GdP x10 true
    (OP (iBin .leq v0 high2) fun x13 =>
    p69z6 P K x10 x13 h)
    (p69z6 P K x10 undef h)) := (CutP_def _ _ _ _).trans (by kernel_rfl)
def T69 (P : Program) (K : Value → Heap → Prop) (v0 low1 high2 : Value) (h : Heap) : Prop :=
  OP (iBin .geq v0 low1) fun x9 =>
  p69z4 P K v0 high2 x9 h
theorem e69 (P : Program) (K : Value → Heap → Prop) (v0 low1 high2 : Value) (h : Heap) : iwpP P c69 (bodyP [.tmp 6] K) (frame0 [v0, low1, high2]) h = T69 P K v0 low1 high2 h := by kernel_rfl
theorem f69 {K : Value → Heap → Prop} {v0 low1 high2 : Value} {h : Heap} (H : T69 Try.prog K v0 low1 high2 h) : CallP Try.prog 69 [v0, low1, high2] h K :=
  callP_intro k69 (Nat.le_of_ble_eq_true rfl) ((e69 Try.prog K v0 low1 high2 h).mpr H)
/-! F81: (*pommel/stitch.threads).meets -/
def c81 : ICode := .seq (.ops none [⟨(some 6), .p (.mv (.const (.bool false)))⟩])
 (.seq (.ops none [⟨(some 7), .p (.mv (.tmp 0))⟩,
    ⟨(some 8), .p (.mv (.tmp 1))⟩,
    ⟨(some 9), .p (.bin .sub (.tmp 8) (.const (.int .u8 (97))))⟩,
    ⟨(some 10), .p (.mv (.tmp 2))⟩,
    ⟨(some 11), .p (.bin .sub (.tmp 10) (.const (.int .u8 (97))))⟩,
    ⟨(some 12), .p (.nilck (.tmp 7))⟩,
    ⟨(some 13), .p (.fadr 1 (.tmp 12))⟩,
    ⟨(some 14), .p (.adrArr 6 6 (.tmp 13) (.tmp 9))⟩,
    ⟨(some 15), .p (.adrArr 6 1 (.tmp 14) (.tmp 11))⟩,
    ⟨(some 16), .l (.load false 1 (.tmp 15))⟩,
    ⟨(some 17), .p (.un .not (.tmp 16))⟩,
    ⟨(some 6), .p (.mv (.tmp 17))⟩])
 (.ret))
theorem k81 : compFn Try.prog 81 [[], []] = some (18, c81, [.tmp 6]) := by kernel_rfl
def K81z0 (_P : Program) (K : Value → Heap → Prop) : Exit → (Nat → Value) → Heap → Prop := bodyP [.tmp 6] K
def T81 (P : Program) (K : Value → Heap → Prop) (t0 a1 b2 : Value) (h : Heap) : Prop :=
  OP (iBin .sub a1 (.int .u8 (97))) fun x9 =>
  OP (iBin .sub b2 (.int .u8 (97))) fun x11 =>
  OP (iNilck t0) fun x12 =>
  OP (iFadr 1 x12) fun x13 =>
  OP (iAdrArr 6 6 x13 x9) fun x14 =>
  OP (iAdrArr 6 1 x14 x11) fun x15 =>
  OP (iLoad false 1 h x15) fun x16 =>
  OP (iUn .not x16) fun x17 =>
  K x17 h
theorem e81 (P : Program) (K : Value → Heap → Prop) (t0 a1 b2 : Value) (h : Heap) : iwpP P c81 (bodyP [.tmp 6] K) (frame0 [t0, a1, b2]) h = T81 P K t0 a1 b2 h := by kernel_rfl
theorem f81 {K : Value → Heap → Prop} {t0 a1 b2 : Value} {h : Heap} (H : T81 Try.prog K t0 a1 b2 h) : CallP Try.prog 81 [t0, a1, b2] h K :=
  callP_intro k81 (Nat.le_of_ble_eq_true rfl) ((e81 Try.prog K t0 a1 b2 h).mpr H)
/-! F84: (*pommel/stitch.threads).front -/
def c84z5 : ICode := .seq (.ops none [⟨(some 11), .p (.bin .lss (.tmp 10) (.tmp 9))⟩])
 (.seq (.cond (.tmp 11) (.skip)
  (.exit 0))
 (.seq (.block 1 (.seq (.ops none [⟨(some 12), .p (.mv (.tmp 10))⟩,
      ⟨(some 7), .p (.mv (.tmp 12))⟩])
   (.seq (.seq (.ops none [⟨(some 13), .p (.mv (.tmp 1))⟩,
       ⟨(some 14), .p (.mv (.tmp 7))⟩,
       ⟨(some 15), .p (.idxS (.tmp 13) (.tmp 14))⟩,
       ⟨(some 16), .p (.mv (.tmp 2))⟩,
       ⟨(some 17), .p (.bin .eql (.tmp 15) (.tmp 16))⟩])
    (.cond (.tmp 17) (.seq (.ops none [⟨(some 18), .p (.mv (.tmp 7))⟩,
        ⟨(some 6), .p (.mv (.tmp 18))⟩])
     (.ret))
    (.skip)))
   (.seq (.ops none [⟨(some 19), .p (.mv (.tmp 0))⟩,
      ⟨(some 20), .p (.mv (.tmp 1))⟩,
      ⟨(some 21), .p (.mv (.tmp 7))⟩,
      ⟨(some 22), .p (.idxS (.tmp 20) (.tmp 21))⟩,
      ⟨(some 23), .p (.mv (.tmp 2))⟩,
      ⟨(some 24), .call 81 [(.tmp 19), (.tmp 22), (.tmp 23)]⟩])
   (.cond (.tmp 24) (.seq (.ops none [⟨(some 6), .p (.mv (.const (.int .i64 (-1))))⟩])
    (.ret))
   (.skip))))))
 (.ops none [⟨(some 25), .p (.bin .add (.tmp 10) (.const (.int .i64 (1))))⟩,
   ⟨(some 10), .p (.mv (.tmp 25))⟩])))
def c84z2 : ICode := .seq (.ops none [⟨(some 6), .p (.mv (.const (.int .i64 (-1))))⟩])
 (.ret)
def c84 : ICode := .seq (.ops none [⟨(some 6), .p (.mv (.const (.int .i64 (0))))⟩])
 (.seq (.seq (.ops none [⟨(some 8), .p (.mv (.tmp 1))⟩,
     ⟨(some 9), .p (.lenS (.tmp 8))⟩,
     ⟨(some 10), .p (.mv (.const (.int .i64 (0))))⟩])
  (.block 0 (.loop [0, 1, 2, 9] [10] c84z5))) c84z2)
theorem k84 : compFn Try.prog 84 [[], [], [0, 1, 2, 9], [10], [], [], [], [], [], [], [], [], [], [], []] = some (26, c84, [.tmp 6]) := by kernel_rfl
def K84z0 (_P : Program) (K : Value → Heap → Prop) : Exit → (Nat → Value) → Heap → Prop := bodyP [.tmp 6] K
def K84z2 (P : Program) (K : Value → Heap → Prop) : Exit → (Nat → Value) → Heap → Prop := thenK (iwpP P c84z2 (K84z0 P K)) (K84z0 P K)
def K84z4 (P : Program) (K : Value → Heap → Prop) : Exit → (Nat → Value) → Heap → Prop := inBlockK 0 (K84z2 P K)
def K84z5 (P : Program) (K : Value → Heap → Prop) (t0 s1 c2 x9 : Value) (L1 : List Value → Heap → Prop) : Exit → (Nat → Value) → Heap → Prop := thenK (fun f' h'' => (([0, 1, 2, 9] : List Nat).map f' : List Value) = [t0, s1, c2, x9] ∧ L1 (([10] : List Nat).map f') h'') (K84z4 P K)
def p84z5 (P : Program) (K : Value → Heap → Prop) (t0 s1 c2 x9 : Value) (L1 : List Value → Heap → Prop) (xs : List Value) (h : Heap) : Prop := CutP (iwpP P c84z5 (K84z5 P K t0 s1 c2 x9 L1)) ([0, 1, 2, 9] ++ [10]) ([t0, s1, c2, x9] ++ xs) h
theorem q84z5 (P : Program) (K : Value → Heap → Prop) (t0 s1 c2 x9 : Value) (L1 : List Value → Heap → Prop) (x10 : Value) (h : Heap) : p84z5 P K t0 s1 c2 x9 L1 [x10] h =
  (OP (iBin .lss x10 x9) fun x11 =>
  IfP x11
    (OP (iIdxS s1 x10) fun x15 =>
    OP (iBin .eql x15 c2) fun x17 =>
    IfP x17
      (K x10 h)
      (OP (iIdxS s1 x10) fun x22 =>
      CallP P 81 [t0, x22, c2] h fun x24 h_1 =>
      IfP x24
        (K (.int .i64 (-1)) h_1)
        (OP (iBin .add x10 (.int .i64 (1))) fun x25 =>
        ([t0, s1, c2, x9] : List Value) = [t0, s1, c2, x9] ∧ L1 [x25] h_1)))
    (K (.int .i64 (-1)) h)) := (CutP_def _ _ _ _).trans (by kernel_rfl)
def T84 (P : Program) (K : Value → Heap → Prop) (t0 s1 c2 : Value) (h : Heap) : Prop :=
  OP (iLenS s1) fun x9 =>
  LoopP [(.int .i64 (0))] h fun L1 xs hx =>
  p84z5 P K t0 s1 c2 x9 L1 xs hx
theorem e84 (P : Program) (K : Value → Heap → Prop) (t0 s1 c2 : Value) (h : Heap) : iwpP P c84 (bodyP [.tmp 6] K) (frame0 [t0, s1, c2]) h = T84 P K t0 s1 c2 h := by kernel_rfl
theorem f84 {K : Value → Heap → Prop} {t0 s1 c2 : Value} {h : Heap} (H : T84 Try.prog K t0 s1 c2 h) : CallP Try.prog 84 [t0, s1, c2] h K :=
  callP_intro k84 (Nat.le_of_ble_eq_true rfl) ((e84 Try.prog K t0 s1 c2 h).mpr H)
/-! F85: pommel/stitch.without -/
def c85 : ICode := .seq (.ops none [⟨(some 4), .p (.mv (.const (.string ⟨#[]⟩)))⟩])
 (.seq (.dops [(none, [⟨(some 5), .p (.mv (.tmp 0)), 0⟩,
    ⟨(some 6), .p (.mv (.tmp 1)), 0⟩,
    ⟨(some 7), .p (.slS (.tmp 5) none (some (.tmp 6))), 3⟩,
    ⟨(some 8), .p (.mv (.tmp 0)), 0⟩,
    ⟨(some 9), .p (.mv (.tmp 1)), 0⟩,
    ⟨(some 10), .p (.bin .add (.tmp 9) (.const (.int .i64 (1)))), 16⟩,
    ⟨(some 11), .p (.slS (.tmp 8) (some (.tmp 10)) none), 56⟩,
    ⟨(some 12), .p (.bin .add (.tmp 7) (.tmp 11)), 127⟩,
    ⟨(some 4), .p (.mv (.tmp 12)), 255⟩])])
 (.ret))
theorem k85 : compFn Try.prog 85 [[], []] = some (13, c85, [.tmp 4]) := by kernel_rfl
def K85z0 (_P : Program) (K : Value → Heap → Prop) : Exit → (Nat → Value) → Heap → Prop := bodyP [.tmp 4] K
def T85 (P : Program) (K : Value → Heap → Prop) (s0 i1 : Value) (h : Heap) : Prop :=
  OP (iSlS s0 none (some i1)) fun x7 =>
  OP (iBin .add i1 (.int .i64 (1))) fun x10 =>
  OP (iSlS s0 (some x10) none) fun x11 =>
  OP (iBin .add x7 x11) fun x12 =>
  K x12 h
theorem e85 (P : Program) (K : Value → Heap → Prop) (s0 i1 : Value) (h : Heap) : iwpP P c85 (bodyP [.tmp 4] K) (frame0 [s0, i1]) h = T85 P K s0 i1 h := by kernel_rfl
theorem f85 {K : Value → Heap → Prop} {s0 i1 : Value} {h : Heap} (H : T85 Try.prog K s0 i1 h) : CallP Try.prog 85 [s0, i1] h K :=
  callP_intro k85 (Nat.le_of_ble_eq_true rfl) ((e85 Try.prog K s0 i1 h).mpr H)
end Go.Proofs.Ytjdlcokhlphmhaa
