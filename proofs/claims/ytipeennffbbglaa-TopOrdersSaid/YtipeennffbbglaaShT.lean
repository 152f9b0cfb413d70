/-
  Ideal code of the functions that the proof reaches, written by program; the kernel holds it against the code.
-/
import Derived.Test.YtipeennffbbglaaProg
import Derived.Test.YtipeennffbbglaaSim20
import Derived.KernelRfl
namespace Go.Proofs.Ytipeennffbbglaa
open Go.Sim
/-! F4: pommel/pommelref03.Free -/
noncomputable def c4z23 : ICode := .ops none [⟨(some 47), .p (.pick (.tmp 38) (.const (.bool true)) (.tmp 46))⟩]
noncomputable def c4z21 : ICode := .seq (.ops (some (38, false)) [⟨(some 46), .p (.pick (.tmp 42) (.tmp 45) (.const (.bool false)))⟩])
 (.cut [0, 1, 2, 7, 38, 46] c4z23)
noncomputable def c4z19 : ICode := .seq (.ops (some (42, true)) [⟨(some 43), .p (.mv (.tmp 9))⟩,
    ⟨(some 44), .p (.mv (.tmp 1))⟩,
    ⟨(some 45), .p (.bin .eql (.tmp 43) (.tmp 44))⟩])
 (.cut [0, 1, 2, 7, 38, 42, 45] c4z21)
noncomputable def c4z17 : ICode := .seq (.ops (some (38, false)) [⟨(some 39), .p (.mv (.tmp 8))⟩,
    ⟨(some 40), .p (.mv (.tmp 2))⟩,
    ⟨(some 41), .p (.bin .eql (.tmp 39) (.tmp 40))⟩,
    ⟨(some 42), .p (.mv (.tmp 41))⟩])
 (.cut [0, 1, 2, 7, 9, 38, 42] c4z19)
noncomputable def c4z15 : ICode := .seq (.ops none [⟨(some 37), .p (.pick (.tmp 33) (.tmp 36) (.const (.bool false)))⟩,
    ⟨(some 38), .p (.mv (.tmp 37))⟩])
 (.cut [0, 1, 2, 7, 8, 9, 38] c4z17)
noncomputable def c4z13 : ICode := .seq (.ops (some (33, true)) [⟨(some 34), .p (.mv (.tmp 9))⟩,
    ⟨(some 35), .p (.mv (.tmp 2))⟩,
    ⟨(some 36), .p (.bin .eql (.tmp 34) (.tmp 35))⟩])
 (.cut [0, 1, 2, 7, 8, 9, 33, 36] c4z15)
noncomputable def c4z11 : ICode := .cond (.tmp 47) (.seq (.ops none [⟨(some 6), .p (.mv (.const (.bool true)))⟩])
  (.ret))
 (.skip)
noncomputable def c4z8 : ICode := .ops none [⟨(some 14), .p (.mv (.tmp 7))⟩,
   ⟨(some 15), .p (.bin .add (.tmp 14) (.const (.int .i64 (1))))⟩,
   ⟨(some 7), .p (.mv (.tmp 15))⟩]
noncomputable def c4z5 : ICode := .seq (.seq (.ops none [⟨(some 10), .p (.mv (.tmp 7))⟩,
     ⟨(some 11), .p (.mv (.tmp 0))⟩,
     ⟨(some 12), .p (.lenSl (.tmp 11))⟩,
     ⟨(some 13), .p (.bin .lss (.tmp 10) (.tmp 12))⟩])
  (.cond (.tmp 13) (.skip)
  (.exit 0)))
 (.seq (.block 1 (.seq (.dops [(none, [⟨(some 16), .p (.mv (.tmp 0)), 0⟩,
      ⟨(some 17), .p (.mv (.tmp 7)), 0⟩,
      ⟨(some 18), .p (.adrSl 2 (.tmp 16) (.tmp 17)), 3⟩,
      ⟨(some 19), .p (.fadr 0 (.tmp 18)), 7⟩,
      ⟨(some 20), .l (.load false 1 (.tmp 19)), 15⟩,
      ⟨(some 21), .p (.bin .add (.const (.int .i64 (97))) (.tmp 20)), 31⟩,
      ⟨(some 22), .p (.conv .u8 (.tmp 21)), 63⟩,
      ⟨(some 23), .p (.mv (.tmp 0)), 0⟩,
      ⟨(some 24), .p (.mv (.tmp 7)), 0⟩,
      ⟨(some 25), .p (.adrSl 2 (.tmp 23) (.tmp 24)), 384⟩,
      ⟨(some 26), .p (.fadr 1 (.tmp 25)), 896⟩,
      ⟨(some 27), .l (.load false 1 (.tmp 26)), 1920⟩,
      ⟨(some 28), .p (.bin .add (.const (.int .i64 (97))) (.tmp 27)), 3968⟩,
      ⟨(some 29), .p (.conv .u8 (.tmp 28)), 8064⟩,
      ⟨(some 8), .p (.mv (.tmp 22)), 127⟩,
      ⟨(some 9), .p (.mv (.tmp 29)), 32767⟩])])
   (.seq (.seq (.ops none [⟨(some 30), .p (.mv (.tmp 8))⟩,
       ⟨(some 31), .p (.mv (.tmp 1))⟩,
       ⟨(some 32), .p (.bin .eql (.tmp 30) (.tmp 31))⟩,
       ⟨(some 33), .p (.mv (.tmp 32))⟩])
    (.cut [0, 1, 2, 7, 8, 9, 33] c4z13)) c4z11))) c4z8)
noncomputable def c4z2 : ICode := .seq (.ops none [⟨(some 6), .p (.mv (.const (.bool false)))⟩])
 (.ret)
noncomputable def c4 : ICode := .seq (.ops none [⟨(some 6), .p (.mv (.const (.bool false)))⟩])
 (.seq (.seq (.ops none [⟨(some 7), .p (.mv (.const (.int .i64 (0))))⟩])
  (.block 0 (.loop [0, 1, 2] [7] c4z5))) c4z2)
theorem k4 : compFn Try.prog 4 [[], [], [0, 1, 2], [7], [], [], [], [0, 1, 2, 7, 8, 9, 33], [0, 1, 2, 7, 8, 9, 33, 36], [0, 1, 2, 7, 8, 9, 38], [0, 1, 2, 7, 9, 38, 42], [0, 1, 2, 7, 38, 42, 45], [0, 1, 2, 7, 38, 46], [], [], [], [], []] = some (48, c4, [.tmp 6]) := by kernel_rfl
def K4z0 (_P : Program) (K : Value → Heap → Prop) : Exit → (Nat → Value) → Heap → Prop := bodyP [.tmp 6] K
def K4z2 (P : Program) (K : Value → Heap → Prop) : Exit → (Nat → Value) → Heap → Prop := thenK (iwpP P c4z2 (K4z0 P K)) (K4z0 P K)
def K4z4 (P : Program) (K : Value → Heap → Prop) : Exit → (Nat → Value) → Heap → Prop := inBlockK 0 (K4z2 P K)
def K4z5 (P : Program) (K : Value → Heap → Prop) (pairs0 x1 y2 : Value) (L1 : List Value → Heap → Prop) : Exit → (Nat → Value) → Heap → Prop := thenK (fun f' h'' => (([0, 1, 2] : List Nat).map f' : List Value) = [pairs0, x1, y2] ∧ L1 (([7] : List Nat).map f') h'') (K4z4 P K)
def K4z8 (P : Program) (K : Value → Heap → Prop) (pairs0 x1 y2 : Value) (L1 : List Value → Heap → Prop) : Exit → (Nat → Value) → Heap → Prop := thenK (iwpP P c4z8 (K4z5 P K pairs0 x1 y2 L1)) (K4z5 P K pairs0 x1 y2 L1)
def K4z9 (P : Program) (K : Value → Heap → Prop) (pairs0 x1 y2 : Value) (L1 : List Value → Heap → Prop) : Exit → (Nat → Value) → Heap → Prop := inBlockK 1 (K4z8 P K pairs0 x1 y2 L1)
def K4z11 (P : Program) (K : Value → Heap → Prop) (pairs0 x1 y2 : Value) (L1 : List Value → Heap → Prop) : Exit → (Nat → Value) → Heap → Prop := thenK (iwpP P c4z11 (K4z9 P K pairs0 x1 y2 L1)) (K4z9 P K pairs0 x1 y2 L1)
def p4z5 (P : Program) (K : Value → Heap → Prop) (pairs0 x1 y2 : Value) (L1 : List Value → Heap → Prop) (xs : List Value) (h : Heap) : Prop := CutP (iwpP P c4z5 (K4z5 P K pairs0 x1 y2 L1)) ([0, 1, 2] ++ [7]) ([pairs0, x1, y2] ++ xs) h
def p4z13 (P : Program) (K : Value → Heap → Prop) (pairs0 x1 y2 i7 a8 c9 x33 : Value) (L1 : List Value → Heap → Prop) (h : Heap) : Prop := CutP (iwpP P c4z13 (K4z11 P K pairs0 x1 y2 L1)) [0, 1, 2, 7, 8, 9, 33] [pairs0, x1, y2, i7, a8, c9, x33] h
def p4z15 (P : Program) (K : Value → Heap → Prop) (pairs0 x1 y2 i7 a8 c9 x33 x36 : Value) (L1 : List Value → Heap → Prop) (h : Heap) : Prop := CutP (iwpP P c4z15 (K4z11 P K pairs0 x1 y2 L1)) [0, 1, 2, 7, 8, 9, 33, 36] [pairs0, x1, y2, i7, a8, c9, x33, x36] h
def p4z17 (P : Program) (K : Value → Heap → Prop) (pairs0 x1 y2 i7 a8 c9 x38 : Value) (L1 : List Value → Heap → Prop) (h : Heap) : Prop := CutP (iwpP P c4z17 (K4z11 P K pairs0 x1 y2 L1)) [0, 1, 2, 7, 8, 9, 38] [pairs0, x1, y2, i7, a8, c9, x38] h
def p4z19 (P : Program) (K : Value → Heap → Prop) (pairs0 x1 y2 i7 c9 x38 x42 : Value) (L1 : List Value → Heap → Prop) (h : Heap) : Prop := CutP (iwpP P c4z19 (K4z11 P K pairs0 x1 y2 L1)) [0, 1, 2, 7, 9, 38, 42] [pairs0, x1, y2, i7, c9, x38, x42] h
def p4z21 (P : Program) (K : Value → Heap → Prop) (pairs0 x1 y2 i7 x38 x42 x45 : Value) (L1 : List Value → Heap → Prop) (h : Heap) : Prop := CutP (iwpP P c4z21 (K4z11 P K pairs0 x1 y2 L1)) [0, 1, 2, 7, 38, 42, 45] [pairs0, x1, y2, i7, x38, x42, x45] h
def p4z23 (P : Program) (K : Value → Heap → Prop) (pairs0 x1 y2 i7 x38 x46 : Value) (L1 : List Value → Heap → Prop) (h : Heap) : Prop := CutP (iwpP P c4z23 (K4z11 P K pairs0 x1 y2 L1)) [0, 1, 2, 7, 38, 46] [pairs0, x1, y2, i7, x38, x46] h
theorem q4z23 (P : Program) (K : Value → Heap → Prop) (pairs0 x1 y2 i7 x38 x46 : Value) (L1 : List Value → Heap → Prop) (h : Heap) : p4z23 P K pairs0 x1 y2 i7 x38 x46 L1 h =
  (OP (iPick x38 (.bool true) x46) fun x47 =>
  IfP x47
    (K (.bool true) h)
    (OP (iBin .add i7 (.int .i64 (1))) fun x15 =>
    ([pairs0, x1, y2] : List Value) = [pairs0, x1, y2] ∧ L1 [x15] h)) := (CutP_def _ _ _ _).trans (by kernel_rfl)
theorem q4z21 (P : Program) (K : Value → Heap → Prop) (pairs0 x1 y2 i7 x38 x42 x45 : Value) (L1 : List Value → Heap → Prop) (h : Heap) : p4z21 P K pairs0 x1 y2 i7 x38 x42 x45 L1 h =
  (GdP x38 false
    (OP (iPick x42 x45 (.bool false)) fun x46 =>
    p4z23 P K pairs0 x1 y2 i7 x38 x46 L1 h)
    (p4z23 P K pairs0 x1 y2 i7 x38 undef L1 h)) := (CutP_def _ _ _ _).trans (by kernel_rfl)
theorem q4z19 (P : Program) (K : Value → Heap → Prop) (pairs0 x1 y2 i7 c9 x38 x42 : Value) (L1 : List Value → Heap → Prop) (h : Heap) : p4z19 P K pairs0 x1 y2 i7 c9 x38 x42 L1 h =
  (GdP x42 true
    (OP (iBin .eql c9 x1) fun x45 =>
    p4z21 P K pairs0 x1 y2 i7 x38 x42 x45 L1 h)
    (p4z21 P K pairs0 x1 y2 i7 x38 x42 undef L1 h)) := (CutP_def _ _ _ _).trans (by kernel_rfl)
theorem q4z17 (P : Program) (K : Value → Heap → Prop) (pairs0 x1 y2 i7 a8 c9 x38 : Value) (L1 : List Value → Heap → Prop) (h : Heap) : p4z17 P K pairs0 x1 y2 i7 a8 c9 x38 L1 h =
  (GdP x38 false
    (OP (iBin .eql a8 y2) fun x41 =>
    p4z19 P K pairs0 x1 y2 i7 c9 x38 x41 L1 h)
    (p4z19 P K pairs0 x1 y2 i7 c9 x38 undef L1 h)) := (CutP_def _ _ _ _).trans (by kernel_rfl)
theorem q4z15 (P : Program) (K : Value → Heap → Prop) (pairs0 x1 y2 i7 a8 c9 x33 x36 : Value) (L1 : List Value → Heap → Prop) (h : Heap) : p4z15 P K pairs0 x1 y2 i7 a8 c9 x33 x36 L1 h =
  (OP (iPick x33 x36 (.bool false)) fun x37 =>
  p4z17 P K pairs0 x1 y2 i7 a8 c9 x37 L1 h) := (CutP_def _ _ _ _).trans (by kernel_rfl)
theorem q4z13 (P : Program) (K : Value → Heap → Prop) (pairs0 x1 y2 i7 a8 c9 x33 : Value) (L1 : List Value → Heap → Prop) (h : Heap) : p4z13 P K pairs0 x1 y2 i7 a8 c9 x33 L1 h =
  (GdP x33 true
    (OP (iBin .eql c9 y2) fun x36 =>
    p4z15 P K pairs0 x1 y2 i7 a8 c9 x33 x36 L1 h)
    (p4z15 P K pairs0 x1 y2 i7 a8 c9 x33 undef L1 h)) := (CutP_def _ _ _ _).trans (by kernel_rfl)
theorem q4z5 (P : Program) (K : Value → Heap → Prop) (pairs0 x1 y2 : Value) (L1 : List Value → Heap → Prop) (i7 : Value) (h : Heap) : p4z5 P K pairs0 x1 y2 L1 [i7] h =
  (OP (iLenSl pairs0) fun x12 =>
  OP (iBin .lss i7 x12) fun x13 =>
  IfP x13
    (OP (iAdrSl 2 pairs0 i7) fun x18 =>
    OP (iFadr 0 x18) fun x19 =>
    OP (iLoad false 1 h x19) fun x20 =>
    (True) ∧
    OP (iBin .add (.int .i64 (97)) x20) fun x21 =>
    OP (iConv .u8 x21) fun x22 =>
    OP (iAdrSl 2 pairs0 i7) fun x25 =>
    OP (iFadr 1 x25) fun x26 =>
    OP (iLoad false 1 h x26) fun x27 =>
    (True) ∧
    OP (iBin .add (.int .i64 (97)) x27) fun x28 =>
    OP (iConv .u8 x28) fun x29 =>
    OP (iBin .eql x22 x1) fun x32 =>
    p4z13 P K pairs0 x1 y2 i7 x22 x29 x32 L1 h)
    (K (.bool false) h)) := (CutP_def _ _ _ _).trans (by kernel_rfl)
def T4 (P : Program) (K : Value → Heap → Prop) (pairs0 x1 y2 : Value) (h : Heap) : Prop :=
  LoopP [(.int .i64 (0))] h fun L1 xs hx =>
  p4z5 P K pairs0 x1 y2 L1 xs hx
theorem e4 (P : Program) (K : Value → Heap → Prop) (pairs0 x1 y2 : Value) (h : Heap) : iwpP P c4 (bodyP [.tmp 6] K) (frame0 [pairs0, x1, y2]) h = T4 P K pairs0 x1 y2 h := by kernel_rfl
theorem f4 {K : Value → Heap → Prop} {pairs0 x1 y2 : Value} {h : Heap} (H : T4 Try.prog K pairs0 x1 y2 h) : CallP Try.prog 4 [pairs0, x1, y2] h K :=
  callP_intro k4 (Nat.le_of_ble_eq_true rfl) ((e4 Try.prog K pairs0 x1 y2 h).mpr H)
/-! F5: pommel/stitch.Ways -/
noncomputable def c5 : ICode := .seq (.ops none [⟨(some 6), .p (.mv (.const (.int .i64 (0))))⟩,
    ⟨(some 7), .p (.mv (.const (.int .i64 (0))))⟩])
 (.seq (.ops none [⟨(some 13), .p (.mv (.tmp 0))⟩,
    ⟨(some 14), .p (.mv (.tmp 1))⟩,
    ⟨(some 15), .p (.mv (.tmp 2))⟩,
    ⟨(some 16), .e (.mkSl 9 1 [(.string ⟨#[]⟩)] [(0, 1, (.tmp 15))])⟩,
    ⟨(some 17), .call 15 [(.tmp 13), (.tmp 14), (.const (.int .i64 (16))), (.tmp 16)]⟩,
    ⟨(some 12), .p (.mv (.tmp 17))⟩,
    ⟨(some 18), .p (.ext (.tmp 12) 0)⟩,
    ⟨(some 19), .p (.ext (.tmp 12) 1)⟩,
    ⟨(some 8), .e (.alloc 49 [(.pointer none)])⟩,
    ⟨none, .e (.store 1 (.tmp 8) (.tmp 18))⟩,
    ⟨(some 9), .p (.mv (.tmp 19))⟩])
 (.seq (.seq (.ops none [⟨(some 20), .p (.mv (.tmp 9))⟩,
     ⟨(some 21), .p (.bin .neq (.tmp 20) (.const (.int .i64 (0))))⟩])
  (.cond (.tmp 21) (.seq (.ops none [⟨(some 22), .p (.mv (.tmp 9))⟩,
      ⟨(some 6), .p (.mv (.const (.int .i64 (0))))⟩,
      ⟨(some 7), .p (.mv (.tmp 22))⟩])
   (.ret))
  (.skip)))
 (.seq (.ops none [⟨(some 23), .e (.mkMap)⟩,
    ⟨none, .e (.mupd (.tmp 23) (.const (.string ⟨#[]⟩)) (.const (.int .i64 (1))))⟩,
    ⟨(some 24), .p (.mv (.tmp 23))⟩,
    ⟨(some 10), .e (.alloc 52 [(.map none)])⟩,
    ⟨none, .e (.store 1 (.tmp 10) (.tmp 24))⟩])
 (.seq (.ops none [⟨(some 11), .e (.alloc 53 [.nilFunc])⟩])
 (.seq (.ops none [⟨(some 25), .p (.fn 16 [] [(.tmp 10), (.tmp 8), (.tmp 11)])⟩,
    ⟨none, .e (.store 1 (.tmp 11) (.tmp 25))⟩])
 (.seq (.dops [(none, [⟨(some 26), .l (.load false 1 (.tmp 11)), 0⟩,
    ⟨(some 27), .l (.load false 1 (.tmp 8)), 0⟩,
    ⟨(some 28), .p (.mv (.tmp 2)), 0⟩,
    ⟨(some 29), .call 18 [(.tmp 27), (.tmp 28)], 6⟩,
    ⟨(some 30), .callv (.tmp 26) [(.tmp 29)], 15⟩,
    ⟨(some 6), .p (.mv (.tmp 30)), 31⟩,
    ⟨(some 7), .p (.mv (.const (.int .i64 (0)))), 63⟩])])
 (.ret)))))))
theorem k5 : compFn Try.prog 5 [[], [], [], [], [], [], [], [], []] = some (31, c5, [.tmp 6, .tmp 7]) := by kernel_rfl
def K5z0 (_P : Program) (K : Value → Heap → Prop) : Exit → (Nat → Value) → Heap → Prop := bodyP [.tmp 6, .tmp 7] K
def T5 (P : Program) (K : Value → Heap → Prop) (k0 pairs1 s2 : Value) (h : Heap) : Prop :=
  OH (iMkSl 9 1 [(.string ⟨#[]⟩)] h [(0, 1, s2)]) fun x16 h_1 =>
  CallP P 15 [k0, pairs1, (.int .i64 (16)), x16] h_1 fun x17 h_2 =>
  OP (iExt 0 x17) fun x18 =>
  OP (iExt 1 x17) fun x19 =>
  OH (iAlloc 49 [(.pointer none)] h_2) fun t8 h_3 =>
  OH (oStore 1 h_3 t8 x18) fun _ h_4 =>
  OP (iBin .neq x19 (.int .i64 (0))) fun x21 =>
  IfP x21
    (K (.tuple #[(.int .i64 (0)), x19]) h_4)
    (OH (iMkMap h_4) fun x23 h_5 =>
    OH (oMupd h_5 x23 (.string ⟨#[]⟩) (.int .i64 (1))) fun _ h_6 =>
    OH (iAlloc 52 [(.map none)] h_6) fun known10 h_7 =>
    OH (oStore 1 h_7 known10 x23) fun _ h_8 =>
    OH (iAlloc 53 [.nilFunc] h_8) fun ways11 h_9 =>
    OH (oStore 1 h_9 ways11 (.func (.func 16) #[] #[known10, t8, ways11])) fun _ h_10 =>
    OP (iLoad false 1 h_10 ways11) fun x26 =>
    (True) ∧
    OP (iLoad false 1 h_10 t8) fun x27 =>
    (True) ∧
    CallP P 18 [x27, s2] h_10 fun x29 h_11 =>
    (iLoad false 1 h_11 ways11 = some x26 ∧ True) ∧
    CallVP P x26 [x29] h_11 fun x30 h_12 =>
    (True) ∧
    K (.tuple #[x30, (.int .i64 (0))]) h_12)
theorem e5 (P : Program) (K : Value → Heap → Prop) (k0 pairs1 s2 : Value) (h : Heap) : iwpP P c5 (bodyP [.tmp 6, .tmp 7] K) (frame0 [k0, pairs1, s2]) h = T5 P K k0 pairs1 s2 h := by kernel_rfl
theorem f5 {K : Value → Heap → Prop} {k0 pairs1 s2 : Value} {h : Heap} (H : T5 Try.prog K k0 pairs1 s2 h) : CallP Try.prog 5 [k0, pairs1, s2] h K :=
  callP_intro k5 (Nat.le_of_ble_eq_true rfl) ((e5 Try.prog K k0 pairs1 s2 h).mpr H)
/-! F6: pommel/stitch.Heights -/
noncomputable def c6 : ICode := .seq (.ops none [⟨(some 6), .p (.mv (.const (.slice none 0 0)))⟩,
    ⟨(some 7), .p (.mv (.const (.int .i64 (0))))⟩])
 (.seq (.ops none [⟨(some 14), .p (.mv (.tmp 0))⟩,
    ⟨(some 15), .p (.mv (.tmp 1))⟩,
    ⟨(some 16), .p (.mv (.tmp 2))⟩,
    ⟨(some 17), .e (.mkSl 9 1 [(.string ⟨#[]⟩)] [(0, 1, (.tmp 16))])⟩,
    ⟨(some 18), .call 15 [(.tmp 14), (.tmp 15), (.const (.int .i64 (40))), (.tmp 17)]⟩,
    ⟨(some 13), .p (.mv (.tmp 18))⟩,
    ⟨(some 19), .p (.ext (.tmp 13) 0)⟩,
    ⟨(some 20), .p (.ext (.tmp 13) 1)⟩,
    ⟨(some 8), .p (.mv (.tmp 19))⟩,
    ⟨(some 9), .p (.mv (.tmp 20))⟩])
 (.seq (.seq (.ops none [⟨(some 21), .p (.mv (.tmp 9))⟩,
     ⟨(some 22), .p (.bin .neq (.tmp 21) (.const (.int .i64 (0))))⟩])
  (.cond (.tmp 22) (.seq (.ops none [⟨(some 23), .p (.mv (.tmp 9))⟩,
      ⟨(some 6), .p (.mv (.const (.slice none 0 0)))⟩,
      ⟨(some 7), .p (.mv (.tmp 23))⟩])
   (.ret))
  (.skip)))
 (.seq (.ops none [⟨(some 10), .e (.alloc 35 [(.slice none 0 0)])⟩])
 (.seq (.seq (.ops none [⟨(some 24), .p (.mv (.tmp 8))⟩,
     ⟨(some 25), .p (.mv (.tmp 2))⟩,
     ⟨(some 26), .call 20 [(.tmp 24), (.tmp 25)]⟩])
  (.block 0 (.range (.tmp 26) [10] (loopOf Try.prog 6))))
 (.seq (.ops none [⟨(some 33), .l (.load false 1 (.tmp 10))⟩,
    ⟨(some 6), .p (.mv (.tmp 33))⟩,
    ⟨(some 7), .p (.mv (.const (.int .i64 (0))))⟩])
 (.ret))))))
theorem k6 : compFn Try.prog 6 [[], [], [], [], [], [], [], [10], [], []] = some (34, c6, [.tmp 6, .tmp 7]) := by kernel_rfl
def K6z0 (_P : Program) (K : Value → Heap → Prop) : Exit → (Nat → Value) → Heap → Prop := bodyP [.tmp 6, .tmp 7] K
def T6 (P : Program) (K : Value → Heap → Prop) (k0 pairs1 s2 : Value) (h : Heap) : Prop :=
  OH (iMkSl 9 1 [(.string ⟨#[]⟩)] h [(0, 1, s2)]) fun x17 h_1 =>
  CallP P 15 [k0, pairs1, (.int .i64 (40)), x17] h_1 fun x18 h_2 =>
  OP (iExt 0 x18) fun x19 =>
  OP (iExt 1 x18) fun x20 =>
  OP (iBin .neq x20 (.int .i64 (0))) fun x22 =>
  IfP x22
    (K (.tuple #[(.slice none 0 0), x20]) h_2)
    (OH (iAlloc 35 [(.slice none 0 0)] h_2) fun out10 h_3 =>
    CallP P 20 [x19, s2] h_3 fun x26 h_4 =>
    RangeP P x26 [10] [out10] (loopOf Try.prog 6) h_4 fun h_5 =>
    OP (iLoad false 1 h_5 out10) fun x33 =>
    K (.tuple #[x33, (.int .i64 (0))]) h_5)
theorem e6 (P : Program) (K : Value → Heap → Prop) (k0 pairs1 s2 : Value) (h : Heap) : iwpP P c6 (bodyP [.tmp 6, .tmp 7] K) (frame0 [k0, pairs1, s2]) h = T6 P K k0 pairs1 s2 h := by kernel_rfl
theorem f6 {K : Value → Heap → Prop} {k0 pairs1 s2 : Value} {h : Heap} (H : T6 Try.prog K k0 pairs1 s2 h) : CallP Try.prog 6 [k0, pairs1, s2] h K :=
  callP_intro k6 (Nat.le_of_ble_eq_true rfl) ((e6 Try.prog K k0 pairs1 s2 h).mpr H)
/-! F11: pommel/stitch.Equal -/
noncomputable def c11 : ICode := .seq (.ops none [⟨(some 8), .p (.mv (.const (.bool false)))⟩,
    ⟨(some 9), .p (.mv (.const (.int .i64 (0))))⟩])
 (.seq (.ops none [⟨(some 13), .p (.mv (.tmp 0))⟩,
    ⟨(some 14), .p (.mv (.tmp 1))⟩,
    ⟨(some 15), .p (.mv (.tmp 2))⟩,
    ⟨(some 16), .p (.mv (.tmp 3))⟩,
    ⟨(some 17), .e (.mkSl 9 2 [(.string ⟨#[]⟩)] [(0, 1, (.tmp 15)), (1, 1, (.tmp 16))])⟩,
    ⟨(some 18), .call 15 [(.tmp 13), (.tmp 14), (.const (.int .i64 (40))), (.tmp 17)]⟩,
    ⟨(some 12), .p (.mv (.tmp 18))⟩,
    ⟨(some 19), .p (.ext (.tmp 12) 0)⟩,
    ⟨(some 20), .p (.ext (.tmp 12) 1)⟩,
    ⟨(some 10), .p (.mv (.tmp 19))⟩,
    ⟨(some 11), .p (.mv (.tmp 20))⟩])
 (.seq (.seq (.ops none [⟨(some 21), .p (.mv (.tmp 11))⟩,
     ⟨(some 22), .p (.bin .neq (.tmp 21) (.const (.int .i64 (0))))⟩])
  (.cond (.tmp 22) (.seq (.ops none [⟨(some 23), .p (.mv (.tmp 11))⟩,
      ⟨(some 8), .p (.mv (.const (.bool false)))⟩,
      ⟨(some 9), .p (.mv (.tmp 23))⟩])
   (.ret))
  (.skip)))
 (.seq (.ops none [⟨(some 24), .p (.mv (.tmp 10))⟩,
    ⟨(some 25), .p (.mv (.tmp 2))⟩,
    ⟨(some 26), .call 18 [(.tmp 24), (.tmp 25)]⟩,
    ⟨(some 27), .p (.mv (.tmp 10))⟩,
    ⟨(some 28), .p (.mv (.tmp 3))⟩,
    ⟨(some 29), .call 18 [(.tmp 27), (.tmp 28)]⟩,
    ⟨(some 30), .p (.bin .eql (.tmp 26) (.tmp 29))⟩,
    ⟨(some 8), .p (.mv (.tmp 30))⟩,
    ⟨(some 9), .p (.mv (.const (.int .i64 (0))))⟩])
 (.ret))))
theorem k11 : compFn Try.prog 11 [[], [], [], [], [], []] = some (31, c11, [.tmp 8, .tmp 9]) := by kernel_rfl
def K11z0 (_P : Program) (K : Value → Heap → Prop) : Exit → (Nat → Value) → Heap → Prop := bodyP [.tmp 8, .tmp 9] K
def T11 (P : Program) (K : Value → Heap → Prop) (k0 pairs1 s2 u3 : Value) (h : Heap) : Prop :=
  OH (iMkSl 9 2 [(.string ⟨#[]⟩)] h [(0, 1, s2), (1, 1, u3)]) fun x17 h_1 =>
  CallP P 15 [k0, pairs1, (.int .i64 (40)), x17] h_1 fun x18 h_2 =>
  OP (iExt 0 x18) fun x19 =>
  OP (iExt 1 x18) fun x20 =>
  OP (iBin .neq x20 (.int .i64 (0))) fun x22 =>
  IfP x22
    (K (.tuple #[(.bool false), x20]) h_2)
    (CallP P 18 [x19, s2] h_2 fun x26 h_3 =>
    CallP P 18 [x19, u3] h_3 fun x29 h_4 =>
    OP (iBin .eql x26 x29) fun x30 =>
    K (.tuple #[x30, (.int .i64 (0))]) h_4)
theorem e11 (P : Program) (K : Value → Heap → Prop) (k0 pairs1 s2 u3 : Value) (h : Heap) : iwpP P c11 (bodyP [.tmp 8, .tmp 9] K) (frame0 [k0, pairs1, s2, u3]) h = T11 P K k0 pairs1 s2 u3 h := by kernel_rfl
theorem f11 {K : Value → Heap → Prop} {k0 pairs1 s2 u3 : Value} {h : Heap} (H : T11 Try.prog K k0 pairs1 s2 u3 h) : CallP Try.prog 11 [k0, pairs1, s2, u3] h K :=
  callP_intro k11 (Nat.le_of_ble_eq_true rfl) ((e11 Try.prog K k0 pairs1 s2 u3 h).mpr H)
/-! F13: pommel/pommelref01.Same -/
noncomputable def c13z6 : ICode := .ops none [⟨(some 14), .p (.pick (.tmp 9) (.tmp 13) (.const (.bool false)))⟩,
   ⟨(some 4), .p (.mv (.tmp 14))⟩]
noncomputable def c13z4 : ICode := .seq (.ops (some (9, true)) [⟨(some 10), .p (.mv (.tmp 1))⟩,
    ⟨(some 11), .p (.mv (.tmp 0))⟩,
    ⟨(some 12), .call 29 [(.tmp 10), (.tmp 11)]⟩,
    ⟨(some 13), .p (.un .not (.tmp 12))⟩])
 (.cut [9, 13] c13z6)
noncomputable def c13z2 : ICode := .ret
noncomputable def c13 : ICode := .seq (.ops none [⟨(some 4), .p (.mv (.const (.bool false)))⟩])
 (.seq (.seq (.ops none [⟨(some 5), .p (.mv (.tmp 0))⟩,
     ⟨(some 6), .p (.mv (.tmp 1))⟩,
     ⟨(some 7), .call 29 [(.tmp 5), (.tmp 6)]⟩,
     ⟨(some 8), .p (.un .not (.tmp 7))⟩,
     ⟨(some 9), .p (.mv (.tmp 8))⟩])
  (.cut [0, 1, 9] c13z4)) c13z2)
theorem k13 : compFn Try.prog 13 [[], [0, 1, 9], [9, 13], []] = some (15, c13, [.tmp 4]) := by kernel_rfl
def K13z0 (_P : Program) (K : Value → Heap → Prop) : Exit → (Nat → Value) → Heap → Prop := bodyP [.tmp 4] K
def K13z2 (P : Program) (K : Value → Heap → Prop) : Exit → (Nat → Value) → Heap → Prop := thenK (iwpP P c13z2 (K13z0 P K)) (K13z0 P K)
def p13z4 (P : Program) (K : Value → Heap → Prop) (a0 b1 x9 : Value) (h : Heap) : Prop := CutP (iwpP P c13z4 (K13z2 P K)) [0, 1, 9] [a0, b1, x9] h
def p13z6 (P : Program) (K : Value → Heap → Prop) (x9 x13 : Value) (h : Heap) : Prop := CutP (iwpP P c13z6 (K13z2 P K)) [9, 13] [x9, x13] h
theorem q13z6 (P : Program) (K : Value → Heap → Prop) (x9 x13 : Value) (h : Heap) : p13z6 P K x9 x13 h =
  (OP (iPick x9 x13 (.bool false)) fun x14 =>
  K x14 h) := (CutP_def _ _ _ _).trans (by kernel_rfl)
theorem q13z4 (P : Program) (K : Value → Heap → Prop) (a0 b1 x9 : Value) (h : Heap) : p13z4 P K a0 b1 x9 h =
  (GdP x9 true
    (CallP P 29 [b1, a0] h fun x12 h_1 =>
    OP (iUn .not x12) fun x13 =>
    p13z6 P K x9 x13 h_1)
    (p13z6 P K x9 undef h)) := (CutP_def _ _ _ _).trans (by kernel_rfl)
def T13 (P : Program) (K : Value → Heap → Prop) (a0 b1 : Value) (h : Heap) : Prop :=
  CallP P 29 [a0, b1] h fun x7 h_1 =>
  OP (iUn .not x7) fun x8 =>
  p13z4 P K a0 b1 x8 h_1
theorem e13 (P : Program) (K : Value → Heap → Prop) (a0 b1 : Value) (h : Heap) : iwpP P c13 (bodyP [.tmp 4] K) (frame0 [a0, b1]) h = T13 P K a0 b1 h := by kernel_rfl
theorem f13 {K : Value → Heap → Prop} {a0 b1 : Value} {h : Heap} (H : T13 Try.prog K a0 b1 h) : CallP Try.prog 13 [a0, b1] h K :=
  callP_intro k13 (Nat.le_of_ble_eq_true rfl) ((e13 Try.prog K a0 b1 h).mpr H)
/-! F14: pommel/pommelref03.Heights -/
noncomputable def c14z21 : ICode := .ops none [⟨(some 19), .p (.mv (.tmp 8))⟩,
   ⟨(some 20), .p (.bin .add (.tmp 19) (.const (.int .i64 (1))))⟩,
   ⟨(some 8), .p (.mv (.tmp 20))⟩]
noncomputable def c14z15 : ICode := .seq (.seq (.ops none [⟨(some 16), .p (.mv (.tmp 8))⟩,
     ⟨(some 17), .p (.mv (.tmp 6))⟩,
     ⟨(some 18), .p (.bin .lss (.tmp 16) (.tmp 17))⟩])
  (.cond (.tmp 18) (.skip)
  (.exit 2)))
 (.seq (.block 3 (.seq (.dops [(none, [⟨(some 21), .p (.mv (.tmp 0)), 0⟩,
      ⟨(some 22), .p (.mv (.tmp 1)), 0⟩,
      ⟨(some 23), .p (.mv (.tmp 8)), 0⟩,
      ⟨(some 24), .p (.idxS (.tmp 22) (.tmp 23)), 6⟩,
      ⟨(some 25), .p (.mv (.tmp 1)), 0⟩,
      ⟨(some 26), .p (.mv (.tmp 6)), 0⟩,
      ⟨(some 27), .p (.idxS (.tmp 25) (.tmp 26)), 48⟩,
      ⟨(some 28), .call 4 [(.tmp 21), (.tmp 24), (.tmp 27)], 127⟩,
      ⟨(some 29), .p (.un .not (.tmp 28)), 255⟩])])
   (.cond (.tmp 29) (.ops none [⟨(some 30), .p (.mv (.tmp 7))⟩,
      ⟨(some 31), .p (.mv (.tmp 5))⟩,
      ⟨(some 32), .p (.mv (.tmp 8))⟩,
      ⟨(some 33), .p (.adrSl 1 (.tmp 31) (.tmp 32))⟩,
      ⟨(some 34), .l (.load false 1 (.tmp 33))⟩,
      ⟨(some 35), .p (.bin .add (.tmp 34) (.const (.int .i64 (1))))⟩,
      ⟨(some 36), .p (.minmax true [(.tmp 30), (.tmp 35)])⟩,
      ⟨(some 7), .p (.mv (.tmp 36))⟩])
   (.skip))))
 (.cut [0, 1, 5, 6, 7, 8] c14z21))
noncomputable def c14z22 : ICode := .ops none [⟨(some 37), .p (.mv (.tmp 5))⟩,
   ⟨(some 38), .p (.mv (.tmp 7))⟩,
   ⟨(some 39), .e (.mkSl 3 1 [(.int .i64 (0))] [(0, 1, (.tmp 38))])⟩,
   ⟨(some 40), .e (.app 3 1 8 (.tmp 37) (.tmp 39))⟩,
   ⟨(some 5), .p (.mv (.tmp 40))⟩]
noncomputable def c14z12 : ICode := .cut [0, 1, 5, 6, 7] c14z22
noncomputable def c14z23 : ICode := .ops none [⟨(some 14), .p (.mv (.tmp 6))⟩,
   ⟨(some 15), .p (.bin .add (.tmp 14) (.const (.int .i64 (1))))⟩,
   ⟨(some 6), .p (.mv (.tmp 15))⟩]
noncomputable def c14z9 : ICode := .cut [0, 1, 5, 6] c14z23
noncomputable def c14z6 : ICode := .seq (.seq (.ops none [⟨(some 10), .p (.mv (.tmp 6))⟩,
     ⟨(some 11), .p (.mv (.tmp 1))⟩,
     ⟨(some 12), .p (.lenS (.tmp 11))⟩,
     ⟨(some 13), .p (.bin .lss (.tmp 10) (.tmp 12))⟩])
  (.cond (.tmp 13) (.skip)
  (.exit 0)))
 (.seq (.block 1 (.seq (.ops none [⟨(some 7), .p (.mv (.const (.int .i64 (1))))⟩])
   (.seq (.seq (.ops none [⟨(some 8), .p (.mv (.const (.int .i64 (0))))⟩])
    (.block 2 (.loop [0, 1, 5, 6] [7, 8] c14z15))) c14z12))) c14z9)
noncomputable def c14z24 : ICode := .seq (.ops none [⟨(some 41), .p (.mv (.tmp 5))⟩,
    ⟨(some 4), .p (.mv (.tmp 41))⟩])
 (.ret)
noncomputable def c14z3 : ICode := .cut [5] c14z24
noncomputable def c14 : ICode := .seq (.ops none [⟨(some 4), .p (.mv (.const (.slice none 0 0)))⟩])
 (.seq (.ops none [⟨(some 9), .e (.mkSl 3 0 [(.int .i64 (0))] [])⟩,
    ⟨(some 5), .p (.mv (.tmp 9))⟩])
 (.seq (.seq (.ops none [⟨(some 6), .p (.mv (.const (.int .i64 (0))))⟩])
  (.block 0 (.loop [0, 1] [5, 6] c14z6))) c14z3))
theorem k14 : compFn Try.prog 14 [[], [], [], [0, 1], [5, 6], [], [], [], [], [0, 1, 5, 6], [7, 8], [], [], [], [0, 1, 5, 6, 7, 8], [0, 1, 5, 6, 7], [0, 1, 5, 6], [5], []] = some (42, c14, [.tmp 4]) := by kernel_rfl
def K14z0 (_P : Program) (K : Value → Heap → Prop) : Exit → (Nat → Value) → Heap → Prop := bodyP [.tmp 4] K
def K14z3 (P : Program) (K : Value → Heap → Prop) : Exit → (Nat → Value) → Heap → Prop := thenK (iwpP P c14z3 (K14z0 P K)) (K14z0 P K)
def K14z5 (P : Program) (K : Value → Heap → Prop) : Exit → (Nat → Value) → Heap → Prop := inBlockK 0 (K14z3 P K)
def K14z6 (P : Program) (K : Value → Heap → Prop) (pairs0 s1 : Value) (L1 : List Value → Heap → Prop) : Exit → (Nat → Value) → Heap → Prop := thenK (fun f' h'' => (([0, 1] : List Nat).map f' : List Value) = [pairs0, s1] ∧ L1 (([5, 6] : List Nat).map f') h'') (K14z5 P K)
def K14z9 (P : Program) (K : Value → Heap → Prop) (pairs0 s1 : Value) (L1 : List Value → Heap → Prop) : Exit → (Nat → Value) → Heap → Prop := thenK (iwpP P c14z9 (K14z6 P K pairs0 s1 L1)) (K14z6 P K pairs0 s1 L1)
def K14z10 (P : Program) (K : Value → Heap → Prop) (pairs0 s1 : Value) (L1 : List Value → Heap → Prop) : Exit → (Nat → Value) → Heap → Prop := inBlockK 1 (K14z9 P K pairs0 s1 L1)
def K14z12 (P : Program) (K : Value → Heap → Prop) (pairs0 s1 : Value) (L1 : List Value → Heap → Prop) : Exit → (Nat → Value) → Heap → Prop := thenK (iwpP P c14z12 (K14z10 P K pairs0 s1 L1)) (K14z10 P K pairs0 s1 L1)
def K14z14 (P : Program) (K : Value → Heap → Prop) (pairs0 s1 : Value) (L1 : List Value → Heap → Prop) : Exit → (Nat → Value) → Heap → Prop := inBlockK 2 (K14z12 P K pairs0 s1 L1)
def K14z15 (P : Program) (K : Value → Heap → Prop) (pairs0 s1 out5 i6 : Value) (L1 L2 : List Value → Heap → Prop) : Exit → (Nat → Value) → Heap → Prop := thenK (fun f' h'' => (([0, 1, 5, 6] : List Nat).map f' : List Value) = [pairs0, s1, out5, i6] ∧ L2 (([7, 8] : List Nat).map f') h'') (K14z14 P K pairs0 s1 L1)
def p14z6 (P : Program) (K : Value → Heap → Prop) (pairs0 s1 : Value) (L1 : List Value → Heap → Prop) (xs : List Value) (h : Heap) : Prop := CutP (iwpP P c14z6 (K14z6 P K pairs0 s1 L1)) ([0, 1] ++ [5, 6]) ([pairs0, s1] ++ xs) h
def p14z15 (P : Program) (K : Value → Heap → Prop) (pairs0 s1 out5 i6 : Value) (L1 L2 : List Value → Heap → Prop) (xs : List Value) (h : Heap) : Prop := CutP (iwpP P c14z15 (K14z15 P K pairs0 s1 out5 i6 L1 L2)) ([0, 1, 5, 6] ++ [7, 8]) ([pairs0, s1, out5, i6] ++ xs) h
def p14z21 (P : Program) (K : Value → Heap → Prop) (pairs0 s1 out5 i6 h7 k8 : Value) (L1 L2 : List Value → Heap → Prop) (h : Heap) : Prop := CutP (iwpP P c14z21 (K14z15 P K pairs0 s1 out5 i6 L1 L2)) [0, 1, 5, 6, 7, 8] [pairs0, s1, out5, i6, h7, k8] h
def p14z22 (P : Program) (K : Value → Heap → Prop) (pairs0 s1 out5 i6 h7 : Value) (L1 : List Value → Heap → Prop) (h : Heap) : Prop := CutP (iwpP P c14z22 (K14z10 P K pairs0 s1 L1)) [0, 1, 5, 6, 7] [pairs0, s1, out5, i6, h7] h
def p14z23 (P : Program) (K : Value → Heap → Prop) (pairs0 s1 out5 i6 : Value) (L1 : List Value → Heap → Prop) (h : Heap) : Prop := CutP (iwpP P c14z23 (K14z6 P K pairs0 s1 L1)) [0, 1, 5, 6] [pairs0, s1, out5, i6] h
def p14z24 (P : Program) (K : Value → Heap → Prop) (out5 : Value) (h : Heap) : Prop := CutP (iwpP P c14z24 (K14z0 P K)) [5] [out5] h
theorem q14z21 (P : Program) (K : Value → Heap → Prop) (pairs0 s1 out5 i6 h7 k8 : Value) (L1 L2 : List Value → Heap → Prop) (h : Heap) : p14z21 P K pairs0 s1 out5 i6 h7 k8 L1 L2 h =
  (OP (iBin .add k8 (.int .i64 (1))) fun x20 =>
  ([pairs0, s1, out5, i6] : List Value) = [pairs0, s1, out5, i6] ∧ L2 [h7, x20] h) := (CutP_def _ _ _ _).trans (by kernel_rfl)
theorem q14z15 (P : Program) (K : Value → Heap → Prop) (pairs0 s1 out5 i6 : Value) (L1 L2 : List Value → Heap → Prop) (h7 k8 : Value) (h : Heap) : p14z15 P K pairs0 s1 out5 i6 L1 L2 [h7, k8] h =
  (OP (iBin .lss k8 i6) fun x18 =>
  IfP x18
    (OP (iIdxS s1 k8) fun x24 =>
    OP (iIdxS s1 i6) fun x27 =>
    CallP P 4 [pairs0, x24, x27] h fun x28 h_1 =>
    (True) ∧
    OP (iUn .not x28) fun x29 =>
    IfP x29
      (OP (iAdrSl 1 out5 k8) fun x33 =>
      OP (iLoad false 1 h_1 x33) fun x34 =>
      OP (iBin .add x34 (.int .i64 (1))) fun x35 =>
      OP (iMinmax true [h7, x35]) fun x36 =>
      p14z21 P K pairs0 s1 out5 i6 x36 k8 L1 L2 h_1)
      (p14z21 P K pairs0 s1 out5 i6 h7 k8 L1 L2 h_1))
    (p14z22 P K pairs0 s1 out5 i6 h7 L1 h)) := (CutP_def _ _ _ _).trans (by kernel_rfl)
theorem q14z22 (P : Program) (K : Value → Heap → Prop) (pairs0 s1 out5 i6 h7 : Value) (L1 : List Value → Heap → Prop) (h : Heap) : p14z22 P K pairs0 s1 out5 i6 h7 L1 h =
  (OH (iMkSl 3 1 [(.int .i64 (0))] h [(0, 1, h7)]) fun x39 h_1 =>
  OH (iApp 3 1 8 h_1 out5 x39) fun x40 h_2 =>
  p14z23 P K pairs0 s1 x40 i6 L1 h_2) := (CutP_def _ _ _ _).trans (by kernel_rfl)
theorem q14z23 (P : Program) (K : Value → Heap → Prop) (pairs0 s1 out5 i6 : Value) (L1 : List Value → Heap → Prop) (h : Heap) : p14z23 P K pairs0 s1 out5 i6 L1 h =
  (OP (iBin .add i6 (.int .i64 (1))) fun x15 =>
  ([pairs0, s1] : List Value) = [pairs0, s1] ∧ L1 [out5, x15] h) := (CutP_def _ _ _ _).trans (by kernel_rfl)
theorem q14z6 (P : Program) (K : Value → Heap → Prop) (pairs0 s1 : Value) (L1 : List Value → Heap → Prop) (out5 i6 : Value) (h : Heap) : p14z6 P K pairs0 s1 L1 [out5, i6] h =
  (OP (iLenS s1) fun x12 =>
  OP (iBin .lss i6 x12) fun x13 =>
  IfP x13
    (LoopP [(.int .i64 (1)), (.int .i64 (0))] h fun L2 xs hx =>
    p14z15 P K pairs0 s1 out5 i6 L1 L2 xs hx)
    (p14z24 P K out5 h)) := (CutP_def _ _ _ _).trans (by kernel_rfl)
theorem q14z24 (P : Program) (K : Value → Heap → Prop) (out5 : Value) (h : Heap) : p14z24 P K out5 h =
  (K out5 h) := (CutP_def _ _ _ _).trans (by kernel_rfl)
def T14 (P : Program) (K : Value → Heap → Prop) (pairs0 s1 : Value) (h : Heap) : Prop :=
  OH (iMkSl 3 0 [(.int .i64 (0))] h []) fun x9 h_1 =>
  LoopP [x9, (.int .i64 (0))] h_1 fun L1 xs hx =>
  p14z6 P K pairs0 s1 L1 xs hx
theorem e14 (P : Program) (K : Value → Heap → Prop) (pairs0 s1 : Value) (h : Heap) : iwpP P c14 (bodyP [.tmp 4] K) (frame0 [pairs0, s1]) h = T14 P K pairs0 s1 h := by kernel_rfl
theorem f14 {K : Value → Heap → Prop} {pairs0 s1 : Value} {h : Heap} (H : T14 Try.prog K pairs0 s1 h) : CallP Try.prog 14 [pairs0, s1] h K :=
  callP_intro k14 (Nat.le_of_ble_eq_true rfl) ((e14 Try.prog K pairs0 s1 h).mpr H)
/-! F15: pommel/stitch.seams -/
noncomputable def c15z9 : ICode := .seq (.ops none [⟨(some 28), .p (.bin .lss (.tmp 27) (.tmp 26))⟩])
 (.seq (.cond (.tmp 28) (.skip)
  (.exit 0))
 (.seq (.block 1 (.seq (.ops none [⟨(some 29), .p (.adrSl 1 (.tmp 25) (.tmp 27))⟩,
      ⟨(some 30), .l (.load false 1 (.tmp 29))⟩,
      ⟨(some 13), .p (.mv (.tmp 30))⟩])
   (.seq (.ops none [⟨(some 31), .p (.mv (.tmp 13))⟩,
      ⟨(some 32), .p (.lenS (.tmp 31))⟩,
      ⟨(some 33), .p (.mv (.tmp 2))⟩,
      ⟨(some 34), .p (.bin .gtr (.tmp 32) (.tmp 33))⟩])
   (.cond (.tmp 34) (.seq (.ops none [⟨(some 8), .p (.mv (.const (.pointer none)))⟩,
       ⟨(some 9), .p (.mv (.const (.int .i64 (3))))⟩])
    (.ret))
   (.skip)))))
 (.ops none [⟨(some 35), .p (.bin .add (.tmp 27) (.const (.int .i64 (1))))⟩,
   ⟨(some 27), .p (.mv (.tmp 35))⟩])))
noncomputable def c15z39 : ICode := .ops none [⟨(some 59), .p (.pick (.tmp 51) (.const (.bool true)) (.tmp 58))⟩]
noncomputable def c15z37 : ICode := .seq (.ops (some (51, false)) [⟨(some 52), .p (.mv (.tmp 15))⟩,
    ⟨(some 53), .p (.mv (.tmp 16))⟩,
    ⟨(some 54), .p (.idxS (.tmp 52) (.tmp 53))⟩,
    ⟨(some 55), .p (.mv (.tmp 0))⟩,
    ⟨(some 56), .p (.conv .u8 (.tmp 55))⟩,
    ⟨(some 57), .p (.bin .add (.const (.int .u8 (97))) (.tmp 56))⟩,
    ⟨(some 58), .p (.bin .geq (.tmp 54) (.tmp 57))⟩])
 (.cut [0, 10, 15, 36, 37, 38, 43, 44, 51, 58] c15z39)
noncomputable def c15z35 : ICode := .cond (.tmp 59) (.seq (.ops none [⟨(some 8), .p (.mv (.const (.pointer none)))⟩,
     ⟨(some 9), .p (.mv (.const (.int .i64 (2))))⟩])
  (.ret))
 (.skip)
noncomputable def c15z32 : ICode := .ops none [⟨(some 60), .p (.bin .add (.tmp 44) (.const (.int .i64 (1))))⟩,
   ⟨(some 44), .p (.mv (.tmp 60))⟩]
noncomputable def c15z29 : ICode := .seq (.ops none [⟨(some 45), .p (.bin .lss (.tmp 44) (.tmp 43))⟩])
 (.seq (.cond (.tmp 45) (.skip)
  (.exit 4))
 (.seq (.block 5 (.seq (.ops none [⟨(some 46), .p (.mv (.tmp 44))⟩,
      ⟨(some 16), .p (.mv (.tmp 46))⟩])
   (.seq (.seq (.ops none [⟨(some 47), .p (.mv (.tmp 15))⟩,
       ⟨(some 48), .p (.mv (.tmp 16))⟩,
       ⟨(some 49), .p (.idxS (.tmp 47) (.tmp 48))⟩,
       ⟨(some 50), .p (.bin .lss (.tmp 49) (.const (.int .u8 (97))))⟩,
       ⟨(some 51), .p (.mv (.tmp 50))⟩])
    (.cut [0, 10, 15, 16, 36, 37, 38, 43, 44, 51] c15z37)) c15z35))) c15z32))
noncomputable def c15z41 : ICode := .ops none [⟨(some 61), .p (.bin .add (.tmp 38) (.const (.int .i64 (1))))⟩,
   ⟨(some 38), .p (.mv (.tmp 61))⟩]
noncomputable def c15z24 : ICode := .cut [0, 10, 36, 37, 38] c15z41
noncomputable def c15z21 : ICode := .seq (.ops none [⟨(some 39), .p (.bin .lss (.tmp 38) (.tmp 37))⟩])
 (.seq (.cond (.tmp 39) (.skip)
  (.exit 2))
 (.seq (.block 3 (.seq (.ops none [⟨(some 40), .p (.adrSl 1 (.tmp 36) (.tmp 38))⟩,
      ⟨(some 41), .l (.load false 1 (.tmp 40))⟩,
      ⟨(some 15), .p (.mv (.tmp 41))⟩])
   (.seq (.ops none [⟨(some 42), .p (.mv (.tmp 15))⟩,
      ⟨(some 43), .p (.lenS (.tmp 42))⟩,
      ⟨(some 44), .p (.mv (.const (.int .i64 (0))))⟩])
   (.block 4 (.loop [0, 10, 15, 36, 37, 38, 43] [44] c15z29))))) c15z24))
noncomputable def c15z42 : ICode := .seq (.ops none [⟨(some 62), .p (.mv (.tmp 10))⟩,
    ⟨(some 8), .p (.mv (.tmp 62))⟩,
    ⟨(some 9), .p (.mv (.const (.int .i64 (0))))⟩])
 (.ret)
noncomputable def c15z18 : ICode := .cut [10] c15z42
noncomputable def c15z17 : ICode := .seq (.seq (.ops none [⟨(some 36), .p (.mv (.tmp 3))⟩,
     ⟨(some 37), .p (.lenSl (.tmp 36))⟩,
     ⟨(some 38), .p (.mv (.const (.int .i64 (0))))⟩])
  (.block 2 (.loop [0, 10, 36, 37] [38] c15z21))) c15z18
noncomputable def c15z6 : ICode := .cut [0, 3, 10] c15z17
noncomputable def c15 : ICode := .seq (.ops none [⟨(some 8), .p (.mv (.const (.pointer none)))⟩,
    ⟨(some 9), .p (.mv (.const (.int .i64 (0))))⟩])
 (.seq (.ops none [⟨(some 18), .p (.mv (.tmp 0))⟩,
    ⟨(some 19), .p (.mv (.tmp 1))⟩,
    ⟨(some 20), .call 30 [(.tmp 18), (.tmp 19)]⟩,
    ⟨(some 17), .p (.mv (.tmp 20))⟩,
    ⟨(some 21), .p (.ext (.tmp 17) 0)⟩,
    ⟨(some 22), .p (.ext (.tmp 17) 1)⟩,
    ⟨(some 10), .p (.mv (.tmp 21))⟩,
    ⟨(some 11), .p (.mv (.tmp 22))⟩])
 (.seq (.seq (.ops none [⟨(some 23), .p (.mv (.tmp 11))⟩,
     ⟨(some 24), .p (.un .not (.tmp 23))⟩])
  (.cond (.tmp 24) (.seq (.ops none [⟨(some 8), .p (.mv (.const (.pointer none)))⟩,
      ⟨(some 9), .p (.mv (.const (.int .i64 (1))))⟩])
   (.ret))
  (.skip)))
 (.seq (.seq (.ops none [⟨(some 25), .p (.mv (.tmp 3))⟩,
     ⟨(some 26), .p (.lenSl (.tmp 25))⟩,
     ⟨(some 27), .p (.mv (.const (.int .i64 (0))))⟩])
  (.block 0 (.loop [0, 2, 3, 10, 25, 26] [27] c15z9))) c15z6)))
theorem k15 : compFn Try.prog 15 [[], [], [], [], [], [], [0, 2, 3, 10, 25, 26], [27], [], [], [], [], [], [], [0, 3, 10], [], [0, 10, 36, 37], [38], [], [], [], [], [0, 10, 15, 36, 37, 38, 43], [44], [], [], [], [0, 10, 15, 16, 36, 37, 38, 43, 44, 51], [0, 10, 15, 36, 37, 38, 43, 44, 51, 58], [], [], [], [0, 10, 36, 37, 38], [10], []] = some (63, c15, [.tmp 8, .tmp 9]) := by kernel_rfl
def K15z0 (_P : Program) (K : Value → Heap → Prop) : Exit → (Nat → Value) → Heap → Prop := bodyP [.tmp 8, .tmp 9] K
def K15z6 (P : Program) (K : Value → Heap → Prop) : Exit → (Nat → Value) → Heap → Prop := thenK (iwpP P c15z6 (K15z0 P K)) (K15z0 P K)
def K15z8 (P : Program) (K : Value → Heap → Prop) : Exit → (Nat → Value) → Heap → Prop := inBlockK 0 (K15z6 P K)
def K15z9 (P : Program) (K : Value → Heap → Prop) (k0 most2 l3 t10 x25 x26 : Value) (L1 : List Value → Heap → Prop) : Exit → (Nat → Value) → Heap → Prop := thenK (fun f' h'' => (([0, 2, 3, 10, 25, 26] : List Nat).map f' : List Value) = [k0, most2, l3, t10, x25, x26] ∧ L1 (([27] : List Nat).map f') h'') (K15z8 P K)
def K15z18 (P : Program) (K : Value → Heap → Prop) : Exit → (Nat → Value) → Heap → Prop := thenK (iwpP P c15z18 (K15z0 P K)) (K15z0 P K)
def K15z20 (P : Program) (K : Value → Heap → Prop) : Exit → (Nat → Value) → Heap → Prop := inBlockK 2 (K15z18 P K)
def K15z21 (P : Program) (K : Value → Heap → Prop) (k0 t10 x36 x37 : Value) (L1 : List Value → Heap → Prop) : Exit → (Nat → Value) → Heap → Prop := thenK (fun f' h'' => (([0, 10, 36, 37] : List Nat).map f' : List Value) = [k0, t10, x36, x37] ∧ L1 (([38] : List Nat).map f') h'') (K15z20 P K)
def K15z24 (P : Program) (K : Value → Heap → Prop) (k0 t10 x36 x37 : Value) (L1 : List Value → Heap → Prop) : Exit → (Nat → Value) → Heap → Prop := thenK (iwpP P c15z24 (K15z21 P K k0 t10 x36 x37 L1)) (K15z21 P K k0 t10 x36 x37 L1)
def K15z25 (P : Program) (K : Value → Heap → Prop) (k0 t10 x36 x37 : Value) (L1 : List Value → Heap → Prop) : Exit → (Nat → Value) → Heap → Prop := inBlockK 3 (K15z24 P K k0 t10 x36 x37 L1)
def K15z28 (P : Program) (K : Value → Heap → Prop) (k0 t10 x36 x37 : Value) (L1 : List Value → Heap → Prop) : Exit → (Nat → Value) → Heap → Prop := inBlockK 4 (K15z25 P K k0 t10 x36 x37 L1)
def K15z29 (P : Program) (K : Value → Heap → Prop) (k0 t10 s15 x36 x37 x38 x43 : Value) (L1 L2 : List Value → Heap → Prop) : Exit → (Nat → Value) → Heap → Prop := thenK (fun f' h'' => (([0, 10, 15, 36, 37, 38, 43] : List Nat).map f' : List Value) = [k0, t10, s15, x36, x37, x38, x43] ∧ L2 (([44] : List Nat).map f') h'') (K15z28 P K k0 t10 x36 x37 L1)
def K15z32 (P : Program) (K : Value → Heap → Prop) (k0 t10 s15 x36 x37 x38 x43 : Value) (L1 L2 : List Value → Heap → Prop) : Exit → (Nat → Value) → Heap → Prop := thenK (iwpP P c15z32 (K15z29 P K k0 t10 s15 x36 x37 x38 x43 L1 L2)) (K15z29 P K k0 t10 s15 x36 x37 x38 x43 L1 L2)
def K15z33 (P : Program) (K : Value → Heap → Prop) (k0 t10 s15 x36 x37 x38 x43 : Value) (L1 L2 : List Value → Heap → Prop) : Exit → (Nat → Value) → Heap → Prop := inBlockK 5 (K15z32 P K k0 t10 s15 x36 x37 x38 x43 L1 L2)
def K15z35 (P : Program) (K : Value → Heap → Prop) (k0 t10 s15 x36 x37 x38 x43 : Value) (L1 L2 : List Value → Heap → Prop) : Exit → (Nat → Value) → Heap → Prop := thenK (iwpP P c15z35 (K15z33 P K k0 t10 s15 x36 x37 x38 x43 L1 L2)) (K15z33 P K k0 t10 s15 x36 x37 x38 x43 L1 L2)
def p15z9 (P : Program) (K : Value → Heap → Prop) (k0 most2 l3 t10 x25 x26 : Value) (L1 : List Value → Heap → Prop) (xs : List Value) (h : Heap) : Prop := CutP (iwpP P c15z9 (K15z9 P K k0 most2 l3 t10 x25 x26 L1)) ([0, 2, 3, 10, 25, 26] ++ [27]) ([k0, most2, l3, t10, x25, x26] ++ xs) h
def p15z17 (P : Program) (K : Value → Heap → Prop) (k0 l3 t10 : Value) (h : Heap) : Prop := CutP (iwpP P c15z17 (K15z0 P K)) [0, 3, 10] [k0, l3, t10] h
def p15z21 (P : Program) (K : Value → Heap → Prop) (k0 t10 x36 x37 : Value) (L1 : List Value → Heap → Prop) (xs : List Value) (h : Heap) : Prop := CutP (iwpP P c15z21 (K15z21 P K k0 t10 x36 x37 L1)) ([0, 10, 36, 37] ++ [38]) ([k0, t10, x36, x37] ++ xs) h
def p15z29 (P : Program) (K : Value → Heap → Prop) (k0 t10 s15 x36 x37 x38 x43 : Value) (L1 L2 : List Value → Heap → Prop) (xs : List Value) (h : Heap) : Prop := CutP (iwpP P c15z29 (K15z29 P K k0 t10 s15 x36 x37 x38 x43 L1 L2)) ([0, 10, 15, 36, 37, 38, 43] ++ [44]) ([k0, t10, s15, x36, x37, x38, x43] ++ xs) h
def p15z37 (P : Program) (K : Value → Heap → Prop) (k0 t10 s15 i16 x36 x37 x38 x43 x44 x51 : Value) (L1 L2 : List Value → Heap → Prop) (h : Heap) : Prop := CutP (iwpP P c15z37 (K15z35 P K k0 t10 s15 x36 x37 x38 x43 L1 L2)) [0, 10, 15, 16, 36, 37, 38, 43, 44, 51] [k0, t10, s15, i16, x36, x37, x38, x43, x44, x51] h
def p15z39 (P : Program) (K : Value → Heap → Prop) (k0 t10 s15 x36 x37 x38 x43 x44 x51 x58 : Value) (L1 L2 : List Value → Heap → Prop) (h : Heap) : Prop := CutP (iwpP P c15z39 (K15z35 P K k0 t10 s15 x36 x37 x38 x43 L1 L2)) [0, 10, 15, 36, 37, 38, 43, 44, 51, 58] [k0, t10, s15, x36, x37, x38, x43, x44, x51, x58] h
def p15z41 (P : Program) (K : Value → Heap → Prop) (k0 t10 x36 x37 x38 : Value) (L1 : List Value → Heap → Prop) (h : Heap) : Prop := CutP (iwpP P c15z41 (K15z21 P K k0 t10 x36 x37 L1)) [0, 10, 36, 37, 38] [k0, t10, x36, x37, x38] h
def p15z42 (P : Program) (K : Value → Heap → Prop) (t10 : Value) (h : Heap) : Prop := CutP (iwpP P c15z42 (K15z0 P K)) [10] [t10] h
theorem q15z9 (P : Program) (K : Value → Heap → Prop) (k0 most2 l3 t10 x25 x26 : Value) (L1 : List Value → Heap → Prop) (x27 : Value) (h : Heap) : p15z9 P K k0 most2 l3 t10 x25 x26 L1 [x27] h =
  (OP (iBin .lss x27 x26) fun x28 =>
  IfP x28
    (OP (iAdrSl 1 x25 x27) fun x29 =>
    OP (iLoad false 1 h x29) fun x30 =>
    OP (iLenS x30) fun x32 =>
    OP (iBin .gtr x32 most2) fun x34 =>
    IfP x34
      (K (.tuple #[(.pointer none), (.int .i64 (3))]) h)
      (OP (iBin .add x27 (.int .i64 (1))) fun x35 =>
      ([k0, most2, l3, t10, x25, x26] : List Value) = [k0, most2, l3, t10, x25, x26] ∧ L1 [x35] h))
    (p15z17 P K k0 l3 t10 h)) := (CutP_def _ _ _ _).trans (by kernel_rfl)
theorem q15z39 (P : Program) (K : Value → Heap → Prop) (k0 t10 s15 x36 x37 x38 x43 x44 x51 x58 : Value) (L1 L2 : List Value → Heap → Prop) (h : Heap) : p15z39 P K k0 t10 s15 x36 x37 x38 x43 x44 x51 x58 L1 L2 h =
  (OP (iPick x51 (.bool true) x58) fun x59 =>
  IfP x59
    (K (.tuple #[(.pointer none), (.int .i64 (2))]) h)
    (OP (iBin .add x44 (.int .i64 (1))) fun x60 =>
    ([k0, t10, s15, x36, x37, x38, x43] : List Value) = [k0, t10, s15, x36, x37, x38, x43] ∧ L2 [x60] h)) := (CutP_def _ _ _ _).trans (by kernel_rfl)
theorem q15z37 (P : Program) (K : Value → Heap → Prop) (k0 t10 s15 i16 x36 x37 x38 x43 x44 x51 : Value) (L1 L2 : List Value → Heap → Prop) (h : Heap) : p15z37 P K k0 t10 s15 i16 x36 x37 x38 x43 x44 x51 L1 L2 h =
  (GdP x51 false
    (OP (iIdxS s15 i16) fun x54 =>
    OP (iConv .u8 k0) fun x56 =>
    OP (iBin .add (.int .u8 (97)) x56) fun x57 =>
    OP (iBin .geq x54 x57) fun x58 =>
    p15z39 P K k0 t10 s15 x36 x37 x38 x43 x44 x51 x58 L1 L2 h)
    (p15z39 P K k0 t10 s15 x36 x37 x38 x43 x44 x51 undef L1 L2 h)) := (CutP_def _ _ _ _).trans (by kernel_rfl)
theorem q15z29 (P : Program) (K : Value → Heap → Prop) (k0 t10 s15 x36 x37 x38 x43 : Value) (L1 L2 : List Value → Heap → Prop) (x44 : Value) (h : Heap) : p15z29 P K k0 t10 s15 x36 x37 x38 x43 L1 L2 [x44] h =
  (OP (iBin .lss x44 x43) fun x45 =>
  IfP x45
    (OP (iIdxS s15 x44) fun x49 =>
    OP (iBin .lss x49 (.int .u8 (97))) fun x50 =>
    p15z37 P K k0 t10 s15 x44 x36 x37 x38 x43 x44 x50 L1 L2 h)
    (p15z41 P K k0 t10 x36 x37 x38 L1 h)) := (CutP_def _ _ _ _).trans (by kernel_rfl)
theorem q15z41 (P : Program) (K : Value → Heap → Prop) (k0 t10 x36 x37 x38 : Value) (L1 : List Value → Heap → Prop) (h : Heap) : p15z41 P K k0 t10 x36 x37 x38 L1 h =
  (OP (iBin .add x38 (.int .i64 (1))) fun x61 =>
  ([k0, t10, x36, x37] : List Value) = [k0, t10, x36, x37] ∧ L1 [x61] h) := (CutP_def _ _ _ _).trans (by kernel_rfl)
theorem q15z21 (P : Program) (K : Value → Heap → Prop) (k0 t10 x36 x37 : Value) (L1 : List Value → Heap → Prop) (x38 : Value) (h : Heap) : p15z21 P K k0 t10 x36 x37 L1 [x38] h =
  (OP (iBin .lss x38 x37) fun x39 =>
  IfP x39
    (OP (iAdrSl 1 x36 x38) fun x40 =>
    OP (iLoad false 1 h x40) fun x41 =>
    OP (iLenS x41) fun x43 =>
    LoopP [(.int .i64 (0))] h fun L2 xs hx =>
    p15z29 P K k0 t10 x41 x36 x37 x38 x43 L1 L2 xs hx)
    (p15z42 P K t10 h)) := (CutP_def _ _ _ _).trans (by kernel_rfl)
theorem q15z42 (P : Program) (K : Value → Heap → Prop) (t10 : Value) (h : Heap) : p15z42 P K t10 h =
  (K (.tuple #[t10, (.int .i64 (0))]) h) := (CutP_def _ _ _ _).trans (by kernel_rfl)
theorem q15z17 (P : Program) (K : Value → Heap → Prop) (k0 l3 t10 : Value) (h : Heap) : p15z17 P K k0 l3 t10 h =
  (OP (iLenSl l3) fun x37 =>
  LoopP [(.int .i64 (0))] h fun L1 xs hx =>
  p15z21 P K k0 t10 l3 x37 L1 xs hx) := (CutP_def _ _ _ _).trans (by kernel_rfl)
def T15 (P : Program) (K : Value → Heap → Prop) (k0 pairs1 most2 l3 : Value) (h : Heap) : Prop :=
  CallP P 30 [k0, pairs1] h fun x20 h_1 =>
  OP (iExt 0 x20) fun x21 =>
  OP (iExt 1 x20) fun x22 =>
  OP (iUn .not x22) fun x24 =>
  IfP x24
    (K (.tuple #[(.pointer none), (.int .i64 (1))]) h_1)
    (OP (iLenSl l3) fun x26 =>
    LoopP [(.int .i64 (0))] h_1 fun L1 xs hx =>
    p15z9 P K k0 most2 l3 x21 l3 x26 L1 xs hx)
theorem e15 (P : Program) (K : Value → Heap → Prop) (k0 pairs1 most2 l3 : Value) (h : Heap) : iwpP P c15 (bodyP [.tmp 8, .tmp 9] K) (frame0 [k0, pairs1, most2, l3]) h = T15 P K k0 pairs1 most2 l3 h := by kernel_rfl
theorem f15 {K : Value → Heap → Prop} {k0 pairs1 most2 l3 : Value} {h : Heap} (H : T15 Try.prog K k0 pairs1 most2 l3 h) : CallP Try.prog 15 [k0, pairs1, most2, l3] h K :=
  callP_intro k15 (Nat.le_of_ble_eq_true rfl) ((e15 Try.prog K k0 pairs1 most2 l3 h).mpr H)
/-! F16: pommel/stitch.Ways$1 -/
noncomputable def c16z18 : ICode := .ops none [⟨(some 43), .p (.bin .add (.tmp 23) (.const (.int .i64 (1))))⟩,
   ⟨(some 23), .p (.mv (.tmp 43))⟩]
noncomputable def c16z10 : ICode := .seq (.ops none [⟨(some 24), .p (.bin .lss (.tmp 23) (.tmp 22))⟩])
 (.seq (.cond (.tmp 24) (.skip)
  (.exit 0))
 (.seq (.block 1 (.seq (.ops none [⟨(some 25), .p (.mv (.tmp 23))⟩,
      ⟨(some 9), .p (.mv (.tmp 25))⟩])
   (.seq (.ops none [⟨(some 26), .l (.load false 1 (.tmp 2))⟩,
      ⟨(some 27), .p (.mv (.tmp 0))⟩,
      ⟨(some 28), .p (.mv (.tmp 9))⟩,
      ⟨(some 29), .p (.conv .u8 (.tmp 28))⟩,
      ⟨(some 30), .p (.bin .add (.const (.int .u8 (97))) (.tmp 29))⟩,
      ⟨(some 31), .call 17 [(.tmp 26), (.tmp 27), (.tmp 30)]⟩,
      ⟨(some 10), .p (.mv (.tmp 31))⟩])
   (.seq (.ops none [⟨(some 32), .p (.mv (.tmp 10))⟩,
      ⟨(some 33), .p (.bin .geq (.tmp 32) (.const (.int .i64 (0))))⟩])
   (.cond (.tmp 33) (.dops [(none, [⟨(some 34), .p (.mv (.tmp 8)), 0⟩,
      ⟨(some 35), .l (.load false 1 (.tmp 3)), 0⟩,
      ⟨(some 36), .l (.load false 1 (.tmp 2)), 0⟩,
      ⟨(some 37), .p (.mv (.tmp 0)), 0⟩,
      ⟨(some 38), .p (.mv (.tmp 10)), 0⟩,
      ⟨(some 39), .call 19 [(.tmp 37), (.tmp 38)], 24⟩,
      ⟨(some 40), .call 18 [(.tmp 36), (.tmp 39)], 60⟩,
      ⟨(some 41), .callv (.tmp 35) [(.tmp 40)], 126⟩,
      ⟨(some 42), .p (.bin .add (.tmp 34) (.tmp 41)), 255⟩,
      ⟨(some 8), .p (.mv (.tmp 42)), 511⟩])])
   (.skip))))))
 (.cut [0, 1, 2, 3, 8, 22, 23] c16z18)))
noncomputable def c16z19 : ICode := .seq (.ops none [⟨(some 44), .l (.load false 1 (.tmp 1))⟩,
    ⟨(some 45), .p (.mv (.tmp 0))⟩,
    ⟨(some 46), .p (.mv (.tmp 8))⟩,
    ⟨none, .e (.mupd (.tmp 44) (.tmp 45) (.tmp 46))⟩])
 (.seq (.ops none [⟨(some 47), .p (.mv (.tmp 8))⟩,
    ⟨(some 5), .p (.mv (.tmp 47))⟩])
 (.ret))
noncomputable def c16z7 : ICode := .cut [0, 1, 8] c16z19
noncomputable def c16 : ICode := .seq (.ops none [⟨(some 5), .p (.mv (.const (.int .i64 (0))))⟩])
 (.seq (.seq (.ops none [⟨(some 12), .l (.load false 1 (.tmp 1))⟩,
     ⟨(some 13), .p (.mv (.tmp 0))⟩,
     ⟨(some 14), .l (.lookup true (.int .i64 (0)) (.tmp 12) (.tmp 13))⟩,
     ⟨(some 11), .p (.mv (.tmp 14))⟩,
     ⟨(some 15), .p (.ext (.tmp 11) 0)⟩,
     ⟨(some 16), .p (.ext (.tmp 11) 1)⟩,
     ⟨(some 6), .p (.mv (.tmp 15))⟩,
     ⟨(some 7), .p (.mv (.tmp 16))⟩])
  (.seq (.ops none [⟨(some 17), .p (.mv (.tmp 7))⟩])
  (.cond (.tmp 17) (.seq (.ops none [⟨(some 18), .p (.mv (.tmp 6))⟩,
      ⟨(some 5), .p (.mv (.tmp 18))⟩])
   (.ret))
  (.skip))))
 (.seq (.ops none [⟨(some 8), .p (.mv (.const (.int .i64 (0))))⟩])
 (.seq (.seq (.ops none [⟨(some 19), .l (.load false 1 (.tmp 2))⟩,
     ⟨(some 20), .p (.nilck (.tmp 19))⟩,
     ⟨(some 21), .p (.fadr 0 (.tmp 20))⟩,
     ⟨(some 22), .l (.load false 1 (.tmp 21))⟩,
     ⟨(some 23), .p (.mv (.const (.int .i64 (0))))⟩])
  (.block 0 (.loop [0, 1, 2, 3, 22] [8, 23] c16z10))) c16z7)))
theorem k16 : compFn Try.prog 16 [[], [], [], [], [], [], [], [0, 1, 2, 3, 22], [8, 23], [], [], [], [], [], [0, 1, 2, 3, 8, 22, 23], [0, 1, 8], [], []] = some (48, c16, [.tmp 5]) := by kernel_rfl
def K16z0 (_P : Program) (K : Value → Heap → Prop) : Exit → (Nat → Value) → Heap → Prop := bodyP [.tmp 5] K
def K16z7 (P : Program) (K : Value → Heap → Prop) : Exit → (Nat → Value) → Heap → Prop := thenK (iwpP P c16z7 (K16z0 P K)) (K16z0 P K)
def K16z9 (P : Program) (K : Value → Heap → Prop) : Exit → (Nat → Value) → Heap → Prop := inBlockK 0 (K16z7 P K)
def K16z10 (P : Program) (K : Value → Heap → Prop) (s0 x1 x2 x3 x22 : Value) (L1 : List Value → Heap → Prop) : Exit → (Nat → Value) → Heap → Prop := thenK (fun f' h'' => (([0, 1, 2, 3, 22] : List Nat).map f' : List Value) = [s0, x1, x2, x3, x22] ∧ L1 (([8, 23] : List Nat).map f') h'') (K16z9 P K)
def p16z10 (P : Program) (K : Value → Heap → Prop) (s0 x1 x2 x3 x22 : Value) (L1 : List Value → Heap → Prop) (xs : List Value) (h : Heap) : Prop := CutP (iwpP P c16z10 (K16z10 P K s0 x1 x2 x3 x22 L1)) ([0, 1, 2, 3, 22] ++ [8, 23]) ([s0, x1, x2, x3, x22] ++ xs) h
def p16z18 (P : Program) (K : Value → Heap → Prop) (s0 x1 x2 x3 n8 x22 x23 : Value) (L1 : List Value → Heap → Prop) (h : Heap) : Prop := CutP (iwpP P c16z18 (K16z10 P K s0 x1 x2 x3 x22 L1)) [0, 1, 2, 3, 8, 22, 23] [s0, x1, x2, x3, n8, x22, x23] h
def p16z19 (P : Program) (K : Value → Heap → Prop) (s0 x1 n8 : Value) (h : Heap) : Prop := CutP (iwpP P c16z19 (K16z0 P K)) [0, 1, 8] [s0, x1, n8] h
theorem q16z18 (P : Program) (K : Value → Heap → Prop) (s0 x1 x2 x3 n8 x22 x23 : Value) (L1 : List Value → Heap → Prop) (h : Heap) : p16z18 P K s0 x1 x2 x3 n8 x22 x23 L1 h =
  (OP (iBin .add x23 (.int .i64 (1))) fun x43 =>
  ([s0, x1, x2, x3, x22] : List Value) = [s0, x1, x2, x3, x22] ∧ L1 [n8, x43] h) := (CutP_def _ _ _ _).trans (by kernel_rfl)
theorem q16z10 (P : Program) (K : Value → Heap → Prop) (s0 x1 x2 x3 x22 : Value) (L1 : List Value → Heap → Prop) (n8 x23 : Value) (h : Heap) : p16z10 P K s0 x1 x2 x3 x22 L1 [n8, x23] h =
  (OP (iBin .lss x23 x22) fun x24 =>
  IfP x24
    (OP (iLoad false 1 h x2) fun x26 =>
    OP (iConv .u8 x23) fun x29 =>
    OP (iBin .add (.int .u8 (97)) x29) fun x30 =>
    CallP P 17 [x26, s0, x30] h fun x31 h_1 =>
    OP (iBin .geq x31 (.int .i64 (0))) fun x33 =>
    IfP x33
      (OP (iLoad false 1 h_1 x3) fun x35 =>
      (True) ∧
      OP (iLoad false 1 h_1 x2) fun x36 =>
      (True) ∧
      CallP P 19 [s0, x31] h_1 fun x39 h_2 =>
      (iLoad false 1 h_2 x3 = some x35 ∧ iLoad false 1 h_2 x2 = some x36 ∧ True) ∧
      CallP P 18 [x36, x39] h_2 fun x40 h_3 =>
      (iLoad false 1 h_3 x3 = some x35 ∧ True) ∧
      CallVP P x35 [x40] h_3 fun x41 h_4 =>
      (True) ∧
      OP (iBin .add n8 x41) fun x42 =>
      p16z18 P K s0 x1 x2 x3 x42 x22 x23 L1 h_4)
      (p16z18 P K s0 x1 x2 x3 n8 x22 x23 L1 h_1))
    (p16z19 P K s0 x1 n8 h)) := (CutP_def _ _ _ _).trans (by kernel_rfl)
theorem q16z19 (P : Program) (K : Value → Heap → Prop) (s0 x1 n8 : Value) (h : Heap) : p16z19 P K s0 x1 n8 h =
  (OP (iLoad false 1 h x1) fun x44 =>
  OH (oMupd h x44 s0 n8) fun _ h_1 =>
  K n8 h_1) := (CutP_def _ _ _ _).trans (by kernel_rfl)
def T16 (P : Program) (K : Value → Heap → Prop) (s0 x1 x2 x3 : Value) (h : Heap) : Prop :=
  OP (iLoad false 1 h x1) fun x12 =>
  OP (iLookup true (.int .i64 (0)) h x12 s0) fun x14 =>
  OP (iExt 0 x14) fun x15 =>
  OP (iExt 1 x14) fun x16 =>
  IfP x16
    (K x15 h)
    (OP (iLoad false 1 h x2) fun x19 =>
    OP (iNilck x19) fun x20 =>
    OP (iFadr 0 x20) fun x21 =>
    OP (iLoad false 1 h x21) fun x22 =>
    LoopP [(.int .i64 (0)), (.int .i64 (0))] h fun L1 xs hx =>
    p16z10 P K s0 x1 x2 x3 x22 L1 xs hx)
theorem e16 (P : Program) (K : Value → Heap → Prop) (s0 x1 x2 x3 : Value) (h : Heap) : iwpP P c16 (bodyP [.tmp 5] K) (frame0 [s0, x1, x2, x3]) h = T16 P K s0 x1 x2 x3 h := by kernel_rfl
theorem f16 {K : Value → Heap → Prop} {s0 x1 x2 x3 : Value} {h : Heap} (H : T16 Try.prog K s0 x1 x2 x3 h) : CallP Try.prog 16 [s0, x1, x2, x3] h K :=
  callP_intro k16 (Nat.le_of_ble_eq_true rfl) ((e16 Try.prog K s0 x1 x2 x3 h).mpr H)
/-! F17: (*pommel/stitch.threads).front -/
noncomputable def c17z5 : ICode := .seq (.ops none [⟨(some 11), .p (.bin .lss (.tmp 10) (.tmp 9))⟩])
 (.seq (.cond (.tmp 11) (.skip)
  (.exit 0))
 (.seq (.block 1 (.seq (.ops none [⟨(some 12), .p (.mv (.tmp 10))⟩,
      ⟨(some 7), .p (.mv (.tmp 12))⟩])
   (.seq (.seq (.ops none [⟨(some 13), .p (.mv (.tmp 1))⟩,
       ⟨(some 14), .p (.mv (.tmp 7))⟩,
       ⟨(some 15), .p (.idxS (.tmp 13) (.tmp 14))⟩,
       ⟨(some 16), .p (.mv (.tmp 2))⟩,
       ⟨(some 17), .p (.bin .eql (.tmp 15) (.tmp 16))⟩])
    (.cond (.tmp 17) (.seq (.ops none [⟨(some 18), .p (.mv (.tmp 7))⟩,
        ⟨(some 6), .p (.mv (.tmp 18))⟩])
     (.ret))
    (.skip)))
   (.seq (.ops none [⟨(some 19), .p (.mv (.tmp 0))⟩,
      ⟨(some 20), .p (.mv (.tmp 1))⟩,
      ⟨(some 21), .p (.mv (.tmp 7))⟩,
      ⟨(some 22), .p (.idxS (.tmp 20) (.tmp 21))⟩,
      ⟨(some 23), .p (.mv (.tmp 2))⟩,
      ⟨(some 24), .call 31 [(.tmp 19), (.tmp 22), (.tmp 23)]⟩])
   (.cond (.tmp 24) (.seq (.ops none [⟨(some 6), .p (.mv (.const (.int .i64 (-1))))⟩])
    (.ret))
   (.skip))))))
 (.ops none [⟨(some 25), .p (.bin .add (.tmp 10) (.const (.int .i64 (1))))⟩,
   ⟨(some 10), .p (.mv (.tmp 25))⟩])))
noncomputable def c17z2 : ICode := .seq (.ops none [⟨(some 6), .p (.mv (.const (.int .i64 (-1))))⟩])
 (.ret)
noncomputable def c17 : ICode := .seq (.ops none [⟨(some 6), .p (.mv (.const (.int .i64 (0))))⟩])
 (.seq (.seq (.ops none [⟨(some 8), .p (.mv (.tmp 1))⟩,
     ⟨(some 9), .p (.lenS (.tmp 8))⟩,
     ⟨(some 10), .p (.mv (.const (.int .i64 (0))))⟩])
  (.block 0 (.loop [0, 1, 2, 9] [10] c17z5))) c17z2)
theorem k17 : compFn Try.prog 17 [[], [], [0, 1, 2, 9], [10], [], [], [], [], [], [], [], [], [], [], []] = some (26, c17, [.tmp 6]) := by kernel_rfl
def K17z0 (_P : Program) (K : Value → Heap → Prop) : Exit → (Nat → Value) → Heap → Prop := bodyP [.tmp 6] K
def K17z2 (P : Program) (K : Value → Heap → Prop) : Exit → (Nat → Value) → Heap → Prop := thenK (iwpP P c17z2 (K17z0 P K)) (K17z0 P K)
def K17z4 (P : Program) (K : Value → Heap → Prop) : Exit → (Nat → Value) → Heap → Prop := inBlockK 0 (K17z2 P K)
def K17z5 (P : Program) (K : Value → Heap → Prop) (t0 s1 c2 x9 : Value) (L1 : List Value → Heap → Prop) : Exit → (Nat → Value) → Heap → Prop := thenK (fun f' h'' => (([0, 1, 2, 9] : List Nat).map f' : List Value) = [t0, s1, c2, x9] ∧ L1 (([10] : List Nat).map f') h'') (K17z4 P K)
def p17z5 (P : Program) (K : Value → Heap → Prop) (t0 s1 c2 x9 : Value) (L1 : List Value → Heap → Prop) (xs : List Value) (h : Heap) : Prop := CutP (iwpP P c17z5 (K17z5 P K t0 s1 c2 x9 L1)) ([0, 1, 2, 9] ++ [10]) ([t0, s1, c2, x9] ++ xs) h
theorem q17z5 (P : Program) (K : Value → Heap → Prop) (t0 s1 c2 x9 : Value) (L1 : List Value → Heap → Prop) (x10 : Value) (h : Heap) : p17z5 P K t0 s1 c2 x9 L1 [x10] h =
  (OP (iBin .lss x10 x9) fun x11 =>
  IfP x11
    (OP (iIdxS s1 x10) fun x15 =>
    OP (iBin .eql x15 c2) fun x17 =>
    IfP x17
      (K x10 h)
      (OP (iIdxS s1 x10) fun x22 =>
      CallP P 31 [t0, x22, c2] h fun x24 h_1 =>
      IfP x24
        (K (.int .i64 (-1)) h_1)
        (OP (iBin .add x10 (.int .i64 (1))) fun x25 =>
        ([t0, s1, c2, x9] : List Value) = [t0, s1, c2, x9] ∧ L1 [x25] h_1)))
    (K (.int .i64 (-1)) h)) := (CutP_def _ _ _ _).trans (by kernel_rfl)
def T17 (P : Program) (K : Value → Heap → Prop) (t0 s1 c2 : Value) (h : Heap) : Prop :=
  OP (iLenS s1) fun x9 =>
  LoopP [(.int .i64 (0))] h fun L1 xs hx =>
  p17z5 P K t0 s1 c2 x9 L1 xs hx
theorem e17 (P : Program) (K : Value → Heap → Prop) (t0 s1 c2 : Value) (h : Heap) : iwpP P c17 (bodyP [.tmp 6] K) (frame0 [t0, s1, c2]) h = T17 P K t0 s1 c2 h := by kernel_rfl
theorem f17 {K : Value → Heap → Prop} {t0 s1 c2 : Value} {h : Heap} (H : T17 Try.prog K t0 s1 c2 h) : CallP Try.prog 17 [t0, s1, c2] h K :=
  callP_intro k17 (Nat.le_of_ble_eq_true rfl) ((e17 Try.prog K t0 s1 c2 h).mpr H)
/-! F18: (*pommel/stitch.threads).least -/
noncomputable def c18z11 : ICode := .seq (.ops none [⟨(some 16), .p (.bin .lss (.tmp 15) (.tmp 14))⟩])
 (.seq (.cond (.tmp 16) (.skip)
  (.exit 2))
 (.seq (.block 3 (.seq (.ops none [⟨(some 17), .p (.mv (.tmp 15))⟩,
      ⟨(some 6), .p (.mv (.tmp 17))⟩])
   (.seq (.ops none [⟨(some 18), .p (.mv (.tmp 6))⟩,
      ⟨(some 19), .p (.conv .u8 (.tmp 18))⟩,
      ⟨(some 20), .p (.bin .add (.const (.int .u8 (97))) (.tmp 19))⟩,
      ⟨(some 7), .p (.mv (.tmp 20))⟩])
   (.seq (.ops none [⟨(some 21), .p (.mv (.tmp 0))⟩,
      ⟨(some 22), .p (.mv (.tmp 1))⟩,
      ⟨(some 23), .p (.mv (.tmp 7))⟩,
      ⟨(some 24), .call 17 [(.tmp 21), (.tmp 22), (.tmp 23)]⟩,
      ⟨(some 8), .p (.mv (.tmp 24))⟩])
   (.seq (.ops none [⟨(some 25), .p (.mv (.tmp 8))⟩,
      ⟨(some 26), .p (.bin .geq (.tmp 25) (.const (.int .i64 (0))))⟩])
   (.cond (.tmp 26) (.seq (.ops none [⟨(some 27), .p (.mv (.tmp 5))⟩,
       ⟨(some 28), .p (.mv (.tmp 7))⟩,
       ⟨(some 29), .e (.mkSl 5 1 [(.int .u8 (0))] [(0, 1, (.tmp 28))])⟩,
       ⟨(some 30), .e (.app 5 1 1 (.tmp 27) (.tmp 29))⟩,
       ⟨(some 31), .p (.mv (.tmp 1))⟩,
       ⟨(some 32), .p (.mv (.tmp 8))⟩,
       ⟨(some 33), .call 19 [(.tmp 31), (.tmp 32)]⟩,
       ⟨(some 5), .p (.mv (.tmp 30))⟩,
       ⟨(some 1), .p (.mv (.tmp 33))⟩])
    (.exit 2))
   (.skip)))))))
 (.ops none [⟨(some 34), .p (.bin .add (.tmp 15) (.const (.int .i64 (1))))⟩,
   ⟨(some 15), .p (.mv (.tmp 34))⟩])))
noncomputable def c18z5 : ICode := .seq (.seq (.ops none [⟨(some 9), .p (.mv (.tmp 1))⟩,
     ⟨(some 10), .p (.bin .neq (.tmp 9) (.const (.string ⟨#[]⟩)))⟩])
  (.cond (.tmp 10) (.skip)
  (.exit 0)))
 (.block 1 (.seq (.ops none [⟨(some 11), .p (.mv (.tmp 0))⟩,
     ⟨(some 12), .p (.nilck (.tmp 11))⟩,
     ⟨(some 13), .p (.fadr 0 (.tmp 12))⟩,
     ⟨(some 14), .l (.load false 1 (.tmp 13))⟩,
     ⟨(some 15), .p (.mv (.const (.int .i64 (0))))⟩])
  (.block 2 (.loop [0, 14] [1, 5, 15] c18z11))))
noncomputable def c18z21 : ICode := .seq (.ops none [⟨(some 35), .p (.mv (.tmp 5))⟩,
    ⟨(some 36), .l (.b2s (.tmp 35))⟩,
    ⟨(some 4), .p (.mv (.tmp 36))⟩])
 (.ret)
noncomputable def c18z3 : ICode := .cut [5] c18z21
noncomputable def c18 : ICode := .seq (.ops none [⟨(some 4), .p (.mv (.const (.string ⟨#[]⟩)))⟩])
 (.seq (.ops none [⟨(some 5), .p (.mv (.const (.slice none 0 0)))⟩])
 (.seq (.block 0 (.loop [0] [1, 5] c18z5)) c18z3))
theorem k18 : compFn Try.prog 18 [[], [], [0], [1, 5], [], [], [], [0, 14], [1, 5, 15], [], [], [], [], [], [], [], [], [5], []] = some (37, c18, [.tmp 4]) := by kernel_rfl
def K18z0 (_P : Program) (K : Value → Heap → Prop) : Exit → (Nat → Value) → Heap → Prop := bodyP [.tmp 4] K
def K18z3 (P : Program) (K : Value → Heap → Prop) : Exit → (Nat → Value) → Heap → Prop := thenK (iwpP P c18z3 (K18z0 P K)) (K18z0 P K)
def K18z4 (P : Program) (K : Value → Heap → Prop) : Exit → (Nat → Value) → Heap → Prop := inBlockK 0 (K18z3 P K)
def K18z5 (P : Program) (K : Value → Heap → Prop) (t0 : Value) (L1 : List Value → Heap → Prop) : Exit → (Nat → Value) → Heap → Prop := thenK (fun f' h'' => (([0] : List Nat).map f' : List Value) = [t0] ∧ L1 (([1, 5] : List Nat).map f') h'') (K18z4 P K)
def K18z8 (P : Program) (K : Value → Heap → Prop) (t0 : Value) (L1 : List Value → Heap → Prop) : Exit → (Nat → Value) → Heap → Prop := inBlockK 1 (K18z5 P K t0 L1)
def K18z10 (P : Program) (K : Value → Heap → Prop) (t0 : Value) (L1 : List Value → Heap → Prop) : Exit → (Nat → Value) → Heap → Prop := inBlockK 2 (K18z8 P K t0 L1)
def K18z11 (P : Program) (K : Value → Heap → Prop) (t0 x14 : Value) (L1 L2 : List Value → Heap → Prop) : Exit → (Nat → Value) → Heap → Prop := thenK (fun f' h'' => (([0, 14] : List Nat).map f' : List Value) = [t0, x14] ∧ L2 (([1, 5, 15] : List Nat).map f') h'') (K18z10 P K t0 L1)
def p18z5 (P : Program) (K : Value → Heap → Prop) (t0 : Value) (L1 : List Value → Heap → Prop) (xs : List Value) (h : Heap) : Prop := CutP (iwpP P c18z5 (K18z5 P K t0 L1)) ([0] ++ [1, 5]) ([t0] ++ xs) h
def p18z11 (P : Program) (K : Value → Heap → Prop) (t0 x14 : Value) (L1 L2 : List Value → Heap → Prop) (xs : List Value) (h : Heap) : Prop := CutP (iwpP P c18z11 (K18z11 P K t0 x14 L1 L2)) ([0, 14] ++ [1, 5, 15]) ([t0, x14] ++ xs) h
def p18z21 (P : Program) (K : Value → Heap → Prop) (out5 : Value) (h : Heap) : Prop := CutP (iwpP P c18z21 (K18z0 P K)) [5] [out5] h
theorem q18z11 (P : Program) (K : Value → Heap → Prop) (t0 x14 : Value) (L1 L2 : List Value → Heap → Prop) (s1 out5 x15 : Value) (h : Heap) : p18z11 P K t0 x14 L1 L2 [s1, out5, x15] h =
  (OP (iBin .lss x15 x14) fun x16 =>
  IfP x16
    (OP (iConv .u8 x15) fun x19 =>
    OP (iBin .add (.int .u8 (97)) x19) fun x20 =>
    CallP P 17 [t0, s1, x20] h fun x24 h_1 =>
    OP (iBin .geq x24 (.int .i64 (0))) fun x26 =>
    IfP x26
      (OH (iMkSl 5 1 [(.int .u8 (0))] h_1 [(0, 1, x20)]) fun x29 h_2 =>
      OH (iApp 5 1 1 h_2 out5 x29) fun x30 h_3 =>
      CallP P 19 [s1, x24] h_3 fun x33 h_4 =>
      ([t0] : List Value) = [t0] ∧ L1 [x33, x30] h_4)
      (OP (iBin .add x15 (.int .i64 (1))) fun x34 =>
      ([t0, x14] : List Value) = [t0, x14] ∧ L2 [s1, out5, x34] h_1))
    (([t0] : List Value) = [t0] ∧ L1 [s1, out5] h)) := (CutP_def _ _ _ _).trans (by kernel_rfl)
theorem q18z5 (P : Program) (K : Value → Heap → Prop) (t0 : Value) (L1 : List Value → Heap → Prop) (s1 out5 : Value) (h : Heap) : p18z5 P K t0 L1 [s1, out5] h =
  (OP (iBin .neq s1 (.string ⟨#[]⟩)) fun x10 =>
  IfP x10
    (OP (iNilck t0) fun x12 =>
    OP (iFadr 0 x12) fun x13 =>
    OP (iLoad false 1 h x13) fun x14 =>
    LoopP [s1, out5, (.int .i64 (0))] h fun L2 xs hx =>
    p18z11 P K t0 x14 L1 L2 xs hx)
    (p18z21 P K out5 h)) := (CutP_def _ _ _ _).trans (by kernel_rfl)
theorem q18z21 (P : Program) (K : Value → Heap → Prop) (out5 : Value) (h : Heap) : p18z21 P K out5 h =
  (OP (iB2s h out5) fun x36 =>
  K x36 h) := (CutP_def _ _ _ _).trans (by kernel_rfl)
def T18 (P : Program) (K : Value → Heap → Prop) (t0 s1 : Value) (h : Heap) : Prop :=
  LoopP [s1, (.slice none 0 0)] h fun L1 xs hx =>
  p18z5 P K t0 L1 xs hx
theorem e18 (P : Program) (K : Value → Heap → Prop) (t0 s1 : Value) (h : Heap) : iwpP P c18 (bodyP [.tmp 4] K) (frame0 [t0, s1]) h = T18 P K t0 s1 h := by kernel_rfl
theorem f18 {K : Value → Heap → Prop} {t0 s1 : Value} {h : Heap} (H : T18 Try.prog K t0 s1 h) : CallP Try.prog 18 [t0, s1] h K :=
  callP_intro k18 (Nat.le_of_ble_eq_true rfl) ((e18 Try.prog K t0 s1 h).mpr H)
/-! F19: pommel/stitch.without -/
noncomputable def c19 : ICode := .seq (.ops none [⟨(some 4), .p (.mv (.const (.string ⟨#[]⟩)))⟩])
 (.seq (.dops [(none, [⟨(some 5), .p (.mv (.tmp 0)), 0⟩,
    ⟨(some 6), .p (.mv (.tmp 1)), 0⟩,
    ⟨(some 7), .p (.slS (.tmp 5) none (some (.tmp 6))), 3⟩,
    ⟨(some 8), .p (.mv (.tmp 0)), 0⟩,
    ⟨(some 9), .p (.mv (.tmp 1)), 0⟩,
    ⟨(some 10), .p (.bin .add (.tmp 9) (.const (.int .i64 (1)))), 16⟩,
    ⟨(some 11), .p (.slS (.tmp 8) (some (.tmp 10)) none), 56⟩,
    ⟨(some 12), .p (.bin .add (.tmp 7) (.tmp 11)), 127⟩,
    ⟨(some 4), .p (.mv (.tmp 12)), 255⟩])])
 (.ret))
theorem k19 : compFn Try.prog 19 [[], []] = some (13, c19, [.tmp 4]) := by kernel_rfl
def K19z0 (_P : Program) (K : Value → Heap → Prop) : Exit → (Nat → Value) → Heap → Prop := bodyP [.tmp 4] K
def T19 (P : Program) (K : Value → Heap → Prop) (s0 i1 : Value) (h : Heap) : Prop :=
  OP (iSlS s0 none (some i1)) fun x7 =>
  OP (iBin .add i1 (.int .i64 (1))) fun x10 =>
  OP (iSlS s0 (some x10) none) fun x11 =>
  OP (iBin .add x7 x11) fun x12 =>
  K x12 h
theorem e19 (P : Program) (K : Value → Heap → Prop) (s0 i1 : Value) (h : Heap) : iwpP P c19 (bodyP [.tmp 4] K) (frame0 [s0, i1]) h = T19 P K s0 i1 h := by kernel_rfl
theorem f19 {K : Value → Heap → Prop} {s0 i1 : Value} {h : Heap} (H : T19 Try.prog K s0 i1 h) : CallP Try.prog 19 [s0, i1] h K :=
  callP_intro k19 (Nat.le_of_ble_eq_true rfl) ((e19 Try.prog K s0 i1 h).mpr H)
/-! F20: (*pommel/stitch.threads).letters -/
noncomputable def c20 : ICode := .seq (.ops none [⟨(some 2), .e (.box 49 (.tmp 0))⟩,
    ⟨(some 3), .e (.box 9 (.tmp 1))⟩,
    ⟨(some 4), .p (.mv (.const .nilFunc))⟩])
 (.seq (.ops none [⟨(some 5), .p (.fn 32 [] [(.tmp 3), (.tmp 2)])⟩,
    ⟨(some 4), .p (.mv (.tmp 5))⟩])
 (.ret))
theorem k20 : compFn Try.prog 20 [[], []] = some (6, c20, [.tmp 4]) := by kernel_rfl
def K20z0 (_P : Program) (K : Value → Heap → Prop) : Exit → (Nat → Value) → Heap → Prop := bodyP [.tmp 4] K
def T20 (P : Program) (K : Value → Heap → Prop) (t0 s1 : Value) (h : Heap) : Prop :=
  OH (iBox 49 h t0) fun t2 h_1 =>
  OH (iBox 9 h_1 s1) fun s3 h_2 =>
  K (.func (.func 32) #[] #[s3, t2]) h_2
theorem e20 (P : Program) (K : Value → Heap → Prop) (t0 s1 : Value) (h : Heap) : iwpP P c20 (bodyP [.tmp 4] K) (frame0 [t0, s1]) h = T20 P K t0 s1 h := by kernel_rfl
theorem f20 {K : Value → Heap → Prop} {t0 s1 : Value} {h : Heap} (H : T20 Try.prog K t0 s1 h) : CallP Try.prog 20 [t0, s1] h K :=
  callP_intro k20 (Nat.le_of_ble_eq_true rfl) ((e20 Try.prog K t0 s1 h).mpr H)
/-! F29: pommel/pommelref01.Before -/
noncomputable def c29z11 : ICode := .ops none [⟨(some 15), .p (.pick (.tmp 10) (.tmp 14) (.const (.bool false)))⟩]
noncomputable def c29z9 : ICode := .seq (.ops (some (10, true)) [⟨(some 11), .p (.mv (.tmp 5))⟩,
    ⟨(some 12), .p (.mv (.tmp 1))⟩,
    ⟨(some 13), .p (.lenSl (.tmp 12))⟩,
    ⟨(some 14), .p (.bin .lss (.tmp 11) (.tmp 13))⟩])
 (.cut [0, 1, 5, 10, 14] c29z11)
noncomputable def c29z7 : ICode := .cond (.tmp 15) (.skip)
 (.exit 0)
noncomputable def c29z6 : ICode := .seq (.block 1 (.seq (.dops [(none, [⟨(some 18), .p (.mv (.tmp 0)), 0⟩,
      ⟨(some 19), .p (.mv (.tmp 5)), 0⟩,
      ⟨(some 20), .p (.adrSl 1 (.tmp 18) (.tmp 19)), 3⟩,
      ⟨(some 21), .l (.load false 1 (.tmp 20)), 7⟩,
      ⟨(some 22), .p (.mv (.tmp 1)), 0⟩,
      ⟨(some 23), .p (.mv (.tmp 5)), 0⟩,
      ⟨(some 24), .p (.adrSl 1 (.tmp 22) (.tmp 23)), 48⟩,
      ⟨(some 25), .l (.load false 1 (.tmp 24)), 112⟩,
      ⟨(some 26), .p (.bin .neq (.tmp 21) (.tmp 25)), 255⟩])])
   (.cond (.tmp 26) (.seq (.dops [(none, [⟨(some 27), .p (.mv (.tmp 0)), 0⟩,
       ⟨(some 28), .p (.mv (.tmp 5)), 0⟩,
       ⟨(some 29), .p (.adrSl 1 (.tmp 27) (.tmp 28)), 3⟩,
       ⟨(some 30), .l (.load false 1 (.tmp 29)), 7⟩,
       ⟨(some 31), .p (.mv (.tmp 1)), 0⟩,
       ⟨(some 32), .p (.mv (.tmp 5)), 0⟩,
       ⟨(some 33), .p (.adrSl 1 (.tmp 31) (.tmp 32)), 48⟩,
       ⟨(some 34), .l (.load false 1 (.tmp 33)), 112⟩,
       ⟨(some 35), .p (.bin .lss (.tmp 30) (.tmp 34)), 255⟩,
       ⟨(some 4), .p (.mv (.tmp 35)), 511⟩])])
    (.ret))
   (.skip))))
 (.ops none [⟨(some 16), .p (.mv (.tmp 5))⟩,
   ⟨(some 17), .p (.bin .add (.tmp 16) (.const (.int .i64 (1))))⟩,
   ⟨(some 5), .p (.mv (.tmp 17))⟩])
noncomputable def c29z5 : ICode := .seq (.seq (.seq (.ops none [⟨(some 6), .p (.mv (.tmp 5))⟩,
      ⟨(some 7), .p (.mv (.tmp 0))⟩,
      ⟨(some 8), .p (.lenSl (.tmp 7))⟩,
      ⟨(some 9), .p (.bin .lss (.tmp 6) (.tmp 8))⟩,
      ⟨(some 10), .p (.mv (.tmp 9))⟩])
   (.cut [0, 1, 5, 10] c29z9)) c29z7) c29z6
noncomputable def c29z16 : ICode := .seq (.ops none [⟨(some 36), .p (.mv (.tmp 0))⟩,
    ⟨(some 37), .p (.lenSl (.tmp 36))⟩,
    ⟨(some 38), .p (.mv (.tmp 1))⟩,
    ⟨(some 39), .p (.lenSl (.tmp 38))⟩,
    ⟨(some 40), .p (.bin .lss (.tmp 37) (.tmp 39))⟩,
    ⟨(some 4), .p (.mv (.tmp 40))⟩])
 (.ret)
noncomputable def c29z2 : ICode := .cut [0, 1] c29z16
noncomputable def c29 : ICode := .seq (.ops none [⟨(some 4), .p (.mv (.const (.bool false)))⟩])
 (.seq (.seq (.ops none [⟨(some 5), .p (.mv (.const (.int .i64 (0))))⟩])
  (.block 0 (.loop [0, 1] [5] c29z5))) c29z2)
theorem k29 : compFn Try.prog 29 [[], [], [0, 1], [5], [0, 1, 5, 10], [0, 1, 5, 10, 14], [], [], [], [], [], [0, 1], []] = some (41, c29, [.tmp 4]) := by kernel_rfl
def K29z0 (_P : Program) (K : Value → Heap → Prop) : Exit → (Nat → Value) → Heap → Prop := bodyP [.tmp 4] K
def K29z2 (P : Program) (K : Value → Heap → Prop) : Exit → (Nat → Value) → Heap → Prop := thenK (iwpP P c29z2 (K29z0 P K)) (K29z0 P K)
def K29z4 (P : Program) (K : Value → Heap → Prop) : Exit → (Nat → Value) → Heap → Prop := inBlockK 0 (K29z2 P K)
def K29z5 (P : Program) (K : Value → Heap → Prop) (a0 b1 : Value) (L1 : List Value → Heap → Prop) : Exit → (Nat → Value) → Heap → Prop := thenK (fun f' h'' => (([0, 1] : List Nat).map f' : List Value) = [a0, b1] ∧ L1 (([5] : List Nat).map f') h'') (K29z4 P K)
def K29z6 (P : Program) (K : Value → Heap → Prop) (a0 b1 : Value) (L1 : List Value → Heap → Prop) : Exit → (Nat → Value) → Heap → Prop := thenK (iwpP P c29z6 (K29z5 P K a0 b1 L1)) (K29z5 P K a0 b1 L1)
def K29z7 (P : Program) (K : Value → Heap → Prop) (a0 b1 : Value) (L1 : List Value → Heap → Prop) : Exit → (Nat → Value) → Heap → Prop := thenK (iwpP P c29z7 (K29z6 P K a0 b1 L1)) (K29z6 P K a0 b1 L1)
def p29z5 (P : Program) (K : Value → Heap → Prop) (a0 b1 : Value) (L1 : List Value → Heap → Prop) (xs : List Value) (h : Heap) : Prop := CutP (iwpP P c29z5 (K29z5 P K a0 b1 L1)) ([0, 1] ++ [5]) ([a0, b1] ++ xs) h
def p29z9 (P : Program) (K : Value → Heap → Prop) (a0 b1 i5 x10 : Value) (L1 : List Value → Heap → Prop) (h : Heap) : Prop := CutP (iwpP P c29z9 (K29z7 P K a0 b1 L1)) [0, 1, 5, 10] [a0, b1, i5, x10] h
def p29z11 (P : Program) (K : Value → Heap → Prop) (a0 b1 i5 x10 x14 : Value) (L1 : List Value → Heap → Prop) (h : Heap) : Prop := CutP (iwpP P c29z11 (K29z7 P K a0 b1 L1)) [0, 1, 5, 10, 14] [a0, b1, i5, x10, x14] h
def p29z16 (P : Program) (K : Value → Heap → Prop) (a0 b1 : Value) (h : Heap) : Prop := CutP (iwpP P c29z16 (K29z0 P K)) [0, 1] [a0, b1] h
theorem q29z11 (P : Program) (K : Value → Heap → Prop) (a0 b1 i5 x10 x14 : Value) (L1 : List Value → Heap → Prop) (h : Heap) : p29z11 P K a0 b1 i5 x10 x14 L1 h =
  (OP (iPick x10 x14 (.bool false)) fun x15 =>
  IfP x15
    (OP (iAdrSl 1 a0 i5) fun x20 =>
    OP (iLoad false 1 h x20) fun x21 =>
    (True) ∧
    OP (iAdrSl 1 b1 i5) fun x24 =>
    OP (iLoad false 1 h x24) fun x25 =>
    (True) ∧
    OP (iBin .neq x21 x25) fun x26 =>
    IfP x26
      (OP (iAdrSl 1 a0 i5) fun x29 =>
      OP (iLoad false 1 h x29) fun x30 =>
      (True) ∧
      OP (iAdrSl 1 b1 i5) fun x33 =>
      OP (iLoad false 1 h x33) fun x34 =>
      (True) ∧
      OP (iBin .lss x30 x34) fun x35 =>
      K x35 h)
      (OP (iBin .add i5 (.int .i64 (1))) fun x17 =>
      ([a0, b1] : List Value) = [a0, b1] ∧ L1 [x17] h))
    (p29z16 P K a0 b1 h)) := (CutP_def _ _ _ _).trans (by kernel_rfl)
theorem q29z9 (P : Program) (K : Value → Heap → Prop) (a0 b1 i5 x10 : Value) (L1 : List Value → Heap → Prop) (h : Heap) : p29z9 P K a0 b1 i5 x10 L1 h =
  (GdP x10 true
    (OP (iLenSl b1) fun x13 =>
    OP (iBin .lss i5 x13) fun x14 =>
    p29z11 P K a0 b1 i5 x10 x14 L1 h)
    (p29z11 P K a0 b1 i5 x10 undef L1 h)) := (CutP_def _ _ _ _).trans (by kernel_rfl)
theorem q29z5 (P : Program) (K : Value → Heap → Prop) (a0 b1 : Value) (L1 : List Value → Heap → Prop) (i5 : Value) (h : Heap) : p29z5 P K a0 b1 L1 [i5] h =
  (OP (iLenSl a0) fun x8 =>
  OP (iBin .lss i5 x8) fun x9 =>
  p29z9 P K a0 b1 i5 x9 L1 h) := (CutP_def _ _ _ _).trans (by kernel_rfl)
theorem q29z16 (P : Program) (K : Value → Heap → Prop) (a0 b1 : Value) (h : Heap) : p29z16 P K a0 b1 h =
  (OP (iLenSl a0) fun x37 =>
  OP (iLenSl b1) fun x39 =>
  OP (iBin .lss x37 x39) fun x40 =>
  K x40 h) := (CutP_def _ _ _ _).trans (by kernel_rfl)
def T29 (P : Program) (K : Value → Heap → Prop) (a0 b1 : Value) (h : Heap) : Prop :=
  LoopP [(.int .i64 (0))] h fun L1 xs hx =>
  p29z5 P K a0 b1 L1 xs hx
theorem e29 (P : Program) (K : Value → Heap → Prop) (a0 b1 : Value) (h : Heap) : iwpP P c29 (bodyP [.tmp 4] K) (frame0 [a0, b1]) h = T29 P K a0 b1 h := by kernel_rfl
theorem f29 {K : Value → Heap → Prop} {a0 b1 : Value} {h : Heap} (H : T29 Try.prog K a0 b1 h) : CallP Try.prog 29 [a0, b1] h K :=
  callP_intro k29 (Nat.le_of_ble_eq_true rfl) ((e29 Try.prog K a0 b1 h).mpr H)
/-! F30: pommel/stitch.read -/
noncomputable def c30z11 : ICode := .ops none [⟨(some 19), .p (.pick (.tmp 15) (.const (.bool true)) (.tmp 18))⟩]
noncomputable def c30z9 : ICode := .seq (.ops (some (15, false)) [⟨(some 16), .p (.mv (.tmp 1))⟩,
    ⟨(some 17), .p (.lenSl (.tmp 16))⟩,
    ⟨(some 18), .p (.bin .gtr (.tmp 17) (.const (.int .i64 (30))))⟩])
 (.cut [0, 1, 15, 18] c30z11)
noncomputable def c30z7 : ICode := .seq (.ops none [⟨(some 14), .p (.pick (.tmp 11) (.const (.bool true)) (.tmp 13))⟩,
    ⟨(some 15), .p (.mv (.tmp 14))⟩])
 (.cut [0, 1, 15] c30z9)
noncomputable def c30z5 : ICode := .seq (.ops (some (11, false)) [⟨(some 12), .p (.mv (.tmp 0))⟩,
    ⟨(some 13), .p (.bin .gtr (.tmp 12) (.const (.int .i64 (6))))⟩])
 (.cut [0, 1, 11, 13] c30z7)
noncomputable def c30z3 : ICode := .cond (.tmp 19) (.seq (.ops none [⟨(some 4), .p (.mv (.const (.pointer none)))⟩,
     ⟨(some 5), .p (.mv (.const (.bool false)))⟩])
  (.ret))
 (.skip)
noncomputable def c30z32 : ICode := .ops none [⟨(some 50), .p (.pick (.tmp 44) (.const (.bool true)) (.tmp 49))⟩]
noncomputable def c30z30 : ICode := .seq (.ops (some (44, false)) [⟨(some 45), .p (.fadr 0 (.tmp 8))⟩,
    ⟨(some 46), .l (.load false 1 (.tmp 45))⟩,
    ⟨(some 47), .p (.fadr 1 (.tmp 8))⟩,
    ⟨(some 48), .l (.load false 1 (.tmp 47))⟩,
    ⟨(some 49), .p (.bin .eql (.tmp 46) (.tmp 48))⟩])
 (.cut [0, 6, 8, 23, 24, 25, 44, 49] c30z32)
noncomputable def c30z28 : ICode := .seq (.ops none [⟨(some 43), .p (.pick (.tmp 35) (.const (.bool true)) (.tmp 42))⟩,
    ⟨(some 44), .p (.mv (.tmp 43))⟩])
 (.cut [0, 6, 8, 23, 24, 25, 44] c30z30)
noncomputable def c30z26 : ICode := .seq (.ops (some (35, false)) [⟨(some 36), .p (.fadr 0 (.tmp 8))⟩,
    ⟨(some 37), .l (.load false 1 (.tmp 36))⟩,
    ⟨(some 38), .p (.fadr 1 (.tmp 8))⟩,
    ⟨(some 39), .l (.load false 1 (.tmp 38))⟩,
    ⟨(some 40), .p (.minmax true [(.tmp 37), (.tmp 39)])⟩,
    ⟨(some 41), .p (.mv (.tmp 0))⟩,
    ⟨(some 42), .p (.bin .geq (.tmp 40) (.tmp 41))⟩])
 (.cut [0, 6, 8, 23, 24, 25, 35, 42] c30z28)
noncomputable def c30z24 : ICode := .cond (.tmp 50) (.seq (.ops none [⟨(some 4), .p (.mv (.const (.pointer none)))⟩,
     ⟨(some 5), .p (.mv (.const (.bool false)))⟩])
  (.ret))
 (.skip)
noncomputable def c30z23 : ICode := .dops [(none, [⟨(some 51), .p (.mv (.tmp 6)), 0⟩,
   ⟨(some 52), .p (.fadr 0 (.tmp 8)), 0⟩,
   ⟨(some 53), .l (.load false 1 (.tmp 52)), 2⟩,
   ⟨(some 54), .p (.fadr 1 (.tmp 8)), 0⟩,
   ⟨(some 55), .l (.load false 1 (.tmp 54)), 8⟩,
   ⟨(some 56), .p (.mv (.tmp 6)), 0⟩,
   ⟨(some 57), .p (.fadr 1 (.tmp 8)), 0⟩,
   ⟨(some 58), .l (.load false 1 (.tmp 57)), 64⟩,
   ⟨(some 59), .p (.fadr 0 (.tmp 8)), 0⟩,
   ⟨(some 60), .l (.load false 1 (.tmp 59)), 256⟩,
   ⟨(some 61), .p (.nilck (.tmp 51)), 1⟩,
   ⟨(some 62), .p (.fadr 1 (.tmp 61)), 1025⟩,
   ⟨(some 63), .p (.adrArr 6 6 (.tmp 62) (.tmp 53)), 3079⟩,
   ⟨(some 64), .p (.adrArr 6 1 (.tmp 63) (.tmp 55)), 7199⟩,
   ⟨none, .e (.store 1 (.tmp 64) (.const (.bool true))), 15391⟩,
   ⟨(some 65), .p (.nilck (.tmp 56)), 32⟩,
   ⟨(some 66), .p (.fadr 1 (.tmp 65)), 32800⟩,
   ⟨(some 67), .p (.adrArr 6 6 (.tmp 66) (.tmp 58)), 98528⟩,
   ⟨(some 68), .p (.adrArr 6 1 (.tmp 67) (.tmp 60)), 262143⟩,
   ⟨none, .e (.store 1 (.tmp 68) (.const (.bool true))), 524287⟩])]
noncomputable def c30z20 : ICode := .ops none [⟨(some 69), .p (.bin .add (.tmp 25) (.const (.int .i64 (1))))⟩,
   ⟨(some 25), .p (.mv (.tmp 69))⟩]
noncomputable def c30z17 : ICode := .seq (.ops none [⟨(some 26), .p (.bin .lss (.tmp 25) (.tmp 24))⟩])
 (.seq (.cond (.tmp 26) (.skip)
  (.exit 0))
 (.seq (.block 1 (.seq (.ops none [⟨(some 27), .p (.adrSl 2 (.tmp 23) (.tmp 25))⟩,
      ⟨(some 28), .l (.load true 2 (.tmp 27))⟩,
      ⟨(some 8), .e (.alloc 26 [(.int .i64 (0)), (.int .i64 (0))])⟩,
      ⟨none, .e (.store 2 (.tmp 8) (.tmp 28))⟩])
   (.seq (.seq (.seq (.ops none [⟨(some 29), .p (.fadr 0 (.tmp 8))⟩,
        ⟨(some 30), .l (.load false 1 (.tmp 29))⟩,
        ⟨(some 31), .p (.fadr 1 (.tmp 8))⟩,
        ⟨(some 32), .l (.load false 1 (.tmp 31))⟩,
        ⟨(some 33), .p (.minmax false [(.tmp 30), (.tmp 32)])⟩,
        ⟨(some 34), .p (.bin .lss (.tmp 33) (.const (.int .i64 (0))))⟩,
        ⟨(some 35), .p (.mv (.tmp 34))⟩])
     (.cut [0, 6, 8, 23, 24, 25, 35] c30z26)) c30z24) c30z23))) c30z20))
noncomputable def c30z34 : ICode := .seq (.ops none [⟨(some 70), .p (.mv (.tmp 6))⟩,
    ⟨(some 4), .p (.mv (.tmp 70))⟩,
    ⟨(some 5), .p (.mv (.const (.bool true)))⟩])
 (.ret)
noncomputable def c30z14 : ICode := .cut [6] c30z34
noncomputable def c30z2 : ICode := .seq (.ops none [⟨(some 20), .p (.mv (.tmp 0))⟩,
    ⟨(some 21), .p (.build [(.int .i64 (0)), (.bool false), (.bool false), (.bool false), (.bool false), (.bool false), (.bool false), (.bool false), (.bool false), (.bool false), (.bool false), (.bool false), (.bool false), (.bool false), (.bool false), (.bool false), (.bool false), (.bool false), (.bool false), (.bool false), (.bool false), (.bool false), (.bool false), (.bool false), (.bool false), (.bool false), (.bool false), (.bool false), (.bool false), (.bool false), (.bool false), (.bool false), (.bool false), (.bool false), (.bool false), (.bool false), (.bool false)] [(0, 1, (.tmp 20))])⟩,
    ⟨(some 22), .e (.box 58 (.tmp 21))⟩,
    ⟨(some 6), .p (.mv (.tmp 22))⟩])
 (.seq (.seq (.ops none [⟨(some 23), .p (.mv (.tmp 1))⟩,
     ⟨(some 24), .p (.lenSl (.tmp 23))⟩,
     ⟨(some 25), .p (.mv (.const (.int .i64 (0))))⟩])
  (.block 0 (.loop [0, 6, 23, 24] [25] c30z17))) c30z14)
noncomputable def c30 : ICode := .seq (.ops none [⟨(some 4), .p (.mv (.const (.pointer none)))⟩,
    ⟨(some 5), .p (.mv (.const (.bool false)))⟩])
 (.seq (.seq (.seq (.ops none [⟨(some 9), .p (.mv (.tmp 0))⟩,
      ⟨(some 10), .p (.bin .lss (.tmp 9) (.const (.int .i64 (1))))⟩,
      ⟨(some 11), .p (.mv (.tmp 10))⟩])
   (.cut [0, 1, 11] c30z5)) c30z3) c30z2)
theorem k30 : compFn Try.prog 30 [[], [0, 1, 11], [0, 1, 11, 13], [0, 1, 15], [0, 1, 15, 18], [], [], [], [], [], [0, 6, 23, 24], [25], [], [], [], [0, 6, 8, 23, 24, 25, 35], [0, 6, 8, 23, 24, 25, 35, 42], [0, 6, 8, 23, 24, 25, 44], [0, 6, 8, 23, 24, 25, 44, 49], [], [], [], [], [6], []] = some (71, c30, [.tmp 4, .tmp 5]) := by kernel_rfl
def K30z0 (_P : Program) (K : Value → Heap → Prop) : Exit → (Nat → Value) → Heap → Prop := bodyP [.tmp 4, .tmp 5] K
def K30z2 (P : Program) (K : Value → Heap → Prop) : Exit → (Nat → Value) → Heap → Prop := thenK (iwpP P c30z2 (K30z0 P K)) (K30z0 P K)
def K30z3 (P : Program) (K : Value → Heap → Prop) : Exit → (Nat → Value) → Heap → Prop := thenK (iwpP P c30z3 (K30z2 P K)) (K30z2 P K)
def K30z14 (P : Program) (K : Value → Heap → Prop) : Exit → (Nat → Value) → Heap → Prop := thenK (iwpP P c30z14 (K30z0 P K)) (K30z0 P K)
def K30z16 (P : Program) (K : Value → Heap → Prop) : Exit → (Nat → Value) → Heap → Prop := inBlockK 0 (K30z14 P K)
def K30z17 (P : Program) (K : Value → Heap → Prop) (k0 t6 x23 x24 : Value) (L1 : List Value → Heap → Prop) : Exit → (Nat → Value) → Heap → Prop := thenK (fun f' h'' => (([0, 6, 23, 24] : List Nat).map f' : List Value) = [k0, t6, x23, x24] ∧ L1 (([25] : List Nat).map f') h'') (K30z16 P K)
def K30z20 (P : Program) (K : Value → Heap → Prop) (k0 t6 x23 x24 : Value) (L1 : List Value → Heap → Prop) : Exit → (Nat → Value) → Heap → Prop := thenK (iwpP P c30z20 (K30z17 P K k0 t6 x23 x24 L1)) (K30z17 P K k0 t6 x23 x24 L1)
def K30z21 (P : Program) (K : Value → Heap → Prop) (k0 t6 x23 x24 : Value) (L1 : List Value → Heap → Prop) : Exit → (Nat → Value) → Heap → Prop := inBlockK 1 (K30z20 P K k0 t6 x23 x24 L1)
def K30z23 (P : Program) (K : Value → Heap → Prop) (k0 t6 x23 x24 : Value) (L1 : List Value → Heap → Prop) : Exit → (Nat → Value) → Heap → Prop := thenK (iwpP P c30z23 (K30z21 P K k0 t6 x23 x24 L1)) (K30z21 P K k0 t6 x23 x24 L1)
def K30z24 (P : Program) (K : Value → Heap → Prop) (k0 t6 x23 x24 : Value) (L1 : List Value → Heap → Prop) : Exit → (Nat → Value) → Heap → Prop := thenK (iwpP P c30z24 (K30z23 P K k0 t6 x23 x24 L1)) (K30z23 P K k0 t6 x23 x24 L1)
def p30z5 (P : Program) (K : Value → Heap → Prop) (k0 pairs1 x11 : Value) (h : Heap) : Prop := CutP (iwpP P c30z5 (K30z3 P K)) [0, 1, 11] [k0, pairs1, x11] h
def p30z7 (P : Program) (K : Value → Heap → Prop) (k0 pairs1 x11 x13 : Value) (h : Heap) : Prop := CutP (iwpP P c30z7 (K30z3 P K)) [0, 1, 11, 13] [k0, pairs1, x11, x13] h
def p30z9 (P : Program) (K : Value → Heap → Prop) (k0 pairs1 x15 : Value) (h : Heap) : Prop := CutP (iwpP P c30z9 (K30z3 P K)) [0, 1, 15] [k0, pairs1, x15] h
def p30z11 (P : Program) (K : Value → Heap → Prop) (k0 pairs1 x15 x18 : Value) (h : Heap) : Prop := CutP (iwpP P c30z11 (K30z3 P K)) [0, 1, 15, 18] [k0, pairs1, x15, x18] h
def p30z17 (P : Program) (K : Value → Heap → Prop) (k0 t6 x23 x24 : Value) (L1 : List Value → Heap → Prop) (xs : List Value) (h : Heap) : Prop := CutP (iwpP P c30z17 (K30z17 P K k0 t6 x23 x24 L1)) ([0, 6, 23, 24] ++ [25]) ([k0, t6, x23, x24] ++ xs) h
def p30z26 (P : Program) (K : Value → Heap → Prop) (k0 t6 p8 x23 x24 x25 x35 : Value) (L1 : List Value → Heap → Prop) (h : Heap) : Prop := CutP (iwpP P c30z26 (K30z24 P K k0 t6 x23 x24 L1)) [0, 6, 8, 23, 24, 25, 35] [k0, t6, p8, x23, x24, x25, x35] h
def p30z28 (P : Program) (K : Value → Heap → Prop) (k0 t6 p8 x23 x24 x25 x35 x42 : Value) (L1 : List Value → Heap → Prop) (h : Heap) : Prop := CutP (iwpP P c30z28 (K30z24 P K k0 t6 x23 x24 L1)) [0, 6, 8, 23, 24, 25, 35, 42] [k0, t6, p8, x23, x24, x25, x35, x42] h
def p30z30 (P : Program) (K : Value → Heap → Prop) (k0 t6 p8 x23 x24 x25 x44 : Value) (L1 : List Value → Heap → Prop) (h : Heap) : Prop := CutP (iwpP P c30z30 (K30z24 P K k0 t6 x23 x24 L1)) [0, 6, 8, 23, 24, 25, 44] [k0, t6, p8, x23, x24, x25, x44] h
def p30z32 (P : Program) (K : Value → Heap → Prop) (k0 t6 p8 x23 x24 x25 x44 x49 : Value) (L1 : List Value → Heap → Prop) (h : Heap) : Prop := CutP (iwpP P c30z32 (K30z24 P K k0 t6 x23 x24 L1)) [0, 6, 8, 23, 24, 25, 44, 49] [k0, t6, p8, x23, x24, x25, x44, x49] h
def p30z34 (P : Program) (K : Value → Heap → Prop) (t6 : Value) (h : Heap) : Prop := CutP (iwpP P c30z34 (K30z0 P K)) [6] [t6] h
theorem q30z11 (P : Program) (K : Value → Heap → Prop) (k0 pairs1 x15 x18 : Value) (h : Heap) : p30z11 P K k0 pairs1 x15 x18 h =
  (OP (iPick x15 (.bool true) x18) fun x19 =>
  IfP x19
    (K (.tuple #[(.pointer none), (.bool false)]) h)
    (OP (iBuild [(.int .i64 (0)), (.bool false), (.bool false), (.bool false), (.bool false), (.bool false), (.bool false), (.bool false), (.bool false), (.bool false), (.bool false), (.bool false), (.bool false), (.bool false), (.bool false), (.bool false), (.bool false), (.bool false), (.bool false), (.bool false), (.bool false), (.bool false), (.bool false), (.bool false), (.bool false), (.bool false), (.bool false), (.bool false), (.bool false), (.bool false), (.bool false), (.bool false), (.bool false), (.bool false), (.bool false), (.bool false), (.bool false)] [(0, 1, k0)]) fun x21 =>
    OH (iBox 58 h x21) fun x22 h_1 =>
    OP (iLenSl pairs1) fun x24 =>
    LoopP [(.int .i64 (0))] h_1 fun L1 xs hx =>
    p30z17 P K k0 x22 pairs1 x24 L1 xs hx)) := (CutP_def _ _ _ _).trans (by kernel_rfl)
theorem q30z9 (P : Program) (K : Value → Heap → Prop) (k0 pairs1 x15 : Value) (h : Heap) : p30z9 P K k0 pairs1 x15 h =
  (GdP x15 false
    (OP (iLenSl pairs1) fun x17 =>
    OP (iBin .gtr x17 (.int .i64 (30))) fun x18 =>
    p30z11 P K k0 pairs1 x15 x18 h)
    (p30z11 P K k0 pairs1 x15 undef h)) := (CutP_def _ _ _ _).trans (by kernel_rfl)
theorem q30z7 (P : Program) (K : Value → Heap → Prop) (k0 pairs1 x11 x13 : Value) (h : Heap) : p30z7 P K k0 pairs1 x11 x13 h =
  (OP (iPick x11 (.bool true) x13) fun x14 =>
  p30z9 P K k0 pairs1 x14 h) := (CutP_def _ _ _ _).trans (by kernel_rfl)
theorem q30z5 (P : Program) (K : Value → Heap → Prop) (k0 pairs1 x11 : Value) (h : Heap) : p30z5 P K k0 pairs1 x11 h =
  (GdP x11 false
    (OP (iBin .gtr k0 (.int .i64 (6))) fun x13 =>
    p30z7 P K k0 pairs1 x11 x13 h)
    (p30z7 P K k0 pairs1 x11 undef h)) := (CutP_def _ _ _ _).trans (by kernel_rfl)
theorem q30z32 (P : Program) (K : Value → Heap → Prop) (k0 t6 p8 x23 x24 x25 x44 x49 : Value) (L1 : List Value → Heap → Prop) (h : Heap) : p30z32 P K k0 t6 p8 x23 x24 x25 x44 x49 L1 h =
  (OP (iPick x44 (.bool true) x49) fun x50 =>
  IfP x50
    (K (.tuple #[(.pointer none), (.bool false)]) h)
    (OP (iFadr 0 p8) fun x52 =>
    OP (iLoad false 1 h x52) fun x53 =>
    (True) ∧
    OP (iFadr 1 p8) fun x54 =>
    OP (iLoad false 1 h x54) fun x55 =>
    (True) ∧
    OP (iFadr 1 p8) fun x57 =>
    OP (iLoad false 1 h x57) fun x58 =>
    (True) ∧
    OP (iFadr 0 p8) fun x59 =>
    OP (iLoad false 1 h x59) fun x60 =>
    (True) ∧
    OP (iNilck t6) fun x61 =>
    OP (iFadr 1 x61) fun x62 =>
    OP (iAdrArr 6 6 x62 x53) fun x63 =>
    OP (iAdrArr 6 1 x63 x55) fun x64 =>
    OH (oStore 1 h x64 (.bool true)) fun _ h_1 =>
    (iLoad false 1 h_1 x57 = some x58 ∧ iLoad false 1 h_1 x59 = some x60 ∧ True) ∧
    OP (iNilck t6) fun x65 =>
    OP (iFadr 1 x65) fun x66 =>
    OP (iAdrArr 6 6 x66 x58) fun x67 =>
    OP (iAdrArr 6 1 x67 x60) fun x68 =>
    OH (oStore 1 h_1 x68 (.bool true)) fun _ h_2 =>
    (True) ∧
    OP (iBin .add x25 (.int .i64 (1))) fun x69 =>
    ([k0, t6, x23, x24] : List Value) = [k0, t6, x23, x24] ∧ L1 [x69] h_2)) := (CutP_def _ _ _ _).trans (by kernel_rfl)
theorem q30z30 (P : Program) (K : Value → Heap → Prop) (k0 t6 p8 x23 x24 x25 x44 : Value) (L1 : List Value → Heap → Prop) (h : Heap) : p30z30 P K k0 t6 p8 x23 x24 x25 x44 L1 h =
  (GdP x44 false
    (OP (iFadr 0 p8) fun x45 =>
    OP (iLoad false 1 h x45) fun x46 =>
    OP (iFadr 1 p8) fun x47 =>
    OP (iLoad false 1 h x47) fun x48 =>
    OP (iBin .eql x46 x48) fun x49 =>
    p30z32 P K k0 t6 p8 x23 x24 x25 x44 x49 L1 h)
    (p30z32 P K k0 t6 p8 x23 x24 x25 x44 undef L1 h)) := (CutP_def _ _ _ _).trans (by kernel_rfl)
theorem q30z28 (P : Program) (K : Value → Heap → Prop) (k0 t6 p8 x23 x24 x25 x35 x42 : Value) (L1 : List Value → Heap → Prop) (h : Heap) : p30z28 P K k0 t6 p8 x23 x24 x25 x35 x42 L1 h =
  (OP (iPick x35 (.bool true) x42) fun x43 =>
  p30z30 P K k0 t6 p8 x23 x24 x25 x43 L1 h) := (CutP_def _ _ _ _).trans (by kernel_rfl)
theorem q30z26 (P : Program) (K : Value → Heap → Prop) (k0 t6 p8 x23 x24 x25 x35 : Value) (L1 : List Value → Heap → Prop) (h : Heap) : p30z26 P K k0 t6 p8 x23 x24 x25 x35 L1 h =
  (GdP x35 false
    (OP (iFadr 0 p8) fun x36 =>
    OP (iLoad false 1 h x36) fun x37 =>
    OP (iFadr 1 p8) fun x38 =>
    OP (iLoad false 1 h x38) fun x39 =>
    OP (iMinmax true [x37, x39]) fun x40 =>
    OP (iBin .geq x40 k0) fun x42 =>
    p30z28 P K k0 t6 p8 x23 x24 x25 x35 x42 L1 h)
    (p30z28 P K k0 t6 p8 x23 x24 x25 x35 undef L1 h)) := (CutP_def _ _ _ _).trans (by kernel_rfl)
theorem q30z17 (P : Program) (K : Value → Heap → Prop) (k0 t6 x23 x24 : Value) (L1 : List Value → Heap → Prop) (x25 : Value) (h : Heap) : p30z17 P K k0 t6 x23 x24 L1 [x25] h =
  (OP (iBin .lss x25 x24) fun x26 =>
  IfP x26
    (OP (iAdrSl 2 x23 x25) fun x27 =>
    OP (iLoad true 2 h x27) fun x28 =>
    OH (iAlloc 26 [(.int .i64 (0)), (.int .i64 (0))] h) fun p8 h_1 =>
    OH (oStore 2 h_1 p8 x28) fun _ h_2 =>
    OP (iFadr 0 p8) fun x29 =>
    OP (iLoad false 1 h_2 x29) fun x30 =>
    OP (iFadr 1 p8) fun x31 =>
    OP (iLoad false 1 h_2 x31) fun x32 =>
    OP (iMinmax false [x30, x32]) fun x33 =>
    OP (iBin .lss x33 (.int .i64 (0))) fun x34 =>
    p30z26 P K k0 t6 p8 x23 x24 x25 x34 L1 h_2)
    (p30z34 P K t6 h)) := (CutP_def _ _ _ _).trans (by kernel_rfl)
theorem q30z34 (P : Program) (K : Value → Heap → Prop) (t6 : Value) (h : Heap) : p30z34 P K t6 h =
  (K (.tuple #[t6, (.bool true)]) h) := (CutP_def _ _ _ _).trans (by kernel_rfl)
def T30 (P : Program) (K : Value → Heap → Prop) (k0 pairs1 : Value) (h : Heap) : Prop :=
  OP (iBin .lss k0 (.int .i64 (1))) fun x10 =>
  p30z5 P K k0 pairs1 x10 h
theorem e30 (P : Program) (K : Value → Heap → Prop) (k0 pairs1 : Value) (h : Heap) : iwpP P c30 (bodyP [.tmp 4, .tmp 5] K) (frame0 [k0, pairs1]) h = T30 P K k0 pairs1 h := by kernel_rfl
theorem f30 {K : Value → Heap → Prop} {k0 pairs1 : Value} {h : Heap} (H : T30 Try.prog K k0 pairs1 h) : CallP Try.prog 30 [k0, pairs1] h K :=
  callP_intro k30 (Nat.le_of_ble_eq_true rfl) ((e30 Try.prog K k0 pairs1 h).mpr H)
/-! F31: (*pommel/stitch.threads).meets -/
noncomputable def c31 : ICode := .seq (.ops none [⟨(some 6), .p (.mv (.const (.bool false)))⟩])
 (.seq (.ops none [⟨(some 7), .p (.mv (.tmp 0))⟩,
    ⟨(some 8), .p (.mv (.tmp 1))⟩,
    ⟨(some 9), .p (.bin .sub (.tmp 8) (.const (.int .u8 (97))))⟩,
    ⟨(some 10), .p (.mv (.tmp 2))⟩,
    ⟨(some 11), .p (.bin .sub (.tmp 10) (.const (.int .u8 (97))))⟩,
    ⟨(some 12), .p (.nilck (.tmp 7))⟩,
    ⟨(some 13), .p (.fadr 1 (.tmp 12))⟩,
    ⟨(some 14), .p (.adrArr 6 6 (.tmp 13) (.tmp 9))⟩,
    ⟨(some 15), .p (.adrArr 6 1 (.tmp 14) (.tmp 11))⟩,
    ⟨(some 16), .l (.load false 1 (.tmp 15))⟩,
    ⟨(some 17), .p (.un .not (.tmp 16))⟩,
    ⟨(some 6), .p (.mv (.tmp 17))⟩])
 (.ret))
theorem k31 : compFn Try.prog 31 [[], []] = some (18, c31, [.tmp 6]) := by kernel_rfl
def K31z0 (_P : Program) (K : Value → Heap → Prop) : Exit → (Nat → Value) → Heap → Prop := bodyP [.tmp 6] K
def T31 (P : Program) (K : Value → Heap → Prop) (t0 a1 b2 : Value) (h : Heap) : Prop :=
  OP (iBin .sub a1 (.int .u8 (97))) fun x9 =>
  OP (iBin .sub b2 (.int .u8 (97))) fun x11 =>
  OP (iNilck t0) fun x12 =>
  OP (iFadr 1 x12) fun x13 =>
  OP (iAdrArr 6 6 x13 x9) fun x14 =>
  OP (iAdrArr 6 1 x14 x11) fun x15 =>
  OP (iLoad false 1 h x15) fun x16 =>
  OP (iUn .not x16) fun x17 =>
  K x17 h
theorem e31 (P : Program) (K : Value → Heap → Prop) (t0 a1 b2 : Value) (h : Heap) : iwpP P c31 (bodyP [.tmp 6] K) (frame0 [t0, a1, b2]) h = T31 P K t0 a1 b2 h := by kernel_rfl
theorem f31 {K : Value → Heap → Prop} {t0 a1 b2 : Value} {h : Heap} (H : T31 Try.prog K t0 a1 b2 h) : CallP Try.prog 31 [t0, a1, b2] h K :=
  callP_intro k31 (Nat.le_of_ble_eq_true rfl) ((e31 Try.prog K t0 a1 b2 h).mpr H)
/-! F32: (*pommel/stitch.threads).letters$1 -/
noncomputable def c32z21 : ICode := .ops none [⟨(some 34), .p (.bin .add (.tmp 17) (.const (.int .i64 (1))))⟩,
   ⟨(some 17), .p (.mv (.tmp 34))⟩]
noncomputable def c32z14 : ICode := .seq (.ops none [⟨(some 18), .p (.bin .lss (.tmp 17) (.tmp 16))⟩])
 (.seq (.cond (.tmp 18) (.skip)
  (.exit 2))
 (.seq (.block 3 (.seq (.ops none [⟨(some 19), .p (.mv (.tmp 17))⟩,
      ⟨(some 7), .p (.mv (.tmp 19))⟩])
   (.seq (.dops [(none, [⟨(some 20), .l (.load false 1 (.tmp 2)), 0⟩,
      ⟨(some 21), .l (.load false 1 (.tmp 1)), 0⟩,
      ⟨(some 22), .p (.mv (.tmp 5)), 0⟩,
      ⟨(some 23), .p (.idxS (.tmp 21) (.tmp 22)), 6⟩,
      ⟨(some 24), .p (.mv (.tmp 7)), 0⟩,
      ⟨(some 25), .p (.conv .u8 (.tmp 24)), 16⟩,
      ⟨(some 26), .p (.bin .add (.const (.int .u8 (97))) (.tmp 25)), 48⟩,
      ⟨(some 27), .call 31 [(.tmp 20), (.tmp 23), (.tmp 26)], 127⟩])])
   (.cond (.tmp 27) (.ops none [⟨(some 28), .p (.mv (.tmp 6))⟩,
      ⟨(some 29), .p (.mv (.tmp 7))⟩,
      ⟨(some 30), .p (.adrArr 6 1 (.tmp 4) (.tmp 29))⟩,
      ⟨(some 31), .l (.load false 1 (.tmp 30))⟩,
      ⟨(some 32), .p (.bin .add (.tmp 31) (.const (.int .i64 (1))))⟩,
      ⟨(some 33), .p (.minmax true [(.tmp 28), (.tmp 32)])⟩,
      ⟨(some 6), .p (.mv (.tmp 33))⟩])
   (.skip)))))
 (.cut [0, 1, 2, 4, 5, 6, 9, 10, 16, 17] c32z21)))
noncomputable def c32z22 : ICode := .seq (.ops none [⟨(some 35), .l (.load false 1 (.tmp 1))⟩,
    ⟨(some 36), .p (.mv (.tmp 5))⟩,
    ⟨(some 37), .p (.idxS (.tmp 35) (.tmp 36))⟩,
    ⟨(some 38), .p (.bin .sub (.tmp 37) (.const (.int .u8 (97))))⟩,
    ⟨(some 39), .p (.mv (.tmp 6))⟩,
    ⟨(some 40), .p (.adrArr 6 1 (.tmp 4) (.tmp 38))⟩,
    ⟨none, .e (.store 1 (.tmp 40) (.tmp 39))⟩])
 (.seq (.ops none [⟨(some 41), .p (.mv (.tmp 0))⟩,
    ⟨(some 42), .l (.load false 1 (.tmp 1))⟩,
    ⟨(some 43), .p (.mv (.tmp 5))⟩,
    ⟨(some 44), .p (.idxS (.tmp 42) (.tmp 43))⟩,
    ⟨(some 45), .p (.mv (.tmp 6))⟩,
    ⟨(some 46), .callv (.tmp 41) [(.tmp 44), (.tmp 45)]⟩,
    ⟨(some 47), .p (.un .not (.tmp 46))⟩])
 (.cond (.tmp 47) (.ret)
 (.skip)))
noncomputable def c32z11 : ICode := .cut [0, 1, 2, 4, 5, 6, 9, 10] c32z22
noncomputable def c32z25 : ICode := .ops none [⟨(some 48), .p (.bin .add (.tmp 10) (.const (.int .i64 (1))))⟩,
   ⟨(some 10), .p (.mv (.tmp 48))⟩]
noncomputable def c32z7 : ICode := .cut [0, 1, 2, 4, 9, 10] c32z25
noncomputable def c32z4 : ICode := .seq (.ops none [⟨(some 11), .p (.bin .lss (.tmp 10) (.tmp 9))⟩])
 (.seq (.cond (.tmp 11) (.skip)
  (.exit 0))
 (.seq (.block 1 (.seq (.ops none [⟨(some 12), .p (.mv (.tmp 10))⟩,
      ⟨(some 5), .p (.mv (.tmp 12))⟩])
   (.seq (.ops none [⟨(some 6), .p (.mv (.const (.int .i64 (1))))⟩])
   (.seq (.seq (.ops none [⟨(some 13), .l (.load false 1 (.tmp 2))⟩,
       ⟨(some 14), .p (.nilck (.tmp 13))⟩,
       ⟨(some 15), .p (.fadr 0 (.tmp 14))⟩,
       ⟨(some 16), .l (.load false 1 (.tmp 15))⟩,
       ⟨(some 17), .p (.mv (.const (.int .i64 (0))))⟩])
    (.block 2 (.loop [0, 1, 2, 4, 5, 9, 10, 16] [6, 17] c32z14))) c32z11)))) c32z7))
noncomputable def c32 : ICode := .seq (.ops none [⟨(some 4), .e (.alloc 83 [(.int .i64 (0)), (.int .i64 (0)), (.int .i64 (0)), (.int .i64 (0)), (.int .i64 (0)), (.int .i64 (0))])⟩])
 (.seq (.ops none [⟨(some 8), .l (.load false 1 (.tmp 1))⟩,
    ⟨(some 9), .p (.lenS (.tmp 8))⟩,
    ⟨(some 10), .p (.mv (.const (.int .i64 (0))))⟩])
 (.block 0 (.loop [0, 1, 2, 4, 9] [10] c32z4)))
theorem k32 : compFn Try.prog 32 [[], [], [0, 1, 2, 4, 9], [10], [], [], [], [], [], [0, 1, 2, 4, 5, 9, 10, 16], [6, 17], [], [], [], [], [0, 1, 2, 4, 5, 6, 9, 10, 16, 17], [0, 1, 2, 4, 5, 6, 9, 10], [], [], [0, 1, 2, 4, 9, 10]] = some (49, c32, []) := by kernel_rfl
def K32z0 (_P : Program) (K : Value → Heap → Prop) : Exit → (Nat → Value) → Heap → Prop := bodyP [] K
def K32z3 (P : Program) (K : Value → Heap → Prop) : Exit → (Nat → Value) → Heap → Prop := inBlockK 0 (K32z0 P K)
def K32z4 (P : Program) (K : Value → Heap → Prop) (yield0 x1 x2 steps4 x9 : Value) (L1 : List Value → Heap → Prop) : Exit → (Nat → Value) → Heap → Prop := thenK (fun f' h'' => (([0, 1, 2, 4, 9] : List Nat).map f' : List Value) = [yield0, x1, x2, steps4, x9] ∧ L1 (([10] : List Nat).map f') h'') (K32z3 P K)
def K32z7 (P : Program) (K : Value → Heap → Prop) (yield0 x1 x2 steps4 x9 : Value) (L1 : List Value → Heap → Prop) : Exit → (Nat → Value) → Heap → Prop := thenK (iwpP P c32z7 (K32z4 P K yield0 x1 x2 steps4 x9 L1)) (K32z4 P K yield0 x1 x2 steps4 x9 L1)
def K32z8 (P : Program) (K : Value → Heap → Prop) (yield0 x1 x2 steps4 x9 : Value) (L1 : List Value → Heap → Prop) : Exit → (Nat → Value) → Heap → Prop := inBlockK 1 (K32z7 P K yield0 x1 x2 steps4 x9 L1)
def K32z11 (P : Program) (K : Value → Heap → Prop) (yield0 x1 x2 steps4 x9 : Value) (L1 : List Value → Heap → Prop) : Exit → (Nat → Value) → Heap → Prop := thenK (iwpP P c32z11 (K32z8 P K yield0 x1 x2 steps4 x9 L1)) (K32z8 P K yield0 x1 x2 steps4 x9 L1)
def K32z13 (P : Program) (K : Value → Heap → Prop) (yield0 x1 x2 steps4 x9 : Value) (L1 : List Value → Heap → Prop) : Exit → (Nat → Value) → Heap → Prop := inBlockK 2 (K32z11 P K yield0 x1 x2 steps4 x9 L1)
def K32z14 (P : Program) (K : Value → Heap → Prop) (yield0 x1 x2 steps4 i5 x9 x10 x16 : Value) (L1 L2 : List Value → Heap → Prop) : Exit → (Nat → Value) → Heap → Prop := thenK (fun f' h'' => (([0, 1, 2, 4, 5, 9, 10, 16] : List Nat).map f' : List Value) = [yield0, x1, x2, steps4, i5, x9, x10, x16] ∧ L2 (([6, 17] : List Nat).map f') h'') (K32z13 P K yield0 x1 x2 steps4 x9 L1)
def p32z4 (P : Program) (K : Value → Heap → Prop) (yield0 x1 x2 steps4 x9 : Value) (L1 : List Value → Heap → Prop) (xs : List Value) (h : Heap) : Prop := CutP (iwpP P c32z4 (K32z4 P K yield0 x1 x2 steps4 x9 L1)) ([0, 1, 2, 4, 9] ++ [10]) ([yield0, x1, x2, steps4, x9] ++ xs) h
def p32z14 (P : Program) (K : Value → Heap → Prop) (yield0 x1 x2 steps4 i5 x9 x10 x16 : Value) (L1 L2 : List Value → Heap → Prop) (xs : List Value) (h : Heap) : Prop := CutP (iwpP P c32z14 (K32z14 P K yield0 x1 x2 steps4 i5 x9 x10 x16 L1 L2)) ([0, 1, 2, 4, 5, 9, 10, 16] ++ [6, 17]) ([yield0, x1, x2, steps4, i5, x9, x10, x16] ++ xs) h
def p32z21 (P : Program) (K : Value → Heap → Prop) (yield0 x1 x2 steps4 i5 step6 x9 x10 x16 x17 : Value) (L1 L2 : List Value → Heap → Prop) (h : Heap) : Prop := CutP (iwpP P c32z21 (K32z14 P K yield0 x1 x2 steps4 i5 x9 x10 x16 L1 L2)) [0, 1, 2, 4, 5, 6, 9, 10, 16, 17] [yield0, x1, x2, steps4, i5, step6, x9, x10, x16, x17] h
def p32z22 (P : Program) (K : Value → Heap → Prop) (yield0 x1 x2 steps4 i5 step6 x9 x10 : Value) (L1 : List Value → Heap → Prop) (h : Heap) : Prop := CutP (iwpP P c32z22 (K32z8 P K yield0 x1 x2 steps4 x9 L1)) [0, 1, 2, 4, 5, 6, 9, 10] [yield0, x1, x2, steps4, i5, step6, x9, x10] h
def p32z25 (P : Program) (K : Value → Heap → Prop) (yield0 x1 x2 steps4 x9 x10 : Value) (L1 : List Value → Heap → Prop) (h : Heap) : Prop := CutP (iwpP P c32z25 (K32z4 P K yield0 x1 x2 steps4 x9 L1)) [0, 1, 2, 4, 9, 10] [yield0, x1, x2, steps4, x9, x10] h
theorem q32z21 (P : Program) (K : Value → Heap → Prop) (yield0 x1 x2 steps4 i5 step6 x9 x10 x16 x17 : Value) (L1 L2 : List Value → Heap → Prop) (h : Heap) : p32z21 P K yield0 x1 x2 steps4 i5 step6 x9 x10 x16 x17 L1 L2 h =
  (OP (iBin .add x17 (.int .i64 (1))) fun x34 =>
  ([yield0, x1, x2, steps4, i5, x9, x10, x16] : List Value) = [yield0, x1, x2, steps4, i5, x9, x10, x16] ∧ L2 [step6, x34] h) := (CutP_def _ _ _ _).trans (by kernel_rfl)
theorem q32z14 (P : Program) (K : Value → Heap → Prop) (yield0 x1 x2 steps4 i5 x9 x10 x16 : Value) (L1 L2 : List Value → Heap → Prop) (step6 x17 : Value) (h : Heap) : p32z14 P K yield0 x1 x2 steps4 i5 x9 x10 x16 L1 L2 [step6, x17] h =
  (OP (iBin .lss x17 x16) fun x18 =>
  IfP x18
    (OP (iLoad false 1 h x2) fun x20 =>
    (True) ∧
    OP (iLoad false 1 h x1) fun x21 =>
    (True) ∧
    OP (iIdxS x21 i5) fun x23 =>
    OP (iConv .u8 x17) fun x25 =>
    OP (iBin .add (.int .u8 (97)) x25) fun x26 =>
    CallP P 31 [x20, x23, x26] h fun x27 h_1 =>
    (True) ∧
    IfP x27
      (OP (iAdrArr 6 1 steps4 x17) fun x30 =>
      OP (iLoad false 1 h_1 x30) fun x31 =>
      OP (iBin .add x31 (.int .i64 (1))) fun x32 =>
      OP (iMinmax true [step6, x32]) fun x33 =>
      p32z21 P K yield0 x1 x2 steps4 i5 x33 x9 x10 x16 x17 L1 L2 h_1)
      (p32z21 P K yield0 x1 x2 steps4 i5 step6 x9 x10 x16 x17 L1 L2 h_1))
    (p32z22 P K yield0 x1 x2 steps4 i5 step6 x9 x10 L1 h)) := (CutP_def _ _ _ _).trans (by kernel_rfl)
theorem q32z22 (P : Program) (K : Value → Heap → Prop) (yield0 x1 x2 steps4 i5 step6 x9 x10 : Value) (L1 : List Value → Heap → Prop) (h : Heap) : p32z22 P K yield0 x1 x2 steps4 i5 step6 x9 x10 L1 h =
  (OP (iLoad false 1 h x1) fun x35 =>
  OP (iIdxS x35 i5) fun x37 =>
  OP (iBin .sub x37 (.int .u8 (97))) fun x38 =>
  OP (iAdrArr 6 1 steps4 x38) fun x40 =>
  OH (oStore 1 h x40 step6) fun _ h_1 =>
  OP (iLoad false 1 h_1 x1) fun x42 =>
  OP (iIdxS x42 i5) fun x44 =>
  CallVP P yield0 [x44, step6] h_1 fun x46 h_2 =>
  OP (iUn .not x46) fun x47 =>
  IfP x47
    (K (.tuple #[]) h_2)
    (p32z25 P K yield0 x1 x2 steps4 x9 x10 L1 h_2)) := (CutP_def _ _ _ _).trans (by kernel_rfl)
theorem q32z25 (P : Program) (K : Value → Heap → Prop) (yield0 x1 x2 steps4 x9 x10 : Value) (L1 : List Value → Heap → Prop) (h : Heap) : p32z25 P K yield0 x1 x2 steps4 x9 x10 L1 h =
  (OP (iBin .add x10 (.int .i64 (1))) fun x48 =>
  ([yield0, x1, x2, steps4, x9] : List Value) = [yield0, x1, x2, steps4, x9] ∧ L1 [x48] h) := (CutP_def _ _ _ _).trans (by kernel_rfl)
theorem q32z4 (P : Program) (K : Value → Heap → Prop) (yield0 x1 x2 steps4 x9 : Value) (L1 : List Value → Heap → Prop) (x10 : Value) (h : Heap) : p32z4 P K yield0 x1 x2 steps4 x9 L1 [x10] h =
  (OP (iBin .lss x10 x9) fun x11 =>
  IfP x11
    (OP (iLoad false 1 h x2) fun x13 =>
    OP (iNilck x13) fun x14 =>
    OP (iFadr 0 x14) fun x15 =>
    OP (iLoad false 1 h x15) fun x16 =>
    LoopP [(.int .i64 (1)), (.int .i64 (0))] h fun L2 xs hx =>
    p32z14 P K yield0 x1 x2 steps4 x10 x9 x10 x16 L1 L2 xs hx)
    (K (.tuple #[]) h)) := (CutP_def _ _ _ _).trans (by kernel_rfl)
def T32 (P : Program) (K : Value → Heap → Prop) (yield0 x1 x2 : Value) (h : Heap) : Prop :=
  OH (iAlloc 83 [(.int .i64 (0)), (.int .i64 (0)), (.int .i64 (0)), (.int .i64 (0)), (.int .i64 (0)), (.int .i64 (0))] h) fun steps4 h_1 =>
  OP (iLoad false 1 h_1 x1) fun x8 =>
  OP (iLenS x8) fun x9 =>
  LoopP [(.int .i64 (0))] h_1 fun L1 xs hx =>
  p32z4 P K yield0 x1 x2 steps4 x9 L1 xs hx
theorem e32 (P : Program) (K : Value → Heap → Prop) (yield0 x1 x2 : Value) (h : Heap) : iwpP P c32 (bodyP [] K) (frame0 [yield0, x1, x2]) h = T32 P K yield0 x1 x2 h := by kernel_rfl
theorem f32 {K : Value → Heap → Prop} {yield0 x1 x2 : Value} {h : Heap} (H : T32 Try.prog K yield0 x1 x2 h) : CallP Try.prog 32 [yield0, x1, x2] h K :=
  callP_intro k32 (Nat.le_of_ble_eq_true rfl) ((e32 Try.prog K yield0 x1 x2 h).mpr H)
end Go.Proofs.Ytipeennffbbglaa
