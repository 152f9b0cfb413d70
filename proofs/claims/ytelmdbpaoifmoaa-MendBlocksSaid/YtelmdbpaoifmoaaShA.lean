/-
  Ideal code of the functions that the proof reaches, written by program; the kernel holds it against the code.
-/
import Derived.Test.YtelmdbpaoifmoaaProg
import Derived.Test.YtelmdbpaoifmoaaMgd
import Derived.KernelRfl
namespace Go.Proofs.Ytelmdbpaoifmoaa
open Go.Sim
/-! F11: pommel/mend.Best -/
noncomputable def c11z18 : ICode := .seq (.ops none [⟨(some 35), .p (.bin .lss (.tmp 34) (.tmp 33))⟩])
 (.seq (.cond (.tmp 35) (.skip)
  (.exit 2))
 (.seq (.block 3 (.seq (.ops none [⟨(some 36), .p (.mv (.tmp 34))⟩,
      ⟨(some 37), .p (.adrSl 2 (.tmp 32) (.tmp 34))⟩,
      ⟨(some 38), .l (.load true 2 (.tmp 37))⟩,
      ⟨(some 14), .e (.alloc 35 [(.int .i64 (0)), (.int .i64 (0))])⟩,
      ⟨(some 13), .p (.mv (.tmp 36))⟩,
      ⟨none, .e (.store 2 (.tmp 14) (.tmp 38))⟩])
   (.seq (.dops [(none, [⟨(some 39), .p (.mv (.tmp 7)), 0⟩,
      ⟨(some 40), .p (.mv (.tmp 11)), 0⟩,
      ⟨(some 41), .p (.mv (.tmp 13)), 0⟩,
      ⟨(some 42), .call 26 [(.tmp 39), (.tmp 40), (.tmp 41)], 7⟩,
      ⟨(some 43), .p (.mv (.tmp 42)), 15⟩]),
     ((some (43, true)), [⟨(some 44), .p (.fadr 1 (.tmp 14)), 31⟩,
      ⟨(some 45), .l (.load false 1 (.tmp 44)), 63⟩,
      ⟨(some 46), .p (.mv (.tmp 12)), 31⟩,
      ⟨(some 47), .p (.fadr 0 (.tmp 14)), 31⟩,
      ⟨(some 48), .l (.load false 1 (.tmp 47)), 287⟩,
      ⟨(some 49), .p (.bin .add (.tmp 46) (.tmp 48)), 927⟩,
      ⟨(some 50), .p (.bin .mul (.tmp 45) (.tmp 49)), 2047⟩,
      ⟨(some 51), .p (.mv (.tmp 9)), 31⟩,
      ⟨(some 52), .p (.mv (.tmp 11)), 31⟩,
      ⟨(some 53), .p (.mv (.tmp 13)), 31⟩,
      ⟨(some 54), .p (.bin .shl (.const (.int .u16 (1))) (.tmp 53)), 16415⟩,
      ⟨(some 55), .p (.bin .or (.tmp 52) (.tmp 54)), 57375⟩,
      ⟨(some 56), .l (.lookupI .u16 false (.int .i64 (0)) (.tmp 51) (.tmp 55)), 127007⟩,
      ⟨(some 57), .p (.bin .add (.tmp 50) (.tmp 56)), 262143⟩,
      ⟨(some 58), .p (.mv (.tmp 9)), 31⟩,
      ⟨(some 59), .p (.mv (.tmp 11)), 31⟩,
      ⟨(some 60), .l (.lookupI .u16 false (.int .i64 (0)) (.tmp 58) (.tmp 59)), 1572895⟩,
      ⟨(some 61), .p (.bin .eql (.tmp 57) (.tmp 60)), 4194303⟩]),
     (none, [⟨(some 62), .p (.pick (.tmp 43) (.tmp 61) (.const (.bool false))), 8388607⟩])])
   (.cond (.tmp 62) (.seq (.dops [(none, [⟨(some 63), .p (.mv (.tmp 10)), 0⟩,
       ⟨(some 64), .p (.mv (.tmp 13)), 0⟩,
       ⟨(some 65), .e (.mkSl 3 1 [(.int .i64 (0))] [(0, 1, (.tmp 64))]), 2⟩,
       ⟨(some 66), .e (.app 3 1 8 (.tmp 63) (.tmp 65)), 7⟩,
       ⟨(some 67), .p (.mv (.tmp 11)), 0⟩,
       ⟨(some 68), .p (.mv (.tmp 13)), 0⟩,
       ⟨(some 69), .p (.bin .shl (.const (.int .u16 (1))) (.tmp 68)), 32⟩,
       ⟨(some 70), .p (.bin .or (.tmp 67) (.tmp 69)), 112⟩,
       ⟨(some 10), .p (.mv (.tmp 66)), 15⟩,
       ⟨(some 11), .p (.mv (.tmp 70)), 511⟩])])
    (.exit 2))
   (.skip)))))
 (.ops none [⟨(some 71), .p (.bin .add (.tmp 34) (.const (.int .i64 (1))))⟩,
   ⟨(some 34), .p (.mv (.tmp 71))⟩])))
noncomputable def c11z11 : ICode := .seq (.seq (.ops none [⟨(some 25), .p (.mv (.tmp 11))⟩,
     ⟨(some 26), .p (.mv (.tmp 7))⟩,
     ⟨(some 27), .call 24 [(.tmp 26)]⟩,
     ⟨(some 28), .p (.bin .neq (.tmp 25) (.tmp 27))⟩])
  (.cond (.tmp 28) (.skip)
  (.exit 0)))
 (.block 1 (.seq (.ops none [⟨(some 29), .p (.mv (.tmp 7))⟩,
     ⟨(some 30), .p (.mv (.tmp 11))⟩,
     ⟨(some 31), .call 25 [(.tmp 29), (.tmp 30)]⟩,
     ⟨(some 12), .p (.mv (.tmp 31))⟩])
  (.seq (.ops none [⟨(some 32), .p (.mv (.tmp 0))⟩,
     ⟨(some 33), .p (.lenSl (.tmp 32))⟩,
     ⟨(some 34), .p (.mv (.const (.int .i64 (0))))⟩])
  (.block 2 (.loop [0, 7, 9, 12, 32, 33] [10, 11, 34] c11z18)))))
noncomputable def c11z26 : ICode := .seq (.dops [(none, [⟨(some 72), .p (.mv (.tmp 10)), 0⟩,
    ⟨(some 73), .p (.mv (.tmp 9)), 0⟩,
    ⟨(some 74), .l (.lookupI .u16 false (.int .i64 (0)) (.tmp 73) (.const (.int .u16 (0)))), 2⟩,
    ⟨(some 4), .p (.mv (.tmp 72)), 1⟩,
    ⟨(some 5), .p (.mv (.tmp 74)), 15⟩,
    ⟨(some 6), .p (.mv (.const (.int .i64 (0)))), 31⟩])])
 (.ret)
noncomputable def c11z8 : ICode := .cut [9, 10] c11z26
noncomputable def c11 : ICode := .seq (.ops none [⟨(some 4), .p (.mv (.const (.slice none 0 0)))⟩,
    ⟨(some 5), .p (.mv (.const (.int .i64 (0))))⟩,
    ⟨(some 6), .p (.mv (.const (.int .i64 (0))))⟩])
 (.seq (.ops none [⟨(some 16), .p (.mv (.tmp 0))⟩,
    ⟨(some 17), .p (.mv (.tmp 1))⟩,
    ⟨(some 18), .call 22 [(.tmp 16), (.tmp 17)]⟩,
    ⟨(some 15), .p (.mv (.tmp 18))⟩,
    ⟨(some 19), .p (.ext (.tmp 15) 0)⟩,
    ⟨(some 20), .p (.ext (.tmp 15) 1)⟩,
    ⟨(some 7), .p (.mv (.tmp 19))⟩,
    ⟨(some 8), .p (.mv (.tmp 20))⟩])
 (.seq (.seq (.ops none [⟨(some 21), .p (.mv (.tmp 8))⟩,
     ⟨(some 22), .p (.un .not (.tmp 21))⟩])
  (.cond (.tmp 22) (.seq (.ops none [⟨(some 4), .p (.mv (.const (.slice none 0 0)))⟩,
      ⟨(some 5), .p (.mv (.const (.int .i64 (0))))⟩,
      ⟨(some 6), .p (.mv (.const (.int .i64 (1))))⟩])
   (.ret))
  (.skip)))
 (.seq (.ops none [⟨(some 23), .p (.mv (.tmp 7))⟩,
    ⟨(some 24), .call 23 [(.tmp 23)]⟩,
    ⟨(some 9), .p (.mv (.tmp 24))⟩])
 (.seq (.ops none [⟨(some 10), .p (.mv (.const (.slice none 0 0)))⟩])
 (.seq (.seq (.ops none [⟨(some 11), .p (.mv (.const (.int .u16 (0))))⟩])
  (.block 0 (.loop [0, 7, 9] [10, 11] c11z11))) c11z8)))))
theorem k11 : compFn Try.prog 11 [[], [], [], [], [], [], [], [], [0, 7, 9], [10, 11], [], [], [], [], [0, 7, 9, 12, 32, 33], [10, 11, 34], [], [], [], [], [], [], [9, 10], []] = some (75, c11, [.tmp 4, .tmp 5, .tmp 6]) := by kernel_rfl
def K11z0 (_P : Program) (K : Value → Heap → Prop) : Exit → (Nat → Value) → Heap → Prop := bodyP [.tmp 4, .tmp 5, .tmp 6] K
def K11z8 (P : Program) (K : Value → Heap → Prop) : Exit → (Nat → Value) → Heap → Prop := thenK (iwpP P c11z8 (K11z0 P K)) (K11z0 P K)
def K11z10 (P : Program) (K : Value → Heap → Prop) : Exit → (Nat → Value) → Heap → Prop := inBlockK 0 (K11z8 P K)
def K11z11 (P : Program) (K : Value → Heap → Prop) (jobs0 p7 costs9 : Value) (L1 : List Value → Heap → Prop) : Exit → (Nat → Value) → Heap → Prop := thenK (fun f' h'' => (([0, 7, 9] : List Nat).map f' : List Value) = [jobs0, p7, costs9] ∧ L1 (([10, 11] : List Nat).map f') h'') (K11z10 P K)
def K11z14 (P : Program) (K : Value → Heap → Prop) (jobs0 p7 costs9 : Value) (L1 : List Value → Heap → Prop) : Exit → (Nat → Value) → Heap → Prop := inBlockK 1 (K11z11 P K jobs0 p7 costs9 L1)
def K11z17 (P : Program) (K : Value → Heap → Prop) (jobs0 p7 costs9 : Value) (L1 : List Value → Heap → Prop) : Exit → (Nat → Value) → Heap → Prop := inBlockK 2 (K11z14 P K jobs0 p7 costs9 L1)
def K11z18 (P : Program) (K : Value → Heap → Prop) (jobs0 p7 costs9 now12 x32 x33 : Value) (L1 L2 : List Value → Heap → Prop) : Exit → (Nat → Value) → Heap → Prop := thenK (fun f' h'' => (([0, 7, 9, 12, 32, 33] : List Nat).map f' : List Value) = [jobs0, p7, costs9, now12, x32, x33] ∧ L2 (([10, 11, 34] : List Nat).map f') h'') (K11z17 P K jobs0 p7 costs9 L1)
def p11z11 (P : Program) (K : Value → Heap → Prop) (jobs0 p7 costs9 : Value) (L1 : List Value → Heap → Prop) (xs : List Value) (h : Heap) : Prop := CutP (iwpP P c11z11 (K11z11 P K jobs0 p7 costs9 L1)) ([0, 7, 9] ++ [10, 11]) ([jobs0, p7, costs9] ++ xs) h
def p11z18 (P : Program) (K : Value → Heap → Prop) (jobs0 p7 costs9 now12 x32 x33 : Value) (L1 L2 : List Value → Heap → Prop) (xs : List Value) (h : Heap) : Prop := CutP (iwpP P c11z18 (K11z18 P K jobs0 p7 costs9 now12 x32 x33 L1 L2)) ([0, 7, 9, 12, 32, 33] ++ [10, 11, 34]) ([jobs0, p7, costs9, now12, x32, x33] ++ xs) h
def p11z26 (P : Program) (K : Value → Heap → Prop) (costs9 out10 : Value) (h : Heap) : Prop := CutP (iwpP P c11z26 (K11z0 P K)) [9, 10] [costs9, out10] h
theorem q11z18 (P : Program) (K : Value → Heap → Prop) (jobs0 p7 costs9 now12 x32 x33 : Value) (L1 L2 : List Value → Heap → Prop) (out10 done11 x34 : Value) (h : Heap) : p11z18 P K jobs0 p7 costs9 now12 x32 x33 L1 L2 [out10, done11, x34] h =
  (OP (iBin .lss x34 x33) fun x35 =>
  IfP x35
    (OP (iAdrSl 2 x32 x34) fun x37 =>
    OP (iLoad true 2 h x37) fun x38 =>
    OH (iAlloc 35 [(.int .i64 (0)), (.int .i64 (0))] h) fun j14 h_1 =>
    OH (oStore 2 h_1 j14 x38) fun _ h_2 =>
    CallP P 26 [p7, done11, x34] h_2 fun x42 h_3 =>
    (True) ∧
    GdP x42 true
      (OP (iFadr 1 j14) fun x44 =>
      OP (iLoad false 1 h_3 x44) fun x45 =>
      (True) ∧
      OP (iFadr 0 j14) fun x47 =>
      OP (iLoad false 1 h_3 x47) fun x48 =>
      (True) ∧
      OP (iBin .add now12 x48) fun x49 =>
      OP (iBin .mul x45 x49) fun x50 =>
      OP (iBin .shl (.int .u16 (1)) x34) fun x54 =>
      OP (iBin .or done11 x54) fun x55 =>
      OP (iLookupI .u16 false (.int .i64 (0)) h_3 costs9 x55) fun x56 =>
      (True) ∧
      OP (iBin .add x50 x56) fun x57 =>
      OP (iLookupI .u16 false (.int .i64 (0)) h_3 costs9 done11) fun x60 =>
      (True) ∧
      OP (iBin .eql x57 x60) fun x61 =>
      OP (iPick x42 x61 (.bool false)) fun x62 =>
      IfP x62
        (OH (iMkSl 3 1 [(.int .i64 (0))] h_3 [(0, 1, x34)]) fun x65 h_4 =>
        (True) ∧
        OH (iApp 3 1 8 h_4 out10 x65) fun x66 h_5 =>
        (True) ∧
        OP (iBin .shl (.int .u16 (1)) x34) fun x69 =>
        OP (iBin .or done11 x69) fun x70 =>
        ([jobs0, p7, costs9] : List Value) = [jobs0, p7, costs9] ∧ L1 [x66, x70] h_5)
        (OP (iBin .add x34 (.int .i64 (1))) fun x71 =>
        ([jobs0, p7, costs9, now12, x32, x33] : List Value) = [jobs0, p7, costs9, now12, x32, x33] ∧ L2 [out10, done11, x71] h_3))
      (OP (iPick x42 undef (.bool false)) fun x62 =>
      IfP x62
        (OH (iMkSl 3 1 [(.int .i64 (0))] h_3 [(0, 1, x34)]) fun x65 h_4 =>
        (True) ∧
        OH (iApp 3 1 8 h_4 out10 x65) fun x66 h_5 =>
        (True) ∧
        OP (iBin .shl (.int .u16 (1)) x34) fun x69 =>
        OP (iBin .or done11 x69) fun x70 =>
        ([jobs0, p7, costs9] : List Value) = [jobs0, p7, costs9] ∧ L1 [x66, x70] h_5)
        (OP (iBin .add x34 (.int .i64 (1))) fun x71 =>
        ([jobs0, p7, costs9, now12, x32, x33] : List Value) = [jobs0, p7, costs9, now12, x32, x33] ∧ L2 [out10, done11, x71] h_3)))
    (([jobs0, p7, costs9] : List Value) = [jobs0, p7, costs9] ∧ L1 [out10, done11] h)) := (CutP_def _ _ _ _).trans (by kernel_rfl)
theorem q11z11 (P : Program) (K : Value → Heap → Prop) (jobs0 p7 costs9 : Value) (L1 : List Value → Heap → Prop) (out10 done11 : Value) (h : Heap) : p11z11 P K jobs0 p7 costs9 L1 [out10, done11] h =
  (CallP P 24 [p7] h fun x27 h_1 =>
  OP (iBin .neq done11 x27) fun x28 =>
  IfP x28
    (CallP P 25 [p7, done11] h_1 fun x31 h_2 =>
    OP (iLenSl jobs0) fun x33 =>
    LoopP [out10, done11, (.int .i64 (0))] h_2 fun L2 xs hx =>
    p11z18 P K jobs0 p7 costs9 x31 jobs0 x33 L1 L2 xs hx)
    (p11z26 P K costs9 out10 h_1)) := (CutP_def _ _ _ _).trans (by kernel_rfl)
theorem q11z26 (P : Program) (K : Value → Heap → Prop) (costs9 out10 : Value) (h : Heap) : p11z26 P K costs9 out10 h =
  (OP (iLookupI .u16 false (.int .i64 (0)) h costs9 (.int .u16 (0))) fun x74 =>
  (True) ∧
  K (.tuple #[out10, x74, (.int .i64 (0))]) h) := (CutP_def _ _ _ _).trans (by kernel_rfl)
def T11 (P : Program) (K : Value → Heap → Prop) (jobs0 pairs1 : Value) (h : Heap) : Prop :=
  CallP P 22 [jobs0, pairs1] h fun x18 h_1 =>
  OP (iExt 0 x18) fun x19 =>
  OP (iExt 1 x18) fun x20 =>
  OP (iUn .not x20) fun x22 =>
  IfP x22
    (K (.tuple #[(.slice none 0 0), (.int .i64 (0)), (.int .i64 (1))]) h_1)
    (CallP P 23 [x19] h_1 fun x24 h_2 =>
    LoopP [(.slice none 0 0), (.int .u16 (0))] h_2 fun L1 xs hx =>
    p11z11 P K jobs0 x19 x24 L1 xs hx)
theorem e11 (P : Program) (K : Value → Heap → Prop) (jobs0 pairs1 : Value) (h : Heap) : iwpP P c11 (bodyP [.tmp 4, .tmp 5, .tmp 6] K) (frame0 [jobs0, pairs1]) h = T11 P K jobs0 pairs1 h := by kernel_rfl
theorem f11 {K : Value → Heap → Prop} {jobs0 pairs1 : Value} {h : Heap} (H : T11 Try.prog K jobs0 pairs1 h) : CallP Try.prog 11 [jobs0, pairs1] h K :=
  callP_intro k11 (Nat.le_of_ble_eq_true rfl) ((e11 Try.prog K jobs0 pairs1 h).mpr H)
/-! F18: pommel/mend.Orders -/
noncomputable def c18z26 : ICode := .ops none [⟨(some 54), .p (.bin .add (.tmp 33) (.const (.int .i64 (1))))⟩,
   ⟨(some 33), .p (.mv (.tmp 54))⟩]
noncomputable def c18z19 : ICode := .seq (.ops none [⟨(some 34), .p (.bin .lss (.tmp 33) (.tmp 32))⟩])
 (.seq (.cond (.tmp 34) (.skip)
  (.exit 2))
 (.seq (.block 3 (.seq (.ops none [⟨(some 35), .p (.mv (.tmp 33))⟩,
      ⟨(some 10), .p (.mv (.tmp 35))⟩])
   (.seq (.ops none [⟨(some 36), .p (.mv (.tmp 6))⟩,
      ⟨(some 37), .p (.mv (.tmp 9))⟩,
      ⟨(some 38), .p (.conv .u16 (.tmp 37))⟩,
      ⟨(some 39), .p (.mv (.tmp 10))⟩,
      ⟨(some 40), .call 26 [(.tmp 36), (.tmp 38), (.tmp 39)]⟩])
   (.cond (.tmp 40) (.dops [(none, [⟨(some 41), .p (.mv (.tmp 8)), 0⟩,
      ⟨(some 42), .p (.mv (.tmp 9)), 0⟩,
      ⟨(some 43), .p (.mv (.tmp 10)), 0⟩,
      ⟨(some 44), .p (.bin .shl (.const (.int .i64 (1))) (.tmp 43)), 4⟩,
      ⟨(some 45), .p (.bin .or (.tmp 42) (.tmp 44)), 14⟩,
      ⟨(some 46), .p (.adrSl 1 (.tmp 41) (.tmp 45)), 31⟩,
      ⟨(some 47), .l (.load false 1 (.tmp 46)), 63⟩,
      ⟨(some 48), .p (.mv (.tmp 8)), 0⟩,
      ⟨(some 49), .p (.mv (.tmp 9)), 0⟩,
      ⟨(some 50), .p (.adrSl 1 (.tmp 48) (.tmp 49)), 384⟩,
      ⟨(some 51), .l (.load false 1 (.tmp 50)), 896⟩,
      ⟨(some 52), .p (.bin .add (.tmp 47) (.tmp 51)), 2047⟩,
      ⟨(some 53), .p (.adrSl 1 (.tmp 41) (.tmp 45)), 4095⟩,
      ⟨none, .e (.store 1 (.tmp 53) (.tmp 52)), 8191⟩])])
   (.skip)))))
 (.cut [0, 6, 8, 9, 27, 28, 32, 33] c18z26)))
noncomputable def c18z27 : ICode := .ops none [⟨(some 55), .p (.bin .add (.tmp 28) (.const (.int .i64 (1))))⟩,
   ⟨(some 28), .p (.mv (.tmp 55))⟩]
noncomputable def c18z14 : ICode := .cut [0, 6, 8, 27, 28] c18z27
noncomputable def c18z11 : ICode := .seq (.ops none [⟨(some 29), .p (.bin .lss (.tmp 28) (.tmp 27))⟩])
 (.seq (.cond (.tmp 29) (.skip)
  (.exit 0))
 (.seq (.block 1 (.seq (.ops none [⟨(some 30), .p (.mv (.tmp 28))⟩,
      ⟨(some 9), .p (.mv (.tmp 30))⟩])
   (.seq (.ops none [⟨(some 31), .p (.mv (.tmp 0))⟩,
      ⟨(some 32), .p (.lenSl (.tmp 31))⟩,
      ⟨(some 33), .p (.mv (.const (.int .i64 (0))))⟩])
   (.block 2 (.loop [0, 6, 8, 9, 27, 28, 32] [33] c18z19))))) c18z14))
noncomputable def c18z28 : ICode := .seq (.ops none [⟨(some 56), .p (.mv (.tmp 8))⟩,
    ⟨(some 57), .p (.mv (.tmp 6))⟩,
    ⟨(some 58), .call 24 [(.tmp 57)]⟩,
    ⟨(some 59), .p (.slSl 3 1 (.tmp 56) (some (.tmp 58)) none)⟩,
    ⟨(some 60), .call 33 [(.tmp 59)]⟩,
    ⟨(some 4), .p (.mv (.tmp 60))⟩,
    ⟨(some 5), .p (.mv (.const (.int .i64 (0))))⟩])
 (.ret)
noncomputable def c18z8 : ICode := .cut [6, 8] c18z28
noncomputable def c18 : ICode := .seq (.ops none [⟨(some 4), .p (.mv (.const (.int .i64 (0))))⟩,
    ⟨(some 5), .p (.mv (.const (.int .i64 (0))))⟩])
 (.seq (.ops none [⟨(some 12), .p (.mv (.tmp 0))⟩,
    ⟨(some 13), .p (.mv (.tmp 1))⟩,
    ⟨(some 14), .call 22 [(.tmp 12), (.tmp 13)]⟩,
    ⟨(some 11), .p (.mv (.tmp 14))⟩,
    ⟨(some 15), .p (.ext (.tmp 11) 0)⟩,
    ⟨(some 16), .p (.ext (.tmp 11) 1)⟩,
    ⟨(some 6), .p (.mv (.tmp 15))⟩,
    ⟨(some 7), .p (.mv (.tmp 16))⟩])
 (.seq (.seq (.ops none [⟨(some 17), .p (.mv (.tmp 7))⟩,
     ⟨(some 18), .p (.un .not (.tmp 17))⟩])
  (.cond (.tmp 18) (.seq (.ops none [⟨(some 4), .p (.mv (.const (.int .i64 (0))))⟩,
      ⟨(some 5), .p (.mv (.const (.int .i64 (1))))⟩])
   (.ret))
  (.skip)))
 (.seq (.ops none [⟨(some 19), .p (.mv (.tmp 6))⟩,
    ⟨(some 20), .call 24 [(.tmp 19)]⟩,
    ⟨(some 21), .p (.conv .i64 (.tmp 20))⟩,
    ⟨(some 22), .p (.bin .add (.tmp 21) (.const (.int .i64 (1))))⟩,
    ⟨(some 23), .e (.make 3 8 [(.int .i64 (0))] (.tmp 22) (.tmp 22))⟩,
    ⟨(some 8), .p (.mv (.tmp 23))⟩])
 (.seq (.ops none [⟨(some 24), .p (.mv (.tmp 8))⟩,
    ⟨(some 25), .p (.adrSl 1 (.tmp 24) (.const (.int .i64 (0))))⟩,
    ⟨none, .e (.store 1 (.tmp 25) (.const (.int .i64 (1))))⟩])
 (.seq (.seq (.ops none [⟨(some 26), .p (.mv (.tmp 8))⟩,
     ⟨(some 27), .p (.lenSl (.tmp 26))⟩,
     ⟨(some 28), .p (.mv (.const (.int .i64 (0))))⟩])
  (.block 0 (.loop [0, 6, 8, 27] [28] c18z11))) c18z8)))))
theorem k18 : compFn Try.prog 18 [[], [], [], [], [], [], [], [], [0, 6, 8, 27], [28], [], [], [], [], [0, 6, 8, 9, 27, 28, 32], [33], [], [], [], [], [0, 6, 8, 9, 27, 28, 32, 33], [0, 6, 8, 27, 28], [6, 8], []] = some (61, c18, [.tmp 4, .tmp 5]) := by kernel_rfl
def K18z0 (_P : Program) (K : Value → Heap → Prop) : Exit → (Nat → Value) → Heap → Prop := bodyP [.tmp 4, .tmp 5] K
def K18z8 (P : Program) (K : Value → Heap → Prop) : Exit → (Nat → Value) → Heap → Prop := thenK (iwpP P c18z8 (K18z0 P K)) (K18z0 P K)
def K18z10 (P : Program) (K : Value → Heap → Prop) : Exit → (Nat → Value) → Heap → Prop := inBlockK 0 (K18z8 P K)
def K18z11 (P : Program) (K : Value → Heap → Prop) (jobs0 p6 ways8 x27 : Value) (L1 : List Value → Heap → Prop) : Exit → (Nat → Value) → Heap → Prop := thenK (fun f' h'' => (([0, 6, 8, 27] : List Nat).map f' : List Value) = [jobs0, p6, ways8, x27] ∧ L1 (([28] : List Nat).map f') h'') (K18z10 P K)
def K18z14 (P : Program) (K : Value → Heap → Prop) (jobs0 p6 ways8 x27 : Value) (L1 : List Value → Heap → Prop) : Exit → (Nat → Value) → Heap → Prop := thenK (iwpP P c18z14 (K18z11 P K jobs0 p6 ways8 x27 L1)) (K18z11 P K jobs0 p6 ways8 x27 L1)
def K18z15 (P : Program) (K : Value → Heap → Prop) (jobs0 p6 ways8 x27 : Value) (L1 : List Value → Heap → Prop) : Exit → (Nat → Value) → Heap → Prop := inBlockK 1 (K18z14 P K jobs0 p6 ways8 x27 L1)
def K18z18 (P : Program) (K : Value → Heap → Prop) (jobs0 p6 ways8 x27 : Value) (L1 : List Value → Heap → Prop) : Exit → (Nat → Value) → Heap → Prop := inBlockK 2 (K18z15 P K jobs0 p6 ways8 x27 L1)
def K18z19 (P : Program) (K : Value → Heap → Prop) (jobs0 p6 ways8 s9 x27 x28 x32 : Value) (L1 L2 : List Value → Heap → Prop) : Exit → (Nat → Value) → Heap → Prop := thenK (fun f' h'' => (([0, 6, 8, 9, 27, 28, 32] : List Nat).map f' : List Value) = [jobs0, p6, ways8, s9, x27, x28, x32] ∧ L2 (([33] : List Nat).map f') h'') (K18z18 P K jobs0 p6 ways8 x27 L1)
def p18z11 (P : Program) (K : Value → Heap → Prop) (jobs0 p6 ways8 x27 : Value) (L1 : List Value → Heap → Prop) (xs : List Value) (h : Heap) : Prop := CutP (iwpP P c18z11 (K18z11 P K jobs0 p6 ways8 x27 L1)) ([0, 6, 8, 27] ++ [28]) ([jobs0, p6, ways8, x27] ++ xs) h
def p18z19 (P : Program) (K : Value → Heap → Prop) (jobs0 p6 ways8 s9 x27 x28 x32 : Value) (L1 L2 : List Value → Heap → Prop) (xs : List Value) (h : Heap) : Prop := CutP (iwpP P c18z19 (K18z19 P K jobs0 p6 ways8 s9 x27 x28 x32 L1 L2)) ([0, 6, 8, 9, 27, 28, 32] ++ [33]) ([jobs0, p6, ways8, s9, x27, x28, x32] ++ xs) h
def p18z26 (P : Program) (K : Value → Heap → Prop) (jobs0 p6 ways8 s9 x27 x28 x32 x33 : Value) (L1 L2 : List Value → Heap → Prop) (h : Heap) : Prop := CutP (iwpP P c18z26 (K18z19 P K jobs0 p6 ways8 s9 x27 x28 x32 L1 L2)) [0, 6, 8, 9, 27, 28, 32, 33] [jobs0, p6, ways8, s9, x27, x28, x32, x33] h
def p18z27 (P : Program) (K : Value → Heap → Prop) (jobs0 p6 ways8 x27 x28 : Value) (L1 : List Value → Heap → Prop) (h : Heap) : Prop := CutP (iwpP P c18z27 (K18z11 P K jobs0 p6 ways8 x27 L1)) [0, 6, 8, 27, 28] [jobs0, p6, ways8, x27, x28] h
def p18z28 (P : Program) (K : Value → Heap → Prop) (p6 ways8 : Value) (h : Heap) : Prop := CutP (iwpP P c18z28 (K18z0 P K)) [6, 8] [p6, ways8] h
theorem q18z26 (P : Program) (K : Value → Heap → Prop) (jobs0 p6 ways8 s9 x27 x28 x32 x33 : Value) (L1 L2 : List Value → Heap → Prop) (h : Heap) : p18z26 P K jobs0 p6 ways8 s9 x27 x28 x32 x33 L1 L2 h =
  (OP (iBin .add x33 (.int .i64 (1))) fun x54 =>
  ([jobs0, p6, ways8, s9, x27, x28, x32] : List Value) = [jobs0, p6, ways8, s9, x27, x28, x32] ∧ L2 [x54] h) := (CutP_def _ _ _ _).trans (by kernel_rfl)
theorem q18z19 (P : Program) (K : Value → Heap → Prop) (jobs0 p6 ways8 s9 x27 x28 x32 : Value) (L1 L2 : List Value → Heap → Prop) (x33 : Value) (h : Heap) : p18z19 P K jobs0 p6 ways8 s9 x27 x28 x32 L1 L2 [x33] h =
  (OP (iBin .lss x33 x32) fun x34 =>
  IfP x34
    (OP (iConv .u16 s9) fun x38 =>
    CallP P 26 [p6, x38, x33] h fun x40 h_1 =>
    IfP x40
      (OP (iBin .shl (.int .i64 (1)) x33) fun x44 =>
      OP (iBin .or s9 x44) fun x45 =>
      OP (iAdrSl 1 ways8 x45) fun x46 =>
      OP (iLoad false 1 h_1 x46) fun x47 =>
      (True) ∧
      OP (iAdrSl 1 ways8 s9) fun x50 =>
      OP (iLoad false 1 h_1 x50) fun x51 =>
      (True) ∧
      OP (iBin .add x47 x51) fun x52 =>
      OP (iAdrSl 1 ways8 x45) fun x53 =>
      OH (oStore 1 h_1 x53 x52) fun _ h_2 =>
      (True) ∧
      p18z26 P K jobs0 p6 ways8 s9 x27 x28 x32 x33 L1 L2 h_2)
      (p18z26 P K jobs0 p6 ways8 s9 x27 x28 x32 x33 L1 L2 h_1))
    (p18z27 P K jobs0 p6 ways8 x27 x28 L1 h)) := (CutP_def _ _ _ _).trans (by kernel_rfl)
theorem q18z27 (P : Program) (K : Value → Heap → Prop) (jobs0 p6 ways8 x27 x28 : Value) (L1 : List Value → Heap → Prop) (h : Heap) : p18z27 P K jobs0 p6 ways8 x27 x28 L1 h =
  (OP (iBin .add x28 (.int .i64 (1))) fun x55 =>
  ([jobs0, p6, ways8, x27] : List Value) = [jobs0, p6, ways8, x27] ∧ L1 [x55] h) := (CutP_def _ _ _ _).trans (by kernel_rfl)
theorem q18z11 (P : Program) (K : Value → Heap → Prop) (jobs0 p6 ways8 x27 : Value) (L1 : List Value → Heap → Prop) (x28 : Value) (h : Heap) : p18z11 P K jobs0 p6 ways8 x27 L1 [x28] h =
  (OP (iBin .lss x28 x27) fun x29 =>
  IfP x29
    (OP (iLenSl jobs0) fun x32 =>
    LoopP [(.int .i64 (0))] h fun L2 xs hx =>
    p18z19 P K jobs0 p6 ways8 x28 x27 x28 x32 L1 L2 xs hx)
    (p18z28 P K p6 ways8 h)) := (CutP_def _ _ _ _).trans (by kernel_rfl)
theorem q18z28 (P : Program) (K : Value → Heap → Prop) (p6 ways8 : Value) (h : Heap) : p18z28 P K p6 ways8 h =
  (CallP P 24 [p6] h fun x58 h_1 =>
  OP (iSlSl 3 1 ways8 (some x58) none) fun x59 =>
  CallP P 33 [x59] h_1 fun x60 h_2 =>
  K (.tuple #[x60, (.int .i64 (0))]) h_2) := (CutP_def _ _ _ _).trans (by kernel_rfl)
def T18 (P : Program) (K : Value → Heap → Prop) (jobs0 pairs1 : Value) (h : Heap) : Prop :=
  CallP P 22 [jobs0, pairs1] h fun x14 h_1 =>
  OP (iExt 0 x14) fun x15 =>
  OP (iExt 1 x14) fun x16 =>
  OP (iUn .not x16) fun x18 =>
  IfP x18
    (K (.tuple #[(.int .i64 (0)), (.int .i64 (1))]) h_1)
    (CallP P 24 [x15] h_1 fun x20 h_2 =>
    OP (iConv .i64 x20) fun x21 =>
    OP (iBin .add x21 (.int .i64 (1))) fun x22 =>
    OH (iMake 3 8 [(.int .i64 (0))] h_2 x22 x22) fun x23 h_3 =>
    OP (iAdrSl 1 x23 (.int .i64 (0))) fun x25 =>
    OH (oStore 1 h_3 x25 (.int .i64 (1))) fun _ h_4 =>
    OP (iLenSl x23) fun x27 =>
    LoopP [(.int .i64 (0))] h_4 fun L1 xs hx =>
    p18z11 P K jobs0 x15 x23 x27 L1 xs hx)
theorem e18 (P : Program) (K : Value → Heap → Prop) (jobs0 pairs1 : Value) (h : Heap) : iwpP P c18 (bodyP [.tmp 4, .tmp 5] K) (frame0 [jobs0, pairs1]) h = T18 P K jobs0 pairs1 h := by kernel_rfl
theorem f18 {K : Value → Heap → Prop} {jobs0 pairs1 : Value} {h : Heap} (H : T18 Try.prog K jobs0 pairs1 h) : CallP Try.prog 18 [jobs0, pairs1] h K :=
  callP_intro k18 (Nat.le_of_ble_eq_true rfl) ((e18 Try.prog K jobs0 pairs1 h).mpr H)
/-! F22: pommel/mend.read -/
noncomputable def c22z12 : ICode := .ops none [⟨(some 26), .p (.pick (.tmp 22) (.const (.bool true)) (.tmp 25))⟩]
noncomputable def c22z10 : ICode := .seq (.ops (some (22, false)) [⟨(some 23), .p (.mv (.tmp 1))⟩,
    ⟨(some 24), .p (.lenSl (.tmp 23))⟩,
    ⟨(some 25), .p (.bin .gtr (.tmp 24) (.const (.int .i64 (40))))⟩])
 (.cut [0, 1, 6, 22, 25] c22z12)
noncomputable def c22z8 : ICode := .seq (.ops none [⟨(some 21), .p (.pick (.tmp 18) (.const (.bool true)) (.tmp 20))⟩,
    ⟨(some 22), .p (.mv (.tmp 21))⟩])
 (.cut [0, 1, 6, 22] c22z10)
noncomputable def c22z6 : ICode := .seq (.ops (some (18, false)) [⟨(some 19), .p (.mv (.tmp 6))⟩,
    ⟨(some 20), .p (.bin .gtr (.tmp 19) (.const (.int .i64 (10))))⟩])
 (.cut [0, 1, 6, 18, 20] c22z8)
noncomputable def c22z4 : ICode := .cond (.tmp 26) (.seq (.ops none [⟨(some 4), .p (.mv (.const (.pointer none)))⟩,
     ⟨(some 5), .p (.mv (.const (.bool false)))⟩])
  (.ret))
 (.skip)
noncomputable def c22z36 : ICode := .ops none [⟨(some 55), .p (.pick (.tmp 51) (.const (.bool true)) (.tmp 54))⟩]
noncomputable def c22z34 : ICode := .seq (.ops (some (51, false)) [⟨(some 52), .p (.fadr 1 (.tmp 9))⟩,
    ⟨(some 53), .l (.load false 1 (.tmp 52))⟩,
    ⟨(some 54), .p (.bin .gtr (.tmp 53) (.const (.int .i64 (50))))⟩])
 (.cut [1, 6, 7, 32, 33, 34, 51, 54] c22z36)
noncomputable def c22z32 : ICode := .seq (.ops none [⟨(some 50), .p (.pick (.tmp 46) (.const (.bool true)) (.tmp 49))⟩,
    ⟨(some 51), .p (.mv (.tmp 50))⟩])
 (.cut [1, 6, 7, 9, 32, 33, 34, 51] c22z34)
noncomputable def c22z30 : ICode := .seq (.ops (some (46, false)) [⟨(some 47), .p (.fadr 1 (.tmp 9))⟩,
    ⟨(some 48), .l (.load false 1 (.tmp 47))⟩,
    ⟨(some 49), .p (.bin .lss (.tmp 48) (.const (.int .i64 (0))))⟩])
 (.cut [1, 6, 7, 9, 32, 33, 34, 46, 49] c22z32)
noncomputable def c22z28 : ICode := .seq (.ops none [⟨(some 45), .p (.pick (.tmp 41) (.const (.bool true)) (.tmp 44))⟩,
    ⟨(some 46), .p (.mv (.tmp 45))⟩])
 (.cut [1, 6, 7, 9, 32, 33, 34, 46] c22z30)
noncomputable def c22z26 : ICode := .seq (.ops (some (41, false)) [⟨(some 42), .p (.fadr 0 (.tmp 9))⟩,
    ⟨(some 43), .l (.load false 1 (.tmp 42))⟩,
    ⟨(some 44), .p (.bin .gtr (.tmp 43) (.const (.int .i64 (50))))⟩])
 (.cut [1, 6, 7, 9, 32, 33, 34, 41, 44] c22z28)
noncomputable def c22z24 : ICode := .cond (.tmp 55) (.seq (.ops none [⟨(some 4), .p (.mv (.const (.pointer none)))⟩,
     ⟨(some 5), .p (.mv (.const (.bool false)))⟩])
  (.ret))
 (.skip)
noncomputable def c22z21 : ICode := .ops none [⟨(some 56), .p (.bin .add (.tmp 34) (.const (.int .i64 (1))))⟩,
   ⟨(some 34), .p (.mv (.tmp 56))⟩]
noncomputable def c22z18 : ICode := .seq (.ops none [⟨(some 35), .p (.bin .lss (.tmp 34) (.tmp 33))⟩])
 (.seq (.cond (.tmp 35) (.skip)
  (.exit 0))
 (.seq (.block 1 (.seq (.ops none [⟨(some 36), .p (.adrSl 2 (.tmp 32) (.tmp 34))⟩,
      ⟨(some 37), .l (.load true 2 (.tmp 36))⟩,
      ⟨(some 9), .e (.alloc 35 [(.int .i64 (0)), (.int .i64 (0))])⟩,
      ⟨none, .e (.store 2 (.tmp 9) (.tmp 37))⟩])
   (.seq (.seq (.ops none [⟨(some 38), .p (.fadr 0 (.tmp 9))⟩,
       ⟨(some 39), .l (.load false 1 (.tmp 38))⟩,
       ⟨(some 40), .p (.bin .lss (.tmp 39) (.const (.int .i64 (1))))⟩,
       ⟨(some 41), .p (.mv (.tmp 40))⟩])
    (.cut [1, 6, 7, 9, 32, 33, 34, 41] c22z26)) c22z24))) c22z21))
noncomputable def c22z57 : ICode := .ops none [⟨(some 84), .p (.pick (.tmp 78) (.const (.bool true)) (.tmp 83))⟩]
noncomputable def c22z55 : ICode := .seq (.ops (some (78, false)) [⟨(some 79), .p (.fadr 0 (.tmp 11))⟩,
    ⟨(some 80), .l (.load false 1 (.tmp 79))⟩,
    ⟨(some 81), .p (.fadr 1 (.tmp 11))⟩,
    ⟨(some 82), .l (.load false 1 (.tmp 81))⟩,
    ⟨(some 83), .p (.bin .eql (.tmp 80) (.tmp 82))⟩])
 (.cut [6, 7, 11, 57, 58, 59, 78, 83] c22z57)
noncomputable def c22z53 : ICode := .seq (.ops none [⟨(some 77), .p (.pick (.tmp 69) (.const (.bool true)) (.tmp 76))⟩,
    ⟨(some 78), .p (.mv (.tmp 77))⟩])
 (.cut [6, 7, 11, 57, 58, 59, 78] c22z55)
noncomputable def c22z51 : ICode := .seq (.ops (some (69, false)) [⟨(some 70), .p (.fadr 0 (.tmp 11))⟩,
    ⟨(some 71), .l (.load false 1 (.tmp 70))⟩,
    ⟨(some 72), .p (.fadr 1 (.tmp 11))⟩,
    ⟨(some 73), .l (.load false 1 (.tmp 72))⟩,
    ⟨(some 74), .p (.minmax true [(.tmp 71), (.tmp 73)])⟩,
    ⟨(some 75), .p (.mv (.tmp 6))⟩,
    ⟨(some 76), .p (.bin .geq (.tmp 74) (.tmp 75))⟩])
 (.cut [6, 7, 11, 57, 58, 59, 69, 76] c22z53)
noncomputable def c22z49 : ICode := .cond (.tmp 84) (.seq (.ops none [⟨(some 4), .p (.mv (.const (.pointer none)))⟩,
     ⟨(some 5), .p (.mv (.const (.bool false)))⟩])
  (.ret))
 (.skip)
noncomputable def c22z48 : ICode := .dops [(none, [⟨(some 85), .p (.mv (.tmp 7)), 0⟩,
   ⟨(some 86), .p (.nilck (.tmp 85)), 1⟩,
   ⟨(some 87), .p (.fadr 1 (.tmp 86)), 3⟩,
   ⟨(some 88), .l (.load false 1 (.tmp 87)), 7⟩,
   ⟨(some 89), .p (.fadr 1 (.tmp 11)), 0⟩,
   ⟨(some 90), .l (.load false 1 (.tmp 89)), 16⟩,
   ⟨(some 91), .p (.adrSl 1 (.tmp 88) (.tmp 90)), 63⟩,
   ⟨(some 92), .l (.load false 1 (.tmp 91)), 127⟩,
   ⟨(some 93), .p (.fadr 0 (.tmp 11)), 0⟩,
   ⟨(some 94), .l (.load false 1 (.tmp 93)), 256⟩,
   ⟨(some 95), .p (.bin .shl (.const (.int .u16 (1))) (.tmp 94)), 768⟩,
   ⟨(some 96), .p (.bin .or (.tmp 92) (.tmp 95)), 2047⟩,
   ⟨(some 97), .p (.adrSl 1 (.tmp 88) (.tmp 90)), 4095⟩,
   ⟨none, .e (.store 1 (.tmp 97) (.tmp 96)), 8191⟩])]
noncomputable def c22z45 : ICode := .ops none [⟨(some 98), .p (.bin .add (.tmp 59) (.const (.int .i64 (1))))⟩,
   ⟨(some 59), .p (.mv (.tmp 98))⟩]
noncomputable def c22z42 : ICode := .seq (.ops none [⟨(some 60), .p (.bin .lss (.tmp 59) (.tmp 58))⟩])
 (.seq (.cond (.tmp 60) (.skip)
  (.exit 2))
 (.seq (.block 3 (.seq (.ops none [⟨(some 61), .p (.adrSl 2 (.tmp 57) (.tmp 59))⟩,
      ⟨(some 62), .l (.load true 2 (.tmp 61))⟩,
      ⟨(some 11), .e (.alloc 54 [(.int .i64 (0)), (.int .i64 (0))])⟩,
      ⟨none, .e (.store 2 (.tmp 11) (.tmp 62))⟩])
   (.seq (.seq (.seq (.ops none [⟨(some 63), .p (.fadr 0 (.tmp 11))⟩,
        ⟨(some 64), .l (.load false 1 (.tmp 63))⟩,
        ⟨(some 65), .p (.fadr 1 (.tmp 11))⟩,
        ⟨(some 66), .l (.load false 1 (.tmp 65))⟩,
        ⟨(some 67), .p (.minmax false [(.tmp 64), (.tmp 66)])⟩,
        ⟨(some 68), .p (.bin .lss (.tmp 67) (.const (.int .i64 (0))))⟩,
        ⟨(some 69), .p (.mv (.tmp 68))⟩])
     (.cut [6, 7, 11, 57, 58, 59, 69] c22z51)) c22z49) c22z48))) c22z45))
noncomputable def c22z78 : ICode := .ops none [⟨(some 114), .p (.bin .add (.tmp 103) (.const (.int .i64 (1))))⟩,
   ⟨(some 103), .p (.mv (.tmp 114))⟩]
noncomputable def c22z71 : ICode := .seq (.ops none [⟨(some 104), .p (.bin .lss (.tmp 103) (.tmp 102))⟩])
 (.seq (.cond (.tmp 104) (.skip)
  (.exit 6))
 (.seq (.block 7 (.seq (.ops none [⟨(some 105), .p (.mv (.tmp 103))⟩,
      ⟨(some 13), .p (.mv (.tmp 105))⟩])
   (.seq (.ops none [⟨(some 106), .p (.mv (.tmp 7))⟩,
      ⟨(some 107), .p (.mv (.tmp 12))⟩,
      ⟨(some 108), .p (.mv (.tmp 13))⟩,
      ⟨(some 109), .call 26 [(.tmp 106), (.tmp 107), (.tmp 108)]⟩])
   (.cond (.tmp 109) (.ops none [⟨(some 110), .p (.mv (.tmp 12))⟩,
      ⟨(some 111), .p (.mv (.tmp 13))⟩,
      ⟨(some 112), .p (.bin .shl (.const (.int .u16 (1))) (.tmp 111))⟩,
      ⟨(some 113), .p (.bin .or (.tmp 110) (.tmp 112))⟩,
      ⟨(some 12), .p (.mv (.tmp 113))⟩])
   (.skip)))))
 (.cut [6, 7, 12, 99, 100, 102, 103] c22z78)))
noncomputable def c22z79 : ICode := .ops none [⟨(some 115), .p (.bin .add (.tmp 100) (.const (.int .i64 (1))))⟩,
   ⟨(some 100), .p (.mv (.tmp 115))⟩]
noncomputable def c22z67 : ICode := .cut [6, 7, 12, 99, 100] c22z79
noncomputable def c22z64 : ICode := .seq (.ops none [⟨(some 101), .p (.bin .lss (.tmp 100) (.tmp 99))⟩])
 (.seq (.cond (.tmp 101) (.skip)
  (.exit 4))
 (.seq (.block 5 (.seq (.ops none [⟨(some 102), .p (.mv (.tmp 6))⟩,
      ⟨(some 103), .p (.mv (.const (.int .i64 (0))))⟩])
   (.block 6 (.loop [6, 7, 99, 100, 102] [12, 103] c22z71)))) c22z67))
noncomputable def c22z80 : ICode := .seq (.ops none [⟨(some 116), .p (.mv (.tmp 7))⟩,
    ⟨(some 117), .p (.mv (.tmp 12))⟩,
    ⟨(some 118), .p (.mv (.tmp 7))⟩,
    ⟨(some 119), .call 24 [(.tmp 118)]⟩,
    ⟨(some 120), .p (.bin .eql (.tmp 117) (.tmp 119))⟩,
    ⟨(some 4), .p (.mv (.tmp 116))⟩,
    ⟨(some 5), .p (.mv (.tmp 120))⟩])
 (.ret)
noncomputable def c22z61 : ICode := .cut [7, 12] c22z80
noncomputable def c22z59 : ICode := .seq (.ops none [⟨(some 12), .p (.mv (.const (.int .u16 (0))))⟩])
 (.seq (.seq (.ops none [⟨(some 99), .p (.mv (.tmp 6))⟩,
     ⟨(some 100), .p (.mv (.const (.int .i64 (0))))⟩])
  (.block 4 (.loop [6, 7, 99] [12, 100] c22z64))) c22z61)
noncomputable def c22z39 : ICode := .cut [6, 7] c22z59
noncomputable def c22z38 : ICode := .seq (.seq (.ops none [⟨(some 57), .p (.mv (.tmp 1))⟩,
     ⟨(some 58), .p (.lenSl (.tmp 57))⟩,
     ⟨(some 59), .p (.mv (.const (.int .i64 (0))))⟩])
  (.block 2 (.loop [6, 7, 57, 58] [59] c22z42))) c22z39
noncomputable def c22z15 : ICode := .cut [1, 6, 7] c22z38
noncomputable def c22z3 : ICode := .seq (.ops none [⟨(some 27), .p (.mv (.tmp 0))⟩,
    ⟨(some 28), .p (.mv (.tmp 6))⟩,
    ⟨(some 29), .e (.make 63 2 [(.int .u16 (0))] (.tmp 28) (.tmp 28))⟩,
    ⟨(some 30), .p (.build [(.slice none 0 0), (.slice none 0 0)] [(0, 1, (.tmp 27)), (1, 1, (.tmp 29))])⟩,
    ⟨(some 31), .e (.box 85 (.tmp 30))⟩,
    ⟨(some 7), .p (.mv (.tmp 31))⟩])
 (.seq (.seq (.ops none [⟨(some 32), .p (.mv (.tmp 0))⟩,
     ⟨(some 33), .p (.lenSl (.tmp 32))⟩,
     ⟨(some 34), .p (.mv (.const (.int .i64 (0))))⟩])
  (.block 0 (.loop [1, 6, 7, 32, 33] [34] c22z18))) c22z15)
noncomputable def c22 : ICode := .seq (.ops none [⟨(some 4), .p (.mv (.const (.pointer none)))⟩,
    ⟨(some 5), .p (.mv (.const (.bool false)))⟩])
 (.seq (.ops none [⟨(some 14), .p (.mv (.tmp 0))⟩,
    ⟨(some 15), .p (.lenSl (.tmp 14))⟩,
    ⟨(some 6), .p (.mv (.tmp 15))⟩])
 (.seq (.seq (.seq (.ops none [⟨(some 16), .p (.mv (.tmp 6))⟩,
      ⟨(some 17), .p (.bin .lss (.tmp 16) (.const (.int .i64 (1))))⟩,
      ⟨(some 18), .p (.mv (.tmp 17))⟩])
   (.cut [0, 1, 6, 18] c22z6)) c22z4) c22z3))
theorem k22 : compFn Try.prog 22 [[], [], [0, 1, 6, 18], [0, 1, 6, 18, 20], [0, 1, 6, 22], [0, 1, 6, 22, 25], [], [], [], [], [], [1, 6, 7, 32, 33], [34], [], [], [], [1, 6, 7, 9, 32, 33, 34, 41], [1, 6, 7, 9, 32, 33, 34, 41, 44], [1, 6, 7, 9, 32, 33, 34, 46], [1, 6, 7, 9, 32, 33, 34, 46, 49], [1, 6, 7, 9, 32, 33, 34, 51], [1, 6, 7, 32, 33, 34, 51, 54], [], [], [], [1, 6, 7], [], [6, 7, 57, 58], [59], [], [], [], [6, 7, 11, 57, 58, 59, 69], [6, 7, 11, 57, 58, 59, 69, 76], [6, 7, 11, 57, 58, 59, 78], [6, 7, 11, 57, 58, 59, 78, 83], [], [], [], [], [6, 7], [], [], [6, 7, 99], [12, 100], [], [], [], [6, 7, 99, 100, 102], [12, 103], [], [], [], [], [6, 7, 12, 99, 100, 102, 103], [6, 7, 12, 99, 100], [7, 12], []] = some (121, c22, [.tmp 4, .tmp 5]) := by kernel_rfl
def K22z0 (_P : Program) (K : Value → Heap → Prop) : Exit → (Nat → Value) → Heap → Prop := bodyP [.tmp 4, .tmp 5] K
def K22z3 (P : Program) (K : Value → Heap → Prop) : Exit → (Nat → Value) → Heap → Prop := thenK (iwpP P c22z3 (K22z0 P K)) (K22z0 P K)
def K22z4 (P : Program) (K : Value → Heap → Prop) : Exit → (Nat → Value) → Heap → Prop := thenK (iwpP P c22z4 (K22z3 P K)) (K22z3 P K)
def K22z15 (P : Program) (K : Value → Heap → Prop) : Exit → (Nat → Value) → Heap → Prop := thenK (iwpP P c22z15 (K22z0 P K)) (K22z0 P K)
def K22z17 (P : Program) (K : Value → Heap → Prop) : Exit → (Nat → Value) → Heap → Prop := inBlockK 0 (K22z15 P K)
def K22z18 (P : Program) (K : Value → Heap → Prop) (pairs1 n6 p7 x32 x33 : Value) (L1 : List Value → Heap → Prop) : Exit → (Nat → Value) → Heap → Prop := thenK (fun f' h'' => (([1, 6, 7, 32, 33] : List Nat).map f' : List Value) = [pairs1, n6, p7, x32, x33] ∧ L1 (([34] : List Nat).map f') h'') (K22z17 P K)
def K22z21 (P : Program) (K : Value → Heap → Prop) (pairs1 n6 p7 x32 x33 : Value) (L1 : List Value → Heap → Prop) : Exit → (Nat → Value) → Heap → Prop := thenK (iwpP P c22z21 (K22z18 P K pairs1 n6 p7 x32 x33 L1)) (K22z18 P K pairs1 n6 p7 x32 x33 L1)
def K22z22 (P : Program) (K : Value → Heap → Prop) (pairs1 n6 p7 x32 x33 : Value) (L1 : List Value → Heap → Prop) : Exit → (Nat → Value) → Heap → Prop := inBlockK 1 (K22z21 P K pairs1 n6 p7 x32 x33 L1)
def K22z24 (P : Program) (K : Value → Heap → Prop) (pairs1 n6 p7 x32 x33 : Value) (L1 : List Value → Heap → Prop) : Exit → (Nat → Value) → Heap → Prop := thenK (iwpP P c22z24 (K22z22 P K pairs1 n6 p7 x32 x33 L1)) (K22z22 P K pairs1 n6 p7 x32 x33 L1)
def K22z39 (P : Program) (K : Value → Heap → Prop) : Exit → (Nat → Value) → Heap → Prop := thenK (iwpP P c22z39 (K22z0 P K)) (K22z0 P K)
def K22z41 (P : Program) (K : Value → Heap → Prop) : Exit → (Nat → Value) → Heap → Prop := inBlockK 2 (K22z39 P K)
def K22z42 (P : Program) (K : Value → Heap → Prop) (n6 p7 x57 x58 : Value) (L1 : List Value → Heap → Prop) : Exit → (Nat → Value) → Heap → Prop := thenK (fun f' h'' => (([6, 7, 57, 58] : List Nat).map f' : List Value) = [n6, p7, x57, x58] ∧ L1 (([59] : List Nat).map f') h'') (K22z41 P K)
def K22z45 (P : Program) (K : Value → Heap → Prop) (n6 p7 x57 x58 : Value) (L1 : List Value → Heap → Prop) : Exit → (Nat → Value) → Heap → Prop := thenK (iwpP P c22z45 (K22z42 P K n6 p7 x57 x58 L1)) (K22z42 P K n6 p7 x57 x58 L1)
def K22z46 (P : Program) (K : Value → Heap → Prop) (n6 p7 x57 x58 : Value) (L1 : List Value → Heap → Prop) : Exit → (Nat → Value) → Heap → Prop := inBlockK 3 (K22z45 P K n6 p7 x57 x58 L1)
def K22z48 (P : Program) (K : Value → Heap → Prop) (n6 p7 x57 x58 : Value) (L1 : List Value → Heap → Prop) : Exit → (Nat → Value) → Heap → Prop := thenK (iwpP P c22z48 (K22z46 P K n6 p7 x57 x58 L1)) (K22z46 P K n6 p7 x57 x58 L1)
def K22z49 (P : Program) (K : Value → Heap → Prop) (n6 p7 x57 x58 : Value) (L1 : List Value → Heap → Prop) : Exit → (Nat → Value) → Heap → Prop := thenK (iwpP P c22z49 (K22z48 P K n6 p7 x57 x58 L1)) (K22z48 P K n6 p7 x57 x58 L1)
def K22z61 (P : Program) (K : Value → Heap → Prop) : Exit → (Nat → Value) → Heap → Prop := thenK (iwpP P c22z61 (K22z0 P K)) (K22z0 P K)
def K22z63 (P : Program) (K : Value → Heap → Prop) : Exit → (Nat → Value) → Heap → Prop := inBlockK 4 (K22z61 P K)
def K22z64 (P : Program) (K : Value → Heap → Prop) (n6 p7 x99 : Value) (L1 : List Value → Heap → Prop) : Exit → (Nat → Value) → Heap → Prop := thenK (fun f' h'' => (([6, 7, 99] : List Nat).map f' : List Value) = [n6, p7, x99] ∧ L1 (([12, 100] : List Nat).map f') h'') (K22z63 P K)
def K22z67 (P : Program) (K : Value → Heap → Prop) (n6 p7 x99 : Value) (L1 : List Value → Heap → Prop) : Exit → (Nat → Value) → Heap → Prop := thenK (iwpP P c22z67 (K22z64 P K n6 p7 x99 L1)) (K22z64 P K n6 p7 x99 L1)
def K22z68 (P : Program) (K : Value → Heap → Prop) (n6 p7 x99 : Value) (L1 : List Value → Heap → Prop) : Exit → (Nat → Value) → Heap → Prop := inBlockK 5 (K22z67 P K n6 p7 x99 L1)
def K22z70 (P : Program) (K : Value → Heap → Prop) (n6 p7 x99 : Value) (L1 : List Value → Heap → Prop) : Exit → (Nat → Value) → Heap → Prop := inBlockK 6 (K22z68 P K n6 p7 x99 L1)
def K22z71 (P : Program) (K : Value → Heap → Prop) (n6 p7 x99 x100 x102 : Value) (L1 L2 : List Value → Heap → Prop) : Exit → (Nat → Value) → Heap → Prop := thenK (fun f' h'' => (([6, 7, 99, 100, 102] : List Nat).map f' : List Value) = [n6, p7, x99, x100, x102] ∧ L2 (([12, 103] : List Nat).map f') h'') (K22z70 P K n6 p7 x99 L1)
def p22z6 (P : Program) (K : Value → Heap → Prop) (jobs0 pairs1 n6 x18 : Value) (h : Heap) : Prop := CutP (iwpP P c22z6 (K22z4 P K)) [0, 1, 6, 18] [jobs0, pairs1, n6, x18] h
def p22z8 (P : Program) (K : Value → Heap → Prop) (jobs0 pairs1 n6 x18 x20 : Value) (h : Heap) : Prop := CutP (iwpP P c22z8 (K22z4 P K)) [0, 1, 6, 18, 20] [jobs0, pairs1, n6, x18, x20] h
def p22z10 (P : Program) (K : Value → Heap → Prop) (jobs0 pairs1 n6 x22 : Value) (h : Heap) : Prop := CutP (iwpP P c22z10 (K22z4 P K)) [0, 1, 6, 22] [jobs0, pairs1, n6, x22] h
def p22z12 (P : Program) (K : Value → Heap → Prop) (jobs0 pairs1 n6 x22 x25 : Value) (h : Heap) : Prop := CutP (iwpP P c22z12 (K22z4 P K)) [0, 1, 6, 22, 25] [jobs0, pairs1, n6, x22, x25] h
def p22z18 (P : Program) (K : Value → Heap → Prop) (pairs1 n6 p7 x32 x33 : Value) (L1 : List Value → Heap → Prop) (xs : List Value) (h : Heap) : Prop := CutP (iwpP P c22z18 (K22z18 P K pairs1 n6 p7 x32 x33 L1)) ([1, 6, 7, 32, 33] ++ [34]) ([pairs1, n6, p7, x32, x33] ++ xs) h
def p22z26 (P : Program) (K : Value → Heap → Prop) (pairs1 n6 p7 j9 x32 x33 x34 x41 : Value) (L1 : List Value → Heap → Prop) (h : Heap) : Prop := CutP (iwpP P c22z26 (K22z24 P K pairs1 n6 p7 x32 x33 L1)) [1, 6, 7, 9, 32, 33, 34, 41] [pairs1, n6, p7, j9, x32, x33, x34, x41] h
def p22z28 (P : Program) (K : Value → Heap → Prop) (pairs1 n6 p7 j9 x32 x33 x34 x41 x44 : Value) (L1 : List Value → Heap → Prop) (h : Heap) : Prop := CutP (iwpP P c22z28 (K22z24 P K pairs1 n6 p7 x32 x33 L1)) [1, 6, 7, 9, 32, 33, 34, 41, 44] [pairs1, n6, p7, j9, x32, x33, x34, x41, x44] h
def p22z30 (P : Program) (K : Value → Heap → Prop) (pairs1 n6 p7 j9 x32 x33 x34 x46 : Value) (L1 : List Value → Heap → Prop) (h : Heap) : Prop := CutP (iwpP P c22z30 (K22z24 P K pairs1 n6 p7 x32 x33 L1)) [1, 6, 7, 9, 32, 33, 34, 46] [pairs1, n6, p7, j9, x32, x33, x34, x46] h
def p22z32 (P : Program) (K : Value → Heap → Prop) (pairs1 n6 p7 j9 x32 x33 x34 x46 x49 : Value) (L1 : List Value → Heap → Prop) (h : Heap) : Prop := CutP (iwpP P c22z32 (K22z24 P K pairs1 n6 p7 x32 x33 L1)) [1, 6, 7, 9, 32, 33, 34, 46, 49] [pairs1, n6, p7, j9, x32, x33, x34, x46, x49] h
def p22z34 (P : Program) (K : Value → Heap → Prop) (pairs1 n6 p7 j9 x32 x33 x34 x51 : Value) (L1 : List Value → Heap → Prop) (h : Heap) : Prop := CutP (iwpP P c22z34 (K22z24 P K pairs1 n6 p7 x32 x33 L1)) [1, 6, 7, 9, 32, 33, 34, 51] [pairs1, n6, p7, j9, x32, x33, x34, x51] h
def p22z36 (P : Program) (K : Value → Heap → Prop) (pairs1 n6 p7 x32 x33 x34 x51 x54 : Value) (L1 : List Value → Heap → Prop) (h : Heap) : Prop := CutP (iwpP P c22z36 (K22z24 P K pairs1 n6 p7 x32 x33 L1)) [1, 6, 7, 32, 33, 34, 51, 54] [pairs1, n6, p7, x32, x33, x34, x51, x54] h
def p22z38 (P : Program) (K : Value → Heap → Prop) (pairs1 n6 p7 : Value) (h : Heap) : Prop := CutP (iwpP P c22z38 (K22z0 P K)) [1, 6, 7] [pairs1, n6, p7] h
def p22z42 (P : Program) (K : Value → Heap → Prop) (n6 p7 x57 x58 : Value) (L1 : List Value → Heap → Prop) (xs : List Value) (h : Heap) : Prop := CutP (iwpP P c22z42 (K22z42 P K n6 p7 x57 x58 L1)) ([6, 7, 57, 58] ++ [59]) ([n6, p7, x57, x58] ++ xs) h
def p22z51 (P : Program) (K : Value → Heap → Prop) (n6 p7 x11 x57 x58 x59 x69 : Value) (L1 : List Value → Heap → Prop) (h : Heap) : Prop := CutP (iwpP P c22z51 (K22z49 P K n6 p7 x57 x58 L1)) [6, 7, 11, 57, 58, 59, 69] [n6, p7, x11, x57, x58, x59, x69] h
def p22z53 (P : Program) (K : Value → Heap → Prop) (n6 p7 x11 x57 x58 x59 x69 x76 : Value) (L1 : List Value → Heap → Prop) (h : Heap) : Prop := CutP (iwpP P c22z53 (K22z49 P K n6 p7 x57 x58 L1)) [6, 7, 11, 57, 58, 59, 69, 76] [n6, p7, x11, x57, x58, x59, x69, x76] h
def p22z55 (P : Program) (K : Value → Heap → Prop) (n6 p7 x11 x57 x58 x59 x78 : Value) (L1 : List Value → Heap → Prop) (h : Heap) : Prop := CutP (iwpP P c22z55 (K22z49 P K n6 p7 x57 x58 L1)) [6, 7, 11, 57, 58, 59, 78] [n6, p7, x11, x57, x58, x59, x78] h
def p22z57 (P : Program) (K : Value → Heap → Prop) (n6 p7 x11 x57 x58 x59 x78 x83 : Value) (L1 : List Value → Heap → Prop) (h : Heap) : Prop := CutP (iwpP P c22z57 (K22z49 P K n6 p7 x57 x58 L1)) [6, 7, 11, 57, 58, 59, 78, 83] [n6, p7, x11, x57, x58, x59, x78, x83] h
def p22z59 (P : Program) (K : Value → Heap → Prop) (n6 p7 : Value) (h : Heap) : Prop := CutP (iwpP P c22z59 (K22z0 P K)) [6, 7] [n6, p7] h
def p22z64 (P : Program) (K : Value → Heap → Prop) (n6 p7 x99 : Value) (L1 : List Value → Heap → Prop) (xs : List Value) (h : Heap) : Prop := CutP (iwpP P c22z64 (K22z64 P K n6 p7 x99 L1)) ([6, 7, 99] ++ [12, 100]) ([n6, p7, x99] ++ xs) h
def p22z71 (P : Program) (K : Value → Heap → Prop) (n6 p7 x99 x100 x102 : Value) (L1 L2 : List Value → Heap → Prop) (xs : List Value) (h : Heap) : Prop := CutP (iwpP P c22z71 (K22z71 P K n6 p7 x99 x100 x102 L1 L2)) ([6, 7, 99, 100, 102] ++ [12, 103]) ([n6, p7, x99, x100, x102] ++ xs) h
def p22z78 (P : Program) (K : Value → Heap → Prop) (n6 p7 done12 x99 x100 x102 x103 : Value) (L1 L2 : List Value → Heap → Prop) (h : Heap) : Prop := CutP (iwpP P c22z78 (K22z71 P K n6 p7 x99 x100 x102 L1 L2)) [6, 7, 12, 99, 100, 102, 103] [n6, p7, done12, x99, x100, x102, x103] h
def p22z79 (P : Program) (K : Value → Heap → Prop) (n6 p7 done12 x99 x100 : Value) (L1 : List Value → Heap → Prop) (h : Heap) : Prop := CutP (iwpP P c22z79 (K22z64 P K n6 p7 x99 L1)) [6, 7, 12, 99, 100] [n6, p7, done12, x99, x100] h
def p22z80 (P : Program) (K : Value → Heap → Prop) (p7 done12 : Value) (h : Heap) : Prop := CutP (iwpP P c22z80 (K22z0 P K)) [7, 12] [p7, done12] h
theorem q22z12 (P : Program) (K : Value → Heap → Prop) (jobs0 pairs1 n6 x22 x25 : Value) (h : Heap) : p22z12 P K jobs0 pairs1 n6 x22 x25 h =
  (OP (iPick x22 (.bool true) x25) fun x26 =>
  IfP x26
    (K (.tuple #[(.pointer none), (.bool false)]) h)
    (OH (iMake 63 2 [(.int .u16 (0))] h n6 n6) fun x29 h_1 =>
    OP (iBuild [(.slice none 0 0), (.slice none 0 0)] [(0, 1, jobs0), (1, 1, x29)]) fun x30 =>
    OH (iBox 85 h_1 x30) fun x31 h_2 =>
    OP (iLenSl jobs0) fun x33 =>
    LoopP [(.int .i64 (0))] h_2 fun L1 xs hx =>
    p22z18 P K pairs1 n6 x31 jobs0 x33 L1 xs hx)) := (CutP_def _ _ _ _).trans (by kernel_rfl)
theorem q22z10 (P : Program) (K : Value → Heap → Prop) (jobs0 pairs1 n6 x22 : Value) (h : Heap) : p22z10 P K jobs0 pairs1 n6 x22 h =
  (GdP x22 false
    (OP (iLenSl pairs1) fun x24 =>
    OP (iBin .gtr x24 (.int .i64 (40))) fun x25 =>
    p22z12 P K jobs0 pairs1 n6 x22 x25 h)
    (p22z12 P K jobs0 pairs1 n6 x22 undef h)) := (CutP_def _ _ _ _).trans (by kernel_rfl)
theorem q22z8 (P : Program) (K : Value → Heap → Prop) (jobs0 pairs1 n6 x18 x20 : Value) (h : Heap) : p22z8 P K jobs0 pairs1 n6 x18 x20 h =
  (OP (iPick x18 (.bool true) x20) fun x21 =>
  p22z10 P K jobs0 pairs1 n6 x21 h) := (CutP_def _ _ _ _).trans (by kernel_rfl)
theorem q22z6 (P : Program) (K : Value → Heap → Prop) (jobs0 pairs1 n6 x18 : Value) (h : Heap) : p22z6 P K jobs0 pairs1 n6 x18 h =
  (GdP x18 false
    (OP (iBin .gtr n6 (.int .i64 (10))) fun x20 =>
    p22z8 P K jobs0 pairs1 n6 x18 x20 h)
    (p22z8 P K jobs0 pairs1 n6 x18 undef h)) := (CutP_def _ _ _ _).trans (by kernel_rfl)
theorem q22z36 (P : Program) (K : Value → Heap → Prop) (pairs1 n6 p7 x32 x33 x34 x51 x54 : Value) (L1 : List Value → Heap → Prop) (h : Heap) : p22z36 P K pairs1 n6 p7 x32 x33 x34 x51 x54 L1 h =
  (OP (iPick x51 (.bool true) x54) fun x55 =>
  IfP x55
    (K (.tuple #[(.pointer none), (.bool false)]) h)
    (OP (iBin .add x34 (.int .i64 (1))) fun x56 =>
    ([pairs1, n6, p7, x32, x33] : List Value) = [pairs1, n6, p7, x32, x33] ∧ L1 [x56] h)) := (CutP_def _ _ _ _).trans (by kernel_rfl)
theorem q22z34 (P : Program) (K : Value → Heap → Prop) (pairs1 n6 p7 j9 x32 x33 x34 x51 : Value) (L1 : List Value → Heap → Prop) (h : Heap) : p22z34 P K pairs1 n6 p7 j9 x32 x33 x34 x51 L1 h =
  (GdP x51 false
    (OP (iFadr 1 j9) fun x52 =>
    OP (iLoad false 1 h x52) fun x53 =>
    OP (iBin .gtr x53 (.int .i64 (50))) fun x54 =>
    p22z36 P K pairs1 n6 p7 x32 x33 x34 x51 x54 L1 h)
    (p22z36 P K pairs1 n6 p7 x32 x33 x34 x51 undef L1 h)) := (CutP_def _ _ _ _).trans (by kernel_rfl)
theorem q22z32 (P : Program) (K : Value → Heap → Prop) (pairs1 n6 p7 j9 x32 x33 x34 x46 x49 : Value) (L1 : List Value → Heap → Prop) (h : Heap) : p22z32 P K pairs1 n6 p7 j9 x32 x33 x34 x46 x49 L1 h =
  (OP (iPick x46 (.bool true) x49) fun x50 =>
  p22z34 P K pairs1 n6 p7 j9 x32 x33 x34 x50 L1 h) := (CutP_def _ _ _ _).trans (by kernel_rfl)
theorem q22z30 (P : Program) (K : Value → Heap → Prop) (pairs1 n6 p7 j9 x32 x33 x34 x46 : Value) (L1 : List Value → Heap → Prop) (h : Heap) : p22z30 P K pairs1 n6 p7 j9 x32 x33 x34 x46 L1 h =
  (GdP x46 false
    (OP (iFadr 1 j9) fun x47 =>
    OP (iLoad false 1 h x47) fun x48 =>
    OP (iBin .lss x48 (.int .i64 (0))) fun x49 =>
    p22z32 P K pairs1 n6 p7 j9 x32 x33 x34 x46 x49 L1 h)
    (p22z32 P K pairs1 n6 p7 j9 x32 x33 x34 x46 undef L1 h)) := (CutP_def _ _ _ _).trans (by kernel_rfl)
theorem q22z28 (P : Program) (K : Value → Heap → Prop) (pairs1 n6 p7 j9 x32 x33 x34 x41 x44 : Value) (L1 : List Value → Heap → Prop) (h : Heap) : p22z28 P K pairs1 n6 p7 j9 x32 x33 x34 x41 x44 L1 h =
  (OP (iPick x41 (.bool true) x44) fun x45 =>
  p22z30 P K pairs1 n6 p7 j9 x32 x33 x34 x45 L1 h) := (CutP_def _ _ _ _).trans (by kernel_rfl)
theorem q22z26 (P : Program) (K : Value → Heap → Prop) (pairs1 n6 p7 j9 x32 x33 x34 x41 : Value) (L1 : List Value → Heap → Prop) (h : Heap) : p22z26 P K pairs1 n6 p7 j9 x32 x33 x34 x41 L1 h =
  (GdP x41 false
    (OP (iFadr 0 j9) fun x42 =>
    OP (iLoad false 1 h x42) fun x43 =>
    OP (iBin .gtr x43 (.int .i64 (50))) fun x44 =>
    p22z28 P K pairs1 n6 p7 j9 x32 x33 x34 x41 x44 L1 h)
    (p22z28 P K pairs1 n6 p7 j9 x32 x33 x34 x41 undef L1 h)) := (CutP_def _ _ _ _).trans (by kernel_rfl)
theorem q22z18 (P : Program) (K : Value → Heap → Prop) (pairs1 n6 p7 x32 x33 : Value) (L1 : List Value → Heap → Prop) (x34 : Value) (h : Heap) : p22z18 P K pairs1 n6 p7 x32 x33 L1 [x34] h =
  (OP (iBin .lss x34 x33) fun x35 =>
  IfP x35
    (OP (iAdrSl 2 x32 x34) fun x36 =>
    OP (iLoad true 2 h x36) fun x37 =>
    OH (iAlloc 35 [(.int .i64 (0)), (.int .i64 (0))] h) fun j9 h_1 =>
    OH (oStore 2 h_1 j9 x37) fun _ h_2 =>
    OP (iFadr 0 j9) fun x38 =>
    OP (iLoad false 1 h_2 x38) fun x39 =>
    OP (iBin .lss x39 (.int .i64 (1))) fun x40 =>
    p22z26 P K pairs1 n6 p7 j9 x32 x33 x34 x40 L1 h_2)
    (p22z38 P K pairs1 n6 p7 h)) := (CutP_def _ _ _ _).trans (by kernel_rfl)
theorem q22z57 (P : Program) (K : Value → Heap → Prop) (n6 p7 x11 x57 x58 x59 x78 x83 : Value) (L1 : List Value → Heap → Prop) (h : Heap) : p22z57 P K n6 p7 x11 x57 x58 x59 x78 x83 L1 h =
  (OP (iPick x78 (.bool true) x83) fun x84 =>
  IfP x84
    (K (.tuple #[(.pointer none), (.bool false)]) h)
    (OP (iNilck p7) fun x86 =>
    OP (iFadr 1 x86) fun x87 =>
    OP (iLoad false 1 h x87) fun x88 =>
    (True) ∧
    OP (iFadr 1 x11) fun x89 =>
    OP (iLoad false 1 h x89) fun x90 =>
    (True) ∧
    OP (iAdrSl 1 x88 x90) fun x91 =>
    OP (iLoad false 1 h x91) fun x92 =>
    (True) ∧
    OP (iFadr 0 x11) fun x93 =>
    OP (iLoad false 1 h x93) fun x94 =>
    (True) ∧
    OP (iBin .shl (.int .u16 (1)) x94) fun x95 =>
    OP (iBin .or x92 x95) fun x96 =>
    OP (iAdrSl 1 x88 x90) fun x97 =>
    OH (oStore 1 h x97 x96) fun _ h_1 =>
    (True) ∧
    OP (iBin .add x59 (.int .i64 (1))) fun x98 =>
    ([n6, p7, x57, x58] : List Value) = [n6, p7, x57, x58] ∧ L1 [x98] h_1)) := (CutP_def _ _ _ _).trans (by kernel_rfl)
theorem q22z55 (P : Program) (K : Value → Heap → Prop) (n6 p7 x11 x57 x58 x59 x78 : Value) (L1 : List Value → Heap → Prop) (h : Heap) : p22z55 P K n6 p7 x11 x57 x58 x59 x78 L1 h =
  (GdP x78 false
    (OP (iFadr 0 x11) fun x79 =>
    OP (iLoad false 1 h x79) fun x80 =>
    OP (iFadr 1 x11) fun x81 =>
    OP (iLoad false 1 h x81) fun x82 =>
    OP (iBin .eql x80 x82) fun x83 =>
    p22z57 P K n6 p7 x11 x57 x58 x59 x78 x83 L1 h)
    (p22z57 P K n6 p7 x11 x57 x58 x59 x78 undef L1 h)) := (CutP_def _ _ _ _).trans (by kernel_rfl)
theorem q22z53 (P : Program) (K : Value → Heap → Prop) (n6 p7 x11 x57 x58 x59 x69 x76 : Value) (L1 : List Value → Heap → Prop) (h : Heap) : p22z53 P K n6 p7 x11 x57 x58 x59 x69 x76 L1 h =
  (OP (iPick x69 (.bool true) x76) fun x77 =>
  p22z55 P K n6 p7 x11 x57 x58 x59 x77 L1 h) := (CutP_def _ _ _ _).trans (by kernel_rfl)
theorem q22z51 (P : Program) (K : Value → Heap → Prop) (n6 p7 x11 x57 x58 x59 x69 : Value) (L1 : List Value → Heap → Prop) (h : Heap) : p22z51 P K n6 p7 x11 x57 x58 x59 x69 L1 h =
  (GdP x69 false
    (OP (iFadr 0 x11) fun x70 =>
    OP (iLoad false 1 h x70) fun x71 =>
    OP (iFadr 1 x11) fun x72 =>
    OP (iLoad false 1 h x72) fun x73 =>
    OP (iMinmax true [x71, x73]) fun x74 =>
    OP (iBin .geq x74 n6) fun x76 =>
    p22z53 P K n6 p7 x11 x57 x58 x59 x69 x76 L1 h)
    (p22z53 P K n6 p7 x11 x57 x58 x59 x69 undef L1 h)) := (CutP_def _ _ _ _).trans (by kernel_rfl)
theorem q22z42 (P : Program) (K : Value → Heap → Prop) (n6 p7 x57 x58 : Value) (L1 : List Value → Heap → Prop) (x59 : Value) (h : Heap) : p22z42 P K n6 p7 x57 x58 L1 [x59] h =
  (OP (iBin .lss x59 x58) fun x60 =>
  IfP x60
    (OP (iAdrSl 2 x57 x59) fun x61 =>
    OP (iLoad true 2 h x61) fun x62 =>
    OH (iAlloc 54 [(.int .i64 (0)), (.int .i64 (0))] h) fun x11 h_1 =>
    OH (oStore 2 h_1 x11 x62) fun _ h_2 =>
    OP (iFadr 0 x11) fun x63 =>
    OP (iLoad false 1 h_2 x63) fun x64 =>
    OP (iFadr 1 x11) fun x65 =>
    OP (iLoad false 1 h_2 x65) fun x66 =>
    OP (iMinmax false [x64, x66]) fun x67 =>
    OP (iBin .lss x67 (.int .i64 (0))) fun x68 =>
    p22z51 P K n6 p7 x11 x57 x58 x59 x68 L1 h_2)
    (p22z59 P K n6 p7 h)) := (CutP_def _ _ _ _).trans (by kernel_rfl)
theorem q22z78 (P : Program) (K : Value → Heap → Prop) (n6 p7 done12 x99 x100 x102 x103 : Value) (L1 L2 : List Value → Heap → Prop) (h : Heap) : p22z78 P K n6 p7 done12 x99 x100 x102 x103 L1 L2 h =
  (OP (iBin .add x103 (.int .i64 (1))) fun x114 =>
  ([n6, p7, x99, x100, x102] : List Value) = [n6, p7, x99, x100, x102] ∧ L2 [done12, x114] h) := (CutP_def _ _ _ _).trans (by kernel_rfl)
theorem q22z71 (P : Program) (K : Value → Heap → Prop) (n6 p7 x99 x100 x102 : Value) (L1 L2 : List Value → Heap → Prop) (done12 x103 : Value) (h : Heap) : p22z71 P K n6 p7 x99 x100 x102 L1 L2 [done12, x103] h =
  (OP (iBin .lss x103 x102) fun x104 =>
  IfP x104
    (CallP P 26 [p7, done12, x103] h fun x109 h_1 =>
    IfP x109
      (OP (iBin .shl (.int .u16 (1)) x103) fun x112 =>
      OP (iBin .or done12 x112) fun x113 =>
      p22z78 P K n6 p7 x113 x99 x100 x102 x103 L1 L2 h_1)
      (p22z78 P K n6 p7 done12 x99 x100 x102 x103 L1 L2 h_1))
    (p22z79 P K n6 p7 done12 x99 x100 L1 h)) := (CutP_def _ _ _ _).trans (by kernel_rfl)
theorem q22z79 (P : Program) (K : Value → Heap → Prop) (n6 p7 done12 x99 x100 : Value) (L1 : List Value → Heap → Prop) (h : Heap) : p22z79 P K n6 p7 done12 x99 x100 L1 h =
  (OP (iBin .add x100 (.int .i64 (1))) fun x115 =>
  ([n6, p7, x99] : List Value) = [n6, p7, x99] ∧ L1 [done12, x115] h) := (CutP_def _ _ _ _).trans (by kernel_rfl)
theorem q22z64 (P : Program) (K : Value → Heap → Prop) (n6 p7 x99 : Value) (L1 : List Value → Heap → Prop) (done12 x100 : Value) (h : Heap) : p22z64 P K n6 p7 x99 L1 [done12, x100] h =
  (OP (iBin .lss x100 x99) fun x101 =>
  IfP x101
    (LoopP [done12, (.int .i64 (0))] h fun L2 xs hx =>
    p22z71 P K n6 p7 x99 x100 n6 L1 L2 xs hx)
    (p22z80 P K p7 done12 h)) := (CutP_def _ _ _ _).trans (by kernel_rfl)
theorem q22z80 (P : Program) (K : Value → Heap → Prop) (p7 done12 : Value) (h : Heap) : p22z80 P K p7 done12 h =
  (CallP P 24 [p7] h fun x119 h_1 =>
  OP (iBin .eql done12 x119) fun x120 =>
  K (.tuple #[p7, x120]) h_1) := (CutP_def _ _ _ _).trans (by kernel_rfl)
theorem q22z59 (P : Program) (K : Value → Heap → Prop) (n6 p7 : Value) (h : Heap) : p22z59 P K n6 p7 h =
  (LoopP [(.int .u16 (0)), (.int .i64 (0))] h fun L1 xs hx =>
  p22z64 P K n6 p7 n6 L1 xs hx) := (CutP_def _ _ _ _).trans (by kernel_rfl)
theorem q22z38 (P : Program) (K : Value → Heap → Prop) (pairs1 n6 p7 : Value) (h : Heap) : p22z38 P K pairs1 n6 p7 h =
  (OP (iLenSl pairs1) fun x58 =>
  LoopP [(.int .i64 (0))] h fun L1 xs hx =>
  p22z42 P K n6 p7 pairs1 x58 L1 xs hx) := (CutP_def _ _ _ _).trans (by kernel_rfl)
def T22 (P : Program) (K : Value → Heap → Prop) (jobs0 pairs1 : Value) (h : Heap) : Prop :=
  OP (iLenSl jobs0) fun x15 =>
  OP (iBin .lss x15 (.int .i64 (1))) fun x17 =>
  p22z6 P K jobs0 pairs1 x15 x17 h
theorem e22 (P : Program) (K : Value → Heap → Prop) (jobs0 pairs1 : Value) (h : Heap) : iwpP P c22 (bodyP [.tmp 4, .tmp 5] K) (frame0 [jobs0, pairs1]) h = T22 P K jobs0 pairs1 h := by kernel_rfl
theorem f22 {K : Value → Heap → Prop} {jobs0 pairs1 : Value} {h : Heap} (H : T22 Try.prog K jobs0 pairs1 h) : CallP Try.prog 22 [jobs0, pairs1] h K :=
  callP_intro k22 (Nat.le_of_ble_eq_true rfl) ((e22 Try.prog K jobs0 pairs1 h).mpr H)
/-! F23: (*pommel/mend.plan).costs -/
noncomputable def c23 : ICode := .seq (.ops none [⟨(some 1), .e (.box 57 (.tmp 0))⟩,
    ⟨(some 2), .p (.mv (.const (.map none)))⟩])
 (.seq (.ops none [⟨(some 5), .e (.mkMapI .u16)⟩,
    ⟨(some 6), .l (.load false 1 (.tmp 1))⟩,
    ⟨(some 7), .call 24 [(.tmp 6)]⟩,
    ⟨none, .e (.mupdI .u16 (.tmp 5) (.tmp 7) (.const (.int .i64 (0))))⟩,
    ⟨(some 8), .p (.mv (.tmp 5))⟩,
    ⟨(some 3), .e (.alloc 60 [(.map none)])⟩,
    ⟨none, .e (.store 1 (.tmp 3) (.tmp 8))⟩])
 (.seq (.ops none [⟨(some 4), .e (.alloc 65 [.nilFunc])⟩])
 (.seq (.ops none [⟨(some 9), .p (.fn 35 [] [(.tmp 3), (.tmp 1), (.tmp 4)])⟩,
    ⟨none, .e (.store 1 (.tmp 4) (.tmp 9))⟩])
 (.seq (.ops none [⟨(some 10), .l (.load false 1 (.tmp 4))⟩,
    ⟨(some 11), .callv (.tmp 10) [(.const (.int .u16 (0)))]⟩])
 (.seq (.ops none [⟨(some 12), .l (.load false 1 (.tmp 3))⟩,
    ⟨(some 2), .p (.mv (.tmp 12))⟩])
 (.ret))))))
theorem k23 : compFn Try.prog 23 [[], [], [], [], [], []] = some (13, c23, [.tmp 2]) := by kernel_rfl
def K23z0 (_P : Program) (K : Value → Heap → Prop) : Exit → (Nat → Value) → Heap → Prop := bodyP [.tmp 2] K
def T23 (P : Program) (K : Value → Heap → Prop) (p0 : Value) (h : Heap) : Prop :=
  OH (iBox 57 h p0) fun p1 h_1 =>
  OH (iMkMapI .u16 h_1) fun x5 h_2 =>
  OP (iLoad false 1 h_2 p1) fun x6 =>
  CallP P 24 [x6] h_2 fun x7 h_3 =>
  OH (oMupdI .u16 h_3 x5 x7 (.int .i64 (0))) fun _ h_4 =>
  OH (iAlloc 60 [(.map none)] h_4) fun out3 h_5 =>
  OH (oStore 1 h_5 out3 x5) fun _ h_6 =>
  OH (iAlloc 65 [.nilFunc] h_6) fun cost4 h_7 =>
  OH (oStore 1 h_7 cost4 (.func (.func 35) #[] #[out3, p1, cost4])) fun _ h_8 =>
  OP (iLoad false 1 h_8 cost4) fun x10 =>
  CallVP P x10 [(.int .u16 (0))] h_8 fun x11 h_9 =>
  OP (iLoad false 1 h_9 out3) fun x12 =>
  K x12 h_9
theorem e23 (P : Program) (K : Value → Heap → Prop) (p0 : Value) (h : Heap) : iwpP P c23 (bodyP [.tmp 2] K) (frame0 [p0]) h = T23 P K p0 h := by kernel_rfl
theorem f23 {K : Value → Heap → Prop} {p0 : Value} {h : Heap} (H : T23 Try.prog K p0 h) : CallP Try.prog 23 [p0] h K :=
  callP_intro k23 (Nat.le_of_ble_eq_true rfl) ((e23 Try.prog K p0 h).mpr H)
/-! F24: (*pommel/mend.plan).all -/
noncomputable def c24 : ICode := .seq (.ops none [⟨(some 2), .p (.mv (.const (.int .u16 (0))))⟩])
 (.seq (.ops none [⟨(some 3), .p (.mv (.tmp 0))⟩,
    ⟨(some 4), .p (.nilck (.tmp 3))⟩,
    ⟨(some 5), .p (.fadr 0 (.tmp 4))⟩,
    ⟨(some 6), .l (.load false 1 (.tmp 5))⟩,
    ⟨(some 7), .p (.lenSl (.tmp 6))⟩,
    ⟨(some 8), .p (.bin .shl (.const (.int .u16 (1))) (.tmp 7))⟩,
    ⟨(some 9), .p (.bin .sub (.tmp 8) (.const (.int .u16 (1))))⟩,
    ⟨(some 2), .p (.mv (.tmp 9))⟩])
 (.ret))
theorem k24 : compFn Try.prog 24 [[], []] = some (10, c24, [.tmp 2]) := by kernel_rfl
def K24z0 (_P : Program) (K : Value → Heap → Prop) : Exit → (Nat → Value) → Heap → Prop := bodyP [.tmp 2] K
def T24 (P : Program) (K : Value → Heap → Prop) (p0 : Value) (h : Heap) : Prop :=
  OP (iNilck p0) fun x4 =>
  OP (iFadr 0 x4) fun x5 =>
  OP (iLoad false 1 h x5) fun x6 =>
  OP (iLenSl x6) fun x7 =>
  OP (iBin .shl (.int .u16 (1)) x7) fun x8 =>
  OP (iBin .sub x8 (.int .u16 (1))) fun x9 =>
  K x9 h
theorem e24 (P : Program) (K : Value → Heap → Prop) (p0 : Value) (h : Heap) : iwpP P c24 (bodyP [.tmp 2] K) (frame0 [p0]) h = T24 P K p0 h := by kernel_rfl
theorem f24 {K : Value → Heap → Prop} {p0 : Value} {h : Heap} (H : T24 Try.prog K p0 h) : CallP Try.prog 24 [p0] h K :=
  callP_intro k24 (Nat.le_of_ble_eq_true rfl) ((e24 Try.prog K p0 h).mpr H)
/-! F25: (*pommel/mend.plan).length -/
noncomputable def c25z6 : ICode := .seq (.ops none [⟨(some 12), .p (.bin .lss (.tmp 11) (.tmp 10))⟩])
 (.seq (.cond (.tmp 12) (.skip)
  (.exit 0))
 (.seq (.block 1 (.seq (.ops none [⟨(some 13), .p (.adrSl 1 (.tmp 9) (.tmp 11))⟩,
      ⟨(some 14), .l (.load false 1 (.tmp 13))⟩,
      ⟨(some 7), .p (.mv (.tmp 14))⟩])
   (.ops none [⟨(some 15), .p (.mv (.tmp 5))⟩,
     ⟨(some 16), .p (.mv (.tmp 0))⟩,
     ⟨(some 17), .p (.nilck (.tmp 16))⟩,
     ⟨(some 18), .p (.fadr 0 (.tmp 17))⟩,
     ⟨(some 19), .l (.load false 1 (.tmp 18))⟩,
     ⟨(some 20), .p (.mv (.tmp 7))⟩,
     ⟨(some 21), .p (.adrSl 2 (.tmp 19) (.tmp 20))⟩,
     ⟨(some 22), .p (.fadr 0 (.tmp 21))⟩,
     ⟨(some 23), .l (.load false 1 (.tmp 22))⟩,
     ⟨(some 24), .p (.bin .add (.tmp 15) (.tmp 23))⟩,
     ⟨(some 5), .p (.mv (.tmp 24))⟩])))
 (.ops none [⟨(some 25), .p (.bin .add (.tmp 11) (.const (.int .i64 (1))))⟩,
   ⟨(some 11), .p (.mv (.tmp 25))⟩])))
noncomputable def c25z12 : ICode := .seq (.ops none [⟨(some 26), .p (.mv (.tmp 5))⟩,
    ⟨(some 4), .p (.mv (.tmp 26))⟩])
 (.ret)
noncomputable def c25z3 : ICode := .cut [5] c25z12
noncomputable def c25 : ICode := .seq (.ops none [⟨(some 4), .p (.mv (.const (.int .i64 (0))))⟩])
 (.seq (.ops none [⟨(some 5), .p (.mv (.const (.int .i64 (0))))⟩])
 (.seq (.seq (.ops none [⟨(some 8), .p (.mv (.tmp 1))⟩,
     ⟨(some 9), .call 36 [(.tmp 8)]⟩,
     ⟨(some 10), .p (.lenSl (.tmp 9))⟩,
     ⟨(some 11), .p (.mv (.const (.int .i64 (0))))⟩])
  (.block 0 (.loop [0, 9, 10] [5, 11] c25z6))) c25z3))
theorem k25 : compFn Try.prog 25 [[], [], [], [0, 9, 10], [5, 11], [], [], [], [], [5], []] = some (27, c25, [.tmp 4]) := by kernel_rfl
def K25z0 (_P : Program) (K : Value → Heap → Prop) : Exit → (Nat → Value) → Heap → Prop := bodyP [.tmp 4] K
def K25z3 (P : Program) (K : Value → Heap → Prop) : Exit → (Nat → Value) → Heap → Prop := thenK (iwpP P c25z3 (K25z0 P K)) (K25z0 P K)
def K25z5 (P : Program) (K : Value → Heap → Prop) : Exit → (Nat → Value) → Heap → Prop := inBlockK 0 (K25z3 P K)
def K25z6 (P : Program) (K : Value → Heap → Prop) (p0 x9 x10 : Value) (L1 : List Value → Heap → Prop) : Exit → (Nat → Value) → Heap → Prop := thenK (fun f' h'' => (([0, 9, 10] : List Nat).map f' : List Value) = [p0, x9, x10] ∧ L1 (([5, 11] : List Nat).map f') h'') (K25z5 P K)
def p25z6 (P : Program) (K : Value → Heap → Prop) (p0 x9 x10 : Value) (L1 : List Value → Heap → Prop) (xs : List Value) (h : Heap) : Prop := CutP (iwpP P c25z6 (K25z6 P K p0 x9 x10 L1)) ([0, 9, 10] ++ [5, 11]) ([p0, x9, x10] ++ xs) h
def p25z12 (P : Program) (K : Value → Heap → Prop) (sum5 : Value) (h : Heap) : Prop := CutP (iwpP P c25z12 (K25z0 P K)) [5] [sum5] h
theorem q25z6 (P : Program) (K : Value → Heap → Prop) (p0 x9 x10 : Value) (L1 : List Value → Heap → Prop) (sum5 x11 : Value) (h : Heap) : p25z6 P K p0 x9 x10 L1 [sum5, x11] h =
  (OP (iBin .lss x11 x10) fun x12 =>
  IfP x12
    (OP (iAdrSl 1 x9 x11) fun x13 =>
    OP (iLoad false 1 h x13) fun x14 =>
    OP (iNilck p0) fun x17 =>
    OP (iFadr 0 x17) fun x18 =>
    OP (iLoad false 1 h x18) fun x19 =>
    OP (iAdrSl 2 x19 x14) fun x21 =>
    OP (iFadr 0 x21) fun x22 =>
    OP (iLoad false 1 h x22) fun x23 =>
    OP (iBin .add sum5 x23) fun x24 =>
    OP (iBin .add x11 (.int .i64 (1))) fun x25 =>
    ([p0, x9, x10] : List Value) = [p0, x9, x10] ∧ L1 [x24, x25] h)
    (p25z12 P K sum5 h)) := (CutP_def _ _ _ _).trans (by kernel_rfl)
theorem q25z12 (P : Program) (K : Value → Heap → Prop) (sum5 : Value) (h : Heap) : p25z12 P K sum5 h =
  (K sum5 h) := (CutP_def _ _ _ _).trans (by kernel_rfl)
def T25 (P : Program) (K : Value → Heap → Prop) (p0 s1 : Value) (h : Heap) : Prop :=
  CallP P 36 [s1] h fun x9 h_1 =>
  OP (iLenSl x9) fun x10 =>
  LoopP [(.int .i64 (0)), (.int .i64 (0))] h_1 fun L1 xs hx =>
  p25z6 P K p0 x9 x10 L1 xs hx
theorem e25 (P : Program) (K : Value → Heap → Prop) (p0 s1 : Value) (h : Heap) : iwpP P c25 (bodyP [.tmp 4] K) (frame0 [p0, s1]) h = T25 P K p0 s1 h := by kernel_rfl
theorem f25 {K : Value → Heap → Prop} {p0 s1 : Value} {h : Heap} (H : T25 Try.prog K p0 s1 h) : CallP Try.prog 25 [p0, s1] h K :=
  callP_intro k25 (Nat.le_of_ble_eq_true rfl) ((e25 Try.prog K p0 s1 h).mpr H)
/-! F26: (*pommel/mend.plan).ready -/
noncomputable def c26z6 : ICode := .ops none [⟨(some 22), .p (.pick (.tmp 11) (.tmp 21) (.const (.bool false)))⟩,
   ⟨(some 6), .p (.mv (.tmp 22))⟩]
noncomputable def c26z4 : ICode := .seq (.ops (some (11, true)) [⟨(some 12), .p (.mv (.tmp 0))⟩,
    ⟨(some 13), .p (.nilck (.tmp 12))⟩,
    ⟨(some 14), .p (.fadr 1 (.tmp 13))⟩,
    ⟨(some 15), .l (.load false 1 (.tmp 14))⟩,
    ⟨(some 16), .p (.mv (.tmp 2))⟩,
    ⟨(some 17), .p (.adrSl 1 (.tmp 15) (.tmp 16))⟩,
    ⟨(some 18), .l (.load false 1 (.tmp 17))⟩,
    ⟨(some 19), .p (.mv (.tmp 1))⟩,
    ⟨(some 20), .p (.bin .andNot (.tmp 18) (.tmp 19))⟩,
    ⟨(some 21), .p (.bin .eql (.tmp 20) (.const (.int .u16 (0))))⟩])
 (.cut [11, 21] c26z6)
noncomputable def c26z2 : ICode := .ret
noncomputable def c26 : ICode := .seq (.ops none [⟨(some 6), .p (.mv (.const (.bool false)))⟩])
 (.seq (.seq (.ops none [⟨(some 7), .p (.mv (.tmp 1))⟩,
     ⟨(some 8), .p (.mv (.tmp 2))⟩,
     ⟨(some 9), .call 37 [(.tmp 7), (.tmp 8)]⟩,
     ⟨(some 10), .p (.un .not (.tmp 9))⟩,
     ⟨(some 11), .p (.mv (.tmp 10))⟩])
  (.cut [0, 1, 2, 11] c26z4)) c26z2)
theorem k26 : compFn Try.prog 26 [[], [0, 1, 2, 11], [11, 21], []] = some (23, c26, [.tmp 6]) := by kernel_rfl
def K26z0 (_P : Program) (K : Value → Heap → Prop) : Exit → (Nat → Value) → Heap → Prop := bodyP [.tmp 6] K
def K26z2 (P : Program) (K : Value → Heap → Prop) : Exit → (Nat → Value) → Heap → Prop := thenK (iwpP P c26z2 (K26z0 P K)) (K26z0 P K)
def p26z4 (P : Program) (K : Value → Heap → Prop) (p0 done1 i2 x11 : Value) (h : Heap) : Prop := CutP (iwpP P c26z4 (K26z2 P K)) [0, 1, 2, 11] [p0, done1, i2, x11] h
def p26z6 (P : Program) (K : Value → Heap → Prop) (x11 x21 : Value) (h : Heap) : Prop := CutP (iwpP P c26z6 (K26z2 P K)) [11, 21] [x11, x21] h
theorem q26z6 (P : Program) (K : Value → Heap → Prop) (x11 x21 : Value) (h : Heap) : p26z6 P K x11 x21 h =
  (OP (iPick x11 x21 (.bool false)) fun x22 =>
  K x22 h) := (CutP_def _ _ _ _).trans (by kernel_rfl)
theorem q26z4 (P : Program) (K : Value → Heap → Prop) (p0 done1 i2 x11 : Value) (h : Heap) : p26z4 P K p0 done1 i2 x11 h =
  (GdP x11 true
    (OP (iNilck p0) fun x13 =>
    OP (iFadr 1 x13) fun x14 =>
    OP (iLoad false 1 h x14) fun x15 =>
    OP (iAdrSl 1 x15 i2) fun x17 =>
    OP (iLoad false 1 h x17) fun x18 =>
    OP (iBin .andNot x18 done1) fun x20 =>
    OP (iBin .eql x20 (.int .u16 (0))) fun x21 =>
    p26z6 P K x11 x21 h)
    (p26z6 P K x11 undef h)) := (CutP_def _ _ _ _).trans (by kernel_rfl)
def T26 (P : Program) (K : Value → Heap → Prop) (p0 done1 i2 : Value) (h : Heap) : Prop :=
  CallP P 37 [done1, i2] h fun x9 h_1 =>
  OP (iUn .not x9) fun x10 =>
  p26z4 P K p0 done1 i2 x10 h_1
theorem e26 (P : Program) (K : Value → Heap → Prop) (p0 done1 i2 : Value) (h : Heap) : iwpP P c26 (bodyP [.tmp 6] K) (frame0 [p0, done1, i2]) h = T26 P K p0 done1 i2 h := by kernel_rfl
theorem f26 {K : Value → Heap → Prop} {p0 done1 i2 : Value} {h : Heap} (H : T26 Try.prog K p0 done1 i2 h) : CallP Try.prog 26 [p0, done1, i2] h K :=
  callP_intro k26 (Nat.le_of_ble_eq_true rfl) ((e26 Try.prog K p0 done1 i2 h).mpr H)
/-! F33: slices.Max[[]int,int] -/
noncomputable def c33z9 : ICode := .seq (.seq (.ops none [⟨(some 12), .p (.mv (.tmp 4))⟩,
     ⟨(some 13), .p (.mv (.tmp 0))⟩,
     ⟨(some 14), .p (.lenSl (.tmp 13))⟩,
     ⟨(some 15), .p (.bin .lss (.tmp 12) (.tmp 14))⟩])
  (.cond (.tmp 15) (.skip)
  (.exit 0)))
 (.seq (.block 1 (.ops none [⟨(some 18), .p (.mv (.tmp 3))⟩,
     ⟨(some 19), .p (.mv (.tmp 0))⟩,
     ⟨(some 20), .p (.mv (.tmp 4))⟩,
     ⟨(some 21), .p (.adrSl 1 (.tmp 19) (.tmp 20))⟩,
     ⟨(some 22), .l (.load false 1 (.tmp 21))⟩,
     ⟨(some 23), .p (.minmax true [(.tmp 18), (.tmp 22)])⟩,
     ⟨(some 3), .p (.mv (.tmp 23))⟩]))
 (.ops none [⟨(some 16), .p (.mv (.tmp 4))⟩,
   ⟨(some 17), .p (.bin .add (.tmp 16) (.const (.int .i64 (1))))⟩,
   ⟨(some 4), .p (.mv (.tmp 17))⟩]))
noncomputable def c33z14 : ICode := .seq (.ops none [⟨(some 24), .p (.mv (.tmp 3))⟩,
    ⟨(some 2), .p (.mv (.tmp 24))⟩])
 (.ret)
noncomputable def c33z6 : ICode := .cut [3] c33z14
noncomputable def c33z4 : ICode := .seq (.ops none [⟨(some 9), .p (.mv (.tmp 0))⟩,
    ⟨(some 10), .p (.adrSl 1 (.tmp 9) (.const (.int .i64 (0))))⟩,
    ⟨(some 11), .l (.load false 1 (.tmp 10))⟩,
    ⟨(some 3), .p (.mv (.tmp 11))⟩])
 (.seq (.seq (.ops none [⟨(some 4), .p (.mv (.const (.int .i64 (1))))⟩])
  (.block 0 (.loop [0] [3, 4] c33z9))) c33z6)
noncomputable def c33 : ICode := .seq (.ops none [⟨(some 2), .p (.mv (.const (.int .i64 (0))))⟩])
 (.seq (.seq (.ops none [⟨(some 5), .p (.mv (.tmp 0))⟩,
     ⟨(some 6), .p (.lenSl (.tmp 5))⟩,
     ⟨(some 7), .p (.bin .lss (.tmp 6) (.const (.int .i64 (1))))⟩])
  (.cond (.tmp 7) (.ops none [⟨(some 8), .e (.die)⟩,
     ⟨none, .e (.die)⟩])
  (.skip)))
 (.cut [0] c33z4))
theorem k33 : compFn Try.prog 33 [[], [], [0], [], [], [0], [3, 4], [], [], [], [3], []] = some (25, c33, [.tmp 2]) := by kernel_rfl
def K33z0 (_P : Program) (K : Value → Heap → Prop) : Exit → (Nat → Value) → Heap → Prop := bodyP [.tmp 2] K
def K33z6 (P : Program) (K : Value → Heap → Prop) : Exit → (Nat → Value) → Heap → Prop := thenK (iwpP P c33z6 (K33z0 P K)) (K33z0 P K)
def K33z8 (P : Program) (K : Value → Heap → Prop) : Exit → (Nat → Value) → Heap → Prop := inBlockK 0 (K33z6 P K)
def K33z9 (P : Program) (K : Value → Heap → Prop) (x0 : Value) (L1 : List Value → Heap → Prop) : Exit → (Nat → Value) → Heap → Prop := thenK (fun f' h'' => (([0] : List Nat).map f' : List Value) = [x0] ∧ L1 (([3, 4] : List Nat).map f') h'') (K33z8 P K)
def p33z4 (P : Program) (K : Value → Heap → Prop) (x0 : Value) (h : Heap) : Prop := CutP (iwpP P c33z4 (K33z0 P K)) [0] [x0] h
def p33z9 (P : Program) (K : Value → Heap → Prop) (x0 : Value) (L1 : List Value → Heap → Prop) (xs : List Value) (h : Heap) : Prop := CutP (iwpP P c33z9 (K33z9 P K x0 L1)) ([0] ++ [3, 4]) ([x0] ++ xs) h
def p33z14 (P : Program) (K : Value → Heap → Prop) (m3 : Value) (h : Heap) : Prop := CutP (iwpP P c33z14 (K33z0 P K)) [3] [m3] h
theorem q33z9 (P : Program) (K : Value → Heap → Prop) (x0 : Value) (L1 : List Value → Heap → Prop) (m3 i4 : Value) (h : Heap) : p33z9 P K x0 L1 [m3, i4] h =
  (OP (iLenSl x0) fun x14 =>
  OP (iBin .lss i4 x14) fun x15 =>
  IfP x15
    (OP (iAdrSl 1 x0 i4) fun x21 =>
    OP (iLoad false 1 h x21) fun x22 =>
    OP (iMinmax true [m3, x22]) fun x23 =>
    OP (iBin .add i4 (.int .i64 (1))) fun x17 =>
    ([x0] : List Value) = [x0] ∧ L1 [x23, x17] h)
    (p33z14 P K m3 h)) := (CutP_def _ _ _ _).trans (by kernel_rfl)
theorem q33z14 (P : Program) (K : Value → Heap → Prop) (m3 : Value) (h : Heap) : p33z14 P K m3 h =
  (K m3 h) := (CutP_def _ _ _ _).trans (by kernel_rfl)
theorem q33z4 (P : Program) (K : Value → Heap → Prop) (x0 : Value) (h : Heap) : p33z4 P K x0 h =
  (OP (iAdrSl 1 x0 (.int .i64 (0))) fun x10 =>
  OP (iLoad false 1 h x10) fun x11 =>
  LoopP [x11, (.int .i64 (1))] h fun L1 xs hx =>
  p33z9 P K x0 L1 xs hx) := (CutP_def _ _ _ _).trans (by kernel_rfl)
def T33 (P : Program) (K : Value → Heap → Prop) (x0 : Value) (h : Heap) : Prop :=
  OP (iLenSl x0) fun x6 =>
  OP (iBin .lss x6 (.int .i64 (1))) fun x7 =>
  IfP x7
    (OH none fun x8 h_1 =>
    OH none fun _ h_2 =>
    p33z4 P K x0 h_2)
    (p33z4 P K x0 h)
theorem e33 (P : Program) (K : Value → Heap → Prop) (x0 : Value) (h : Heap) : iwpP P c33 (bodyP [.tmp 2] K) (frame0 [x0]) h = T33 P K x0 h := by kernel_rfl
theorem f33 {K : Value → Heap → Prop} {x0 : Value} {h : Heap} (H : T33 Try.prog K x0 h) : CallP Try.prog 33 [x0] h K :=
  callP_intro k33 (Nat.le_of_ble_eq_true rfl) ((e33 Try.prog K x0 h).mpr H)
/-! F35: (*pommel/mend.plan).costs$1 -/
noncomputable def c35z24 : ICode := .ops none [⟨(some 59), .p (.pick (.tmp 55) (.const (.bool true)) (.tmp 58))⟩]
noncomputable def c35z22 : ICode := .seq (.ops (some (55, false)) [⟨(some 56), .p (.mv (.tmp 12))⟩,
    ⟨(some 57), .p (.mv (.tmp 8))⟩,
    ⟨(some 58), .p (.bin .lss (.tmp 56) (.tmp 57))⟩])
 (.cut [0, 1, 2, 3, 8, 9, 12, 27, 28, 29, 55, 58] c35z24)
noncomputable def c35z20 : ICode := .cond (.tmp 59) (.ops none [⟨(some 60), .p (.mv (.tmp 12))⟩,
    ⟨(some 8), .p (.mv (.tmp 60))⟩])
 (.skip)
noncomputable def c35z25 : ICode := .ops none [⟨(some 61), .p (.bin .add (.tmp 29) (.const (.int .i64 (1))))⟩,
   ⟨(some 29), .p (.mv (.tmp 61))⟩]
noncomputable def c35z14 : ICode := .cut [0, 1, 2, 3, 8, 9, 27, 28, 29] c35z25
noncomputable def c35z11 : ICode := .seq (.ops none [⟨(some 30), .p (.bin .lss (.tmp 29) (.tmp 28))⟩])
 (.seq (.cond (.tmp 30) (.skip)
  (.exit 0))
 (.seq (.block 1 (.seq (.ops none [⟨(some 31), .p (.mv (.tmp 29))⟩,
      ⟨(some 32), .p (.adrSl 2 (.tmp 27) (.tmp 29))⟩,
      ⟨(some 33), .l (.load true 2 (.tmp 32))⟩,
      ⟨(some 11), .e (.alloc 35 [(.int .i64 (0)), (.int .i64 (0))])⟩,
      ⟨(some 10), .p (.mv (.tmp 31))⟩,
      ⟨none, .e (.store 2 (.tmp 11) (.tmp 33))⟩])
   (.seq (.seq (.ops none [⟨(some 34), .l (.load false 1 (.tmp 2))⟩,
       ⟨(some 35), .p (.mv (.tmp 0))⟩,
       ⟨(some 36), .p (.mv (.tmp 10))⟩,
       ⟨(some 37), .call 26 [(.tmp 34), (.tmp 35), (.tmp 36)]⟩,
       ⟨(some 38), .p (.un .not (.tmp 37))⟩])
    (.cond (.tmp 38) (.exit 1)
    (.skip)))
   (.seq (.dops [(none, [⟨(some 39), .p (.fadr 1 (.tmp 11)), 0⟩,
      ⟨(some 40), .l (.load false 1 (.tmp 39)), 1⟩,
      ⟨(some 41), .p (.mv (.tmp 9)), 0⟩,
      ⟨(some 42), .p (.fadr 0 (.tmp 11)), 0⟩,
      ⟨(some 43), .l (.load false 1 (.tmp 42)), 8⟩,
      ⟨(some 44), .p (.bin .add (.tmp 41) (.tmp 43)), 28⟩,
      ⟨(some 45), .p (.bin .mul (.tmp 40) (.tmp 44)), 63⟩,
      ⟨(some 46), .l (.load false 1 (.tmp 3)), 0⟩,
      ⟨(some 47), .p (.mv (.tmp 0)), 0⟩,
      ⟨(some 48), .p (.mv (.tmp 10)), 0⟩,
      ⟨(some 49), .p (.bin .shl (.const (.int .u16 (1))) (.tmp 48)), 512⟩,
      ⟨(some 50), .p (.bin .or (.tmp 47) (.tmp 49)), 1792⟩,
      ⟨(some 51), .callv (.tmp 46) [(.tmp 50)], 3968⟩,
      ⟨(some 52), .p (.bin .add (.tmp 45) (.tmp 51)), 8191⟩,
      ⟨(some 12), .p (.mv (.tmp 52)), 16383⟩])])
   (.seq (.seq (.ops none [⟨(some 53), .p (.mv (.tmp 8))⟩,
       ⟨(some 54), .p (.bin .lss (.tmp 53) (.const (.int .i64 (0))))⟩,
       ⟨(some 55), .p (.mv (.tmp 54))⟩])
    (.cut [0, 1, 2, 3, 8, 9, 12, 27, 28, 29, 55] c35z22)) c35z20))))) c35z14))
noncomputable def c35z26 : ICode := .seq (.ops none [⟨(some 62), .l (.load false 1 (.tmp 1))⟩,
    ⟨(some 63), .p (.mv (.tmp 0))⟩,
    ⟨(some 64), .p (.mv (.tmp 8))⟩,
    ⟨none, .e (.mupdI .u16 (.tmp 62) (.tmp 63) (.tmp 64))⟩])
 (.seq (.ops none [⟨(some 65), .p (.mv (.tmp 8))⟩,
    ⟨(some 5), .p (.mv (.tmp 65))⟩])
 (.ret))
noncomputable def c35z8 : ICode := .cut [0, 1, 8] c35z26
noncomputable def c35 : ICode := .seq (.ops none [⟨(some 5), .p (.mv (.const (.int .i64 (0))))⟩])
 (.seq (.seq (.ops none [⟨(some 14), .l (.load false 1 (.tmp 1))⟩,
     ⟨(some 15), .p (.mv (.tmp 0))⟩,
     ⟨(some 16), .l (.lookupI .u16 true (.int .i64 (0)) (.tmp 14) (.tmp 15))⟩,
     ⟨(some 13), .p (.mv (.tmp 16))⟩,
     ⟨(some 17), .p (.ext (.tmp 13) 0)⟩,
     ⟨(some 18), .p (.ext (.tmp 13) 1)⟩,
     ⟨(some 6), .p (.mv (.tmp 17))⟩,
     ⟨(some 7), .p (.mv (.tmp 18))⟩])
  (.seq (.ops none [⟨(some 19), .p (.mv (.tmp 7))⟩])
  (.cond (.tmp 19) (.seq (.ops none [⟨(some 20), .p (.mv (.tmp 6))⟩,
      ⟨(some 5), .p (.mv (.tmp 20))⟩])
   (.ret))
  (.skip))))
 (.seq (.ops none [⟨(some 8), .p (.mv (.const (.int .i64 (-1))))⟩])
 (.seq (.ops none [⟨(some 21), .l (.load false 1 (.tmp 2))⟩,
    ⟨(some 22), .p (.mv (.tmp 0))⟩,
    ⟨(some 23), .call 25 [(.tmp 21), (.tmp 22)]⟩,
    ⟨(some 9), .p (.mv (.tmp 23))⟩])
 (.seq (.seq (.ops none [⟨(some 24), .l (.load false 1 (.tmp 2))⟩,
     ⟨(some 25), .p (.nilck (.tmp 24))⟩,
     ⟨(some 26), .p (.fadr 0 (.tmp 25))⟩,
     ⟨(some 27), .l (.load false 1 (.tmp 26))⟩,
     ⟨(some 28), .p (.lenSl (.tmp 27))⟩,
     ⟨(some 29), .p (.mv (.const (.int .i64 (0))))⟩])
  (.block 0 (.loop [0, 1, 2, 3, 9, 27, 28] [8, 29] c35z11))) c35z8))))
theorem k35 : compFn Try.prog 35 [[], [], [], [], [], [], [], [], [0, 1, 2, 3, 9, 27, 28], [8, 29], [], [], [], [], [], [], [0, 1, 2, 3, 8, 9, 12, 27, 28, 29, 55], [0, 1, 2, 3, 8, 9, 12, 27, 28, 29, 55, 58], [], [0, 1, 2, 3, 8, 9, 27, 28, 29], [0, 1, 8], [], []] = some (66, c35, [.tmp 5]) := by kernel_rfl
def K35z0 (_P : Program) (K : Value → Heap → Prop) : Exit → (Nat → Value) → Heap → Prop := bodyP [.tmp 5] K
def K35z8 (P : Program) (K : Value → Heap → Prop) : Exit → (Nat → Value) → Heap → Prop := thenK (iwpP P c35z8 (K35z0 P K)) (K35z0 P K)
def K35z10 (P : Program) (K : Value → Heap → Prop) : Exit → (Nat → Value) → Heap → Prop := inBlockK 0 (K35z8 P K)
def K35z11 (P : Program) (K : Value → Heap → Prop) (done0 x1 x2 x3 now9 x27 x28 : Value) (L1 : List Value → Heap → Prop) : Exit → (Nat → Value) → Heap → Prop := thenK (fun f' h'' => (([0, 1, 2, 3, 9, 27, 28] : List Nat).map f' : List Value) = [done0, x1, x2, x3, now9, x27, x28] ∧ L1 (([8, 29] : List Nat).map f') h'') (K35z10 P K)
def K35z14 (P : Program) (K : Value → Heap → Prop) (done0 x1 x2 x3 now9 x27 x28 : Value) (L1 : List Value → Heap → Prop) : Exit → (Nat → Value) → Heap → Prop := thenK (iwpP P c35z14 (K35z11 P K done0 x1 x2 x3 now9 x27 x28 L1)) (K35z11 P K done0 x1 x2 x3 now9 x27 x28 L1)
def K35z15 (P : Program) (K : Value → Heap → Prop) (done0 x1 x2 x3 now9 x27 x28 : Value) (L1 : List Value → Heap → Prop) : Exit → (Nat → Value) → Heap → Prop := inBlockK 1 (K35z14 P K done0 x1 x2 x3 now9 x27 x28 L1)
def K35z20 (P : Program) (K : Value → Heap → Prop) (done0 x1 x2 x3 now9 x27 x28 : Value) (L1 : List Value → Heap → Prop) : Exit → (Nat → Value) → Heap → Prop := thenK (iwpP P c35z20 (K35z15 P K done0 x1 x2 x3 now9 x27 x28 L1)) (K35z15 P K done0 x1 x2 x3 now9 x27 x28 L1)
def p35z11 (P : Program) (K : Value → Heap → Prop) (done0 x1 x2 x3 now9 x27 x28 : Value) (L1 : List Value → Heap → Prop) (xs : List Value) (h : Heap) : Prop := CutP (iwpP P c35z11 (K35z11 P K done0 x1 x2 x3 now9 x27 x28 L1)) ([0, 1, 2, 3, 9, 27, 28] ++ [8, 29]) ([done0, x1, x2, x3, now9, x27, x28] ++ xs) h
def p35z22 (P : Program) (K : Value → Heap → Prop) (done0 x1 x2 x3 best8 now9 c12 x27 x28 x29 x55 : Value) (L1 : List Value → Heap → Prop) (h : Heap) : Prop := CutP (iwpP P c35z22 (K35z20 P K done0 x1 x2 x3 now9 x27 x28 L1)) [0, 1, 2, 3, 8, 9, 12, 27, 28, 29, 55] [done0, x1, x2, x3, best8, now9, c12, x27, x28, x29, x55] h
def p35z24 (P : Program) (K : Value → Heap → Prop) (done0 x1 x2 x3 best8 now9 c12 x27 x28 x29 x55 x58 : Value) (L1 : List Value → Heap → Prop) (h : Heap) : Prop := CutP (iwpP P c35z24 (K35z20 P K done0 x1 x2 x3 now9 x27 x28 L1)) [0, 1, 2, 3, 8, 9, 12, 27, 28, 29, 55, 58] [done0, x1, x2, x3, best8, now9, c12, x27, x28, x29, x55, x58] h
def p35z25 (P : Program) (K : Value → Heap → Prop) (done0 x1 x2 x3 best8 now9 x27 x28 x29 : Value) (L1 : List Value → Heap → Prop) (h : Heap) : Prop := CutP (iwpP P c35z25 (K35z11 P K done0 x1 x2 x3 now9 x27 x28 L1)) [0, 1, 2, 3, 8, 9, 27, 28, 29] [done0, x1, x2, x3, best8, now9, x27, x28, x29] h
def p35z26 (P : Program) (K : Value → Heap → Prop) (done0 x1 best8 : Value) (h : Heap) : Prop := CutP (iwpP P c35z26 (K35z0 P K)) [0, 1, 8] [done0, x1, best8] h
theorem q35z24 (P : Program) (K : Value → Heap → Prop) (done0 x1 x2 x3 best8 now9 c12 x27 x28 x29 x55 x58 : Value) (L1 : List Value → Heap → Prop) (h : Heap) : p35z24 P K done0 x1 x2 x3 best8 now9 c12 x27 x28 x29 x55 x58 L1 h =
  (OP (iPick x55 (.bool true) x58) fun x59 =>
  IfP x59
    (p35z25 P K done0 x1 x2 x3 c12 now9 x27 x28 x29 L1 h)
    (p35z25 P K done0 x1 x2 x3 best8 now9 x27 x28 x29 L1 h)) := (CutP_def _ _ _ _).trans (by kernel_rfl)
theorem q35z22 (P : Program) (K : Value → Heap → Prop) (done0 x1 x2 x3 best8 now9 c12 x27 x28 x29 x55 : Value) (L1 : List Value → Heap → Prop) (h : Heap) : p35z22 P K done0 x1 x2 x3 best8 now9 c12 x27 x28 x29 x55 L1 h =
  (GdP x55 false
    (OP (iBin .lss c12 best8) fun x58 =>
    p35z24 P K done0 x1 x2 x3 best8 now9 c12 x27 x28 x29 x55 x58 L1 h)
    (p35z24 P K done0 x1 x2 x3 best8 now9 c12 x27 x28 x29 x55 undef L1 h)) := (CutP_def _ _ _ _).trans (by kernel_rfl)
theorem q35z25 (P : Program) (K : Value → Heap → Prop) (done0 x1 x2 x3 best8 now9 x27 x28 x29 : Value) (L1 : List Value → Heap → Prop) (h : Heap) : p35z25 P K done0 x1 x2 x3 best8 now9 x27 x28 x29 L1 h =
  (OP (iBin .add x29 (.int .i64 (1))) fun x61 =>
  ([done0, x1, x2, x3, now9, x27, x28] : List Value) = [done0, x1, x2, x3, now9, x27, x28] ∧ L1 [best8, x61] h) := (CutP_def _ _ _ _).trans (by kernel_rfl)
theorem q35z11 (P : Program) (K : Value → Heap → Prop) (done0 x1 x2 x3 now9 x27 x28 : Value) (L1 : List Value → Heap → Prop) (best8 x29 : Value) (h : Heap) : p35z11 P K done0 x1 x2 x3 now9 x27 x28 L1 [best8, x29] h =
  (OP (iBin .lss x29 x28) fun x30 =>
  IfP x30
    (OP (iAdrSl 2 x27 x29) fun x32 =>
    OP (iLoad true 2 h x32) fun x33 =>
    OH (iAlloc 35 [(.int .i64 (0)), (.int .i64 (0))] h) fun j11 h_1 =>
    OH (oStore 2 h_1 j11 x33) fun _ h_2 =>
    OP (iLoad false 1 h_2 x2) fun x34 =>
    CallP P 26 [x34, done0, x29] h_2 fun x37 h_3 =>
    OP (iUn .not x37) fun x38 =>
    IfP x38
      (p35z25 P K done0 x1 x2 x3 best8 now9 x27 x28 x29 L1 h_3)
      (OP (iFadr 1 j11) fun x39 =>
      OP (iLoad false 1 h_3 x39) fun x40 =>
      (True) ∧
      OP (iFadr 0 j11) fun x42 =>
      OP (iLoad false 1 h_3 x42) fun x43 =>
      (True) ∧
      OP (iBin .add now9 x43) fun x44 =>
      OP (iBin .mul x40 x44) fun x45 =>
      OP (iLoad false 1 h_3 x3) fun x46 =>
      (True) ∧
      OP (iBin .shl (.int .u16 (1)) x29) fun x49 =>
      OP (iBin .or done0 x49) fun x50 =>
      CallVP P x46 [x50] h_3 fun x51 h_4 =>
      (iLoad false 1 h_4 x39 = some x40 ∧ iLoad false 1 h_4 x42 = some x43 ∧ True) ∧
      OP (iBin .add x45 x51) fun x52 =>
      OP (iBin .lss best8 (.int .i64 (0))) fun x54 =>
      p35z22 P K done0 x1 x2 x3 best8 now9 x52 x27 x28 x29 x54 L1 h_4))
    (p35z26 P K done0 x1 best8 h)) := (CutP_def _ _ _ _).trans (by kernel_rfl)
theorem q35z26 (P : Program) (K : Value → Heap → Prop) (done0 x1 best8 : Value) (h : Heap) : p35z26 P K done0 x1 best8 h =
  (OP (iLoad false 1 h x1) fun x62 =>
  OH (oMupdI .u16 h x62 done0 best8) fun _ h_1 =>
  K best8 h_1) := (CutP_def _ _ _ _).trans (by kernel_rfl)
def T35 (P : Program) (K : Value → Heap → Prop) (done0 x1 x2 x3 : Value) (h : Heap) : Prop :=
  OP (iLoad false 1 h x1) fun x14 =>
  OP (iLookupI .u16 true (.int .i64 (0)) h x14 done0) fun x16 =>
  OP (iExt 0 x16) fun x17 =>
  OP (iExt 1 x16) fun x18 =>
  IfP x18
    (K x17 h)
    (OP (iLoad false 1 h x2) fun x21 =>
    CallP P 25 [x21, done0] h fun x23 h_1 =>
    OP (iLoad false 1 h_1 x2) fun x24 =>
    OP (iNilck x24) fun x25 =>
    OP (iFadr 0 x25) fun x26 =>
    OP (iLoad false 1 h_1 x26) fun x27 =>
    OP (iLenSl x27) fun x28 =>
    LoopP [(.int .i64 (-1)), (.int .i64 (0))] h_1 fun L1 xs hx =>
    p35z11 P K done0 x1 x2 x3 x23 x27 x28 L1 xs hx)
theorem e35 (P : Program) (K : Value → Heap → Prop) (done0 x1 x2 x3 : Value) (h : Heap) : iwpP P c35 (bodyP [.tmp 5] K) (frame0 [done0, x1, x2, x3]) h = T35 P K done0 x1 x2 x3 h := by kernel_rfl
theorem f35 {K : Value → Heap → Prop} {done0 x1 x2 x3 : Value} {h : Heap} (H : T35 Try.prog K done0 x1 x2 x3 h) : CallP Try.prog 35 [done0, x1, x2, x3] h K :=
  callP_intro k35 (Nat.le_of_ble_eq_true rfl) ((e35 Try.prog K done0 x1 x2 x3 h).mpr H)
/-! F36: (pommel/mend.set).list -/
noncomputable def c36z13 : ICode := .ops none [⟨(some 15), .p (.bin .add (.tmp 5) (.const (.int .i64 (1))))⟩,
   ⟨(some 5), .p (.mv (.tmp 15))⟩]
noncomputable def c36z6 : ICode := .seq (.ops none [⟨(some 6), .p (.bin .lss (.tmp 5) (.const (.int .i64 (10))))⟩])
 (.seq (.cond (.tmp 6) (.skip)
  (.exit 0))
 (.seq (.block 1 (.seq (.ops none [⟨(some 7), .p (.mv (.tmp 5))⟩,
      ⟨(some 4), .p (.mv (.tmp 7))⟩])
   (.seq (.ops none [⟨(some 8), .p (.mv (.tmp 0))⟩,
      ⟨(some 9), .p (.mv (.tmp 4))⟩,
      ⟨(some 10), .call 37 [(.tmp 8), (.tmp 9)]⟩])
   (.cond (.tmp 10) (.ops none [⟨(some 11), .p (.mv (.tmp 3))⟩,
      ⟨(some 12), .p (.mv (.tmp 4))⟩,
      ⟨(some 13), .e (.mkSl 3 1 [(.int .i64 (0))] [(0, 1, (.tmp 12))])⟩,
      ⟨(some 14), .e (.app 3 1 8 (.tmp 11) (.tmp 13))⟩,
      ⟨(some 3), .p (.mv (.tmp 14))⟩])
   (.skip)))))
 (.cut [0, 3, 5] c36z13)))
noncomputable def c36z14 : ICode := .seq (.ops none [⟨(some 16), .p (.mv (.tmp 3))⟩,
    ⟨(some 2), .p (.mv (.tmp 16))⟩])
 (.ret)
noncomputable def c36z3 : ICode := .cut [3] c36z14
noncomputable def c36 : ICode := .seq (.ops none [⟨(some 2), .p (.mv (.const (.slice none 0 0)))⟩])
 (.seq (.ops none [⟨(some 3), .p (.mv (.const (.slice none 0 0)))⟩])
 (.seq (.seq (.ops none [⟨(some 5), .p (.mv (.const (.int .i64 (0))))⟩])
  (.block 0 (.loop [0] [3, 5] c36z6))) c36z3))
theorem k36 : compFn Try.prog 36 [[], [], [], [0], [3, 5], [], [], [], [], [0, 3, 5], [3], []] = some (17, c36, [.tmp 2]) := by kernel_rfl
def K36z0 (_P : Program) (K : Value → Heap → Prop) : Exit → (Nat → Value) → Heap → Prop := bodyP [.tmp 2] K
def K36z3 (P : Program) (K : Value → Heap → Prop) : Exit → (Nat → Value) → Heap → Prop := thenK (iwpP P c36z3 (K36z0 P K)) (K36z0 P K)
def K36z5 (P : Program) (K : Value → Heap → Prop) : Exit → (Nat → Value) → Heap → Prop := inBlockK 0 (K36z3 P K)
def K36z6 (P : Program) (K : Value → Heap → Prop) (s0 : Value) (L1 : List Value → Heap → Prop) : Exit → (Nat → Value) → Heap → Prop := thenK (fun f' h'' => (([0] : List Nat).map f' : List Value) = [s0] ∧ L1 (([3, 5] : List Nat).map f') h'') (K36z5 P K)
def p36z6 (P : Program) (K : Value → Heap → Prop) (s0 : Value) (L1 : List Value → Heap → Prop) (xs : List Value) (h : Heap) : Prop := CutP (iwpP P c36z6 (K36z6 P K s0 L1)) ([0] ++ [3, 5]) ([s0] ++ xs) h
def p36z13 (P : Program) (K : Value → Heap → Prop) (s0 out3 x5 : Value) (L1 : List Value → Heap → Prop) (h : Heap) : Prop := CutP (iwpP P c36z13 (K36z6 P K s0 L1)) [0, 3, 5] [s0, out3, x5] h
def p36z14 (P : Program) (K : Value → Heap → Prop) (out3 : Value) (h : Heap) : Prop := CutP (iwpP P c36z14 (K36z0 P K)) [3] [out3] h
theorem q36z13 (P : Program) (K : Value → Heap → Prop) (s0 out3 x5 : Value) (L1 : List Value → Heap → Prop) (h : Heap) : p36z13 P K s0 out3 x5 L1 h =
  (OP (iBin .add x5 (.int .i64 (1))) fun x15 =>
  ([s0] : List Value) = [s0] ∧ L1 [out3, x15] h) := (CutP_def _ _ _ _).trans (by kernel_rfl)
theorem q36z6 (P : Program) (K : Value → Heap → Prop) (s0 : Value) (L1 : List Value → Heap → Prop) (out3 x5 : Value) (h : Heap) : p36z6 P K s0 L1 [out3, x5] h =
  (OP (iBin .lss x5 (.int .i64 (10))) fun x6 =>
  IfP x6
    (CallP P 37 [s0, x5] h fun x10 h_1 =>
    IfP x10
      (OH (iMkSl 3 1 [(.int .i64 (0))] h_1 [(0, 1, x5)]) fun x13 h_2 =>
      OH (iApp 3 1 8 h_2 out3 x13) fun x14 h_3 =>
      p36z13 P K s0 x14 x5 L1 h_3)
      (p36z13 P K s0 out3 x5 L1 h_1))
    (p36z14 P K out3 h)) := (CutP_def _ _ _ _).trans (by kernel_rfl)
theorem q36z14 (P : Program) (K : Value → Heap → Prop) (out3 : Value) (h : Heap) : p36z14 P K out3 h =
  (K out3 h) := (CutP_def _ _ _ _).trans (by kernel_rfl)
def T36 (P : Program) (K : Value → Heap → Prop) (s0 : Value) (h : Heap) : Prop :=
  LoopP [(.slice none 0 0), (.int .i64 (0))] h fun L1 xs hx =>
  p36z6 P K s0 L1 xs hx
theorem e36 (P : Program) (K : Value → Heap → Prop) (s0 : Value) (h : Heap) : iwpP P c36 (bodyP [.tmp 2] K) (frame0 [s0]) h = T36 P K s0 h := by kernel_rfl
theorem f36 {K : Value → Heap → Prop} {s0 : Value} {h : Heap} (H : T36 Try.prog K s0 h) : CallP Try.prog 36 [s0] h K :=
  callP_intro k36 (Nat.le_of_ble_eq_true rfl) ((e36 Try.prog K s0 h).mpr H)
/-! F37: (pommel/mend.set).has -/
noncomputable def c37 : ICode := .seq (.ops none [⟨(some 4), .p (.mv (.const (.bool false)))⟩])
 (.seq (.ops none [⟨(some 5), .p (.mv (.tmp 0))⟩,
    ⟨(some 6), .p (.mv (.tmp 1))⟩,
    ⟨(some 7), .p (.bin .shr (.tmp 5) (.tmp 6))⟩,
    ⟨(some 8), .p (.bin .and (.tmp 7) (.const (.int .u16 (1))))⟩,
    ⟨(some 9), .p (.bin .eql (.tmp 8) (.const (.int .u16 (1))))⟩,
    ⟨(some 4), .p (.mv (.tmp 9))⟩])
 (.ret))
theorem k37 : compFn Try.prog 37 [[], []] = some (10, c37, [.tmp 4]) := by kernel_rfl
def K37z0 (_P : Program) (K : Value → Heap → Prop) : Exit → (Nat → Value) → Heap → Prop := bodyP [.tmp 4] K
def T37 (P : Program) (K : Value → Heap → Prop) (s0 i1 : Value) (h : Heap) : Prop :=
  OP (iBin .shr s0 i1) fun x7 =>
  OP (iBin .and x7 (.int .u16 (1))) fun x8 =>
  OP (iBin .eql x8 (.int .u16 (1))) fun x9 =>
  K x9 h
theorem e37 (P : Program) (K : Value → Heap → Prop) (s0 i1 : Value) (h : Heap) : iwpP P c37 (bodyP [.tmp 4] K) (frame0 [s0, i1]) h = T37 P K s0 i1 h := by kernel_rfl
theorem f37 {K : Value → Heap → Prop} {s0 i1 : Value} {h : Heap} (H : T37 Try.prog K s0 i1 h) : CallP Try.prog 37 [s0, i1] h K :=
  callP_intro k37 (Nat.le_of_ble_eq_true rfl) ((e37 Try.prog K s0 i1 h).mpr H)
/-! F45: (*pommel/mend.plan).weight -/
noncomputable def c45z6 : ICode := .seq (.ops none [⟨(some 12), .p (.bin .lss (.tmp 11) (.tmp 10))⟩])
 (.seq (.cond (.tmp 12) (.skip)
  (.exit 0))
 (.seq (.block 1 (.seq (.ops none [⟨(some 13), .p (.adrSl 1 (.tmp 9) (.tmp 11))⟩,
      ⟨(some 14), .l (.load false 1 (.tmp 13))⟩,
      ⟨(some 7), .p (.mv (.tmp 14))⟩])
   (.ops none [⟨(some 15), .p (.mv (.tmp 5))⟩,
     ⟨(some 16), .p (.mv (.tmp 0))⟩,
     ⟨(some 17), .p (.nilck (.tmp 16))⟩,
     ⟨(some 18), .p (.fadr 0 (.tmp 17))⟩,
     ⟨(some 19), .l (.load false 1 (.tmp 18))⟩,
     ⟨(some 20), .p (.mv (.tmp 7))⟩,
     ⟨(some 21), .p (.adrSl 2 (.tmp 19) (.tmp 20))⟩,
     ⟨(some 22), .p (.fadr 1 (.tmp 21))⟩,
     ⟨(some 23), .l (.load false 1 (.tmp 22))⟩,
     ⟨(some 24), .p (.bin .add (.tmp 15) (.tmp 23))⟩,
     ⟨(some 5), .p (.mv (.tmp 24))⟩])))
 (.ops none [⟨(some 25), .p (.bin .add (.tmp 11) (.const (.int .i64 (1))))⟩,
   ⟨(some 11), .p (.mv (.tmp 25))⟩])))
noncomputable def c45z12 : ICode := .seq (.ops none [⟨(some 26), .p (.mv (.tmp 5))⟩,
    ⟨(some 4), .p (.mv (.tmp 26))⟩])
 (.ret)
noncomputable def c45z3 : ICode := .cut [5] c45z12
noncomputable def c45 : ICode := .seq (.ops none [⟨(some 4), .p (.mv (.const (.int .i64 (0))))⟩])
 (.seq (.ops none [⟨(some 5), .p (.mv (.const (.int .i64 (0))))⟩])
 (.seq (.seq (.ops none [⟨(some 8), .p (.mv (.tmp 1))⟩,
     ⟨(some 9), .call 36 [(.tmp 8)]⟩,
     ⟨(some 10), .p (.lenSl (.tmp 9))⟩,
     ⟨(some 11), .p (.mv (.const (.int .i64 (0))))⟩])
  (.block 0 (.loop [0, 9, 10] [5, 11] c45z6))) c45z3))
theorem k45 : compFn Try.prog 45 [[], [], [], [0, 9, 10], [5, 11], [], [], [], [], [5], []] = some (27, c45, [.tmp 4]) := by kernel_rfl
def K45z0 (_P : Program) (K : Value → Heap → Prop) : Exit → (Nat → Value) → Heap → Prop := bodyP [.tmp 4] K
def K45z3 (P : Program) (K : Value → Heap → Prop) : Exit → (Nat → Value) → Heap → Prop := thenK (iwpP P c45z3 (K45z0 P K)) (K45z0 P K)
def K45z5 (P : Program) (K : Value → Heap → Prop) : Exit → (Nat → Value) → Heap → Prop := inBlockK 0 (K45z3 P K)
def K45z6 (P : Program) (K : Value → Heap → Prop) (p0 x9 x10 : Value) (L1 : List Value → Heap → Prop) : Exit → (Nat → Value) → Heap → Prop := thenK (fun f' h'' => (([0, 9, 10] : List Nat).map f' : List Value) = [p0, x9, x10] ∧ L1 (([5, 11] : List Nat).map f') h'') (K45z5 P K)
def p45z6 (P : Program) (K : Value → Heap → Prop) (p0 x9 x10 : Value) (L1 : List Value → Heap → Prop) (xs : List Value) (h : Heap) : Prop := CutP (iwpP P c45z6 (K45z6 P K p0 x9 x10 L1)) ([0, 9, 10] ++ [5, 11]) ([p0, x9, x10] ++ xs) h
def p45z12 (P : Program) (K : Value → Heap → Prop) (sum5 : Value) (h : Heap) : Prop := CutP (iwpP P c45z12 (K45z0 P K)) [5] [sum5] h
theorem q45z6 (P : Program) (K : Value → Heap → Prop) (p0 x9 x10 : Value) (L1 : List Value → Heap → Prop) (sum5 x11 : Value) (h : Heap) : p45z6 P K p0 x9 x10 L1 [sum5, x11] h =
  (OP (iBin .lss x11 x10) fun x12 =>
  IfP x12
    (OP (iAdrSl 1 x9 x11) fun x13 =>
    OP (iLoad false 1 h x13) fun x14 =>
    OP (iNilck p0) fun x17 =>
    OP (iFadr 0 x17) fun x18 =>
    OP (iLoad false 1 h x18) fun x19 =>
    OP (iAdrSl 2 x19 x14) fun x21 =>
    OP (iFadr 1 x21) fun x22 =>
    OP (iLoad false 1 h x22) fun x23 =>
    OP (iBin .add sum5 x23) fun x24 =>
    OP (iBin .add x11 (.int .i64 (1))) fun x25 =>
    ([p0, x9, x10] : List Value) = [p0, x9, x10] ∧ L1 [x24, x25] h)
    (p45z12 P K sum5 h)) := (CutP_def _ _ _ _).trans (by kernel_rfl)
theorem q45z12 (P : Program) (K : Value → Heap → Prop) (sum5 : Value) (h : Heap) : p45z12 P K sum5 h =
  (K sum5 h) := (CutP_def _ _ _ _).trans (by kernel_rfl)
def T45 (P : Program) (K : Value → Heap → Prop) (p0 s1 : Value) (h : Heap) : Prop :=
  CallP P 36 [s1] h fun x9 h_1 =>
  OP (iLenSl x9) fun x10 =>
  LoopP [(.int .i64 (0)), (.int .i64 (0))] h_1 fun L1 xs hx =>
  p45z6 P K p0 x9 x10 L1 xs hx
theorem e45 (P : Program) (K : Value → Heap → Prop) (p0 s1 : Value) (h : Heap) : iwpP P c45 (bodyP [.tmp 4] K) (frame0 [p0, s1]) h = T45 P K p0 s1 h := by kernel_rfl
theorem f45 {K : Value → Heap → Prop} {p0 s1 : Value} {h : Heap} (H : T45 Try.prog K p0 s1 h) : CallP Try.prog 45 [p0, s1] h K :=
  callP_intro k45 (Nat.le_of_ble_eq_true rfl) ((e45 Try.prog K p0 s1 h).mpr H)
end Go.Proofs.Ytelmdbpaoifmoaa
