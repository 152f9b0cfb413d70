/-
  Ideal code of the functions that the proof reaches, written by program; the kernel holds it against the code.
-/
import Derived.Test.YtjdlcokhlphmhaaProg
import Derived.Test.YtjdlcokhlphmhaaSim20
import Derived.KernelRfl
namespace Go.Proofs.Ytjdlcokhlphmhaa
open Go.Sim
/-! F29: pommel/pommelref01.Int -/
def c29z12 : ICode := .seq (.ops none [⟨(some 16), .p (.fadr 1 (.tmp 3))⟩,
    ⟨(some 17), .l (.load false 1 (.tmp 16))⟩,
    ⟨(some 18), .p (.mv (.tmp 4))⟩,
    ⟨(some 19), .e (.mkSl 3 1 [(.int .i64 (0))] [(0, 1, (.tmp 18))])⟩,
    ⟨(some 20), .e (.app 3 1 8 (.tmp 17) (.tmp 19))⟩,
    ⟨(some 21), .p (.fadr 1 (.tmp 3))⟩,
    ⟨none, .e (.store 1 (.tmp 21) (.tmp 20))⟩])
 (.ops none [⟨(some 22), .p (.mv (.tmp 0))⟩,
   ⟨(some 23), .p (.bin .quo (.tmp 22) (.const (.int .i64 (10000))))⟩,
   ⟨(some 0), .p (.mv (.tmp 23))⟩])
def c29z5 : ICode := .seq (.seq (.ops none [⟨(some 8), .p (.mv (.tmp 0))⟩,
     ⟨(some 9), .p (.bin .neq (.tmp 8) (.const (.int .i64 (0))))⟩])
  (.cond (.tmp 9) (.skip)
  (.exit 0)))
 (.block 1 (.seq (.ops none [⟨(some 10), .p (.mv (.tmp 0))⟩,
     ⟨(some 11), .p (.bin .rem (.tmp 10) (.const (.int .i64 (10000))))⟩,
     ⟨(some 4), .p (.mv (.tmp 11))⟩])
  (.seq (.seq (.ops none [⟨(some 12), .p (.mv (.tmp 4))⟩,
      ⟨(some 13), .p (.bin .lss (.tmp 12) (.const (.int .i64 (0))))⟩])
   (.cond (.tmp 13) (.ops none [⟨(some 14), .p (.mv (.tmp 4))⟩,
      ⟨(some 15), .p (.un .neg (.tmp 14))⟩,
      ⟨(some 4), .p (.mv (.tmp 15))⟩])
   (.skip)))
  (.cut [0, 2, 3, 4] c29z12))))
def c29z14 : ICode := .seq (.ops none [⟨(some 24), .l (.load true 2 (.tmp 3))⟩,
    ⟨none, .e (.store 2 (.tmp 2) (.tmp 24))⟩])
 (.ret)
def c29z3 : ICode := .cut [2, 3] c29z14
def c29 : ICode := .seq (.ops none [⟨(some 2), .e (.alloc 46 [(.bool false), (.slice none 0 0)])⟩])
 (.seq (.ops none [⟨(some 5), .p (.mv (.tmp 0))⟩,
    ⟨(some 6), .p (.bin .lss (.tmp 5) (.const (.int .i64 (0))))⟩,
    ⟨(some 7), .p (.build [(.bool false), (.slice none 0 0)] [(0, 1, (.tmp 6))])⟩,
    ⟨(some 3), .e (.alloc 46 [(.bool false), (.slice none 0 0)])⟩,
    ⟨none, .e (.store 2 (.tmp 3) (.tmp 7))⟩])
 (.seq (.block 0 (.loop [2, 3] [0] c29z5)) c29z3))
theorem k29 : compFn Try.prog 29 [[], [], [2, 3], [0], [], [], [], [], [0, 2, 3, 4], [], [2, 3], []] = some (25, c29, [.cell true 2 2]) := by kernel_rfl
def K29z0 (_P : Program) (K : Value → Heap → Prop) : Exit → (Nat → Value) → Heap → Prop := bodyP [.cell true 2 2] K
def K29z3 (P : Program) (K : Value → Heap → Prop) : Exit → (Nat → Value) → Heap → Prop := thenK (iwpP P c29z3 (K29z0 P K)) (K29z0 P K)
def K29z4 (P : Program) (K : Value → Heap → Prop) : Exit → (Nat → Value) → Heap → Prop := inBlockK 0 (K29z3 P K)
def K29z5 (P : Program) (K : Value → Heap → Prop) (x2 z3 : Value) (L1 : List Value → Heap → Prop) : Exit → (Nat → Value) → Heap → Prop := thenK (fun f' h'' => (([2, 3] : List Nat).map f' : List Value) = [x2, z3] ∧ L1 (([0] : List Nat).map f') h'') (K29z4 P K)
def K29z8 (P : Program) (K : Value → Heap → Prop) (x2 z3 : Value) (L1 : List Value → Heap → Prop) : Exit → (Nat → Value) → Heap → Prop := inBlockK 1 (K29z5 P K x2 z3 L1)
def p29z5 (P : Program) (K : Value → Heap → Prop) (x2 z3 : Value) (L1 : List Value → Heap → Prop) (xs : List Value) (h : Heap) : Prop := CutP (iwpP P c29z5 (K29z5 P K x2 z3 L1)) ([2, 3] ++ [0]) ([x2, z3] ++ xs) h
def p29z12 (P : Program) (K : Value → Heap → Prop) (v0 x2 z3 d4 : Value) (L1 : List Value → Heap → Prop) (h : Heap) : Prop := CutP (iwpP P c29z12 (K29z8 P K x2 z3 L1)) [0, 2, 3, 4] [v0, x2, z3, d4] h
def p29z14 (P : Program) (K : Value → Heap → Prop) (x2 z3 : Value) (h : Heap) : Prop := CutP (iwpP P c29z14 (K29z0 P K)) [2, 3] [x2, z3] h
theorem q29z12 (P : Program) (K : Value → Heap → Prop) (v0 x2 z3 d4 : Value) (L1 : List Value → Heap → Prop) (h : Heap) : p29z12 P K v0 x2 z3 d4 L1 h =
  (OP (iFadr 1 z3) fun x16 =>
  OP (iLoad false 1 h x16) fun x17 =>
  OH (iMkSl 3 1 [(.int .i64 (0))] h [(0, 1, d4)]) fun x19 h_1 =>
  OH (iApp 3 1 8 h_1 x17 x19) fun x20 h_2 =>
  OP (iFadr 1 z3) fun x21 =>
  OH (oStore 1 h_2 x21 x20) fun _ h_3 =>
  OP (iBin .quo v0 (.int .i64 (10000))) fun x23 =>
  ([x2, z3] : List Value) = [x2, z3] ∧ L1 [x23] h_3) := (CutP_def _ _ _ _).trans (by kernel_rfl)
theorem q29z5 (P : Program) (K : Value → Heap → Prop) (x2 z3 : Value) (L1 : List Value → Heap → Prop) (v0 : Value) (h : Heap) : p29z5 P K x2 z3 L1 [v0] h =
  (OP (iBin .neq v0 (.int .i64 (0))) fun x9 =>
  IfP x9
    (OP (iBin .rem v0 (.int .i64 (10000))) fun x11 =>
    OP (iBin .lss x11 (.int .i64 (0))) fun x13 =>
    IfP x13
      (OP (iUn .neg x11) fun x15 =>
      p29z12 P K v0 x2 z3 x15 L1 h)
      (p29z12 P K v0 x2 z3 x11 L1 h))
    (p29z14 P K x2 z3 h)) := (CutP_def _ _ _ _).trans (by kernel_rfl)
theorem q29z14 (P : Program) (K : Value → Heap → Prop) (x2 z3 : Value) (h : Heap) : p29z14 P K x2 z3 h =
  (OP (iLoad true 2 h z3) fun x24 =>
  OH (oStore 2 h x2 x24) fun _ h_1 =>
  OP (iLoad true 2 h_1 x2) fun r0 =>
  K r0 h_1) := (CutP_def _ _ _ _).trans (by kernel_rfl)
def T29 (P : Program) (K : Value → Heap → Prop) (v0 : Value) (h : Heap) : Prop :=
  OH (iAlloc 46 [(.bool false), (.slice none 0 0)] h) fun x2 h_1 =>
  OP (iBin .lss v0 (.int .i64 (0))) fun x6 =>
  OP (iBuild [(.bool false), (.slice none 0 0)] [(0, 1, x6)]) fun x7 =>
  OH (iAlloc 46 [(.bool false), (.slice none 0 0)] h_1) fun z3 h_2 =>
  OH (oStore 2 h_2 z3 x7) fun _ h_3 =>
  LoopP [v0] h_3 fun L1 xs hx =>
  p29z5 P K x2 z3 L1 xs hx
theorem e29 (P : Program) (K : Value → Heap → Prop) (v0 : Value) (h : Heap) : iwpP P c29 (bodyP [.cell true 2 2] K) (frame0 [v0]) h = T29 P K v0 h := by kernel_rfl
theorem f29 {K : Value → Heap → Prop} {v0 : Value} {h : Heap} (H : T29 Try.prog K v0 h) : CallP Try.prog 29 [v0] h K :=
  callP_intro k29 (Nat.le_of_ble_eq_true rfl) ((e29 Try.prog K v0 h).mpr H)
end Go.Proofs.Ytjdlcokhlphmhaa
