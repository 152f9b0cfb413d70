/-
  Ideal code of the functions that the proof reaches, written by program; the kernel holds it against the code.
-/
import Derived.Test.YtjdlcokhlphmhaaProg
import Derived.Test.YtjdlcokhlphmhaaSim20
import Derived.KernelRfl
namespace Go.Proofs.Ytjdlcokhlphmhaa
open Go.Sim
/-! F41: pommel/stitch.Least -/
def c41 : ICode := .seq (.ops none [⟨(some 6), .p (.mv (.const (.string ⟨#[]⟩)))⟩,
    ⟨(some 7), .p (.mv (.const (.int .i64 (0))))⟩])
 (.seq (.ops none [⟨(some 11), .p (.mv (.tmp 0))⟩,
    ⟨(some 12), .p (.mv (.tmp 1))⟩,
    ⟨(some 13), .p (.mv (.tmp 2))⟩,
    ⟨(some 14), .e (.mkSl 9 1 [(.string ⟨#[]⟩)] [(0, 1, (.tmp 13))])⟩,
    ⟨(some 15), .call 56 [(.tmp 11), (.tmp 12), (.const (.int .i64 (40))), (.tmp 14)]⟩,
    ⟨(some 10), .p (.mv (.tmp 15))⟩,
    ⟨(some 16), .p (.ext (.tmp 10) 0)⟩,
    ⟨(some 17), .p (.ext (.tmp 10) 1)⟩,
    ⟨(some 8), .p (.mv (.tmp 16))⟩,
    ⟨(some 9), .p (.mv (.tmp 17))⟩])
 (.seq (.seq (.ops none [⟨(some 18), .p (.mv (.tmp 9))⟩,
     ⟨(some 19), .p (.bin .neq (.tmp 18) (.const (.int .i64 (0))))⟩])
  (.cond (.tmp 19) (.seq (.ops none [⟨(some 20), .p (.mv (.tmp 9))⟩,
      ⟨(some 6), .p (.mv (.const (.string ⟨#[]⟩)))⟩,
      ⟨(some 7), .p (.mv (.tmp 20))⟩])
   (.ret))
  (.skip)))
 (.seq (.ops none [⟨(some 21), .p (.mv (.tmp 8))⟩,
    ⟨(some 22), .p (.mv (.tmp 2))⟩,
    ⟨(some 23), .call 57 [(.tmp 21), (.tmp 22)]⟩,
    ⟨(some 6), .p (.mv (.tmp 23))⟩,
    ⟨(some 7), .p (.mv (.const (.int .i64 (0))))⟩])
 (.ret))))
theorem k41 : compFn Try.prog 41 [[], [], [], [], [], []] = some (24, c41, [.tmp 6, .tmp 7]) := by kernel_rfl
def K41z0 (_P : Program) (K : Value → Heap → Prop) : Exit → (Nat → Value) → Heap → Prop := bodyP [.tmp 6, .tmp 7] K
def T41 (P : Program) (K : Value → Heap → Prop) (k0 pairs1 s2 : Value) (h : Heap) : Prop :=
  OH (iMkSl 9 1 [(.string ⟨#[]⟩)] h [(0, 1, s2)]) fun x14 h_1 =>
  CallP P 56 [k0, pairs1, (.int .i64 (40)), x14] h_1 fun x15 h_2 =>
  OP (iExt 0 x15) fun x16 =>
  OP (iExt 1 x15) fun x17 =>
  OP (iBin .neq x17 (.int .i64 (0))) fun x19 =>
  IfP x19
    (K (.tuple #[(.string ⟨#[]⟩), x17]) h_2)
    (CallP P 57 [x16, s2] h_2 fun x23 h_3 =>
    K (.tuple #[x23, (.int .i64 (0))]) h_3)
theorem e41 (P : Program) (K : Value → Heap → Prop) (k0 pairs1 s2 : Value) (h : Heap) : iwpP P c41 (bodyP [.tmp 6, .tmp 7] K) (frame0 [k0, pairs1, s2]) h = T41 P K k0 pairs1 s2 h := by kernel_rfl
theorem f41 {K : Value → Heap → Prop} {k0 pairs1 s2 : Value} {h : Heap} (H : T41 Try.prog K k0 pairs1 s2 h) : CallP Try.prog 41 [k0, pairs1, s2] h K :=
  callP_intro k41 (Nat.le_of_ble_eq_true rfl) ((e41 Try.prog K k0 pairs1 s2 h).mpr H)
end Go.Proofs.Ytjdlcokhlphmhaa
