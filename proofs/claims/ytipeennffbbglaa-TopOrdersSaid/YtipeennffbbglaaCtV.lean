/-
  Least, as a call answers.
-/
import Derived.Test.YtipeennffbbglaaMg2
namespace Go.Proofs.Ytipeennffbbglaa
open Go.Sim

def siV (s : List UInt8) (e : Int) : Value := .tuple #[S s, I e]

theorem freeP_self {n : Nat} {ps : List (Int × Int)} (ht : threadsOk n ps = true) {a : Nat} (ha : a < 6) : freeP ps (lt a) (lt a) = false := by
  unfold freeP
  rw [List.any_eq_false]
  intro p hp
  obtain ⟨_, _, _, _, h⟩ := threadsOk_good ht
  have := h p hp
  simp [hit, lt_toNat (show a < 100 by omega)]
  omega

theorem mkS1 (s : List UInt8) (h : Heap) : iMkSl 9 1 [.string ⟨#[]⟩] h [(0, 1, S s)] = some (sl 9 h.length 0 1, h ++ [.arr 9 [S s]]) := by
  simp [iMkSl, fillL, zrep, noTuple, vcells, Value.cells, setAt, S]

theorem why1 {n : Nat} {ps : List (Int × Int)} {s : List UInt8} (hn : n ≤ 6) (ht : threadsOk n ps = true) (ls : letters n s) (hs : s.length ≤ 40) : whyE n ps [s] 40 = 0 :=
  whyE_zero hn ht (by intro u hu; simp at hu; rcases hu with rfl; exact ⟨ls, hs⟩)

end Go.Proofs.Ytipeennffbbglaa
