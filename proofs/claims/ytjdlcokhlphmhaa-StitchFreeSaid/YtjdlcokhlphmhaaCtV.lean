/-
  Least, as a call answers.
-/
import Derived.Test.YtjdlcokhlphmhaaMg2
import Derived.Test.YtjdlcokhlphmhaaSh12
namespace Go.Proofs.Ytjdlcokhlphmhaa
open Go.Sim

def siV (s : List UInt8) (e : Int) : Value := .tuple #[S s, I e]

theorem freeP_self {n : Nat} {ps : List (Int × Int)} (ht : threadsOk n ps = true) {a : Nat} (ha : a < 6) : freeP ps (lt a) (lt a) = false := by
  unfold freeP
  rw [List.any_eq_false]
  intro p hp
  obtain ⟨_, _, _, _, h⟩ := threadsOk_good ht
  have := h p hp
  simp [hit, lt_toNat (show a < 100 by omega)]
  omega

theorem mkS1 (s : List UInt8) (h : Heap) : iMkSl 9 1 [.string ⟨#[]⟩] h [(0, 1, S s)] = some (sl 9 h.length 0 1, h ++ [.arr 9 [S s]]) := by
  simp [iMkSl, fillL, zrep, noTuple, vcells, Value.cells, setAt, S]

theorem C41 {ps : List (Int × Int)} {pv : Value} {s : List UInt8} {k : Int} {h : Heap} {K : Value → Heap → Prop} (hp : PS h pv ps) (hl : ps.length ≤ 100) (hs : s.length ≤ 1000)
    (hno : whyE k ps [s] 40 ≠ 0 → K (siV [] (whyE k ps [s] 40)) h) (hyes : whyE k ps [s] 40 = 0 → K (siV (Lst ps s) 0) h) : CallP Try.prog 41 [I k, pv, S s] h K := by
  refine callP_gcE ?_
  refine f41 ?_
  simp only [T41, mkS1, OH_some]
  have hx : EX h (h ++ [.arr 9 [S s]]) := EX.append _ _
  have hss : SS (h ++ [.arr 9 [S s]]) (sl 9 h.length 0 1) [s] := SS.sl (ls := [s]) (by simp [objCells])
  refine C56 (most := 40) (hp.mono hx) hl hss (by simp) (by simp; exact hs) (fun hw => ?_) (fun hw => ?_)
  · simp only [ext_tuple, pair0, pair1, OP_some, bin_neq, decide_eq_false hw, Bool.not_false, IfP_true]
    exact ⟨hx, Ren.si _ _, hno hw⟩
  · obtain ⟨ht, hse⟩ := whyE_ok hw
    have hy2 := hyes hw
    obtain ⟨n, rfl, hn1, hn6⟩ := threadsOk_k ht
    have hok := seamsE_ok hse
    have ls := letters_of (hok s (by simp)).2
    generalize hh1 : h ++ [.arr 9 [S s]] = h1 at *
    simp only [ext_tuple, pair0, pair1, OP_some, bin_neq, decide_true, Bool.not_true, IfP_false]
    have hth : TH (h1 ++ [.arr 138 (tcells n (cmOf ps))]) (pt h1.length 0) n (cmOf ps) := ⟨h1.length, rfl, by simp [objCells]⟩
    refine C57 (k := n) hth hn6 hs ls ?_
    rw [Lst_eq hn6 ls]
    exact ⟨hx.push _, Ren.si _ _, hy2⟩

theorem why1 {n : Nat} {ps : List (Int × Int)} {s : List UInt8} (hn : n ≤ 6) (ht : threadsOk n ps = true) (ls : letters n s) (hs : s.length ≤ 40) : whyE n ps [s] 40 = 0 :=
  whyE_zero hn ht (by intro u hu; simp at hu; rcases hu with rfl; exact ⟨ls, hs⟩)

theorem C41b {ps : List (Int × Int)} {pv : Value} {s : List UInt8} {n : Nat} {h : Heap} {K : Value → Heap → Prop} (hp : PS h pv ps) (hn : n ≤ 6) (ht : threadsOk n ps = true) (ls : letters n s) (hs : s.length ≤ 40)
    (hk : K (siV (Lst ps s) 0) h) : CallP Try.prog 41 [I n, pv, S s] h K := by
  have hl := (threadsOk_good ht).2.2.2.1
  exact C41 hp (by omega) (by omega) (fun hw => absurd (why1 hn ht ls hs) hw) fun _ => hk

end Go.Proofs.Ytjdlcokhlphmhaa
