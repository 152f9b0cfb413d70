/-
  The law: Equal answers as the document says.
-/
import Derived.Test.YtjdlcokhlphmhaaCt6
import Derived.Test.YtjdlcokhlphmhaaLv1
namespace Go.Proofs.Ytjdlcokhlphmhaa
open Go.Sim

theorem C3 {ps : List (Int × Int)} {pv : Value} {k : Int} {x y : List UInt8} {h : Heap} {K : Value → Heap → Prop} (hp : PSl h pv ps) (hk : ∀ h', K (.bool true) h') : CallP Try.prog 3 [.agg #[I k, pv], S x, S y] h K := by
  refine f3 ?_
  have e1 : iBox 24 h (.agg #[I k, pv]) = some (pt h.length 0, h ++ [.arr 24 [I k, pv]]) := rfl
  have e2 : iLoad true 2 (h ++ [.arr 24 [I k, pv]]) (pt h.length 0) = some (.agg #[I k, pv]) := by simp [iLoad, objCells, iPart]
  simp only [T3, e1, OH_some, e2, OP_some]
  refine C16 (hp.mono (EX.append _ _)) ?_
  generalize h ++ [IObj.arr 24 [I k, pv]] = h1
  have g0 : (#[I k, sl 98 h1.length 0 (ps.take 31).length] : Array Value)[0]? = some (I k) := rfl
  have g1 : (#[I k, sl 98 h1.length 0 (ps.take 31).length] : Array Value)[1]? = some (sl 98 h1.length 0 (ps.take 31).length) := rfl
  simp only [ext_tuple, g0, g1, OP_some]
  have hl : (ps.take 31).length ≤ 31 := by rw [List.length_take]; omega
  have hps : PS (h1 ++ [.arr 98 (pcells (ps.take 31))]) (sl 98 h1.length 0 (ps.take 31).length) (ps.take 31) := PS.sl (by simp [objCells])
  generalize sl 98 h1.length 0 (ps.take 31).length = qv at hps ⊢
  generalize h1 ++ [IObj.arr 98 (pcells (ps.take 31))] = h2 at hps ⊢
  generalize ps.take 31 = qs at hps hl ⊢
  refine C17 (n := 41) (C17 (n := 41) ?_)
  have hs : (x.take 41).length ≤ 41 := by rw [List.length_take]; omega
  have hu : (y.take 41).length ≤ 41 := by rw [List.length_take]; omega
  generalize x.take 41 = s at hs ⊢
  generalize y.take 41 = u at hu ⊢
  refine C18 hps (by omega) (by omega) (by omega) ?_
  have b0 : (#[B (decide (whyE k qs [s, u] 40 = 0) && decide (Lst qs s = Lst qs u)), I (whyE k qs [s, u] 40)] : Array Value)[0]? = some (B (decide (whyE k qs [s, u] 40 = 0) && decide (Lst qs s = Lst qs u))) := rfl
  have b1 : (#[B (decide (whyE k qs [s, u] 40 = 0) && decide (Lst qs s = Lst qs u)), I (whyE k qs [s, u] 40)] : Array Value)[1]? = some (I (whyE k qs [s, u] 40)) := rfl
  simp only [equalV, ext_tuple, b0, b1, OP_some, mkS2, OH_some]
  have hx : EX h2 (h2 ++ [.arr 9 [S s, S u]]) := EX.append _ _
  have hss : SS (h2 ++ [.arr 9 [S s, S u]]) (sl 9 h2.length 0 2) [s, u] := SS.sl (ls := [s, u]) (by simp [objCells])
  have hps3 := hps.mono hx
  generalize h2 ++ [IObj.arr 9 [S s, S u]] = h3 at hss hps3 ⊢
  refine C19 (most := 40) hps3 (by omega) hss (by simp) (by simp; omega) ?_
  simp only [bin_neq, OP_some, IfP_ndec]
  refine ⟨fun hw => ?_, fun hw => ?_⟩
  · rw [decide_eq_false hw, Bool.false_and]
    simp only [un_not, OP_some, Bool.not_false, q3z10, GdP_tt, bin_eql, decide_true, q3z12, iPick_t, q3z14]
    refine C20 ?_
    simp only [q3z16, iPick_t, OP_some]
    exact hk _
  · obtain ⟨ht, hse⟩ := whyE_ok hw
    obtain ⟨n, rfl, hn1, hn6⟩ := threadsOk_k ht
    have hok := seamsE_ok hse
    have let6 : ∀ {u : List UInt8}, letters n u → letters 6 u := fun hu c hc => let ⟨a, h1, h2⟩ := hu c hc; ⟨a, by omega, h2⟩
    have ls := let6 (letters_of (hok s (by simp)).2)
    have lu := let6 (letters_of (hok u (by simp)).2)
    have hg := (threadsOk_good ht).1
    refine C21 hps3 hg (by omega) (by omega) ls ?_
    refine C21 hps3 hg (by omega) (by omega) lu ?_
    rw [hw]
    show OP (iBin .eql (S (Lst qs s)) (S (Lst qs u))) _
    simp only [bin_eqlS, OP_some, decide_true, Bool.true_and, eqb_bool, Bool.false_eq_true, if_false, beq_self_eq_true, q3z19, GdP_tt, bin_eql, q3z21, iPick_t, q3z23]
    refine C20 ?_
    simp only [q3z25, iPick_t, OP_some]
    exact hk _

end Go.Proofs.Ytjdlcokhlphmhaa
