/-
  The law of Least, as a call answers.
-/
import Derived.Test.YtelmdbpaoifmoaaMe13
namespace Go.Proofs.Ytelmdbpaoifmoaa
open Go.Sim

theorem trip (a b c : Value) : (#[a, b, c] : Array Value)[0]? = some a ∧ (#[a, b, c] : Array Value)[1]? = some b ∧ (#[a, b, c] : Array Value)[2]? = some c := ⟨rfl, rfl, rfl⟩

theorem C6 {vj vp : Value} {js ps : List (Int × Int)} {h : Heap} {K : Value → Heap → Prop} (hj : IPS h 35 vj js) (hp : IPS h 54 vp ps) (hk : ∀ h', K (B true) h') : CallP Try.prog 6 [.agg #[vj, vp]] h K := by
  refine f6 ?_
  have bx : iBox 38 h (.agg #[vj, vp]) = some (pt h.length 0, h ++ [.arr 38 [vj, vp]]) := rfl
  simp only [T6, bx, OH_some, load_pair, OP_some]
  have x0 : EX h (h ++ [.arr 38 [vj, vp]]) := EX.append _ _
  generalize h ++ [IObj.arr 38 [vj, vp]] = g at x0 ⊢
  refine C15 (most := 10) (hj.mono x0) (hp.mono x0) (by decide) ?_
  intro v w g1 x1 hv hw
  have jl : (js.take (cut 10 js.length)).length ≤ 11 := by rw [List.length_take]; have := cut_le 10 js.length (by decide); omega
  have pl : (ps.take (min ps.length 41)).length ≤ 41 := by rw [List.length_take]; omega
  simp only [ext_tuple, pair0, pair1, OP_some]
  generalize js.take (cut 10 js.length) = J at *
  generalize ps.take (min ps.length 41) = P at *
  cases hb : validB J P with
  | false =>
    refine C11 hv hw (by omega) (by omega) (fun _ g2 x2 => ?_) (fun _ hc => by rw [hb] at hc; cases hc)
    simp only [ext_tuple, (trip _ _ _).1, (trip _ _ _).2.1, (trip _ _ _).2.2, OP_some]
    refine C18 (hv.mono x2) (hw.mono x2) (by omega) (by omega) (fun _ g3 x3 => ?_) (fun _ hc => by rw [hb] at hc; cases hc)
    simp only [ext_tuple, pair0, pair1, OP_some]
    refine C17 (hv.mono (x2.trans x3)) (hw.mono (x2.trans x3)) (by omega) (by omega) ?_
    rw [hb]
    have l0 : iLenSl (.slice none 0 0) = some (I 0) := rfl
    simp only [un_not, OP_some, Bool.not_false, IfP_true, l0, bin_eql, decide_true]
    rw [q6z9]
    simp only [GdP_tt, bin_eql, OP_some, decide_true]
    rw [q6z11]
    simp only [iPick_t, OP_some]
    rw [q6z13]
    simp only [GdP_tt, bin_eql, OP_some, decide_true]
    rw [q6z15]
    simp only [iPick_t, OP_some]
    rw [q6z17]
    simp only [GdP_tt, bin_eql, OP_some, decide_true]
    rw [q6z19]
    simp only [iPick_t, OP_some]
    rw [q6z21]
    simp only [GdP_tt, bin_eql, OP_some, decide_true]
    rw [q6z23]
    simp only [iPick_t, OP_some]
    rw [q6z25]
    simp only [GdP_tt]
    refine C14 ?_
    rw [q6z27]
    simp only [iPick_t, OP_some]
    exact hk _
  | true =>
    refine C11 hv hw (by omega) (by omega) (fun hc => by rw [hb] at hc; cases hc) (fun vd _ vl g2 l x2 hl hg hlen => ?_)
    simp only [ext_tuple, (trip _ _ _).1, (trip _ _ _).2.1, (trip _ _ _).2.2, OP_some]
    refine C18 (hv.mono x2) (hw.mono x2) (by omega) (by omega) (fun hc => by rw [hb] at hc; cases hc) (fun _ _ g3 x3 => ?_)
    simp only [ext_tuple, pair0, pair1, OP_some]
    have x23 := x2.trans x3
    refine C17 (hv.mono x23) (hw.mono x23) (by omega) (by omega) ?_
    rw [hb]
    simp only [un_not, OP_some, Bool.not_true, IfP_false]
    refine C21 vd (hv.mono x23) (hw.mono x23) ?_
    intro g4 x4
    simp only [ext_tuple, pair0, pair1, OP_some]
    have n10 := vd.n10
    obtain ⟨hok, hfull, hcost⟩ := hg.ok n10
    rw [now_zero] at hcost
    have hl4 := hl.mono (x3.trans x4)
    refine C12 (hv.mono (x23.trans x4)) (hw.mono (x23.trans x4)) vd hl4 (by rw [List.length_map]; omega) ?_
    rw [okI_nat, hok, List.length_map, decide_eq_true hlen, Bool.and_self, hcost]
    rw [q6z31]
    simp only [GdP_tt, bin_eql, OP_some, decide_true]
    rw [q6z33]
    simp only [iPick_t, OP_some]
    rw [q6z35]
    simp only [GdP_tt]
    refine C13 (hv.mono (x23.trans x4)) vd.small hl4 (okO_lt hok) (by omega) ?_
    rw [hcost]
    simp only [bin_eql, OP_some, decide_true]
    rw [q6z37]
    simp only [iPick_t, OP_some]
    rw [q6z39]
    simp only [GdP_tt, bin_eql, OP_some, decide_true]
    rw [q6z41]
    simp only [iPick_t, OP_some]
    rw [q6z43]
    simp only [GdP_tt, bin_eql, OP_some, decide_true]
    rw [q6z45]
    simp only [iPick_t, OP_some]
    rw [q6z47]
    simp only [GdP_tt, bin_eql, OP_some, decide_true]
    rw [q6z49]
    simp only [iPick_t, OP_some]
    rw [q6z51]
    simp only [GdP_tt]
    refine C14 ?_
    rw [q6z53]
    simp only [iPick_t, OP_some]
    exact hk _

end Go.Proofs.Ytelmdbpaoifmoaa
