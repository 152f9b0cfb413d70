/-
  The laws of Cost and Best, as calls answer.
-/
import Derived.Test.YtelmdbpaoifmoaaMgm
import Derived.Test.YtelmdbpaoifmoaaLv1
namespace Go.Proofs.Ytelmdbpaoifmoaa
open Go.Sim

theorem load_pair {h : Heap} {a b : Value} (e : TypeId) : iLoad true 2 (h ++ [.arr e [a, b]]) (pt h.length 0) = some (.agg #[a, b]) := by
  simp [iLoad, objCells, iPart]

theorem cut_le (m n : Nat) (hm : m ≤ 11) : cut m n ≤ 11 ∧ cut m n ≤ n := by
  unfold cut
  split <;> omega

theorem okI_false {bs : List Nat} {n : Nat} {l : List Int} (h : okI bs n l = true) : l = (l.map Int.toNat).map fun i : Nat => (i : Int) := okI_cast h

theorem C4 {vj vp vx : Value} {js ps : List (Int × Int)} {xs : List Int} {h : Heap} {K : Value → Heap → Prop} (hj : IPS h 35 vj js) (hp : IPS h 54 vp ps) (hx : INS h 3 .i64 vx xs) (hk : ∀ h', K (B true) h') : CallP Try.prog 4 [.agg #[vj, vp], vx] h K := by
  refine f4 ?_
  have bx : iBox 38 h (.agg #[vj, vp]) = some (pt h.length 0, h ++ [.arr 38 [vj, vp]]) := rfl
  simp only [T4, bx, OH_some, load_pair, OP_some]
  have x0 : EX h (h ++ [.arr 38 [vj, vp]]) := EX.append _ _
  generalize h ++ [IObj.arr 38 [vj, vp]] = g at x0 ⊢
  refine C15 (most := 10) (hj.mono x0) (hp.mono x0) (by decide) ?_
  intro v w g1 x1 hv hw
  have jl : (js.take (cut 10 js.length)).length ≤ 11 := by rw [List.length_take]; have := cut_le 10 js.length (by decide); omega
  have pl : (ps.take (min ps.length 41)).length ≤ 41 := by rw [List.length_take]; omega
  have hx1 := hx.mono (x0.trans x1)
  have m0 : ∀ g : Heap, iMkSl 3 0 [(.int .i64 (0))] g [] = some (sl 3 g.length 0 0, g ++ [.arr 3 []]) := fun _ => rfl
  simp only [ext_tuple, pair0, pair1, OP_some, m0, OH_some, hx1.len, min2]
  have em : min (xs.length : Int) 11 = ((min xs.length 11 : Nat) : Int) := by omega
  rw [em]
  have x2 : EX g1 (g1 ++ [.arr 3 []]) := EX.append _ _
  have k2 : (g1 ++ [IObj.arr 3 []])[g1.length]? = some (.arr 3 []) := get_last
  generalize g1 ++ [IObj.arr 3 []] = g2 at x2 k2 ⊢
  obtain ⟨v', s1, s2, s3⟩ := (hx1.mono x2).part (Nat.min_le_left xs.length 11)
  rw [Nat.mul_one, ← List.map_take] at s2
  obtain ⟨i, g3, a1, a2, a3, a4⟩ := app_new (bytes := 8) k2 s2 s3 (fun h0 => by rw [h0]; simp) (by omega) (by simp [maxLen]; omega)
  simp only [s1, OP_some, a1, OH_some]
  have x3 : EX g1 g3 := a3.toE x2 (Nat.le_refl _)
  have hl : (xs.take (min xs.length 11)).length = min xs.length 11 := by rw [List.length_take]; omega
  have hL : NS g3 (sl 3 i 0 (min xs.length 11)) .i64 (xs.take (min xs.length 11)) := by
    have := NS.arr (k := .i64) a4 (by simp [maxLen]; omega)
    rw [hl] at this
    exact this
  have hv3 := hv.mono x3
  have hw3 := hw.mono x3
  generalize sl 3 i 0 (min xs.length 11) = vl at hL ⊢
  generalize js.take (cut 10 js.length) = J at *
  generalize ps.take (min ps.length 41) = P at *
  have hl11 : (xs.take (min xs.length 11)).length ≤ 11 := by omega
  generalize xs.take (min xs.length 11) = L at *
  have bad : ∀ (b : Int) (g' : Heap), b ≠ 0 → p4z9 Try.prog K v vl (I 0) (I b) (I b) g' := by
    intro b g' hb
    rw [q4z9]
    simp only [bin_neq, OP_some, decide_eq_false hb, Bool.not_false, IfP_true, bin_eql, decide_true]
    rw [q4z14]
    simp only [GdP_tt, bin_eql, OP_some, decide_true]
    rw [q4z16]
    simp only [iPick_t, OP_some]
    rw [q4z18]
    simp only [GdP_tt]
    refine C14 ?_
    rw [q4z20]
    simp only [iPick_t, OP_some]
    exact hk _
  refine C16 hv3 hw3 (by omega) (by omega) hL (by omega) (fun hb g4 x4 => ?_) (fun hb ho g4 x4 => ?_) (fun hb ho hlen g4 x4 => ?_)
  · simp only [ext_tuple, pair0, pair1, OP_some]
    refine C17 (hv3.mono x4) (hw3.mono x4) (by omega) (by omega) ?_
    rw [hb]
    simp only [un_not, OP_some, Bool.not_false, IfP_true]
    exact bad 1 g4 (by decide)
  · simp only [ext_tuple, pair0, pair1, OP_some]
    refine C17 (hv3.mono x4) (hw3.mono x4) (by omega) (by omega) ?_
    rw [hb]
    simp only [un_not, OP_some, Bool.not_true, IfP_false]
    refine C12 (hv3.mono x4) (hw3.mono x4) (validB_of hb) (hL.mono x4) (by omega) ?_
    rw [ho]
    simp only [un_not, OP_some, Bool.not_false, IfP_true]
    exact bad 2 g4 (by decide)
  · simp only [ext_tuple, pair0, pair1, OP_some]
    refine C17 (hv3.mono x4) (hw3.mono x4) (by omega) (by omega) ?_
    rw [hb]
    simp only [un_not, OP_some, Bool.not_true, IfP_false]
    have vd := validB_of hb
    refine C12 (hv3.mono x4) (hw3.mono x4) vd (hL.mono x4) (by omega) ?_
    rw [ho, decide_eq_true hlen]
    simp only [Bool.and_self, un_not, OP_some, Bool.not_true, IfP_false]
    rw [q4z9]
    simp only [bin_neq, OP_some, decide_true, Bool.not_true, IfP_false]
    have hL4 := hL.mono x4
    have n10 := vd.n10
    rw [okI_cast ho] at hL4
    refine C13 (hv3.mono x4) vd.small hL4 (okO_all_lt ho) (by rw [List.length_map]; omega) ?_
    simp only [bin_eql, OP_some, decide_true]
    rw [q4z23]
    simp only [GdP_tt, bin_eql, OP_some, decide_true]
    rw [q4z25]
    simp only [iPick_t, OP_some]
    rw [q4z27]
    simp only [GdP_tt]
    refine C14 ?_
    rw [q4z29]
    simp only [iPick_t, OP_some]
    exact hk _

theorem C5 {vj vp : Value} {js ps : List (Int × Int)} {h : Heap} {K : Value → Heap → Prop} (hj : IPS h 35 vj js) (hp : IPS h 54 vp ps) (hk : ∀ h', K (B true) h') : CallP Try.prog 5 [.agg #[vj, vp]] h K := by
  refine f5 ?_
  have bx : iBox 38 h (.agg #[vj, vp]) = some (pt h.length 0, h ++ [.arr 38 [vj, vp]]) := rfl
  simp only [T5, bx, OH_some, load_pair, OP_some]
  have x0 : EX h (h ++ [.arr 38 [vj, vp]]) := EX.append _ _
  generalize h ++ [IObj.arr 38 [vj, vp]] = g at x0 ⊢
  refine C15 (most := 6) (hj.mono x0) (hp.mono x0) (by decide) ?_
  intro v w g1 x1 hv hw
  have jl : (js.take (cut 6 js.length)).length ≤ 11 := by rw [List.length_take]; have := cut_le 6 js.length (by decide); omega
  have pl : (ps.take (min ps.length 41)).length ≤ 41 := by rw [List.length_take]; omega
  simp only [ext_tuple, pair0, pair1, OP_some]
  generalize js.take (cut 6 js.length) = J at *
  generalize ps.take (min ps.length 41) = P at *
  have t3 : ∀ a b c : Value, (#[a, b, c] : Array Value)[0]? = some a ∧ (#[a, b, c] : Array Value)[1]? = some b ∧ (#[a, b, c] : Array Value)[2]? = some c := fun _ _ _ => ⟨rfl, rfl, rfl⟩
  cases hb : validB J P with
  | false =>
    refine C11 hv hw (by omega) (by omega) (fun _ g2 x2 => ?_) (fun _ hc => by rw [hb] at hc; cases hc)
    simp only [ext_tuple, (t3 _ _ _).1, (t3 _ _ _).2.1, (t3 _ _ _).2.2, OP_some]
    refine C18 (hv.mono x2) (hw.mono x2) (by omega) (by omega) (fun _ g3 x3 => ?_) (fun _ hc => by rw [hb] at hc; cases hc)
    simp only [ext_tuple, pair0, pair1, OP_some]
    refine C17 (hv.mono (x2.trans x3)) (hw.mono (x2.trans x3)) (by omega) (by omega) ?_
    rw [hb]
    have l0 : iLenSl (.slice none 0 0) = some (I 0) := rfl
    simp only [un_not, OP_some, Bool.not_false, IfP_true, l0, bin_eql, decide_true]
    rw [q5z9]
    simp only [GdP_tt, bin_eql, OP_some, decide_true]
    rw [q5z11]
    simp only [iPick_t, OP_some]
    rw [q5z13]
    simp only [GdP_tt, bin_eql, OP_some, decide_true]
    rw [q5z15]
    simp only [iPick_t, OP_some]
    rw [q5z17]
    simp only [GdP_tt, bin_eql, OP_some, decide_true]
    rw [q5z19]
    simp only [iPick_t, OP_some]
    rw [q5z21]
    simp only [GdP_tt, bin_eql, OP_some, decide_true]
    rw [q5z23]
    simp only [iPick_t, OP_some]
    rw [q5z25]
    simp only [GdP_tt]
    refine C14 ?_
    rw [q5z27]
    simp only [iPick_t, OP_some]
    exact hk _
  | true =>
    refine C11 hv hw (by omega) (by omega) (fun hc => by rw [hb] at hc; cases hc) (fun vd _ vl g2 l x2 hl hg hlen => ?_)
    simp only [ext_tuple, (t3 _ _ _).1, (t3 _ _ _).2.1, (t3 _ _ _).2.2, OP_some]
    refine C18 (hv.mono x2) (hw.mono x2) (by omega) (by omega) (fun hc => by rw [hb] at hc; cases hc) (fun _ _ g3 x3 => ?_)
    simp only [ext_tuple, pair0, pair1, OP_some]
    have x23 := x2.trans x3
    refine C17 (hv.mono x23) (hw.mono x23) (by omega) (by omega) ?_
    rw [hb]
    simp only [un_not, OP_some, Bool.not_true, IfP_false]
    refine C19 vd (fullS J.length) 0 (by omega) (l0 := []) (hv.mono x23) (hw.mono x23) (.inl ⟨rfl, rfl⟩) rfl rfl ?_
    intro w' g4 r x4 ow hg'
    have e := hg'.uniq hg
    subst e
    rw [List.nil_append] at ow
    have n10 := vd.n10
    simp only [ext_tuple, pair0, pair1, OP_some]
    have hns := OwnS.ns ow (by omega)
    refine C20 (hl.mono (x3.trans x4)) hns (by rw [List.length_map]; omega) ?_
    rw [q5z31]
    simp only [GdP_tt]
    have hok := (hg.ok n10).1
    refine C13 (hv.mono (x23.trans x4)) vd.small hns (okO_lt hok) (by omega) ?_
    simp only [bin_eql, OP_some, decide_true]
    rw [q5z33]
    simp only [iPick_t, OP_some]
    rw [q5z35]
    simp only [GdP_tt, bin_eql, OP_some, decide_true]
    rw [q5z37]
    simp only [iPick_t, OP_some]
    rw [q5z39]
    simp only [GdP_tt, bin_eql, OP_some, decide_true]
    rw [q5z41]
    simp only [iPick_t, OP_some]
    rw [q5z43]
    simp only [GdP_tt, bin_eql, OP_some, decide_true]
    rw [q5z45]
    simp only [iPick_t, OP_some]
    rw [q5z47]
    simp only [GdP_tt]
    refine C14 ?_
    rw [q5z49]
    simp only [iPick_t, OP_some]
    exact hk _

end Go.Proofs.Ytelmdbpaoifmoaa
