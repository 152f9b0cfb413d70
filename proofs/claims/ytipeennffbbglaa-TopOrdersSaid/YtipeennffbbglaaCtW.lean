/-
  The same numbers are the same.
-/
import Derived.Test.YtipeennffbbglaaCtU
namespace Go.Proofs.Ytipeennffbbglaa
open Go.Sim

/-- The same numbers are the same. -/
theorem C29e {v w : Value} {ns : List Int} {h : Heap} {K : Value → Heap → Prop} (hv : NS h v .i64 ns) (hw : NS h w .i64 ns) (hs : ns.length ≤ 1000) (hk : K (B false) h) : CallP Try.prog 29 [v, w] h K := by
  refine f29 ?_
  refine loopL (σ := Nat) (fun i => [I i]) (fun _ => h) (fun i => i ≤ ns.length) (fun i => ns.length - i) 0 rfl rfl (by omega) ?_
  intro i hi L hL
  rw [q29z5]
  simp only [hv.len, OP_some, bin_lss, q29z9]
  by_cases h1 : (i : Int) < ns.length
  · obtain ⟨b, o, g1, g2⟩ := hv.get i (by omega)
    obtain ⟨b', o', g1', g2'⟩ := hw.get i (by omega)
    simp only [decide_eq_true h1, GdP_tt, hw.len, OP_some, bin_lss, q29z11, iPick_t, IfP_true, g1, g2, g1', g2', true_and, bin_neq, decide_true, Bool.not_true, IfP_false, bin_add, inc i (by omega)]
    exact hL (i + 1) (by omega) (by omega)
  · simp only [decide_eq_false h1, GdP_ft, q29z11, iPick_f, OP_some, IfP_false, q29z16, hv.len, hw.len, bin_lss]
    rw [decide_eq_false (by omega)]
    exact hk

theorem C13e {v w : Value} {ns : List Int} {h : Heap} {K : Value → Heap → Prop} (hv : NS h v .i64 ns) (hw : NS h w .i64 ns) (hs : ns.length ≤ 1000) (hk : K (B true) h) : CallP Try.prog 13 [v, w] h K := by
  refine f13 (C29e hv hw hs ?_)
  simp only [un_not, OP_some, Bool.not_false, q13z4, GdP_tt]
  refine C29e hw hv hs ?_
  simp only [un_not, OP_some, Bool.not_false, q13z6, iPick_t]
  exact hk

end Go.Proofs.Ytipeennffbbglaa
