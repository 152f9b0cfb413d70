/-
  The statement MendSidneySaid, out of the contract of its law: no condition.
-/
import Derived.Test.YtelmdbpaoifmoaaGreatSd7
namespace Go.Proofs.YtelmdbpaoifmoaaGreat
open Go.Sim Go.ChangeShapes Go.WideShapes Go.ChangeAt Go.RowKit

set_option maxRecDepth 100000 in
theorem lifted8 (os : Os) (started : os.Started) (H : Type) (enc : TypeId × Value → H) :
  ReturnsInHanded {} Tryz.checked os 8 .any (Rows.mendSidneySpec.pre6 enc Tryz.prog Tryz.f8 Rows.mendSidneyRow.domain false) (Rows.mendSidneySpec.post enc Tryz.prog Tryz.f8 false true false false) := by
 refine returnsInHanded_of_change (C := Tryz.checked) Tryz.own started (by kernel_rfl) Tryz.func8
  (ChangeSpec.witness6 (enc := enc) (C := Tryz.checked) false ⟨#[], #[.slice none 0 0, .slice none 0 0], []⟩ 8 (by kernel_rfl) (by kernel_rfl) (by kernel_rfl) (by kernel_rfl)) ?_
 intro W base args ds gs before hval0 hW _ _
 have hval : ∀ (j : Nat) t v, Tryz.f8.params[j]? = some t → args[j]? = some v → Value.okWide Tryz.prog W .any base t v := hval0
 have hW' := hW
 obtain ⟨p, q, hA0, hV, rfl, hfz, hnd⟩ := hW
 have hA : DataW.TrodAll enc Tryz.prog W 0 (fun _ => true) true Tryz.f8.params.toList args.toList ds p := hA0
 rw [Tryz.params8] at hA hval
 obtain ⟨v0, v1, d0, d1, p0, p1, rfl, rfl, rfl, h0, h1⟩ := trodAll_two hA
 obtain ⟨ρ0, g0, u0, bs0, l0, H0, R0, r0, q0, b0⟩ := emb_twos (hval 0 42 v0 rfl rfl) h0 (HRel.start _ W) (roH.start)
 obtain ⟨ρ1, g1, u1, bs1, l1, H1, R1, r1, q1, b1⟩ := emb_twos (hval 1 42 v1 rfl rfl) h1 (H0) (R0)
 have hc := C8  (K := fun v _ => v = .bool true) (IS.mono (EX.append _ _) q0) b0 q1 b1 fun _ => rfl
 rw [CallP_eq] at hc
 refine (icall_below hc (args' := #[v0, v1]) (.cons (r0.mono l1) (.cons r1 .nil)) (H1) (R1)).mono ?_
 rintro e W' ⟨⟨v', r2, rfl, hv'⟩, hb⟩
 rw [hv'.bool_inv]
 exact ⟨_, rfl, post_law Tryz.laidOut hW' rfl Tryz.underlying4 (by kernel_rfl) (fun gs' hg => by subst hg; rfl) (by rw [Tryz.params8]; intro t ht; simp at ht; rcases ht with rfl <;> exact ⟨by kernel_rfl, of_decide_eq_true (by kernel_rfl)⟩) hb⟩

theorem mendSidney_holds : Rows.MendSidneySaid :=
 OpenClaim.holds_of_wide 8 Tryz.f8 rfl rfl rfl rfl rfl rfl rfl ⟨rfl, rfl, rfl, rfl, rfl⟩ rfl rfl rfl rfl rfl (by kernel_rfl) Tryz.func8 (by kernel_rfl)
  (of_decide_eq_true (by kernel_rfl)) (by unfold Func.isWrapper; first | (rw [if_pos (by decide +kernel)]; kernel_rfl) | (rw [if_neg (by decide +kernel)]; exact ⟨rfl, rfl⟩))
  (fun os started H enc _ => lifted8 os started H enc)

end Go.Proofs.YtelmdbpaoifmoaaGreat

