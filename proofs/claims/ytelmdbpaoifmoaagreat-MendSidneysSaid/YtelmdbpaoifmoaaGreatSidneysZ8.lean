/-
  The statement MendSidneysSaid, out of the contract of its law: no condition.
-/
import Derived.Test.YtelmdbpaoifmoaaGreatSidneysZ7
namespace Go.Proofs.YtelmdbpaoifmoaaGreat
open Go.Sim Go.ChangeShapes Go.WideShapes Go.ChangeAt Go.RowKit

set_option maxRecDepth 100000 in
theorem lifted7 (os : Os) (started : os.Started) (H : Type) (enc : TypeId × Value → H) :
    ReturnsInHanded {} Tryz.checked os 7 .any (Rows.mendSidneysSpec.pre6 enc Tryz.prog Tryz.f7 Rows.mendSidneysRow.domain false) (Rows.mendSidneysSpec.post enc Tryz.prog Tryz.f7 false true false false) := by
  refine returnsInHanded_of_change (C := Tryz.checked) Tryz.own started (by kernel_rfl) Tryz.func7
    (ChangeSpec.witness6 (enc := enc) (C := Tryz.checked) false ⟨#[], #[.agg #[.slice none 0 0, .slice none 0 0]], []⟩ 8 (by kernel_rfl) (by kernel_rfl) (by kernel_rfl) (by kernel_rfl)) ?_
  intro W base args ds gs before hval0 hW _ _
  have hval : ∀ (j : Nat) t v, Tryz.f7.params[j]? = some t → args[j]? = some v → Value.okWide Tryz.prog W .any base t v := hval0
  have hW' := hW
  obtain ⟨p, q, hA0, hV, rfl, hfz, hnd⟩ := hW
  have hA : DataW.TrodAll enc Tryz.prog W 0 (fun _ => true) true Tryz.f7.params.toList args.toList ds p := hA0
  rw [Tryz.params7] at hA hval
  obtain ⟨v0, d0, rfl, rfl, h0⟩ := trodAll_one hA
  obtain ⟨ρ0, g0, vj, vp, js, qs, l0, H0, R0, r0, q0, qq0⟩ := emb_shop (hval 0 71 v0 rfl rfl) h0 (HRel.start _ W) (roH.start)
  have hc := C7  (K := fun v _ => v = .bool true) q0 qq0 fun _ => rfl
  rw [CallP_eq] at hc
  refine (icall_below hc (args' := #[v0]) (.cons r0 .nil) (H0) (R0)).mono ?_
  rintro e W' ⟨⟨v', r2, rfl, hv'⟩, hb⟩
  rw [hv'.bool_inv]
  exact ⟨_, rfl, post_law Tryz.laidOut hW' rfl Tryz.underlying4 (by kernel_rfl) (fun gs' hg => by subst hg; rfl) (by rw [Tryz.params7]; intro t ht; simp at ht; rcases ht with rfl <;> exact ⟨by kernel_rfl, of_decide_eq_true (by kernel_rfl)⟩) hb⟩

theorem mendSidneys_holds : Rows.MendSidneysSaid :=
  OpenClaim.holds_of_wide 7 Tryz.f7 rfl rfl rfl rfl rfl rfl rfl ⟨rfl, rfl, rfl, rfl, rfl⟩ rfl rfl rfl rfl rfl (by kernel_rfl) Tryz.func7 (by kernel_rfl)
    (of_decide_eq_true (by kernel_rfl)) (by unfold Func.isWrapper; first | (rw [if_pos (by decide +kernel)]; kernel_rfl) | (rw [if_neg (by decide +kernel)]; exact ⟨rfl, rfl⟩))
    (fun os started H enc _ => lifted7 os started H enc)

end Go.Proofs.YtelmdbpaoifmoaaGreat

