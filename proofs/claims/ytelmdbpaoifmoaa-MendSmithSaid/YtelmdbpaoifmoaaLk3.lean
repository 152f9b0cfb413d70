/-
  The statement MendSmithSaid, out of the contract of its law: no condition.
-/
import Derived.Test.YtelmdbpaoifmoaaMeK
import Derived.Test.YtelmdbpaoifmoaaMe17
namespace Go.Proofs.Ytelmdbpaoifmoaa
open Go.Sim Go.ChangeShapes Go.WideShapes Go.ChangeAt Go.RowKit

set_option maxRecDepth 100000 in
theorem lifted3 (os : Os) (started : os.Started) (H : Type) (enc : TypeId × Value → H) :
    ReturnsInHanded {} Try.checked os 3 .any (Rows.mendSmithSpec.pre6 enc Try.prog Try.f3 Rows.mendSmithRow.domain false) (Rows.mendSmithSpec.post enc Try.prog Try.f3 false true false false) := by
  refine returnsInHanded_of_change (C := Try.checked) Try.own started (by kernel_rfl) Try.func3
    (ChangeSpec.witness6 (enc := enc) (C := Try.checked) false ⟨#[], #[.slice none 0 0], []⟩ 8 (by kernel_rfl) (by kernel_rfl) (by kernel_rfl) (by kernel_rfl)) ?_
  intro W base args ds gs before hval0 hW _ _
  have hval : ∀ (j : Nat) t v, Try.f3.params[j]? = some t → args[j]? = some v → Value.okWide Try.prog W .any base t v := hval0
  have hW' := hW
  obtain ⟨p, q, hA0, hV, rfl, hfz, hnd⟩ := hW
  have hA : DataW.TrodAll enc Try.prog W 0 (fun _ => true) true Try.f3.params.toList args.toList ds p := hA0
  rw [Try.params3] at hA hval
  obtain ⟨v0, d0, rfl, rfl, h0⟩ := trodAll_one hA
  obtain ⟨ρ0, g0, u0, bs0, l0, H0, R0, r0, q0, b0⟩ := emb_twos (hval 0 22 v0 rfl rfl) h0 (HRel.start _ W) (roH.start)
  have hc := C3  (K := fun v _ => v = .bool true) q0 b0 fun _ => rfl
  rw [CallP_eq] at hc
  refine (icall_below hc (args' := #[v0]) (.cons r0 .nil) (H0) (R0)).mono ?_
  rintro e W' ⟨⟨v', r2, rfl, hv'⟩, hb⟩
  rw [hv'.bool_inv]
  exact ⟨_, rfl, post_law Try.laidOut hW' rfl Try.underlying4 (by kernel_rfl) (fun gs' hg => by subst hg; rfl) (by rw [Try.params3]; intro t ht; simp at ht; rcases ht with rfl <;> exact ⟨by kernel_rfl, of_decide_eq_true (by kernel_rfl)⟩) hb⟩

theorem mendSmith_holds : Rows.MendSmithSaid :=
  OpenClaim.holds_of_wide 3 Try.f3 rfl rfl rfl rfl rfl rfl rfl ⟨rfl, rfl, rfl, rfl, rfl⟩ rfl rfl rfl rfl rfl (by kernel_rfl) Try.func3 (by kernel_rfl)
    (of_decide_eq_true (by kernel_rfl)) (by unfold Func.isWrapper; first | (rw [if_pos (by decide +kernel)]; kernel_rfl) | (rw [if_neg (by decide +kernel)]; exact ⟨rfl, rfl⟩))
    (fun os started H enc _ => lifted3 os started H enc)

end Go.Proofs.Ytelmdbpaoifmoaa
