/-
  The statement MendBlocksSaid, out of the contract of its law: no condition.
-/
import Derived.Test.YtelmdbpaoifmoaaMeK
import Derived.Test.YtelmdbpaoifmoaaMe18
namespace Go.Proofs.Ytelmdbpaoifmoaa
open Go.Sim Go.ChangeShapes Go.WideShapes Go.ChangeAt Go.RowKit

set_option maxRecDepth 100000 in
theorem lifted9 (os : Os) (started : os.Started) (H : Type) (enc : TypeId × Value → H) :
    ReturnsInHanded {} Try.checked os 9 .any (Rows.mendBlocksSpec.pre6 enc Try.prog Try.f9 Rows.mendBlocksRow.domain false) (Rows.mendBlocksSpec.post enc Try.prog Try.f9 false true false false) := by
  refine returnsInHanded_of_change (C := Try.checked) Try.own started (by kernel_rfl) Try.func9
    (ChangeSpec.witness6 (enc := enc) (C := Try.checked) false ⟨#[], #[.slice none 0 0, .slice none 0 0, .slice none 0 0], []⟩ 8 (by kernel_rfl) (by kernel_rfl) (by kernel_rfl) (by kernel_rfl)) ?_
  intro W base args ds gs before hval0 hW _ _
  have hval : ∀ (j : Nat) t v, Try.f9.params[j]? = some t → args[j]? = some v → Value.okWide Try.prog W .any base t v := hval0
  have hW' := hW
  obtain ⟨p, q, hA0, hV, rfl, hfz, hnd⟩ := hW
  have hA : DataW.TrodAll enc Try.prog W 0 (fun _ => true) true Try.f9.params.toList args.toList ds p := hA0
  rw [Try.params9] at hA hval
  obtain ⟨v0, v1, v2, d0, d1, d2, p0, p1, p2, rfl, rfl, rfl, h0, h1, h2⟩ := trodAll_three hA
  obtain ⟨ρ0, g0, u0, bs0, l0, H0, R0, r0, q0, b0⟩ := emb_twos (hval 0 22 v0 rfl rfl) h0 (HRel.start _ W) (roH.start)
  obtain ⟨ρ1, g1, u1, bs1, l1, H1, R1, r1, q1, b1⟩ := emb_twos (hval 1 22 v1 rfl rfl) h1 (H0) (R0)
  obtain ⟨ρ2, g2, u2, bs2, l2, H2, R2, r2, q2, b2⟩ := emb_twos (hval 2 22 v2 rfl rfl) h2 (H1) (R1)
  have hc := C9  (K := fun v _ => v = .bool true) (IS.mono (EX.append _ _) (IS.mono (EX.append _ _) q0)) b0 (IS.mono (EX.append _ _) q1) b1 q2 b2 fun _ => rfl
  rw [CallP_eq] at hc
  refine (icall_below hc (args' := #[v0, v1, v2]) (.cons ((r0.mono l1).mono l2) (.cons (r1.mono l2) (.cons r2 .nil))) (H2) (R2)).mono ?_
  rintro e W' ⟨⟨v', r2, rfl, hv'⟩, hb⟩
  rw [hv'.bool_inv]
  exact ⟨_, rfl, post_law Try.laidOut hW' rfl Try.underlying4 (by kernel_rfl) (fun gs' hg => by subst hg; rfl) (by rw [Try.params9]; intro t ht; simp at ht; rcases ht with rfl <;> exact ⟨by kernel_rfl, of_decide_eq_true (by kernel_rfl)⟩) hb⟩

theorem mendBlocks_holds : Rows.MendBlocksSaid :=
  OpenClaim.holds_of_wide 9 Try.f9 rfl rfl rfl rfl rfl rfl rfl ⟨rfl, rfl, rfl, rfl, rfl⟩ rfl rfl rfl rfl rfl (by kernel_rfl) Try.func9 (by kernel_rfl)
    (of_decide_eq_true (by kernel_rfl)) (by unfold Func.isWrapper; first | (rw [if_pos (by decide +kernel)]; kernel_rfl) | (rw [if_neg (by decide +kernel)]; exact ⟨rfl, rfl⟩))
    (fun os started H enc _ => lifted9 os started H enc)

end Go.Proofs.Ytelmdbpaoifmoaa
