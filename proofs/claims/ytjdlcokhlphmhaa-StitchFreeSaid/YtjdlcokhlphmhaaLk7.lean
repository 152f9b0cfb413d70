/-
  The statement StitchFreeSaid, out of the contract of its law: no condition.
-/
import Derived.Test.YtjdlcokhlphmhaaLk3
import Derived.Test.YtjdlcokhlphmhaaCt49
namespace Go.Proofs.Ytjdlcokhlphmhaa
open Go.Sim Go.ChangeShapes Go.WideShapes Go.ChangeAt Go.RowKit

set_option maxRecDepth 100000 in
theorem lifted7 (os : Os) (started : os.Started) (H : Type) (enc : TypeId × Value → H) :
    ReturnsInHanded {} Try.checked os 7 .any (Rows.stitchFreeSpec.pre6 enc Try.prog Try.f7 Rows.stitchFreeRow.domain false) (Rows.stitchFreeSpec.post enc Try.prog Try.f7 false true false false) := by
  refine returnsInHanded_of_change (C := Try.checked) Try.own started (by kernel_rfl) Try.func7
    (ChangeSpec.witness6 (enc := enc) (C := Try.checked) false ⟨#[], #[.agg #[.int .u8 0, .int .u8 0], .slice none 0 0, .slice none 0 0], []⟩ 8 (by kernel_rfl) (by kernel_rfl) (by kernel_rfl) (by kernel_rfl)) ?_
  intro W base args ds gs before hval0 hW _ _
  have hval : ∀ (j : Nat) t v, Try.f7.params[j]? = some t → args[j]? = some v → Value.okWide Try.prog W .any base t v := hval0
  have hW' := hW
  obtain ⟨p, q, hA0, hV, rfl, hfz, hnd⟩ := hW
  have hA : DataW.TrodAll enc Try.prog W 0 (fun _ => true) true Try.f7.params.toList args.toList ds p := hA0
  rw [Try.params7] at hA hval
  obtain ⟨v0, v1, v2, d0, d1, d2, p0, p1, p2, rfl, rfl, rfl, h0, h1, h2⟩ := trodAll_three hA
  obtain ⟨a0, a1, rfl, wa0, wa1⟩ := emb_bytes2 (hval 0 67 v0 rfl rfl) h0
  obtain ⟨ρ1, g1, u1, ns1, l1, H1, R1, r1, q1, b1⟩ := emb_u8s (hval 1 55 v1 rfl rfl) h1 (HRel.start _ W) (roH.start)
  obtain ⟨ρ2, g2, u2, ns2, l2, H2, R2, r2, q2, b2⟩ := emb_u8s (hval 2 55 v2 rfl rfl) h2 (H1) (R1)
  have hc := C7  (K := fun v _ => v = .bool true) wa0 wa1 (q1.mono (EX.append _ _)) b1 q2 b2 fun _ => rfl
  rw [CallP_eq] at hc
  refine (icall_below hc (args' := #[.agg #[.int .u8 a0, .int .u8 a1], v1, v2]) (.cons (VRel.aggL (xs := [.int .u8 a0, .int .u8 a1]) (xs' := [.int .u8 a0, .int .u8 a1]) (.cons (.int _ _) (.cons (.int _ _) .nil)) (by intro x hx; rcases List.mem_cons.1 hx with rfl | hx; exact rfl; rw [List.mem_singleton.1 hx]; rfl)) (.cons (r1.mono l2) (.cons r2 .nil))) (H2) (R2)).mono ?_
  rintro e W' ⟨⟨v', r2, rfl, hv'⟩, hb⟩
  rw [hv'.bool_inv]
  exact ⟨_, rfl, post_law Try.laidOut hW' rfl Try.underlying4 (by kernel_rfl) (fun gs' hg => by subst hg; rfl) (by rw [Try.params7]; intro t ht; simp at ht; rcases ht with rfl | rfl <;> exact ⟨by kernel_rfl, of_decide_eq_true (by kernel_rfl)⟩) hb⟩

theorem stitchFree_holds : Rows.StitchFreeSaid :=
  OpenClaim.holds_of_wide 7 Try.f7 rfl rfl rfl rfl rfl rfl rfl ⟨rfl, rfl, rfl, rfl, rfl⟩ rfl rfl rfl rfl rfl (by kernel_rfl) Try.func7 (by kernel_rfl)
    (of_decide_eq_true (by kernel_rfl)) (by unfold Func.isWrapper; first | (rw [if_pos (by decide +kernel)]; kernel_rfl) | (rw [if_neg (by decide +kernel)]; exact ⟨rfl, rfl⟩))
    (fun os started H enc _ => lifted7 os started H enc)

end Go.Proofs.Ytjdlcokhlphmhaa
