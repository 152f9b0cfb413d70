/-
  The statement StitchLatticeSaid, out of the contract of its law: no condition.
-/
import Derived.Test.YtjdlcokhlphmhaaLk3
import Derived.Test.YtjdlcokhlphmhaaCt16
namespace Go.Proofs.Ytjdlcokhlphmhaa
open Go.Sim Go.ChangeShapes Go.WideShapes Go.ChangeAt Go.RowKit

set_option maxRecDepth 100000 in
theorem lifted15 (os : Os) (started : os.Started) (H : Type) (enc : TypeId × Value → H) :
    ReturnsInHanded {} Try.checked os 15 .any (Rows.stitchLatticeSpec.pre6 enc Try.prog Try.f15 Rows.stitchLatticeRow.domain false) (Rows.stitchLatticeSpec.post enc Try.prog Try.f15 false true false false) := by
  refine returnsInHanded_of_change (C := Try.checked) Try.own started (by kernel_rfl) Try.func15
    (ChangeSpec.witness6 (enc := enc) (C := Try.checked) false ⟨#[], #[.agg #[.int .u8 0, .int .u16 0], .agg #[.slice none 0 0, .slice none 0 0], .slice none 0 0], []⟩ 8 (by kernel_rfl) (by kernel_rfl) (by kernel_rfl) (by kernel_rfl)) ?_
  intro W base args ds gs before hval0 hW _ _
  have hval : ∀ (j : Nat) t v, Try.f15.params[j]? = some t → args[j]? = some v → Value.okWide Try.prog W .any base t v := hval0
  have hW' := hW
  obtain ⟨p, q, hA0, hV, rfl, hfz, hnd⟩ := hW
  have hA : DataW.TrodAll enc Try.prog W 0 (fun _ => true) true Try.f15.params.toList args.toList ds p := hA0
  rw [Try.params15] at hA hval
  obtain ⟨v0, v1, v2, d0, d1, d2, p0, p1, p2, rfl, rfl, rfl, h0, h1, h2⟩ := trodAll_three hA
  obtain ⟨kk, ff, rfl, hk0, hk1⟩ := emb_cloth (hval 0 54 v0 rfl rfl) h0
  obtain ⟨ρ1, g1, xv0, xv1, ns0, ns1, l1, H1, R1, r1, q1, b1, qq1, bb1⟩ := emb_two8 (hval 1 83 v1 rfl rfl) h1 (HRel.start _ W) (roH.start)
  obtain ⟨ρ2, g2, u2, ns2, l2, H2, R2, r2, q2, b2⟩ := emb_u8s (hval 2 55 v2 rfl rfl) h2 (H1) (R1)
  have hc := C15 (f := ff) (K := fun v _ => v = .bool true) hk0 hk1 (q1.mono (EX.append _ _)) b1 (qq1.mono (EX.append _ _)) bb1 q2 b2 fun _ => rfl
  rw [CallP_eq] at hc
  refine (icall_below hc (args' := #[.agg #[.int .u8 kk, .int .u16 ff], v1, v2]) (.cons (VRel.aggL (xs := [.int .u8 kk, .int .u16 ff]) (xs' := [.int .u8 kk, .int .u16 ff]) (.cons (.int _ _) (.cons (.int _ _) .nil)) (by intro x hx; rcases List.mem_cons.1 hx with rfl | hx; exact rfl; rw [List.mem_singleton.1 hx]; rfl)) (.cons (r1.mono l2) (.cons r2 .nil))) (H2) (R2)).mono ?_
  rintro e W' ⟨⟨v', r2, rfl, hv'⟩, hb⟩
  rw [hv'.bool_inv]
  exact ⟨_, rfl, post_law Try.laidOut hW' rfl Try.underlying4 (by kernel_rfl) (fun gs' hg => by subst hg; rfl) (by rw [Try.params15]; intro t ht; simp at ht; rcases ht with rfl | rfl | rfl <;> exact ⟨by kernel_rfl, of_decide_eq_true (by kernel_rfl)⟩) hb⟩

theorem stitchLattice_holds : Rows.StitchLatticeSaid :=
  OpenClaim.holds_of_wide 15 Try.f15 rfl rfl rfl rfl rfl rfl rfl ⟨rfl, rfl, rfl, rfl, rfl⟩ rfl rfl rfl rfl rfl (by kernel_rfl) Try.func15 (by kernel_rfl)
    (of_decide_eq_true (by kernel_rfl)) (by unfold Func.isWrapper; first | (rw [if_pos (by decide +kernel)]; kernel_rfl) | (rw [if_neg (by decide +kernel)]; exact ⟨rfl, rfl⟩))
    (fun os started H enc _ => lifted15 os started H enc)

end Go.Proofs.Ytjdlcokhlphmhaa
