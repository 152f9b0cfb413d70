/-
  The statement StitchCartierSaid, out of the contract of its law: no condition.
-/
import Derived.Test.YtjdlcokhlphmhaaLk2
import Derived.Test.YtjdlcokhlphmhaaCt44
namespace Go.Proofs.Ytjdlcokhlphmhaa
open Go.Sim Go.ChangeShapes Go.WideShapes Go.ChangeAt Go.RowKit

set_option maxRecDepth 100000 in
theorem lifted6 (os : Os) (started : os.Started) (H : Type) (enc : TypeId × Value → H) :
    ReturnsInHanded {} Try.checked os 6 .any (Rows.stitchCartierSpec.pre6 enc Try.prog Try.f6 Rows.stitchCartierRow.domain false) (Rows.stitchCartierSpec.post enc Try.prog Try.f6 false true false false) := by
  refine returnsInHanded_of_change (C := Try.checked) Try.own started (by kernel_rfl) Try.func6
    (ChangeSpec.witness6 (enc := enc) (C := Try.checked) false ⟨#[], #[.agg #[.int .u8 0, .int .u16 0], .int .u8 0], []⟩ 8 (by kernel_rfl) (by kernel_rfl) (by kernel_rfl) (by kernel_rfl)) ?_
  intro W base args ds gs before hval0 hW _ _
  have hval : ∀ (j : Nat) t v, Try.f6.params[j]? = some t → args[j]? = some v → Value.okWide Try.prog W .any base t v := hval0
  have hW' := hW
  obtain ⟨p, q, hA0, hV, rfl, hfz, hnd⟩ := hW
  have hA : DataW.TrodAll enc Try.prog W 0 (fun _ => true) true Try.f6.params.toList args.toList ds p := hA0
  rw [Try.params6] at hA hval
  obtain ⟨v0, v1, d0, d1, p0, p1, rfl, rfl, rfl, h0, h1⟩ := trodAll_two hA
  obtain ⟨kk, ff, rfl, hk0, hk1⟩ := emb_cloth (hval 0 54 v0 rfl rfl) h0
  obtain ⟨x1, rfl, rfl, rfl, wx1⟩ := open_int Try.underlying5 (hval 1 5 v1 rfl rfl) h1
  have hc := C6 (f := ff) (h := []) (K := fun v _ => v = .bool true) hk0 hk1 (wf_u8 wx1) fun _ => rfl
  rw [CallP_eq] at hc
  refine (icall_below hc (args' := #[.agg #[.int .u8 kk, .int .u16 ff], .int .u8 x1]) (.cons (VRel.aggL (xs := [.int .u8 kk, .int .u16 ff]) (xs' := [.int .u8 kk, .int .u16 ff]) (.cons (.int _ _) (.cons (.int _ _) .nil)) (by intro x hx; rcases List.mem_cons.1 hx with rfl | hx; exact rfl; rw [List.mem_singleton.1 hx]; rfl)) (.cons (.int _ _) .nil)) (HRel.start _ W) (roH.start)).mono ?_
  rintro e W' ⟨⟨v', r2, rfl, hv'⟩, hb⟩
  rw [hv'.bool_inv]
  exact ⟨_, rfl, post_law Try.laidOut hW' rfl Try.underlying4 (by kernel_rfl) (fun gs' hg => by subst hg; rfl) (by rw [Try.params6]; intro t ht; simp at ht; rcases ht with rfl | rfl <;> exact ⟨by kernel_rfl, of_decide_eq_true (by kernel_rfl)⟩) hb⟩

theorem stitchCartier_holds : Rows.StitchCartierSaid :=
  OpenClaim.holds_of_wide 6 Try.f6 rfl rfl rfl rfl rfl rfl rfl ⟨rfl, rfl, rfl, rfl, rfl⟩ rfl rfl rfl rfl rfl (by kernel_rfl) Try.func6 (by kernel_rfl)
    (of_decide_eq_true (by kernel_rfl)) (by unfold Func.isWrapper; first | (rw [if_pos (by decide +kernel)]; kernel_rfl) | (rw [if_neg (by decide +kernel)]; exact ⟨rfl, rfl⟩))
    (fun os started H enc _ => lifted6 os started H enc)

end Go.Proofs.Ytjdlcokhlphmhaa
