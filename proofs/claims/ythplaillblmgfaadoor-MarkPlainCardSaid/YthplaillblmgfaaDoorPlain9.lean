/-
  The tied card of MarkPlain, out of the contract of its law: no condition.
-/
import Derived.Test.YthplaillblmgfaaDoorPlain8
namespace Go.Proofs.YthplaillblmgfaaDoor
open Go.Sim Go.ChangeShapes Go.WideShapes Go.ChangeAt Go.RowKit

set_option maxRecDepth 100000 in
theorem lifted8 (os : Os) (started : os.Started) (H : Type) (enc : TypeId × Value → H) :
    ReturnsInHanded {} Tryd.checked os 8 .any (fun w args => (Rows.markPlainSpec.pre enc Tryd.prog Tryd.f8 Rows.markPlainRow.domain false w args ∧ laidMetH Tryd.prog Rows.markPlainRow.laid w) ∧ sizedMet enc Tryd.prog Tryd.f8 (OpenSpec.ofChange Rows.markPlainSpec) false w args)
      (Rows.markPlainSpec.post enc Tryd.prog Tryd.f8 false true false false) := by
  refine returnsInHanded_of_change_and (C := Tryd.checked) (X := fun w _ => laidMetH Tryd.prog Rows.markPlainRow.laid w) (fun _ _ _ hh h => h.of_heap hh) Tryd.own started (by kernel_rfl) Tryd.func8
    (ChangeSpec.witness_shaped (enc := enc) (C := Tryd.checked) (os := os) (X := fun w _ => laidMetH Tryd.prog Rows.markPlainRow.laid w) false (World.laidAll Tryd.prog os Rows.markPlainRow.laid) #[.slice none 0 0] 8 (World.laidAll_os _ _ _)
      (World.shaped_of_ZipB (by kernel_rfl) (by kernel_rfl)) (by kernel_rfl) (by kernel_rfl) (by kernel_rfl)
      (by rw [MakeChecks.laidMetH_plain _ _ _ (by kernel_rfl)]; exact laidMet_laidAll _ (by kernel_rfl) (by kernel_rfl))) ?_
  intro W base args ds gs before hval0 hW _ _ _ _
  have hval : ∀ (j : Nat) t v, Tryd.f8.params[j]? = some t → args[j]? = some v → Value.okWide Tryd.prog W .any base t v := hval0
  have hW' := hW
  obtain ⟨p, q, hA0, hV, rfl, hfz, hnd⟩ := hW
  have hA : DataW.TrodAll enc Tryd.prog W 0 (fun _ => true) true Tryd.f8.params.toList args.toList ds p := hA0
  rw [Tryd.params8] at hA hval
  obtain ⟨v0, d0, rfl, rfl, h0⟩ := trodAll_one hA
  obtain ⟨ρ0, g0, u0, ns0, l0, H0, R0, r0, q0, b0⟩ := emb_u16s (hval 0 33 v0 rfl rfl) h0 (HRel.start _ W) (roH.start)
  have hc := C8 (K := fun v _ => v = .bool true) q0 (ins_le q0 r0) b0 fun _ => rfl
  rw [CallP_eq] at hc
  refine (icall_below hc (args' := #[v0]) (.cons r0 .nil) (H0) (R0)).mono ?_
  rintro e W' ⟨⟨v', r2, rfl, hv'⟩, hb⟩
  rw [hv'.bool_inv]
  exact ⟨_, rfl, post_law Tryd.laidOut hW' rfl Tryd.underlying4 (by kernel_rfl) (fun gs' hg => by subst hg; rfl) (by rw [Tryd.params8]; intro t ht; simp at ht; rcases ht with rfl <;> exact ⟨by kernel_rfl, of_decide_eq_true (by kernel_rfl)⟩) hb⟩

theorem markPlain_row : Rows.MarkPlainSaid :=
  OpenClaim.holds_of_wide 8 Tryd.f8 rfl rfl rfl rfl rfl rfl rfl ⟨rfl, rfl, rfl, rfl, rfl⟩ rfl rfl rfl rfl rfl (by kernel_rfl) Tryd.func8 (by kernel_rfl)
    (of_decide_eq_true (by kernel_rfl)) (by unfold Func.isWrapper; first | (rw [if_pos (by decide +kernel)]; kernel_rfl) | (rw [if_neg (by decide +kernel)]; exact ⟨rfl, rfl⟩))
    (fun os started H enc _ => lifted8 os started H enc)

theorem markPlain_holds : Rows.MarkPlainCardSaid :=
  Claim7.holds_tied_plain_at .later [] [.data, .pinned] true (true, "08d0badc38f509602eac09781e0f749f17ba516ba793218bbab83db2a0378140") false
    markPlain_row (fun _ h => by cases h) (by kernel_rfl) (fun _ h => by cases h) markPlain_row_tie rfl ⟨rfl, rfl⟩ (by kernel_rfl) rfl
    (fun f fn hf hfn => by
      obtain rfl : f = 8 := Option.some.inj ((show Tryd.prog.funcNamed "pommel/pommellaw08.MarkPlain" = some 8 by kernel_rfl).symm.trans hf) |>.symm
      obtain rfl : fn = Tryd.f8 := (Option.some.inj (Tryd.func8.symm.trans hfn)).symm
      exact ⟨by kernel_rfl, fun j t ht => by
        rw [Tryd.params8] at ht
        rcases j with _ | j
        · simp at ht; subst ht; kernel_rfl
        · simp at ht⟩)
    (by kernel_rfl)

end Go.Proofs.YthplaillblmgfaaDoor

