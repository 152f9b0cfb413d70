/-
  The tied card of MarkClear, out of the contract of its law: no condition.
-/
import Derived.Test.YthplaillblmgfaaGreatDoorClear7
namespace Go.Proofs.YthplaillblmgfaaGreatDoor
open Go.Sim Go.ChangeShapes Go.WideShapes Go.ChangeAt Go.RowKit

set_option maxRecDepth 100000 in
theorem lifted5 (os : Os) (started : os.Started) (H : Type) (enc : TypeId × Value → H) :
    ReturnsInHanded {} Tryz.checked os 5 .any (fun w args => (Rows.markClearSpec.pre enc Tryz.prog Tryz.f5 Rows.markClearRow.domain false w args ∧ laidMetH Tryz.prog Rows.markClearRow.laid w) ∧ sizedMet enc Tryz.prog Tryz.f5 (OpenSpec.ofChange Rows.markClearSpec) false w args)
      (Rows.markClearSpec.post enc Tryz.prog Tryz.f5 false true false false) := by
  refine returnsInHanded_of_change_and (C := Tryz.checked) (X := fun w _ => laidMetH Tryz.prog Rows.markClearRow.laid w) (fun _ _ _ hh h => h.of_heap hh) Tryz.own started (by kernel_rfl) Tryz.func5
    (ChangeSpec.witness_shaped (enc := enc) (C := Tryz.checked) (os := os) (X := fun w _ => laidMetH Tryz.prog Rows.markClearRow.laid w) false (World.laidAll Tryz.prog os Rows.markClearRow.laid) #[.slice none 0 0, .slice none 0 0, .slice none 0 0] 8 (World.laidAll_os _ _ _)
      (World.shaped_of_ZipB (by kernel_rfl) (by kernel_rfl)) (by kernel_rfl) (by kernel_rfl) (by kernel_rfl)
      (by rw [MakeChecks.laidMetH_plain _ _ _ (by kernel_rfl)]; exact laidMet_laidAll _ (by kernel_rfl) (by kernel_rfl))) ?_
  intro W base args ds gs before hval0 hW _ _ _ _
  have hval : ∀ (j : Nat) t v, Tryz.f5.params[j]? = some t → args[j]? = some v → Value.okWide Tryz.prog W .any base t v := hval0
  have hW' := hW
  obtain ⟨p, q, hA0, hV, rfl, hfz, hnd⟩ := hW
  have hA : DataW.TrodAll enc Tryz.prog W 0 (fun _ => true) true Tryz.f5.params.toList args.toList ds p := hA0
  rw [Tryz.params5] at hA hval
  obtain ⟨v0, v1, v2, d0, d1, d2, p0, p1, p2, rfl, rfl, rfl, h0, h1, h2⟩ := trodAll_three hA
  obtain ⟨ρ0, g0, u0, ns0, l0, H0, R0, r0, q0, b0⟩ := emb_u16s (hval 0 22 v0 rfl rfl) h0 (HRel.start _ W) (roH.start)
  obtain ⟨ρ1, g1, u1, ns1, l1, H1, R1, r1, q1, b1⟩ := emb_u8s (hval 1 23 v1 rfl rfl) h1 H0 R0
  obtain ⟨ρ2, g2, u2, ns2, l2, H2, R2, r2', q2, b2⟩ := emb_u8s (hval 2 23 v2 rfl rfl) h2 H1 R1
  have hc := C5 (K := fun v _ => v = .bool true) (IS.mono ((EX.append _ _).trans (EX.append _ _)) q0) (ins_le q0 r0) b0 (IS.mono (EX.append _ _) q1) b1 q2 b2 fun _ => rfl
  rw [CallP_eq] at hc
  refine (icall_below hc (args' := #[v0, v1, v2]) (.cons ((r0.mono l1).mono l2) (.cons (r1.mono l2) (.cons r2' .nil))) (H2) (R2)).mono ?_
  rintro e W' ⟨⟨v', r2, rfl, hv'⟩, hb⟩
  rw [hv'.bool_inv]
  exact ⟨_, rfl, post_law Tryz.laidOut hW' rfl Tryz.underlying4 (by kernel_rfl) (fun gs' hg => by subst hg; rfl) (by rw [Tryz.params5]; intro t ht; simp at ht; rcases ht with rfl | rfl | rfl <;> exact ⟨by kernel_rfl, of_decide_eq_true (by kernel_rfl)⟩) hb⟩

theorem markClear_row : Rows.MarkClearSaid :=
  OpenClaim.holds_of_wide 5 Tryz.f5 rfl rfl rfl rfl rfl rfl rfl ⟨rfl, rfl, rfl, rfl, rfl⟩ rfl rfl rfl rfl rfl (by kernel_rfl) Tryz.func5 (by kernel_rfl)
    (of_decide_eq_true (by kernel_rfl)) (by unfold Func.isWrapper; first | (rw [if_pos (by decide +kernel)]; kernel_rfl) | (rw [if_neg (by decide +kernel)]; exact ⟨rfl, rfl⟩))
    (fun os started H enc _ => lifted5 os started H enc)

theorem markClear_holds : Rows.MarkClearCardSaid :=
  Claim7.holds_tied_plain_at .later [] [.data, .pinned] true (true, "151bbcfb615bdd1ae1367ca4eae01f713151ec656359a384369b36c7cff94c80") false
    markClear_row (fun _ h => by cases h) (by kernel_rfl) (fun _ h => by cases h) markClear_row_tie rfl ⟨rfl, rfl⟩ (by kernel_rfl) rfl
    (fun f fn hf hfn => by
      obtain rfl : f = 5 := Option.some.inj ((show Tryz.prog.funcNamed "pommel/pommellaw08.MarkClear" = some 5 by kernel_rfl).symm.trans hf) |>.symm
      obtain rfl : fn = Tryz.f5 := (Option.some.inj (Tryz.func5.symm.trans hfn)).symm
      exact ⟨by kernel_rfl, fun j t ht => by
        rw [Tryz.params5] at ht
        rcases j with _ | _ | _ | j
        · simp at ht; subst ht; kernel_rfl
        · simp at ht; subst ht; kernel_rfl
        · simp at ht; subst ht; kernel_rfl
        · simp at ht⟩)
    (by kernel_rfl)

end Go.Proofs.YthplaillblmgfaaGreatDoor

