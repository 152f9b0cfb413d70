/-
  The tied card of StitchParts, out of the contract of its law: no condition.
-/
import Derived.Test.YtlpdhfdpnakgdaaDoorSp4
namespace Go.Proofs.YtlpdhfdpnakgdaaDoor
section
open Go.Sim Go.ChangeShapes Go.WideShapes Go.ChangeAt Go.RowKit
set_option maxRecDepth 100000 in
theorem Jj (os:Os) (started:os.Started) (H:Type) (enc:TypeId×Value->H):
  ReturnsInHanded {} Tryd.checked os 3 .any (λw args=>(Rows.stitchPartsSpec.pre enc Tryd.prog Tryd.f3 Rows.stitchPartsRow.domain false w args/\laidMetH Tryd.prog Rows.stitchPartsRow.laid w)/\sizedMet enc Tryd.prog Tryd.f3 (OpenSpec.ofChange Rows.stitchPartsSpec) false w args)
   (Rows.stitchPartsSpec.post enc Tryd.prog Tryd.f3 false true false false):=by
 refine returnsInHanded_of_change_and (C:=Tryd.checked) (X:=λw _=>laidMetH Tryd.prog Rows.stitchPartsRow.laid w) (λ_ _ _ hh h=>h.of_heap hh) Tryd.own started (by kernel_rfl) Tryd.func3
  (ChangeSpec.witness_shaped (enc:=enc) (C:=Tryd.checked) (os:=os) (X:=λw _=>laidMetH Tryd.prog Rows.stitchPartsRow.laid w) false (World.laidAll Tryd.prog os Rows.stitchPartsRow.laid) #[.agg #[.int .i64 0,.slice none 0 0],.string ⟨#[]⟩] 8 (World.laidAll_os _ _ _)
   (World.shaped_of_ZipB (by kernel_rfl) (by kernel_rfl)) (by kernel_rfl) (by kernel_rfl) (by kernel_rfl)
   (by rw [MakeChecks.laidMetH_plain _ _ _ (by kernel_rfl)];exact laidMet_laidAll _ (by kernel_rfl) (by kernel_rfl))) ?_
 intro W base args ds gs before Im hW _ _ _ _
 have ie:∀(j:Nat) t v,Tryd.f3.params[j]?=some t->args[j]?=some v->Value.okWide Tryd.prog W .any base t v:=Im
 have qF:=hW
 obtain ⟨p,q,GL,hV,rfl,MC,hX⟩:=hW
 have hA:DataW.TrodAll enc Tryd.prog W 0 (λ_=>true) true Tryd.f3.params.toList args.toList ds p:=GL
 rw [Tryd.params3] at hA ie
 obtain ⟨v0,v1,d0,d1,p0,p1,rfl,rfl,rfl,h0,h1⟩:=trodAll_two hA
 obtain ⟨M0,g0,k,pv,qs,l0,H0,R0,r0,q0⟩:=Gh (ie 0 24 v0 rfl rfl) h0 (ar.start _ W) (gS.start)
 obtain ⟨x1,rfl⟩:=Gg Tryd.underlying9 (ie 1 9 v1 rfl rfl) h1
 have hc:=C3 (k:=k) (x:=x1) (K:=λv _=>v=.bool true) q0 λ_=>rfl
 rw [iY] at hc
 refine (zU hc (args':=#[v0,S x1]) (.cons r0 (.cons (.S _ _) .nil)) (H0) (R0)).mono ?_
 rintro e W' ⟨⟨v',r2,rfl,gl⟩,hb⟩
 rw [gl.me]
 exact ⟨_,rfl,JF Tryd.laidOut qF rfl Tryd.underlying4 (by kernel_rfl) (λtN hg=>by subst hg;rfl) (by rw [Tryd.params3];intro t ht;simp at ht;rcases ht with rfl | rfl <;> exact ⟨by kernel_rfl,of_decide_eq_true (by kernel_rfl)⟩) hb⟩
theorem LP:Rows.StitchPartsSaid:=
 OpenClaim.holds_of_wide 3 Tryd.f3 rfl rfl rfl rfl rfl rfl rfl ⟨rfl,rfl,rfl,rfl,rfl⟩ rfl rfl rfl rfl rfl (by kernel_rfl) Tryd.func3 (by kernel_rfl)
  (of_decide_eq_true (by kernel_rfl)) (by unfold Func.isWrapper;first | (rw [if_pos (by decide+kernel)];kernel_rfl) | (rw [if_neg (by decide+kernel)];exact ⟨rfl,rfl⟩))
  (λos started H enc _=>Jj os started H enc)
theorem stitchParts_holds:Rows.StitchPartsCardSaid:=
 Claim7.holds_tied_plain_at .later [] [.data,.pinned] true (true, "9685f2328ae214f9566e2eec5f7a5e9ba4033e3c63b22f94181db941a3aaf557") false
  LP (λ_ h=>by cases h) (by kernel_rfl) (λ_ h=>by cases h) stitchParts_row_tie rfl ⟨rfl,rfl⟩ (by kernel_rfl) rfl
  (λf fn hf tW=>by
   obtain rfl:f=3:=Option.some.inj ((show Tryd.prog.funcNamed "pommel/pommellaw03.StitchParts" =some 3 by kernel_rfl).symm.trans hf) |>.symm
   obtain rfl:fn=Tryd.f3:=(Option.some.inj (Tryd.func3.symm.trans tW)).symm
   exact ⟨by kernel_rfl,λj t ht=>by
    rw [Tryd.params3] at ht
    rcases j with _ | _ | j
    ·simp at ht;subst ht;kernel_rfl
    ·simp at ht;subst ht;kernel_rfl
    ·simp at ht⟩)
  (by kernel_rfl)
end
end Go.Proofs.YtlpdhfdpnakgdaaDoor
