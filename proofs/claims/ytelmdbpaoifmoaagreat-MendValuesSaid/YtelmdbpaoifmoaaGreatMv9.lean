/-
  The statement MendValuesSaid, out of the contract of its law: no condition.
-/
import Derived.Test.YtelmdbpaoifmoaaGreatMv8
open Go.Proofs.Tryz (prog)
namespace Go.Proofs.YtelmdbpaoifmoaaGreat
section
open Go.Sim Go.ChangeShapes Go.WideShapes Go.ChangeAt Go.RowKit
set_option maxRecDepth 100000 in
theorem aDS (os:Os) (started:os.Started) (H:Type) (enc:TypeId×Value->H):
  ReturnsInHanded {} Tryz.checked os 5 .any (Rows.mendValuesSpec.pre6 enc prog Tryz.f5 Rows.mendValuesRow.domain false) (Rows.mendValuesSpec.post enc prog Tryz.f5 false true false false):=by
 refine returnsInHanded_of_change (C:=Tryz.checked) Tryz.own started (by kernel_rfl) Tryz.func5
  (ChangeSpec.witness6 (enc:=enc) (C:=Tryz.checked) false ⟨#[],#[.slice none 0 0],[]⟩ 8 (by kernel_rfl) (by kernel_rfl) (by kernel_rfl) (by kernel_rfl)) ?_
 intro W base args ds gs before aCn hW _ _
 have cf:∀(j:Nat) t v,Tryz.f5.params[j]?=some t->args[j]?=some v->Value.okWide prog W .any base t v:=aCn
 have Ka:=hW
 obtain ⟨p,q,hA0,hV,rfl,hfz,mW⟩:=hW
 have hA:DataW.TrodAll enc prog W 0 (λ_=>true) true Tryz.f5.params.toList args.toList ds p:=hA0
 rw [Tryz.params5] at hA cf
 obtain ⟨v0,d0,rfl,rfl,h0⟩:=trodAll_one hA
 obtain ⟨sH,g0,u0,cs0,l0,H0,R0,r0,q0⟩:=az9 (cf 0 25 v0 rfl rfl) h0 (a9.start _ W) (mh.start)
 have hc:=C5  (K:=λv _=>v=.bool true) q0 λ_=>rfl
 rw [uc] at hc
 refine (aCx hc (args':=#[v0]) (.cons r0 .nil) (H0) (R0)).mono ?_
 rintro e W' ⟨⟨v',r2,rfl,kD⟩,hb⟩
 rw [kD.zJ]
 exact ⟨_,rfl,aEL Tryz.laidOut Ka rfl Tryz.underlying4 (by kernel_rfl) (λSH hg=>by subst hg;rfl) (by rw [Tryz.params5];intro t ht;simp at ht;rcases ht with rfl <;> exact ⟨by kernel_rfl,of_decide_eq_true (by kernel_rfl)⟩) hb⟩
theorem mendValues_holds:Rows.MendValuesSaid:=
 OpenClaim.holds_of_wide 5 Tryz.f5 rfl rfl rfl rfl rfl rfl rfl ⟨rfl,rfl,rfl,rfl,rfl⟩ rfl rfl rfl rfl rfl (by kernel_rfl) Tryz.func5 (by kernel_rfl)
  (of_decide_eq_true (by kernel_rfl)) (by unfold Func.isWrapper;first | (rw [if_pos (by decide+kernel)];kernel_rfl) | (rw [if_neg (by decide+kernel)];exact ⟨rfl,rfl⟩))
  (λos started H enc _=>aDS os started H enc)
end
end Go.Proofs.YtelmdbpaoifmoaaGreat
