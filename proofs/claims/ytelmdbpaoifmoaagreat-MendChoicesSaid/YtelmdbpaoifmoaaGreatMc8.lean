/-
  The statement MendChoicesSaid, out of the contract of its law: no condition.
-/
import Derived.Test.YtelmdbpaoifmoaaGreatMc7
namespace Go.Proofs.YtelmdbpaoifmoaaGreat
open Go.Sim Go.ChangeShapes Go.WideShapes Go.ChangeAt Go.RowKit

set_option maxRecDepth 100000 in
theorem auN (os:Os) (started:os.Started) (H:Type) (enc:TypeId×Value→H):
  ReturnsInHanded {} Tryz.checked os 9 .any (Rows.mendChoicesSpec.pre6 enc Tryz.prog Tryz.f9 Rows.mendChoicesRow.domain false) (Rows.mendChoicesSpec.post enc Tryz.prog Tryz.f9 false true false false):=by
 refine returnsInHanded_of_change (C:=Tryz.checked) Tryz.own started (by kernel_rfl) Tryz.func9
  (ChangeSpec.witness6 (enc:=enc) (C:=Tryz.checked) false ⟨#[],#[.slice none 0 0,.slice none 0 0],[]⟩ 8 (by kernel_rfl) (by kernel_rfl) (by kernel_rfl) (by kernel_rfl)) ?_
 intro W base args ds gs before atm hW _ _
 have bS:∀(j:Nat) t v,Tryz.f9.params[j]?=some t→args[j]?=some v→Value.okWide Tryz.prog W .any base t v:=atm
 have Fp:=hW
 obtain ⟨p,q,hA0,hV,rfl,hfz,ny⟩:=hW
 have hA:DataW.TrodAll enc Tryz.prog W 0 (fun _=>true) true Tryz.f9.params.toList args.toList ds p:=hA0
 rw [Tryz.params9] at hA bS
 obtain ⟨v0,v1,d0,d1,p0,p1,rfl,rfl,rfl,h0,h1⟩:=trodAll_two hA
 obtain ⟨pT,g0,u0,cs0,l0,H0,R0,r0,q0⟩:=aru (bS 0 25 v0 rfl rfl) h0 (aT.start _ W) (iG.start)
 obtain ⟨lP,g1,u1,ns1,l1,H1,R1,r1,q1⟩:=arw (bS 1 33 v1 rfl rfl) h1 (H0) (R0)
 have hc:=C9  (K:=fun v _=>v=.bool true) (jC.mono (EX.append _ _) q0) q1 fun _=>rfl
 rw [sj] at hc
 refine (atw hc (args':=#[v0,v1]) (.cons (r0.mono l1) (.cons r1 .nil)) (H1) (R1)).mono ?_
 rintro e W' ⟨⟨v',r2,rfl,iS⟩,hb⟩
 rw [iS.vC]
 exact ⟨_,rfl,avy Tryz.laidOut Fp rfl Tryz.underlying4 (by kernel_rfl) (fun MT hg=>by subst hg;rfl) (by rw [Tryz.params9];intro t ht;simp at ht;rcases ht with rfl | rfl <;> exact ⟨by kernel_rfl,of_decide_eq_true (by kernel_rfl)⟩) hb⟩

theorem mendChoices_holds:Rows.MendChoicesSaid:=
 OpenClaim.holds_of_wide 9 Tryz.f9 rfl rfl rfl rfl rfl rfl rfl ⟨rfl,rfl,rfl,rfl,rfl⟩ rfl rfl rfl rfl rfl (by kernel_rfl) Tryz.func9 (by kernel_rfl)
  (of_decide_eq_true (by kernel_rfl)) (by unfold Func.isWrapper;first | (rw [if_pos (by decide+kernel)];kernel_rfl) | (rw [if_neg (by decide+kernel)];exact ⟨rfl,rfl⟩))
  (fun os started H enc _=>auN os started H enc)

end Go.Proofs.YtelmdbpaoifmoaaGreat

