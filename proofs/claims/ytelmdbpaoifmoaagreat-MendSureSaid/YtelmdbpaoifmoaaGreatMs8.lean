/-
  The statement MendSureSaid, out of the contract of its law: no condition.
-/
import Derived.Test.YtelmdbpaoifmoaaGreatMs7
open Go.Proofs.Tryz (prog)
namespace Go.Proofs.YtelmdbpaoifmoaaGreat
section
open Go.Sim Go.ChangeShapes Go.WideShapes Go.ChangeAt Go.RowKit
set_option maxRecDepth 100000 in
theorem azo (os:Os) (started:os.Started) (H:Type) (enc:TypeId×Value→H):
  ReturnsInHanded {} Tryz.checked os 4 .any (Rows.mendSureSpec.pre6 enc prog Tryz.f4 Rows.mendSureRow.domain false) (Rows.mendSureSpec.post enc prog Tryz.f4 false true false false):=by
 refine returnsInHanded_of_change (C:=Tryz.checked) Tryz.own started (by kernel_rfl) Tryz.func4
  (ChangeSpec.witness6 (enc:=enc) (C:=Tryz.checked) false ⟨#[],#[.slice none 0 0],[]⟩ 8 (by kernel_rfl) (by kernel_rfl) (by kernel_rfl) (by kernel_rfl)) ?_
 intro W base args ds gs before ax2 hW _ _
 have ca:∀(j:Nat) t v,Tryz.f4.params[j]?=some t→args[j]?=some v→Value.okWide prog W .any base t v:=ax2
 have I0:=hW
 obtain ⟨p,q,hA0,hV,rfl,hfz,oZ⟩:=hW
 have hA:DataW.TrodAll enc prog W 0 (fun _=>true) true Tryz.f4.params.toList args.toList ds p:=hA0
 rw [Tryz.params4] at hA ca
 obtain ⟨v0,d0,rfl,rfl,h0⟩:=trodAll_one hA
 obtain ⟨sE,g0,u0,bs0,l0,H0,R0,r0,q0,b0⟩:=avX (ca 0 42 v0 rfl rfl) h0 (aX.start _ W) (su.start)
 have hc:=C4  (K:=fun v _=>v=.bool true) q0 b0 fun _=>rfl
 rw [vL] at hc
 refine (ayc hc (args':=#[v0]) (.cons r0 .nil) (H0) (R0)).mono ?_
 rintro e W' ⟨⟨v',r2,rfl,lZ⟩,hb⟩
 rw [lZ.zi]
 exact ⟨_,rfl,aAk Tryz.laidOut I0 rfl Tryz.underlying4 (by kernel_rfl) (fun QG hg=>by subst hg;rfl) (by rw [Tryz.params4];intro t ht;simp at ht;rcases ht with rfl <;> exact ⟨by kernel_rfl,of_decide_eq_true (by kernel_rfl)⟩) hb⟩
theorem mendSure_holds:Rows.MendSureSaid:=
 OpenClaim.holds_of_wide 4 Tryz.f4 rfl rfl rfl rfl rfl rfl rfl ⟨rfl,rfl,rfl,rfl,rfl⟩ rfl rfl rfl rfl rfl (by kernel_rfl) Tryz.func4 (by kernel_rfl)
  (of_decide_eq_true (by kernel_rfl)) (by unfold Func.isWrapper;first | (rw [if_pos (by decide+kernel)];kernel_rfl) | (rw [if_neg (by decide+kernel)];exact ⟨rfl,rfl⟩))
  (fun os started H enc _=>azo os started H enc)
end
end Go.Proofs.YtelmdbpaoifmoaaGreat
