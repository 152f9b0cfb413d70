/-
  The statement MendIndicesSaid, out of the contract of its law: no condition.
-/
import Derived.Test.YtelmdbpaoifmoaaGreatMi7
namespace Go.Proofs.YtelmdbpaoifmoaaGreat
open Go.Sim Go.ChangeShapes Go.WideShapes Go.ChangeAt Go.RowKit

set_option maxRecDepth 100000 in
theorem at4 (os:Os) (started:os.Started) (H:Type) (enc:TypeId×Value→H):
  ReturnsInHanded {} Tryz.checked os 3 .any (Rows.mendIndicesSpec.pre6 enc Tryz.prog Tryz.f3 Rows.mendIndicesRow.domain false) (Rows.mendIndicesSpec.post enc Tryz.prog Tryz.f3 false true false false):=by
 refine returnsInHanded_of_change (C:=Tryz.checked) Tryz.own started (by kernel_rfl) Tryz.func3
  (ChangeSpec.witness6 (enc:=enc) (C:=Tryz.checked) false ⟨#[],#[.agg #[.slice none 0 0,.int .i64 0],.int .i64 0],[]⟩ 8 (by kernel_rfl) (by kernel_rfl) (by kernel_rfl) (by kernel_rfl)) ?_
 intro W base args ds gs before asG hW _ _
 have bQ:∀(j:Nat) t v,Tryz.f3.params[j]?=some t→args[j]?=some v→Value.okWide Tryz.prog W .any base t v:=asG
 have E4:=hW
 obtain ⟨p,q,hA0,hV,rfl,hfz,ng⟩:=hW
 have hA:DataW.TrodAll enc Tryz.prog W 0 (fun _=>true) true Tryz.f3.params.toList args.toList ds p:=hA0
 rw [Tryz.params3] at hA bQ
 obtain ⟨v0,v1,d0,d1,p0,p1,rfl,rfl,rfl,h0,h1⟩:=trodAll_two hA
 obtain ⟨pB,g0,vs0,ls0,w0,l0,H0,R0,r0,q0⟩:=aqO (bQ 0 24 v0 rfl rfl) h0 (aU.start _ W) (ma.start)
 obtain ⟨x1,rfl,rfl,rfl,wx1⟩:=open_int Tryz.underlying3 (bQ 1 3 v1 rfl rfl) h1
 have hc:=C3 (w:=w0) (age:=x1) (K:=fun v _=>v=.bool true) q0 fun _=>rfl
 rw [rJ] at hc
 refine (asQ hc (args':=#[v0,I x1]) (.cons r0 (.cons (.int _ _) .nil)) (H0) (R0)).mono ?_
 rintro e W' ⟨⟨v',r2,rfl,jR⟩,hb⟩
 rw [jR.ve]
 exact ⟨_,rfl,auP Tryz.laidOut E4 rfl Tryz.underlying4 (by kernel_rfl) (fun Mt hg=>by subst hg;rfl) (by rw [Tryz.params3];intro t ht;simp at ht;rcases ht with rfl | rfl <;> exact ⟨by kernel_rfl,of_decide_eq_true (by kernel_rfl)⟩) hb⟩

theorem mendIndices_holds:Rows.MendIndicesSaid:=
 OpenClaim.holds_of_wide 3 Tryz.f3 rfl rfl rfl rfl rfl rfl rfl ⟨rfl,rfl,rfl,rfl,rfl⟩ rfl rfl rfl rfl rfl (by kernel_rfl) Tryz.func3 (by kernel_rfl)
  (of_decide_eq_true (by kernel_rfl)) (by unfold Func.isWrapper;first | (rw [if_pos (by decide+kernel)];kernel_rfl) | (rw [if_neg (by decide+kernel)];exact ⟨rfl,rfl⟩))
  (fun os started H enc _=>at4 os started H enc)

end Go.Proofs.YtelmdbpaoifmoaaGreat

