/-
  The statement MendUnitsSaid, out of the contract of its law: no condition.
-/
import Derived.Test.YtelmdbpaoifmoaaGreatMu7
open Go.Proofs.Tryz (prog)
namespace Go.Proofs.YtelmdbpaoifmoaaGreat
section
open Go.Sim Go.ChangeShapes Go.WideShapes Go.ChangeAt Go.RowKit
set_option maxRecDepth 100000 in
theorem ay1 (os:Os) (started:os.Started) (H:Type) (enc:TypeId×Value→H):
  ReturnsInHanded {} Tryz.checked os 10 .any (Rows.mendUnitsSpec.pre6 enc prog Tryz.f10 Rows.mendUnitsRow.domain false) (Rows.mendUnitsSpec.post enc prog Tryz.f10 false true false false):=by
 refine returnsInHanded_of_change (C:=Tryz.checked) Tryz.own started (by kernel_rfl) Tryz.func10
  (ChangeSpec.witness6 (enc:=enc) (C:=Tryz.checked) false ⟨#[],#[.agg #[.int .u8 0,.slice none 0 0,.slice none 0 0,.slice none 0 0,.int .u8 0,.int .u8 0,.int .u8 0],.int .u8 0,.agg #[.int .u8 0,.int .u8 0,.int .u8 0]],[]⟩ 8 (by kernel_rfl) (by kernel_rfl) (by kernel_rfl) (by kernel_rfl)) ?_
 intro W base args ds gs before axy hW _ _
 have bU:∀(j:Nat) t v,Tryz.f10.params[j]?=some t→args[j]?=some v→Value.okWide prog W .any base t v:=axy
 have IZ:=hW
 obtain ⟨p,q,hA0,hV,rfl,hfz,ph⟩:=hW
 have hA:DataW.TrodAll enc prog W 0 (fun _=>true) true Tryz.f10.params.toList args.toList ds p:=hA0
 rw [Tryz.params10] at hA bU
 obtain ⟨v0,v1,v2,d0,d1,d2,p0,p1,p2,rfl,rfl,rfl,h0,h1,h2⟩:=trodAll_three hA
 obtain ⟨sD,g0,t0,n0,ns0,ws0,l0,H0,R0,r0,q0⟩:=avy (bU 0 61 v0 rfl rfl) h0 (aY.start _ W) (qo.start)
 obtain ⟨x1,rfl,rfl,rfl,wx1⟩:=open_int Tryz.underlying5 (bU 1 5 v1 rfl rfl) h1
 obtain ⟨a0,a1,a2,rfl,wa0,wa1,wa2⟩:=avz (bU 2 59 v2 rfl rfl) h2
 have hc:=C3  (K:=fun v _=>v=.bool true) q0 (wf_u8 wx1) wa0 wa1 wa2 fun _=>rfl
 rw [uY] at hc
 refine (axI hc (args':=#[v0,.int .u8 x1,.agg #[.int .u8 a0,.int .u8 a1,.int .u8 a2]]) (.cons r0 (.cons (.int _ _) (.cons (ax.yB (xs:=[.int .u8 a0,.int .u8 a1,.int .u8 a2]) (xs':=[.int .u8 a0,.int .u8 a1,.int .u8 a2]) (.cons (.int _ _) (.cons (.int _ _) (.cons (.int _ _) .nil))) (by intro x hx;simp only [List.mem_cons,List.not_mem_nil,or_false] at hx;rcases hx with rfl | rfl | rfl <;> rfl)) .nil))) (H0) (R0)).mono ?_
 rintro e W' ⟨⟨v',r2,rfl,jI⟩,hb⟩
 rw [jI.yJ]
 exact ⟨_,rfl,az8 Tryz.laidOut IZ rfl Tryz.underlying4 (by kernel_rfl) (fun QE hg=>by subst hg;rfl) (by rw [Tryz.params10];intro t ht;simp at ht;rcases ht with rfl | rfl | rfl <;> exact ⟨by kernel_rfl,of_decide_eq_true (by kernel_rfl)⟩) hb⟩
theorem mendUnits_holds:Rows.MendUnitsSaid:=
 OpenClaim.holds_of_wide 10 Tryz.f10 rfl rfl rfl rfl rfl rfl rfl ⟨rfl,rfl,rfl,rfl,rfl⟩ rfl rfl rfl rfl rfl (by kernel_rfl) Tryz.func10 (by kernel_rfl)
  (of_decide_eq_true (by kernel_rfl)) (by unfold Func.isWrapper;first | (rw [if_pos (by decide+kernel)];kernel_rfl) | (rw [if_neg (by decide+kernel)];exact ⟨rfl,rfl⟩))
  (fun os started H enc _=>ay1 os started H enc)
end
end Go.Proofs.YtelmdbpaoifmoaaGreat
