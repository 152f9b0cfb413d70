/-
  The statement TopCurrentsSaid, out of the contract of its law: no condition.
-/
import Derived.Test.YtncaiogfjjepcaaGreatRows
import Derived.Test.YtncaiogfjjepcaaGreatTu8
open Go.Proofs.Tryz (prog)
namespace Go.Proofs.YtncaiogfjjepcaaGreat
section
open Go.Sim Go.ChangeShapes Go.WideShapes Go.ChangeAt Go.RowKit
set_option maxRecDepth 100000
theorem Tryz.own:ownKnob prog.godebug=none:=by kernel_rfl
theorem Tryz.laidOut:laidOutB prog=true:=by kernel_rfl
theorem ay2:prog.cellsOf 5=1:=by kernel_rfl
section
variable {H : Type} {enc : TypeId × Value -> H} {W : World} {ρ : bk} {h : ae}
theorem wf_u8 {x:Int} (h:(Lit.int .u8 x).wf=true):0<=x/\x<256:=by
 simp [Lit.wf,IntKind.min,IntKind.max,IntKind.signed,IntKind.bits] at h
 omega
theorem az7 {b:Nat} {v:Value} {d:DataW H} {ps:List MemPlace} (bc:Value.okWide prog W .any b 22 v) (hd:DataW.Trod enc prog W 0 (λ_=>true) true 22 v d ps) (HR:bN prog ρ h W) (lU:pW h):
  ∃(aN:bk) (g:ae) (v':Value) (ns:List Int),ρ.le aN/\bN prog aN (h++g) W/\pW (h++g)/\aK aN v' v/\NS (h++g) v' .u8 ns:=by
 simp only [Value.okWide,Tryz.underlying22] at bc
 obtain ⟨fuel,hf⟩:=hd
 have hv:v.cells.toList=[v]:=by
  have ae0:=bc
  simp only [Cell.okWide,Tryz.underlying22,Cell.ok] at ae0
  cases v <;> simp at ae0 <;> rfl
 rw [hv] at hf
 have key:=az4 (P:=prog) (W:=W) (enc:=enc) (ρ:=ρ) (h:=h) Tryz.underlying22 Tryz.underlying5 ay2 (fuel:=fuel) (v:=v) (x:=(d,ps)) (b:=b)
 obtain ⟨aN,g,v',ns,e1,e2,e3,e4,_,e6,e7⟩:=key hf bc HR lU
 exact ⟨aN,g,v',ns,e1,e2,e3,e4,e6⟩
end
theorem aCS (os:Os) (started:os.Started) (H:Type) (enc:TypeId×Value->H):
  ReturnsInHanded {} Tryz.checked os 3 .any (Rows.topCurrentsSpec.pre6 enc prog Tryz.f3 Rows.topCurrentsRow.domain false) (Rows.topCurrentsSpec.post enc prog Tryz.f3 false true false false):=by
 refine returnsInHanded_of_change (C:=Tryz.checked) Tryz.own started (by kernel_rfl) Tryz.func3
  (ChangeSpec.witness6 (enc:=enc) (C:=Tryz.checked) false ⟨#[],#[.slice none 0 0,.int .u8 0],[]⟩ 8 (by kernel_rfl) (by kernel_rfl) (by kernel_rfl) (by kernel_rfl)) ?_
 intro W base args ds gs before aBG hW _ _
 have dD:∀(j:Nat) t v,Tryz.f3.params[j]?=some t->args[j]?=some v->Value.okWide prog W .any base t v:=aBG
 have HY:=hW
 obtain ⟨p,q,hA0,hV,rfl,hfz,oC⟩:=hW
 have hA:DataW.TrodAll enc prog W 0 (λ_=>true) true Tryz.f3.params.toList args.toList ds p:=hA0
 rw [Tryz.params3] at hA dD
 obtain ⟨v0,v1,d0,d1,p0,p1,rfl,rfl,rfl,h0,h1⟩:=trodAll_two hA
 obtain ⟨ρ0,g0,u0,ns0,l0,H0,R0,r0,q0⟩:=az7 (dD 0 22 v0 rfl rfl) h0 (bN.start _ W) (pW.start)
 obtain ⟨x1,rfl,rfl,rfl,wx1⟩:=open_int Tryz.underlying5 (dD 1 5 v1 rfl rfl) h1
 obtain ⟨QO,hx2⟩:=wf_u8 wx1
 obtain ⟨b,rfl⟩:=Int.eq_ofNat_of_zero_le QO
 have hc:=C3 (b:=b) (K:=λv _=>v=.bool true) (by omega) q0 λ_=>rfl
 rw [xI] at hc
 refine (aBO hc (args':=#[v0,.int .u8 (b:Int)]) (.cons r0 (.cons (.int _ _) .nil)) (H0) (R0)).mono ?_
 rintro e W' ⟨⟨v',r2,rfl,oE⟩,hb⟩
 rw [oE.Aq]
 exact ⟨_,rfl,aDB Tryz.laidOut HY rfl Tryz.underlying4 (by kernel_rfl) (λPN hg=>by subst hg;rfl) (by rw [Tryz.params3];intro t ht;simp at ht;rcases ht with rfl | rfl <;> exact ⟨by kernel_rfl,of_decide_eq_true (by kernel_rfl)⟩) hb⟩
theorem topCurrents_holds:Rows.TopCurrentsSaid:=
 OpenClaim.holds_of_wide 3 Tryz.f3 rfl rfl rfl rfl rfl rfl rfl ⟨rfl,rfl,rfl,rfl,rfl⟩ rfl rfl rfl rfl rfl (by kernel_rfl) Tryz.func3 (by kernel_rfl)
  (of_decide_eq_true (by kernel_rfl)) (by unfold Func.isWrapper;first | (rw [if_pos (by decide+kernel)];kernel_rfl) | (rw [if_neg (by decide+kernel)];exact ⟨rfl,rfl⟩))
  (λos started H enc _=>aCS os started H enc)
end
end Go.Proofs.YtncaiogfjjepcaaGreat
