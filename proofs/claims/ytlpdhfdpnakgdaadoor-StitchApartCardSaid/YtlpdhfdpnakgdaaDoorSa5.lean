/-
  The tied card of StitchApart, out of the contract of its law: no condition.
-/
import Derived.Test.YtlpdhfdpnakgdaaDoorSa4
namespace Go.Proofs.YtlpdhfdpnakgdaaDoor
section
open Go.Sim Go.ChangeShapes Go.WideShapes Go.ChangeAt Go.RowKit
set_option maxRecDepth 100000 in
theorem Lc (os:Os) (started:os.Started) (H:Type) (enc:TypeId×Value->H):
  ReturnsInHanded {} Tryd.checked os 4 .any (λw args=>(Rows.stitchApartSpec.pre enc Tryd.prog Tryd.f4 Rows.stitchApartRow.domain false w args/\laidMetH Tryd.prog Rows.stitchApartRow.laid w)/\sizedMet enc Tryd.prog Tryd.f4 (OpenSpec.ofChange Rows.stitchApartSpec) false w args)
   (Rows.stitchApartSpec.post enc Tryd.prog Tryd.f4 false true false false):=by
 refine returnsInHanded_of_change_and (C:=Tryd.checked) (X:=λw _=>laidMetH Tryd.prog Rows.stitchApartRow.laid w) (λ_ _ _ hh h=>h.of_heap hh) Tryd.own started (by kernel_rfl) Tryd.func4
  (ChangeSpec.witness_shaped (enc:=enc) (C:=Tryd.checked) (os:=os) (X:=λw _=>laidMetH Tryd.prog Rows.stitchApartRow.laid w) false (World.laidAll Tryd.prog os Rows.stitchApartRow.laid) #[.agg #[.int .u8 0,.int .u16 0],.slice none 0 0] 8 (World.laidAll_os _ _ _)
   (World.shaped_of_ZipB (by kernel_rfl) (by kernel_rfl)) (by kernel_rfl) (by kernel_rfl) (by kernel_rfl)
   (by rw [MakeChecks.laidMetH_plain _ _ _ (by kernel_rfl)];exact laidMet_laidAll _ (by kernel_rfl) (by kernel_rfl))) ?_
 intro W base args ds gs before Kb hW _ _ _ _
 have iM:∀(j:Nat) t v,Tryd.f4.params[j]?=some t->args[j]?=some v->Value.okWide Tryd.prog W .any base t v:=Kb
 have rq:=hW
 obtain ⟨p,q,IE,hV,rfl,Pe,iI⟩:=hW
 have hA:DataW.TrodAll enc Tryd.prog W 0 (λ_=>true) true Tryd.f4.params.toList args.toList ds p:=IE
 rw [Tryd.params4] at hA iM
 obtain ⟨v0,v1,d0,d1,p0,p1,rfl,rfl,rfl,h0,h1⟩:=trodAll_two hA
 obtain ⟨kk,ff,rfl,oY,vt⟩:=HV (iM 0 39 v0 rfl rfl) h0
 obtain ⟨qh,g1,u1,PE,l1,H1,R1,r1,q1,b1⟩:=H4 (iM 1 40 v1 rfl rfl) h1 (av.start _ W) (gp.start)
 have hc:=C4 (f:=ff) (K:=λv _=>v=.bool true) oY vt q1 b1 λ_=>rfl
 rw [iu] at hc
 refine (BA hc (args':=#[.agg #[.int .u8 kk,.int .u16 ff],v1]) (.cons (af.oq (xs:=[.int .u8 kk,.int .u16 ff]) (xs':=[.int .u8 kk,.int .u16 ff]) (.cons (.int _ _) (.cons (.int _ _) .nil)) (by intro x hx;rcases List.mem_cons.1 hx with rfl | hx;exact rfl;rw [List.mem_singleton.1 hx];rfl)) (.cons r1 .nil)) (H1) (R1)).mono ?_
 rintro e W' ⟨⟨v',r2,rfl,gP⟩,hb⟩
 rw [gP.mX]
 exact ⟨_,rfl,LH Tryd.laidOut rq rfl Tryd.underlying4 (by kernel_rfl) (λvc hg=>by subst hg;rfl) (by rw [Tryd.params4];intro t ht;simp at ht;rcases ht with rfl | rfl <;> exact ⟨by kernel_rfl,of_decide_eq_true (by kernel_rfl)⟩) hb⟩
theorem N0:Rows.StitchApartSaid:=
 OpenClaim.holds_of_wide 4 Tryd.f4 rfl rfl rfl rfl rfl rfl rfl ⟨rfl,rfl,rfl,rfl,rfl⟩ rfl rfl rfl rfl rfl (by kernel_rfl) Tryd.func4 (by kernel_rfl)
  (of_decide_eq_true (by kernel_rfl)) (by unfold Func.isWrapper;first | (rw [if_pos (by decide+kernel)];kernel_rfl) | (rw [if_neg (by decide+kernel)];exact ⟨rfl,rfl⟩))
  (λos started H enc _=>Lc os started H enc)
theorem stitchApart_holds:Rows.StitchApartCardSaid:=
 Claim7.holds_tied_plain_at .later [] [.data,.pinned] true (true, "9685f2328ae214f9566e2eec5f7a5e9ba4033e3c63b22f94181db941a3aaf557") false
  N0 (λ_ h=>by cases h) (by kernel_rfl) (λ_ h=>by cases h) stitchApart_row_tie rfl ⟨rfl,rfl⟩ (by kernel_rfl) rfl
  (λf fn hf vm=>by
   obtain rfl:f=4:=Option.some.inj ((show Tryd.prog.funcNamed "pommel/pommellaw03.StitchApart" =some 4 by kernel_rfl).symm.trans hf) |>.symm
   obtain rfl:fn=Tryd.f4:=(Option.some.inj (Tryd.func4.symm.trans vm)).symm
   exact ⟨by kernel_rfl,λj t ht=>by
    rw [Tryd.params4] at ht
    rcases j with _ | _ | j
    ·simp at ht;subst ht;kernel_rfl
    ·simp at ht;subst ht;kernel_rfl
    ·simp at ht⟩)
  (by kernel_rfl)
end
end Go.Proofs.YtlpdhfdpnakgdaaDoor
