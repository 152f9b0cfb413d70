/-
  TopCodes, the tied card, out of the contract of its law: no condition.
-/
import Derived.Test.YtncaiogfjjepcaaGreatDoorCards
import Derived.Test.YtncaiogfjjepcaaGreatDoorTie
import Derived.LaidMore
import Derived.Lay
import Derived.SevenTiedAt
import Derived.Stop.Joined
import Derived.Test.YtncaiogfjjepcaaGreatDoorTc5
open Go.Proofs.Tryz (prog)
namespace Go.Proofs.YtncaiogfjjepcaaGreatDoor
section
open Go.Sim Go.ChangeShapes Go.WideShapes Go.ChangeAt Go.RowKit
set_option maxRecDepth 100000
theorem Tryz.own:ownKnob prog.godebug=none:=by kernel_rfl
theorem Tryz.laidOut:laidOutB prog=true:=by kernel_rfl
theorem E0:prog.cellsOf 5=1:=by kernel_rfl
theorem RV {ρ:aD} {h:ae} {e:TypeId} {k:IntKind} {v' v:Value} {ns:List Int} (q:qq h e k v' ns) (r:au ρ v' v):ns.length<=maxLen:=by
 rcases q.2 with ⟨_,h0⟩ | ⟨i,rfl,_⟩
 ·rw [h0];simp
 ·obtain ⟨_,_,_,_,_,_,_,h4,h5,_⟩:=XO r
  omega
section
variable {H : Type} {enc : TypeId × Value -> H} {W : World} {ρ : aD} {h : ae}
theorem apo {b:Nat} {t:TypeId} {e:TypeId} {v:Value} (ht:prog.underlying t=some (.slice e)) (aC:Cell.okWide prog W .any b t v):v.cells.toList=[v]:=by
 simp only [Cell.okWide,ht,Cell.ok] at aC
 cases v <;> simp at aC <;> rfl
theorem wf_u8 {x:Int} (h:(Lit.int .u8 x).wf=true):0<=x/\x<256:=by
 simp [Lit.wf,IntKind.min,IntKind.max,IntKind.signed,IntKind.bits] at h
 omega
theorem P4 {b:Nat} {v:Value} {d:DataW H} {ps:List MemPlace} (aC:Value.okWide prog W .any b 22 v) (hd:DataW.Trod enc prog W 0 (λ_=>true) true 22 v d ps) (HR:aL prog ρ h W) (iJ:lT h):
  ∃(aq:aD) (g:ae) (v':Value) (ns:List Int),ρ.le aq/\aL prog aq (h++g) W/\lT (h++g)/\au aq v' v/\qq (h++g) 5 .u8 v' ns/\∀x∈ns,0<=x/\x<256:=by
 simp only [Value.okWide,Tryz.underlying22] at aC
 obtain ⟨fuel,hf⟩:=hd
 rw [apo Tryz.underlying22 aC] at hf
 obtain ⟨aq,g,v',n,xs,e1,e2,e3,e4,e5,e6,e7,e8,e9⟩:=afS (P:=prog) (W:=W) (enc:=enc) (ρ:=ρ) (h:=h) Tryz.underlying22 (by rw [E0];omega) (apI Tryz.underlying5 E0) hf aC HR iJ
 rw [E0] at e7 e9
 obtain ⟨ns,q1,rfl,q3⟩:=R5 Tryz.underlying5 e7 e9
 subst q1
 exact ⟨aq,g,v',ns,e1,e2,e3,e4,⟨e7,e6⟩,λx hx=>wf_u8 (q3 x hx)⟩
end
theorem Hp:∀{ns:List Int},(∀x∈ns,0<=x/\x<256)->∃bs:List Nat,ns=bs.map (λb:Nat=>(b:Int))/\∀b∈bs,b<256
 | [],_=>⟨[],rfl,λb hb=>by cases hb⟩
 | x::ns,h=>by
  obtain ⟨bs,rfl,h2⟩:=Hp λy hy=>h y (List.mem_cons_of_mem _ hy)
  have hx:=h x List.mem_cons_self
  refine ⟨x.toNat::bs,?_,λb hb=>?_⟩
  ·rw [List.map_cons,Int.toNat_of_nonneg hx.1]
  ·rcases List.mem_cons.1 hb with rfl | hb
   ·omega
   ·exact h2 b hb
theorem aku (os:Os) (started:os.Started) (H:Type) (enc:TypeId×Value->H):
  ReturnsInHanded {} Tryz.checked os 3 .any (λw args=>(Rows.topCodesSpec.pre enc prog Tryz.f3 Rows.topCodesRow.domain false w args/\laidMetH prog Rows.topCodesRow.laid w)/\sizedMet enc prog Tryz.f3 (OpenSpec.ofChange Rows.topCodesSpec) false w args)
   (Rows.topCodesSpec.post enc prog Tryz.f3 false true false false):=by
 refine returnsInHanded_of_change_and (C:=Tryz.checked) (X:=λw _=>laidMetH prog Rows.topCodesRow.laid w) (λ_ _ _ hh h=>h.of_heap hh) Tryz.own started (by kernel_rfl) Tryz.func3
  (ChangeSpec.witness_shaped (enc:=enc) (C:=Tryz.checked) (os:=os) (X:=λw _=>laidMetH prog Rows.topCodesRow.laid w) false (World.laidAll prog os Rows.topCodesRow.laid) #[.slice none 0 0,.slice none 0 0] 8 (World.laidAll_os _ _ _)
   (World.shaped_of_ZipB (by kernel_rfl) (by kernel_rfl)) (by kernel_rfl) (by kernel_rfl) (by kernel_rfl)
   (by rw [MakeChecks.laidMetH_plain _ _ _ (by kernel_rfl)];exact laidMet_laidAll _ (by kernel_rfl) (by kernel_rfl))) ?_
 intro W base args ds gs before aiw hW _ _ _ _
 have dM:∀(j:Nat) t v,Tryz.f3.params[j]?=some t->args[j]?=some v->Value.okWide prog W .any base t v:=aiw
 have Aw:=hW
 obtain ⟨p,q,hA0,hV,rfl,hfz,kW⟩:=hW
 have hA:DataW.TrodAll enc prog W 0 (λ_=>true) true Tryz.f3.params.toList args.toList ds p:=hA0
 rw [Tryz.params3] at hA dM
 obtain ⟨v0,v1,d0,d1,p0,p1,rfl,rfl,rfl,h0,h1⟩:=trodAll_two hA
 obtain ⟨lX,g0,u0,ns0,l0,H0,R0,r0,q0,b0⟩:=P4 (dM 0 22 v0 rfl rfl) h0 (aL.start _ W) (lT.start)
 obtain ⟨kJ,g1,u1,ns1,l1,H1,R1,r1,q1,b1⟩:=P4 (dM 1 22 v1 rfl rfl) h1 H0 R0
 have n0:=RV q0 r0
 have n1:=RV q1 r1
 obtain ⟨bs0,rfl,c0⟩:=Hp b0
 obtain ⟨bs1,rfl,c1⟩:=Hp b1
 rw [List.length_map] at n0 n1
 have hc:=C3 (K:=λv _=>v=.bool true) (λ_=>rfl) (IS.mono (EX.append _ _) q0) c0 n0 q1 c1 n1
 rw [pw] at hc
 refine (aiL hc (args':=#[v0,v1]) (.cons (r0.mono l1) (.cons r1 .nil)) (H1) (R1)).mono ?_
 rintro e W' ⟨⟨v',r2,rfl,jL⟩,hb⟩
 rw [jL.qF]
 exact ⟨_,rfl,alG Tryz.laidOut Aw rfl Tryz.underlying4 (by kernel_rfl) (λFO hg=>by subst hg;rfl) (by rw [Tryz.params3];intro t ht;simp at ht;rcases ht with rfl | rfl <;> exact ⟨by kernel_rfl,of_decide_eq_true (by kernel_rfl)⟩) hb⟩
theorem apF:Rows.TopCodesSaid:=
 OpenClaim.holds_of_wide 3 Tryz.f3 rfl rfl rfl rfl rfl rfl rfl ⟨rfl,rfl,rfl,rfl,rfl⟩ rfl rfl rfl rfl rfl (by kernel_rfl) Tryz.func3 (by kernel_rfl)
  (of_decide_eq_true (by kernel_rfl)) (by unfold Func.isWrapper;first | (rw [if_pos (by decide+kernel)];kernel_rfl) | (rw [if_neg (by decide+kernel)];exact ⟨rfl,rfl⟩))
  (λos started H enc _=>aku os started H enc)
theorem topCodes_holds:Rows.TopCodesCardSaid:=
 Claim7.holds_tied_plain_at .later [] [.data,.pinned] true (true, "d4a5bad2dbae6c8359929eb78e9dd8f30b446b55068189e85b86238e4df6d621") false
  apF (λ_ h=>by cases h) (by kernel_rfl) (λ_ h=>by cases h) topCodes_row_tie rfl ⟨rfl,rfl⟩ (by kernel_rfl) rfl
  (λf fn hf F4=>by
   obtain rfl:f=3:=Option.some.inj ((show prog.funcNamed "pommel/pommeltop.TopCodes" =some 3 by kernel_rfl).symm.trans hf) |>.symm
   obtain rfl:fn=Tryz.f3:=(Option.some.inj (Tryz.func3.symm.trans F4)).symm
   exact ⟨by kernel_rfl,λj t ht=>by
    rw [Tryz.params3] at ht
    rcases j with _ | _ | j
    ·simp at ht;subst ht;kernel_rfl
    ·simp at ht;subst ht;kernel_rfl
    ·simp at ht⟩)
  (by kernel_rfl)
end
end Go.Proofs.YtncaiogfjjepcaaGreatDoor
