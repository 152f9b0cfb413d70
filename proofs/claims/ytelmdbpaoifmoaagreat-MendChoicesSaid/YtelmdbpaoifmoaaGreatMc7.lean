/-
  Part 7 of the texts behind a statement of this seat: Kp13, Kp14, Kq1, ZN8, Kq2, Kq3, Kq4, Kq5, Kq6, ZNA, Kr3, Kq7, Kq8, Kr1, Kr2, Kr4, Kr5.
-/
import Derived.Test.YtelmdbpaoifmoaaGreatProg
import Derived.KernelRfl
import Derived.Test.YtelmdbpaoifmoaaGreatMc6
namespace Go.Proofs.YtelmdbpaoifmoaaGreat
open Go.Sim

section
variable {h : ae} {K : Value → ae → Prop}

theorem zm {g:ae} {i:Nat} (hi:g[i]?=some (.arr 107 z4)):dH g (pt i 0)=some (.agg #[.int .i64 107,.bool false,.slice none 0 0,.bool false,.slice none 0 0]):=by
 simp [dH,wQ,hi,mI,qM]

theorem zX {g:ae} {i:Nat} {v:Value} {q:Rat} (hg:g[i]?=some (.arr 107 z4)) (hv:RV g v q):∃g',aI 4 g (pt i 0) v=some (undef,g')∧vk g g' i q:=LX (s:=false) (b:=.slice none 0 0) (c:=.bool false) (d:=.slice none 0 0) hg hv
theorem Cell.store {g:ae} {i:Nat} {v:Value} {p q:Rat} (c:Cell g i p) (hv:RV g v q):∃g',aI 4 g (pt i 0) v=some (undef,g')∧vk g g' i q:=by
 obtain ⟨a,b,e,d,k,_⟩:=c
 exact LX (s:=a) k hv

structure u9 (h g:ae) (ij ix ib id iw:Nat) (qs:List Rat) (w:Int) (vq:Value) (s:JA):Prop where
 ex:EX h g
 Gb:g[ij]?=some (.arr 102 [I qs.length,I w,vq])
 out:g[ix]?=some (.arr 107 z4)
 aZ:Cell g ib s.aZ
 done:Cell g id s.done
 iK:Cell g iw s.iK

theorem u9.mono {h g g':ae} {ij ix ib id iw:Nat} {qs:List Rat} {w:Int} {vq:Value} {s:JA} (x:EX g g') (p:u9 h g ij ix ib id iw qs w vq s):u9 h g' ij ix ib id iw qs w vq s:=
 ⟨p.ex.trans x,x.get p.Gb,x.get p.out,p.aZ.mono x,p.done.mono x,p.iK.mono x⟩

theorem ajd {ij ix ib id iw:Nat} {qs:List Rat} {w:Int} {vq:Value} {age:Nat} {g0:ae} (hq:QL h vq qs) (aB:dB qs w=true) (A4:age<qs.length)
  (b1:h.length≤ix∧h.length≤ib∧h.length≤id∧h.length≤iw) (d1:ij≠ib∧ij≠id∧ij≠iw) (d2:ix≠ib∧ix≠id∧ix≠iw) (d3:ib≠id∧ib≠iw∧id≠iw)
  (hi:u9 h g0 ij ix ib id iw qs w vq (bT qs w age 0))
  (hk:∀r h',EX h h'→RV h' r (bT qs w age (qs.length-age)).aZ→K (.tuple #[r,I ((bT qs w age (qs.length-age)).fG:Nat)]) h'):
  cG [(.int .i64 (0)),(.int .i64 (1))] g0 fun L1 xs hx=>PU Tryz.prog K (I age) (pt ij 0) (pt ix 0) (pt ib 0) (pt id 0) (pt iw 0) L1 xs hx:=by
 obtain ⟨⟨_,l8⟩,⟨w0,tC⟩,hb,_⟩:=vG aB
 have s4:=AS hb
 refine dc (σ:=Nat×ae) (fun q=>[I ((bT qs w age q.1).fG:Nat),I (q.1+1:Nat)]) (fun q=>q.2) (fun q=>age+q.1≤qs.length∧u9 h q.2 ij ix ib id iw qs w vq (bT qs w age q.1)) (fun q=>qs.length-q.1) (0,g0) rfl rfl ⟨by show age+0≤_;omega,hi⟩ ?_
 clear hi
 rintro ⟨d,g⟩ ⟨hd,inv⟩ L hL
 simp only at hd inv hL⊢
 rw [axu]
 have lj0:af false 1 g (pt ij 0)=some (I qs.length):=by simp [af,aO,inv.Gb,ck]
 have ws:ai .sub (I qs.length) (I age)=some (I (qs.length-age:Nat)):=by rw [fz,wrap64 (by omega) (by omega)];congr 2;omega
 simp only [bW,Nat.add_zero,ah,lj0,ws,rf,bK]
 refine ⟨fun hle=>?_,fun qw=>?_⟩
 rotate_left
 ·have Ba:d=qs.length-age:=by omega
  subst Ba
  rw [axt]
  obtain ⟨v,l1,l2⟩:=inv.aZ.load
  obtain ⟨g',e1,st⟩:=zX inv.out l2
  simp only [l1,ah,e1,aE]
  obtain ⟨v',m1,m2⟩:=st.cell.load
  simp only [m1,ah]
  exact hk v' g' (st.ex inv.ex b1.1) m2
 have mc:age+d<qs.length:=by omega
 have iD:age+(d+1)≤qs.length:=by omega
 obtain ⟨sz1,Rn⟩:=zJ (age:=age) (d:=d) aB hd
 obtain ⟨Ro,Rp⟩:=zJ (age:=age) (d:=d+1) aB iD
 obtain ⟨ed,ew⟩:=rX qs w age d
 have hwp:=(Cz (age:=age) (d:=d+1) aB iD).2 (by omega)
 rw [O2] at hwp
 obtain ⟨vd,l1,l2⟩:=inv.done.load
 have lj2:∀{g':ae},g'[ij]?=some (.arr 102 [I qs.length,I w,vq])→af false 1 g' (pt ij 2)=some vq:=fun k=>by simp [af,aO,k,ck]
 have lj1:∀{g':ae},g'[ij]?=some (.arr 102 [I qs.length,I w,vq])→af false 1 g' (pt ij 1)=some (I w):=fun k=>by simp [af,aO,k,ck]
 have lja:∀{g':ae},g'[ij]?=some (.arr 102 [I qs.length,I w,vq])→af true 3 g' (pt ij 0)=some (.agg #[I qs.length,I w,vq]):=fun k=>by simp [af,aO,k,ck]
 have w1:ai .add (I age) (I (d+1:Nat))=some (I (age+(d+1):Nat)):=by rw [cD,wrap64 (by omega) (by omega)];congr 2
 have w2:ai .sub (I (age+(d+1):Nat)) (.int .i64 1)=some (I (age+d:Nat)):=by rw [fz,wrap64 (by omega) (by omega)];congr 2;omega
 obtain ⟨bi,oi,r,u1,u2,u3⟩:=(hq.mono inv.ex).get mc
 simp only [l1,ah,true_and,lj2 inv.Gb,w1,w2,u1,u2]
 refine IG l2 u3 sz1 (s4 _ (List.getElem_mem mc)) (by omega) ?_
 intro r1 g1 x1 hr1
 have eg:qs[age+d]=qs.getD (age+d) 0:=by rw [List.getD_eq_getElem?_getD,List.getElem?_eq_getElem mc];rfl
 rw [eg,←ed] at hr1
 have inv1:=inv.mono x1
 -- pQ is done
 obtain ⟨g2,e2,zH⟩:=inv1.done.store hr1
 simp only [e2,aE]
 have Rz:=zH.dN (Ne.symm d3.2.2) inv1.iK
 have bs2:=zH.dN d3.1 inv1.aZ
 have jb2:g2[ij]?=some (.arr 102 [I qs.length,I w,vq]):=by rw [zH.old _ d1.2.1];exact inv1.Gb
 have ou2:g2[ix]?=some (.arr 107 z4):=by rw [zH.old _ d2.2.1];exact inv1.out
 have xh2:=zH.ex inv1.ex b1.2.2.1
 obtain ⟨vw,m1,m2⟩:=Rz.load
 simp only [m1,ah,lja jb2]
 refine St (age:=age+d) (hq.mono xh2) (by omega) s4 (by omega) ?_
 intro r3 g3 x3 yN
 have m3:af true 4 g3 (pt iw 0)=some vw:=by
  obtain ⟨a,b,c,e,k,_⟩:=Rz
  rw [iu k] at m1
  rw [iu (x3.get k)];exact m1
 simp only [m3,true_and]
 have jJ:=xw (qs:=qs.drop (age+d)) (fun q hq=>s4 q (List.mem_of_mem_drop hq)) _ (Nat.le_refl _)
 rw [List.take_length,List.length_drop] at jJ
 refine IG (m2.mono x3) yN Rn jJ (by omega) ?_
 intro r4 g4 x4 wE
 rw [←ew] at wE
 have bM:=x3.trans x4
 obtain ⟨g5,e5,zI⟩:=(Rz.mono bM).store wE
 simp only [e5,aE]
 have AL:=zI.dN d3.2.2 (zH.cell.mono bM)
 have UO:=zI.dN d3.2.1 (bs2.mono bM)
 have Ga:g5[ij]?=some (.arr 102 [I qs.length,I w,vq]):=by rw [zI.old _ d1.2.2];exact bM.get jb2
 have ou5:g5[ix]?=some (.arr 107 z4):=by rw [zI.old _ d2.2.2];exact bM.get ou2
 have Io:=zI.ex (xh2.trans bM) b1.2.2.2
 have zR:=zI.cell
 -- one more try
 have e7:aX 107 [(.bool false),(.slice none 0 0),(.bool false),(.slice none 0 0)] g5=some (pt g5.length 0,g5++[.arr 107 z4]):=rfl
 simp only [e7,aE]
 have y1:EX g5 (g5++[.arr 107 z4]):=EX.append _ _
 have j1:(g5++[aq.arr 107 z4])[g5.length]?=some (.arr 107 z4):=bR
 generalize g5++[aq.arr 107 z4]=g6 at y1 j1⊢
 simp only [zm j1,ah,true_and,lj1 (y1.get Ga),lj1 Ga]
 refine xG (by omega) (by omega) ?_
 intro r7 g7 x7 hr7
 have dK:=y1.trans x7
 obtain ⟨vd7,n1,n2⟩:=(AL.mono dK).load
 have same:∀{i:Nat} {q:Rat} {ga gb:ae} {v:Value},Cell ga i q→EX ga gb→af true 4 gb (pt i 0)=some v→af true 4 ga (pt i 0)=some v:=by
  intro i q ga gb v c x l
  obtain ⟨a,b,c,e,k,_⟩:=c
  rw [iu (x.get k)] at l
  rw [iu k];exact l
 simp only [zm (x7.get j1),true_and,n1,ah,same AL dK n1,same (AL.mono y1) x7 n1]
 refine C88 hr7 n2 (Ih w0 tC) Ro (by omega) ?_
 intro r8 g8 x8 hr8
 have gV:=dK.trans x8
 obtain ⟨vw8,o1,o2⟩:=(zR.mono gV).load
 simp only [zm ((x7.trans x8).get j1),true_and,o1,ah,same zR gV o1,same (zR.mono y1) (x7.trans x8) o1,same (zR.mono dK) x8 o1]
 refine ajm hr8 o2 hwp ((Ih w0 tC).mul Ro) Rp (by omega) ?_
 intro r9 g9 x9 NJ
 have ht:RV g9 r9 (jk qs w age d):=NJ
 have htz:=Rs (age:=age) (d:=d) aB iD
 have hbz:=HU (age:=age) (d:=d) aB hd
 have gw:=x7.trans (x8.trans x9)
 obtain ⟨mK,Mg,pN⟩:=zX (gw.get j1) ht
 have iR:∀{i:Nat},i<g5.length→i≠g5.length:=fun aC he=>by omega
 have eQ:=y1.trans gw
 have ib5:=UO.lt
 have id5:=AL.lt
 have iw5:=zR.lt
 have ij5:ij<g5.length:=(List.getElem?_eq_some_iff.1 Ga).1
 have ix5:ix<g5.length:=(List.getElem?_eq_some_iff.1 ou5).1
 have Lg:=pN.dN (iR ib5) (UO.mono eQ)
 have Yw:=pN.dN (iR id5) (AL.mono eQ)
 have wkA:=pN.dN (iR iw5) (zR.mono eQ)
 have jbA:mK[ij]?=some (.arr 102 [I qs.length,I w,vq]):=by rw [pN.old _ (iR ij5)];exact eQ.get Ga
 have ouA:mK[ix]?=some (.arr 107 z4):=by rw [pN.old _ (iR ix5)];exact eQ.get ou5
 have xhA:=pN.ex (Io.trans eQ) (by have:=Io.1;omega)
 simp only [zm (gw.get j1),true_and,Mg,aE,fX,ah]
 have next:∀(aZ:Rat) (fG:Nat) {g':ae},u9 h g' ij ix ib id iw qs w vq ⟨aZ,fG,(bT qs w age (d+1)).done,(bT qs w age (d+1)).iK⟩→bT qs w age (d+1)=⟨aZ,fG,(bT qs w age (d+1)).done,(bT qs w age (d+1)).iK⟩→GY Tryz.prog K (I age) (pt ij 0) (pt ix 0) (pt ib 0) (I fG) (pt id 0) (pt iw 0) (I (d+1:Nat)) L g':=by
  intro aZ fG g' iv es
  rw [axs]
  have wi:IntKind.wrap .i64 (((d+1:Nat):Int)+1)=((d+1+1:Nat):Int):=by rw [wrap64 (by omega) (by omega)];omega
  simp only [cD,wi,ah,true_and]
  have:=hL (d+1,g') ⟨iD,by show u9 h g' ij ix ib id iw qs w vq (bT qs w age (d+1));rw [es];exact iv⟩ (by show qs.length-(d+1)<qs.length-d;omega)
  have em:(bT qs w age (d+1)).fG=fG:=by rw [es]
  simp only [em] at this
  exact this
 -- it is better
 have better:((bT qs w age d).fG=0∨(bT qs w age d).aZ<jk qs w age d)→∀(t u:Value) {g':ae},EX mK g'→bL t (.bool true) u=some (B true)→Ca Tryz.prog K (I age) (pt ij 0) (pt ix 0) (pt ib 0) (I ((bT qs w age d).fG:Nat)) (pt id 0) (pt iw 0) (I (d+1:Nat)) (pt g5.length 0) t u L g':=by
  intro pe t u g' x' Bv
  rw [agX,Bv]
  obtain ⟨vt,p1,p2⟩:=(pN.cell.mono x').load
  obtain ⟨AV,Mh,zG⟩:=(Lg.mono x').store p2
  simp only [ah,di,p1,Mh,aE]
  refine next (jk qs w age d) (d+1) ⟨zG.ex (xhA.trans x') b1.2.1,by rw [zG.old _ d1.1];exact x'.get jbA,by rw [zG.old _ d2.1];exact x'.get ouA,zG.cell,zG.dN d3.1.symm (Yw.mono x'),zG.dN d3.2.1.symm (wkA.mono x')⟩ ?_
  unfold jk at pe⊢
  rw [ed,ew] at pe⊢
  simp only [bT]
  rw [if_pos pe]
 have aAA:¬((bT qs w age d).fG=0∨(bT qs w age d).aZ<jk qs w age d)→∀(t u:Value) {g':ae},EX mK g'→bL t (.bool true) u=some (B false)→Ca Tryz.prog K (I age) (pt ij 0) (pt ix 0) (pt ib 0) (I ((bT qs w age d).fG:Nat)) (pt id 0) (pt iw 0) (I (d+1:Nat)) (pt g5.length 0) t u L g':=by
  intro pe t u g' x' Bv
  rw [agX,Bv]
  simp only [ah,dp]
  refine next (bT qs w age d).aZ (bT qs w age d).fG ⟨xhA.trans x',x'.get jbA,x'.get ouA,Lg.mono x',Yw.mono x',wkA.mono x'⟩ ?_
  unfold jk at pe
  rw [ed,ew] at pe⊢
  simp only [bT]
  rw [if_neg pe]
 rw [axr]
 by_cases hm:(bT qs w age d).fG=0
 ·rw [decide_eq_true (show ((bT qs w age d).fG:Int)=0 by omega)]
  simp only [eZ]
  exact better (.inl hm) _ _ (EX.refl mK) rfl
 ·rw [decide_eq_false (show ¬((bT qs w age d).fG:Int)=0 by omega)]
  obtain ⟨vt,p1,p2⟩:=pN.cell.load
  obtain ⟨vb,p3,p4⟩:=Lg.load
  simp only [dO,p1,p3,ah]
  refine IF p2 p4 htz hbz (by decide) ?_
  intro AV ay
  have hc:decide ((0:Int)<lX (jk qs w age d) (bT qs w age d).aZ)=decide ((bT qs w age d).aZ<jk qs w age d):=by
   rw [decide_eq_decide]
   unfold lX
   generalize jk qs w age d=a
   generalize (bT qs w age d).aZ=b
   by_cases e:a=b
   ·subst e
    rw [if_pos rfl]
    exact ⟨fun h=>absurd h (by decide),fun h=>absurd h Rat.lt_irrefl⟩
   ·rw [if_neg e]
    by_cases e2:a<b
    ·rw [if_pos e2]
     exact ⟨fun h=>absurd h (by decide),fun h=>by grind⟩
    ·rw [if_neg e2]
     exact ⟨fun _=>by grind,fun _=>by decide⟩
  simp only [fe,ah,hc]
  by_cases pe:(bT qs w age d).aZ<jk qs w age d
  ·rw [decide_eq_true pe]
   exact better (.inr pe) _ _ ay rfl
  ·rw [decide_eq_false pe]
   exact aAA (fun h=>h.elim hm pe) _ _ ay rfl

end
end Go.Proofs.YtelmdbpaoifmoaaGreat


namespace Go.Proofs.YtelmdbpaoifmoaaGreat
open Go.Sim

section
variable {h : ae} {K : Value → ae → Prop}

theorem C44 {qs:List Rat} {w:Int} {vq:Value} {age:Nat} (hq:QL h vq qs) (aB:dB qs w=true) (A4:age<qs.length)
  (hk:∀r h',EX h h'→RV h' r (bT qs w age (qs.length-age)).aZ→K (.tuple #[r,I ((bT qs w age (qs.length-age)).fG:Nat)]) h'):ak Tryz.prog 44 [.agg #[I qs.length,I w,vq],I age] h K:=by
 obtain ⟨rq,rs,_,_⟩:=id hq
 refine f44 ?_
 have e1:bk 102 h (.agg #[I qs.length,I w,vq])=some (pt h.length 0,h++[.arr 102 [I qs.length,I w,vq]]):=by
  rcases rs.2 with ⟨e,_⟩ | ⟨i,o,e,_⟩ <;> rw [e] <;> rfl
 have e7:∀(g:ae),aX 107 [(.bool false),(.slice none 0 0),(.bool false),(.slice none 0 0)] g=some (pt g.length 0,g++[.arr 107 z4]):=fun _=>rfl
 simp only [Ku,e1,e7,aE]
 have x0:EX h (h++[.arr 102 [I qs.length,I w,vq]]):=EX.append _ _
 have k0:(h++[aq.arr 102 [I qs.length,I w,vq]])[h.length]?=some (.arr 102 [I qs.length,I w,vq]):=bR
 generalize h++[aq.arr 102 [I qs.length,I w,vq]]=g0 at x0 k0⊢
 have x1:EX g0 (g0++[.arr 107 z4]):=EX.append _ _
 have k1:(g0++[aq.arr 107 z4])[g0.length]?=some (.arr 107 z4):=bR
 generalize g0++[aq.arr 107 z4]=g1 at x1 k1⊢
 have m0:h.length<g0.length:=(List.getElem?_eq_some_iff.1 k0).1
 have m1:g0.length<g1.length:=(List.getElem?_eq_some_iff.1 k1).1
 refine xG (n:=0) (by decide) (by decide) ?_
 intro r2 g2 x2 yM
 have yM:RV g2 r2 0:=yM
 have x3:EX g2 (g2++[.arr 107 z4]):=EX.append _ _
 have k3:(g2++[aq.arr 107 z4])[g2.length]?=some (.arr 107 z4):=bR
 generalize g2++[aq.arr 107 z4]=g3 at x3 k3⊢
 have m2:=x2.1
 have m3:g2.length<g3.length:=(List.getElem?_eq_some_iff.1 k3).1
 obtain ⟨g4,e4,Rg⟩:=zX k3 (yM.mono x3)
 simp only [e4,aE]
 have bM:EX g2 g4:=Rg.ex x3 (Nat.le_refl _)
 refine xG (n:=0) (by decide) (by decide) ?_
 intro r5 g5 x5 wF
 have wF:RV g5 r5 0:=wF
 refine xG (n:=0) (by decide) (by decide) ?_
 intro r6 g6 x6 NI
 have NI:RV g6 r6 0:=NI
 have x7:EX g6 (g6++[.arr 107 z4]):=EX.append _ _
 have k7:(g6++[aq.arr 107 z4])[g6.length]?=some (.arr 107 z4):=bR
 generalize g6++[aq.arr 107 z4]=g7 at x7 k7⊢
 have x8:EX g7 (g7++[.arr 107 z4]):=EX.append _ _
 have k8:(g7++[aq.arr 107 z4])[g7.length]?=some (.arr 107 z4):=bR
 generalize g7++[aq.arr 107 z4]=g8 at x8 k8⊢
 have m4:=Rg.len
 have m5:=x5.1
 have m6:=x6.1
 have m7:g6.length<g7.length:=(List.getElem?_eq_some_iff.1 k7).1
 have gj:=x7.trans x8
 obtain ⟨g9,e9,HT⟩:=zX (x8.get k7) (((wF.mono x6).mono gj))
 simp only [e9,aE]
 have k9:g9[g7.length]?=some (.arr 107 z4):=by rw [HT.old _ (by omega)];exact k8
 obtain ⟨mK,Mg,pN⟩:=zX k9 (HT.val (NI.mono gj))
 simp only [Mg,aE]
 have gw:EX g6 g9:=HT.ex gj (Nat.le_refl _)
 have aA4:EX g6 mK:=pN.ex gw (by omega)
 have Il:=(x5.trans x6).trans aA4
 have zS:=x0.trans (x1.trans x2)
 have xA:=zS.trans (bM.trans Il)
 have jb:=((x1.trans x2).trans (bM.trans Il)).get k0
 have ou:=(x2.trans (bM.trans Il)).get k1
 exact ajd (g0:=mK) (ij:=h.length) (ix:=g0.length) (ib:=g2.length) (id:=g6.length) (iw:=g7.length) hq aB A4 ⟨by omega,by omega,by omega,by omega⟩ ⟨by omega,by omega,by omega⟩ ⟨by omega,by omega,by omega⟩ ⟨by omega,by omega,by omega⟩
  ⟨xA,jb,ou,Rg.cell.mono Il,pN.dN (by omega) HT.cell,pN.cell⟩ hk

end
end Go.Proofs.YtelmdbpaoifmoaaGreat


namespace Go.Proofs.YtelmdbpaoifmoaaGreat
open Go.Sim

def QU (h:ae) (v:Value) (q:Rat) (k:Nat):Prop:=∃a b:Int,QZ h v a b∧0<b∧(a:Rat)=q*(b:Rat)∧a.natAbs<10^k∧b.natAbs<10^k
def QV (h:ae) (v:Value) (q:Rat):Prop:=QZ h v q.num (q.den:Int)

theorem QU.mono {h h':ae} {v:Value} {q:Rat} {k:Nat} (x:EX h h') (p:QU h v q k):QU h' v q k:=let ⟨a,b,e,r⟩:=p;⟨a,b,e.mono x,r⟩
theorem QV.mono {h h':ae} {v:Value} {q:Rat} (x:EX h h') (p:QV h v q):QV h' v q:=QZ.mono x p
theorem QV.bH {h:ae} {v:Value} {q:Rat} {j:Nat} {e:TypeId} {s:Bool} {r:List Value} (p:QV h v q) (hj:h[j]?=some (.arr e (.bool s::r))) (o:aq):QV (h.set j o) v q:=QZ.bH p hj o

theorem ave (q:Rat):(q.num:Rat)=q*(q.den:Rat):=by
 have h1:(q.den:Rat)≠0:=by
  intro h
  have:=q.den_pos
  have h2:(q.den:Rat)=((0:Nat):Rat):=by simpa using h
  have:=Rat.natCast_inj.1 h2
  omega
 have h2:=Rat.mkRat_self q
 rw [Rat.mkRat_eq_div,Rat.div_def] at h2
 have h3:q*(q.den:Rat)=(q.num:Rat)*((q.den:Rat)⁻¹*(q.den:Rat)):=by
  rw [←Rat.mul_assoc,h2]
 rw [h3,Rat.inv_mul_cancel _ h1,Rat.mul_one]

theorem QV.un {h:ae} {v:Value} {q:Rat} {k:Nat} (p:QV h v q) (s:cw k q):QU h v q k:=
 ⟨q.num,q.den,p,by have:=q.den_pos;omega,ave q,s.1,by rw [Int.natAbs_natCast];exact s.2⟩

theorem aqe {b:Int} (hb:0<b):(b:Rat)≠0:=by
 intro h
 have:b=0:=by exact_mod_cast h
 omega

theorem QU.mk {a b:Int} {q:Rat} (hb:0<b) (h:(a:Rat)=q*(b:Rat)):mkRat a b.toNat=q:=by
 rw [Rat.mkRat_eq_div]
 have jH:=aqe hb
 obtain ⟨n,rfl⟩:∃n:Nat,b=(n:Int):=⟨b.toNat,by omega⟩
 have e:(((n:Int).toNat:Nat):Rat)=((n:Int):Rat):=by rw [Int.toNat_natCast];rfl
 rw [e,h,Rat.div_def,Rat.mul_assoc,Rat.mul_inv_cancel _ jH,Rat.mul_one]

theorem oY {i j:Nat} {a b:Int} (ha:a.natAbs<10^i) (hb:b.natAbs<10^j):(a*b).natAbs<10^(i+j):=by
 rw [Int.natAbs_mul];exact mul_pow ha hb

def Ov:Nat:=796
theorem avC {k n:Nat} (h:k=4*n):(10:Nat)^k≤10000^n:=by
 subst h
 exact Nat.le_of_eq (Nat.pow_mul 10 4 n)
theorem avB:(10:Nat)^Ov≤10000^199:=avC (k:=Ov) (n:=199) rfl
theorem agk {k n:Nat} (hk:k≤796) (h:n<10^k):n<10000^199:=Nat.lt_of_lt_of_le h (Nat.le_trans (Nat.pow_le_pow_right (by decide) (show k≤Ov from hk)) avB)

section
variable {va vb : Value} {p q : Rat} {i j : Nat} {h : ae} {K : Value → ae → Prop}

theorem Iw (ha:QU h va p i) (hb:QU h vb q j) (dG:i+j≤899) (hk:∀r h',EX h h'→QU h' r (p+q) (i+j+1)→K r h'):ak Tryz.prog 26 [va,vb] h K:=by
 obtain ⟨a,b,qa,b0,ea,la,lb⟩:=ha
 obtain ⟨c,d,qc,d0,ec,lc,ld⟩:=hb
 have dZ:∀{k n:Nat},k≤899→n<10^k→n<bu:=fun hk hn=>Nat.lt_of_lt_of_le hn (nJ (by omega))
 have h1:=oY la ld
 have h2:=oY lc lb
 have h3:=oY lb ld
 rw [Nat.add_comm j i] at h2
 refine C26 qa qc (dZ (by omega) la) (dZ (by omega) lb) (dZ (by omega) lc) (dZ (by omega) ld) (dZ dG h1) (dZ dG h2) ?_
 intro r h' x hr
 refine hk r h' x ⟨_,_,hr,Int.mul_pos b0 d0,?_,?_,?_⟩
 ·simp only [Rat.intCast_add,Rat.intCast_mul,ea,ec];grind
 ·rw [Nat.pow_succ];generalize 10^(i+j)=Z at*;omega
 ·rw [Nat.pow_succ];generalize 10^(i+j)=Z at*;omega

theorem ai5 (ha:QU h va p i) (hb:QU h vb q j) (dG:i+j≤899) (hk:∀r h',EX h h'→QU h' r (p*q) (i+j)→K r h'):ak Tryz.prog 27 [va,vb] h K:=by
 obtain ⟨a,b,qa,b0,ea,la,lb⟩:=ha
 obtain ⟨c,d,qc,d0,ec,lc,ld⟩:=hb
 have dZ:∀{k n:Nat},k≤899→n<10^k→n<bu:=fun hk hn=>Nat.lt_of_lt_of_le hn (nJ (by omega))
 refine C27 qa qc (dZ (by omega) la) (dZ (by omega) lb) (dZ (by omega) lc) (dZ (by omega) ld) ?_
 intro r h' x hr
 refine hk r h' x ⟨_,_,hr,Int.mul_pos b0 d0,?_,oY la lc,oY lb ld⟩
 simp only [Rat.intCast_mul,ea,ec];grind

theorem ajg (ha:QU h va p i) (hb:QU h vb q j) (dG:i+j≤899) (hk:∀r h',EX h h'→QU h' r (p-q) (i+j+1)→K r h'):ak Tryz.prog 52 [va,vb] h K:=by
 obtain ⟨a,b,qa,b0,ea,la,lb⟩:=ha
 obtain ⟨c,d,qc,d0,ec,lc,ld⟩:=hb
 have dZ:∀{k n:Nat},k≤899→n<10^k→n<bu:=fun hk hn=>Nat.lt_of_lt_of_le hn (nJ (by omega))
 have h1:=oY la ld
 have h2:=oY lc lb
 have h3:=oY lb ld
 rw [Nat.add_comm j i] at h2
 obtain ⟨u,w,rfl,hu,hw⟩:=qa
 obtain ⟨u',w',rfl,sV,lG⟩:=qc
 refine f52 ?_
 unfold KA
 refine Dv ?_
 intro h3 x
 have za:ZV h3 (.agg #[B (decide (a<0)),u]) a:=⟨u,rfl,hu.mono x.ex⟩
 have zb:ZV h3 (.agg #[B (decide (b<0)),w]) b:=⟨w,rfl,hw.mono x.ex⟩
 have zc:ZV h3 (.agg #[B (decide (c<0)),u']) c:=⟨u',rfl,sV.mono x.ex⟩
 have zd:ZV h3 (.agg #[B (decide (d<0)),w']) d:=⟨w',rfl,lG.mono x.ex⟩
 simp only [bW,Nat.add_zero,Nat.zero_add,ah,x.a0,x.b2,true_and]
 refine nP za zd (dZ (by omega) la) (dZ (by omega) ld) ?_
 intro r4 h4 x4 qZ
 simp only [EX.load x4 x.b0,EX.load x4 x.a2,ah,x.b0,x.a2,true_and]
 refine nP (zc.mono x4) (zb.mono x4) (dZ (by omega) lc) (dZ (by omega) lb) ?_
 intro r5 h5 x5 z5
 refine CL (qZ.mono x5) z5 (dZ dG h1) (dZ dG h2) ?_
 intro r6 h6 x6 z6
 have cd:=x4.trans (x5.trans x6)
 simp only [EX.load cd x.a2,EX.load cd x.b2,EX.load x4 x.b2,EX.load (x4.trans x5) x.a2,EX.load (x4.trans x5) x.b2,ah,true_and]
 refine nP (zb.mono cd) (zd.mono cd) (dZ (by omega) lb) (dZ (by omega) ld) ?_
 intro r7 h7 x7 z7
 have gU:=cd.trans x7
 refine vL (z6.mono x7) z7 (x.ex.trans gU) (by omega) (gU.get x.out) ?_
 intro r h' xx hr
 refine hk r h' xx ⟨_,_,hr,Int.mul_pos b0 d0,?_,?_,?_⟩
 ·simp only [Rat.intCast_sub,Rat.intCast_mul,ea,ec];grind
 ·rw [Nat.pow_succ];generalize 10^(i+j)=Z at*;omega
 ·rw [Nat.pow_succ];generalize 10^(i+j)=Z at*;omega

theorem ajf (ha:QU h va p i) (hb:QU h vb q j) (q0:0<q) (dG:i+j≤899) (hk:∀r h',EX h h'→QU h' r (p / q) (i+j)→K r h'):ak Tryz.prog 51 [va,vb] h K:=by
 obtain ⟨a,b,qa,b0,ea,la,lb⟩:=ha
 obtain ⟨c,d,qc,d0,ec,lc,ld⟩:=hb
 have dZ:∀{k n:Nat},k≤899→n<10^k→n<bu:=fun hk hn=>Nat.lt_of_lt_of_le hn (nJ (by omega))
 have h1:=oY la ld
 have h2:=oY lb lc
 have c0:0<c:=by
  have d':(0:Rat)<(d:Rat):=by exact_mod_cast d0
  have:(0:Rat)<(c:Rat):=by rw [ec];exact Rat.mul_pos q0 d'
  exact_mod_cast this
 obtain ⟨u,w,rfl,hu,hw⟩:=qa
 obtain ⟨u',w',rfl,sV,lG⟩:=qc
 refine f51 ?_
 unfold Kz
 refine Dv ?_
 intro h3 x
 have za:ZV h3 (.agg #[B (decide (a<0)),u]) a:=⟨u,rfl,hu.mono x.ex⟩
 have zb:ZV h3 (.agg #[B (decide (b<0)),w]) b:=⟨w,rfl,hw.mono x.ex⟩
 have zc:ZV h3 (.agg #[B (decide (c<0)),u']) c:=⟨u',rfl,sV.mono x.ex⟩
 have zd:ZV h3 (.agg #[B (decide (d<0)),w']) d:=⟨w',rfl,lG.mono x.ex⟩
 simp only [bW,Nat.add_zero,Nat.zero_add,ah,x.a0,x.b2,true_and]
 refine nP za zd (dZ (by omega) la) (dZ (by omega) ld) ?_
 intro r4 h4 x4 qZ
 simp only [EX.load x4 x.b0,EX.load x4 x.a2,ah,x.b0,x.a2,true_and]
 refine nP (zb.mono x4) (zc.mono x4) (dZ (by omega) lb) (dZ (by omega) lc) ?_
 intro r5 h5 x5 z5
 refine C54 (qZ.mono x5) z5 (Int.le_of_lt (Int.mul_pos b0 c0)) ?_
 intro r6 h6 x6 z6
 have cd:=x4.trans (x5.trans x6)
 obtain ⟨m,n,rfl,hm,hn⟩:=z6
 refine qh (cd.get x.out) (hk _ _ ((x.ex.trans cd).set (by omega) _) ⟨_,_,⟨m,n,rfl,hm.bH (cd.get x.out) _,hn.bH (cd.get x.out) _⟩,Int.mul_pos b0 c0,?_,h1,h2⟩)
 simp only [Rat.intCast_mul,ea,ec]
 have:q≠0:=by intro e;rw [e] at q0;exact absurd q0 (by decide)
 grind

theorem CJ (ha:QU h va p i) (hi:i≤796) (hk:∀r h',EX h h'→QV h' r p→K r h'):ak Tryz.prog 25 [va] h K:=by
 obtain ⟨a,b,qa,b0,ea,la,lb⟩:=ha
 refine C25 qa b0 (agk hi la) (agk hi lb) ?_
 intro r h' x hr
 refine hk r h' x ?_
 have e:=QU.mk b0 ea
 obtain ⟨e1,e2⟩:=zi (N:=a) (D:=b.toNat) (by omega)
 have eb:b.natAbs=b.toNat:=by omega
 unfold QV
 rw [←e,e1,e2,Int.natCast_ediv,Int.toNat_of_nonneg (by omega),←eb]
 exact hr

theorem atN {a b c d:Int} (b0:0<b) (d0:0<d) (ea:(a:Rat)=p*(b:Rat)) (ec:(c:Rat)=q*(d:Rat)):iU (a*d-c*b)=lX p q:=by
 have b':(0:Rat)<(b:Rat):=by exact_mod_cast b0
 have d':(0:Rat)<(d:Rat):=by exact_mod_cast d0
 have bd:=Rat.mul_pos b' d'
 have e:((a*d-c*b:Int):Rat)=(p-q)*((b:Rat)*(d:Rat)):=by
  simp only [Rat.intCast_sub,Rat.intCast_mul,ea,ec];grind
 generalize a*d-c*b=z at e⊢
 generalize (b:Rat)*(d:Rat)=t at*
 have key:(z=0↔p=q)∧(z<0↔p<q):=by
  constructor
  ·constructor
   ·intro hz
    subst hz
    have:(p-q)*t=0:=by rw [←e];rfl
    grind
   ·intro hz
    subst hz
    have:((z:Int):Rat)=0:=by rw [e];grind
    exact_mod_cast this
  ·constructor
   ·intro hz
    have pF:(z:Rat)<0:=by exact_mod_cast hz
    rw [e] at pF
    apply Classical.byContradiction
    intro hc
    have h1:0≤p-q:=by grind
    have:=Rat.mul_nonneg h1 (Rat.le_of_lt bd)
    grind
   ·intro hz
    have h1:0<q-p:=by grind
    have:=Rat.mul_pos h1 bd
    have:(z:Rat)<0:=by rw [e];grind
    exact_mod_cast this
 unfold lX iU
 by_cases h1:p=q
 ·rw [if_pos h1]
  have:=key.1.2 h1
  subst this
  simp
 ·rw [if_neg h1]
  have z1:z≠0:=fun hz=>h1 (key.1.1 hz)
  by_cases h2:p<q
  ·rw [if_pos h2,if_neg z1,if_pos (key.2.2 h2)]
  ·rw [if_neg h2]
   have:¬z<0:=fun hz=>h2 (key.2.1 hz)
   rw [if_neg z1,if_neg this]

theorem Ix (ha:QU h va p i) (hb:QU h vb q j) (dG:i+j≤899) (hk:∀h',EX h h'→K (I (lX p q)) h'):ak Tryz.prog 29 [va,vb] h K:=by
 obtain ⟨a,b,qa,b0,ea,la,lb⟩:=ha
 obtain ⟨c,d,qc,d0,ec,lc,ld⟩:=hb
 have dZ:∀{k n:Nat},k≤899→n<10^k→n<bu:=fun hk hn=>Nat.lt_of_lt_of_le hn (nJ (by omega))
 have h1:=oY la ld
 have h2:=oY lc lb
 rw [Nat.add_comm j i] at h2
 refine C29 qa qc (dZ (by omega) la) (dZ (by omega) lb) (dZ (by omega) lc) (dZ (by omega) ld) (dZ dG h1) (dZ dG h2) ?_
 rw [atN b0 d0 ea ec]
 exact hk

theorem uX {z:Int} (hz:z.natAbs<1000000000000000000) (hk:∀r h',EX h h'→QV h' r (z:Rat)→K r h'):ak Tryz.prog 20 [I z] h K:=C20 hz hk

theorem Si {s:List UInt8} (hl:s.length≤700) (hn:isNum s=true) (hk:∀r h',EX h h'→QV h' r (bP s)→K r h'):ak Tryz.prog 28 [S s] h K:=ai6 hl (aaX hn) hk

def gZ (g:ae) (i:Nat) (q:Rat):Prop:=∃a b c d,g[i]?=some (.arr 37 [B a,b,B c,d])∧QV g (.agg #[B a,b,B c,d]) q

theorem gZ.mono {g g':ae} {i:Nat} {q:Rat} (x:EX g g') (p:gZ g i q):gZ g' i q:=let ⟨a,b,c,d,e,r⟩:=p;⟨a,b,c,d,x.get e,r.mono x⟩
theorem gZ.lt {g:ae} {i:Nat} {q:Rat} (p:gZ g i q):i<g.length:=let ⟨_,_,_,_,e,_⟩:=p;(List.getElem?_eq_some_iff.1 e).1
theorem gZ.load {g:ae} {i:Nat} {q:Rat} (p:gZ g i q):∃v,af true 4 g (pt i 0)=some v∧QV g v q:=let ⟨_,_,_,_,e,r⟩:=p;⟨_,iu e,r⟩

structure xU (g g':ae) (i:Nat) (q:Rat):Prop where
 cell:gZ g' i q
 len:g'.length=g.length
 old:∀j,j≠i→g'[j]?=g[j]?
 val:∀{v:Value} {p:Rat},QV g v p→QV g' v p

theorem yb {g:ae} {i:Nat} {v:Value} {q:Rat} {s:Bool} {b c d:Value} (hg:g[i]?=some (.arr 37 [.bool s,b,c,d])) (hv:QV g v q):∃g',aI 4 g (pt i 0) v=some (undef,g')∧xU g g' i q:=by
 obtain ⟨u,w,rfl,hu,hw⟩:=id hv
 refine ⟨_,nN hg,⟨⟨_,_,_,_,cM hg,hv.bH hg _⟩,by simp,fun j hj=>List.getElem?_set_ne (fun h=>hj h.symm),fun h=>h.bH hg _⟩⟩
theorem gZ.store {g:ae} {i:Nat} {v:Value} {p q:Rat} (hc:gZ g i p) (hv:QV g v q):∃g',aI 4 g (pt i 0) v=some (undef,g')∧xU g g' i q:=by
 obtain ⟨a,b,c,d,hg,_⟩:=hc
 exact yb hg hv

theorem xU.ex {h0 g g':ae} {i:Nat} {q:Rat} (s:xU g g' i q) (x:EX h0 g) (hi:h0.length≤i):EX h0 g':=
 ⟨by rw [s.len];exact x.1,fun j hj=>by rw [s.old j (by omega)];exact x.2 j hj⟩
theorem xU.dN {g g':ae} {i j:Nat} {q p:Rat} (s:xU g g' i q) (hj:j≠i) (c:gZ g j p):gZ g' j p:=
 let ⟨a,b,e,d,k,r⟩:=c;⟨a,b,e,d,by rw [s.old j hj];exact k,s.val r⟩

theorem ya {g:ae} {v:Value} {q:Rat} {K:ae→Prop} (hv:QV g v q) (hk:∀g',EX g g'→gZ g' g.length q→g'.length=g.length+1→K g'):
  OH (aI 4 (g++[aq.arr 37 z4]) (pt g.length 0) v) fun _ h_2=>K h_2:=by
 obtain ⟨g',e2,s⟩:=yb (g:=g++[.arr 37 z4]) (i:=g.length) bR (hv.mono (EX.append _ _))
 rw [e2]
 simp only [aE]
 exact hk g' (s.ex (EX.append _ _) (Nat.le_refl _)) s.cell (by rw [s.len];simp)

end

end Go.Proofs.YtelmdbpaoifmoaaGreat


namespace Go.Proofs.YtelmdbpaoifmoaaGreat
open Go.Sim
variable (P : Program) (K : VK)
/-! F13: pommel/pommelref06.Chances -/
noncomputable section
variable (l0 x3 i4 x5 k6 k7 q8 ba eP eY kV fc sf CA xz : Value) (L1 L2 : LQ) (xs : List Value) (h : ae)
def acj:=bw Tryz.prog 13 [[],[],[],[0],[3,4],[],[],[],[],[0,3,4,5],[6],[],[],[],[],[],[0,3,4,5],[0,3,4,5,44],[0,3,4,5,44,51],[],[],[],[],[0,4,5],[3,7],[],[],[],[0,3,4,5,7,8,82],[0,3,4,5,7,8,82,86],[0,3,4,5,7,8,88],[0,3,4,5,7,8,88,98],[0,3,4,5,7,8,88,98,102],[0,3,4,5,7,8,88,103],[],[0,3,4,5,7],[0,3,4,5],[],[0,3,4],[0,3],[],[3],[]]
@[irreducible] def DY:=bE acj
@[irreducible] def D6:=DY.r.r.l.r.l.l
@[irreducible] def V8:=DY.r.r.r
@[irreducible] def an8:=D6.r.l.l.r.l.r.l.l
@[irreducible] def V6:=D6.r.l.l.r.r
@[irreducible] def Wh:=D6.r.r
@[irreducible] def Wg:=V8.l
@[irreducible] def D4:=V6.l
@[irreducible] def aof:=Wh.l
@[irreducible] def aog:=Wg.r.l
@[irreducible] def V7:=D4.l.l.r.l
@[irreducible] def an9:=D4.l.r
@[irreducible] def Lz:=D4.r
@[irreducible] def aoa:=V7.r.l
@[irreducible] def D5:=Lz.l.r.l.l
@[irreducible] def V9:=Lz.r
@[irreducible] def Wb:=D5.r.l.l.r.l.r.l
@[irreducible] def aob:=D5.r.l.l.r.r
@[irreducible] def Wa:=D5.r.r
@[irreducible] def aoe:=V9.l
@[irreducible] def Wc:=Wb.r.l
@[irreducible] def aod:=Wa.l
@[irreducible] def Wd:=Wc.r.l
@[irreducible] def We:=Wd.r.l
@[irreducible] def Wf:=We.r.l
@[irreducible] def aoc:=Wf.r.l
theorem BM:acj=some (118,DY,[.tmp 2]):=by kernel_rfl
def C1 (_P:Program) (K:VK):ar:=aR [.tmp 2] K
def akW:ar:=aD (aj P V8 (C1 P K)) (C1 P K)
def ak0:ar:=bz 0 (akW P K)
def C3:ar:=aD (fun f' aS=>(([0]:List Nat).map f':List Value)=[l0]∧L1 (([3,4]:List Nat).map f') aS) (ak0 P K)
def ak1:ar:=aD (aj P Wh (C3 P K l0 L1)) (C3 P K l0 L1)
def tK:ar:=bz 1 (ak1 P K l0 L1)
def akT:ar:=aD (aj P V6 (tK P K l0 L1)) (tK P K l0 L1)
def akU:ar:=bz 2 (akT P K l0 L1)
def akV:ar:=aD (fun f' aS=>(([0,3,4,5]:List Nat).map f':List Value)=[l0,x3,i4,x5]∧L2 (([6]:List Nat).map f') aS) (akU P K l0 L1)
def S9:ar:=aD (aj P Lz (tK P K l0 L1)) (tK P K l0 L1)
def Ta:ar:=aD (aj P an9 (S9 P K l0 L1)) (S9 P K l0 L1)
def akX:ar:=aD (aj P V9 (tK P K l0 L1)) (tK P K l0 L1)
def akY:ar:=bz 4 (akX P K l0 L1)
def C2:ar:=aD (fun f' aS=>(([0,4,5]:List Nat).map f':List Value)=[l0,i4,x5]∧L2 (([3,7]:List Nat).map f') aS) (akY P K l0 L1)
def akZ:ar:=aD (aj P Wa (C2 P K l0 i4 x5 L1 L2)) (C2 P K l0 i4 x5 L1 L2)
def Tb:ar:=bz 5 (akZ P K l0 i4 x5 L1 L2)
def xM:ar:=aD (aj P aob (Tb P K l0 i4 x5 L1 L2)) (Tb P K l0 i4 x5 L1 L2)
def aeK:Prop:=av (aj P D6 (C3 P K l0 L1)) ([0]++[3,4]) ([l0]++xs) h
def aeE:Prop:=av (aj P an8 (akV P K l0 x3 i4 x5 L1 L2)) ([0,3,4,5]++[6]) ([l0,x3,i4,x5]++xs) h
def aeF:Prop:=av (aj P D4 (tK P K l0 L1)) [0,3,4,5] [l0,x3,i4,x5] h
def aeG:Prop:=av (aj P V7 (Ta P K l0 L1)) [0,3,4,5,44] [l0,x3,i4,x5,ba] h
def GO:Prop:=av (aj P aoa (Ta P K l0 L1)) [0,3,4,5,44,51] [l0,x3,i4,x5,ba,eP] h
def PC:Prop:=av (aj P D5 (C2 P K l0 i4 x5 L1 L2)) ([0,4,5]++[3,7]) ([l0,i4,x5]++xs) h
def aeH:Prop:=av (aj P Wb (xM P K l0 i4 x5 L1 L2)) [0,3,4,5,7,8,82] [l0,x3,i4,x5,k7,q8,eY] h
def PD:Prop:=av (aj P Wc (xM P K l0 i4 x5 L1 L2)) [0,3,4,5,7,8,82,86] [l0,x3,i4,x5,k7,q8,eY,kV] h
def PE:Prop:=av (aj P Wd (xM P K l0 i4 x5 L1 L2)) [0,3,4,5,7,8,88] [l0,x3,i4,x5,k7,q8,fc] h
def PF:Prop:=av (aj P We (xM P K l0 i4 x5 L1 L2)) [0,3,4,5,7,8,88,98] [l0,x3,i4,x5,k7,q8,fc,sf] h
def PG:Prop:=av (aj P Wf (xM P K l0 i4 x5 L1 L2)) [0,3,4,5,7,8,88,98,102] [l0,x3,i4,x5,k7,q8,fc,sf,CA] h
def GP:Prop:=av (aj P aoc (xM P K l0 i4 x5 L1 L2)) [0,3,4,5,7,8,88,103] [l0,x3,i4,x5,k7,q8,fc,xz] h
def GQ:Prop:=av (aj P aod (C2 P K l0 i4 x5 L1 L2)) [0,3,4,5,7] [l0,x3,i4,x5,k7] h
def aeI:Prop:=av (aj P aoe (tK P K l0 L1)) [0,3,4,5] [l0,x3,i4,x5] h
def zy:Prop:=av (aj P aof (C3 P K l0 L1)) [0,3,4] [l0,x3,i4] h
def aeJ:Prop:=av (aj P Wg (C1 P K)) [0,3] [l0,x3] h
def PH:Prop:=av (aj P aog (C1 P K)) [3] [x3] h
theorem awV (l0 x3 i4 x5:Value) (L1 L2:LQ) (k6:Value) (h:ae):aeE P K l0 x3 i4 x5 L1 L2 [k6] h=
 (OP (aU 2 l0 i4) fun aN=>
 OP (aK 0 aN) fun aW=>
 OP (af false 1 h aW) fun bm=>
 OP (aY bm) fun bJ=>
 OP (ai .lss k6 bJ) fun cF=>
 aM cF
 (OP (aU 2 l0 i4) fun bU=>
 OP (aK 0 bU) fun cA=>
 OP (af false 1 h cA) fun cR=>
 OP (aU 1 cR k6) fun cO=>
 OP (af false 1 h cO) fun dI=>
 ak P 24 [dI] h fun bX h_1=>
 OP (fA .not bX) fun dd=>
 aM dd
 (K (.int .i64 (2)) h_1)
 (OP (ai .add k6 (.int .i64 (1))) fun bt=>
 ([l0,x3,i4,x5]:List Value)=[l0,x3,i4,x5]∧L2 [bt] h_1))
 (aeF P K l0 x3 i4 x5 L1 h)):=ax (by kernel_rfl)
theorem agH:GO P K l0 x3 i4 x5 ba eP L1 h=
 (OP (bL ba (.bool true) eP) fun dS=>
 aM dS
 (zy P K l0 (.int .i64 (1)) i4 L1 h)
 (cG [x3,(.int .i64 (0))] h fun L2 xs hx=>
 PC P K l0 i4 x5 L1 L2 xs hx)):=ax (by kernel_rfl)
theorem awX:aeG P K l0 x3 i4 x5 ba L1 h=
 (bZ ba false
 (OP (aU 2 l0 i4) fun gU=>
 OP (aK 1 gU) fun eX=>
 OP (af false 1 h eX) fun fT=>
 ak P 46 [fT,(.int .i64 (0)),(.int .i64 (50))] h fun dD h_1=>
 OP (fA .not dD) fun eP=>
 GO P K l0 x3 i4 x5 ba eP L1 h_1)
 (GO P K l0 x3 i4 x5 ba undef L1 h)):=ax (by kernel_rfl)
theorem aw1:GP P K l0 x3 i4 x5 k7 q8 fc xz L1 L2 h=
 (OP (bL fc (.bool true) xz) fun CB=>
 aM CB
 (GQ P K l0 (.int .i64 (1)) i4 x5 k7 L1 L2 h)
 (OP (af true 4 h x5) fun RB=>
 OP (af true 4 h q8) fun RC=>
 ak P 26 [RB,RC] h fun tD h_1=>
 ak P 25 [tD] h_1 fun zT h_2=>
 OH (aI 4 h_2 x5 zT) fun _ h_3=>
 GQ P K l0 x3 i4 x5 k7 L1 L2 h_3)):=ax (by kernel_rfl)
theorem QE:PG P K l0 x3 i4 x5 k7 q8 fc sf CA L1 L2 h=
 (bZ fc false
 (OP (bL sf CA (.bool false)) fun xz=>
 GP P K l0 x3 i4 x5 k7 q8 fc xz L1 L2 h)
 (GP P K l0 x3 i4 x5 k7 q8 fc undef L1 L2 h)):=ax (by kernel_rfl)
theorem agJ:PF P K l0 x3 i4 x5 k7 q8 fc sf L1 L2 h=
 (bZ sf true
 (OP (aK 0 q8) fun x99=>
 OP (af true 2 h x99) fun aAE=>
 ak P 48 [aAE] h fun RA h_1=>
 OP (ai .eql RA (.int .i64 (0))) fun CA=>
 PG P K l0 x3 i4 x5 k7 q8 fc sf CA L1 L2 h_1)
 (PG P K l0 x3 i4 x5 k7 q8 fc sf undef L1 L2 h)):=ax (by kernel_rfl)
theorem aw0:PE P K l0 x3 i4 x5 k7 q8 fc L1 L2 h=
 (bZ fc false
 (OP (aU 2 l0 i4) fun oO=>
 OP (aK 0 oO) fun tF=>
 OP (af false 1 h tF) fun RG=>
 OP (aY RG) fun zU=>
 OP (ai .sub zU (.int .i64 (1))) fun RH=>
 OP (ai .eql k7 RH) fun CD=>
 PF P K l0 x3 i4 x5 k7 q8 fc CD L1 L2 h)
 (PF P K l0 x3 i4 x5 k7 q8 fc undef L1 L2 h)):=ax (by kernel_rfl)
theorem agI:PD P K l0 x3 i4 x5 k7 q8 eY kV L1 L2 h=
 (OP (bL eY (.bool true) kV) fun tE=>
 PE P K l0 x3 i4 x5 k7 q8 tE L1 L2 h):=ax (by kernel_rfl)
theorem awZ:aeH P K l0 x3 i4 x5 k7 q8 eY L1 L2 h=
 (bZ eY false
 (OP (aK 0 q8) fun mC=>
 OP (af true 2 h mC) fun gK=>
 ak P 48 [gK] h fun ke h_1=>
 OP (ai .lss ke (.int .i64 (0))) fun kV=>
 PD P K l0 x3 i4 x5 k7 q8 eY kV L1 L2 h_1)
 (PD P K l0 x3 i4 x5 k7 q8 eY undef L1 L2 h)):=ax (by kernel_rfl)
theorem aw2:GQ P K l0 x3 i4 x5 k7 L1 L2 h=
 (OP (ai .add k7 (.int .i64 (1))) fun lN=>
 ([l0,i4,x5]:List Value)=[l0,i4,x5]∧L2 [x3,lN] h):=ax (by kernel_rfl)
theorem awY (l0 i4 x5:Value) (L1 L2:LQ) (x3 k7:Value) (h:ae):PC P K l0 i4 x5 L1 L2 [x3,k7] h=
 (OP (aU 2 l0 i4) fun gh=>
 OP (aK 0 gh) fun dK=>
 OP (af false 1 h dK) fun gV=>
 OP (aY gV) fun eQ=>
 OP (ai .lss k7 eQ) fun gJ=>
 aM gJ
 (OP (aU 2 l0 i4) fun fv=>
 OP (aK 0 fv) fun oN=>
 OP (af false 1 h oN) fun fK=>
 OP (aU 1 fK k7) fun gw=>
 OP (af false 1 h gw) fun jP=>
 ak P 28 [jP] h fun gX h_1=>
 OH (aX 37 [(.bool false),(.slice none 0 0),(.bool false),(.slice none 0 0)] h_1) fun q8 h_2=>
 OH (aI 4 h_2 q8 gX) fun _ h_3=>
 OP (aU 2 l0 i4) fun jQ=>
 OP (aK 0 jQ) fun iM=>
 OP (af false 1 h_3 iM) fun gy=>
 OP (aU 1 gy k7) fun eB=>
 OP (af false 1 h_3 eB) fun iX=>
 ak P 47 [iX,(.int .i64 (4))] h_3 fun ka h_4=>
 OP (fA .not ka) fun hY=>
 aeH P K l0 x3 i4 x5 k7 q8 hY L1 L2 h_4)
 (aeI P K l0 x3 i4 x5 L1 h)):=ax (by kernel_rfl)
theorem aw3:aeI P K l0 x3 i4 x5 L1 h=
 (OP (af true 4 h x5) fun Ik=>
 (True)∧
 ak P 20 [(.int .i64 (1))] h fun RD h_1=>
 (af true 4 h_1 x5=some Ik∧True)∧
 ak P 29 [Ik,RD] h_1 fun RE h_2=>
 (True)∧
 OP (ai .neq RE (.int .i64 (0))) fun RF=>
 aM RF
 (zy P K l0 (.int .i64 (1)) i4 L1 h_2)
 (zy P K l0 x3 i4 L1 h_2)):=ax (by kernel_rfl)
theorem awW:aeF P K l0 x3 i4 x5 L1 h=
 (OP (aU 2 l0 i4) fun cV=>
 OP (aK 0 cV) fun dR=>
 OP (af false 1 h dR) fun dJ=>
 OP (aY dJ) fun dC=>
 ak P 46 [dC,(.int .i64 (1)),(.int .i64 (8))] h fun dn h_1=>
 OP (fA .not dn) fun bO=>
 aeG P K l0 x3 i4 x5 bO L1 h_1):=ax (by kernel_rfl)
theorem aw4:zy P K l0 x3 i4 L1 h=
 (OP (ai .add i4 (.int .i64 (1))) fun aP=>
 ([l0]:List Value)=[l0]∧L1 [x3,aP] h):=ax (by kernel_rfl)
theorem aw6 (l0:Value) (L1:LQ) (x3 i4:Value) (h:ae):aeK P K l0 L1 [x3,i4] h=
 (OP (aY l0) fun ay=>
 OP (ai .lss i4 ay) fun az=>
 aM az
 (ak P 20 [(.int .i64 (0))] h fun bc h_1=>
 OH (aX 37 [(.bool false),(.slice none 0 0),(.bool false),(.slice none 0 0)] h_1) fun x5 h_2=>
 OH (aI 4 h_2 x5 bc) fun _ h_3=>
 cG [(.int .i64 (0))] h_3 fun L2 xs hx=>
 aeE P K l0 x3 i4 x5 L1 L2 xs hx)
 (aeJ P K l0 x3 h)):=ax (by kernel_rfl)
theorem agK:PH P K x3 h=
 (K x3 h):=ax (by kernel_rfl)
theorem aw5:aeJ P K l0 x3 h=
 (OP (aY l0) fun aAF=>
 ak P 46 [aAF,(.int .i64 (1)),(.int .i64 (3))] h fun aAG h_1=>
 OP (fA .not aAG) fun aAH=>
 aM aAH
 (PH P K (.int .i64 (1)) h_1)
 (PH P K x3 h_1)):=ax (by kernel_rfl)
def J6:Prop:=
 cG [(.int .i64 (0)),(.int .i64 (0))] h fun L1 xs hx=>
 aeK P K l0 L1 xs hx
theorem e13:aj P DY (aR [.tmp 2] K) (bp [l0]) h=J6 P K l0 h:=by kernel_rfl
theorem f13 {K:VK} {l0:Value} {h:ae} (H:J6 Tryz.prog K l0 h):ak Tryz.prog 13 [l0] h K:=
 bF BM (Nat.le_of_ble_eq_true rfl) ((e13 Tryz.prog K l0 h).mpr H)
end
/-! F15: pommel/pommelref06.Index -/
noncomputable section
variable (c0 x1 c2 x4 x6 x7 x8 d9 : Value) (L1 : LQ) (xs : List Value) (h : ae)
def acz:=bw Tryz.prog 15 [[],[],[],[],[1,2,4,6,8],[7,9],[],[],[],[],[],[1,2,4,6,7,8,9],[4,6,7],[]]
@[irreducible] def D8:=bE acz
@[irreducible] def Wm:=D8.r.r.r.l.r.l.l
@[irreducible] def Wl:=D8.r.r.r.r
@[irreducible] def aok:=Wm.r.r.l
@[irreducible] def aol:=Wl.l
theorem k15:acz=some (55,D8,[.cell true 4 4,.tmp 5]):=by kernel_rfl
def Ja (_P:Program) (K:VK):ar:=aR [.cell true 4 4,.tmp 5] K
def ak2:ar:=aD (aj P Wl (Ja P K)) (Ja P K)
def ak3:ar:=bz 0 (ak2 P K)
def Tf:ar:=aD (fun f' aS=>(([1,2,4,6,8]:List Nat).map f':List Value)=[x1,c2,x4,x6,x8]∧L1 (([7,9]:List Nat).map f') aS) (ak3 P K)
def aeN:Prop:=av (aj P Wm (Tf P K x1 c2 x4 x6 x8 L1)) ([1,2,4,6,8]++[7,9]) ([x1,c2,x4,x6,x8]++xs) h
def GU:Prop:=av (aj P aok (Tf P K x1 c2 x4 x6 x8 L1)) [1,2,4,6,7,8,9] [x1,c2,x4,x6,x7,x8,d9] h
def aeM:Prop:=av (aj P aol (Ja P K)) [4,6,7] [x4,x6,x7] h
theorem axa:GU P K x1 c2 x4 x6 x7 x8 d9 L1 h=
 (OP (ai .add d9 (.int .i64 (1))) fun bm=>
 ([x1,c2,x4,x6,x8]:List Value)=[x1,c2,x4,x6,x8]∧L1 [x7,bm] h):=ax (by kernel_rfl)
theorem axc (x1 c2 x4 x6 x8:Value) (L1:LQ) (x7 d9:Value) (h:ae):aeN P K x1 c2 x4 x6 x8 L1 [x7,d9] h=
 (OP (aK 0 c2) fun aP=>
 OP (af false 1 h aP) fun bc=>
 OP (aY bc) fun a9=>
 OP (ai .sub a9 x1) fun aQ=>
 OP (ai .leq d9 aQ) fun aN=>
 aM aN
 (OP (af true 4 h x8) fun bJ=>
 (True)∧
 OP (af true 2 h c2) fun cF=>
 (True)∧
 OP (ai .add x1 d9) fun bC=>
 OP (ai .sub bC (.int .i64 (1))) fun bD=>
 ak P 50 [cF,bD] h fun bU h_1=>
 (af true 4 h_1 x8=some bJ∧True)∧
 ak P 26 [bJ,bU] h_1 fun cA h_2=>
 (True)∧
 ak P 25 [cA] h_2 fun cR h_3=>
 (True)∧
 OH (aI 4 h_3 x8 cR) fun _ h_4=>
 (True)∧
 OH (aX 37 [(.bool false),(.slice none 0 0),(.bool false),(.slice none 0 0)] h_4) fun v10 h_5=>
 OP (dH h_5 v10) fun u=>
 (True)∧
 OP (aK 1 c2) fun ca=>
 OP (af false 1 h_5 ca) fun cO=>
 (af false 1 h_4 ca=some cO∧True)∧
 ak P 20 [cO] h_5 fun dI h_6=>
 (dH h_6 v10=some u∧True)∧
 OP (af true 2 h_6 c2) fun bX=>
 (af true 2 h_4 c2=some bX∧af true 2 h_5 c2=some bX∧True)∧
 ak P 50 [bX,x1] h_6 fun cJ h_7=>
 (dH h_7 v10=some u∧True)∧
 OP (af true 2 h_7 c2) fun dT=>
 (af true 2 h_4 c2=some dT∧af true 2 h_5 c2=some dT∧af true 2 h_6 c2=some dT∧True)∧
 OP (ai .add x1 d9) fun dJ=>
 ak P 50 [dT,dJ] h_7 fun dC h_8=>
 (dH h_8 v10=some u∧True)∧
 ak P 52 [cJ,dC] h_8 fun dn h_9=>
 (dH h_9 v10=some u∧True)∧
 ak P 27 [dI,dn] h_9 fun bO h_10=>
 (dH h_10 v10=some u∧True)∧
 OP (af true 4 h_10 x8) fun ba=>
 (af true 4 h_4 x8=some ba∧af true 4 h_5 x8=some ba∧af true 4 h_6 x8=some ba∧af true 4 h_7 x8=some ba∧af true 4 h_8 x8=some ba∧af true 4 h_9 x8=some ba∧True)∧
 ak P 51 [bO,ba] h_10 fun cj h_11=>
 (dH h_11 v10=some u∧True)∧
 ak P 25 [cj] h_11 fun cd h_12=>
 (dH h_12 v10=some u∧True)∧
 OH (aI 4 h_12 v10 cd) fun _ h_13=>
 (True)∧
 OP (af true 4 h_13 v10) fun gU=>
 OP (af true 4 h_13 x6) fun eX=>
 ak P 29 [gU,eX] h_13 fun fT h_14=>
 OP (ai .gtr fT (.int .i64 (0))) fun dD=>
 aM dD
 (OP (af true 4 h_14 v10) fun eP=>
 OH (aI 4 h_14 x6 eP) fun _ h_15=>
 GU P K x1 c2 x4 x6 d9 x8 d9 L1 h_15)
 (GU P K x1 c2 x4 x6 x7 x8 d9 L1 h_14))
 (aeM P K x4 x6 x7 h)):=ax (by kernel_rfl)
theorem axb:aeM P K x4 x6 x7 h=
 (OP (af true 4 h x6) fun jB=>
 OH (aI 4 h x4 jB) fun _ h_1=>
 OP (af true 4 h_1 x4) fun r0=>
 K (.tuple #[r0,x7]) h_1):=ax (by kernel_rfl)
def Kj:Prop:=
 OH (bk 24 h c0) fun c2 h_1=>
 OH (aX 37 [(.bool false),(.slice none 0 0),(.bool false),(.slice none 0 0)] h_1) fun x4 h_2=>
 ak P 20 [(.int .i64 (-1))] h_2 fun ay h_3=>
 OH (aX 37 [(.bool false),(.slice none 0 0),(.bool false),(.slice none 0 0)] h_3) fun x6 h_4=>
 OH (aI 4 h_4 x6 ay) fun _ h_5=>
 ak P 20 [(.int .i64 (0))] h_5 fun az h_6=>
 OH (aX 37 [(.bool false),(.slice none 0 0),(.bool false),(.slice none 0 0)] h_6) fun x8 h_7=>
 OH (aI 4 h_7 x8 az) fun _ h_8=>
 cG [(.int .i64 (0)),(.int .i64 (1))] h_8 fun L1 xs hx=>
 aeN P K x1 c2 x4 x6 x8 L1 xs hx
theorem e15:aj P D8 (aR [.cell true 4 4,.tmp 5] K) (bp [c0,x1]) h=Kj P K c0 x1 h:=by kernel_rfl
theorem f15 {K:VK} {c0 x1:Value} {h:ae} (H:Kj Tryz.prog K c0 x1 h):ak Tryz.prog 15 [c0,x1] h K:=
 bF k15 (Nat.le_of_ble_eq_true rfl) ((e15 Tryz.prog K c0 x1 h).mpr H)
end
/-! F47: pommel/pommelref01.Short -/
noncomputable section
variable (x0 n1 k5 i6 : Value) (L1 : LQ) (xs : List Value) (h : ae)
def acM:=bw Tryz.prog 47 [[],[],[],[0,1],[5,6],[],[],[],[],[0,1,5,6],[],[],[0,1,5,6],[],[]]
@[irreducible] def vF:=bE acM
@[irreducible] def LD:=vF.r.r.l.r.l.l
@[irreducible] def aoK:=vF.r.r.r
@[irreducible] def aoI:=LD.r.l.l.r.l
@[irreducible] def WQ:=LD.r.r
@[irreducible] def aoJ:=WQ.l
theorem k47:acM=some (26,vF,[.tmp 4]):=by kernel_rfl
def Tt (_P:Program) (K:VK):ar:=aR [.tmp 4] K
def alj:ar:=aD (aj P aoK (Tt P K)) (Tt P K)
def alk:ar:=bz 0 (alj P K)
def C6:ar:=aD (fun f' aS=>(([0,1]:List Nat).map f':List Value)=[x0,n1]∧L1 (([5,6]:List Nat).map f') aS) (alk P K)
def alm:ar:=aD (aj P WQ (C6 P K x0 n1 L1)) (C6 P K x0 n1 L1)
def ali:ar:=bz 1 (alm P K x0 n1 L1)
def ae3:Prop:=av (aj P LD (C6 P K x0 n1 L1)) ([0,1]++[5,6]) ([x0,n1]++xs) h
def Cb:Prop:=av (aj P aoI (ali P K x0 n1 L1)) [0,1,5,6] [x0,n1,k5,i6] h
def ae2:Prop:=av (aj P aoJ (C6 P K x0 n1 L1)) [0,1,5,6] [x0,n1,k5,i6] h
theorem axv:Cb P K x0 n1 k5 i6 L1 h=
 (OP (ai .gtr k5 n1) fun bt=>
 aM bt
 (K (.bool false) h)
 (ae2 P K x0 n1 k5 i6 L1 h)):=ax (by kernel_rfl)
theorem axw:ae2 P K x0 n1 k5 i6 L1 h=
 (OP (ai .add i6 (.int .i64 (1))) fun az=>
 ([x0,n1]:List Value)=[x0,n1]∧L1 [k5,az] h):=ax (by kernel_rfl)
theorem axx (x0 n1:Value) (L1:LQ) (k5 i6:Value) (h:ae):ae3 P K x0 n1 L1 [k5,i6] h=
 (OP (fS x0) fun x9=>
 OP (ai .lss i6 x9) fun aG=>
 aM aG
 (OP (iT x0 i6) fun bc=>
 OP (ai .eql bc (.int .u8 (47))) fun a9=>
 aM a9
 (Cb P K x0 n1 (.int .i64 (0)) i6 L1 h)
 (OP (iT x0 i6) fun aN=>
 OP (ai .neq aN (.int .u8 (45))) fun aW=>
 aM aW
 (OP (ai .add k5 (.int .i64 (1))) fun bJ=>
 Cb P K x0 n1 bJ i6 L1 h)
 (Cb P K x0 n1 k5 i6 L1 h)))
 (K (.bool true) h)):=ax (by kernel_rfl)
def Kw:Prop:=
 cG [(.int .i64 (0)),(.int .i64 (0))] h fun L1 xs hx=>
 ae3 P K x0 n1 L1 xs hx
theorem e47:aj P vF (aR [.tmp 4] K) (bp [x0,n1]) h=Kw P K x0 n1 h:=by kernel_rfl
theorem f47 {K:VK} {x0 n1:Value} {h:ae} (H:Kw Tryz.prog K x0 n1 h):ak Tryz.prog 47 [x0,n1] h K:=
 bF k47 (Nat.le_of_ble_eq_true rfl) ((e47 Tryz.prog K x0 n1 h).mpr H)
end
/-! F50: pommel/pommelref06.above -/
noncomputable section
variable (c0 x1 c2 x4 x5 k6 : Value) (L1 : LQ) (xs : List Value) (h : ae)
def acO:=bw Tryz.prog 50 [[],[],[],[2,4,5],[6],[],[],[],[4,5],[]]
@[irreducible] def Eg:=bE acO
@[irreducible] def aoM:=Eg.r.r.l.r.l.l
@[irreducible] def WS:=Eg.r.r.r
@[irreducible] def aoL:=WS.l
theorem k50:acO=some (26,Eg,[.cell true 4 4]):=by kernel_rfl
def Jg (_P:Program) (K:VK):ar:=aR [.cell true 4 4] K
def aln:ar:=aD (aj P WS (Jg P K)) (Jg P K)
def alo:ar:=bz 0 (aln P K)
def alp:ar:=aD (fun f' aS=>(([2,4,5]:List Nat).map f':List Value)=[c2,x4,x5]∧L1 (([6]:List Nat).map f') aS) (alo P K)
def ae5:Prop:=av (aj P aoM (alp P K c2 x4 x5 L1)) ([2,4,5]++[6]) ([c2,x4,x5]++xs) h
def ae4:Prop:=av (aj P aoL (Jg P K)) [4,5] [x4,x5] h
theorem axz (c2 x4 x5:Value) (L1:LQ) (k6:Value) (h:ae):ae5 P K c2 x4 x5 L1 [k6] h=
 (OP (aK 0 c2) fun aG=>
 OP (af false 1 h aG) fun ay=>
 OP (aY ay) fun az=>
 OP (ai .lss k6 az) fun aA=>
 aM aA
 (OP (af true 4 h x5) fun a9=>
 (True)∧
 OP (aK 0 c2) fun bQ=>
 OP (af false 1 h bQ) fun aQ=>
 (True)∧
 OP (aU 1 aQ k6) fun aW=>
 OP (af false 1 h aW) fun bm=>
 (True)∧
 ak P 28 [bm] h fun bJ h_1=>
 (af true 4 h_1 x5=some a9∧True)∧
 ak P 26 [a9,bJ] h_1 fun cF h_2=>
 (True)∧
 ak P 25 [cF] h_2 fun bM h_3=>
 (True)∧
 OH (aI 4 h_3 x5 bM) fun _ h_4=>
 (True)∧
 OP (ai .add k6 (.int .i64 (1))) fun bc=>
 ([c2,x4,x5]:List Value)=[c2,x4,x5]∧L1 [bc] h_4)
 (ae4 P K x4 x5 h)):=ax (by kernel_rfl)
theorem axy:ae4 P K x4 x5 h=
 (OP (af true 4 h x5) fun bt=>
 OH (aI 4 h x4 bt) fun _ h_1=>
 OP (af true 4 h_1 x4) fun r0=>
 K r0 h_1):=ax (by kernel_rfl)
def Ky:Prop:=
 OH (bk 24 h c0) fun c2 h_1=>
 OH (aX 37 [(.bool false),(.slice none 0 0),(.bool false),(.slice none 0 0)] h_1) fun x4 h_2=>
 ak P 20 [(.int .i64 (0))] h_2 fun x7 h_3=>
 OH (aX 37 [(.bool false),(.slice none 0 0),(.bool false),(.slice none 0 0)] h_3) fun x5 h_4=>
 OH (aI 4 h_4 x5 x7) fun _ h_5=>
 cG [x1] h_5 fun L1 xs hx=>
 ae5 P K c2 x4 x5 L1 xs hx
theorem e50:aj P Eg (aR [.cell true 4 4] K) (bp [c0,x1]) h=Ky P K c0 x1 h:=by kernel_rfl
theorem f50 {K:VK} {c0 x1:Value} {h:ae} (H:Ky Tryz.prog K c0 x1 h):ak Tryz.prog 50 [c0,x1] h K:=
 bF k50 (Nat.le_of_ble_eq_true rfl) ((e50 Tryz.prog K c0 x1 h).mpr H)
end
end Go.Proofs.YtelmdbpaoifmoaaGreat

namespace Go.Proofs.YtelmdbpaoifmoaaGreat
open Go.Sim

section
variable {h : ae} {K : Value → ae → Prop}

theorem IA {vs:Value} {ls:List (List UInt8)} {w:Int} {age:Nat} (hv:SS h vs ls) (hn:ls.length≤20) (hl:∀s∈ls,s.length≤700∧isNum s=true) (hs:∀s∈ls,cw 4 (bP s)) (ha:age≤ls.length)
  (hk:∀r h',EX h h'→QV h' r (eA ((ls.map bP).drop age))→K r h'):ak Tryz.prog 50 [.agg #[vs,I w],I age] h K:=by
 refine f50 ?_
 have e1:bk 24 h (.agg #[vs,I w])=some (pt h.length 0,h++[.arr 24 [vs,I w]]):=rfl
 have e2:∀g:ae,aX 37 [(.bool false),(.slice none 0 0),(.bool false),(.slice none 0 0)] g=some (pt g.length 0,g++[.arr 37 z4]):=fun _=>rfl
 simp only [Ky,e1,e2,aE,List.length_append,List.length_cons,List.length_nil,Nat.zero_add]
 have k0:(h++[aq.arr 24 [vs,I w]]++[aq.arr 37 z4])[h.length]?=some (.arr 24 [vs,I w]):=by simp
 have k1:(h++[aq.arr 24 [vs,I w]]++[aq.arr 37 z4])[h.length+1]?=some (.arr 37 z4):=by simp
 have x1:EX h (h++[aq.arr 24 [vs,I w]]++[aq.arr 37 z4]):=(EX.append _ _).push _
 have l1:(h++[aq.arr 24 [vs,I w]]++[aq.arr 37 z4]).length=h.length+2:=by simp
 generalize h++[aq.arr 24 [vs,I w]]++[aq.arr 37 z4]=h1 at k0 k1 x1 l1⊢
 refine uX (by decide) ?_
 intro r2 h2 x2 q2
 refine ya q2 ?_
 intro h3 x3 c3 l3
 have aA:=x2.trans x3
 have hle:h1.length≤h2.length:=x2.1
 refine dc (σ:=Nat×ae) (fun q=>[I ((age:Int)+q.1)]) (fun q=>q.2) (fun q=>age+q.1≤ls.length∧EX h1 q.2∧gZ q.2 h2.length (eA (((ls.map bP).drop age).take q.1))) (fun q=>ls.length-q.1) (0,h3) (by simp) rfl
  ⟨ha,aA,by simpa [eA] using c3⟩ ?_
 rintro ⟨i,g⟩ ⟨hi,xg,hc⟩ L hL
 simp only at hi xg hc hL⊢
 rw [axz]
 have ld:af false 1 g (pt h.length 0)=some vs:=by simp [af,aO,xg.get k0,ck]
 have kA:=hv.mono (x1.trans xg)
 simp only [bW,Nat.add_zero,ld,ah,kA.len,cI,bK,true_and]
 refine ⟨fun aC=>?_,fun cH=>?_⟩
 ·have bf:age+i<ls.length:=by omega
  obtain ⟨b,o,r1,r2⟩:=kA.get (age+i) bf
  have em:=List.getElem_mem bf
  obtain ⟨a1,a2⟩:=hl _ em
  have a3:=hs _ em
  obtain ⟨vc,lc,qc⟩:=hc.load
  have ea:(age:Int)+(i:Int)=((age+i:Nat):Int):=by omega
  simp only [lc,ea,r1,r2,ah]
  refine Si a1 a2 ?_
  intro r4 g4 x4 q4
  have mc:i<((ls.map bP).drop age).length:=by simp;omega
  have jJ:=xw (qs:=(ls.map bP).drop age) (fun q hq=>by
   have:=List.mem_of_mem_drop hq
   obtain ⟨s,h1,rfl⟩:=List.mem_map.1 this
   exact hs s h1) i (by omega)
  refine ⟨⟨EX.load x4 lc,trivial⟩,?_⟩
  refine Iw ((qc.mono x4).un jJ) (q4.un a3) (by omega) ?_
  intro r5 g5 x5 q5
  refine CJ q5 (by omega) ?_
  intro r6 g6 x6 q6
  have cd:=x4.trans (x5.trans x6)
  obtain ⟨g7,e7,s7⟩:=(hc.mono cd).store q6
  have e:eA (((ls.map bP).drop age).take i)+bP ls[age+i]=eA (((ls.map bP).drop age).take (i+1)):=by
   rw [zN mc];simp
  rw [e] at s7
  have ei:(age:Int)+((i+1:Nat):Int)=((age+i+1:Nat):Int):=by omega
  simp only [e7,aE,cD,ah,inc (age+i) (by omega)]
  have hh:=hL (i+1,g7) ⟨by show age+(i+1)≤_;omega,s7.ex (xg.trans cd) hle,s7.cell⟩ (by show ls.length-(i+1)<ls.length-i;omega)
  simp only [ei] at hh
  exact hh
 ·have fN:age+i=ls.length:=by omega
  rw [axy]
  obtain ⟨vc,lc,qc⟩:=hc.load
  simp only [lc,ah]
  obtain ⟨g7,e7,s7⟩:=yb (xg.get k1) qc
  simp only [e7,aE]
  obtain ⟨v8,l8,q8⟩:=s7.cell.load
  simp only [l8,ah]
  rw [List.take_of_length_le (by simp;omega)] at q8
  exact hk _ _ (s7.ex (x1.trans xg) (by omega)) q8

end
end Go.Proofs.YtelmdbpaoifmoaaGreat


namespace Go.Proofs.YtelmdbpaoifmoaaGreat
open Go.Sim

theorem foldl_add (l:List Rat):∀a:Rat,l.foldl (·+·) a=a+eA l:=by
 induction l with
 | nil=>intro a;simp [eA,Rat.add_zero]
 | cons x l ih=>
  intro a
  unfold eA
  simp only [List.foldl_cons]
  rw [ih (a+x),ih (0+x),Rat.zero_add,Rat.add_assoc]
theorem aAg (x:Rat) (l:List Rat):eA (x::l)=x+eA l:=by
 unfold eA
 rw [List.foldl_cons,Rat.zero_add,foldl_add]
 rfl
theorem aAh {qs:List Rat} {k:Nat} (hk:k<qs.length):eA (qs.drop k)=qs.getD k 0+eA (qs.drop (k+1)):=by
 rw [List.drop_eq_getElem_cons hk,aAg,List.getD_eq_getElem?_getD,List.getElem?_eq_getElem hk,Option.getD_some]

theorem Yx (qs:List Rat) (w:Int) (age:Nat):∀d:Nat,age+d≤qs.length→(bT qs w age d).done=eA (qs.drop age)-eA (qs.drop (age+d))
 | 0,_=>by simp only [Nat.add_zero,bT];grind
 | d+1,hd=>by
  rw [(rX qs w age d).1,Yx qs w age d (by omega),aAh (k:=age+d) (by omega)]
  have:age+(d+1)=age+d+1:=by omega
  rw [this]
  generalize eA (qs.drop age)=a
  generalize eA (qs.drop (age+d+1))=b
  generalize qs.getD (age+d) 0=c
  grind

theorem ar5 {qs:List Rat} (h:∀q∈qs,0≤q) (k:Nat):0≤qs.getD k 0:=by
 rw [List.getD_eq_getElem?_getD]
 cases e:qs[k]? with
 | none=>exact Rat.le_refl
 | some q=>exact h q (List.mem_of_getElem? e)

theorem Yy {qs:List Rat} {w:Int} (h:∀q∈qs,0≤q) {age:Nat}:∀d:Nat,0≤(bT qs w age d).done
 | 0=>Rat.le_refl
 | d+1=>by
  rw [(rX qs w age d).1]
  exact Rat.add_nonneg (Yy h d) (ar5 h _)

theorem aqA {a b:Rat} (ha:0≤a) (hb:0<b):0≤a / b:=by
 rw [Rat.div_def]
 exact Rat.mul_nonneg ha (Rat.le_of_lt (Rat.inv_pos.2 hb))

theorem ah8 {qs:List Rat} {w:Int} (h:dB qs w=true) {age d:Nat} (hd:age+(d+1)≤qs.length):0≤jk qs w age d:=by
 obtain ⟨_,⟨w0,_⟩,_,_,nn,_⟩:=vG h
 refine aqA (Rat.mul_nonneg ?_ (Yy nn _)) ((Cz h hd).2 (by omega))
 exact_mod_cast w0

theorem ahT (qs:List Rat) (w:Int) (age:Nat):∀d,(bT qs w age d).fG≤d∧(0<d→0<(bT qs w age d).fG)
 | 0=>⟨Nat.le_refl _,fun h=>absurd h (by decide)⟩
 | d+1=>by
  obtain ⟨i1,i2⟩:=ahT qs w age d
  simp only [bT]
  split
  ·simp
  ·rename_i hc
   have:(bT qs w age d).fG≠0:=fun e=>hc (.inl e)
   refine ⟨by simp;omega,fun _=>by simp;omega⟩

def nT (qs:List Rat) (w:Int) (age d:Nat):Rat:=if d=0 then ((-1:Int):Rat) else (bT qs w age d).aZ

theorem ahU (qs:List Rat) (w:Int) (age d:Nat):bT qs w age (d+1)=if (bT qs w age d).fG=0∨(bT qs w age d).aZ<jk qs w age d then ⟨jk qs w age d,d+1,(bT qs w age (d+1)).done,(bT qs w age (d+1)).iK⟩ else ⟨(bT qs w age d).aZ,(bT qs w age d).fG,(bT qs w age (d+1)).done,(bT qs w age (d+1)).iK⟩:=by
 unfold jk
 rw [(rX qs w age d).1,(rX qs w age d).2]
 rfl

theorem EP {p q:Rat}:0<lX p q↔q<p:=by
 unfold lX
 by_cases h:p=q
 ·rw [if_pos h,h];constructor
  ·intro h;omega
  ·intro h;exact absurd h (by grind)
 ·rw [if_neg h]
  by_cases h2:p<q
  ·rw [if_pos h2];constructor
   ·intro h;omega
   ·intro h3;exact absurd h3 (by grind)
  ·rw [if_neg h2];constructor
   ·intro _;grind
   ·intro _;decide

theorem amE {qs:List Rat} {w:Int} (h:dB qs w=true) {age d:Nat} (hd:age+(d+1)≤qs.length):
  (0<lX (jk qs w age d) (nT qs w age d)→nT qs w age (d+1)=jk qs w age d∧(bT qs w age (d+1)).fG=d+1)∧
  (¬0<lX (jk qs w age d) (nT qs w age d)→nT qs w age (d+1)=nT qs w age d∧(bT qs w age (d+1)).fG=(bT qs w age d).fG):=by
 have ht:=ah8 h hd
 have e:nT qs w age (d+1)=(bT qs w age (d+1)).aZ:=rfl
 rw [e,ahU,EP]
 unfold nT
 by_cases d0:d=0
 ·subst d0
  rw [if_pos rfl]
  have hm:(bT qs w age 0).fG=0:=rfl
  have h1:((-1:Int):Rat)<jk qs w age 0:=by
   have:((-1:Int):Rat)<0:=by decide
   grind
  refine ⟨fun _=>?_,fun hc=>absurd h1 hc⟩
  rw [if_pos (.inl hm)]
  exact ⟨rfl,rfl⟩
 ·have hm:=(ahT qs w age d).2 (by omega)
  rw [if_neg d0]
  refine ⟨fun hc=>?_,fun hc=>?_⟩
  ·rw [if_pos (.inr hc)];exact ⟨rfl,rfl⟩
  ·rw [if_neg (by rintro (h | h);omega;exact hc h)];exact ⟨rfl,rfl⟩

theorem amD {qs:List Rat} {w:Int} (h:dB qs w=true) {age d:Nat} (hd:age+d≤qs.length):cw 380 (nT qs w age d):=by
 unfold nT
 split
 ·have:cw 1 ((-1:Int):Rat):=by constructor <;> decide
  exact this.le (by decide)
 ·exact HU h hd

theorem Me {qs:List Rat} {w:Int} (h:dB qs w=true) (k:Nat):cw 41 (eA (qs.drop k)):=by
 obtain ⟨⟨_,l8⟩,_,hb,_⟩:=vG h
 have s4:=AS hb
 have hs:=xw (qs:=qs.drop k) (fun q hq=>s4 q (List.mem_of_mem_drop hq)) _ (Nat.le_refl _)
 rw [List.take_length,List.length_drop] at hs
 exact hs.le (by omega)

end Go.Proofs.YtelmdbpaoifmoaaGreat


namespace Go.Proofs.YtelmdbpaoifmoaaGreat
open Go.Sim

theorem rQ {g:ae} {i:Nat} (hi:g[i]?=some (.arr 37 z4)):dH g (pt i 0)=some (.agg #[.int .i64 37,.bool false,.slice none 0 0,.bool false,.slice none 0 0]):=by
 simp [dH,wQ,hi,mI,qM]

section
variable {h : ae} {K : Value → ae → Prop}

theorem C15 {vs:Value} {ls:List (List UInt8)} {w:Int} {age:Nat} (hv:SS h vs ls) (hl:∀s∈ls,s.length≤700∧isNum s=true) (aB:dB (ls.map bP) w=true) (ha:age<ls.length)
  (hk:∀r h',EX h h'→QV h' r (bT (ls.map bP) w age (ls.length-age)).aZ→K (.tuple #[r,I (bT (ls.map bP) w age (ls.length-age)).fG]) h'):ak Tryz.prog 15 [.agg #[vs,I w],I age] h K:=by
 obtain ⟨⟨_,l8⟩,⟨w0,tC⟩,hb,_⟩:=vG aB
 rw [List.length_map] at l8
 have hs:∀s∈ls,cw 4 (bP s):=fun s h1=>AS hb _ (List.mem_map_of_mem h1)
 have ml:(ls.map bP).length=ls.length:=List.length_map ..
 refine f15 ?_
 have e1:bk 24 h (.agg #[vs,I w])=some (pt h.length 0,h++[.arr 24 [vs,I w]]):=rfl
 have e2:∀g:ae,aX 37 [(.bool false),(.slice none 0 0),(.bool false),(.slice none 0 0)] g=some (pt g.length 0,g++[.arr 37 z4]):=fun _=>rfl
 simp only [Kj,e1,e2,aE,List.length_append,List.length_cons,List.length_nil,Nat.zero_add]
 have k0:(h++[aq.arr 24 [vs,I w]]++[aq.arr 37 z4])[h.length]?=some (.arr 24 [vs,I w]):=by simp
 have k1:(h++[aq.arr 24 [vs,I w]]++[aq.arr 37 z4])[h.length+1]?=some (.arr 37 z4):=by simp
 have x1:EX h (h++[aq.arr 24 [vs,I w]]++[aq.arr 37 z4]):=(EX.append _ _).push _
 have l1:(h++[aq.arr 24 [vs,I w]]++[aq.arr 37 z4]).length=h.length+2:=by simp
 generalize h++[aq.arr 24 [vs,I w]]++[aq.arr 37 z4]=h1 at k0 k1 x1 l1⊢
 refine uX (by decide) ?_
 intro r2 h2 x2 q2
 refine ya q2 ?_
 intro h3 x3 c3 l3
 refine uX (by decide) ?_
 intro r4 h4 x4 q4
 refine ya q4 ?_
 intro h5 x5 c5 l5
 have bc:=x2.trans (x3.trans (x4.trans x5))
 have m2:h1.length≤h2.length:=x2.1
 have m4:h2.length<h4.length:=by have:=x4.1;omega
 generalize h2.length=b6 at*
 generalize h4.length=b8 at*
 refine dc (σ:=Nat×ae) (fun q=>[I (bT (ls.map bP) w age q.1).fG,I ((q.1:Int)+1)]) (fun q=>q.2) (fun q=>age+q.1≤ls.length∧EX h1 q.2∧gZ q.2 b6 (nT (ls.map bP) w age q.1)∧gZ q.2 b8 (bT (ls.map bP) w age q.1).iK) (fun q=>ls.length-q.1) (0,h5) rfl rfl
  ⟨by omega,bc,(c3.mono (x4.trans x5)),c5⟩ ?_
 rintro ⟨d,g⟩ ⟨hi,xg,MZ,M0⟩ L hL
 simp only at hi xg MZ M0 hL⊢
 rw [axc]
 have nD:∀{g':ae},EX g g'→af false 1 g' (pt h.length 0)=some vs:=fun x=>by simp [af,aO,(xg.trans x).get k0,ck]
 have pJ:∀{g':ae},EX g g'→af false 1 g' (pt h.length 1)=some (I w):=fun x=>by simp [af,aO,(xg.trans x).get k0,ck]
 have ldc:∀{g':ae},EX g g'→af true 2 g' (pt h.length 0)=some (.agg #[vs,I w]):=fun x=>cn ((xg.trans x).get k0)
 have kA:=hv.mono (x1.trans xg)
 have arH:IntKind.wrap .i64 ((ls.length:Int)-(age:Int))=((ls.length-age:Nat):Int):=by
  rw [wrap64 (by omega) (by omega)];omega
 simp only [bW,Nat.add_zero,Nat.zero_add,nD (EX.refl g),ah,kA.len,fz,arH,rf,bK,true_and]
 refine ⟨fun hle=>?_,fun qw=>?_⟩
 rotate_left
 ·have Ba:d=ls.length-age:=by omega
  subst Ba
  rw [axb]
  obtain ⟨v,l1',l2'⟩:=MZ.load
  obtain ⟨g',e1',st⟩:=yb (xg.get k1) l2'
  simp only [l1',ah,e1',aE]
  obtain ⟨v',n1,n2⟩:=st.cell.load
  simp only [n1,ah]
  have:nT (ls.map bP) w age (ls.length-age)=(bT (ls.map bP) w age (ls.length-age)).aZ:=by unfold nT;rw [if_neg (by omega)]
  rw [this] at n2
  exact hk v' g' (st.ex (x1.trans xg) (by omega)) n2
 have mc:age+d<ls.length:=by omega
 have iD:age+(d+1)≤(ls.map bP).length:=by rw [ml];omega
 obtain ⟨sz1,Rn⟩:=zJ (age:=age) (d:=d) aB (by rw [ml];omega)
 obtain ⟨Ro,Rp⟩:=zJ (age:=age) (d:=d+1) aB iD
 have szb:=amD (age:=age) (d:=d) aB (by rw [ml];omega)
 have szt:=Rs aB iD
 have a1:IntKind.wrap .i64 ((age:Int)+((d:Int)+1))=((age+(d+1):Nat):Int):=by rw [wrap64 (by omega) (by omega)];omega
 have a2:IntKind.wrap .i64 (((age+(d+1):Nat):Int)-1)=((age+d:Nat):Int):=by rw [wrap64 (by omega) (by omega)];omega
 obtain ⟨vu,lu,qu⟩:=M0.load
 simp only [lu,ah,ldc (EX.refl g),cD,a1,fz,a2]
 refine IA kA (by omega) hl hs (by omega) ?_
 intro r6 g6 x6 q6
 refine ⟨⟨EX.load x6 lu,trivial⟩,?_⟩
 refine Iw ((qu.mono x6).un Rn) (q6.un (Me aB _)) (by omega) ?_
 intro r7 g7 x7 q7
 refine CJ q7 (by omega) ?_
 intro r8 g8 x8 q8
 have ew:(bT (ls.map bP) w age d).iK+eA ((ls.map bP).drop (age+d))=(bT (ls.map bP) w age (d+1)).iK:=(rX _ _ _ _).2.symm
 rw [ew] at q8
 have gj:=x6.trans (x7.trans x8)
 obtain ⟨g9,e9,s9⟩:=(M0.mono gj).store q8
 have lb8:h1.length≤b8:=by omega
 have x9:EX h1 g9:=s9.ex (xg.trans gj) lb8
 have c6:gZ g9 b6 _:=s9.dN (by omega) (MZ.mono gj)
 have c8:=s9.cell
 have hv9:=hv.mono (x1.trans x9)
 have k9:=x9.get k0
 have k91:=x9.get k1
 simp only [e9,aE,e2]
 have y1:EX g9 (g9++[aq.arr 37 z4]):=EX.append _ _
 have j1:(g9++[aq.arr 37 z4])[g9.length]?=some (.arr 37 z4):=bR
 generalize g9++[aq.arr 37 z4]=ga at y1 j1⊢
 have lw:∀{g':ae},EX g9 g'→af false 1 g' (pt h.length 1)=some (I w):=fun x=>by simp [af,aO,x.get k9,ck]
 have lc:∀{g':ae},EX g9 g'→af true 2 g' (pt h.length 0)=some (.agg #[vs,I w]):=fun x=>cn (x.get k9)
 obtain ⟨vn,ln,qn⟩:=c8.load
 simp only [rQ j1,ah,lw y1,lw (EX.refl g9),true_and]
 refine uX (by omega) ?_
 intro r10 np aG q10
 have uU:=y1.trans aG
 refine ⟨⟨rQ (aG.get j1),trivial⟩,?_⟩
 simp only [lc uU,lc (EX.refl g9),lc y1,ah,true_and]
 refine IA (hv9.mono uU) (by omega) hl hs (by omega) ?_
 intro r11 h11 ay q11
 have Iq:=uU.trans ay
 refine ⟨⟨rQ ((aG.trans ay).get j1),trivial⟩,?_⟩
 simp only [lc Iq,ah,true_and]
 refine IA (hv9.mono Iq) (by omega) hl hs (by omega) ?_
 intro uL Za az nL
 have uV:=Iq.trans az
 refine ⟨⟨rQ ((aG.trans (ay.trans az)).get j1),trivial⟩,?_⟩
 refine ajg ((q11.mono az).un (Me aB _)) (nL.un (Me aB _)) (by omega) ?_
 intro r13 Zb aA Hj
 have y13:=uV.trans aA
 refine ⟨⟨rQ ((aG.trans (ay.trans (az.trans aA))).get j1),trivial⟩,?_⟩
 refine ai5 ((q10.mono (ay.trans (az.trans aA))).un (Ih w0 tC)) Hj (by omega) ?_
 intro r14 h14 aP q14
 have zW:=y13.trans aP
 have w7:∀{g':ae},EX g9 g'→af true 4 g' (pt b8 0)=some vn:=fun x=>EX.load x ln
 refine ⟨⟨rQ ((aG.trans (ay.trans (az.trans (aA.trans aP)))).get j1),trivial⟩,?_⟩
 simp only [w7 zW,w7 (EX.refl g9),w7 y1,w7 uU,w7 Iq,w7 uV,w7 y13,ah,true_and]
 have wp:=(Cz (age:=age) (d:=d+1) aB iD).2 (by omega)
 refine ajf q14 ((qn.mono zW).un Rp) wp (by omega) ?_
 intro r15 h15 bc q15
 have CF:=zW.trans bc
 refine ⟨⟨rQ ((aG.trans (ay.trans (az.trans (aA.trans (aP.trans bc))))).get j1),trivial⟩,?_⟩
 refine CJ q15 (by omega) ?_
 intro r16 h16 a9 q16
 have j16:=(aG.trans (ay.trans (az.trans (aA.trans (aP.trans (bc.trans a9)))))).get j1
 have y16:=CF.trans a9
 refine ⟨⟨rQ j16,trivial⟩,?_⟩
 have et:(w:Rat)*(eA ((ls.map bP).drop age)-eA ((ls.map bP).drop (age+(d+1)))) / (bT (ls.map bP) w age (d+1)).iK=jk (ls.map bP) w age d:=by
  unfold jk
  rw [Yx _ _ _ _ iD]
 rw [et] at q16
 obtain ⟨h17,e17,HD⟩:=yb j16 q16
 have g9l:g9.length≤ga.length:=y1.1
 have WX:=c6.mono y16
 have y17:EX g9 h17:=HD.ex y16 (Nat.le_refl _)
 have n6:b6≠g9.length:=by have:=c6.lt;omega
 have n8:b8≠g9.length:=by have:=c8.lt;omega
 obtain ⟨v18,l18,q18⟩:=HD.cell.load
 obtain ⟨v19,l19,q19⟩:=(HD.dN n6 WX).load
 simp only [e17,aE,l18,l19,ah]
 refine Ix (q18.un szt) (q19.un szb) (by omega) ?_
 intro Zf aW
 obtain ⟨b1,b2⟩:=amE aB iD
 have CG:=y17.trans aW
 have stop:∀{g':ae} (m:Nat),EX h1 g'→gZ g' b6 (nT (ls.map bP) w age (d+1))→gZ g' b8 (bT (ls.map bP) w age (d+1)).iK→(bT (ls.map bP) w age (d+1)).fG=m→
   GU Tryz.prog K (I age) (pt h.length 0) (pt (h.length+1) 0) (pt b6 0) (I m) (pt b8 0) (.int .i64 ((d:Int)+1)) L g':=by
  intro g' m hx h6 h8 hm
  rw [axa]
  have e:IntKind.wrap .i64 ((d:Int)+1+1)=((d+1:Nat):Int)+1:=by rw [wrap64 (by omega) (by omega)];omega
  simp only [cD,ah,e,true_and]
  have:=hL (d+1,g') ⟨by show age+(d+1)≤_;omega,hx,h6,h8⟩ (by show ls.length-(d+1)<ls.length-d;omega)
  simp only [hm] at this
  exact this
 simp only [fe,ah,bK]
 refine ⟨fun hc=>?_,fun hc=>?_⟩
 ·obtain ⟨f1,f2⟩:=b1 hc
  simp only [EX.load aW l18,ah]
  obtain ⟨h21,e21,Q8⟩:=((HD.dN n6 WX).mono aW).store (q18.mono aW)
  simp only [e21,aE]
  have:=stop (d+1) (Q8.ex (x9.trans CG) m2) (by rw [f1];exact Q8.cell) (Q8.dN (by omega) (c8.mono CG)) f2
  simpa using this
 ·obtain ⟨f1,f2⟩:=b2 hc
  exact stop _ (x9.trans CG) (by rw [f1];exact c6.mono CG) (c8.mono CG) f2

end
end Go.Proofs.YtelmdbpaoifmoaaGreat


namespace Go.Proofs.YtelmdbpaoifmoaaGreat
open Go.Sim

def mw (n:Nat):Nat→List UInt8→Bool
 | _,[]=>true
 | k,c::t=>let k':=if c=47 then 0 else if c=45 then k else k+1;if n<k' then false else mw n k' t

theorem Rc {n:Nat}:∀{s:List UInt8} {k:Nat},jq s→k≤n→mw n k s=decide (k+s.length≤n)
 | [],k,_,hk=>by simp [mw,hk]
 | c::t,k,hd,hk=>by
  have h1:=hd c (by simp)
  have n1:c≠47:=fun e=>by rw [e] at h1;simp at h1
  have n2:c≠45:=fun e=>by rw [e] at h1;simp at h1
  simp only [mw,if_neg n1,if_neg n2,List.length_cons]
  by_cases h:n<k+1
  ·rw [if_pos h]
   exact (decide_eq_false (by omega)).symm
  ·rw [if_neg h,Rc (fun x hx=>hd x (by simp [hx])) (by omega),decide_eq_decide]
   omega

theorem ahO {n:Nat} {u:List UInt8}:∀{s:List UInt8} {k:Nat},jq s→k≤n→mw n k (s++47::u)=(decide (k+s.length≤n)&&mw n 0 u)
 | [],k,_,hk=>by simp [mw,hk]
 | c::t,k,hd,hk=>by
  have h1:=hd c (by simp)
  have n1:c≠47:=fun e=>by rw [e] at h1;simp at h1
  have n2:c≠45:=fun e=>by rw [e] at h1;simp at h1
  simp only [List.cons_append,mw,if_neg n1,if_neg n2,List.length_cons]
  by_cases h:n<k+1
  ·rw [if_pos h,decide_eq_false (by omega),Bool.false_and]
  ·rw [if_neg h,ahO (fun x hx=>hd x (by simp [hx])) (by omega)]
   congr 1
   rw [decide_eq_decide]
   omega

theorem aAw {s:List UInt8} (h0:0<s.length) (h:s.head?≠some 48) (hd:jq s):10^(s.length-1)≤dF s:=by
 cases s with
 | nil=>simp at h0
 | cons c t=>
  have h1:=hd c (by simp)
  have h2:c.toNat≠48:=by
   intro e
   apply h
   have:c=48:=UInt8.toNat_inj.1 e
   rw [this];rfl
  rw [Rv,List.length_cons,Nat.add_sub_cancel]
  have:=Nat.mul_le_mul_right (10^t.length) (show 1≤c.toNat-48 by omega)
  omega

/-- Few digits, or a small number. -/
theorem Ys {s:List UInt8} (h:fM s=true) {n:Nat} (hn:1≤n):s.length≤n↔cg s<10^n:=by
 unfold cg
 rw [if_pos h]
 obtain ⟨⟨h1,_⟩,h2,h3⟩:=oZ.1 h
 constructor
 ·intro hl
  exact Nat.lt_of_lt_of_le (uP h3) (Nat.pow_le_pow_right (by decide) hl)
 ·intro hv
  by_cases kL:s.head?=some 48
  ·have:=h2 kL;omega
  ·have hg:=aAw h1 kL h3
   apply Classical.byContradiction
   intro hc
   have:=Nat.pow_le_pow_right (show 0<10 by decide) (show n≤s.length-1 by omega)
   omega

theorem azT {n:Nat} (s:List UInt8):mw n 0 s=mw n 0 (dW s):=by
 unfold dW
 split
 ·rename_i h
  cases s with
  | nil=>rfl
  | cons c t=>
   have:c=45:=by simpa using h
   subst this
   simp [mw]
 ·rfl

theorem az2 (t:List UInt8) (h:lB t=true):t=cU t++47::dm t:=by
 unfold lB at h
 have h:=of_decide_eq_true h
 unfold cU dm
 have e:t[t.idxOf 47]=47:=by simp
 generalize t.idxOf 47=i at*
 have e2:=List.drop_eq_getElem_cons h
 rw [e] at e2
 rw [←e2,List.take_append_drop]

theorem azU {s:List UInt8} (hn:isNum s=true) {n:Nat} (h1:1≤n):mw n 0 s=sC n (bP s):=by
 have hp:=aaX hn
 rw [azT]
 rw [Ha] at hp
 unfold pL at hp
 split at hp
 ·rename_i hc
  obtain ⟨c1,c2,_⟩:=hc
  injection hp with hp
  injection hp with e1 e2
  have en:(bP s).num.natAbs=cg (cU (dW s)):=by
   rw [←e1];exact (HL (m:=decide (s.head?=some 45)) (n:=cg (cU (dW s)))).2
  unfold sC
  rw [en,←e2]
  generalize dW s=t at*
  have l1:=Ys c2 h1
  obtain ⟨_,_,d2⟩:=oZ.1 c2
  unfold nV
  cases hs:lB t with
  | true=>
   unfold nm at c1
   rw [hs,Bool.not_true,Bool.false_or,Bool.and_eq_true] at c1
   obtain ⟨c3,_⟩:=c1
   have l2:=Ys c3 h1
   obtain ⟨_,_,d3⟩:=oZ.1 c3
   rw [if_pos rfl]
   conv=>lhs;rw [az2 t hs]
   rw [ahO d2 (Nat.zero_le _),Rc d3 (Nat.zero_le _)]
   congr 1 <;> rw [decide_eq_decide] <;> omega
  | false=>
   have:cU t=t:=by
    unfold lB at hs
    have:=of_decide_eq_false hs
    unfold cU
    exact List.take_of_length_le (by omega)
   rw [if_neg (by decide)]
   have np:1<10^n:=Nat.one_lt_pow (by omega) (by decide)
   rw [this] at d2 l1⊢
   rw [Rc d2 (Nat.zero_le _),decide_eq_true np,Bool.and_true,decide_eq_decide]
   omega
 ·cases hp

theorem C47 {s:List UInt8} {n:Nat} {h:ae} {K:Value→ae→Prop} (hl:s.length≤700) (hk:K (B (mw n 0 s)) h):ak Tryz.prog 47 [S s,I n] h K:=by
 refine f47 ?_
 unfold Kw
 refine dc (σ:=Nat×Nat) (fun q=>[I q.2,I q.1]) (fun _=>h) (fun q=>q.1≤s.length∧q.2≤q.1∧mw n 0 s=mw n q.2 (s.drop q.1)) (fun q=>s.length-q.1) (0,0) rfl rfl ⟨Nat.zero_le _,Nat.le_refl _,rfl⟩ ?_
 rintro ⟨i,k⟩ ⟨hi,FG,he⟩ L hL
 simp only at hi FG he hL⊢
 rw [axx]
 simp only [kC,ah,cI,bK]
 refine ⟨fun aC=>?_,fun cH=>?_⟩
 rotate_left
 ·rw [List.drop_eq_nil_of_le (by omega)] at he
  rw [he] at hk
  exact hk
 have bf:i<s.length:=by omega
 rw [List.drop_eq_getElem_cons bf] at he
 have ni:=inc i (by omega)
 have nk:=inc k (by omega)
 have jN:∀k':Nat,k'≤i+1→(if s[i]=47 then 0 else if s[i]=45 then k else k+1)=k'→Cb Tryz.prog K (S s) (I n) (I k') (I i) L h:=by
  intro k' bV ek
  rw [axv]
  simp only [fe,ah,bK]
  simp only [mw,ek] at he
  refine ⟨fun hc=>?_,fun hc=>?_⟩
  ·rw [if_pos (by omega)] at he
   rw [he] at hk
   exact hk
  ·rw [if_neg (by omega)] at he
   rw [axw]
   simp only [cD,ah,ni,true_and]
   exact hL (i+1,k') ⟨by show i+1≤_;omega,by show k'≤i+1;omega,he⟩ (by show s.length-(i+1)<s.length-i;omega)
 have vF:((s[i].toNat:Int)=47)↔s[i]=47:=by
  constructor
  ·intro e;apply UInt8.toNat_inj.1;show s[i].toNat=47;omega
  ·intro e;rw [e];rfl
 have WN:((s[i].toNat:Int)=45)↔s[i]=45:=by
  constructor
  ·intro e;apply UInt8.toNat_inj.1;show s[i].toNat=45;omega
  ·intro e;rw [e];rfl
 simp only [tb (a:=s) bf,ah,cv,fX,bK]
 refine ⟨fun hc=>?_,fun hc=>?_⟩
 ·exact jN 0 (by omega) (by rw [if_pos (vF.1 hc)])
 ·have n47:¬s[i]=47:=fun e=>hc (vF.2 e)
  simp only [ng,ah]
  by_cases A0:s[i]=45
  ·rw [decide_eq_true (WN.2 A0)]
   simp only [Bool.not_true,dp]
   exact jN k (by omega) (by rw [if_neg n47,if_pos A0])
  ·rw [decide_eq_false (fun e=>A0 (WN.1 e))]
   simp only [Bool.not_false,di,cD,ah,nk]
   exact jN (k+1) (by omega) (by rw [if_neg n47,if_neg A0])

end Go.Proofs.YtelmdbpaoifmoaaGreat


namespace Go.Proofs.YtelmdbpaoifmoaaGreat
open Go.Sim

def oF (qs:List Rat) (k:Nat):Bool:=eT (qs.getD k 0)||(decide (k+1=qs.length)&&decide ((qs.getD k 0).num=0))
def mz (qs:List Rat):Nat→Rat
 | 0=>0
 | k+1=>if oF qs k=true then mz qs k else mz qs k+qs.getD k 0
def lV (qs:List Rat):Nat→Bool
 | 0=>false
 | k+1=>lV qs k||oF qs k

theorem ahW {qs:List Rat}:∀{k:Nat},k≤qs.length→lV qs k=false→mz qs k=eA (qs.take k)
 | 0,_,_=>by rw [List.take_zero];rfl
 | k+1,hk,hb=>by
  simp only [lV,Bool.or_eq_false_iff] at hb
  have bV:k<qs.length:=by omega
  simp only [mz]
  rw [if_neg (by rw [hb.2];decide),ahW (by omega) hb.1,zN bV,List.getD_eq_getElem?_getD,List.getElem?_eq_getElem bV,Option.getD_some]

theorem Lb {qs:List Rat}:∀{k:Nat},lV qs k=true↔∃j,j<k∧oF qs j=true
 | 0=>by simp [lV]
 | k+1=>by
  simp only [lV,Bool.or_eq_true,Lb (k:=k)]
  constructor
  ·rintro (⟨j,h1,h2⟩ | h)
   ·exact ⟨j,by omega,h2⟩
   ·exact ⟨k,by omega,h⟩
  ·rintro ⟨j,h1,h2⟩
   by_cases e:j=k
   ·subst e;exact .inr h2
   ·exact .inl ⟨j,by omega,h2⟩

theorem Rm {qs:List Rat}:∀{k:Nat},k≤qs.length→cw (5*k+1) (mz qs k)
 | 0,_=>cw.zero
 | k+1,hk=>by
  have ih:cw (5*k+1) (mz qs k):=Rm (by omega)
  simp only [mz]
  split
  ·exact ih.le (by omega)
  ·rename_i hb
   have h4:cw 4 (qs.getD k 0):=by
    have:eT (qs.getD k 0)=false:=by
     cases e:eT (qs.getD k 0) with
     | false=>rfl
     | true=>exact absurd (by unfold oF;rw [e,Bool.true_or]) hb
    unfold eT sC at this
    rw [Bool.or_eq_false_iff,Bool.not_eq_false',Bool.and_eq_true,decide_eq_true_eq,decide_eq_true_eq] at this
    exact this.2
   exact (ih.add h4).le (by omega)

theorem atQ {qs:List Rat} (h1:1≤qs.length):(lV qs qs.length|| !decide (mz qs qs.length=1))= !(!tg qs&&(!qs.any eT&&decide (eA qs=1))):=by
 cases hb:lV qs qs.length with
 | false=>
  have hs:=ahW (Nat.le_refl _) hb
  rw [List.take_length] at hs
  have no:∀j,j<qs.length→oF qs j=false:=by
   intro j hj
   cases e:oF qs j with
   | false=>rfl
   | true=>rw [Lb.2 ⟨j,hj,e⟩] at hb;cases hb
  have hl:tg qs=false:=by
   have:=no (qs.length-1) (by omega)
   unfold oF at this
   rw [Bool.or_eq_false_iff,decide_eq_true (show qs.length-1+1=qs.length by omega),Bool.true_and] at this
   exact this.2
  have ha:qs.any eT=false:=by
   cases e:qs.any eT with
   | false=>rfl
   | true=>
    obtain ⟨q,hq,Fs⟩:=List.any_eq_true.1 e
    obtain ⟨j,hj,rfl⟩:=List.getElem_of_mem hq
    have:=no j hj
    unfold oF at this
    rw [Bool.or_eq_false_iff,List.getD_eq_getElem?_getD,List.getElem?_eq_getElem hj,Option.getD_some,Fs] at this
    exact absurd this.1 (by decide)
  rw [hl,ha,hs]
  simp
 | true=>
  obtain ⟨j,hj,hi⟩:=Lb.1 hb
  unfold oF at hi
  rw [Bool.or_eq_true] at hi
  rw [Bool.true_or]
  rcases hi with hi | hi
  ·have:qs.any eT=true:=by
    rw [List.getD_eq_getElem?_getD,List.getElem?_eq_getElem hj,Option.getD_some] at hi
    exact List.any_eq_true.2 ⟨_,List.getElem_mem hj,hi⟩
   rw [this];simp
  ·rw [Bool.and_eq_true,decide_eq_true_eq] at hi
   have wo:j=qs.length-1:=by omega
   have:tg qs=true:=by unfold tg;rw [←wo];exact hi.2
   rw [this];rfl

theorem zf {g:ae} {i o:Nat} {a b:Value} (h:af true 2 g (pt i o)=some (.agg #[a,b])):af false 1 g (pt i o)=some a∧af false 1 g (pt i (o+1))=some b:=by
 simp only [af] at h⊢
 cases hc:aO g i with
 | none=>rw [hc] at h;cases h
 | some xs=>
  rw [hc] at h
  simp only [Option.bind_some,ck,if_true,Bool.false_eq_true,if_false] at h⊢
  split at h
  ·injection h with h
   injection h with h
   have h:=congrArg Array.toList h
   simp only [List.toList_toArray] at h
   have h0:=congrArg (fun l=>l[0]?) h
   have h1:=congrArg (fun l=>l[1]?) h
   simp only [List.getElem?_take,List.getElem?_drop] at h0 h1
   constructor
   ·simpa using h0
   ·simpa using h1
  ·cases h

end Go.Proofs.YtelmdbpaoifmoaaGreat


namespace Go.Proofs.YtelmdbpaoifmoaaGreat
open Go.Sim
variable (P : Program) (K : VK)
/-! F9: pommel/pommellaw06.MendChoices -/
noncomputable section
variable (x0 y1 l5 x6 i7 e8 x9 jf ca cJ dn ba gy eB ka hY ke fc kW hZ : Value) (L1 : LQ) (xs : List Value) (h : ae)
def oc9:=bw Tryz.prog 9 [[],[],[],[],[5,6,7,8,9,31],[5,6,7,8,9,31,36],[],[5,6,7,8,9],[],[5,6,7,8],[9,10],[5,6,7,8,9,10,42],[5,6,7,8,9,10,42,44],[],[],[],[5,6,7,8,9,10],[5,6,7,8,9],[],[],[],[8,76],[76,78],[80],[80,81],[],[],[7,8,9],[8,9,85],[85,88],[90],[90,91],[]]
@[irreducible] def c9:=bE oc9
@[irreducible] def Yd:=c9.r.r.r.r.l.l.r.l
@[irreducible] def ap8:=c9.r.r.r.r.l.r
@[irreducible] def Yc:=c9.r.r.r.r.r
@[irreducible] def apZ:=Yd.r.l
@[irreducible] def LS:=Yc.l
@[irreducible] def EG:=LS.l.r.l.l
@[irreducible] def X2:=LS.r
@[irreducible] def X4:=EG.l.l.r.l
@[irreducible] def ap0:=EG.l.r
@[irreducible] def X3:=EG.r
@[irreducible] def AE:=X2.l
@[irreducible] def ap1:=X4.r.l
@[irreducible] def ap2:=X3.r.l
@[irreducible] def X6:=AE.l.r.l.l.r.r.l.l.r.l
@[irreducible] def ap4:=AE.l.r.l.l.r.r.l.r
@[irreducible] def ap3:=AE.l.r.l.r
@[irreducible] def X5:=AE.r
@[irreducible] def X7:=X6.r.l
@[irreducible] def LU:=X5.l
@[irreducible] def X8:=X7.r.l
@[irreducible] def X9:=LU.l.r.l
@[irreducible] def ap6:=LU.r
@[irreducible] def ap5:=X8.r.l
@[irreducible] def Ya:=X9.r.l
@[irreducible] def Yb:=Ya.r.l
@[irreducible] def ap7:=Yb.r.l
theorem k9:oc9=some (93,c9,[.tmp 4]):=by kernel_rfl
def pY (_P:Program) (K:VK):ar:=aR [.tmp 4] K
def Uk:ar:=aD (aj P Yc (pY P K)) (pY P K)
def Ul:ar:=aD (aj P ap8 (Uk P K)) (Uk P K)
def amn:ar:=aD (aj P X2 (pY P K)) (pY P K)
def amo:ar:=bz 0 (amn P K)
def Df:ar:=aD (fun f' aS=>(([5,6,7,8]:List Nat).map f':List Value)=[l5,x6,i7,e8]∧L1 (([9,10]:List Nat).map f') aS) (amo P K)
def Ug:ar:=aD (aj P X3 (Df P K l5 x6 i7 e8 L1)) (Df P K l5 x6 i7 e8 L1)
def Uh:ar:=aD (aj P ap0 (Ug P K l5 x6 i7 e8 L1)) (Ug P K l5 x6 i7 e8 L1)
def Ui:ar:=aD (aj P X5 (pY P K)) (pY P K)
def Uj:ar:=aD (aj P ap3 (Ui P K)) (Ui P K)
def Dg:ar:=aD (aj P ap4 (Uj P K)) (Uj P K)
def Dh:ar:=aD (aj P ap6 (pY P K)) (pY P K)
def Qp:Prop:=av (aj P Yd (Ul P K)) [5,6,7,8,9,31] [l5,x6,i7,e8,x9,ca] h
def Qj:Prop:=av (aj P apZ (Ul P K)) [5,6,7,8,9,31,36] [l5,x6,i7,e8,x9,ca,cJ] h
def G5:Prop:=av (aj P LS (pY P K)) [5,6,7,8,9] [l5,x6,i7,e8,x9] h
def af4:Prop:=av (aj P EG (Df P K l5 x6 i7 e8 L1)) ([5,6,7,8]++[9,10]) ([l5,x6,i7,e8]++xs) h
def af5:Prop:=av (aj P X4 (Uh P K l5 x6 i7 e8 L1)) [5,6,7,8,9,10,42] [l5,x6,i7,e8,x9,jf,dn] h
def Qk:Prop:=av (aj P ap1 (Uh P K l5 x6 i7 e8 L1)) [5,6,7,8,9,10,42,44] [l5,x6,i7,e8,x9,jf,dn,ba] h
def zz:Prop:=av (aj P ap2 (Df P K l5 x6 i7 e8 L1)) [5,6,7,8,9,10] [l5,x6,i7,e8,x9,jf] h
def G6:Prop:=av (aj P AE (pY P K)) [5,6,7,8,9] [l5,x6,i7,e8,x9] h
def af6:Prop:=av (aj P X6 (Dg P K)) [8,76] [e8,gy] h
def Ql:Prop:=av (aj P X7 (Dg P K)) [76,78] [gy,eB] h
def af7:Prop:=av (aj P X8 (Dg P K)) [80] [ka] h
def Qm:Prop:=av (aj P ap5 (Dg P K)) [80,81] [ka,hY] h
def G7:Prop:=av (aj P LU (pY P K)) [7,8,9] [i7,e8,x9] h
def af8:Prop:=av (aj P X9 (Dh P K)) [8,9,85] [e8,x9,ke] h
def Qn:Prop:=av (aj P Ya (Dh P K)) [85,88] [ke,fc] h
def af9:Prop:=av (aj P Yb (Dh P K)) [90] [kW] h
def Qo:Prop:=av (aj P ap7 (Dh P K)) [90,91] [kW,hZ] h
theorem ahg:Qj P K l5 x6 i7 e8 x9 ca cJ h=
 (OP (bL ca cJ (.bool false)) fun dT=>
 aM dT
 (G5 P K l5 x6 i7 e8 (.int .i64 (1)) h)
 (G5 P K l5 x6 i7 e8 x9 h)):=ax (by kernel_rfl)
theorem ayP:Qp P K l5 x6 i7 e8 x9 ca h=
 (bZ ca true
 (OP (aY x6) fun dI=>
 OP (aY l5) fun dd=>
 OP (ai .neq dI dd) fun cJ=>
 Qj P K l5 x6 i7 e8 x9 ca cJ h)
 (Qj P K l5 x6 i7 e8 x9 ca undef h)):=ax (by kernel_rfl)
theorem ahh:Qk P K l5 x6 i7 e8 x9 jf dn ba L1 h=
 (OP (bL dn ba (.bool false)) fun cj=>
 aM cj
 (OP (aU 1 x6 jf) fun dD=>
 OP (af false 1 h dD) fun eP=>
 (True)∧
 OP (ai .lss eP (.int .i64 (-1))) fun dS=>
 bZ dS false
 (OP (aU 1 x6 jf) fun gh=>
 OP (af false 1 h gh) fun dK=>
 (True)∧
 OP (aU 2 l5 jf) fun gJ=>
 OP (aK 0 gJ) fun hX=>
 OP (af false 1 h hX) fun lN=>
 (True)∧
 OP (aY lN) fun iL=>
 OP (ai .geq dK iL) fun gW=>
 OP (bL dS (.bool true) gW) fun fv=>
 aM fv
 (zz P K l5 x6 i7 e8 (.int .i64 (1)) jf L1 h)
 (zz P K l5 x6 i7 e8 x9 jf L1 h))
 (OP (bL dS (.bool true) undef) fun fv=>
 aM fv
 (zz P K l5 x6 i7 e8 (.int .i64 (1)) jf L1 h)
 (zz P K l5 x6 i7 e8 x9 jf L1 h)))
 (G6 P K l5 x6 i7 e8 x9 h)):=ax (by kernel_rfl)
theorem ayE:af5 P K l5 x6 i7 e8 x9 jf dn L1 h=
 (bZ dn true
 (OP (ai .eql x9 (.int .i64 (0))) fun ba=>
 Qk P K l5 x6 i7 e8 x9 jf dn ba L1 h)
 (Qk P K l5 x6 i7 e8 x9 jf dn undef L1 h)):=ax (by kernel_rfl)
theorem ayF:zz P K l5 x6 i7 e8 x9 jf L1 h=
 (OP (ai .add jf (.int .i64 (1))) fun gU=>
 ([l5,x6,i7,e8]:List Value)=[l5,x6,i7,e8]∧L1 [x9,gU] h):=ax (by kernel_rfl)
theorem ayD (l5 x6 i7 e8:Value) (L1:LQ) (x9 jf:Value) (h:ae):af4 P K l5 x6 i7 e8 L1 [x9,jf] h=
 (OP (aY x6) fun dJ=>
 OP (ai .lss jf dJ) fun dC=>
 af5 P K l5 x6 i7 e8 x9 jf dC L1 h):=ax (by kernel_rfl)
theorem ayJ:Qm P K ka hY h=
 (OP (bL ka hY (.bool false)) fun eY=>
 K eY h):=ax (by kernel_rfl)
theorem ayI:af7 P K ka h=
 (bZ ka true
 (ak P 14 [] h fun hY h_1=>
 Qm P K ka hY h_1)
 (Qm P K ka undef h)):=ax (by kernel_rfl)
theorem ayH:Ql P K gy eB h=
 (OP (bL gy eB (.bool false)) fun iX=>
 af7 P K iX h):=ax (by kernel_rfl)
theorem ayG:af6 P K e8 gy h=
 (bZ gy true
 (OP (ai .eql e8 (.int .i64 (0))) fun eB=>
 Ql P K gy eB h)
 (Ql P K gy undef h)):=ax (by kernel_rfl)
theorem ayO:Qo P K kW hZ h=
 (OP (bL kW hZ (.bool false)) fun oO=>
 K oO h):=ax (by kernel_rfl)
theorem ayN:af9 P K kW h=
 (bZ kW true
 (ak P 14 [] h fun hZ h_1=>
 Qo P K kW hZ h_1)
 (Qo P K kW undef h)):=ax (by kernel_rfl)
theorem ayM:Qn P K ke fc h=
 (OP (bL ke fc (.bool false)) fun gY=>
 af9 P K gY h):=ax (by kernel_rfl)
theorem ayL:af8 P K e8 x9 ke h=
 (bZ ke true
 (OP (ai .eql e8 x9) fun fc=>
 Qn P K ke fc h)
 (Qn P K ke undef h)):=ax (by kernel_rfl)
theorem ayK:G7 P K i7 e8 x9 h=
 (OP (ai .eql i7 (.int .i64 (0))) fun gK=>
 af8 P K e8 x9 gK h):=ax (by kernel_rfl)
theorem ahi:G6 P K l5 x6 i7 e8 x9 h=
 (OP (ai .eql x9 (.int .i64 (0))) fun fK=>
 aM fK
 (ak P 42 [l5,x6] h fun jP h_1=>
 OP (ai .geq jP (.int .i64 (0))) fun lO=>
 aM lO
 (OP (ai .eql i7 jP) fun iM=>
 af6 P K e8 iM h_1)
 (G7 P K i7 e8 (.int .i64 (5)) h_1))
 (G7 P K i7 e8 x9 h)):=ax (by kernel_rfl)
theorem ayC:G5 P K l5 x6 i7 e8 x9 h=
 (cG [x9,(.int .i64 (0))] h fun L1 xs hx=>
 af4 P K l5 x6 i7 e8 L1 xs hx):=ax (by kernel_rfl)
def T9:Prop:=
 OH (dh 3 0 [(.int .i64 (0))] h []) fun aP h_1=>
 OP (dH h_1 aP) fun u=>
 (True)∧
 ak P 11 [x0] h_1 fun aA h_2=>
 (dH h_2 aP=some u∧True)∧
 OP (aY y1) fun bQ=>
 OP (rJ false [bQ,(.int .i64 (5))]) fun aQ=>
 OP (j5 3 1 y1 none (some aQ)) fun aN=>
 OH (dj 3 1 8 h_2 aP aN) fun aW h_3=>
 (True)∧
 ak P 41 [aA,aW] h_3 fun bM h_4=>
 OP (cC 0 bM) fun bt=>
 OP (cC 1 bM) fun bC=>
 ak P 13 [aA] h_4 fun bU h_5=>
 OP (ai .eql bU (.int .i64 (0))) fun cR=>
 Qp P K aA aW bt bC bU cR h_5
theorem e9:aj P c9 (aR [.tmp 4] K) (bp [x0,y1]) h=T9 P K x0 y1 h:=by kernel_rfl
theorem f9 {K:VK} {x0 y1:Value} {h:ae} (H:T9 Tryz.prog K x0 y1 h):ak Tryz.prog 9 [x0,y1] h K:=
 bF k9 (Nat.le_of_ble_eq_true rfl) ((e9 Tryz.prog K x0 y1 h).mpr H)
end
/-! F41: pommel/mend.Choose -/
noncomputable section
variable (l0 x1 x6 x8 i9 tO bt bC bD bX dn : Value) (L1 : LQ) (xs : List Value) (h : ae)
def acH:=bw Tryz.prog 41 [[],[],[],[],[],[],[],[],[],[],[6,8,25,26],[27],[],[],[],[6,8,9,10,25,26,27,34],[6,8,9,10,25,26,27,34,42],[],[],[],[],[6,8],[],[],[],[],[]]
@[irreducible] def D9:=bE acH
@[irreducible] def Aw:=D9.r.r.r.r.r.l.r.l.l
@[irreducible] def Wu:=D9.r.r.r.r.r.r
@[irreducible] def Wv:=Aw.r.r.l.l.r.l.l.r.l
@[irreducible] def aoo:=Aw.r.r.l.l.r.l.r
@[irreducible] def aon:=Aw.r.r.l.l.r.r
@[irreducible] def aom:=Aw.r.r.r
@[irreducible] def aoq:=Wu.l
@[irreducible] def aop:=Wv.r.l
theorem k41:acH=some (54,D9,[.tmp 4,.tmp 5]):=by kernel_rfl
def Jb (_P:Program) (K:VK):ar:=aR [.tmp 4,.tmp 5] K
def ak4:ar:=aD (aj P Wu (Jb P K)) (Jb P K)
def ak5:ar:=bz 0 (ak4 P K)
def Jc:ar:=aD (fun f' aS=>(([6,8,25,26]:List Nat).map f':List Value)=[x6,x8,bt,bC]∧L1 (([27]:List Nat).map f') aS) (ak5 P K)
def ak6:ar:=aD (aj P aom (Jc P K x6 x8 bt bC L1)) (Jc P K x6 x8 bt bC L1)
def Tg:ar:=bz 1 (ak6 P K x6 x8 bt bC L1)
def Th:ar:=aD (aj P aon (Tg P K x6 x8 bt bC L1)) (Tg P K x6 x8 bt bC L1)
def Ti:ar:=aD (aj P aoo (Th P K x6 x8 bt bC L1)) (Th P K x6 x8 bt bC L1)
def aeO:Prop:=av (aj P Aw (Jc P K x6 x8 bt bC L1)) ([6,8,25,26]++[27]) ([x6,x8,bt,bC]++xs) h
def aeP:Prop:=av (aj P Wv (Ti P K x6 x8 bt bC L1)) [6,8,9,10,25,26,27,34] [x6,x8,i9,tO,bt,bC,bD,bX] h
def GV:Prop:=av (aj P aop (Ti P K x6 x8 bt bC L1)) [6,8,9,10,25,26,27,34,42] [x6,x8,i9,tO,bt,bC,bD,bX,dn] h
def aeQ:Prop:=av (aj P aoq (Jb P K)) [6,8] [x6,x8] h
theorem axf:GV P K x6 x8 i9 tO bt bC bD bX dn L1 h=
 (OP (bL bX (.bool true) dn) fun bO=>
 aM bO
 (K (.tuple #[(.int .i64 (0)),(.int .i64 (1))]) h)
 (OP (uD 3 1 x8 i9) fun cd=>
 OH (aI 1 h cd tO) fun _ h_1=>
 OP (ai .add bD (.int .i64 (1))) fun gU=>
 ([x6,x8,bt,bC]:List Value)=[x6,x8,bt,bC]∧L1 [gU] h_1)):=ax (by kernel_rfl)
theorem axe:aeP P K x6 x8 i9 tO bt bC bD bX L1 h=
 (bZ bX false
 (OP (aU 3 x6 i9) fun cV=>
 OP (aK 0 cV) fun dR=>
 OP (aK 0 dR) fun dJ=>
 OP (af false 1 h dJ) fun dC=>
 OP (ai .geq tO dC) fun dn=>
 GV P K x6 x8 i9 tO bt bC bD bX dn L1 h)
 (GV P K x6 x8 i9 tO bt bC bD bX undef L1 h)):=ax (by kernel_rfl)
theorem axd (x6 x8 bt bC:Value) (L1:LQ) (bD:Value) (h:ae):aeO P K x6 x8 bt bC L1 [bD] h=
 (OP (ai .lss bD bC) fun bU=>
 aM bU
 (OP (aU 1 bt bD) fun cR=>
 OP (af false 1 h cR) fun ca=>
 OP (ai .lss ca (.int .i64 (-1))) fun dI=>
 aeP P K x6 x8 bD ca bt bC bD dI L1 h)
 (aeQ P K x6 x8 h)):=ax (by kernel_rfl)
theorem axg:aeQ P K x6 x8 h=
 (OP (af true 3 h x8) fun fT=>
 ak P 65 [x6,fT] h fun dD h_1=>
 OP (ai .lss dD (.int .i64 (0))) fun dS=>
 aM dS
 (K (.tuple #[(.int .i64 (0)),(.int .i64 (5))]) h_1)
 (K (.tuple #[dD,(.int .i64 (0))]) h_1)):=ax (by kernel_rfl)
def Kr:Prop:=
 ak P 43 [l0] h fun aP h_1=>
 OP (cC 0 aP) fun bc=>
 OP (cC 1 aP) fun a9=>
 OP (ai .neq a9 (.int .i64 (0))) fun aQ=>
 aM aQ
 (K (.tuple #[(.int .i64 (0)),a9]) h_1)
 (OP (aY x1) fun bm=>
 OP (aY bc) fun cF=>
 OP (ai .neq bm cF) fun bM=>
 aM bM
 (K (.tuple #[(.int .i64 (0)),(.int .i64 (1))]) h_1)
 (OH (aX 120 [(.int .i64 (0)),(.int .i64 (0)),(.int .i64 (0))] h_1) fun x8 h_2=>
 OP (aY x1) fun bC=>
 cG [(.int .i64 (0))] h_2 fun L1 xs hx=>
 aeO P K bc x8 x1 bC L1 xs hx))
theorem e41:aj P D9 (aR [.tmp 4,.tmp 5] K) (bp [l0,x1]) h=Kr P K l0 x1 h:=by kernel_rfl
theorem f41 {K:VK} {l0 x1:Value} {h:ae} (H:Kr Tryz.prog K l0 x1 h):ak Tryz.prog 41 [l0,x1] h K:=
 bF k41 (Nat.le_of_ble_eq_true rfl) ((e41 Tryz.prog K l0 x1 h).mpr H)
end
/-! F42: pommel/pommelref06.Choose -/
noncomputable section
variable (l0 x1 x5 x6 i7 : Value) (L1 : LQ) (xs : List Value) (h : ae)
def acI:=bw Tryz.prog 42 [[],[],[],[0,1,5],[6,7],[],[],[],[],[],[],[0,1,5,6,7],[6],[]]
@[irreducible] def Ea:=bE acI
@[irreducible] def Wx:=Ea.r.r.l.r.l.l
@[irreducible] def Ww:=Ea.r.r.r
@[irreducible] def aor:=Wx.r.r.l
@[irreducible] def aos:=Ww.l
theorem k42:acI=some (41,Ea,[.tmp 4]):=by kernel_rfl
def Jd (_P:Program) (K:VK):ar:=aR [.tmp 4] K
def ak7:ar:=aD (aj P Ww (Jd P K)) (Jd P K)
def ak8:ar:=bz 0 (ak7 P K)
def Tj:ar:=aD (fun f' aS=>(([0,1,5]:List Nat).map f':List Value)=[l0,x1,x5]∧L1 (([6,7]:List Nat).map f') aS) (ak8 P K)
def aeS:Prop:=av (aj P Wx (Tj P K l0 x1 x5 L1)) ([0,1,5]++[6,7]) ([l0,x1,x5]++xs) h
def B9:Prop:=av (aj P aor (Tj P K l0 x1 x5 L1)) [0,1,5,6,7] [l0,x1,x5,x6,i7] h
def aeR:Prop:=av (aj P aos (Jd P K)) [6] [x6] h
theorem axh:B9 P K l0 x1 x5 x6 i7 L1 h=
 (OP (ai .add i7 (.int .i64 (1))) fun a9=>
 ([l0,x1,x5]:List Value)=[l0,x1,x5]∧L1 [x6,a9] h):=ax (by kernel_rfl)
theorem axj (l0 x1 x5:Value) (L1:LQ) (x6 i7:Value) (h:ae):aeS P K l0 x1 x5 L1 [x6,i7] h=
 (OP (aY l0) fun aA=>
 OP (ai .lss i7 aA) fun aP=>
 aM aP
 (OP (aU 1 x1 i7) fun aN=>
 OP (af false 1 h aN) fun aW=>
 OP (ai .lss aW (.int .i64 (0))) fun bm=>
 aM bm
 (B9 P K l0 x1 x5 x6 i7 L1 h)
 (OH (aX 37 [(.bool false),(.slice none 0 0),(.bool false),(.slice none 0 0)] h) fun v8 h_1=>
 OP (dH h_1 v8) fun u=>
 (True)∧
 OP (aU 2 l0 i7) fun bt=>
 OP (af true 2 h_1 bt) fun bC=>
 (af true 2 h bt=some bC∧True)∧
 OP (aU 1 x1 i7) fun cA=>
 OP (af false 1 h_1 cA) fun cR=>
 (af false 1 h cA=some cR∧True)∧
 ak P 15 [bC,cR] h_1 fun ca h_2=>
 (dH h_2 v8=some u∧True)∧
 OP (cC 0 ca) fun cO=>
 OP (cC 1 ca) fun _=>
 OH (aI 4 h_2 v8 cO) fun _ h_3=>
 (True)∧
 OP (af true 4 h_3 v8) fun bX=>
 OP (af true 4 h_3 x5) fun dd=>
 ak P 29 [bX,dd] h_3 fun cJ h_4=>
 OP (ai .gtr cJ (.int .i64 (0))) fun dT=>
 aM dT
 (OP (af true 4 h_4 v8) fun cV=>
 OH (aI 4 h_4 x5 cV) fun _ h_5=>
 B9 P K l0 x1 x5 i7 i7 L1 h_5)
 (B9 P K l0 x1 x5 x6 i7 L1 h_4)))
 (aeR P K x6 h)):=ax (by kernel_rfl)
theorem axi:aeR P K x6 h=
 (K x6 h):=ax (by kernel_rfl)
def Ks:Prop:=
 ak P 20 [(.int .i64 (-1))] h fun aG h_1=>
 OH (aX 37 [(.bool false),(.slice none 0 0),(.bool false),(.slice none 0 0)] h_1) fun x5 h_2=>
 OH (aI 4 h_2 x5 aG) fun _ h_3=>
 cG [(.int .i64 (-1)),(.int .i64 (0))] h_3 fun L1 xs hx=>
 aeS P K l0 x1 x5 L1 xs hx
theorem e42:aj P Ea (aR [.tmp 4] K) (bp [l0,x1]) h=Ks P K l0 x1 h:=by kernel_rfl
theorem f42 {K:VK} {l0 x1:Value} {h:ae} (H:Ks Tryz.prog K l0 x1 h):ak Tryz.prog 42 [l0,x1] h K:=
 bF k42 (Nat.le_of_ble_eq_true rfl) ((e42 Tryz.prog K l0 x1 h).mpr H)
end
/-! F65: pommel/mend.choose -/
noncomputable section
variable (l0 x1 x3 x5 x6 i7 x9 ay az aA cO cJ : Value) (L1 : LQ) (xs : List Value) (h : ae)
def acV:=bw Tryz.prog 65 [[],[],[],[],[3,6,11,12],[5,13],[],[],[],[],[],[],[3,5,6,7,9,11,12,13,32],[3,5,6,7,9,11,12,13,32,36],[],[3,5,6,11,12,13],[5],[]]
@[irreducible] def Ej:=bE acV
@[irreducible] def Ek:=Ej.r.r.r.l.r.l.l
@[irreducible] def W2:=Ej.r.r.r.r
@[irreducible] def W1:=Ek.r.r.l.l.r.r.r.l.r.l
@[irreducible] def aoS:=Ek.r.r.l.l.r.r.r.r
@[irreducible] def W0:=Ek.r.r.r
@[irreducible] def aoV:=W2.l
@[irreducible] def aoT:=W1.r.l
@[irreducible] def aoU:=W0.l
theorem k65:acV=some (42,Ej,[.tmp 4]):=by kernel_rfl
def Jj (_P:Program) (K:VK):ar:=aR [.tmp 4] K
def alz:ar:=aD (aj P W2 (Jj P K)) (Jj P K)
def alA:ar:=bz 0 (alz P K)
def C7:ar:=aD (fun f' aS=>(([3,6,11,12]:List Nat).map f':List Value)=[x3,x6,ay,az]∧L1 (([5,13]:List Nat).map f') aS) (alA P K)
def aly:ar:=aD (aj P W0 (C7 P K x3 x6 ay az L1)) (C7 P K x3 x6 ay az L1)
def Tv:ar:=bz 1 (aly P K x3 x6 ay az L1)
def Tw:ar:=aD (aj P aoS (Tv P K x3 x6 ay az L1)) (Tv P K x3 x6 ay az L1)
def afc:Prop:=av (aj P Ek (C7 P K x3 x6 ay az L1)) ([3,6,11,12]++[5,13]) ([x3,x6,ay,az]++xs) h
def afa:Prop:=av (aj P W1 (Tw P K x3 x6 ay az L1)) [3,5,6,7,9,11,12,13,32] [x3,x5,x6,i7,x9,ay,az,aA,cO] h
def Cc:Prop:=av (aj P aoT (Tw P K x3 x6 ay az L1)) [3,5,6,7,9,11,12,13,32,36] [x3,x5,x6,i7,x9,ay,az,aA,cO,cJ] h
def Cd:Prop:=av (aj P aoU (C7 P K x3 x6 ay az L1)) [3,5,6,11,12,13] [x3,x5,x6,ay,az,aA] h
def afb:Prop:=av (aj P aoV (Jj P K)) [5] [x5] h
theorem ag0:Cc P K x3 x5 x6 i7 x9 ay az aA cO cJ L1 h=
 (OP (bL cO (.bool true) cJ) fun dT=>
 aM dT
 (OP (af true 4 h x9) fun dR=>
 (True)∧
 OH (aI 4 h x6 dR) fun _ h_1=>
 (True)∧
 Cd P K x3 i7 x6 ay az aA L1 h_1)
 (Cd P K x3 x5 x6 ay az aA L1 h)):=ax (by kernel_rfl)
theorem axG:afa P K x3 x5 x6 i7 x9 ay az aA cO L1 h=
 (bZ cO false
 (OP (af true 4 h x9) fun dI=>
 OP (af true 4 h x6) fun bX=>
 ak P 86 [dI,bX] h fun dd h_1=>
 OP (ai .gtr dd (.int .i64 (0))) fun cJ=>
 Cc P K x3 x5 x6 i7 x9 ay az aA cO cJ L1 h_1)
 (Cc P K x3 x5 x6 i7 x9 ay az aA cO undef L1 h)):=ax (by kernel_rfl)
theorem axH:Cd P K x3 x5 x6 ay az aA L1 h=
 (OP (ai .add aA (.int .i64 (1))) fun dJ=>
 ([x3,x6,ay,az]:List Value)=[x3,x6,ay,az]∧L1 [x5,dJ] h):=ax (by kernel_rfl)
theorem axJ (x3 x6 ay az:Value) (L1:LQ) (x5 aA:Value) (h:ae):afc P K x3 x6 ay az L1 [x5,aA] h=
 (OP (ai .lss aA az) fun aP=>
 aM aP
 (OP (aU 3 ay aA) fun a9=>
 OP (af true 3 h a9) fun bQ=>
 OH (aX 102 [(.int .i64 (0)),(.int .i64 (0)),(.slice none 0 0)] h) fun j8 h_1=>
 OH (aI 3 h_1 j8 bQ) fun _ h_2=>
 OP (uD 3 1 x3 aA) fun aN=>
 OP (af false 1 h_2 aN) fun aW=>
 OP (ai .eql aW (.int .i64 (-1))) fun bm=>
 aM bm
 (Cd P K x3 x5 x6 ay az aA L1 h_2)
 (OH (aX 107 [(.bool false),(.slice none 0 0),(.bool false),(.slice none 0 0)] h_2) fun x9 h_3=>
 OP (dH h_3 x9) fun u=>
 (True)∧
 OP (af true 3 h_3 j8) fun cF=>
 (af true 3 h_2 j8=some cF∧True)∧
 OP (uD 3 1 x3 aA) fun bt=>
 OP (af false 1 h_3 bt) fun bC=>
 (af false 1 h_2 bt=some bC∧True)∧
 ak P 44 [cF,bC] h_3 fun bD h_4=>
 (dH h_4 x9=some u∧True)∧
 OP (cC 0 bD) fun bU=>
 OP (cC 1 bD) fun _=>
 OH (aI 4 h_4 x9 bU) fun _ h_5=>
 (True)∧
 OP (ai .lss x5 (.int .i64 (0))) fun ca=>
 afa P K x3 x5 x6 aA x9 ay az aA ca L1 h_5))
 (afb P K x5 h)):=ax (by kernel_rfl)
theorem axI:afb P K x5 h=
 (K x5 h):=ax (by kernel_rfl)
def KE:Prop:=
 OH (bk 120 h x1) fun x3 h_1=>
 OH (aX 107 [(.bool false),(.slice none 0 0),(.bool false),(.slice none 0 0)] h_1) fun x6 h_2=>
 OP (aY l0) fun az=>
 cG [(.int .i64 (-1)),(.int .i64 (0))] h_2 fun L1 xs hx=>
 afc P K x3 x6 l0 az L1 xs hx
theorem e65:aj P Ej (aR [.tmp 4] K) (bp [l0,x1]) h=KE P K l0 x1 h:=by kernel_rfl
theorem f65 {K:VK} {l0 x1:Value} {h:ae} (H:KE Tryz.prog K l0 x1 h):ak Tryz.prog 65 [l0,x1] h K:=
 bF k65 (Nat.le_of_ble_eq_true rfl) ((e65 Tryz.prog K l0 x1 h).mpr H)
end
end Go.Proofs.YtelmdbpaoifmoaaGreat

namespace Go.Proofs.YtelmdbpaoifmoaaGreat
open Go.Sim

abbrev oR:=List (List Rat×Int)
def gp (cs:oR) (ag:List Int) (i:Nat):Rat:=
 (bT (cs.getD i ([],0)).1 (cs.getD i ([],0)).2 (ag.getD i (-1)).toNat ((cs.getD i ([],0)).1.length-(ag.getD i (-1)).toNat)).aZ
def cP (cs:oR) (ag:List Int):Nat→Int
 | 0=> -1
 | k+1=>if ag.getD k (-1)<0 then cP cs ag k else if cP cs ag k<0∨gp cs ag (cP cs ag k).toNat<gp cs ag k then k else cP cs ag k

structure Am (cs:oR) (ag:List Int):Prop where
 Ou:∀c∈cs,dB c.1 c.2=true
 AR:cs.length≤3
 Dp:∀i (hi:i<cs.length),-1≤ag.getD i (-1)∧ag.getD i (-1)<cs[i].1.length

theorem EO (cs:oR) (ag:List Int):∀k,-1≤cP cs ag k∧cP cs ag k<k
 | 0=>⟨Int.le_refl _,by show (-1:Int)<0;decide⟩
 | k+1=>by
  have:=EO cs ag k
  simp only [cP]
  split
  ·omega
  ·split <;> omega

theorem ql {α:Type} {l:List α} {d:α} {i:Nat} (hi:i<l.length):l.getD i d=l[i]:=by
 rw [List.getD_eq_getElem?_getD,List.getElem?_eq_getElem hi];rfl

theorem F3 {cs:oR} {ag:List Int} (hk:Am cs ag) {i:Nat} (hi:i<cs.length) (h0:0≤ag.getD i (-1)):0≤gp cs ag i∧cw 380 (gp cs ag i):=by
 have hc:=hk.Ou _ (List.getElem_mem hi)
 have ha:=(hk.Dp i hi).2
 unfold gp
 rw [ql hi]
 generalize cs[i]=c at*
 obtain ⟨a,e⟩:∃a:Nat,ag.getD i (-1)=(a:Int):=⟨(ag.getD i (-1)).toNat,by omega⟩
 rw [e] at ha⊢
 rw [Int.toNat_natCast]
 have hl:a<c.1.length:=by omega
 refine ⟨?_,HU hc (by omega)⟩
 have key:∀d,0<d→a+d≤c.1.length→0≤(bT c.1 c.2 a d).aZ:=by
  intro d
  induction d with
  | zero=>intro h;omega
  | succ d ih=>
   intro _ hd
   rw [ahU]
   split
   ·exact ah8 hc hd
   ·rename_i cW
    show 0≤(bT c.1 c.2 a d).aZ
    by_cases d0:d=0
    ·subst d0;exact absurd (.inl rfl) cW
    ·exact ih (by omega) (by omega)
 exact key _ (by omega) (by omega)

section
variable {h : ae} {K : Value → ae → Prop}

theorem az9 {h:ae} {i:Nat} {e:TypeId} {a b c x y z:Value} (hg:h[i]?=some (.arr e [a,b,c])):aI 3 h (pt i 0) (.agg #[x,y,z])=some (undef,h.set i (.arr e [x,y,z])):=by
 simp [aI,ta,hg,gS,cZ,Value.cells,setAt]
theorem abf {h:ae} {i:Nat} {e:TypeId} {a b c:Value} (hg:h[i]?=some (.arr e [a,b,c])):af true 3 h (pt i 0)=some (.agg #[a,b,c]):=by
 simp [af,aO,hg,ck]
theorem Uv {i k:Nat} (hk:k<3):uD 3 1 (pt i 0) (I k)=some (pt i k):=by
 have:(0:Int)≤(k:Int)∧(k:Int)<3:=by omega
 simp [uD,pt,this]
theorem C65 {v:Value} {cs:oR} {ag:List Int} (hv:LK h v cs) (hl:ag.length=3) (bV:Am cs ag) (hk:∀h',EX h h'→K (I (cP cs ag cs.length)) h'):ak Tryz.prog 65 [v,.agg (ag.map I).toArray] h K:=by
 refine f65 ?_
 have e0:bk 120 h (.agg (ag.map I).toArray)=some (pt h.length 0,h++[.arr 120 (ag.map I)]):=by
  match ag,hl with
  | [a,b,c],_=>rfl
 have e7:∀g:ae,aX 107 [(.bool false),(.slice none 0 0),(.bool false),(.slice none 0 0)] g=some (pt g.length 0,g++[.arr 107 z4]):=fun _=>rfl
 simp only [KE,e0,aE,e7]
 have x0:EX h (h++[.arr 120 (ag.map I)]):=EX.append _ _
 have k0:(h++[aq.arr 120 (ag.map I)])[h.length]?=some (.arr 120 (ag.map I)):=bR
 generalize h++[aq.arr 120 (ag.map I)]=g0 at x0 k0⊢
 have x1:EX g0 (g0++[.arr 107 z4]):=EX.append _ _
 have k1:(g0++[aq.arr 107 z4])[g0.length]?=some (.arr 107 z4):=bR
 generalize g0++[aq.arr 107 z4]=g1 at x1 k1⊢
 have hlen:=hv.len
 simp only [hlen,ah]
 have AR:=bV.AR
 refine dc (σ:=Nat×ae) (fun q=>[I (cP cs ag q.1),I q.1]) (fun q=>q.2) (fun q=>q.1≤cs.length∧EX g0 q.2∧(∃a b c d,q.2[g0.length]?=some (.arr 107 [.bool a,b,c,d]))∧(0≤cP cs ag q.1→Cell q.2 g0.length (gp cs ag (cP cs ag q.1).toNat))) (fun q=>cs.length-q.1)
  (0,g1) rfl rfl ⟨Nat.zero_le _,x1,⟨_,_,_,_,k1⟩,fun h=>absurd h (by show ¬(0:Int)≤ -1;decide)⟩ ?_
 rintro ⟨i,g⟩ ⟨hi,xg,uz,nr⟩ L hL
 simp only at hi xg uz nr hL⊢
 rw [axJ]
 simp only [cI,ah,bK]
 refine ⟨fun aC=>?_,fun cH=>?_⟩
 rotate_left
 ·have fN:i=cs.length:=by omega
  subst fN
  rw [axI]
  exact hk g (x0.trans xg)
 have bf:i<cs.length:=by omega
 have jN:∀{g':ae} (v':Int),EX g0 g'→v'=cP cs ag (i+1)→(∃a b c d,g'[g0.length]?=some (.arr 107 [.bool a,b,c,d]))→(0≤cP cs ag (i+1)→Cell g' g0.length (gp cs ag (cP cs ag (i+1)).toNat))→
   Cd Tryz.prog K (pt h.length 0) (I v') (pt g0.length 0) v (I cs.length) (I i) L g':=by
  intro g' v' x' iS s' c'
  rw [axH]
  simp only [cD,ah,inc i (by omega),true_and]
  have:=hL (i+1,g') ⟨by show i+1≤_;omega,x',s',c'⟩ (by show cs.length-(i+1)<cs.length-i;omega)
  rw [iS]
  exact this
 obtain ⟨b,o,vq,u1,u2,u3⟩:=(hv.mono (x0.trans xg)).get bf
 obtain ⟨rq,rs,_,_⟩:=id u3.1
 obtain ⟨t1,t2⟩:=rs.one
 have e3:∀g:ae,aX 102 [(.int .i64 (0)),(.int .i64 (0)),(.slice none 0 0)] g=some (pt g.length 0,g++[.arr 102 [I 0,I 0,.slice none 0 0]]):=fun _=>rfl
 simp only [u1,u2,ah,e3,aE]
 have y1:EX g (g++[.arr 102 [I 0,I 0,.slice none 0 0]]):=EX.append _ _
 have j1:(g++[aq.arr 102 [I 0,I 0,.slice none 0 0]])[g.length]?=some (.arr 102 [I 0,I 0,.slice none 0 0]):=bR
 generalize g++[aq.arr 102 [I 0,I 0,.slice none 0 0]]=g2 at y1 j1⊢
 rw [az9 j1]
 simp only [aE]
 have y2:EX g (g2.set g.length (.arr 102 [I cs[i].1.length,I cs[i].2,vq])):=y1.set (Nat.le_refl _) _
 have j2:(g2.set g.length (.arr 102 [I cs[i].1.length,I cs[i].2,vq]))[g.length]?=some (.arr 102 [I cs[i].1.length,I cs[i].2,vq]):=cM j1
 generalize g2.set g.length (.arr 102 [I cs[i].1.length,I cs[i].2,vq])=g3 at y2 j2⊢
 have A4:∀{g':ae},EX g0 g'→af false 1 g' (pt h.length i)=some (I (ag.getD i (-1))):=by
  intro g' x'
  have Nk:i<ag.length:=by omega
  have:=x'.get k0
  rw [ql Nk]
  simp [af,aO,this,ck,Nk]
 have iN:=xg.trans y2
 have aBy:g0.length<g.length:=by
  obtain ⟨_,_,_,_,e⟩:=uz
  exact (List.getElem?_eq_some_iff.1 e).1
 have sh3:∃a b c d,g3[g0.length]?=some (.arr 107 [.bool a,b,c,d]):=let ⟨a,b,c,d,e⟩:=uz;⟨a,b,c,d,y2.get e⟩
 simp only [Uv (show i<3 by omega),ah,A4 iN,fX,bK]
 obtain ⟨ga1,ga2⟩:=bV.Dp i bf
 refine ⟨fun aBq=>?_,fun pc=>?_⟩
 ·have e:cP cs ag (i+1)=cP cs ag i:=by simp only [cP];rw [if_pos (by omega)]
  refine jN _ iN e.symm sh3 ?_
  rw [e]
  exact fun h0=>(nr h0).mono y2
 have h0:0≤ag.getD i (-1):=by omega
 simp only [aE,e7]
 have z1:EX g3 (g3++[.arr 107 z4]):=EX.append _ _
 have m1:(g3++[aq.arr 107 z4])[g3.length]?=some (.arr 107 z4):=bR
 have hg3:g.length<g3.length:=(List.getElem?_eq_some_iff.1 j2).1
 generalize g3++[aq.arr 107 z4]=g4 at z1 m1⊢
 have l3:af true 3 g3 (pt g.length 0)=some (.agg #[I cs[i].1.length,I cs[i].2,vq]):=abf j2
 simp only [zm m1,ah,EX.load z1 l3,l3,true_and,A4 (iN.trans z1)]
 obtain ⟨a,ea⟩:∃a:Nat,ag.getD i (-1)=(a:Int):=⟨(ag.getD i (-1)).toNat,by omega⟩
 rw [ea]
 have fm:=(bV.Ou _ (List.getElem_mem bf))
 refine C44 (u3.1.mono (y2.trans z1)) fm (by omega) ?_
 intro r g5 x5 hr
 have Mk:(bT cs[i].1 cs[i].2 a (cs[i].1.length-a)).aZ=gp cs ag i:=by
  unfold gp
  rw [ql bf,ea,Int.toNat_natCast]
 rw [Mk] at hr
 obtain ⟨nn,sz⟩:=F3 bV bf h0
 obtain ⟨g6,e6,Rh⟩:=zX (x5.get m1) hr
 refine ⟨⟨zm (x5.get m1),trivial⟩,?_⟩
 simp only [eJ,fq,fC,ah,e6,aE]
 have cd:EX g3 g6:=Rh.ex (z1.trans x5) (Nat.le_refl _)
 have xg6:=iN.trans cd
 have sh6:∃a b c d,g6[g0.length]?=some (.arr 107 [.bool a,b,c,d]):=let ⟨a,b,c,d,e⟩:=sh3;⟨a,b,c,d,cd.get e⟩
 have ec:cP cs ag (i+1)=if cP cs ag i<0∨gp cs ag (cP cs ag i).toNat<gp cs ag i then (i:Int) else cP cs ag i:=by
  simp only [cP];rw [if_neg (by omega)]
 have take:∀{g':ae} (t u:Value),EX g6 g'→(cP cs ag i<0∨gp cs ag (cP cs ag i).toNat<gp cs ag i)→bL t (.bool true) u=some (B true)→Cc Tryz.prog K (pt h.length 0) (I (cP cs ag i)) (pt g0.length 0) (I i) (pt g3.length 0) v (I cs.length) (I i) t u L g':=by
  intro g' t u x' hc ht
  rw [ag0,ht]
  obtain ⟨vv,l6,r6⟩:=(Rh.cell.mono x').load
  simp only [ah,di,l6,true_and]
  obtain ⟨_,_,_,_,es⟩:=sh6
  obtain ⟨g7,e7',Ri⟩:=LX (x'.get es) r6
  simp only [e7',aE]
  rw [if_pos hc] at ec
  refine jN _ (Ri.ex (xg6.trans x') (Nat.le_refl _)) ec.symm ?_ (fun _=>?_)
  ·obtain ⟨_,_,_,_,e,_⟩:=Ri.cell
   exact ⟨_,_,_,_,e⟩
  ·rw [ec,Int.toNat_natCast];exact Ri.cell
 have stay:∀{g':ae} (t u:Value),EX g6 g'→¬(cP cs ag i<0∨gp cs ag (cP cs ag i).toNat<gp cs ag i)→bL t (.bool true) u=some (B false)→Cc Tryz.prog K (pt h.length 0) (I (cP cs ag i)) (pt g0.length 0) (I i) (pt g3.length 0) v (I cs.length) (I i) t u L g':=by
  intro g' t u x' hc ht
  rw [ag0,ht]
  simp only [ah,dp]
  rw [if_neg hc] at ec
  refine jN _ (xg6.trans x') ec.symm (let ⟨a,b,c,d,e⟩:=sh6;⟨a,b,c,d,x'.get e⟩) ?_
  rw [ec]
  exact fun h0=>(nr h0).mono ((y2.trans cd).trans x')
 rw [axG]
 by_cases hb:cP cs ag i<0
 ·rw [decide_eq_true hb]
  simp only [eZ]
  exact take _ _ (EX.refl _) (.inl hb) rfl
 ·rw [decide_eq_false hb]
  simp only [dO]
  obtain ⟨v9,l9,r9⟩:=Rh.cell.load
  obtain ⟨v8,l8,r8⟩:=((nr (by omega)).mono (y2.trans cd)).load
  simp only [l9,l8,ah]
  have hci:=EO cs ag i
  obtain ⟨c',YF⟩:∃c':Nat,cP cs ag i=(c':Int):=⟨(cP cs ag i).toNat,by omega⟩
  have sz8:cw 380 (gp cs ag (cP cs ag i).toNat):=by
   rw [YF,Int.toNat_natCast]
   have A8:c'<cs.length:=by omega
   refine (F3 bV A8 ?_).2
   have:∀k,0≤cP cs ag k→0≤ag.getD (cP cs ag k).toNat (-1):=by
    intro k
    induction k with
    | zero=>intro h;exact absurd h (by show ¬(0:Int)≤ -1;decide)
    | succ k ih=>
     simp only [cP]
     split
     ·exact ih
     ·split
      ·intro _;rw [Int.toNat_natCast];omega
      ·exact ih
   have:=this i (by omega)
   rw [YF,Int.toNat_natCast] at this
   exact this

  refine IF r9 r8 sz sz8 (by decide) ?_
  intro g7 x7
  simp only [fe,ah]
  by_cases hc:gp cs ag (cP cs ag i).toNat<gp cs ag i
  ·rw [decide_eq_true (EP.2 hc)]
   exact take _ _ x7 (.inr hc) rfl
  ·rw [decide_eq_false (fun h=>hc (EP.1 h))]
   exact stay _ _ x7 (by rintro (h | h);exact hb h;exact hc h) rfl

end
end Go.Proofs.YtelmdbpaoifmoaaGreat


namespace Go.Proofs.YtelmdbpaoifmoaaGreat
open Go.Sim

theorem gZ.num {g:ae} {i:Nat} {q:Rat} (p:gZ g i q):∃u,af true 2 g (pt i 0)=some u∧ZV g u q.num:=by
 obtain ⟨a,b,c,d,e,u,w,e2,hu,hw⟩:=p
 refine ⟨_,jg e,u,?_,hu⟩
 injection e2 with e2
 have e3:=congrArg Array.toList e2
 simp only [List.cons.injEq] at e3
 rw [e3.1,e3.2.1]

theorem atO (z:Int):decide (iU z<0)=decide (z<0):=by
 rw [decide_eq_decide]
 unfold iU
 split
 ·omega
 ·split <;> omega
theorem atP (z:Int):decide (iU z=0)=decide (z=0):=by
 rw [decide_eq_decide]
 unfold iU
 split
 ·omega
 ·split <;> omega

def bI (b:Bool):Int:=if b then 1 else 0

section
variable {h : ae} {K : Value → ae → Prop}

theorem aiW {v:Value} {cs:List (List (List UInt8)×Int)} {i is:Nat} {g0:ae} {b0:Bool} {L1:List Value→ae→Prop} (hv:jC h v cs) (hi:i<cs.length) (hl:cs[i].1.length≤8∧∀s∈cs[i].1,s.length≤700∧isNum s=true)
  (x0:EX h g0) (hs:h.length≤is) (c0:gZ g0 is 0)
  (hk:∀b g',EX h g'→b=(b0||(lV (cs[i].1.map bP) (cs[i].1.map bP).length|| !decide (mz (cs[i].1.map bP) (cs[i].1.map bP).length=1)))→zy Tryz.prog K v (I (bI b)) (I i) L1 g'):
  cG [I (bI b0),I 0] g0 fun L2 xs hx=>PC Tryz.prog K v (I i) (pt is 0) L1 L2 xs hx:=by
 obtain ⟨l8,hl⟩:=hl
 have ml:(cs[i].1.map bP).length=cs[i].1.length:=List.length_map ..
 refine dc (σ:=Nat×ae) (fun q=>[I (bI (b0||lV (cs[i].1.map bP) q.1)),I q.1]) (fun q=>q.2) (fun q=>q.1≤cs[i].1.length∧EX h q.2∧gZ q.2 is (mz (cs[i].1.map bP) q.1)) (fun q=>cs[i].1.length-q.1) (0,g0) (by simp [lV]) rfl
  ⟨Nat.zero_le _,x0,c0⟩ ?_
 rintro ⟨k,g⟩ ⟨fO,xg,hc⟩ L hL
 simp only at fO xg hc hL⊢
 rw [awY]
 obtain ⟨bi,o,vs,u1,u2,u3⟩:=(hv.mono xg).get hi
 obtain ⟨u4,u5⟩:=zf u2
 simp only [u1,ah,bW,Nat.add_zero,u4,u3.len,cI,bK]
 refine ⟨fun aC=>?_,fun cH=>?_⟩
 rotate_left
 ·have qy:k=cs[i].1.length:=by omega
  subst qy
  rw [aw3]
  obtain ⟨vc,lc,qc⟩:=hc.load
  simp only [lc,ah,true_and]
  refine uX (by decide) ?_
  intro r1 g1 x1 q1
  refine ⟨⟨EX.load x1 lc,trivial⟩,?_⟩
  have s1:=Rm (qs:=cs[i].1.map bP) (k:=cs[i].1.length) (by rw [ml];exact Nat.le_refl _)
  refine Ix ((qc.mono x1).un s1) (q1.un adw) (by omega) ?_
  intro g2 x2
  simp only [ng,ah,Yh]
  have xx:=xg.trans (x1.trans x2)
  rw [ml] at hk
  have e1:((1:Int):Rat)=1:=rfl
  rw [e1]
  by_cases hq:mz (cs[i].1.map bP) cs[i].1.length=1
  ·rw [decide_eq_true hq]
   simp only [Bool.not_true,dp]
   exact hk _ g2 xx (by rw [decide_eq_true hq];simp)
  ·rw [decide_eq_false hq]
   simp only [Bool.not_false,di]
   exact hk true g2 xx (by rw [decide_eq_false hq];simp)
 have bf:k<cs[i].1.length:=by omega
 obtain ⟨b,o',r1,r2⟩:=u3.get k bf
 have em:=List.getElem_mem bf
 obtain ⟨a1,a2⟩:=hl _ em
 have Mj:(cs[i].1.map bP).getD k 0=bP cs[i].1[k]:=by
  rw [List.getD_eq_getElem?_getD,List.getElem?_map,List.getElem?_eq_getElem bf]
  rfl
 simp only [r1,r2,ah]
 refine Si a1 a2 ?_
 intro q71 g1 x1 qv
 have e2:∀g:ae,aX 37 [(.bool false),(.slice none 0 0),(.bool false),(.slice none 0 0)] g=some (pt g.length 0,g++[.arr 37 z4]):=fun _=>rfl
 rw [e2]
 simp only [aE]
 refine ya qv ?_
 intro g3 x3 c3 _
 have jW:is<g1.length:=by have:=hc.lt;have:=x1.1;omega
 generalize g1.length=iq at c3 jW⊢
 have iN:=xg.trans (x1.trans x3)
 simp only [EX.load (x1.trans x3) u4,r1,EX.load (x1.trans x3) r2,ah]
 refine C47 (n:=4) a1 ?_
 rw [azU a2 (by decide)]
 have A8:=hc.mono (x1.trans x3)
 -- pQ comes after ft test
 have fin:∀{g4:ae},EX g3 g4→GP Tryz.prog K v (I (bI (b0||lV (cs[i].1.map bP) k))) (I i) (pt is 0) (I k) (pt iq 0) (B (eT (bP cs[i].1[k]))) (if eT (bP cs[i].1[k])=true then undef else B (decide (k+1=cs[i].1.length)&&decide ((bP cs[i].1[k]).num=0))) L1 L g4:=by
  intro g4 x4
  rw [aw1]
  have asX:bL (B (eT (bP cs[i].1[k]))) (.bool true) (if eT (bP cs[i].1[k])=true then undef else B (decide (k+1=cs[i].1.length)&&decide ((bP cs[i].1[k]).num=0)))=some (B (oF (cs[i].1.map bP) k)):=by
   unfold oF
   rw [Mj,ml]
   cases eT (bP cs[i].1[k]) with
   | true=>rfl
   | false=>rfl
  rw [asX]
  simp only [ah]
  have jN:∀(bb:Bool) {g5:ae},EX h g5→gZ g5 is (mz (cs[i].1.map bP) (k+1))→bb=(b0||lV (cs[i].1.map bP) (k+1))→GQ Tryz.prog K v (I (bI bb)) (I i) (pt is 0) (I k) L1 L g5:=by
   intro bb g5 x5 c5 hbb
   rw [aw2]
   simp only [cD,ah,inc k (by omega),true_and]
   have:=hL (k+1,g5) ⟨by show k+1≤_;omega,x5,c5⟩ (by show cs[i].1.length-(k+1)<cs[i].1.length-k;omega)
   rw [hbb]
   exact this
  cases wk:oF (cs[i].1.map bP) k with
  | true=>
   simp only [di]
   refine jN true (iN.trans x4) ?_ (by simp only [lV,wk,Bool.or_true])
   simp only [mz,wk,if_true]
   exact A8.mono x4
  | false=>
   simp only [dp]
   obtain ⟨va,la,qa⟩:=(A8.mono x4).load
   obtain ⟨vb,lb,qb⟩:=(c3.mono x4).load
   simp only [la,lb,ah]
   have s1:=Rm (qs:=cs[i].1.map bP) (k:=k) (by rw [ml];omega)
   have nb:eT (bP cs[i].1[k])=false:=by
    unfold oF at wk
    rw [Bool.or_eq_false_iff,Mj] at wk
    exact wk.1
   have s2:cw 4 (bP cs[i].1[k]):=by
    unfold eT sC at nb
    rw [Bool.or_eq_false_iff,Bool.not_eq_false',Bool.and_eq_true,decide_eq_true_eq,decide_eq_true_eq] at nb
    exact nb.2
   refine Iw (qa.un s1) (qb.un s2) (by omega) ?_
   intro r5 g5 x5 q5
   refine CJ q5 (by omega) ?_
   intro r6 g6 x6 q6
   obtain ⟨g7,e7,s7⟩:=((A8.mono x4).mono (x5.trans x6)).store q6
   simp only [e7,aE]
   refine jN _ (s7.ex (iN.trans (x4.trans (x5.trans x6))) hs) ?_ (by simp only [lV,wk,Bool.or_false])
   have:mz (cs[i].1.map bP) (k+1)=mz (cs[i].1.map bP) k+bP cs[i].1[k]:=by simp only [mz,wk,Mj];rfl
   rw [this]
   exact s7.cell
 -- ft last one is not 0
 have last:∀{g4:ae},EX g3 g4→PE Tryz.prog K v (I (bI (b0||lV (cs[i].1.map bP) k))) (I i) (pt is 0) (I k) (pt iq 0) (B (eT (bP cs[i].1[k]))) L1 L g4:=by
  intro g4 x4
  rw [aw0]
  cases Fs:eT (bP cs[i].1[k]) with
  | true=>
   have:=fin x4
   rw [Fs,if_pos rfl] at this
   simp only [eZ]
   rw [agJ]
   simp only [u7]
   rw [QE]
   simp only [eZ]
   exact this
  | false=>
   have fin:=@fin
   rw [Fs] at fin
   simp only [Bool.false_eq_true,if_false] at fin
   simp only [dO]
   obtain ⟨bi4,o4,vs4,m1,m2,m3⟩:=(hv.mono (iN.trans x4)).get hi
   obtain ⟨m4,m5⟩:=zf m2
   have ew:IntKind.wrap .i64 ((cs[i].1.length:Int)-1)=(cs[i].1.length:Int)-1:=wrap64 (by omega) (by omega)
   simp only [m1,ah,bW,Nat.add_zero,m4,m3.len,fz,ew,fX]
   have ed:decide ((k:Int)=(cs[i].1.length:Int)-1)=decide (k+1=cs[i].1.length):=by rw [decide_eq_decide];omega
   rw [ed,agJ]
   by_cases Bj:k+1=cs[i].1.length
   ·rw [decide_eq_true Bj] at fin⊢
    simp only [fy]
    obtain ⟨un,ln,zn⟩:=(c3.mono x4).num
    simp only [bW,Nat.add_zero,ah,ln]
    refine Iz zn ?_
    intro g5 x5
    simp only [fX,ah,atP]
    rw [QE]
    simp only [dO,dA,ah]
    have:=fin (x4.trans x5)
    rwa [Bool.true_and] at this
   ·rw [decide_eq_false Bj] at fin⊢
    simp only [iz]
    rw [QE]
    simp only [dO,cY,ah]
    have:=fin x4
    rwa [Bool.false_and] at this
 simp only [nO,ah]
 rw [awZ]
 cases hf:sC 4 (bP cs[i].1[k]) with
 | false=>
  have eb:eT (bP cs[i].1[k])=true:=by unfold eT;rw [hf];simp
  simp only [Bool.not_false,eZ]
  rw [agI]
  simp only [dA,ah]
  have:=last (EX.refl g3)
  rwa [eb] at this
 | true=>
  have eb:eT (bP cs[i].1[k])=decide ((bP cs[i].1[k]).num<0):=by unfold eT;rw [hf];simp
  simp only [Bool.not_true,dO]
  obtain ⟨un,ln,zn⟩:=c3.num
  simp only [bW,Nat.add_zero,ah,ln]
  refine Iz zn ?_
  intro g5 x5
  simp only [cI,ah,atO]
  rw [agI]
  simp only [cY,ah]
  have:=last x5
  rwa [eb] at this

end
end Go.Proofs.YtelmdbpaoifmoaaGreat


namespace Go.Proofs.YtelmdbpaoifmoaaGreat
open Go.Sim

def lA (cs:List (List (List UInt8)×Int)):Int:=if jG cs=false then 2 else if re cs=false then 1 else 0
def tk (cs:List (List (List UInt8)×Int)):Bool:=(bY cs).all fun c=>dB c.1 c.2

theorem adu {cs:List (List (List UInt8)×Int)} {i:Nat} (hi:i<cs.length):tk (cs.take (i+1))=(tk (cs.take i)&&dB (cs[i].1.map bP) cs[i].2):=by
 unfold tk bY
 rw [List.take_succ_eq_append_getElem hi,List.map_append,List.all_append]
 simp
theorem arZ {cs:List (List (List UInt8)×Int)} {i:Nat} (hi:i<cs.length):jG (cs.take (i+1))=(jG (cs.take i)&&cs[i].1.all isNum):=by
 unfold jG
 rw [List.take_succ_eq_append_getElem hi,List.all_append]
 simp
theorem arY {cs:List (List (List UInt8)×Int)} {i:Nat} (hi:i<cs.length) (h:cs[i].1.all isNum=false):jG cs=false:=by
 unfold jG
 rw [List.all_eq_false]
 exact ⟨cs[i],List.getElem_mem hi,by rw [h];decide⟩

section
variable {h : ae} {K : Value → ae → Prop}

theorem C13 {v:Value} {cs:List (List (List UInt8)×Int)} (hv:jC h v cs) (hl:∀c∈cs,c.1.length≤1000∧∀s∈c.1,s.length≤700) (hn:cs.length≤1000)
  (hk:∀h',EX h h'→K (I (lA cs)) h'):ak Tryz.prog 13 [v] h K:=by
 refine f13 ?_
 unfold J6
 refine dc (σ:=Nat×ae) (fun q=>[I (bI (!tk (cs.take q.1))),I q.1]) (fun q=>q.2) (fun q=>q.1≤cs.length∧EX h q.2∧jG (cs.take q.1)=true) (fun q=>cs.length-q.1) (0,h) rfl rfl ⟨Nat.zero_le _,EX.refl _,rfl⟩ ?_
 rintro ⟨i,g⟩ ⟨hi,xg,qt⟩ L hL
 simp only at hi xg qt hL⊢
 rw [aw6]
 have hlen:=(hv.mono xg).len
 simp only [hlen,ah,cI,bK]
 refine ⟨fun aC=>?_,fun cH=>?_⟩
 rotate_left
 ·have fN:i=cs.length:=by omega
  subst fN
  rw [List.take_length] at qt⊢
  rw [aw5]
  simp only [hlen,ah]
  refine Iy ?_
  have hk:=hk g xg
  unfold lA at hk
  rw [if_neg (by rw [qt];decide)] at hk
  simp only [nO,ah]
  unfold re at hk
  have eo:((bY cs).all fun c=>dB c.1 c.2)=tk cs:=rfl
  rw [eo] at hk
  have e1:decide ((1:Int)≤(cs.length:Int))=decide (1≤cs.length):=by rw [decide_eq_decide];omega
  have e2:decide ((cs.length:Int)≤3)=decide (cs.length≤3):=by rw [decide_eq_decide];omega
  rw [e1,e2]
  cases hc:(decide (1≤cs.length)&&decide (cs.length≤3)) with
  | false=>
   rw [hc,Bool.false_and,if_pos rfl] at hk
   simp only [Bool.not_false,di]
   rw [agK];exact hk
  | true=>
   rw [hc,Bool.true_and] at hk
   simp only [Bool.not_true,dp]
   rw [agK]
   cases ho:tk cs with
   | false=>rw [ho,if_pos rfl] at hk;exact hk
   | true=>rw [ho,if_neg (by decide)] at hk;exact hk
 have bf:i<cs.length:=by omega
 obtain ⟨l1,l2⟩:=hl _ (List.getElem_mem bf)
 refine uX (by decide) ?_
 intro r1 g1 x1 q1
 have e2:∀g:ae,aX 37 [(.bool false),(.slice none 0 0),(.bool false),(.slice none 0 0)] g=some (pt g.length 0,g++[.arr 37 z4]):=fun _=>rfl
 rw [e2]
 simp only [aE]
 refine ya q1 ?_
 intro g2 x2 c2 _
 have kf:=xg.trans (x1.trans x2)
 have hs:h.length≤g1.length:=(xg.trans x1).1
 generalize g1.length=is at c2 hs⊢
 -- all texts are numbers
 refine dc (σ:=Nat×ae) (fun q=>[I q.1]) (fun q=>q.2) (fun q=>q.1≤cs[i].1.length∧EX g2 q.2∧(cs[i].1.take q.1).all isNum=true) (fun q=>cs[i].1.length-q.1) (0,g2) rfl rfl ⟨Nat.zero_le _,EX.refl _,by simp⟩ ?_
 rintro ⟨k,g3⟩ ⟨fO,x3,rF⟩ L' A1
 simp only at fO x3 rF A1⊢
 have iN:=kf.trans x3
 rw [awV]
 obtain ⟨bi,o,vs,u1,u2,u3⟩:=(hv.mono iN).get bf
 obtain ⟨u4,u5⟩:=zf u2
 simp only [u1,ah,bW,Nat.add_zero,u4,u3.len,cI,bK]
 refine ⟨fun ky=>?_,fun Nf=>?_⟩
 ·have jI:k<cs[i].1.length:=by omega
  obtain ⟨b,o',r1,r2⟩:=u3.get k jI
  simp only [r1,r2,ah]
  refine C24 (l2 _ (List.getElem_mem jI)) ?_
  intro g4 x4
  have ei:(jz cs[i].1[k]).isSome=isNum cs[i].1[k]:=rfl
  rw [ei]
  simp only [nO,ah]
  cases Z1:isNum cs[i].1[k] with
  | false=>
   simp only [Bool.not_false,di]
   have hf:jG cs=false:=arY bf (by rw [List.all_eq_false];exact ⟨_,List.getElem_mem jI,by rw [Z1];decide⟩)
   have:=hk g4 (iN.trans x4)
   unfold lA at this
   rw [if_pos hf] at this
   exact this
  | true=>
   simp only [Bool.not_true,dp,cD,ah,inc k (by omega),true_and]
   refine A1 (k+1,g4) ⟨by show k+1≤_;omega,x3.trans x4,?_⟩ (by show cs[i].1.length-(k+1)<cs[i].1.length-k;omega)
   show (cs[i].1.take (k+1)).all isNum=true
   rw [List.take_succ_eq_append_getElem jI,List.all_append,rF]
   simp [Z1]
 have qy:k=cs[i].1.length:=by omega
 subst qy
 rw [List.take_length] at rF
 have asx:jG (cs.take (i+1))=true:=by rw [arZ bf,qt,rF];rfl
 have jN:∀{g5:ae} (b:Bool),EX h g5→b= !tk (cs.take (i+1))→zy Tryz.prog K v (I (bI b)) (I i) L g5:=by
  intro g5 b x5 hb
  rw [aw4]
  simp only [cD,ah,inc i (by omega),true_and]
  have:=hL (i+1,g5) ⟨by show i+1≤_;omega,x5,asx⟩ (by show cs.length-(i+1)<cs.length-i;omega)
  rw [hb]
  exact this
 have ml:(cs[i].1.map bP).length=cs[i].1.length:=List.length_map ..
 rw [awW]
 simp only [u1,ah,bW,Nat.add_zero,u4,u3.len]
 refine Iy ?_
 simp only [nO,ah]
 have e1:decide ((1:Int)≤(cs[i].1.length:Int))=decide (1≤cs[i].1.length):=by rw [decide_eq_decide];omega
 have e8:decide ((cs[i].1.length:Int)≤8)=decide (cs[i].1.length≤8):=by rw [decide_eq_decide];omega
 rw [e1,e8,awX]
 have out:∀eP:Value,bL (B (!(decide (1≤cs[i].1.length)&&decide (cs[i].1.length≤8)))) (.bool true) eP=some (B true)→dB (cs[i].1.map bP) cs[i].2=false→GO Tryz.prog K v (I (bI (!tk (cs.take i)))) (I i) (pt is 0) (B (!(decide (1≤cs[i].1.length)&&decide (cs[i].1.length≤8)))) eP L g3:=by
  intro eP hp cW
  rw [agH,hp]
  simp only [ah,di]
  exact jN true iN (by rw [adu bf,cW,Bool.and_false];rfl)
 cases hc:(decide (1≤cs[i].1.length)&&decide (cs[i].1.length≤8)) with
 | false=>
  rw [hc] at out
  simp only [Bool.not_false,eZ]
  exact out _ rfl (by unfold dB;rw [ml,hc];rfl)
 | true=>
  rw [hc] at out
  simp only [Bool.not_true,dO,u1,ah,bW,u5]
  refine Iy ?_
  simp only [nO,ah]
  cases hw:(decide (0≤cs[i].2)&&decide (cs[i].2≤50)) with
  | false=>
   exact out _ rfl (by unfold dB;rw [ml,hc,hw];rfl)
  | true=>
   rw [agH]
   simp only [Bool.not_true,cY,ah,dp]
   rw [Bool.and_eq_true,decide_eq_true_eq,decide_eq_true_eq] at hc
   refine aiW hv bf ⟨hc.2,fun s dw=>⟨l2 s dw,List.all_eq_true.1 rF s dw⟩⟩ iN hs (c2.mono x3) ?_
   intro b g5 x5 hb
   refine jN b x5 ?_
   rw [hb,atQ (by rw [ml];exact hc.1),adu bf]
   unfold dB
   rw [ml,decide_eq_true hc.1,decide_eq_true hc.2,hw]
   cases tk (cs.take i) <;> simp

end
end Go.Proofs.YtelmdbpaoifmoaaGreat


namespace Go.Proofs.YtelmdbpaoifmoaaGreat
open Go.Sim

def tV (ls:List (List UInt8)):List (List UInt8):=(ls.take 9).map fun s=>s.take 20
def sw (cs:List (List (List UInt8)×Int)):List (List (List UInt8)×Int):=(cs.take 4).map fun c=>(tV c.1,c.2)

def Oq:Value→Bool
 | .string _=>true
 | _=>false

def TS (h:ae) (v:Value) (ls:List (List UInt8)):Prop:=(v=.slice none 0 0∧ls=[])∨∃e i,v=sl e i 0 ls.length∧(ls=[]∨aO h i=some (ls.map S))

theorem TS.ss {h:ae} {v:Value} {ls:List (List UInt8)} (p:TS h v ls):SS h v ls:=by
 rcases p with ⟨rfl,rfl⟩ | ⟨e,i,rfl,rfl | hc⟩
 ·exact ⟨rfl,fun k hk=>by simp at hk⟩
 ·exact ⟨rfl,fun k hk=>by simp at hk⟩
 ·exact SS.sl hc
theorem TS.dN {h h':ae} {v:Value} {ls:List (List UInt8)} (x:KP Oq h h') (p:TS h v ls):TS h' v ls:=by
 rcases p with p | ⟨e,i,rfl,hc⟩
 ·exact .inl p
 ·refine .inr ⟨e,i,rfl,?_⟩
  rcases hc with hc | hc
  ·exact .inl hc
  ·cases ls with
   | nil=>exact .inl rfl
   | cons s t=>right;exact x i _ _ hc rfl
theorem TS.one {h:ae} {v:Value} {ls:List (List UInt8)} (p:TS h v ls):gS v=true∧cZ v=[v]∧eL v=true:=by
 rcases p with ⟨rfl,_⟩ | ⟨e,i,rfl,_⟩ <;> exact ⟨rfl,rfl,rfl⟩

def oS (b:Nat) (h:ae) (v:Value) (cs:List (List (List UInt8)×Int)):Prop:=
 ∃rows,ja b h 24 2 v rows∧rows.length=cs.length∧∀(k:Nat) (row:List Value) (c:List (List UInt8)×Int),rows[k]?=some row→cs[k]?=some c→∃vs,row=[vs,I c.2]∧TS h vs c.1

theorem oS.start (b:Nat) (h:ae):oS b h (.slice none 0 0) []:=⟨[],ja.start ..,rfl,fun k r q h=>by simp at h⟩
theorem oS.chl {b:Nat} {h:ae} {v:Value} {cs:List (List (List UInt8)×Int)} (o:oS b h v cs):jC h v cs:=
 let ⟨rows,a,c,d⟩:=o;⟨rows,a.rs,c,fun k row q h1 h2=>let ⟨vs,e,m⟩:=d k row q h1 h2;⟨vs,e,m.ss⟩⟩
theorem oS.ex {b:Nat} {h h':ae} {v:Value} {cs:List (List (List UInt8)×Int)} (x:EX h h') (o:oS b h v cs):oS b h' v cs:=
 let ⟨rows,a,c,d⟩:=o;⟨rows,a.ex x,c,fun k row q h1 h2=>let ⟨vq,e,m⟩:=d k row q h1 h2;⟨vq,e,m.dN (KP.ex x)⟩⟩

theorem oS.app {h0 h:ae} {v vs:Value} {ls:List (List UInt8)} {w:Int} {cs:List (List (List UInt8)×Int)} {zs:List Value} {K:Value→ae→Prop} (o:oS h0.length h v cs) (hex:EX h0 h) (hq:TS h vs ls) (hz:zs.length=2) (hl:cs.length≤10000)
  (hk:∀v' h',EX h0 h'→oS h0.length h' v' (cs++[(ls,w)])→K v' h'):OH (dh 24 1 zs h [(0,2,.agg #[vs,I w])]) fun y h2=>OH (dj 24 2 32 h2 v y) K:=by
 obtain ⟨rows,o1,o2,o4⟩:=o
 obtain ⟨t1,t2,_⟩:=hq.one
 refine o1.app hex hz (row:=[vs,I w]) rfl (by simp [cZ,Value.cells]) rfl (by omega) (by simp [maxLen];omega) ?_
 intro v' h' x' hold o'
 have fl:∀c r,rows.flatten=c::r→Oq c=false:=by
  intro c r e
  cases rows with
  | nil=>simp at e
  | cons row rows=>
   cases cs with
   | nil=>simp at o2
   | cons c0 cs=>
    obtain ⟨vs0,e0,m0⟩:=o4 0 row c0 rfl rfl
    subst e0
    simp only [List.flatten_cons,List.cons_append,List.cons.injEq] at e
    rw [←e.1]
    rcases m0 with ⟨rfl,_⟩ | ⟨_,_,rfl,_⟩ <;> rfl
 have kp:KP Oq h h':=o1.kp fl hold
 refine hk v' h' x' ⟨_,o',by simp [o2],fun k row q h1 h2=>?_⟩
 by_cases hk:k<rows.length
 ·rw [List.getElem?_append_left hk] at h1
  rw [List.getElem?_append_left (by omega)] at h2
  obtain ⟨Rx,e,m⟩:=o4 k row q h1 h2
  exact ⟨Rx,e,m.dN kp⟩
 ·rw [List.getElem?_append_right (by omega)] at h1
  rw [List.getElem?_append_right (by omega),←o2] at h2
  have h0:k-rows.length=0:=by
   have:=(List.getElem?_eq_some_iff.1 h1).1
   simp at this;omega
  rw [h0] at h1 h2
  simp only [List.getElem?_cons_zero,Option.some.injEq] at h1 h2
  subst h1 h2
  exact ⟨vs,rfl,hq.dN kp⟩

theorem avt {b:Nat} {h:ae} {v:Value} {ls:List (List UInt8)} (o:fW b h 27 v (ls.map S)):TS h v ls:=by
 rcases o with ⟨rfl,e⟩ | ⟨i,_,rfl,hg⟩
 ·exact .inl ⟨rfl,by simpa using e⟩
 ·exact .inr ⟨27,i,by rw [List.length_map],.inr (by simp [aO,hg])⟩

section
variable {h : ae} {K : Value → ae → Prop}

theorem C11 {v:Value} {cs:List (List (List UInt8)×Int)} (hv:jC h v cs) (hk:∀v' h',EX h h'→jC h' v' (sw cs)→K v' h'):ak Tryz.prog 11 [v] h K:=by
 refine f11 ?_
 have e0:dh 24 0 [(.slice none 0 0),(.int .i64 (0))] h []=some (sl 24 h.length 0 0,h++[.arr 24 []]):=rfl
 simp only [JN,e0,aE]
 have x0:EX h (h++[.arr 24 []]):=EX.append _ _
 have Pb:oS h.length (h++[aq.arr 24 []]) (sl 24 h.length 0 0) []:=⟨[],⟨fun r hr=>by simp at hr,.inr ⟨h.length,Nat.le_refl _,rfl,by simp⟩⟩,rfl,fun k r q h=>by simp at h⟩
 generalize sl 24 h.length 0 0=v0 at Pb⊢
 generalize h++[aq.arr 24 []]=h1 at x0 Pb⊢
 refine dc (σ:=Nat×Value×ae) (fun q=>[q.2.1,I q.1]) (fun q=>q.2.2) (fun q=>q.1≤cs.length∧q.1≤4∧EX h q.2.2∧oS h.length q.2.2 q.2.1 ((cs.take q.1).map fun c=>(tV c.1,c.2))) (fun q=>cs.length-q.1)
  (0,v0,h1) rfl rfl ⟨Nat.zero_le _,Nat.zero_le _,x0,Pb⟩ ?_
 rintro ⟨i,vo,g⟩ ⟨hi,Bf,xg,own⟩ L hL
 simp only at hi Bf xg own hL⊢
 rw [awd]
 have hlen:=(hv.mono xg).len
 simp only [hlen,ah,cI]
 rw [av7]
 by_cases aC:i<cs.length∧i<4
 rotate_left
 ·have out:∀a b:Value,bL a b (.bool false)=some (B false)→GI Tryz.prog K v vo (I i) a b L g:=by
   intro a b hp
   rw [agA,hp]
   simp only [ah,dp]
   rw [awc]
   refine hk vo g xg ?_
   have:sw cs=(cs.take i).map fun c=>(tV c.1,c.2):=by
    unfold sw
    by_cases h4:i<4
    ·rw [List.take_of_length_le (by omega),List.take_of_length_le (by omega)]
    ·rw [show i=4 by omega]
   rw [this]
   exact own.chl
  by_cases h1:i<cs.length
  ·rw [decide_eq_true (show (i:Int)<(cs.length:Int) by omega)]
   simp only [fy,rf,ah]
   rw [decide_eq_false (show ¬(i:Int)≤3 by omega)]
   exact out _ _ rfl
  ·rw [decide_eq_false (show ¬(i:Int)<(cs.length:Int) by omega)]
   simp only [iz]
   exact out _ _ rfl
 obtain ⟨bf,Nk⟩:=aC
 rw [decide_eq_true (show (i:Int)<(cs.length:Int) by omega)]
 simp only [fy,rf,ah]
 rw [decide_eq_true (show (i:Int)≤3 by omega),agA]
 obtain ⟨b,o,vs,u1,u2,u3⟩:=(hv.mono xg).get bf
 obtain ⟨u4,u5⟩:=zf u2
 have e23:cT [(.slice none 0 0),(.int .i64 (0))] [(1,1,I cs[i].2)]=some (.agg #[.slice none 0 0,I cs[i].2]):=rfl
 have ea:aX 24 [(.slice none 0 0),(.int .i64 (0))] g=some (pt g.length 0,g++[.arr 24 [.slice none 0 0,I 0]]):=rfl
 simp only [dA,ah,di,u1,bW,u5,e23,ea,aE]
 have j1:(g++[aq.arr 24 [.slice none 0 0,I 0]])[g.length]?=some (.arr 24 [.slice none 0 0,I 0]):=bR
 have y1:EX g (g++[aq.arr 24 [.slice none 0 0,I 0]]):=EX.append _ _
 generalize g++[aq.arr 24 [.slice none 0 0,I 0]]=g1 at j1 y1⊢
 rw [ef j1]
 simp only [aE]
 have y2:EX g (g1.set g.length (.arr 24 [.slice none 0 0,I cs[i].2])):=y1.set (Nat.le_refl _) _
 have j2:(g1.set g.length (.arr 24 [.slice none 0 0,I cs[i].2]))[g.length]?=some (.arr 24 [.slice none 0 0,I cs[i].2]):=cM j1
 generalize g1.set g.length (.arr 24 [.slice none 0 0,I cs[i].2])=g2 at y2 j2⊢
 -- ft texts
 refine dc (σ:=Nat×Value×ae) (fun q=>[I q.1]) (fun q=>q.2.2) (fun q=>q.1≤cs[i].1.length∧q.1≤9∧EX g q.2.2∧q.2.2[g.length]?=some (.arr 24 [q.2.1,I cs[i].2])∧fW (g.length+1) q.2.2 27 q.2.1 (((cs[i].1.take q.1).map fun s=>s.take 20).map S)) (fun q=>cs[i].1.length-q.1)
  (0,.slice none 0 0,g2) rfl rfl ⟨Nat.zero_le _,Nat.zero_le _,y2,j2,.inl ⟨rfl,by simp⟩⟩ ?_
 rintro ⟨k,vl,g3⟩ ⟨fO,hk9,x3,j3,ol⟩ L' A1
 simp only at fO hk9 x3 j3 ol A1⊢
 rw [av8]
 have iN:=xg.trans x3
 obtain ⟨b,o,vs,u1,u2,u3⟩:=(hv.mono iN).get bf
 obtain ⟨u4,u5⟩:=zf u2
 simp only [u1,ah,bW,Nat.add_zero,u4,u3.len,cI]
 rw [av9]
 by_cases aC:k<cs[i].1.length∧k<9
 rotate_left
 ·have out:∀a b:Value,bL a b (.bool false)=some (B false)→GJ Tryz.prog K v vo (I i) (pt g.length 0) (I k) a b L L' g3:=by
   intro a b hp
   rw [agB,hp]
   simp only [ah,dp]
   rw [awa,cn j3,ah]
   have el:(cs[i].1.take k).map (fun s=>s.take 20)=tV cs[i].1:=by
    unfold tV
    by_cases h4:k<9
    ·rw [List.take_of_length_le (by omega),List.take_of_length_le (by omega)]
    ·rw [show k=9 by omega]
   rw [el] at ol
   refine (own.ex x3).app iN (avt ol) rfl (by rw [List.length_map,List.length_take];omega) ?_
   intro v' g4 x4 B3
   rw [awb]
   simp only [cD,ah,inc i (by omega),true_and]
   refine hL (i+1,v',g4) ⟨by show i+1≤_;omega,by show i+1≤4;omega,x4,?_⟩ (by show cs.length-(i+1)<cs.length-i;omega)
   rw [List.take_succ_eq_append_getElem bf,List.map_append]
   exact B3
  by_cases h1:k<cs[i].1.length
  ·rw [decide_eq_true (show (k:Int)<(cs[i].1.length:Int) by omega)]
   simp only [fy,rf,ah]
   rw [decide_eq_false (show ¬(k:Int)≤8 by omega)]
   exact out _ _ rfl
  ·rw [decide_eq_false (show ¬(k:Int)<(cs[i].1.length:Int) by omega)]
   simp only [iz]
   exact out _ _ rfl
 obtain ⟨jI,hk8⟩:=aC
 rw [decide_eq_true (show (k:Int)<(cs[i].1.length:Int) by omega)]
 simp only [fy,rf,ah]
 rw [decide_eq_true (show (k:Int)≤8 by omega),agB]
 obtain ⟨b',o',r1,r2⟩:=u3.get k jI
 have lc:af false 1 g3 (pt g.length 0)=some vl:=by simp [af,aO,j3,ck]
 have mm:min ((cs[i].1[k].length:Int)) 20=((min cs[i].1[k].length 20:Nat):Int):=by omega
 have e58:jK (S cs[i].1[k]) none (some (I ((min cs[i].1[k].length 20:Nat):Int)))=some (S (cs[i].1[k].take 20)):=by
  have e:=HN (a:=cs[i].1[k]) (n:=min cs[i].1[k].length 20) (Nat.min_le_left _ _) .i64
  rw [e]
  congr 2
  by_cases Zf:cs[i].1[k].length≤20
  ·rw [List.take_of_length_le Zf,List.take_of_length_le (by omega)]
  ·rw [Nat.min_eq_right (by omega)]
 simp only [dA,ah,di,bW,Nat.add_zero,lc,u1,u4,r1,r2,kC,min2,mm,e58,true_and]
 have N1:=List.getElem?_eq_some_iff.1 j3
 have e59:dh 27 1 [(.string ⟨#[]⟩)] g3 [(0,1,S (cs[i].1[k].take 20))]=some (sl 27 g3.length 0 1,g3++[.arr 27 [S (cs[i].1[k].take 20)]]):=rfl
 have ld4:af false 1 (g3++[.arr 27 [S (cs[i].1[k].take 20)]]) (pt g.length 0)=some vl:=EX.load (EX.append _ _) lc
 have key:=Dr (z:=.string ⟨#[]⟩) (bytes:=16) (x:=S (cs[i].1[k].take 20)) (K:=fun gJ h_2=>OP (aK 0 (pt g.length 0)) fun hX=>
  OH (aI 1 h_2 hX gJ) fun _ h_3=>
  OP (ai .add (I k) (.int .i64 (1))) fun dT=>L' [dT] h_3) ol (by rw [List.length_map,List.length_map,List.length_take];omega) (by rw [List.length_map,List.length_map,List.length_take];simp [maxLen];omega) rfl rfl ?_
 ·rw [e59] at key⊢
  simp only [aE] at key⊢
  refine ⟨⟨ld4,trivial⟩,?_⟩
  simpa only [bW,Nat.add_zero,ah,true_and] using key
 ·intro h1 g4 _ hl4 hold iR
  simp only [aE,bW,Nat.add_zero,ah]
  have sK:g.length<g3.length:=N1.1
  have j4:g4[g.length]?=some (.arr 24 [vl,I cs[i].2]):=by
   rw [hold _ sK ?_]
   ·exact j3
   ·intro n hn
    have:=(ol.lt hn).1
    omega
  rw [show pt g.length 0=pt g.length 0 from rfl,oL j4 (by simp) rfl rfl]
  simp only [aE,cD,ah,inc k (by omega)]
  have qD:(cs[i].1.take (k+1)).map (fun s=>s.take 20)=(cs[i].1.take k).map (fun s=>s.take 20)++[cs[i].1[k].take 20]:=by
   rw [List.take_succ_eq_append_getElem jI,List.map_append];rfl
  have x4:EX g g4:=by
   refine ⟨by omega,fun d hd=>?_⟩
   rw [hold d (by omega) ?_]
   ·exact x3.2 d hd
   ·intro n hn
    have:=(ol.lt hn).1
    omega
  refine A1 (k+1,sl 27 (g3.length+1) 0 ((((cs[i].1.take k).map fun s=>s.take 20).map S).length+1),_) ⟨by show k+1≤_;omega,by show k+1≤9;omega,?_,?_,?_⟩ (by show cs[i].1.length-(k+1)<cs[i].1.length-k;omega)
  ·exact x4.set (Nat.le_refl _) _
  ·exact cM j4
  ·right
   refine ⟨g3.length+1,by omega,?_,?_⟩
   ·simp only [qD,List.map_append,List.length_append,List.length_map,List.length_cons,List.length_nil]
   ·show (g4.set _ _)[g3.length+1]?=_
    rw [List.getElem?_set_ne (by omega),iR,qD,List.map_append]
    rfl

end
end Go.Proofs.YtelmdbpaoifmoaaGreat


namespace Go.Proofs.YtelmdbpaoifmoaaGreat
open Go.Sim

theorem aqx (ls:List (List UInt8)):(tV ls).length≤9:=by unfold tV;rw [List.length_map,List.length_take];omega
theorem aqy (ls:List (List UInt8)):∀s∈tV ls,s.length≤20:=by
 intro s hs
 obtain ⟨t,_,rfl⟩:=List.mem_map.1 hs
 rw [List.length_take];omega

section
variable {h : ae} {K : Value → ae → Prop}

end
end Go.Proofs.YtelmdbpaoifmoaaGreat


namespace Go.Proofs.YtelmdbpaoifmoaaGreat
open Go.Sim

theorem Yg {cs:oR} {ag bg:List Int}:∀k,(∀i,i<k→ag.getD i (-1)=bg.getD i (-1))→cP cs ag k=cP cs bg k
 | 0,_=>rfl
 | k+1,h=>by
  have ih:=Yg (cs:=cs) k fun i hi=>h i (by omega)
  have e:∀i,i≤k→gp cs ag i=gp cs bg i:=fun i hi=>by unfold gp;rw [h i (by omega)]
  have hl:=EO cs bg k
  simp only [cP]
  rw [ih,h k (by omega),e k (Nat.le_refl _),e _ (show (cP cs bg k).toNat≤k by omega)]

theorem rK (cs:List (List (List UInt8)×Int)):(bY cs).length=cs.length:=by simp [bY]
theorem Gc {cs:List (List (List UInt8)×Int)} {i:Nat} (hi:i<cs.length):(bY cs)[i]'(by rw [rK];exact hi)=(cs[i].1.map bP,cs[i].2):=by simp [bY]

def nf (cs:oR) (ag:List Int) (k:Nat):Rat:=if cP cs ag k<0 then ((-1:Int):Rat) else gp cs ag (cP cs ag k).toNat

theorem aqj (cs:oR) (ag:List Int):∀k,0≤cP cs ag k→0≤ag.getD (cP cs ag k).toNat (-1):=by
 intro k
 induction k with
 | zero=>intro h;exact absurd h (by show ¬(0:Int)≤ -1;decide)
 | succ k ih=>
  simp only [cP]
  split
  ·exact ih
  ·split
   ·intro _;rw [Int.toNat_natCast];omega
   ·exact ih

theorem amC {cs:oR} {ag:List Int} (hk:Am cs ag) {k:Nat} (hl:k≤cs.length):cw 380 (nf cs ag k):=by
 unfold nf
 split
 ·have:cw 1 ((-1:Int):Rat):=by constructor <;> decide
  exact this.le (by decide)
 ·rename_i h
  have hc:=EO cs ag k
  exact (F3 hk (by omega) (aqj cs ag k (by omega))).2

section
variable {h : ae} {K : Value → ae → Prop}

theorem C42 {v va:Value} {cs:List (List (List UInt8)×Int)} {ag:List Int} (hv:jC h v cs) (ha:NS h va .i64 ag) (pc:ag.length=cs.length) (hl:∀c∈cs,∀s∈c.1,s.length≤700∧isNum s=true) (aB:Am (bY cs) ag)
  (hk:∀h',EX h h'→K (I (cP (bY cs) ag cs.length)) h'):ak Tryz.prog 42 [v,va] h K:=by
 refine f42 ?_
 unfold Ks
 have AR:cs.length≤3:=by rw [←rK];exact aB.AR
 refine uX (by decide) ?_
 intro r1 g1 x1 q1
 have e2:∀g:ae,aX 37 [(.bool false),(.slice none 0 0),(.bool false),(.slice none 0 0)] g=some (pt g.length 0,g++[.arr 37 z4]):=fun _=>rfl
 simp only [e2,aE]
 refine ya q1 ?_
 intro g2 x2 c2 _
 have zS:=x1.trans x2
 have hs:h.length≤g1.length:=x1.1
 generalize g1.length=ib at c2 hs⊢
 refine dc (σ:=Nat×ae) (fun q=>[I (cP (bY cs) ag q.1),I q.1]) (fun q=>q.2) (fun q=>q.1≤cs.length∧EX h q.2∧gZ q.2 ib (nf (bY cs) ag q.1)) (fun q=>cs.length-q.1)
  (0,g2) rfl rfl ⟨Nat.zero_le _,zS,c2⟩ ?_
 rintro ⟨i,g⟩ ⟨hi,xg,cell⟩ L hL
 simp only at hi xg cell hL⊢
 rw [axj]
 have hlen:=(hv.mono xg).len
 simp only [hlen,ah,cI,bK]
 refine ⟨fun aC=>?_,fun cH=>?_⟩
 rotate_left
 ·have fN:i=cs.length:=by omega
  subst fN
  rw [axi]
  exact hk g xg
 have bf:i<cs.length:=by omega
 have dG:i<(bY cs).length:=by rw [rK];exact bf
 have jN:∀{g':ae} (v':Int),EX h g'→v'=cP (bY cs) ag (i+1)→gZ g' ib (nf (bY cs) ag (i+1))→B9 Tryz.prog K v va (pt ib 0) (I v') (I i) L g':=by
  intro g' v' x' iS c'
  rw [axh]
  simp only [cD,ah,inc i (by omega),true_and]
  have:=hL (i+1,g') ⟨by show i+1≤_;omega,x',c'⟩ (by show cs.length-(i+1)<cs.length-i;omega)
  rw [iS]
  exact this
 obtain ⟨b1,o1,a1,a2⟩:=(ha.mono xg).get i (by omega)
 have eg:ag.getD i (-1)=ag[i]'(by omega):=ql (by omega)
 simp only [a1,a2,ah,cI,bK]
 refine ⟨fun mR=>?_,fun asi=>?_⟩
 ·have e:cP (bY cs) ag (i+1)=cP (bY cs) ag i:=by simp only [cP];rw [if_pos (by rw [eg];exact mR)]
  have e':nf (bY cs) ag (i+1)=nf (bY cs) ag i:=by unfold nf;rw [e]
  exact jN _ xg e.symm (by rw [e'];exact cell)
 obtain ⟨b2,o2,vs,u1,u2,u3⟩:=(hv.mono xg).get bf
 simp only [aE,e2]
 have y1:EX g (g++[.arr 37 z4]):=EX.append _ _
 have j1:(g++[aq.arr 37 z4])[g.length]?=some (.arr 37 z4):=bR
 generalize g++[aq.arr 37 z4]=g3 at y1 j1⊢
 simp only [rQ j1,ah,u1,EX.load y1 u2,u2,EX.load y1 a2,true_and]
 obtain ⟨a,ea⟩:∃a:Nat,ag[i]'(by omega)=(a:Int):=⟨(ag[i]'(by omega)).toNat,by omega⟩
 have MY:=(aB.Dp i dG).2
 rw [eg,ea] at MY
 rw [Gc bf,List.length_map] at MY
 rw [ea]
 have asJ:dB (cs[i].1.map bP) cs[i].2=true:=by
  have:=aB.Ou _ (List.getElem_mem dG)
  rwa [Gc bf] at this
 refine C15 (u3.mono y1) (hl _ (List.getElem_mem bf)) asJ (by omega) ?_
 intro r4 g4 x4 q4
 have Mk:(bT (cs[i].1.map bP) cs[i].2 a (cs[i].1.length-a)).aZ=gp (bY cs) ag i:=by
  unfold gp
  rw [ql dG,Gc bf,eg,ea,Int.toNat_natCast,List.length_map]
 rw [Mk] at q4
 obtain ⟨nn,sz⟩:=F3 aB dG (by rw [eg,ea];omega)
 refine ⟨⟨rQ (x4.get j1),trivial⟩,?_⟩
 obtain ⟨g5,e5,s5⟩:=yb (x4.get j1) q4
 simp only [eJ,fq,fC,ah,e5,aE]
 have cj:EX g g5:=s5.ex (y1.trans x4) (Nat.le_refl _)
 have br:ib≠g.length:=by have:=cell.lt;omega
 have LW:gZ g5 ib _:=s5.dN br (cell.mono (y1.trans x4))
 obtain ⟨v5,l5,q5⟩:=s5.cell.load
 obtain ⟨v6,l6,q6⟩:=LW.load
 simp only [l5,l6,ah]
 refine Ix (q5.un sz) (q6.un (amC aB (by omega))) (by decide) ?_
 intro g7 x7
 have ec:cP (bY cs) ag (i+1)=if cP (bY cs) ag i<0∨gp (bY cs) ag (cP (bY cs) ag i).toNat<gp (bY cs) ag i then (i:Int) else cP (bY cs) ag i:=by
  simp only [cP];rw [if_neg (by rw [eg];exact asi)]
 have asF:0<lX (gp (bY cs) ag i) (nf (bY cs) ag i)↔(cP (bY cs) ag i<0∨gp (bY cs) ag (cP (bY cs) ag i).toNat<gp (bY cs) ag i):=by
  rw [EP]
  unfold nf
  by_cases hb:cP (bY cs) ag i<0
  ·rw [if_pos hb]
   have:((-1:Int):Rat)<0:=by decide
   exact ⟨fun _=>.inl hb,fun _=>by grind⟩
  ·rw [if_neg hb]
   exact ⟨.inr,fun h=>h.resolve_left hb⟩
 simp only [fe,ah,bK]
 rw [asF]
 refine ⟨fun hc=>?_,fun hc=>?_⟩
 ·rw [if_pos hc] at ec
  simp only [EX.load x7 l5,ah]
  obtain ⟨g8,e8,s8⟩:=(LW.mono x7).store (q5.mono x7)
  simp only [e8,aE]
  refine jN _ (s8.ex (xg.trans (cj.trans x7)) hs) ec.symm ?_
  have:nf (bY cs) ag (i+1)=gp (bY cs) ag i:=by unfold nf;rw [ec,if_neg (by omega),Int.toNat_natCast]
  rw [this];exact s8.cell
 ·rw [if_neg hc] at ec
  refine jN _ (xg.trans (cj.trans x7)) ec.symm ?_
  have:nf (bY cs) ag (i+1)=nf (bY cs) ag i:=by unfold nf;rw [ec]
  rw [this];exact LW.mono x7

def ki (cs:oR) (ag:List Int) (k:Nat):Bool:=decide (ag.getD k 0< -1)||decide (((cs.getD k ([],0)).1.length:Int)≤ag.getD k 0)
def iC (cs:List (List (List UInt8)×Int)) (ag:List Int):Int:=
 if lA cs≠0 then lA cs else if ag.length≠cs.length then 1 else if (List.range ag.length).any (ki (bY cs) ag)=true then 1 else if cP (bY cs) ag cs.length<0 then 5 else 0

theorem UF {cs:List (List (List UInt8)×Int)} (h:re cs=true):(1≤cs.length∧cs.length≤3)∧∀c∈bY cs,dB c.1 c.2=true:=by
 unfold re at h
 simp only [Bool.and_eq_true,decide_eq_true_eq,List.all_eq_true] at h
 exact h

theorem arG {cs:List (List (List UInt8)×Int)} (h:lA cs=0):jG cs=true∧re cs=true:=by
 unfold lA at h
 cases h1:jG cs with
 | false=>rw [h1,if_pos rfl] at h;exact absurd h (by decide)
 | true=>
  rw [h1,if_neg (by decide)] at h
  cases h2:re cs with
  | false=>rw [h2,if_pos rfl] at h;exact absurd h (by decide)
  | true=>exact ⟨rfl,rfl⟩

theorem ahl {p:Nat→Bool} {k:Nat}:(List.range (k+1)).any p=((List.range k).any p||p k):=by
 rw [List.range_succ,List.any_append];simp

theorem UC {p:Nat→Bool} {n k:Nat} (hk:k<n) (h:p k=true):(List.range n).any p=true:=List.any_eq_true.2 ⟨k,List.mem_range.2 hk,h⟩

theorem Uw {cs:List (List (List UInt8)×Int)} {ag bg:List Int} (ha:re cs=true) (hl:ag.length=cs.length) (hb:(List.range ag.length).any (ki (bY cs) ag)=false) (he:∀i,i<cs.length→bg.getD i (-1)=ag.getD i (-1)):Am (bY cs) bg:=by
 obtain ⟨⟨_,h3⟩,hc⟩:=UF ha
 refine ⟨hc,by rw [rK];exact h3,fun i hi=>?_⟩
 have fm:i<cs.length:=by rw [←rK];exact hi
 rw [he i fm]
 have:=List.any_eq_false.1 hb i (List.mem_range.2 (by omega))
 have hd:∀d:Int,ag.getD i d=ag[i]'(by omega):=fun d=>ql (by omega)
 unfold ki at this
 rw [hd,ql hi] at this
 simp only [Bool.or_eq_true,decide_eq_true_eq,not_or] at this
 rw [hd]
 omega

theorem auQ {g:ae} {i o:Nat} {a b c:Value} (h:af true 3 g (pt i o)=some (.agg #[a,b,c])):af false 1 g (pt i o)=some a:=by
 simp only [af] at h⊢
 cases hc:aO g i with
 | none=>rw [hc] at h;cases h
 | some xs=>
  rw [hc] at h
  simp only [Option.bind_some,ck,if_true,Bool.false_eq_true,if_false] at h⊢
  split at h
  ·injection h with h
   injection h with h
   have u3:=congrArg Array.toList h
   simp only [List.toList_toArray] at u3
   have u4:=congrArg (fun l=>l[0]?) u3
   simp only [List.getElem?_take,List.getElem?_drop] at u4
   simpa using u4
  ·cases h

theorem Gu (ag:List Int) {i m:Nat} (bf:i<ag.length):((ag.take i++List.replicate (m+1) 0).map I).set i (I ag[i])=(ag.take (i+1)++List.replicate m 0).map I:=by
 have hl:((ag.take i).map I).length=i:=by rw [List.length_map,List.length_take];omega
 rw [List.map_append,List.set_append_right _ _ (by omega),hl,Nat.sub_self,List.replicate_succ,List.map_cons,List.set_cons_zero,List.take_succ_eq_append_getElem bf]
 simp only [List.map_append,List.map_cons,List.append_assoc,List.cons_append,List.nil_append]

theorem C41 {v va:Value} {cs:List (List (List UInt8)×Int)} {ag:List Int} (hv:jC h v cs) (ha:NS h va .i64 ag) (hl:∀c∈cs,c.1.length≤1000∧∀s∈c.1,s.length≤700) (hn:cs.length≤1000)
  (fD:iC cs ag≠0→∀h',EX h h'→K (.tuple #[I 0,I (iC cs ag)]) h')
  (hk:iC cs ag=0→∀h',EX h h'→K (.tuple #[I (cP (bY cs) ag cs.length),I 0]) h'):ak Tryz.prog 41 [v,va] h K:=by
 refine f41 ?_
 unfold Kr
 have fail:∀(c:Int) {g:ae},EX h g→c≠0→c=lA cs→∀A:Prop,(OP (ai .neq (I c) (.int .i64 (0))) fun aQ=>aM aQ (K (.tuple #[(.int .i64 (0)),I c]) g) A):=by
  intro c g x hc he A
  simp only [ng,ah,decide_eq_false hc,Bool.not_false,di]
  have e:iC cs ag=c:=by unfold iC;rw [if_pos (by rw [←he];exact hc),he]
  have:=fD (by rw [e];exact hc) g x
  rw [e] at this
  exact this
 refine C43 hv hl hn (fun hf g2 x2=>?_) (fun hf nZ g2 x2=>?_) (fun hf nZ v' g2 x2 lk=>?_)
 ·simp only [eJ,fq,fC,ah]
  exact fail 2 x2 (by decide) (by unfold lA;rw [if_pos hf]) _
 ·simp only [eJ,fq,fC,ah]
  exact fail 1 x2 (by decide) (by unfold lA;rw [if_neg (by rw [hf];decide),if_pos nZ]) _
 have E4:lA cs=0:=by unfold lA;rw [if_neg (by rw [hf];decide),if_neg (by rw [nZ];decide)]
 obtain ⟨⟨_,AR⟩,_⟩:=UF nZ
 have e00:ai .neq (I 0) (.int .i64 0)=some (B false):=rfl
 have BR:=lk.len
 rw [rK] at BR
 simp only [eJ,fq,fC,ah,e00,dp,ha.len,BR,ng]
 by_cases hlen:ag.length=cs.length
 rotate_left
 ·rw [decide_eq_false (by omega)]
  simp only [Bool.not_false,di]
  have e:iC cs ag=1:=by unfold iC;rw [if_neg (by rw [E4];decide),if_pos hlen]
  have:=fD (by rw [e];decide) g2 x2
  rw [e] at this
  exact this
 rw [decide_eq_true (by omega)]
 have ea:aX 120 [(.int .i64 (0)),(.int .i64 (0)),(.int .i64 (0))] g2=some (pt g2.length 0,g2++[.arr 120 [I 0,I 0,I 0]]):=rfl
 simp only [Bool.not_true,dp,ea,aE]
 have y1:EX g2 (g2++[.arr 120 [I 0,I 0,I 0]]):=EX.append _ _
 have j1:(g2++[aq.arr 120 [I 0,I 0,I 0]])[g2.length]?=some (.arr 120 [I 0,I 0,I 0]):=bR
 generalize g2++[aq.arr 120 [I 0,I 0,I 0]]=g3 at y1 j1⊢
 refine dc (σ:=Nat×ae) (fun q=>[I q.1]) (fun q=>q.2) (fun q=>q.1≤ag.length∧EX g2 q.2∧q.2[g2.length]?=some (.arr 120 ((ag.take q.1++List.replicate (3-q.1) 0).map I))∧(List.range q.1).any (ki (bY cs) ag)=false) (fun q=>ag.length-q.1)
  (0,g3) rfl rfl ⟨Nat.zero_le _,y1,j1,rfl⟩ ?_
 rintro ⟨i,g⟩ ⟨hi,xg,yI,yF⟩ L hL
 simp only at hi xg yI yF hL⊢
 rw [axd]
 simp only [cI,ah,bK]
 have xh:=x2.trans xg
 refine ⟨fun aC=>?_,fun cH=>?_⟩
 ·have bf:i<ag.length:=by omega
  obtain ⟨b1,o1,a1,a2⟩:=(ha.mono xh).get i bf
  have hd:ag.getD i 0=ag[i]:=ql bf
  simp only [a1,a2,ah]
  have bad:ki (bY cs) ag i=true→K (.tuple #[(.int .i64 (0)),(.int .i64 (1))]) g:=by
   intro hb
   have e:iC cs ag=1:=by
    unfold iC
    rw [if_neg (by rw [E4];decide),if_neg (fun h=>h hlen),if_pos (UC bf hb)]
   have:=fD (by rw [e];decide) g xh
   rw [e] at this
   exact this
  have go:∀t u:Value,bL t (.bool true) u=some (B (ki (bY cs) ag i))→GV Tryz.prog K v' (pt g2.length 0) (I i) (I ag[i]) va (I ag.length) (I i) t u L g:=by
   intro t u ht
   rw [axf,ht]
   simp only [ah]
   cases hb:ki (bY cs) ag i with
   | true=>simp only [di];exact bad hb
   | false=>
    simp only [dp,Uv (show i<3 by omega),ah]
    rw [oL yI (by simp;omega) rfl rfl]
    simp only [aE,cD,ah,inc i (by omega),true_and]
    refine hL (i+1,_) ⟨by show i+1≤_;omega,xg.set (Nat.le_refl _) _,?_,?_⟩ (by show ag.length-(i+1)<ag.length-i;omega)
    ·show (g.set _ _)[g2.length]?=_
     rw [cM yI]
     obtain ⟨m,hm⟩:∃m,3-i=m+1:=⟨3-i-1,by omega⟩
     have fE:3-(i+1)=m:=by omega
     rw [hm,fE,Gu ag bf]
    ·show (List.range (i+1)).any _=false
     rw [ahl,yF,hb];rfl
  obtain ⟨bi,oi,vq,u1,u2,u3⟩:=(lk.mono xg).get (k:=i) (by rw [rK];omega)
  have fm:i<(bY cs).length:=by rw [rK];omega
  simp only [cI,ah]
  rw [axe]
  by_cases h1:ag[i]< -1
  ·rw [decide_eq_true h1]
   simp only [eZ]
   refine go _ _ ?_
   unfold ki
   rw [hd,decide_eq_true h1];rfl
  ·rw [decide_eq_false h1]
   simp only [dO,u1,ah,bW,Nat.add_zero,auQ u2,kl]
   refine go _ _ ?_
   unfold ki
   rw [hd,decide_eq_false h1,ql fm,Bool.false_or]
   rfl
 ·have fN:i=ag.length:=by omega
  subst fN
  rw [List.take_length] at yI
  have aBr:=yF
  have e3:ag.length+(3-ag.length)=3:=by omega
  generalize Zr:ag++List.replicate (3-ag.length) 0=bg at yI
  have vX:bg.length=3:=by rw [←Zr,List.length_append,List.length_replicate];omega
  have A6:∀j,j<cs.length→bg.getD j (-1)=ag.getD j (-1):=by
   intro j hj
   rw [←Zr,List.getD_eq_getElem?_getD,List.getD_eq_getElem?_getD,List.getElem?_append_left (by omega)]
  have l3:af true 3 g (pt g2.length 0)=some (.agg (bg.map I).toArray):=by
   match bg,vX with
   | [a,b,c],_=>exact abf yI
  rw [axg]
  simp only [l3,ah]
  have aB:=Uw (bg:=bg) nZ hlen yF A6
  refine C65 (lk.mono xg) vX aB ?_
  intro g4 x4
  rw [rK,Yg _ A6]
  have uT:=xh.trans x4
  simp only [cI,ah,bK]
  refine ⟨fun mR=>?_,fun fQ=>?_⟩
  ·have e:iC cs ag=5:=by
    unfold iC
    rw [if_neg (by rw [E4];decide),if_neg (fun h=>h hlen),if_neg (by rw [yF];decide),if_pos mR]
   have:=fD (by rw [e];decide) g4 uT
   rw [e] at this
   exact this
  ·have e:iC cs ag=0:=by
    unfold iC
    rw [if_neg (by rw [E4];decide),if_neg (fun h=>h hlen),if_neg (by rw [yF];decide),if_neg fQ]
   exact hk e g4 uT

end
end Go.Proofs.YtelmdbpaoifmoaaGreat


namespace Go.Proofs.YtelmdbpaoifmoaaGreat
open Go.Sim

theorem aqv (cs:List (List (List UInt8)×Int)):(sw cs).length≤4:=by unfold sw;rw [List.length_map,List.length_take];omega
theorem aqw {cs:List (List (List UInt8)×Int)}:∀c∈sw cs,c.1.length≤9∧∀s∈c.1,s.length≤20:=by
 intro c hc
 unfold sw at hc
 obtain ⟨d,_,rfl⟩:=List.mem_map.1 hc
 exact ⟨aqx _,aqy _⟩

theorem abN {g:ae} {i:Nat} (hi:g[i]?=some (.arr 3 [])):dH g (sl 3 i 0 0)=some (.agg #[.int .i64 3]):=by
 simp [dH,wQ,sl,hi,mI]

theorem auH {b:Nat} {g g':ae} (x:XM b g g') (hb:g[b]?=some (.arr 3 [])):KP (fun _=>true) g g':=by
 intro d c r h1 _
 have br:d≠b:=by
  rintro rfl
  simp [aO,hb] at h1
 have hd:d<g.length:=by
  apply Classical.byContradiction
  intro cH
  rw [aO,List.getElem?_eq_none (by omega)] at h1
  cases h1
 unfold aO at h1⊢
 rw [x.2 d hd br]
 exact h1
theorem auS {g g':ae} (x:KP (fun _=>true) g g') {i o:Nat} {v:Value} (hl:af false 1 g (pt i o)=some v):af false 1 g' (pt i o)=some v:=by
 simp only [af] at hl⊢
 cases hc:aO g i with
 | none=>rw [hc] at hl;cases hl
 | some xs=>
  cases xs with
  | nil=>rw [hc] at hl;simp [ck] at hl
  | cons c r=>rw [x i c r hc rfl];rw [hc] at hl;exact hl
theorem az3 {g g':ae} (x:KP (fun _=>true) g g') {v:Value} {ls:List (List UInt8)} (p:SS g v ls):SS g' v ls:=
 ⟨p.len,fun k hk=>let ⟨i,o,a,b⟩:=p.get k hk;⟨i,o,a,auS x b⟩⟩
theorem aqi {g g':ae} (x:KP (fun _=>true) g g') {v:Value} {cs:List (List (List UInt8)×Int)} (p:jC g v cs):jC g' v cs:=by
 obtain ⟨rows,⟨a,b⟩,c,d⟩:=p
 refine ⟨rows,⟨a,b.imp id fun ⟨i,o,e1,e2⟩=>⟨i,o,e1,?_⟩⟩,c,fun k row q h1 h2=>let ⟨vs,e,m⟩:=d k row q h1 h2;⟨vs,e,az3 x m⟩⟩
 rcases e2 with e2 | ⟨pre,post,e2,e3⟩
 ·exact .inl e2
 ·cases rows with
  | nil=>exact .inl rfl
  | cons r rows=>
   right
   refine ⟨pre,post,?_,e3⟩
   have hr:=a r (by simp)
   cases qp:pre++(r::rows).flatten++post with
   | nil=>
    have:=congrArg List.length qp
    simp [hr] at this
   | cons y ys=>rw [qp] at e2;exact x i y ys e2 rfl

def kj (c0:Int) (cs:oR) (ag:List Int) (k:Nat):Int:=if c0≠0 then c0 else if (List.range k).any (ki cs ag)=true then 1 else 0

section
variable {h : ae} {K : Value → ae → Prop}

theorem C9 {v va:Value} {cs:List (List (List UInt8)×Int)} {ys:List Int} (BA:jC h v cs) (hy:CO h 3 .i64 va ys) (hk:∀h',K (.bool true) h'):ak Tryz.prog 9 [v,va] h K:=by
 refine f9 ?_
 unfold T9
 have m0:dh 3 0 [(.int .i64 (0))] h []=some (sl 3 h.length 0 0,h++[.arr 3 []]):=rfl
 simp only [m0,aE]
 have x0:EX h (h++[.arr 3 []]):=EX.append _ _
 have k0:(h++[aq.arr 3 []])[h.length]?=some (.arr 3 []):=bR
 generalize h++[aq.arr 3 []]=g0 at x0 k0⊢
 simp only [abN k0,ah,true_and]
 refine C11 (BA.mono x0) ?_
 intro vl g1 x1 kA
 have k1:=x1.get k0
 have x01:=x0.trans x1
 have c4:=aqv cs
 have cm:=aqw (cs:=cs)
 have Nt:∀c∈sw cs,c.1.length≤1000∧∀s∈c.1,s.length≤700:=fun c hc=>⟨by have:=(cm c hc).1;omega,fun s hs=>by have:=(cm c hc).2 s hs;omega⟩
 generalize sw cs=C at*
 refine ⟨⟨abN k1,trivial⟩,?_⟩
 have hy1:=hy.mono x01
 have em:min (ys.length:Int) 5=((min ys.length 5:Nat):Int):=by omega
 obtain ⟨v',s1,s2,s3⟩:=hy1.part (Nat.min_le_left ys.length 5)
 rw [Nat.mul_one,←List.map_take] at s2
 obtain ⟨i,g3,a1,a2,a3,a4⟩:=amx (bytes:=8) k1 s2 s3 (fun h0=>by rw [h0];simp) (by omega) (by simp [maxLen];omega)
 simp only [hy1.len,ah,min2,em,s1,a1,aE]
 have hv:jC g3 vl C:=aqi (auH a3 k1) kA
 have hl:(ys.take (min ys.length 5)).length=min ys.length 5:=by rw [List.length_take];omega
 have ha:NS g3 (sl 3 i 0 (min ys.length 5)) .i64 (ys.take (min ys.length 5)):=by
  have:=NS.arr (k:=.i64) a4 (by simp [maxLen];omega)
  rw [hl] at this
  exact this
 generalize sl 3 i 0 (min ys.length 5)=Cx at ha⊢
 have MY:(ys.take (min ys.length 5)).length≤5:=by omega
 generalize ys.take (min ys.length 5)=ag at*
 -- pQ is refused
 have bad:∀(g:ae) (c:Int),c≠0→G7 Tryz.prog K (I 0) (I c) (I c) g:=by
  intro g c hc
  rw [ayK]
  simp only [fX,ah,decide_true]
  rw [ayL]
  simp only [fy,fX,ah,decide_true]
  rw [ayM]
  simp only [dA,ah]
  rw [ayN]
  simp only [fy]
  refine Sh ?_
  rw [ayO]
  simp only [dA,ah]
  exact hk _
 have amA:∀(g:ae) (c:Int),c≠0→G6 Tryz.prog K vl Cx (I 0) (I c) (I c) g:=by
  intro g c hc
  rw [ahi]
  simp only [fX,ah,decide_eq_false hc,dp]
  exact bad g c hc
 have pf:lA C≠0∨lA C=0:=by omega
 -- ft Dp,one after ft other
 have walk:∀(c0:Int) (i7 e8:Int) {g:ae},EX g3 g→(c0=0→lA C=0∧ag.length=C.length)→(i7=0∨iC C ag=0)→e8=iC C ag→(kj c0 (bY C) ag ag.length≠0→iC C ag=kj c0 (bY C) ag ag.length)→(iC C ag=0→i7=cP (bY C) ag C.length)→
   G5 Tryz.prog K vl Cx (I i7) (I e8) (I c0) g:=by
  intro c0 i7 e8 g xg hz yG Na n9 sH
  rw [ayC]
  refine dc (σ:=Nat) (fun q=>[I (kj c0 (bY C) ag q),I q]) (fun _=>g) (fun q=>q≤ag.length) (fun q=>ag.length-q) 0 (by show [I (if c0≠0 then c0 else 0),I (0:Nat)]=_;by_cases h0:c0=0 <;> simp [h0]) rfl (Nat.zero_le _) ?_
  intro k fO L hL
  rw [ayD]
  simp only [(ha.mono xg).len,ah,cI]
  rw [ayE]
  have fin:(ag.length≤k∨kj c0 (bY C) ag k≠0)→G6 Tryz.prog K vl Cx (I i7) (I e8) (I (kj c0 (bY C) ag k)) g:=by
   intro hc
   by_cases hb:kj c0 (bY C) ag k=0
   ·have qy:k=ag.length:=by
     rcases hc with hc | hc
     ·omega
     ·exact absurd hb hc
    subst qy
    have oW:c0=0:=by
     apply Classical.byContradiction
     intro h0
     unfold kj at hb
     rw [if_pos h0] at hb
     exact h0 hb
    obtain ⟨z1,z2⟩:=hz oW
    obtain ⟨hf,asj⟩:=arG z1
    have pv:(List.range ag.length).any (ki (bY C) ag)=false:=by
     unfold kj at hb
     rw [if_neg (fun h=>h oW)] at hb
     cases hx:(List.range ag.length).any (ki (bY C) ag) with
     | false=>rfl
     | true=>rw [hx,if_pos rfl] at hb;exact absurd hb (by decide)
    have yg:iC C ag=if cP (bY C) ag C.length<0 then 5 else 0:=by
     unfold iC
     rw [if_neg (fun h=>h z1),if_neg (fun h=>h z2),if_neg (by rw [pv];decide)]
    rw [hb,ahi]
    have e0:ai .eql (I 0) (.int .i64 (0))=some (B true):=rfl
    simp only [e0,ah,di]
    have aB:=Uw (bg:=ag) asj z2 pv fun _ _=>rfl
    refine C42 (hv.mono xg) (ha.mono xg) z2 (fun c hc s hs=>⟨(Nt c hc).2 s hs,?_⟩) aB ?_
    ·unfold jG at hf
     exact List.all_eq_true.1 (List.all_eq_true.1 hf c hc) s hs
    intro g5 x5
    simp only [kl,ah,bK]
    refine ⟨fun cH=>?_,fun aC=>?_⟩
    ·rw [if_neg (by omega)] at yg
     have hi:=sH yg
     simp only [fX,ah,decide_eq_true hi]
     rw [ayG]
     rw [Na,yg]
     simp only [fy,e0,ah]
     rw [ayH]
     simp only [dA,ah]
     rw [ayI]
     simp only [fy]
     refine Sh ?_
     rw [ayJ]
     simp only [dA,ah]
     exact hk _
    ·rw [if_pos (by omega)] at yg
     have MV:i7=0:=yG.resolve_right (by rw [yg];decide)
     rw [Na,yg,MV]
     exact bad g5 5 (by decide)
   ·have Zs:kj c0 (bY C) ag ag.length=kj c0 (bY C) ag k:=by
     unfold kj at hb⊢
     by_cases oW:c0≠0
     ·rw [if_pos oW,if_pos oW]
     ·rw [if_neg oW] at hb
      rw [if_neg oW,if_neg oW]
      cases hx:(List.range k).any (ki (bY C) ag) with
      | false=>rw [hx,if_neg (by decide)] at hb;exact absurd rfl hb
      | true=>
       obtain ⟨j,j1,j2⟩:=List.any_eq_true.1 hx
       have:=UC (n:=ag.length) (by have:=List.mem_range.1 j1;omega) j2
       rw [this]
    have e:=n9 (by rw [Zs];exact hb)
    rw [Zs] at e
    have MV:i7=0:=yG.resolve_right (by rw [e];exact hb)
    rw [Na,e,MV]
    exact amA g _ hb
  by_cases aC:k<ag.length
  rotate_left
  ·rw [decide_eq_false (show ¬(k:Int)<(ag.length:Int) by omega)]
   simp only [iz]
   rw [ahh]
   simp only [cY,ah,dp]
   exact fin (.inl (by omega))
  rw [decide_eq_true (show (k:Int)<(ag.length:Int) by omega)]
  simp only [fy,fX,ah]
  rw [ahh]
  simp only [dA,ah,bK]
  refine ⟨fun hb=>?_,fun hb=>fin (.inr hb)⟩
  have oW:c0=0:=by
   apply Classical.byContradiction
   intro h0
   unfold kj at hb
   rw [if_pos h0] at hb
   exact h0 hb
  obtain ⟨z1,z2⟩:=hz oW
  have Nq:k<C.length:=by omega
  have hkJ:k<(bY C).length:=by rw [rK];exact Nq
  have fI:(List.range k).any (ki (bY C) ag)=false:=by
   unfold kj at hb
   rw [if_neg (fun h=>h oW)] at hb
   cases hx:(List.range k).any (ki (bY C) ag) with
   | false=>rfl
   | true=>rw [hx,if_pos rfl] at hb;exact absurd hb (by decide)
  have NA:kj c0 (bY C) ag (k+1)=if ki (bY C) ag k=true then 1 else 0:=by
   unfold kj
   rw [if_neg (fun h=>h oW),ahl,fI,Bool.false_or]
  have jN:∀b:Int,b=kj c0 (bY C) ag (k+1)→zz Tryz.prog K vl Cx (I i7) (I e8) (I b) (I k) L g:=by
   intro b jH
   rw [ayF]
   simp only [cD,ah,inc k (by omega),true_and]
   have:=hL (k+1) (by show k+1≤_;omega) (by show ag.length-(k+1)<ag.length-k;omega)
   rw [jH]
   exact this
  obtain ⟨b1,o1,r1,r2⟩:=(ha.mono xg).get k aC
  obtain ⟨b2,o2,vs,u1,u2,u3⟩:=(hv.mono xg).get Nq
  obtain ⟨u4,u5⟩:=zf u2
  have hd:ag.getD k 0=ag[k]:=ql aC
  have last:ki (bY C) ag k=(decide (ag[k]< -1)||decide ((C[k].1.length:Int)≤ag[k])):=by
   unfold ki
   rw [hd,ql hkJ,Gc Nq,List.length_map]
  simp only [r1,r2,ah,true_and,cI]
  by_cases h1:ag[k]< -1
  ·rw [decide_eq_true h1] at last⊢
   simp only [eZ,dA,ah,di]
   exact jN 1 (by rw [NA,last];rfl)
  ·rw [decide_eq_false h1,Bool.false_or] at last
   rw [decide_eq_false h1]
   simp only [dO,u1,ah,bW,Nat.add_zero,u4,u3.len,kl,cY,bK]
   refine ⟨fun hc=>?_,fun hc=>?_⟩
   ·exact jN 1 (by rw [NA,last,decide_eq_true hc];rfl)
   ·rw [hb]
    exact jN 0 (by rw [NA,last,decide_eq_false hc];rfl)
 -- behind ft aBI answer
 have after:∀(i7:Int) {g:ae},EX g3 g→(i7=0∨iC C ag=0)→(iC C ag=0→i7=cP (bY C) ag C.length)→
   ak Tryz.prog 13 [vl] g fun bU h_5=>OP (ai .eql bU (.int .i64 (0))) fun cR=>Qp Tryz.prog K vl Cx (I i7) (I (iC C ag)) bU cR h_5:=by
  intro i7 g xg yG sH
  refine C13 (hv.mono xg) Nt (by omega) ?_
  intro g4 x4
  have pR:=xg.trans x4
  simp only [fX,ah]
  rw [ayP]
  by_cases h0:lA C=0
  ·rw [decide_eq_true h0]
   simp only [fy,(ha.mono pR).len,(hv.mono pR).len,ah,ng]
   rw [ahg]
   by_cases Nw:ag.length=C.length
   ·rw [decide_eq_true (by omega)]
    simp only [Bool.not_true,dA,ah,dp]
    rw [h0]
    refine walk 0 i7 _ pR (fun _=>⟨h0,Nw⟩) yG rfl (fun hb=>?_) sH
    unfold kj at hb⊢
    rw [if_neg (by decide)] at hb⊢
    cases hx:(List.range ag.length).any (ki (bY C) ag) with
    | false=>rw [hx,if_neg (by decide)] at hb;exact absurd rfl hb
    | true=>
     unfold iC
     rw [if_neg (fun h=>h h0),if_neg (fun h=>h Nw),if_pos hx,if_pos rfl]
   ·rw [decide_eq_false (by omega)]
    simp only [Bool.not_false,dA,ah,di]
    refine walk 1 i7 _ pR (fun h=>absurd h (by decide)) yG rfl (fun _=>?_) sH
    unfold kj iC
    rw [if_neg (fun h=>h h0),if_pos Nw,if_pos (by decide)]
  ·rw [decide_eq_false h0]
   simp only [iz]
   rw [ahg]
   simp only [cY,ah,dp]
   refine walk (lA C) i7 _ pR (fun h=>absurd h h0) yG rfl (fun _=>?_) sH
   unfold kj iC
   rw [if_pos h0,if_pos h0]
 refine C41 hv ha Nt (by omega) (fun br g4 x4=>?_) (fun hz g4 x4=>?_)
 ·simp only [eJ,fq,fC,ah]
  exact after 0 x4 (.inl rfl) (fun h=>absurd h br)
 ·simp only [eJ,fq,fC,ah]
  have:=after (cP (bY C) ag C.length) x4 (.inr hz) (fun _=>rfl)
  rw [hz] at this
  exact this

end
end Go.Proofs.YtelmdbpaoifmoaaGreat

