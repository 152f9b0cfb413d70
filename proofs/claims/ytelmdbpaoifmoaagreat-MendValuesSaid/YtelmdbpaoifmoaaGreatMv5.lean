/-
  Part 5 of the texts behind a statement of this seat: Ct45, Ct46, Ct47, Zq1, Sp18, ZN3, Kd1, Kd2, Kd3, Kd4, Kd5, Kd6, Ct41, Zq2, Zq3, Kd7, ZN4, Kd8, Kd9, Kd10, Zp1, ZR3, Zs1.
-/
import Derived.Test.YtelmdbpaoifmoaaGreatProg
import Derived.KernelRfl
import Derived.Test.YtelmdbpaoifmoaaGreatMv4
open Bool (false_eq_true)
open Classical (byContradiction)
open Go.Proofs.Tryz (prog)
open Int (natAbs_mul natAbs_natCast)
open List (getElem?_eq_getElem getElem?_set_ne getElem_mem length_append length_cons length_nil length_set length_take mem_of_mem_take replicate set_set take_of_length_le)
open Nat (add_mul add_zero div_add_mod gcd le_refl lt_of_lt_of_le min_eq_left mod_eq_of_lt mod_lt mul_assoc mul_comm mul_le_mul_left mul_le_mul_right mul_zero pow_add pow_le_pow_right pow_pos pow_succ zero_add zero_le)
namespace Go.Proofs.YtelmdbpaoifmoaaGreat
open Go.Sim
section
theorem Ia {e:TypeId} {k:IntKind} {h:ae} {v:Value} {xs:List Nat} (d:DS e k h v xs):dC [(.bool false),(.slice none 0 0)] [(1,1,v)]=some (.agg #[B false,v]):=by
 rcases d with ⟨rfl,_⟩ | ⟨i,rfl,_⟩ <;> rfl
theorem Sk (b:Bool) (v:Value):AP false 1 1 (.agg #[B b,v])=some v:=rfl
theorem pR {n:Nat} (h:n<10000^201):n<bG:=by
 refine lt_of_lt_of_le h ?_
 unfold bG
 decide+kernel
theorem gf.GG {h:ae} {v:Value} {n:Nat} (p:gf h v n):ZV h (.agg #[B false,v]) (n:Int):=⟨v,by rw [aY (by omega)],by simpa using p⟩
theorem YU {v:Value} {n d:Nat} {h:ae} {K:Value->ae->Prop} (hv:gf h v n) (hn:n<10000^200) (hd:d<=10000) (hk:∀r h',EX h h'->gf h' r (n*d)->K r h'):ak prog 102 [v,I d] h K:=by
 have wk:n<bG:=pR (by
  have:(10000:Nat)^201=10000^200*10000:=by decide+kernel
  omega)
 have aBP:n*d<bG:=by
  refine pR ?_
  have h1:n*d<=n*10000:=mul_le_mul_left _ hd
  have:(10000:Nat)^201=10000^200*10000:=by decide+kernel
  omega
 refine f102 ?_
 obtain ⟨xs,dx,cx⟩:=id hv
 simp only [OI,Ia dx,ah]
 refine zh (z:=d) (by omega) ?_
 intro r1 h1 x1 z1
 refine qC (hv.GG.mono x1) z1 (by simpa using wk) (by have:=pR (n:=10000) (by decide+kernel);simp;omega) ?_
 intro r2 h2 x2 z2
 obtain ⟨u,rfl,hu⟩:=z2
 have e1:((n:Int)*(d:Int)).natAbs=n*d:=by rw [natAbs_mul];simp
 rw [e1] at hu
 have e2:decide ((n:Int)*(d:Int)<0)=false:=by
  have mW:(n:Int)*(d:Int)=((n*d:Nat):Int):=by simp
  exact aY (by omega)
 rw [e2]
 obtain ⟨ys,dy,cy,vy⟩:=hu
 have ly:=rJ cy (by rw [vy];exact aBP)
 refine ze dy cy.1 (by omega) ?_
 intro r3 h3 x3 z3
 simp only [false_eq_true,if_false,vy] at z3
 obtain ⟨w,rfl,hw⟩:=z3
 rw [Sk]
 rw [natAbs_natCast] at hw
 exact ah.2 (hk _ _ ((x1.trans x2).trans x3) hw)
theorem gf.aDH {h h':ae} {n i m:Nat} (p:gf h (sl 3 i 0 m) n) (hi:h'[i]?=h[i]?):gf h' (sl 3 i 0 m) n:=by
 obtain ⟨xs,d,c,v⟩:=p
 refine ⟨xs,?_,c,v⟩
 rcases d with ⟨h1,h2⟩ | ⟨j,h1,h2⟩
 ·cases h1
 ·obtain ⟨rfl,rfl⟩:=XS h1
  refine .inr ⟨i,rfl,h2.imp id ?_⟩
  rintro ⟨r,hr⟩
  refine ⟨r,?_⟩
  unfold aW at hr⊢
  rw [hi];exact hr
theorem ay7 {h:ae} {v:Value} {ys:List Nat} {d:Nat} {K:Value->ae->Prop} (p:DS 3 .i64 h v ys) (hl:ys.length<=1000) (hk:∀r h',EX h h'->DS 3 .i64 h' r (d::ys)->K r h'):
  OH (dN 3 1 [.int .i64 0] h [(0,1,I d)]) λa h1=>OH (eG 3 1 8 h1 a v) K:=by
 have e1:dN 3 1 [.int .i64 0] h [(0,1,I d)]=some (sl 3 h.length 0 1,h++[.arr 3 [I d]]):=rfl
 rw [e1]
 simp only [aE]
 obtain ⟨c1,c2⟩:=(p.mono (EX.append h [.arr 3 [I d]])).cells
 by_cases oK:ys.length=0
 ·have:ys=[]:=List.length_eq_zero_iff.1 oK
  subst this
  have e2:eG 3 1 8 (h++[.arr 3 [I d]]) (sl 3 h.length 0 1) v=some (sl 3 h.length 0 1,h++[.arr 3 [I d]]):=by
   simp [eG,c1,c2,sl,maxLen]
  rw [e2]
  simp only [aE]
  exact hk _ _ (EX.append _ _) (.inr ⟨h.length,rfl,.inr ⟨[],by simp [aW]⟩⟩)
 ·have hg:(h++[aq.arr 3 [I d]])[h.length]?=some (.arr 3 [I d]):=br
  have e2:eG 3 1 8 (h++[.arr 3 [I d]]) (sl 3 h.length 0 1) v=some (sl 3 (h.length+1) 0 (1+ys.length),(h++[aq.arr 3 [I d]]).set h.length .dead++[.arr 3 ([I d]++ys.map λd:Nat=>I d)]):=by
   simp only [eG,c1,c2]
   simp only [sl,hg]
   rw [if_pos ⟨trivial,trivial,by simp,by omega,by unfold maxLen;omega⟩,if_neg oK]
   simp
  rw [e2]
  simp only [aE]
  refine hk _ _ (((EX.append _ _).set (le_refl _) _).push _) (.inr ⟨h.length+1,by rw [length_cons,Nat.add_comm 1],.inr ⟨[],?_⟩⟩)
  unfold aW
  rw [List.getElem?_append_right (by simp)]
  simp
theorem aqN (B:Nat) (xs:List Nat) {i:Nat} (hi:i<xs.length):val B (xs.drop i)=xs[i]+B*val B (xs.drop (i+1)):=by
 rw [List.drop_eq_getElem_cons hi];rfl
theorem aqr {a b:Nat}:nH a b<=0↔a<=b:=by
 unfold nH
 split
 ·constructor <;> omega
 ·split <;> constructor <;> omega
theorem NB {va vb:Value} {a b:Int} {h:ae} {K:Value->ae->Prop} (ha:ZV h va a) (hb:ZV h vb b) (pA:0<b) (la:a.natAbs<10000^199) (lb:b.natAbs<10000^199)
  (hk:∀r s h',EX h h'->ZV h' r (a / b)->ZV h' s (a%b)->K (.tuple #[r,s]) h'):ak prog 69 [va,vb] h K:=by
 obtain ⟨v,rfl,hv⟩:=ha
 obtain ⟨w,rfl,hw⟩:=hb
 have aLs:(10000:Nat)^200=10000^199*10000:=by decide+kernel
 have aLt:(10000:Nat)^201=10000^200*10000:=by decide+kernel
 refine f69 ?_
 unfold PW
 refine H7 ?_
 intro h3 x
 obtain ⟨B,hBb⟩:∃B:Nat,b=B:=⟨b.toNat,by omega⟩
 subst hBb
 have hB0:0<B:=by omega
 have hBl:B<10000^199:=by simpa using lb
 obtain ⟨xs,dx,cx,ex⟩:=hv.mono x.ex
 have l1:=rJ cx (by rw [ex];exact pR (by omega))
 have hwB:gf h3 w B:=by have:=hw.mono x.ex;simpa using this
 have e2:aV 35 [(.bool false),(.slice none 0 0)] h3=some (pt h3.length 0,h3++[.arr 35 [(.bool false),(.slice none 0 0)]]):=rfl
 simp only [e2,aE,bZ,zero_add]
 have x4:EX h3 (h3++[.arr 35 [(.bool false),(.slice none 0 0)]]):=EX.append _ _
 have g5:(h3++[aq.arr 35 [(.bool false),(.slice none 0 0)]])[h3.length]?=some (.arr 35 [(.bool false),(.slice none 0 0)]):=br
 have qR:h.length+2<h3.length:=(bz x.out).1
 generalize hh4:h3++[aq.arr 35 [(.bool false),(.slice none 0 0)]]=h4 at x4 g5⊢
 have hl4:h4.length=h3.length+1:=by rw [<-hh4];simp
 clear hh4
 have RM:=dx.mono x4
 simp only [EX.load x4 x.a1,ah,RM.len,ajw (show xs.length<=1000 by omega),aE,UX]
 have e6:IntKind.wrap .i64 ((xs.length:Int)-1)=(xs.length:Int)-1:=wrap64 (by omega) (by omega)
 have x6:EX h4 (hz h4 (replicate xs.length 0)++[.arr 3 []]):=(wI h4 _).push _
 simp only [EX.load (x4.trans x6) x.a1,ah,RM.len,gE,e6]
 have Cy:(hz h4 (replicate xs.length 0)++[aq.arr 3 []])[h4.length]?=some (.arr 3 ((replicate xs.length 0).map λd:Nat=>I d)):=by
  rw [List.getElem?_append_left (by simp [hz])];exact aix _ _
 have tu:gf (hz h4 (replicate xs.length 0)++[aq.arr 3 []]) (sl 3 (hz h4 (replicate xs.length 0)).length 0 0) 0:=⟨[],.inr ⟨_,rfl,.inl rfl⟩,dJ.nil _,rfl⟩
 refine dF (σ:=Nat×Nat×Value×List Nat×ae) (λp=>[p.2.2.1,I ((p.1:Int)-1)]) (λp=>p.2.2.2.2)
  (λp=>p.1<=xs.length/\EX h4 p.2.2.2.2/\p.2.2.2.2[h4.length]?=some (.arr 3 (p.2.2.2.1.map λd:Nat=>I d))/\p.2.2.2.1.length=xs.length/\cN 10000 p.2.2.2.1/\gf p.2.2.2.2 p.2.2.1 p.2.1/\p.2.1<B/\val 10000 (p.2.2.2.1.drop p.1)*B+p.2.1=val 10000 (xs.drop p.1)) (λp=>p.1)
  (xs.length,0,_,replicate xs.length 0,_) rfl rfl ⟨le_refl _,x6,Cy,by simp,cN.xu (by decide) _,tu,hB0,by simp [val]⟩ ?_
 rintro ⟨i,R,rv,qs,g⟩ ⟨hi,xg,hq,qU,Ty,hR,hRB,cf⟩ L hL
 simp only at hi xg hq qU Ty hR hRB cf hL⊢
 have CO:∀{g'},EX h4 g'->af false 1 g' (pt h.length 1)=some v:=λy=>EX.load (x4.trans y) x.a1
 have AX:∀{g'},EX h4 g'->af false 1 g' (pt (h.length+1) 1)=some w:=λy=>EX.load (x4.trans y) x.b1
 rw [aHT]
 simp only [nv,ah,bQ]
 refine ⟨λcU=>?_,λaF=>?_⟩
 ·obtain ⟨j,rfl⟩:∃j,i=j+1:=⟨i-1,by omega⟩
  have ej:((j+1:Nat):Int)-1=(j:Int):=by omega
  have ym:j<xs.length:=by omega
  obtain ⟨ia,a1,a2⟩:=(RM.mono xg).get ym
  have TZ:xs[j]<10000:=cx.1 _ (getElem_mem ym)
  have KL:=aqN 10000 xs ym
  rw [ej]
  simp only [bZ,zero_add,CO xg,ah,a1,a2]
  obtain ⟨rs,dr,cr,vr⟩:=id hR
  have lr:=rJ cr (by rw [vr];exact pR (by omega))
  refine ay7 dr (by omega) ?_
  intro r1 g1 y1 d1
  simp only [Ia d1,ah]
  refine YS d1 (λz hz=>by
   rcases List.mem_cons.1 hz with rfl | hz
   ·exact TZ
   ·exact cr.1 z hz) (by simp;omega) ?_
  rintro r2 g2 y2 z2 ⟨fb,fi,fn,rfl,hfi⟩
  have ev:val 10000 (xs[j]::rs)=xs[j]+10000*R:=by simp only [val,vr]
  simp only [false_eq_true,if_false,ev] at z2
  obtain ⟨rw2,CD,KH⟩:=z2
  injection CD with CD
  injection CD with CD
  simp only [List.cons.injEq,and_true] at CD
  obtain ⟨_,rfl⟩:=CD
  rw [Sk]
  have TI:gf g2 (sl 3 fi 0 fn) (xs[j]+10000*R):=by
   rw [natAbs_natCast] at KH
   exact KH
  have aLe:h4.length<fi:=by
   have h9:=(bz hq).1
   have h8:=y1.1
   omega
  simp only [ah]
  have hR':xs[j]+10000*R<10000*B:=by omega
  generalize hRR:xs[j]+10000*R=R' at TI hR'
  have mP:EX h4 g2:=(xg.trans y1).trans y2
  refine dF (σ:=Nat×Nat×ae) (λp=>[I p.1,I p.2.1]) (λp=>p.2.2) (λp=>p.1<p.2.1/\p.2.1<=10000/\EX g2 p.2.2/\p.1*B<=R'/\R'<p.2.1*B) (λp=>p.2.1-p.1)
   (0,10000,g2) rfl rfl ⟨by show 0<10000;decide,le_refl _,EX.refl _,by simp,hR'⟩ ?_
  rintro ⟨lo,oH,g3⟩ ⟨hlh,hh,y3,fa,kj⟩ L2 iV
  simp only at hlh hh y3 fa kj iV⊢
  have ko:EX h4 g3:=mP.trans y3
  rw [aHO]
  have e7:IntKind.wrap .i64 ((oH:Int)-(lo:Int))=((oH-lo:Nat):Int):=by rw [wrap64 (by omega) (by omega)];omega
  have e8:IntKind.wrap .i64 ((lo:Int)+(oH:Int))=((lo+oH:Nat):Int):=by rw [wrap64 (by omega) (by omega)];omega
  simp only [gE,e7,ah,fQ,bQ]
  refine ⟨λtg=>?_,λhle=>?_⟩
  ·simp only [cL,e8,ah]
   rw [show (.int .i64 2:Value)=.int .i64 ((2:Nat):Int) from rfl,C8 (by decide) (by omega)]
   simp only [ah,bZ,zero_add,AX ko]
   have hm:(lo+oH) / 2<=10000:=by omega
   refine YU ((hwB.mono x4).mono ko) (by omega) hm ?_
   intro r4 g4 y4 m4
   have Co:B*((lo+oH) / 2)<bG:=by
    refine pR ?_
    have:=mul_le_mul_left B hm
    omega
   refine YT (a:=B*((lo+oH) / 2)) (b:=R') m4 ((TI.mono y3).mono y4) Co (pR (by omega)) ?_
   simp only [sP,ah,bQ,true_and]
   generalize hmm:(lo+oH) / 2=mid at*
   have wj:lo<mid/\mid<oH:=by omega
   refine ⟨λh0=>?_,λh0=>?_⟩
   ·have:=aqr.1 h0
    exact iV (mid,oH,g4) ⟨wj.2,hh,y3.trans y4,by show mid*B<=R';rw [mul_comm];exact this,kj⟩ (by show oH-mid<oH-lo;omega)
   ·have:¬B*mid<=R':=λh9=>h0 (aqr.2 h9)
    exact iV (lo,mid,g4) ⟨wj.1,by show mid<=10000;omega,y3.trans y4,fa,by show R'<mid*B;rw [mul_comm];omega⟩ (by show mid-lo<oH-lo;omega)
  ·have hhl:oH=lo+1:=by omega
   subst hhl
   have hRl:R'<lo*B+B:=by rw [Nat.succ_mul] at kj;exact kj
   rw [aHP]
   have hq3:g3[h4.length]?=some (.arr 3 (qs.map λd:Nat=>I d)):=by
    rw [<-hq]
    have rS:=(bz hq).1
    rw [((y1.trans y2).trans y3).2 _ rS]
   have ad:aZ 1 (sl 3 h4.length 0 xs.length) (I j)=some (pt h4.length j):=ow ym
   simp only [ad,ah]
   rw [qx hq3 (by simp;omega) rfl rfl]
   simp only [aE]
   have es:(qs.map λd:Nat=>I d).set j (I lo)=(qs.set j lo).map λd:Nat=>I d:=by rw [List.map_set]
   rw [es]
   have nL:EX h4 (g3.set h4.length (.arr 3 ((qs.set j lo).map λd:Nat=>I d))):=ko.set (le_refl _) _
   have Tw:(g3.set h4.length (.arr 3 ((qs.set j lo).map λd:Nat=>I d)))[h4.length]?=some (.arr 3 ((qs.set j lo).map λd:Nat=>I d)):=cJ hq3
   -- gB rest aK4 not lie there
   have ah2:gf (g3.set h4.length (.arr 3 ((qs.set j lo).map λd:Nat=>I d))) (sl 3 fi 0 fn) R':=(TI.mono y3).aDH (by rw [getElem?_set_ne (by omega)])
   generalize g3.set h4.length (.arr 3 ((qs.set j lo).map λd:Nat=>I d))=g5 at nL Tw ah2⊢
   simp only [bZ,zero_add,AX nL,ah]
   refine YU ((hwB.mono x4).mono nL) (by omega) (by omega) ?_
   intro r6 g6 y6 m6
   obtain ⟨us,du,cu,vu⟩:=ah2.mono y6
   obtain ⟨ts,dt,ct,vt⟩:=m6
   have aAZ:B*lo<=R':=by rw [mul_comm];exact fa
   have lu:=rJ cu (by rw [vu];exact pR (by omega))
   refine Ns du dt cu.1 ct.1 (by omega) ?_ (by rw [vu,vt];exact aAZ) ?_
   ·apply byContradiction
    intro hc
    have:=dJ.A4 (by decide) cu ct (by omega)
    omega
   intro r7 g7 os y7 d7 l7 s7 v7
   simp only [Ia d7,ah]
   refine ze d7 l7 (by omega) ?_
   intro r8 g8 y8 z8
   simp only [false_eq_true,if_false] at z8
   obtain ⟨rw8,rfl,aB7⟩:=z8
   rw [Sk]
   simp only [ah]
   have R5:IntKind.wrap .i64 ((j:Int)-1)=(j:Int)-1:=wrap64 (by omega) (by omega)
   simp only [aHQ,gE,R5,ah,true_and]
   have aBC:lo<10000:=by omega
   have hv7:val 10000 os=R' -B*lo:=by omega
   have aB8:gf g8 rw8 (R' -B*lo):=by rw [<-hv7];simpa using aB7
   have hBB:B*lo=lo*B:=mul_comm _ _
   refine hL (j,R' -B*lo,rw8,qs.set j lo,g8) ⟨by show j<=xs.length;omega,((nL.trans y6).trans y7).trans y8,?_,by rw [length_set];exact qU,Ty.set aBC _,aB8,by show R' -B*lo<B;omega,?_⟩ (by show j<j+1;omega)
   ·have rS:=(bz Tw).1
    show g8[h4.length]?=_
    rw [((y6.trans y7).trans y8).2 _ rS];exact Tw
   ·show val 10000 ((qs.set j lo).drop j)*B+(R' -B*lo)=val 10000 (xs.drop j)
    have hd:(qs.set j lo).drop j=lo::qs.drop (j+1):=by
     rw [List.drop_eq_getElem_cons (by rw [length_set];omega),List.getElem_set_self]
     congr 1
     rw [List.drop_set_of_lt (by omega)]
    rw [hd,KL,<-cf]
    simp only [val]
    have h1:(lo+10000*val 10000 (qs.drop (j+1)))*B=lo*B+10000*(val 10000 (qs.drop (j+1))*B):=by rw [add_mul,mul_assoc]
    rw [h1]
    omega
 ·have Cu:i=0:=by omega
  subst Cu
  simp only [List.drop_zero] at cf
  rw [aHR]
  have oS:∀{g'},EX h4 g'->af false 1 g' (pt h.length 0)=some (Go.Sim.B (decide (a<0))):=λy=>EX.load (x4.trans y) x.a0
  have dq:DS 3 .i64 g (sl 3 h4.length 0 xs.length) qs:=by
   rw [<-qU]
   exact .inr ⟨h4.length,rfl,.inr ⟨[],by simp [aW,hq]⟩⟩
  simp only [bZ,add_zero,oS xg,ah,QF dq]
  refine ze dq Ty (by omega) ?_
  intro r1 g1 y1 z1
  generalize hQ:val 10000 qs=Q at z1 cf
  obtain ⟨rs,dr,cr,vr⟩:=hR.mono y1
  have lr:=rJ cr (by rw [vr];exact pR (by omega))
  simp only [Ia dr,ah]
  refine ze dr cr.1 (by omega) ?_
  intro r2 g2 y2 z2
  simp only [false_eq_true,if_false,vr] at z2
  have z1:=z1.mono y2
  have mP:EX h4 g2:=(xg.trans y1).trans y2
  have nU:h3.length+1<=g2.length:=by have:=mP.1;omega
  obtain ⟨uq,rfl,ie⟩:=id z1
  obtain ⟨ur,rfl,wx⟩:=id z2
  have e3:∀g':ae,aV 35 [(.bool false),(.slice none 0 0)] g'=some (pt g'.length 0,g'++[.arr 35 [(.bool false),(.slice none 0 0)]]):=λ_=>rfl
  simp only [e3,aE,length_append,length_cons,length_nil,zero_add]
  have k0:(g2++[aq.arr 35 [(.bool false),(.slice none 0 0)]]++[aq.arr 35 [(.bool false),(.slice none 0 0)]])[g2.length]?=some (.arr 35 [(.bool false),(.slice none 0 0)]):=by simp
  have k1:(g2++[aq.arr 35 [(.bool false),(.slice none 0 0)]]++[aq.arr 35 [(.bool false),(.slice none 0 0)]])[g2.length+1]?=some (.arr 35 [(.bool false),(.slice none 0 0)]):=by simp
  have y3:EX g2 (g2++[aq.arr 35 [(.bool false),(.slice none 0 0)]]++[aq.arr 35 [(.bool false),(.slice none 0 0)]]):=(EX.append _ _).push _
  generalize g2++[aq.arr 35 [(.bool false),(.slice none 0 0)]]++[aq.arr 35 [(.bool false),(.slice none 0 0)]]=g3 at k0 k1 y3⊢
  rw [fM k0]
  simp only [aE]
  have y4:EX g2 (g3.set g2.length (.arr 35 [Go.Sim.B (decide ((if decide (a<0)=true then -(Q:Int) else (Q:Int))<0)),uq])):=y3.set (le_refl _) _
  have tJ:=cJ (o:=.arr 35 [Go.Sim.B (decide ((if decide (a<0)=true then -(Q:Int) else (Q:Int))<0)),uq]) k0
  have lJ:(g3.set g2.length (.arr 35 [Go.Sim.B (decide ((if decide (a<0)=true then -(Q:Int) else (Q:Int))<0)),uq]))[g2.length+1]?=some (.arr 35 [(.bool false),(.slice none 0 0)]):=by rw [getElem?_set_ne (by omega)];exact k1
  generalize g3.set g2.length (.arr 35 [Go.Sim.B (decide ((if decide (a<0)=true then -(Q:Int) else (Q:Int))<0)),uq])=g4 at y4 tJ lJ⊢
  rw [fM lJ]
  simp only [aE]
  have y5:EX g2 (g4.set (g2.length+1) (.arr 35 [Go.Sim.B (decide ((R:Int)<0)),ur])):=y4.set (by omega) _
  have m1:=cJ (o:=.arr 35 [Go.Sim.B (decide ((R:Int)<0)),ur]) lJ
  have m0:(g4.set (g2.length+1) (.arr 35 [Go.Sim.B (decide ((R:Int)<0)),ur]))[g2.length]?=some (.arr 35 [Go.Sim.B (decide ((if decide (a<0)=true then -(Q:Int) else (Q:Int))<0)),uq]):=by rw [getElem?_set_ne (by omega)];exact tJ
  generalize g4.set (g2.length+1) (.arr 35 [Go.Sim.B (decide ((R:Int)<0)),ur])=sU at y5 m0 m1⊢
  have nL:EX h4 sU:=mP.trans y5
  have Nl:EX h sU:=(x.ex.trans x4).trans nL
  have o4:=nL.get (x4.get x.out)
  have o5:=nL.get g5
  have zq:=z1.mono y5
  have zr:=z2.mono y5
  have zb:ZV sU (.agg #[Go.Sim.B (decide ((B:Int)<0)),w]) (B:Int):=⟨w,rfl,(hw.mono x.ex).mono (x4.trans nL)⟩
  have hQv:Q*B+R=a.natAbs:=by rw [cf,ex]
  -- gB two results
  have put:∀(r s:Value) (g6:ae),EX sU g6->ZV g6 r (a / (B:Int))->ZV g6 s (a%(B:Int))->OH (aG 2 g6 (pt (h.length+2) 0) r) λ_ h_1=>OH (aG 2 h_1 (pt h3.length 0) s) λ_ h_2=>OP (af true 2 h_2 (pt (h.length+2) 0)) λr0=>OP (af true 2 h_2 (pt h3.length 0)) λr1=>K (.tuple #[r0,r1]) h_2:=by
   rintro r s g6 y6 G4 Nq
   obtain ⟨u1,rfl,hu1⟩:=id G4
   obtain ⟨u2,rfl,qg⟩:=id Nq
   have n4:=y6.get o4
   have n5:=y6.get o5
   rw [fM n4]
   simp only [aE]
   have Lm:(g6.set (h.length+2) (.arr 35 [Go.Sim.B (decide (a / (B:Int)<0)),u1]))[h3.length]?=some (.arr 35 [.bool false,.slice none 0 0]):=by rw [getElem?_set_ne (by omega)];exact n5
   rw [fM Lm]
   simp only [aE]
   have p4:((g6.set (h.length+2) (.arr 35 [Go.Sim.B (decide (a / (B:Int)<0)),u1])).set h3.length (.arr 35 [Go.Sim.B (decide (a%(B:Int)<0)),u2]))[h.length+2]?=some (.arr 35 [Go.Sim.B (decide (a / (B:Int)<0)),u1]):=by
    rw [getElem?_set_ne (by omega)];exact cJ n4
   rw [cZ p4,ah,cZ (cJ Lm),ah]
   exact hk _ _ _ (((Nl.trans y6).set (by omega) _).set (by omega) _) ((G4.bT n4 _).bT Lm _) ((Nq.bT n4 _).bT Lm _)
  have aA0:(0:Int)<(B:Int):=by omega
  have un:∀q r:Int,r+(B:Int)*q=a->0<=r->r<(B:Int)->a / (B:Int)=q/\a%(B:Int)=r:=λq r h1 h2 h3=>(Int.ediv_emod_unique aA0).2 ⟨h1,h2,h3⟩
  have SM:((Q*B:Nat):Int)=(B:Int)*(Q:Int):=by rw [Int.natCast_mul,Int.mul_comm]
  -- nothing to be aLS
  have plain:(0<=a∨R=0)->Gk prog K (pt (h.length+1) 0) (pt (h.length+2) 0) (pt h3.length 0) (pt g2.length 0) (pt (g2.length+1) 0) (Go.Sim.B false) undef sU/\Gk prog K (pt (h.length+1) 0) (pt (h.length+2) 0) (pt h3.length 0) (pt g2.length 0) (pt (g2.length+1) 0) (Go.Sim.B true) (Go.Sim.B false) sU:=by
   intro hc
   have Fj:a / (B:Int)=(if decide (a<0)=true then -(Q:Int) else (Q:Int))/\a%(B:Int)=(R:Int):=by
    by_cases ji:a<0
    ·have hR0:R=0:=by omega
     rw [bj ji,if_pos rfl]
     refine un _ _ ?_ (by omega) (by omega)
     rw [Int.mul_neg,<-SM]
     omega
    ·rw [aY ji,if_neg (by simp)]
     refine un _ _ ?_ (by omega) (by omega)
     rw [<-SM]
     omega
   have tail:OP (af true 2 sU (pt g2.length 0)) λlR=>OP (af true 2 sU (pt (g2.length+1) 0)) λiU=>OH (aG 2 sU (pt (h.length+2) 0) lR) λ_ h_1=>(af true 2 h_1 (pt (g2.length+1) 0)=some iU)/\OH (aG 2 h_1 (pt h3.length 0) iU) λ_ h_2=>OP (af true 2 h_2 (pt (h.length+2) 0)) λr0=>OP (af true 2 h_2 (pt h3.length 0)) λr1=>K (.tuple #[r0,r1]) h_2:=by
    have:=put _ _ sU (EX.refl _) (by rw [Fj.1];exact zq) (by rw [Fj.2];exact zr)
    rw [cZ m0,ah,cZ m1,ah]
    rw [fM o4] at this⊢
    simp only [aE] at this⊢
    refine ⟨?_,this⟩
    refine cZ (e:=35) ?_
    rw [getElem?_set_ne (by omega)]
    exact m1
   constructor
   ·rw [Xi]
    simp only [dQ,ah,dD,true_and,and_true]
    exact tail
   ·rw [Xi]
    simp only [dY,ah,dD,true_and,and_true]
    exact tail
  have ldl:af false 1 sU (pt (g2.length+1) 1)=some ur:=by simp [af,aW,m1,cP]
  obtain ⟨l,p1,p2⟩:=(wx.mono y5).qk
  have p2':0<l↔0<R:=by simpa using p2
  simp only [oS nL,ah,aHS]
  by_cases ji:a<0
  ·rw [bj ji]
   simp only [fP,bZ,Nat.add_comm 0 1,ldl,ah,p1,fQ]
   by_cases hR0:R=0
   ·rw [aY (by omega)]
    exact (plain (.inr hR0)).2
   ·rw [bj (by omega),Xi]
    have aLc:a.natAbs<bG:=pR (by omega)
    have aLa:Q<=a.natAbs:=by
     have:Q*1<=Q*B:=mul_le_mul_left _ hB0
     omega
    have E9:(1:Int).natAbs<bG:=ajp (by decide+kernel)
    simp only [dY,ah,dA,cZ m0,true_and]
    refine zh (z:=1) (by decide) ?_
    intro r6 g6 y6 z6
    refine ⟨⟨EX.load y6 (cZ m0),trivial⟩,?_⟩
    have UE:∀{g'},EX h4 g'->af true 2 g' (pt (h.length+1) 0)=some (.agg #[Go.Sim.B (decide ((B:Int)<0)),w]):=λy=>EX.load (x4.trans y) x.b2
    refine Hb (zq.mono y6) z6 (by rw [bj ji,if_pos rfl];omega) E9 ?_
    intro r7 g7 y7 z7
    have xg7:=(nL.trans y6).trans y7
    simp only [UE nL,UE (nL.trans y6),UE xg7,ah,cZ m1,EX.load y6 (cZ m1),EX.load (y6.trans y7) (cZ m1),true_and,and_true]
    refine Hb (zb.mono (y6.trans y7)) (zr.mono (y6.trans y7)) (by have:=pR (n:=B) (by omega);simpa using this) (by have:=pR (n:=R) (by omega);simpa using this) ?_
    intro r8 g8 y8 z8
    have Fj:=un (-(Q:Int)-1) ((B:Int)-(R:Int)) (by
     rw [Int.mul_sub,Int.mul_neg,<-SM,Int.mul_one]
     omega) (by omega) (by omega)
    rw [bj ji,if_pos rfl] at z7
    exact put _ _ g8 ((y6.trans y7).trans y8) (by rw [Fj.1];exact z7.mono y8) (by rw [Fj.2];exact z8)
  ·rw [aY ji]
   simp only [jV]
   exact (plain (.inl (by omega))).1
end
section
theorem NH {va:Value} {a:Int} {h:ae} {K:Value->ae->Prop} (ha:ZV h va a) (hk:∀u h',EX h h'->gf h' u a.natAbs->K (.agg #[B false,u]) h'):ak prog 94 [va] h K:=by
 obtain ⟨v,rfl,hv⟩:=ha
 refine f94 ?_
 have e1:bp 35 h (.agg #[B (decide (a<0)),v])=some (pt h.length 0,h++[.arr 35 [B (decide (a<0)),v]]):=rfl
 have e2:∀g':ae,aV 35 [(.bool false),(.slice none 0 0)] g'=some (pt g'.length 0,g'++[.arr 35 [(.bool false),(.slice none 0 0)]]):=λ_=>rfl
 simp only [Qh,e1,e2,aE,length_append,length_cons,length_nil,zero_add]
 have k0:(h++[aq.arr 35 [B (decide (a<0)),v]]++[aq.arr 35 [(.bool false),(.slice none 0 0)]])[h.length]?=some (.arr 35 [B (decide (a<0)),v]):=by simp
 have k1:(h++[aq.arr 35 [B (decide (a<0)),v]]++[aq.arr 35 [(.bool false),(.slice none 0 0)]])[h.length+1]?=some (.arr 35 [(.bool false),(.slice none 0 0)]):=by simp
 have x1:EX h (h++[aq.arr 35 [B (decide (a<0)),v]]++[aq.arr 35 [(.bool false),(.slice none 0 0)]]):=(EX.append _ _).push _
 generalize h++[aq.arr 35 [B (decide (a<0)),v]]++[aq.arr 35 [(.bool false),(.slice none 0 0)]]=h1 at k0 k1 x1⊢
 simp only [bZ,add_zero,ah]
 rw [qx k0 (by simp) rfl rfl]
 simp only [aE,List.set_cons_zero]
 have lJ:(h1.set h.length (.arr 35 [B false,v]))[h.length+1]?=some (.arr 35 [(.bool false),(.slice none 0 0)]):=by rw [getElem?_set_ne (by omega)];exact k1
 rw [cZ (cJ k0)]
 simp only [ah]
 exact zY lJ (hk _ _ ((x1.set (le_refl _) _).set (by omega) _) (((hv.mono x1).bT k0 _).bT lJ _))
theorem Zv {va vb:Value} {a b:Int} {h:ae} {K:Value->ae->Prop} (ha:ZV h va a) (hb:ZV h vb b) (la:a.natAbs<10000^199) (lb:b.natAbs<10000^199)
  (hk:∀u h',EX h h'->gf h' u (gcd a.natAbs b.natAbs)->K (.agg #[B false,u]) h'):ak prog 68 [va,vb] h K:=by
 have nA:=ha
 have pA:=hb
 obtain ⟨v,rfl,hv⟩:=ha
 obtain ⟨w,rfl,hw⟩:=hb
 refine f68 ?_
 have e1:∀(g:ae) (s:Bool) (v:Value),bp 35 g (.agg #[B s,v])=some (pt g.length 0,g++[.arr 35 [B s,v]]):=λ_ _ _=>rfl
 have e2:∀g':ae,aV 35 [(.bool false),(.slice none 0 0)] g'=some (pt g'.length 0,g'++[.arr 35 [(.bool false),(.slice none 0 0)]]):=λ_=>rfl
 simp only [PV,e1,e2,aE,length_append,length_cons,length_nil,zero_add]
 have k0:(h++[aq.arr 35 [B (decide (a<0)),v]]++[aq.arr 35 [B (decide (b<0)),w]]++[aq.arr 35 [(.bool false),(.slice none 0 0)]])[h.length]?=some (.arr 35 [B (decide (a<0)),v]):=by simp
 have k1:(h++[aq.arr 35 [B (decide (a<0)),v]]++[aq.arr 35 [B (decide (b<0)),w]]++[aq.arr 35 [(.bool false),(.slice none 0 0)]])[h.length+1]?=some (.arr 35 [B (decide (b<0)),w]):=by simp
 have k2:(h++[aq.arr 35 [B (decide (a<0)),v]]++[aq.arr 35 [B (decide (b<0)),w]]++[aq.arr 35 [(.bool false),(.slice none 0 0)]])[h.length+2]?=some (.arr 35 [(.bool false),(.slice none 0 0)]):=by simp
 have x1:EX h (h++[aq.arr 35 [B (decide (a<0)),v]]++[aq.arr 35 [B (decide (b<0)),w]]++[aq.arr 35 [(.bool false),(.slice none 0 0)]]):=((EX.append _ _).push _).push _
 generalize h++[aq.arr 35 [B (decide (a<0)),v]]++[aq.arr 35 [B (decide (b<0)),w]]++[aq.arr 35 [(.bool false),(.slice none 0 0)]]=h1 at k0 k1 k2 x1⊢
 rw [cZ k0]
 simp only [ah,true_and]
 refine NH (nA.mono x1) ?_
 intro u2 h2 x2 m2
 simp only [cZ k1,EX.load x2 (cZ k1),ah,true_and]
 refine NH (pA.mono (x1.trans x2)) ?_
 intro u3 h3 x3 m3
 have tJ:=(x2.trans x3).get k0
 have lJ:=(x2.trans x3).get k1
 have FC:=(x2.trans x3).get k2
 have aB:=(x1.trans x2).trans x3
 have m2:=m2.mono x3
 rw [fM tJ]
 simp only [aE]
 have q1:(h3.set h.length (.arr 35 [B false,u2]))[h.length+1]?=some (.arr 35 [B (decide (b<0)),w]):=by rw [getElem?_set_ne (by omega)];exact lJ
 rw [fM q1]
 simp only [aE]
 refine dF (σ:=Nat×Nat×Value×Value×ae) (λ_=>[]) (λp=>p.2.2.2.2)
  (λp=>EX h p.2.2.2.2/\p.2.2.2.2[h.length]?=some (.arr 35 [B false,p.2.2.1])/\p.2.2.2.2[h.length+1]?=some (.arr 35 [B false,p.2.2.2.1])/\p.2.2.2.2[h.length+2]?=some (.arr 35 [.bool false,.slice none 0 0])/\gf p.2.2.2.2 p.2.2.1 p.1/\gf p.2.2.2.2 p.2.2.2.1 p.2.1/\p.1<10000^199/\p.2.1<10000^199/\gcd p.1 p.2.1=gcd a.natAbs b.natAbs) (λp=>p.2.1)
  (a.natAbs,b.natAbs,u2,u3,(h3.set h.length (.arr 35 [B false,u2])).set (h.length+1) (.arr 35 [B false,u3])) rfl rfl
  ⟨(aB.set (le_refl _) _).set (by omega) _,by rw [getElem?_set_ne (by omega)];exact cJ tJ,cJ q1,by rw [getElem?_set_ne (by omega),getElem?_set_ne (by omega)];exact FC,(m2.bT tJ _).bT q1 _,(m3.bT tJ _).bT q1 _,la,lb,rfl⟩ ?_
 rintro ⟨x,y,ux,uy,g⟩ ⟨xg,j0,j1,j2,mx,my,lx,ly,hg⟩ L hL
 simp only at xg j0 j1 j2 mx my lx ly hg hL⊢
 rw [aHN]
 obtain ⟨l,p1,p2⟩:=my.qk
 have ld:af false 1 g (pt (h.length+1) 1)=some uy:=by simp [af,aW,j1,cP]
 simp only [bZ,zero_add,ld,ah,p1,fQ,bQ]
 refine ⟨λtg=>?_,λhle=>?_⟩
 ·have hy:0<y:=p2.1 (by omega)
  rw [cZ j0,ah,cZ j1,ah]
  refine NB mx.GG my.GG (by omega) (by simpa using lx) (by simpa using ly) ?_
  intro r s g1 y1 zr zs
  obtain ⟨u5,rfl,hu5⟩:=id zr
  obtain ⟨u6,hs6,hu6⟩:=id zs
  have iN:decide ((x:Int)%(y:Int)<0)=false:=aY (by have:=Int.emod_nonneg (x:Int) (show (y:Int)≠0 by omega);omega)
  rw [iN] at hs6
  subst hs6
  have hmv:((x:Int)%(y:Int)).natAbs=x%y:=by
   rw [<-Int.natCast_emod,natAbs_natCast]
  rw [hmv] at hu6
  have gl:h.length+2<g1.length:=by
   have:=(bz j2).1
   have:=y1.1
   omega
  simp only [eR,fv,fz,ah,e2,aE,length_append,length_cons,length_nil,zero_add]
  have n0:(g1++[aq.arr 35 [(.bool false),(.slice none 0 0)]]++[aq.arr 35 [(.bool false),(.slice none 0 0)]])[g1.length]?=some (.arr 35 [(.bool false),(.slice none 0 0)]):=by simp
  have n1:(g1++[aq.arr 35 [(.bool false),(.slice none 0 0)]]++[aq.arr 35 [(.bool false),(.slice none 0 0)]])[g1.length+1]?=some (.arr 35 [(.bool false),(.slice none 0 0)]):=by simp
  have y2:EX g1 (g1++[aq.arr 35 [(.bool false),(.slice none 0 0)]]++[aq.arr 35 [(.bool false),(.slice none 0 0)]]):=(EX.append _ _).push _
  generalize g1++[aq.arr 35 [(.bool false),(.slice none 0 0)]]++[aq.arr 35 [(.bool false),(.slice none 0 0)]]=g2 at n0 n1 y2⊢
  rw [fM n0]
  simp only [aE]
  have Ll:(g2.set g1.length (.arr 35 [B (decide ((x:Int) / (y:Int)<0)),u5]))[g1.length+1]?=some (.arr 35 [(.bool false),(.slice none 0 0)]):=by rw [getElem?_set_ne (by omega)];exact n1
  rw [fM Ll]
  simp only [aE]
  have y3:EX g1 ((g2.set g1.length (.arr 35 [B (decide ((x:Int) / (y:Int)<0)),u5])).set (g1.length+1) (.arr 35 [B false,u6])):=(y2.set (le_refl _) _).set (by omega) _
  have n6:=cJ (o:=.arr 35 [B false,u6]) Ll
  generalize (g2.set g1.length (.arr 35 [B (decide ((x:Int) / (y:Int)<0)),u5])).set (g1.length+1) (.arr 35 [B false,u6])=g3 at y3 n6⊢
  have i0:=(y1.trans y3).get j0
  have i1:=(y1.trans y3).get j1
  have i2:=(y1.trans y3).get j2
  rw [cZ i1]
  simp only [ah,true_and,cZ n6]
  rw [fM i0]
  simp only [aE,and_true]
  have s6:(g3.set h.length (.arr 35 [B false,uy]))[g1.length+1]?=some (.arr 35 [B false,u6]):=by rw [getElem?_set_ne (by omega)];exact n6
  have s1:(g3.set h.length (.arr 35 [B false,uy]))[h.length+1]?=some (.arr 35 [B false,uy]):=by rw [getElem?_set_ne (by omega)];exact i1
  refine ⟨cZ s6,?_⟩
  rw [fM s1]
  simp only [aE]
  have aF:x%y<y:=mod_lt _ hy
  refine hL (y,x%y,uy,u6,(g3.set h.length (.arr 35 [B false,uy])).set (h.length+1) (.arr 35 [B false,u6])) ⟨(((xg.trans y1).trans y3).set (le_refl _) _).set (by omega) _,?_,cJ s1,?_,(((my.mono y1).mono y3).bT i0 _).bT s1 _,(((hu6.mono y3)).bT i0 _).bT s1 _,ly,by show x%y<_;omega,?_⟩ aF
  ·show ((g3.set h.length _).set (h.length+1) _)[h.length]?=_
   rw [getElem?_set_ne (by omega)];exact cJ i0
  ·show ((g3.set h.length _).set (h.length+1) _)[h.length+2]?=_
   rw [getElem?_set_ne (by omega),getElem?_set_ne (by omega)];exact i2
  ·show gcd y (x%y)=_
   rw [<-hg,Nat.gcd_comm x y,Nat.gcd_rec y x,Nat.gcd_comm]
 ·have hy:y=0:=by
   apply byContradiction
   intro hc
   have:=p2.2 (by omega)
   omega
  subst hy
  rw [aHM,cZ j0]
  simp only [ah]
  rw [Nat.gcd_zero_right] at hg
  subst hg
  exact zY j2 (hk _ _ (xg.set (by omega) _) (mx.bT j2 _))
theorem Zj {va:Value} {a b:Int} {h:ae} {K:Value->ae->Prop} (ha:QZ h va a b) (hb:0<b) (la:a.natAbs<10000^199) (lb:b.natAbs<10000^199)
  (hk:∀r h',EX h h'->QZ h' r (a / (gcd a.natAbs b.natAbs:Int)) (b / (gcd a.natAbs b.natAbs:Int))->K r h'):ak prog 25 [va] h K:=by
 obtain ⟨u,w,rfl,hu,hw⟩:=ha
 refine f25 ?_
 have e1:bp 37 h (.agg #[B (decide (a<0)),u,B (decide (b<0)),w])=some (pt h.length 0,h++[.arr 37 [B (decide (a<0)),u,B (decide (b<0)),w]]):=rfl
 have e2:∀g':ae,aV 35 [(.bool false),(.slice none 0 0)] g'=some (pt g'.length 0,g'++[.arr 35 [(.bool false),(.slice none 0 0)]]):=λ_=>rfl
 have e4:∀g':ae,aV 37 [(.bool false),(.slice none 0 0),(.bool false),(.slice none 0 0)] g'=some (pt g'.length 0,g'++[.arr 37 z4]):=λ_=>rfl
 simp only [Pt,e1,e4,aE,length_append,length_cons,length_nil,zero_add]
 have k0:(h++[aq.arr 37 [B (decide (a<0)),u,B (decide (b<0)),w]]++[aq.arr 37 z4])[h.length]?=some (.arr 37 [B (decide (a<0)),u,B (decide (b<0)),w]):=by simp
 have k1:(h++[aq.arr 37 [B (decide (a<0)),u,B (decide (b<0)),w]]++[aq.arr 37 z4])[h.length+1]?=some (.arr 37 z4):=by simp
 have x1:EX h (h++[aq.arr 37 [B (decide (a<0)),u,B (decide (b<0)),w]]++[aq.arr 37 z4]):=(EX.append _ _).push _
 generalize h++[aq.arr 37 [B (decide (a<0)),u,B (decide (b<0)),w]]++[aq.arr 37 z4]=h1 at k0 k1 x1⊢
 have za:ZV h1 (.agg #[B (decide (a<0)),u]) a:=⟨u,rfl,hu.mono x1⟩
 have zb:ZV h1 (.agg #[B (decide (b<0)),w]) b:=⟨w,rfl,hw.mono x1⟩
 simp only [bZ,add_zero,zero_add,kl k0,lL k0,ah]
 refine Zv za zb la lb ?_
 intro ug h2 x2 mg
 have aBi:0<gcd a.natAbs b.natAbs:=Nat.gcd_pos_of_pos_right _ (by omega)
 have S9:gcd a.natAbs b.natAbs<=b.natAbs:=Nat.le_of_dvd (by omega) (Nat.gcd_dvd_right _ _)
 generalize gcd a.natAbs b.natAbs=g at mg aBi S9 hk
 have zg:=mg.GG
 simp only [e2,aE]
 rw [fM br]
 simp only [aE]
 have x3:EX h2 ((h2++[aq.arr 35 [(.bool false),(.slice none 0 0)]]).set h2.length (.arr 35 [B false,ug])):=EX.set (EX.append _ _) (le_refl _) _
 have k3:((h2++[aq.arr 35 [(.bool false),(.slice none 0 0)]]).set h2.length (.arr 35 [B false,ug]))[h2.length]?=some (.arr 35 [B false,ug]):=cJ br
 generalize (h2++[aq.arr 35 [(.bool false),(.slice none 0 0)]]).set h2.length (.arr 35 [B false,ug])=h3 at x3 k3⊢
 have aB:=x2.trans x3
 simp only [EX.load aB (kl k0),cZ k3,ah]
 have lg:((g:Nat):Int).natAbs<10000^199:=by rw [natAbs_natCast];omega
 refine NB (za.mono aB) (zg.mono x3) (by omega) la lg ?_
 intro r s h4 x4 zr zs
 obtain ⟨ur,rfl,hur⟩:=id zr
 obtain ⟨us,rfl,CF⟩:=id zs
 simp only [eR,fv,fz,ah,length_append,length_cons,length_nil,zero_add]
 have n0:(h4++[aq.arr 35 [(.bool false),(.slice none 0 0)]]++[aq.arr 35 [(.bool false),(.slice none 0 0)]])[h4.length]?=some (.arr 35 [(.bool false),(.slice none 0 0)]):=by simp
 have n1:(h4++[aq.arr 35 [(.bool false),(.slice none 0 0)]]++[aq.arr 35 [(.bool false),(.slice none 0 0)]])[h4.length+1]?=some (.arr 35 [(.bool false),(.slice none 0 0)]):=by simp
 have y2:EX h4 (h4++[aq.arr 35 [(.bool false),(.slice none 0 0)]]++[aq.arr 35 [(.bool false),(.slice none 0 0)]]):=(EX.append _ _).push _
 generalize h4++[aq.arr 35 [(.bool false),(.slice none 0 0)]]++[aq.arr 35 [(.bool false),(.slice none 0 0)]]=h5 at n0 n1 y2⊢
 rw [fM n0]
 simp only [aE]
 have Ll:(h5.set h4.length (.arr 35 [B (decide (a / (g:Int)<0)),ur]))[h4.length+1]?=some (.arr 35 [(.bool false),(.slice none 0 0)]):=by rw [getElem?_set_ne (by omega)];exact n1
 rw [fM Ll]
 simp only [aE]
 have y3:EX h4 ((h5.set h4.length (.arr 35 [B (decide (a / (g:Int)<0)),ur])).set (h4.length+1) (.arr 35 [B (decide (a%(g:Int)<0)),us])):=(y2.set (le_refl _) _).set (by omega) _
 have n0':((h5.set h4.length (.arr 35 [B (decide (a / (g:Int)<0)),ur])).set (h4.length+1) (.arr 35 [B (decide (a%(g:Int)<0)),us]))[h4.length]?=some (.arr 35 [B (decide (a / (g:Int)<0)),ur]):=by rw [getElem?_set_ne (by omega)];exact cJ n0
 generalize (h5.set h4.length (.arr 35 [B (decide (a / (g:Int)<0)),ur])).set (h4.length+1) (.arr 35 [B (decide (a%(g:Int)<0)),us])=h6 at y3 n0'⊢
 have aL:=(aB.trans x4).trans y3
 have dc:=x4.trans y3
 simp only [EX.load aL (lL k0),EX.load dc (cZ k3),ah]
 refine NB (zb.mono aL) (zg.mono (x3.trans dc)) (by omega) lb lg ?_
 intro r' s' h7 x7 G4 Nq
 obtain ⟨GI,rfl,aLv⟩:=id G4
 obtain ⟨M4,rfl,aLw⟩:=id Nq
 simp only [eR,fv,fz,ah]
 have m0:(h7++[aq.arr 35 [(.bool false),(.slice none 0 0)]]++[aq.arr 35 [(.bool false),(.slice none 0 0)]])[h7.length]?=some (.arr 35 [(.bool false),(.slice none 0 0)]):=by simp
 have m1:(h7++[aq.arr 35 [(.bool false),(.slice none 0 0)]]++[aq.arr 35 [(.bool false),(.slice none 0 0)]])[h7.length+1]?=some (.arr 35 [(.bool false),(.slice none 0 0)]):=by simp
 have w2:EX h7 (h7++[aq.arr 35 [(.bool false),(.slice none 0 0)]]++[aq.arr 35 [(.bool false),(.slice none 0 0)]]):=(EX.append _ _).push _
 generalize h7++[aq.arr 35 [(.bool false),(.slice none 0 0)]]++[aq.arr 35 [(.bool false),(.slice none 0 0)]]=h8 at m0 m1 w2⊢
 rw [fM m0]
 simp only [aE]
 have Le:(h8.set h7.length (.arr 35 [B (decide (b / (g:Int)<0)),GI]))[h7.length+1]?=some (.arr 35 [(.bool false),(.slice none 0 0)]):=by rw [getElem?_set_ne (by omega)];exact m1
 rw [fM Le]
 simp only [aE]
 have w3:EX h7 ((h8.set h7.length (.arr 35 [B (decide (b / (g:Int)<0)),GI])).set (h7.length+1) (.arr 35 [B (decide (b%(g:Int)<0)),M4])):=(w2.set (le_refl _) _).set (by omega) _
 have m0':((h8.set h7.length (.arr 35 [B (decide (b / (g:Int)<0)),GI])).set (h7.length+1) (.arr 35 [B (decide (b%(g:Int)<0)),M4]))[h7.length]?=some (.arr 35 [B (decide (b / (g:Int)<0)),GI]):=by rw [getElem?_set_ne (by omega)];exact cJ m0
 generalize (h8.set h7.length (.arr 35 [B (decide (b / (g:Int)<0)),GI])).set (h7.length+1) (.arr 35 [B (decide (b%(g:Int)<0)),M4])=h9 at w3 m0'⊢
 have fU:=x7.trans w3
 rw [EX.load fU (cZ n0'),ah,cZ m0',ah]
 exact zV (zr.mono (y3.trans fU)) (G4.mono w3) (x1.trans (aL.trans fU)) (by omega) ((aL.trans fU).get k1) hk
theorem azg {s:List UInt8} {n:Nat} (hd:jX s) (hv:dT s=n) (hn:0<n) (hh:s.head?≠some 48):s=eK n:=by
 have e1:((s.reverse.map λc:UInt8=>c.toNat-48).map jA).reverse=s:=by
  rw [List.map_map]
  have:s.reverse.map (jA ∘ λc:UInt8=>c.toNat-48)=s.reverse:=by
   conv=>rhs;rw [<-List.map_id s.reverse]
   apply List.map_congr_left
   intro c hc
   have h1:=hd c (by simpa using hc)
   apply UInt8.toNat_inj.1
   simp only [Function.comp,id]
   rw [vP (by omega)]
   omega
  rw [this,List.reverse_reverse]
 have fH:cN 10 (s.reverse.map λc:UInt8=>c.toNat-48):=by
  intro x hx
  obtain ⟨c,hc,rfl⟩:=List.mem_map.1 hx
  have h1:=hd c (by simpa using hc)
  omega
 have cf:val 10 (s.reverse.map λc:UInt8=>c.toNat-48)=n:=by
  rw [<-Ym fH,e1,hv]
 have Ak:dJ 10 (s.reverse.map λc:UInt8=>c.toNat-48):=by
  refine ⟨fH,?_⟩
  rw [List.getLast?_map,List.getLast?_reverse]
  intro hc
  cases hs:s.head? with
  | none=>rw [hs] at hc;cases hc
  | some c=>
   rw [hs] at hc
   have SU:c.toNat-48=0:=by simpa using hc
   have rU:c∈s:=List.mem_of_mem_head? hs
   have h1:=hd c rU
   apply hh
   rw [hs]
   congr 1
   apply UInt8.toNat_inj.1
   show c.toNat=48
   omega
 obtain ⟨d1,d2⟩:=JE n
 have:=dJ.unique (by decide) Ak d1 (by rw [cf,d2])
 unfold eK
 rw [if_neg (by omega),<-this,e1]
end
section
/-- Four digits. -/
def four (d:Nat):List UInt8:=[jA (d / 1000),jA (d / 100%10),jA (d / 10%10),jA (d%10)]
theorem aAJ {d:Nat} (hd:d<10000):jX (four d)/\dT (four d)=d:=by
 have h1:=vP (d:=d / 1000) (by omega)
 have h2:=vP (d:=d / 100%10) (by omega)
 have h3:=vP (d:=d / 10%10) (by omega)
 have h4:=vP (d:=d%10) (by omega)
 constructor
 ·intro c hc
  simp only [four,List.mem_cons,List.not_mem_nil,or_false] at hc
  rcases hc with rfl | rfl | rfl | rfl <;> omega
 ·simp only [four,GJ,h1,h2,h3,h4,length_cons,length_nil]
  simp only [dT,List.foldl_nil]
  omega
theorem ZB {va:Value} {n:Nat} {h:ae} {K:Value->ae->Prop} (ha:ZV h va n) (hn:n<bG) (hk:∀h',EX h h'->K (S (eK n)) h'):ak prog 93 [va] h K:=by
 obtain ⟨v,rfl,hv⟩:=ha
 rw [natAbs_natCast] at hv
 refine f93 ?_
 have e1:bp 35 h (.agg #[B (decide ((n:Int)<0)),v])=some (pt h.length 0,h++[.arr 35 [B (decide ((n:Int)<0)),v]]):=rfl
 simp only [Qg,e1,aE]
 have x1:EX h (h++[aq.arr 35 [B (decide ((n:Int)<0)),v]]):=EX.append _ _
 have ld:af false 1 (h++[aq.arr 35 [B (decide ((n:Int)<0)),v]]) (pt h.length 1)=some v:=tK rfl
 generalize h++[aq.arr 35 [B (decide ((n:Int)<0)),v]]=h1 at x1 ld⊢
 obtain ⟨xs,dx,cx,vx⟩:=hv.mono x1
 have lx:=rJ cx (by rw [vx];exact hn)
 simp only [bZ,zero_add,ld,ah,dx.len,hY,bQ]
 refine ⟨λh0=>?_,λbt=>?_⟩
 ·have:xs=[]:=List.length_eq_zero_iff.1 (by omega)
  subst this
  have oK:n=0:=vx.symm
  subst oK
  exact hk _ x1
 ·have yz:0<xs.length:=by omega
  have aBK:0<n:=by
   apply byContradiction
   intro hc
   have:=dJ.zero (by decide) cx (by omega)
   rw [this] at yz
   simp at yz
  have e2:IntKind.wrap .i64 ((xs.length:Int)-1)=(xs.length:Int)-1:=wrap64 (by omega) (by omega)
  simp only [gE,e2,ah]
  refine dF (σ:=Nat×List UInt8×ae) (λp=>[S p.2.1,I ((p.1:Int)-1)]) (λp=>p.2.2)
   (λp=>p.1<=xs.length/\EX h1 p.2.2/\jX p.2.1/\dT p.2.1=val 10000 (xs.drop p.1)/\p.2.1.length=4*(xs.length-p.1)) (λp=>p.1)
   (xs.length,[],h1) rfl rfl ⟨le_refl _,EX.refl _,λc hc=>by simp at hc,by simp [dT,val],by simp⟩ ?_
  rintro ⟨i,s,g⟩ ⟨hi,xg,hd,yy,tz⟩ L hL
  simp only at hi xg hd yy tz hL⊢
  rw [aIv]
  simp only [nv,ah,bQ]
  refine ⟨λcU=>?_,λaF=>?_⟩
  ·obtain ⟨j,rfl⟩:∃j,i=j+1:=⟨i-1,by omega⟩
   have ej:((j+1:Nat):Int)-1=(j:Int):=by omega
   have ym:j<xs.length:=by omega
   obtain ⟨ia,a1,a2⟩:=(dx.mono xg).get ym
   have hd4:xs[j]<10000:=cx.1 _ (getElem_mem ym)
   have KL:=aqN 10000 xs ym
   rw [ej]
   generalize yf:xs[j]=d at a2 hd4 KL
   simp only [bZ,zero_add,EX.load xg ld,ah,a1,a2]
   rw [show (.int .i64 1000:Value)=.int .i64 ((1000:Nat):Int) from rfl,show (.int .i64 100:Value)=.int .i64 ((100:Nat):Int) from rfl,show (.int .i64 10:Value)=.int .i64 ((10:Nat):Int) from rfl]
   rw [C8 (by decide) (by omega),C8 (b:=100) (by decide) (by omega),C8 (b:=10) (by decide) (by omega)]
   simp only [ah]
   rw [Bl _ _ _ (by decide),Bl _ _ _ (by decide),Bl _ _ _ (by decide)]
   have w:∀q:Nat,q<10->IntKind.wrap .i64 (48+(q:Int))=((48+q:Nat):Int):=λq hq=>by rw [wrap64 (by omega) (by omega)];omega
   have w8:∀q:Nat,q<10->IntKind.wrap .u8 ((48+q:Nat):Int)=((48+q:Nat):Int):=λq hq=>aqS (by omega) (by omega)
   simp only [ah,cL,kZ,w _ (show d / 1000<10 by omega),w8 _ (show d / 1000<10 by omega),w _ (show d / 100%10<10 by omega),w8 _ (show d / 100%10<10 by omega),w _ (show d / 10%10<10 by omega),w8 _ (show d / 10%10<10 by omega),w _ (show d%10<10 by omega),w8 _ (show d%10<10 by omega)]
   rw [En (show d / 1000<10 by omega),En (show d / 100%10<10 by omega),En (show d / 10%10<10 by omega),En (show d%10<10 by omega)]
   have mk:dN 5 4 [.int .u8 0] g [(0,1,cv (jA (d / 1000))),(1,1,cv (jA (d / 100%10))),(2,1,cv (jA (d / 10%10))),(3,1,cv (jA (d%10)))]=some (sl 5 g.length 0 4,g++[.arr 5 ((four d).map cv)]):=rfl
   have yg:EX g (g++[aq.arr 5 ((four d).map cv)]):=EX.append _ _
   have bs:oQ (g++[aq.arr 5 ((four d).map cv)]) (sl 5 g.length 0 4)=some (S (four d)):=zH (b:=g.length) (e:=5) (.inr ⟨g.length,le_refl _,rfl,br⟩)
   obtain ⟨f1,f2⟩:=aAJ hd4
   have f3:(four d).length=4:=rfl
   simp only [mk,aE,bs,ah]
   rw [xM s (four d) (by rw [f3];unfold maxLen;omega)]
   have R5:IntKind.wrap .i64 ((j:Int)-1)=(j:Int)-1:=wrap64 (by omega) (by omega)
   simp only [ah,gE,R5,true_and]
   refine hL (j,s++four d,g++[aq.arr 5 ((four d).map cv)]) ⟨by show j<=xs.length;omega,xg.trans yg,λc hc=>(List.mem_append.1 hc).elim (hd c) (f1 c),?_,by show (s++four d).length=_;rw [length_append,f3];omega⟩ (by show j<j+1;omega)
   show dT (s++four d)=val 10000 (xs.drop j)
   rw [Bu,f2,f3,KL,yy]
   omega
  ·have Cu:i=0:=by omega
   subst Cu
   simp only [List.drop_zero,vx] at yy
   rw [aIs]
   refine dF (σ:=List UInt8) (λs=>[S s]) (λ_=>g) (λs=>jX s/\dT s=n/\s.length<=1000) (λs=>s.length) s rfl rfl ⟨hd,yy,by omega⟩ ?_
   rintro t ⟨td,tv,tl⟩ L2 iV
   rw [aIt]
   cases t with
   | nil=>simp [dT] at tv;omega
   | cons c t=>
    have ix:=uT (a:=c::t) (i:=0) (by simp) .i64
    have ix':j6 (S (c::t)) (.int .i64 0)=some (cv c):=ix
    have eq:ai .eql (cv c) (.int .u8 48)=some (B (decide ((c.toNat:Int)=48))):=rfl
    simp only [ix',ah,eq,bQ]
    refine ⟨λlY=>?_,λlY=>?_⟩
    ·have aJM:=Dc (a:=c::t) (n:=1) (by simp) .i64
     have aJN:kQ (S (c::t)) (some (.int .i64 1)) none=some (S t):=aJM
     simp only [aJN,ah,true_and]
     refine iV t ⟨λx hx=>td x (by simp [hx]),?_,by simp at tl;omega⟩ (by simp)
     rw [GJ] at tv
     have:c.toNat-48=0:=by omega
     rw [this] at tv
     omega
    ·rw [aIu]
     have:=azg td tv aBK (by
      simp only [List.head?_cons,ne_eq,Option.some.injEq]
      rintro rfl
      exact lY rfl)
     rw [this]
     exact hk _ (x1.trans xg)
end
section
theorem Bw {b:Nat} (h:b<4294967296):b<bG:=ajp (lt_of_lt_of_le h (by decide))
theorem MJ {a b:Nat}:nH a b<0↔a<b:=by
 unfold nH
 constructor
 ·intro h
  apply byContradiction
  intro hn
  rw [if_neg hn] at h
  split at h <;> omega
 ·intro h;rw [if_pos h];decide
theorem arc {va vb:Value} {a b:Nat} {h:ae} {K:Value->ae->Prop} (ha:dL h va a) (hb:dL h vb b) (la:a<bG) (b0:0<b) (lb:b<4294967296) (hk:∀q r h',EX h h'->dL h' q (a / b)->dL h' r (a%b)->K (.tuple #[q,r]) h'):
  ak prog 130 [va,vb] h K:=by
 refine f130 ?_
 unfold HM
 refine G5 ha hb la (Bw lb) ?_
 simp only [cW,ah,bQ]
 refine ⟨λaF=>?_,λcU=>?_⟩
 ·have iL:=MJ.1 aF
  have nA:=ha
  obtain ⟨xs,d,c,rfl⟩:=ha
  obtain ⟨s1,s2⟩:=d.cells
  have lx:=qJ c la
  have hq:∀g,dL g (.slice none 0 0) (val 4294967296 xs / b):=λg=>⟨[],DS.nil _ _ _,⟨λx hx=>by simp at hx,by simp⟩,by rw [Nat.div_eq_of_lt iL];rfl⟩
  by_cases h0:xs.length=0
  ·have e:eG 177 1 4 h (.slice none 0 0) va=some (.slice none 0 0,h):=by
    simp only [eG,s1,s2]
    rw [if_pos h0]
   simp only [e,aE]
   have:xs=[]:=List.length_eq_zero_iff.1 h0
   subst this
   exact hk _ _ h (EX.refl h) (hq h) ⟨[],DS.nil _ _ _,c,by rw [mod_eq_of_lt iL]⟩
  ·have e:eG 177 1 4 h (.slice none 0 0) va=some (sl 177 h.length 0 xs.length,h++[.arr 177 (xs.map λd:Nat=>Value.int .u32 (d:Int))]):=by
    simp only [eG,s1,s2]
    rw [if_neg h0,if_pos ⟨by omega,by unfold maxLen;omega⟩]
   simp only [e,aE]
   refine hk _ _ _ (EX.append _ _) (hq _) ⟨xs,.inr ⟨h.length,rfl,.inr ⟨[],?_⟩⟩,c,by rw [mod_eq_of_lt iL]⟩
   simp [aW]
 ·have iL:b<=a:=by
   apply byContradiction
   intro hc
   exact cU (MJ.2 (by omega))
  obtain ⟨ys,d,c,hy⟩:=id hb
  have hlen:ys.length=1:=by
   have h1:ys.length<=1:=c.len (k:=1) (by decide) (by rw [hy];simpa using lb)
   have h2:ys≠[]:=by rintro rfl;simp [val] at hy;omega
   have:0<ys.length:=List.length_pos_iff.2 h2
   omega
  obtain ⟨y,rfl⟩:∃y,ys=[y]:=by
   match ys,hlen with
   | [y],_=>exact ⟨y,rfl⟩
  have q9:y=b:=by simpa [val] using hy
  subst q9
  obtain ⟨i,g1,g2⟩:=d.get (j:=0) (by simp)
  have Ab:aZ 1 vb (.int .i64 (0))=some (pt i 0):=g1
  have UK:bk vb=some (I 1):=d.len
  simp only [UK,ah,hY,decide_true,dA,Ab,g2,List.getElem_cons_zero]
  refine Y0 ha la b0 lb ?_
  intro q h2 x2 hq
  have mk:∀(g:ae) (r:Nat),dN 177 1 [(.int .u32 (0))] g [(0,1,.int .u32 (r:Int))]=some (sl 177 g.length 0 1,g++[.arr 177 [.int .u32 (r:Int)]]):=λ_ _=>rfl
  simp only [eR,fv,fz,ah,mk,aE]
  have x3:EX h2 (h2++[.arr 177 [.int .u32 ((a%y:Nat):Int)]]):=EX.append _ _
  have dr:DS 177 .u32 (h2++[.arr 177 [.int .u32 ((a%y:Nat):Int)]]) (sl 177 h2.length 0 1) [a%y]:=.inr ⟨h2.length,rfl,.inr ⟨[],by simp [aW]⟩⟩
  have hm:a%y<y:=mod_lt _ b0
  refine sJ dr (λx hx=>by rw [List.mem_singleton.1 hx];omega) (by simp) ?_
  intro v' kD
  have e:val 4294967296 [a%y]=a%y:=by simp [val]
  rw [e] at kD
  exact hk _ _ _ (x2.trans x3) (hq.mono x3) kD
theorem YY {va:Value} {a:Int} {h:ae} {K:Value->ae->Prop} (ha:eC h va a) (hk:∀h',EX h h'->K (I (if a=0 then 0 else if a<0 then -1 else 1)) h'):ak prog 109 [va] h K:=by
 obtain ⟨v,rfl,hv⟩:=ha
 refine f109 ?_
 have e1:bp 105 h (.agg #[B (decide (a<0)),v])=some (pt h.length 0,h++[.arr 105 [B (decide (a<0)),v]]):=rfl
 have x1:EX h (h++[.arr 105 [B (decide (a<0)),v]]):=EX.append _ _
 have l1:af false 1 (h++[aq.arr 105 [B (decide (a<0)),v]]) (pt h.length 1)=some v:=tK rfl
 have l0:af false 1 (h++[aq.arr 105 [B (decide (a<0)),v]]) (pt h.length 0)=some (B (decide (a<0))):=tK rfl
 obtain ⟨l,e2,e3⟩:=hv.qk
 simp only [OQ,e1,aE,bZ,zero_add,add_zero,ah,l1,l0,e2,hY,bQ]
 refine ⟨λhz=>?_,λhz=>⟨λhn=>?_,λhn=>?_⟩⟩
 ·have:=hk _ x1
  rw [if_pos (by omega)] at this
  exact this
 ·have:=hk _ x1
  rw [if_neg (by omega),if_pos hn] at this
  exact this
 ·have:=hk _ x1
  rw [if_neg (by omega),if_neg hn] at this
  exact this
theorem Nt {va vb:Value} {a b:Int} {h:ae} {K:Value->ae->Prop} (ha:eC h va a) (hb:eC h vb b) (la:a.natAbs<bG) (lb:b.natAbs<bG) (hk:∀h',EX h h'->K (I (if a-b=0 then 0 else if a-b<0 then -1 else 1)) h'):ak prog 111 [va,vb] h K:=by
 have nA:=ha
 have pA:=hb
 obtain ⟨v,rfl,hv⟩:=ha
 obtain ⟨w,rfl,hw⟩:=hb
 refine f111 ?_
 have e1:∀(g:ae) (s:Bool) (v:Value),bp 105 g (.agg #[B s,v])=some (pt g.length 0,g++[.arr 105 [B s,v]]):=λ_ _ _=>rfl
 simp only [OT,e1,aE]
 have g0:(h++[aq.arr 105 [B (decide (a<0)),v]]++[aq.arr 105 [B (decide (b<0)),w]])[h.length]?=some (.arr 105 [B (decide (a<0)),v]):=by simp
 have g1:(h++[aq.arr 105 [B (decide (a<0)),v]]++[aq.arr 105 [B (decide (b<0)),w]])[(h++[aq.arr 105 [B (decide (a<0)),v]]).length]?=some (.arr 105 [B (decide (b<0)),w]):=br
 have x1:EX h (h++[aq.arr 105 [B (decide (a<0)),v]]++[aq.arr 105 [B (decide (b<0)),w]]):=(EX.append _ _).push _
 generalize h++[aq.arr 105 [B (decide (a<0)),v]]++[aq.arr 105 [B (decide (b<0)),w]]=h1 at g0 g1 x1⊢
 rw [cZ g0,cZ g1]
 simp only [ah]
 refine arb (nA.mono x1) (pA.mono x1) la lb ?_
 intro r h2 x2 hr
 exact YY hr λh3 x3=>hk h3 (x1.trans (x2.trans x3))
theorem eC.nat {h:ae} {v:Value} {n:Nat} (p:dL h v n):eC h (.agg #[B false,v]) (n:Int):=⟨v,by rw [aY (by omega)],by rwa [natAbs_natCast]⟩
end
end Go.Proofs.YtelmdbpaoifmoaaGreat
namespace Go.Sim
section
theorem aKu {B:Nat} {xs:List Nat} (h:cN B xs) {n:Nat} (hn:xs.length=n+2):∃l,l<B^n/\val B xs=l+(xs[n]+xs[n+1]*B)*B^n:=by
 refine ⟨val B (xs.take n),?_,?_⟩
 ·have:=nJ (xs:=xs.take n) (h.mono λy hy=>mem_of_mem_take hy)
  rwa [length_take,min_eq_left (by omega)] at this
 ·have h1:=jK B xs (i:=n) (by omega)
  have h2:=jK B xs (i:=n+1) (by omega)
  rw [take_of_length_le (by omega),h1] at h2
  rw [h2,pow_succ]
  generalize B^n=P
  grind
theorem aKt {B:Nat} {xs:List Nat} (h:cN B xs) {n:Nat} (hn:xs.length=n+3):∃l,l<B^n/\val B xs=l+(xs[n]+(xs[n+1]+xs[n+2]*B)*B)*B^n:=by
 refine ⟨val B (xs.take n),?_,?_⟩
 ·have:=nJ (xs:=xs.take n) (h.mono λy hy=>mem_of_mem_take hy)
  rwa [length_take,min_eq_left (by omega)] at this
 ·have h1:=jK B xs (i:=n) (by omega)
  have h2:=jK B xs (i:=n+1) (by omega)
  have h3:=jK B xs (i:=n+2) (by omega)
  rw [take_of_length_le (by omega),h2,h1] at h3
  rw [h3,show B^(n+2)=B^n*B*B from by rw [pow_succ,pow_succ],pow_succ]
  generalize B^n=P
  grind
def mid (us:List Nat) (j:Nat) (xs:List Nat):List Nat:=us.take j++(xs++us.drop (j+xs.length))
theorem CR {us:List Nat} {j:Nat} {xs:List Nat} (h:j+xs.length<=us.length):(mid us j xs).length=us.length:=by
 unfold mid
 simp only [length_append,length_take,List.length_drop]
 omega
theorem ajD {us:List Nat} {j k:Nat} {xs:List Nat} (hj:j<=us.length) (h:xs.length<=k):(mid us j xs)[j+k]?=us[j+k]?:=by
 unfold mid
 rw [List.getElem?_append_right (by rw [length_take];omega),length_take,min_eq_left hj,Nat.add_sub_cancel_left,List.getElem?_append_right h,List.getElem?_drop]
 congr 1
 omega
theorem aEa {us:List Nat} {j k:Nat} {xs:List Nat} (hj:j<=us.length) (h:k<xs.length):(mid us j xs)[j+k]?=xs[k]?:=by
 unfold mid
 rw [List.getElem?_append_right (by rw [length_take];omega),length_take,min_eq_left hj,Nat.add_sub_cancel_left,List.getElem?_append_left h]
theorem Lg {us:List Nat} {j d:Nat} {xs:List Nat} (h:j+xs.length<us.length):(mid us j xs).set (j+xs.length) d=mid us j (xs++[d]):=by
 unfold mid
 rw [List.set_append_right _ _ (by rw [length_take];omega),length_take,min_eq_left (by omega),Nat.add_sub_cancel_left,List.set_append_right _ _ (le_refl _),Nat.sub_self,List.drop_eq_getElem_cons h,List.set_cons_zero,length_append,List.append_assoc]
 rfl
theorem ajE (us:List Nat) (j:Nat):mid us j []=us:=by unfold mid;simp
theorem aD9 {us:List Nat} {j:Nat} {xs ys:List Nat} (hj:j+xs.length<=us.length) (h:ys.length=xs.length):mid (mid us j xs) j ys=mid us j ys:=by
 unfold mid
 have e1:(us.take j++(xs++us.drop (j+xs.length))).take j=us.take j:=by
  rw [List.take_append_of_le_length (by rw [length_take];omega),List.take_take,Nat.min_self]
 have e2:(us.take j++(xs++us.drop (j+xs.length))).drop (j+ys.length)=us.drop (j+ys.length):=by
  rw [h,<-List.append_assoc,List.drop_append_of_le_length (by rw [length_append,length_take];omega),List.drop_eq_nil_of_le (by rw [length_append,length_take];omega),List.nil_append]
 rw [e1,e2]
section
variable {B P U V ul vl u2 v2 top v1 : Nat}
theorem aAX (hU:U=ul+(u2+top*B)*P) (rY:ul<P) (qg:u2<B) (hV:V=vl+(v2+v1*B)*P) (h1:0<v1):U / V<=top / v1:=by
 rw [Nat.le_div_iff_mul_le h1]
 have h2:U / V*V<=U:=Nat.div_mul_le_self U V
 generalize U / V=q at*
 apply byContradiction
 intro hn
 have h3:top+1<=q*v1:=by omega
 have h4:(top+1)*(B*P)<=q*v1*(B*P):=mul_le_mul_right _ h3
 have h5:q*v1*(B*P)<=q*V:=by
  rw [hV]
  have:q*(vl+(v2+v1*B)*P)=q*v1*(B*P)+q*(vl+v2*P):=by grind
  omega
 have h6:U<(top+1)*(B*P):=by
  have e1:(top+1)*(B*P)=top*B*P+B*P:=by grind
  have e2:(u2+top*B)*P=u2*P+top*B*P:=by grind
  have e3:(u2+1)*P<=B*P:=mul_le_mul_right _ (by omega)
  have e4:(u2+1)*P=u2*P+P:=by grind
  omega
 omega
theorem aAW {g r:Nat} (hU:U=ul+(u2+top*B)*P) (rY:ul<P) (hV:V=vl+(v2+v1*B)*P) (uD:U<V*B) (hg:g*v1+r=top) (hq:U / V<=g) (pW:B<=g∨r*B+u2<g*v2):U / V+1<=g:=by
 have hV0:0<V:=by
  apply Nat.pos_of_ne_zero
  intro e
  rw [e] at uD
  omega
 have Tx:U / V<B:=by rw [Nat.div_lt_iff_lt_mul hV0,mul_comm];exact uD
 rcases pW with hb | hb
 ·omega
 have h2:U / V*V<=U:=Nat.div_mul_le_self U V
 generalize U / V=q at*
 apply byContradiction
 intro hn
 have hqg:q=g:=by omega
 subst hqg
 have h3:q*((v2+v1*B)*P)<=q*V:=by rw [hV];exact mul_le_mul_left _ (by omega)
 have h4:q*(v2+v1*B)*P<(u2+top*B+1)*P:=by
  have e1:q*((v2+v1*B)*P)=q*(v2+v1*B)*P:=by grind
  have e2:(u2+top*B+1)*P=(u2+top*B)*P+P:=by grind
  omega
 have h5:q*(v2+v1*B)<u2+top*B+1:=Nat.lt_of_mul_lt_mul_right h4
 rw [<-hg] at h5
 have e3:q*(v2+v1*B)=q*v2+q*v1*B:=by grind
 have e4:(q*v1+r)*B=q*v1*B+r*B:=by grind
 omega
theorem agR {g r:Nat} (hU:U=ul+(u2+top*B)*P) (hV:V=vl+(v2+v1*B)*P) (se:vl<P) (h1:0<v1) (hg:g*v1+r=top) (pZ:g<B) (aI:g*v2<=r*B+u2):g*V<U+V:=by
 have e1:g*V=g*vl+(g*v2+g*v1*B)*P:=by rw [hV];grind
 have e2:top*B=g*v1*B+r*B:=by rw [<-hg];grind
 have e3:(g*v2+g*v1*B)*P<=(u2+top*B)*P:=mul_le_mul_right _ (by omega)
 have e4:g*vl<V:=by
  have a1:g*vl<=g*P:=mul_le_mul_left _ (by omega)
  have hP:0<P:=by omega
  have a2:g*P<B*P:=Nat.mul_lt_mul_of_pos_right pZ hP
  have a3:B*P<=v1*B*P:=by
   have:1*(B*P)<=v1*(B*P):=mul_le_mul_right _ h1
   rw [mul_assoc]
   omega
  have a4:(v2+v1*B)*P=v2*P+v1*B*P:=by grind
  omega
 omega
theorem aKi {un w:Nat} (hB:0<B) (hU:U=ul+(u2+top*B)*P) (tA:top=w+un*B) (hV:V=vl+(v2+v1*B)*P) (se:vl<P) (rZ:v2<B) (uD:U<V*B):un<=v1:=by
 apply byContradiction
 intro hn
 have h1:(v1+1)*(B*P)*B<=un*(B*P)*B:=mul_le_mul_right _ (mul_le_mul_right _ (by omega))
 have h2:un*(B*P)*B<=U:=by
  rw [hU,tA]
  have:(u2+(w+un*B)*B)*P=(u2+w*B)*P+un*(B*P)*B:=by grind
  omega
 have h3:V<(v1+1)*(B*P):=by
  have e1:(v1+1)*(B*P)=v1*B*P+B*P:=by grind
  have e2:(v2+v1*B)*P=v2*P+v1*B*P:=by grind
  have e3:(v2+1)*P<=B*P:=mul_le_mul_right _ (by omega)
  have e4:(v2+1)*P=v2*P+P:=by grind
  omega
 have h4:V*B<(v1+1)*(B*P)*B:=Nat.mul_lt_mul_of_pos_right h3 hB
 omega
end
end
end Go.Sim
namespace Go.Proofs.YtelmdbpaoifmoaaGreat
open Go.Sim
section
variable (P : Program) (K : VK)
noncomputable section
variable (x0 : Value) (h : ae)
def akG:=bE prog 135 [[],[]]
@[irreducible] def acU:=bM akG
theorem aDz:akG=some (6,acU,[.tmp 2]):=by kernel_rfl
def Pf:Prop:=
 ak P 141 [x0] h λx4 z1=>
 OP (ai .sub (.int .i64 (32)) x4) λx5=>
 K x5 z1
theorem azX:aj P acU (aT [.tmp 2] K) (bw [x0]) h=Pf P K x0 h:=by kernel_rfl
theorem f135 {K:VK} {x0:Value} {h:ae} (H:Pf prog K x0 h):ak prog 135 [x0] h K:=
 bN aDz (bJ rfl) ((azX prog K x0 h).mpr H)
end
noncomputable section
variable (x0 n1 x5 aB aA aP : Value) (L1 : LQ) (xs : List Value) (h : ae)
def akH:=bE prog 136 [[],[],[],[1,5,13,14],[15],[],[],[],[],[],[],[5],[]]
@[irreducible] def IE:=bM akH
@[irreducible] def awk:=IE.r.r.l.r.l.l
@[irreducible] def acV:=IE.r.r.r
@[irreducible] def awj:=acV.l
theorem aDA:akH=some (41,IE,[.tmp 4]):=by kernel_rfl
def N6 (_P:Program) (K:VK):ar:=aT [.tmp 4] K
def asL:ar:=aH (aj P acV (N6 P K)) (N6 P K)
def asM:ar:=bH 0 (asL P K)
def asN:ar:=aH (λf' aX=>(([1,5,13,14]:List Nat).map f':List Value)=[n1,x5,aB,aA]/\L1 (([15]:List Nat).map f') aX) (asM P K)
def amR:Prop:=ax (aj P awk (asN P K n1 x5 aB aA L1)) ([1,5,13,14]++[15]) ([n1,x5,aB,aA]++xs) h
def amQ:Prop:=ax (aj P awj (N6 P K)) [5] [x5] h
theorem aFV (n1 x5 aB aA:Value) (L1:LQ) (aP:Value) (h:ae):amR P K n1 x5 aB aA L1 [aP] h=
 (OP (ai .lss aP aA) λaL=>
 aN aL
 (OP (aZ 1 aB aP) λaS=>
 OP (af false 1 h aS) λaK=>
 OP (dG .u64 aK) λba=>
 OP (ai .shl ba n1) λcB=>
 OP (aZ 1 x5 aP) λcV=>
 OP (af false 1 h cV) λb9=>
 OP (dG .u32 cB) λcM=>
 OP (ai .or b9 cM) λdm=>
 OP (aZ 1 x5 aP) λcC=>
 OH (aG 1 h cC dm) λ_ z1=>
 OP (ai .add aP (.int .i64 (1))) λcK=>
 OP (ai .shr cB (.int .u64 (32))) λdc=>
 OP (dG .u32 dc) λer=>
 OP (aZ 1 x5 cK) λdO=>
 OH (aG 1 z1 dO er) λ_ z2=>
 OP (ai .add aP (.int .i64 (1))) λeY=>
 ([n1,x5,aB,aA]:List Value)=[n1,x5,aB,aA]/\L1 [eY] z2)
 (amQ P K x5 h)):=az (by kernel_rfl)
theorem aFU:amQ P K x5 h=
 (K x5 h):=az (by kernel_rfl)
def Pg:Prop:=
 OP (bk x0) λay=>
 OP (ai .add ay (.int .i64 (1))) λau=>
 OH (lI 177 4 [(.int .u32 (0))] h au au) λaD z1=>
 OP (bk x0) λaA=>
 cO [(.int .i64 (0))] z1 λL1 xs hx=>
 amR P K n1 aD x0 aA L1 xs hx
theorem azY:aj P IE (aT [.tmp 4] K) (bw [x0,n1]) h=Pg P K x0 n1 h:=by kernel_rfl
theorem f136 {K:VK} {x0 n1:Value} {h:ae} (H:Pg prog K x0 n1 h):ak prog 136 [x0,n1] h K:=
 bN aDA (bJ rfl) ((azY prog K x0 n1 h).mpr H)
end
noncomputable section
variable (u0 v1 n5 x7 x8 x9 ay aB lQ eB mM xq : Value) (L1 : LQ) (xs : List Value) (h : ae)
def akI:=bE prog 137 [[],[],[],[],[0,1,5],[7,8],[],[],[],[],[],[0,1,5,7],[],[],[0,1,5,7,83],[9,10,84],[],[],[],[],[],[],[0,1,5,7,9,10],[],[],[],[],[],[0,1,5,7,132],[13,133],[],[],[],[],[0,5,7,13],[7],[]]
@[irreducible] def IF:=bM akI
@[irreducible] def awp:=IF.r.r.r.r.l.l.l
@[irreducible] def acZ:=IF.r.r.r.r.r
@[irreducible] def QT:=acZ.l
@[irreducible] def awl:=QT.r.l.r.l.l
@[irreducible] def acW:=QT.r.r
@[irreducible] def IG:=acW.l
@[irreducible] def awm:=IG.r.l.r.l.r.r.l.r.l.l
@[irreducible] def acY:=IG.r.l.r.l.r.r.r
@[irreducible] def acX:=IG.r.r
@[irreducible] def awn:=acY.l
@[irreducible] def awo:=acX.l
theorem aDB:akI=some (162,IF,[.tmp 4]):=by kernel_rfl
def vH (_P:Program) (K:VK):ar:=aT [.tmp 4] K
def asU:ar:=aH (aj P acZ (vH P K)) (vH P K)
def asV:ar:=bH 0 (asU P K)
def asW:ar:=aH (λf' aX=>(([0,1,5]:List Nat).map f':List Value)=[u0,v1,n5]/\L1 (([7,8]:List Nat).map f') aX) (asV P K)
def asO:ar:=aH (aj P acW (vH P K)) (vH P K)
def asP:ar:=bH 2 (asO P K)
def asQ:ar:=aH (λf' aX=>(([0,1,5,7,83]:List Nat).map f':List Value)=[u0,v1,n5,x7,lQ]/\L1 (([9,10,84]:List Nat).map f') aX) (asP P K)
def N7:ar:=aH (aj P acX (vH P K)) (vH P K)
def asR:ar:=aH (aj P acY (N7 P K)) (N7 P K)
def asS:ar:=bH 4 (asR P K)
def asT:ar:=aH (λf' aX=>(([0,1,5,7,132]:List Nat).map f':List Value)=[u0,v1,n5,x7,mM]/\L1 (([13,133]:List Nat).map f') aX) (asS P K)
def amV:Prop:=ax (aj P awp (asW P K u0 v1 n5 L1)) ([0,1,5]++[7,8]) ([u0,v1,n5]++xs) h
def yH:Prop:=ax (aj P QT (vH P K)) [0,1,5,7] [u0,v1,n5,x7] h
def amS:Prop:=ax (aj P awl (asQ P K u0 v1 n5 x7 lQ L1)) ([0,1,5,7,83]++[9,10,84]) ([u0,v1,n5,x7,lQ]++xs) h
def amT:Prop:=ax (aj P IG (vH P K)) [0,1,5,7,9,10] [u0,v1,n5,x7,x9,ay] h
def VP:Prop:=ax (aj P awm (asT P K u0 v1 n5 x7 mM L1)) ([0,1,5,7,132]++[13,133]) ([u0,v1,n5,x7,mM]++xs) h
def amU:Prop:=ax (aj P awn (N7 P K)) [0,5,7,13] [u0,n5,x7,aB] h
def F5:Prop:=ax (aj P awo (vH P K)) [7] [x7] h
theorem aF2 (u0 v1 n5:Value) (L1:LQ) (x7 x8:Value) (h:ae):amV P K u0 v1 n5 L1 [x7,x8] h=
 (OP (ai .shr x7 (.int .u64 (32))) λgO=>
 OP (ai .gtr gO (.int .u64 (0))) λfE=>
 ck fE false
 (OP (ai .sub n5 (.int .i64 (2))) λiS=>
 OP (aZ 1 v1 iS) λcX=>
 OP (af false 1 h cX) λhI=>
 (True)/\
 OP (dG .u64 hI) λiT=>
 OP (ai .mul x7 iT) λee=>
 OP (ai .shl x8 (.int .u64 (32))) λeP=>
 OP (ai .sub n5 (.int .i64 (2))) λng=>
 OP (aZ 1 u0 ng) λhO=>
 OP (af false 1 h hO) λkf=>
 (True)/\
 OP (dG .u64 kf) λgP=>
 OP (ai .or eP gP) λjd=>
 OP (ai .gtr ee jd) λgC=>
 OP (bF fE (.bool true) gC) λfw=>
 aN fw
 (OP (ai .sub x7 (.int .u64 (1))) λmN=>
 OP (ai .sub n5 (.int .i64 (1))) λfF=>
 OP (aZ 1 v1 fF) λkn=>
 OP (af false 1 h kn) λiE=>
 OP (dG .u64 iE) λil=>
 OP (ai .add x8 il) λfJ=>
 OP (ai .shr fJ (.int .u64 (32))) λgG=>
 OP (ai .gtr gG (.int .u64 (0))) λjT=>
 aN jT
 (yH P K u0 v1 n5 mN h)
 (([u0,v1,n5]:List Value)=[u0,v1,n5]/\L1 [mN,fJ] h))
 (yH P K u0 v1 n5 x7 h))
 (OP (bF fE (.bool true) undef) λfw=>
 aN fw
 (OP (ai .sub x7 (.int .u64 (1))) λmN=>
 OP (ai .sub n5 (.int .i64 (1))) λfF=>
 OP (aZ 1 v1 fF) λkn=>
 OP (af false 1 h kn) λiE=>
 OP (dG .u64 iE) λil=>
 OP (ai .add x8 il) λfJ=>
 OP (ai .shr fJ (.int .u64 (32))) λgG=>
 OP (ai .gtr gG (.int .u64 (0))) λjT=>
 aN jT
 (yH P K u0 v1 n5 mN h)
 (([u0,v1,n5]:List Value)=[u0,v1,n5]/\L1 [mN,fJ] h))
 (yH P K u0 v1 n5 x7 h))):=az (by kernel_rfl)
theorem aFX (u0 v1 n5 x7 lQ:Value) (L1:LQ) (x9 ay eB:Value) (h:ae):amS P K u0 v1 n5 x7 lQ L1 [x9,ay,eB] h=
 (OP (ai .lss eB lQ) λtX=>
 aN tX
 (OP (aZ 1 v1 eB) λlR=>
 OP (af false 1 h lR) λiU=>
 OP (dG .u64 iU) λmO=>
 OP (ai .mul x7 mO) λpa=>
 OP (ai .add pa x9) λyX=>
 OP (ai .shr yX (.int .u64 (32))) λoh=>
 OP (aZ 1 u0 eB) λqy=>
 OP (af false 1 h qy) λBx=>
 OP (dG .u32 yX) λqz=>
 ak P 134 [Bx,qz,ay] h λtW z1=>
 OP (cD 0 tW) λyU=>
 OP (cD 1 tW) λYy=>
 OP (aZ 1 u0 eB) λxo=>
 OH (aG 1 z1 xo yU) λ_ z2=>
 OP (ai .add eB (.int .i64 (1))) λGP=>
 ([u0,v1,n5,x7,lQ]:List Value)=[u0,v1,n5,x7,lQ]/\L1 [oh,Yy,GP] z2)
 (amT P K u0 v1 n5 x7 x9 ay h)):=az (by kernel_rfl)
theorem aFZ (u0 v1 n5 x7 mM:Value) (L1:LQ) (aB xq:Value) (h:ae):VP P K u0 v1 n5 x7 mM L1 [aB,xq] h=
 (OP (ai .lss xq mM) λNh=>
 aN Nh
 (OP (aZ 1 u0 xq) λYC=>
 OP (af false 1 h YC) λYD=>
 (True)/\
 OP (aZ 1 v1 xq) λYE=>
 OP (af false 1 h YE) λvD=>
 (True)/\
 ak P 133 [YD,vD,aB] h λNi z1=>
 (True)/\
 OP (cD 0 Ni) λYF=>
 OP (cD 1 Ni) λBy=>
 OP (aZ 1 u0 xq) λYG=>
 OH (aG 1 z1 YG YF) λ_ z2=>
 (True)/\
 OP (ai .add xq (.int .i64 (1))) λYH=>
 ([u0,v1,n5,x7,mM]:List Value)=[u0,v1,n5,x7,mM]/\L1 [By,YH] z2)
 (amU P K u0 n5 x7 aB h)):=az (by kernel_rfl)
theorem aF0:amU P K u0 n5 x7 aB h=
 (OP (aZ 1 u0 n5) λYI=>
 OP (af false 1 h YI) λYJ=>
 OP (ai .add YJ aB) λaKK=>
 OP (aZ 1 u0 n5) λaKL=>
 OH (aG 1 h aKL aKK) λ_ z1=>
 F5 P K x7 z1):=az (by kernel_rfl)
theorem aF1:F5 P K x7 h=
 (OP (dG .u32 x7) λaKM=>
 K aKM h):=az (by kernel_rfl)
theorem aFY:amT P K u0 v1 n5 x7 x9 ay h=
 (OP (aZ 1 u0 n5) λGS=>
 OP (af false 1 h GS) λsF=>
 OP (dG .u32 x9) λYz=>
 ak P 134 [sF,Yz,ay] h λyW z1=>
 OP (cD 0 yW) λGU=>
 OP (cD 1 yW) λGV=>
 OP (aZ 1 u0 n5) λGW=>
 OH (aG 1 z1 GW GU) λ_ z2=>
 OP (ai .gtr GV (.int .u32 (0))) λYA=>
 aN YA
 (OP (ai .sub x7 (.int .u64 (1))) λxp=>
 OP (bk v1) λmM=>
 cO [(.int .u32 (0)),(.int .i64 (0))] z2 λL1 xs hx=>
 VP P K u0 v1 n5 xp mM L1 xs hx)
 (F5 P K x7 z2)):=az (by kernel_rfl)
theorem aFW:yH P K u0 v1 n5 x7 h=
 (OP (bk v1) λlQ=>
 cO [(.int .u64 (0)),(.int .u32 (0)),(.int .i64 (0))] h λL1 xs hx=>
 amS P K u0 v1 n5 x7 lQ L1 xs hx):=az (by kernel_rfl)
def Ph:Prop:=
 OP (bk v1) λaL=>
 OP (aZ 1 u0 aL) λaK=>
 OP (af false 1 h aK) λaU=>
 (True)/\
 OP (dG .u64 aU) λba=>
 OP (ai .shl ba (.int .u64 (32))) λbO=>
 OP (ai .sub aL (.int .i64 (1))) λbX=>
 OP (aZ 1 u0 bX) λcV=>
 OP (af false 1 h cV) λb9=>
 (True)/\
 OP (dG .u64 b9) λcG=>
 OP (ai .or bO cG) λcM=>
 OP (ai .sub aL (.int .i64 (1))) λdK=>
 OP (aZ 1 v1 dK) λcK=>
 OP (af false 1 h cK) λdw=>
 (True)/\
 OP (dG .u64 dw) λdc=>
 OP (ai .quo cM dc) λer=>
 OP (ai .sub aL (.int .i64 (1))) λdW=>
 OP (aZ 1 v1 dW) λeO=>
 OP (af false 1 h eO) λcj=>
 (True)/\
 OP (dG .u64 cj) λbu=>
 OP (ai .rem cM bu) λcS=>
 cO [er,cS] h λL1 xs hx=>
 amV P K u0 v1 aL L1 xs hx
theorem azZ:aj P IF (aT [.tmp 4] K) (bw [u0,v1]) h=Ph P K u0 v1 h:=by kernel_rfl
theorem f137 {K:VK} {u0 v1:Value} {h:ae} (H:Ph prog K u0 v1 h):ak prog 137 [u0,v1] h K:=
 bN aDB (bJ rfl) ((azZ prog K u0 v1 h).mpr H)
end
noncomputable section
variable (x0 n1 x5 i6 t7 aD aB : Value) (L1 : LQ) (xs : List Value) (h : ae)
def akJ:=bE prog 138 [[],[],[],[0,1,5,12],[13],[],[],[],[],[],[0,1,5,6,7,12,13],[0,1,5,12,13],[5],[]]
@[irreducible] def IH:=bM akJ
@[irreducible] def QW:=IH.r.r.l.r.l.l
@[irreducible] def ac0:=IH.r.r.r
@[irreducible] def awq:=QW.r.r.l.l.r.r.r.l
@[irreducible] def ac1:=QW.r.r.r
@[irreducible] def aws:=ac0.l
@[irreducible] def awr:=ac1.l
theorem aDC:akJ=some (45,IH,[.tmp 4]):=by kernel_rfl
def N8 (_P:Program) (K:VK):ar:=aT [.tmp 4] K
def asY:ar:=aH (aj P ac0 (N8 P K)) (N8 P K)
def asZ:ar:=bH 0 (asY P K)
def Hn:ar:=aH (λf' aX=>(([0,1,5,12]:List Nat).map f':List Value)=[x0,n1,x5,aD]/\L1 (([13]:List Nat).map f') aX) (asZ P K)
def as0:ar:=aH (aj P ac1 (Hn P K x0 n1 x5 aD L1)) (Hn P K x0 n1 x5 aD L1)
def asX:ar:=bH 1 (as0 P K x0 n1 x5 aD L1)
def amY:Prop:=ax (aj P QW (Hn P K x0 n1 x5 aD L1)) ([0,1,5,12]++[13]) ([x0,n1,x5,aD]++xs) h
def LJ:Prop:=ax (aj P awq (asX P K x0 n1 x5 aD L1)) [0,1,5,6,7,12,13] [x0,n1,x5,i6,t7,aD,aB] h
def amW:Prop:=ax (aj P awr (Hn P K x0 n1 x5 aD L1)) [0,1,5,12,13] [x0,n1,x5,aD,aB] h
def amX:Prop:=ax (aj P aws (N8 P K)) [5] [x5] h
theorem aF3:LJ P K x0 n1 x5 i6 t7 aD aB L1 h=
 (OP (ai .shr t7 n1) λeY=>
 OP (dG .u32 eY) λeJ=>
 OP (aZ 1 x5 i6) λdW=>
 OH (aG 1 h dW eJ) λ_ z1=>
 amW P K x0 n1 x5 aD aB L1 z1):=az (by kernel_rfl)
theorem aF4:amW P K x0 n1 x5 aD aB L1 h=
 (OP (ai .add aB (.int .i64 (1))) λeO=>
 ([x0,n1,x5,aD]:List Value)=[x0,n1,x5,aD]/\L1 [eO] h):=az (by kernel_rfl)
theorem aF6 (x0 n1 x5 aD:Value) (L1:LQ) (aB:Value) (h:ae):amY P K x0 n1 x5 aD L1 [aB] h=
 (OP (ai .lss aB aD) λaA=>
 aN aA
 (OP (aZ 1 x0 aB) λaS=>
 OP (af false 1 h aS) λaK=>
 OP (dG .u64 aK) λaU=>
 OP (ai .add aB (.int .i64 (1))) λbO=>
 OP (bk x0) λbL=>
 OP (ai .lss bO bL) λbX=>
 aN bX
 (OP (ai .add aB (.int .i64 (1))) λcM=>
 OP (aZ 1 x0 cM) λdm=>
 OP (af false 1 h dm) λcC=>
 OP (dG .u64 cC) λbV=>
 OP (ai .shl bV (.int .u64 (32))) λdK=>
 OP (ai .or aU dK) λcK=>
 LJ P K x0 n1 x5 aB cK aD aB L1 h)
 (LJ P K x0 n1 x5 aB aU aD aB L1 h))
 (amX P K x5 h)):=az (by kernel_rfl)
theorem aF5:amX P K x5 h=
 (ak P 118 [x5] h λbu z1=>
 K bu z1):=az (by kernel_rfl)
def Pj:Prop:=
 OP (bk x0) λx9=>
 OH (lI 177 4 [(.int .u32 (0))] h x9 x9) λay z1=>
 OP (bk x0) λaD=>
 cO [(.int .i64 (0))] z1 λL1 xs hx=>
 amY P K x0 n1 ay aD L1 xs hx
theorem az0:aj P IH (aT [.tmp 4] K) (bw [x0,n1]) h=Pj P K x0 n1 h:=by kernel_rfl
theorem f138 {K:VK} {x0 n1:Value} {h:ae} (H:Pj prog K x0 n1 h):ak prog 138 [x0,n1] h K:=
 bN aDC (bJ rfl) ((az0 prog K x0 n1 h).mpr H)
end
noncomputable section
variable (x0 n2 : Value) (h : ae)
def akM:=bE prog 141 [[],[],[],[0,2],[],[],[0,2],[]]
@[irreducible] def Q1:=bM akM
@[irreducible] def adk:=Q1.r.r.l
@[irreducible] def awI:=adk.r.l
theorem aDF:akM=some (19,Q1,[.tmp 2]):=by kernel_rfl
def aag (_P:Program) (K:VK):ar:=aT [.tmp 2] K
def LO:Prop:=ax (aj P adk (aag P K)) [0,2] [x0,n2] h
def LP:Prop:=ax (aj P awI (aag P K)) [0,2] [x0,n2] h
theorem aGn:LP P K x0 n2 h=
 (OP (dG .u8 x0) λaP=>
 OP (j6 (.string ⟨#[0,1,2,2,3,3,3,3,4,4,4,4,4,4,4,4,5,5,5,5,5,5,5,5,5,5,5,5,5,5,5,5,6,6,6,6,6,6,6,6,6,6,6,6,6,6,6,6,6,6,6,6,6,6,6,6,6,6,6,6,6,6,6,6,7,7,7,7,7,7,7,7,7,7,7,7,7,7,7,7,7,7,7,7,7,7,7,7,7,7,7,7,7,7,7,7,7,7,7,7,7,7,7,7,7,7,7,7,7,7,7,7,7,7,7,7,7,7,7,7,7,7,7,7,7,7,7,7,8,8,8,8,8,8,8,8,8,8,8,8,8,8,8,8,8,8,8,8,8,8,8,8,8,8,8,8,8,8,8,8,8,8,8,8,8,8,8,8,8,8,8,8,8,8,8,8,8,8,8,8,8,8,8,8,8,8,8,8,8,8,8,8,8,8,8,8,8,8,8,8,8,8,8,8,8,8,8,8,8,8,8,8,8,8,8,8,8,8,8,8,8,8,8,8,8,8,8,8,8,8,8,8,8,8,8,8,8,8,8,8,8,8,8,8,8,8,8,8,8,8,8,8,8,8,8,8]⟩) aP) λaL=>
 OP (dG .i64 aL) λbK=>
 OP (ai .add n2 bK) λaS=>
 K aS h):=az (by kernel_rfl)
theorem aGm:LO P K x0 n2 h=
 (OP (ai .geq x0 (.int .u32 (256))) λx8=>
 aN x8
 (OP (ai .shr x0 (.int .u64 (8))) λay=>
 OP (ai .add n2 (.int .i64 (8))) λaD=>
 LP P K ay aD h)
 (LP P K x0 n2 h)):=az (by kernel_rfl)
def Pm:Prop:=
 OP (ai .geq x0 (.int .u32 (65536))) λx4=>
 aN x4
 (OP (ai .shr x0 (.int .u64 (16))) λx6=>
 LO P K x6 (.int .i64 (16)) h)
 (LO P K x0 (.int .i64 (0)) h)
theorem az3:aj P Q1 (aT [.tmp 2] K) (bw [x0]) h=Pm P K x0 h:=by kernel_rfl
theorem f141 {K:VK} {x0:Value} {h:ae} (H:Pm prog K x0 h):ak prog 141 [x0] h K:=
 bN aDF (bJ rfl) ((az3 prog K x0 h).mpr H)
end
end
section
def wv (us:List Nat):List Value:=us.map λd:Nat=>Value.int .u32 (d:Int)
theorem aqT (us:List Nat):(wv us).length=us.length:=by simp [wv]
theorem rH {e:TypeId} {id o n k:Nat} (hk:k<n):aZ 1 (sl e id o n) (I k)=some (pt id (o+k)):=by
 have:(0:Int)<=(k:Int)/\(k:Int)<(n:Int):=by omega
 simp [sl,aZ,this]
theorem Ei {g:ae} {iv id:Nat} {o:aq} (h:iv≠id):aW (g.set id o) iv=aW g iv:=by
 unfold aW
 rw [getElem?_set_ne h.symm]
theorem DY {g:ae} {id k d:Nat} {us:List Nat} {rest:List Value} (hg:aW g id=some (wv us++rest)) (hk:us[k]?=some d):af false 1 g (pt id k)=some (.int .u32 (d:Int)):=by
 have aF:=(bz hk).1
 have:(wv us++rest)[k]?=some (.int .u32 (d:Int)):=by
  rw [List.getElem?_append_left (by rw [aqT];exact aF)]
  simp [wv,hk]
 simp [af,hg,cP,this]
theorem zE {g:ae} {id k d:Nat} {us:List Nat} (hg:g[id]?=some (.arr 177 (wv us))) (hk:us[k]?=some d):af false 1 g (pt id k)=some (.int .u32 (d:Int)):=
 DY (rest:=[]) (by rw [List.append_nil];simp [aW,hg]) hk
theorem DZ {g:ae} {id k:Nat} (d:Nat) {us:List Nat} (hg:g[id]?=some (.arr 177 (wv us))) (hk:k<us.length):aG 1 g (pt id k) (.int .u32 (d:Int))=some (undef,g.set id (.arr 177 (wv (us.set k d)))):=by
 rw [qx hg (by rw [aqT];exact hk) rfl rfl]
 congr 3
 simp [wv,List.map_set]
theorem aIK {a b:Nat} (hb:b≠0) (_:a<18446744073709551616):ai .rem (.int .u64 (a:Int)) (.int .u64 (b:Int))=some (.int .u64 ((a%b:Nat):Int)):=by
 have h:¬((b:Int)=0):=by omega
 have h2:a%b<=a:=Nat.mod_le _ _
 simp only [ai,iX,if_true,if_neg h]
 have e:(a:Int).tmod (b:Int)=((a%b:Nat):Int):=rfl
 rw [e]
theorem uu {d:Nat} (h:d<4294967296):dG .u64 (.int .u32 (d:Int))=some (.int .u64 (d:Int)):=by rw [kZ,lP (by omega) (by omega)]
theorem ajL {a b:Nat} (h:a*b<18446744073709551616):ai .mul (.int .u64 (a:Int)) (.int .u64 (b:Int))=some (.int .u64 ((a*b:Nat):Int)):=by
 rw [xN,<-Int.natCast_mul,lP (by omega) (by omega)]
theorem abq {a b:Nat} (h:a+b<18446744073709551616):ai .add (.int .u64 (a:Int)) (.int .u64 (b:Int))=some (.int .u64 ((a+b:Nat):Int)):=by
 rw [cL,<-Int.natCast_add,lP (by omega) (by omega)]
theorem afX {a:Nat} (h:0<a) (h2:a<18446744073709551616):ai .sub (.int .u64 (a:Int)) (.int .u64 1)=some (.int .u64 ((a-1:Nat):Int)):=by
 rw [gE,show (a:Int)-1=((a-1:Nat):Int) by omega,lP (by omega) (by omega)]
theorem Em (t:Nat):dG .u32 (.int .u64 (t:Int))=some (.int .u32 ((t%4294967296:Nat):Int)):=by rw [kZ,yP];congr 2
theorem Zc {x y b:Nat} {h:ae} {K:Value->ae->Prop} (hx:x<4294967296) (hy:y<4294967296) (hb:b<=1)
  (hk:∀d b':Nat,d<4294967296->b'<=1->d+y+b=x+b'*4294967296->K (.tuple #[.int .u32 (d:Int),.int .u32 (b':Int)]) h):ak prog 134 [.int .u32 (x:Int),.int .u32 (y:Int),.int .u32 (b:Int)] h K:=by
 refine Zb hx hy hb (hk _ _ ?_ ?_ ?_)
 ·exact mod_lt _ (by decide)
 ·split <;> omega
 ·split <;> omega
theorem aDM {P X V Y x c a b:Nat} (h:Y+c*P=X+V) (e:4294967296*a+b=x+c) (ha:a=0∨a=1):Y+P*b+P*4294967296=X+P*x+V∨Y+P*b=X+P*x+V:=by
 have e1:P*(4294967296*a+b)=P*(x+c):=by rw [e]
 rcases ha with rfl | rfl
 ·right;grind
 ·left;grind
section
variable {h : ae} {K : Value -> ae -> Prop} {id iv j m : Nat} {us vs ud : List Nat} {rest : List Value}
theorem ari {g:ae} {q:Value} {xs:List Nat} (kg:g[id]?=some (.arr 177 (wv us))) (kv:aW g iv=some (wv vs++rest)) (bt:iv≠id) (hn:vs.length=m+2) (hm:m<=1000) (hx:xs.length=m+3) (hj:j+(m+3)<=us.length)
  (hu:∀k,k<=m+2->us[j+k]?=xs[k]?) (lx:cN 4294967296 xs) (lv:cN 4294967296 vs)
  (hk:∀ys,ys.length=m+3->cN 4294967296 ys->(val 4294967296 ys+4294967296^(m+3)=val 4294967296 xs+val 4294967296 vs∨val 4294967296 ys=val 4294967296 xs+val 4294967296 vs)->
   F5 prog K q (g.set id (.arr 177 (wv (mid us j ys))))):
  cO [(.int .u32 (0)),(.int .i64 (0))] g λL1 xs hx=>VP prog K (sl 177 id j (m+3)) (sl 177 iv 0 (m+2)) (I (m+2:Nat)) q (I (m+2:Nat)) L1 xs hx:=by
 refine dF (σ:=List Nat×Nat) (λp=>[.int .u32 (p.2:Int),I p.1.length]) (λp=>g.set id (.arr 177 (wv (mid us j p.1))))
  (λp=>p.1.length<=m+2/\cN 4294967296 p.1/\p.2<=1/\val 4294967296 p.1+p.2*4294967296^p.1.length=val 4294967296 (xs.take p.1.length)+val 4294967296 (vs.take p.1.length)) (λp=>m+2-p.1.length)
  ([],0) rfl (by rw [ajE];exact (List.ext_getElem? λi=>by
   rw [List.getElem?_set]
   split
   ·rename_i e;subst e
    rw [kg,if_pos (bz kg).1]
   ·rfl)) ⟨zero_le _,λy hy=>by simp at hy,zero_le _,by simp [val]⟩ ?_
 rintro ⟨ys,c⟩ ⟨kP,ly,hc,cf⟩ L hL
 simp only at kP ly hc cf hL⊢
 have wM:(g.set id (.arr 177 (wv (mid us j ys))))[id]?=some (.arr 177 (wv (mid us j ys))):=cJ kg
 have Uz:aW (g.set id (.arr 177 (wv (mid us j ys)))) iv=some (wv vs++rest):=by rw [Ei bt];exact kv
 rw [aFZ]
 simp only [cW,ah,bQ]
 have Fk:∀k,ys.length<=k->k<=m+2->(mid us j ys)[j+k]?=xs[k]?:=λk h1 h2=>by rw [ajD (by omega) h1,hu k h2]
 refine ⟨λaF=>?_,λcU=>?_⟩
 ·have hy:ys.length<m+2:=by omega
  have yB:xs[ys.length]?=some (xs[ys.length]'(by omega)):=getElem?_eq_getElem (by omega)
  have TU:vs[ys.length]?=some (vs[ys.length]'(by omega)):=getElem?_eq_getElem (by omega)
  have bx:=lx _ (getElem_mem (l:=xs) (n:=ys.length) (by omega))
  have bv:=lv _ (getElem_mem (l:=vs) (n:=ys.length) (by omega))
  have tx:=jK 4294967296 xs (i:=ys.length) (by omega)
  have tv:=jK 4294967296 vs (i:=ys.length) (by omega)
  generalize xs[ys.length]'(by omega)=x at*
  generalize vs[ys.length]'(by omega)=v at*
  have ld:=zE wM ((Fk _ (le_refl _) (by omega)).trans yB)
  have FJ:=DY Uz TU
  simp only [rH (show ys.length<m+3 by omega),rH (show ys.length<m+2 by omega),zero_add,ah,ld,FJ,true_and]
  refine Za bx bv hc ?_
  simp only [eR,fv,fz,ah]
  rw [DZ _ wM (by rw [CR (by omega)];omega),Lg (by omega),set_set]
  have:=hL (ys++[(x+v+c)%4294967296],(x+v+c) / 4294967296) ⟨by simp;omega,ly.append (λy hy=>by simp at hy;omega),by show (x+v+c) / 4294967296<=1;omega,by
   simp only [length_append,length_cons,length_nil,zero_add]
   rw [og,tx,tv,pow_succ]
   simp only [val,mul_zero,add_zero]
   have mG:=div_add_mod (x+v+c) 4294967296
   generalize (x+v+c) / 4294967296=a at*
   generalize (x+v+c)%4294967296=b at*
   generalize 4294967296^ys.length=P at*
   have:P*(4294967296*a+b)=P*(x+v+c):=by rw [mG]
   grind⟩ (by simp;omega)
  simp only [aE,cL,ft ys.length (by omega),ah]
  simpa using this
 ·have hy:ys.length=m+2:=by omega
  have yB:xs[m+2]?=some (xs[m+2]'(by omega)):=getElem?_eq_getElem (by omega)
  have bx:=lx _ (getElem_mem (l:=xs) (n:=m+2) (by omega))
  have tx:=jK 4294967296 xs (i:=m+2) (by omega)
  rw [take_of_length_le (by omega)] at tx
  generalize xs[m+2]'(by omega)=x at*
  have ld:=zE wM ((Fk (m+2) (by omega) (by omega)).trans yB)
  rw [aF0]
  have ea:ai .add (.int .u32 (x:Int)) (.int .u32 (c:Int))=some (.int .u32 (((x+c)%4294967296:Nat):Int)):=by
   rw [cL,<-Int.natCast_add,yP];congr 2
  simp only [rH (show m+2<m+3 by omega),ah,ld,ea]
  have mH:=Lg (us:=us) (j:=j) (d:=(x+c)%4294967296) (xs:=ys) (by omega)
  rw [hy] at mH
  rw [DZ _ wM (by rw [CR (by omega)];omega),mH,set_set]
  simp only [aE]
  rw [hy,take_of_length_le (by omega:vs.length<=m+2)] at cf
  refine hk _ (by simp;omega) (ly.append (λy hy=>by simp at hy;omega)) ?_
  rw [og,hy,tx]
  simp only [val,mul_zero,add_zero]
  have mG:=div_add_mod (x+c) 4294967296
  have h01:(x+c) / 4294967296<=1:=by omega
  rw [pow_succ]
  exact aDM cf mG (by omega)
theorem aET (B m:Nat):B^(m+3)=B^(m+2)*B:=pow_succ ..
theorem aJ4 {P A X V g v x carry borrow y c' x' b':Nat} (h:X+g*V=A+(carry+borrow)*P) (e:4294967296*c'+y=g*v+carry) (s:x'+y+borrow=x+b'*4294967296):
  X+P*x'+g*(V+P*v)=A+P*x+(c'+b')*(P*4294967296):=by
 have e1:P*(4294967296*c'+y)=P*(g*v+carry):=by rw [e]
 have e2:P*(x'+y+borrow)=P*(x+b'*4294967296):=by rw [s]
 grind
theorem aJ5 {P A X V g x carry borrow x' b':Nat} (h:X+g*V=A+(carry+borrow)*P) (s:x'+carry+borrow=x+b'*4294967296):X+P*x'+g*V=A+P*x+b'*(P*4294967296):=by
 have e2:P*(x'+carry+borrow)=P*(x+b'*4294967296):=by rw [s]
 grind
theorem Ze {gs:Nat} (kg:h[id]?=some (.arr 177 (wv us))) (kv:aW h iv=some (wv vs++rest)) (bt:iv≠id) (hn:vs.length=m+2) (hm:m<=1000) (hx:ud.length=m+3) (hj:j+(m+3)<=us.length)
  (hu:∀k,k<=m+2->us[j+k]?=ud[k]?) (lu:cN 4294967296 ud) (lv:cN 4294967296 vs) (pZ:gs<4294967296) (h1:val 4294967296 ud / val 4294967296 vs<=gs) (h2:gs*val 4294967296 vs<val 4294967296 ud+val 4294967296 vs) (V0:0<val 4294967296 vs)
  (hk:∀rs,rs.length=m+3->cN 4294967296 rs->val 4294967296 rs=val 4294967296 ud%val 4294967296 vs->K (.int .u32 ((val 4294967296 ud / val 4294967296 vs:Nat):Int)) (h.set id (.arr 177 (wv (mid us j rs))))):
  yH prog K (sl 177 id j (m+3)) (sl 177 iv 0 (m+2)) (I (m+2:Nat)) (.int .u64 (gs:Int)) h:=by
 have mH:h=h.set id (.arr 177 (wv us)):=List.ext_getElem? λi=>by
  rw [List.getElem?_set]
  split
  ·rename_i e;subst e
   rw [kg,if_pos (bz kg).1]
  ·rfl
 have Ld:bk (sl 177 iv 0 (m+2))=some (I (m+2:Nat)):=rfl
 rw [aFW]
 simp only [Ld,ah]
 refine dF (σ:=List Nat×Nat×Nat) (λp=>[.int .u64 (p.2.1:Int),.int .u32 (p.2.2:Int),I p.1.length]) (λp=>h.set id (.arr 177 (wv (mid us j p.1))))
  (λp=>p.1.length<=m+2/\cN 4294967296 p.1/\p.2.1<4294967296/\p.2.2<=1/\val 4294967296 p.1+gs*val 4294967296 (vs.take p.1.length)=val 4294967296 (ud.take p.1.length)+(p.2.1+p.2.2)*4294967296^p.1.length) (λp=>m+2-p.1.length)
  ([],0,0) rfl (by rw [ajE];exact mH.symm) ⟨zero_le _,λy hy=>by simp at hy,by decide,zero_le _,by simp [val]⟩ ?_
 rintro ⟨xs,c,bo⟩ ⟨iP,lx,hc,SR,cf⟩ L hL
 simp only at iP lx hc SR cf hL⊢
 have wM:(h.set id (.arr 177 (wv (mid us j xs))))[id]?=some (.arr 177 (wv (mid us j xs))):=cJ kg
 have Uz:aW (h.set id (.arr 177 (wv (mid us j xs)))) iv=some (wv vs++rest):=by rw [Ei bt];exact kv
 have Fk:∀k,xs.length<=k->k<=m+2->(mid us j xs)[j+k]?=ud[k]?:=λk h1 h2=>by rw [ajD (by omega) h1,hu k h2]
 rw [aFX]
 simp only [cW,ah,bQ]
 refine ⟨λaF=>?_,λcU=>?_⟩
 ·have hy:xs.length<m+2:=by omega
  have TQ:ud[xs.length]?=some (ud[xs.length]'(by omega)):=getElem?_eq_getElem (by omega)
  have TU:vs[xs.length]?=some (vs[xs.length]'(by omega)):=getElem?_eq_getElem (by omega)
  have bx:=lu _ (getElem_mem (l:=ud) (n:=xs.length) (by omega))
  have bv:=lv _ (getElem_mem (l:=vs) (n:=xs.length) (by omega))
  have tx:=jK 4294967296 ud (i:=xs.length) (by omega)
  have tv:=jK 4294967296 vs (i:=xs.length) (by omega)
  generalize ud[xs.length]'(by omega)=x at*
  generalize vs[xs.length]'(by omega)=v at*
  have ld:=zE wM ((Fk _ (le_refl _) (by omega)).trans TQ)
  have FJ:=DY Uz TU
  have hgv:=Lk pZ bv
  simp only [rH (show xs.length<m+3 by omega),rH (show xs.length<m+2 by omega),zero_add,ah,ld,FJ,uu bv,ajL (show gs*v<18446744073709551616 by omega),abq (show gs*v+c<18446744073709551616 by omega),Bq,Em]
  have mG:=div_add_mod (gs*v+c) 4294967296
  have hym:(gs*v+c)%4294967296<4294967296:=mod_lt _ (by decide)
  have hyd:(gs*v+c) / 4294967296<4294967296:=by omega
  refine Zc bx hym SR ?_
  intro d b2 hd EM ye
  simp only [eR,fv,fz,ah]
  rw [DZ _ wM (by rw [CR (by omega)];omega),Lg (by omega),set_set]
  generalize (gs*v+c) / 4294967296=c2 at*
  generalize (gs*v+c)%4294967296=y at*
  have:=hL (xs++[d],c2,b2) ⟨by simp;omega,lx.append (λz hz=>by simp at hz;omega),hyd,EM,by
   simp only [length_append,length_cons,length_nil,zero_add]
   rw [og,tx,tv,pow_succ]
   simp only [val,mul_zero,add_zero]
   exact aJ4 cf mG ye⟩ (by simp;omega)
  simp only [aE,cL,ft xs.length (by omega),ah,true_and]
  simpa using this
 ·have hy:xs.length=m+2:=by omega
  have TQ:ud[m+2]?=some (ud[m+2]'(by omega)):=getElem?_eq_getElem (by omega)
  have bx:=lu _ (getElem_mem (l:=ud) (n:=m+2) (by omega))
  have tx:=jK 4294967296 ud (i:=m+2) (by omega)
  rw [take_of_length_le (by omega)] at tx
  generalize ud[m+2]'(by omega)=x at*
  have ld:=zE wM ((Fk (m+2) (by omega) (by omega)).trans TQ)
  rw [aFY]
  simp only [rH (show m+2<m+3 by omega),ah,ld,Em,mod_eq_of_lt hc]
  refine Zc bx hc SR ?_
  intro d b2 hd EM ye
  simp only [eR,fv,fz,ah]
  have ah7:=Lg (us:=us) (j:=j) (d:=d) (xs:=xs) (by omega)
  rw [hy] at ah7
  rw [DZ _ wM (by rw [CR (by omega)];omega),ah7,set_set]
  simp only [aE]
  rw [hy,take_of_length_le (by omega:vs.length<=m+2)] at cf
  have UU:cN 4294967296 (xs++[d]):=lx.append (λz hz=>by simp at hz;omega)
  have nU:(xs++[d]).length=m+3:=by simp;omega
  have rZ:val 4294967296 (xs++[d])+gs*val 4294967296 vs=val 4294967296 ud+b2*4294967296^(m+3):=by
   rw [og,hy,tx]
   simp only [val,mul_zero,add_zero]
   rw [aET]
   exact aJ5 cf ye
  generalize xs++[d]=xn at*
  have aLd:=div_add_mod (val 4294967296 ud) (val 4294967296 vs)
  have wj:=mod_lt (val 4294967296 ud) V0
  have yA:=nJ UU
  rw [nU] at yA
  generalize hQ:val 4294967296 ud / val 4294967296 vs=Q at*
  generalize hR:val 4294967296 ud%val 4294967296 vs=R at*
  have Tx:Q<4294967296:=by omega
  have JJ:∀{a:Nat} {g:ae},a<4294967296->K (.int .u32 (a:Int)) g->F5 prog K (.int .u64 (a:Int)) g:=by
   intro a g ha hK
   rw [aF1,Em,ah,mod_eq_of_lt ha]
   exact hK
  rcases (show b2=1∨b2=0 by omega) with rfl | rfl
  ·skip
   have hgV:val 4294967296 ud<gs*val 4294967296 vs:=by omega
   have Kn:gs=Q+1:=by
    have:gs<Q+2:=by
     apply byContradiction
     intro hn
     have h3:(Q+2)*val 4294967296 vs<=gs*val 4294967296 vs:=mul_le_mul_right _ (by omega)
     rw [add_mul,mul_comm Q] at h3
     omega
    have h4:gs≠Q:=by
     intro e
     rw [e,mul_comm] at hgV
     omega
    omega
   have bg:ai .gtr (.int .u32 ((1:Nat):Int)) (.int .u32 0)=some (B true):=rfl
   simp only [bg,ah,dA,afX (show 0<gs by omega) (show gs<18446744073709551616 by omega),Ld]
   refine ari (us:=mid us j xn) (xs:=xn) (cJ kg) (by rw [Ei bt];exact kv) bt hn hm nU (by rw [CR (by omega)];omega) (λk hk=>aEa (by omega) (by omega)) UU lv ?_
   intro ys kP ly AM
   rw [set_set,aD9 (by omega) (by omega)]
   have q9:=nJ ly
   rw [kP] at q9
   have Tq:gs*val 4294967296 vs=val 4294967296 vs*(Q)+val 4294967296 vs:=by rw [Kn,add_mul,mul_comm Q];omega
   have hyr:val 4294967296 ys=R:=by
    rw [Nat.one_mul] at rZ
    rcases AM with AM | AM <;> omega
   rw [show gs-1=Q by omega]
   exact JJ Tx (hk ys kP ly hyr)
  ·have Kn:gs=Q:=by
    have:gs<=Q:=by rw [<-hQ];exact (Nat.le_div_iff_mul_le V0).2 (by omega)
    omega
   have bg:ai .gtr (.int .u32 ((0:Nat):Int)) (.int .u32 0)=some (B false):=rfl
   simp only [bg,ah,dD]
   have hxr:val 4294967296 xn=R:=by
    rw [Kn,mul_comm] at rZ
    omega
   rw [Kn]
   exact JJ Tx (hk xn nU UU hxr)
end
end
section
theorem aAV (a b:Nat):ai .gtr (.int .u64 (a:Int)) (.int .u64 (b:Int))=some (B (decide (b<a))):=by
 rw [fQ];congr 2;rw [decide_eq_decide];omega
theorem aht {a:Nat}:ai .gtr (.int .u64 ((a / 4294967296:Nat):Int)) (.int .u64 0)=some (B (decide (4294967296<=a))):=by
 rw [fQ];congr 2;rw [decide_eq_decide]
 have:4294967296<=a↔0<a / 4294967296:=by omega
 rw [this]
 omega
section
variable {h : ae} {K : Value -> ae -> Prop} {id iv j m : Nat} {us vs ud : List Nat} {rest : List Value}
theorem arh {v1:Nat} (kg:h[id]?=some (.arr 177 (wv us))) (kv:aW h iv=some (wv vs++rest)) (bt:iv≠id) (hn:vs.length=m+2) (hm:m<=1000) (hx:ud.length=m+3) (hj:j+(m+3)<=us.length)
  (hu:∀k,k<=m+2->us[j+k]?=ud[k]?) (lu:cN 4294967296 ud) (lv:cN 4294967296 vs) (nW:vs[m+1]?=some v1) (kj:2147483648<=v1) (uD:val 4294967296 ud<val 4294967296 vs*4294967296)
  (hk:∀rs,rs.length=m+3->cN 4294967296 rs->val 4294967296 rs=val 4294967296 ud%val 4294967296 vs->K (.int .u32 ((val 4294967296 ud / val 4294967296 vs:Nat):Int)) (h.set id (.arr 177 (wv (mid us j rs))))):
  ak prog 137 [sl 177 id j (m+3),sl 177 iv 0 (m+2)] h K:=by
 obtain ⟨ul,rY,eU⟩:=aKt lu hx
 obtain ⟨vl,se,eV⟩:=aKu lv hn
 have hu0:us[j+m]?=some (ud[m]'(by omega)):=by rw [hu m (by omega)];exact getElem?_eq_getElem _
 have hu1:us[j+(m+1)]?=some (ud[m+1]'(by omega)):=by rw [hu (m+1) (by omega)];exact getElem?_eq_getElem _
 have qg:us[j+(m+2)]?=some (ud[m+2]'(by omega)):=by rw [hu (m+2) (by omega)];exact getElem?_eq_getElem _
 have b0:=lu _ (getElem_mem (l:=ud) (n:=m) (by omega))
 have b1:=lu _ (getElem_mem (l:=ud) (n:=m+1) (by omega))
 have b2:=lu _ (getElem_mem (l:=ud) (n:=m+2) (by omega))
 have Fl:vs[m]?=some (vs[m]'(by omega)):=getElem?_eq_getElem _
 have c0:=lv _ (getElem_mem (l:=vs) (n:=m) (by omega))
 have c1:=lv _ (getElem_mem (l:=vs) (n:=m+1) (by omega))
 have e1:vs[m+1]'(by omega)=v1:=by
  rw [getElem?_eq_getElem (by omega)] at nW
  injection nW
 rw [e1] at c1 eV
 generalize ud[m]'(by omega)=t0 at*
 generalize ud[m+1]'(by omega)=t1 at*
 generalize ud[m+2]'(by omega)=t2 at*
 generalize vs[m]'(by omega)=v2 at*
 have hP:0<4294967296^m:=pow_pos (by decide)
 have agm:t1+t2*4294967296=t2*4294967296+t1:=Nat.add_comm ..
 rw [agm] at eU
 have V0:0<val 4294967296 vs:=by
  apply Nat.pos_of_ne_zero
  intro e
  rw [e,Nat.zero_mul] at uD
  omega
 have Fh:=aKi (by decide) eU agm.symm eV se c0 uD
 have aBf:=aAX eU rY b0 eV (by omega)
 have oS:=zE kg hu0
 have qj:=zE kg hu1
 have wO:=zE kg qg
 have lv0:=DY kv Fl
 have A5:=DY kv nW
 have Ld:bk (sl 177 iv 0 (m+2))=some (I (m+2:Nat)):=rfl
 have s1:ai .sub (I (m+2:Nat)) (.int .i64 1)=some (I (m+1:Nat)):=by rw [gE,wrap64 (by omega) (by omega)];congr 2;omega
 have s2:ai .sub (I (m+2:Nat)) (.int .i64 2)=some (I (m:Nat)):=by rw [gE,wrap64 (by omega) (by omega)];congr 2;omega
 have Fi:t2*4294967296+t1<18446744073709551616:=by omega
 refine f137 ?_
 unfold Ph
 simp only [Ld,ah,rH (show m+2<m+3 by omega),wO,true_and,uu b2,MK b2,s1,rH (show m+1<m+3 by omega),qj,uu b1,Lu b2 b1,rH (show m+1<m+2 by omega),zero_add,A5,uu c1,ap2 (show v1≠0 by omega) Fi,aIK (show v1≠0 by omega) Fi]
 generalize tA:t2*4294967296+t1=top at*
 have mG:=div_add_mod top v1
 have wj:=mod_lt top (show 0<v1 by omega)
 have hg0:top / v1<=4294967297:=by
  have:top / v1<4294967298:=by
   rw [Nat.div_lt_iff_lt_mul (by omega)]
   omega
  omega
 refine dF (σ:=Nat×Nat) (λp=>[.int .u64 (p.1:Int),.int .u64 (p.2:Int)]) (λ_=>h) (λp=>p.1*v1+p.2=top/\p.2<4294967296/\p.1<=4294967297/\val 4294967296 ud / val 4294967296 vs<=p.1) (λp=>4294967296-p.2)
  (top / v1,top%v1) rfl rfl ⟨by show top / v1*v1+top%v1=top;rw [mul_comm];exact mG,by show top%v1<4294967296;omega,hg0,aBf⟩ ?_
 rintro ⟨g,r⟩ ⟨Tb,hr,hg,hq⟩ L hL
 simp only at Tb hr hg hq hL⊢
 have down:(4294967296<=g∨r*4294967296+t0<g*v2)->(OP (ai .sub (.int .u64 (g:Int)) (.int .u64 (1))) λmN=>
   OP (ai .sub (I (m+2:Nat)) (.int .i64 (1))) λfF=>
   OP (aZ 1 (sl 177 iv 0 (m+2)) fF) λkn=>
   OP (af false 1 h kn) λiE=>
   OP (dG .u64 iE) λil=>
   OP (ai .add (.int .u64 (r:Int)) il) λfJ=>
   OP (ai .shr fJ (.int .u64 (32))) λgG=>
   OP (ai .gtr gG (.int .u64 (0))) λjT=>
   aN jT
    (yH prog K (sl 177 id j (m+3)) (sl 177 iv 0 (m+2)) (I (m+2:Nat)) mN h)
    (([sl 177 id j (m+3),sl 177 iv 0 (m+2),I (m+2:Nat)]:List Value)=[sl 177 id j (m+3),sl 177 iv 0 (m+2),I (m+2:Nat)]/\L [mN,fJ] h)):=by
  intro pW
  have hd:=aAW eU rY eV uD Tb hq pW
  have iN:0<g:=by generalize val 4294967296 ud / val 4294967296 vs=Q at*;omega
  have hq1:val 4294967296 ud / val 4294967296 vs<=g-1:=by generalize val 4294967296 ud / val 4294967296 vs=Q at*;omega
  have ahq:(g-1)*v1+(r+v1)=top:=by
   rw [Nat.sub_mul,Nat.one_mul]
   have:v1<=g*v1:=Nat.le_mul_of_pos_left v1 iN
   omega
  simp only [afX iN (show g<18446744073709551616 by omega),ah,s1,rH (show m+1<m+2 by omega),zero_add,A5,uu c1,abq (show r+v1<18446744073709551616 by omega),Bq,aht,bQ]
  refine ⟨λcU=>?_,λaF=>⟨trivial,hL (g-1,r+v1) ⟨ahq,by show r+v1<4294967296;omega,by show g-1<=4294967297;omega,hq1⟩ (by show 4294967296-(r+v1)<4294967296-r;omega)⟩⟩
  have pZ:g-1<4294967296:=by
   apply byContradiction
   intro hn
   have h3:4294967296*v1<=(g-1)*v1:=mul_le_mul_right _ (by omega)
   have h4:t2*4294967296<=v1*4294967296:=mul_le_mul_right _ Fh
   omega
  refine Ze kg kv bt hn hm hx hj hu lu lv pZ hq1 (agR eU eV se (by omega) ahq pZ ?_) V0 hk
  have h5:=Lk pZ c0
  have h6:4294967296*4294967296<=(r+v1)*4294967296:=mul_le_mul_right _ cU
  omega
 have last:g<4294967296->g*v2<=r*4294967296+t0->yH prog K (sl 177 id j (m+3)) (sl 177 iv 0 (m+2)) (I (m+2:Nat)) (.int .u64 (g:Int)) h:=λpZ aI=>
  Ze kg kv bt hn hm hx hj hu lu lv pZ hq (agR eU eV se (by omega) Tb pZ aI) V0 hk
 rw [aF2]
 simp only [Bq,ah,aht]
 by_cases pZ:4294967296<=g
 ·rw [bj pZ]
  simp only [fW,dY,ah,dA]
  simpa only [true_and] using down (.inl pZ)
 ·rw [aY pZ]
  have aho:g<4294967296:=by omega
  have hgv:=Lk aho c0
  simp only [eL,s2,ah,rH (show m<m+2 by omega),rH (show m<m+3 by omega),zero_add,lv0,oS,true_and,uu c0,uu b0,ajL (show g*v2<18446744073709551616 by omega),MK hr,Lu hr b0,aAV,dQ,bQ]
  exact ⟨λpW=>by simpa only [true_and] using down (.inr pW),λaI=>last aho (by omega)⟩
end
end
section
theorem XQ (k k2:IntKind) {s n:Nat} (hn:n<=k.bits) (hb:n<1000):ai .shr (.int k (s:Int)) (.int k2 (n:Int))=some (.int k ((s / 2^n:Nat):Int)):=by
 simp only [ai,re]
 rw [if_neg (by omega)]
 have:min ((n:Int).toNat) k.bits=n:=by omega
 rw [this,Int.fdiv_eq_ediv_of_nonneg _ (by have:(0:Int)<2^n:=Int.pow_pos (by decide);omega)]
 congr 2
theorem aJF (k2:IntKind) {x n:Nat} (hn:n<32) (hx:x<4294967296):ai .shl (.int .u64 (x:Int)) (.int k2 (n:Int))=some (.int .u64 ((x*2^n:Nat):Int)):=by
 have h2:2^n<=2^31:=pow_le_pow_right (by decide) (by omega)
 have h3:x*2^n<=4294967295*2^31:=Nat.mul_le_mul (by omega) h2
 have h4:x*2^n<18446744073709551616:=by omega
 simp only [ai,re]
 rw [if_neg (by omega)]
 have:min ((n:Int).toNat) IntKind.u64.bits=n:=by
  have:IntKind.u64.bits=64:=rfl
  omega
 have e:(x:Int)*2^n=((x*2^n:Nat):Int):=by simp
 rw [this,e,lP (by omega) (by omega)]
theorem aEC {s a q:Nat} (hs:s<=31) (ha:a<2^s) (hq:2^s*q<4294967296):ai .or (.int .u32 (a:Int)) (.int .u32 ((2^s*q:Nat):Int))=some (.int .u32 ((2^s*q+a:Nat):Int)):=by
 have h2:2^s<=2^31:=pow_le_pow_right (by decide) hs
 have KJ:2^s*q+a<4294967296:=by
  have h3:q<2^(32-s):=by
   apply byContradiction
   intro hn
   have:2^s*2^(32-s)<=2^s*q:=mul_le_mul_left _ (by omega)
   rw [<-pow_add,show s+(32-s)=32 by omega] at this
   omega
  have h4:2^s*(q+1)<=2^s*2^(32-s):=mul_le_mul_left _ (by omega)
  rw [<-pow_add,show s+(32-s)=32 by omega,Nat.mul_add] at h4
  omega
 have e:(BitVec.ofInt IntKind.u32.bits (a:Int) ||| BitVec.ofInt IntKind.u32.bits ((2^s*q:Nat):Int)).toNat=2^s*q+a:=by
  show (BitVec.ofInt 32 (a:Int) ||| BitVec.ofInt 32 ((2^s*q:Nat):Int)).toNat=_
  rw [BitVec.ofInt_natCast,BitVec.ofInt_natCast,BitVec.toNat_or,BitVec.toNat_ofNat,BitVec.toNat_ofNat,mod_eq_of_lt (by omega),mod_eq_of_lt (by omega),Nat.or_comm]
  exact (Nat.two_pow_add_eq_or_of_lt ha q).symm
 simp only [ai,iX,if_true]
 rw [e,oY (by omega) (by omega)]
def ql (x:Nat):Nat:=if x=0 then 0 else x.log2+1
def Ye:Value:=(.string ⟨#[0,1,2,2,3,3,3,3,4,4,4,4,4,4,4,4,5,5,5,5,5,5,5,5,5,5,5,5,5,5,5,5,6,6,6,6,6,6,6,6,6,6,6,6,6,6,6,6,6,6,6,6,6,6,6,6,6,6,6,6,6,6,6,6,7,7,7,7,7,7,7,7,7,7,7,7,7,7,7,7,7,7,7,7,7,7,7,7,7,7,7,7,7,7,7,7,7,7,7,7,7,7,7,7,7,7,7,7,7,7,7,7,7,7,7,7,7,7,7,7,7,7,7,7,7,7,7,7,8,8,8,8,8,8,8,8,8,8,8,8,8,8,8,8,8,8,8,8,8,8,8,8,8,8,8,8,8,8,8,8,8,8,8,8,8,8,8,8,8,8,8,8,8,8,8,8,8,8,8,8,8,8,8,8,8,8,8,8,8,8,8,8,8,8,8,8,8,8,8,8,8,8,8,8,8,8,8,8,8,8,8,8,8,8,8,8,8,8,8,8,8,8,8,8,8,8,8,8,8,8,8,8,8,8,8,8,8,8,8,8,8,8,8,8,8,8,8,8,8,8,8,8,8,8,8,8]⟩)
theorem aKd:((List.range 256).map λx:Nat=>j6 Ye (.int .u8 (x:Int)))=(List.range 256).map λx:Nat=>some (.int .u8 (ql x:Int)):=by kernel_rfl
theorem aKe {x:Nat} (h:x<256):j6 Ye (.int .u8 (x:Int))=some (.int .u8 (ql x:Int)):=by
 have:=congrArg (λl=>l[x]?) aKd
 simpa [h] using this
theorem aDR {x:Nat} (h:0<x):1<=ql x/\2^(ql x-1)<=x/\x<2^ql x:=by
 unfold ql
 rw [if_neg (by omega)]
 refine ⟨by omega,?_,Nat.lt_log2_self⟩
 rw [Nat.add_sub_cancel]
 exact Nat.log2_self_le (by omega)
theorem arn {x:Nat} {h:ae} {K:Value->ae->Prop} (h0:0<x) (hx:x<4294967296) (hk:∀n:Nat,1<=n->n<=32->2^(n-1)<=x->x<2^n->K (I n) h):ak prog 141 [.int .u32 (x:Int)] h K:=by
 refine f141 ?_
 have last:∀{y n0:Nat},0<y->y<256->n0<=24->2^n0*y<=x->x<2^n0*(y+1)->LP prog K (.int .u32 (y:Int)) (I n0) h:=by
  intro y n0 y0 aKQ oK fa kj
  rw [aGn]
  have cv:dG .u8 (.int .u32 (y:Int))=some (.int .u8 (y:Int)):=by
   rw [kZ];congr 2
   have e:IntKind.wrap .u8 (y:Int)=(y:Int)%256:=by simp [IntKind.wrap,IntKind.bits,IntKind.signed]
   rw [e];omega
  obtain ⟨l1,l2,l3⟩:=aDR y0
  have l8:ql y<=8:=by
   apply byContradiction
   intro hn
   have:2^8<=2^(ql y-1):=pow_le_pow_right (by decide) (by omega)
   omega
  have ix:=aKe aKQ
  have w1:dG .i64 (.int .u8 (ql y:Int))=some (I (ql y)):=by rw [kZ,wrap64 (by omega) (by omega)]
  have w2:ai .add (I n0) (I (ql y))=some (I (n0+ql y:Nat)):=by rw [cL,wrap64 (by omega) (by omega)];congr 2 <;> omega
  unfold Ye at ix
  rw [cv,ah,ix,ah,w1,ah,w2,ah]
  refine hk _ (by omega) (by omega) ?_ ?_
  ·rw [show n0+ql y-1=n0+(ql y-1) by omega,pow_add]
   exact Nat.le_trans (mul_le_mul_left _ l2) fa
  ·rw [pow_add]
   exact lt_of_lt_of_le kj (mul_le_mul_left _ l3)
 have mid:∀{y n0:Nat},0<y->y<65536->n0<=16->2^n0*y<=x->x<2^n0*(y+1)->LO prog K (.int .u32 (y:Int)) (I n0) h:=by
  intro y n0 y0 y65 oK fa kj
  rw [aGm]
  simp only [nv,ah,bQ]
  refine ⟨λcU=>?_,λaF=>last y0 (by omega) (by omega) fa kj⟩
  have sh:ai .shr (.int .u32 (y:Int)) (.int .u64 8)=some (.int .u32 ((y / 2^8:Nat):Int)):=XQ .u32 .u64 (n:=8) (by decide) (by decide)
  have w2:ai .add (I n0) (.int .i64 8)=some (I (n0+8:Nat)):=by rw [cL,wrap64 (by omega) (by omega)];congr 2
  simp only [sh,ah,w2]
  have mG:=div_add_mod y 256
  have wj:=mod_lt y (show 0<256 by decide)
  refine last (y:=y / 2^8) (by omega) (by omega) (by omega) ?_ ?_
  ·rw [pow_add,mul_assoc]
   exact Nat.le_trans (mul_le_mul_left _ (by omega)) fa
  ·rw [pow_add,mul_assoc]
   exact lt_of_lt_of_le kj (mul_le_mul_left _ (by omega))
 unfold Pm
 simp only [nv,ah,bQ]
 refine ⟨λcU=>?_,λaF=>mid (n0:=0) h0 (by omega) (by decide) (by simp) (by simp)⟩
 have sh:ai .shr (.int .u32 (x:Int)) (.int .u64 16)=some (.int .u32 ((x / 2^16:Nat):Int)):=XQ .u32 .u64 (n:=16) (by decide) (by decide)
 simp only [sh,ah]
 have mG:=div_add_mod x 65536
 have wj:=mod_lt x (show 0<65536 by decide)
 exact mid (n0:=16) (y:=x / 2^16) (by omega) (by omega) (by decide) (by omega) (by omega)
theorem arf {x:Nat} {h:ae} {K:Value->ae->Prop} (h0:0<x) (hx:x<4294967296) (hk:∀s:Nat,s<=31->2147483648<=x*2^s->x*2^s<4294967296->K (I s) h):ak prog 135 [.int .u32 (x:Int)] h K:=by
 refine f135 ?_
 unfold Pf
 refine arn h0 hx ?_
 intro n h1 h32 fa kj
 have e:ai .sub (.int .i64 32) (I n)=some (I (32-n:Nat)):=by rw [gE,wrap64 (by omega) (by omega)];congr 2;omega
 simp only [e,ah]
 have p1:2^(n-1)*2^(32-n)=2147483648:=by rw [<-pow_add,show n-1+(32-n)=31 by omega]
 have p2:2^n*2^(32-n)=4294967296:=by rw [<-pow_add,show n+(32-n)=32 by omega]
 refine hk _ (by omega) ?_ ?_
 ·rw [<-p1];exact mul_le_mul_right _ fa
 ·rw [<-p2];exact Nat.mul_lt_mul_of_pos_right kj (pow_pos (by decide))
end
section
theorem Mi {s:Nat} (hs:s<=31):(4294967296:Nat)=2^s*2^(32-s):=by rw [<-pow_add,show s+(32-s)=32 by omega]
theorem aKo {s x:Nat} (hs:s<=31) (hx:x<4294967296):(∃q,x*2^s%4294967296=2^s*q)/\x*2^s / 4294967296<2^s:=by
 have e:=Mi hs
 have p0:0<2^s:=pow_pos (by decide)
 refine ⟨⟨x%2^(32-s),?_⟩,?_⟩
 ·rw [e,mul_comm x,Nat.mul_mod_mul_left]
 ·rw [Nat.div_lt_iff_lt_mul (by decide),mul_comm x]
  exact Nat.mul_lt_mul_of_pos_left hx p0
theorem aKp {P c t d e X Y:Nat} (h1:X+P*c=Y+P*(d+c)) (h2:4294967296*e+d=t):X+P*4294967296*e=Y+P*t:=by
 rw [<-h2]
 grind
theorem Zd {v:Value} {xs:List Nat} {s:Nat} {h:ae} {K:Value->ae->Prop} (hx:DS 177 .u32 h v xs) (lx:cN 4294967296 xs) (hs:s<=31) (hl:xs.length<=200)
  (hk:∀os,os.length=xs.length+1->cN 4294967296 os->val 4294967296 os=val 4294967296 xs*2^s->K (sl 177 h.length 0 (xs.length+1)) (hd h os)):ak prog 136 [v,I s] h K:=by
 refine f136 ?_
 have e1:IntKind.wrap .i64 ((xs.length:Int)+1)=((xs.length+1:Nat):Int):=by rw [wrap64 (by omega) (by omega)];omega
 simp only [Pg,hx.len,ah,cL,e1,A6 (show xs.length+1<=1000 by omega),aE]
 have p0:0<2^s:=pow_pos (by decide)
 refine dF (σ:=List Nat×Nat) (λp=>[I p.2]) (λp=>hd h p.1) (λp=>p.2<=xs.length/\p.1.length=xs.length+1/\cN 4294967296 p.1/\val 4294967296 p.1=val 4294967296 (xs.take p.2)*2^s/\
   (∀k,p.2<k->k<=xs.length->p.1[k]?=some 0)/\∃c,p.1[p.2]?=some c/\c<2^s) (λp=>xs.length-p.2)
  (replicate (xs.length+1) 0,0) rfl rfl ⟨zero_le _,by simp,cN.xu (by decide) _,by simp [yN,val],λk _ (h2:k<=xs.length)=>by rw [List.getElem?_replicate,if_pos (by omega)],0,by simp,p0⟩ ?_
 rintro ⟨os,i⟩ ⟨hi,iB,lo,cf,hz,c,hc,tc⟩ L hL
 simp only at hi iB lo cf hz hc tc hL⊢
 rw [aFV]
 simp only [cW,ah,bQ]
 refine ⟨λaF=>?_,λcU=>?_⟩
 ·have bn:i<xs.length:=by omega
  obtain ⟨b,r1,r2⟩:=hx.get bn
  have yA:=lx _ (getElem_mem bn)
  have tx:=jK 4294967296 xs bn
  have Xr:af false 1 (hd h os) (pt b i)=some (.int .u32 (xs[i]:Int)):=(lF h os).load r2
  generalize xs[i]=x at*
  obtain ⟨⟨q,hq⟩,Fc⟩:=aKo hs yA
  have Kh:os[i]'(by omega)=c:=by
   rw [getElem?_eq_getElem (by omega)] at hc
   injection hc
  have ld:=ahh (h:=h) (os:=os) (j:=i) (by omega)
  rw [Kh] at ld
  have hqb:2^s*q<4294967296:=by rw [<-hq];exact mod_lt _ (by decide)
  have hqc:2^s*q+c<4294967296:=by
   have e:=Mi hs
   have h3:q<2^(32-s):=by
    apply byContradiction
    intro hn
    have:2^s*2^(32-s)<=2^s*q:=mul_le_mul_left _ (by omega)
    omega
   have h4:2^s*(q+1)<=2^s*2^(32-s):=mul_le_mul_left _ (by omega)
   rw [Nat.mul_add] at h4
   omega
  have ea:aZ 1 (sl 177 h.length 0 (xs.length+1)) (I i)=some (pt h.length i):=ow (by omega)
  have ea2:aZ 1 (sl 177 h.length 0 (xs.length+1)) (I (i+1:Nat))=some (pt h.length (i+1)):=ow (by omega)
  have Kw:=div_add_mod (x*2^s) 4294967296
  have oG:x*2^s / 4294967296<4294967296:=by
   have:2^s<=2^31:=pow_le_pow_right (by decide) hs
   omega
  have wi:IntKind.wrap .i64 ((i:Int)+1)=((i+1:Nat):Int):=by rw [wrap64 (by omega) (by omega)];omega
  simp only [r1,Xr,ah,uu yA,aJF .i64 (show s<32 by omega) yA,ea,ld,Em,hq,aEC hs tc hqb,wa _ (show i<os.length by omega),aE,cL,wi,Bq,ea2,mod_eq_of_lt oG,
   wa _ (show i+1<(os.set i (2^s*q+c)).length by rw [length_set];omega),true_and]
  have v1:=tU 4294967296 os i (2^s*q+c) (by omega)
  have v2:=tU 4294967296 (os.set i (2^s*q+c)) (i+1) (x*2^s / 4294967296) (by rw [length_set];omega)
  have qi:=hz (i+1) (by omega) (by omega)
  have oO:(os.set i (2^s*q+c))[i+1]'(by rw [length_set];omega)=0:=by
   rw [List.getElem_set_ne (by omega)]
   rw [getElem?_eq_getElem (by omega)] at qi
   injection qi
  rw [Kh] at v1
  rw [oO,mul_zero,add_zero,pow_succ] at v2
  rw [hq] at Kw
  refine hL ((os.set i (2^s*q+c)).set (i+1) (x*2^s / 4294967296),i+1) ⟨by show i+1<=_;omega,by simp [iB],(lo.set hqc i).set oG (i+1),?_,λk h1 h2=>?_,_,List.getElem?_set_self (by rw [length_set];omega),Fc⟩ (by show xs.length-(i+1)<xs.length-i;omega)
  ·show val 4294967296 ((os.set i (2^s*q+c)).set (i+1) (x*2^s / 4294967296))=val 4294967296 (xs.take (i+1))*2^s
   rw [v2,aKp v1 Kw,tx,add_mul,<-cf,mul_assoc (4294967296^i) x]
  ·have h1:i+1<k:=h1
   rw [getElem?_set_ne (by omega),getElem?_set_ne (by omega)]
   exact hz k (by omega) h2
 ·have fZ:i=xs.length:=by omega
  subst fZ
  rw [List.take_length] at cf
  rw [aFU]
  exact hk os iB lo cf
theorem M7 (B:Nat) (xs:List Nat) {i:Nat} (hi:i<=xs.length):val B xs=val B (xs.take i)+B^i*val B (xs.drop i):=by
 have:=og B (xs.take i) (xs.drop i)
 rwa [List.take_append_drop,length_take,min_eq_left hi] at this
theorem azk {s x y Z:Nat} (hs:s<=31):(x+4294967296*(y+4294967296*Z)) / 2^s%4294967296=(x+y*4294967296) / 2^s%4294967296:=by
 have e:=Mi hs
 have p0:0<2^s:=pow_pos (by decide)
 have:x+4294967296*(y+4294967296*Z)=x+y*4294967296+2^s*(4294967296*(2^(32-s)*Z)):=by
  generalize 2^s=a at*
  generalize 2^(32-s)=b at*
  grind
 rw [this,Nat.add_mul_div_left _ _ p0,Nat.add_mul_mod_self_left]
theorem arj {v:Value} {xs:List Nat} {s:Nat} {h:ae} {K:Value->ae->Prop} (hx:DS 177 .u32 h v xs) (lx:cN 4294967296 xs) (hs:s<=31) (hl:xs.length<=200)
  (hk:∀v' h',EX h h'->dL h' v' (val 4294967296 xs / 2^s)->K v' h'):ak prog 138 [v,I s] h K:=by
 refine f138 ?_
 simp only [Pj,hx.len,ah,A6 (show xs.length<=1000 by omega),aE]
 refine dF (σ:=List Nat×Nat) (λp=>[I p.2]) (λp=>hd h p.1) (λp=>p.2<=xs.length/\p.1.length=xs.length/\cN 4294967296 p.1/\val 4294967296 p.1=val 4294967296 xs / 2^s%4294967296^p.2/\
   ∀k,p.2<=k->k<xs.length->p.1[k]?=some 0) (λp=>xs.length-p.2)
  (replicate xs.length 0,0) rfl rfl ⟨zero_le _,by simp,cN.xu (by decide) _,by simp [yN,Nat.mod_one],λk _ (h2:k<xs.length)=>by rw [List.getElem?_replicate,if_pos h2]⟩ ?_
 rintro ⟨os,i⟩ ⟨hi,iB,lo,cf,hz⟩ L hL
 simp only at hi iB lo cf hz hL⊢
 rw [aF6]
 simp only [cW,ah,bQ]
 refine ⟨λaF=>?_,λcU=>?_⟩
 ·have bn:i<xs.length:=by omega
  obtain ⟨b,r1,r2⟩:=hx.get bn
  have yA:=lx _ (getElem_mem bn)
  have Xr:af false 1 (hd h os) (pt b i)=some (.int .u32 (xs[i]:Int)):=(lF h os).load r2
  have wi:IntKind.wrap .i64 ((i:Int)+1)=((i+1:Nat):Int):=by rw [wrap64 (by omega) (by omega)];omega
  have ea:aZ 1 (sl 177 h.length 0 xs.length) (I i)=some (pt h.length i):=ow (by omega)
  -- sD gB JF is
  have fin:∀t:Nat,t / 2^s%4294967296=val 4294967296 (xs.drop i) / 2^s%4294967296->LJ prog K v (I s) (sl 177 h.length 0 xs.length) (I i) (.int .u64 (t:Int)) (I xs.length) (I i) L (hd h os):=by
   intro t ht
   rw [aF3]
   simp only [XQ .u64 .i64 (s:=t) (n:=s) (by have:IntKind.u64.bits=64:=rfl;omega) (by omega),ah,Em,ea,wa _ (show i<os.length by omega),aE,aF4,cL,wi,true_and]
   have oG:t / 2^s%4294967296<4294967296:=mod_lt _ (by decide)
   refine hL (os.set i (t / 2^s%4294967296),i+1) ⟨by show i+1<=_;omega,by simp [iB],lo.set oG i,?_,λk h1 h2=>?_⟩ (by show xs.length-(i+1)<xs.length-i;omega)
   ·show val 4294967296 (os.set i (t / 2^s%4294967296))=val 4294967296 xs / 2^s%4294967296^(i+1)
    have v1:=tU 4294967296 os i (t / 2^s%4294967296) (by omega)
    have qi:=hz i (le_refl _) bn
    have oO:os[i]'(by omega)=0:=by
     rw [getElem?_eq_getElem (by omega)] at qi
     injection qi
    rw [oO,mul_zero,add_zero,cf] at v1
    rw [v1,ht,Nat.mod_pow_succ,Nat.div_div_eq_div_mul,mul_comm (2^s),<-Nat.div_div_eq_div_mul]
    congr 3
    rw [M7 4294967296 xs hi]
    have tn:=nJ (xs:=xs.take i) (lx.mono λy hy=>mem_of_mem_take hy)
    rw [length_take,min_eq_left hi] at tn
    have hB:0<4294967296^i:=pow_pos (by decide)
    rw [Nat.add_mul_div_left _ _ hB,Nat.div_eq_of_lt tn,zero_add]
   ·have h1:i+1<=k:=h1
    rw [getElem?_set_ne (by omega)]
    exact hz k (by omega) h2
  have ed:xs.drop i=xs[i]::xs.drop (i+1):=List.drop_eq_getElem_cons bn
  simp only [r1,Xr,ah,uu yA,cL,wi,hx.len,cW,bQ]
  refine ⟨λmV=>?_,λS6=>?_⟩
  ·have Tf:i+1<xs.length:=by omega
   obtain ⟨b2,s1,s2⟩:=hx.get Tf
   have q9:=lx _ (getElem_mem Tf)
   have s2':af false 1 (hd h os) (pt b2 (i+1))=some (.int .u32 (xs[i+1]:Int)):=(lF h os).load s2
   have eor:ai .or (.int .u64 (xs[i]:Int)) (.int .u64 ((xs[i+1]*4294967296:Nat):Int))=some (.int .u64 ((xs[i]+xs[i+1]*4294967296:Nat):Int)):=by
    have:=Lu q9 yA
    simp only [ai,iX,if_true] at this⊢
    rw [BitVec.or_comm,this,Nat.add_comm]
   simp only [s1,s2',ah,uu q9,MK q9,eor]
   refine fin _ ?_
   rw [ed,List.drop_eq_getElem_cons Tf]
   simp only [val]
   rw [azk hs]
  ·refine fin _ ?_
   rw [ed,List.drop_eq_nil_of_le (by omega)]
   simp [val]
 ·have fZ:i=xs.length:=by omega
  subst fZ
  have aF:val 4294967296 xs / 2^s<4294967296^xs.length:=Nat.lt_of_le_of_lt (Nat.div_le_self ..) (nJ lx)
  rw [mod_eq_of_lt aF] at cf
  rw [aF5]
  have yf:DS 177 .u32 (hd h os) (sl 177 h.length 0 xs.length) os:=by rw [<-iB];exact Ao h os
  refine sJ yf lo (by omega) ?_
  intro v' kD
  rw [cf] at kD
  exact hk v' _ (lF h os) kD
end
section
theorem azh {A Q V low D P:Nat} (hA:A=low+P*D+Q*V):A=low+P*(D%V)+(Q+P*(D / V))*V:=by
 have:=div_add_mod D V
 have e:P*(V*(D / V)+D%V)=P*D:=by rw [this]
 rw [hA,add_mul]
 have e2:P*(V*(D / V)+D%V)=P*(D / V)*V+P*(D%V):=by grind
 omega
theorem aKf {B n U l d:Nat} (h:U=l+B^n*d) (hU:U<B^n):d=0:=by
 apply byContradiction
 intro bt
 have:B^n*1<=B^n*d:=mul_le_mul_left _ (by omega)
 generalize B^n=Z at*
 omega
theorem aKj {B j m U V L D X T:Nat} (h1:U=L+B^j*D) (h2:D=X+B^(m+3)*T) (hV:V<B^(m+2)) (hB:0<B) (aF:U<V*B^(j+1)):T=0:=by
 apply byContradiction
 intro bt
 have a1:B^(m+3)*1<=B^(m+3)*T:=mul_le_mul_left _ (by omega)
 have a2:B^j*B^(m+3)<=B^j*D:=mul_le_mul_left _ (by rw [h2];generalize B^(m+3)*T=z at*;omega)
 have a3:V*B^(j+1)<B^(m+2)*B^(j+1):=Nat.mul_lt_mul_of_pos_right hV (pow_pos hB)
 rw [<-pow_add] at a2 a3
 rw [show m+2+(j+1)=j+(m+3) by omega] at a3
 generalize B^(j+(m+3))=z at*
 generalize V*B^(j+1)=w at*
 generalize B^j*D=y at*
 omega
theorem au5 {B j V L D U:Nat} (h1:U=L+B^j*D) (aF:U<V*B^(j+1)):D<V*B:=by
 apply byContradiction
 intro bt
 have a1:B^j*(V*B)<=B^j*D:=mul_le_mul_left _ (by omega)
 have a2:V*B^(j+1)=B^j*(V*B):=by
  rw [pow_succ]
  generalize B^j=z
  rw [<-mul_assoc,mul_comm _ z,mul_assoc]
 rw [a2] at aF
 generalize B^j*(V*B)=w at*
 generalize B^j*D=y at*
 omega
theorem aDQ {B j L r V:Nat} (hL:L<B^j) (hr:r<V):L+B^j*r<V*B^j:=by
 have:B^j*(r+1)<=B^j*V:=mul_le_mul_left _ hr
 rw [Nat.mul_add,Nat.mul_one] at this
 rw [mul_comm V]
 generalize B^j*V=w at*
 generalize B^j*r=y at*
 generalize B^j=z at*
 omega
theorem aEl {n b s top:Nat} {vs ys:List Nat} (cv:dJ 4294967296 vs) (ly:cN 4294967296 ys) (hn:ys.length=n+1) (tA:ys[n]?=some top) (hb:val 4294967296 ys=b) (hv:val 4294967296 vs=b*2^s) (hs:s<=31) (h1:2147483648<=top*2^s) (h2:top*2^s<4294967296):
  vs.length=n+1/\∃v1,vs[n]?=some v1/\2147483648<=v1:=by
 have te:ys[n]'(by omega)=top:=by
  rw [getElem?_eq_getElem (by omega)] at tA
  injection tA
 have tv:=jK 4294967296 ys (i:=n) (by omega)
 rw [take_of_length_le (by omega),te,hb] at tv
 have tn:=nJ (xs:=ys.take n) (ly.mono λy hy=>mem_of_mem_take hy)
 rw [length_take,min_eq_left (by omega)] at tn
 generalize val 4294967296 (ys.take n)=l at*
 have hP:0<4294967296^n:=pow_pos (by decide)
 have fa:2147483648*4294967296^n<=b*2^s:=by
  have e1:top*2^s*4294967296^n<=b*2^s:=by
   rw [tv,add_mul]
   have:4294967296^n*top*2^s=top*2^s*4294967296^n:=by
    rw [mul_assoc,mul_comm]
   omega
  exact Nat.le_trans (mul_le_mul_right _ h1) e1
 have kj:b*2^s<4294967296^(n+1):=by
  have e:=Mi hs
  have p0:0<2^s:=pow_pos (by decide)
  have t1:top+1<=2^(32-s):=by
   apply byContradiction
   intro hn
   have:2^s*2^(32-s)<=2^s*top:=mul_le_mul_left _ (by omega)
   rw [mul_comm (2^s) top] at this
   omega
  have t2:b<(top+1)*4294967296^n:=by
   rw [tv,add_mul,Nat.one_mul,mul_comm top]
   omega
  have t3:b*2^s<(top+1)*4294967296^n*2^s:=Nat.mul_lt_mul_of_pos_right t2 p0
  have t4:(top+1)*4294967296^n*2^s<=2^(32-s)*4294967296^n*2^s:=mul_le_mul_right _ (mul_le_mul_right _ t1)
  have t5:2^(32-s)*4294967296^n*2^s=4294967296^n*(2^s*2^(32-s)):=by
   generalize 2^(32-s)=x
   generalize 2^s=y
   generalize 4294967296^n=z
   grind
  rw [t5,<-e,<-pow_succ] at t4
  omega
 have hle:vs.length<=n+1:=cv.len (by decide) (by rw [hv];exact kj)
 have cU:n<vs.length:=by
  have h3:=nJ cv.1
  rw [hv] at h3
  have h4:4294967296^n<4294967296^vs.length:=by
   have:1*4294967296^n<=2147483648*4294967296^n:=mul_le_mul_right _ (by decide)
   omega
  exact (Nat.pow_lt_pow_iff_right (by decide)).1 h4
 refine ⟨by omega,vs[n],getElem?_eq_getElem cU,?_⟩
 have t2:=jK 4294967296 vs (i:=n) cU
 rw [take_of_length_le (by omega),hv] at t2
 have nU:=nJ (xs:=vs.take n) (cv.1.mono λy hy=>mem_of_mem_take hy)
 rw [length_take,min_eq_left (by omega)] at nU
 apply byContradiction
 intro hc
 have:4294967296^n*(vs[n]+1)<=4294967296^n*2147483648:=mul_le_mul_left _ (by omega)
 rw [Nat.mul_add,Nat.mul_one,mul_comm _ 2147483648] at this
 omega
theorem aJR {id N l r:Nat} (h1:l<=r) (h2:r<=N):nX 177 1 (sl 177 id 0 N) (some (I l)) (some (I r))=some (sl 177 id l (r-l)):=by
 simp [nX,sl,tE,u9,h1,h2]
theorem aJS {id N r:Nat} (h2:r<=N):nX 177 1 (sl 177 id 0 N) none (some (I r))=some (sl 177 id 0 r):=by
 simp [nX,sl,tE,u9,h2]
section
variable {h : ae} {K : Value -> ae -> Prop}
theorem ard {g:ae} {id iq iv m s nq A:Nat} {vs us:List Nat} {rest:List Value} {v1:Nat} (jC:h.length<=id) (hiq:h.length<=iq) (bt:iv≠id) (aBI:iv≠iq) (ahR:id≠iq) (hn:vs.length=m+2) (hm:m<=1000) (hs:s<=31)
  (lv:cN 4294967296 vs) (nW:vs[m+1]?=some v1) (kj:2147483648<=v1) (rY:us.length=nq+1+(m+2)) (hnq:nq<=200) (uM:m<=150) (lu:cN 4294967296 us) (hA:val 4294967296 us=A) (J8:A<val 4294967296 vs*4294967296^(nq+1))
  (hx:EX h g) (ku:g[id]?=some (.arr 177 (wv us))) (kq:g[iq]?=some (.arr 177 (wv (replicate (nq+1) 0)))) (kv:aW g iv=some (wv vs++rest))
  (hk:∀q r h',EX h h'->dL h' q (A / val 4294967296 vs)->dL h' r (A%val 4294967296 vs / 2^s)->K (.tuple #[q,r]) h'):
  cO [I nq] g λL1 xs hx=>VO prog K (I s) (sl 177 iv 0 (m+2)) (sl 177 id 0 (nq+1+(m+2))) (I (m+2:Nat)) (sl 177 iq 0 (nq+1)) L1 xs hx:=by
 have V0:0<val 4294967296 vs:=by
  apply Nat.pos_of_ne_zero
  intro e
  rw [e,Nat.zero_mul] at J8
  omega
 have Vn:=nJ lv
 rw [hn] at Vn
 refine dF (σ:=Nat×List Nat×List Nat×ae) (λp=>[I ((p.1:Int)-1)]) (λp=>p.2.2.2)
  (λp=>p.1<=nq+1/\EX h p.2.2.2/\p.2.1.length=nq+1+(m+2)/\cN 4294967296 p.2.1/\p.2.2.1.length=nq+1/\cN 4294967296 p.2.2.1/\(∀k,k<p.1->p.2.2.1[k]?=some 0)/\
   A=val 4294967296 p.2.1+val 4294967296 p.2.2.1*val 4294967296 vs/\val 4294967296 p.2.1<val 4294967296 vs*4294967296^p.1/\
   p.2.2.2[id]?=some (.arr 177 (wv p.2.1))/\p.2.2.2[iq]?=some (.arr 177 (wv p.2.2.1))/\aW p.2.2.2 iv=some (wv vs++rest)) (λp=>p.1)
  (nq+1,us,replicate (nq+1) 0,g) (by simp) rfl ⟨le_refl _,hx,rY,lu,by simp,cN.xu (by decide) _,λk (hk:k<nq+1)=>by rw [List.getElem?_replicate,if_pos hk],by show A=_;rw [hA,yN];simp,by show val 4294967296 us<_;rw [hA];exact J8,ku,kq,kv⟩ ?_
 clear ku kq kv hx lu hA rY us g
 rintro ⟨jn,us,qs,g⟩ ⟨oJ,hx,rY,lu,qU,lq,hz,hA,aF,ku,kq,kv⟩ L hL
 simp only at oJ hx rY lu qU lq hz hA aF ku kq kv hL⊢
 rw [aFS]
 simp only [nv,ah,bQ]
 refine ⟨λcU=>?_,λji=>?_⟩
 ·obtain ⟨j,rfl⟩:∃j,jn=j+1:=⟨jn-1,by omega⟩
  have ej:((j+1:Nat):Int)-1=(j:Int):=by omega
  have w1:ai .add (I j) (I (m+2:Nat))=some (I (j+(m+2):Nat)):=by rw [cL,wrap64 (by omega) (by omega)];congr 2
  have w2:ai .add (I (j+(m+2):Nat)) (.int .i64 1)=some (I (j+(m+3):Nat)):=by rw [cL,wrap64 (by omega) (by omega)];congr 2
  have w3:ai .sub (I j) (.int .i64 1)=some (I ((j:Int)-1)):=by rw [gE,wrap64 (by omega) (by omega)]
  have w4:j+(m+3)-j=m+3:=by omega
  rw [ej]
  simp only [w1,w2,ah,aJR (show j<=j+(m+3) by omega) (show j+(m+3)<=nq+1+(m+2) by omega),w4]
  have oG:((us.drop j).take (m+3)).length=m+3:=by rw [length_take,List.length_drop];omega
  have hud:∀k,k<=m+2->us[j+k]?=((us.drop j).take (m+3))[k]?:=by
   intro k hk
   rw [List.getElem?_take_of_lt (by omega),List.getElem?_drop]
  have lud:cN 4294967296 ((us.drop j).take (m+3)):=lu.mono λy hy=>List.mem_of_mem_drop (mem_of_mem_take hy)
  -- gB number:sD is below,sD is aK2,and nothing aKT
  have ki:=M7 4294967296 us (i:=j) (by omega)
  have uF:=M7 4294967296 (us.drop j) (i:=m+3) (by rw [List.length_drop];omega)
  have tn:=nJ (xs:=us.take j) (lu.mono λy hy=>mem_of_mem_take hy)
  rw [length_take,min_eq_left (by omega)] at tn
  have tA:val 4294967296 ((us.drop j).drop (m+3))=0:=aKj ki uF Vn (by decide) aF
  rw [tA,mul_zero,add_zero] at uF
  rw [uF] at ki
  have uD:val 4294967296 ((us.drop j).take (m+3))<val 4294967296 vs*4294967296:=au5 ki aF
  refine arh ku kv bt hn hm oG (by omega) hud lud lv nW kj uD ?_
  intro rs KF lr hrv
  have kq':(g.set id (.arr 177 (wv (mid us j rs))))[iq]?=some (.arr 177 (wv qs)):=by rw [getElem?_set_ne ahR];exact kq
  have az6:aZ 1 (sl 177 iq 0 (nq+1)) (I j)=some (pt iq j):=ow (by omega)
  simp only [az6,ah,DZ _ kq' (show j<qs.length by omega),aE,w3,true_and]
  have Fc:val 4294967296 ((us.drop j).take (m+3)) / val 4294967296 vs<4294967296:=by
   rw [Nat.div_lt_iff_lt_mul V0,mul_comm];exact uD
  have yo:val 4294967296 (mid us j rs)=val 4294967296 (us.take j)+4294967296^j*(val 4294967296 ((us.drop j).take (m+3))%val 4294967296 vs):=by
   unfold mid
   rw [og,og,length_take,min_eq_left (by omega),hrv,KF]
   have:us.drop (j+(m+3))=(us.drop j).drop (m+3):=by rw [List.drop_drop]
   rw [this,tA,mul_zero,add_zero]
  have qi:=hz j (by omega)
  have oO:qs[j]'(by omega)=0:=by
   rw [getElem?_eq_getElem (by omega)] at qi
   injection qi
  have hqs:=tU 4294967296 qs j (val 4294967296 ((us.drop j).take (m+3)) / val 4294967296 vs) (by omega)
  rw [oO,mul_zero,add_zero] at hqs
  have pF:=mod_lt (val 4294967296 ((us.drop j).take (m+3))) V0
  refine hL (j,mid us j rs,qs.set j (val 4294967296 ((us.drop j).take (m+3)) / val 4294967296 vs),_) ⟨by show j<=_;omega,(hx.set jC _).set hiq _,by rw [CR (by omega)];exact rY,?_,by rw [length_set];exact qU,lq.set Fc j,λk hk=>?_,?_,?_,?_,cJ kq',?_⟩ (by show j<j+1;omega)
  ·unfold mid
   exact (lu.mono λy hy=>mem_of_mem_take hy).append (lr.append (lu.mono λy hy=>List.mem_of_mem_drop hy))
  ·have hk:k<j:=hk
   rw [getElem?_set_ne (by omega)]
   exact hz k (by omega)
  ·show A=val 4294967296 (mid us j rs)+val 4294967296 (qs.set j _)*val 4294967296 vs
   rw [yo,hqs]
   refine azh ?_
   rw [hA,ki]
  ·show val 4294967296 (mid us j rs)<val 4294967296 vs*4294967296^j
   rw [yo]
   exact aDQ tn pF
  ·rw [getElem?_set_ne ahR.symm];exact cJ ku
  ·rw [Ei aBI,Ei bt];exact kv
 ·have nS:jn=0:=by omega
  subst nS
  rw [Nat.pow_zero,Nat.mul_one] at aF
  have hQ:A / val 4294967296 vs=val 4294967296 qs:=by rw [hA,Nat.add_mul_div_right _ _ V0,Nat.div_eq_of_lt aF,zero_add]
  have hR:A%val 4294967296 vs=val 4294967296 us:=by rw [hA,Nat.add_mul_mod_self_right,mod_eq_of_lt aF]
  have hdq:DS 177 .u32 g (sl 177 iq 0 (nq+1)) qs:=.inr ⟨iq,by rw [qU],.inr ⟨[],by rw [List.append_nil];simp [aW,kq,wv]⟩⟩
  rw [aFT]
  refine sJ hdq lq (by omega) ?_
  intro q hq
  have AI:val 4294967296 (us.take (m+2))=val 4294967296 us:=by
   have hd:=M7 4294967296 us (i:=m+2) (by omega)
   have:val 4294967296 (us.drop (m+2))=0:=aKf hd (Nat.lt_trans aF Vn)
   rw [this,mul_zero,add_zero] at hd
   exact hd.symm
  have Aq:DS 177 .u32 g (sl 177 id 0 (m+2)) (us.take (m+2)):=.inr ⟨id,by rw [length_take,min_eq_left (by omega)],.inr ⟨wv (us.drop (m+2)),by
   simp only [aW,ku]
   congr 1
   show wv us=wv (us.take (m+2))++wv (us.drop (m+2))
   unfold wv
   rw [<-List.map_append,List.take_append_drop]⟩⟩
  simp only [true_and,aJS (show m+2<=nq+1+(m+2) by omega),ah]
  refine sJ Aq (lu.mono λy hy=>mem_of_mem_take hy) (by rw [length_take];omega) ?_
  intro r0 tu
  rw [AI] at tu
  obtain ⟨zs,dz,cz,hz⟩:=tu
  have lz:zs.length<=m+2:=cz.len (by decide) (by rw [hz];exact Nat.lt_trans aF Vn)
  refine arj dz cz.1 hs (by omega) ?_
  intro r h' x' hr
  rw [hz,<-hR] at hr
  rw [<-hQ] at hq
  exact hk q r h' (hx.trans x') (hq.mono x') hr
end
end
section
theorem aJX {B a P Q s n l V:Nat} (ha:a<P*B^(n-1)) (hV:2147483648*P<=V) (hB:2^s<=2147483648) (hl:l=n) (hQ:Q=B^(n-1)) (_h:1<=n):a*2^s<V*Q:=by
 have _:=hl
 have h1:a*2^s<P*B^(n-1)*2^s:=Nat.mul_lt_mul_of_pos_right ha (pow_pos (by decide))
 have h2:P*B^(n-1)*2^s<=P*B^(n-1)*2147483648:=mul_le_mul_left _ hB
 have h3:2147483648*P*B^(n-1)<=V*B^(n-1):=mul_le_mul_right _ hV
 have e:P*B^(n-1)*2147483648=2147483648*P*B^(n-1):=by
  generalize B^(n-1)=z
  rw [mul_comm,<-mul_assoc]
 rw [hQ]
 generalize V*B^(n-1)=x at*
 omega
theorem Y9 {va vb:Value} {a b:Nat} {h:ae} {K:Value->ae->Prop} (ha:dL h va a) (hb:dL h vb b) (la:a<bG) (lb:b<bG) (b0:0<b) (hk:∀q r h',EX h h'->dL h' q (a / b)->dL h' r (a%b)->K (.tuple #[q,r]) h'):
  ak prog 130 [va,vb] h K:=by
 by_cases Ke:b<4294967296
 ·exact arc ha hb la b0 Ke hk
 refine f130 ?_
 unfold HM
 refine G5 ha hb la lb ?_
 simp only [cW,ah,bQ]
 refine ⟨λaF=>?_,λcU=>?_⟩
 ·have iL:=MJ.1 aF
  have nA:=ha
  obtain ⟨xs,d,c,rfl⟩:=ha
  obtain ⟨s1,s2⟩:=d.cells
  have lx:=qJ c la
  have hq:∀g,dL g (.slice none 0 0) (val 4294967296 xs / b):=λg=>⟨[],DS.nil _ _ _,⟨λx hx=>by simp at hx,by simp⟩,by rw [Nat.div_eq_of_lt iL];rfl⟩
  by_cases h0:xs.length=0
  ·have e:eG 177 1 4 h (.slice none 0 0) va=some (.slice none 0 0,h):=by
    simp only [eG,s1,s2]
    rw [if_pos h0]
   simp only [e,aE]
   have:xs=[]:=List.length_eq_zero_iff.1 h0
   subst this
   exact hk _ _ h (EX.refl h) (hq h) ⟨[],DS.nil _ _ _,c,by rw [mod_eq_of_lt iL]⟩
  ·have e:eG 177 1 4 h (.slice none 0 0) va=some (sl 177 h.length 0 xs.length,h++[.arr 177 (xs.map λd:Nat=>Value.int .u32 (d:Int))]):=by
    simp only [eG,s1,s2]
    rw [if_neg h0,if_pos ⟨by omega,by unfold maxLen;omega⟩]
   simp only [e,aE]
   refine hk _ _ _ (EX.append _ _) (hq _) ⟨xs,.inr ⟨h.length,rfl,.inr ⟨[],?_⟩⟩,c,by rw [mod_eq_of_lt iL]⟩
   simp [aW]
 have iL:b<=a:=by
  apply byContradiction
  intro hc
  exact cU (MJ.2 (by omega))
 obtain ⟨xs,dx,cx,TX⟩:=ha
 obtain ⟨ys,dy,cy,q9⟩:=hb
 have lx:=qJ cx (by rw [TX];exact la)
 have ly:=qJ cy (by rw [q9];exact lb)
 have kP:=nJ cy.1
 rw [q9] at kP
 obtain ⟨m,hm⟩:∃m,ys.length=m+2:=by
  refine ⟨ys.length-2,?_⟩
  have:¬ys.length<=1:=by
   intro h1
   have:4294967296^ys.length<=4294967296^1:=pow_le_pow_right (by decide) h1
   rw [Nat.pow_one] at this
   generalize 4294967296^ys.length=z at*
   omega
  omega
 have aCq:ys≠[]:=by rintro rfl;simp at hm
 have aiu:=dJ.low (by decide) cy aCq
 have iP:=nJ cx.1
 rw [TX] at iP
 rw [q9] at aiu
 have hlen:ys.length<=xs.length:=by
  have:4294967296^(ys.length-1)<4294967296^xs.length:=Nat.lt_of_le_of_lt aiu (Nat.lt_of_le_of_lt iL iP)
  have:=(Nat.pow_lt_pow_iff_right (show 1<4294967296 by decide)).1 this
  omega
 -- gB aK9 JF
 obtain ⟨ib,g1,g2⟩:=dy.get (j:=m+1) (by omega)
 have tA:ys[m+1]?=some (ys[m+1]'(by omega)):=getElem?_eq_getElem (by omega)
 have Fi:=cy.1 _ (getElem_mem (l:=ys) (n:=m+1) (by omega))
 have wE:0<ys[m+1]'(by omega):=by
  apply Nat.pos_of_ne_zero
  intro e
  refine cy.2 ?_
  rw [List.getLast?_eq_getElem?,hm,show m+2-1=m+1 by omega,tA,e]
 have UK:bk vb=some (I (m+2:Nat)):=by rw [dy.len,hm]
 have s1:ai .sub (I (m+2:Nat)) (.int .i64 1)=some (I (m+1:Nat)):=by rw [gE,wrap64 (by omega) (by omega)];congr 2;omega
 simp only [UK,ah,hY,aY (show ¬(((m+2:Nat):Int)=1) by omega),dD,s1,g1,g2]
 generalize ys[m+1]'(by omega)=top at*
 refine arf wE Fi ?_
 intro s hs h1 h2
 refine Zd dy cy.1 hs (by omega) ?_
 intro gY ol1 lo1 nW
 rw [q9] at nW
 have d1:DS 177 .u32 (hd h gY) (sl 177 h.length 0 (ys.length+1)) gY:=by rw [<-ol1];exact Ao h gY
 refine sJ d1 lo1 (by omega) ?_
 intro v' kD
 rw [nW] at kD
 obtain ⟨vs,dv,cv,AK⟩:=kD
 obtain ⟨se,v1,TR,aih⟩:=aEl (n:=m+1) cv cy.1 hm tA q9 AK hs h1 h2
 obtain ⟨iv,aBs,rest,kv⟩:∃i,v'=sl 177 i 0 (m+2)/\∃rest,aW (hd h gY) i=some (wv vs++rest):=by
  rcases dv with ⟨_,h0⟩ | ⟨i,e1,e2⟩
  ·rw [h0] at se;simp at se
  ·rcases e2 with h0 | ⟨r,hr⟩
   ·rw [h0] at se;simp at se
   ·exact ⟨i,by rw [e1,se],r,hr⟩
 subst aBs
 have aLj:iv<(hd h gY).length:=by
  unfold aW at kv
  apply byContradiction
  intro hn
  rw [List.getElem?_eq_none (by omega)] at kv
  cases kv
 refine Zd (dx.mono (lF h gY)) cx.1 hs (by omega) ?_
 intro CW ol2 lo2 rZ
 rw [TX] at rZ
 have x2:=lF (hd h gY) CW
 have k2:=SZ (hd h gY) CW
 have l2:(hd (hd h gY) CW).length=(hd h gY).length+1:=by simp [hd]
 have kv2:=x2.cells kv
 have FJ:bk (sl 177 iv 0 (m+2))=some (I (m+2:Nat)):=rfl
 obtain ⟨nq,hnq⟩:∃nq,xs.length=nq+(m+2):=⟨xs.length-(m+2),by omega⟩
 have w1:ai .sub (I (xs.length:Nat)) (I (m+2:Nat))=some (I nq):=by rw [gE,wrap64 (by omega) (by omega)];congr 2;omega
 have w2:ai .add (I nq) (.int .i64 1)=some (I (nq+1:Nat)):=by rw [cL,wrap64 (by omega) (by omega)];congr 2
 simp only [FJ,ah,dx.len,w1,w2,A6 (show nq+1<=1000 by omega),aE]
 have x3:=lF (hd (hd h gY) CW) (replicate (nq+1) 0)
 have k3:=SZ (hd (hd h gY) CW) (replicate (nq+1) 0)
 have FC:=x3.get k2
 have kv3:=x3.cells kv2
 have xA:=(lF h gY).trans (x2.trans x3)
 have rT:=(lF h gY).1
 generalize hd (hd (hd h gY) CW) (replicate (nq+1) 0)=g3 at*
 have eN:xs.length+1=nq+1+(m+2):=by omega
 rw [eN]
 have aCb:2^s<=2147483648:=pow_le_pow_right (show 0<2 by decide) hs
 have aA1:2147483648*4294967296^(m+1)<=val 4294967296 vs:=by
  have tv:=jK 4294967296 vs (i:=m+1) (by omega)
  rw [take_of_length_le (by omega)] at tv
  have e1:vs[m+1]'(by omega)=v1:=by
   rw [getElem?_eq_getElem (by omega)] at TR
   injection TR
  rw [e1] at tv
  rw [tv,mul_comm]
  have:4294967296^(m+1)*2147483648<=4294967296^(m+1)*v1:=mul_le_mul_left _ aih
  generalize 4294967296^(m+1)*v1=z at*
  omega
 have J8:a*2^s<val 4294967296 vs*4294967296^(nq+1):=by
  have aCo:a<4294967296^(m+1)*4294967296^(nq+1):=by
   rw [<-pow_add,show m+1+(nq+1)=xs.length by omega];exact iP
  exact aJX (n:=nq+2) (l:=nq+2) (by simpa using aCo) aA1 aCb rfl (by simp) (by omega)
 have abp:0<2^s:=pow_pos (by decide)
 refine ard (h:=h) (A:=a*2^s) (by omega) (by omega) (by omega) (by omega) (by omega) se (by omega) hs cv.1 TR aih (by omega) (by omega) (by omega) lo2 rZ J8 xA FC k3 kv3 ?_
 intro q r h' x' hq hr
 rw [AK,Nat.mul_div_mul_right _ _ abp] at hq
 rw [AK,Nat.mul_mod_mul_right,Nat.mul_div_cancel _ abp] at hr
 exact hk q r h' x' hq hr
end
section
def iI (h:ae) (val:Value) (a b:Int):Prop:=∃u w,val=.agg #[B (decide (a<0)),u,B (decide (b<0)),w]/\dL h u a.natAbs/\dL h w b.natAbs
theorem YZ {va:Value} {a:Int} {h:ae} {K:Value->ae->Prop} (ha:eC h va a) (hk:∀r h',EX h h'->iI h' r a 1->K r h'):ak prog 112 [va] h K:=by
 obtain ⟨v,rfl,hv⟩:=ha
 refine f112 ?_
 have e1:bp 105 h (.agg #[B (decide (a<0)),v])=some (pt h.length 0,h++[.arr 105 [B (decide (a<0)),v]]):=rfl
 have e2:∀g:ae,aV 107 [(.bool false),(.slice none 0 0),(.bool false),(.slice none 0 0)] g=some (pt g.length 0,g++[.arr 107 z4]):=λ_=>rfl
 simp only [OU,e1,e2,aE,length_append,length_cons,length_nil]
 have g0:(h++[aq.arr 105 [B (decide (a<0)),v]]++[aq.arr 107 z4])[h.length]?=some (.arr 105 [B (decide (a<0)),v]):=by simp
 have g1:(h++[aq.arr 105 [B (decide (a<0)),v]]++[aq.arr 107 z4])[h.length+1]?=some (.arr 107 z4):=by simp
 have x1:EX h (h++[aq.arr 105 [B (decide (a<0)),v]]++[aq.arr 107 z4]):=(EX.append _ _).push _
 generalize h++[aq.arr 105 [B (decide (a<0)),v]]++[aq.arr 107 z4]=h1 at g0 g1 x1⊢
 rw [cZ g0]
 simp only [ah,true_and]
 refine DA (by decide) (by decide) ?_
 intro r2 h2 x2 i2
 obtain ⟨w,rfl,hw⟩:=id i2
 refine ⟨⟨EX.load x2 (cZ g0),trivial⟩,?_⟩
 have rZ:=(hv.mono x1).mono x2
 obtain ⟨xs,dx,cx⟩:=id rZ
 obtain ⟨ys,dy,cy⟩:=id hw
 rw [H9 dx dy]
 simp only [ah,zero_add]
 have g2:=x2.get g1
 exact rO g2 (hk _ _ ((x1.trans x2).set (by omega) _) ⟨v,w,rfl,rZ.bT g2 _,hw.bT g2 _⟩)
theorem C90 {u w:Value} {s:Bool} {h:ae} {K:Value->ae->Prop} (hw:dL h w 1) (hk:∀h',EX h h'->K (B true) h'):ak prog 90 [.agg #[B s,u,B false,w]] h K:=by
 refine f90 ?_
 have e1:bp 107 h (.agg #[B s,u,B false,w])=some (pt h.length 0,h++[.arr 107 [B s,u,B false,w]]):=rfl
 simp only [HN,e1,aE]
 have x1:EX h (h++[aq.arr 107 [B s,u,B false,w]]):=EX.append _ _
 have l3:af false 1 (h++[aq.arr 107 [B s,u,B false,w]]) (pt h.length 3)=some w:=tK rfl
 obtain ⟨xs,dx,cx,vx⟩:=hw.mono x1
 have TW:xs=[1]:=dJ.unique (by decide) cx ⟨λy hy=>by simp at hy;subst hy;decide,by simp⟩ (by rw [vx];rfl)
 subst TW
 obtain ⟨i,g1,g2⟩:=dx.get (j:=0) (by simp)
 have Ab:aZ 1 w (I 0)=some (pt i 0):=g1
 simp only [bZ,zero_add,ah,l3,dx.len,List.length_singleton,hY,Xk]
 rw [bj (show ((1:Nat):Int)=1 by rfl)]
 simp only [fP,ah,Ab,g2,hY,Xl,dY]
 exact hk _ x1
end
section
theorem iI.mono {h h':ae} {v:Value} {a b:Int} (x:EX h h') (p:iI h v a b):iI h' v a b:=let ⟨u,w,e,m,n⟩:=p;⟨u,w,e,m.mono x,n.mono x⟩
theorem iI.bT {h:ae} {v:Value} {a b:Int} {j:Nat} {e:TypeId} {s:Bool} {r:List Value} (p:iI h v a b) (hj:h[j]?=some (.arr e (.bool s::r))) (o:aq):iI (h.set j o) v a b:=
 let ⟨u,w,e,m,n⟩:=p;⟨u,w,e,m.bT hj o,n.bT hj o⟩
theorem JM {h h':ae} {j:Nat} {va vb:Value} {a b:Int} {K:Value->ae->Prop} (ha:eC h' va a) (hb:eC h' vb b) (x:EX h h') (hj:h.length<=j) (hg:h'[j]?=some (.arr 107 z4)) (hk:∀r h',EX h h'->iI h' r a b->K r h'):
  OP (dC [(.bool false),(.slice none 0 0),(.bool false),(.slice none 0 0)] [(0,2,va),(2,2,vb)]) λbX=>OH (aG 4 h' (pt j 0) bX) λ_ h_6=>OP (af true 4 h_6 (pt j 0)) λr0=>K r0 h_6:=by
 obtain ⟨v,rfl,hv⟩:=ha
 obtain ⟨w,rfl,hw⟩:=hb
 obtain ⟨xs,dx,_⟩:=id hv
 obtain ⟨ys,dy,_⟩:=id hw
 rw [H9 dx dy]
 simp only [ah]
 exact rO hg (hk _ _ (x.set hj _) ⟨v,w,rfl,hv.bT hg _,hw.bT hg _⟩)
theorem C75 {n:Int} {h:ae} {K:Value->ae->Prop} (h1: -9223372036854775808<=n) (h2:n<9223372036854775808) (hk:∀r h',EX h h'->iI h' r n 1->K r h'):ak prog 75 [I n] h K:=by
 refine f75 ?_
 have e1:aV 107 [(.bool false),(.slice none 0 0),(.bool false),(.slice none 0 0)] h=some (pt h.length 0,h++[.arr 107 z4]):=rfl
 simp only [P3,e1,aE]
 have x0:EX h (h++[.arr 107 z4]):=EX.append _ _
 have g0:(h++[aq.arr 107 z4])[h.length]?=some (.arr 107 z4):=br
 generalize h++[aq.arr 107 z4]=ga at x0 g0⊢
 refine DA h1 h2 ?_
 intro r h3 x3 i3
 refine DA (by decide) (by decide) ?_
 intro s h4 x4 i4
 exact JM (i3.mono x4) i4 (x0.trans (x3.trans x4)) (le_refl _) ((x3.trans x4).get g0) hk
theorem aAN {a b:Int} (b0:0<b):0<(gcd a.natAbs b.natAbs:Int)/\(gcd a.natAbs b.natAbs:Int)<=b:=by
 have h1:0<gcd a.natAbs b.natAbs:=Nat.gcd_pos_of_pos_right _ (by omega)
 have h2:gcd a.natAbs b.natAbs<=b.natAbs:=Nat.gcd_le_right _ (by omega)
 omega
end
section
theorem DE {u w:Value} {s:Bool} {b:Nat} {h:ae} {K:Value->ae->Prop} (hw:dL h w b) (lb:b<bG) (hk:∀h',EX h h'->K (B (decide (b=1))) h'):ak prog 90 [.agg #[B s,u,B false,w]] h K:=by
 by_cases h1:b=1
 ·subst h1
  exact C90 hw hk
 rw [aY h1] at hk
 refine f90 ?_
 have e1:bp 107 h (.agg #[B s,u,B false,w])=some (pt h.length 0,h++[.arr 107 [B s,u,B false,w]]):=rfl
 simp only [HN,e1,aE]
 have x1:EX h (h++[aq.arr 107 [B s,u,B false,w]]):=EX.append _ _
 have l3:af false 1 (h++[aq.arr 107 [B s,u,B false,w]]) (pt h.length 3)=some w:=tK rfl
 obtain ⟨xs,dx,cx,vx⟩:=hw.mono x1
 simp only [bZ,zero_add,ah,l3,dx.len,hY]
 by_cases hl:xs.length=1
 ·obtain ⟨y,rfl⟩:∃y,xs=[y]:=by
   match xs,hl with
   | [y],_=>exact ⟨y,rfl⟩
  have hy:y=b:=by simpa [val] using vx
  subst hy
  obtain ⟨i,g1,g2⟩:=dx.get (j:=0) (by simp)
  have Ab:aZ 1 w (.int .i64 (0))=some (pt i 0):=g1
  rw [bj (show ((([y]:List Nat).length:Nat):Int)=1 from rfl),Xk]
  simp only [fP,bZ,zero_add,ah,l3,Ab,g2,List.getElem_cons_zero,hY]
  rw [aY (show ¬((y:Int)=1) by omega),Xl]
  simp only [dY,ah]
  exact hk _ x1
 ·rw [aY (show ¬((xs.length:Int)=1) by omega),Xk]
  simp only [jV]
  rw [Xl]
  simp only [dQ,ah]
  exact hk _ x1
def pN (a b:Int):List UInt8:=if b=1 then jr a else jr a++47::eK b.natAbs
theorem aj2 {a:Int} (la:a.natAbs<bG):(jr a).length<=1001:=by
 have:=(xU la).2.2.1
 unfold jr
 split <;> simp <;> omega
theorem Zn {va:Value} {a b:Int} {h:ae} {K:Value->ae->Prop} (ha:iI h va a b) (b0:0<b) (la:a.natAbs<bG) (lb:b.natAbs<bG) (hk:∀h',EX h h'->K (.tuple #[S (pN a b),I 0]) h'):ak prog 45 [va] h K:=by
 obtain ⟨u,w,rfl,hu,hw⟩:=ha
 have wA:decide (b<0)=false:=aY (by omega)
 rw [wA]
 refine f45 ?_
 have e1:bp 107 h (.agg #[B (decide (a<0)),u,B false,w])=some (pt h.length 0,h++[.arr 107 [B (decide (a<0)),u,B false,w]]):=rfl
 simp only [PB,e1,aE]
 have x1:EX h (h++[aq.arr 107 [B (decide (a<0)),u,B false,w]]):=EX.append _ _
 have l1:af false 1 (h++[aq.arr 107 [B (decide (a<0)),u,B false,w]]) (pt h.length 1)=some u:=tK rfl
 have l0:af false 1 (h++[aq.arr 107 [B (decide (a<0)),u,B false,w]]) (pt h.length 0)=some (B (decide (a<0))):=tK rfl
 have g0:(h++[aq.arr 107 [B (decide (a<0)),u,B false,w]])[h.length]?=some (.arr 107 [B (decide (a<0)),u,B false,w]):=br
 generalize h++[aq.arr 107 [B (decide (a<0)),u,B false,w]]=h1 at x1 l1 l0 g0⊢
 obtain ⟨d1,d2,d3,d4,d5⟩:=xU la
 obtain ⟨c1,c2,c3,c4,c5⟩:=xU lb
 simp only [bZ,zero_add,add_zero,ah,l1]
 refine Ha (hu.mono x1) la ?_
 intro h2 x2
 simp only [lK,ah,fQ,aY (show ¬((eK a.natAbs).length:Int)>4000 by omega),dD,EX.load x2 l0]
 have last:LY prog K (pt h.length 0) (S (jr a)) h2:=by
  rw [aGR,gX (x2.get g0)]
  simp only [ah]
  refine DE ((hw.mono x1).mono x2) lb ?_
  intro h3 x3
  simp only [bQ]
  refine ⟨λh9=>?_,λh9=>?_⟩
  ·have e:pN a b=jr a:=by unfold pN;rw [if_pos (by omega)]
   rw [<-e]
   exact hk _ ((x1.trans x2).trans x3)
  ·have l3:af false 1 h3 (pt h.length 3)=some w:=by simp [af,aW,(x2.trans x3).get g0,cP]
   simp only [bZ,zero_add,ah,l3]
   refine Ha (((hw.mono x1).mono x2).mono x3) lb ?_
   intro h4 x4
   have nl:=aj2 la
   have a1:ai .add (S (jr a)) (.string ⟨#[47]⟩)=some (S (jr a++[47])):=xM (a:=jr a) (b:=[47]) (by simp [maxLen];omega)
   have a2:ai .add (S (jr a++[47])) (S (eK b.natAbs))=some (S (jr a++[47]++eK b.natAbs)):=xM (a:=jr a++[47]) (b:=eK b.natAbs) (by simp [maxLen];omega)
   simp only [lK,ah,fQ,aY (show ¬((eK b.natAbs).length:Int)>4000 by omega),dD,a1,a2]
   have e:pN a b=jr a++[47]++eK b.natAbs:=by unfold pN;rw [if_neg (by omega)];simp
   rw [<-e]
   exact hk _ ((x1.trans x2).trans (x3.trans x4))
 by_cases ji:a<0
 ·rw [bj ji]
  have:jr a=45::eK a.natAbs:=by unfold jr;rw [if_pos ji]
  have ad:ai .add (.string ⟨#[45]⟩) (S (eK a.natAbs))=some (S (jr a)):=by
   rw [this]
   exact xM (a:=[45]) (b:=eK a.natAbs) (by simp [maxLen];omega)
  simp only [dA,ad,ah]
  exact last
 ·rw [aY ji]
  have:jr a=eK a.natAbs:=by unfold jr;rw [if_neg ji]
  rw [this] at last
  simp only [dD]
  exact last
end
section
theorem Y2 {va vb:Value} {a b:Int} {h:ae} {K:Value->ae->Prop} (ha:eC h va a) (hb:eC h vb b) (la:a.natAbs<bG) (lb:b.natAbs<bG) (hk:∀r h',EX h h'->eC h' r (gcd a.natAbs b.natAbs:Nat)->K r h'):ak prog 120 [va,vb] h K:=by
 obtain ⟨v,rfl,hv⟩:=ha
 obtain ⟨w,rfl,hw⟩:=hb
 refine f120 ?_
 unfold O1
 refine H6 ?_
 intro h3 x
 simp only [bZ,zero_add,ah,x.a1,x.b1,true_and]
 refine dF (σ:=Value×Value×Nat×Nat×ae) (λq=>[q.1,q.2.1]) (λq=>q.2.2.2.2) (λq=>(dL q.2.2.2.2 q.1 q.2.2.1/\dL q.2.2.2.2 q.2.1 q.2.2.2.1)/\(q.2.2.1<bG/\q.2.2.2.1<bG)/\gcd q.2.2.1 q.2.2.2.1=gcd a.natAbs b.natAbs/\EX h3 q.2.2.2.2) (λq=>q.2.2.2.1)
  (v,w,a.natAbs,b.natAbs,h3) rfl rfl ⟨⟨hv.mono x.ex,hw.mono x.ex⟩,⟨la,lb⟩,rfl,EX.refl _⟩ ?_
 rintro ⟨vx,vy,m,n,g⟩ ⟨⟨hm,hn⟩,⟨lm,ln⟩,hg,xg⟩ L hL
 simp only at hm hn lm ln hg xg hL⊢
 rw [aFt]
 obtain ⟨l,e1,e2⟩:=hn.qk
 simp only [e1,ah,fQ,bQ]
 refine ⟨λhp=>?_,λhz=>?_⟩
 ·have n0:0<n:=e2.1 (by omega)
  refine Y9 hm hn lm ln n0 ?_
  intro q r g2 x2 hq hr
  simp only [eR,fv,fz,ah,true_and]
  have pF:m%n<n:=mod_lt _ n0
  refine hL (vy,r,n,m%n,g2) ⟨⟨hn.mono x2,hr⟩,⟨ln,by show m%n<_;omega⟩,?_,xg.trans x2⟩ pF
  show gcd n (m%n)=_
  rw [<-hg,Nat.gcd_comm m n,Nat.gcd_rec n m,Nat.gcd_comm]
 ·have n0:n=0:=by
   apply byContradiction
   intro bt
   have:=e2.2 (by omega)
   omega
  subst n0
  rw [aFs]
  rw [Nat.gcd_zero_right] at hg
  refine sI hm ?_
  intro h5 x5
  have g':=(xg.trans x5).get x.out
  rw [Bool.false_and]
  refine xZ g' (hk _ _ (((x.ex.trans xg).trans x5).set (by omega) _) ?_)
  rw [<-hg]
  exact (eC.nat (hm.mono x5)).bT g' _
theorem Y3 {va vb:Value} {a b:Int} {h:ae} {K:Value->ae->Prop} (ha:eC h va a) (hb:eC h vb b) (la:a.natAbs<bG) (b0:0<b) (lb:b.natAbs<bG) (hd:b ∣ a) (hk:∀r s h',EX h h'->eC h' r (a / b)->eC h' s 0->K (.tuple #[r,s]) h'):ak prog 121 [va,vb] h K:=by
 obtain ⟨v,rfl,hv⟩:=ha
 obtain ⟨w,rfl,hw⟩:=hb
 have wA:decide (b<0)=false:=aY (by omega)
 obtain ⟨c,rfl⟩:=hd
 have wc:b*c / b=c:=Int.mul_ediv_cancel_left c (by omega)
 rw [wc] at hk
 have iL:(b*c).natAbs=b.natAbs*c.natAbs:=natAbs_mul b c
 have pA:0<b.natAbs:=by omega
 have hq:(b*c).natAbs / b.natAbs=c.natAbs:=by rw [iL];exact Nat.mul_div_cancel_left _ pA
 have hr:(b*c).natAbs%b.natAbs=0:=by rw [iL];exact Nat.mul_mod_right _ _
 have ji:(decide (b*c<0)&&decide (0<c.natAbs))=decide (c<0):=by
  by_cases hc:c<0
  ·rw [bj hc,bj (show 0<c.natAbs by omega),bj (Int.mul_neg_of_pos_of_neg b0 hc)];rfl
  ·have:0<=b*c:=Int.mul_nonneg (by omega) (by omega)
   rw [aY hc,aY (by omega)];rfl
 refine f121 ?_
 have e1:∀(g:ae) (s:Bool) (v:Value),bp 105 g (.agg #[B s,v])=some (pt g.length 0,g++[.arr 105 [B s,v]]):=λ_ _ _=>rfl
 have e2:∀(g:ae),aV 105 [(.bool false),(.slice none 0 0)] g=some (pt g.length 0,g++[.arr 105 [(.bool false),(.slice none 0 0)]]):=λ_=>rfl
 have ob:∀{g:ae} {i:Nat},g[i]?=some (.arr 105 [(.bool false),(.slice none 0 0)])->dh g (pt i 0)=some (.agg #[.int .i64 105,.bool false,.slice none 0 0]):=by
  intro g i hi
  simp [dh,yD,hi,oD]
 rw [wA]
 simp only [O2,e1,e2,aE]
 have q0:EX h (h++[.arr 105 [B (decide (b*c<0)),v]]):=EX.append _ _
 have p0:(h++[aq.arr 105 [B (decide (b*c<0)),v]])[h.length]?=some (.arr 105 [B (decide (b*c<0)),v]):=br
 generalize h++[aq.arr 105 [B (decide (b*c<0)),v]]=ga at q0 p0⊢
 have q1:EX ga (ga++[.arr 105 [B false,w]]):=EX.append _ _
 have p1:(ga++[aq.arr 105 [B false,w]])[ga.length]?=some (.arr 105 [B false,w]):=br
 generalize ga++[aq.arr 105 [B false,w]]=gb at q1 p1⊢
 have q2:EX gb (gb++[.arr 105 [(.bool false),(.slice none 0 0)]]):=EX.append _ _
 have p2:(gb++[aq.arr 105 [(.bool false),(.slice none 0 0)]])[gb.length]?=some (.arr 105 [(.bool false),(.slice none 0 0)]):=br
 generalize gb++[aq.arr 105 [(.bool false),(.slice none 0 0)]]=gc at q2 p2⊢
 have q3:EX gc (gc++[.arr 105 [(.bool false),(.slice none 0 0)]]):=EX.append _ _
 have p3:(gc++[aq.arr 105 [(.bool false),(.slice none 0 0)]])[gc.length]?=some (.arr 105 [(.bool false),(.slice none 0 0)]):=br
 generalize gc++[aq.arr 105 [(.bool false),(.slice none 0 0)]]=gd at q3 p3⊢
 have Ml:=q1.trans (q2.trans q3)
 have Gt:=q0.trans Ml
 have k0:=Ml.get p0
 have k1:=(q2.trans q3).get p1
 have k2:=q3.get p2
 have la1:∀{g:ae},EX gd g->af false 1 g (pt h.length 1)=some v:=λx=>by simp [af,aW,x.get k0,cP]
 have K5:∀{g:ae},EX gd g->af false 1 g (pt h.length 0)=some (B (decide (b*c<0))):=λx=>by simp [af,aW,x.get k0,cP]
 have lb1:∀{g:ae},EX gd g->af false 1 g (pt ga.length 1)=some w:=λx=>by simp [af,aW,x.get k1,cP]
 have UB:∀{g:ae},EX gd g->af false 1 g (pt ga.length 0)=some (B false):=λx=>by simp [af,aW,x.get k1,cP]
 simp only [bZ,zero_add,add_zero,ah,la1 (EX.refl gd),lb1 (EX.refl gd)]
 refine Y9 (hv.mono Gt) (hw.mono Gt) la lb pA ?_
 intro q r g5 x5 mq mr
 rw [hq] at mq
 rw [hr] at mr
 simp only [eR,fv,fz,ah]
 have y1:EX g5 (g5++[.arr 105 [(.bool false),(.slice none 0 0)]]):=EX.append _ _
 have s1:(g5++[aq.arr 105 [(.bool false),(.slice none 0 0)]])[g5.length]?=some (.arr 105 [(.bool false),(.slice none 0 0)]):=br
 have xd:(g5++[aq.arr 105 [(.bool false),(.slice none 0 0)]]).length=g5.length+1:=by simp
 generalize g5++[aq.arr 105 [(.bool false),(.slice none 0 0)]]=g6 at y1 s1 xd⊢
 have y2:EX g6 (g6++[.arr 105 [(.bool false),(.slice none 0 0)]]):=EX.append _ _
 have s2:(g6++[aq.arr 105 [(.bool false),(.slice none 0 0)]])[g6.length]?=some (.arr 105 [(.bool false),(.slice none 0 0)]):=br
 generalize g6++[aq.arr 105 [(.bool false),(.slice none 0 0)]]=g7 at y2 s2⊢
 have XF:=y2.get s1
 have yZ:=y1.trans y2
 have z5:=x5
 have z6:=x5.trans y1
 have z7:=x5.trans yZ
 simp only [ob s1,ob XF,ob s2,ah,true_and,K5 z5,K5 z6,K5 z7,UB z5,UB z6,UB z7,Eu,if_true]
 have hx:(!(decide (b*c<0)==false))=decide (b*c<0):=by cases decide (b*c<0) <;> rfl
 rw [hx]
 refine sI (mq.mono yZ) ?_
 intro g8 x8
 rw [ji]
 simp only [ob (x8.get XF),ob (x8.get s2),true_and,K5 (z7.trans x8),ah]
 refine sI ((mr.mono yZ).mono x8) ?_
 intro g9 x9
 have iF:=x8.trans x9
 have t1:=iF.get XF
 have t2:=iF.get s2
 have bt:g5.length≠g6.length:=by omega
 simp only [ob t1,ob t2,true_and,aY (show ¬(0<0) by decide),Bool.and_false]
 rw [fM t1]
 simp only [aE]
 have MZ:(g9.set g5.length (.arr 105 [B (decide (c<0)),q]))[g6.length]?=some (.arr 105 [(.bool false),(.slice none 0 0)]):=by rw [getElem?_set_ne bt];exact t2
 rw [fM MZ]
 simp only [aE]
 obtain ⟨l,l1,l2⟩:=mr.qk
 have l0:l=0:=by
  apply byContradiction
  intro hc
  have:=l2.1 (by omega)
  omega
 subst l0
 simp only [l1,ah,fQ]
 rw [aY (show ¬((0:Int)<((0:Nat):Int)) by decide)]
 rw [aFv]
 simp only [jV]
 rw [aFw]
 have pk:bF (B false) undef (.bool false)=some (B false):=rfl
 simp only [pk,ah,dD]
 rw [aFu]
 have u1:((g9.set g5.length (.arr 105 [B (decide (c<0)),q])).set g6.length (.arr 105 [B false,r]))[g5.length]?=some (.arr 105 [B (decide (c<0)),q]):=by
  rw [getElem?_set_ne (λe=>bt e.symm)];exact cJ t1
 have u2:((g9.set g5.length (.arr 105 [B (decide (c<0)),q])).set g6.length (.arr 105 [B false,r]))[g6.length]?=some (.arr 105 [B false,r]):=cJ MZ
 have hgd:gd.length<=g5.length:=x5.1
 have yz:EX h ((g9.set g5.length (.arr 105 [B (decide (c<0)),q])).set g6.length (.arr 105 [B false,r])):=
  (((Gt.trans z7).trans iF).set (by have:=Gt.1;omega) _).set (by have:=Gt.1;omega) _
 have lgb:gb.length<gd.length:=by
  have:=(bz k2).1;exact this
 have lgc:gc.length<gd.length:=(bz p3).1
 have w2:((g9.set g5.length (.arr 105 [B (decide (c<0)),q])).set g6.length (.arr 105 [B false,r]))[gb.length]?=some (.arr 105 [(.bool false),(.slice none 0 0)]):=by
  rw [getElem?_set_ne (by omega),getElem?_set_ne (by omega)];exact (z7.trans iF).get k2
 have w3:((g9.set g5.length (.arr 105 [B (decide (c<0)),q])).set g6.length (.arr 105 [B false,r]))[gc.length]?=some (.arr 105 [(.bool false),(.slice none 0 0)]):=by
  rw [getElem?_set_ne (by omega),getElem?_set_ne (by omega)];exact (z7.trans iF).get p3
 have mqf:dL ((g9.set g5.length (.arr 105 [B (decide (c<0)),q])).set g6.length (.arr 105 [B false,r])) q c.natAbs:=(((mq.mono yZ).mono iF).bT t1 _).bT MZ _
 have mrf:dL ((g9.set g5.length (.arr 105 [B (decide (c<0)),q])).set g6.length (.arr 105 [B false,r])) r 0:=(((mr.mono yZ).mono iF).bT t1 _).bT MZ _
 generalize (g9.set g5.length (.arr 105 [B (decide (c<0)),q])).set g6.length (.arr 105 [B false,r])=gz at u1 u2 yz w2 w3 mqf mrf⊢
 rw [cZ u1,cZ u2]
 simp only [ah,true_and]
 rw [fM w2]
 simp only [aE]
 have hbc:gb.length≠gc.length:=by
  have:=(bz p2).1;omega
 have M3:(gz.set gb.length (.arr 105 [B (decide (c<0)),q]))[g6.length]?=some (.arr 105 [B false,r]):=by rw [getElem?_set_ne (by omega)];exact u2
 have Nb:(gz.set gb.length (.arr 105 [B (decide (c<0)),q]))[gc.length]?=some (.arr 105 [(.bool false),(.slice none 0 0)]):=by rw [getElem?_set_ne hbc];exact w3
 rw [cZ M3,fM Nb]
 simp only [true_and,aE]
 have n2:((gz.set gb.length (.arr 105 [B (decide (c<0)),q])).set gc.length (.arr 105 [B false,r]))[gb.length]?=some (.arr 105 [B (decide (c<0)),q]):=by
  rw [getElem?_set_ne (λe=>hbc e.symm)];exact cJ w2
 rw [cZ n2,cZ (cJ Nb)]
 simp only [ah]
 have qe:h.length<=gb.length:=(q0.trans q1).1
 refine hk _ _ _ ((yz.set qe _).set (by have:=(bz p2).1;omega) _) ⟨q,rfl,(mqf.bT w2 _).bT Nb _⟩ ⟨r,rfl,(mrf.bT w2 _).bT Nb _⟩
theorem YV {va vb:Value} {a b:Int} {h:ae} {K:Value->ae->Prop} (ha:eC h va a) (hb:eC h vb b) (la:a.natAbs<bG) (b0:0<b) (lb:b.natAbs<bG)
  (hk:∀r h',EX h h'->iI h' r (a / (gcd a.natAbs b.natAbs:Int)) (b / (gcd a.natAbs b.natAbs:Int))->K r h'):ak prog 106 [va,vb] h K:=by
 obtain ⟨v,rfl,hv⟩:=ha
 obtain ⟨w,rfl,hw⟩:=hb
 have wA:decide (b<0)=false:=aY (by omega)
 obtain ⟨g1p,aK8⟩:=aAN (a:=a) b0
 have S0:(gcd a.natAbs b.natAbs:Int) ∣ a:=Int.gcd_dvd_left ..
 have ye:(gcd a.natAbs b.natAbs:Int) ∣ b:=Int.gcd_dvd_right ..
 refine f106 ?_
 have e1:∀(g:ae) (s:Bool) (v:Value),bp 105 g (.agg #[B s,v])=some (pt g.length 0,g++[.arr 105 [B s,v]]):=λ_ _ _=>rfl
 have e2:∀(g:ae),aV 105 [(.bool false),(.slice none 0 0)] g=some (pt g.length 0,g++[.arr 105 [(.bool false),(.slice none 0 0)]]):=λ_=>rfl
 have e3:∀(g:ae),aV 107 [(.bool false),(.slice none 0 0),(.bool false),(.slice none 0 0)] g=some (pt g.length 0,g++[.arr 107 z4]):=λ_=>rfl
 simp only [OM,e1,e3,aE]
 have q0:EX h (h++[.arr 105 [B (decide (a<0)),v]]):=EX.append _ _
 have p0:(h++[aq.arr 105 [B (decide (a<0)),v]])[h.length]?=some (.arr 105 [B (decide (a<0)),v]):=br
 generalize h++[aq.arr 105 [B (decide (a<0)),v]]=ga at q0 p0⊢
 have q1:EX ga (ga++[.arr 105 [B (decide (b<0)),w]]):=EX.append _ _
 have p1:(ga++[aq.arr 105 [B (decide (b<0)),w]])[ga.length]?=some (.arr 105 [B (decide (b<0)),w]):=br
 generalize ga++[aq.arr 105 [B (decide (b<0)),w]]=gb at q1 p1⊢
 have q2:EX gb (gb++[.arr 107 z4]):=EX.append _ _
 have p2:(gb++[aq.arr 107 z4])[gb.length]?=some (.arr 107 z4):=br
 generalize gb++[aq.arr 107 z4]=gc at q2 p2⊢
 have k0:=(q1.trans q2).get p0
 have k1:=q2.get p1
 have x0:=q0.trans (q1.trans q2)
 have qe:h.length<=gb.length:=(q0.trans q1).1
 have UG:∀{g:ae},EX gc g->af true 2 g (pt h.length 0)=some (.agg #[B (decide (a<0)),v]):=λx=>cZ (x.get k0)
 have UF:∀{g:ae},EX gc g->af true 2 g (pt ga.length 0)=some (.agg #[B (decide (b<0)),w]):=λx=>cZ (x.get k1)
 have KU:∀{g:ae},EX gc g->eC g (.agg #[B (decide (a<0)),v]) a:=λx=>⟨v,rfl,hv.mono (x0.trans x)⟩
 have KV:∀{g:ae},EX gc g->eC g (.agg #[B (decide (b<0)),w]) b:=λx=>⟨w,rfl,hw.mono (x0.trans x)⟩
 have l1:af false 1 gc (pt ga.length 0)=some (B (decide (b<0))):=by simp [af,aW,k1,cP]
 simp only [bZ,add_zero,ah,l1]
 rw [wA]
 simp only [dD]
 rw [aFa]
 rw [UG (EX.refl gc),UF (EX.refl gc)]
 simp only [ah]
 refine Y2 (KU (EX.refl gc)) (KV (EX.refl gc)) la lb ?_
 intro r g3 x3 ir
 simp only [e2,aE]
 have y4:EX g3 (g3++[.arr 105 [(.bool false),(.slice none 0 0)]]):=EX.append _ _
 have s4:(g3++[aq.arr 105 [(.bool false),(.slice none 0 0)]])[g3.length]?=some (.arr 105 [(.bool false),(.slice none 0 0)]):=br
 generalize g3++[aq.arr 105 [(.bool false),(.slice none 0 0)]]=g4 at y4 s4⊢
 obtain ⟨u,rfl,hu⟩:=ir
 have hu4:=(hu.mono y4).bT s4 (.arr 105 [B (decide ((gcd a.natAbs b.natAbs:Int)<0)),u])
 rw [fM s4]
 simp only [aE]
 have rS:gc.length<=g3.length:=x3.1
 have x5:EX gc (g4.set g3.length (.arr 105 [B (decide ((gcd a.natAbs b.natAbs:Int)<0)),u])):=(x3.trans y4).set rS _
 have s5:(g4.set g3.length (.arr 105 [B (decide ((gcd a.natAbs b.natAbs:Int)<0)),u]))[g3.length]?=some (.arr 105 [B (decide ((gcd a.natAbs b.natAbs:Int)<0)),u]):=cJ s4
 generalize g4.set g3.length (.arr 105 [B (decide ((gcd a.natAbs b.natAbs:Int)<0)),u])=g5 at x5 s5 hu4⊢
 have ig:∀{g:ae},EX g5 g->eC g (.agg #[B (decide ((gcd a.natAbs b.natAbs:Int)<0)),u]) (gcd a.natAbs b.natAbs:Int):=λx=>⟨u,rfl,hu4.mono x⟩
 rw [cZ s5]
 simp only [ah,true_and]
 refine DA (by decide) (by decide) ?_
 intro one g6 x6 i1
 rw [cZ (x6.get s5)]
 simp only [true_and]
 have UL:((gcd a.natAbs b.natAbs:Int)).natAbs<bG:=by rw [natAbs_natCast];have:=Nat.gcd_le_right a.natAbs (show 0<b.natAbs by omega);omega
 refine Nt (ig x6) i1 UL (by rw [show (1:Int).natAbs=1 from rfl];exact Bw (by decide)) ?_
 intro g7 x7
 have ee:=x6.trans x7
 have xr:=x5.trans ee
 simp only [hY,ah,bQ]
 refine ⟨λh1=>?_,λh1=>?_⟩
 ·have yl:(gcd a.natAbs b.natAbs:Int)=1:=by
   split at h1
   ·omega
   ·split at h1 <;> omega
  rw [UG xr,UF xr]
  simp only [ah]
  rw [yl,Int.ediv_one,Int.ediv_one] at hk
  exact JM (KU xr) (KV xr) (x0.trans xr) qe (xr.get p2) hk
 ·rw [UG xr,cZ (ee.get s5)]
  simp only [ah]
  refine Y3 (KU xr) (ig ee) la g1p UL S0 ?_
  intro rn sn g8 x8 irn isn
  simp only [eR,fv,fz,ah]
  have y9:EX g8 (g8++[.arr 105 [(.bool false),(.slice none 0 0)]]):=EX.append _ _
  have s9:(g8++[aq.arr 105 [(.bool false),(.slice none 0 0)]])[g8.length]?=some (.arr 105 [(.bool false),(.slice none 0 0)]):=br
  generalize g8++[aq.arr 105 [(.bool false),(.slice none 0 0)]]=g9 at y9 s9⊢
  have yY:EX g9 (g9++[.arr 105 [(.bool false),(.slice none 0 0)]]):=EX.append _ _
  have mL:(g9++[aq.arr 105 [(.bool false),(.slice none 0 0)]])[g9.length]?=some (.arr 105 [(.bool false),(.slice none 0 0)]):=br
  generalize g9++[aq.arr 105 [(.bool false),(.slice none 0 0)]]=gj at yY mL⊢
  have XI:=yY.get s9
  obtain ⟨qn,rfl,qV⟩:=irn
  obtain ⟨zn,rfl,hzn⟩:=isn
  have h98:g8.length≠g9.length:=by have:=(bz s9).1;omega
  rw [fM XI]
  simp only [aE]
  have t10:(gj.set g8.length (.arr 105 [B (decide (a / (gcd a.natAbs b.natAbs:Int)<0)),qn]))[g9.length]?=some (.arr 105 [(.bool false),(.slice none 0 0)]):=by rw [getElem?_set_ne h98];exact mL
  have t9:(gj.set g8.length (.arr 105 [B (decide (a / (gcd a.natAbs b.natAbs:Int)<0)),qn]))[g8.length]?=some (.arr 105 [B (decide (a / (gcd a.natAbs b.natAbs:Int)<0)),qn]):=cJ XI
  have aqW:=y9.trans yY
  have ahZ:=(qV.mono aqW).bT XI (.arr 105 [B (decide (a / (gcd a.natAbs b.natAbs:Int)<0)),qn])
  have YL:=xr.trans x8
  have fO:=ee.trans x8
  have xs1:EX g8 (gj.set g8.length (.arr 105 [B (decide (a / (gcd a.natAbs b.natAbs:Int)<0)),qn])):=aqW.set (le_refl _) _
  generalize gj.set g8.length (.arr 105 [B (decide (a / (gcd a.natAbs b.natAbs:Int)<0)),qn])=qN at t10 t9 ahZ xs1⊢
  rw [fM t10]
  simp only [aE]
  have t9':(qN.set g9.length (.arr 105 [B (decide ((0:Int)<0)),zn]))[g8.length]?=some (.arr 105 [B (decide (a / (gcd a.natAbs b.natAbs:Int)<0)),qn]):=by rw [getElem?_set_ne (λe=>h98 e.symm)];exact t9
  have ah0:=ahZ.bT t10 (.arr 105 [B (decide ((0:Int)<0)),zn])
  have h89:g8.length<=g9.length:=by have:=(bz s9).1;omega
  have Dv:EX g8 (qN.set g9.length (.arr 105 [B (decide ((0:Int)<0)),zn])):=xs1.set h89 _
  generalize qN.set g9.length (.arr 105 [B (decide ((0:Int)<0)),zn])=Cc at t9' ah0 Dv⊢
  rw [UF (YL.trans Dv),cZ ((fO.trans Dv).get s5)]
  simp only [ah]
  refine Y3 (KV (YL.trans Dv)) (ig (fO.trans Dv)) lb g1p UL ye ?_
  intro rd sd nz aB ird isd
  simp only [eR,fv,fz,ah]
  have Dw:EX nz (nz++[.arr 105 [(.bool false),(.slice none 0 0)]]):=EX.append _ _
  have MD:(nz++[aq.arr 105 [(.bool false),(.slice none 0 0)]])[nz.length]?=some (.arr 105 [(.bool false),(.slice none 0 0)]):=br
  generalize nz++[aq.arr 105 [(.bool false),(.slice none 0 0)]]=py at Dw MD⊢
  have G0:EX py (py++[.arr 105 [(.bool false),(.slice none 0 0)]]):=EX.append _ _
  have yK:(py++[aq.arr 105 [(.bool false),(.slice none 0 0)]])[py.length]?=some (.arr 105 [(.bool false),(.slice none 0 0)]):=br
  generalize py++[aq.arr 105 [(.bool false),(.slice none 0 0)]]=vW at G0 yK⊢
  have XG:=G0.get MD
  obtain ⟨qd,rfl,Fc⟩:=ird
  obtain ⟨zd,rfl,hzd⟩:=isd
  have agV:nz.length≠py.length:=by have:=(bz MD).1;omega
  rw [fM XG]
  simp only [aE]
  have aqV:=Dw.trans G0
  have t15:(vW.set nz.length (.arr 105 [B (decide (b / (gcd a.natAbs b.natAbs:Int)<0)),qd]))[py.length]?=some (.arr 105 [(.bool false),(.slice none 0 0)]):=by rw [getElem?_set_ne agV];exact yK
  have t14:(vW.set nz.length (.arr 105 [B (decide (b / (gcd a.natAbs b.natAbs:Int)<0)),qd]))[nz.length]?=some (.arr 105 [B (decide (b / (gcd a.natAbs b.natAbs:Int)<0)),qd]):=cJ XG
  have ahX:=(Fc.mono aqV).bT XG (.arr 105 [B (decide (b / (gcd a.natAbs b.natAbs:Int)<0)),qd])
  have xs3:EX nz (vW.set nz.length (.arr 105 [B (decide (b / (gcd a.natAbs b.natAbs:Int)<0)),qd])):=aqV.set (le_refl _) _
  generalize vW.set nz.length (.arr 105 [B (decide (b / (gcd a.natAbs b.natAbs:Int)<0)),qd])=JW at t15 t14 ahX xs3⊢
  rw [fM t15]
  simp only [aE]
  have aqE:(JW.set py.length (.arr 105 [B (decide ((0:Int)<0)),zd]))[nz.length]?=some (.arr 105 [B (decide (b / (gcd a.natAbs b.natAbs:Int)<0)),qd]):=by rw [getElem?_set_ne (λe=>agV e.symm)];exact t14
  have ahY:=ahX.bT t15 (.arr 105 [B (decide ((0:Int)<0)),zd])
  have h13:nz.length<=py.length:=by have:=(bz MD).1;omega
  have Nm:EX nz (JW.set py.length (.arr 105 [B (decide ((0:Int)<0)),zd])):=xs3.set h13 _
  generalize JW.set py.length (.arr 105 [B (decide ((0:Int)<0)),zd])=Sv at aqE ahY Nm⊢
  rw [cZ ((aB.trans Nm).get t9'),cZ aqE]
  simp only [ah]
  have aqX:=YL.trans (Dv.trans (aB.trans Nm))
  exact JM ⟨qn,rfl,ah0.mono (aB.trans Nm)⟩ ⟨qd,rfl,ahY⟩ (x0.trans aqX) qe (aqX.get p2) hk
theorem arD {va vb:Value} {a b c d:Int} {h:ae} {K:Value->ae->Prop} (ha:iI h va a b) (hb:iI h vb c d) (la:a.natAbs<bG) (lb:b.natAbs<bG) (lc:c.natAbs<bG) (ld:d.natAbs<bG) (FD:(a*d).natAbs<bG) (b0:0<b*c) (lbc:(b*c).natAbs<bG)
  (hk:∀r h',EX h h'->iI h' r (a*d / (gcd (a*d).natAbs (b*c).natAbs:Int)) (b*c / (gcd (a*d).natAbs (b*c).natAbs:Int))->K r h'):ak prog 77 [va,vb] h K:=by
 obtain ⟨u,w,rfl,hu,hw⟩:=ha
 obtain ⟨u2,w2,rfl,qg,pH⟩:=hb
 refine f77 ?_
 have e1:∀(g:ae) (s t:Bool) (v w:Value),bp 107 g (.agg #[B s,v,B t,w])=some (pt g.length 0,g++[.arr 107 [B s,v,B t,w]]):=λ_ _ _ _ _=>rfl
 have e3:∀(g:ae),aV 107 [(.bool false),(.slice none 0 0),(.bool false),(.slice none 0 0)] g=some (pt g.length 0,g++[.arr 107 z4]):=λ_=>rfl
 simp only [P4,e1,e3,aE]
 have q0:EX h (h++[.arr 107 [B (decide (a<0)),u,B (decide (b<0)),w]]):=EX.append _ _
 have p0:(h++[aq.arr 107 [B (decide (a<0)),u,B (decide (b<0)),w]])[h.length]?=some (.arr 107 [B (decide (a<0)),u,B (decide (b<0)),w]):=br
 generalize h++[aq.arr 107 [B (decide (a<0)),u,B (decide (b<0)),w]]=ga at q0 p0⊢
 have q1:EX ga (ga++[.arr 107 [B (decide (c<0)),u2,B (decide (d<0)),w2]]):=EX.append _ _
 have p1:(ga++[aq.arr 107 [B (decide (c<0)),u2,B (decide (d<0)),w2]])[ga.length]?=some (.arr 107 [B (decide (c<0)),u2,B (decide (d<0)),w2]):=br
 generalize ga++[aq.arr 107 [B (decide (c<0)),u2,B (decide (d<0)),w2]]=gb at q1 p1⊢
 have q2:EX gb (gb++[.arr 107 z4]):=EX.append _ _
 have p2:(gb++[aq.arr 107 z4])[gb.length]?=some (.arr 107 z4):=br
 generalize gb++[aq.arr 107 z4]=gc at q2 p2⊢
 have k0:=(q1.trans q2).get p0
 have k1:=q2.get p1
 have x0:=q0.trans (q1.trans q2)
 have qe:h.length<=gb.length:=(q0.trans q1).1
 simp only [bZ,zero_add,ah]
 rw [kl k0,lL k1]
 simp only [ah,true_and]
 refine tZ (a:=a) (b:=d) ⟨u,rfl,hu.mono x0⟩ ⟨w2,rfl,pH.mono x0⟩ la ld ?_
 intro r1 g4 x4 i1
 rw [lL (x4.get k0),kl (x4.get k1)]
 simp only [lL k0,kl k1,ah,true_and]
 refine tZ (a:=b) (b:=c) ⟨w,rfl,(hw.mono x0).mono x4⟩ ⟨u2,rfl,(qg.mono x0).mono x4⟩ lb lc ?_
 intro r2 g5 x5 i2
 refine YV (i1.mono x5) i2 FD b0 lbc ?_
 intro r g6 x6 ir
 have cI:=x4.trans (x5.trans x6)
 have g2:=cI.get p2
 obtain ⟨y,z,rfl,hy,hz⟩:=ir
 exact rO g2 (hk _ _ ((x0.trans cI).set qe _) ⟨y,z,rfl,hy.bT g2 _,hz.bT g2 _⟩)
end
section
variable (P : Program) (K : VK)
noncomputable section
variable (a0 : Value) (h : ae)
def alz:=bE prog 81 [[],[]]
@[irreducible] def c81:=bM alz
theorem k81:alz=some (6,c81,[.tmp 2]):=by kernel_rfl
def P6:Prop:=
 OH (bp 107 h a0) λa1 z1=>
 OP (aJ 0 a1) λx3=>
 OP (af true 2 z1 x3) λx4=>
 ak P 109 [x4] z1 λx5 z2=>
 K x5 z2
theorem e81:aj P c81 (aT [.tmp 2] K) (bw [a0]) h=P6 P K a0 h:=by kernel_rfl
theorem f81 {K:VK} {a0:Value} {h:ae} (H:P6 prog K a0 h):ak prog 81 [a0] h K:=
 bN k81 (bJ rfl) ((e81 prog K a0 h).mpr H)
end
noncomputable section
variable (a0 x1 a2 aD aK : Value) (h : ae)
def alC:=bE prog 84 [[],[1,2,12],[12,19],[]]
@[irreducible] def Jh:=bM alC
@[irreducible] def afh:=Jh.r.l.r.l
@[irreducible] def ayk:=Jh.r.r
@[irreducible] def ayl:=afh.r.l
theorem K0:alC=some (21,Jh,[.tmp 4]):=by kernel_rfl
def aa0 (_P:Program) (K:VK):ar:=aT [.tmp 4] K
def aa1:ar:=aH (aj P ayk (aa0 P K)) (aa0 P K)
def aop:Prop:=ax (aj P afh (aa1 P K)) [1,2,12] [x1,a2,aD] h
def WK:Prop:=ax (aj P ayl (aa1 P K)) [12,19] [aD,aK] h
theorem apY:WK P K aD aK h=
 (OP (bF aD aK (.bool false)) λaU=>
 K aU h):=az (by kernel_rfl)
theorem aIh:aop P K x1 a2 aD h=
 (ck aD true
 (OP (aJ 2 a2) λaB=>
 OP (aJ 1 aB) λaA=>
 OP (af false 1 h aA) λaP=>
 ak P 89 [aP] h λaL z1=>
 OP (gK aL) λbK=>
 OP (ai .leq bK x1) λaK=>
 WK P K aD aK z1)
 (WK P K aD undef h)):=az (by kernel_rfl)
def P9:Prop:=
 OH (bp 107 h a0) λa2 z1=>
 OP (aJ 0 a2) λx5=>
 OP (aJ 1 x5) λx6=>
 OP (af false 1 z1 x6) λx7=>
 ak P 89 [x7] z1 λx8 z2=>
 OP (gK x8) λx9=>
 OP (ai .leq x9 x1) λau=>
 aop P K x1 a2 au z2
theorem e84:aj P Jh (aT [.tmp 4] K) (bw [a0,x1]) h=P9 P K a0 x1 h:=by kernel_rfl
theorem f84 {K:VK} {a0 x1:Value} {h:ae} (H:P9 prog K a0 x1 h):ak prog 84 [a0,x1] h K:=
 bN K0 (bJ rfl) ((e84 prog K a0 x1 h).mpr H)
end
noncomputable section
variable (a0 b1 : Value) (h : ae)
def alE:=bE prog 86 [[],[]]
@[irreducible] def Jj:=bM alE
theorem Ux:alE=some (16,Jj,[.tmp 4]):=by kernel_rfl
def Qb:Prop:=
 OH (bp 107 h a0) λa2 z1=>
 OH (bp 107 z1 b1) λb3 z2=>
 OP (aJ 0 a2) λx5=>
 OP (af true 2 z2 x5) λx6=>
 (True)/\
 OP (aJ 2 b3) λx7=>
 OP (af true 2 z2 x7) λx8=>
 (True)/\
 ak P 107 [x6,x8] z2 λx9 z3=>
 (True)/\
 OP (aJ 0 b3) λay=>
 OP (af true 2 z3 ay) λau=>
 (af true 2 z2 ay=some au/\True)/\
 OP (aJ 2 a2) λaD=>
 OP (af true 2 z3 aD) λaB=>
 (af true 2 z2 aD=some aB/\True)/\
 ak P 107 [au,aB] z3 λaA z4=>
 (True)/\
 ak P 111 [x9,aA] z4 λaP z5=>
 (True)/\
 K aP z5
theorem e86:aj P Jj (aT [.tmp 4] K) (bw [a0,b1]) h=Qb P K a0 b1 h:=by kernel_rfl
theorem f86 {K:VK} {a0 b1:Value} {h:ae} (H:Qb prog K a0 b1 h):ak prog 86 [a0,b1] h K:=
 bN Ux (bJ rfl) ((e86 prog K a0 b1 h).mpr H)
end
noncomputable section
variable (a0 b1 a2 b3 x4 x7 x9 : Value) (h : ae)
def alF:=bE prog 87 [[],[2,3,4,7],[2,3,4,7,9],[],[],[],[]]
@[irreducible] def Ed:=bM alF
@[irreducible] def afj:=Ed.r.l.l.r.l
@[irreducible] def ayp:=Ed.r.l.r
@[irreducible] def ayo:=Ed.r.r
@[irreducible] def ayq:=afj.r.l
theorem k87:alF=some (34,Ed,[.cell true 4 4]):=by kernel_rfl
def aa2 (_P:Program) (K:VK):ar:=aT [.cell true 4 4] K
def aa3:ar:=aH (aj P ayo (aa2 P K)) (aa2 P K)
def aa4:ar:=aH (aj P ayp (aa3 P K)) (aa3 P K)
def aos:Prop:=ax (aj P afj (aa4 P K)) [2,3,4,7] [a2,b3,x4,x7] h
def L7:Prop:=ax (aj P ayq (aa4 P K)) [2,3,4,7,9] [a2,b3,x4,x7,x9] h
theorem aIl:L7 P K a2 b3 x4 x7 x9 h=
 (OP (bF x7 x9 (.bool false)) λay=>
 aN ay
 (OP (aJ 0 a2) λau=>
 OP (af true 2 h au) λaD=>
 OP (aJ 0 b3) λaB=>
 OP (af true 2 h aB) λaA=>
 ak P 113 [aD,aA] h λaP z1=>
 ak P 112 [aP] z1 λaL z2=>
 OH (aG 4 z2 x4 aL) λ_ z3=>
 OP (af true 4 z3 x4) λr0=>
 K r0 z3)
 (OP (aJ 0 a2) λbK=>
 OP (af true 2 h bK) λaS=>
 (True)/\
 OP (aJ 2 b3) λaK=>
 OP (af true 2 h aK) λaU=>
 (True)/\
 ak P 107 [aS,aU] h λba z1=>
 (True)/\
 OP (aJ 0 b3) λbO=>
 OP (af true 2 z1 bO) λcB=>
 (af true 2 h bO=some cB/\True)/\
 OP (aJ 2 a2) λbL=>
 OP (af true 2 z1 bL) λbX=>
 (af true 2 h bL=some bX/\True)/\
 ak P 107 [cB,bX] z1 λcV z2=>
 (True)/\
 ak P 113 [ba,cV] z2 λb9 z3=>
 (True)/\
 OP (aJ 2 a2) λcG=>
 OP (af true 2 z3 cG) λcM=>
 (af true 2 h cG=some cM/\af true 2 z1 cG=some cM/\af true 2 z2 cG=some cM/\True)/\
 OP (aJ 2 b3) λdm=>
 OP (af true 2 z3 dm) λcC=>
 (af true 2 h dm=some cC/\af true 2 z1 dm=some cC/\af true 2 z2 dm=some cC/\True)/\
 ak P 107 [cM,cC] z3 λbV z4=>
 (True)/\
 ak P 106 [b9,bV] z4 λdK z5=>
 (True)/\
 OH (aG 4 z5 x4 dK) λ_ z6=>
 (True)/\
 OP (af true 4 z6 x4) λr0=>
 K r0 z6)):=az (by kernel_rfl)
theorem aIk:aos P K a2 b3 x4 x7 h=
 (ck x7 true
 (OP (af true 4 h b3) λx8=>
 ak P 90 [x8] h λx9 z1=>
 L7 P K a2 b3 x4 x7 x9 z1)
 (L7 P K a2 b3 x4 x7 undef h)):=az (by kernel_rfl)
def Qc:Prop:=
 OH (bp 107 h a0) λa2 z1=>
 OH (bp 107 z1 b1) λb3 z2=>
 OH (aV 107 [(.bool false),(.slice none 0 0),(.bool false),(.slice none 0 0)] z2) λx4 z3=>
 OP (af true 4 z3 a2) λx5=>
 ak P 90 [x5] z3 λx6 z4=>
 aos P K a2 b3 x4 x6 z4
theorem e87:aj P Ed (aT [.cell true 4 4] K) (bw [a0,b1]) h=Qc P K a0 b1 h:=by kernel_rfl
theorem f87 {K:VK} {a0 b1:Value} {h:ae} (H:Qc prog K a0 b1 h):ak prog 87 [a0,b1] h K:=
 bN k87 (bJ rfl) ((e87 prog K a0 b1 h).mpr H)
end
noncomputable section
variable (a0 b1 a2 b3 x4 x7 x9 : Value) (h : ae)
def alG:=bE prog 88 [[],[2,3,4,7],[2,3,4,7,9],[],[],[],[]]
@[irreducible] def Ee:=bM alG
@[irreducible] def afk:=Ee.r.l.l.r.l
@[irreducible] def ays:=Ee.r.l.r
@[irreducible] def ayr:=Ee.r.r
@[irreducible] def ayt:=afk.r.l
theorem k88:alG=some (28,Ee,[.cell true 4 4]):=by kernel_rfl
def aa5 (_P:Program) (K:VK):ar:=aT [.cell true 4 4] K
def aa6:ar:=aH (aj P ayr (aa5 P K)) (aa5 P K)
def aa7:ar:=aH (aj P ays (aa6 P K)) (aa6 P K)
def aot:Prop:=ax (aj P afk (aa7 P K)) [2,3,4,7] [a2,b3,x4,x7] h
def L8:Prop:=ax (aj P ayt (aa7 P K)) [2,3,4,7,9] [a2,b3,x4,x7,x9] h
theorem aIn:L8 P K a2 b3 x4 x7 x9 h=
 (OP (bF x7 x9 (.bool false)) λay=>
 aN ay
 (OP (aJ 0 a2) λau=>
 OP (af true 2 h au) λaD=>
 OP (aJ 0 b3) λaB=>
 OP (af true 2 h aB) λaA=>
 ak P 107 [aD,aA] h λaP z1=>
 ak P 112 [aP] z1 λaL z2=>
 OH (aG 4 z2 x4 aL) λ_ z3=>
 OP (af true 4 z3 x4) λr0=>
 K r0 z3)
 (OP (aJ 0 a2) λbK=>
 OP (af true 2 h bK) λaS=>
 (True)/\
 OP (aJ 0 b3) λaK=>
 OP (af true 2 h aK) λaU=>
 (True)/\
 ak P 107 [aS,aU] h λba z1=>
 (True)/\
 OP (aJ 2 a2) λbO=>
 OP (af true 2 z1 bO) λcB=>
 (af true 2 h bO=some cB/\True)/\
 OP (aJ 2 b3) λbL=>
 OP (af true 2 z1 bL) λbX=>
 (af true 2 h bL=some bX/\True)/\
 ak P 107 [cB,bX] z1 λcV z2=>
 (True)/\
 ak P 106 [ba,cV] z2 λb9 z3=>
 (True)/\
 OH (aG 4 z3 x4 b9) λ_ z4=>
 (True)/\
 OP (af true 4 z4 x4) λr0=>
 K r0 z4)):=az (by kernel_rfl)
theorem aIm:aot P K a2 b3 x4 x7 h=
 (ck x7 true
 (OP (af true 4 h b3) λx8=>
 ak P 90 [x8] h λx9 z1=>
 L8 P K a2 b3 x4 x7 x9 z1)
 (L8 P K a2 b3 x4 x7 undef h)):=az (by kernel_rfl)
def Qd:Prop:=
 OH (bp 107 h a0) λa2 z1=>
 OH (bp 107 z1 b1) λb3 z2=>
 OH (aV 107 [(.bool false),(.slice none 0 0),(.bool false),(.slice none 0 0)] z2) λx4 z3=>
 OP (af true 4 z3 a2) λx5=>
 ak P 90 [x5] z3 λx6 z4=>
 aot P K a2 b3 x4 x6 z4
theorem e88:aj P Ee (aT [.cell true 4 4] K) (bw [a0,b1]) h=Qd P K a0 b1 h:=by kernel_rfl
theorem f88 {K:VK} {a0 b1:Value} {h:ae} (H:Qd prog K a0 b1 h):ak prog 88 [a0,b1] h K:=
 bN k88 (bJ rfl) ((e88 prog K a0 b1 h).mpr H)
end
noncomputable section
variable (a0 b1 : Value) (h : ae)
def alN:=bE prog 96 [[],[]]
@[irreducible] def c96:=bM alN
theorem k96:alN=some (9,c96,[.cell true 4 4]):=by kernel_rfl
def Qj:Prop:=
 OH (bp 107 h a0) λa2 z1=>
 OH (bp 107 z1 b1) λb3 z2=>
 OH (aV 107 [(.bool false),(.slice none 0 0),(.bool false),(.slice none 0 0)] z2) λx4 z3=>
 OP (af true 4 z3 a2) λx5=>
 (True)/\
 OP (af true 4 z3 b3) λx6=>
 (True)/\
 ak P 116 [x6] z3 λx7 z4=>
 (af true 4 z4 a2=some x5/\True)/\
 ak P 87 [x5,x7] z4 λx8 z5=>
 (True)/\
 OH (aG 4 z5 x4 x8) λ_ z6=>
 (True)/\
 OP (af true 4 z6 x4) λr0=>
 K r0 z6
theorem e96:aj P c96 (aT [.cell true 4 4] K) (bw [a0,b1]) h=Qj P K a0 b1 h:=by kernel_rfl
theorem f96 {K:VK} {a0 b1:Value} {h:ae} (H:Qj prog K a0 b1 h):ak prog 96 [a0,b1] h K:=
 bN k96 (bJ rfl) ((e96 prog K a0 b1 h).mpr H)
end
noncomputable section
variable (a0 : Value) (h : ae)
def akm:=bE prog 116 [[],[]]
@[irreducible] def ach:=bM akm
theorem aDg:akm=some (9,ach,[.cell true 4 2]):=by kernel_rfl
def OY:Prop:=
 OH (bp 107 h a0) λa1 z1=>
 OH (aV 107 [(.bool false),(.slice none 0 0),(.bool false),(.slice none 0 0)] z1) λx2 z2=>
 OP (aJ 0 a1) λx3=>
 OP (af true 2 z2 x3) λx4=>
 (True)/\
 ak P 119 [x4] z2 λx5 z3=>
 (True)/\
 OP (aJ 2 a1) λx6=>
 OP (af true 2 z3 x6) λx7=>
 (af true 2 z2 x6=some x7/\True)/\
 OP (dC [(.bool false),(.slice none 0 0),(.bool false),(.slice none 0 0)] [(0,2,x5),(2,2,x7)]) λx8=>
 OH (aG 4 z3 x2 x8) λ_ z4=>
 (True)/\
 OP (af true 4 z4 x2) λr0=>
 K r0 z4
theorem azE:aj P ach (aT [.cell true 4 2] K) (bw [a0]) h=OY P K a0 h:=by kernel_rfl
theorem f116 {K:VK} {a0:Value} {h:ae} (H:OY prog K a0 h):ak prog 116 [a0] h K:=
 bN aDg (bJ rfl) ((azE prog K a0 h).mpr H)
end
end
section
def RV (h:ae) (v:Value) (q:Rat):Prop:=iI h v q.num (q.den:Int)
theorem RV.mono {h h':ae} {v:Value} {q:Rat} (x:EX h h') (p:RV h v q):RV h' v q:=iI.mono x p
def cd (k:Nat) (q:Rat):Prop:=q.num.natAbs<10^k/\q.den<10^k
def aiZ:Nat:=900
theorem aEQ:(10:Nat)^aiZ<=bG:=by unfold bG;decide+kernel
theorem qq {k:Nat} (h:k<=900):10^k<=bG:=Nat.le_trans (pow_le_pow_right (by decide) (show k<=aiZ from h)) aEQ
theorem FO {a b i j:Nat} (ha:a<10^i) (hb:b<10^j):a*b<10^(i+j):=by
 rw [pow_add]
 exact Nat.mul_lt_mul'' ha hb
theorem A8 {N:Int} {D:Nat} (hD:0<D):(mkRat N D).num=N / (gcd N.natAbs D:Int)/\(mkRat N D).den=D / gcd N.natAbs D:=by
 rw [<-Rat.normalize_eq_mkRat (by omega:D≠0),Rat.normalize_eq]
 exact ⟨rfl,rfl⟩
theorem YW {va vb:Value} {N:Int} {D:Nat} {h:ae} {K:Value->ae->Prop} (ha:eC h va N) (hb:eC h vb (D:Int)) (la:N.natAbs<bG) (d0:0<D) (lb:D<bG) (hk:∀r h',EX h h'->RV h' r (mkRat N D)->K r h'):ak prog 106 [va,vb] h K:=by
 refine YV ha hb la (by omega) (by rw [natAbs_natCast];exact lb) ?_
 intro r h' x hr
 refine hk r h' x ?_
 obtain ⟨e1,e2⟩:=A8 (N:=N) d0
 unfold RV
 rw [e1,e2,Int.natCast_ediv]
 rw [natAbs_natCast] at hr
 exact hr
theorem cd.fA {k:Nat} {q:Rat} (h:cd k q) (hk:k<=900):q.num.natAbs<bG/\q.den<bG:=by
 have:=qq hk
 exact ⟨lt_of_lt_of_le h.1 this,lt_of_lt_of_le h.2 this⟩
theorem zS {i j:Nat} {p q:Rat} (hp:cd i p) (hq:cd j q):(p.num*q.den).natAbs<10^(i+j)/\(q.num*p.den).natAbs<10^(i+j)/\p.den*q.den<10^(i+j)/\(p.num*q.num).natAbs<10^(i+j):=by
 refine ⟨?_,?_,FO hp.2 hq.2,?_⟩
 ·rw [natAbs_mul,natAbs_natCast];exact FO hp.1 hq.2
 ·rw [natAbs_mul,natAbs_natCast,mul_comm];exact FO hp.2 hq.1
 ·rw [natAbs_mul];exact FO hp.1 hq.1
theorem ajF (n:Int):(mkRat n 1).num=n/\(mkRat n 1).den=1:=by
 obtain ⟨e1,e2⟩:=A8 (N:=n) (D:=1) (by decide)
 rw [Nat.gcd_one_right] at e1 e2
 exact ⟨by rw [e1];simp,by rw [e2]⟩
theorem Qm (p q:Rat):p+q=mkRat (p.num*q.den+q.num*p.den) (p.den*q.den):=by rw [Rat.add_def,Rat.normalize_eq_mkRat]
theorem UZ (p q:Rat):p*q=mkRat (p.num*q.num) (p.den*q.den):=by rw [Rat.mul_def,Rat.normalize_eq_mkRat]
section
variable {va vb : Value} {p q : Rat} {i j : Nat} {h : ae} {K : Value -> ae -> Prop}
theorem zi (ha:RV h va p) (hb:RV h vb q) (sp:cd i p) (sq:cd j q) (eW:i+j<=800) (hk:∀r h',EX h h'->RV h' r (p+q)->K r h'):ak prog 87 [va,vb] h K:=by
 obtain ⟨u,w,rfl,hu,hw⟩:=ha
 obtain ⟨u2,w2,rfl,qg,pH⟩:=hb
 have pd:=p.den_pos
 have qd:=q.den_pos
 obtain ⟨wT,uZ⟩:=sp.fA (by omega)
 obtain ⟨wU,u7⟩:=sq.fA (by omega)
 obtain ⟨c1,c2,c3,_⟩:=zS sp sq
 have cb:=qq (k:=i+j) (by omega)
 have cb1:=qq (k:=i+j+1) (by omega)
 have jF:decide ((p.den:Int)<0)=false:=aY (by omega)
 have mb:decide ((q.den:Int)<0)=false:=aY (by omega)
 rw [natAbs_natCast] at hw pH
 rw [jF,mb]
 refine f87 ?_
 have e1:∀(g:ae) (s t:Bool) (v w:Value),bp 107 g (.agg #[B s,v,B t,w])=some (pt g.length 0,g++[.arr 107 [B s,v,B t,w]]):=λ_ _ _ _ _=>rfl
 have e3:∀(g:ae),aV 107 [(.bool false),(.slice none 0 0),(.bool false),(.slice none 0 0)] g=some (pt g.length 0,g++[.arr 107 z4]):=λ_=>rfl
 simp only [Qc,e1,e3,aE]
 have q0:EX h (h++[.arr 107 [B (decide (p.num<0)),u,B false,w]]):=EX.append _ _
 have p0:(h++[aq.arr 107 [B (decide (p.num<0)),u,B false,w]])[h.length]?=some (.arr 107 [B (decide (p.num<0)),u,B false,w]):=br
 generalize h++[aq.arr 107 [B (decide (p.num<0)),u,B false,w]]=ga at q0 p0⊢
 have q1:EX ga (ga++[.arr 107 [B (decide (q.num<0)),u2,B false,w2]]):=EX.append _ _
 have p1:(ga++[aq.arr 107 [B (decide (q.num<0)),u2,B false,w2]])[ga.length]?=some (.arr 107 [B (decide (q.num<0)),u2,B false,w2]):=br
 generalize ga++[aq.arr 107 [B (decide (q.num<0)),u2,B false,w2]]=gb at q1 p1⊢
 have q2:EX gb (gb++[.arr 107 z4]):=EX.append _ _
 have p2:(gb++[aq.arr 107 z4])[gb.length]?=some (.arr 107 z4):=br
 generalize gb++[aq.arr 107 z4]=gc at q2 p2⊢
 have k0:=(q1.trans q2).get p0
 have k1:=q2.get p1
 have x0:=q0.trans (q1.trans q2)
 have qe:h.length<=gb.length:=(q0.trans q1).1
 have done:∀{N:Int} {D:Nat} {r:Value} {g:ae},EX gc g->RV g r (mkRat N D)->p+q=mkRat N D->OH (aG 4 g (pt gb.length 0) r) λ_ h_3=>OP (af true 4 h_3 (pt gb.length 0)) λr0=>K r0 h_3:=by
  intro N D r g xg hr he
  rw [<-he] at hr
  have g2:=xg.get p2
  obtain ⟨y,z,rfl,hy,hz⟩:=hr
  exact rO g2 (hk _ _ ((x0.trans xg).set qe _) ⟨y,z,rfl,hy.bT g2 _,hz.bT g2 _⟩)
 simp only [gX k0,ah]
 refine DE (hw.mono x0) uZ ?_
 intro g4 x4
 have tJ:=x4.get k0
 have lJ:=x4.get k1
 have yS:=x0.trans x4
 rw [aIk]
 have whole:∀t u':Value,bF t u' (.bool false)=some (B (decide (p.den=1)&&decide (q.den=1)))->∀{g5:ae},EX g4 g5->L7 prog K (pt h.length 0) (pt ga.length 0) (pt gb.length 0) t u' g5:=by
  intro t u' ht g5 x5
  have k0:=x5.get tJ
  have k1:=x5.get lJ
  have nf:=yS.trans x5
  have cS:=x4.trans x5
  rw [aIl,ht]
  simp only [ah]
  by_cases mE:p.den=1/\q.den=1
  ·rw [bj mE.1,bj mE.2]
   simp only [Bool.and_true,dA,bZ,zero_add,ah]
   rw [kl k0]
   simp only [ah]
   rw [kl k1]
   simp only [ah]
   refine Nu (a:=p.num) (b:=q.num) ⟨u,rfl,hu.mono nf⟩ ⟨u2,rfl,qg.mono nf⟩ wT wU ?_
   intro r1 g6 x6 i1
   refine YZ i1 ?_
   intro r2 g7 x7 i2
   obtain ⟨n1,n2⟩:=ajF (p.num+q.num)
   refine done (N:=p.num+q.num) (D:=1) (cS.trans (x6.trans x7)) (by unfold RV;rw [n1,n2];exact i2) ?_
   rw [Qm,mE.1,mE.2]
   simp
  ·have hf:(decide (p.den=1)&&decide (q.den=1))=false:=by
    rw [Bool.and_eq_false_iff,decide_eq_false_iff_not,decide_eq_false_iff_not]
    by_cases h1:p.den=1
    ·exact .inr λh2=>mE ⟨h1,h2⟩
    ·exact .inl h1
   rw [hf]
   have oS:∀{g:ae},EX g5 g->af true 2 g (pt h.length 0)=some (.agg #[B (decide (p.num<0)),u]):=λx=>kl (x.get k0)
   have wO:∀{g:ae},EX g5 g->af true 2 g (pt h.length 2)=some (.agg #[B false,w]):=λx=>lL (x.get k0)
   have K6:∀{g:ae},EX g5 g->af true 2 g (pt ga.length 0)=some (.agg #[B (decide (q.num<0)),u2]):=λx=>kl (x.get k1)
   have AY:∀{g:ae},EX g5 g->af true 2 g (pt ga.length 2)=some (.agg #[B false,w2]):=λx=>lL (x.get k1)
   have iw:∀{g:ae},EX g5 g->eC g (.agg #[B false,w]) (p.den:Int):=λx=>eC.nat (hw.mono (nf.trans x))
   have KW:∀{g:ae},EX g5 g->eC g (.agg #[B false,w2]) (q.den:Int):=λx=>eC.nat (pH.mono (nf.trans x))
   simp only [dD,bZ,zero_add,ah,oS (EX.refl g5),AY (EX.refl g5),true_and]
   refine tZ (a:=p.num) (b:=(q.den:Int)) ⟨u,rfl,hu.mono nf⟩ (KW (EX.refl g5)) wT (by rw [natAbs_natCast];exact u7) ?_
   intro r1 g6 x6 i1
   simp only [K6 x6,K6 (EX.refl g5),wO x6,wO (EX.refl g5),ah,true_and]
   refine tZ (a:=q.num) (b:=(p.den:Int)) ⟨u2,rfl,(qg.mono nf).mono x6⟩ (iw x6) wU (by rw [natAbs_natCast];exact uZ) ?_
   intro r2 g7 x7 i2
   have gC:=x6.trans x7
   refine Nu (i1.mono x7) i2 (by omega) (by omega) ?_
   intro r3 g8 x8 i3
   have fw:=gC.trans x8
   simp only [wO fw,wO gC,AY fw,AY x6,AY gC,ah,true_and]
   refine tZ (iw fw) (KW fw) (by rw [natAbs_natCast];exact uZ) (by rw [natAbs_natCast];exact u7) ?_
   intro r4 g9 x9 i4
   rw [<-Int.natCast_mul] at i4
   have KJ:(p.num*q.den+q.num*p.den).natAbs<bG:=by
    have h1:10^(i+j+1)=10^(i+j)*10:=pow_succ ..
    generalize 10^(i+j)=Z at*
    omega
   refine YW (i3.mono x9) i4 KJ (Nat.mul_pos pd qd) (lt_of_lt_of_le c3 cb) ?_
   intro r gj ay ir
   exact done (cS.trans (fw.trans (x9.trans ay))) ir (Qm p q)
 by_cases h1:p.den=1
 ·rw [bj h1]
  simp only [fP,gX lJ,ah]
  refine DE (pH.mono yS) u7 ?_
  intro g5 x5
  refine whole _ _ ?_ x5
  rw [h1];simp
 ·rw [aY h1]
  simp only [jV]
  refine whole _ _ ?_ (EX.refl g4)
  rw [aY h1];simp
end
end
section
section
variable {va vb : Value} {p q : Rat} {i j : Nat} {h : ae} {K : Value -> ae -> Prop}
theorem NG (ha:RV h va p) (hb:RV h vb q) (sp:cd i p) (sq:cd j q) (eW:i+j<=800) (hk:∀r h',EX h h'->RV h' r (p*q)->K r h'):ak prog 88 [va,vb] h K:=by
 obtain ⟨u,w,rfl,hu,hw⟩:=ha
 obtain ⟨u2,w2,rfl,qg,pH⟩:=hb
 have pd:=p.den_pos
 have qd:=q.den_pos
 obtain ⟨wT,uZ⟩:=sp.fA (by omega)
 obtain ⟨wU,u7⟩:=sq.fA (by omega)
 obtain ⟨_,_,c3,c4⟩:=zS sp sq
 have cb:=qq (k:=i+j) (by omega)
 have jF:decide ((p.den:Int)<0)=false:=aY (by omega)
 have mb:decide ((q.den:Int)<0)=false:=aY (by omega)
 rw [natAbs_natCast] at hw pH
 rw [jF,mb]
 refine f88 ?_
 have e1:∀(g:ae) (s t:Bool) (v w:Value),bp 107 g (.agg #[B s,v,B t,w])=some (pt g.length 0,g++[.arr 107 [B s,v,B t,w]]):=λ_ _ _ _ _=>rfl
 have e3:∀(g:ae),aV 107 [(.bool false),(.slice none 0 0),(.bool false),(.slice none 0 0)] g=some (pt g.length 0,g++[.arr 107 z4]):=λ_=>rfl
 simp only [Qd,e1,e3,aE]
 have q0:EX h (h++[.arr 107 [B (decide (p.num<0)),u,B false,w]]):=EX.append _ _
 have p0:(h++[aq.arr 107 [B (decide (p.num<0)),u,B false,w]])[h.length]?=some (.arr 107 [B (decide (p.num<0)),u,B false,w]):=br
 generalize h++[aq.arr 107 [B (decide (p.num<0)),u,B false,w]]=ga at q0 p0⊢
 have q1:EX ga (ga++[.arr 107 [B (decide (q.num<0)),u2,B false,w2]]):=EX.append _ _
 have p1:(ga++[aq.arr 107 [B (decide (q.num<0)),u2,B false,w2]])[ga.length]?=some (.arr 107 [B (decide (q.num<0)),u2,B false,w2]):=br
 generalize ga++[aq.arr 107 [B (decide (q.num<0)),u2,B false,w2]]=gb at q1 p1⊢
 have q2:EX gb (gb++[.arr 107 z4]):=EX.append _ _
 have p2:(gb++[aq.arr 107 z4])[gb.length]?=some (.arr 107 z4):=br
 generalize gb++[aq.arr 107 z4]=gc at q2 p2⊢
 have k0:=(q1.trans q2).get p0
 have k1:=q2.get p1
 have x0:=q0.trans (q1.trans q2)
 have qe:h.length<=gb.length:=(q0.trans q1).1
 have done:∀{N:Int} {D:Nat} {r:Value} {g:ae},EX gc g->RV g r (mkRat N D)->p*q=mkRat N D->OH (aG 4 g (pt gb.length 0) r) λ_ h_3=>OP (af true 4 h_3 (pt gb.length 0)) λr0=>K r0 h_3:=by
  intro N D r g xg hr he
  rw [<-he] at hr
  have g2:=xg.get p2
  obtain ⟨y,z,rfl,hy,hz⟩:=hr
  exact rO g2 (hk _ _ ((x0.trans xg).set qe _) ⟨y,z,rfl,hy.bT g2 _,hz.bT g2 _⟩)
 simp only [gX k0,ah]
 refine DE (hw.mono x0) uZ ?_
 intro g4 x4
 have tJ:=x4.get k0
 have lJ:=x4.get k1
 have yS:=x0.trans x4
 rw [aIm]
 have whole:∀t u':Value,bF t u' (.bool false)=some (B (decide (p.den=1)&&decide (q.den=1)))->∀{g5:ae},EX g4 g5->L8 prog K (pt h.length 0) (pt ga.length 0) (pt gb.length 0) t u' g5:=by
  intro t u' ht g5 x5
  have k0:=x5.get tJ
  have k1:=x5.get lJ
  have nf:=yS.trans x5
  have cS:=x4.trans x5
  rw [aIn,ht]
  simp only [ah]
  by_cases mE:p.den=1/\q.den=1
  ·rw [bj mE.1,bj mE.2]
   simp only [Bool.and_true,dA,bZ,zero_add,ah]
   rw [kl k0]
   simp only [ah]
   rw [kl k1]
   simp only [ah]
   refine tZ (a:=p.num) (b:=q.num) ⟨u,rfl,hu.mono nf⟩ ⟨u2,rfl,qg.mono nf⟩ wT wU ?_
   intro r1 g6 x6 i1
   refine YZ i1 ?_
   intro r2 g7 x7 i2
   obtain ⟨n1,n2⟩:=ajF (p.num*q.num)
   refine done (N:=p.num*q.num) (D:=1) (cS.trans (x6.trans x7)) (by unfold RV;rw [n1,n2];exact i2) ?_
   rw [UZ,mE.1,mE.2]
  ·have hf:(decide (p.den=1)&&decide (q.den=1))=false:=by
    rw [Bool.and_eq_false_iff,decide_eq_false_iff_not,decide_eq_false_iff_not]
    by_cases h1:p.den=1
    ·exact .inr λh2=>mE ⟨h1,h2⟩
    ·exact .inl h1
   rw [hf]
   have oS:∀{g:ae},EX g5 g->af true 2 g (pt h.length 0)=some (.agg #[B (decide (p.num<0)),u]):=λx=>kl (x.get k0)
   have wO:∀{g:ae},EX g5 g->af true 2 g (pt h.length 2)=some (.agg #[B false,w]):=λx=>lL (x.get k0)
   have K6:∀{g:ae},EX g5 g->af true 2 g (pt ga.length 0)=some (.agg #[B (decide (q.num<0)),u2]):=λx=>kl (x.get k1)
   have AY:∀{g:ae},EX g5 g->af true 2 g (pt ga.length 2)=some (.agg #[B false,w2]):=λx=>lL (x.get k1)
   have iw:∀{g:ae},EX g5 g->eC g (.agg #[B false,w]) (p.den:Int):=λx=>eC.nat (hw.mono (nf.trans x))
   have KW:∀{g:ae},EX g5 g->eC g (.agg #[B false,w2]) (q.den:Int):=λx=>eC.nat (pH.mono (nf.trans x))
   simp only [dD,bZ,zero_add,ah,oS (EX.refl g5),K6 (EX.refl g5),true_and]
   refine tZ (a:=p.num) (b:=q.num) ⟨u,rfl,hu.mono nf⟩ ⟨u2,rfl,qg.mono nf⟩ wT wU ?_
   intro r1 g6 x6 i1
   simp only [wO x6,wO (EX.refl g5),AY x6,AY (EX.refl g5),ah,true_and]
   refine tZ (iw x6) (KW x6) (by rw [natAbs_natCast];exact uZ) (by rw [natAbs_natCast];exact u7) ?_
   intro r2 g7 x7 i2
   rw [<-Int.natCast_mul] at i2
   have gC:=x6.trans x7
   refine YW (i1.mono x7) i2 (lt_of_lt_of_le c4 cb) (Nat.mul_pos pd qd) (lt_of_lt_of_le c3 cb) ?_
   intro r gj ay ir
   exact done (cS.trans (gC.trans ay)) ir (UZ p q)
 by_cases h1:p.den=1
 ·rw [bj h1]
  simp only [fP,gX lJ,ah]
  refine DE (pH.mono yS) u7 ?_
  intro g5 x5
  refine whole _ _ ?_ x5
  rw [h1];simp
 ·rw [aY h1]
  simp only [jV]
  refine whole _ _ ?_ (EX.refl g4)
  rw [aY h1];simp
def lW (p q:Rat):Int:=if p=q then 0 else if p<q then -1 else 1
theorem ay0 (p q:Rat):(if p.num*q.den-q.num*p.den=0 then 0 else if p.num*q.den-q.num*p.den<0 then -1 else 1:Int)=lW p q:=by
 unfold lW
 have h1:p=q↔p.num*q.den-q.num*p.den=0:=by
  constructor
  ·rintro rfl;omega
  ·intro h
   refine Rat.le_antisymm ?_ ?_ <;> rw [Rat.le_iff] <;> omega
 have h2:p<q↔p.num*q.den-q.num*p.den<0:=by rw [Rat.lt_iff];omega
 by_cases e1:p=q
 ·rw [if_pos e1,if_pos (h1.1 e1)]
 ·rw [if_neg e1,if_neg (λh=>e1 (h1.2 h))]
  by_cases e2:p<q
  ·rw [if_pos e2,if_pos (h2.1 e2)]
  ·rw [if_neg e2,if_neg (λh=>e2 (h2.2 h))]
theorem G9 (ha:RV h va p) (hb:RV h vb q) (sp:cd i p) (sq:cd j q) (eW:i+j<=800) (hk:∀h',EX h h'->K (I (lW p q)) h'):ak prog 86 [va,vb] h K:=by
 obtain ⟨u,w,rfl,hu,hw⟩:=ha
 obtain ⟨u2,w2,rfl,qg,pH⟩:=hb
 obtain ⟨wT,uZ⟩:=sp.fA (by omega)
 obtain ⟨wU,u7⟩:=sq.fA (by omega)
 obtain ⟨c1,c2,_,_⟩:=zS sp sq
 have cb:=qq (k:=i+j) (by omega)
 have jF:decide ((p.den:Int)<0)=false:=aY (by omega)
 have mb:decide ((q.den:Int)<0)=false:=aY (by omega)
 rw [natAbs_natCast] at hw pH
 rw [jF,mb]
 refine f86 ?_
 have e1:∀(g:ae) (s t:Bool) (v w:Value),bp 107 g (.agg #[B s,v,B t,w])=some (pt g.length 0,g++[.arr 107 [B s,v,B t,w]]):=λ_ _ _ _ _=>rfl
 simp only [Qb,e1,aE]
 have q0:EX h (h++[.arr 107 [B (decide (p.num<0)),u,B false,w]]):=EX.append _ _
 have p0:(h++[aq.arr 107 [B (decide (p.num<0)),u,B false,w]])[h.length]?=some (.arr 107 [B (decide (p.num<0)),u,B false,w]):=br
 generalize h++[aq.arr 107 [B (decide (p.num<0)),u,B false,w]]=ga at q0 p0⊢
 have q1:EX ga (ga++[.arr 107 [B (decide (q.num<0)),u2,B false,w2]]):=EX.append _ _
 have p1:(ga++[aq.arr 107 [B (decide (q.num<0)),u2,B false,w2]])[ga.length]?=some (.arr 107 [B (decide (q.num<0)),u2,B false,w2]):=br
 generalize ga++[aq.arr 107 [B (decide (q.num<0)),u2,B false,w2]]=gb at q1 p1⊢
 have k0:=q1.get p0
 have x0:=q0.trans q1
 simp only [bZ,zero_add,ah,kl k0,lL p1,true_and]
 refine tZ (a:=p.num) (b:=(q.den:Int)) ⟨u,rfl,hu.mono x0⟩ (eC.nat (pH.mono x0)) wT (by rw [natAbs_natCast];exact u7) ?_
 intro r1 g6 x6 i1
 simp only [kl (x6.get p1),kl p1,lL (x6.get k0),lL k0,ah,true_and]
 refine tZ (a:=q.num) (b:=(p.den:Int)) ⟨u2,rfl,(qg.mono x0).mono x6⟩ (eC.nat ((hw.mono x0).mono x6)) wU (by rw [natAbs_natCast];exact uZ) ?_
 intro r2 g7 x7 i2
 refine Nt (i1.mono x7) i2 (lt_of_lt_of_le c1 cb) (lt_of_lt_of_le c2 cb) ?_
 intro g8 x8
 rw [ay0]
 exact hk g8 (x0.trans (x6.trans (x7.trans x8)))
theorem af4 {p q:Rat} (hq:0<q.num):p / q=mkRat (p.num*q.den) (p.den*q.num.toNat):=by
 have h1:=Rat.mkRat_self p
 have h2:=Rat.mkRat_self q
 rw [Rat.mkRat_eq_div] at h1 h2
 rw [Rat.mkRat_eq_div,Rat.intCast_mul,Rat.natCast_mul]
 have h3:((q.num.toNat:Nat):Rat)=(q.num:Rat):=by
  rw [<-Rat.intCast_natCast,Int.toNat_of_nonneg (by omega)]
 have h4:((q.den:Nat):Int)=(q.den:Int):=rfl
 rw [h3,Rat.intCast_natCast]
 have d1:((p.den:Nat):Rat)≠0:=by
  have:=p.den_nz
  intro h
  exact this (by exact_mod_cast h)
 have d2:((q.den:Nat):Rat)≠0:=by
  have:=q.den_nz
  intro h
  exact this (by exact_mod_cast h)
 have d3:(q.num:Rat)≠0:=by
  intro h
  have:q.num=0:=by exact_mod_cast h
  omega
 generalize (p.num:Rat)=a at*
 generalize (q.num:Rat)=b at*
 generalize ((p.den:Nat):Rat)=c at*
 generalize ((q.den:Nat):Rat)=d at*
 rw [<-h1,<-h2]
 grind
theorem Zz (ha:RV h va p) (hb:RV h vb q) (hq:0<q.num) (sp:cd i p) (sq:cd j q) (eW:i+j<=800) (hk:∀r h',EX h h'->RV h' r (p / q)->K r h'):ak prog 77 [va,vb] h K:=by
 obtain ⟨wT,uZ⟩:=sp.fA (by omega)
 obtain ⟨wU,u7⟩:=sq.fA (by omega)
 obtain ⟨c1,c2,_,_⟩:=zS sp sq
 have cb:=qq (k:=i+j) (by omega)
 have pd:=p.den_pos
 have iN:(0:Int)<(p.den:Int)*q.num:=Int.mul_pos (by omega) hq
 obtain ⟨m,hm⟩:∃m:Nat,q.num=(m:Int):=⟨q.num.toNat,by omega⟩
 have hN:((p.den:Int)*q.num).natAbs=p.den*q.num.toNat:=by rw [natAbs_mul,natAbs_natCast];congr 1;omega
 refine arD ha hb wT (by rw [natAbs_natCast];exact uZ) wU (by rw [natAbs_natCast];exact u7) (lt_of_lt_of_le c1 cb) iN (by rw [Int.mul_comm];exact lt_of_lt_of_le c2 cb) ?_
 intro r h' x hr
 refine hk r h' x ?_
 have hD:0<p.den*q.num.toNat:=Nat.mul_pos pd (by omega)
 obtain ⟨e1,e2⟩:=A8 (N:=p.num*q.den) hD
 unfold RV
 rw [af4 hq,e1,e2,Int.natCast_ediv,Int.natCast_mul,Int.toNat_of_nonneg (by omega)]
 rw [hN] at hr
 exact hr
theorem ub {n:Int} (h1: -9223372036854775808<=n) (h2:n<9223372036854775808) (hk:∀r h',EX h h'->RV h' r (n:Rat)->K r h'):ak prog 75 [I n] h K:=by
 refine C75 h1 h2 ?_
 intro r h' x hr
 exact hk r h' x hr
end
end
section
section
variable {va vb : Value} {p q : Rat} {i j : Nat} {h : ae} {K : Value -> ae -> Prop}
theorem cd.neg {k:Nat} {q:Rat} (h:cd k q):cd k (-q):=by
 unfold cd at*
 rw [Rat.neg_num,Rat.neg_den,Int.natAbs_neg]
 exact h
theorem aq8 (ha:RV h va p) (hk:∀r h',EX h h'->RV h' r (-p)->K r h'):ak prog 116 [va] h K:=by
 obtain ⟨u,w,rfl,hu,hw⟩:=ha
 have jF:decide ((p.den:Int)<0)=false:=aY (by omega)
 rw [natAbs_natCast] at hw
 rw [jF]
 refine f116 ?_
 have e1:∀(g:ae) (s t:Bool) (v w:Value),bp 107 g (.agg #[B s,v,B t,w])=some (pt g.length 0,g++[.arr 107 [B s,v,B t,w]]):=λ_ _ _ _ _=>rfl
 have e3:∀(g:ae),aV 107 [(.bool false),(.slice none 0 0),(.bool false),(.slice none 0 0)] g=some (pt g.length 0,g++[.arr 107 z4]):=λ_=>rfl
 simp only [OY,e1,e3,aE]
 have q0:EX h (h++[.arr 107 [B (decide (p.num<0)),u,B false,w]]):=EX.append _ _
 have p0:(h++[aq.arr 107 [B (decide (p.num<0)),u,B false,w]])[h.length]?=some (.arr 107 [B (decide (p.num<0)),u,B false,w]):=br
 generalize h++[aq.arr 107 [B (decide (p.num<0)),u,B false,w]]=ga at q0 p0⊢
 have q2:EX ga (ga++[.arr 107 z4]):=EX.append _ _
 have p2:(ga++[aq.arr 107 z4])[ga.length]?=some (.arr 107 z4):=br
 generalize ga++[aq.arr 107 z4]=gc at q2 p2⊢
 have k0:=q2.get p0
 have x0:=q0.trans q2
 simp only [bZ,zero_add,ah,kl k0,true_and]
 refine Y1 (a:=p.num) ⟨u,rfl,hu.mono x0⟩ ?_
 intro r1 g6 x6 i1
 simp only [lL (x6.get k0),lL k0,ah,true_and]
 have iw:eC g6 (.agg #[B false,w]) (p.den:Int):=eC.nat ((hw.mono x0).mono x6)
 refine JM i1 iw (x0.trans x6) (by have:=q0.1;omega) (x6.get p2) ?_
 intro r h' x hr
 refine hk r h' x ?_
 unfold RV
 rw [Rat.neg_num,Rat.neg_den]
 exact hr
theorem C96 (ha:RV h va p) (hb:RV h vb q) (sp:cd i p) (sq:cd j q) (eW:i+j<=800) (hk:∀r h',EX h h'->RV h' r (p-q)->K r h'):ak prog 96 [va,vb] h K:=by
 have nA:=ha
 have pA:=hb
 obtain ⟨u,w,rfl,hu,hw⟩:=ha
 obtain ⟨u2,w2,rfl,qg,pH⟩:=hb
 refine f96 ?_
 have e1:∀(g:ae) (s t:Bool) (v w:Value),bp 107 g (.agg #[B s,v,B t,w])=some (pt g.length 0,g++[.arr 107 [B s,v,B t,w]]):=λ_ _ _ _ _=>rfl
 have e3:∀(g:ae),aV 107 [(.bool false),(.slice none 0 0),(.bool false),(.slice none 0 0)] g=some (pt g.length 0,g++[.arr 107 z4]):=λ_=>rfl
 simp only [Qj,e1,e3,aE]
 generalize decide ((p.den:Int)<0)=t1 at*
 generalize decide ((q.den:Int)<0)=t2 at*
 have q0:EX h (h++[.arr 107 [B (decide (p.num<0)),u,B t1,w]]):=EX.append _ _
 have p0:(h++[aq.arr 107 [B (decide (p.num<0)),u,B t1,w]])[h.length]?=some (.arr 107 [B (decide (p.num<0)),u,B t1,w]):=br
 generalize h++[aq.arr 107 [B (decide (p.num<0)),u,B t1,w]]=ga at q0 p0⊢
 have q1:EX ga (ga++[.arr 107 [B (decide (q.num<0)),u2,B t2,w2]]):=EX.append _ _
 have p1:(ga++[aq.arr 107 [B (decide (q.num<0)),u2,B t2,w2]])[ga.length]?=some (.arr 107 [B (decide (q.num<0)),u2,B t2,w2]):=br
 generalize ga++[aq.arr 107 [B (decide (q.num<0)),u2,B t2,w2]]=gb at q1 p1⊢
 have q2:EX gb (gb++[.arr 107 z4]):=EX.append _ _
 have p2:(gb++[aq.arr 107 z4])[gb.length]?=some (.arr 107 z4):=br
 generalize gb++[aq.arr 107 z4]=gc at q2 p2⊢
 have k0:=(q1.trans q2).get p0
 have k1:=q2.get p1
 have x0:=q0.trans (q1.trans q2)
 have qe:h.length<=gb.length:=(q0.trans q1).1
 simp only [gX k0,gX k1,ah,true_and]
 refine aq8 (pA.mono x0) ?_
 intro r1 g6 x6 i1
 simp only [gX (x6.get k0),true_and]
 refine zi ((nA.mono x0).mono x6) i1 sp sq.neg eW ?_
 intro r g7 x7 ir
 rw [<-Rat.sub_eq_add_neg] at ir
 have gC:=x6.trans x7
 have g2:=gC.get p2
 obtain ⟨y,z,rfl,hy,hz⟩:=ir
 exact rO g2 (hk _ _ ((x0.trans gC).set qe _) ⟨y,z,rfl,hy.bT g2 _,hz.bT g2 _⟩)
theorem ZA (ha:RV h va p) (hk:∀h',EX h h'->K (I (jG p.num)) h'):ak prog 81 [va] h K:=by
 obtain ⟨u,w,rfl,hu,hw⟩:=ha
 refine f81 ?_
 have e1:∀(g:ae) (s t:Bool) (v w:Value),bp 107 g (.agg #[B s,v,B t,w])=some (pt g.length 0,g++[.arr 107 [B s,v,B t,w]]):=λ_ _ _ _ _=>rfl
 simp only [P6,e1,aE]
 generalize decide ((p.den:Int)<0)=t1 at*
 have q0:EX h (h++[.arr 107 [B (decide (p.num<0)),u,B t1,w]]):=EX.append _ _
 have p0:(h++[aq.arr 107 [B (decide (p.num<0)),u,B t1,w]])[h.length]?=some (.arr 107 [B (decide (p.num<0)),u,B t1,w]):=br
 generalize h++[aq.arr 107 [B (decide (p.num<0)),u,B t1,w]]=ga at q0 p0⊢
 simp only [bZ,zero_add,ah,kl p0]
 refine YY (a:=p.num) ⟨u,rfl,hu.mono q0⟩ ?_
 intro h' x'
 exact hk h' (q0.trans x')
end
end
section
theorem arE {s:List UInt8} {h:ae} {K:Value->ae->Prop} (h0:0<s.length) (h1:s.length<=4000) (h2:s.head?=some 48->s.length=1)
  (hk:jX s->∀r h',EX h h'->ZV h' r (dT s)->K (.tuple #[r,B true]) h')
  (hZ:¬jX s->∀h',EX h h'->K (.tuple #[.agg #[B false,.slice none 0 0],B false]) h'):ak prog 99 [S s] h K:=by
 refine f99 ?_
 have e2:∀g:ae,aV 35 [(.bool false),(.slice none 0 0)] g=some (pt g.length 0,g++[.arr 35 [(.bool false),(.slice none 0 0)]]):=λ_=>rfl
 have e3:dC [(.bool false),(.slice none 0 0)] []=some (.agg #[B false,.slice none 0 0]):=rfl
 have sZ:(s[0].toNat:Int)=48->s.length<=1:=by
  intro h3
  refine Nat.le_of_eq (h2 ?_)
  rw [List.head?_eq_getElem?,getElem?_eq_getElem h0]
  congr 1
  apply UInt8.toNat_inj.1
  show s[0].toNat=48
  omega
 have i0:=uT (a:=s) (i:=0) h0 .i64
 simp only [Int.natCast_zero] at i0
 simp only [HP,e2,aE,lK,ah,cW]
 rw [aY (show ¬(s.length:Int)<1 by omega)]
 simp only [Xp,eL,lK,ah,fQ]
 rw [aY (show ¬(s.length:Int)>4000 by omega)]
 simp only [Mq,dQ,ah,Mr,eL,i0]
 have after:∀t:Value,t=B false->Gl prog K (S s) (pt h.length 0) (B false) t (h++[.arr 35 [(.bool false),(.slice none 0 0)]]):=by
  rintro _ rfl
  rw [Xm]
  simp only [dQ,ah,dD,e3,e2,aE,length_append,length_cons,length_nil,zero_add]
  have g1:(h++[aq.arr 35 [(.bool false),(.slice none 0 0)]]++[aq.arr 35 [(.bool false),(.slice none 0 0)]])[h.length+1]?=some (.arr 35 [(.bool false),(.slice none 0 0)]):=by simp
  have g0:(h++[aq.arr 35 [(.bool false),(.slice none 0 0)]]++[aq.arr 35 [(.bool false),(.slice none 0 0)]])[h.length]?=some (.arr 35 [(.bool false),(.slice none 0 0)]):=by simp
  have x1:EX h (h++[aq.arr 35 [(.bool false),(.slice none 0 0)]]++[aq.arr 35 [(.bool false),(.slice none 0 0)]]):=(EX.append _ _).push _
  have rT:(h++[aq.arr 35 [(.bool false),(.slice none 0 0)]]++[aq.arr 35 [(.bool false),(.slice none 0 0)]]).length=h.length+2:=by simp
  generalize h++[aq.arr 35 [(.bool false),(.slice none 0 0)]]++[aq.arr 35 [(.bool false),(.slice none 0 0)]]=hA at*
  rw [fM g1]
  simp only [aE,lK,ah]
  have fail:∀g:ae,EX h g->g[h.length]?=some (.arr 35 [.bool false,.slice none 0 0])->¬jX s->(OP (dC [(.bool false),(.slice none 0 0)] []) λde=>OH (aG 2 g (pt h.length 0) de) λ_ h_1=>OP (af true 2 h_1 (pt h.length 0)) λr0=>K (.tuple #[r0,(.bool false)]) h_1):=by
   intro g x k hn
   simp only [e3,ah]
   rw [fM k]
   simp only [aE]
   rw [cZ (cJ k),ah]
   exact hZ hn _ (x.set (le_refl _) _)
  refine dF (σ:=Int×List Nat×Value×ae) (λp=>[I p.1]) (λp=>p.2.2.2)
   (λp=>h.length+2<=p.2.2.2.length/\EX h p.2.2.2/\p.2.2.2[h.length]?=some (.arr 35 [.bool false,.slice none 0 0])/\p.2.2.2[h.length+1]?=some (.arr 35 [B false,p.2.2.1])/\pn (h.length+2) p.2.2.2 p.2.2.1 p.2.1/\cN 10000 p.2.1/\p.1=(s.length:Int)-4*(p.2.1.length:Int)/\ -4<p.1/\val 10000 p.2.1+10000^p.2.1.length*dT (s.take p.1.toNat)=dT s/\jX (s.drop p.1.toNat)) (λp=>(p.1+4).toNat)
   ((s.length:Int),[],.slice none 0 0,hA.set (h.length+1) (.arr 35 [B false,.slice none 0 0])) rfl rfl
   ⟨by simp [rT],x1.set (by omega) _,by rw [getElem?_set_ne (by omega)];exact g0,cJ g1,.inl ⟨rfl,rfl⟩,λ_ hx=>by simp at hx,by simp,by simp;omega,by simp [val],by simp [jX]⟩ ?_
  rintro ⟨zF,os,v,hx⟩ ⟨hlen,hex,k0,k1,jD,fH,hat,aA4,cf,Cq⟩ L hL
  simp only at hlen hex k0 k1 jD fH hat aA4 cf Cq hL⊢
  rw [aIw]
  have e4:IntKind.wrap .i64 (zF-4)=zF-4:=wrap64 (by omega) (by omega)
  simp only [fQ,ah,bQ]
  refine ⟨λtg=>?_,λhle=>?_⟩
  ·simp only [gE,ah,e4,aD5]
   obtain ⟨lo,fa⟩:∃lo:Nat,max 0 (zF-4)=(lo:Int):=⟨(max 0 (zF-4)).toNat,by omega⟩
   obtain ⟨a,ha⟩:∃a:Nat,zF=(a:Int):=⟨zF.toNat,by omega⟩
   subst ha
   rw [fa]
   have jP:a<=s.length:=by omega
   have ahE:lo<=a:=by omega
   have aLo:lo=a-4:=by omega
   refine dF (σ:=Nat×Nat) (λp=>[I p.1,I p.2]) (λ_=>hx) (λp=>lo<=p.2/\p.2<=a/\p.1=dT ((s.take p.2).drop lo)/\jX ((s.take p.2).drop lo)) (λp=>a-p.2)
    (0,lo) rfl rfl ⟨le_refl _,ahE,by rw [List.drop_of_length_le (by rw [length_take];omega)];rfl,by
     show jX ((s.take lo).drop lo)
     rw [List.drop_of_length_le (by rw [length_take];omega)];intro c hc;simp at hc⟩ ?_
   rintro ⟨d,i⟩ ⟨hi1,oH,Kj,nQ⟩ L2 iV
   simp only at hi1 oH Kj nQ iV⊢
   have aF:=yM nQ
   have ahD:((s.take i).drop lo).length=i-lo:=by rw [List.length_drop,length_take];omega
   rw [ahD] at aF
   have hp:(10:Nat)^(i-lo)<=10^4:=pow_le_pow_right (by decide) (by omega)
   have ye:d<10000:=by rw [Kj];omega
   rw [aIx]
   simp only [cW,ah,bQ]
   refine ⟨λKo=>?_,λKo=>?_⟩
   ·have p7:i<s.length:=by omega
    have ix:=uT (a:=s) (i:=i) p7 .i64
    have FI:ai .lss (cv s[i]) (.int .u8 48)=some (B (decide ((s[i].toNat:Int)<48))):=rfl
    have J6:ai .gtr (cv s[i]) (.int .u8 57)=some (B (decide ((s[i].toNat:Int)>57))):=rfl
    by_cases hcd:48<=s[i].toNat/\s[i].toNat<=57
    rotate_left
    ·have pW:¬jX s:=λhd=>hcd (hd _ (getElem_mem p7))
     simp only [ix,ah,FI]
     by_cases lY:s[i].toNat<48
     ·simp only [bj (show (s[i].toNat:Int)<48 by omega),Xn,fW,Xo,dY,ah,dA]
      exact fail _ hex k0 pW
     ·simp only [aY (show ¬(s[i].toNat:Int)<48 by omega),Xn,eL,ix,ah,J6,bj (show (s[i].toNat:Int)>57 by omega),Xo,dQ,dA]
      exact fail _ hex k0 pW
    have XN:ai .sub (cv s[i]) (.int .u8 48)=some (.int .u8 (IntKind.wrap .u8 ((s[i].toNat:Int)-48))):=rfl
    have w8:IntKind.wrap .u8 ((s[i].toNat:Int)-48)=((s[i].toNat-48:Nat):Int):=by
     have e:IntKind.wrap .u8 ((s[i].toNat:Int)-48)=((s[i].toNat:Int)-48)%256:=by simp [IntKind.wrap,IntKind.bits,IntKind.signed]
     rw [e];omega
    have w64:IntKind.wrap .i64 ((s[i].toNat-48:Nat):Int)=((s[i].toNat-48:Nat):Int):=wrap64 (by omega) (by omega)
    have w10:IntKind.wrap .i64 ((10:Int)*(d:Int))=((10*d:Nat):Int):=by rw [wrap64 (by omega) (by omega)];omega
    have wad:IntKind.wrap .i64 (((10*d:Nat):Int)+((s[i].toNat-48:Nat):Int))=((10*d+(s[i].toNat-48):Nat):Int):=by rw [wrap64 (by omega) (by omega)];omega
    simp only [ix,ah,FI,aY (show ¬(s[i].toNat:Int)<48 by omega),Xn,eL,J6,aY (show ¬(s[i].toNat:Int)>57 by omega),Xo,dQ,dD,xN,w10,XN,w8,kZ,w64,cL,wad,ft i (by omega),true_and]
    refine iV (10*d+(s[i].toNat-48),i+1) ⟨by show lo<=i+1;omega,by show i+1<=a;omega,?_,?_⟩ (by show a-(i+1)<a-i;omega)
    rotate_left
    ·show jX ((s.take (i+1)).drop lo)
     rw [List.take_succ_eq_append_getElem p7,List.drop_append_of_le_length (by rw [length_take];omega)]
     intro c hc
     rcases List.mem_append.1 hc with hc | hc
     ·exact nQ c hc
     ·rw [List.mem_singleton.1 hc];exact hcd
    show 10*d+(s[i].toNat-48)=dT ((s.take (i+1)).drop lo)
    rw [List.take_succ_eq_append_getElem p7,List.drop_append_of_le_length (by rw [length_take];omega),Bu,M6,<-Kj]
    simp
    omega
   ·have aBl:i=a:=by omega
    subst aBl
    rw [aIy]
    have ld:af false 1 hx (pt (h.length+1) 1)=some v:=by simp [af,aW,k1,cP]
    simp only [bZ,zero_add,ah,ld]
    refine abz hlen jD (by omega) ?_
    intro v' cE hs nT uP
    have lJ:cE[h.length+1]?=some (.arr 35 [B false,v]):=by rw [hs _ (by omega)];exact k1
    rw [qx lJ (by simp) uP.ds.one.1 uP.ds.one.2]
    have e5:IntKind.wrap .i64 ((i:Int)-4)=(i:Int)-4:=wrap64 (by omega) (by omega)
    simp only [aE,List.set_cons_succ,List.set_cons_zero,aIz,gE,ah,e5,true_and]
    have el:(os++[d]).length=os.length+1:=by simp
    refine hL ((i:Int)-4,os++[d],v',cE.set (h.length+1) (.arr 35 [B false,v'])) ⟨?_,?_,?_,cJ lJ,uP.set (by omega) _,fH.append (λy hy=>by simp at hy;omega),by rw [el];show (i:Int)-4=_;omega,by show -4<(i:Int)-4;omega,?_,?_⟩ (by show ((i:Int)-4+4).toNat<((i:Int)+4).toNat;omega)
    ·rw [length_set];exact nT
    ·refine EX.set ⟨by have:=hex.1;omega,λj hj=>?_⟩ (by omega) _
     rw [hs j (by omega)];exact hex.2 j hj
    ·rw [getElem?_set_ne (by omega),hs _ (by omega)];exact k0
    rotate_left
    ·show jX (s.drop ((i:Int)-4).toNat)
     have R7:((i:Int)-4).toNat=lo:=by omega
     have et:(i:Int).toNat=i:=by omega
     rw [et] at Cq
     rw [R7]
     have wC:s.drop lo=(s.take i).drop lo++s.drop i:=by
      conv=>lhs;rw [<-List.take_append_drop i s]
      rw [List.drop_append_of_le_length (by rw [length_take];omega)]
     rw [wC]
     intro c hc
     rcases List.mem_append.1 hc with hc | hc
     ·exact nQ c hc
     ·exact Cq c hc
    ·show val 10000 (os++[d])+10000^(os++[d]).length*dT (s.take ((i:Int)-4).toNat)=dT s
     rw [el,og,<-cf,pow_succ]
     have et:(i:Int).toNat=i:=by omega
     have R7:((i:Int)-4).toNat=lo:=by omega
     rw [et,R7]
     have wC:s.take i=s.take lo++(s.take i).drop lo:=by
      conv=>lhs;rw [<-List.take_append_drop lo (s.take i)]
      rw [List.take_take,min_eq_left ahE]
     rw [wC,Bu,ahD,<-Kj]
     simp only [val,mul_zero,add_zero]
     have aBB:dT (s.take lo)*10^(i-lo)=10000*dT (s.take lo):=by
      by_cases h4:4<=i
      ·have:i-lo=4:=by omega
       rw [this,mul_comm]
      ·have:lo=0:=by omega
       subst this
       simp [dT]
     rw [aBB]
     generalize 10000^os.length=P
     generalize dT (s.take lo)=w
     generalize val 10000 os=q
     clear hL iV jD uP
     grind
  ·rw [aIA,cZ k1]
   simp only [ah]
   have mD:zF.toNat=0:=by omega
   rw [mD] at cf Cq
   rw [List.drop_zero] at Cq
   have hk:=hk Cq
   have aCm:val 10000 os=dT s:=by simpa [dT] using cf
   refine ze jD.ds fH (by omega) ?_
   intro r h5 x5 zr
   simp only [false_eq_true,if_false,aCm] at zr
   obtain ⟨q,rfl,hq⟩:=id zr
   have g':=x5.get k0
   refine zY (K:=λv h=>K (.tuple #[v,B true]) h) g' (hk _ _ ((hex.trans x5).set (le_refl _) _) (zr.bT g' _))
 by_cases lY:(s[0].toNat:Int)=48
 ·have rT:=sZ lY
  have e5:ai .eql (cv s[0]) (.int .u8 48)=some (B true):=by
   show some (B (decide ((s[0].toNat:Int)=48)))=_
   rw [bj lY]
  simp only [e5,ah,Gu,fP,lK,fQ,aY (show ¬(s.length:Int)>1 by omega),Gv,eL,dY]
  exact after _ rfl
 ·have e5:ai .eql (cv s[0]) (.int .u8 48)=some (B false):=by
   show some (B (decide ((s[0].toNat:Int)=48)))=_
   rw [aY lY]
  simp only [e5,ah,Gu,jV,Gv,eL,dQ]
  exact after _ rfl
def iz (s:List UInt8):Bool:=((decide (0<s.length)&&decide (s.length<=4000))&& !(decide (s.head?=some 48)&&decide (1<s.length)))&&s.all λc=>decide (48<=c.toNat)&&decide (c.toNat<=57)
theorem rM {s:List UInt8}:iz s=true↔(0<s.length/\s.length<=4000)/\(s.head?=some 48->s.length=1)/\jX s:=by
 unfold iz jX
 simp only [Bool.and_eq_true,decide_eq_true_eq,Bool.not_eq_true',Bool.and_eq_false_iff,decide_eq_false_iff_not,List.all_eq_true]
 constructor
 ·rintro ⟨⟨h1,h2⟩,h3⟩
  refine ⟨h1,λh=>?_,h3⟩
  rcases h2 with h2 | h2
  ·exact absurd h h2
  ·omega
 ·rintro ⟨h1,h2,h3⟩
  refine ⟨⟨h1,?_⟩,h3⟩
  by_cases h:s.head?=some 48
  ·have:=h2 h
   exact .inr (by omega)
  ·exact .inl h
theorem arF {s:List UInt8} {h:ae} {K:Value->ae->Prop}
  (hk:iz s=true->∀r h',EX h h'->ZV h' r (dT s)->K (.tuple #[r,B true]) h')
  (hZ:iz s=false->∀h',EX h h'->K (.tuple #[.agg #[B false,.slice none 0 0],B false]) h'):ak prog 99 [S s] h K:=by
 by_cases hb:(0<s.length/\s.length<=4000)/\(s.head?=some 48->s.length=1)
 ·refine arE hb.1.1 hb.1.2 hb.2 (λhd=>hk (rM.2 ⟨hb.1,hb.2,hd⟩)) λhd=>hZ ?_
  cases e:iz s with
  | false=>rfl
  | true=>exact absurd (rM.1 e).2.2 hd
 have dV:iz s=false:=by
  cases e:iz s with
  | false=>rfl
  | true=>exact absurd ⟨(rM.1 e).1,(rM.1 e).2.1⟩ hb
 refine f99 ?_
 have e2:∀g:ae,aV 35 [(.bool false),(.slice none 0 0)] g=some (pt g.length 0,g++[.arr 35 [(.bool false),(.slice none 0 0)]]):=λ_=>rfl
 have e3:dC [(.bool false),(.slice none 0 0)] []=some (.agg #[B false,.slice none 0 0]):=rfl
 simp only [HP,e2,aE,lK,ah,cW]
 have k0:=br (h:=h) (o:=.arr 35 [(.bool false),(.slice none 0 0)])
 have x0:EX h (h++[.arr 35 [(.bool false),(.slice none 0 0)]]):=EX.append _ _
 have after:∀t:Value,Gl prog K (S s) (pt h.length 0) (B true) t (h++[.arr 35 [(.bool false),(.slice none 0 0)]]):=by
  intro t
  rw [Xm]
  simp only [dY,ah,dA,e3]
  rw [fM k0]
  simp only [aE]
  rw [cZ (cJ k0),ah]
  exact hZ dV _ (x0.set (le_refl _) _)
 by_cases h0:s.length=0
 ·rw [bj (show (s.length:Int)<1 by omega)]
  simp only [Xp,fW,Mq,dY,ah,Mr,Gu,Gv,xv]
  exact after _
 rw [aY (show ¬(s.length:Int)<1 by omega)]
 simp only [Xp,eL,lK,ah,fQ]
 by_cases h1:s.length>4000
 ·rw [bj (show (s.length:Int)>4000 by omega)]
  simp only [Mq,dQ,ah,Mr,fW,Gu,Gv,xv]
  exact after _
 rw [aY (show ¬(s.length:Int)>4000 by omega)]
 have i0:=uT (a:=s) (i:=0) (by omega) .i64
 simp only [Int.natCast_zero] at i0
 have h2:s.head?=some 48/\1<s.length:=by
  by_cases h:s.head?=some 48/\1<s.length
  ·exact h
  ·refine absurd ⟨⟨by omega,by omega⟩,λh3=>?_⟩ hb
   have:¬1<s.length:=λh4=>h ⟨h3,h4⟩
   omega
 have hc:(s[0]'(by omega)).toNat=48:=by
  have:=h2.1
  rw [List.head?_eq_getElem?,getElem?_eq_getElem (by omega)] at this
  injection this with this
  rw [this];rfl
 have e5:ai .eql (cv (s[0]'(by omega))) (.int .u8 48)=some (B true):=by
  show some (B (decide (((s[0]'(by omega)).toNat:Int)=48)))=_
  rw [bj (by omega)]
 simp only [Mq,dQ,ah,Mr,eL,i0,e5,Gu,fP,lK,fQ,bj (show (s.length:Int)>1 by omega),Gv,dY,Xm,dA,e3]
 rw [fM k0]
 simp only [aE]
 rw [cZ (cJ k0),ah]
 exact hZ dV _ (x0.set (le_refl _) _)
end
section
variable (P : Program) (K : VK)
noncomputable section
variable (a0 b1 : Value) (h : ae)
def ak9:=bE prog 51 [[],[]]
@[irreducible] def c51:=bM ak9
theorem k51:ak9=some (16,c51,[.cell true 4 4]):=by kernel_rfl
def PG:Prop:=
 OH (bp 37 h a0) λa2 z1=>
 OH (bp 37 z1 b1) λb3 z2=>
 OH (aV 37 [(.bool false),(.slice none 0 0),(.bool false),(.slice none 0 0)] z2) λx4 z3=>
 OP (aJ 0 a2) λx5=>
 OP (af true 2 z3 x5) λx6=>
 (True)/\
 OP (aJ 2 b3) λx7=>
 OP (af true 2 z3 x7) λx8=>
 (True)/\
 ak P 71 [x6,x8] z3 λx9 z4=>
 (True)/\
 OP (aJ 2 a2) λay=>
 OP (af true 2 z4 ay) λau=>
 (af true 2 z3 ay=some au/\True)/\
 OP (aJ 0 b3) λaD=>
 OP (af true 2 z4 aD) λaB=>
 (af true 2 z3 aD=some aB/\True)/\
 ak P 71 [au,aB] z4 λaA z5=>
 (True)/\
 ak P 54 [x9,aA] z5 λaP z6=>
 (True)/\
 OH (aG 4 z6 x4 aP) λ_ z7=>
 (True)/\
 OP (af true 4 z7 x4) λr0=>
 K r0 z7
theorem e51:aj P c51 (aT [.cell true 4 4] K) (bw [a0,b1]) h=PG P K a0 b1 h:=by kernel_rfl
theorem f51 {K:VK} {a0 b1:Value} {h:ae} (H:PG prog K a0 b1 h):ak prog 51 [a0,b1] h K:=
 bN k51 (bJ rfl) ((e51 prog K a0 b1 h).mpr H)
end
noncomputable section
variable (a0 b1 : Value) (h : ae)
def ala:=bE prog 52 [[],[]]
@[irreducible] def c52:=bM ala
theorem k52:ala=some (22,c52,[.cell true 4 4]):=by kernel_rfl
def PH:Prop:=
 OH (bp 37 h a0) λa2 z1=>
 OH (bp 37 z1 b1) λb3 z2=>
 OH (aV 37 [(.bool false),(.slice none 0 0),(.bool false),(.slice none 0 0)] z2) λx4 z3=>
 OP (aJ 0 a2) λx5=>
 OP (af true 2 z3 x5) λx6=>
 (True)/\
 OP (aJ 2 b3) λx7=>
 OP (af true 2 z3 x7) λx8=>
 (True)/\
 ak P 71 [x6,x8] z3 λx9 z4=>
 (True)/\
 OP (aJ 0 b3) λay=>
 OP (af true 2 z4 ay) λau=>
 (af true 2 z3 ay=some au/\True)/\
 OP (aJ 2 a2) λaD=>
 OP (af true 2 z4 aD) λaB=>
 (af true 2 z3 aD=some aB/\True)/\
 ak P 71 [au,aB] z4 λaA z5=>
 (True)/\
 ak P 92 [x9,aA] z5 λaP z6=>
 (True)/\
 OP (aJ 2 a2) λaL=>
 OP (af true 2 z6 aL) λbK=>
 (af true 2 z3 aL=some bK/\af true 2 z4 aL=some bK/\af true 2 z5 aL=some bK/\True)/\
 OP (aJ 2 b3) λaS=>
 OP (af true 2 z6 aS) λaK=>
 (af true 2 z3 aS=some aK/\af true 2 z4 aS=some aK/\af true 2 z5 aS=some aK/\True)/\
 ak P 71 [bK,aK] z6 λaU z7=>
 (True)/\
 OP (dC [(.bool false),(.slice none 0 0),(.bool false),(.slice none 0 0)] [(0,2,aP),(2,2,aU)]) λba=>
 OH (aG 4 z7 x4 ba) λ_ z8=>
 (True)/\
 OP (af true 4 z8 x4) λr0=>
 K r0 z8
theorem e52:aj P c52 (aT [.cell true 4 4] K) (bw [a0,b1]) h=PH P K a0 b1 h:=by kernel_rfl
theorem f52 {K:VK} {a0 b1:Value} {h:ae} (H:PH prog K a0 b1 h):ak prog 52 [a0,b1] h K:=
 bN k52 (bJ rfl) ((e52 prog K a0 b1 h).mpr H)
end
noncomputable section
variable (n0 d1 n2 d3 x4 : Value) (h : ae)
def alc:=bE prog 54 [[],[],[2,3,4],[]]
@[irreducible] def Q8:=bM alc
@[irreducible] def axl:=Q8.r.r.l
theorem k54:alc=some (14,Q8,[.cell true 4 4]):=by kernel_rfl
def atE (_P:Program) (K:VK):ar:=aT [.cell true 4 4] K
def Wj:Prop:=ax (aj P axl (atE P K)) [2,3,4] [n2,d3,x4] h
theorem aG0:Wj P K n2 d3 x4 h=
 (OP (af true 2 h n2) λau=>
 OP (af true 2 h d3) λaD=>
 OP (dC [(.bool false),(.slice none 0 0),(.bool false),(.slice none 0 0)] [(0,2,au),(2,2,aD)]) λaB=>
 OH (aG 4 h x4 aB) λ_ z1=>
 OP (af true 4 z1 x4) λr0=>
 K r0 z1):=az (by kernel_rfl)
def PJ:Prop:=
 OH (bp 35 h n0) λn2 z1=>
 OH (bp 35 z1 d1) λd3 z2=>
 OH (aV 37 [(.bool false),(.slice none 0 0),(.bool false),(.slice none 0 0)] z2) λx4 z3=>
 OP (aJ 0 d3) λx5=>
 OP (af false 1 z3 x5) λx6=>
 aN x6
 (OP (af true 2 z3 n2) λx7=>
 (True)/\
 ak P 95 [x7] z3 λx8 z4=>
 (True)/\
 OP (af true 2 z4 d3) λx9=>
 (af true 2 z3 d3=some x9/\True)/\
 ak P 95 [x9] z4 λay z5=>
 (True)/\
 OH (aG 2 z5 n2 x8) λ_ z6=>
 (True)/\
 OH (aG 2 z6 d3 ay) λ_ z7=>
 (True)/\
 Wj P K n2 d3 x4 z7)
 (Wj P K n2 d3 x4 z3)
theorem e54:aj P Q8 (aT [.cell true 4 4] K) (bw [n0,d1]) h=PJ P K n0 d1 h:=by kernel_rfl
theorem f54 {K:VK} {n0 d1:Value} {h:ae} (H:PJ prog K n0 d1 h):ak prog 54 [n0,d1] h K:=
 bN k54 (bJ rfl) ((e54 prog K n0 d1 h).mpr H)
end
end
section
theorem C54 {va vb:Value} {a b:Int} {h:ae} {K:Value->ae->Prop} (ha:ZV h va a) (hb:ZV h vb b) (b0:0<=b) (hk:∀r h',EX h h'->QZ h' r a b->K r h'):ak prog 54 [va,vb] h K:=by
 obtain ⟨v,rfl,hv⟩:=ha
 obtain ⟨w,rfl,hw⟩:=hb
 have wA:decide (b<0)=false:=aY (by omega)
 refine f54 ?_
 have e1:∀(g:ae) (s:Bool) (v:Value),bp 35 g (.agg #[B s,v])=some (pt g.length 0,g++[.arr 35 [B s,v]]):=λ_ _ _=>rfl
 have e3:∀(g:ae),aV 37 [(.bool false),(.slice none 0 0),(.bool false),(.slice none 0 0)] g=some (pt g.length 0,g++[.arr 37 z4]):=λ_=>rfl
 simp only [PJ,e1,e3,aE]
 have q0:EX h (h++[.arr 35 [B (decide (a<0)),v]]):=EX.append _ _
 have p0:(h++[aq.arr 35 [B (decide (a<0)),v]])[h.length]?=some (.arr 35 [B (decide (a<0)),v]):=br
 generalize h++[aq.arr 35 [B (decide (a<0)),v]]=ga at q0 p0⊢
 have q1:EX ga (ga++[.arr 35 [B (decide (b<0)),w]]):=EX.append _ _
 have p1:(ga++[aq.arr 35 [B (decide (b<0)),w]])[ga.length]?=some (.arr 35 [B (decide (b<0)),w]):=br
 generalize ga++[aq.arr 35 [B (decide (b<0)),w]]=gb at q1 p1⊢
 have q2:EX gb (gb++[.arr 37 z4]):=EX.append _ _
 have p2:(gb++[aq.arr 37 z4])[gb.length]?=some (.arr 37 z4):=br
 generalize gb++[aq.arr 37 z4]=gc at q2 p2⊢
 have k0:=(q1.trans q2).get p0
 have k1:=q2.get p1
 have x0:=q0.trans (q1.trans q2)
 have l1:af false 1 gc (pt ga.length 0)=some (B (decide (b<0))):=by simp [af,aW,k1,cP]
 simp only [bZ,add_zero,ah,l1]
 rw [wA]
 simp only [dD]
 rw [aG0,cZ k0,cZ k1]
 simp only [ah]
 have KU:ZV gc (.agg #[B (decide (a<0)),v]) a:=⟨v,rfl,hv.mono x0⟩
 have KV:ZV gc (.agg #[B (decide (b<0)),w]) b:=⟨w,rfl,hw.mono x0⟩
 obtain ⟨xs,dx,_⟩:=id (hv.mono x0)
 obtain ⟨ys,dy,_⟩:=id (hw.mono x0)
 rw [H9 dx dy]
 simp only [ah]
 exact rO p2 (hk _ _ (x0.set (q0.trans q1).1 _) ⟨v,w,rfl,(hv.mono x0).bT p2 _,(hw.mono x0).bT p2 _⟩)
theorem aze {n:Nat} (hn:n<bG) (h:eK n=[49]):n=1:=by
 have:=(xU hn).2.2.2.2
 rw [h] at this
 simpa [dT] using this.symm
theorem arz {va:Value} {a b:Int} {h:ae} {K:Value->ae->Prop} (ha:QZ h va a b) (b0:0<b) (la:a.natAbs<10000^199) (lb:b.natAbs<10000^199) (hk:∀h',EX h h'->K (.tuple #[S (pN (a / (gcd a.natAbs b.natAbs:Int)) (b / (gcd a.natAbs b.natAbs:Int))),B true]) h'):ak prog 53 [va] h K:=by
 have nA:=ha
 obtain ⟨u,w,rfl,hu,hw⟩:=ha
 refine f53 ?_
 have e1:bp 37 h (.agg #[B (decide (a<0)),u,B (decide (b<0)),w])=some (pt h.length 0,h++[.arr 37 [B (decide (a<0)),u,B (decide (b<0)),w]]):=rfl
 simp only [PI,e1,aE]
 have x1:EX h (h++[aq.arr 37 [B (decide (a<0)),u,B (decide (b<0)),w]]):=EX.append _ _
 have k1:(h++[aq.arr 37 [B (decide (a<0)),u,B (decide (b<0)),w]])[h.length]?=some (.arr 37 [B (decide (a<0)),u,B (decide (b<0)),w]):=br
 generalize h++[aq.arr 37 [B (decide (a<0)),u,B (decide (b<0)),w]]=h1 at x1 k1⊢
 rw [gX k1]
 simp only [ah]
 refine Zj (nA.mono x1) b0 la lb ?_
 intro r h2 x2 q2
 have hg0:0<gcd a.natAbs b.natAbs:=Nat.gcd_pos_of_pos_right _ (by omega)
 have S9:gcd a.natAbs b.natAbs<=b.natAbs:=Nat.gcd_le_right _ (by omega)
 have S0:(gcd a.natAbs b.natAbs:Int) ∣ a:=Int.gcd_dvd_left ..
 have ye:(gcd a.natAbs b.natAbs:Int) ∣ b:=Int.gcd_dvd_right ..
 generalize hG:gcd a.natAbs b.natAbs=G at*
 have la':(a / (G:Int)).natAbs<10000^199:=by
  obtain ⟨c,rfl⟩:=S0
  rw [Int.mul_ediv_cancel_left c (by omega)]
  have:c.natAbs<=((G:Int)*c).natAbs:=by rw [natAbs_mul];exact Nat.le_mul_of_pos_left _ (by omega)
  omega
 have b1:0<b / (G:Int)/\(b / (G:Int)).natAbs<10000^199:=by
  obtain ⟨c,rfl⟩:=ye
  rw [Int.mul_ediv_cancel_left c (by omega)]
  have hc:0<c:=by
   apply byContradiction
   intro ji
   have:=Int.mul_nonpos_of_nonneg_of_nonpos (show (0:Int)<=(G:Int) by omega) (show c<=0 by omega)
   omega
  have:c.natAbs<=((G:Int)*c).natAbs:=by rw [natAbs_mul];exact Nat.le_mul_of_pos_left _ (by omega)
  exact ⟨hc,by omega⟩
 generalize a / (G:Int)=A at*
 generalize b / (G:Int)=D at*
 obtain ⟨D0,lD⟩:=b1
 obtain ⟨u',w',rfl,tB,mY⟩:=q2
 have hsD:decide (D<0)=false:=aY (by omega)
 have k2:=x2.get k1
 rw [m8 k2]
 simp only [aE]
 have x3:EX h (h2.set h.length (.arr 37 [B (decide (A<0)),u',B (decide (D<0)),w'])):=(x1.trans x2).set (le_refl _) _
 have k3:=cJ (o:=.arr 37 [B (decide (A<0)),u',B (decide (D<0)),w']) k2
 have hu3:=tB.bT k2 (.arr 37 [B (decide (A<0)),u',B (decide (D<0)),w'])
 have sf:=mY.bT k2 (.arr 37 [B (decide (A<0)),u',B (decide (D<0)),w'])
 generalize h2.set h.length (.arr 37 [B (decide (A<0)),u',B (decide (D<0)),w'])=h3 at x3 k3 hu3 sf⊢
 have aLJ:(10000:Nat)^199<10000^201:=by decide+kernel
 have hb:=pR (n:=A.natAbs) (by omega)
 have hD:=pR (n:=D.natAbs) (by omega)
 simp only [bZ,add_zero,zero_add,kl k3,ah,true_and]
 refine NH (⟨u',rfl,hu3⟩:ZV h3 _ A) ?_
 intro ua h4 x4 m4
 refine ZB m4.GG hb ?_
 intro h5 x5
 have oS:∀{g},EX h3 g->af false 1 g (pt h.length 0)=some (B (decide (A<0))):=λy=>EX.load y (by simp [af,aW,k3,cP])
 simp only [lL k3,EX.load x4 (lL k3),EX.load (x4.trans x5) (lL k3),ah,true_and]
 have hw5:gf h5 w' D.natAbs:=(sf.mono x4).mono x5
 have zD:ZV h5 (.agg #[B (decide (D<0)),w']) ((D.natAbs:Nat):Int):=⟨w',by rw [hsD,aY (by omega)],by rwa [natAbs_natCast]⟩
 refine ZB (n:=D.natAbs) zD hD ?_
 intro h6 x6
 obtain ⟨d1,d2,d3,d4,d5⟩:=xU hb
 obtain ⟨c1,c2,c3,c4,c5⟩:=xU hD
 have xx:=(x4.trans x5).trans x6
 have nl:=aj2 hb
 simp only [lK,ah,fQ,aY (show ¬((eK A.natAbs).length:Int)>4000 by omega),aGY,eL,aY (show ¬((eK D.natAbs).length:Int)>4000 by omega)]
 simp only [aGZ,dQ,ah,dD,bZ,add_zero,oS xx]
 have fin:LZ prog K (S (jr A)) (S (eK D.natAbs)) h6:=by
  rw [aGX]
  have:ai .neq (S (eK D.natAbs)) (.string ⟨#[49]⟩)=some (B (!decide (eK D.natAbs=[49]))):=by
   show ai .neq (S (eK D.natAbs)) (S [49])=_
   rw [abI]
  simp only [this,ah]
  by_cases h1:D=1
  ·subst h1
   have e:pN A 1=jr A:=by unfold pN;rw [if_pos rfl]
   have one:eK (1:Int).natAbs=[49]:=by decide+kernel
   rw [one]
   simp only [decide_true,Bool.not_true,dD,apH]
   rw [<-e]
   exact hk _ (x3.trans xx)
  ·have e:pN A D=jr A++([47]++eK D.natAbs):=by unfold pN;rw [if_neg h1];rfl
   have bt:eK D.natAbs≠[49]:=λh9=>h1 (by have:=aze hD h9;omega)
   have a1:ai .add (.string ⟨#[47]⟩) (S (eK D.natAbs))=some (S ([47]++eK D.natAbs)):=xM (a:=[47]) (b:=eK D.natAbs) (by simp [maxLen];omega)
   have a2:ai .add (S (jr A)) (S ([47]++eK D.natAbs))=some (S (jr A++([47]++eK D.natAbs))):=xM (a:=jr A) (b:=[47]++eK D.natAbs) (by simp [maxLen];omega)
   rw [aY bt]
   simp only [Bool.not_false,dA,a1,a2,ah,apH]
   rw [<-e]
   exact hk _ (x3.trans xx)
 by_cases ji:A<0
 ·have hs:jr A=45::eK A.natAbs:=by unfold jr;rw [if_pos ji]
  have ad:ai .add (.string ⟨#[45]⟩) (S (eK A.natAbs))=some (S (jr A)):=by
   rw [hs]
   exact xM (a:=[45]) (b:=eK A.natAbs) (by simp [maxLen];omega)
  rw [bj ji]
  simp only [dA,ad,ah]
  exact fin
 ·have hs:jr A=eK A.natAbs:=by unfold jr;rw [if_neg ji]
  rw [aY ji,<-hs]
  simp only [dD]
  exact fin
theorem arp {va:Value} {a b:Int} {s:List UInt8} {h:ae} {K:Value->ae->Prop} (ha:QZ h va a b) (b0:0<b) (la:a.natAbs<10000^199) (lb:b.natAbs<10000^199) (hk:∀h',EX h h'->K (B (decide (s=pN (a / (gcd a.natAbs b.natAbs:Int)) (b / (gcd a.natAbs b.natAbs:Int))))) h'):ak prog 16 [S s,va] h K:=by
 have nA:=ha
 obtain ⟨u,w,rfl,hu,hw⟩:=ha
 refine f16 ?_
 have e1:bp 37 h (.agg #[B (decide (a<0)),u,B (decide (b<0)),w])=some (pt h.length 0,h++[.arr 37 [B (decide (a<0)),u,B (decide (b<0)),w]]):=rfl
 simp only [zA,e1,aE]
 have x1:EX h (h++[aq.arr 37 [B (decide (a<0)),u,B (decide (b<0)),w]]):=EX.append _ _
 rw [gX br]
 simp only [ah]
 refine arz (nA.mono x1) b0 la lb ?_
 intro h2 x2
 simp only [eR,fv,fz,ah,aGr,fP,H5,aGs,dY]
 exact hk _ (x1.trans x2)
end
end Go.Proofs.YtelmdbpaoifmoaaGreat
