/-
  Part 5 of the texts behind a statement of this seat: Ct45, Ct46, Ct47, Zq1, Sp18, ZN3, Kd1, Kd2, Kd3, Kd4, Kd5, Kd6, Ct41, Zq2, Zq3, Kd7, ZN4, Kd8, Kd9, Kd10, Zp1, ZR3, Zs1.
-/
import Derived.Test.YtelmdbpaoifmoaaGreatProg
import Derived.KernelRfl
import Derived.Test.YtelmdbpaoifmoaaGreatMu4
open Bool (false_eq_true)
open Classical (byContradiction)
open Go.Proofs.Tryz (prog)
open Int (natAbs_mul natAbs_natCast)
open List (getElem?_eq_getElem getElem?_set_ne getElem_mem length_append length_cons length_nil length_set length_take mem_of_mem_take replicate set_set take_of_length_le)
open Nat (add_mul add_zero div_add_mod gcd le_refl lt_of_lt_of_le min_eq_left mod_eq_of_lt mod_lt mul_assoc mul_comm mul_le_mul_left mul_le_mul_right mul_zero pow_add pow_le_pow_right pow_pos pow_succ zero_add zero_le)
namespace Go.Proofs.YtelmdbpaoifmoaaGreat
open Go.Sim
section
theorem G1 {e:TypeId} {k:IntKind} {h:ae} {v:Value} {xs:List Nat} (d:DS e k h v xs):dh [(.bool false),(.slice none 0 0)] [(1,1,v)]=some (.agg #[B false,v]):=by
 rcases d with ⟨rfl,_⟩ | ⟨i,rfl,_⟩ <;> rfl
theorem Qi (b:Bool) (v:Value):zY false 1 1 (.agg #[B b,v])=some v:=rfl
theorem pJ {n:Nat} (h:n<10000^201):n<bG:=by
 refine lt_of_lt_of_le h ?_
 unfold bG
 decide+kernel
theorem fy.FW {h:ae} {v:Value} {n:Nat} (p:fy h v n):ZV h (.agg #[B false,v]) (n:Int):=⟨v,by rw [aU (by omega)],by simpa using p⟩
theorem Wm {v:Value} {n d:Nat} {h:ae} {K:Value→ae→Prop} (hv:fy h v n) (hn:n<10000^200) (hd:d≤10000) (hk:∀r h',EX h h'→fy h' r (n*d)→K r h'):ak prog 102 [v,I d] h K:=by
 have vS:n<bG:=pJ (by
  have:(10000:Nat)^201=10000^200*10000:=by decide+kernel
  omega)
 have aes:n*d<bG:=by
  refine pJ ?_
  have h1:n*d≤n*10000:=mul_le_mul_left _ hd
  have:(10000:Nat)^201=10000^200*10000:=by decide+kernel
  omega
 refine f102 ?_
 obtain ⟨xs,dx,cx⟩:=id hv
 simp only [M5,G1 dx,ah]
 refine uX (z:=d) (by omega) ?_
 intro r1 h1 x1 z1
 refine C5 (hv.FW.mono x1) z1 (by simpa using vS) (by have:=pJ (n:=10000) (by decide+kernel);simp;omega) ?_
 intro r2 h2 x2 z2
 obtain ⟨u,rfl,hu⟩:=z2
 have e1:((n:Int)*(d:Int)).natAbs=n*d:=by rw [natAbs_mul];simp
 rw [e1] at hu
 have e2:decide ((n:Int)*(d:Int)<0)=false:=by
  have ph:(n:Int)*(d:Int)=((n*d:Nat):Int):=by simp
  exact aU (by omega)
 rw [e2]
 obtain ⟨ys,dy,cy,vy⟩:=hu
 have ly:=rH cy (by rw [vy];exact aes)
 refine ym dy cy.1 (by omega) ?_
 intro r3 h3 x3 z3
 simp only [false_eq_true,if_false,vy] at z3
 obtain ⟨w,rfl,hw⟩:=z3
 rw [Qi]
 rw [natAbs_natCast] at hw
 exact ah.2 (hk _ _ ((x1.trans x2).trans x3) hw)
theorem fy.ayR {h h':ae} {n i m:Nat} (p:fy h (sl 3 i 0 m) n) (hi:h'[i]?=h[i]?):fy h' (sl 3 i 0 m) n:=by
 obtain ⟨xs,d,c,v⟩:=p
 refine ⟨xs,?_,c,v⟩
 rcases d with ⟨h1,h2⟩ | ⟨j,h1,h2⟩
 ·cases h1
 ·obtain ⟨rfl,rfl⟩:=uJ h1
  refine .inr ⟨i,rfl,h2.imp id ?_⟩
  rintro ⟨r,hr⟩
  refine ⟨r,?_⟩
  unfold aQ at hr⊢
  rw [hi];exact hr
theorem auv {h:ae} {v:Value} {ys:List Nat} {d:Nat} {K:Value→ae→Prop} (p:DS 3 .i64 h v ys) (hl:ys.length≤1000) (hk:∀r h',EX h h'→DS 3 .i64 h' r (d::ys)→K r h'):
  OH (cW 3 1 [.int .i64 0] h [(0,1,I d)]) fun a h1=>OH (dM 3 1 8 h1 a v) K:=by
 have e1:cW 3 1 [.int .i64 0] h [(0,1,I d)]=some (sl 3 h.length 0 1,h++[.arr 3 [I d]]):=rfl
 rw [e1]
 simp only [aB]
 obtain ⟨c1,c2⟩:=(p.mono (EX.append h [.arr 3 [I d]])).cells
 by_cases oE:ys.length=0
 ·have:ys=[]:=List.length_eq_zero_iff.1 oE
  subst this
  have e2:dM 3 1 8 (h++[.arr 3 [I d]]) (sl 3 h.length 0 1) v=some (sl 3 h.length 0 1,h++[.arr 3 [I d]]):=by
   simp [dM,c1,c2,sl,maxLen]
  rw [e2]
  simp only [aB]
  exact hk _ _ (EX.append _ _) (.inr ⟨h.length,rfl,.inr ⟨[],by simp [aQ]⟩⟩)
 ·have hg:(h++[aq.arr 3 [I d]])[h.length]?=some (.arr 3 [I d]):=br
  have e2:dM 3 1 8 (h++[.arr 3 [I d]]) (sl 3 h.length 0 1) v=some (sl 3 (h.length+1) 0 (1+ys.length),(h++[aq.arr 3 [I d]]).set h.length .dead++[.arr 3 ([I d]++ys.map fun d:Nat=>I d)]):=by
   simp only [dM,c1,c2]
   simp only [sl,hg]
   rw [if_pos ⟨trivial,trivial,by simp,by omega,by unfold maxLen;omega⟩,if_neg oE]
   simp
  rw [e2]
  simp only [aB]
  refine hk _ _ (((EX.append _ _).set (le_refl _) _).push _) (.inr ⟨h.length+1,by rw [length_cons,Nat.add_comm 1],.inr ⟨[],?_⟩⟩)
  unfold aQ
  rw [List.getElem?_append_right (by simp)]
  simp
theorem amG (B:Nat) (xs:List Nat) {i:Nat} (hi:i<xs.length):val B (xs.drop i)=xs[i]+B*val B (xs.drop (i+1)):=by
 rw [List.drop_eq_getElem_cons hi];rfl
theorem amk {a b:Nat}:nj a b≤0↔a≤b:=by
 unfold nj
 split
 ·constructor <;> omega
 ·split <;> constructor <;> omega
theorem L3 {va vb:Value} {a b:Int} {h:ae} {K:Value→ae→Prop} (ha:ZV h va a) (hb:ZV h vb b) (pc:0<b) (la:a.natAbs<10000^199) (lb:b.natAbs<10000^199)
  (hk:∀r s h',EX h h'→ZV h' r (a / b)→ZV h' s (a%b)→K (.tuple #[r,s]) h'):ak prog 69 [va,vb] h K:=by
 obtain ⟨v,rfl,hv⟩:=ha
 obtain ⟨w,rfl,hw⟩:=hb
 have aGk:(10000:Nat)^200=10000^199*10000:=by decide+kernel
 have aGl:(10000:Nat)^201=10000^200*10000:=by decide+kernel
 refine f69 ?_
 unfold Ob
 refine GZ ?_
 intro h3 x
 obtain ⟨B,hBb⟩:∃B:Nat,b=B:=⟨b.toNat,by omega⟩
 subst hBb
 have hB0:0<B:=by omega
 have hBl:B<10000^199:=by simpa using lb
 obtain ⟨xs,dx,cx,ex⟩:=hv.mono x.ex
 have l1:=rH cx (by rw [ex];exact pJ (by omega))
 have hwB:fy h3 w B:=by have:=hw.mono x.ex;simpa using this
 have e2:aV 35 [(.bool false),(.slice none 0 0)] h3=some (pt h3.length 0,h3++[.arr 35 [(.bool false),(.slice none 0 0)]]):=rfl
 simp only [e2,aB,cw,zero_add]
 have x4:EX h3 (h3++[.arr 35 [(.bool false),(.slice none 0 0)]]):=EX.append _ _
 have g5:(h3++[aq.arr 35 [(.bool false),(.slice none 0 0)]])[h3.length]?=some (.arr 35 [(.bool false),(.slice none 0 0)]):=br
 have qI:h.length+2<h3.length:=(bD x.out).1
 generalize hh4:h3++[aq.arr 35 [(.bool false),(.slice none 0 0)]]=h4 at x4 g5⊢
 have hl4:h4.length=h3.length+1:=by rw [←hh4];simp
 clear hh4
 have PY:=dx.mono x4
 simp only [EX.load x4 x.a1,ah,PY.len,afS (show xs.length≤1000 by omega),aB,SI]
 have e6:IntKind.wrap .i64 ((xs.length:Int)-1)=(xs.length:Int)-1:=wrap64 (by omega) (by omega)
 have x6:EX h4 (hz h4 (replicate xs.length 0)++[.arr 3 []]):=(wa h4 _).push _
 simp only [EX.load (x4.trans x6) x.a1,ah,PY.len,gf,e6]
 have BV:(hz h4 (replicate xs.length 0)++[aq.arr 3 []])[h4.length]?=some (.arr 3 ((replicate xs.length 0).map fun d:Nat=>I d)):=by
  rw [List.getElem?_append_left (by simp [hz])];exact aeY _ _
 have sZ:fy (hz h4 (replicate xs.length 0)++[aq.arr 3 []]) (sl 3 (hz h4 (replicate xs.length 0)).length 0 0) 0:=⟨[],.inr ⟨_,rfl,.inl rfl⟩,dj.nil _,rfl⟩
 refine dI (σ:=Nat×Nat×Value×List Nat×ae) (fun p=>[p.2.2.1,I ((p.1:Int)-1)]) (fun p=>p.2.2.2.2)
  (fun p=>p.1≤xs.length∧EX h4 p.2.2.2.2∧p.2.2.2.2[h4.length]?=some (.arr 3 (p.2.2.2.1.map fun d:Nat=>I d))∧p.2.2.2.1.length=xs.length∧cn 10000 p.2.2.2.1∧fy p.2.2.2.2 p.2.2.1 p.2.1∧p.2.1<B∧val 10000 (p.2.2.2.1.drop p.1)*B+p.2.1=val 10000 (xs.drop p.1)) (fun p=>p.1)
  (xs.length,0,_,replicate xs.length 0,_) rfl rfl ⟨le_refl _,x6,BV,by simp,cn.wR (by decide) _,sZ,hB0,by simp [val]⟩ ?_
 rintro ⟨i,R,rv,qs,g⟩ ⟨hi,xg,hq,qM,Rn,hR,hRB,bU⟩ L hL
 simp only at hi xg hq qM Rn hR hRB bU hL⊢
 have Cf:∀{g'},EX h4 g'→af false 1 g' (pt h.length 1)=some v:=fun y=>EX.load (x4.trans y) x.a1
 have Ai:∀{g'},EX h4 g'→af false 1 g' (pt (h.length+1) 1)=some w:=fun y=>EX.load (x4.trans y) x.b1
 rw [aCK]
 simp only [nA,ah,bW]
 refine ⟨fun cE=>?_,fun aD=>?_⟩
 ·obtain ⟨j,rfl⟩:∃j,i=j+1:=⟨i-1,by omega⟩
  have ej:((j+1:Nat):Int)-1=(j:Int):=by omega
  have xF:j<xs.length:=by omega
  obtain ⟨ia,a1,a2⟩:=(PY.mono xg).get xF
  have RO:xs[j]<10000:=cx.1 _ (getElem_mem xF)
  have Jv:=amG 10000 xs xF
  rw [ej]
  simp only [cw,zero_add,Cf xg,ah,a1,a2]
  obtain ⟨rs,dr,cr,vr⟩:=id hR
  have lr:=rH cr (by rw [vr];exact pJ (by omega))
  refine auv dr (by omega) ?_
  intro r1 g1 y1 d1
  simp only [G1 d1,ah]
  refine Wk d1 (fun z hz=>by
   rcases List.mem_cons.1 hz with rfl | hz
   ·exact RO
   ·exact cr.1 z hz) (by simp;omega) ?_
  rintro r2 g2 y2 z2 ⟨fb,fi,fn,rfl,hfi⟩
  have ev:val 10000 (xs[j]::rs)=xs[j]+10000*R:=by simp only [val,vr]
  simp only [false_eq_true,if_false,ev] at z2
  obtain ⟨rw2,B0,Jr⟩:=z2
  injection B0 with B0
  injection B0 with B0
  simp only [List.cons.injEq,and_true] at B0
  obtain ⟨_,rfl⟩:=B0
  rw [Qi]
  have Rz:fy g2 (sl 3 fi 0 fn) (xs[j]+10000*R):=by
   rw [natAbs_natCast] at Jr
   exact Jr
  have aF3:h4.length<fi:=by
   have h9:=(bD hq).1
   have h8:=y1.1
   omega
  simp only [ah]
  have hR':xs[j]+10000*R<10000*B:=by omega
  generalize hRR:xs[j]+10000*R=R' at Rz hR'
  have nt:EX h4 g2:=(xg.trans y1).trans y2
  refine dI (σ:=Nat×Nat×ae) (fun p=>[I p.1,I p.2.1]) (fun p=>p.2.2) (fun p=>p.1<p.2.1∧p.2.1≤10000∧EX g2 p.2.2∧p.1*B≤R'∧R'<p.2.1*B) (fun p=>p.2.1-p.1)
   (0,10000,g2) rfl rfl ⟨by show 0<10000;decide,le_refl _,EX.refl _,by simp,hR'⟩ ?_
  rintro ⟨lo,oC,g3⟩ ⟨hlh,hh,y3,eD,jk⟩ L2 iA
  simp only at hlh hh y3 eD jk iA⊢
  have rA:EX h4 g3:=nt.trans y3
  rw [aCF]
  have e7:IntKind.wrap .i64 ((oC:Int)-(lo:Int))=((oC-lo:Nat):Int):=by rw [wrap64 (by omega) (by omega)];omega
  have e8:IntKind.wrap .i64 ((lo:Int)+(oC:Int))=((lo+oC:Nat):Int):=by rw [wrap64 (by omega) (by omega)];omega
  simp only [gf,e7,ah,fS,bW]
  refine ⟨fun sV=>?_,fun hle=>?_⟩
  ·simp only [cP,e8,ah]
   rw [show (.int .i64 2:Value)=.int .i64 ((2:Nat):Int) from rfl,CA (by decide) (by omega)]
   simp only [ah,cw,zero_add,Ai rA]
   have hm:(lo+oC) / 2≤10000:=by omega
   refine Wm ((hwB.mono x4).mono rA) (by omega) hm ?_
   intro r4 g4 y4 m4
   have BD:B*((lo+oC) / 2)<bG:=by
    refine pJ ?_
    have:=mul_le_mul_left B hm
    omega
   refine Wl (a:=B*((lo+oC) / 2)) (b:=R') m4 ((Rz.mono y3).mono y4) BD (pJ (by omega)) ?_
   simp only [Ds,ah,bW,true_and]
   generalize hmm:(lo+oC) / 2=mid at*
   have vR:lo<mid∧mid<oC:=by omega
   refine ⟨fun h0=>?_,fun h0=>?_⟩
   ·have:=amk.1 h0
    exact iA (mid,oC,g4) ⟨vR.2,hh,y3.trans y4,by show mid*B≤R';rw [mul_comm];exact this,jk⟩ (by show oC-mid<oC-lo;omega)
   ·have:¬B*mid≤R':=fun h9=>h0 (amk.2 h9)
    exact iA (lo,mid,g4) ⟨vR.1,by show mid≤10000;omega,y3.trans y4,eD,by show R'<mid*B;rw [mul_comm];omega⟩ (by show mid-lo<oC-lo;omega)
  ·have hhl:oC=lo+1:=by omega
   subst hhl
   have hRl:R'<lo*B+B:=by rw [Nat.succ_mul] at jk;exact jk
   rw [aCG]
   have hq3:g3[h4.length]?=some (.arr 3 (qs.map fun d:Nat=>I d)):=by
    rw [←hq]
    have xE:=(bD hq).1
    rw [((y1.trans y2).trans y3).2 _ xE]
   have ad:a9 1 (sl 3 h4.length 0 xs.length) (I j)=some (pt h4.length j):=mQ xF
   simp only [ad,ah]
   rw [oL hq3 (by simp;omega) rfl rfl]
   simp only [aB]
   have es:(qs.map fun d:Nat=>I d).set j (I lo)=(qs.set j lo).map fun d:Nat=>I d:=by rw [List.map_set]
   rw [es]
   have nv:EX h4 (g3.set h4.length (.arr 3 ((qs.set j lo).map fun d:Nat=>I d))):=rA.set (le_refl _) _
   have Rl:(g3.set h4.length (.arr 3 ((qs.set j lo).map fun d:Nat=>I d)))[h4.length]?=some (.arr 3 ((qs.set j lo).map fun d:Nat=>I d)):=ck hq3
   -- gN rest aFU not lie there
   have aeB:fy (g3.set h4.length (.arr 3 ((qs.set j lo).map fun d:Nat=>I d))) (sl 3 fi 0 fn) R':=(Rz.mono y3).ayR (by rw [getElem?_set_ne (by omega)])
   generalize g3.set h4.length (.arr 3 ((qs.set j lo).map fun d:Nat=>I d))=g5 at nv Rl aeB⊢
   simp only [cw,zero_add,Ai nv,ah]
   refine Wm ((hwB.mono x4).mono nv) (by omega) (by omega) ?_
   intro r6 g6 y6 m6
   obtain ⟨us,du,cu,vu⟩:=aeB.mono y6
   obtain ⟨ts,dt,ct,vt⟩:=m6
   have awk:B*lo≤R':=by rw [mul_comm];exact eD
   have lu:=rH cu (by rw [vu];exact pJ (by omega))
   refine LW du dt cu.1 ct.1 (by omega) ?_ (by rw [vu,vt];exact awk) ?_
   ·apply byContradiction
    intro hc
    have:=dj.Ap (by decide) cu ct (by omega)
    omega
   intro r7 g7 os y7 d7 l7 s7 v7
   simp only [G1 d7,ah]
   refine ym d7 l7 (by omega) ?_
   intro r8 g8 y8 z8
   simp only [false_eq_true,if_false] at z8
   obtain ⟨rw8,rfl,axk⟩:=z8
   rw [Qi]
   simp only [ah]
   have P3:IntKind.wrap .i64 ((j:Int)-1)=(j:Int)-1:=wrap64 (by omega) (by omega)
   simp only [aCH,gf,P3,ah,true_and]
   have awV:lo<10000:=by omega
   have hv7:val 10000 os=R' -B*lo:=by omega
   have axl:fy g8 rw8 (R' -B*lo):=by rw [←hv7];simpa using axk
   have hBB:B*lo=lo*B:=mul_comm _ _
   refine hL (j,R' -B*lo,rw8,qs.set j lo,g8) ⟨by show j≤xs.length;omega,((nv.trans y6).trans y7).trans y8,?_,by rw [length_set];exact qM,Rn.set awV _,axl,by show R' -B*lo<B;omega,?_⟩ (by show j<j+1;omega)
   ·have xE:=(bD Rl).1
    show g8[h4.length]?=_
    rw [((y6.trans y7).trans y8).2 _ xE];exact Rl
   ·show val 10000 ((qs.set j lo).drop j)*B+(R' -B*lo)=val 10000 (xs.drop j)
    have hd:(qs.set j lo).drop j=lo::qs.drop (j+1):=by
     rw [List.drop_eq_getElem_cons (by rw [length_set];omega),List.getElem_set_self]
     congr 1
     rw [List.drop_set_of_lt (by omega)]
    rw [hd,Jv,←bU]
    simp only [val]
    have h1:(lo+10000*val 10000 (qs.drop (j+1)))*B=lo*B+10000*(val 10000 (qs.drop (j+1))*B):=by rw [add_mul,mul_assoc]
    rw [h1]
    omega
 ·have BN:i=0:=by omega
  subst BN
  simp only [List.drop_zero] at bU
  rw [aCI]
  have oJ:∀{g'},EX h4 g'→af false 1 g' (pt h.length 0)=some (Go.Sim.B (decide (a<0))):=fun y=>EX.load (x4.trans y) x.a0
  have dq:DS 3 .i64 g (sl 3 h4.length 0 xs.length) qs:=by
   rw [←qM]
   exact .inr ⟨h4.length,rfl,.inr ⟨[],by simp [aQ,hq]⟩⟩
  simp only [cw,add_zero,oJ xg,ah,OY dq]
  refine ym dq Rn (by omega) ?_
  intro r1 g1 y1 z1
  generalize hQ:val 10000 qs=Q at z1 bU
  obtain ⟨rs,dr,cr,vr⟩:=hR.mono y1
  have lr:=rH cr (by rw [vr];exact pJ (by omega))
  simp only [G1 dr,ah]
  refine ym dr cr.1 (by omega) ?_
  intro r2 g2 y2 z2
  simp only [false_eq_true,if_false,vr] at z2
  have z1:=z1.mono y2
  have nt:EX h4 g2:=(xg.trans y1).trans y2
  have nK:h3.length+1≤g2.length:=by have:=nt.1;omega
  obtain ⟨uq,rfl,gK⟩:=id z1
  obtain ⟨ur,rfl,qO⟩:=id z2
  have e3:∀g':ae,aV 35 [(.bool false),(.slice none 0 0)] g'=some (pt g'.length 0,g'++[.arr 35 [(.bool false),(.slice none 0 0)]]):=fun _=>rfl
  simp only [e3,aB,length_append,length_cons,length_nil,zero_add]
  have k0:(g2++[aq.arr 35 [(.bool false),(.slice none 0 0)]]++[aq.arr 35 [(.bool false),(.slice none 0 0)]])[g2.length]?=some (.arr 35 [(.bool false),(.slice none 0 0)]):=by simp
  have k1:(g2++[aq.arr 35 [(.bool false),(.slice none 0 0)]]++[aq.arr 35 [(.bool false),(.slice none 0 0)]])[g2.length+1]?=some (.arr 35 [(.bool false),(.slice none 0 0)]):=by simp
  have y3:EX g2 (g2++[aq.arr 35 [(.bool false),(.slice none 0 0)]]++[aq.arr 35 [(.bool false),(.slice none 0 0)]]):=(EX.append _ _).push _
  generalize g2++[aq.arr 35 [(.bool false),(.slice none 0 0)]]++[aq.arr 35 [(.bool false),(.slice none 0 0)]]=g3 at k0 k1 y3⊢
  rw [eZ k0]
  simp only [aB]
  have y4:EX g2 (g3.set g2.length (.arr 35 [Go.Sim.B (decide ((if decide (a<0)=true then -(Q:Int) else (Q:Int))<0)),uq])):=y3.set (le_refl _) _
  have tk:=ck (o:=.arr 35 [Go.Sim.B (decide ((if decide (a<0)=true then -(Q:Int) else (Q:Int))<0)),uq]) k0
  have kR:(g3.set g2.length (.arr 35 [Go.Sim.B (decide ((if decide (a<0)=true then -(Q:Int) else (Q:Int))<0)),uq]))[g2.length+1]?=some (.arr 35 [(.bool false),(.slice none 0 0)]):=by rw [getElem?_set_ne (by omega)];exact k1
  generalize g3.set g2.length (.arr 35 [Go.Sim.B (decide ((if decide (a<0)=true then -(Q:Int) else (Q:Int))<0)),uq])=g4 at y4 tk kR⊢
  rw [eZ kR]
  simp only [aB]
  have y5:EX g2 (g4.set (g2.length+1) (.arr 35 [Go.Sim.B (decide ((R:Int)<0)),ur])):=y4.set (by omega) _
  have m1:=ck (o:=.arr 35 [Go.Sim.B (decide ((R:Int)<0)),ur]) kR
  have m0:(g4.set (g2.length+1) (.arr 35 [Go.Sim.B (decide ((R:Int)<0)),ur]))[g2.length]?=some (.arr 35 [Go.Sim.B (decide ((if decide (a<0)=true then -(Q:Int) else (Q:Int))<0)),uq]):=by rw [getElem?_set_ne (by omega)];exact tk
  generalize g4.set (g2.length+1) (.arr 35 [Go.Sim.B (decide ((R:Int)<0)),ur])=sO at y5 m0 m1⊢
  have nv:EX h4 sO:=nt.trans y5
  have LP:EX h sO:=(x.ex.trans x4).trans nv
  have o4:=nv.get (x4.get x.out)
  have o5:=nv.get g5
  have zq:=z1.mono y5
  have zr:=z2.mono y5
  have zb:ZV sO (.agg #[Go.Sim.B (decide ((B:Int)<0)),w]) (B:Int):=⟨w,rfl,(hw.mono x.ex).mono (x4.trans nv)⟩
  have hQv:Q*B+R=a.natAbs:=by rw [bU,ex]
  -- gN two results
  have put:∀(r s:Value) (g6:ae),EX sO g6→ZV g6 r (a / (B:Int))→ZV g6 s (a%(B:Int))→OH (aG 2 g6 (pt (h.length+2) 0) r) fun _ h_1=>OH (aG 2 h_1 (pt h3.length 0) s) fun _ h_2=>OP (af true 2 h_2 (pt (h.length+2) 0)) fun r0=>OP (af true 2 h_2 (pt h3.length 0)) fun r1=>K (.tuple #[r0,r1]) h_2:=by
   rintro r s g6 y6 Ge LV
   obtain ⟨u1,rfl,hu1⟩:=id Ge
   obtain ⟨u2,rfl,p5⟩:=id LV
   have n4:=y6.get o4
   have n5:=y6.get o5
   rw [eZ n4]
   simp only [aB]
   have JY:(g6.set (h.length+2) (.arr 35 [Go.Sim.B (decide (a / (B:Int)<0)),u1]))[h3.length]?=some (.arr 35 [.bool false,.slice none 0 0]):=by rw [getElem?_set_ne (by omega)];exact n5
   rw [eZ JY]
   simp only [aB]
   have p4:((g6.set (h.length+2) (.arr 35 [Go.Sim.B (decide (a / (B:Int)<0)),u1])).set h3.length (.arr 35 [Go.Sim.B (decide (a%(B:Int)<0)),u2]))[h.length+2]?=some (.arr 35 [Go.Sim.B (decide (a / (B:Int)<0)),u1]):=by
    rw [getElem?_set_ne (by omega)];exact ck n4
   rw [cI p4,ah,cI (ck JY),ah]
   exact hk _ _ _ (((LP.trans y6).set (by omega) _).set (by omega) _) ((Ge.bM n4 _).bM JY _) ((LV.bM n4 _).bM JY _)
  have awl:(0:Int)<(B:Int):=by omega
  have un:∀q r:Int,r+(B:Int)*q=a→0≤r→r<(B:Int)→a / (B:Int)=q∧a%(B:Int)=r:=fun q r h1 h2 h3=>(Int.ediv_emod_unique awl).2 ⟨h1,h2,h3⟩
  have QH:((Q*B:Nat):Int)=(B:Int)*(Q:Int):=by rw [Int.natCast_mul,Int.mul_comm]
  -- nothing to be aGH
  have plain:(0≤a∨R=0)→FB prog K (pt (h.length+1) 0) (pt (h.length+2) 0) (pt h3.length 0) (pt g2.length 0) (pt (g2.length+1) 0) (Go.Sim.B false) undef sO∧FB prog K (pt (h.length+1) 0) (pt (h.length+2) 0) (pt h3.length 0) (pt g2.length 0) (pt (g2.length+1) 0) (Go.Sim.B true) (Go.Sim.B false) sO:=by
   intro hc
   have EL:a / (B:Int)=(if decide (a<0)=true then -(Q:Int) else (Q:Int))∧a%(B:Int)=(R:Int):=by
    by_cases jo:a<0
    ·have hR0:R=0:=by omega
     rw [aZ jo,if_pos rfl]
     refine un _ _ ?_ (by omega) (by omega)
     rw [Int.mul_neg,←QH]
     omega
    ·rw [aU jo,if_neg (by simp)]
     refine un _ _ ?_ (by omega) (by omega)
     rw [←QH]
     omega
   have tail:OP (af true 2 sO (pt g2.length 0)) fun oQ=>OP (af true 2 sO (pt (g2.length+1) 0)) fun iR=>OH (aG 2 sO (pt (h.length+2) 0) oQ) fun _ h_1=>(af true 2 h_1 (pt (g2.length+1) 0)=some iR)∧OH (aG 2 h_1 (pt h3.length 0) iR) fun _ h_2=>OP (af true 2 h_2 (pt (h.length+2) 0)) fun r0=>OP (af true 2 h_2 (pt h3.length 0)) fun r1=>K (.tuple #[r0,r1]) h_2:=by
    have:=put _ _ sO (EX.refl _) (by rw [EL.1];exact zq) (by rw [EL.2];exact zr)
    rw [cI m0,ah,cI m1,ah]
    rw [eZ o4] at this⊢
    simp only [aB] at this⊢
    refine ⟨?_,this⟩
    refine cI (e:=35) ?_
    rw [getElem?_set_ne (by omega)]
    exact m1
   constructor
   ·rw [UR]
    simp only [dU,ah,dR,true_and,and_true]
    exact tail
   ·rw [UR]
    simp only [ef,ah,dR,true_and,and_true]
    exact tail
  have Su:af false 1 sO (pt (g2.length+1) 1)=some ur:=by simp [af,aQ,m1,cf]
  obtain ⟨l,p1,p2⟩:=(qO.mono y5).qf
  have p2':0<l↔0<R:=by simpa using p2
  simp only [oJ nv,ah,aCJ]
  by_cases jo:a<0
  ·rw [aZ jo]
   simp only [gQ,cw,Nat.add_comm 0 1,Su,ah,p1,fS]
   by_cases hR0:R=0
   ·rw [aU (by omega)]
    exact (plain (.inr hR0)).2
   ·rw [aZ (by omega),UR]
    have aF1:a.natAbs<bG:=pJ (by omega)
    have aFZ:Q≤a.natAbs:=by
     have:Q*1≤Q*B:=mul_le_mul_left _ hB0
     omega
    have EC:(1:Int).natAbs<bG:=afK (by decide+kernel)
    simp only [ef,ah,dS,cI m0,true_and]
    refine uX (z:=1) (by decide) ?_
    intro r6 g6 y6 z6
    refine ⟨⟨EX.load y6 (cI m0),trivial⟩,?_⟩
    have Ss:∀{g'},EX h4 g'→af true 2 g' (pt (h.length+1) 0)=some (.agg #[Go.Sim.B (decide ((B:Int)<0)),w]):=fun y=>EX.load (x4.trans y) x.b2
    refine L8 (zq.mono y6) z6 (by rw [aZ jo,if_pos rfl];omega) EC ?_
    intro r7 g7 y7 z7
    have xg7:=(nv.trans y6).trans y7
    simp only [Ss nv,Ss (nv.trans y6),Ss xg7,ah,cI m1,EX.load y6 (cI m1),EX.load (y6.trans y7) (cI m1),true_and,and_true]
    refine L8 (zb.mono (y6.trans y7)) (zr.mono (y6.trans y7)) (by have:=pJ (n:=B) (by omega);simpa using this) (by have:=pJ (n:=R) (by omega);simpa using this) ?_
    intro r8 g8 y8 z8
    have EL:=un (-(Q:Int)-1) ((B:Int)-(R:Int)) (by
     rw [Int.mul_sub,Int.mul_neg,←QH,Int.mul_one]
     omega) (by omega) (by omega)
    rw [aZ jo,if_pos rfl] at z7
    exact put _ _ g8 ((y6.trans y7).trans y8) (by rw [EL.1];exact z7.mono y8) (by rw [EL.2];exact z8)
  ·rw [aU jo]
   simp only [lK]
   exact (plain (.inl (by omega))).1
end
section
theorem L9 {va:Value} {a:Int} {h:ae} {K:Value→ae→Prop} (ha:ZV h va a) (hk:∀u h',EX h h'→fy h' u a.natAbs→K (.agg #[B false,u]) h'):ak prog 94 [va] h K:=by
 obtain ⟨v,rfl,hv⟩:=ha
 refine f94 ?_
 have e1:bm 35 h (.agg #[B (decide (a<0)),v])=some (pt h.length 0,h++[.arr 35 [B (decide (a<0)),v]]):=rfl
 have e2:∀g':ae,aV 35 [(.bool false),(.slice none 0 0)] g'=some (pt g'.length 0,g'++[.arr 35 [(.bool false),(.slice none 0 0)]]):=fun _=>rfl
 simp only [Oy,e1,e2,aB,length_append,length_cons,length_nil,zero_add]
 have k0:(h++[aq.arr 35 [B (decide (a<0)),v]]++[aq.arr 35 [(.bool false),(.slice none 0 0)]])[h.length]?=some (.arr 35 [B (decide (a<0)),v]):=by simp
 have k1:(h++[aq.arr 35 [B (decide (a<0)),v]]++[aq.arr 35 [(.bool false),(.slice none 0 0)]])[h.length+1]?=some (.arr 35 [(.bool false),(.slice none 0 0)]):=by simp
 have x1:EX h (h++[aq.arr 35 [B (decide (a<0)),v]]++[aq.arr 35 [(.bool false),(.slice none 0 0)]]):=(EX.append _ _).push _
 generalize h++[aq.arr 35 [B (decide (a<0)),v]]++[aq.arr 35 [(.bool false),(.slice none 0 0)]]=h1 at k0 k1 x1⊢
 simp only [cw,add_zero,ah]
 rw [oL k0 (by simp) rfl rfl]
 simp only [aB,List.set_cons_zero]
 have kR:(h1.set h.length (.arr 35 [B false,v]))[h.length+1]?=some (.arr 35 [(.bool false),(.slice none 0 0)]):=by rw [getElem?_set_ne (by omega)];exact k1
 rw [cI (ck k0)]
 simp only [ah]
 exact yS kR (hk _ _ ((x1.set (le_refl _) _).set (by omega) _) (((hv.mono x1).bM k0 _).bM kR _))
theorem WS {va vb:Value} {a b:Int} {h:ae} {K:Value→ae→Prop} (ha:ZV h va a) (hb:ZV h vb b) (la:a.natAbs<10000^199) (lb:b.natAbs<10000^199)
  (hk:∀u h',EX h h'→fy h' u (gcd a.natAbs b.natAbs)→K (.agg #[B false,u]) h'):ak prog 68 [va,vb] h K:=by
 have oA:=ha
 have pc:=hb
 obtain ⟨v,rfl,hv⟩:=ha
 obtain ⟨w,rfl,hw⟩:=hb
 refine f68 ?_
 have e1:∀(g:ae) (s:Bool) (v:Value),bm 35 g (.agg #[B s,v])=some (pt g.length 0,g++[.arr 35 [B s,v]]):=fun _ _ _=>rfl
 have e2:∀g':ae,aV 35 [(.bool false),(.slice none 0 0)] g'=some (pt g'.length 0,g'++[.arr 35 [(.bool false),(.slice none 0 0)]]):=fun _=>rfl
 simp only [Oa,e1,e2,aB,length_append,length_cons,length_nil,zero_add]
 have k0:(h++[aq.arr 35 [B (decide (a<0)),v]]++[aq.arr 35 [B (decide (b<0)),w]]++[aq.arr 35 [(.bool false),(.slice none 0 0)]])[h.length]?=some (.arr 35 [B (decide (a<0)),v]):=by simp
 have k1:(h++[aq.arr 35 [B (decide (a<0)),v]]++[aq.arr 35 [B (decide (b<0)),w]]++[aq.arr 35 [(.bool false),(.slice none 0 0)]])[h.length+1]?=some (.arr 35 [B (decide (b<0)),w]):=by simp
 have k2:(h++[aq.arr 35 [B (decide (a<0)),v]]++[aq.arr 35 [B (decide (b<0)),w]]++[aq.arr 35 [(.bool false),(.slice none 0 0)]])[h.length+2]?=some (.arr 35 [(.bool false),(.slice none 0 0)]):=by simp
 have x1:EX h (h++[aq.arr 35 [B (decide (a<0)),v]]++[aq.arr 35 [B (decide (b<0)),w]]++[aq.arr 35 [(.bool false),(.slice none 0 0)]]):=((EX.append _ _).push _).push _
 generalize h++[aq.arr 35 [B (decide (a<0)),v]]++[aq.arr 35 [B (decide (b<0)),w]]++[aq.arr 35 [(.bool false),(.slice none 0 0)]]=h1 at k0 k1 k2 x1⊢
 rw [cI k0]
 simp only [ah,true_and]
 refine L9 (oA.mono x1) ?_
 intro u2 h2 x2 m2
 simp only [cI k1,EX.load x2 (cI k1),ah,true_and]
 refine L9 (pc.mono (x1.trans x2)) ?_
 intro u3 h3 x3 m3
 have tk:=(x2.trans x3).get k0
 have kR:=(x2.trans x3).get k1
 have EZ:=(x2.trans x3).get k2
 have aC:=(x1.trans x2).trans x3
 have m2:=m2.mono x3
 rw [eZ tk]
 simp only [aB]
 have q1:(h3.set h.length (.arr 35 [B false,u2]))[h.length+1]?=some (.arr 35 [B (decide (b<0)),w]):=by rw [getElem?_set_ne (by omega)];exact kR
 rw [eZ q1]
 simp only [aB]
 refine dI (σ:=Nat×Nat×Value×Value×ae) (fun _=>[]) (fun p=>p.2.2.2.2)
  (fun p=>EX h p.2.2.2.2∧p.2.2.2.2[h.length]?=some (.arr 35 [B false,p.2.2.1])∧p.2.2.2.2[h.length+1]?=some (.arr 35 [B false,p.2.2.2.1])∧p.2.2.2.2[h.length+2]?=some (.arr 35 [.bool false,.slice none 0 0])∧fy p.2.2.2.2 p.2.2.1 p.1∧fy p.2.2.2.2 p.2.2.2.1 p.2.1∧p.1<10000^199∧p.2.1<10000^199∧gcd p.1 p.2.1=gcd a.natAbs b.natAbs) (fun p=>p.2.1)
  (a.natAbs,b.natAbs,u2,u3,(h3.set h.length (.arr 35 [B false,u2])).set (h.length+1) (.arr 35 [B false,u3])) rfl rfl
  ⟨(aC.set (le_refl _) _).set (by omega) _,by rw [getElem?_set_ne (by omega)];exact ck tk,ck q1,by rw [getElem?_set_ne (by omega),getElem?_set_ne (by omega)];exact EZ,(m2.bM tk _).bM q1 _,(m3.bM tk _).bM q1 _,la,lb,rfl⟩ ?_
 rintro ⟨x,y,ux,uy,g⟩ ⟨xg,j0,j1,j2,mx,my,lx,ly,hg⟩ L hL
 simp only at xg j0 j1 j2 mx my lx ly hg hL⊢
 rw [aCE]
 obtain ⟨l,p1,p2⟩:=my.qf
 have ld:af false 1 g (pt (h.length+1) 1)=some uy:=by simp [af,aQ,j1,cf]
 simp only [cw,zero_add,ld,ah,p1,fS,bW]
 refine ⟨fun sV=>?_,fun hle=>?_⟩
 ·have hy:0<y:=p2.1 (by omega)
  rw [cI j0,ah,cI j1,ah]
  refine L3 mx.FW my.FW (by omega) (by simpa using lx) (by simpa using ly) ?_
  intro r s g1 y1 zr zs
  obtain ⟨u5,rfl,hu5⟩:=id zr
  obtain ⟨u6,hs6,hu6⟩:=id zs
  have iJ:decide ((x:Int)%(y:Int)<0)=false:=aU (by have:=Int.emod_nonneg (x:Int) (show (y:Int)≠0 by omega);omega)
  rw [iJ] at hs6
  subst hs6
  have hmv:((x:Int)%(y:Int)).natAbs=x%y:=by
   rw [←Int.natCast_emod,natAbs_natCast]
  rw [hmv] at hu6
  have gl:h.length+2<g1.length:=by
   have:=(bD j2).1
   have:=y1.1
   omega
  simp only [eC,eO,eY,ah,e2,aB,length_append,length_cons,length_nil,zero_add]
  have n0:(g1++[aq.arr 35 [(.bool false),(.slice none 0 0)]]++[aq.arr 35 [(.bool false),(.slice none 0 0)]])[g1.length]?=some (.arr 35 [(.bool false),(.slice none 0 0)]):=by simp
  have n1:(g1++[aq.arr 35 [(.bool false),(.slice none 0 0)]]++[aq.arr 35 [(.bool false),(.slice none 0 0)]])[g1.length+1]?=some (.arr 35 [(.bool false),(.slice none 0 0)]):=by simp
  have y2:EX g1 (g1++[aq.arr 35 [(.bool false),(.slice none 0 0)]]++[aq.arr 35 [(.bool false),(.slice none 0 0)]]):=(EX.append _ _).push _
  generalize g1++[aq.arr 35 [(.bool false),(.slice none 0 0)]]++[aq.arr 35 [(.bool false),(.slice none 0 0)]]=g2 at n0 n1 y2⊢
  rw [eZ n0]
  simp only [aB]
  have JX:(g2.set g1.length (.arr 35 [B (decide ((x:Int) / (y:Int)<0)),u5]))[g1.length+1]?=some (.arr 35 [(.bool false),(.slice none 0 0)]):=by rw [getElem?_set_ne (by omega)];exact n1
  rw [eZ JX]
  simp only [aB]
  have y3:EX g1 ((g2.set g1.length (.arr 35 [B (decide ((x:Int) / (y:Int)<0)),u5])).set (g1.length+1) (.arr 35 [B false,u6])):=(y2.set (le_refl _) _).set (by omega) _
  have n6:=ck (o:=.arr 35 [B false,u6]) JX
  generalize (g2.set g1.length (.arr 35 [B (decide ((x:Int) / (y:Int)<0)),u5])).set (g1.length+1) (.arr 35 [B false,u6])=g3 at y3 n6⊢
  have i0:=(y1.trans y3).get j0
  have i1:=(y1.trans y3).get j1
  have i2:=(y1.trans y3).get j2
  rw [cI i1]
  simp only [ah,true_and,cI n6]
  rw [eZ i0]
  simp only [aB,and_true]
  have s6:(g3.set h.length (.arr 35 [B false,uy]))[g1.length+1]?=some (.arr 35 [B false,u6]):=by rw [getElem?_set_ne (by omega)];exact n6
  have s1:(g3.set h.length (.arr 35 [B false,uy]))[h.length+1]?=some (.arr 35 [B false,uy]):=by rw [getElem?_set_ne (by omega)];exact i1
  refine ⟨cI s6,?_⟩
  rw [eZ s1]
  simp only [aB]
  have aD:x%y<y:=mod_lt _ hy
  refine hL (y,x%y,uy,u6,(g3.set h.length (.arr 35 [B false,uy])).set (h.length+1) (.arr 35 [B false,u6])) ⟨(((xg.trans y1).trans y3).set (le_refl _) _).set (by omega) _,?_,ck s1,?_,(((my.mono y1).mono y3).bM i0 _).bM s1 _,(((hu6.mono y3)).bM i0 _).bM s1 _,ly,by show x%y<_;omega,?_⟩ aD
  ·show ((g3.set h.length _).set (h.length+1) _)[h.length]?=_
   rw [getElem?_set_ne (by omega)];exact ck i0
  ·show ((g3.set h.length _).set (h.length+1) _)[h.length+2]?=_
   rw [getElem?_set_ne (by omega),getElem?_set_ne (by omega)];exact i2
  ·show gcd y (x%y)=_
   rw [←hg,Nat.gcd_comm x y,Nat.gcd_rec y x,Nat.gcd_comm]
 ·have hy:y=0:=by
   apply byContradiction
   intro hc
   have:=p2.2 (by omega)
   omega
  subst hy
  rw [aCD,cI j0]
  simp only [ah]
  rw [Nat.gcd_zero_right] at hg
  subst hg
  exact yS j2 (hk _ _ (xg.set (by omega) _) (mx.bM j2 _))
theorem WK {va:Value} {a b:Int} {h:ae} {K:Value→ae→Prop} (ha:QZ h va a b) (hb:0<b) (la:a.natAbs<10000^199) (lb:b.natAbs<10000^199)
  (hk:∀r h',EX h h'→QZ h' r (a / (gcd a.natAbs b.natAbs:Int)) (b / (gcd a.natAbs b.natAbs:Int))→K r h'):ak prog 25 [va] h K:=by
 obtain ⟨u,w,rfl,hu,hw⟩:=ha
 refine f25 ?_
 have e1:bm 37 h (.agg #[B (decide (a<0)),u,B (decide (b<0)),w])=some (pt h.length 0,h++[.arr 37 [B (decide (a<0)),u,B (decide (b<0)),w]]):=rfl
 have e2:∀g':ae,aV 35 [(.bool false),(.slice none 0 0)] g'=some (pt g'.length 0,g'++[.arr 35 [(.bool false),(.slice none 0 0)]]):=fun _=>rfl
 have e4:∀g':ae,aV 37 [(.bool false),(.slice none 0 0),(.bool false),(.slice none 0 0)] g'=some (pt g'.length 0,g'++[.arr 37 z4]):=fun _=>rfl
 simp only [NP,e1,e4,aB,length_append,length_cons,length_nil,zero_add]
 have k0:(h++[aq.arr 37 [B (decide (a<0)),u,B (decide (b<0)),w]]++[aq.arr 37 z4])[h.length]?=some (.arr 37 [B (decide (a<0)),u,B (decide (b<0)),w]):=by simp
 have k1:(h++[aq.arr 37 [B (decide (a<0)),u,B (decide (b<0)),w]]++[aq.arr 37 z4])[h.length+1]?=some (.arr 37 z4):=by simp
 have x1:EX h (h++[aq.arr 37 [B (decide (a<0)),u,B (decide (b<0)),w]]++[aq.arr 37 z4]):=(EX.append _ _).push _
 generalize h++[aq.arr 37 [B (decide (a<0)),u,B (decide (b<0)),w]]++[aq.arr 37 z4]=h1 at k0 k1 x1⊢
 have za:ZV h1 (.agg #[B (decide (a<0)),u]) a:=⟨u,rfl,hu.mono x1⟩
 have zb:ZV h1 (.agg #[B (decide (b<0)),w]) b:=⟨w,rfl,hw.mono x1⟩
 simp only [cw,add_zero,zero_add,jJ k0,kS k0,ah]
 refine WS za zb la lb ?_
 intro ug h2 x2 mg
 have awD:0<gcd a.natAbs b.natAbs:=Nat.gcd_pos_of_pos_right _ (by omega)
 have Q2:gcd a.natAbs b.natAbs≤b.natAbs:=Nat.le_of_dvd (by omega) (Nat.gcd_dvd_right _ _)
 generalize gcd a.natAbs b.natAbs=g at mg awD Q2 hk
 have zg:=mg.FW
 simp only [e2,aB]
 rw [eZ br]
 simp only [aB]
 have x3:EX h2 ((h2++[aq.arr 35 [(.bool false),(.slice none 0 0)]]).set h2.length (.arr 35 [B false,ug])):=EX.set (EX.append _ _) (le_refl _) _
 have k3:((h2++[aq.arr 35 [(.bool false),(.slice none 0 0)]]).set h2.length (.arr 35 [B false,ug]))[h2.length]?=some (.arr 35 [B false,ug]):=ck br
 generalize (h2++[aq.arr 35 [(.bool false),(.slice none 0 0)]]).set h2.length (.arr 35 [B false,ug])=h3 at x3 k3⊢
 have aC:=x2.trans x3
 simp only [EX.load aC (jJ k0),cI k3,ah]
 have lg:((g:Nat):Int).natAbs<10000^199:=by rw [natAbs_natCast];omega
 refine L3 (za.mono aC) (zg.mono x3) (by omega) la lg ?_
 intro r s h4 x4 zr zs
 obtain ⟨ur,rfl,hur⟩:=id zr
 obtain ⟨us,rfl,B4⟩:=id zs
 simp only [eC,eO,eY,ah,length_append,length_cons,length_nil,zero_add]
 have n0:(h4++[aq.arr 35 [(.bool false),(.slice none 0 0)]]++[aq.arr 35 [(.bool false),(.slice none 0 0)]])[h4.length]?=some (.arr 35 [(.bool false),(.slice none 0 0)]):=by simp
 have n1:(h4++[aq.arr 35 [(.bool false),(.slice none 0 0)]]++[aq.arr 35 [(.bool false),(.slice none 0 0)]])[h4.length+1]?=some (.arr 35 [(.bool false),(.slice none 0 0)]):=by simp
 have y2:EX h4 (h4++[aq.arr 35 [(.bool false),(.slice none 0 0)]]++[aq.arr 35 [(.bool false),(.slice none 0 0)]]):=(EX.append _ _).push _
 generalize h4++[aq.arr 35 [(.bool false),(.slice none 0 0)]]++[aq.arr 35 [(.bool false),(.slice none 0 0)]]=h5 at n0 n1 y2⊢
 rw [eZ n0]
 simp only [aB]
 have JX:(h5.set h4.length (.arr 35 [B (decide (a / (g:Int)<0)),ur]))[h4.length+1]?=some (.arr 35 [(.bool false),(.slice none 0 0)]):=by rw [getElem?_set_ne (by omega)];exact n1
 rw [eZ JX]
 simp only [aB]
 have y3:EX h4 ((h5.set h4.length (.arr 35 [B (decide (a / (g:Int)<0)),ur])).set (h4.length+1) (.arr 35 [B (decide (a%(g:Int)<0)),us])):=(y2.set (le_refl _) _).set (by omega) _
 have n0':((h5.set h4.length (.arr 35 [B (decide (a / (g:Int)<0)),ur])).set (h4.length+1) (.arr 35 [B (decide (a%(g:Int)<0)),us]))[h4.length]?=some (.arr 35 [B (decide (a / (g:Int)<0)),ur]):=by rw [getElem?_set_ne (by omega)];exact ck n0
 generalize (h5.set h4.length (.arr 35 [B (decide (a / (g:Int)<0)),ur])).set (h4.length+1) (.arr 35 [B (decide (a%(g:Int)<0)),us])=h6 at y3 n0'⊢
 have bp:=(aC.trans x4).trans y3
 have db:=x4.trans y3
 simp only [EX.load bp (kS k0),EX.load db (cI k3),ah]
 refine L3 (zb.mono bp) (zg.mono (x3.trans db)) (by omega) lb lg ?_
 intro r' s' h7 x7 Ge LV
 obtain ⟨FY,rfl,aGn⟩:=id Ge
 obtain ⟨Lx,rfl,aGo⟩:=id LV
 simp only [eC,eO,eY,ah]
 have m0:(h7++[aq.arr 35 [(.bool false),(.slice none 0 0)]]++[aq.arr 35 [(.bool false),(.slice none 0 0)]])[h7.length]?=some (.arr 35 [(.bool false),(.slice none 0 0)]):=by simp
 have m1:(h7++[aq.arr 35 [(.bool false),(.slice none 0 0)]]++[aq.arr 35 [(.bool false),(.slice none 0 0)]])[h7.length+1]?=some (.arr 35 [(.bool false),(.slice none 0 0)]):=by simp
 have w2:EX h7 (h7++[aq.arr 35 [(.bool false),(.slice none 0 0)]]++[aq.arr 35 [(.bool false),(.slice none 0 0)]]):=(EX.append _ _).push _
 generalize h7++[aq.arr 35 [(.bool false),(.slice none 0 0)]]++[aq.arr 35 [(.bool false),(.slice none 0 0)]]=h8 at m0 m1 w2⊢
 rw [eZ m0]
 simp only [aB]
 have JQ:(h8.set h7.length (.arr 35 [B (decide (b / (g:Int)<0)),FY]))[h7.length+1]?=some (.arr 35 [(.bool false),(.slice none 0 0)]):=by rw [getElem?_set_ne (by omega)];exact m1
 rw [eZ JQ]
 simp only [aB]
 have w3:EX h7 ((h8.set h7.length (.arr 35 [B (decide (b / (g:Int)<0)),FY])).set (h7.length+1) (.arr 35 [B (decide (b%(g:Int)<0)),Lx])):=(w2.set (le_refl _) _).set (by omega) _
 have m0':((h8.set h7.length (.arr 35 [B (decide (b / (g:Int)<0)),FY])).set (h7.length+1) (.arr 35 [B (decide (b%(g:Int)<0)),Lx]))[h7.length]?=some (.arr 35 [B (decide (b / (g:Int)<0)),FY]):=by rw [getElem?_set_ne (by omega)];exact ck m0
 generalize (h8.set h7.length (.arr 35 [B (decide (b / (g:Int)<0)),FY])).set (h7.length+1) (.arr 35 [B (decide (b%(g:Int)<0)),Lx])=h9 at w3 m0'⊢
 have gq:=x7.trans w3
 rw [EX.load gq (cI n0'),ah,cI m0',ah]
 exact DT (zr.mono (y3.trans gq)) (Ge.mono w3) (x1.trans (bp.trans gq)) (by omega) ((bp.trans gq).get k1) hk
theorem auA {s:List UInt8} {n:Nat} (hd:kl s) (hv:dJ s=n) (hn:0<n) (hh:s.head?≠some 48):s=cC n:=by
 have e1:((s.reverse.map fun c:UInt8=>c.toNat-48).map iV).reverse=s:=by
  rw [List.map_map]
  have:s.reverse.map (iV ∘ fun c:UInt8=>c.toNat-48)=s.reverse:=by
   conv=>rhs;rw [←List.map_id s.reverse]
   apply List.map_congr_left
   intro c hc
   have h1:=hd c (by simpa using hc)
   apply UInt8.toNat_inj.1
   simp only [Function.comp,id]
   rw [vA (by omega)]
   omega
  rw [this,List.reverse_reverse]
 have fe:cn 10 (s.reverse.map fun c:UInt8=>c.toNat-48):=by
  intro x hx
  obtain ⟨c,hc,rfl⟩:=List.mem_map.1 hx
  have h1:=hd c (by simpa using hc)
  omega
 have bU:val 10 (s.reverse.map fun c:UInt8=>c.toNat-48)=n:=by
  rw [←VU fe,e1,hv]
 have zj:dj 10 (s.reverse.map fun c:UInt8=>c.toNat-48):=by
  refine ⟨fe,?_⟩
  rw [List.getLast?_map,List.getLast?_reverse]
  intro hc
  cases hs:s.head? with
  | none=>rw [hs] at hc;cases hc
  | some c=>
   rw [hs] at hc
   have BF:c.toNat-48=0:=by simpa using hc
   have rP:c∈s:=List.mem_of_mem_head? hs
   have h1:=hd c rP
   apply hh
   rw [hs]
   congr 1
   apply UInt8.toNat_inj.1
   show c.toNat=48
   omega
 obtain ⟨d1,d2⟩:=It n
 have:=dj.unique (by decide) zj d1 (by rw [bU,d2])
 unfold cC
 rw [if_neg (by omega),←this,e1]
end
section
/-- Four digits. -/
def four (d:Nat):List UInt8:=[iV (d / 1000),iV (d / 100%10),iV (d / 10%10),iV (d%10)]
theorem av4 {d:Nat} (hd:d<10000):kl (four d)∧dJ (four d)=d:=by
 have h1:=vA (d:=d / 1000) (by omega)
 have h2:=vA (d:=d / 100%10) (by omega)
 have h3:=vA (d:=d / 10%10) (by omega)
 have h4:=vA (d:=d%10) (by omega)
 constructor
 ·intro c hc
  simp only [four,List.mem_cons,List.not_mem_nil,or_false] at hc
  rcases hc with rfl | rfl | rfl | rfl <;> omega
 ·simp only [four,Lz,h1,h2,h3,h4,length_cons,length_nil]
  simp only [dJ,List.foldl_nil]
  omega
theorem WX {va:Value} {n:Nat} {h:ae} {K:Value→ae→Prop} (ha:ZV h va n) (hn:n<bG) (hk:∀h',EX h h'→K (S (cC n)) h'):ak prog 93 [va] h K:=by
 obtain ⟨v,rfl,hv⟩:=ha
 rw [natAbs_natCast] at hv
 refine f93 ?_
 have e1:bm 35 h (.agg #[B (decide ((n:Int)<0)),v])=some (pt h.length 0,h++[.arr 35 [B (decide ((n:Int)<0)),v]]):=rfl
 simp only [Ox,e1,aB]
 have x1:EX h (h++[aq.arr 35 [B (decide ((n:Int)<0)),v]]):=EX.append _ _
 have ld:af false 1 (h++[aq.arr 35 [B (decide ((n:Int)<0)),v]]) (pt h.length 1)=some v:=tm rfl
 generalize h++[aq.arr 35 [B (decide ((n:Int)<0)),v]]=h1 at x1 ld⊢
 obtain ⟨xs,dx,cx,vx⟩:=hv.mono x1
 have lx:=rH cx (by rw [vx];exact hn)
 simp only [cw,zero_add,ld,ah,dx.len,jw,bW]
 refine ⟨fun h0=>?_,fun bk=>?_⟩
 ·have:xs=[]:=List.length_eq_zero_iff.1 (by omega)
  subst this
  have oE:n=0:=vx.symm
  subst oE
  exact hk _ x1
 ·have xN:0<xs.length:=by omega
  have awZ:0<n:=by
   apply byContradiction
   intro hc
   have:=dj.zero (by decide) cx (by omega)
   rw [this] at xN
   simp at xN
  have e2:IntKind.wrap .i64 ((xs.length:Int)-1)=(xs.length:Int)-1:=wrap64 (by omega) (by omega)
  simp only [gf,e2,ah]
  refine dI (σ:=Nat×List UInt8×ae) (fun p=>[S p.2.1,I ((p.1:Int)-1)]) (fun p=>p.2.2)
   (fun p=>p.1≤xs.length∧EX h1 p.2.2∧kl p.2.1∧dJ p.2.1=val 10000 (xs.drop p.1)∧p.2.1.length=4*(xs.length-p.1)) (fun p=>p.1)
   (xs.length,[],h1) rfl rfl ⟨le_refl _,EX.refl _,fun c hc=>by simp at hc,by simp [dJ,val],by simp⟩ ?_
  rintro ⟨i,s,g⟩ ⟨hi,xg,hd,uk,qR⟩ L hL
  simp only at hi xg hd uk qR hL⊢
  rw [aDm]
  simp only [nA,ah,bW]
  refine ⟨fun cE=>?_,fun aD=>?_⟩
  ·obtain ⟨j,rfl⟩:∃j,i=j+1:=⟨i-1,by omega⟩
   have ej:((j+1:Nat):Int)-1=(j:Int):=by omega
   have xF:j<xs.length:=by omega
   obtain ⟨ia,a1,a2⟩:=(dx.mono xg).get xF
   have hd4:xs[j]<10000:=cx.1 _ (getElem_mem xF)
   have Jv:=amG 10000 xs xF
   rw [ej]
   generalize xy:xs[j]=d at a2 hd4 Jv
   simp only [cw,zero_add,EX.load xg ld,ah,a1,a2]
   rw [show (.int .i64 1000:Value)=.int .i64 ((1000:Nat):Int) from rfl,show (.int .i64 100:Value)=.int .i64 ((100:Nat):Int) from rfl,show (.int .i64 10:Value)=.int .i64 ((10:Nat):Int) from rfl]
   rw [CA (by decide) (by omega),CA (b:=100) (by decide) (by omega),CA (b:=10) (by decide) (by omega)]
   simp only [ah]
   rw [AA _ _ _ (by decide),AA _ _ _ (by decide),AA _ _ _ (by decide)]
   have w:∀q:Nat,q<10→IntKind.wrap .i64 (48+(q:Int))=((48+q:Nat):Int):=fun q hq=>by rw [wrap64 (by omega) (by omega)];omega
   have w8:∀q:Nat,q<10→IntKind.wrap .u8 ((48+q:Nat):Int)=((48+q:Nat):Int):=fun q hq=>amL (by omega) (by omega)
   simp only [ah,cP,jx,w _ (show d / 1000<10 by omega),w8 _ (show d / 1000<10 by omega),w _ (show d / 100%10<10 by omega),w8 _ (show d / 100%10<10 by omega),w _ (show d / 10%10<10 by omega),w8 _ (show d / 10%10<10 by omega),w _ (show d%10<10 by omega),w8 _ (show d%10<10 by omega)]
   rw [DN (show d / 1000<10 by omega),DN (show d / 100%10<10 by omega),DN (show d / 10%10<10 by omega),DN (show d%10<10 by omega)]
   have mk:cW 5 4 [.int .u8 0] g [(0,1,cv (iV (d / 1000))),(1,1,cv (iV (d / 100%10))),(2,1,cv (iV (d / 10%10))),(3,1,cv (iV (d%10)))]=some (sl 5 g.length 0 4,g++[.arr 5 ((four d).map cv)]):=rfl
   have yg:EX g (g++[aq.arr 5 ((four d).map cv)]):=EX.append _ _
   have bs:rY (g++[aq.arr 5 ((four d).map cv)]) (sl 5 g.length 0 4)=some (S (four d)):=yG (b:=g.length) (e:=5) (.inr ⟨g.length,le_refl _,rfl,br⟩)
   obtain ⟨f1,f2⟩:=av4 hd4
   have f3:(four d).length=4:=rfl
   simp only [mk,aB,bs,ah]
   rw [yI s (four d) (by rw [f3];unfold maxLen;omega)]
   have P3:IntKind.wrap .i64 ((j:Int)-1)=(j:Int)-1:=wrap64 (by omega) (by omega)
   simp only [ah,gf,P3,true_and]
   refine hL (j,s++four d,g++[aq.arr 5 ((four d).map cv)]) ⟨by show j≤xs.length;omega,xg.trans yg,fun c hc=>(List.mem_append.1 hc).elim (hd c) (f1 c),?_,by show (s++four d).length=_;rw [length_append,f3];omega⟩ (by show j<j+1;omega)
   show dJ (s++four d)=val 10000 (xs.drop j)
   rw [AI,f2,f3,Jv,uk]
   omega
  ·have BN:i=0:=by omega
   subst BN
   simp only [List.drop_zero,vx] at uk
   rw [aDj]
   refine dI (σ:=List UInt8) (fun s=>[S s]) (fun _=>g) (fun s=>kl s∧dJ s=n∧s.length≤1000) (fun s=>s.length) s rfl rfl ⟨hd,uk,by omega⟩ ?_
   rintro t ⟨td,tv,tl⟩ L2 iA
   rw [aDk]
   cases t with
   | nil=>simp [dJ] at tv;omega
   | cons c t=>
    have ix:=wg (a:=c::t) (i:=0) (by simp) .i64
    have ix':jW (S (c::t)) (.int .i64 0)=some (cv c):=ix
    have eq:ai .eql (cv c) (.int .u8 48)=some (B (decide ((c.toNat:Int)=48))):=rfl
    simp only [ix',ah,eq,bW]
    refine ⟨fun mT=>?_,fun mT=>?_⟩
    ·have aEC:=CE (a:=c::t) (n:=1) (by simp) .i64
     have aED:lj (S (c::t)) (some (.int .i64 1)) none=some (S t):=aEC
     simp only [aED,ah,true_and]
     refine iA t ⟨fun x hx=>td x (by simp [hx]),?_,by simp at tl;omega⟩ (by simp)
     rw [Lz] at tv
     have:c.toNat-48=0:=by omega
     rw [this] at tv
     omega
    ·rw [aDl]
     have:=auA td tv awZ (by
      simp only [List.head?_cons,ne_eq,Option.some.injEq]
      rintro rfl
      exact mT rfl)
     rw [this]
     exact hk _ (x1.trans xg)
end
section
theorem AK {b:Nat} (h:b<4294967296):b<bG:=afK (lt_of_lt_of_le h (by decide))
theorem Le {a b:Nat}:nj a b<0↔a<b:=by
 unfold nj
 constructor
 ·intro h
  apply byContradiction
  intro hn
  rw [if_neg hn] at h
  split at h <;> omega
 ·intro h;rw [if_pos h];decide
theorem am9 {va vb:Value} {a b:Nat} {h:ae} {K:Value→ae→Prop} (ha:dm h va a) (hb:dm h vb b) (la:a<bG) (b0:0<b) (lb:b<4294967296) (hk:∀q r h',EX h h'→dm h' q (a / b)→dm h' r (a%b)→K (.tuple #[q,r]) h'):
  ak prog 130 [va,vb] h K:=by
 refine f130 ?_
 unfold GM
 refine Gf ha hb la (AK lb) ?_
 simp only [cS,ah,bW]
 refine ⟨fun aD=>?_,fun cE=>?_⟩
 ·have hX:=Le.1 aD
  have oA:=ha
  obtain ⟨xs,d,c,rfl⟩:=ha
  obtain ⟨s1,s2⟩:=d.cells
  have lx:=qB c la
  have hq:∀g,dm g (.slice none 0 0) (val 4294967296 xs / b):=fun g=>⟨[],DS.nil _ _ _,⟨fun x hx=>by simp at hx,by simp⟩,by rw [Nat.div_eq_of_lt hX];rfl⟩
  by_cases h0:xs.length=0
  ·have e:dM 177 1 4 h (.slice none 0 0) va=some (.slice none 0 0,h):=by
    simp only [dM,s1,s2]
    rw [if_pos h0]
   simp only [e,aB]
   have:xs=[]:=List.length_eq_zero_iff.1 h0
   subst this
   exact hk _ _ h (EX.refl h) (hq h) ⟨[],DS.nil _ _ _,c,by rw [mod_eq_of_lt hX]⟩
  ·have e:dM 177 1 4 h (.slice none 0 0) va=some (sl 177 h.length 0 xs.length,h++[.arr 177 (xs.map fun d:Nat=>Value.int .u32 (d:Int))]):=by
    simp only [dM,s1,s2]
    rw [if_neg h0,if_pos ⟨by omega,by unfold maxLen;omega⟩]
   simp only [e,aB]
   refine hk _ _ _ (EX.append _ _) (hq _) ⟨xs,.inr ⟨h.length,rfl,.inr ⟨[],?_⟩⟩,c,by rw [mod_eq_of_lt hX]⟩
   simp [aQ]
 ·have hX:b≤a:=by
   apply byContradiction
   intro hc
   exact cE (Le.2 (by omega))
  obtain ⟨ys,d,c,hy⟩:=id hb
  have hlen:ys.length=1:=by
   have h1:ys.length≤1:=c.len (k:=1) (by decide) (by rw [hy];simpa using lb)
   have h2:ys≠[]:=by rintro rfl;simp [val] at hy;omega
   have:0<ys.length:=List.length_pos_iff.2 h2
   omega
  obtain ⟨y,rfl⟩:∃y,ys=[y]:=by
   match ys,hlen with
   | [y],_=>exact ⟨y,rfl⟩
  have qV:y=b:=by simpa [val] using hy
  subst qV
  obtain ⟨i,g1,g2⟩:=d.get (j:=0) (by simp)
  have yW:a9 1 vb (.int .i64 (0))=some (pt i 0):=g1
  have Sz:bj vb=some (I 1):=d.len
  simp only [Sz,ah,jw,decide_true,dS,yW,g2,List.getElem_cons_zero]
  refine Ws ha la b0 lb ?_
  intro q h2 x2 hq
  have mk:∀(g:ae) (r:Nat),cW 177 1 [(.int .u32 (0))] g [(0,1,.int .u32 (r:Int))]=some (sl 177 g.length 0 1,g++[.arr 177 [.int .u32 (r:Int)]]):=fun _ _=>rfl
  simp only [eC,eO,eY,ah,mk,aB]
  have x3:EX h2 (h2++[.arr 177 [.int .u32 ((a%y:Nat):Int)]]):=EX.append _ _
  have dr:DS 177 .u32 (h2++[.arr 177 [.int .u32 ((a%y:Nat):Int)]]) (sl 177 h2.length 0 1) [a%y]:=.inr ⟨h2.length,rfl,.inr ⟨[],by simp [aQ]⟩⟩
  have hm:a%y<y:=mod_lt _ b0
  refine sF dr (fun x hx=>by rw [List.mem_singleton.1 hx];omega) (by simp) ?_
  intro v' jI
  have e:val 4294967296 [a%y]=a%y:=by simp [val]
  rw [e] at jI
  exact hk _ _ _ (x2.trans x3) (hq.mono x3) jI
theorem Wq {va:Value} {a:Int} {h:ae} {K:Value→ae→Prop} (ha:dT h va a) (hk:∀h',EX h h'→K (I (if a=0 then 0 else if a<0 then -1 else 1)) h'):ak prog 109 [va] h K:=by
 obtain ⟨v,rfl,hv⟩:=ha
 refine f109 ?_
 have e1:bm 105 h (.agg #[B (decide (a<0)),v])=some (pt h.length 0,h++[.arr 105 [B (decide (a<0)),v]]):=rfl
 have x1:EX h (h++[.arr 105 [B (decide (a<0)),v]]):=EX.append _ _
 have l1:af false 1 (h++[aq.arr 105 [B (decide (a<0)),v]]) (pt h.length 1)=some v:=tm rfl
 have l0:af false 1 (h++[aq.arr 105 [B (decide (a<0)),v]]) (pt h.length 0)=some (B (decide (a<0))):=tm rfl
 obtain ⟨l,e2,e3⟩:=hv.qf
 simp only [Nc,e1,aB,cw,zero_add,add_zero,ah,l1,l0,e2,jw,bW]
 refine ⟨fun hz=>?_,fun hz=>⟨fun hn=>?_,fun hn=>?_⟩⟩
 ·have:=hk _ x1
  rw [if_pos (by omega)] at this
  exact this
 ·have:=hk _ x1
  rw [if_neg (by omega),if_pos hn] at this
  exact this
 ·have:=hk _ x1
  rw [if_neg (by omega),if_neg hn] at this
  exact this
theorem LX {va vb:Value} {a b:Int} {h:ae} {K:Value→ae→Prop} (ha:dT h va a) (hb:dT h vb b) (la:a.natAbs<bG) (lb:b.natAbs<bG) (hk:∀h',EX h h'→K (I (if a-b=0 then 0 else if a-b<0 then -1 else 1)) h'):ak prog 111 [va,vb] h K:=by
 have oA:=ha
 have pc:=hb
 obtain ⟨v,rfl,hv⟩:=ha
 obtain ⟨w,rfl,hw⟩:=hb
 refine f111 ?_
 have e1:∀(g:ae) (s:Bool) (v:Value),bm 105 g (.agg #[B s,v])=some (pt g.length 0,g++[.arr 105 [B s,v]]):=fun _ _ _=>rfl
 simp only [Nf,e1,aB]
 have g0:(h++[aq.arr 105 [B (decide (a<0)),v]]++[aq.arr 105 [B (decide (b<0)),w]])[h.length]?=some (.arr 105 [B (decide (a<0)),v]):=by simp
 have g1:(h++[aq.arr 105 [B (decide (a<0)),v]]++[aq.arr 105 [B (decide (b<0)),w]])[(h++[aq.arr 105 [B (decide (a<0)),v]]).length]?=some (.arr 105 [B (decide (b<0)),w]):=br
 have x1:EX h (h++[aq.arr 105 [B (decide (a<0)),v]]++[aq.arr 105 [B (decide (b<0)),w]]):=(EX.append _ _).push _
 generalize h++[aq.arr 105 [B (decide (a<0)),v]]++[aq.arr 105 [B (decide (b<0)),w]]=h1 at g0 g1 x1⊢
 rw [cI g0,cI g1]
 simp only [ah]
 refine am8 (oA.mono x1) (pc.mono x1) la lb ?_
 intro r h2 x2 hr
 exact Wq hr fun h3 x3=>hk h3 (x1.trans (x2.trans x3))
theorem dT.nat {h:ae} {v:Value} {n:Nat} (p:dm h v n):dT h (.agg #[B false,v]) (n:Int):=⟨v,by rw [aU (by omega)],by rwa [natAbs_natCast]⟩
end
end Go.Proofs.YtelmdbpaoifmoaaGreat
namespace Go.Sim
section
theorem aFi {B:Nat} {xs:List Nat} (h:cn B xs) {n:Nat} (hn:xs.length=n+2):∃l,l<B^n∧val B xs=l+(xs[n]+xs[n+1]*B)*B^n:=by
 refine ⟨val B (xs.take n),?_,?_⟩
 ·have:=nk (xs:=xs.take n) (h.mono fun y hy=>mem_of_mem_take hy)
  rwa [length_take,min_eq_left (by omega)] at this
 ·have h1:=jc B xs (i:=n) (by omega)
  have h2:=jc B xs (i:=n+1) (by omega)
  rw [take_of_length_le (by omega),h1] at h2
  rw [h2,pow_succ]
  generalize B^n=P
  grind
theorem aFh {B:Nat} {xs:List Nat} (h:cn B xs) {n:Nat} (hn:xs.length=n+3):∃l,l<B^n∧val B xs=l+(xs[n]+(xs[n+1]+xs[n+2]*B)*B)*B^n:=by
 refine ⟨val B (xs.take n),?_,?_⟩
 ·have:=nk (xs:=xs.take n) (h.mono fun y hy=>mem_of_mem_take hy)
  rwa [length_take,min_eq_left (by omega)] at this
 ·have h1:=jc B xs (i:=n) (by omega)
  have h2:=jc B xs (i:=n+1) (by omega)
  have h3:=jc B xs (i:=n+2) (by omega)
  rw [take_of_length_le (by omega),h2,h1] at h3
  rw [h3,show B^(n+2)=B^n*B*B from by rw [pow_succ,pow_succ],pow_succ]
  generalize B^n=P
  grind
def mid (us:List Nat) (j:Nat) (xs:List Nat):List Nat:=us.take j++(xs++us.drop (j+xs.length))
theorem Ci {us:List Nat} {j:Nat} {xs:List Nat} (h:j+xs.length≤us.length):(mid us j xs).length=us.length:=by
 unfold mid
 simp only [length_append,length_take,List.length_drop]
 omega
theorem afY {us:List Nat} {j k:Nat} {xs:List Nat} (hj:j≤us.length) (h:xs.length≤k):(mid us j xs)[j+k]?=us[j+k]?:=by
 unfold mid
 rw [List.getElem?_append_right (by rw [length_take];omega),length_take,min_eq_left hj,Nat.add_sub_cancel_left,List.getElem?_append_right h,List.getElem?_drop]
 congr 1
 omega
theorem azi {us:List Nat} {j k:Nat} {xs:List Nat} (hj:j≤us.length) (h:k<xs.length):(mid us j xs)[j+k]?=xs[k]?:=by
 unfold mid
 rw [List.getElem?_append_right (by rw [length_take];omega),length_take,min_eq_left hj,Nat.add_sub_cancel_left,List.getElem?_append_left h]
theorem JS {us:List Nat} {j d:Nat} {xs:List Nat} (h:j+xs.length<us.length):(mid us j xs).set (j+xs.length) d=mid us j (xs++[d]):=by
 unfold mid
 rw [List.set_append_right _ _ (by rw [length_take];omega),length_take,min_eq_left (by omega),Nat.add_sub_cancel_left,List.set_append_right _ _ (le_refl _),Nat.sub_self,List.drop_eq_getElem_cons h,List.set_cons_zero,length_append,List.append_assoc]
 rfl
theorem afZ (us:List Nat) (j:Nat):mid us j []=us:=by unfold mid;simp
theorem azh {us:List Nat} {j:Nat} {xs ys:List Nat} (hj:j+xs.length≤us.length) (h:ys.length=xs.length):mid (mid us j xs) j ys=mid us j ys:=by
 unfold mid
 have e1:(us.take j++(xs++us.drop (j+xs.length))).take j=us.take j:=by
  rw [List.take_append_of_le_length (by rw [length_take];omega),List.take_take,Nat.min_self]
 have e2:(us.take j++(xs++us.drop (j+xs.length))).drop (j+ys.length)=us.drop (j+ys.length):=by
  rw [h,←List.append_assoc,List.drop_append_of_le_length (by rw [length_append,length_take];omega),List.drop_eq_nil_of_le (by rw [length_append,length_take];omega),List.nil_append]
 rw [e1,e2]
section
variable {B P U V ul vl u2 v2 top v1 : Nat}
theorem awi (hU:U=ul+(u2+top*B)*P) (rU:ul<P) (p5:u2<B) (hV:V=vl+(v2+v1*B)*P) (h1:0<v1):U / V≤top / v1:=by
 rw [Nat.le_div_iff_mul_le h1]
 have h2:U / V*V≤U:=Nat.div_mul_le_self U V
 generalize U / V=q at*
 apply byContradiction
 intro hn
 have h3:top+1≤q*v1:=by omega
 have h4:(top+1)*(B*P)≤q*v1*(B*P):=mul_le_mul_right _ h3
 have h5:q*v1*(B*P)≤q*V:=by
  rw [hV]
  have:q*(vl+(v2+v1*B)*P)=q*v1*(B*P)+q*(vl+v2*P):=by grind
  omega
 have h6:U<(top+1)*(B*P):=by
  have e1:(top+1)*(B*P)=top*B*P+B*P:=by grind
  have e2:(u2+top*B)*P=u2*P+top*B*P:=by grind
  have e3:(u2+1)*P≤B*P:=mul_le_mul_right _ (by omega)
  have e4:(u2+1)*P=u2*P+P:=by grind
  omega
 omega
theorem awh {g r:Nat} (hU:U=ul+(u2+top*B)*P) (rU:ul<P) (hV:V=vl+(v2+v1*B)*P) (ub:U<V*B) (hg:g*v1+r=top) (hq:U / V≤g) (pQ:B≤g∨r*B+u2<g*v2):U / V+1≤g:=by
 have hV0:0<V:=by
  apply Nat.pos_of_ne_zero
  intro e
  rw [e] at ub
  omega
 have Rm:U / V<B:=by rw [Nat.div_lt_iff_lt_mul hV0,mul_comm];exact ub
 rcases pQ with hb | hb
 ·omega
 have h2:U / V*V≤U:=Nat.div_mul_le_self U V
 generalize U / V=q at*
 apply byContradiction
 intro hn
 have hqg:q=g:=by omega
 subst hqg
 have h3:q*((v2+v1*B)*P)≤q*V:=by rw [hV];exact mul_le_mul_left _ (by omega)
 have h4:q*(v2+v1*B)*P<(u2+top*B+1)*P:=by
  have e1:q*((v2+v1*B)*P)=q*(v2+v1*B)*P:=by grind
  have e2:(u2+top*B+1)*P=(u2+top*B)*P+P:=by grind
  omega
 have h5:q*(v2+v1*B)<u2+top*B+1:=Nat.lt_of_mul_lt_mul_right h4
 rw [←hg] at h5
 have e3:q*(v2+v1*B)=q*v2+q*v1*B:=by grind
 have e4:(q*v1+r)*B=q*v1*B+r*B:=by grind
 omega
theorem ads {g r:Nat} (hU:U=ul+(u2+top*B)*P) (hV:V=vl+(v2+v1*B)*P) (oG:vl<P) (h1:0<v1) (hg:g*v1+r=top) (pT:g<B) (aH:g*v2≤r*B+u2):g*V<U+V:=by
 have e1:g*V=g*vl+(g*v2+g*v1*B)*P:=by rw [hV];grind
 have e2:top*B=g*v1*B+r*B:=by rw [←hg];grind
 have e3:(g*v2+g*v1*B)*P≤(u2+top*B)*P:=mul_le_mul_right _ (by omega)
 have e4:g*vl<V:=by
  have a1:g*vl≤g*P:=mul_le_mul_left _ (by omega)
  have hP:0<P:=by omega
  have a2:g*P<B*P:=Nat.mul_lt_mul_of_pos_right pT hP
  have a3:B*P≤v1*B*P:=by
   have:1*(B*P)≤v1*(B*P):=mul_le_mul_right _ h1
   rw [mul_assoc]
   omega
  have a4:(v2+v1*B)*P=v2*P+v1*B*P:=by grind
  omega
 omega
theorem aE3 {un w:Nat} (hB:0<B) (hU:U=ul+(u2+top*B)*P) (tc:top=w+un*B) (hV:V=vl+(v2+v1*B)*P) (oG:vl<P) (jA:v2<B) (ub:U<V*B):un≤v1:=by
 apply byContradiction
 intro hn
 have h1:(v1+1)*(B*P)*B≤un*(B*P)*B:=mul_le_mul_right _ (mul_le_mul_right _ (by omega))
 have h2:un*(B*P)*B≤U:=by
  rw [hU,tc]
  have:(u2+(w+un*B)*B)*P=(u2+w*B)*P+un*(B*P)*B:=by grind
  omega
 have h3:V<(v1+1)*(B*P):=by
  have e1:(v1+1)*(B*P)=v1*B*P+B*P:=by grind
  have e2:(v2+v1*B)*P=v2*P+v1*B*P:=by grind
  have e3:(v2+1)*P≤B*P:=mul_le_mul_right _ (by omega)
  have e4:(v2+1)*P=v2*P+P:=by grind
  omega
 have h4:V*B<(v1+1)*(B*P)*B:=Nat.mul_lt_mul_of_pos_right h3 hB
 omega
end
end
end Go.Sim
namespace Go.Proofs.YtelmdbpaoifmoaaGreat
open Go.Sim
section
variable (P : Program) (K : VK)
noncomputable section
variable (x0 : Value) (h : ae)
def ag2:=bC prog 135 [[],[]]
@[irreducible] def aae:=bN ag2
theorem ayJ:ag2=some (6,aae,[.tmp 2]):=by kernel_rfl
def NB:Prop:=
 ak P 141 [x0] h fun x4 z1=>
 OP (ai .sub (.int .i64 (32)) x4) fun x5=>
 K x5 z1
theorem avi:aj P aae (aS [.tmp 2] K) (bw [x0]) h=NB P K x0 h:=by kernel_rfl
theorem f135 {K:VK} {x0:Value} {h:ae} (H:NB prog K x0 h):ak prog 135 [x0] h K:=
 bP ayJ (bL rfl) ((avi prog K x0 h).mpr H)
end
noncomputable section
variable (x0 n1 x5 aC aI bf : Value) (L1 : LQ) (xs : List Value) (h : ae)
def ag3:=bC prog 136 [[],[],[],[1,5,13,14],[15],[],[],[],[],[],[],[5],[]]
@[irreducible] def Hr:=bN ag3
@[irreducible] def arW:=Hr.r.r.l.r.l.l
@[irreducible] def aaf:=Hr.r.r.r
@[irreducible] def arV:=aaf.l
theorem ayK:ag3=some (41,Hr,[.tmp 4]):=by kernel_rfl
def Mv (_P:Program) (K:VK):ar:=aS [.tmp 4] K
def aoB:ar:=aF (aj P aaf (Mv P K)) (Mv P K)
def aoC:ar:=bO 0 (aoB P K)
def aoD:ar:=aF (fun f' aT=>(([1,5,13,14]:List Nat).map f':List Value)=[n1,x5,aC,aI]∧L1 (([15]:List Nat).map f') aT) (aoC P K)
def ai7:Prop:=ay (aj P arW (aoD P K n1 x5 aC aI L1)) ([1,5,13,14]++[15]) ([n1,x5,aC,aI]++xs) h
def ai6:Prop:=ay (aj P arV (Mv P K)) [5] [x5] h
theorem aBs (n1 x5 aC aI:Value) (L1:LQ) (bf:Value) (h:ae):ai7 P K n1 x5 aC aI L1 [bf] h=
 (OP (ai .lss bf aI) fun bp=>
 aO bp
 (OP (a9 1 aC bf) fun aR=>
 OP (af false 1 h aR) fun aP=>
 OP (c8 .u64 aP) fun ba=>
 OP (ai .shl ba n1) fun cm=>
 OP (a9 1 x5 bf) fun bI=>
 OP (af false 1 h bI) fun bE=>
 OP (c8 .u32 cm) fun cL=>
 OP (ai .or bE cL) fun dO=>
 OP (a9 1 x5 bf) fun cg=>
 OH (aG 1 h cg dO) fun _ z1=>
 OP (ai .add bf (.int .i64 (1))) fun cj=>
 OP (ai .shr cm (.int .u64 (32))) fun db=>
 OP (c8 .u32 db) fun fF=>
 OP (a9 1 x5 cj) fun dD=>
 OH (aG 1 z1 dD fF) fun _ z2=>
 OP (ai .add bf (.int .i64 (1))) fun dZ=>
 ([n1,x5,aC,aI]:List Value)=[n1,x5,aC,aI]∧L1 [dZ] z2)
 (ai6 P K x5 h)):=az (by kernel_rfl)
theorem aBr:ai6 P K x5 h=
 (K x5 h):=az (by kernel_rfl)
def NC:Prop:=
 OP (bj x0) fun aE=>
 OP (ai .add aE (.int .i64 (1))) fun au=>
 OH (nf 177 4 [(.int .u32 (0))] h au au) fun aA z1=>
 OP (bj x0) fun aI=>
 cN [(.int .i64 (0))] z1 fun L1 xs hx=>
 ai7 P K n1 aA x0 aI L1 xs hx
theorem avj:aj P Hr (aS [.tmp 4] K) (bw [x0,n1]) h=NC P K x0 n1 h:=by kernel_rfl
theorem f136 {K:VK} {x0 n1:Value} {h:ae} (H:NC prog K x0 n1 h):ak prog 136 [x0,n1] h K:=
 bP ayK (bL rfl) ((avj prog K x0 n1 h).mpr H)
end
noncomputable section
variable (u0 v1 n5 x7 x8 x9 aE aC me gP np AP : Value) (L1 : LQ) (xs : List Value) (h : ae)
def ag4:=bC prog 137 [[],[],[],[],[0,1,5],[7,8],[],[],[],[],[],[0,1,5,7],[],[],[0,1,5,7,83],[9,10,84],[],[],[],[],[],[],[0,1,5,7,9,10],[],[],[],[],[],[0,1,5,7,132],[13,133],[],[],[],[],[0,5,7,13],[7],[]]
@[irreducible] def Hs:=bN ag4
@[irreducible] def ar1:=Hs.r.r.r.r.l.l.l
@[irreducible] def aaj:=Hs.r.r.r.r.r
@[irreducible] def Pc:=aaj.l
@[irreducible] def arX:=Pc.r.l.r.l.l
@[irreducible] def aag:=Pc.r.r
@[irreducible] def Ht:=aag.l
@[irreducible] def arY:=Ht.r.l.r.l.r.r.l.r.l.l
@[irreducible] def aai:=Ht.r.l.r.l.r.r.r
@[irreducible] def aah:=Ht.r.r
@[irreducible] def arZ:=aai.l
@[irreducible] def ar0:=aah.l
theorem ayL:ag4=some (162,Hs,[.tmp 4]):=by kernel_rfl
def u7 (_P:Program) (K:VK):ar:=aS [.tmp 4] K
def aoK:ar:=aF (aj P aaj (u7 P K)) (u7 P K)
def aoL:ar:=bO 0 (aoK P K)
def aoM:ar:=aF (fun f' aT=>(([0,1,5]:List Nat).map f':List Value)=[u0,v1,n5]∧L1 (([7,8]:List Nat).map f') aT) (aoL P K)
def aoE:ar:=aF (aj P aag (u7 P K)) (u7 P K)
def aoF:ar:=bO 2 (aoE P K)
def aoG:ar:=aF (fun f' aT=>(([0,1,5,7,83]:List Nat).map f':List Value)=[u0,v1,n5,x7,me]∧L1 (([9,10,84]:List Nat).map f') aT) (aoF P K)
def Mw:ar:=aF (aj P aah (u7 P K)) (u7 P K)
def aoH:ar:=aF (aj P aai (Mw P K)) (Mw P K)
def aoI:ar:=bO 4 (aoH P K)
def aoJ:ar:=aF (fun f' aT=>(([0,1,5,7,132]:List Nat).map f':List Value)=[u0,v1,n5,x7,np]∧L1 (([13,133]:List Nat).map f') aT) (aoI P K)
def ajb:Prop:=ay (aj P ar1 (aoM P K u0 v1 n5 L1)) ([0,1,5]++[7,8]) ([u0,v1,n5]++xs) h
def xX:Prop:=ay (aj P Pc (u7 P K)) [0,1,5,7] [u0,v1,n5,x7] h
def ai8:Prop:=ay (aj P arX (aoG P K u0 v1 n5 x7 me L1)) ([0,1,5,7,83]++[9,10,84]) ([u0,v1,n5,x7,me]++xs) h
def ai9:Prop:=ay (aj P Ht (u7 P K)) [0,1,5,7,9,10] [u0,v1,n5,x7,x9,aE] h
def TQ:Prop:=ay (aj P arY (aoJ P K u0 v1 n5 x7 np L1)) ([0,1,5,7,132]++[13,133]) ([u0,v1,n5,x7,np]++xs) h
def aja:Prop:=ay (aj P arZ (Mw P K)) [0,5,7,13] [u0,n5,x7,aC] h
def Ft:Prop:=ay (aj P ar0 (u7 P K)) [7] [x7] h
theorem aBz (u0 v1 n5:Value) (L1:LQ) (x7 x8:Value) (h:ae):ajb P K u0 v1 n5 L1 [x7,x8] h=
 (OP (ai .shr x7 (.int .u64 (32))) fun lJ=>
 OP (ai .gtr lJ (.int .u64 (0))) fun fx=>
 cD fx false
 (OP (ai .sub n5 (.int .i64 (2))) fun j6=>
 OP (a9 1 v1 j6) fun cY=>
 OP (af false 1 h cY) fun gG=>
 (True)∧
 OP (c8 .u64 gG) fun jv=>
 OP (ai .mul x7 jv) fun eP=>
 OP (ai .shl x8 (.int .u64 (32))) fun fG=>
 OP (ai .sub n5 (.int .i64 (2))) fun nT=>
 OP (a9 1 u0 nT) fun jS=>
 OP (af false 1 h jS) fun jd=>
 (True)∧
 OP (c8 .u64 jd) fun gn=>
 OP (ai .or fG gn) fun j7=>
 OP (ai .gtr eP j7) fun fX=>
 OP (bX fx (.bool true) fX) fun gp=>
 aO gp
 (OP (ai .sub x7 (.int .u64 (1))) fun oP=>
 OP (ai .sub n5 (.int .i64 (1))) fun kD=>
 OP (a9 1 v1 kD) fun kE=>
 OP (af false 1 h kE) fun j9=>
 OP (c8 .u64 j9) fun iQ=>
 OP (ai .add x8 iQ) fun fH=>
 OP (ai .shr fH (.int .u64 (32))) fun ry=>
 OP (ai .gtr ry (.int .u64 (0))) fun kF=>
 aO kF
 (xX P K u0 v1 n5 oP h)
 (([u0,v1,n5]:List Value)=[u0,v1,n5]∧L1 [oP,fH] h))
 (xX P K u0 v1 n5 x7 h))
 (OP (bX fx (.bool true) undef) fun gp=>
 aO gp
 (OP (ai .sub x7 (.int .u64 (1))) fun oP=>
 OP (ai .sub n5 (.int .i64 (1))) fun kD=>
 OP (a9 1 v1 kD) fun kE=>
 OP (af false 1 h kE) fun j9=>
 OP (c8 .u64 j9) fun iQ=>
 OP (ai .add x8 iQ) fun fH=>
 OP (ai .shr fH (.int .u64 (32))) fun ry=>
 OP (ai .gtr ry (.int .u64 (0))) fun kF=>
 aO kF
 (xX P K u0 v1 n5 oP h)
 (([u0,v1,n5]:List Value)=[u0,v1,n5]∧L1 [oP,fH] h))
 (xX P K u0 v1 n5 x7 h))):=az (by kernel_rfl)
theorem aBu (u0 v1 n5 x7 me:Value) (L1:LQ) (x9 aE gP:Value) (h:ae):ai8 P K u0 v1 n5 x7 me L1 [x9,aE,gP] h=
 (OP (ai .lss gP me) fun wP=>
 aO wP
 (OP (a9 1 v1 gP) fun oQ=>
 OP (af false 1 h oQ) fun iR=>
 OP (c8 .u64 iR) fun rz=>
 OP (ai .mul x7 rz) fun mJ=>
 OP (ai .add mJ x9) fun uS=>
 OP (ai .shr uS (.int .u64 (32))) fun qq=>
 OP (a9 1 u0 gP) fun wN=>
 OP (af false 1 h wN) fun AL=>
 OP (c8 .u32 uS) fun AM=>
 ak P 134 [AL,AM,aE] h fun AN z1=>
 OP (ca 0 AN) fun F3=>
 OP (ca 1 AN) fun V4=>
 OP (a9 1 u0 gP) fun F4=>
 OH (aG 1 z1 F4 F3) fun _ z2=>
 OP (ai .add gP (.int .i64 (1))) fun V5=>
 ([u0,v1,n5,x7,me]:List Value)=[u0,v1,n5,x7,me]∧L1 [qq,V4,V5] z2)
 (ai9 P K u0 v1 n5 x7 x9 aE h)):=az (by kernel_rfl)
theorem aBw (u0 v1 n5 x7 np:Value) (L1:LQ) (aC AP:Value) (h:ae):TQ P K u0 v1 n5 x7 np L1 [aC,AP] h=
 (OP (ai .lss AP np) fun aFs=>
 aO aFs
 (OP (a9 1 u0 AP) fun aFt=>
 OP (af false 1 h aFt) fun aFu=>
 (True)∧
 OP (a9 1 v1 AP) fun aFv=>
 OP (af false 1 h aFv) fun aFw=>
 (True)∧
 ak P 133 [aFu,aFw,aC] h fun amQ z1=>
 (True)∧
 OP (ca 0 amQ) fun aFx=>
 OP (ca 1 amQ) fun aFy=>
 OP (a9 1 u0 AP) fun aFz=>
 OH (aG 1 z1 aFz aFx) fun _ z2=>
 (True)∧
 OP (ai .add AP (.int .i64 (1))) fun aFA=>
 ([u0,v1,n5,x7,np]:List Value)=[u0,v1,n5,x7,np]∧L1 [aFy,aFA] z2)
 (aja P K u0 n5 x7 aC h)):=az (by kernel_rfl)
theorem aBx:aja P K u0 n5 x7 aC h=
 (OP (a9 1 u0 n5) fun aFB=>
 OP (af false 1 h aFB) fun aFC=>
 OP (ai .add aFC aC) fun aFD=>
 OP (a9 1 u0 n5) fun aFE=>
 OH (aG 1 h aFE aFD) fun _ z1=>
 Ft P K x7 z1):=az (by kernel_rfl)
theorem aBy:Ft P K x7 h=
 (OP (c8 .u32 x7) fun aFF=>
 K aFF h):=az (by kernel_rfl)
theorem aBv:ai9 P K u0 v1 n5 x7 x9 aE h=
 (OP (a9 1 u0 n5) fun V7=>
 OP (af false 1 h V7) fun oO=>
 OP (c8 .u32 x9) fun sA=>
 ak P 134 [oO,sA,aE] h fun yl z1=>
 OP (ca 0 yl) fun wO=>
 OP (ca 1 yl) fun F5=>
 OP (a9 1 u0 n5) fun sB=>
 OH (aG 1 z1 sB wO) fun _ z2=>
 OP (ai .gtr F5 (.int .u32 (0))) fun F7=>
 aO F7
 (OP (ai .sub x7 (.int .u64 (1))) fun V9=>
 OP (bj v1) fun np=>
 cN [(.int .u32 (0)),(.int .i64 (0))] z2 fun L1 xs hx=>
 TQ P K u0 v1 n5 V9 np L1 xs hx)
 (Ft P K x7 z2)):=az (by kernel_rfl)
theorem aBt:xX P K u0 v1 n5 x7 h=
 (OP (bj v1) fun me=>
 cN [(.int .u64 (0)),(.int .u32 (0)),(.int .i64 (0))] h fun L1 xs hx=>
 ai8 P K u0 v1 n5 x7 me L1 xs hx):=az (by kernel_rfl)
def ND:Prop:=
 OP (bj v1) fun bp=>
 OP (a9 1 u0 bp) fun aP=>
 OP (af false 1 h aP) fun aX=>
 (True)∧
 OP (c8 .u64 aX) fun ba=>
 OP (ai .shl ba (.int .u64 (32))) fun bH=>
 OP (ai .sub bp (.int .i64 (1))) fun bu=>
 OP (a9 1 u0 bu) fun bI=>
 OP (af false 1 h bI) fun bE=>
 (True)∧
 OP (c8 .u64 bE) fun cG=>
 OP (ai .or bH cG) fun cL=>
 OP (ai .sub bp (.int .i64 (1))) fun dK=>
 OP (a9 1 v1 dK) fun cj=>
 OP (af false 1 h cj) fun dV=>
 (True)∧
 OP (c8 .u64 dV) fun db=>
 OP (ai .quo cL db) fun fF=>
 OP (ai .sub bp (.int .i64 (1))) fun dW=>
 OP (a9 1 v1 dW) fun eB=>
 OP (af false 1 h eB) fun bV=>
 (True)∧
 OP (c8 .u64 bV) fun bJ=>
 OP (ai .rem cL bJ) fun cJ=>
 cN [fF,cJ] h fun L1 xs hx=>
 ajb P K u0 v1 bp L1 xs hx
theorem avk:aj P Hs (aS [.tmp 4] K) (bw [u0,v1]) h=ND P K u0 v1 h:=by kernel_rfl
theorem f137 {K:VK} {u0 v1:Value} {h:ae} (H:ND prog K u0 v1 h):ak prog 137 [u0,v1] h K:=
 bP ayL (bL rfl) ((avk prog K u0 v1 h).mpr H)
end
noncomputable section
variable (x0 n1 x5 i6 t7 aA aC : Value) (L1 : LQ) (xs : List Value) (h : ae)
def ag5:=bC prog 138 [[],[],[],[0,1,5,12],[13],[],[],[],[],[],[0,1,5,6,7,12,13],[0,1,5,12,13],[5],[]]
@[irreducible] def Hu:=bN ag5
@[irreducible] def Pd:=Hu.r.r.l.r.l.l
@[irreducible] def aak:=Hu.r.r.r
@[irreducible] def ar2:=Pd.r.r.l.l.r.r.r.l
@[irreducible] def aal:=Pd.r.r.r
@[irreducible] def ar4:=aak.l
@[irreducible] def ar3:=aal.l
theorem ayM:ag5=some (45,Hu,[.tmp 4]):=by kernel_rfl
def Mx (_P:Program) (K:VK):ar:=aS [.tmp 4] K
def aoO:ar:=aF (aj P aak (Mx P K)) (Mx P K)
def aoP:ar:=bO 0 (aoO P K)
def Gv:ar:=aF (fun f' aT=>(([0,1,5,12]:List Nat).map f':List Value)=[x0,n1,x5,aA]∧L1 (([13]:List Nat).map f') aT) (aoP P K)
def aoQ:ar:=aF (aj P aal (Gv P K x0 n1 x5 aA L1)) (Gv P K x0 n1 x5 aA L1)
def aoN:ar:=bO 1 (aoQ P K x0 n1 x5 aA L1)
def aje:Prop:=ay (aj P Pd (Gv P K x0 n1 x5 aA L1)) ([0,1,5,12]++[13]) ([x0,n1,x5,aA]++xs) h
def Kp:Prop:=ay (aj P ar2 (aoN P K x0 n1 x5 aA L1)) [0,1,5,6,7,12,13] [x0,n1,x5,i6,t7,aA,aC] h
def ajc:Prop:=ay (aj P ar3 (Gv P K x0 n1 x5 aA L1)) [0,1,5,12,13] [x0,n1,x5,aA,aC] h
def ajd:Prop:=ay (aj P ar4 (Mx P K)) [5] [x5] h
theorem aBA:Kp P K x0 n1 x5 i6 t7 aA aC L1 h=
 (OP (ai .shr t7 n1) fun dZ=>
 OP (c8 .u32 dZ) fun ep=>
 OP (a9 1 x5 i6) fun dW=>
 OH (aG 1 h dW ep) fun _ z1=>
 ajc P K x0 n1 x5 aA aC L1 z1):=az (by kernel_rfl)
theorem aBB:ajc P K x0 n1 x5 aA aC L1 h=
 (OP (ai .add aC (.int .i64 (1))) fun eB=>
 ([x0,n1,x5,aA]:List Value)=[x0,n1,x5,aA]∧L1 [eB] h):=az (by kernel_rfl)
theorem aBD (x0 n1 x5 aA:Value) (L1:LQ) (aC:Value) (h:ae):aje P K x0 n1 x5 aA L1 [aC] h=
 (OP (ai .lss aC aA) fun aI=>
 aO aI
 (OP (a9 1 x0 aC) fun aR=>
 OP (af false 1 h aR) fun aP=>
 OP (c8 .u64 aP) fun aX=>
 OP (ai .add aC (.int .i64 (1))) fun bH=>
 OP (bj x0) fun bt=>
 OP (ai .lss bH bt) fun bu=>
 aO bu
 (OP (ai .add aC (.int .i64 (1))) fun cL=>
 OP (a9 1 x0 cL) fun dO=>
 OP (af false 1 h dO) fun cg=>
 OP (c8 .u64 cg) fun cM=>
 OP (ai .shl cM (.int .u64 (32))) fun dK=>
 OP (ai .or aX dK) fun cj=>
 Kp P K x0 n1 x5 aC cj aA aC L1 h)
 (Kp P K x0 n1 x5 aC aX aA aC L1 h))
 (ajd P K x5 h)):=az (by kernel_rfl)
theorem aBC:ajd P K x5 h=
 (ak P 118 [x5] h fun bJ z1=>
 K bJ z1):=az (by kernel_rfl)
def NF:Prop:=
 OP (bj x0) fun x9=>
 OH (nf 177 4 [(.int .u32 (0))] h x9 x9) fun aE z1=>
 OP (bj x0) fun aA=>
 cN [(.int .i64 (0))] z1 fun L1 xs hx=>
 aje P K x0 n1 aE aA L1 xs hx
theorem avl:aj P Hu (aS [.tmp 4] K) (bw [x0,n1]) h=NF P K x0 n1 h:=by kernel_rfl
theorem f138 {K:VK} {x0 n1:Value} {h:ae} (H:NF prog K x0 n1 h):ak prog 138 [x0,n1] h K:=
 bP ayM (bL rfl) ((avl prog K x0 n1 h).mpr H)
end
noncomputable section
variable (x0 n2 : Value) (h : ae)
def ag8:=bC prog 141 [[],[],[],[0,2],[],[],[0,2],[]]
@[irreducible] def Pf:=bN ag8
@[irreducible] def aao:=Pf.r.r.l
@[irreducible] def asb:=aao.r.l
theorem ayP:ag8=some (19,Pf,[.tmp 2]):=by kernel_rfl
def Xw (_P:Program) (K:VK):ar:=aS [.tmp 2] K
def Kq:Prop:=ay (aj P aao (Xw P K)) [0,2] [x0,n2] h
def Kr:Prop:=ay (aj P asb (Xw P K)) [0,2] [x0,n2] h
theorem aBI:Kr P K x0 n2 h=
 (OP (c8 .u8 x0) fun bf=>
 OP (jW (.string ⟨#[0,1,2,2,3,3,3,3,4,4,4,4,4,4,4,4,5,5,5,5,5,5,5,5,5,5,5,5,5,5,5,5,6,6,6,6,6,6,6,6,6,6,6,6,6,6,6,6,6,6,6,6,6,6,6,6,6,6,6,6,6,6,6,6,7,7,7,7,7,7,7,7,7,7,7,7,7,7,7,7,7,7,7,7,7,7,7,7,7,7,7,7,7,7,7,7,7,7,7,7,7,7,7,7,7,7,7,7,7,7,7,7,7,7,7,7,7,7,7,7,7,7,7,7,7,7,7,7,8,8,8,8,8,8,8,8,8,8,8,8,8,8,8,8,8,8,8,8,8,8,8,8,8,8,8,8,8,8,8,8,8,8,8,8,8,8,8,8,8,8,8,8,8,8,8,8,8,8,8,8,8,8,8,8,8,8,8,8,8,8,8,8,8,8,8,8,8,8,8,8,8,8,8,8,8,8,8,8,8,8,8,8,8,8,8,8,8,8,8,8,8,8,8,8,8,8,8,8,8,8,8,8,8,8,8,8,8,8,8,8,8,8,8,8,8,8,8,8,8,8,8,8,8,8,8,8]⟩) bf) fun bp=>
 OP (c8 .i64 bp) fun bY=>
 OP (ai .add n2 bY) fun aR=>
 K aR h):=az (by kernel_rfl)
theorem aBH:Kq P K x0 n2 h=
 (OP (ai .geq x0 (.int .u32 (256))) fun x8=>
 aO x8
 (OP (ai .shr x0 (.int .u64 (8))) fun aE=>
 OP (ai .add n2 (.int .i64 (8))) fun aA=>
 Kr P K aE aA h)
 (Kr P K x0 n2 h)):=az (by kernel_rfl)
def NI:Prop:=
 OP (ai .geq x0 (.int .u32 (65536))) fun x4=>
 aO x4
 (OP (ai .shr x0 (.int .u64 (16))) fun x6=>
 Kq P K x6 (.int .i64 (16)) h)
 (Kq P K x0 (.int .i64 (0)) h)
theorem avo:aj P Pf (aS [.tmp 2] K) (bw [x0]) h=NI P K x0 h:=by kernel_rfl
theorem f141 {K:VK} {x0:Value} {h:ae} (H:NI prog K x0 h):ak prog 141 [x0] h K:=
 bP ayP (bL rfl) ((avo prog K x0 h).mpr H)
end
end
section
def wv (us:List Nat):List Value:=us.map fun d:Nat=>Value.int .u32 (d:Int)
theorem amN (us:List Nat):(wv us).length=us.length:=by simp [wv]
theorem rE {e:TypeId} {id o n k:Nat} (hk:k<n):a9 1 (sl e id o n) (I k)=some (pt id (o+k)):=by
 have:(0:Int)≤(k:Int)∧(k:Int)<(n:Int):=by omega
 simp [sl,a9,this]
theorem DH {g:ae} {iv id:Nat} {o:aq} (h:iv≠id):aQ (g.set id o) iv=aQ g iv:=by
 unfold aQ
 rw [getElem?_set_ne h.symm]
theorem Dp {g:ae} {id k d:Nat} {us:List Nat} {rest:List Value} (hg:aQ g id=some (wv us++rest)) (hk:us[k]?=some d):af false 1 g (pt id k)=some (.int .u32 (d:Int)):=by
 have aD:=(bD hk).1
 have:(wv us++rest)[k]?=some (.int .u32 (d:Int)):=by
  rw [List.getElem?_append_left (by rw [amN];exact aD)]
  simp [wv,hk]
 simp [af,hg,cf,this]
theorem yD {g:ae} {id k d:Nat} {us:List Nat} (hg:g[id]?=some (.arr 177 (wv us))) (hk:us[k]?=some d):af false 1 g (pt id k)=some (.int .u32 (d:Int)):=
 Dp (rest:=[]) (by rw [List.append_nil];simp [aQ,hg]) hk
theorem Dq {g:ae} {id k:Nat} (d:Nat) {us:List Nat} (hg:g[id]?=some (.arr 177 (wv us))) (hk:k<us.length):aG 1 g (pt id k) (.int .u32 (d:Int))=some (undef,g.set id (.arr 177 (wv (us.set k d)))):=by
 rw [oL hg (by rw [amN];exact hk) rfl rfl]
 congr 3
 simp [wv,List.map_set]
theorem aDC {a b:Nat} (hb:b≠0) (_:a<18446744073709551616):ai .rem (.int .u64 (a:Int)) (.int .u64 (b:Int))=some (.int .u64 ((a%b:Nat):Int)):=by
 have h:¬((b:Int)=0):=by omega
 have h2:a%b≤a:=Nat.mod_le _ _
 simp only [ai,ie,if_true,if_neg h]
 have e:(a:Int).tmod (b:Int)=((a%b:Nat):Int):=rfl
 rw [e]
theorem tS {d:Nat} (h:d<4294967296):c8 .u64 (.int .u32 (d:Int))=some (.int .u64 (d:Int)):=by rw [jx,kW (by omega) (by omega)]
theorem agh {a b:Nat} (h:a*b<18446744073709551616):ai .mul (.int .u64 (a:Int)) (.int .u64 (b:Int))=some (.int .u64 ((a*b:Nat):Int)):=by
 rw [vg,←Int.natCast_mul,kW (by omega) (by omega)]
theorem YD {a b:Nat} (h:a+b<18446744073709551616):ai .add (.int .u64 (a:Int)) (.int .u64 (b:Int))=some (.int .u64 ((a+b:Nat):Int)):=by
 rw [cP,←Int.natCast_add,kW (by omega) (by omega)]
theorem acv {a:Nat} (h:0<a) (h2:a<18446744073709551616):ai .sub (.int .u64 (a:Int)) (.int .u64 1)=some (.int .u64 ((a-1:Nat):Int)):=by
 rw [gf,show (a:Int)-1=((a-1:Nat):Int) by omega,kW (by omega) (by omega)]
theorem DM (t:Nat):c8 .u32 (.int .u64 (t:Int))=some (.int .u32 ((t%4294967296:Nat):Int)):=by rw [jx,yj];congr 2
theorem WE {x y b:Nat} {h:ae} {K:Value→ae→Prop} (hx:x<4294967296) (hy:y<4294967296) (hb:b≤1)
  (hk:∀d b':Nat,d<4294967296→b'≤1→d+y+b=x+b'*4294967296→K (.tuple #[.int .u32 (d:Int),.int .u32 (b':Int)]) h):ak prog 134 [.int .u32 (x:Int),.int .u32 (y:Int),.int .u32 (b:Int)] h K:=by
 refine WD hx hy hb (hk _ _ ?_ ?_ ?_)
 ·exact mod_lt _ (by decide)
 ·split <;> omega
 ·split <;> omega
theorem ayV {P X V Y x c a b:Nat} (h:Y+c*P=X+V) (e:4294967296*a+b=x+c) (ha:a=0∨a=1):Y+P*b+P*4294967296=X+P*x+V∨Y+P*b=X+P*x+V:=by
 have e1:P*(4294967296*a+b)=P*(x+c):=by rw [e]
 rcases ha with rfl | rfl
 ·right;grind
 ·left;grind
section
variable {h : ae} {K : Value → ae → Prop} {id iv j m : Nat} {us vs ud : List Nat} {rest : List Value}
theorem ane {g:ae} {q:Value} {xs:List Nat} (kg:g[id]?=some (.arr 177 (wv us))) (kv:aQ g iv=some (wv vs++rest)) (bk:iv≠id) (hn:vs.length=m+2) (hm:m≤1000) (hx:xs.length=m+3) (hj:j+(m+3)≤us.length)
  (hu:∀k,k≤m+2→us[j+k]?=xs[k]?) (lx:cn 4294967296 xs) (lv:cn 4294967296 vs)
  (hk:∀ys,ys.length=m+3→cn 4294967296 ys→(val 4294967296 ys+4294967296^(m+3)=val 4294967296 xs+val 4294967296 vs∨val 4294967296 ys=val 4294967296 xs+val 4294967296 vs)→
   Ft prog K q (g.set id (.arr 177 (wv (mid us j ys))))):
  cN [(.int .u32 (0)),(.int .i64 (0))] g fun L1 xs hx=>TQ prog K (sl 177 id j (m+3)) (sl 177 iv 0 (m+2)) (I (m+2:Nat)) q (I (m+2:Nat)) L1 xs hx:=by
 refine dI (σ:=List Nat×Nat) (fun p=>[.int .u32 (p.2:Int),I p.1.length]) (fun p=>g.set id (.arr 177 (wv (mid us j p.1))))
  (fun p=>p.1.length≤m+2∧cn 4294967296 p.1∧p.2≤1∧val 4294967296 p.1+p.2*4294967296^p.1.length=val 4294967296 (xs.take p.1.length)+val 4294967296 (vs.take p.1.length)) (fun p=>m+2-p.1.length)
  ([],0) rfl (by rw [afZ];exact (List.ext_getElem? fun i=>by
   rw [List.getElem?_set]
   split
   ·rename_i e;subst e
    rw [kg,if_pos (bD kg).1]
   ·rfl)) ⟨zero_le _,fun y hy=>by simp at hy,zero_le _,by simp [val]⟩ ?_
 rintro ⟨ys,c⟩ ⟨ko,ly,hc,bU⟩ L hL
 simp only at ko ly hc bU hL⊢
 have wk:(g.set id (.arr 177 (wv (mid us j ys))))[id]?=some (.arr 177 (wv (mid us j ys))):=ck kg
 have Sl:aQ (g.set id (.arr 177 (wv (mid us j ys)))) iv=some (wv vs++rest):=by rw [DH bk];exact kv
 rw [aBw]
 simp only [cS,ah,bW]
 have EM:∀k,ys.length≤k→k≤m+2→(mid us j ys)[j+k]?=xs[k]?:=fun k h1 h2=>by rw [afY (by omega) h1,hu k h2]
 refine ⟨fun aD=>?_,fun cE=>?_⟩
 ·have hy:ys.length<m+2:=by omega
  have xP:xs[ys.length]?=some (xs[ys.length]'(by omega)):=getElem?_eq_getElem (by omega)
  have RJ:vs[ys.length]?=some (vs[ys.length]'(by omega)):=getElem?_eq_getElem (by omega)
  have bx:=lx _ (getElem_mem (l:=xs) (n:=ys.length) (by omega))
  have bv:=lv _ (getElem_mem (l:=vs) (n:=ys.length) (by omega))
  have tx:=jc 4294967296 xs (i:=ys.length) (by omega)
  have tv:=jc 4294967296 vs (i:=ys.length) (by omega)
  generalize xs[ys.length]'(by omega)=x at*
  generalize vs[ys.length]'(by omega)=v at*
  have ld:=yD wk ((EM _ (le_refl _) (by omega)).trans xP)
  have E6:=Dp Sl RJ
  simp only [rE (show ys.length<m+3 by omega),rE (show ys.length<m+2 by omega),zero_add,ah,ld,E6,true_and]
  refine WC bx bv hc ?_
  simp only [eC,eO,eY,ah]
  rw [Dq _ wk (by rw [Ci (by omega)];omega),JS (by omega),set_set]
  have:=hL (ys++[(x+v+c)%4294967296],(x+v+c) / 4294967296) ⟨by simp;omega,ly.append (fun y hy=>by simp at hy;omega),by show (x+v+c) / 4294967296≤1;omega,by
   simp only [length_append,length_cons,length_nil,zero_add]
   rw [nS,tx,tv,pow_succ]
   simp only [val,mul_zero,add_zero]
   have lQ:=div_add_mod (x+v+c) 4294967296
   generalize (x+v+c) / 4294967296=a at*
   generalize (x+v+c)%4294967296=b at*
   generalize 4294967296^ys.length=P at*
   have:P*(4294967296*a+b)=P*(x+v+c):=by rw [lQ]
   grind⟩ (by simp;omega)
  simp only [aB,cP,ft ys.length (by omega),ah]
  simpa using this
 ·have hy:ys.length=m+2:=by omega
  have xP:xs[m+2]?=some (xs[m+2]'(by omega)):=getElem?_eq_getElem (by omega)
  have bx:=lx _ (getElem_mem (l:=xs) (n:=m+2) (by omega))
  have tx:=jc 4294967296 xs (i:=m+2) (by omega)
  rw [take_of_length_le (by omega)] at tx
  generalize xs[m+2]'(by omega)=x at*
  have ld:=yD wk ((EM (m+2) (by omega) (by omega)).trans xP)
  rw [aBx]
  have ea:ai .add (.int .u32 (x:Int)) (.int .u32 (c:Int))=some (.int .u32 (((x+c)%4294967296:Nat):Int)):=by
   rw [cP,←Int.natCast_add,yj];congr 2
  simp only [rE (show m+2<m+3 by omega),ah,ld,ea]
  have kO:=JS (us:=us) (j:=j) (d:=(x+c)%4294967296) (xs:=ys) (by omega)
  rw [hy] at kO
  rw [Dq _ wk (by rw [Ci (by omega)];omega),kO,set_set]
  simp only [aB]
  rw [hy,take_of_length_le (by omega:vs.length≤m+2)] at bU
  refine hk _ (by simp;omega) (ly.append (fun y hy=>by simp at hy;omega)) ?_
  rw [nS,hy,tx]
  simp only [val,mul_zero,add_zero]
  have lQ:=div_add_mod (x+c) 4294967296
  have h01:(x+c) / 4294967296≤1:=by omega
  rw [pow_succ]
  exact ayV bU lQ (by omega)
theorem aAh (B m:Nat):B^(m+3)=B^(m+2)*B:=pow_succ ..
theorem aEP {P A X V g v x carry borrow y c' x' b':Nat} (h:X+g*V=A+(carry+borrow)*P) (e:4294967296*c'+y=g*v+carry) (s:x'+y+borrow=x+b'*4294967296):
  X+P*x'+g*(V+P*v)=A+P*x+(c'+b')*(P*4294967296):=by
 have e1:P*(4294967296*c'+y)=P*(g*v+carry):=by rw [e]
 have e2:P*(x'+y+borrow)=P*(x+b'*4294967296):=by rw [s]
 grind
theorem aEQ {P A X V g x carry borrow x' b':Nat} (h:X+g*V=A+(carry+borrow)*P) (s:x'+carry+borrow=x+b'*4294967296):X+P*x'+g*V=A+P*x+b'*(P*4294967296):=by
 have e2:P*(x'+carry+borrow)=P*(x+b'*4294967296):=by rw [s]
 grind
theorem WH {gs:Nat} (kg:h[id]?=some (.arr 177 (wv us))) (kv:aQ h iv=some (wv vs++rest)) (bk:iv≠id) (hn:vs.length=m+2) (hm:m≤1000) (hx:ud.length=m+3) (hj:j+(m+3)≤us.length)
  (hu:∀k,k≤m+2→us[j+k]?=ud[k]?) (lu:cn 4294967296 ud) (lv:cn 4294967296 vs) (pT:gs<4294967296) (h1:val 4294967296 ud / val 4294967296 vs≤gs) (h2:gs*val 4294967296 vs<val 4294967296 ud+val 4294967296 vs) (V0:0<val 4294967296 vs)
  (hk:∀rs,rs.length=m+3→cn 4294967296 rs→val 4294967296 rs=val 4294967296 ud%val 4294967296 vs→K (.int .u32 ((val 4294967296 ud / val 4294967296 vs:Nat):Int)) (h.set id (.arr 177 (wv (mid us j rs))))):
  xX prog K (sl 177 id j (m+3)) (sl 177 iv 0 (m+2)) (I (m+2:Nat)) (.int .u64 (gs:Int)) h:=by
 have kO:h=h.set id (.arr 177 (wv us)):=List.ext_getElem? fun i=>by
  rw [List.getElem?_set]
  split
  ·rename_i e;subst e
   rw [kg,if_pos (bD kg).1]
  ·rfl
 have JP:bj (sl 177 iv 0 (m+2))=some (I (m+2:Nat)):=rfl
 rw [aBt]
 simp only [JP,ah]
 refine dI (σ:=List Nat×Nat×Nat) (fun p=>[.int .u64 (p.2.1:Int),.int .u32 (p.2.2:Int),I p.1.length]) (fun p=>h.set id (.arr 177 (wv (mid us j p.1))))
  (fun p=>p.1.length≤m+2∧cn 4294967296 p.1∧p.2.1<4294967296∧p.2.2≤1∧val 4294967296 p.1+gs*val 4294967296 (vs.take p.1.length)=val 4294967296 (ud.take p.1.length)+(p.2.1+p.2.2)*4294967296^p.1.length) (fun p=>m+2-p.1.length)
  ([],0,0) rfl (by rw [afZ];exact kO.symm) ⟨zero_le _,fun y hy=>by simp at hy,by decide,zero_le _,by simp [val]⟩ ?_
 rintro ⟨xs,c,bo⟩ ⟨hZ,lx,hc,QJ,bU⟩ L hL
 simp only at hZ lx hc QJ bU hL⊢
 have wk:(h.set id (.arr 177 (wv (mid us j xs))))[id]?=some (.arr 177 (wv (mid us j xs))):=ck kg
 have Sl:aQ (h.set id (.arr 177 (wv (mid us j xs)))) iv=some (wv vs++rest):=by rw [DH bk];exact kv
 have EM:∀k,xs.length≤k→k≤m+2→(mid us j xs)[j+k]?=ud[k]?:=fun k h1 h2=>by rw [afY (by omega) h1,hu k h2]
 rw [aBu]
 simp only [cS,ah,bW]
 refine ⟨fun aD=>?_,fun cE=>?_⟩
 ·have hy:xs.length<m+2:=by omega
  have RG:ud[xs.length]?=some (ud[xs.length]'(by omega)):=getElem?_eq_getElem (by omega)
  have RJ:vs[xs.length]?=some (vs[xs.length]'(by omega)):=getElem?_eq_getElem (by omega)
  have bx:=lu _ (getElem_mem (l:=ud) (n:=xs.length) (by omega))
  have bv:=lv _ (getElem_mem (l:=vs) (n:=xs.length) (by omega))
  have tx:=jc 4294967296 ud (i:=xs.length) (by omega)
  have tv:=jc 4294967296 vs (i:=xs.length) (by omega)
  generalize ud[xs.length]'(by omega)=x at*
  generalize vs[xs.length]'(by omega)=v at*
  have ld:=yD wk ((EM _ (le_refl _) (by omega)).trans RG)
  have E6:=Dp Sl RJ
  have hgv:=JW pT bv
  simp only [rE (show xs.length<m+3 by omega),rE (show xs.length<m+2 by omega),zero_add,ah,ld,E6,tS bv,agh (show gs*v<18446744073709551616 by omega),YD (show gs*v+c<18446744073709551616 by omega),AG,DM]
  have lQ:=div_add_mod (gs*v+c) 4294967296
  have hym:(gs*v+c)%4294967296<4294967296:=mod_lt _ (by decide)
  have hyd:(gs*v+c) / 4294967296<4294967296:=by omega
  refine WE bx hym QJ ?_
  intro d b2 hd Eh xw
  simp only [eC,eO,eY,ah]
  rw [Dq _ wk (by rw [Ci (by omega)];omega),JS (by omega),set_set]
  generalize (gs*v+c) / 4294967296=c2 at*
  generalize (gs*v+c)%4294967296=y at*
  have:=hL (xs++[d],c2,b2) ⟨by simp;omega,lx.append (fun z hz=>by simp at hz;omega),hyd,Eh,by
   simp only [length_append,length_cons,length_nil,zero_add]
   rw [nS,tx,tv,pow_succ]
   simp only [val,mul_zero,add_zero]
   exact aEP bU lQ xw⟩ (by simp;omega)
  simp only [aB,cP,ft xs.length (by omega),ah,true_and]
  simpa using this
 ·have hy:xs.length=m+2:=by omega
  have RG:ud[m+2]?=some (ud[m+2]'(by omega)):=getElem?_eq_getElem (by omega)
  have bx:=lu _ (getElem_mem (l:=ud) (n:=m+2) (by omega))
  have tx:=jc 4294967296 ud (i:=m+2) (by omega)
  rw [take_of_length_le (by omega)] at tx
  generalize ud[m+2]'(by omega)=x at*
  have ld:=yD wk ((EM (m+2) (by omega) (by omega)).trans RG)
  rw [aBv]
  simp only [rE (show m+2<m+3 by omega),ah,ld,DM,mod_eq_of_lt hc]
  refine WE bx hc QJ ?_
  intro d b2 hd Eh xw
  simp only [eC,eO,eY,ah]
  have aeF:=JS (us:=us) (j:=j) (d:=d) (xs:=xs) (by omega)
  rw [hy] at aeF
  rw [Dq _ wk (by rw [Ci (by omega)];omega),aeF,set_set]
  simp only [aB]
  rw [hy,take_of_length_le (by omega:vs.length≤m+2)] at bU
  have SG:cn 4294967296 (xs++[d]):=lx.append (fun z hz=>by simp at hz;omega)
  have nK:(xs++[d]).length=m+3:=by simp;omega
  have jA:val 4294967296 (xs++[d])+gs*val 4294967296 vs=val 4294967296 ud+b2*4294967296^(m+3):=by
   rw [nS,hy,tx]
   simp only [val,mul_zero,add_zero]
   rw [aAh]
   exact aEQ bU xw
  generalize xs++[d]=xn at*
  have aF2:=div_add_mod (val 4294967296 ud) (val 4294967296 vs)
  have vR:=mod_lt (val 4294967296 ud) V0
  have xO:=nk SG
  rw [nK] at xO
  generalize hQ:val 4294967296 ud / val 4294967296 vs=Q at*
  generalize hR:val 4294967296 ud%val 4294967296 vs=R at*
  have Rm:Q<4294967296:=by omega
  have IB:∀{a:Nat} {g:ae},a<4294967296→K (.int .u32 (a:Int)) g→Ft prog K (.int .u64 (a:Int)) g:=by
   intro a g ha hK
   rw [aBy,DM,ah,mod_eq_of_lt ha]
   exact hK
  rcases (show b2=1∨b2=0 by omega) with rfl | rfl
  ·skip
   have hgV:val 4294967296 ud<gs*val 4294967296 vs:=by omega
   have I9:gs=Q+1:=by
    have:gs<Q+2:=by
     apply byContradiction
     intro hn
     have h3:(Q+2)*val 4294967296 vs≤gs*val 4294967296 vs:=mul_le_mul_right _ (by omega)
     rw [add_mul,mul_comm Q] at h3
     omega
    have h4:gs≠Q:=by
     intro e
     rw [e,mul_comm] at hgV
     omega
    omega
   have bg:ai .gtr (.int .u32 ((1:Nat):Int)) (.int .u32 0)=some (B true):=rfl
   simp only [bg,ah,dS,acv (show 0<gs by omega) (show gs<18446744073709551616 by omega),JP]
   refine ane (us:=mid us j xn) (xs:=xn) (ck kg) (by rw [DH bk];exact kv) bk hn hm nK (by rw [Ci (by omega)];omega) (fun k hk=>azi (by omega) (by omega)) SG lv ?_
   intro ys ko ly zV
   rw [set_set,azh (by omega) (by omega)]
   have qV:=nk ly
   rw [ko] at qV
   have Ex:gs*val 4294967296 vs=val 4294967296 vs*(Q)+val 4294967296 vs:=by rw [I9,add_mul,mul_comm Q];omega
   have hyr:val 4294967296 ys=R:=by
    rw [Nat.one_mul] at jA
    rcases zV with zV | zV <;> omega
   rw [show gs-1=Q by omega]
   exact IB Rm (hk ys ko ly hyr)
  ·have I9:gs=Q:=by
    have:gs≤Q:=by rw [←hQ];exact (Nat.le_div_iff_mul_le V0).2 (by omega)
    omega
   have bg:ai .gtr (.int .u32 ((0:Nat):Int)) (.int .u32 0)=some (B false):=rfl
   simp only [bg,ah,dR]
   have RP:val 4294967296 xn=R:=by
    rw [I9,mul_comm] at jA
    omega
   rw [I9]
   exact IB Rm (hk xn nK SG RP)
end
end
section
theorem awg (a b:Nat):ai .gtr (.int .u64 (a:Int)) (.int .u64 (b:Int))=some (B (decide (b<a))):=by
 rw [fS];congr 2;rw [decide_eq_decide];omega
theorem ad2 {a:Nat}:ai .gtr (.int .u64 ((a / 4294967296:Nat):Int)) (.int .u64 0)=some (B (decide (4294967296≤a))):=by
 rw [fS];congr 2;rw [decide_eq_decide]
 have:4294967296≤a↔0<a / 4294967296:=by omega
 rw [this]
 omega
section
variable {h : ae} {K : Value → ae → Prop} {id iv j m : Nat} {us vs ud : List Nat} {rest : List Value}
theorem anc {v1:Nat} (kg:h[id]?=some (.arr 177 (wv us))) (kv:aQ h iv=some (wv vs++rest)) (bk:iv≠id) (hn:vs.length=m+2) (hm:m≤1000) (hx:ud.length=m+3) (hj:j+(m+3)≤us.length)
  (hu:∀k,k≤m+2→us[j+k]?=ud[k]?) (lu:cn 4294967296 ud) (lv:cn 4294967296 vs) (rV:vs[m+1]?=some v1) (jk:2147483648≤v1) (ub:val 4294967296 ud<val 4294967296 vs*4294967296)
  (hk:∀rs,rs.length=m+3→cn 4294967296 rs→val 4294967296 rs=val 4294967296 ud%val 4294967296 vs→K (.int .u32 ((val 4294967296 ud / val 4294967296 vs:Nat):Int)) (h.set id (.arr 177 (wv (mid us j rs))))):
  ak prog 137 [sl 177 id j (m+3),sl 177 iv 0 (m+2)] h K:=by
 obtain ⟨ul,rU,eU⟩:=aFh lu hx
 obtain ⟨vl,oG,eV⟩:=aFi lv hn
 have hu0:us[j+m]?=some (ud[m]'(by omega)):=by rw [hu m (by omega)];exact getElem?_eq_getElem _
 have hu1:us[j+(m+1)]?=some (ud[m+1]'(by omega)):=by rw [hu (m+1) (by omega)];exact getElem?_eq_getElem _
 have p5:us[j+(m+2)]?=some (ud[m+2]'(by omega)):=by rw [hu (m+2) (by omega)];exact getElem?_eq_getElem _
 have b0:=lu _ (getElem_mem (l:=ud) (n:=m) (by omega))
 have b1:=lu _ (getElem_mem (l:=ud) (n:=m+1) (by omega))
 have b2:=lu _ (getElem_mem (l:=ud) (n:=m+2) (by omega))
 have Ju:vs[m]?=some (vs[m]'(by omega)):=getElem?_eq_getElem _
 have c0:=lv _ (getElem_mem (l:=vs) (n:=m) (by omega))
 have c1:=lv _ (getElem_mem (l:=vs) (n:=m+1) (by omega))
 have e1:vs[m+1]'(by omega)=v1:=by
  rw [getElem?_eq_getElem (by omega)] at rV
  injection rV
 rw [e1] at c1 eV
 generalize ud[m]'(by omega)=t0 at*
 generalize ud[m+1]'(by omega)=t1 at*
 generalize ud[m+2]'(by omega)=t2 at*
 generalize vs[m]'(by omega)=v2 at*
 have hP:0<4294967296^m:=pow_pos (by decide)
 have acV:t1+t2*4294967296=t2*4294967296+t1:=Nat.add_comm ..
 rw [acV] at eU
 have V0:0<val 4294967296 vs:=by
  apply Nat.pos_of_ne_zero
  intro e
  rw [e,Nat.zero_mul] at ub
  omega
 have EH:=aE3 (by decide) eU acV.symm eV oG c0 ub
 have awA:=awi eU rU b0 eV (by omega)
 have oJ:=yD kg hu0
 have pv:=yD kg hu1
 have wu:=yD kg p5
 have lv0:=Dp kv Ju
 have lv1:=Dp kv rV
 have JP:bj (sl 177 iv 0 (m+2))=some (I (m+2:Nat)):=rfl
 have s1:ai .sub (I (m+2:Nat)) (.int .i64 1)=some (I (m+1:Nat)):=by rw [gf,wrap64 (by omega) (by omega)];congr 2;omega
 have s2:ai .sub (I (m+2:Nat)) (.int .i64 2)=some (I (m:Nat)):=by rw [gf,wrap64 (by omega) (by omega)];congr 2;omega
 have EI:t2*4294967296+t1<18446744073709551616:=by omega
 refine f137 ?_
 unfold ND
 simp only [JP,ah,rE (show m+2<m+3 by omega),wu,true_and,tS b2,Lf b2,s1,rE (show m+1<m+3 by omega),pv,tS b1,Kc b2 b1,rE (show m+1<m+2 by omega),zero_add,lv1,tS c1,alT (show v1≠0 by omega) EI,aDC (show v1≠0 by omega) EI]
 generalize tc:t2*4294967296+t1=top at*
 have lQ:=div_add_mod top v1
 have vR:=mod_lt top (show 0<v1 by omega)
 have hg0:top / v1≤4294967297:=by
  have:top / v1<4294967298:=by
   rw [Nat.div_lt_iff_lt_mul (by omega)]
   omega
  omega
 refine dI (σ:=Nat×Nat) (fun p=>[.int .u64 (p.1:Int),.int .u64 (p.2:Int)]) (fun _=>h) (fun p=>p.1*v1+p.2=top∧p.2<4294967296∧p.1≤4294967297∧val 4294967296 ud / val 4294967296 vs≤p.1) (fun p=>4294967296-p.2)
  (top / v1,top%v1) rfl rfl ⟨by show top / v1*v1+top%v1=top;rw [mul_comm];exact lQ,by show top%v1<4294967296;omega,hg0,awA⟩ ?_
 rintro ⟨g,r⟩ ⟨Q4,hr,hg,hq⟩ L hL
 simp only at Q4 hr hg hq hL⊢
 have down:(4294967296≤g∨r*4294967296+t0<g*v2)→(OP (ai .sub (.int .u64 (g:Int)) (.int .u64 (1))) fun oP=>
   OP (ai .sub (I (m+2:Nat)) (.int .i64 (1))) fun kD=>
   OP (a9 1 (sl 177 iv 0 (m+2)) kD) fun kE=>
   OP (af false 1 h kE) fun j9=>
   OP (c8 .u64 j9) fun iQ=>
   OP (ai .add (.int .u64 (r:Int)) iQ) fun fH=>
   OP (ai .shr fH (.int .u64 (32))) fun ry=>
   OP (ai .gtr ry (.int .u64 (0))) fun kF=>
   aO kF
    (xX prog K (sl 177 id j (m+3)) (sl 177 iv 0 (m+2)) (I (m+2:Nat)) oP h)
    (([sl 177 id j (m+3),sl 177 iv 0 (m+2),I (m+2:Nat)]:List Value)=[sl 177 id j (m+3),sl 177 iv 0 (m+2),I (m+2:Nat)]∧L [oP,fH] h)):=by
  intro pQ
  have hd:=awh eU rU eV ub Q4 hq pQ
  have iJ:0<g:=by generalize val 4294967296 ud / val 4294967296 vs=Q at*;omega
  have hq1:val 4294967296 ud / val 4294967296 vs≤g-1:=by generalize val 4294967296 ud / val 4294967296 vs=Q at*;omega
  have adZ:(g-1)*v1+(r+v1)=top:=by
   rw [Nat.sub_mul,Nat.one_mul]
   have:v1≤g*v1:=Nat.le_mul_of_pos_left v1 iJ
   omega
  simp only [acv iJ (show g<18446744073709551616 by omega),ah,s1,rE (show m+1<m+2 by omega),zero_add,lv1,tS c1,YD (show r+v1<18446744073709551616 by omega),AG,ad2,bW]
  refine ⟨fun cE=>?_,fun aD=>⟨trivial,hL (g-1,r+v1) ⟨adZ,by show r+v1<4294967296;omega,by show g-1≤4294967297;omega,hq1⟩ (by show 4294967296-(r+v1)<4294967296-r;omega)⟩⟩
  have pT:g-1<4294967296:=by
   apply byContradiction
   intro hn
   have h3:4294967296*v1≤(g-1)*v1:=mul_le_mul_right _ (by omega)
   have h4:t2*4294967296≤v1*4294967296:=mul_le_mul_right _ EH
   omega
  refine WH kg kv bk hn hm hx hj hu lu lv pT hq1 (ads eU eV oG (by omega) adZ pT ?_) V0 hk
  have h5:=JW pT c0
  have h6:4294967296*4294967296≤(r+v1)*4294967296:=mul_le_mul_right _ cE
  omega
 have last:g<4294967296→g*v2≤r*4294967296+t0→xX prog K (sl 177 id j (m+3)) (sl 177 iv 0 (m+2)) (I (m+2:Nat)) (.int .u64 (g:Int)) h:=fun pT aH=>
  WH kg kv bk hn hm hx hj hu lu lv pT hq (ads eU eV oG (by omega) Q4 pT aH) V0 hk
 rw [aBz]
 simp only [AG,ah,ad2]
 by_cases pT:4294967296≤g
 ·rw [aZ pT]
  simp only [gr,ef,ah,dS]
  simpa only [true_and] using down (.inl pT)
 ·rw [aU pT]
  have adX:g<4294967296:=by omega
  have hgv:=JW adX c0
  simp only [eQ,s2,ah,rE (show m<m+2 by omega),rE (show m<m+3 by omega),zero_add,lv0,oJ,true_and,tS c0,tS b0,agh (show g*v2<18446744073709551616 by omega),Lf hr,Kc hr b0,awg,dU,bW]
  exact ⟨fun pQ=>by simpa only [true_and] using down (.inr pQ),fun aH=>last adX (by omega)⟩
end
end
section
theorem Vs (k k2:IntKind) {s n:Nat} (hn:n≤k.bits) (hb:n<1000):ai .shr (.int k (s:Int)) (.int k2 (n:Int))=some (.int k ((s / 2^n:Nat):Int)):=by
 simp only [ai,qX]
 rw [if_neg (by omega)]
 have:min ((n:Int).toNat) k.bits=n:=by omega
 rw [this,Int.fdiv_eq_ediv_of_nonneg _ (by have:(0:Int)<2^n:=Int.pow_pos (by decide);omega)]
 congr 2
theorem aEy (k2:IntKind) {x n:Nat} (hn:n<32) (hx:x<4294967296):ai .shl (.int .u64 (x:Int)) (.int k2 (n:Int))=some (.int .u64 ((x*2^n:Nat):Int)):=by
 have h2:2^n≤2^31:=pow_le_pow_right (by decide) (by omega)
 have h3:x*2^n≤4294967295*2^31:=Nat.mul_le_mul (by omega) h2
 have h4:x*2^n<18446744073709551616:=by omega
 simp only [ai,qX]
 rw [if_neg (by omega)]
 have:min ((n:Int).toNat) IntKind.u64.bits=n:=by
  have:IntKind.u64.bits=64:=rfl
  omega
 have e:(x:Int)*2^n=((x*2^n:Nat):Int):=by simp
 rw [this,e,kW (by omega) (by omega)]
theorem azV {s a q:Nat} (hs:s≤31) (ha:a<2^s) (hq:2^s*q<4294967296):ai .or (.int .u32 (a:Int)) (.int .u32 ((2^s*q:Nat):Int))=some (.int .u32 ((2^s*q+a:Nat):Int)):=by
 have h2:2^s≤2^31:=pow_le_pow_right (by decide) hs
 have Js:2^s*q+a<4294967296:=by
  have h3:q<2^(32-s):=by
   apply byContradiction
   intro hn
   have:2^s*2^(32-s)≤2^s*q:=mul_le_mul_left _ (by omega)
   rw [←pow_add,show s+(32-s)=32 by omega] at this
   omega
  have h4:2^s*(q+1)≤2^s*2^(32-s):=mul_le_mul_left _ (by omega)
  rw [←pow_add,show s+(32-s)=32 by omega,Nat.mul_add] at h4
  omega
 have e:(BitVec.ofInt IntKind.u32.bits (a:Int) ||| BitVec.ofInt IntKind.u32.bits ((2^s*q:Nat):Int)).toNat=2^s*q+a:=by
  show (BitVec.ofInt 32 (a:Int) ||| BitVec.ofInt 32 ((2^s*q:Nat):Int)).toNat=_
  rw [BitVec.ofInt_natCast,BitVec.ofInt_natCast,BitVec.toNat_or,BitVec.toNat_ofNat,BitVec.toNat_ofNat,mod_eq_of_lt (by omega),mod_eq_of_lt (by omega),Nat.or_comm]
  exact (Nat.two_pow_add_eq_or_of_lt ha q).symm
 simp only [ai,ie,if_true]
 rw [e,oM (by omega) (by omega)]
def qg (x:Nat):Nat:=if x=0 then 0 else x.log2+1
def VJ:Value:=(.string ⟨#[0,1,2,2,3,3,3,3,4,4,4,4,4,4,4,4,5,5,5,5,5,5,5,5,5,5,5,5,5,5,5,5,6,6,6,6,6,6,6,6,6,6,6,6,6,6,6,6,6,6,6,6,6,6,6,6,6,6,6,6,6,6,6,6,7,7,7,7,7,7,7,7,7,7,7,7,7,7,7,7,7,7,7,7,7,7,7,7,7,7,7,7,7,7,7,7,7,7,7,7,7,7,7,7,7,7,7,7,7,7,7,7,7,7,7,7,7,7,7,7,7,7,7,7,7,7,7,7,8,8,8,8,8,8,8,8,8,8,8,8,8,8,8,8,8,8,8,8,8,8,8,8,8,8,8,8,8,8,8,8,8,8,8,8,8,8,8,8,8,8,8,8,8,8,8,8,8,8,8,8,8,8,8,8,8,8,8,8,8,8,8,8,8,8,8,8,8,8,8,8,8,8,8,8,8,8,8,8,8,8,8,8,8,8,8,8,8,8,8,8,8,8,8,8,8,8,8,8,8,8,8,8,8,8,8,8,8,8,8,8,8,8,8,8,8,8,8,8,8,8,8,8,8,8,8,8]⟩)
theorem aEY:((List.range 256).map fun x:Nat=>jW VJ (.int .u8 (x:Int)))=(List.range 256).map fun x:Nat=>some (.int .u8 (qg x:Int)):=by kernel_rfl
theorem aEZ {x:Nat} (h:x<256):jW VJ (.int .u8 (x:Int))=some (.int .u8 (qg x:Int)):=by
 have:=congrArg (fun l=>l[x]?) aEY
 simpa [h] using this
theorem ay0 {x:Nat} (h:0<x):1≤qg x∧2^(qg x-1)≤x∧x<2^qg x:=by
 unfold qg
 rw [if_neg (by omega)]
 refine ⟨by omega,?_,Nat.lt_log2_self⟩
 rw [Nat.add_sub_cancel]
 exact Nat.log2_self_le (by omega)
theorem anh {x:Nat} {h:ae} {K:Value→ae→Prop} (h0:0<x) (hx:x<4294967296) (hk:∀n:Nat,1≤n→n≤32→2^(n-1)≤x→x<2^n→K (I n) h):ak prog 141 [.int .u32 (x:Int)] h K:=by
 refine f141 ?_
 have last:∀{y n0:Nat},0<y→y<256→n0≤24→2^n0*y≤x→x<2^n0*(y+1)→Kr prog K (.int .u32 (y:Int)) (I n0) h:=by
  intro y n0 y0 aFI oE eD jk
  rw [aBI]
  have cv:c8 .u8 (.int .u32 (y:Int))=some (.int .u8 (y:Int)):=by
   rw [jx];congr 2
   have e:IntKind.wrap .u8 (y:Int)=(y:Int)%256:=by simp [IntKind.wrap,IntKind.bits,IntKind.signed]
   rw [e];omega
  obtain ⟨l1,l2,l3⟩:=ay0 y0
  have l8:qg y≤8:=by
   apply byContradiction
   intro hn
   have:2^8≤2^(qg y-1):=pow_le_pow_right (by decide) (by omega)
   omega
  have ix:=aEZ aFI
  have w1:c8 .i64 (.int .u8 (qg y:Int))=some (I (qg y)):=by rw [jx,wrap64 (by omega) (by omega)]
  have w2:ai .add (I n0) (I (qg y))=some (I (n0+qg y:Nat)):=by rw [cP,wrap64 (by omega) (by omega)];congr 2 <;> omega
  unfold VJ at ix
  rw [cv,ah,ix,ah,w1,ah,w2,ah]
  refine hk _ (by omega) (by omega) ?_ ?_
  ·rw [show n0+qg y-1=n0+(qg y-1) by omega,pow_add]
   exact Nat.le_trans (mul_le_mul_left _ l2) eD
  ·rw [pow_add]
   exact lt_of_lt_of_le jk (mul_le_mul_left _ l3)
 have mid:∀{y n0:Nat},0<y→y<65536→n0≤16→2^n0*y≤x→x<2^n0*(y+1)→Kq prog K (.int .u32 (y:Int)) (I n0) h:=by
  intro y n0 y0 y65 oE eD jk
  rw [aBH]
  simp only [nA,ah,bW]
  refine ⟨fun cE=>?_,fun aD=>last y0 (by omega) (by omega) eD jk⟩
  have sh:ai .shr (.int .u32 (y:Int)) (.int .u64 8)=some (.int .u32 ((y / 2^8:Nat):Int)):=Vs .u32 .u64 (n:=8) (by decide) (by decide)
  have w2:ai .add (I n0) (.int .i64 8)=some (I (n0+8:Nat)):=by rw [cP,wrap64 (by omega) (by omega)];congr 2
  simp only [sh,ah,w2]
  have lQ:=div_add_mod y 256
  have vR:=mod_lt y (show 0<256 by decide)
  refine last (y:=y / 2^8) (by omega) (by omega) (by omega) ?_ ?_
  ·rw [pow_add,mul_assoc]
   exact Nat.le_trans (mul_le_mul_left _ (by omega)) eD
  ·rw [pow_add,mul_assoc]
   exact lt_of_lt_of_le jk (mul_le_mul_left _ (by omega))
 unfold NI
 simp only [nA,ah,bW]
 refine ⟨fun cE=>?_,fun aD=>mid (n0:=0) h0 (by omega) (by decide) (by simp) (by simp)⟩
 have sh:ai .shr (.int .u32 (x:Int)) (.int .u64 16)=some (.int .u32 ((x / 2^16:Nat):Int)):=Vs .u32 .u64 (n:=16) (by decide) (by decide)
 simp only [sh,ah]
 have lQ:=div_add_mod x 65536
 have vR:=mod_lt x (show 0<65536 by decide)
 exact mid (n0:=16) (y:=x / 2^16) (by omega) (by omega) (by decide) (by omega) (by omega)
theorem anb {x:Nat} {h:ae} {K:Value→ae→Prop} (h0:0<x) (hx:x<4294967296) (hk:∀s:Nat,s≤31→2147483648≤x*2^s→x*2^s<4294967296→K (I s) h):ak prog 135 [.int .u32 (x:Int)] h K:=by
 refine f135 ?_
 unfold NB
 refine anh h0 hx ?_
 intro n h1 h32 eD jk
 have e:ai .sub (.int .i64 32) (I n)=some (I (32-n:Nat)):=by rw [gf,wrap64 (by omega) (by omega)];congr 2;omega
 simp only [e,ah]
 have p1:2^(n-1)*2^(32-n)=2147483648:=by rw [←pow_add,show n-1+(32-n)=31 by omega]
 have p2:2^n*2^(32-n)=4294967296:=by rw [←pow_add,show n+(32-n)=32 by omega]
 refine hk _ (by omega) ?_ ?_
 ·rw [←p1];exact mul_le_mul_right _ eD
 ·rw [←p2];exact Nat.mul_lt_mul_of_pos_right jk (pow_pos (by decide))
end
section
theorem KO {s:Nat} (hs:s≤31):(4294967296:Nat)=2^s*2^(32-s):=by rw [←pow_add,show s+(32-s)=32 by omega]
theorem aFd {s x:Nat} (hs:s≤31) (hx:x<4294967296):(∃q,x*2^s%4294967296=2^s*q)∧x*2^s / 4294967296<2^s:=by
 have e:=KO hs
 have p0:0<2^s:=pow_pos (by decide)
 refine ⟨⟨x%2^(32-s),?_⟩,?_⟩
 ·rw [e,mul_comm x,Nat.mul_mod_mul_left]
 ·rw [Nat.div_lt_iff_lt_mul (by decide),mul_comm x]
  exact Nat.mul_lt_mul_of_pos_left hx p0
theorem aFe {P c t d e X Y:Nat} (h1:X+P*c=Y+P*(d+c)) (h2:4294967296*e+d=t):X+P*4294967296*e=Y+P*t:=by
 rw [←h2]
 grind
theorem WG {v:Value} {xs:List Nat} {s:Nat} {h:ae} {K:Value→ae→Prop} (hx:DS 177 .u32 h v xs) (lx:cn 4294967296 xs) (hs:s≤31) (hl:xs.length≤200)
  (hk:∀os,os.length=xs.length+1→cn 4294967296 os→val 4294967296 os=val 4294967296 xs*2^s→K (sl 177 h.length 0 (xs.length+1)) (hd h os)):ak prog 136 [v,I s] h K:=by
 refine f136 ?_
 have e1:IntKind.wrap .i64 ((xs.length:Int)+1)=((xs.length+1:Nat):Int):=by rw [wrap64 (by omega) (by omega)];omega
 simp only [NC,hx.len,ah,cP,e1,Aq (show xs.length+1≤1000 by omega),aB]
 have p0:0<2^s:=pow_pos (by decide)
 refine dI (σ:=List Nat×Nat) (fun p=>[I p.2]) (fun p=>hd h p.1) (fun p=>p.2≤xs.length∧p.1.length=xs.length+1∧cn 4294967296 p.1∧val 4294967296 p.1=val 4294967296 (xs.take p.2)*2^s∧
   (∀k,p.2<k→k≤xs.length→p.1[k]?=some 0)∧∃c,p.1[p.2]?=some c∧c<2^s) (fun p=>xs.length-p.2)
  (replicate (xs.length+1) 0,0) rfl rfl ⟨zero_le _,by simp,cn.wR (by decide) _,by simp [yf,val],fun k _ (h2:k≤xs.length)=>by rw [List.getElem?_replicate,if_pos (by omega)],0,by simp,p0⟩ ?_
 rintro ⟨os,i⟩ ⟨hi,gS,lo,bU,hz,c,hc,pR⟩ L hL
 simp only at hi gS lo bU hz hc pR hL⊢
 rw [aBs]
 simp only [cS,ah,bW]
 refine ⟨fun aD=>?_,fun cE=>?_⟩
 ·have bn:i<xs.length:=by omega
  obtain ⟨b,r1,r2⟩:=hx.get bn
  have xO:=lx _ (getElem_mem bn)
  have tx:=jc 4294967296 xs bn
  have U3:af false 1 (hd h os) (pt b i)=some (.int .u32 (xs[i]:Int)):=(kJ h os).load r2
  generalize xs[i]=x at*
  obtain ⟨⟨q,hq⟩,EE⟩:=aFd hs xO
  have hcv:os[i]'(by omega)=c:=by
   rw [getElem?_eq_getElem (by omega)] at hc
   injection hc
  have ld:=adQ (h:=h) (os:=os) (j:=i) (by omega)
  rw [hcv] at ld
  have hqb:2^s*q<4294967296:=by rw [←hq];exact mod_lt _ (by decide)
  have hqc:2^s*q+c<4294967296:=by
   have e:=KO hs
   have h3:q<2^(32-s):=by
    apply byContradiction
    intro hn
    have:2^s*2^(32-s)≤2^s*q:=mul_le_mul_left _ (by omega)
    omega
   have h4:2^s*(q+1)≤2^s*2^(32-s):=mul_le_mul_left _ (by omega)
   rw [Nat.mul_add] at h4
   omega
  have ea:a9 1 (sl 177 h.length 0 (xs.length+1)) (I i)=some (pt h.length i):=mQ (by omega)
  have ea2:a9 1 (sl 177 h.length 0 (xs.length+1)) (I (i+1:Nat))=some (pt h.length (i+1)):=mQ (by omega)
  have Jf:=div_add_mod (x*2^s) 4294967296
  have pe:x*2^s / 4294967296<4294967296:=by
   have:2^s≤2^31:=pow_le_pow_right (by decide) hs
   omega
  have wi:IntKind.wrap .i64 ((i:Int)+1)=((i+1:Nat):Int):=by rw [wrap64 (by omega) (by omega)];omega
  simp only [r1,U3,ah,tS xO,aEy .i64 (show s<32 by omega) xO,ea,ld,DM,hq,azV hs pR hqb,vJ _ (show i<os.length by omega),aB,cP,wi,AG,ea2,mod_eq_of_lt pe,
   vJ _ (show i+1<(os.set i (2^s*q+c)).length by rw [length_set];omega),true_and]
  have v1:=tI 4294967296 os i (2^s*q+c) (by omega)
  have v2:=tI 4294967296 (os.set i (2^s*q+c)) (i+1) (x*2^s / 4294967296) (by rw [length_set];omega)
  have p7:=hz (i+1) (by omega) (by omega)
  have lU:(os.set i (2^s*q+c))[i+1]'(by rw [length_set];omega)=0:=by
   rw [List.getElem_set_ne (by omega)]
   rw [getElem?_eq_getElem (by omega)] at p7
   injection p7
  rw [hcv] at v1
  rw [lU,mul_zero,add_zero,pow_succ] at v2
  rw [hq] at Jf
  refine hL ((os.set i (2^s*q+c)).set (i+1) (x*2^s / 4294967296),i+1) ⟨by show i+1≤_;omega,by simp [gS],(lo.set hqc i).set pe (i+1),?_,fun k h1 h2=>?_,_,List.getElem?_set_self (by rw [length_set];omega),EE⟩ (by show xs.length-(i+1)<xs.length-i;omega)
  ·show val 4294967296 ((os.set i (2^s*q+c)).set (i+1) (x*2^s / 4294967296))=val 4294967296 (xs.take (i+1))*2^s
   rw [v2,aFe v1 Jf,tx,add_mul,←bU,mul_assoc (4294967296^i) x]
  ·have h1:i+1<k:=h1
   rw [getElem?_set_ne (by omega),getElem?_set_ne (by omega)]
   exact hz k (by omega) h2
 ·have fO:i=xs.length:=by omega
  subst fO
  rw [List.take_length] at bU
  rw [aBr]
  exact hk os gS lo bU
theorem LB (B:Nat) (xs:List Nat) {i:Nat} (hi:i≤xs.length):val B xs=val B (xs.take i)+B^i*val B (xs.drop i):=by
 have:=nS B (xs.take i) (xs.drop i)
 rwa [List.take_append_drop,length_take,min_eq_left hi] at this
theorem auF {s x y Z:Nat} (hs:s≤31):(x+4294967296*(y+4294967296*Z)) / 2^s%4294967296=(x+y*4294967296) / 2^s%4294967296:=by
 have e:=KO hs
 have p0:0<2^s:=pow_pos (by decide)
 have:x+4294967296*(y+4294967296*Z)=x+y*4294967296+2^s*(4294967296*(2^(32-s)*Z)):=by
  generalize 2^s=a at*
  generalize 2^(32-s)=b at*
  grind
 rw [this,Nat.add_mul_div_left _ _ p0,Nat.add_mul_mod_self_left]
theorem anf {v:Value} {xs:List Nat} {s:Nat} {h:ae} {K:Value→ae→Prop} (hx:DS 177 .u32 h v xs) (lx:cn 4294967296 xs) (hs:s≤31) (hl:xs.length≤200)
  (hk:∀v' h',EX h h'→dm h' v' (val 4294967296 xs / 2^s)→K v' h'):ak prog 138 [v,I s] h K:=by
 refine f138 ?_
 simp only [NF,hx.len,ah,Aq (show xs.length≤1000 by omega),aB]
 refine dI (σ:=List Nat×Nat) (fun p=>[I p.2]) (fun p=>hd h p.1) (fun p=>p.2≤xs.length∧p.1.length=xs.length∧cn 4294967296 p.1∧val 4294967296 p.1=val 4294967296 xs / 2^s%4294967296^p.2∧
   ∀k,p.2≤k→k<xs.length→p.1[k]?=some 0) (fun p=>xs.length-p.2)
  (replicate xs.length 0,0) rfl rfl ⟨zero_le _,by simp,cn.wR (by decide) _,by simp [yf,Nat.mod_one],fun k _ (h2:k<xs.length)=>by rw [List.getElem?_replicate,if_pos h2]⟩ ?_
 rintro ⟨os,i⟩ ⟨hi,gS,lo,bU,hz⟩ L hL
 simp only at hi gS lo bU hz hL⊢
 rw [aBD]
 simp only [cS,ah,bW]
 refine ⟨fun aD=>?_,fun cE=>?_⟩
 ·have bn:i<xs.length:=by omega
  obtain ⟨b,r1,r2⟩:=hx.get bn
  have xO:=lx _ (getElem_mem bn)
  have U3:af false 1 (hd h os) (pt b i)=some (.int .u32 (xs[i]:Int)):=(kJ h os).load r2
  have wi:IntKind.wrap .i64 ((i:Int)+1)=((i+1:Nat):Int):=by rw [wrap64 (by omega) (by omega)];omega
  have ea:a9 1 (sl 177 h.length 0 xs.length) (I i)=some (pt h.length i):=mQ (by omega)
  -- uO gN Iw is
  have fin:∀t:Nat,t / 2^s%4294967296=val 4294967296 (xs.drop i) / 2^s%4294967296→Kp prog K v (I s) (sl 177 h.length 0 xs.length) (I i) (.int .u64 (t:Int)) (I xs.length) (I i) L (hd h os):=by
   intro t ht
   rw [aBA]
   simp only [Vs .u64 .i64 (s:=t) (n:=s) (by have:IntKind.u64.bits=64:=rfl;omega) (by omega),ah,DM,ea,vJ _ (show i<os.length by omega),aB,aBB,cP,wi,true_and]
   have pe:t / 2^s%4294967296<4294967296:=mod_lt _ (by decide)
   refine hL (os.set i (t / 2^s%4294967296),i+1) ⟨by show i+1≤_;omega,by simp [gS],lo.set pe i,?_,fun k h1 h2=>?_⟩ (by show xs.length-(i+1)<xs.length-i;omega)
   ·show val 4294967296 (os.set i (t / 2^s%4294967296))=val 4294967296 xs / 2^s%4294967296^(i+1)
    have v1:=tI 4294967296 os i (t / 2^s%4294967296) (by omega)
    have p7:=hz i (le_refl _) bn
    have lU:os[i]'(by omega)=0:=by
     rw [getElem?_eq_getElem (by omega)] at p7
     injection p7
    rw [lU,mul_zero,add_zero,bU] at v1
    rw [v1,ht,Nat.mod_pow_succ,Nat.div_div_eq_div_mul,mul_comm (2^s),←Nat.div_div_eq_div_mul]
    congr 3
    rw [LB 4294967296 xs hi]
    have sY:=nk (xs:=xs.take i) (lx.mono fun y hy=>mem_of_mem_take hy)
    rw [length_take,min_eq_left hi] at sY
    have hB:0<4294967296^i:=pow_pos (by decide)
    rw [Nat.add_mul_div_left _ _ hB,Nat.div_eq_of_lt sY,zero_add]
   ·have h1:i+1≤k:=h1
    rw [getElem?_set_ne (by omega)]
    exact hz k (by omega) h2
  have ed:xs.drop i=xs[i]::xs.drop (i+1):=List.drop_eq_getElem_cons bn
  simp only [r1,U3,ah,tS xO,cP,wi,hx.len,cS,bW]
  refine ⟨fun mY=>?_,fun adY=>?_⟩
  ·have Q6:i+1<xs.length:=by omega
   obtain ⟨b2,s1,s2⟩:=hx.get Q6
   have qV:=lx _ (getElem_mem Q6)
   have s2':af false 1 (hd h os) (pt b2 (i+1))=some (.int .u32 (xs[i+1]:Int)):=(kJ h os).load s2
   have eor:ai .or (.int .u64 (xs[i]:Int)) (.int .u64 ((xs[i+1]*4294967296:Nat):Int))=some (.int .u64 ((xs[i]+xs[i+1]*4294967296:Nat):Int)):=by
    have:=Kc qV xO
    simp only [ai,ie,if_true] at this⊢
    rw [BitVec.or_comm,this,Nat.add_comm]
   simp only [s1,s2',ah,tS qV,Lf qV,eor]
   refine fin _ ?_
   rw [ed,List.drop_eq_getElem_cons Q6]
   simp only [val]
   rw [auF hs]
  ·refine fin _ ?_
   rw [ed,List.drop_eq_nil_of_le (by omega)]
   simp [val]
 ·have fO:i=xs.length:=by omega
  subst fO
  have aD:val 4294967296 xs / 2^s<4294967296^xs.length:=Nat.lt_of_le_of_lt (Nat.div_le_self ..) (nk lx)
  rw [mod_eq_of_lt aD] at bU
  rw [aBC]
  have xy:DS 177 .u32 (hd h os) (sl 177 h.length 0 xs.length) os:=by rw [←gS];exact zp h os
  refine sF xy lo (by omega) ?_
  intro v' jI
  rw [bU] at jI
  exact hk v' _ (kJ h os) jI
end
section
theorem auC {A Q V low D P:Nat} (hA:A=low+P*D+Q*V):A=low+P*(D%V)+(Q+P*(D / V))*V:=by
 have:=div_add_mod D V
 have e:P*(V*(D / V)+D%V)=P*D:=by rw [this]
 rw [hA,add_mul]
 have e2:P*(V*(D / V)+D%V)=P*(D / V)*V+P*(D%V):=by grind
 omega
theorem aE0 {B n U l d:Nat} (h:U=l+B^n*d) (hU:U<B^n):d=0:=by
 apply byContradiction
 intro bk
 have:B^n*1≤B^n*d:=mul_le_mul_left _ (by omega)
 generalize B^n=Z at*
 omega
theorem aE4 {B j m U V L D X T:Nat} (h1:U=L+B^j*D) (h2:D=X+B^(m+3)*T) (hV:V<B^(m+2)) (hB:0<B) (aD:U<V*B^(j+1)):T=0:=by
 apply byContradiction
 intro bk
 have a1:B^(m+3)*1≤B^(m+3)*T:=mul_le_mul_left _ (by omega)
 have a2:B^j*B^(m+3)≤B^j*D:=mul_le_mul_left _ (by rw [h2];generalize B^(m+3)*T=z at*;omega)
 have a3:V*B^(j+1)<B^(m+2)*B^(j+1):=Nat.mul_lt_mul_of_pos_right hV (pow_pos hB)
 rw [←pow_add] at a2 a3
 rw [show m+2+(j+1)=j+(m+3) by omega] at a3
 generalize B^(j+(m+3))=z at*
 generalize V*B^(j+1)=w at*
 generalize B^j*D=y at*
 omega
theorem aqH {B j V L D U:Nat} (h1:U=L+B^j*D) (aD:U<V*B^(j+1)):D<V*B:=by
 apply byContradiction
 intro bk
 have a1:B^j*(V*B)≤B^j*D:=mul_le_mul_left _ (by omega)
 have a2:V*B^(j+1)=B^j*(V*B):=by
  rw [pow_succ]
  generalize B^j=z
  rw [←mul_assoc,mul_comm _ z,mul_assoc]
 rw [a2] at aD
 generalize B^j*(V*B)=w at*
 generalize B^j*D=y at*
 omega
theorem ayZ {B j L r V:Nat} (hL:L<B^j) (hr:r<V):L+B^j*r<V*B^j:=by
 have:B^j*(r+1)≤B^j*V:=mul_le_mul_left _ hr
 rw [Nat.mul_add,Nat.mul_one] at this
 rw [mul_comm V]
 generalize B^j*V=w at*
 generalize B^j*r=y at*
 generalize B^j=z at*
 omega
theorem azD {n b s top:Nat} {vs ys:List Nat} (cv:dj 4294967296 vs) (ly:cn 4294967296 ys) (hn:ys.length=n+1) (tc:ys[n]?=some top) (hb:val 4294967296 ys=b) (hv:val 4294967296 vs=b*2^s) (hs:s≤31) (h1:2147483648≤top*2^s) (h2:top*2^s<4294967296):
  vs.length=n+1∧∃v1,vs[n]?=some v1∧2147483648≤v1:=by
 have te:ys[n]'(by omega)=top:=by
  rw [getElem?_eq_getElem (by omega)] at tc
  injection tc
 have tv:=jc 4294967296 ys (i:=n) (by omega)
 rw [take_of_length_le (by omega),te,hb] at tv
 have sY:=nk (xs:=ys.take n) (ly.mono fun y hy=>mem_of_mem_take hy)
 rw [length_take,min_eq_left (by omega)] at sY
 generalize val 4294967296 (ys.take n)=l at*
 have hP:0<4294967296^n:=pow_pos (by decide)
 have eD:2147483648*4294967296^n≤b*2^s:=by
  have e1:top*2^s*4294967296^n≤b*2^s:=by
   rw [tv,add_mul]
   have:4294967296^n*top*2^s=top*2^s*4294967296^n:=by
    rw [mul_assoc,mul_comm]
   omega
  exact Nat.le_trans (mul_le_mul_right _ h1) e1
 have jk:b*2^s<4294967296^(n+1):=by
  have e:=KO hs
  have p0:0<2^s:=pow_pos (by decide)
  have t1:top+1≤2^(32-s):=by
   apply byContradiction
   intro hn
   have:2^s*2^(32-s)≤2^s*top:=mul_le_mul_left _ (by omega)
   rw [mul_comm (2^s) top] at this
   omega
  have t2:b<(top+1)*4294967296^n:=by
   rw [tv,add_mul,Nat.one_mul,mul_comm top]
   omega
  have t3:b*2^s<(top+1)*4294967296^n*2^s:=Nat.mul_lt_mul_of_pos_right t2 p0
  have t4:(top+1)*4294967296^n*2^s≤2^(32-s)*4294967296^n*2^s:=mul_le_mul_right _ (mul_le_mul_right _ t1)
  have t5:2^(32-s)*4294967296^n*2^s=4294967296^n*(2^s*2^(32-s)):=by
   generalize 2^(32-s)=x
   generalize 2^s=y
   generalize 4294967296^n=z
   grind
  rw [t5,←e,←pow_succ] at t4
  omega
 have hle:vs.length≤n+1:=cv.len (by decide) (by rw [hv];exact jk)
 have cE:n<vs.length:=by
  have h3:=nk cv.1
  rw [hv] at h3
  have h4:4294967296^n<4294967296^vs.length:=by
   have:1*4294967296^n≤2147483648*4294967296^n:=mul_le_mul_right _ (by decide)
   omega
  exact (Nat.pow_lt_pow_iff_right (by decide)).1 h4
 refine ⟨by omega,vs[n],getElem?_eq_getElem cE,?_⟩
 have t2:=jc 4294967296 vs (i:=n) cE
 rw [take_of_length_le (by omega),hv] at t2
 have nK:=nk (xs:=vs.take n) (cv.1.mono fun y hy=>mem_of_mem_take hy)
 rw [length_take,min_eq_left (by omega)] at nK
 apply byContradiction
 intro hc
 have:4294967296^n*(vs[n]+1)≤4294967296^n*2147483648:=mul_le_mul_left _ (by omega)
 rw [Nat.mul_add,Nat.mul_one,mul_comm _ 2147483648] at this
 omega
theorem aEG {id N l r:Nat} (h1:l≤r) (h2:r≤N):mD 177 1 (sl 177 id 0 N) (some (I l)) (some (I r))=some (sl 177 id l (r-l)):=by
 simp [mD,sl,rZ,tu,h1,h2]
theorem aEH {id N r:Nat} (h2:r≤N):mD 177 1 (sl 177 id 0 N) none (some (I r))=some (sl 177 id 0 r):=by
 simp [mD,sl,rZ,tu,h2]
section
variable {h : ae} {K : Value → ae → Prop}
theorem ana {g:ae} {id iq iv m s nq A:Nat} {vs us:List Nat} {rest:List Value} {v1:Nat} (iH:h.length≤id) (hiq:h.length≤iq) (bk:iv≠id) (Ey:iv≠iq) (aeo:id≠iq) (hn:vs.length=m+2) (hm:m≤1000) (hs:s≤31)
  (lv:cn 4294967296 vs) (rV:vs[m+1]?=some v1) (jk:2147483648≤v1) (rU:us.length=nq+1+(m+2)) (hnq:nq≤200) (vQ:m≤150) (lu:cn 4294967296 us) (hA:val 4294967296 us=A) (IX:A<val 4294967296 vs*4294967296^(nq+1))
  (hx:EX h g) (ku:g[id]?=some (.arr 177 (wv us))) (kq:g[iq]?=some (.arr 177 (wv (replicate (nq+1) 0)))) (kv:aQ g iv=some (wv vs++rest))
  (hk:∀q r h',EX h h'→dm h' q (A / val 4294967296 vs)→dm h' r (A%val 4294967296 vs / 2^s)→K (.tuple #[q,r]) h'):
  cN [I nq] g fun L1 xs hx=>TP prog K (I s) (sl 177 iv 0 (m+2)) (sl 177 id 0 (nq+1+(m+2))) (I (m+2:Nat)) (sl 177 iq 0 (nq+1)) L1 xs hx:=by
 have V0:0<val 4294967296 vs:=by
  apply Nat.pos_of_ne_zero
  intro e
  rw [e,Nat.zero_mul] at IX
  omega
 have Vn:=nk lv
 rw [hn] at Vn
 refine dI (σ:=Nat×List Nat×List Nat×ae) (fun p=>[I ((p.1:Int)-1)]) (fun p=>p.2.2.2)
  (fun p=>p.1≤nq+1∧EX h p.2.2.2∧p.2.1.length=nq+1+(m+2)∧cn 4294967296 p.2.1∧p.2.2.1.length=nq+1∧cn 4294967296 p.2.2.1∧(∀k,k<p.1→p.2.2.1[k]?=some 0)∧
   A=val 4294967296 p.2.1+val 4294967296 p.2.2.1*val 4294967296 vs∧val 4294967296 p.2.1<val 4294967296 vs*4294967296^p.1∧
   p.2.2.2[id]?=some (.arr 177 (wv p.2.1))∧p.2.2.2[iq]?=some (.arr 177 (wv p.2.2.1))∧aQ p.2.2.2 iv=some (wv vs++rest)) (fun p=>p.1)
  (nq+1,us,replicate (nq+1) 0,g) (by simp) rfl ⟨le_refl _,hx,rU,lu,by simp,cn.wR (by decide) _,fun k (hk:k<nq+1)=>by rw [List.getElem?_replicate,if_pos hk],by show A=_;rw [hA,yf];simp,by show val 4294967296 us<_;rw [hA];exact IX,ku,kq,kv⟩ ?_
 clear ku kq kv hx lu hA rU us g
 rintro ⟨jn,us,qs,g⟩ ⟨vM,hx,rU,lu,qM,lq,hz,hA,aD,ku,kq,kv⟩ L hL
 simp only at vM hx rU lu qM lq hz hA aD ku kq kv hL⊢
 rw [aBp]
 simp only [nA,ah,bW]
 refine ⟨fun cE=>?_,fun jo=>?_⟩
 ·obtain ⟨j,rfl⟩:∃j,jn=j+1:=⟨jn-1,by omega⟩
  have ej:((j+1:Nat):Int)-1=(j:Int):=by omega
  have w1:ai .add (I j) (I (m+2:Nat))=some (I (j+(m+2):Nat)):=by rw [cP,wrap64 (by omega) (by omega)];congr 2
  have w2:ai .add (I (j+(m+2):Nat)) (.int .i64 1)=some (I (j+(m+3):Nat)):=by rw [cP,wrap64 (by omega) (by omega)];congr 2
  have w3:ai .sub (I j) (.int .i64 1)=some (I ((j:Int)-1)):=by rw [gf,wrap64 (by omega) (by omega)]
  have w4:j+(m+3)-j=m+3:=by omega
  rw [ej]
  simp only [w1,w2,ah,aEG (show j≤j+(m+3) by omega) (show j+(m+3)≤nq+1+(m+2) by omega),w4]
  have pe:((us.drop j).take (m+3)).length=m+3:=by rw [length_take,List.length_drop];omega
  have hud:∀k,k≤m+2→us[j+k]?=((us.drop j).take (m+3))[k]?:=by
   intro k hk
   rw [List.getElem?_take_of_lt (by omega),List.getElem?_drop]
  have lud:cn 4294967296 ((us.drop j).take (m+3)):=lu.mono fun y hy=>List.mem_of_mem_drop (mem_of_mem_take hy)
  -- gN number:uO is below,uO is aFT,and nothing aFM
  have mw:=LB 4294967296 us (i:=j) (by omega)
  have zm:=LB 4294967296 (us.drop j) (i:=m+3) (by rw [List.length_drop];omega)
  have sY:=nk (xs:=us.take j) (lu.mono fun y hy=>mem_of_mem_take hy)
  rw [length_take,min_eq_left (by omega)] at sY
  have tc:val 4294967296 ((us.drop j).drop (m+3))=0:=aE4 mw zm Vn (by decide) aD
  rw [tc,mul_zero,add_zero] at zm
  rw [zm] at mw
  have ub:val 4294967296 ((us.drop j).take (m+3))<val 4294967296 vs*4294967296:=aqH mw aD
  refine anc ku kv bk hn hm pe (by omega) hud lud lv rV jk ub ?_
  intro rs Rv lr hrv
  have kq':(g.set id (.arr 177 (wv (mid us j rs))))[iq]?=some (.arr 177 (wv qs)):=by rw [getElem?_set_ne aeo];exact kq
  have avr:a9 1 (sl 177 iq 0 (nq+1)) (I j)=some (pt iq j):=mQ (by omega)
  simp only [avr,ah,Dq _ kq' (show j<qs.length by omega),aB,w3,true_and]
  have EE:val 4294967296 ((us.drop j).take (m+3)) / val 4294967296 vs<4294967296:=by
   rw [Nat.div_lt_iff_lt_mul V0,mul_comm];exact ub
  have hmr:val 4294967296 (mid us j rs)=val 4294967296 (us.take j)+4294967296^j*(val 4294967296 ((us.drop j).take (m+3))%val 4294967296 vs):=by
   unfold mid
   rw [nS,nS,length_take,min_eq_left (by omega),hrv,Rv]
   have:us.drop (j+(m+3))=(us.drop j).drop (m+3):=by rw [List.drop_drop]
   rw [this,tc,mul_zero,add_zero]
  have p7:=hz j (by omega)
  have lU:qs[j]'(by omega)=0:=by
   rw [getElem?_eq_getElem (by omega)] at p7
   injection p7
  have hqs:=tI 4294967296 qs j (val 4294967296 ((us.drop j).take (m+3)) / val 4294967296 vs) (by omega)
  rw [lU,mul_zero,add_zero] at hqs
  have mZ:=mod_lt (val 4294967296 ((us.drop j).take (m+3))) V0
  refine hL (j,mid us j rs,qs.set j (val 4294967296 ((us.drop j).take (m+3)) / val 4294967296 vs),_) ⟨by show j≤_;omega,(hx.set iH _).set hiq _,by rw [Ci (by omega)];exact rU,?_,by rw [length_set];exact qM,lq.set EE j,fun k hk=>?_,?_,?_,?_,ck kq',?_⟩ (by show j<j+1;omega)
  ·unfold mid
   exact (lu.mono fun y hy=>mem_of_mem_take hy).append (lr.append (lu.mono fun y hy=>List.mem_of_mem_drop hy))
  ·have hk:k<j:=hk
   rw [getElem?_set_ne (by omega)]
   exact hz k (by omega)
  ·show A=val 4294967296 (mid us j rs)+val 4294967296 (qs.set j _)*val 4294967296 vs
   rw [hmr,hqs]
   refine auC ?_
   rw [hA,mw]
  ·show val 4294967296 (mid us j rs)<val 4294967296 vs*4294967296^j
   rw [hmr]
   exact ayZ sY mZ
  ·rw [getElem?_set_ne aeo.symm];exact ck ku
  ·rw [DH Ey,DH bk];exact kv
 ·have nJ:jn=0:=by omega
  subst nJ
  rw [Nat.pow_zero,Nat.mul_one] at aD
  have hQ:A / val 4294967296 vs=val 4294967296 qs:=by rw [hA,Nat.add_mul_div_right _ _ V0,Nat.div_eq_of_lt aD,zero_add]
  have hR:A%val 4294967296 vs=val 4294967296 us:=by rw [hA,Nat.add_mul_mod_self_right,mod_eq_of_lt aD]
  have hdq:DS 177 .u32 g (sl 177 iq 0 (nq+1)) qs:=.inr ⟨iq,by rw [qM],.inr ⟨[],by rw [List.append_nil];simp [aQ,kq,wv]⟩⟩
  rw [aBq]
  refine sF hdq lq (by omega) ?_
  intro q hq
  have Jt:val 4294967296 (us.take (m+2))=val 4294967296 us:=by
   have hd:=LB 4294967296 us (i:=m+2) (by omega)
   have:val 4294967296 (us.drop (m+2))=0:=aE0 hd (Nat.lt_trans aD Vn)
   rw [this,mul_zero,add_zero] at hd
   exact hd.symm
  have zv:DS 177 .u32 g (sl 177 id 0 (m+2)) (us.take (m+2)):=.inr ⟨id,by rw [length_take,min_eq_left (by omega)],.inr ⟨wv (us.drop (m+2)),by
   simp only [aQ,ku]
   congr 1
   show wv us=wv (us.take (m+2))++wv (us.drop (m+2))
   unfold wv
   rw [←List.map_append,List.take_append_drop]⟩⟩
  simp only [true_and,aEH (show m+2≤nq+1+(m+2) by omega),ah]
  refine sF zv (lu.mono fun y hy=>mem_of_mem_take hy) (by rw [length_take];omega) ?_
  intro r0 sZ
  rw [Jt] at sZ
  obtain ⟨zs,dz,cz,hz⟩:=sZ
  have lz:zs.length≤m+2:=cz.len (by decide) (by rw [hz];exact Nat.lt_trans aD Vn)
  refine anf dz cz.1 hs (by omega) ?_
  intro r h' x' hr
  rw [hz,←hR] at hr
  rw [←hQ] at hq
  exact hk q r h' (hx.trans x') (hq.mono x') hr
end
end
section
theorem aEJ {B a P Q s n l V:Nat} (ha:a<P*B^(n-1)) (hV:2147483648*P≤V) (hB:2^s≤2147483648) (hl:l=n) (hQ:Q=B^(n-1)) (_h:1≤n):a*2^s<V*Q:=by
 have _:=hl
 have h1:a*2^s<P*B^(n-1)*2^s:=Nat.mul_lt_mul_of_pos_right ha (pow_pos (by decide))
 have h2:P*B^(n-1)*2^s≤P*B^(n-1)*2147483648:=mul_le_mul_left _ hB
 have h3:2147483648*P*B^(n-1)≤V*B^(n-1):=mul_le_mul_right _ hV
 have e:P*B^(n-1)*2147483648=2147483648*P*B^(n-1):=by
  generalize B^(n-1)=z
  rw [mul_comm,←mul_assoc]
 rw [hQ]
 generalize V*B^(n-1)=x at*
 omega
theorem WB {va vb:Value} {a b:Nat} {h:ae} {K:Value→ae→Prop} (ha:dm h va a) (hb:dm h vb b) (la:a<bG) (lb:b<bG) (b0:0<b) (hk:∀q r h',EX h h'→dm h' q (a / b)→dm h' r (a%b)→K (.tuple #[q,r]) h'):
  ak prog 130 [va,vb] h K:=by
 by_cases I1:b<4294967296
 ·exact am9 ha hb la b0 I1 hk
 refine f130 ?_
 unfold GM
 refine Gf ha hb la lb ?_
 simp only [cS,ah,bW]
 refine ⟨fun aD=>?_,fun cE=>?_⟩
 ·have hX:=Le.1 aD
  have oA:=ha
  obtain ⟨xs,d,c,rfl⟩:=ha
  obtain ⟨s1,s2⟩:=d.cells
  have lx:=qB c la
  have hq:∀g,dm g (.slice none 0 0) (val 4294967296 xs / b):=fun g=>⟨[],DS.nil _ _ _,⟨fun x hx=>by simp at hx,by simp⟩,by rw [Nat.div_eq_of_lt hX];rfl⟩
  by_cases h0:xs.length=0
  ·have e:dM 177 1 4 h (.slice none 0 0) va=some (.slice none 0 0,h):=by
    simp only [dM,s1,s2]
    rw [if_pos h0]
   simp only [e,aB]
   have:xs=[]:=List.length_eq_zero_iff.1 h0
   subst this
   exact hk _ _ h (EX.refl h) (hq h) ⟨[],DS.nil _ _ _,c,by rw [mod_eq_of_lt hX]⟩
  ·have e:dM 177 1 4 h (.slice none 0 0) va=some (sl 177 h.length 0 xs.length,h++[.arr 177 (xs.map fun d:Nat=>Value.int .u32 (d:Int))]):=by
    simp only [dM,s1,s2]
    rw [if_neg h0,if_pos ⟨by omega,by unfold maxLen;omega⟩]
   simp only [e,aB]
   refine hk _ _ _ (EX.append _ _) (hq _) ⟨xs,.inr ⟨h.length,rfl,.inr ⟨[],?_⟩⟩,c,by rw [mod_eq_of_lt hX]⟩
   simp [aQ]
 have hX:b≤a:=by
  apply byContradiction
  intro hc
  exact cE (Le.2 (by omega))
 obtain ⟨xs,dx,cx,RM⟩:=ha
 obtain ⟨ys,dy,cy,qV⟩:=hb
 have lx:=qB cx (by rw [RM];exact la)
 have ly:=qB cy (by rw [qV];exact lb)
 have ko:=nk cy.1
 rw [qV] at ko
 obtain ⟨m,hm⟩:∃m,ys.length=m+2:=by
  refine ⟨ys.length-2,?_⟩
  have:¬ys.length≤1:=by
   intro h1
   have:4294967296^ys.length≤4294967296^1:=pow_le_pow_right (by decide) h1
   rw [Nat.pow_one] at this
   generalize 4294967296^ys.length=z at*
   omega
  omega
 have axB:ys≠[]:=by rintro rfl;simp at hm
 have aeV:=dj.low (by decide) cy axB
 have hZ:=nk cx.1
 rw [RM] at hZ
 rw [qV] at aeV
 have hlen:ys.length≤xs.length:=by
  have:4294967296^(ys.length-1)<4294967296^xs.length:=Nat.lt_of_le_of_lt aeV (Nat.lt_of_le_of_lt hX hZ)
  have:=(Nat.pow_lt_pow_iff_right (show 1<4294967296 by decide)).1 this
  omega
 -- gN aFY Iw
 obtain ⟨ib,g1,g2⟩:=dy.get (j:=m+1) (by omega)
 have tc:ys[m+1]?=some (ys[m+1]'(by omega)):=getElem?_eq_getElem (by omega)
 have EI:=cy.1 _ (getElem_mem (l:=ys) (n:=m+1) (by omega))
 have vY:0<ys[m+1]'(by omega):=by
  apply Nat.pos_of_ne_zero
  intro e
  refine cy.2 ?_
  rw [List.getLast?_eq_getElem?,hm,show m+2-1=m+1 by omega,tc,e]
 have Sz:bj vb=some (I (m+2:Nat)):=by rw [dy.len,hm]
 have s1:ai .sub (I (m+2:Nat)) (.int .i64 1)=some (I (m+1:Nat)):=by rw [gf,wrap64 (by omega) (by omega)];congr 2;omega
 simp only [Sz,ah,jw,aU (show ¬(((m+2:Nat):Int)=1) by omega),dR,s1,g1,g2]
 generalize ys[m+1]'(by omega)=top at*
 refine anb vY EI ?_
 intro s hs h1 h2
 refine WG dy cy.1 hs (by omega) ?_
 intro gE Fi lo1 rV
 rw [qV] at rV
 have d1:DS 177 .u32 (hd h gE) (sl 177 h.length 0 (ys.length+1)) gE:=by rw [←Fi];exact zp h gE
 refine sF d1 lo1 (by omega) ?_
 intro v' jI
 rw [rV] at jI
 obtain ⟨vs,dv,cv,zS⟩:=jI
 obtain ⟨oG,v1,RH,aeL⟩:=azD (n:=m+1) cv cy.1 hm tc qV zS hs h1 h2
 obtain ⟨iv,awM,rest,kv⟩:∃i,v'=sl 177 i 0 (m+2)∧∃rest,aQ (hd h gE) i=some (wv vs++rest):=by
  rcases dv with ⟨_,h0⟩ | ⟨i,e1,e2⟩
  ·rw [h0] at oG;simp at oG
  ·rcases e2 with h0 | ⟨r,hr⟩
   ·rw [h0] at oG;simp at oG
   ·exact ⟨i,by rw [e1,oG],r,hr⟩
 subst awM
 have aGa:iv<(hd h gE).length:=by
  unfold aQ at kv
  apply byContradiction
  intro hn
  rw [List.getElem?_eq_none (by omega)] at kv
  cases kv
 refine WG (dx.mono (kJ h gE)) cx.1 hs (by omega) ?_
 intro Cr ol2 lo2 jA
 rw [RM] at jA
 have x2:=kJ (hd h gE) Cr
 have k2:=QQ (hd h gE) Cr
 have l2:(hd (hd h gE) Cr).length=(hd h gE).length+1:=by simp [hd]
 have kv2:=x2.cells kv
 have E6:bj (sl 177 iv 0 (m+2))=some (I (m+2:Nat)):=rfl
 obtain ⟨nq,hnq⟩:∃nq,xs.length=nq+(m+2):=⟨xs.length-(m+2),by omega⟩
 have w1:ai .sub (I (xs.length:Nat)) (I (m+2:Nat))=some (I nq):=by rw [gf,wrap64 (by omega) (by omega)];congr 2;omega
 have w2:ai .add (I nq) (.int .i64 1)=some (I (nq+1:Nat)):=by rw [cP,wrap64 (by omega) (by omega)];congr 2
 simp only [E6,ah,dx.len,w1,w2,Aq (show nq+1≤1000 by omega),aB]
 have x3:=kJ (hd (hd h gE) Cr) (replicate (nq+1) 0)
 have k3:=QQ (hd (hd h gE) Cr) (replicate (nq+1) 0)
 have EZ:=x3.get k2
 have kv3:=x3.cells kv2
 have xA:=(kJ h gE).trans (x2.trans x3)
 have zC:=(kJ h gE).1
 generalize hd (hd (hd h gE) Cr) (replicate (nq+1) 0)=g3 at*
 have eN:xs.length+1=nq+1+(m+2):=by omega
 rw [eN]
 have axo:2^s≤2147483648:=pow_le_pow_right (show 0<2 by decide) hs
 have awm:2147483648*4294967296^(m+1)≤val 4294967296 vs:=by
  have tv:=jc 4294967296 vs (i:=m+1) (by omega)
  rw [take_of_length_le (by omega)] at tv
  have e1:vs[m+1]'(by omega)=v1:=by
   rw [getElem?_eq_getElem (by omega)] at RH
   injection RH
  rw [e1] at tv
  rw [tv,mul_comm]
  have:4294967296^(m+1)*2147483648≤4294967296^(m+1)*v1:=mul_le_mul_left _ aeL
  generalize 4294967296^(m+1)*v1=z at*
  omega
 have IX:a*2^s<val 4294967296 vs*4294967296^(nq+1):=by
  have axz:a<4294967296^(m+1)*4294967296^(nq+1):=by
   rw [←pow_add,show m+1+(nq+1)=xs.length by omega];exact hZ
  exact aEJ (n:=nq+2) (l:=nq+2) (by simpa using axz) awm axo rfl (by simp) (by omega)
 have YC:0<2^s:=pow_pos (by decide)
 refine ana (h:=h) (A:=a*2^s) (by omega) (by omega) (by omega) (by omega) (by omega) oG (by omega) hs cv.1 RH aeL (by omega) (by omega) (by omega) lo2 jA IX xA EZ k3 kv3 ?_
 intro q r h' x' hq hr
 rw [zS,Nat.mul_div_mul_right _ _ YC] at hq
 rw [zS,Nat.mul_mod_mul_right,Nat.mul_div_cancel _ YC] at hr
 exact hk q r h' x' hq hr
end
section
def gY (h:ae) (val:Value) (a b:Int):Prop:=∃u w,val=.agg #[B (decide (a<0)),u,B (decide (b<0)),w]∧dm h u a.natAbs∧dm h w b.natAbs
theorem Wr {va:Value} {a:Int} {h:ae} {K:Value→ae→Prop} (ha:dT h va a) (hk:∀r h',EX h h'→gY h' r a 1→K r h'):ak prog 112 [va] h K:=by
 obtain ⟨v,rfl,hv⟩:=ha
 refine f112 ?_
 have e1:bm 105 h (.agg #[B (decide (a<0)),v])=some (pt h.length 0,h++[.arr 105 [B (decide (a<0)),v]]):=rfl
 have e2:∀g:ae,aV 107 [(.bool false),(.slice none 0 0),(.bool false),(.slice none 0 0)] g=some (pt g.length 0,g++[.arr 107 z4]):=fun _=>rfl
 simp only [Ng,e1,e2,aB,length_append,length_cons,length_nil]
 have g0:(h++[aq.arr 105 [B (decide (a<0)),v]]++[aq.arr 107 z4])[h.length]?=some (.arr 105 [B (decide (a<0)),v]):=by simp
 have g1:(h++[aq.arr 105 [B (decide (a<0)),v]]++[aq.arr 107 z4])[h.length+1]?=some (.arr 107 z4):=by simp
 have x1:EX h (h++[aq.arr 105 [B (decide (a<0)),v]]++[aq.arr 107 z4]):=(EX.append _ _).push _
 generalize h++[aq.arr 105 [B (decide (a<0)),v]]++[aq.arr 107 z4]=h1 at g0 g1 x1⊢
 rw [cI g0]
 simp only [ah,true_and]
 refine C4 (by decide) (by decide) ?_
 intro r2 h2 x2 i2
 obtain ⟨w,rfl,hw⟩:=id i2
 refine ⟨⟨EX.load x2 (cI g0),trivial⟩,?_⟩
 have jA:=(hv.mono x1).mono x2
 obtain ⟨xs,dx,cx⟩:=id jA
 obtain ⟨ys,dy,cy⟩:=id hw
 rw [G0 dx dy]
 simp only [ah,zero_add]
 have g2:=x2.get g1
 exact rK g2 (hk _ _ ((x1.trans x2).set (by omega) _) ⟨v,w,rfl,jA.bM g2 _,hw.bM g2 _⟩)
theorem C90 {u w:Value} {s:Bool} {h:ae} {K:Value→ae→Prop} (hw:dm h w 1) (hk:∀h',EX h h'→K (B true) h'):ak prog 90 [.agg #[B s,u,B false,w]] h K:=by
 refine f90 ?_
 have e1:bm 107 h (.agg #[B s,u,B false,w])=some (pt h.length 0,h++[.arr 107 [B s,u,B false,w]]):=rfl
 simp only [GN,e1,aB]
 have x1:EX h (h++[aq.arr 107 [B s,u,B false,w]]):=EX.append _ _
 have l3:af false 1 (h++[aq.arr 107 [B s,u,B false,w]]) (pt h.length 3)=some w:=tm rfl
 obtain ⟨xs,dx,cx,vx⟩:=hw.mono x1
 have hx1:xs=[1]:=dj.unique (by decide) cx ⟨fun y hy=>by simp at hy;subst hy;decide,by simp⟩ (by rw [vx];rfl)
 subst hx1
 obtain ⟨i,g1,g2⟩:=dx.get (j:=0) (by simp)
 have yW:a9 1 w (I 0)=some (pt i 0):=g1
 simp only [cw,zero_add,ah,l3,dx.len,List.length_singleton,jw,UT]
 rw [aZ (show ((1:Nat):Int)=1 by rfl)]
 simp only [gQ,ah,yW,g2,jw,UU,ef]
 exact hk _ x1
end
section
theorem gY.mono {h h':ae} {v:Value} {a b:Int} (x:EX h h') (p:gY h v a b):gY h' v a b:=let ⟨u,w,e,m,n⟩:=p;⟨u,w,e,m.mono x,n.mono x⟩
theorem gY.bM {h:ae} {v:Value} {a b:Int} {j:Nat} {e:TypeId} {s:Bool} {r:List Value} (p:gY h v a b) (hj:h[j]?=some (.arr e (.bool s::r))) (o:aq):gY (h.set j o) v a b:=
 let ⟨u,w,e,m,n⟩:=p;⟨u,w,e,m.bM hj o,n.bM hj o⟩
theorem IE {h h':ae} {j:Nat} {va vb:Value} {a b:Int} {K:Value→ae→Prop} (ha:dT h' va a) (hb:dT h' vb b) (x:EX h h') (hj:h.length≤j) (hg:h'[j]?=some (.arr 107 z4)) (hk:∀r h',EX h h'→gY h' r a b→K r h'):
  OP (dh [(.bool false),(.slice none 0 0),(.bool false),(.slice none 0 0)] [(0,2,va),(2,2,vb)]) fun bu=>OH (aG 4 h' (pt j 0) bu) fun _ h_6=>OP (af true 4 h_6 (pt j 0)) fun r0=>K r0 h_6:=by
 obtain ⟨v,rfl,hv⟩:=ha
 obtain ⟨w,rfl,hw⟩:=hb
 obtain ⟨xs,dx,_⟩:=id hv
 obtain ⟨ys,dy,_⟩:=id hw
 rw [G0 dx dy]
 simp only [ah]
 exact rK hg (hk _ _ (x.set hj _) ⟨v,w,rfl,hv.bM hg _,hw.bM hg _⟩)
theorem C75 {n:Int} {h:ae} {K:Value→ae→Prop} (h1: -9223372036854775808≤n) (h2:n<9223372036854775808) (hk:∀r h',EX h h'→gY h' r n 1→K r h'):ak prog 75 [I n] h K:=by
 refine f75 ?_
 have e1:aV 107 [(.bool false),(.slice none 0 0),(.bool false),(.slice none 0 0)] h=some (pt h.length 0,h++[.arr 107 z4]):=rfl
 simp only [Oh,e1,aB]
 have x0:EX h (h++[.arr 107 z4]):=EX.append _ _
 have g0:(h++[aq.arr 107 z4])[h.length]?=some (.arr 107 z4):=br
 generalize h++[aq.arr 107 z4]=ga at x0 g0⊢
 refine C4 h1 h2 ?_
 intro r h3 x3 i3
 refine C4 (by decide) (by decide) ?_
 intro s h4 x4 i4
 exact IE (i3.mono x4) i4 (x0.trans (x3.trans x4)) (le_refl _) ((x3.trans x4).get g0) hk
theorem av7 {a b:Int} (b0:0<b):0<(gcd a.natAbs b.natAbs:Int)∧(gcd a.natAbs b.natAbs:Int)≤b:=by
 have h1:0<gcd a.natAbs b.natAbs:=Nat.gcd_pos_of_pos_right _ (by omega)
 have h2:gcd a.natAbs b.natAbs≤b.natAbs:=Nat.gcd_le_right _ (by omega)
 omega
end
section
theorem C6 {u w:Value} {s:Bool} {b:Nat} {h:ae} {K:Value→ae→Prop} (hw:dm h w b) (lb:b<bG) (hk:∀h',EX h h'→K (B (decide (b=1))) h'):ak prog 90 [.agg #[B s,u,B false,w]] h K:=by
 by_cases h1:b=1
 ·subst h1
  exact C90 hw hk
 rw [aU h1] at hk
 refine f90 ?_
 have e1:bm 107 h (.agg #[B s,u,B false,w])=some (pt h.length 0,h++[.arr 107 [B s,u,B false,w]]):=rfl
 simp only [GN,e1,aB]
 have x1:EX h (h++[aq.arr 107 [B s,u,B false,w]]):=EX.append _ _
 have l3:af false 1 (h++[aq.arr 107 [B s,u,B false,w]]) (pt h.length 3)=some w:=tm rfl
 obtain ⟨xs,dx,cx,vx⟩:=hw.mono x1
 simp only [cw,zero_add,ah,l3,dx.len,jw]
 by_cases hl:xs.length=1
 ·obtain ⟨y,rfl⟩:∃y,xs=[y]:=by
   match xs,hl with
   | [y],_=>exact ⟨y,rfl⟩
  have hy:y=b:=by simpa [val] using vx
  subst hy
  obtain ⟨i,g1,g2⟩:=dx.get (j:=0) (by simp)
  have yW:a9 1 w (.int .i64 (0))=some (pt i 0):=g1
  rw [aZ (show ((([y]:List Nat).length:Nat):Int)=1 from rfl),UT]
  simp only [gQ,cw,zero_add,ah,l3,yW,g2,List.getElem_cons_zero,jw]
  rw [aU (show ¬((y:Int)=1) by omega),UU]
  simp only [ef,ah]
  exact hk _ x1
 ·rw [aU (show ¬((xs.length:Int)=1) by omega),UT]
  simp only [lK]
  rw [UU]
  simp only [dU,ah]
  exact hk _ x1
def ni (a b:Int):List UInt8:=if b=1 then gU a else gU a++47::cC b.natAbs
theorem agq {a:Int} (la:a.natAbs<bG):(gU a).length≤1001:=by
 have:=(tT la).2.2.1
 unfold gU
 split <;> simp <;> omega
theorem anq {va:Value} {a b:Int} {h:ae} {K:Value→ae→Prop} (ha:gY h va a b) (b0:0<b) (la:a.natAbs<bG) (lb:b.natAbs<bG) (hk:∀h',EX h h'→K (.tuple #[S (ni a b),I 0]) h'):ak prog 45 [va] h K:=by
 obtain ⟨u,w,rfl,hu,hw⟩:=ha
 have vX:decide (b<0)=false:=aU (by omega)
 rw [vX]
 refine f45 ?_
 have e1:bm 107 h (.agg #[B (decide (a<0)),u,B false,w])=some (pt h.length 0,h++[.arr 107 [B (decide (a<0)),u,B false,w]]):=rfl
 simp only [NX,e1,aB]
 have x1:EX h (h++[aq.arr 107 [B (decide (a<0)),u,B false,w]]):=EX.append _ _
 have l1:af false 1 (h++[aq.arr 107 [B (decide (a<0)),u,B false,w]]) (pt h.length 1)=some u:=tm rfl
 have l0:af false 1 (h++[aq.arr 107 [B (decide (a<0)),u,B false,w]]) (pt h.length 0)=some (B (decide (a<0))):=tm rfl
 have g0:(h++[aq.arr 107 [B (decide (a<0)),u,B false,w]])[h.length]?=some (.arr 107 [B (decide (a<0)),u,B false,w]):=br
 generalize h++[aq.arr 107 [B (decide (a<0)),u,B false,w]]=h1 at x1 l1 l0 g0⊢
 obtain ⟨d1,d2,d3,d4,d5⟩:=tT la
 obtain ⟨c1,c2,c3,c4,c5⟩:=tT lb
 simp only [cw,zero_add,add_zero,ah,l1]
 refine Gi (hu.mono x1) la ?_
 intro h2 x2
 simp only [lX,ah,fS,aU (show ¬((cC a.natAbs).length:Int)>4000 by omega),dR,EX.load x2 l0]
 have last:Kw prog K (pt h.length 0) (S (gU a)) h2:=by
  rw [aB0,ik (x2.get g0)]
  simp only [ah]
  refine C6 ((hw.mono x1).mono x2) lb ?_
  intro h3 x3
  simp only [bW]
  refine ⟨fun h9=>?_,fun h9=>?_⟩
  ·have e:ni a b=gU a:=by unfold ni;rw [if_pos (by omega)]
   rw [←e]
   exact hk _ ((x1.trans x2).trans x3)
  ·have l3:af false 1 h3 (pt h.length 3)=some w:=by simp [af,aQ,(x2.trans x3).get g0,cf]
   simp only [cw,zero_add,ah,l3]
   refine Gi (((hw.mono x1).mono x2).mono x3) lb ?_
   intro h4 x4
   have nl:=agq la
   have a1:ai .add (S (gU a)) (.string ⟨#[47]⟩)=some (S (gU a++[47])):=yI (a:=gU a) (b:=[47]) (by simp [maxLen];omega)
   have a2:ai .add (S (gU a++[47])) (S (cC b.natAbs))=some (S (gU a++[47]++cC b.natAbs)):=yI (a:=gU a++[47]) (b:=cC b.natAbs) (by simp [maxLen];omega)
   simp only [lX,ah,fS,aU (show ¬((cC b.natAbs).length:Int)>4000 by omega),dR,a1,a2]
   have e:ni a b=gU a++[47]++cC b.natAbs:=by unfold ni;rw [if_neg (by omega)];simp
   rw [←e]
   exact hk _ ((x1.trans x2).trans (x3.trans x4))
 by_cases jo:a<0
 ·rw [aZ jo]
  have:gU a=45::cC a.natAbs:=by unfold gU;rw [if_pos jo]
  have ad:ai .add (.string ⟨#[45]⟩) (S (cC a.natAbs))=some (S (gU a)):=by
   rw [this]
   exact yI (a:=[45]) (b:=cC a.natAbs) (by simp [maxLen];omega)
  simp only [dS,ad,ah]
  exact last
 ·rw [aU jo]
  have:gU a=cC a.natAbs:=by unfold gU;rw [if_neg jo]
  rw [this] at last
  simp only [dR]
  exact last
end
section
theorem Wu {va vb:Value} {a b:Int} {h:ae} {K:Value→ae→Prop} (ha:dT h va a) (hb:dT h vb b) (la:a.natAbs<bG) (lb:b.natAbs<bG) (hk:∀r h',EX h h'→dT h' r (gcd a.natAbs b.natAbs:Nat)→K r h'):ak prog 120 [va,vb] h K:=by
 obtain ⟨v,rfl,hv⟩:=ha
 obtain ⟨w,rfl,hw⟩:=hb
 refine f120 ?_
 unfold Nn
 refine GY ?_
 intro h3 x
 simp only [cw,zero_add,ah,x.a1,x.b1,true_and]
 refine dI (σ:=Value×Value×Nat×Nat×ae) (fun q=>[q.1,q.2.1]) (fun q=>q.2.2.2.2) (fun q=>(dm q.2.2.2.2 q.1 q.2.2.1∧dm q.2.2.2.2 q.2.1 q.2.2.2.1)∧(q.2.2.1<bG∧q.2.2.2.1<bG)∧gcd q.2.2.1 q.2.2.2.1=gcd a.natAbs b.natAbs∧EX h3 q.2.2.2.2) (fun q=>q.2.2.2.1)
  (v,w,a.natAbs,b.natAbs,h3) rfl rfl ⟨⟨hv.mono x.ex,hw.mono x.ex⟩,⟨la,lb⟩,rfl,EX.refl _⟩ ?_
 rintro ⟨vx,vy,m,n,g⟩ ⟨⟨hm,hn⟩,⟨lm,ln⟩,hg,xg⟩ L hL
 simp only at hm hn lm ln hg xg hL⊢
 rw [aA0]
 obtain ⟨l,e1,e2⟩:=hn.qf
 simp only [e1,ah,fS,bW]
 refine ⟨fun hp=>?_,fun hz=>?_⟩
 ·have n0:0<n:=e2.1 (by omega)
  refine WB hm hn lm ln n0 ?_
  intro q r g2 x2 hq hr
  simp only [eC,eO,eY,ah,true_and]
  have mZ:m%n<n:=mod_lt _ n0
  refine hL (vy,r,n,m%n,g2) ⟨⟨hn.mono x2,hr⟩,⟨ln,by show m%n<_;omega⟩,?_,xg.trans x2⟩ mZ
  show gcd n (m%n)=_
  rw [←hg,Nat.gcd_comm m n,Nat.gcd_rec n m,Nat.gcd_comm]
 ·have n0:n=0:=by
   apply byContradiction
   intro bk
   have:=e2.2 (by omega)
   omega
  subst n0
  rw [aAZ]
  rw [Nat.gcd_zero_right] at hg
  refine sE hm ?_
  intro h5 x5
  have g':=(xg.trans x5).get x.out
  rw [Bool.false_and]
  refine xk g' (hk _ _ (((x.ex.trans xg).trans x5).set (by omega) _) ?_)
  rw [←hg]
  exact (dT.nat (hm.mono x5)).bM g' _
theorem Wv {va vb:Value} {a b:Int} {h:ae} {K:Value→ae→Prop} (ha:dT h va a) (hb:dT h vb b) (la:a.natAbs<bG) (b0:0<b) (lb:b.natAbs<bG) (hd:b ∣ a) (hk:∀r s h',EX h h'→dT h' r (a / b)→dT h' s 0→K (.tuple #[r,s]) h'):ak prog 121 [va,vb] h K:=by
 obtain ⟨v,rfl,hv⟩:=ha
 obtain ⟨w,rfl,hw⟩:=hb
 have vX:decide (b<0)=false:=aU (by omega)
 obtain ⟨c,rfl⟩:=hd
 have vK:b*c / b=c:=Int.mul_ediv_cancel_left c (by omega)
 rw [vK] at hk
 have hX:(b*c).natAbs=b.natAbs*c.natAbs:=natAbs_mul b c
 have pc:0<b.natAbs:=by omega
 have hq:(b*c).natAbs / b.natAbs=c.natAbs:=by rw [hX];exact Nat.mul_div_cancel_left _ pc
 have hr:(b*c).natAbs%b.natAbs=0:=by rw [hX];exact Nat.mul_mod_right _ _
 have jo:(decide (b*c<0)&&decide (0<c.natAbs))=decide (c<0):=by
  by_cases hc:c<0
  ·rw [aZ hc,aZ (show 0<c.natAbs by omega),aZ (Int.mul_neg_of_pos_of_neg b0 hc)];rfl
  ·have:0≤b*c:=Int.mul_nonneg (by omega) (by omega)
   rw [aU hc,aU (by omega)];rfl
 refine f121 ?_
 have e1:∀(g:ae) (s:Bool) (v:Value),bm 105 g (.agg #[B s,v])=some (pt g.length 0,g++[.arr 105 [B s,v]]):=fun _ _ _=>rfl
 have e2:∀(g:ae),aV 105 [(.bool false),(.slice none 0 0)] g=some (pt g.length 0,g++[.arr 105 [(.bool false),(.slice none 0 0)]]):=fun _=>rfl
 have ob:∀{g:ae} {i:Nat},g[i]?=some (.arr 105 [(.bool false),(.slice none 0 0)])→eL g (pt i 0)=some (.agg #[.int .i64 105,.bool false,.slice none 0 0]):=by
  intro g i hi
  simp [eL,B8,hi,pP,xW]
 rw [vX]
 simp only [No,e1,e2,aB]
 have q0:EX h (h++[.arr 105 [B (decide (b*c<0)),v]]):=EX.append _ _
 have p0:(h++[aq.arr 105 [B (decide (b*c<0)),v]])[h.length]?=some (.arr 105 [B (decide (b*c<0)),v]):=br
 generalize h++[aq.arr 105 [B (decide (b*c<0)),v]]=ga at q0 p0⊢
 have q1:EX ga (ga++[.arr 105 [B false,w]]):=EX.append _ _
 have p1:(ga++[aq.arr 105 [B false,w]])[ga.length]?=some (.arr 105 [B false,w]):=br
 generalize ga++[aq.arr 105 [B false,w]]=gb at q1 p1⊢
 have q2:EX gb (gb++[.arr 105 [(.bool false),(.slice none 0 0)]]):=EX.append _ _
 have p2:(gb++[aq.arr 105 [(.bool false),(.slice none 0 0)]])[gb.length]?=some (.arr 105 [(.bool false),(.slice none 0 0)]):=br
 generalize gb++[aq.arr 105 [(.bool false),(.slice none 0 0)]]=gc at q2 p2⊢
 have q3:EX gc (gc++[.arr 105 [(.bool false),(.slice none 0 0)]]):=EX.append _ _
 have p3:(gc++[aq.arr 105 [(.bool false),(.slice none 0 0)]])[gc.length]?=some (.arr 105 [(.bool false),(.slice none 0 0)]):=br
 generalize gc++[aq.arr 105 [(.bool false),(.slice none 0 0)]]=gd at q3 p3⊢
 have q13:=q1.trans (q2.trans q3)
 have FI:=q0.trans q13
 have k0:=q13.get p0
 have k1:=(q2.trans q3).get p1
 have k2:=q3.get p2
 have la1:∀{g:ae},EX gd g→af false 1 g (pt h.length 1)=some v:=fun x=>by simp [af,aQ,x.get k0,cf]
 have JK:∀{g:ae},EX gd g→af false 1 g (pt h.length 0)=some (B (decide (b*c<0))):=fun x=>by simp [af,aQ,x.get k0,cf]
 have lb1:∀{g:ae},EX gd g→af false 1 g (pt ga.length 1)=some w:=fun x=>by simp [af,aQ,x.get k1,cf]
 have Sq:∀{g:ae},EX gd g→af false 1 g (pt ga.length 0)=some (B false):=fun x=>by simp [af,aQ,x.get k1,cf]
 simp only [cw,zero_add,add_zero,ah,la1 (EX.refl gd),lb1 (EX.refl gd)]
 refine WB (hv.mono FI) (hw.mono FI) la lb pc ?_
 intro q r g5 x5 mq mr
 rw [hq] at mq
 rw [hr] at mr
 simp only [eC,eO,eY,ah]
 have y1:EX g5 (g5++[.arr 105 [(.bool false),(.slice none 0 0)]]):=EX.append _ _
 have s1:(g5++[aq.arr 105 [(.bool false),(.slice none 0 0)]])[g5.length]?=some (.arr 105 [(.bool false),(.slice none 0 0)]):=br
 have wI:(g5++[aq.arr 105 [(.bool false),(.slice none 0 0)]]).length=g5.length+1:=by simp
 generalize g5++[aq.arr 105 [(.bool false),(.slice none 0 0)]]=g6 at y1 s1 wI⊢
 have y2:EX g6 (g6++[.arr 105 [(.bool false),(.slice none 0 0)]]):=EX.append _ _
 have s2:(g6++[aq.arr 105 [(.bool false),(.slice none 0 0)]])[g6.length]?=some (.arr 105 [(.bool false),(.slice none 0 0)]):=br
 generalize g6++[aq.arr 105 [(.bool false),(.slice none 0 0)]]=g7 at y2 s2⊢
 have Vj:=y2.get s1
 have Gc:=y1.trans y2
 have z5:=x5
 have z6:=x5.trans y1
 have z7:=x5.trans Gc
 simp only [ob s1,ob Vj,ob s2,ah,true_and,JK z5,JK z6,JK z7,Sq z5,Sq z6,Sq z7,DU,if_true]
 have hx:(!(decide (b*c<0)==false))=decide (b*c<0):=by cases decide (b*c<0) <;> rfl
 rw [hx]
 refine sE (mq.mono Gc) ?_
 intro g8 x8
 rw [jo]
 simp only [ob (x8.get Vj),ob (x8.get s2),true_and,JK (z7.trans x8),ah]
 refine sE ((mr.mono Gc).mono x8) ?_
 intro g9 x9
 have iF:=x8.trans x9
 have t1:=iF.get Vj
 have t2:=iF.get s2
 have bk:g5.length≠g6.length:=by omega
 simp only [ob t1,ob t2,true_and,aU (show ¬(0<0) by decide),Bool.and_false]
 rw [eZ t1]
 simp only [aB]
 have Lt:(g9.set g5.length (.arr 105 [B (decide (c<0)),q]))[g6.length]?=some (.arr 105 [(.bool false),(.slice none 0 0)]):=by rw [getElem?_set_ne bk];exact t2
 rw [eZ Lt]
 simp only [aB]
 obtain ⟨l,l1,l2⟩:=mr.qf
 have l0:l=0:=by
  apply byContradiction
  intro hc
  have:=l2.1 (by omega)
  omega
 subst l0
 simp only [l1,ah,fS]
 rw [aU (show ¬((0:Int)<((0:Nat):Int)) by decide)]
 rw [aA2]
 simp only [lK]
 rw [aA3]
 have pk:bX (B false) undef (.bool false)=some (B false):=rfl
 simp only [pk,ah,dR]
 rw [aA1]
 have u1:((g9.set g5.length (.arr 105 [B (decide (c<0)),q])).set g6.length (.arr 105 [B false,r]))[g5.length]?=some (.arr 105 [B (decide (c<0)),q]):=by
  rw [getElem?_set_ne (fun e=>bk e.symm)];exact ck t1
 have u2:((g9.set g5.length (.arr 105 [B (decide (c<0)),q])).set g6.length (.arr 105 [B false,r]))[g6.length]?=some (.arr 105 [B false,r]):=ck Lt
 have hgd:gd.length≤g5.length:=x5.1
 have xN:EX h ((g9.set g5.length (.arr 105 [B (decide (c<0)),q])).set g6.length (.arr 105 [B false,r])):=
  (((FI.trans z7).trans iF).set (by have:=FI.1;omega) _).set (by have:=FI.1;omega) _
 have lgb:gb.length<gd.length:=by
  have:=(bD k2).1;exact this
 have lgc:gc.length<gd.length:=(bD p3).1
 have w2:((g9.set g5.length (.arr 105 [B (decide (c<0)),q])).set g6.length (.arr 105 [B false,r]))[gb.length]?=some (.arr 105 [(.bool false),(.slice none 0 0)]):=by
  rw [getElem?_set_ne (by omega),getElem?_set_ne (by omega)];exact (z7.trans iF).get k2
 have w3:((g9.set g5.length (.arr 105 [B (decide (c<0)),q])).set g6.length (.arr 105 [B false,r]))[gc.length]?=some (.arr 105 [(.bool false),(.slice none 0 0)]):=by
  rw [getElem?_set_ne (by omega),getElem?_set_ne (by omega)];exact (z7.trans iF).get p3
 have mqf:dm ((g9.set g5.length (.arr 105 [B (decide (c<0)),q])).set g6.length (.arr 105 [B false,r])) q c.natAbs:=(((mq.mono Gc).mono iF).bM t1 _).bM Lt _
 have mrf:dm ((g9.set g5.length (.arr 105 [B (decide (c<0)),q])).set g6.length (.arr 105 [B false,r])) r 0:=(((mr.mono Gc).mono iF).bM t1 _).bM Lt _
 generalize (g9.set g5.length (.arr 105 [B (decide (c<0)),q])).set g6.length (.arr 105 [B false,r])=gz at u1 u2 xN w2 w3 mqf mrf⊢
 rw [cI u1,cI u2]
 simp only [ah,true_and]
 rw [eZ w2]
 simp only [aB]
 have hbc:gb.length≠gc.length:=by
  have:=(bD p2).1;omega
 have Lw:(gz.set gb.length (.arr 105 [B (decide (c<0)),q]))[g6.length]?=some (.arr 105 [B false,r]):=by rw [getElem?_set_ne (by omega)];exact u2
 have LG:(gz.set gb.length (.arr 105 [B (decide (c<0)),q]))[gc.length]?=some (.arr 105 [(.bool false),(.slice none 0 0)]):=by rw [getElem?_set_ne hbc];exact w3
 rw [cI Lw,eZ LG]
 simp only [true_and,aB]
 have n2:((gz.set gb.length (.arr 105 [B (decide (c<0)),q])).set gc.length (.arr 105 [B false,r]))[gb.length]?=some (.arr 105 [B (decide (c<0)),q]):=by
  rw [getElem?_set_ne (fun e=>hbc e.symm)];exact ck w2
 rw [cI n2,cI (ck LG)]
 simp only [ah]
 have pY:h.length≤gb.length:=(q0.trans q1).1
 refine hk _ _ _ ((xN.set pY _).set (by have:=(bD p2).1;omega) _) ⟨q,rfl,(mqf.bM w2 _).bM LG _⟩ ⟨r,rfl,(mrf.bM w2 _).bM LG _⟩
theorem Wn {va vb:Value} {a b:Int} {h:ae} {K:Value→ae→Prop} (ha:dT h va a) (hb:dT h vb b) (la:a.natAbs<bG) (b0:0<b) (lb:b.natAbs<bG)
  (hk:∀r h',EX h h'→gY h' r (a / (gcd a.natAbs b.natAbs:Int)) (b / (gcd a.natAbs b.natAbs:Int))→K r h'):ak prog 106 [va,vb] h K:=by
 obtain ⟨v,rfl,hv⟩:=ha
 obtain ⟨w,rfl,hw⟩:=hb
 have vX:decide (b<0)=false:=aU (by omega)
 obtain ⟨g1p,aFX⟩:=av7 (a:=a) b0
 have QR:(gcd a.natAbs b.natAbs:Int) ∣ a:=Int.gcd_dvd_left ..
 have xw:(gcd a.natAbs b.natAbs:Int) ∣ b:=Int.gcd_dvd_right ..
 refine f106 ?_
 have e1:∀(g:ae) (s:Bool) (v:Value),bm 105 g (.agg #[B s,v])=some (pt g.length 0,g++[.arr 105 [B s,v]]):=fun _ _ _=>rfl
 have e2:∀(g:ae),aV 105 [(.bool false),(.slice none 0 0)] g=some (pt g.length 0,g++[.arr 105 [(.bool false),(.slice none 0 0)]]):=fun _=>rfl
 have e3:∀(g:ae),aV 107 [(.bool false),(.slice none 0 0),(.bool false),(.slice none 0 0)] g=some (pt g.length 0,g++[.arr 107 z4]):=fun _=>rfl
 simp only [M9,e1,e3,aB]
 have q0:EX h (h++[.arr 105 [B (decide (a<0)),v]]):=EX.append _ _
 have p0:(h++[aq.arr 105 [B (decide (a<0)),v]])[h.length]?=some (.arr 105 [B (decide (a<0)),v]):=br
 generalize h++[aq.arr 105 [B (decide (a<0)),v]]=ga at q0 p0⊢
 have q1:EX ga (ga++[.arr 105 [B (decide (b<0)),w]]):=EX.append _ _
 have p1:(ga++[aq.arr 105 [B (decide (b<0)),w]])[ga.length]?=some (.arr 105 [B (decide (b<0)),w]):=br
 generalize ga++[aq.arr 105 [B (decide (b<0)),w]]=gb at q1 p1⊢
 have q2:EX gb (gb++[.arr 107 z4]):=EX.append _ _
 have p2:(gb++[aq.arr 107 z4])[gb.length]?=some (.arr 107 z4):=br
 generalize gb++[aq.arr 107 z4]=gc at q2 p2⊢
 have k0:=(q1.trans q2).get p0
 have k1:=q2.get p1
 have x0:=q0.trans (q1.trans q2)
 have pY:h.length≤gb.length:=(q0.trans q1).1
 have Sv:∀{g:ae},EX gc g→af true 2 g (pt h.length 0)=some (.agg #[B (decide (a<0)),v]):=fun x=>cI (x.get k0)
 have St:∀{g:ae},EX gc g→af true 2 g (pt ga.length 0)=some (.agg #[B (decide (b<0)),w]):=fun x=>cI (x.get k1)
 have JD:∀{g:ae},EX gc g→dT g (.agg #[B (decide (a<0)),v]) a:=fun x=>⟨v,rfl,hv.mono (x0.trans x)⟩
 have JE:∀{g:ae},EX gc g→dT g (.agg #[B (decide (b<0)),w]) b:=fun x=>⟨w,rfl,hw.mono (x0.trans x)⟩
 have l1:af false 1 gc (pt ga.length 0)=some (B (decide (b<0))):=by simp [af,aQ,k1,cf]
 simp only [cw,add_zero,ah,l1]
 rw [vX]
 simp only [dR]
 rw [aAy]
 rw [Sv (EX.refl gc),St (EX.refl gc)]
 simp only [ah]
 refine Wu (JD (EX.refl gc)) (JE (EX.refl gc)) la lb ?_
 intro r g3 x3 ir
 simp only [e2,aB]
 have y4:EX g3 (g3++[.arr 105 [(.bool false),(.slice none 0 0)]]):=EX.append _ _
 have s4:(g3++[aq.arr 105 [(.bool false),(.slice none 0 0)]])[g3.length]?=some (.arr 105 [(.bool false),(.slice none 0 0)]):=br
 generalize g3++[aq.arr 105 [(.bool false),(.slice none 0 0)]]=g4 at y4 s4⊢
 obtain ⟨u,rfl,hu⟩:=ir
 have hu4:=(hu.mono y4).bM s4 (.arr 105 [B (decide ((gcd a.natAbs b.natAbs:Int)<0)),u])
 rw [eZ s4]
 simp only [aB]
 have xE:gc.length≤g3.length:=x3.1
 have x5:EX gc (g4.set g3.length (.arr 105 [B (decide ((gcd a.natAbs b.natAbs:Int)<0)),u])):=(x3.trans y4).set xE _
 have s5:(g4.set g3.length (.arr 105 [B (decide ((gcd a.natAbs b.natAbs:Int)<0)),u]))[g3.length]?=some (.arr 105 [B (decide ((gcd a.natAbs b.natAbs:Int)<0)),u]):=ck s4
 generalize g4.set g3.length (.arr 105 [B (decide ((gcd a.natAbs b.natAbs:Int)<0)),u])=g5 at x5 s5 hu4⊢
 have ig:∀{g:ae},EX g5 g→dT g (.agg #[B (decide ((gcd a.natAbs b.natAbs:Int)<0)),u]) (gcd a.natAbs b.natAbs:Int):=fun x=>⟨u,rfl,hu4.mono x⟩
 rw [cI s5]
 simp only [ah,true_and]
 refine C4 (by decide) (by decide) ?_
 intro one g6 x6 i1
 rw [cI (x6.get s5)]
 simp only [true_and]
 have SA:((gcd a.natAbs b.natAbs:Int)).natAbs<bG:=by rw [natAbs_natCast];have:=Nat.gcd_le_right a.natAbs (show 0<b.natAbs by omega);omega
 refine LX (ig x6) i1 SA (by rw [show (1:Int).natAbs=1 from rfl];exact AK (by decide)) ?_
 intro g7 x7
 have eP:=x6.trans x7
 have wQ:=x5.trans eP
 simp only [jw,ah,bW]
 refine ⟨fun h1=>?_,fun h1=>?_⟩
 ·have xD:(gcd a.natAbs b.natAbs:Int)=1:=by
   split at h1
   ·omega
   ·split at h1 <;> omega
  rw [Sv wQ,St wQ]
  simp only [ah]
  rw [xD,Int.ediv_one,Int.ediv_one] at hk
  exact IE (JD wQ) (JE wQ) (x0.trans wQ) pY (wQ.get p2) hk
 ·rw [Sv wQ,cI (eP.get s5)]
  simp only [ah]
  refine Wv (JD wQ) (ig eP) la g1p SA QR ?_
  intro rn sn g8 x8 irn isn
  simp only [eC,eO,eY,ah]
  have y9:EX g8 (g8++[.arr 105 [(.bool false),(.slice none 0 0)]]):=EX.append _ _
  have s9:(g8++[aq.arr 105 [(.bool false),(.slice none 0 0)]])[g8.length]?=some (.arr 105 [(.bool false),(.slice none 0 0)]):=br
  generalize g8++[aq.arr 105 [(.bool false),(.slice none 0 0)]]=g9 at y9 s9⊢
  have We:EX g9 (g9++[.arr 105 [(.bool false),(.slice none 0 0)]]):=EX.append _ _
  have oK:(g9++[aq.arr 105 [(.bool false),(.slice none 0 0)]])[g9.length]?=some (.arr 105 [(.bool false),(.slice none 0 0)]):=br
  generalize g9++[aq.arr 105 [(.bool false),(.slice none 0 0)]]=iz at We oK⊢
  have Vl:=We.get s9
  obtain ⟨qn,rfl,qN⟩:=irn
  obtain ⟨zn,rfl,hzn⟩:=isn
  have h98:g8.length≠g9.length:=by have:=(bD s9).1;omega
  rw [eZ Vl]
  simp only [aB]
  have t10:(iz.set g8.length (.arr 105 [B (decide (a / (gcd a.natAbs b.natAbs:Int)<0)),qn]))[g9.length]?=some (.arr 105 [(.bool false),(.slice none 0 0)]):=by rw [getElem?_set_ne h98];exact oK
  have t9:(iz.set g8.length (.arr 105 [B (decide (a / (gcd a.natAbs b.natAbs:Int)<0)),qn]))[g8.length]?=some (.arr 105 [B (decide (a / (gcd a.natAbs b.natAbs:Int)<0)),qn]):=ck Vl
  have amR:=y9.trans We
  have aey:=(qN.mono amR).bM Vl (.arr 105 [B (decide (a / (gcd a.natAbs b.natAbs:Int)<0)),qn])
  have Wb:=wQ.trans x8
  have fW:=eP.trans x8
  have xs1:EX g8 (iz.set g8.length (.arr 105 [B (decide (a / (gcd a.natAbs b.natAbs:Int)<0)),qn])):=amR.set (le_refl _) _
  generalize iz.set g8.length (.arr 105 [B (decide (a / (gcd a.natAbs b.natAbs:Int)<0)),qn])=qE at t10 t9 aey xs1⊢
  rw [eZ t10]
  simp only [aB]
  have t9':(qE.set g9.length (.arr 105 [B (decide ((0:Int)<0)),zn]))[g8.length]?=some (.arr 105 [B (decide (a / (gcd a.natAbs b.natAbs:Int)<0)),qn]):=by rw [getElem?_set_ne (fun e=>h98 e.symm)];exact t9
  have aez:=aey.bM t10 (.arr 105 [B (decide ((0:Int)<0)),zn])
  have h89:g8.length≤g9.length:=by have:=(bD s9).1;omega
  have CV:EX g8 (qE.set g9.length (.arr 105 [B (decide ((0:Int)<0)),zn])):=xs1.set h89 _
  generalize qE.set g9.length (.arr 105 [B (decide ((0:Int)<0)),zn])=D7 at t9' aez CV⊢
  rw [St (Wb.trans CV),cI ((fW.trans CV).get s5)]
  simp only [ah]
  refine Wv (JE (Wb.trans CV)) (ig (fW.trans CV)) lb g1p SA xw ?_
  intro rd sd ov aC ird isd
  simp only [eC,eO,eY,ah]
  have y14:EX ov (ov++[.arr 105 [(.bool false),(.slice none 0 0)]]):=EX.append _ _
  have K9:(ov++[aq.arr 105 [(.bool false),(.slice none 0 0)]])[ov.length]?=some (.arr 105 [(.bool false),(.slice none 0 0)]):=br
  generalize ov++[aq.arr 105 [(.bool false),(.slice none 0 0)]]=qF at y14 K9⊢
  have Wf:EX qF (qF++[.arr 105 [(.bool false),(.slice none 0 0)]]):=EX.append _ _
  have yb:(qF++[aq.arr 105 [(.bool false),(.slice none 0 0)]])[qF.length]?=some (.arr 105 [(.bool false),(.slice none 0 0)]):=br
  generalize qF++[aq.arr 105 [(.bool false),(.slice none 0 0)]]=xp at Wf yb⊢
  have Vk:=Wf.get K9
  obtain ⟨qd,rfl,EE⟩:=ird
  obtain ⟨zd,rfl,hzd⟩:=isd
  have adu:ov.length≠qF.length:=by have:=(bD K9).1;omega
  rw [eZ Vk]
  simp only [aB]
  have amP:=y14.trans Wf
  have t15:(xp.set ov.length (.arr 105 [B (decide (b / (gcd a.natAbs b.natAbs:Int)<0)),qd]))[qF.length]?=some (.arr 105 [(.bool false),(.slice none 0 0)]):=by rw [getElem?_set_ne adu];exact yb
  have t14:(xp.set ov.length (.arr 105 [B (decide (b / (gcd a.natAbs b.natAbs:Int)<0)),qd]))[ov.length]?=some (.arr 105 [B (decide (b / (gcd a.natAbs b.natAbs:Int)<0)),qd]):=ck Vk
  have aew:=(EE.mono amP).bM Vk (.arr 105 [B (decide (b / (gcd a.natAbs b.natAbs:Int)<0)),qd])
  have xs3:EX ov (xp.set ov.length (.arr 105 [B (decide (b / (gcd a.natAbs b.natAbs:Int)<0)),qd])):=amP.set (le_refl _) _
  generalize xp.set ov.length (.arr 105 [B (decide (b / (gcd a.natAbs b.natAbs:Int)<0)),qd])=Qr at t15 t14 aew xs3⊢
  rw [eZ t15]
  simp only [aB]
  have amy:(Qr.set qF.length (.arr 105 [B (decide ((0:Int)<0)),zd]))[ov.length]?=some (.arr 105 [B (decide (b / (gcd a.natAbs b.natAbs:Int)<0)),qd]):=by rw [getElem?_set_ne (fun e=>adu e.symm)];exact t14
  have aex:=aew.bM t15 (.arr 105 [B (decide ((0:Int)<0)),zd])
  have h13:ov.length≤qF.length:=by have:=(bD K9).1;omega
  have LR:EX ov (Qr.set qF.length (.arr 105 [B (decide ((0:Int)<0)),zd])):=xs3.set h13 _
  generalize Qr.set qF.length (.arr 105 [B (decide ((0:Int)<0)),zd])=g17 at amy aex LR⊢
  rw [cI ((aC.trans LR).get t9'),cI amy]
  simp only [ah]
  have amS:=Wb.trans (CV.trans (aC.trans LR))
  exact IE ⟨qn,rfl,aez.mono (aC.trans LR)⟩ ⟨qd,rfl,aex⟩ (x0.trans amS) pY (amS.get p2) hk
theorem anx {va vb:Value} {a b c d:Int} {h:ae} {K:Value→ae→Prop} (ha:gY h va a b) (hb:gY h vb c d) (la:a.natAbs<bG) (lb:b.natAbs<bG) (lc:c.natAbs<bG) (ld:d.natAbs<bG) (Sm:(a*d).natAbs<bG) (b0:0<b*c) (lbc:(b*c).natAbs<bG)
  (hk:∀r h',EX h h'→gY h' r (a*d / (gcd (a*d).natAbs (b*c).natAbs:Int)) (b*c / (gcd (a*d).natAbs (b*c).natAbs:Int))→K r h'):ak prog 77 [va,vb] h K:=by
 obtain ⟨u,w,rfl,hu,hw⟩:=ha
 obtain ⟨u2,w2,rfl,p5,pn⟩:=hb
 refine f77 ?_
 have e1:∀(g:ae) (s t:Bool) (v w:Value),bm 107 g (.agg #[B s,v,B t,w])=some (pt g.length 0,g++[.arr 107 [B s,v,B t,w]]):=fun _ _ _ _ _=>rfl
 have e3:∀(g:ae),aV 107 [(.bool false),(.slice none 0 0),(.bool false),(.slice none 0 0)] g=some (pt g.length 0,g++[.arr 107 z4]):=fun _=>rfl
 simp only [Oi,e1,e3,aB]
 have q0:EX h (h++[.arr 107 [B (decide (a<0)),u,B (decide (b<0)),w]]):=EX.append _ _
 have p0:(h++[aq.arr 107 [B (decide (a<0)),u,B (decide (b<0)),w]])[h.length]?=some (.arr 107 [B (decide (a<0)),u,B (decide (b<0)),w]):=br
 generalize h++[aq.arr 107 [B (decide (a<0)),u,B (decide (b<0)),w]]=ga at q0 p0⊢
 have q1:EX ga (ga++[.arr 107 [B (decide (c<0)),u2,B (decide (d<0)),w2]]):=EX.append _ _
 have p1:(ga++[aq.arr 107 [B (decide (c<0)),u2,B (decide (d<0)),w2]])[ga.length]?=some (.arr 107 [B (decide (c<0)),u2,B (decide (d<0)),w2]):=br
 generalize ga++[aq.arr 107 [B (decide (c<0)),u2,B (decide (d<0)),w2]]=gb at q1 p1⊢
 have q2:EX gb (gb++[.arr 107 z4]):=EX.append _ _
 have p2:(gb++[aq.arr 107 z4])[gb.length]?=some (.arr 107 z4):=br
 generalize gb++[aq.arr 107 z4]=gc at q2 p2⊢
 have k0:=(q1.trans q2).get p0
 have k1:=q2.get p1
 have x0:=q0.trans (q1.trans q2)
 have pY:h.length≤gb.length:=(q0.trans q1).1
 simp only [cw,zero_add,ah]
 rw [jJ k0,kS k1]
 simp only [ah,true_and]
 refine tL (a:=a) (b:=d) ⟨u,rfl,hu.mono x0⟩ ⟨w2,rfl,pn.mono x0⟩ la ld ?_
 intro r1 g4 x4 i1
 rw [kS (x4.get k0),jJ (x4.get k1)]
 simp only [kS k0,jJ k1,ah,true_and]
 refine tL (a:=b) (b:=c) ⟨w,rfl,(hw.mono x0).mono x4⟩ ⟨u2,rfl,(p5.mono x0).mono x4⟩ lb lc ?_
 intro r2 g5 x5 i2
 refine Wn (i1.mono x5) i2 Sm b0 lbc ?_
 intro r g6 x6 ir
 have dE:=x4.trans (x5.trans x6)
 have g2:=dE.get p2
 obtain ⟨y,z,rfl,hy,hz⟩:=ir
 exact rK g2 (hk _ _ ((x0.trans dE).set pY _) ⟨y,z,rfl,hy.bM g2 _,hz.bM g2 _⟩)
end
section
variable (P : Program) (K : VK)
noncomputable section
variable (a0 : Value) (h : ae)
def ahK:=bC prog 81 [[],[]]
@[irreducible] def c81:=bN ahK
theorem k81:ahK=some (6,c81,[.tmp 2]):=by kernel_rfl
def Ok:Prop:=
 OH (bm 107 h a0) fun a1 z1=>
 OP (aM 0 a1) fun x3=>
 OP (af true 2 z1 x3) fun x4=>
 ak P 109 [x4] z1 fun x5 z2=>
 K x5 z2
theorem e81:aj P c81 (aS [.tmp 2] K) (bw [a0]) h=Ok P K a0 h:=by kernel_rfl
theorem f81 {K:VK} {a0:Value} {h:ae} (H:Ok prog K a0 h):ak prog 81 [a0] h K:=
 bP k81 (bL rfl) ((e81 prog K a0 h).mpr H)
end
noncomputable section
variable (a0 x1 a2 aA aP : Value) (h : ae)
def ahN:=bC prog 84 [[],[1,2,12],[12,19],[]]
@[irreducible] def H5:=bN ahN
@[irreducible] def abO:=H5.r.l.r.l
@[irreducible] def atC:=H5.r.r
@[irreducible] def atD:=abO.r.l
theorem k84:ahN=some (21,H5,[.tmp 4]):=by kernel_rfl
def Yd (_P:Program) (K:VK):ar:=aS [.tmp 4] K
def Ye:ar:=aF (aj P atC (Yd P K)) (Yd P K)
def akm:Prop:=ay (aj P abO (Ye P K)) [1,2,12] [x1,a2,aA] h
def Uo:Prop:=ay (aj P atD (Ye P K)) [12,19] [aA,aP] h
theorem alO:Uo P K aA aP h=
 (OP (bX aA aP (.bool false)) fun aX=>
 K aX h):=az (by kernel_rfl)
theorem aC8:akm P K x1 a2 aA h=
 (cD aA true
 (OP (aM 2 a2) fun aC=>
 OP (aM 1 aC) fun aI=>
 OP (af false 1 h aI) fun bf=>
 ak P 89 [bf] h fun bp z1=>
 OP (gy bp) fun bY=>
 OP (ai .leq bY x1) fun aP=>
 Uo P K aA aP z1)
 (Uo P K aA undef h)):=az (by kernel_rfl)
def On:Prop:=
 OH (bm 107 h a0) fun a2 z1=>
 OP (aM 0 a2) fun x5=>
 OP (aM 1 x5) fun x6=>
 OP (af false 1 z1 x6) fun x7=>
 ak P 89 [x7] z1 fun x8 z2=>
 OP (gy x8) fun x9=>
 OP (ai .leq x9 x1) fun au=>
 akm P K x1 a2 au z2
theorem e84:aj P H5 (aS [.tmp 4] K) (bw [a0,x1]) h=On P K a0 x1 h:=by kernel_rfl
theorem f84 {K:VK} {a0 x1:Value} {h:ae} (H:On prog K a0 x1 h):ak prog 84 [a0,x1] h K:=
 bP k84 (bL rfl) ((e84 prog K a0 x1 h).mpr H)
end
noncomputable section
variable (a0 b1 : Value) (h : ae)
def ahP:=bC prog 86 [[],[]]
@[irreducible] def H7:=bN ahP
theorem k86:ahP=some (16,H7,[.tmp 4]):=by kernel_rfl
def Oq:Prop:=
 OH (bm 107 h a0) fun a2 z1=>
 OH (bm 107 z1 b1) fun b3 z2=>
 OP (aM 0 a2) fun x5=>
 OP (af true 2 z2 x5) fun x6=>
 (True)∧
 OP (aM 2 b3) fun x7=>
 OP (af true 2 z2 x7) fun x8=>
 (True)∧
 ak P 107 [x6,x8] z2 fun x9 z3=>
 (True)∧
 OP (aM 0 b3) fun aE=>
 OP (af true 2 z3 aE) fun au=>
 (af true 2 z2 aE=some au∧True)∧
 OP (aM 2 a2) fun aA=>
 OP (af true 2 z3 aA) fun aC=>
 (af true 2 z2 aA=some aC∧True)∧
 ak P 107 [au,aC] z3 fun aI z4=>
 (True)∧
 ak P 111 [x9,aI] z4 fun bf z5=>
 (True)∧
 K bf z5
theorem e86:aj P H7 (aS [.tmp 4] K) (bw [a0,b1]) h=Oq P K a0 b1 h:=by kernel_rfl
theorem f86 {K:VK} {a0 b1:Value} {h:ae} (H:Oq prog K a0 b1 h):ak prog 86 [a0,b1] h K:=
 bP k86 (bL rfl) ((e86 prog K a0 b1 h).mpr H)
end
noncomputable section
variable (a0 b1 a2 b3 x4 x7 x9 : Value) (h : ae)
def ahQ:=bC prog 87 [[],[2,3,4,7],[2,3,4,7,9],[],[],[],[]]
@[irreducible] def DD:=bN ahQ
@[irreducible] def abQ:=DD.r.l.l.r.l
@[irreducible] def atH:=DD.r.l.r
@[irreducible] def atG:=DD.r.r
@[irreducible] def atI:=abQ.r.l
theorem k87:ahQ=some (34,DD,[.cell true 4 4]):=by kernel_rfl
def Yf (_P:Program) (K:VK):ar:=aS [.cell true 4 4] K
def Yg:ar:=aF (aj P atG (Yf P K)) (Yf P K)
def Yh:ar:=aF (aj P atH (Yg P K)) (Yg P K)
def akp:Prop:=ay (aj P abQ (Yh P K)) [2,3,4,7] [a2,b3,x4,x7] h
def KE:Prop:=ay (aj P atI (Yh P K)) [2,3,4,7,9] [a2,b3,x4,x7,x9] h
theorem aDc:KE P K a2 b3 x4 x7 x9 h=
 (OP (bX x7 x9 (.bool false)) fun aE=>
 aO aE
 (OP (aM 0 a2) fun au=>
 OP (af true 2 h au) fun aA=>
 OP (aM 0 b3) fun aC=>
 OP (af true 2 h aC) fun aI=>
 ak P 113 [aA,aI] h fun bf z1=>
 ak P 112 [bf] z1 fun bp z2=>
 OH (aG 4 z2 x4 bp) fun _ z3=>
 OP (af true 4 z3 x4) fun r0=>
 K r0 z3)
 (OP (aM 0 a2) fun bY=>
 OP (af true 2 h bY) fun aR=>
 (True)∧
 OP (aM 2 b3) fun aP=>
 OP (af true 2 h aP) fun aX=>
 (True)∧
 ak P 107 [aR,aX] h fun ba z1=>
 (True)∧
 OP (aM 0 b3) fun bH=>
 OP (af true 2 z1 bH) fun cm=>
 (af true 2 h bH=some cm∧True)∧
 OP (aM 2 a2) fun bt=>
 OP (af true 2 z1 bt) fun bu=>
 (af true 2 h bt=some bu∧True)∧
 ak P 107 [cm,bu] z1 fun bI z2=>
 (True)∧
 ak P 113 [ba,bI] z2 fun bE z3=>
 (True)∧
 OP (aM 2 a2) fun cG=>
 OP (af true 2 z3 cG) fun cL=>
 (af true 2 h cG=some cL∧af true 2 z1 cG=some cL∧af true 2 z2 cG=some cL∧True)∧
 OP (aM 2 b3) fun dO=>
 OP (af true 2 z3 dO) fun cg=>
 (af true 2 h dO=some cg∧af true 2 z1 dO=some cg∧af true 2 z2 dO=some cg∧True)∧
 ak P 107 [cL,cg] z3 fun cM z4=>
 (True)∧
 ak P 106 [bE,cM] z4 fun dK z5=>
 (True)∧
 OH (aG 4 z5 x4 dK) fun _ z6=>
 (True)∧
 OP (af true 4 z6 x4) fun r0=>
 K r0 z6)):=az (by kernel_rfl)
theorem aDb:akp P K a2 b3 x4 x7 h=
 (cD x7 true
 (OP (af true 4 h b3) fun x8=>
 ak P 90 [x8] h fun x9 z1=>
 KE P K a2 b3 x4 x7 x9 z1)
 (KE P K a2 b3 x4 x7 undef h)):=az (by kernel_rfl)
def Ot:Prop:=
 OH (bm 107 h a0) fun a2 z1=>
 OH (bm 107 z1 b1) fun b3 z2=>
 OH (aV 107 [(.bool false),(.slice none 0 0),(.bool false),(.slice none 0 0)] z2) fun x4 z3=>
 OP (af true 4 z3 a2) fun x5=>
 ak P 90 [x5] z3 fun x6 z4=>
 akp P K a2 b3 x4 x6 z4
theorem e87:aj P DD (aS [.cell true 4 4] K) (bw [a0,b1]) h=Ot P K a0 b1 h:=by kernel_rfl
theorem f87 {K:VK} {a0 b1:Value} {h:ae} (H:Ot prog K a0 b1 h):ak prog 87 [a0,b1] h K:=
 bP k87 (bL rfl) ((e87 prog K a0 b1 h).mpr H)
end
noncomputable section
variable (a0 b1 a2 b3 x4 x7 x9 : Value) (h : ae)
def ahR:=bC prog 88 [[],[2,3,4,7],[2,3,4,7,9],[],[],[],[]]
@[irreducible] def DE:=bN ahR
@[irreducible] def abR:=DE.r.l.l.r.l
@[irreducible] def atK:=DE.r.l.r
@[irreducible] def atJ:=DE.r.r
@[irreducible] def atL:=abR.r.l
theorem k88:ahR=some (28,DE,[.cell true 4 4]):=by kernel_rfl
def Yi (_P:Program) (K:VK):ar:=aS [.cell true 4 4] K
def Yj:ar:=aF (aj P atJ (Yi P K)) (Yi P K)
def Yk:ar:=aF (aj P atK (Yj P K)) (Yj P K)
def akq:Prop:=ay (aj P abR (Yk P K)) [2,3,4,7] [a2,b3,x4,x7] h
def KF:Prop:=ay (aj P atL (Yk P K)) [2,3,4,7,9] [a2,b3,x4,x7,x9] h
theorem aDe:KF P K a2 b3 x4 x7 x9 h=
 (OP (bX x7 x9 (.bool false)) fun aE=>
 aO aE
 (OP (aM 0 a2) fun au=>
 OP (af true 2 h au) fun aA=>
 OP (aM 0 b3) fun aC=>
 OP (af true 2 h aC) fun aI=>
 ak P 107 [aA,aI] h fun bf z1=>
 ak P 112 [bf] z1 fun bp z2=>
 OH (aG 4 z2 x4 bp) fun _ z3=>
 OP (af true 4 z3 x4) fun r0=>
 K r0 z3)
 (OP (aM 0 a2) fun bY=>
 OP (af true 2 h bY) fun aR=>
 (True)∧
 OP (aM 0 b3) fun aP=>
 OP (af true 2 h aP) fun aX=>
 (True)∧
 ak P 107 [aR,aX] h fun ba z1=>
 (True)∧
 OP (aM 2 a2) fun bH=>
 OP (af true 2 z1 bH) fun cm=>
 (af true 2 h bH=some cm∧True)∧
 OP (aM 2 b3) fun bt=>
 OP (af true 2 z1 bt) fun bu=>
 (af true 2 h bt=some bu∧True)∧
 ak P 107 [cm,bu] z1 fun bI z2=>
 (True)∧
 ak P 106 [ba,bI] z2 fun bE z3=>
 (True)∧
 OH (aG 4 z3 x4 bE) fun _ z4=>
 (True)∧
 OP (af true 4 z4 x4) fun r0=>
 K r0 z4)):=az (by kernel_rfl)
theorem aDd:akq P K a2 b3 x4 x7 h=
 (cD x7 true
 (OP (af true 4 h b3) fun x8=>
 ak P 90 [x8] h fun x9 z1=>
 KF P K a2 b3 x4 x7 x9 z1)
 (KF P K a2 b3 x4 x7 undef h)):=az (by kernel_rfl)
def Ou:Prop:=
 OH (bm 107 h a0) fun a2 z1=>
 OH (bm 107 z1 b1) fun b3 z2=>
 OH (aV 107 [(.bool false),(.slice none 0 0),(.bool false),(.slice none 0 0)] z2) fun x4 z3=>
 OP (af true 4 z3 a2) fun x5=>
 ak P 90 [x5] z3 fun x6 z4=>
 akq P K a2 b3 x4 x6 z4
theorem e88:aj P DE (aS [.cell true 4 4] K) (bw [a0,b1]) h=Ou P K a0 b1 h:=by kernel_rfl
theorem f88 {K:VK} {a0 b1:Value} {h:ae} (H:Ou prog K a0 b1 h):ak prog 88 [a0,b1] h K:=
 bP k88 (bL rfl) ((e88 prog K a0 b1 h).mpr H)
end
noncomputable section
variable (a0 b1 : Value) (h : ae)
def ahY:=bC prog 96 [[],[]]
@[irreducible] def c96:=bN ahY
theorem k96:ahY=some (9,c96,[.cell true 4 4]):=by kernel_rfl
def OA:Prop:=
 OH (bm 107 h a0) fun a2 z1=>
 OH (bm 107 z1 b1) fun b3 z2=>
 OH (aV 107 [(.bool false),(.slice none 0 0),(.bool false),(.slice none 0 0)] z2) fun x4 z3=>
 OP (af true 4 z3 a2) fun x5=>
 (True)∧
 OP (af true 4 z3 b3) fun x6=>
 (True)∧
 ak P 116 [x6] z3 fun x7 z4=>
 (af true 4 z4 a2=some x5∧True)∧
 ak P 87 [x5,x7] z4 fun x8 z5=>
 (True)∧
 OH (aG 4 z5 x4 x8) fun _ z6=>
 (True)∧
 OP (af true 4 z6 x4) fun r0=>
 K r0 z6
theorem e96:aj P c96 (aS [.cell true 4 4] K) (bw [a0,b1]) h=OA P K a0 b1 h:=by kernel_rfl
theorem f96 {K:VK} {a0 b1:Value} {h:ae} (H:OA prog K a0 b1 h):ak prog 96 [a0,b1] h K:=
 bP k96 (bL rfl) ((e96 prog K a0 b1 h).mpr H)
end
noncomputable section
variable (a0 : Value) (h : ae)
def agJ:=bC prog 116 [[],[]]
@[irreducible] def ZH:=bN agJ
theorem ayq:agJ=some (9,ZH,[.cell true 4 2]):=by kernel_rfl
def Nk:Prop:=
 OH (bm 107 h a0) fun a1 z1=>
 OH (aV 107 [(.bool false),(.slice none 0 0),(.bool false),(.slice none 0 0)] z1) fun x2 z2=>
 OP (aM 0 a1) fun x3=>
 OP (af true 2 z2 x3) fun x4=>
 (True)∧
 ak P 119 [x4] z2 fun x5 z3=>
 (True)∧
 OP (aM 2 a1) fun x6=>
 OP (af true 2 z3 x6) fun x7=>
 (af true 2 z2 x6=some x7∧True)∧
 OP (dh [(.bool false),(.slice none 0 0),(.bool false),(.slice none 0 0)] [(0,2,x5),(2,2,x7)]) fun x8=>
 OH (aG 4 z3 x2 x8) fun _ z4=>
 (True)∧
 OP (af true 4 z4 x2) fun r0=>
 K r0 z4
theorem auZ:aj P ZH (aS [.cell true 4 2] K) (bw [a0]) h=Nk P K a0 h:=by kernel_rfl
theorem f116 {K:VK} {a0:Value} {h:ae} (H:Nk prog K a0 h):ak prog 116 [a0] h K:=
 bP ayq (bL rfl) ((auZ prog K a0 h).mpr H)
end
end
section
def RV (h:ae) (v:Value) (q:Rat):Prop:=gY h v q.num (q.den:Int)
theorem RV.mono {h h':ae} {v:Value} {q:Rat} (x:EX h h') (p:RV h v q):RV h' v q:=gY.mono x p
def cd (k:Nat) (q:Rat):Prop:=q.num.natAbs<10^k∧q.den<10^k
def afr:Nat:=900
theorem aAe:(10:Nat)^afr≤bG:=by unfold bG;decide+kernel
theorem tB {k:Nat} (h:k≤900):10^k≤bG:=Nat.le_trans (pow_le_pow_right (by decide) (show k≤afr from h)) aAe
theorem Fb {a b i j:Nat} (ha:a<10^i) (hb:b<10^j):a*b<10^(i+j):=by
 rw [pow_add]
 exact Nat.mul_lt_mul'' ha hb
theorem Cj {N:Int} {D:Nat} (hD:0<D):(mkRat N D).num=N / (gcd N.natAbs D:Int)∧(mkRat N D).den=D / gcd N.natAbs D:=by
 rw [←Rat.normalize_eq_mkRat (by omega:D≠0),Rat.normalize_eq]
 exact ⟨rfl,rfl⟩
theorem Wo {va vb:Value} {N:Int} {D:Nat} {h:ae} {K:Value→ae→Prop} (ha:dT h va N) (hb:dT h vb (D:Int)) (la:N.natAbs<bG) (d0:0<D) (lb:D<bG) (hk:∀r h',EX h h'→RV h' r (mkRat N D)→K r h'):ak prog 106 [va,vb] h K:=by
 refine Wn ha hb la (by omega) (by rw [natAbs_natCast];exact lb) ?_
 intro r h' x hr
 refine hk r h' x ?_
 obtain ⟨e1,e2⟩:=Cj (N:=N) d0
 unfold RV
 rw [e1,e2,Int.natCast_ediv]
 rw [natAbs_natCast] at hr
 exact hr
theorem cd.jV {k:Nat} {q:Rat} (h:cd k q) (hk:k≤900):q.num.natAbs<bG∧q.den<bG:=by
 have:=tB hk
 exact ⟨lt_of_lt_of_le h.1 this,lt_of_lt_of_le h.2 this⟩
theorem yN {i j:Nat} {p q:Rat} (hp:cd i p) (hq:cd j q):(p.num*q.den).natAbs<10^(i+j)∧(q.num*p.den).natAbs<10^(i+j)∧p.den*q.den<10^(i+j)∧(p.num*q.num).natAbs<10^(i+j):=by
 refine ⟨?_,?_,Fb hp.2 hq.2,?_⟩
 ·rw [natAbs_mul,natAbs_natCast];exact Fb hp.1 hq.2
 ·rw [natAbs_mul,natAbs_natCast,mul_comm];exact Fb hp.2 hq.1
 ·rw [natAbs_mul];exact Fb hp.1 hq.1
theorem af5 (n:Int):(mkRat n 1).num=n∧(mkRat n 1).den=1:=by
 obtain ⟨e1,e2⟩:=Cj (N:=n) (D:=1) (by decide)
 rw [Nat.gcd_one_right] at e1 e2
 exact ⟨by rw [e1];simp,by rw [e2]⟩
theorem OE (p q:Rat):p+q=mkRat (p.num*q.den+q.num*p.den) (p.den*q.den):=by rw [Rat.add_def,Rat.normalize_eq_mkRat]
theorem SL (p q:Rat):p*q=mkRat (p.num*q.num) (p.den*q.den):=by rw [Rat.mul_def,Rat.normalize_eq_mkRat]
section
variable {va vb : Value} {p q : Rat} {i j : Nat} {h : ae} {K : Value → ae → Prop}
theorem yo (ha:RV h va p) (hb:RV h vb q) (sp:cd i p) (sq:cd j q) (fB:i+j≤800) (hk:∀r h',EX h h'→RV h' r (p+q)→K r h'):ak prog 87 [va,vb] h K:=by
 obtain ⟨u,w,rfl,hu,hw⟩:=ha
 obtain ⟨u2,w2,rfl,p5,pn⟩:=hb
 have pd:=p.den_pos
 have qd:=q.den_pos
 obtain ⟨wB,uw⟩:=sp.jV (by omega)
 obtain ⟨wC,uz⟩:=sq.jV (by omega)
 obtain ⟨c1,c2,c3,_⟩:=yN sp sq
 have cb:=tB (k:=i+j) (by omega)
 have cb1:=tB (k:=i+j+1) (by omega)
 have iY:decide ((p.den:Int)<0)=false:=aU (by omega)
 have jH:decide ((q.den:Int)<0)=false:=aU (by omega)
 rw [natAbs_natCast] at hw pn
 rw [iY,jH]
 refine f87 ?_
 have e1:∀(g:ae) (s t:Bool) (v w:Value),bm 107 g (.agg #[B s,v,B t,w])=some (pt g.length 0,g++[.arr 107 [B s,v,B t,w]]):=fun _ _ _ _ _=>rfl
 have e3:∀(g:ae),aV 107 [(.bool false),(.slice none 0 0),(.bool false),(.slice none 0 0)] g=some (pt g.length 0,g++[.arr 107 z4]):=fun _=>rfl
 simp only [Ot,e1,e3,aB]
 have q0:EX h (h++[.arr 107 [B (decide (p.num<0)),u,B false,w]]):=EX.append _ _
 have p0:(h++[aq.arr 107 [B (decide (p.num<0)),u,B false,w]])[h.length]?=some (.arr 107 [B (decide (p.num<0)),u,B false,w]):=br
 generalize h++[aq.arr 107 [B (decide (p.num<0)),u,B false,w]]=ga at q0 p0⊢
 have q1:EX ga (ga++[.arr 107 [B (decide (q.num<0)),u2,B false,w2]]):=EX.append _ _
 have p1:(ga++[aq.arr 107 [B (decide (q.num<0)),u2,B false,w2]])[ga.length]?=some (.arr 107 [B (decide (q.num<0)),u2,B false,w2]):=br
 generalize ga++[aq.arr 107 [B (decide (q.num<0)),u2,B false,w2]]=gb at q1 p1⊢
 have q2:EX gb (gb++[.arr 107 z4]):=EX.append _ _
 have p2:(gb++[aq.arr 107 z4])[gb.length]?=some (.arr 107 z4):=br
 generalize gb++[aq.arr 107 z4]=gc at q2 p2⊢
 have k0:=(q1.trans q2).get p0
 have k1:=q2.get p1
 have x0:=q0.trans (q1.trans q2)
 have pY:h.length≤gb.length:=(q0.trans q1).1
 have done:∀{N:Int} {D:Nat} {r:Value} {g:ae},EX gc g→RV g r (mkRat N D)→p+q=mkRat N D→OH (aG 4 g (pt gb.length 0) r) fun _ h_3=>OP (af true 4 h_3 (pt gb.length 0)) fun r0=>K r0 h_3:=by
  intro N D r g xg hr he
  rw [←he] at hr
  have g2:=xg.get p2
  obtain ⟨y,z,rfl,hy,hz⟩:=hr
  exact rK g2 (hk _ _ ((x0.trans xg).set pY _) ⟨y,z,rfl,hy.bM g2 _,hz.bM g2 _⟩)
 simp only [ik k0,ah]
 refine C6 (hw.mono x0) uw ?_
 intro g4 x4
 have tk:=x4.get k0
 have kR:=x4.get k1
 have yk:=x0.trans x4
 rw [aDb]
 have whole:∀t u':Value,bX t u' (.bool false)=some (B (decide (p.den=1)&&decide (q.den=1)))→∀{g5:ae},EX g4 g5→KE prog K (pt h.length 0) (pt ga.length 0) (pt gb.length 0) t u' g5:=by
  intro t u' ht g5 x5
  have k0:=x5.get tk
  have k1:=x5.get kR
  have ru:=yk.trans x5
  have cJ:=x4.trans x5
  rw [aDc,ht]
  simp only [ah]
  by_cases mU:p.den=1∧q.den=1
  ·rw [aZ mU.1,aZ mU.2]
   simp only [Bool.and_true,dS,cw,zero_add,ah]
   rw [jJ k0]
   simp only [ah]
   rw [jJ k1]
   simp only [ah]
   refine LY (a:=p.num) (b:=q.num) ⟨u,rfl,hu.mono ru⟩ ⟨u2,rfl,p5.mono ru⟩ wB wC ?_
   intro r1 g6 x6 i1
   refine Wr i1 ?_
   intro r2 g7 x7 i2
   obtain ⟨n1,n2⟩:=af5 (p.num+q.num)
   refine done (N:=p.num+q.num) (D:=1) (cJ.trans (x6.trans x7)) (by unfold RV;rw [n1,n2];exact i2) ?_
   rw [OE,mU.1,mU.2]
   simp
  ·have hf:(decide (p.den=1)&&decide (q.den=1))=false:=by
    rw [Bool.and_eq_false_iff,decide_eq_false_iff_not,decide_eq_false_iff_not]
    by_cases h1:p.den=1
    ·exact .inr fun h2=>mU ⟨h1,h2⟩
    ·exact .inl h1
   rw [hf]
   have oJ:∀{g:ae},EX g5 g→af true 2 g (pt h.length 0)=some (.agg #[B (decide (p.num<0)),u]):=fun x=>jJ (x.get k0)
   have wu:∀{g:ae},EX g5 g→af true 2 g (pt h.length 2)=some (.agg #[B false,w]):=fun x=>kS (x.get k0)
   have JL:∀{g:ae},EX g5 g→af true 2 g (pt ga.length 0)=some (.agg #[B (decide (q.num<0)),u2]):=fun x=>jJ (x.get k1)
   have Aj:∀{g:ae},EX g5 g→af true 2 g (pt ga.length 2)=some (.agg #[B false,w2]):=fun x=>kS (x.get k1)
   have iw:∀{g:ae},EX g5 g→dT g (.agg #[B false,w]) (p.den:Int):=fun x=>dT.nat (hw.mono (ru.trans x))
   have JF:∀{g:ae},EX g5 g→dT g (.agg #[B false,w2]) (q.den:Int):=fun x=>dT.nat (pn.mono (ru.trans x))
   simp only [dR,cw,zero_add,ah,oJ (EX.refl g5),Aj (EX.refl g5),true_and]
   refine tL (a:=p.num) (b:=(q.den:Int)) ⟨u,rfl,hu.mono ru⟩ (JF (EX.refl g5)) wB (by rw [natAbs_natCast];exact uz) ?_
   intro r1 g6 x6 i1
   simp only [JL x6,JL (EX.refl g5),wu x6,wu (EX.refl g5),ah,true_and]
   refine tL (a:=q.num) (b:=(p.den:Int)) ⟨u2,rfl,(p5.mono ru).mono x6⟩ (iw x6) wC (by rw [natAbs_natCast];exact uw) ?_
   intro r2 g7 x7 i2
   have fX:=x6.trans x7
   refine LY (i1.mono x7) i2 (by omega) (by omega) ?_
   intro r3 g8 x8 i3
   have gp:=fX.trans x8
   simp only [wu gp,wu fX,Aj gp,Aj x6,Aj fX,ah,true_and]
   refine tL (iw gp) (JF gp) (by rw [natAbs_natCast];exact uw) (by rw [natAbs_natCast];exact uz) ?_
   intro r4 g9 x9 i4
   rw [←Int.natCast_mul] at i4
   have Js:(p.num*q.den+q.num*p.den).natAbs<bG:=by
    have h1:10^(i+j+1)=10^(i+j)*10:=pow_succ ..
    generalize 10^(i+j)=Z at*
    omega
   refine Wo (i3.mono x9) i4 Js (Nat.mul_pos pd qd) (lt_of_lt_of_le c3 cb) ?_
   intro r iz aE ir
   exact done (cJ.trans (gp.trans (x9.trans aE))) ir (OE p q)
 by_cases h1:p.den=1
 ·rw [aZ h1]
  simp only [gQ,ik kR,ah]
  refine C6 (pn.mono yk) uz ?_
  intro g5 x5
  refine whole _ _ ?_ x5
  rw [h1];simp
 ·rw [aU h1]
  simp only [lK]
  refine whole _ _ ?_ (EX.refl g4)
  rw [aU h1];simp
end
end
section
section
variable {va vb : Value} {p q : Rat} {i j : Nat} {h : ae} {K : Value → ae → Prop}
theorem L7 (ha:RV h va p) (hb:RV h vb q) (sp:cd i p) (sq:cd j q) (fB:i+j≤800) (hk:∀r h',EX h h'→RV h' r (p*q)→K r h'):ak prog 88 [va,vb] h K:=by
 obtain ⟨u,w,rfl,hu,hw⟩:=ha
 obtain ⟨u2,w2,rfl,p5,pn⟩:=hb
 have pd:=p.den_pos
 have qd:=q.den_pos
 obtain ⟨wB,uw⟩:=sp.jV (by omega)
 obtain ⟨wC,uz⟩:=sq.jV (by omega)
 obtain ⟨_,_,c3,c4⟩:=yN sp sq
 have cb:=tB (k:=i+j) (by omega)
 have iY:decide ((p.den:Int)<0)=false:=aU (by omega)
 have jH:decide ((q.den:Int)<0)=false:=aU (by omega)
 rw [natAbs_natCast] at hw pn
 rw [iY,jH]
 refine f88 ?_
 have e1:∀(g:ae) (s t:Bool) (v w:Value),bm 107 g (.agg #[B s,v,B t,w])=some (pt g.length 0,g++[.arr 107 [B s,v,B t,w]]):=fun _ _ _ _ _=>rfl
 have e3:∀(g:ae),aV 107 [(.bool false),(.slice none 0 0),(.bool false),(.slice none 0 0)] g=some (pt g.length 0,g++[.arr 107 z4]):=fun _=>rfl
 simp only [Ou,e1,e3,aB]
 have q0:EX h (h++[.arr 107 [B (decide (p.num<0)),u,B false,w]]):=EX.append _ _
 have p0:(h++[aq.arr 107 [B (decide (p.num<0)),u,B false,w]])[h.length]?=some (.arr 107 [B (decide (p.num<0)),u,B false,w]):=br
 generalize h++[aq.arr 107 [B (decide (p.num<0)),u,B false,w]]=ga at q0 p0⊢
 have q1:EX ga (ga++[.arr 107 [B (decide (q.num<0)),u2,B false,w2]]):=EX.append _ _
 have p1:(ga++[aq.arr 107 [B (decide (q.num<0)),u2,B false,w2]])[ga.length]?=some (.arr 107 [B (decide (q.num<0)),u2,B false,w2]):=br
 generalize ga++[aq.arr 107 [B (decide (q.num<0)),u2,B false,w2]]=gb at q1 p1⊢
 have q2:EX gb (gb++[.arr 107 z4]):=EX.append _ _
 have p2:(gb++[aq.arr 107 z4])[gb.length]?=some (.arr 107 z4):=br
 generalize gb++[aq.arr 107 z4]=gc at q2 p2⊢
 have k0:=(q1.trans q2).get p0
 have k1:=q2.get p1
 have x0:=q0.trans (q1.trans q2)
 have pY:h.length≤gb.length:=(q0.trans q1).1
 have done:∀{N:Int} {D:Nat} {r:Value} {g:ae},EX gc g→RV g r (mkRat N D)→p*q=mkRat N D→OH (aG 4 g (pt gb.length 0) r) fun _ h_3=>OP (af true 4 h_3 (pt gb.length 0)) fun r0=>K r0 h_3:=by
  intro N D r g xg hr he
  rw [←he] at hr
  have g2:=xg.get p2
  obtain ⟨y,z,rfl,hy,hz⟩:=hr
  exact rK g2 (hk _ _ ((x0.trans xg).set pY _) ⟨y,z,rfl,hy.bM g2 _,hz.bM g2 _⟩)
 simp only [ik k0,ah]
 refine C6 (hw.mono x0) uw ?_
 intro g4 x4
 have tk:=x4.get k0
 have kR:=x4.get k1
 have yk:=x0.trans x4
 rw [aDd]
 have whole:∀t u':Value,bX t u' (.bool false)=some (B (decide (p.den=1)&&decide (q.den=1)))→∀{g5:ae},EX g4 g5→KF prog K (pt h.length 0) (pt ga.length 0) (pt gb.length 0) t u' g5:=by
  intro t u' ht g5 x5
  have k0:=x5.get tk
  have k1:=x5.get kR
  have ru:=yk.trans x5
  have cJ:=x4.trans x5
  rw [aDe,ht]
  simp only [ah]
  by_cases mU:p.den=1∧q.den=1
  ·rw [aZ mU.1,aZ mU.2]
   simp only [Bool.and_true,dS,cw,zero_add,ah]
   rw [jJ k0]
   simp only [ah]
   rw [jJ k1]
   simp only [ah]
   refine tL (a:=p.num) (b:=q.num) ⟨u,rfl,hu.mono ru⟩ ⟨u2,rfl,p5.mono ru⟩ wB wC ?_
   intro r1 g6 x6 i1
   refine Wr i1 ?_
   intro r2 g7 x7 i2
   obtain ⟨n1,n2⟩:=af5 (p.num*q.num)
   refine done (N:=p.num*q.num) (D:=1) (cJ.trans (x6.trans x7)) (by unfold RV;rw [n1,n2];exact i2) ?_
   rw [SL,mU.1,mU.2]
  ·have hf:(decide (p.den=1)&&decide (q.den=1))=false:=by
    rw [Bool.and_eq_false_iff,decide_eq_false_iff_not,decide_eq_false_iff_not]
    by_cases h1:p.den=1
    ·exact .inr fun h2=>mU ⟨h1,h2⟩
    ·exact .inl h1
   rw [hf]
   have oJ:∀{g:ae},EX g5 g→af true 2 g (pt h.length 0)=some (.agg #[B (decide (p.num<0)),u]):=fun x=>jJ (x.get k0)
   have wu:∀{g:ae},EX g5 g→af true 2 g (pt h.length 2)=some (.agg #[B false,w]):=fun x=>kS (x.get k0)
   have JL:∀{g:ae},EX g5 g→af true 2 g (pt ga.length 0)=some (.agg #[B (decide (q.num<0)),u2]):=fun x=>jJ (x.get k1)
   have Aj:∀{g:ae},EX g5 g→af true 2 g (pt ga.length 2)=some (.agg #[B false,w2]):=fun x=>kS (x.get k1)
   have iw:∀{g:ae},EX g5 g→dT g (.agg #[B false,w]) (p.den:Int):=fun x=>dT.nat (hw.mono (ru.trans x))
   have JF:∀{g:ae},EX g5 g→dT g (.agg #[B false,w2]) (q.den:Int):=fun x=>dT.nat (pn.mono (ru.trans x))
   simp only [dR,cw,zero_add,ah,oJ (EX.refl g5),JL (EX.refl g5),true_and]
   refine tL (a:=p.num) (b:=q.num) ⟨u,rfl,hu.mono ru⟩ ⟨u2,rfl,p5.mono ru⟩ wB wC ?_
   intro r1 g6 x6 i1
   simp only [wu x6,wu (EX.refl g5),Aj x6,Aj (EX.refl g5),ah,true_and]
   refine tL (iw x6) (JF x6) (by rw [natAbs_natCast];exact uw) (by rw [natAbs_natCast];exact uz) ?_
   intro r2 g7 x7 i2
   rw [←Int.natCast_mul] at i2
   have fX:=x6.trans x7
   refine Wo (i1.mono x7) i2 (lt_of_lt_of_le c4 cb) (Nat.mul_pos pd qd) (lt_of_lt_of_le c3 cb) ?_
   intro r iz aE ir
   exact done (cJ.trans (fX.trans aE)) ir (SL p q)
 by_cases h1:p.den=1
 ·rw [aZ h1]
  simp only [gQ,ik kR,ah]
  refine C6 (pn.mono yk) uz ?_
  intro g5 x5
  refine whole _ _ ?_ x5
  rw [h1];simp
 ·rw [aU h1]
  simp only [lK]
  refine whole _ _ ?_ (EX.refl g4)
  rw [aU h1];simp
def nD (p q:Rat):Int:=if p=q then 0 else if p<q then -1 else 1
theorem auo (p q:Rat):(if p.num*q.den-q.num*p.den=0 then 0 else if p.num*q.den-q.num*p.den<0 then -1 else 1:Int)=nD p q:=by
 unfold nD
 have h1:p=q↔p.num*q.den-q.num*p.den=0:=by
  constructor
  ·rintro rfl;omega
  ·intro h
   refine Rat.le_antisymm ?_ ?_ <;> rw [Rat.le_iff] <;> omega
 have h2:p<q↔p.num*q.den-q.num*p.den<0:=by rw [Rat.lt_iff];omega
 by_cases e1:p=q
 ·rw [if_pos e1,if_pos (h1.1 e1)]
 ·rw [if_neg e1,if_neg (fun h=>e1 (h1.2 h))]
  by_cases e2:p<q
  ·rw [if_pos e2,if_pos (h2.1 e2)]
  ·rw [if_neg e2,if_neg (fun h=>e2 (h2.2 h))]
theorem Gh (ha:RV h va p) (hb:RV h vb q) (sp:cd i p) (sq:cd j q) (fB:i+j≤800) (hk:∀h',EX h h'→K (I (nD p q)) h'):ak prog 86 [va,vb] h K:=by
 obtain ⟨u,w,rfl,hu,hw⟩:=ha
 obtain ⟨u2,w2,rfl,p5,pn⟩:=hb
 obtain ⟨wB,uw⟩:=sp.jV (by omega)
 obtain ⟨wC,uz⟩:=sq.jV (by omega)
 obtain ⟨c1,c2,_,_⟩:=yN sp sq
 have cb:=tB (k:=i+j) (by omega)
 have iY:decide ((p.den:Int)<0)=false:=aU (by omega)
 have jH:decide ((q.den:Int)<0)=false:=aU (by omega)
 rw [natAbs_natCast] at hw pn
 rw [iY,jH]
 refine f86 ?_
 have e1:∀(g:ae) (s t:Bool) (v w:Value),bm 107 g (.agg #[B s,v,B t,w])=some (pt g.length 0,g++[.arr 107 [B s,v,B t,w]]):=fun _ _ _ _ _=>rfl
 simp only [Oq,e1,aB]
 have q0:EX h (h++[.arr 107 [B (decide (p.num<0)),u,B false,w]]):=EX.append _ _
 have p0:(h++[aq.arr 107 [B (decide (p.num<0)),u,B false,w]])[h.length]?=some (.arr 107 [B (decide (p.num<0)),u,B false,w]):=br
 generalize h++[aq.arr 107 [B (decide (p.num<0)),u,B false,w]]=ga at q0 p0⊢
 have q1:EX ga (ga++[.arr 107 [B (decide (q.num<0)),u2,B false,w2]]):=EX.append _ _
 have p1:(ga++[aq.arr 107 [B (decide (q.num<0)),u2,B false,w2]])[ga.length]?=some (.arr 107 [B (decide (q.num<0)),u2,B false,w2]):=br
 generalize ga++[aq.arr 107 [B (decide (q.num<0)),u2,B false,w2]]=gb at q1 p1⊢
 have k0:=q1.get p0
 have x0:=q0.trans q1
 simp only [cw,zero_add,ah,jJ k0,kS p1,true_and]
 refine tL (a:=p.num) (b:=(q.den:Int)) ⟨u,rfl,hu.mono x0⟩ (dT.nat (pn.mono x0)) wB (by rw [natAbs_natCast];exact uz) ?_
 intro r1 g6 x6 i1
 simp only [jJ (x6.get p1),jJ p1,kS (x6.get k0),kS k0,ah,true_and]
 refine tL (a:=q.num) (b:=(p.den:Int)) ⟨u2,rfl,(p5.mono x0).mono x6⟩ (dT.nat ((hw.mono x0).mono x6)) wC (by rw [natAbs_natCast];exact uw) ?_
 intro r2 g7 x7 i2
 refine LX (i1.mono x7) i2 (lt_of_lt_of_le c1 cb) (lt_of_lt_of_le c2 cb) ?_
 intro g8 x8
 rw [auo]
 exact hk g8 (x0.trans (x6.trans (x7.trans x8)))
theorem acD {p q:Rat} (hq:0<q.num):p / q=mkRat (p.num*q.den) (p.den*q.num.toNat):=by
 have h1:=Rat.mkRat_self p
 have h2:=Rat.mkRat_self q
 rw [Rat.mkRat_eq_div] at h1 h2
 rw [Rat.mkRat_eq_div,Rat.intCast_mul,Rat.natCast_mul]
 have h3:((q.num.toNat:Nat):Rat)=(q.num:Rat):=by
  rw [←Rat.intCast_natCast,Int.toNat_of_nonneg (by omega)]
 have h4:((q.den:Nat):Int)=(q.den:Int):=rfl
 rw [h3,Rat.intCast_natCast]
 have d1:((p.den:Nat):Rat)≠0:=by
  have:=p.den_nz
  intro h
  exact this (by exact_mod_cast h)
 have d2:((q.den:Nat):Rat)≠0:=by
  have:=q.den_nz
  intro h
  exact this (by exact_mod_cast h)
 have d3:(q.num:Rat)≠0:=by
  intro h
  have:q.num=0:=by exact_mod_cast h
  omega
 generalize (p.num:Rat)=a at*
 generalize (q.num:Rat)=b at*
 generalize ((p.den:Nat):Rat)=c at*
 generalize ((q.den:Nat):Rat)=d at*
 rw [←h1,←h2]
 grind
theorem WV (ha:RV h va p) (hb:RV h vb q) (hq:0<q.num) (sp:cd i p) (sq:cd j q) (fB:i+j≤800) (hk:∀r h',EX h h'→RV h' r (p / q)→K r h'):ak prog 77 [va,vb] h K:=by
 obtain ⟨wB,uw⟩:=sp.jV (by omega)
 obtain ⟨wC,uz⟩:=sq.jV (by omega)
 obtain ⟨c1,c2,_,_⟩:=yN sp sq
 have cb:=tB (k:=i+j) (by omega)
 have pd:=p.den_pos
 have iJ:(0:Int)<(p.den:Int)*q.num:=Int.mul_pos (by omega) hq
 obtain ⟨m,hm⟩:∃m:Nat,q.num=(m:Int):=⟨q.num.toNat,by omega⟩
 have hN:((p.den:Int)*q.num).natAbs=p.den*q.num.toNat:=by rw [natAbs_mul,natAbs_natCast];congr 1;omega
 refine anx ha hb wB (by rw [natAbs_natCast];exact uw) wC (by rw [natAbs_natCast];exact uz) (lt_of_lt_of_le c1 cb) iJ (by rw [Int.mul_comm];exact lt_of_lt_of_le c2 cb) ?_
 intro r h' x hr
 refine hk r h' x ?_
 have hD:0<p.den*q.num.toNat:=Nat.mul_pos pd (by omega)
 obtain ⟨e1,e2⟩:=Cj (N:=p.num*q.den) hD
 unfold RV
 rw [acD hq,e1,e2,Int.natCast_ediv,Int.natCast_mul,Int.toNat_of_nonneg (by omega)]
 rw [hN] at hr
 exact hr
theorem tM {n:Int} (h1: -9223372036854775808≤n) (h2:n<9223372036854775808) (hk:∀r h',EX h h'→RV h' r (n:Rat)→K r h'):ak prog 75 [I n] h K:=by
 refine C75 h1 h2 ?_
 intro r h' x hr
 exact hk r h' x hr
end
end
section
section
variable {va vb : Value} {p q : Rat} {i j : Nat} {h : ae} {K : Value → ae → Prop}
theorem cd.neg {k:Nat} {q:Rat} (h:cd k q):cd k (-q):=by
 unfold cd at*
 rw [Rat.neg_num,Rat.neg_den,Int.natAbs_neg]
 exact h
theorem am5 (ha:RV h va p) (hk:∀r h',EX h h'→RV h' r (-p)→K r h'):ak prog 116 [va] h K:=by
 obtain ⟨u,w,rfl,hu,hw⟩:=ha
 have iY:decide ((p.den:Int)<0)=false:=aU (by omega)
 rw [natAbs_natCast] at hw
 rw [iY]
 refine f116 ?_
 have e1:∀(g:ae) (s t:Bool) (v w:Value),bm 107 g (.agg #[B s,v,B t,w])=some (pt g.length 0,g++[.arr 107 [B s,v,B t,w]]):=fun _ _ _ _ _=>rfl
 have e3:∀(g:ae),aV 107 [(.bool false),(.slice none 0 0),(.bool false),(.slice none 0 0)] g=some (pt g.length 0,g++[.arr 107 z4]):=fun _=>rfl
 simp only [Nk,e1,e3,aB]
 have q0:EX h (h++[.arr 107 [B (decide (p.num<0)),u,B false,w]]):=EX.append _ _
 have p0:(h++[aq.arr 107 [B (decide (p.num<0)),u,B false,w]])[h.length]?=some (.arr 107 [B (decide (p.num<0)),u,B false,w]):=br
 generalize h++[aq.arr 107 [B (decide (p.num<0)),u,B false,w]]=ga at q0 p0⊢
 have q2:EX ga (ga++[.arr 107 z4]):=EX.append _ _
 have p2:(ga++[aq.arr 107 z4])[ga.length]?=some (.arr 107 z4):=br
 generalize ga++[aq.arr 107 z4]=gc at q2 p2⊢
 have k0:=q2.get p0
 have x0:=q0.trans q2
 simp only [cw,zero_add,ah,jJ k0,true_and]
 refine Wt (a:=p.num) ⟨u,rfl,hu.mono x0⟩ ?_
 intro r1 g6 x6 i1
 simp only [kS (x6.get k0),kS k0,ah,true_and]
 have iw:dT g6 (.agg #[B false,w]) (p.den:Int):=dT.nat ((hw.mono x0).mono x6)
 refine IE i1 iw (x0.trans x6) (by have:=q0.1;omega) (x6.get p2) ?_
 intro r h' x hr
 refine hk r h' x ?_
 unfold RV
 rw [Rat.neg_num,Rat.neg_den]
 exact hr
theorem C96 (ha:RV h va p) (hb:RV h vb q) (sp:cd i p) (sq:cd j q) (fB:i+j≤800) (hk:∀r h',EX h h'→RV h' r (p-q)→K r h'):ak prog 96 [va,vb] h K:=by
 have oA:=ha
 have pc:=hb
 obtain ⟨u,w,rfl,hu,hw⟩:=ha
 obtain ⟨u2,w2,rfl,p5,pn⟩:=hb
 refine f96 ?_
 have e1:∀(g:ae) (s t:Bool) (v w:Value),bm 107 g (.agg #[B s,v,B t,w])=some (pt g.length 0,g++[.arr 107 [B s,v,B t,w]]):=fun _ _ _ _ _=>rfl
 have e3:∀(g:ae),aV 107 [(.bool false),(.slice none 0 0),(.bool false),(.slice none 0 0)] g=some (pt g.length 0,g++[.arr 107 z4]):=fun _=>rfl
 simp only [OA,e1,e3,aB]
 generalize decide ((p.den:Int)<0)=t1 at*
 generalize decide ((q.den:Int)<0)=t2 at*
 have q0:EX h (h++[.arr 107 [B (decide (p.num<0)),u,B t1,w]]):=EX.append _ _
 have p0:(h++[aq.arr 107 [B (decide (p.num<0)),u,B t1,w]])[h.length]?=some (.arr 107 [B (decide (p.num<0)),u,B t1,w]):=br
 generalize h++[aq.arr 107 [B (decide (p.num<0)),u,B t1,w]]=ga at q0 p0⊢
 have q1:EX ga (ga++[.arr 107 [B (decide (q.num<0)),u2,B t2,w2]]):=EX.append _ _
 have p1:(ga++[aq.arr 107 [B (decide (q.num<0)),u2,B t2,w2]])[ga.length]?=some (.arr 107 [B (decide (q.num<0)),u2,B t2,w2]):=br
 generalize ga++[aq.arr 107 [B (decide (q.num<0)),u2,B t2,w2]]=gb at q1 p1⊢
 have q2:EX gb (gb++[.arr 107 z4]):=EX.append _ _
 have p2:(gb++[aq.arr 107 z4])[gb.length]?=some (.arr 107 z4):=br
 generalize gb++[aq.arr 107 z4]=gc at q2 p2⊢
 have k0:=(q1.trans q2).get p0
 have k1:=q2.get p1
 have x0:=q0.trans (q1.trans q2)
 have pY:h.length≤gb.length:=(q0.trans q1).1
 simp only [ik k0,ik k1,ah,true_and]
 refine am5 (pc.mono x0) ?_
 intro r1 g6 x6 i1
 simp only [ik (x6.get k0),true_and]
 refine yo ((oA.mono x0).mono x6) i1 sp sq.neg fB ?_
 intro r g7 x7 ir
 rw [←Rat.sub_eq_add_neg] at ir
 have fX:=x6.trans x7
 have g2:=fX.get p2
 obtain ⟨y,z,rfl,hy,hz⟩:=ir
 exact rK g2 (hk _ _ ((x0.trans fX).set pY _) ⟨y,z,rfl,hy.bM g2 _,hz.bM g2 _⟩)
theorem WW (ha:RV h va p) (hk:∀h',EX h h'→K (I (lV p.num)) h'):ak prog 81 [va] h K:=by
 obtain ⟨u,w,rfl,hu,hw⟩:=ha
 refine f81 ?_
 have e1:∀(g:ae) (s t:Bool) (v w:Value),bm 107 g (.agg #[B s,v,B t,w])=some (pt g.length 0,g++[.arr 107 [B s,v,B t,w]]):=fun _ _ _ _ _=>rfl
 simp only [Ok,e1,aB]
 generalize decide ((p.den:Int)<0)=t1 at*
 have q0:EX h (h++[.arr 107 [B (decide (p.num<0)),u,B t1,w]]):=EX.append _ _
 have p0:(h++[aq.arr 107 [B (decide (p.num<0)),u,B t1,w]])[h.length]?=some (.arr 107 [B (decide (p.num<0)),u,B t1,w]):=br
 generalize h++[aq.arr 107 [B (decide (p.num<0)),u,B t1,w]]=ga at q0 p0⊢
 simp only [cw,zero_add,ah,jJ p0]
 refine Wq (a:=p.num) ⟨u,rfl,hu.mono q0⟩ ?_
 intro h' x'
 exact hk h' (q0.trans x')
end
end
section
theorem anz {s:List UInt8} {h:ae} {K:Value→ae→Prop} (h0:0<s.length) (h1:s.length≤4000) (h2:s.head?=some 48→s.length=1)
  (hk:kl s→∀r h',EX h h'→ZV h' r (dJ s)→K (.tuple #[r,B true]) h')
  (fV:¬kl s→∀h',EX h h'→K (.tuple #[.agg #[B false,.slice none 0 0],B false]) h'):ak prog 99 [S s] h K:=by
 refine f99 ?_
 have e2:∀g:ae,aV 35 [(.bool false),(.slice none 0 0)] g=some (pt g.length 0,g++[.arr 35 [(.bool false),(.slice none 0 0)]]):=fun _=>rfl
 have e3:dh [(.bool false),(.slice none 0 0)] []=some (.agg #[B false,.slice none 0 0]):=rfl
 have vH:(s[0].toNat:Int)=48→s.length≤1:=by
  intro h3
  refine Nat.le_of_eq (h2 ?_)
  rw [List.head?_eq_getElem?,getElem?_eq_getElem h0]
  congr 1
  apply UInt8.toNat_inj.1
  show s[0].toNat=48
  omega
 have i0:=wg (a:=s) (i:=0) h0 .i64
 simp only [Int.natCast_zero] at i0
 simp only [GO,e2,aB,lX,ah,cS]
 rw [aU (show ¬(s.length:Int)<1 by omega)]
 simp only [UZ,eQ,lX,ah,fS]
 rw [aU (show ¬(s.length:Int)>4000 by omega)]
 simp only [KU,dU,ah,KV,eQ,i0]
 have after:∀t:Value,t=B false→FC prog K (S s) (pt h.length 0) (B false) t (h++[.arr 35 [(.bool false),(.slice none 0 0)]]):=by
  rintro _ rfl
  rw [UW]
  simp only [dU,ah,dR,e3,e2,aB,length_append,length_cons,length_nil,zero_add]
  have g1:(h++[aq.arr 35 [(.bool false),(.slice none 0 0)]]++[aq.arr 35 [(.bool false),(.slice none 0 0)]])[h.length+1]?=some (.arr 35 [(.bool false),(.slice none 0 0)]):=by simp
  have g0:(h++[aq.arr 35 [(.bool false),(.slice none 0 0)]]++[aq.arr 35 [(.bool false),(.slice none 0 0)]])[h.length]?=some (.arr 35 [(.bool false),(.slice none 0 0)]):=by simp
  have x1:EX h (h++[aq.arr 35 [(.bool false),(.slice none 0 0)]]++[aq.arr 35 [(.bool false),(.slice none 0 0)]]):=(EX.append _ _).push _
  have zC:(h++[aq.arr 35 [(.bool false),(.slice none 0 0)]]++[aq.arr 35 [(.bool false),(.slice none 0 0)]]).length=h.length+2:=by simp
  generalize h++[aq.arr 35 [(.bool false),(.slice none 0 0)]]++[aq.arr 35 [(.bool false),(.slice none 0 0)]]=hA at*
  rw [eZ g1]
  simp only [aB,lX,ah]
  have fail:∀g:ae,EX h g→g[h.length]?=some (.arr 35 [.bool false,.slice none 0 0])→¬kl s→(OP (dh [(.bool false),(.slice none 0 0)] []) fun cT=>OH (aG 2 g (pt h.length 0) cT) fun _ h_1=>OP (af true 2 h_1 (pt h.length 0)) fun r0=>K (.tuple #[r0,(.bool false)]) h_1):=by
   intro g x k hn
   simp only [e3,ah]
   rw [eZ k]
   simp only [aB]
   rw [cI (ck k),ah]
   exact fV hn _ (x.set (le_refl _) _)
  refine dI (σ:=Int×List Nat×Value×ae) (fun p=>[I p.1]) (fun p=>p.2.2.2)
   (fun p=>h.length+2≤p.2.2.2.length∧EX h p.2.2.2∧p.2.2.2[h.length]?=some (.arr 35 [.bool false,.slice none 0 0])∧p.2.2.2[h.length+1]?=some (.arr 35 [B false,p.2.2.1])∧oU (h.length+2) p.2.2.2 p.2.2.1 p.2.1∧cn 10000 p.2.1∧p.1=(s.length:Int)-4*(p.2.1.length:Int)∧ -4<p.1∧val 10000 p.2.1+10000^p.2.1.length*dJ (s.take p.1.toNat)=dJ s∧kl (s.drop p.1.toNat)) (fun p=>(p.1+4).toNat)
   ((s.length:Int),[],.slice none 0 0,hA.set (h.length+1) (.arr 35 [B false,.slice none 0 0])) rfl rfl
   ⟨by simp [zC],x1.set (by omega) _,by rw [getElem?_set_ne (by omega)];exact g0,ck g1,.inl ⟨rfl,rfl⟩,fun _ hx=>by simp at hx,by simp,by simp;omega,by simp [val],by simp [kl]⟩ ?_
  rintro ⟨yE,os,v,hx⟩ ⟨hlen,hex,k0,k1,iX,fe,hat,awo,bU,BG⟩ L hL
  simp only at hlen hex k0 k1 iX fe hat awo bU BG hL⊢
  rw [aDn]
  have e4:IntKind.wrap .i64 (yE-4)=yE-4:=wrap64 (by omega) (by omega)
  simp only [fS,ah,bW]
  refine ⟨fun sV=>?_,fun hle=>?_⟩
  ·simp only [gf,ah,e4,azd]
   obtain ⟨lo,eD⟩:∃lo:Nat,max 0 (yE-4)=(lo:Int):=⟨(max 0 (yE-4)).toNat,by omega⟩
   obtain ⟨a,ha⟩:∃a:Nat,yE=(a:Int):=⟨yE.toNat,by omega⟩
   subst ha
   rw [eD]
   have oB:a≤s.length:=by omega
   have aec:lo≤a:=by omega
   have aGf:lo=a-4:=by omega
   refine dI (σ:=Nat×Nat) (fun p=>[I p.1,I p.2]) (fun _=>hx) (fun p=>lo≤p.2∧p.2≤a∧p.1=dJ ((s.take p.2).drop lo)∧kl ((s.take p.2).drop lo)) (fun p=>a-p.2)
    (0,lo) rfl rfl ⟨le_refl _,aec,by rw [List.drop_of_length_le (by rw [length_take];omega)];rfl,by
     show kl ((s.take lo).drop lo)
     rw [List.drop_of_length_le (by rw [length_take];omega)];intro c hc;simp at hc⟩ ?_
   rintro ⟨d,i⟩ ⟨Ja,oC,I5,nG⟩ L2 iA
   simp only at Ja oC I5 nG iA⊢
   have aD:=AJ nG
   have aeb:((s.take i).drop lo).length=i-lo:=by rw [List.length_drop,length_take];omega
   rw [aeb] at aD
   have hp:(10:Nat)^(i-lo)≤10^4:=pow_le_pow_right (by decide) (by omega)
   have xw:d<10000:=by rw [I5];omega
   rw [aDo]
   simp only [cS,ah,bW]
   refine ⟨fun BO=>?_,fun BO=>?_⟩
   ·have pV:i<s.length:=by omega
    have ix:=wg (a:=s) (i:=i) pV .i64
    have E5:ai .lss (cv s[i]) (.int .u8 48)=some (B (decide ((s[i].toNat:Int)<48))):=rfl
    have IV:ai .gtr (cv s[i]) (.int .u8 57)=some (B (decide ((s[i].toNat:Int)>57))):=rfl
    by_cases hcd:48≤s[i].toNat∧s[i].toNat≤57
    rotate_left
    ·have pQ:¬kl s:=fun hd=>hcd (hd _ (getElem_mem pV))
     simp only [ix,ah,E5]
     by_cases mT:s[i].toNat<48
     ·simp only [aZ (show (s[i].toNat:Int)<48 by omega),UX,gr,UY,ef,ah,dS]
      exact fail _ hex k0 pQ
     ·simp only [aU (show ¬(s[i].toNat:Int)<48 by omega),UX,eQ,ix,ah,IV,aZ (show (s[i].toNat:Int)>57 by omega),UY,dU,dS]
      exact fail _ hex k0 pQ
    have Vq:ai .sub (cv s[i]) (.int .u8 48)=some (.int .u8 (IntKind.wrap .u8 ((s[i].toNat:Int)-48))):=rfl
    have w8:IntKind.wrap .u8 ((s[i].toNat:Int)-48)=((s[i].toNat-48:Nat):Int):=by
     have e:IntKind.wrap .u8 ((s[i].toNat:Int)-48)=((s[i].toNat:Int)-48)%256:=by simp [IntKind.wrap,IntKind.bits,IntKind.signed]
     rw [e];omega
    have w64:IntKind.wrap .i64 ((s[i].toNat-48:Nat):Int)=((s[i].toNat-48:Nat):Int):=wrap64 (by omega) (by omega)
    have w10:IntKind.wrap .i64 ((10:Int)*(d:Int))=((10*d:Nat):Int):=by rw [wrap64 (by omega) (by omega)];omega
    have wad:IntKind.wrap .i64 (((10*d:Nat):Int)+((s[i].toNat-48:Nat):Int))=((10*d+(s[i].toNat-48):Nat):Int):=by rw [wrap64 (by omega) (by omega)];omega
    simp only [ix,ah,E5,aU (show ¬(s[i].toNat:Int)<48 by omega),UX,eQ,IV,aU (show ¬(s[i].toNat:Int)>57 by omega),UY,dU,dR,vg,w10,Vq,w8,jx,w64,cP,wad,ft i (by omega),true_and]
    refine iA (10*d+(s[i].toNat-48),i+1) ⟨by show lo≤i+1;omega,by show i+1≤a;omega,?_,?_⟩ (by show a-(i+1)<a-i;omega)
    rotate_left
    ·show kl ((s.take (i+1)).drop lo)
     rw [List.take_succ_eq_append_getElem pV,List.drop_append_of_le_length (by rw [length_take];omega)]
     intro c hc
     rcases List.mem_append.1 hc with hc | hc
     ·exact nG c hc
     ·rw [List.mem_singleton.1 hc];exact hcd
    show 10*d+(s[i].toNat-48)=dJ ((s.take (i+1)).drop lo)
    rw [List.take_succ_eq_append_getElem pV,List.drop_append_of_le_length (by rw [length_take];omega),AI,LA,←I5]
    simp
    omega
   ·have awG:i=a:=by omega
    subst awG
    rw [aDp]
    have ld:af false 1 hx (pt (h.length+1) 1)=some v:=by simp [af,aQ,k1,cf]
    simp only [cw,zero_add,ah,ld]
    refine YN hlen iX (by omega) ?_
    intro v' bS hs lR uj
    have kR:bS[h.length+1]?=some (.arr 35 [B false,v]):=by rw [hs _ (by omega)];exact k1
    rw [oL kR (by simp) uj.ds.one.1 uj.ds.one.2]
    have e5:IntKind.wrap .i64 ((i:Int)-4)=(i:Int)-4:=wrap64 (by omega) (by omega)
    simp only [aB,List.set_cons_succ,List.set_cons_zero,aDq,gf,ah,e5,true_and]
    have el:(os++[d]).length=os.length+1:=by simp
    refine hL ((i:Int)-4,os++[d],v',bS.set (h.length+1) (.arr 35 [B false,v'])) ⟨?_,?_,?_,ck kR,uj.set (by omega) _,fe.append (fun y hy=>by simp at hy;omega),by rw [el];show (i:Int)-4=_;omega,by show -4<(i:Int)-4;omega,?_,?_⟩ (by show ((i:Int)-4+4).toNat<((i:Int)+4).toNat;omega)
    ·rw [length_set];exact lR
    ·refine EX.set ⟨by have:=hex.1;omega,fun j hj=>?_⟩ (by omega) _
     rw [hs j (by omega)];exact hex.2 j hj
    ·rw [getElem?_set_ne (by omega),hs _ (by omega)];exact k0
    rotate_left
    ·show kl (s.drop ((i:Int)-4).toNat)
     have DV:((i:Int)-4).toNat=lo:=by omega
     have et:(i:Int).toNat=i:=by omega
     rw [et] at BG
     rw [DV]
     have zQ:s.drop lo=(s.take i).drop lo++s.drop i:=by
      conv=>lhs;rw [←List.take_append_drop i s]
      rw [List.drop_append_of_le_length (by rw [length_take];omega)]
     rw [zQ]
     intro c hc
     rcases List.mem_append.1 hc with hc | hc
     ·exact nG c hc
     ·exact BG c hc
    ·show val 10000 (os++[d])+10000^(os++[d]).length*dJ (s.take ((i:Int)-4).toNat)=dJ s
     rw [el,nS,←bU,pow_succ]
     have et:(i:Int).toNat=i:=by omega
     have DV:((i:Int)-4).toNat=lo:=by omega
     rw [et,DV]
     have zQ:s.take i=s.take lo++(s.take i).drop lo:=by
      conv=>lhs;rw [←List.take_append_drop lo (s.take i)]
      rw [List.take_take,min_eq_left aec]
     rw [zQ,AI,aeb,←I5]
     simp only [val,mul_zero,add_zero]
     have awU:dJ (s.take lo)*10^(i-lo)=10000*dJ (s.take lo):=by
      by_cases h4:4≤i
      ·have:i-lo=4:=by omega
       rw [this,mul_comm]
      ·have:lo=0:=by omega
       subst this
       simp [dJ]
     rw [awU]
     generalize 10000^os.length=P
     generalize dJ (s.take lo)=w
     generalize val 10000 os=q
     clear hL iA iX uj
     grind
  ·rw [aDr,cI k1]
   simp only [ah]
   have oz:yE.toNat=0:=by omega
   rw [oz] at bU BG
   rw [List.drop_zero] at BG
   have hk:=hk BG
   have axx:val 10000 os=dJ s:=by simpa [dJ] using bU
   refine ym iX.ds fe (by omega) ?_
   intro r h5 x5 zr
   simp only [false_eq_true,if_false,axx] at zr
   obtain ⟨q,rfl,hq⟩:=id zr
   have g':=x5.get k0
   refine yS (K:=fun v h=>K (.tuple #[v,B true]) h) g' (hk _ _ ((hex.trans x5).set (le_refl _) _) (zr.bM g' _))
 by_cases mT:(s[0].toNat:Int)=48
 ·have zC:=vH mT
  have e5:ai .eql (cv s[0]) (.int .u8 48)=some (B true):=by
   show some (B (decide ((s[0].toNat:Int)=48)))=_
   rw [aZ mT]
  simp only [e5,ah,FJ,gQ,lX,fS,aU (show ¬(s.length:Int)>1 by omega),FK,eQ,ef]
  exact after _ rfl
 ·have e5:ai .eql (cv s[0]) (.int .u8 48)=some (B false):=by
   show some (B (decide ((s[0].toNat:Int)=48)))=_
   rw [aU mT]
  simp only [e5,ah,FJ,lK,FK,eQ,dU]
  exact after _ rfl
def gJ (s:List UInt8):Bool:=((decide (0<s.length)&&decide (s.length≤4000))&& !(decide (s.head?=some 48)&&decide (1<s.length)))&&s.all fun c=>decide (48≤c.toNat)&&decide (c.toNat≤57)
theorem tX {s:List UInt8}:gJ s=true↔(0<s.length∧s.length≤4000)∧(s.head?=some 48→s.length=1)∧kl s:=by
 unfold gJ kl
 simp only [Bool.and_eq_true,decide_eq_true_eq,Bool.not_eq_true',Bool.and_eq_false_iff,decide_eq_false_iff_not,List.all_eq_true]
 constructor
 ·rintro ⟨⟨h1,h2⟩,h3⟩
  refine ⟨h1,fun h=>?_,h3⟩
  rcases h2 with h2 | h2
  ·exact absurd h h2
  ·omega
 ·rintro ⟨h1,h2,h3⟩
  refine ⟨⟨h1,?_⟩,h3⟩
  by_cases h:s.head?=some 48
  ·have:=h2 h
   exact .inr (by omega)
  ·exact .inl h
theorem anA {s:List UInt8} {h:ae} {K:Value→ae→Prop}
  (hk:gJ s=true→∀r h',EX h h'→ZV h' r (dJ s)→K (.tuple #[r,B true]) h')
  (fV:gJ s=false→∀h',EX h h'→K (.tuple #[.agg #[B false,.slice none 0 0],B false]) h'):ak prog 99 [S s] h K:=by
 by_cases hb:(0<s.length∧s.length≤4000)∧(s.head?=some 48→s.length=1)
 ·refine anz hb.1.1 hb.1.2 hb.2 (fun hd=>hk (tX.2 ⟨hb.1,hb.2,hd⟩)) fun hd=>fV ?_
  cases e:gJ s with
  | false=>rfl
  | true=>exact absurd (tX.1 e).2.2 hd
 have dC:gJ s=false:=by
  cases e:gJ s with
  | false=>rfl
  | true=>exact absurd ⟨(tX.1 e).1,(tX.1 e).2.1⟩ hb
 refine f99 ?_
 have e2:∀g:ae,aV 35 [(.bool false),(.slice none 0 0)] g=some (pt g.length 0,g++[.arr 35 [(.bool false),(.slice none 0 0)]]):=fun _=>rfl
 have e3:dh [(.bool false),(.slice none 0 0)] []=some (.agg #[B false,.slice none 0 0]):=rfl
 simp only [GO,e2,aB,lX,ah,cS]
 have k0:=br (h:=h) (o:=.arr 35 [(.bool false),(.slice none 0 0)])
 have x0:EX h (h++[.arr 35 [(.bool false),(.slice none 0 0)]]):=EX.append _ _
 have after:∀t:Value,FC prog K (S s) (pt h.length 0) (B true) t (h++[.arr 35 [(.bool false),(.slice none 0 0)]]):=by
  intro t
  rw [UW]
  simp only [ef,ah,dS,e3]
  rw [eZ k0]
  simp only [aB]
  rw [cI (ck k0),ah]
  exact fV dC _ (x0.set (le_refl _) _)
 by_cases h0:s.length=0
 ·rw [aZ (show (s.length:Int)<1 by omega)]
  simp only [UZ,gr,KU,ef,ah,KV,FJ,FK,AT]
  exact after _
 rw [aU (show ¬(s.length:Int)<1 by omega)]
 simp only [UZ,eQ,lX,ah,fS]
 by_cases h1:s.length>4000
 ·rw [aZ (show (s.length:Int)>4000 by omega)]
  simp only [KU,dU,ah,KV,gr,FJ,FK,AT]
  exact after _
 rw [aU (show ¬(s.length:Int)>4000 by omega)]
 have i0:=wg (a:=s) (i:=0) (by omega) .i64
 simp only [Int.natCast_zero] at i0
 have h2:s.head?=some 48∧1<s.length:=by
  by_cases h:s.head?=some 48∧1<s.length
  ·exact h
  ·refine absurd ⟨⟨by omega,by omega⟩,fun h3=>?_⟩ hb
   have:¬1<s.length:=fun h4=>h ⟨h3,h4⟩
   omega
 have hc:(s[0]'(by omega)).toNat=48:=by
  have:=h2.1
  rw [List.head?_eq_getElem?,getElem?_eq_getElem (by omega)] at this
  injection this with this
  rw [this];rfl
 have e5:ai .eql (cv (s[0]'(by omega))) (.int .u8 48)=some (B true):=by
  show some (B (decide (((s[0]'(by omega)).toNat:Int)=48)))=_
  rw [aZ (by omega)]
 simp only [KU,dU,ah,KV,eQ,i0,e5,FJ,gQ,lX,fS,aZ (show (s.length:Int)>1 by omega),FK,ef,UW,dS,e3]
 rw [eZ k0]
 simp only [aB]
 rw [cI (ck k0),ah]
 exact fV dC _ (x0.set (le_refl _) _)
end
section
variable (P : Program) (K : VK)
noncomputable section
variable (n0 d1 n2 d3 x4 : Value) (h : ae)
def ahp:=bC prog 54 [[],[],[2,3,4],[]]
@[irreducible] def Pl:=bN ahp
@[irreducible] def asE:=Pl.r.r.l
theorem k54:ahp=some (14,Pl,[.cell true 4 4]):=by kernel_rfl
def apb (_P:Program) (K:VK):ar:=aS [.cell true 4 4] K
def T9:Prop:=ay (aj P asE (apb P K)) [2,3,4] [n2,d3,x4] h
theorem aB4:T9 P K n2 d3 x4 h=
 (OP (af true 2 h n2) fun au=>
 OP (af true 2 h d3) fun aA=>
 OP (dh [(.bool false),(.slice none 0 0),(.bool false),(.slice none 0 0)] [(0,2,au),(2,2,aA)]) fun aC=>
 OH (aG 4 h x4 aC) fun _ z1=>
 OP (af true 4 z1 x4) fun r0=>
 K r0 z1):=az (by kernel_rfl)
def N0:Prop:=
 OH (bm 35 h n0) fun n2 z1=>
 OH (bm 35 z1 d1) fun d3 z2=>
 OH (aV 37 [(.bool false),(.slice none 0 0),(.bool false),(.slice none 0 0)] z2) fun x4 z3=>
 OP (aM 0 d3) fun x5=>
 OP (af false 1 z3 x5) fun x6=>
 aO x6
 (OP (af true 2 z3 n2) fun x7=>
 (True)∧
 ak P 95 [x7] z3 fun x8 z4=>
 (True)∧
 OP (af true 2 z4 d3) fun x9=>
 (af true 2 z3 d3=some x9∧True)∧
 ak P 95 [x9] z4 fun aE z5=>
 (True)∧
 OH (aG 2 z5 n2 x8) fun _ z6=>
 (True)∧
 OH (aG 2 z6 d3 aE) fun _ z7=>
 (True)∧
 T9 P K n2 d3 x4 z7)
 (T9 P K n2 d3 x4 z3)
theorem e54:aj P Pl (aS [.cell true 4 4] K) (bw [n0,d1]) h=N0 P K n0 d1 h:=by kernel_rfl
theorem f54 {K:VK} {n0 d1:Value} {h:ae} (H:N0 prog K n0 d1 h):ak prog 54 [n0,d1] h K:=
 bP k54 (bL rfl) ((e54 prog K n0 d1 h).mpr H)
end
end
section
theorem C54 {va vb:Value} {a b:Int} {h:ae} {K:Value→ae→Prop} (ha:ZV h va a) (hb:ZV h vb b) (b0:0≤b) (hk:∀r h',EX h h'→QZ h' r a b→K r h'):ak prog 54 [va,vb] h K:=by
 obtain ⟨v,rfl,hv⟩:=ha
 obtain ⟨w,rfl,hw⟩:=hb
 have vX:decide (b<0)=false:=aU (by omega)
 refine f54 ?_
 have e1:∀(g:ae) (s:Bool) (v:Value),bm 35 g (.agg #[B s,v])=some (pt g.length 0,g++[.arr 35 [B s,v]]):=fun _ _ _=>rfl
 have e3:∀(g:ae),aV 37 [(.bool false),(.slice none 0 0),(.bool false),(.slice none 0 0)] g=some (pt g.length 0,g++[.arr 37 z4]):=fun _=>rfl
 simp only [N0,e1,e3,aB]
 have q0:EX h (h++[.arr 35 [B (decide (a<0)),v]]):=EX.append _ _
 have p0:(h++[aq.arr 35 [B (decide (a<0)),v]])[h.length]?=some (.arr 35 [B (decide (a<0)),v]):=br
 generalize h++[aq.arr 35 [B (decide (a<0)),v]]=ga at q0 p0⊢
 have q1:EX ga (ga++[.arr 35 [B (decide (b<0)),w]]):=EX.append _ _
 have p1:(ga++[aq.arr 35 [B (decide (b<0)),w]])[ga.length]?=some (.arr 35 [B (decide (b<0)),w]):=br
 generalize ga++[aq.arr 35 [B (decide (b<0)),w]]=gb at q1 p1⊢
 have q2:EX gb (gb++[.arr 37 z4]):=EX.append _ _
 have p2:(gb++[aq.arr 37 z4])[gb.length]?=some (.arr 37 z4):=br
 generalize gb++[aq.arr 37 z4]=gc at q2 p2⊢
 have k0:=(q1.trans q2).get p0
 have k1:=q2.get p1
 have x0:=q0.trans (q1.trans q2)
 have l1:af false 1 gc (pt ga.length 0)=some (B (decide (b<0))):=by simp [af,aQ,k1,cf]
 simp only [cw,add_zero,ah,l1]
 rw [vX]
 simp only [dR]
 rw [aB4,cI k0,cI k1]
 simp only [ah]
 have JD:ZV gc (.agg #[B (decide (a<0)),v]) a:=⟨v,rfl,hv.mono x0⟩
 have JE:ZV gc (.agg #[B (decide (b<0)),w]) b:=⟨w,rfl,hw.mono x0⟩
 obtain ⟨xs,dx,_⟩:=id (hv.mono x0)
 obtain ⟨ys,dy,_⟩:=id (hw.mono x0)
 rw [G0 dx dy]
 simp only [ah]
 exact rK p2 (hk _ _ (x0.set (q0.trans q1).1 _) ⟨v,w,rfl,(hv.mono x0).bM p2 _,(hw.mono x0).bM p2 _⟩)
theorem aAa:(1000000000000000000:Nat)<10000^199:=by decide+kernel
theorem C17 {w n:Int} {h:ae} {K:Value→ae→Prop} (hw:w.natAbs<1000000000000000000) (n0:0<n) (hn:n.natAbs<1000000000000000000) (hk:∀r h',EX h h'→QZ h' r (w / (gcd w.natAbs n.natAbs:Int)) (n / (gcd w.natAbs n.natAbs:Int))→K r h'):ak prog 17 [I w,I n] h K:=by
 refine f17 ?_
 have e3:aV 37 [(.bool false),(.slice none 0 0),(.bool false),(.slice none 0 0)] h=some (pt h.length 0,h++[.arr 37 z4]):=rfl
 simp only [NK,e3,aB]
 have x0:EX h (h++[.arr 37 z4]):=EX.append _ _
 have g0:(h++[aq.arr 37 z4])[h.length]?=some (.arr 37 z4):=br
 generalize h++[aq.arr 37 z4]=ga at x0 g0⊢
 refine uX hw ?_
 intro r1 h1 x1 z1
 refine uX hn ?_
 intro r2 h2 x2 z2
 refine C54 (z1.mono x2) z2 (by omega) ?_
 intro q h3 x3 qz
 have p18:=aAa
 refine WK qz n0 (by omega) (by omega) ?_
 intro r h4 x4 qr
 have aI:=(x1.trans x2).trans (x3.trans x4)
 have g4:=aI.get g0
 obtain ⟨y,z,rfl,my,mz⟩:=qr
 exact rK g4 (hk _ _ ((x0.trans aI).set (le_refl _) _) ⟨y,z,rfl,my.bM g4 _,mz.bM g4 _⟩)
theorem auz {n:Nat} (hn:n<bG) (h:cC n=[49]):n=1:=by
 have:=(tT hn).2.2.2.2
 rw [h] at this
 simpa [dJ] using this.symm
theorem anr {va:Value} {a b:Int} {h:ae} {K:Value→ae→Prop} (ha:QZ h va a b) (b0:0<b) (la:a.natAbs<10000^199) (lb:b.natAbs<10000^199) (hk:∀h',EX h h'→K (.tuple #[S (ni (a / (gcd a.natAbs b.natAbs:Int)) (b / (gcd a.natAbs b.natAbs:Int))),B true]) h'):ak prog 53 [va] h K:=by
 have oA:=ha
 obtain ⟨u,w,rfl,hu,hw⟩:=ha
 refine f53 ?_
 have e1:bm 37 h (.agg #[B (decide (a<0)),u,B (decide (b<0)),w])=some (pt h.length 0,h++[.arr 37 [B (decide (a<0)),u,B (decide (b<0)),w]]):=rfl
 simp only [NZ,e1,aB]
 have x1:EX h (h++[aq.arr 37 [B (decide (a<0)),u,B (decide (b<0)),w]]):=EX.append _ _
 have k1:(h++[aq.arr 37 [B (decide (a<0)),u,B (decide (b<0)),w]])[h.length]?=some (.arr 37 [B (decide (a<0)),u,B (decide (b<0)),w]):=br
 generalize h++[aq.arr 37 [B (decide (a<0)),u,B (decide (b<0)),w]]=h1 at x1 k1⊢
 rw [ik k1]
 simp only [ah]
 refine WK (oA.mono x1) b0 la lb ?_
 intro r h2 x2 q2
 have hg0:0<gcd a.natAbs b.natAbs:=Nat.gcd_pos_of_pos_right _ (by omega)
 have Q2:gcd a.natAbs b.natAbs≤b.natAbs:=Nat.gcd_le_right _ (by omega)
 have QR:(gcd a.natAbs b.natAbs:Int) ∣ a:=Int.gcd_dvd_left ..
 have xw:(gcd a.natAbs b.natAbs:Int) ∣ b:=Int.gcd_dvd_right ..
 generalize hG:gcd a.natAbs b.natAbs=G at*
 have la':(a / (G:Int)).natAbs<10000^199:=by
  obtain ⟨c,rfl⟩:=QR
  rw [Int.mul_ediv_cancel_left c (by omega)]
  have:c.natAbs≤((G:Int)*c).natAbs:=by rw [natAbs_mul];exact Nat.le_mul_of_pos_left _ (by omega)
  omega
 have b1:0<b / (G:Int)∧(b / (G:Int)).natAbs<10000^199:=by
  obtain ⟨c,rfl⟩:=xw
  rw [Int.mul_ediv_cancel_left c (by omega)]
  have hc:0<c:=by
   apply byContradiction
   intro jo
   have:=Int.mul_nonpos_of_nonneg_of_nonpos (show (0:Int)≤(G:Int) by omega) (show c≤0 by omega)
   omega
  have:c.natAbs≤((G:Int)*c).natAbs:=by rw [natAbs_mul];exact Nat.le_mul_of_pos_left _ (by omega)
  exact ⟨hc,by omega⟩
 generalize a / (G:Int)=A at*
 generalize b / (G:Int)=D at*
 obtain ⟨D0,lD⟩:=b1
 obtain ⟨u',w',rfl,EK,qT⟩:=q2
 have hsD:decide (D<0)=false:=aU (by omega)
 have k2:=x2.get k1
 rw [nR k2]
 simp only [aB]
 have x3:EX h (h2.set h.length (.arr 37 [B (decide (A<0)),u',B (decide (D<0)),w'])):=(x1.trans x2).set (le_refl _) _
 have k3:=ck (o:=.arr 37 [B (decide (A<0)),u',B (decide (D<0)),w']) k2
 have hu3:=EK.bM k2 (.arr 37 [B (decide (A<0)),u',B (decide (D<0)),w'])
 have rW:=qT.bM k2 (.arr 37 [B (decide (A<0)),u',B (decide (D<0)),w'])
 generalize h2.set h.length (.arr 37 [B (decide (A<0)),u',B (decide (D<0)),w'])=h3 at x3 k3 hu3 rW⊢
 have aGz:(10000:Nat)^199<10000^201:=by decide+kernel
 have hb:=pJ (n:=A.natAbs) (by omega)
 have hD:=pJ (n:=D.natAbs) (by omega)
 simp only [cw,add_zero,zero_add,jJ k3,ah,true_and]
 refine L9 (⟨u',rfl,hu3⟩:ZV h3 _ A) ?_
 intro ua h4 x4 m4
 refine WX m4.FW hb ?_
 intro h5 x5
 have oJ:∀{g},EX h3 g→af false 1 g (pt h.length 0)=some (B (decide (A<0))):=fun y=>EX.load y (by simp [af,aQ,k3,cf])
 simp only [kS k3,EX.load x4 (kS k3),EX.load (x4.trans x5) (kS k3),ah,true_and]
 have hw5:fy h5 w' D.natAbs:=(rW.mono x4).mono x5
 have zD:ZV h5 (.agg #[B (decide (D<0)),w']) ((D.natAbs:Nat):Int):=⟨w',by rw [hsD,aU (by omega)],by rwa [natAbs_natCast]⟩
 refine WX (n:=D.natAbs) zD hD ?_
 intro h6 x6
 obtain ⟨d1,d2,d3,d4,d5⟩:=tT hb
 obtain ⟨c1,c2,c3,c4,c5⟩:=tT hD
 have xx:=(x4.trans x5).trans x6
 have nl:=agq hb
 simp only [lX,ah,fS,aU (show ¬((cC A.natAbs).length:Int)>4000 by omega),aB2,eQ,aU (show ¬((cC D.natAbs).length:Int)>4000 by omega)]
 simp only [aB3,dU,ah,dR,cw,add_zero,oJ xx]
 have fin:Kx prog K (S (gU A)) (S (cC D.natAbs)) h6:=by
  rw [aB1]
  have:ai .neq (S (cC D.natAbs)) (.string ⟨#[49]⟩)=some (B (!decide (cC D.natAbs=[49]))):=by
   show ai .neq (S (cC D.natAbs)) (S [49])=_
   rw [YV]
  simp only [this,ah]
  by_cases h1:D=1
  ·subst h1
   have e:ni A 1=gU A:=by unfold ni;rw [if_pos rfl]
   have one:cC (1:Int).natAbs=[49]:=by decide+kernel
   rw [one]
   simp only [decide_true,Bool.not_true,dR,aly]
   rw [←e]
   exact hk _ (x3.trans xx)
  ·have e:ni A D=gU A++([47]++cC D.natAbs):=by unfold ni;rw [if_neg h1];rfl
   have bk:cC D.natAbs≠[49]:=fun h9=>h1 (by have:=auz hD h9;omega)
   have a1:ai .add (.string ⟨#[47]⟩) (S (cC D.natAbs))=some (S ([47]++cC D.natAbs)):=yI (a:=[47]) (b:=cC D.natAbs) (by simp [maxLen];omega)
   have a2:ai .add (S (gU A)) (S ([47]++cC D.natAbs))=some (S (gU A++([47]++cC D.natAbs))):=yI (a:=gU A) (b:=[47]++cC D.natAbs) (by simp [maxLen];omega)
   rw [aU bk]
   simp only [Bool.not_false,dS,a1,a2,ah,aly]
   rw [←e]
   exact hk _ (x3.trans xx)
 by_cases jo:A<0
 ·have hs:gU A=45::cC A.natAbs:=by unfold gU;rw [if_pos jo]
  have ad:ai .add (.string ⟨#[45]⟩) (S (cC A.natAbs))=some (S (gU A)):=by
   rw [hs]
   exact yI (a:=[45]) (b:=cC A.natAbs) (by simp [maxLen];omega)
  rw [aZ jo]
  simp only [dS,ad,ah]
  exact fin
 ·have hs:gU A=cC A.natAbs:=by unfold gU;rw [if_neg jo]
  rw [aU jo,←hs]
  simp only [dR]
  exact fin
end
end Go.Proofs.YtelmdbpaoifmoaaGreat
