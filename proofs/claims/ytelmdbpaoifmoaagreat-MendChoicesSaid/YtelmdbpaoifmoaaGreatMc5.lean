/-
  Part 5 of the texts behind a statement of this seat: Ct37, Ct38, Ct39, Ct40, ZR2, Ct45, Ct46, Zq1, Sp18, ZN3, Kd1, Kd2, Kd3, Kd4, Kd5, Kd6, Ct41, Zq2, Zq3, Kd7, ZN4, Kd8, Kd9, Kd10.
-/
import Derived.Test.YtelmdbpaoifmoaaGreatProg
import Derived.KernelRfl
import Derived.Test.YtelmdbpaoifmoaaGreatMc4
namespace Go.Proofs.YtelmdbpaoifmoaaGreat
open Go.Sim

theorem UE {b:Nat} {hx:ae} {v:Value} {os:List Nat} {d:Nat} {K:Value→ae→Prop} (hb:b≤hx.length) (o:mE b hx v os) (hl:os.length≤10000)
  (hk:∀v' bG,(∀d,d<b→bG[d]?=hx[d]?)→b≤bG.length→mE b bG v' (os++[d])→K v' bG):OH (dh 3 1 [.int .i64 0] hx [(0,1,I d)]) fun a h2=>OH (dj 3 1 8 h2 v a) K:=by
 have hlen:(hx.take b).length=b:=by rw [List.length_take];omega
 have hex:EX (hx.take b) hx:=by
  refine ⟨by omega,fun i hi=>?_⟩
  rw [List.getElem?_take_of_lt (by omega)]
 refine Lc (h0:=hx.take b) (by rw [hlen];exact o) hex hl ?_
 intro v' bG x o'
 rw [hlen] at o'
 refine hk v' bG (fun d hd=>?_) (by have:=x.1;omega) o'
 rw [x.2 d (by omega),List.getElem?_take_of_lt hd]

theorem mE.set {b j:Nat} {hx:ae} {v:Value} {os:List Nat} (o:mE b hx v os) (hj:j<b) (x:aq):mE b (hx.set j x) v os:=
 fW.dN o fun d _ _ hd=>by rw [List.getElem?_set_ne (by omega)]

theorem ayX {a:Int} {b:Nat} (hb:b≠0):ai .rem (.int .i64 a) (.int .i64 (b:Int))=some (I (a.tmod b)):=by
 have h:¬((b:Int)=0):=by omega
 simp only [ai,gn,if_true,if_neg h]
theorem ayR {a:Int} {b:Nat} (hb:b≠0) (h1: -9223372036854775808<a) (h2:a<9223372036854775808):ai .quo (.int .i64 a) (.int .i64 (b:Int))=some (I (a.tdiv b)):=by
 have h:¬((b:Int)=0):=by omega
 have h3:(a.tdiv b).natAbs≤a.natAbs:=by
  rw [Int.natAbs_tdiv,Int.natAbs_natCast];exact Nat.div_le_self _ _
 simp only [ai,gn,if_true,if_neg h]
 rw [wrap64 (by omega) (by omega)]

theorem uY {z:Int} {h:ae} {K:Value→ae→Prop} (hz:z.natAbs<1000000000000000000) (hk:∀r h',EX h h'→ZV h' r z→K r h'):ak Tryz.prog 55 [I z] h K:=by
 refine f55 ?_
 have e2:∀g:ae,aX 35 [(.bool false),(.slice none 0 0)] g=some (pt g.length 0,g++[.arr 35 [(.bool false),(.slice none 0 0)]]):=fun _=>rfl
 have e3:∀b:Bool,cT [(.bool false),(.slice none 0 0)] [(0,1,B b)]=some (.agg #[B b,.slice none 0 0]):=fun _=>rfl
 simp only [KC,e2,aE,cI,ah,e3,List.length_append,List.length_cons,List.length_nil]
 have g1:(h++[aq.arr 35 [(.bool false),(.slice none 0 0)]]++[aq.arr 35 [(.bool false),(.slice none 0 0)]])[h.length+1]?=some (.arr 35 [(.bool false),(.slice none 0 0)]):=by simp
 have g0:(h++[aq.arr 35 [(.bool false),(.slice none 0 0)]]++[aq.arr 35 [(.bool false),(.slice none 0 0)]])[h.length]?=some (.arr 35 [(.bool false),(.slice none 0 0)]):=by simp
 have x1:EX h (h++[aq.arr 35 [(.bool false),(.slice none 0 0)]]++[aq.arr 35 [(.bool false),(.slice none 0 0)]]):=(EX.append _ _).push _
 have yH:(h++[aq.arr 35 [(.bool false),(.slice none 0 0)]]++[aq.arr 35 [(.bool false),(.slice none 0 0)]]).length=h.length+2:=by simp
 generalize h++[aq.arr 35 [(.bool false),(.slice none 0 0)]]++[aq.arr 35 [(.bool false),(.slice none 0 0)]]=h1 at*
 simp only [Nat.zero_add]
 rw [ef g1]
 simp only [aE]
 refine dc (σ:=Int×List Nat×Value×ae) (fun p=>[I p.1]) (fun p=>p.2.2.2)
  (fun p=>h.length+2≤p.2.2.2.length∧EX h p.2.2.2∧p.2.2.2[h.length]?=some (.arr 35 [.bool false,.slice none 0 0])∧p.2.2.2[h.length+1]?=some (.arr 35 [B (decide (z<0)),p.2.2.1])∧mE (h.length+2) p.2.2.2 p.2.2.1 p.2.1∧b9 10000 p.2.1∧p.2.1.length≤5∧p.1.natAbs<10000^(5-p.2.1.length)∧val 10000 p.2.1+10000^p.2.1.length*p.1.natAbs=z.natAbs∧(p.1=0→Canon 10000 p.2.1)) (fun p=>p.1.natAbs)
  (z,[],.slice none 0 0,h1.set (h.length+1) (.arr 35 [B (decide (z<0)),.slice none 0 0])) rfl rfl
  ⟨by simp [yH],x1.set (by omega) _,by rw [List.getElem?_set_ne (by omega)];exact g0,cM g1,.inl ⟨rfl,rfl⟩,fun _ hx=>by simp at hx,by simp,by simp;omega,by simp [val],fun _=>Canon.nil _⟩ ?_
 rintro ⟨a,os,v,hx⟩ ⟨hlen,hex,k0,k1,gQ,eI,fP,gB,bS,A9⟩ L hL
 simp only at hlen hex k0 k1 gQ eI fP gB bS A9 hL⊢
 rw [axD]
 simp only [ng,ah,CQ]
 refine ⟨fun br=>?_,fun heq=>?_⟩
 ·have pb:a≠0:=br
  have aBF:a.natAbs≤z.natAbs:=by
   have:1*a.natAbs≤10000^os.length*a.natAbs:=Nat.mul_le_mul_right _ (Nat.pow_pos (by decide))
   omega
  have aBz:os.length<5:=by
   apply Classical.byContradiction
   intro hc
   have:5-os.length=0:=by omega
   rw [this] at gB
   omega
  have mQ:(a.tmod 10000).natAbs=a.natAbs%10000:=Int.natAbs_tmod _ _
  have hdiv:(a.tdiv 10000).natAbs=a.natAbs / 10000:=Int.natAbs_tdiv _ _
  have step:GZ Tryz.prog K (I a) (pt h.length 0) (pt (h.length+1) 0) (I ((a.natAbs%10000:Nat):Int)) L hx:=by
   rw [axB]
   have ld:af false 1 hx (pt (h.length+1) 1)=some v:=by simp [af,aO,k1,ck]
   simp only [bW,Nat.zero_add,ah,ld]
   refine UE hlen gQ (by omega) ?_
   intro v' bG hs lE rG
   have jx:bG[h.length+1]?=some (.arr 35 [B (decide (z<0)),v]):=by rw [hs _ (by omega)];exact k1
   rw [oL jx (by simp) rG.ds.one.1 rG.ds.one.2]
   simp only [aE,List.set_cons_succ,List.set_cons_zero]
   rw [show (.int .i64 10000:Value)=.int .i64 ((10000:Nat):Int) from rfl,ayR (by decide) (by omega) (by omega)]
   simp only [ah,true_and]
   have jX:=Nat.mod_add_div a.natAbs 10000
   have el:(os++[a.natAbs%10000]).length=os.length+1:=by simp
   have hm:a.natAbs%10000<10000:=Nat.mod_lt _ (by decide)
   have Fw:(a.tdiv ((10000:Nat):Int)).natAbs=a.natAbs / 10000:=hdiv
   refine hL (a.tdiv ((10000:Nat):Int),os++[a.natAbs%10000],v',bG.set (h.length+1) (.arr 35 [B (decide (z<0)),v'])) ⟨?_,?_,?_,cM jx,rG.set (by omega) _,eI.append (fun y hy=>by simp at hy;omega),by rw [el];omega,?_,?_,?_⟩ ?_
   ·rw [List.length_set];exact lE
   ·refine EX.set ⟨by have:=hex.1;omega,fun i hi=>?_⟩ (by omega) _
    rw [hs i (by omega)];exact hex.2 i hi
   ·rw [List.getElem?_set_ne (by omega),hs _ (by omega)];exact k0
   ·show (a.tdiv ((10000:Nat):Int)).natAbs<_
    rw [el,Fw]
    have:5-os.length=(5-(os.length+1))+1:=by omega
    rw [this,Nat.pow_succ] at gB
    exact Nat.div_lt_of_lt_mul (by rw [Nat.mul_comm];exact gB)
   ·show val 10000 (os++[a.natAbs%10000])+10000^(os++[a.natAbs%10000]).length*(a.tdiv ((10000:Nat):Int)).natAbs=_
    rw [el,lM,Fw,←bS,Nat.pow_succ]
    simp only [val,Nat.mul_zero,Nat.add_zero]
    have:=congrArg (10000^os.length*·) jX
    rw [Nat.mul_add] at this
    rw [←this,Nat.mul_assoc,Nat.add_assoc]
   ·intro h0
    have mb:a.natAbs / 10000=0:=by
     have h0b:a.tdiv ((10000:Nat):Int)=0:=h0
     rw [←Fw,h0b];rfl
    refine EI (eI.append (fun y hy=>by simp at hy;omega)) ?_
    intro h1 h2
    simp only [el,Nat.add_sub_cancel] at h2
    rw [List.getElem_append_right (Nat.le_refl _)] at h2
    simp at h2
    omega
   ·show (a.tdiv ((10000:Nat):Int)).natAbs<a.natAbs
    rw [Fw]
    exact Nat.div_lt_self (by omega) (by decide)
  rw [show (.int .i64 10000:Value)=.int .i64 ((10000:Nat):Int) from rfl,ayX (by decide)]
  simp only [ah,cI,bK]
  have aBx:(a.tmod ((10000:Nat):Int)).natAbs=a.natAbs%10000:=mQ
  refine ⟨fun hn=>?_,fun hn=>?_⟩
  ·have e4:fA .neg (I (a.tmod ((10000:Nat):Int)))=some (I (-(a.tmod ((10000:Nat):Int)))):=by
    simp only [fA]
    rw [wrap64 (by omega) (by omega),Int.zero_sub]
   rw [e4]
   simp only [ah]
   rw [show -(a.tmod ((10000:Nat):Int))=((a.natAbs%10000:Nat):Int) by omega]
   exact step
  ·rw [show a.tmod ((10000:Nat):Int)=((a.natAbs%10000:Nat):Int) by omega]
   exact step
 ·have ha:a=0:=heq
  subst ha
  rw [axC]
  rw [cn k1]
  simp only [ah]
  rw [ef k0]
  simp only [aE]
  rw [cn (cM k0)]
  refine ah.2 (hk _ _ (hex.set (Nat.le_refl _) _) ⟨v,rfl,os,gQ.ds.bH k0 _,A9 rfl,?_⟩)
  simpa using bS


abbrev hz (h:ae) (os:List Nat):ae:=h++[.arr 3 (os.map fun d:Nat=>I d)]

theorem abm {h:ae} {n:Nat} (hn:n≤1000):kR 3 8 [.int .i64 0] h (I n) (I n)=some (sl 3 h.length 0 n,hz h (List.replicate n 0)):=by
 have wN:∀m,gL [Value.int .i64 0] m=(List.replicate m 0).map fun d:Nat=>I d:=by
  intro m
  induction m with
  | zero=>rfl
  | succ m ih=>
   have:gL [Value.int .i64 0] (m+1)=Value.int .i64 0::gL [Value.int .i64 0] m:=by simp [gL,List.replicate_succ]
   rw [this,ih,List.replicate_succ];rfl
 simp only [kR]
 rw [if_pos ⟨by omega,by omega,by omega,by omega⟩,Int.toNat_natCast,wN]

theorem aaD (h:ae) (os:List Nat):(hz h os)[h.length]?=some (.arr 3 (os.map fun d:Nat=>I d)):=by simp [hz]

theorem ats {h:ae} {os:List Nat} {j:Nat} (d:Nat) (hj:j<os.length):aI 1 (hz h os) (pt h.length j) (I d)=some (undef,hz h (os.set j d)):=by
 rw [oL (aaD h os) (by simpa using hj) rfl rfl]
 simp [hz,List.map_set]

theorem atr {h:ae} {os:List Nat} {j:Nat} (hj:j<os.length):af false 1 (hz h os) (pt h.length j)=some (I os[j]):=by
 simp [af,aO,ck,hj]

theorem aaC (h:ae) (os:List Nat):DS 3 .i64 (hz h os) (sl 3 h.length 0 os.length) os:=.inr ⟨h.length,rfl,.inr ⟨[],by simp [aO,hz]⟩⟩
theorem sZ (h:ae) (os:List Nat):EX h (hz h os):=EX.append _ _

theorem au5 {x y:Nat} (hx:x<10000) (hy:y<10000):x*y≤99980001:=by
 have:=Nat.mul_le_mul (show x≤9999 by omega) (show y≤9999 by omega)
 omega

theorem azQ (a b:Int):(if (!(decide (a<0)==decide (b<0)))=true then -((a.natAbs*b.natAbs:Nat):Int) else ((a.natAbs*b.natAbs:Nat):Int))=a*b:=by
 have ea:(a.natAbs:Int)=if a<0 then -a else a:=by split <;> omega
 have eb:(b.natAbs:Int)=if b<0 then -b else b:=by split <;> omega
 rw [Int.natCast_mul,ea,eb]
 by_cases h1:a<0 <;> by_cases h2:b<0 <;> simp [h1,h2,Int.neg_mul,Int.mul_neg]

theorem nP {va vb:Value} {a b:Int} {h:ae} {K:Value→ae→Prop} (ha:ZV h va a) (hb:ZV h vb b) (la:a.natAbs<bu) (lb:b.natAbs<bu) (hk:∀r h',EX h h'→ZV h' r (a*b)→K r h'):ak Tryz.prog 71 [va,vb] h K:=by
 obtain ⟨v,rfl,hv⟩:=ha
 obtain ⟨w,rfl,hw⟩:=hb
 refine f71 ?_
 unfold KJ
 refine Du ?_
 intro h3 x
 obtain ⟨xs,dx,cx,ex⟩:=hv.mono x.ex
 obtain ⟨ys,dy,cy,ey⟩:=hw.mono x.ex
 have l1:=p7 cx (by rw [ex];exact la)
 have l2:=p7 cy (by rw [ey];exact lb)
 have hB:(0:Nat)<10000:=by decide
 have e0:IntKind.wrap .i64 ((xs.length:Int)+(ys.length:Int))=((xs.length+ys.length:Nat):Int):=by rw [wrap64 (by omega) (by omega)];omega
 simp only [bW,Nat.zero_add,ah,x.a1,x.b1,dx.len,dy.len,cD,e0,inc (xs.length+ys.length) (by omega),abm (show xs.length+ys.length+1≤1000 by omega),aE]
 refine dc (σ:=Nat×List Nat) (fun p=>[I p.1]) (fun p=>hz h3 p.2)
  (fun p=>p.1≤xs.length∧p.2.length=xs.length+ys.length+1∧b9 10000 p.2∧(∀j (hj:j<p.2.length),p.1+ys.length≤j→p.2[j]=0)∧val 10000 p.2=val 10000 (xs.take p.1)*val 10000 ys) (fun p=>xs.length-p.1)
  (0,List.replicate (xs.length+ys.length+1) 0) rfl rfl ⟨by simp,by simp,b9.tH hB _,by simp,by simp [uQ,val]⟩ ?_
 rintro ⟨i,os⟩ ⟨hi,fP,eI,wN,bS⟩ L hL
 simp only at hi fP eI wN bS hL⊢
 have yZ:∀ps,af false 1 (hz h3 ps) (pt h.length 1)=some v:=fun ps=>EX.load (sZ h3 ps) x.a1
 have wZ:∀ps,af false 1 (hz h3 ps) (pt (h.length+1) 1)=some w:=fun ps=>EX.load (sZ h3 ps) x.b1
 rw [ax4]
 simp only [bW,Nat.zero_add,yZ,dx.len,cI,ah,bK]
 refine ⟨fun aC=>?_,fun cH=>?_⟩
 ·have bf:i<xs.length:=by omega
  have fY:xs[i]<10000:=cx.1 _ (List.getElem_mem bf)
  have wJ:=gT 10000 xs bf
  refine dc (σ:=Nat×Nat×List Nat) (fun p=>[I p.1,I p.2.1]) (fun p=>hz h3 p.2.2)
   (fun p=>p.2.1≤ys.length+1∧(p.2.1=ys.length+1→p.1=0)∧p.1<10000∧p.2.2.length=xs.length+ys.length+1∧b9 10000 p.2.2∧(∀j (hj:j<p.2.2.length),i+ys.length+1≤j→p.2.2[j]=0)∧(p.2.1≤ys.length→∀j (hj:j<p.2.2.length),i+ys.length≤j→p.2.2[j]=0)∧val 10000 p.2.2+10000^(i+p.2.1)*p.1=val 10000 os+10000^i*(xs[i]*val 10000 (ys.take p.2.1))) (fun p=>ys.length+1-p.2.1)
   (0,0,os) rfl rfl ⟨by simp,by simp,hB,fP,eI,fun j hj h=>wN j hj (by omega),fun _=>wN,by simp [val]⟩ ?_
  rintro ⟨c,k,ps⟩ ⟨fD,ZO,hc,kP,sR,uu,ND,uo⟩ L2 gP
  simp only at fD ZO hc kP sR uu ND uo gP⊢
  have YB:=dx.mono (sZ h3 ps)
  have YC:=dy.mono (sZ h3 ps)
  have nz:i+k<ps.length:=by omega
  have asU:ps[i+k]<10000:=sR _ (List.getElem_mem nz)
  have ei:IntKind.wrap .i64 ((i:Int)+(k:Int))=((i+k:Nat):Int):=by rw [wrap64 (by omega) (by omega)];omega
  -- ft next digit
  have step:∀p:Nat,p≤99980001→k<ys.length+1→(k=ys.length→p=0)→xs[i]*val 10000 (ys.take (k+1))=xs[i]*val 10000 (ys.take k)+10000^k*p→
    uK Tryz.prog K (pt h.length 0) (pt (h.length+1) 0) (pt (h.length+2) 0) (sl 3 h3.length 0 (xs.length+ys.length+1)) (I i) (I k) (I ((ps[i+k]+c+p:Nat):Int)) L L2 (hz h3 ps):=by
   intro p hp fO hkp hpv
   rw [ax0]
   have jZ:=qW 10000 ps (i+k) ((ps[i+k]+c+p)%10000) nz
   have mQ:(ps[i+k]+c+p)%10000<10000:=Nat.mod_lt _ hB
   have jX:=Nat.mod_add_div (ps[i+k]+c+p) 10000
   have hdiv:(ps[i+k]+c+p) / 10000<10000:=by omega
   have Fz:k=ys.length→(ps[i+k]+c+p) / 10000=0:=by
    intro qy
    have:=ND (by omega) (i+k) nz (by omega)
    rw [this,hkp qy]
    omega
   simp only [cD,ei,ah]
   rw [show (.int .i64 10000:Value)=.int .i64 ((10000:Nat):Int) from rfl,Hp _ _ _ (by decide),QP (by decide) (by omega)]
   simp only [ah]
   rw [kZ (show i+k<xs.length+ys.length+1 by omega)]
   simp only [ah]
   rw [ats _ nz]
   simp only [aE,ax1,cD,ah,inc k (by omega),true_and]
   refine gP ((ps[i+k]+c+p) / 10000,k+1,ps.set (i+k) ((ps[i+k]+c+p)%10000)) ⟨by show k+1≤ys.length+1;omega,fun h=>Fz (by simp only at h;omega),hdiv,by show (ps.set _ _).length=_;rw [List.length_set];exact kP,sR.set mQ _,?_,?_,?_⟩ (by show ys.length+1-(k+1)<ys.length+1-k;omega)
   ·intro j hj dG
    show (ps.set (i+k) _)[j]=0
    rw [List.getElem_set_ne (by omega)]
    exact uu j (by simpa using hj) dG
   ·intro kN j hj dG
    have sM:k+1≤ys.length:=kN
    show (ps.set (i+k) _)[j]=0
    rw [List.getElem_set_ne (by omega)]
    exact ND (by omega) j (by simpa using hj) dG
   ·show val 10000 (ps.set (i+k) _)+10000^(i+(k+1))*_=val 10000 os+10000^i*(xs[i]*val 10000 (ys.take (k+1)))
    rw [hpv,←Nat.add_assoc,Nat.pow_succ]
    rw [Nat.pow_add] at jZ uo⊢
    generalize ps[i+k]=o at*
    generalize (o+c+p)%10000=m at*
    generalize (o+c+p) / 10000=q at*
    generalize xs[i]*val 10000 (ys.take k)=v at*
    generalize val 10000 (ps.set (i+k) m)=s1 at*
    generalize val 10000 ps=s0 at*
    generalize val 10000 os=s2 at*
    generalize 10000^i=P at*
    generalize 10000^k=Q at*
    clear gP hL dx dy YB YC hv hw x yZ wZ
    have h1:P*Q*(m+10000*q)=P*Q*(o+c+p):=by rw [jX]
    grind
  have body:k<ys.length+1→OP (ai .add (I i) (I k)) fun dJ=>OP (aU 1 (sl 3 h3.length 0 (xs.length+ys.length+1)) dJ) fun dC=>OP (af false 1 (hz h3 ps) dC) fun dn=>OP (ai .add dn (I c)) fun ba=>
    OP (aY w) fun eX=>OP (ai .lss (I k) eX) fun fT=>aM fT
     (OP (aU 1 v (I i)) fun cS=>OP (af false 1 (hz h3 ps) cS) fun gv=>OP (aU 1 w (I k)) fun eQ=>OP (af false 1 (hz h3 ps) eQ) fun gJ=>OP (ai .mul gv gJ) fun hX=>OP (ai .add ba hX) fun lN=>
      uK Tryz.prog K (pt h.length 0) (pt (h.length+1) 0) (pt (h.length+2) 0) (sl 3 h3.length 0 (xs.length+ys.length+1)) (I i) (I k) lN L L2 (hz h3 ps))
     (uK Tryz.prog K (pt h.length 0) (pt (h.length+1) 0) (pt (h.length+2) 0) (sl 3 h3.length 0 (xs.length+ys.length+1)) (I i) (I k) ba L L2 (hz h3 ps)):=by
   intro fO
   have e1:IntKind.wrap .i64 ((ps[i+k]:Int)+(c:Int))=((ps[i+k]+c:Nat):Int):=by rw [wrap64 (by omega) (by omega)];omega
   simp only [cD,ei,ah]
   rw [kZ (show i+k<xs.length+ys.length+1 by omega)]
   simp only [ah,atr nz,cD,e1,dy.len,cI,bK]
   refine ⟨fun ky=>?_,fun Nf=>?_⟩
   ·have Nr:k<ys.length:=by omega
    obtain ⟨ia,a1,a2⟩:=YB.get bf
    obtain ⟨ib,b1,b2⟩:=YC.get Nr
    have je:ys[k]<10000:=cy.1 _ (List.getElem_mem Nr)
    have hxy:=au5 fY je
    have Ma:((xs[i]:Int)*(ys[k]:Int))=((xs[i]*ys[k]:Nat):Int):=by simp
    have e2:IntKind.wrap .i64 ((ps[i+k]+c:Nat)+(xs[i]*ys[k]:Nat):Int)=((ps[i+k]+c+xs[i]*ys[k]:Nat):Int):=by rw [wrap64 (by omega) (by omega)];omega
    simp only [a1,a2,b1,b2,ah,tR,Ma]
    rw [wrap64 (n:=((xs[i]*ys[k]:Nat):Int)) (by omega) (by omega)]
    simp only [cD,ah,e2]
    refine step (xs[i]*ys[k]) hxy fO (fun h=>by omega) ?_
    rw [gT 10000 ys Nr]
    grind
   ·have qy:k=ys.length:=by omega
    have:=step 0 (by omega) fO (fun _=>rfl) (by rw [qy,List.take_length,List.take_of_length_le (by omega)];rfl)
    simpa using this
  rw [axZ]
  simp only [bW,Nat.zero_add,wZ,dy.len,cI,ah]
  have other:∀t:Bool,(t=true→k<ys.length+1)→(t=false→ys.length≤k∧c=0)→aM (B t) (OP (ai .add (I i) (I k)) fun dJ=>OP (aU 1 (sl 3 h3.length 0 (xs.length+ys.length+1)) dJ) fun dC=>OP (af false 1 (hz h3 ps) dC) fun dn=>OP (ai .add dn (I c)) fun ba=>
    OP (aY w) fun eX=>OP (ai .lss (I k) eX) fun fT=>aM fT
     (OP (aU 1 v (I i)) fun cS=>OP (af false 1 (hz h3 ps) cS) fun gv=>OP (aU 1 w (I k)) fun eQ=>OP (af false 1 (hz h3 ps) eQ) fun gJ=>OP (ai .mul gv gJ) fun hX=>OP (ai .add ba hX) fun lN=>
      uK Tryz.prog K (pt h.length 0) (pt (h.length+1) 0) (pt (h.length+2) 0) (sl 3 h3.length 0 (xs.length+ys.length+1)) (I i) (I k) lN L L2 (hz h3 ps))
     (uK Tryz.prog K (pt h.length 0) (pt (h.length+1) 0) (pt (h.length+2) 0) (sl 3 h3.length 0 (xs.length+ys.length+1)) (I i) (I k) ba L L2 (hz h3 ps)))
    (P3 Tryz.prog K (pt h.length 0) (pt (h.length+1) 0) (pt (h.length+2) 0) (sl 3 h3.length 0 (xs.length+ys.length+1)) (I i) L (hz h3 ps)):=by
   intro t h1 h2
   refine xH (fun he=>body (h1 (by simpa using he))) fun br=>?_
   obtain ⟨yr,rfl⟩:=h2 (by simpa using br)
   rw [ax2]
   simp only [cD,ah,inc i (by omega),true_and]
   have asy:val 10000 (ys.take k)=val 10000 ys:=by rw [List.take_of_length_le yr]
   refine hL (i+1,ps) ⟨by show i+1≤xs.length;omega,kP,sR,fun j hj dG=>uu j hj (by have:i+1+ys.length≤j:=dG;omega),?_⟩ (by show xs.length-(i+1)<xs.length-i;omega)
   show val 10000 ps=val 10000 (xs.take (i+1))*val 10000 ys
   rw [wJ,Nat.add_mul,←bS,Nat.mul_assoc,←asy,←uo]
   omega
  by_cases fO:k<ys.length
  ·rw [decide_eq_true (show (k:Int)<(ys.length:Int) by omega)]
   simp only [ag5,eZ,ag6,dA,ah,bW,Nat.zero_add,yZ,wZ,true_and]
   exact other true (fun _=>by omega) (fun h=>by cases h)
  ·rw [decide_eq_false (show ¬(k:Int)<(ys.length:Int) by omega)]
   simp only [ag5,dO,ag6,fe,cY,ah,bW,Nat.zero_add,yZ,wZ,true_and]
   exact other _ (fun h=>by
    have h0:(0:Int)<(c:Int):=by simpa using h
    apply Classical.byContradiction
    intro M5
    have:=ZO (by omega)
    omega) (fun h=>by
    have h0:¬(0:Int)<(c:Int):=by simpa using h
    omega)
 ·have:i=xs.length:=by omega
  subst this
  rw [ax3]
  rw [List.take_length] at bS
  have nD:af false 1 (hz h3 os) (pt h.length 0)=some (B (decide (a<0))):=EX.load (sZ h3 os) x.a0
  have pJ:af false 1 (hz h3 os) (pt (h.length+1) 0)=some (B (decide (b<0))):=EX.load (sZ h3 os) x.b0
  have e:sl 3 h3.length 0 (xs.length+ys.length+1)=sl 3 h3.length 0 os.length:=by rw [fP]
  simp only [bW,Nat.zero_add,ah,nD,pJ,AM,if_true,e]
  simp only [Lj (aaC h3 os),ah]
  refine uW (aaC h3 os) eI (by omega) ?_
  intro r h5 x5 zr
  have hzv:(if (!(decide (a<0)==decide (b<0)))=true then -(val 10000 os:Int) else (val 10000 os:Int))=a*b:=by
   rw [bS,ex,ey]
   exact azQ a b
  rw [hzv] at zr
  obtain ⟨q,rfl,hq⟩:=id zr
  have g':=((sZ h3 os).trans x5).get x.out
  exact vN g' (hk _ _ (((x.ex.trans (sZ h3 os)).trans x5).set (by omega) _) (zr.bH g' _))

end Go.Proofs.YtelmdbpaoifmoaaGreat


namespace Go.Proofs.YtelmdbpaoifmoaaGreat
open Go.Sim

def QZ (h:ae) (val:Value) (a b:Int):Prop:=∃u w,val=.agg #[B (decide (a<0)),u,B (decide (b<0)),w]∧eR h u a.natAbs∧eR h w b.natAbs
theorem QZ.mono {h h':ae} {v:Value} {a b:Int} (x:EX h h') (p:QZ h v a b):QZ h' v a b:=let ⟨u,w,e,m,n⟩:=p;⟨u,w,e,m.mono x,n.mono x⟩
theorem QZ.bH {h:ae} {v:Value} {a b:Int} {j:Nat} {e:TypeId} {s:Bool} {r:List Value} (p:QZ h v a b) (hj:h[j]?=some (.arr e (.bool s::r))) (o:aq):QZ (h.set j o) v a b:=
 let ⟨u,w,e,m,n⟩:=p;⟨u,w,e,m.bH hj o,n.bH hj o⟩

theorem nN {h:ae} {i:Nat} {e:TypeId} {a b c d x y z w:Value} (hg:h[i]?=some (.arr e [a,b,c,d])):aI 4 h (pt i 0) (.agg #[x,y,z,w])=some (undef,h.set i (.arr e [x,y,z,w])):=by
 simp [aI,ta,hg,gS,cZ,Value.cells,setAt]
theorem iu {h:ae} {i:Nat} {e:TypeId} {a b c d:Value} (hg:h[i]?=some (.arr e [a,b,c,d])):af true 4 h (pt i 0)=some (.agg #[a,b,c,d]):=by
 simp [af,aO,hg,ck]
theorem jg {h:ae} {i:Nat} {e:TypeId} {a b c d:Value} (hg:h[i]?=some (.arr e [a,b,c,d])):af true 2 h (pt i 0)=some (.agg #[a,b]):=by
 simp [af,aO,hg,ck]
theorem lJ {h:ae} {i:Nat} {e:TypeId} {a b c d:Value} (hg:h[i]?=some (.arr e [a,b,c,d])):af true 2 h (pt i 2)=some (.agg #[c,d]):=by
 simp [af,aO,hg,ck]

theorem qh {h':ae} {j:Nat} {e:TypeId} {b0 v0 c0 w0 a b c d:Value} {K:Value→ae→Prop} (hg:h'[j]?=some (.arr e [b0,v0,c0,w0])) (hk:K (.agg #[a,b,c,d]) (h'.set j (.arr e [a,b,c,d]))):
  OH (aI 4 h' (pt j 0) (.agg #[a,b,c,d])) fun _ h6=>OP (af true 4 h6 (pt j 0)) fun r0=>K r0 h6:=by
 rw [nN hg]
 simp only [aE]
 rw [iu (cM hg)]
 exact ah.2 hk

theorem Dw {b c:Bool} {e e':TypeId} {k k':IntKind} {h h':ae} {v w:Value} {xs ys:List Nat} (d:DS e k h v xs) (d':DS e' k' h' w ys):
  cT [(.bool false),(.slice none 0 0),(.bool false),(.slice none 0 0)] [(0,2,.agg #[B b,v]),(2,2,.agg #[B c,w])]=some (.agg #[B b,v,B c,w]):=by
 rcases d with ⟨rfl,_⟩ | ⟨i,rfl,_⟩ <;> rcases d' with ⟨rfl,_⟩ | ⟨i',rfl,_⟩ <;> rfl

abbrev z4:List Value:=[(.bool false),(.slice none 0 0),(.bool false),(.slice none 0 0)]

theorem vL {h h':ae} {j:Nat} {va vb:Value} {a b:Int} {K:Value→ae→Prop} (ha:ZV h' va a) (hb:ZV h' vb b) (x:EX h h') (hj:h.length≤j) (hg:h'[j]?=some (.arr 37 z4)) (hk:∀r h',EX h h'→QZ h' r a b→K r h'):
  OP (cT [(.bool false),(.slice none 0 0),(.bool false),(.slice none 0 0)] [(0,2,va),(2,2,vb)]) fun bc=>OH (aI 4 h' (pt j 0) bc) fun _ h6=>OP (af true 4 h6 (pt j 0)) fun r0=>K r0 h6:=by
 obtain ⟨u,rfl,hu⟩:=ha
 obtain ⟨w,rfl,hw⟩:=hb
 obtain ⟨xs,dx,cx⟩:=id hu
 obtain ⟨ys,dy,cy⟩:=id hw
 rw [Dw dx dy]
 exact ah.2 (qh hg (hk _ _ (x.set hj _) ⟨u,w,rfl,hu.bH hg _,hw.bH hg _⟩))

theorem C20 {z:Int} {h:ae} {K:Value→ae→Prop} (hz:z.natAbs<1000000000000000000) (hk:∀r h',EX h h'→QZ h' r z 1→K r h'):ak Tryz.prog 20 [I z] h K:=by
 refine f20 ?_
 have e1:aX 37 [(.bool false),(.slice none 0 0),(.bool false),(.slice none 0 0)] h=some (pt h.length 0,h++[.arr 37 z4]):=rfl
 simp only [Kk,e1,aE]
 refine uY hz ?_
 intro r1 h1 x1 z1
 refine uY (z:=1) (by decide) ?_
 intro r2 h2 x2 z2
 exact vL (z1.mono x2) z2 ((EX.append _ _).trans (x1.trans x2)) (Nat.le_refl _) ((x1.trans x2).get bR) hk

structure aiE (h:ae) (a b c d a' b' c' d':Value) (h3:ae):Prop where
 ex:EX h h3
 a0:af true 2 h3 (pt h.length 0)=some (.agg #[a,b])
 a2:af true 2 h3 (pt h.length 2)=some (.agg #[c,d])
 b0:af true 2 h3 (pt (h.length+1) 0)=some (.agg #[a',b'])
 b2:af true 2 h3 (pt (h.length+1) 2)=some (.agg #[c',d'])
 a4:af true 4 h3 (pt h.length 0)=some (.agg #[a,b,c,d])
 b4:af true 4 h3 (pt (h.length+1) 0)=some (.agg #[a',b',c',d'])
 out:h3[h.length+2]?=some (.arr 37 z4)

theorem Dv {h:ae} {s s' t t':Bool} {b d b' d':Value} {K:Value→Value→Value→ae→Prop} (hk:∀h3,aiE h (B s) b (B s') d (B t) b' (B t') d' h3→K (pt h.length 0) (pt (h.length+1) 0) (pt (h.length+2) 0) h3):
  OH (bk 37 h (.agg #[B s,b,B s',d])) fun a2 h_1=>OH (bk 37 h_1 (.agg #[B t,b',B t',d'])) fun b3 h_2=>OH (aX 37 [(.bool false),(.slice none 0 0),(.bool false),(.slice none 0 0)] h_2) fun x4 h_3=>K a2 b3 x4 h_3:=by
 have e1:∀(g:ae) (s s':Bool) (b d:Value),bk 37 g (.agg #[B s,b,B s',d])=some (pt g.length 0,g++[.arr 37 [B s,b,B s',d]]):=fun _ _ _ _ _=>rfl
 have e2:∀(g:ae),aX 37 [(.bool false),(.slice none 0 0),(.bool false),(.slice none 0 0)] g=some (pt g.length 0,g++[.arr 37 z4]):=fun _=>rfl
 simp only [e1,e2,aE,List.length_append,List.length_cons,List.length_nil]
 have g0:(h++[aq.arr 37 [B s,b,B s',d]]++[aq.arr 37 [B t,b',B t',d']]++[aq.arr 37 z4])[h.length]?=some (.arr 37 [B s,b,B s',d]):=by simp
 have g1:(h++[aq.arr 37 [B s,b,B s',d]]++[aq.arr 37 [B t,b',B t',d']]++[aq.arr 37 z4])[h.length+1]?=some (.arr 37 [B t,b',B t',d']):=by simp
 have g2:(h++[aq.arr 37 [B s,b,B s',d]]++[aq.arr 37 [B t,b',B t',d']]++[aq.arr 37 z4])[h.length+2]?=some (.arr 37 z4):=by simp
 exact hk _ ⟨((EX.append _ _).push _).push _,jg g0,lJ g0,jg g1,lJ g1,iu g0,iu g1,g2⟩

theorem C27 {va vb:Value} {a b c d:Int} {h:ae} {K:Value→ae→Prop} (ha:QZ h va a b) (hb:QZ h vb c d) (la:a.natAbs<bu) (lb:b.natAbs<bu) (lc:c.natAbs<bu) (ld:d.natAbs<bu)
  (hk:∀r h',EX h h'→QZ h' r (a*c) (b*d)→K r h'):ak Tryz.prog 27 [va,vb] h K:=by
 obtain ⟨u,w,rfl,hu,hw⟩:=ha
 obtain ⟨u',w',rfl,sV,lG⟩:=hb
 refine f27 ?_
 unfold Ko
 refine Dv ?_
 intro h3 x
 have za:ZV h3 (.agg #[B (decide (a<0)),u]) a:=⟨u,rfl,hu.mono x.ex⟩
 have zb:ZV h3 (.agg #[B (decide (b<0)),w]) b:=⟨w,rfl,hw.mono x.ex⟩
 have zc:ZV h3 (.agg #[B (decide (c<0)),u']) c:=⟨u',rfl,sV.mono x.ex⟩
 have zd:ZV h3 (.agg #[B (decide (d<0)),w']) d:=⟨w',rfl,lG.mono x.ex⟩
 simp only [bW,Nat.add_zero,Nat.zero_add,ah,x.a0,x.b0,true_and]
 refine nP za zc la lc ?_
 intro r4 h4 x4 qZ
 simp only [EX.load x4 x.a2,EX.load x4 x.b2,ah,x.a2,x.b2,true_and]
 refine nP (zb.mono x4) (zd.mono x4) lb ld ?_
 intro r5 h5 x5 z5
 exact vL (qZ.mono x5) z5 ((x.ex.trans x4).trans x5) (by omega) ((x4.trans x5).get x.out) hk

theorem C26 {va vb:Value} {a b c d:Int} {h:ae} {K:Value→ae→Prop} (ha:QZ h va a b) (hb:QZ h vb c d) (la:a.natAbs<bu) (lb:b.natAbs<bu) (lc:c.natAbs<bu) (ld:d.natAbs<bu) (BO:(a*d).natAbs<bu) (Oy:(c*b).natAbs<bu)
  (hk:∀r h',EX h h'→QZ h' r (a*d+c*b) (b*d)→K r h'):ak Tryz.prog 26 [va,vb] h K:=by
 obtain ⟨u,w,rfl,hu,hw⟩:=ha
 obtain ⟨u',w',rfl,sV,lG⟩:=hb
 refine f26 ?_
 unfold Kn
 refine Dv ?_
 intro h3 x
 have za:ZV h3 (.agg #[B (decide (a<0)),u]) a:=⟨u,rfl,hu.mono x.ex⟩
 have zb:ZV h3 (.agg #[B (decide (b<0)),w]) b:=⟨w,rfl,hw.mono x.ex⟩
 have zc:ZV h3 (.agg #[B (decide (c<0)),u']) c:=⟨u',rfl,sV.mono x.ex⟩
 have zd:ZV h3 (.agg #[B (decide (d<0)),w']) d:=⟨w',rfl,lG.mono x.ex⟩
 simp only [bW,Nat.add_zero,Nat.zero_add,ah,x.a0,x.b2,true_and]
 refine nP za zd la ld ?_
 intro r4 h4 x4 qZ
 simp only [EX.load x4 x.a2,EX.load x4 x.b0,ah,x.a2,x.b0,true_and]
 refine nP (zc.mono x4) (zb.mono x4) lc lb ?_
 intro r5 h5 x5 z5
 refine Sq (qZ.mono x5) z5 BO Oy ?_
 intro r6 h6 x6 z6
 have cd:=(x4.trans x5).trans x6
 simp only [EX.load cd x.a2,EX.load cd x.b2,EX.load (x4.trans x5) x.a2,EX.load (x4.trans x5) x.b2,EX.load x4 x.b2,ah,true_and]
 refine nP (zb.mono cd) (zd.mono cd) lb ld ?_
 intro r7 h7 x7 z7
 exact vL (z6.mono x7) z7 ((x.ex.trans cd).trans x7) (by omega) ((cd.trans x7).get x.out) hk

end Go.Proofs.YtelmdbpaoifmoaaGreat


namespace Go.Proofs.YtelmdbpaoifmoaaGreat
open Go.Sim

def dF (s:List UInt8):Nat:=s.foldl (fun d c=>10*d+(c.toNat-48)) 0

theorem Rw:∀(s:List UInt8) (a:Nat),s.foldl (fun d c=>10*d+(c.toNat-48)) a=a*10^s.length+dF s
 | [],a=>by simp [dF]
 | c::s,a=>by
  have h1:=Rw s (10*a+(c.toNat-48))
  have h2:=Rw s (10*0+(c.toNat-48))
  have e:dF (c::s)=s.foldl (fun d c=>10*d+(c.toNat-48)) (10*0+(c.toNat-48)):=rfl
  rw [e,h2,List.foldl_cons,h1,List.length_cons,Nat.pow_succ]
  generalize 10^s.length=P
  generalize c.toNat-48=d
  generalize dF s=w
  grind

theorem zP (s t:List UInt8):dF (s++t)=dF s*10^t.length+dF t:=by
 show (s++t).foldl _ 0=_
 rw [List.foldl_append,Rw]
 rfl

theorem H9 (c:UInt8):dF [c]=c.toNat-48:=by simp [dF]

def jq (s:List UInt8):Prop:=∀c∈s,48≤c.toNat∧c.toNat≤57

theorem Rv (c:UInt8) (s:List UInt8):dF (c::s)=(c.toNat-48)*10^s.length+dF s:=by
 have:=zP [c] s
 rw [H9] at this
 exact this

theorem uP:∀{s:List UInt8},jq s→dF s<10^s.length
 | [],_=>by simp [dF]
 | c::s,h=>by
  have h1:=uP (s:=s) fun x hx=>h x (by simp [hx])
  have h2:=h c (by simp)
  rw [Rv,List.length_cons,Nat.pow_succ]
  have h3:=Nat.mul_le_mul_right (10^s.length) (show c.toNat-48≤9 by omega)
  omega

end Go.Proofs.YtelmdbpaoifmoaaGreat


namespace Go.Proofs.YtelmdbpaoifmoaaGreat
open Go.Sim

theorem aid:∀{ds:List Nat},b9 10 ds→dF ((ds.map kK).reverse)=val 10 ds
 | [],_=>rfl
 | d::ds,h=>by
  have h1:=aid (ds:=ds) fun y hy=>h y (by simp [hy])
  have h2:=h d (by simp)
  rw [List.map_cons,List.reverse_cons,zP,H9,h1,EV h2]
  simp only [val,List.length_singleton,Nat.pow_one]
  omega

theorem Yn {n:Nat} (hn:n<bu):jq (lj n)∧0<(lj n).length∧(lj n).length≤1000∧((lj n).head?=some 48→(lj n).length=1)∧dF (lj n)=n:=by
 obtain ⟨hc,hv⟩:=Mb n
 by_cases h0:n=0
 ·subst h0
  have:lj 0=[48]:=rfl
  rw [this]
  exact ⟨fun c hc=>by simp at hc;subst hc;decide,by simp,by simp,by simp,rfl⟩
 ·have e:lj n=((rp n).map kK).reverse:=by unfold lj;rw [if_neg h0]
  have br:rp n≠[]:=by
   intro h
   rw [h] at hv
   exact h0 hv.symm
  rw [e]
  refine ⟨?_,?_,?_,?_,?_⟩
  ·intro c Zu
   simp only [List.mem_reverse,List.mem_map] at Zu
   obtain ⟨d,hd,rfl⟩:=Zu
   rw [EV (hc.1 d hd)]
   have:=hc.1 d hd
   omega
  ·simp only [List.length_reverse,List.length_map]
   exact List.length_pos_iff.2 br
  ·simp only [List.length_reverse,List.length_map]
   show _≤Gd
   refine hc.len (by decide) ?_
   rw [hv]
   exact Nat.lt_of_lt_of_le hn UL
  ·intro kL
   exfalso
   rw [List.head?_reverse,List.getLast?_map] at kL
   cases hl:(rp n).getLast? with
   | none=>rw [hl] at kL;simp at kL
   | some d=>
    rw [hl] at kL
    have hd:d<10:=hc.1 d (List.mem_of_getLast? hl)
    have h3:kK d=48:=by simpa using kL
    have h4:=congrArg UInt8.toNat h3
    rw [EV hd] at h4
    have h5:(48:UInt8).toNat=48:=rfl
    rw [h5] at h4
    have:d=0:=by omega
    subst this
    exact hc.2 hl
  ·rw [aid hc.1,hv]

end Go.Proofs.YtelmdbpaoifmoaaGreat


namespace Go.Proofs.YtelmdbpaoifmoaaGreat
open Go.Sim
variable (P : Program) (K : VK)
/-! F25: pommel/pommelref01.Lowest -/
noncomputable section
variable (q0 : Value) (h : ae)
def acC:=bw Tryz.prog 25 [[],[],[],[],[]]
@[irreducible] def Wp:=bE acC
theorem k25:acC=some (30,Wp,[.cell true 4 2]):=by kernel_rfl
def Km:Prop:=
 OH (bk 37 h q0) fun q1 h_1=>
 OH (aX 37 [(.bool false),(.slice none 0 0),(.bool false),(.slice none 0 0)] h_1) fun x2 h_2=>
 OP (aK 0 q1) fun x8=>
 OP (af true 2 h_2 x8) fun x9=>
 OP (aK 2 q1) fun aG=>
 OP (af true 2 h_2 aG) fun ay=>
 ak P 68 [x9,ay] h_2 fun az h_3=>
 OH (aX 35 [(.bool false),(.slice none 0 0)] h_3) fun g3 h_4=>
 OH (aI 2 h_4 g3 az) fun _ h_5=>
 OP (aK 0 q1) fun aP=>
 OP (af true 2 h_5 aP) fun bc=>
 OP (af true 2 h_5 g3) fun a9=>
 ak P 69 [bc,a9] h_5 fun bQ h_6=>
 OP (cC 0 bQ) fun aQ=>
 OP (cC 1 bQ) fun aN=>
 OH (aX 35 [(.bool false),(.slice none 0 0)] h_6) fun n4 h_7=>
 OH (aX 35 [(.bool false),(.slice none 0 0)] h_7) fun x5 h_8=>
 OH (aI 2 h_8 n4 aQ) fun _ h_9=>
 OH (aI 2 h_9 x5 aN) fun _ h_10=>
 OP (aK 2 q1) fun bm=>
 OP (af true 2 h_10 bm) fun bJ=>
 OP (af true 2 h_10 g3) fun cF=>
 ak P 69 [bJ,cF] h_10 fun bM h_11=>
 OP (cC 0 bM) fun bt=>
 OP (cC 1 bM) fun bC=>
 OH (aX 35 [(.bool false),(.slice none 0 0)] h_11) fun d6 h_12=>
 OH (aX 35 [(.bool false),(.slice none 0 0)] h_12) fun x7 h_13=>
 OH (aI 2 h_13 d6 bt) fun _ h_14=>
 OH (aI 2 h_14 x7 bC) fun _ h_15=>
 OP (af true 2 h_15 n4) fun bD=>
 OP (af true 2 h_15 d6) fun bU=>
 OP (cT [(.bool false),(.slice none 0 0),(.bool false),(.slice none 0 0)] [(0,2,bD),(2,2,bU)]) fun cA=>
 OH (aI 4 h_15 x2 cA) fun _ h_16=>
 OP (af true 4 h_16 x2) fun r0=>
 K r0 h_16
theorem e25:aj P Wp (aR [.cell true 4 2] K) (bp [q0]) h=Km P K q0 h:=by kernel_rfl
theorem f25 {K:VK} {q0:Value} {h:ae} (H:Km Tryz.prog K q0 h):ak Tryz.prog 25 [q0] h K:=
 bF k25 (Nat.le_of_ble_eq_true rfl) ((e25 Tryz.prog K q0 h).mpr H)
end
/-! F29: pommel/pommelref01.CmpQ -/
noncomputable section
variable (a0 b1 : Value) (h : ae)
def acG:=bw Tryz.prog 29 [[],[]]
@[irreducible] def Wt:=bE acG
theorem k29:acG=some (16,Wt,[.tmp 4]):=by kernel_rfl
def Kq:Prop:=
 OH (bk 37 h a0) fun a2 h_1=>
 OH (bk 37 h_1 b1) fun b3 h_2=>
 OP (aK 0 a2) fun x5=>
 OP (af true 2 h_2 x5) fun x6=>
 (True)∧
 OP (aK 2 b3) fun x7=>
 OP (af true 2 h_2 x7) fun x8=>
 (True)∧
 ak P 71 [x6,x8] h_2 fun x9 h_3=>
 (True)∧
 OP (aK 0 b3) fun aG=>
 OP (af true 2 h_3 aG) fun ay=>
 (af true 2 h_2 aG=some ay∧True)∧
 OP (aK 2 a2) fun az=>
 OP (af true 2 h_3 az) fun aA=>
 (af true 2 h_2 az=some aA∧True)∧
 ak P 71 [ay,aA] h_3 fun aP h_4=>
 (True)∧
 ak P 72 [x9,aP] h_4 fun bc h_5=>
 (True)∧
 K bc h_5
theorem e29:aj P Wt (aR [.tmp 4] K) (bp [a0,b1]) h=Kq P K a0 b1 h:=by kernel_rfl
theorem f29 {K:VK} {a0 b1:Value} {h:ae} (H:Kq Tryz.prog K a0 b1 h):ak Tryz.prog 29 [a0,b1] h K:=
 bF k29 (Nat.le_of_ble_eq_true rfl) ((e29 Tryz.prog K a0 b1 h).mpr H)
end
/-! F68: pommel/pommelref01.Gcd -/
noncomputable section
variable (a0 b1 a2 b3 x4 : Value) (L1 : LQ) (xs : List Value) (h : ae)
def acX:=bw Tryz.prog 68 [[],[],[2,3,4],[],[],[],[],[2,4],[]]
@[irreducible] def Em:=bE acX
@[irreducible] def ao3:=Em.r.r.l.l.l
@[irreducible] def Xc:=Em.r.r.r
@[irreducible] def ao2:=Xc.l
theorem k68:acX=some (24,Em,[.cell true 2 4]):=by kernel_rfl
def Jk (_P:Program) (K:VK):ar:=aR [.cell true 2 4] K
def alD:ar:=aD (aj P Xc (Jk P K)) (Jk P K)
def alE:ar:=bz 0 (alD P K)
def alF:ar:=aD (fun f' aS=>(([2,3,4]:List Nat).map f':List Value)=[a2,b3,x4]∧L1 (([]:List Nat).map f') aS) (alE P K)
def afi:Prop:=av (aj P ao3 (alF P K a2 b3 x4 L1)) ([2,3,4]++[]) ([a2,b3,x4]++xs) h
def afh:Prop:=av (aj P ao2 (Jk P K)) [2,4] [a2,x4] h
theorem axS:afi P K a2 b3 x4 L1 [] h=
 (OP (aK 1 b3) fun ay=>
 OP (af false 1 h ay) fun az=>
 OP (aY az) fun aA=>
 OP (ai .gtr aA (.int .i64 (0))) fun aP=>
 aM aP
 (OP (af true 2 h a2) fun a9=>
 OP (af true 2 h b3) fun bQ=>
 ak P 69 [a9,bQ] h fun aQ h_1=>
 OP (cC 0 aQ) fun aN=>
 OP (cC 1 aQ) fun aW=>
 OH (aX 35 [(.bool false),(.slice none 0 0)] h_1) fun x5 h_2=>
 OH (aX 35 [(.bool false),(.slice none 0 0)] h_2) fun x6 h_3=>
 OH (aI 2 h_3 x5 aN) fun _ h_4=>
 OH (aI 2 h_4 x6 aW) fun _ h_5=>
 OP (af true 2 h_5 b3) fun bm=>
 (True)∧
 OP (af true 2 h_5 x6) fun bJ=>
 (True)∧
 OH (aI 2 h_5 a2 bm) fun _ h_6=>
 (af true 2 h_6 x6=some bJ∧True)∧
 OH (aI 2 h_6 b3 bJ) fun _ h_7=>
 (True)∧
 ([a2,b3,x4]:List Value)=[a2,b3,x4]∧L1 [] h_7)
 (afh P K a2 x4 h)):=ax (by kernel_rfl)
theorem axR:afh P K a2 x4 h=
 (OP (af true 2 h a2) fun cF=>
 OH (aI 2 h x4 cF) fun _ h_1=>
 OP (af true 2 h_1 x4) fun r0=>
 K r0 h_1):=ax (by kernel_rfl)
def KG:Prop:=
 OH (bk 35 h a0) fun a2 h_1=>
 OH (bk 35 h_1 b1) fun b3 h_2=>
 OH (aX 35 [(.bool false),(.slice none 0 0)] h_2) fun x4 h_3=>
 OP (af true 2 h_3 a2) fun x7=>
 (True)∧
 ak P 94 [x7] h_3 fun x8 h_4=>
 (True)∧
 OP (af true 2 h_4 b3) fun x9=>
 (af true 2 h_3 b3=some x9∧True)∧
 ak P 94 [x9] h_4 fun aG h_5=>
 (True)∧
 OH (aI 2 h_5 a2 x8) fun _ h_6=>
 (True)∧
 OH (aI 2 h_6 b3 aG) fun _ h_7=>
 (True)∧
 cG [] h_7 fun L1 xs hx=>
 afi P K a2 b3 x4 L1 xs hx
theorem e68:aj P Em (aR [.cell true 2 4] K) (bp [a0,b1]) h=KG P K a0 b1 h:=by kernel_rfl
theorem f68 {K:VK} {a0 b1:Value} {h:ae} (H:KG Tryz.prog K a0 b1 h):ak Tryz.prog 68 [a0,b1] h K:=
 bF k68 (Nat.le_of_ble_eq_true rfl) ((e68 Tryz.prog K a0 b1 h).mpr H)
end
/-! F69: pommel/pommelref01.DivMod -/
noncomputable section
variable (a0 b1 a2 b3 x4 x5 q6 x7 i8 x9 aG az aA eB eY : Value) (L1 L2 : LQ) (xs : List Value) (h : ae)
def acY:=bw Tryz.prog 69 [[],[],[],[2,3,4,5,6],[7,8],[],[],[],[],[2,3,4,5,6,7,8],[9,10],[],[],[],[],[2,3,4,5,6,7,8,9],[],[2,3,4,5,6,7,8],[2,3,4,5,6,7],[],[3,4,5,12,13,78],[3,4,5,12,13,78,82],[],[],[],[]]
@[irreducible] def En:=bE acY
@[irreducible] def Ep:=En.r.r.l.r.l.l
@[irreducible] def Xf:=En.r.r.r
@[irreducible] def ao4:=Ep.r.l.l.r.r.l.l.l
@[irreducible] def Xd:=Ep.r.l.l.r.r.r
@[irreducible] def Xg:=Ep.r.r
@[irreducible] def Eo:=Xf.l
@[irreducible] def ao5:=Xd.l
@[irreducible] def ao6:=Xg.l
@[irreducible] def Xe:=Eo.r.l.l.r.l
@[irreducible] def ao8:=Eo.r.l.r
@[irreducible] def ao7:=Eo.r.r
@[irreducible] def ao9:=Xe.r.l
theorem k69:acY=some (92,En,[.cell true 2 4,.cell true 2 5]):=by kernel_rfl
def Ag (_P:Program) (K:VK):ar:=aR [.cell true 2 4,.cell true 2 5] K
def alJ:ar:=aD (aj P Xf (Ag P K)) (Ag P K)
def alK:ar:=bz 0 (alJ P K)
def Da:ar:=aD (fun f' aS=>(([2,3,4,5,6]:List Nat).map f':List Value)=[a2,b3,x4,x5,q6]∧L1 (([7,8]:List Nat).map f') aS) (alK P K)
def alL:ar:=aD (aj P Xg (Da P K a2 b3 x4 x5 q6 L1)) (Da P K a2 b3 x4 x5 q6 L1)
def Jl:ar:=bz 1 (alL P K a2 b3 x4 x5 q6 L1)
def alG:ar:=aD (aj P Xd (Jl P K a2 b3 x4 x5 q6 L1)) (Jl P K a2 b3 x4 x5 q6 L1)
def alH:ar:=bz 2 (alG P K a2 b3 x4 x5 q6 L1)
def alI:ar:=aD (fun f' aS=>(([2,3,4,5,6,7,8]:List Nat).map f':List Value)=[a2,b3,x4,x5,q6,x7,i8]∧L2 (([9,10]:List Nat).map f') aS) (alH P K a2 b3 x4 x5 q6 L1)
def TC:ar:=aD (aj P ao7 (Ag P K)) (Ag P K)
def TD:ar:=aD (aj P ao8 (TC P K)) (TC P K)
def afo:Prop:=av (aj P Ep (Da P K a2 b3 x4 x5 q6 L1)) ([2,3,4,5,6]++[7,8]) ([a2,b3,x4,x5,q6]++xs) h
def afj:Prop:=av (aj P ao4 (alI P K a2 b3 x4 x5 q6 x7 i8 L1 L2)) ([2,3,4,5,6,7,8]++[9,10]) ([a2,b3,x4,x5,q6,x7,i8]++xs) h
def afk:Prop:=av (aj P ao5 (Jl P K a2 b3 x4 x5 q6 L1)) [2,3,4,5,6,7,8,9] [a2,b3,x4,x5,q6,x7,i8,x9] h
def afl:Prop:=av (aj P ao6 (Da P K a2 b3 x4 x5 q6 L1)) [2,3,4,5,6,7,8] [a2,b3,x4,x5,q6,x7,i8] h
def afm:Prop:=av (aj P Eo (Ag P K)) [2,3,4,5,6,7] [a2,b3,x4,x5,q6,x7] h
def afn:Prop:=av (aj P Xe (TD P K)) [3,4,5,12,13,78] [b3,x4,x5,az,aA,eB] h
def Cf:Prop:=av (aj P ao9 (TD P K)) [3,4,5,12,13,78,82] [b3,x4,x5,az,aA,eB,eY] h
theorem axT (a2 b3 x4 x5 q6 x7 i8:Value) (L1 L2:LQ) (x9 aG:Value) (h:ae):afj P K a2 b3 x4 x5 q6 x7 i8 L1 L2 [x9,aG] h=
 (OP (ai .sub aG x9) fun dJ=>
 OP (ai .gtr dJ (.int .i64 (1))) fun dC=>
 aM dC
 (OP (ai .add x9 aG) fun ba=>
 OP (ai .quo ba (.int .i64 (2))) fun cj=>
 OP (aK 1 b3) fun cd=>
 OP (af false 1 h cd) fun gU=>
 ak P 102 [gU,cj] h fun fT h_1=>
 ak P 101 [fT,x7] h_1 fun eP h_2=>
 OP (ai .leq eP (.int .i64 (0))) fun dS=>
 aM dS
 (([a2,b3,x4,x5,q6,x7,i8]:List Value)=[a2,b3,x4,x5,q6,x7,i8]∧L2 [cj,aG] h_2)
 (([a2,b3,x4,x5,q6,x7,i8]:List Value)=[a2,b3,x4,x5,q6,x7,i8]∧L2 [x9,cj] h_2))
 (afk P K a2 b3 x4 x5 q6 x7 i8 x9 L1 h)):=ax (by kernel_rfl)
theorem axU:afk P K a2 b3 x4 x5 q6 x7 i8 x9 L1 h=
 (OP (aU 1 q6 i8) fun gV=>
 OH (aI 1 h gV x9) fun _ h_1=>
 OP (aK 1 b3) fun gJ=>
 OP (af false 1 h_1 gJ) fun hX=>
 ak P 102 [hX,x9] h_1 fun iL h_2=>
 ak P 103 [x7,iL] h_2 fun gW h_3=>
 OP (cT [(.bool false),(.slice none 0 0)] [(1,1,gW)]) fun fv=>
 ak P 100 [fv] h_3 fun oN h_4=>
 OP (wP false 1 1 oN) fun fK=>
 afl P K a2 b3 x4 x5 q6 fK i8 L1 h_4):=ax (by kernel_rfl)
theorem axV:afl P K a2 b3 x4 x5 q6 x7 i8 L1 h=
 (OP (ai .sub i8 (.int .i64 (1))) fun bC=>
 ([a2,b3,x4,x5,q6]:List Value)=[a2,b3,x4,x5,q6]∧L1 [x7,bC] h):=ax (by kernel_rfl)
theorem axY (a2 b3 x4 x5 q6:Value) (L1:LQ) (x7 i8:Value) (h:ae):afo P K a2 b3 x4 x5 q6 L1 [x7,i8] h=
 (OP (ai .geq i8 (.int .i64 (0))) fun bM=>
 aM bM
 (OP (aK 1 a2) fun bD=>
 OP (af false 1 h bD) fun bU=>
 OP (aU 1 bU i8) fun cR=>
 OP (af false 1 h cR) fun ca=>
 OH (dh 3 1 [(.int .i64 (0))] h [(0,1,ca)]) fun cO h_1=>
 OH (dj 3 1 8 h_1 cO x7) fun bX h_2=>
 OP (cT [(.bool false),(.slice none 0 0)] [(1,1,bX)]) fun dd=>
 ak P 100 [dd] h_2 fun cJ h_3=>
 OP (wP false 1 1 cJ) fun dT=>
 cG [(.int .i64 (0)),(.int .i64 (10000))] h_3 fun L2 xs hx=>
 afj P K a2 b3 x4 x5 q6 dT i8 L1 L2 xs hx)
 (afm P K a2 b3 x4 x5 q6 x7 h)):=ax (by kernel_rfl)
theorem QG:Cf P K b3 x4 x5 az aA eB eY h=
 (OP (bL eB eY (.bool false)) fun mC=>
 aM mC
 (OP (af true 2 h az) fun gK=>
 (True)∧
 ak P 55 [(.int .i64 (1))] h fun ke h_1=>
 (af true 2 h_1 az=some gK∧True)∧
 ak P 92 [gK,ke] h_1 fun kV h_2=>
 (True)∧
 OP (af true 2 h_2 b3) fun tE=>
 (af true 2 h b3=some tE∧af true 2 h_1 b3=some tE∧True)∧
 OP (af true 2 h_2 aA) fun fc=>
 (af true 2 h aA=some fc∧af true 2 h_1 aA=some fc∧True)∧
 ak P 92 [tE,fc] h_2 fun gY h_3=>
 (True)∧
 OH (aI 2 h_3 x4 kV) fun _ h_4=>
 (True)∧
 OH (aI 2 h_4 x5 gY) fun _ h_5=>
 (True)∧
 OP (af true 2 h_5 x4) fun r0=>
 OP (af true 2 h_5 x5) fun r1=>
 K (.tuple #[r0,r1]) h_5)
 (OP (af true 2 h az) fun kW=>
 (True)∧
 OP (af true 2 h aA) fun hZ=>
 (True)∧
 OH (aI 2 h x4 kW) fun _ h_1=>
 (af true 2 h_1 aA=some hZ∧True)∧
 OH (aI 2 h_1 x5 hZ) fun _ h_2=>
 (True)∧
 OP (af true 2 h_2 x4) fun r0=>
 OP (af true 2 h_2 x5) fun r1=>
 K (.tuple #[r0,r1]) h_2)):=ax (by kernel_rfl)
theorem axX:afn P K b3 x4 x5 az aA eB h=
 (bZ eB true
 (OP (aK 1 aA) fun iX=>
 OP (af false 1 h iX) fun ka=>
 OP (aY ka) fun hY=>
 OP (ai .gtr hY (.int .i64 (0))) fun eY=>
 Cf P K b3 x4 x5 az aA eB eY h)
 (Cf P K b3 x4 x5 az aA eB undef h)):=ax (by kernel_rfl)
theorem axW:afm P K a2 b3 x4 x5 q6 x7 h=
 (OP (aK 0 a2) fun gj=>
 OP (af false 1 h gj) fun gw=>
 OP (cT [(.bool false),(.slice none 0 0)] [(0,1,gw),(1,1,q6)]) fun gX=>
 ak P 100 [gX] h fun lO h_1=>
 OP (cT [(.bool false),(.slice none 0 0)] [(1,1,x7)]) fun jQ=>
 ak P 100 [jQ] h_1 fun iM h_2=>
 OH (aX 35 [(.bool false),(.slice none 0 0)] h_2) fun az h_3=>
 OH (aX 35 [(.bool false),(.slice none 0 0)] h_3) fun aA h_4=>
 OH (aI 2 h_4 az lO) fun _ h_5=>
 OH (aI 2 h_5 aA iM) fun _ h_6=>
 OP (aK 0 a2) fun gy=>
 OP (af false 1 h_6 gy) fun jm=>
 afn P K b3 x4 x5 az aA jm h_6):=ax (by kernel_rfl)
def KH:Prop:=
 OH (bk 35 h a0) fun a2 h_1=>
 OH (bk 35 h_1 b1) fun b3 h_2=>
 OH (aX 35 [(.bool false),(.slice none 0 0)] h_2) fun x4 h_3=>
 OH (aX 35 [(.bool false),(.slice none 0 0)] h_3) fun x5 h_4=>
 OP (aK 1 a2) fun aP=>
 OP (af false 1 h_4 aP) fun bc=>
 OP (aY bc) fun a9=>
 OH (kR 3 8 [(.int .i64 (0))] h_4 a9 a9) fun bQ h_5=>
 OH (dh 3 0 [(.int .i64 (0))] h_5 []) fun aQ h_6=>
 OP (aK 1 a2) fun aN=>
 OP (af false 1 h_6 aN) fun aW=>
 OP (aY aW) fun bm=>
 OP (ai .sub bm (.int .i64 (1))) fun bJ=>
 cG [aQ,bJ] h_6 fun L1 xs hx=>
 afo P K a2 b3 x4 x5 bQ L1 xs hx
theorem e69:aj P En (aR [.cell true 2 4,.cell true 2 5] K) (bp [a0,b1]) h=KH P K a0 b1 h:=by kernel_rfl
theorem f69 {K:VK} {a0 b1:Value} {h:ae} (H:KH Tryz.prog K a0 b1 h):ak Tryz.prog 69 [a0,b1] h K:=
 bF k69 (Nat.le_of_ble_eq_true rfl) ((e69 Tryz.prog K a0 b1 h).mpr H)
end
end Go.Proofs.YtelmdbpaoifmoaaGreat

namespace Go.Proofs.YtelmdbpaoifmoaaGreat
open Go.Sim

theorem Dx {e:TypeId} {k:IntKind} {h:ae} {v:Value} {xs:List Nat} (d:DS e k h v xs):cT [(.bool false),(.slice none 0 0)] [(1,1,v)]=some (.agg #[B false,v]):=by
 rcases d with ⟨rfl,_⟩ | ⟨i,rfl,_⟩ <;> rfl

theorem MA (b:Bool) (v:Value):wP false 1 1 (.agg #[B b,v])=some v:=rfl

theorem oV {n:Nat} (h:n<10000^201):n<bu:=by
 refine Nat.lt_of_lt_of_le h ?_
 unfold bu
 decide+kernel

theorem eR.H6 {h:ae} {v:Value} {n:Nat} (p:eR h v n):ZV h (.agg #[B false,v]) (n:Int):=⟨v,by rw [decide_eq_false (by omega)],by simpa using p⟩

theorem RR {v:Value} {n d:Nat} {h:ae} {K:Value→ae→Prop} (hv:eR h v n) (hn:n<10000^200) (hd:d≤10000) (hk:∀r h',EX h h'→eR h' r (n*d)→K r h'):ak Tryz.prog 102 [v,I d] h K:=by
 have pv:n<bu:=oV (by
  have:(10000:Nat)^201=10000^200*10000:=by decide+kernel
  omega)
 have asY:n*d<bu:=by
  refine oV ?_
  have h1:n*d≤n*10000:=Nat.mul_le_mul_left _ hd
  have:(10000:Nat)^201=10000^200*10000:=by decide+kernel
  omega
 refine f102 ?_
 obtain ⟨xs,dx,cx⟩:=id hv
 simp only [JF,Dx dx,ah]
 refine uY (z:=d) (by omega) ?_
 intro r1 h1 x1 z1
 refine nP (hv.H6.mono x1) z1 (by simpa using pv) (by have:=oV (n:=10000) (by decide+kernel);simp;omega) ?_
 intro r2 h2 x2 z2
 obtain ⟨u,rfl,hu⟩:=z2
 have e1:((n:Int)*(d:Int)).natAbs=n*d:=by rw [Int.natAbs_mul];simp
 rw [e1] at hu
 have e2:decide ((n:Int)*(d:Int)<0)=false:=decide_eq_false (by have:(n:Int)*(d:Int)=((n*d:Nat):Int):=by simp
                                                               omega)
 rw [e2]
 obtain ⟨ys,dy,cy,vy⟩:=hu
 have ly:=p7 cy (by rw [vy];exact asY)
 refine uW dy cy.1 (by omega) ?_
 intro r3 h3 x3 z3
 simp only [Bool.false_eq_true,if_false,vy] at z3
 obtain ⟨w,rfl,hw⟩:=z3
 rw [MA]
 rw [Int.natAbs_natCast] at hw
 exact ah.2 (hk _ _ ((x1.trans x2).trans x3) hw)

theorem eR.auF {h h':ae} {n i m:Nat} (p:eR h (sl 3 i 0 m) n) (hi:h'[i]?=h[i]?):eR h' (sl 3 i 0 m) n:=by
 obtain ⟨xs,d,c,v⟩:=p
 refine ⟨xs,?_,c,v⟩
 rcases d with ⟨h1,h2⟩ | ⟨j,h1,h2⟩
 ·cases h1
 ·obtain ⟨rfl,rfl⟩:=Rf h1
  refine .inr ⟨i,rfl,h2.imp id ?_⟩
  rintro ⟨r,hr⟩
  refine ⟨r,?_⟩
  unfold aO at hr⊢
  rw [hi];exact hr

theorem aqt {h:ae} {v:Value} {ys:List Nat} {d:Nat} {K:Value→ae→Prop} (p:DS 3 .i64 h v ys) (hl:ys.length≤1000) (hk:∀r h',EX h h'→DS 3 .i64 h' r (d::ys)→K r h'):
  OH (dh 3 1 [.int .i64 0] h [(0,1,I d)]) fun a h1=>OH (dj 3 1 8 h1 a v) K:=by
 have e1:dh 3 1 [.int .i64 0] h [(0,1,I d)]=some (sl 3 h.length 0 1,h++[.arr 3 [I d]]):=rfl
 rw [e1]
 simp only [aE]
 obtain ⟨c1,c2⟩:=(p.mono (EX.append h [.arr 3 [I d]])).cells
 by_cases nw:ys.length=0
 ·have:ys=[]:=List.length_eq_zero_iff.1 nw
  subst this
  have e2:dj 3 1 8 (h++[.arr 3 [I d]]) (sl 3 h.length 0 1) v=some (sl 3 h.length 0 1,h++[.arr 3 [I d]]):=by
   simp [dj,c1,c2,sl,maxLen]
  rw [e2]
  simp only [aE]
  exact hk _ _ (EX.append _ _) (.inr ⟨h.length,rfl,.inr ⟨[],by simp [aO]⟩⟩)
 ·have hg:(h++[aq.arr 3 [I d]])[h.length]?=some (.arr 3 [I d]):=bR
  have e2:dj 3 1 8 (h++[.arr 3 [I d]]) (sl 3 h.length 0 1) v=some (sl 3 (h.length+1) 0 (1+ys.length),(h++[aq.arr 3 [I d]]).set h.length .dead++[.arr 3 ([I d]++ys.map fun d:Nat=>I d)]):=by
   simp only [dj,c1,c2]
   simp only [sl,hg]
   rw [if_pos ⟨trivial,trivial,by simp,by omega,by unfold maxLen;omega⟩,if_neg nw]
   simp
  rw [e2]
  simp only [aE]
  refine hk _ _ (((EX.append _ _).set (Nat.le_refl _) _).push _) (.inr ⟨h.length+1,by rw [List.length_cons,Nat.add_comm 1],.inr ⟨[],?_⟩⟩)
  unfold aO
  rw [List.getElem?_append_right (by simp)]
  simp

theorem aAy (B:Nat) (xs:List Nat) {i:Nat} (hi:i<xs.length):val B (xs.drop i)=xs[i]+B*val B (xs.drop (i+1)):=by
 rw [List.drop_eq_getElem_cons hi];rfl

theorem ahK {a b:Nat}:kS a b≤0↔a≤b:=by
 unfold kS
 split
 ·constructor <;> omega
 ·split <;> constructor <;> omega

theorem IC {va vb:Value} {a b:Int} {h:ae} {K:Value→ae→Prop} (ha:ZV h va a) (hb:ZV h vb b) (n7:0<b) (la:a.natAbs<10000^199) (lb:b.natAbs<10000^199)
  (hk:∀r s h',EX h h'→ZV h' r (a / b)→ZV h' s (a%b)→K (.tuple #[r,s]) h'):ak Tryz.prog 69 [va,vb] h K:=by
 obtain ⟨v,rfl,hv⟩:=ha
 obtain ⟨w,rfl,hw⟩:=hb
 have aBA:(10000:Nat)^200=10000^199*10000:=by decide+kernel
 have aBB:(10000:Nat)^201=10000^200*10000:=by decide+kernel
 refine f69 ?_
 unfold KH
 refine Du ?_
 intro h3 x
 obtain ⟨B,hBb⟩:∃B:Nat,b=B:=⟨b.toNat,by omega⟩
 subst hBb
 have Zi:0<B:=by omega
 have hBl:B<10000^199:=by simpa using lb
 obtain ⟨xs,dx,cx,ex⟩:=hv.mono x.ex
 have l1:=p7 cx (by rw [ex];exact oV (by omega))
 have hwB:eR h3 w B:=by have:=hw.mono x.ex;simpa using this
 have e2:aX 35 [(.bool false),(.slice none 0 0)] h3=some (pt h3.length 0,h3++[.arr 35 [(.bool false),(.slice none 0 0)]]):=rfl
 simp only [e2,aE,bW,Nat.zero_add]
 have x4:EX h3 (h3++[.arr 35 [(.bool false),(.slice none 0 0)]]):=EX.append _ _
 have g5:(h3++[aq.arr 35 [(.bool false),(.slice none 0 0)]])[h3.length]?=some (.arr 35 [(.bool false),(.slice none 0 0)]):=bR
 have hl3:h.length+2<h3.length:=(List.getElem?_eq_some_iff.1 x.out).1
 generalize ZJ:h3++[aq.arr 35 [(.bool false),(.slice none 0 0)]]=h4 at x4 g5⊢
 have hl4:h4.length=h3.length+1:=by rw [←ZJ];simp
 clear ZJ
 have Mf:=dx.mono x4
 simp only [EX.load x4 x.a1,ah,Mf.len,abm (show xs.length≤1000 by omega),aE,OO]
 have e6:IntKind.wrap .i64 ((xs.length:Int)-1)=(xs.length:Int)-1:=wrap64 (by omega) (by omega)
 have x6:EX h4 (hz h4 (List.replicate xs.length 0)++[.arr 3 []]):=(sZ h4 _).push _
 simp only [EX.load (x4.trans x6) x.a1,ah,Mf.len,fz,e6]
 have yL:(hz h4 (List.replicate xs.length 0)++[aq.arr 3 []])[h4.length]?=some (.arr 3 ((List.replicate xs.length 0).map fun d:Nat=>I d)):=by
  rw [List.getElem?_append_left (by simp [hz])];exact aaD _ _
 have qB:eR (hz h4 (List.replicate xs.length 0)++[aq.arr 3 []]) (sl 3 (hz h4 (List.replicate xs.length 0)).length 0 0) 0:=⟨[],.inr ⟨_,rfl,.inl rfl⟩,Canon.nil _,rfl⟩
 refine dc (σ:=Nat×Nat×Value×List Nat×ae) (fun p=>[p.2.2.1,I ((p.1:Int)-1)]) (fun p=>p.2.2.2.2)
  (fun p=>p.1≤xs.length∧EX h4 p.2.2.2.2∧p.2.2.2.2[h4.length]?=some (.arr 3 (p.2.2.2.1.map fun d:Nat=>I d))∧p.2.2.2.1.length=xs.length∧b9 10000 p.2.2.2.1∧eR p.2.2.2.2 p.2.2.1 p.2.1∧p.2.1<B∧val 10000 (p.2.2.2.1.drop p.1)*B+p.2.1=val 10000 (xs.drop p.1)) (fun p=>p.1)
  (xs.length,0,_,List.replicate xs.length 0,_) rfl rfl ⟨Nat.le_refl _,x6,yL,by simp,b9.tH (by decide) _,qB,Zi,by simp [val]⟩ ?_
 rintro ⟨i,R,rv,qs,g⟩ ⟨hi,xg,hq,om,NH,hR,hRB,bS⟩ L hL
 simp only at hi xg hq om NH hR hRB bS hL⊢
 have yZ:∀{g'},EX h4 g'→af false 1 g' (pt h.length 1)=some v:=fun y=>EX.load (x4.trans y) x.a1
 have wZ:∀{g'},EX h4 g'→af false 1 g' (pt (h.length+1) 1)=some w:=fun y=>EX.load (x4.trans y) x.b1
 rw [axY]
 simp only [kl,ah,bK]
 refine ⟨fun cH=>?_,fun aC=>?_⟩
 ·obtain ⟨j,rfl⟩:∃j,i=j+1:=⟨i-1,by omega⟩
  have ej:((j+1:Nat):Int)-1=(j:Int):=by omega
  have FE:j<xs.length:=by omega
  obtain ⟨ia,a1,a2⟩:=(Mf.mono xg).get FE
  have N4:xs[j]<10000:=cx.1 _ (List.getElem_mem FE)
  have hvd:=aAy 10000 xs FE
  rw [ej]
  simp only [bW,Nat.zero_add,yZ xg,ah,a1,a2]
  obtain ⟨rs,dr,cr,vr⟩:=id hR
  have lr:=p7 cr (by rw [vr];exact oV (by omega))
  refine aqt dr (by omega) ?_
  intro r1 g1 y1 d1
  simp only [Dx d1,ah]
  refine RP d1 (fun z hz=>by
   rcases List.mem_cons.1 hz with rfl | hz
   ·exact N4
   ·exact cr.1 z hz) (by simp;omega) ?_
  rintro r2 g2 y2 z2 ⟨fb,fi,fn,rfl,hfi⟩
  have ev:val 10000 (xs[j]::rs)=xs[j]+10000*R:=by simp only [val,vr]
  simp only [Bool.false_eq_true,if_false,ev] at z2
  obtain ⟨rw2,yO,hrw⟩:=z2
  injection yO with yO
  injection yO with yO
  simp only [List.cons.injEq,and_true] at yO
  obtain ⟨_,rfl⟩:=yO
  rw [MA]
  have NP:eR g2 (sl 3 fi 0 fn) (xs[j]+10000*R):=by
   rw [Int.natAbs_natCast] at hrw
   exact hrw
  have aBo:h4.length<fi:=by
   have h9:=(List.getElem?_eq_some_iff.1 hq).1
   have h8:=y1.1
   omega
  simp only [ah]
  have Zk:xs[j]+10000*R<10000*B:=by omega
  generalize hRR:xs[j]+10000*R=R' at NP Zk
  have kf:EX h4 g2:=(xg.trans y1).trans y2
  refine dc (σ:=Nat×Nat×ae) (fun p=>[I p.1,I p.2.1]) (fun p=>p.2.2) (fun p=>p.1<p.2.1∧p.2.1≤10000∧EX g2 p.2.2∧p.1*B≤R'∧R'<p.2.1*B) (fun p=>p.2.1-p.1)
   (0,10000,g2) rfl rfl ⟨by show 0<10000;decide,Nat.le_refl _,EX.refl _,by simp,Zk⟩ ?_
  rintro ⟨lo,me,g3⟩ ⟨hlh,hh,y3,dL,iE⟩ L2 gP
  simp only at hlh hh y3 dL iE gP⊢
  have iN:EX h4 g3:=kf.trans y3
  rw [axT]
  have e7:IntKind.wrap .i64 ((me:Int)-(lo:Int))=((me-lo:Nat):Int):=by rw [wrap64 (by omega) (by omega)];omega
  have e8:IntKind.wrap .i64 ((lo:Int)+(me:Int))=((lo+me:Nat):Int):=by rw [wrap64 (by omega) (by omega)];omega
  simp only [fz,e7,ah,fe,bK]
  refine ⟨fun qw=>?_,fun hle=>?_⟩
  ·simp only [cD,e8,ah]
   rw [show (.int .i64 2:Value)=.int .i64 ((2:Nat):Int) from rfl,QP (by decide) (by omega)]
   simp only [ah,bW,Nat.zero_add,wZ iN]
   have hm:(lo+me) / 2≤10000:=by omega
   refine RR ((hwB.mono x4).mono iN) (by omega) hm ?_
   intro r4 g4 y4 m4
   have M3:B*((lo+me) / 2)<bu:=by
    refine oV ?_
    have:=Nat.mul_le_mul_left B hm
    omega
   refine RQ (a:=B*((lo+me) / 2)) (b:=R') m4 ((NP.mono y3).mono y4) M3 (oV (by omega)) ?_
   simp only [rf,ah,bK,true_and]
   generalize ZY:(lo+me) / 2=mid at*
   have sO:lo<mid∧mid<me:=by omega
   refine ⟨fun h0=>?_,fun h0=>?_⟩
   ·have:=ahK.1 h0
    exact gP (mid,me,g4) ⟨sO.2,hh,y3.trans y4,by show mid*B≤R';rw [Nat.mul_comm];exact this,iE⟩ (by show me-mid<me-lo;omega)
   ·have:¬B*mid≤R':=fun h9=>h0 (ahK.2 h9)
    exact gP (lo,mid,g4) ⟨sO.1,by show mid≤10000;omega,y3.trans y4,dL,by show R'<mid*B;rw [Nat.mul_comm];omega⟩ (by show mid-lo<me-lo;omega)
  ·have hhl:me=lo+1:=by omega
   subst hhl
   have hRl:R'<lo*B+B:=by rw [Nat.succ_mul] at iE;exact iE
   rw [axU]
   have Z4:g3[h4.length]?=some (.arr 3 (qs.map fun d:Nat=>I d)):=by
    rw [←hq]
    have sK:=(List.getElem?_eq_some_iff.1 hq).1
    rw [((y1.trans y2).trans y3).2 _ sK]
   have ad:aU 1 (sl 3 h4.length 0 xs.length) (I j)=some (pt h4.length j):=kZ FE
   simp only [ad,ah]
   rw [oL Z4 (by simp;omega) rfl rfl]
   simp only [aE]
   have es:(qs.map fun d:Nat=>I d).set j (I lo)=(qs.set j lo).map fun d:Nat=>I d:=by rw [List.map_set]
   rw [es]
   have kX:EX h4 (g3.set h4.length (.arr 3 ((qs.set j lo).map fun d:Nat=>I d))):=iN.set (Nat.le_refl _) _
   have NF:(g3.set h4.length (.arr 3 ((qs.set j lo).map fun d:Nat=>I d)))[h4.length]?=some (.arr 3 ((qs.set j lo).map fun d:Nat=>I d)):=cM Z4
   -- ft rest aBf not lie there
   have aad:eR (g3.set h4.length (.arr 3 ((qs.set j lo).map fun d:Nat=>I d))) (sl 3 fi 0 fn) R':=(NP.mono y3).auF (by rw [List.getElem?_set_ne (by omega)])
   generalize g3.set h4.length (.arr 3 ((qs.set j lo).map fun d:Nat=>I d))=g5 at kX NF aad⊢
   simp only [bW,Nat.zero_add,wZ kX,ah]
   refine RR ((hwB.mono x4).mono kX) (by omega) (by omega) ?_
   intro r6 g6 y6 m6
   obtain ⟨us,du,cu,vu⟩:=aad.mono y6
   obtain ⟨ts,dt,ct,vt⟩:=m6
   have ase:B*lo≤R':=by rw [Nat.mul_comm];exact dL
   have lu:=p7 cu (by rw [vu];exact oV (by omega))
   refine It du dt cu.1 ct.1 (by omega) ?_ (by rw [vu,vt];exact ase) ?_
   ·apply Classical.byContradiction
    intro hc
    have:=Canon.xc (by decide) cu ct (by omega)
    omega
   intro r7 g7 os y7 d7 l7 s7 v7
   simp only [Dx d7,ah]
   refine uW d7 l7 (by omega) ?_
   intro r8 g8 y8 z8
   simp only [Bool.false_eq_true,if_false] at z8
   obtain ⟨rw8,rfl,as8⟩:=z8
   rw [MA]
   simp only [ah]
   have ej2:IntKind.wrap .i64 ((j:Int)-1)=(j:Int)-1:=wrap64 (by omega) (by omega)
   simp only [axV,fz,ej2,ah,true_and]
   have asO:lo<10000:=by omega
   have hv7:val 10000 os=R' -B*lo:=by omega
   have as9:eR g8 rw8 (R' -B*lo):=by rw [←hv7];simpa using as8
   have hBB:B*lo=lo*B:=Nat.mul_comm _ _
   refine hL (j,R' -B*lo,rw8,qs.set j lo,g8) ⟨by show j≤xs.length;omega,((kX.trans y6).trans y7).trans y8,?_,by rw [List.length_set];exact om,NH.set asO _,as9,by show R' -B*lo<B;omega,?_⟩ (by show j<j+1;omega)
   ·have sK:=(List.getElem?_eq_some_iff.1 NF).1
    show g8[h4.length]?=_
    rw [((y6.trans y7).trans y8).2 _ sK];exact NF
   ·show val 10000 ((qs.set j lo).drop j)*B+(R' -B*lo)=val 10000 (xs.drop j)
    have hd:(qs.set j lo).drop j=lo::qs.drop (j+1):=by
     rw [List.drop_eq_getElem_cons (by rw [List.length_set];omega),List.getElem_set_self]
     congr 1
     rw [List.drop_set_of_lt (by omega)]
    rw [hd,hvd,←bS]
    simp only [val]
    have h1:(lo+10000*val 10000 (qs.drop (j+1)))*B=lo*B+10000*(val 10000 (qs.drop (j+1))*B):=by rw [Nat.add_mul,Nat.mul_assoc]
    rw [h1]
    omega
 ·have FC:i=0:=by omega
  subst FC
  simp only [List.drop_zero] at bS
  rw [axW]
  have nD:∀{g'},EX h4 g'→af false 1 g' (pt h.length 0)=some (Go.Sim.B (decide (a<0))):=fun y=>EX.load (x4.trans y) x.a0
  have dq:DS 3 .i64 g (sl 3 h4.length 0 xs.length) qs:=by
   rw [←om]
   exact .inr ⟨h4.length,rfl,.inr ⟨[],by simp [aO,hq]⟩⟩
  simp only [bW,Nat.add_zero,nD xg,ah,Lj dq]
  refine uW dq NH (by omega) ?_
  intro r1 g1 y1 z1
  generalize hQ:val 10000 qs=Q at z1 bS
  obtain ⟨rs,dr,cr,vr⟩:=hR.mono y1
  have lr:=p7 cr (by rw [vr];exact oV (by omega))
  simp only [Dx dr,ah]
  refine uW dr cr.1 (by omega) ?_
  intro r2 g2 y2 z2
  simp only [Bool.false_eq_true,if_false,vr] at z2
  have z1:=z1.mono y2
  have kf:EX h4 g2:=(xg.trans y1).trans y2
  have od:h3.length+1≤g2.length:=by have:=kf.1;omega
  obtain ⟨uq,rfl,fJ⟩:=id z1
  obtain ⟨ur,rfl,ot⟩:=id z2
  have e3:∀g':ae,aX 35 [(.bool false),(.slice none 0 0)] g'=some (pt g'.length 0,g'++[.arr 35 [(.bool false),(.slice none 0 0)]]):=fun _=>rfl
  simp only [e3,aE,List.length_append,List.length_cons,List.length_nil,Nat.zero_add]
  have k0:(g2++[aq.arr 35 [(.bool false),(.slice none 0 0)]]++[aq.arr 35 [(.bool false),(.slice none 0 0)]])[g2.length]?=some (.arr 35 [(.bool false),(.slice none 0 0)]):=by simp
  have k1:(g2++[aq.arr 35 [(.bool false),(.slice none 0 0)]]++[aq.arr 35 [(.bool false),(.slice none 0 0)]])[g2.length+1]?=some (.arr 35 [(.bool false),(.slice none 0 0)]):=by simp
  have y3:EX g2 (g2++[aq.arr 35 [(.bool false),(.slice none 0 0)]]++[aq.arr 35 [(.bool false),(.slice none 0 0)]]):=(EX.append _ _).push _
  generalize g2++[aq.arr 35 [(.bool false),(.slice none 0 0)]]++[aq.arr 35 [(.bool false),(.slice none 0 0)]]=g3 at k0 k1 y3⊢
  rw [ef k0]
  simp only [aE]
  have y4:EX g2 (g3.set g2.length (.arr 35 [Go.Sim.B (decide ((if decide (a<0)=true then -(Q:Int) else (Q:Int))<0)),uq])):=y3.set (Nat.le_refl _) _
  have qJ:=cM (o:=.arr 35 [Go.Sim.B (decide ((if decide (a<0)=true then -(Q:Int) else (Q:Int))<0)),uq]) k0
  have jx:(g3.set g2.length (.arr 35 [Go.Sim.B (decide ((if decide (a<0)=true then -(Q:Int) else (Q:Int))<0)),uq]))[g2.length+1]?=some (.arr 35 [(.bool false),(.slice none 0 0)]):=by rw [List.getElem?_set_ne (by omega)];exact k1
  generalize g3.set g2.length (.arr 35 [Go.Sim.B (decide ((if decide (a<0)=true then -(Q:Int) else (Q:Int))<0)),uq])=g4 at y4 qJ jx⊢
  rw [ef jx]
  simp only [aE]
  have y5:EX g2 (g4.set (g2.length+1) (.arr 35 [Go.Sim.B (decide ((R:Int)<0)),ur])):=y4.set (by omega) _
  have m1:=cM (o:=.arr 35 [Go.Sim.B (decide ((R:Int)<0)),ur]) jx
  have m0:(g4.set (g2.length+1) (.arr 35 [Go.Sim.B (decide ((R:Int)<0)),ur]))[g2.length]?=some (.arr 35 [Go.Sim.B (decide ((if decide (a<0)=true then -(Q:Int) else (Q:Int))<0)),uq]):=by rw [List.getElem?_set_ne (by omega)];exact qJ
  generalize g4.set (g2.length+1) (.arr 35 [Go.Sim.B (decide ((R:Int)<0)),ur])=qj at y5 m0 m1⊢
  have kX:EX h4 qj:=kf.trans y5
  have Io:EX h qj:=(x.ex.trans x4).trans kX
  have o4:=kX.get (x4.get x.out)
  have o5:=kX.get g5
  have zq:=z1.mono y5
  have zr:=z2.mono y5
  have zb:ZV qj (.agg #[Go.Sim.B (decide ((B:Int)<0)),w]) (B:Int):=⟨w,rfl,(hw.mono x.ex).mono (x4.trans kX)⟩
  have hQv:Q*B+R=a.natAbs:=by rw [bS,ex]
  -- ft two results
  have put:∀(r s:Value) (g6:ae),EX qj g6→ZV g6 r (a / (B:Int))→ZV g6 s (a%(B:Int))→OH (aI 2 g6 (pt (h.length+2) 0) r) fun _ h_1=>OH (aI 2 h_1 (pt h3.length 0) s) fun _ h_2=>OP (af true 2 h_2 (pt (h.length+2) 0)) fun r0=>OP (af true 2 h_2 (pt h3.length 0)) fun r1=>K (.tuple #[r0,r1]) h_2:=by
   rintro r s g6 y6 CH Is
   obtain ⟨u1,rfl,hu1⟩:=id CH
   obtain ⟨u2,rfl,oz⟩:=id Is
   have n4:=y6.get o4
   have n5:=y6.get o5
   rw [ef n4]
   simp only [aE]
   have Gr:(g6.set (h.length+2) (.arr 35 [Go.Sim.B (decide (a / (B:Int)<0)),u1]))[h3.length]?=some (.arr 35 [.bool false,.slice none 0 0]):=by rw [List.getElem?_set_ne (by omega)];exact n5
   rw [ef Gr]
   simp only [aE]
   have p4:((g6.set (h.length+2) (.arr 35 [Go.Sim.B (decide (a / (B:Int)<0)),u1])).set h3.length (.arr 35 [Go.Sim.B (decide (a%(B:Int)<0)),u2]))[h.length+2]?=some (.arr 35 [Go.Sim.B (decide (a / (B:Int)<0)),u1]):=by
    rw [List.getElem?_set_ne (by omega)];exact cM n4
   rw [cn p4,ah,cn (cM Gr),ah]
   exact hk _ _ _ (((Io.trans y6).set (by omega) _).set (by omega) _) ((CH.bH n4 _).bH Gr _) ((Is.bH n4 _).bH Gr _)
  have asf:(0:Int)<(B:Int):=by omega
  have un:∀q r:Int,r+(B:Int)*q=a→0≤r→r<(B:Int)→a / (B:Int)=q∧a%(B:Int)=r:=fun q r h1 h2 h3=>(Int.ediv_emod_unique asf).2 ⟨h1,h2,h3⟩
  have MX:((Q*B:Nat):Int)=(B:Int)*(Q:Int):=by rw [Int.natCast_mul,Int.mul_comm]
  -- nothing to be aBO
  have plain:(0≤a∨R=0)→Cf Tryz.prog K (pt (h.length+1) 0) (pt (h.length+2) 0) (pt h3.length 0) (pt g2.length 0) (pt (g2.length+1) 0) (Go.Sim.B false) undef qj∧Cf Tryz.prog K (pt (h.length+1) 0) (pt (h.length+2) 0) (pt h3.length 0) (pt g2.length 0) (pt (g2.length+1) 0) (Go.Sim.B true) (Go.Sim.B false) qj:=by
   intro hc
   have By:a / (B:Int)=(if decide (a<0)=true then -(Q:Int) else (Q:Int))∧a%(B:Int)=(R:Int):=by
    by_cases mR:a<0
    ·have Zl:R=0:=by omega
     rw [decide_eq_true mR,if_pos rfl]
     refine un _ _ ?_ (by omega) (by omega)
     rw [Int.mul_neg,←MX]
     omega
    ·rw [decide_eq_false mR,if_neg (by simp)]
     refine un _ _ ?_ (by omega) (by omega)
     rw [←MX]
     omega
   have tail:OP (af true 2 qj (pt g2.length 0)) fun kW=>OP (af true 2 qj (pt (g2.length+1) 0)) fun hZ=>OH (aI 2 qj (pt (h.length+2) 0) kW) fun _ h_1=>(af true 2 h_1 (pt (g2.length+1) 0)=some hZ)∧OH (aI 2 h_1 (pt h3.length 0) hZ) fun _ h_2=>OP (af true 2 h_2 (pt (h.length+2) 0)) fun r0=>OP (af true 2 h_2 (pt h3.length 0)) fun r1=>K (.tuple #[r0,r1]) h_2:=by
    have:=put _ _ qj (EX.refl _) (by rw [By.1];exact zq) (by rw [By.2];exact zr)
    rw [cn m0,ah,cn m1,ah]
    rw [ef o4] at this⊢
    simp only [aE] at this⊢
    refine ⟨?_,this⟩
    refine cn (e:=35) ?_
    rw [List.getElem?_set_ne (by omega)]
    exact m1
   constructor
   ·rw [QG]
    simp only [cY,ah,dp,true_and,and_true]
    exact tail
   ·rw [QG]
    simp only [dA,ah,dp,true_and,and_true]
    exact tail
  have ldl:af false 1 qj (pt (g2.length+1) 1)=some ur:=by simp [af,aO,m1,ck]
  obtain ⟨l,p1,p2⟩:=(ot.mono y5).nE
  have p2':0<l↔0<R:=by simpa using p2
  simp only [nD kX,ah,axX]
  by_cases mR:a<0
  ·rw [decide_eq_true mR]
   simp only [fy,bW,Nat.add_comm 0 1,ldl,ah,p1,fe]
   by_cases Zl:R=0
   ·rw [decide_eq_false (by omega)]
    exact (plain (.inr Zl)).2
   ·rw [decide_eq_true (by omega),QG]
    have aBm:a.natAbs<bu:=oV (by omega)
    have aBk:Q≤a.natAbs:=by
     have:Q*1≤Q*B:=Nat.mul_le_mul_left _ Zi
     omega
    have Bq:(1:Int).natAbs<bu:=abh (by decide+kernel)
    simp only [dA,ah,di,cn m0,true_and]
    refine uY (z:=1) (by decide) ?_
    intro r6 g6 y6 z6
    refine ⟨⟨EX.load y6 (cn m0),trivial⟩,?_⟩
    have Oz:∀{g'},EX h4 g'→af true 2 g' (pt (h.length+1) 0)=some (.agg #[Go.Sim.B (decide ((B:Int)<0)),w]):=fun y=>EX.load (x4.trans y) x.b2
    refine CL (zq.mono y6) z6 (by rw [decide_eq_true mR,if_pos rfl];omega) Bq ?_
    intro r7 g7 y7 z7
    have xg7:=(kX.trans y6).trans y7
    simp only [Oz kX,Oz (kX.trans y6),Oz xg7,ah,cn m1,EX.load y6 (cn m1),EX.load (y6.trans y7) (cn m1),true_and,and_true]
    refine CL (zb.mono (y6.trans y7)) (zr.mono (y6.trans y7)) (by have:=oV (n:=B) (by omega);simpa using this) (by have:=oV (n:=R) (by omega);simpa using this) ?_
    intro r8 g8 y8 z8
    have By:=un (-(Q:Int)-1) ((B:Int)-(R:Int)) (by
     rw [Int.mul_sub,Int.mul_neg,←MX,Int.mul_one]
     omega) (by omega) (by omega)
    rw [decide_eq_true mR,if_pos rfl] at z7
    exact put _ _ g8 ((y6.trans y7).trans y8) (by rw [By.1];exact z7.mono y8) (by rw [By.2];exact z8)
  ·rw [decide_eq_false mR]
   simp only [iz]
   exact (plain (.inl (by omega))).1

end Go.Proofs.YtelmdbpaoifmoaaGreat


namespace Go.Proofs.YtelmdbpaoifmoaaGreat
open Go.Sim

theorem Sv {va:Value} {a:Int} {h:ae} {K:Value→ae→Prop} (ha:ZV h va a) (hk:∀u h',EX h h'→eR h' u a.natAbs→K (.agg #[B false,u]) h'):ak Tryz.prog 94 [va] h K:=by
 obtain ⟨v,rfl,hv⟩:=ha
 refine f94 ?_
 have e1:bk 35 h (.agg #[B (decide (a<0)),v])=some (pt h.length 0,h++[.arr 35 [B (decide (a<0)),v]]):=rfl
 have e2:∀g':ae,aX 35 [(.bool false),(.slice none 0 0)] g'=some (pt g'.length 0,g'++[.arr 35 [(.bool false),(.slice none 0 0)]]):=fun _=>rfl
 simp only [K1,e1,e2,aE,List.length_append,List.length_cons,List.length_nil,Nat.zero_add]
 have k0:(h++[aq.arr 35 [B (decide (a<0)),v]]++[aq.arr 35 [(.bool false),(.slice none 0 0)]])[h.length]?=some (.arr 35 [B (decide (a<0)),v]):=by simp
 have k1:(h++[aq.arr 35 [B (decide (a<0)),v]]++[aq.arr 35 [(.bool false),(.slice none 0 0)]])[h.length+1]?=some (.arr 35 [(.bool false),(.slice none 0 0)]):=by simp
 have x1:EX h (h++[aq.arr 35 [B (decide (a<0)),v]]++[aq.arr 35 [(.bool false),(.slice none 0 0)]]):=(EX.append _ _).push _
 generalize h++[aq.arr 35 [B (decide (a<0)),v]]++[aq.arr 35 [(.bool false),(.slice none 0 0)]]=h1 at k0 k1 x1⊢
 simp only [bW,Nat.add_zero,ah]
 rw [oL k0 (by simp) rfl rfl]
 simp only [aE,List.set_cons_zero]
 have jx:(h1.set h.length (.arr 35 [B false,v]))[h.length+1]?=some (.arr 35 [(.bool false),(.slice none 0 0)]):=by rw [List.getElem?_set_ne (by omega)];exact k1
 rw [cn (cM k0)]
 simp only [ah]
 exact vN jx (hk _ _ ((x1.set (Nat.le_refl _) _).set (by omega) _) (((hv.mono x1).bH k0 _).bH jx _))

theorem So {va vb:Value} {a b:Int} {h:ae} {K:Value→ae→Prop} (ha:ZV h va a) (hb:ZV h vb b) (la:a.natAbs<10000^199) (lb:b.natAbs<10000^199)
  (hk:∀u h',EX h h'→eR h' u (Nat.gcd a.natAbs b.natAbs)→K (.agg #[B false,u]) h'):ak Tryz.prog 68 [va,vb] h K:=by
 have pb:=ha
 have n7:=hb
 obtain ⟨v,rfl,hv⟩:=ha
 obtain ⟨w,rfl,hw⟩:=hb
 refine f68 ?_
 have e1:∀(g:ae) (s:Bool) (v:Value),bk 35 g (.agg #[B s,v])=some (pt g.length 0,g++[.arr 35 [B s,v]]):=fun _ _ _=>rfl
 have e2:∀g':ae,aX 35 [(.bool false),(.slice none 0 0)] g'=some (pt g'.length 0,g'++[.arr 35 [(.bool false),(.slice none 0 0)]]):=fun _=>rfl
 simp only [KG,e1,e2,aE,List.length_append,List.length_cons,List.length_nil,Nat.zero_add]
 have k0:(h++[aq.arr 35 [B (decide (a<0)),v]]++[aq.arr 35 [B (decide (b<0)),w]]++[aq.arr 35 [(.bool false),(.slice none 0 0)]])[h.length]?=some (.arr 35 [B (decide (a<0)),v]):=by simp
 have k1:(h++[aq.arr 35 [B (decide (a<0)),v]]++[aq.arr 35 [B (decide (b<0)),w]]++[aq.arr 35 [(.bool false),(.slice none 0 0)]])[h.length+1]?=some (.arr 35 [B (decide (b<0)),w]):=by simp
 have k2:(h++[aq.arr 35 [B (decide (a<0)),v]]++[aq.arr 35 [B (decide (b<0)),w]]++[aq.arr 35 [(.bool false),(.slice none 0 0)]])[h.length+2]?=some (.arr 35 [(.bool false),(.slice none 0 0)]):=by simp
 have x1:EX h (h++[aq.arr 35 [B (decide (a<0)),v]]++[aq.arr 35 [B (decide (b<0)),w]]++[aq.arr 35 [(.bool false),(.slice none 0 0)]]):=((EX.append _ _).push _).push _
 generalize h++[aq.arr 35 [B (decide (a<0)),v]]++[aq.arr 35 [B (decide (b<0)),w]]++[aq.arr 35 [(.bool false),(.slice none 0 0)]]=h1 at k0 k1 k2 x1⊢
 rw [cn k0]
 simp only [ah,true_and]
 refine Sv (pb.mono x1) ?_
 intro u2 h2 x2 m2
 simp only [cn k1,EX.load x2 (cn k1),ah,true_and]
 refine Sv (n7.mono (x1.trans x2)) ?_
 intro u3 h3 x3 m3
 have qJ:=(x2.trans x3).get k0
 have jx:=(x2.trans x3).get k1
 have BN:=(x2.trans x3).get k2
 have aA:=(x1.trans x2).trans x3
 have m2:=m2.mono x3
 rw [ef qJ]
 simp only [aE]
 have q1:(h3.set h.length (.arr 35 [B false,u2]))[h.length+1]?=some (.arr 35 [B (decide (b<0)),w]):=by rw [List.getElem?_set_ne (by omega)];exact jx
 rw [ef q1]
 simp only [aE]
 refine dc (σ:=Nat×Nat×Value×Value×ae) (fun _=>[]) (fun p=>p.2.2.2.2)
  (fun p=>EX h p.2.2.2.2∧p.2.2.2.2[h.length]?=some (.arr 35 [B false,p.2.2.1])∧p.2.2.2.2[h.length+1]?=some (.arr 35 [B false,p.2.2.2.1])∧p.2.2.2.2[h.length+2]?=some (.arr 35 [.bool false,.slice none 0 0])∧eR p.2.2.2.2 p.2.2.1 p.1∧eR p.2.2.2.2 p.2.2.2.1 p.2.1∧p.1<10000^199∧p.2.1<10000^199∧Nat.gcd p.1 p.2.1=Nat.gcd a.natAbs b.natAbs) (fun p=>p.2.1)
  (a.natAbs,b.natAbs,u2,u3,(h3.set h.length (.arr 35 [B false,u2])).set (h.length+1) (.arr 35 [B false,u3])) rfl rfl
  ⟨(aA.set (Nat.le_refl _) _).set (by omega) _,by rw [List.getElem?_set_ne (by omega)];exact cM qJ,cM q1,by rw [List.getElem?_set_ne (by omega),List.getElem?_set_ne (by omega)];exact BN,(m2.bH qJ _).bH q1 _,(m3.bH qJ _).bH q1 _,la,lb,rfl⟩ ?_
 rintro ⟨x,y,ux,uy,g⟩ ⟨xg,j0,j1,j2,mx,my,lx,ly,hg⟩ L hL
 simp only at xg j0 j1 j2 mx my lx ly hg hL⊢
 rw [axS]
 obtain ⟨l,p1,p2⟩:=my.nE
 have ld:af false 1 g (pt (h.length+1) 1)=some uy:=by simp [af,aO,j1,ck]
 simp only [bW,Nat.zero_add,ld,ah,p1,fe,bK]
 refine ⟨fun qw=>?_,fun hle=>?_⟩
 ·have hy:0<y:=p2.1 (by omega)
  rw [cn j0,ah,cn j1,ah]
  refine IC mx.H6 my.H6 (by omega) (by simpa using lx) (by simpa using ly) ?_
  intro r s g1 y1 zr zs
  obtain ⟨u5,rfl,hu5⟩:=id zr
  obtain ⟨u6,hs6,hu6⟩:=id zs
  have fQ:decide ((x:Int)%(y:Int)<0)=false:=decide_eq_false (by have:=Int.emod_nonneg (x:Int) (show (y:Int)≠0 by omega);omega)
  rw [fQ] at hs6
  subst hs6
  have hmv:((x:Int)%(y:Int)).natAbs=x%y:=by
   rw [←Int.natCast_emod,Int.natAbs_natCast]
  rw [hmv] at hu6
  have gl:h.length+2<g1.length:=by
   have:=(List.getElem?_eq_some_iff.1 j2).1
   have:=y1.1
   omega
  simp only [eJ,fq,fC,ah,e2,aE,List.length_append,List.length_cons,List.length_nil,Nat.zero_add]
  have n0:(g1++[aq.arr 35 [(.bool false),(.slice none 0 0)]]++[aq.arr 35 [(.bool false),(.slice none 0 0)]])[g1.length]?=some (.arr 35 [(.bool false),(.slice none 0 0)]):=by simp
  have n1:(g1++[aq.arr 35 [(.bool false),(.slice none 0 0)]]++[aq.arr 35 [(.bool false),(.slice none 0 0)]])[g1.length+1]?=some (.arr 35 [(.bool false),(.slice none 0 0)]):=by simp
  have y2:EX g1 (g1++[aq.arr 35 [(.bool false),(.slice none 0 0)]]++[aq.arr 35 [(.bool false),(.slice none 0 0)]]):=(EX.append _ _).push _
  generalize g1++[aq.arr 35 [(.bool false),(.slice none 0 0)]]++[aq.arr 35 [(.bool false),(.slice none 0 0)]]=g2 at n0 n1 y2⊢
  rw [ef n0]
  simp only [aE]
  have Gq:(g2.set g1.length (.arr 35 [B (decide ((x:Int) / (y:Int)<0)),u5]))[g1.length+1]?=some (.arr 35 [(.bool false),(.slice none 0 0)]):=by rw [List.getElem?_set_ne (by omega)];exact n1
  rw [ef Gq]
  simp only [aE]
  have y3:EX g1 ((g2.set g1.length (.arr 35 [B (decide ((x:Int) / (y:Int)<0)),u5])).set (g1.length+1) (.arr 35 [B false,u6])):=(y2.set (Nat.le_refl _) _).set (by omega) _
  have n6:=cM (o:=.arr 35 [B false,u6]) Gq
  generalize (g2.set g1.length (.arr 35 [B (decide ((x:Int) / (y:Int)<0)),u5])).set (g1.length+1) (.arr 35 [B false,u6])=g3 at y3 n6⊢
  have i0:=(y1.trans y3).get j0
  have i1:=(y1.trans y3).get j1
  have i2:=(y1.trans y3).get j2
  rw [cn i1]
  simp only [ah,true_and,cn n6]
  rw [ef i0]
  simp only [aE,and_true]
  have s6:(g3.set h.length (.arr 35 [B false,uy]))[g1.length+1]?=some (.arr 35 [B false,u6]):=by rw [List.getElem?_set_ne (by omega)];exact n6
  have s1:(g3.set h.length (.arr 35 [B false,uy]))[h.length+1]?=some (.arr 35 [B false,uy]):=by rw [List.getElem?_set_ne (by omega)];exact i1
  refine ⟨cn s6,?_⟩
  rw [ef s1]
  simp only [aE]
  have aC:x%y<y:=Nat.mod_lt _ hy
  refine hL (y,x%y,uy,u6,(g3.set h.length (.arr 35 [B false,uy])).set (h.length+1) (.arr 35 [B false,u6])) ⟨(((xg.trans y1).trans y3).set (Nat.le_refl _) _).set (by omega) _,?_,cM s1,?_,(((my.mono y1).mono y3).bH i0 _).bH s1 _,(((hu6.mono y3)).bH i0 _).bH s1 _,ly,by show x%y<_;omega,?_⟩ aC
  ·show ((g3.set h.length _).set (h.length+1) _)[h.length]?=_
   rw [List.getElem?_set_ne (by omega)];exact cM i0
  ·show ((g3.set h.length _).set (h.length+1) _)[h.length+2]?=_
   rw [List.getElem?_set_ne (by omega),List.getElem?_set_ne (by omega)];exact i2
  ·show Nat.gcd y (x%y)=_
   rw [←hg,Nat.gcd_comm x y,Nat.gcd_rec y x,Nat.gcd_comm]
 ·have hy:y=0:=by
   apply Classical.byContradiction
   intro hc
   have:=p2.2 (by omega)
   omega
  subst hy
  rw [axR,cn j0]
  simp only [ah]
  rw [Nat.gcd_zero_right] at hg
  subst hg
  exact vN j2 (hk _ _ (xg.set (by omega) _) (mx.bH j2 _))

theorem C25 {va:Value} {a b:Int} {h:ae} {K:Value→ae→Prop} (ha:QZ h va a b) (hb:0<b) (la:a.natAbs<10000^199) (lb:b.natAbs<10000^199)
  (hk:∀r h',EX h h'→QZ h' r (a / (Nat.gcd a.natAbs b.natAbs:Int)) (b / (Nat.gcd a.natAbs b.natAbs:Int))→K r h'):ak Tryz.prog 25 [va] h K:=by
 obtain ⟨u,w,rfl,hu,hw⟩:=ha
 refine f25 ?_
 have e1:bk 37 h (.agg #[B (decide (a<0)),u,B (decide (b<0)),w])=some (pt h.length 0,h++[.arr 37 [B (decide (a<0)),u,B (decide (b<0)),w]]):=rfl
 have e2:∀g':ae,aX 35 [(.bool false),(.slice none 0 0)] g'=some (pt g'.length 0,g'++[.arr 35 [(.bool false),(.slice none 0 0)]]):=fun _=>rfl
 have e4:∀g':ae,aX 37 [(.bool false),(.slice none 0 0),(.bool false),(.slice none 0 0)] g'=some (pt g'.length 0,g'++[.arr 37 z4]):=fun _=>rfl
 simp only [Km,e1,e4,aE,List.length_append,List.length_cons,List.length_nil,Nat.zero_add]
 have k0:(h++[aq.arr 37 [B (decide (a<0)),u,B (decide (b<0)),w]]++[aq.arr 37 z4])[h.length]?=some (.arr 37 [B (decide (a<0)),u,B (decide (b<0)),w]):=by simp
 have k1:(h++[aq.arr 37 [B (decide (a<0)),u,B (decide (b<0)),w]]++[aq.arr 37 z4])[h.length+1]?=some (.arr 37 z4):=by simp
 have x1:EX h (h++[aq.arr 37 [B (decide (a<0)),u,B (decide (b<0)),w]]++[aq.arr 37 z4]):=(EX.append _ _).push _
 generalize h++[aq.arr 37 [B (decide (a<0)),u,B (decide (b<0)),w]]++[aq.arr 37 z4]=h1 at k0 k1 x1⊢
 have za:ZV h1 (.agg #[B (decide (a<0)),u]) a:=⟨u,rfl,hu.mono x1⟩
 have zb:ZV h1 (.agg #[B (decide (b<0)),w]) b:=⟨w,rfl,hw.mono x1⟩
 simp only [bW,Nat.add_zero,Nat.zero_add,jg k0,lJ k0,ah]
 refine So za zb la lb ?_
 intro ug h2 x2 mg
 have asA:0<Nat.gcd a.natAbs b.natAbs:=Nat.gcd_pos_of_pos_right _ (by omega)
 have ZG:Nat.gcd a.natAbs b.natAbs≤b.natAbs:=Nat.le_of_dvd (by omega) (Nat.gcd_dvd_right _ _)
 generalize Nat.gcd a.natAbs b.natAbs=g at mg asA ZG hk
 have zg:=mg.H6
 simp only [e2,aE]
 rw [ef bR]
 simp only [aE]
 have x3:EX h2 ((h2++[aq.arr 35 [(.bool false),(.slice none 0 0)]]).set h2.length (.arr 35 [B false,ug])):=EX.set (EX.append _ _) (Nat.le_refl _) _
 have k3:((h2++[aq.arr 35 [(.bool false),(.slice none 0 0)]]).set h2.length (.arr 35 [B false,ug]))[h2.length]?=some (.arr 35 [B false,ug]):=cM bR
 generalize (h2++[aq.arr 35 [(.bool false),(.slice none 0 0)]]).set h2.length (.arr 35 [B false,ug])=h3 at x3 k3⊢
 have aA:=x2.trans x3
 simp only [EX.load aA (jg k0),cn k3,ah]
 have lg:((g:Nat):Int).natAbs<10000^199:=by rw [Int.natAbs_natCast];omega
 refine IC (za.mono aA) (zg.mono x3) (by omega) la lg ?_
 intro r s h4 x4 zr zs
 obtain ⟨ur,rfl,hur⟩:=id zr
 obtain ⟨us,rfl,yR⟩:=id zs
 simp only [eJ,fq,fC,ah,List.length_append,List.length_cons,List.length_nil,Nat.zero_add]
 have n0:(h4++[aq.arr 35 [(.bool false),(.slice none 0 0)]]++[aq.arr 35 [(.bool false),(.slice none 0 0)]])[h4.length]?=some (.arr 35 [(.bool false),(.slice none 0 0)]):=by simp
 have n1:(h4++[aq.arr 35 [(.bool false),(.slice none 0 0)]]++[aq.arr 35 [(.bool false),(.slice none 0 0)]])[h4.length+1]?=some (.arr 35 [(.bool false),(.slice none 0 0)]):=by simp
 have y2:EX h4 (h4++[aq.arr 35 [(.bool false),(.slice none 0 0)]]++[aq.arr 35 [(.bool false),(.slice none 0 0)]]):=(EX.append _ _).push _
 generalize h4++[aq.arr 35 [(.bool false),(.slice none 0 0)]]++[aq.arr 35 [(.bool false),(.slice none 0 0)]]=h5 at n0 n1 y2⊢
 rw [ef n0]
 simp only [aE]
 have Gq:(h5.set h4.length (.arr 35 [B (decide (a / (g:Int)<0)),ur]))[h4.length+1]?=some (.arr 35 [(.bool false),(.slice none 0 0)]):=by rw [List.getElem?_set_ne (by omega)];exact n1
 rw [ef Gq]
 simp only [aE]
 have y3:EX h4 ((h5.set h4.length (.arr 35 [B (decide (a / (g:Int)<0)),ur])).set (h4.length+1) (.arr 35 [B (decide (a%(g:Int)<0)),us])):=(y2.set (Nat.le_refl _) _).set (by omega) _
 have n0':((h5.set h4.length (.arr 35 [B (decide (a / (g:Int)<0)),ur])).set (h4.length+1) (.arr 35 [B (decide (a%(g:Int)<0)),us]))[h4.length]?=some (.arr 35 [B (decide (a / (g:Int)<0)),ur]):=by rw [List.getElem?_set_ne (by omega)];exact cM n0
 generalize (h5.set h4.length (.arr 35 [B (decide (a / (g:Int)<0)),ur])).set (h4.length+1) (.arr 35 [B (decide (a%(g:Int)<0)),us])=h6 at y3 n0'⊢
 have a9:=(aA.trans x4).trans y3
 have cJ:=x4.trans y3
 simp only [EX.load a9 (lJ k0),EX.load cJ (cn k3),ah]
 refine IC (zb.mono a9) (zg.mono (x3.trans cJ)) (by omega) lb lg ?_
 intro r' s' h7 x7 CH Is
 obtain ⟨Cw,rfl,aBD⟩:=id CH
 obtain ⟨H7,rfl,aBE⟩:=id Is
 simp only [eJ,fq,fC,ah]
 have m0:(h7++[aq.arr 35 [(.bool false),(.slice none 0 0)]]++[aq.arr 35 [(.bool false),(.slice none 0 0)]])[h7.length]?=some (.arr 35 [(.bool false),(.slice none 0 0)]):=by simp
 have m1:(h7++[aq.arr 35 [(.bool false),(.slice none 0 0)]]++[aq.arr 35 [(.bool false),(.slice none 0 0)]])[h7.length+1]?=some (.arr 35 [(.bool false),(.slice none 0 0)]):=by simp
 have w2:EX h7 (h7++[aq.arr 35 [(.bool false),(.slice none 0 0)]]++[aq.arr 35 [(.bool false),(.slice none 0 0)]]):=(EX.append _ _).push _
 generalize h7++[aq.arr 35 [(.bool false),(.slice none 0 0)]]++[aq.arr 35 [(.bool false),(.slice none 0 0)]]=h8 at m0 m1 w2⊢
 rw [ef m0]
 simp only [aE]
 have Gk:(h8.set h7.length (.arr 35 [B (decide (b / (g:Int)<0)),Cw]))[h7.length+1]?=some (.arr 35 [(.bool false),(.slice none 0 0)]):=by rw [List.getElem?_set_ne (by omega)];exact m1
 rw [ef Gk]
 simp only [aE]
 have w3:EX h7 ((h8.set h7.length (.arr 35 [B (decide (b / (g:Int)<0)),Cw])).set (h7.length+1) (.arr 35 [B (decide (b%(g:Int)<0)),H7])):=(w2.set (Nat.le_refl _) _).set (by omega) _
 have m0':((h8.set h7.length (.arr 35 [B (decide (b / (g:Int)<0)),Cw])).set (h7.length+1) (.arr 35 [B (decide (b%(g:Int)<0)),H7]))[h7.length]?=some (.arr 35 [B (decide (b / (g:Int)<0)),Cw]):=by rw [List.getElem?_set_ne (by omega)];exact cM m0
 generalize (h8.set h7.length (.arr 35 [B (decide (b / (g:Int)<0)),Cw])).set (h7.length+1) (.arr 35 [B (decide (b%(g:Int)<0)),H7])=h9 at w3 m0'⊢
 have gw:=x7.trans w3
 rw [EX.load gw (cn n0'),ah,cn m0',ah]
 exact vL (zr.mono (y3.trans gw)) (CH.mono w3) (x1.trans (a9.trans gw)) (by omega) ((a9.trans gw).get k1) hk

end Go.Proofs.YtelmdbpaoifmoaaGreat


namespace Go.Proofs.YtelmdbpaoifmoaaGreat
open Go.Sim

theorem xy {b:Nat} (h:b<4294967296):b<bu:=abh (Nat.lt_of_lt_of_le h (by decide))

theorem HJ {a b:Nat}:kS a b<0↔a<b:=by
 unfold kS
 constructor
 ·intro h
  apply Classical.byContradiction
  intro hn
  rw [if_neg hn] at h
  split at h <;> omega
 ·intro h;rw [if_pos h];decide

theorem aiP {va vb:Value} {a b:Nat} {h:ae} {K:Value→ae→Prop} (ha:cX h va a) (hb:cX h vb b) (la:a<bu) (b0:0<b) (lb:b<4294967296) (hk:∀q r h',EX h h'→cX h' q (a / b)→cX h' r (a%b)→K (.tuple #[q,r]) h'):
  ak Tryz.prog 130 [va,vb] h K:=by
 refine f130 ?_
 unfold Dk
 refine CI ha hb la (xy lb) ?_
 simp only [cI,ah,bK]
 refine ⟨fun aC=>?_,fun cH=>?_⟩
 ·have gB:=HJ.1 aC
  have pb:=ha
  obtain ⟨xs,d,c,rfl⟩:=ha
  obtain ⟨s1,s2⟩:=d.cells
  have lx:=nU c la
  have hq:∀g,cX g (.slice none 0 0) (val 4294967296 xs / b):=fun g=>⟨[],DS.nil _ _ _,⟨fun x hx=>by simp at hx,by simp⟩,by rw [Nat.div_eq_of_lt gB];rfl⟩
  by_cases h0:xs.length=0
  ·have e:dj 177 1 4 h (.slice none 0 0) va=some (.slice none 0 0,h):=by
    simp only [dj,s1,s2]
    rw [if_pos h0]
   simp only [e,aE]
   have:xs=[]:=List.length_eq_zero_iff.1 h0
   subst this
   exact hk _ _ h (EX.refl h) (hq h) ⟨[],DS.nil _ _ _,c,by rw [Nat.mod_eq_of_lt gB]⟩
  ·have e:dj 177 1 4 h (.slice none 0 0) va=some (sl 177 h.length 0 xs.length,h++[.arr 177 (xs.map fun d:Nat=>Value.int .u32 (d:Int))]):=by
    simp only [dj,s1,s2]
    rw [if_neg h0,if_pos ⟨by omega,by unfold maxLen;omega⟩]
   simp only [e,aE]
   refine hk _ _ _ (EX.append _ _) (hq _) ⟨xs,.inr ⟨h.length,rfl,.inr ⟨[],?_⟩⟩,c,by rw [Nat.mod_eq_of_lt gB]⟩
   simp [aO]
 ·have gB:b≤a:=by
   apply Classical.byContradiction
   intro hc
   exact cH (HJ.2 (by omega))
  obtain ⟨ys,d,c,hy⟩:=id hb
  have hlen:ys.length=1:=by
   have h1:ys.length≤1:=c.len (k:=1) (by decide) (by rw [hy];simpa using lb)
   have h2:ys≠[]:=by rintro rfl;simp [val] at hy;omega
   have:0<ys.length:=List.length_pos_iff.2 h2
   omega
  obtain ⟨y,rfl⟩:∃y,ys=[y]:=by
   match ys,hlen with
   | [y],_=>exact ⟨y,rfl⟩
  have oB:y=b:=by simpa [val] using hy
  subst oB
  obtain ⟨i,g1,g2⟩:=d.get (j:=0) (by simp)
  have vR:aU 1 vb (.int .i64 (0))=some (pt i 0):=g1
  have OF:aY vb=some (I 1):=d.len
  simp only [OF,ah,fX,decide_true,di,vR,g2,List.getElem_cons_zero]
  refine RZ ha la b0 lb ?_
  intro q h2 x2 hq
  have mk:∀(g:ae) (r:Nat),dh 177 1 [(.int .u32 (0))] g [(0,1,.int .u32 (r:Int))]=some (sl 177 g.length 0 1,g++[.arr 177 [.int .u32 (r:Int)]]):=fun _ _=>rfl
  simp only [eJ,fq,fC,ah,mk,aE]
  have x3:EX h2 (h2++[.arr 177 [.int .u32 ((a%y:Nat):Int)]]):=EX.append _ _
  have dr:DS 177 .u32 (h2++[.arr 177 [.int .u32 ((a%y:Nat):Int)]]) (sl 177 h2.length 0 1) [a%y]:=.inr ⟨h2.length,rfl,.inr ⟨[],by simp [aO]⟩⟩
  have hm:a%y<y:=Nat.mod_lt _ b0
  refine pV dr (fun x hx=>by rw [List.mem_singleton.1 hx];omega) (by simp) ?_
  intro v' iS
  have e:val 4294967296 [a%y]=a%y:=by simp [val]
  rw [e] at iS
  exact hk _ _ _ (x2.trans x3) (hq.mono x3) iS

theorem RX {va:Value} {a:Int} {h:ae} {K:Value→ae→Prop} (ha:dE h va a) (hk:∀h',EX h h'→K (I (if a=0 then 0 else if a<0 then -1 else 1)) h'):ak Tryz.prog 109 [va] h K:=by
 obtain ⟨v,rfl,hv⟩:=ha
 refine f109 ?_
 have e1:bk 105 h (.agg #[B (decide (a<0)),v])=some (pt h.length 0,h++[.arr 105 [B (decide (a<0)),v]]):=rfl
 have x1:EX h (h++[.arr 105 [B (decide (a<0)),v]]):=EX.append _ _
 have l1:af false 1 (h++[aq.arr 105 [B (decide (a<0)),v]]) (pt h.length 1)=some v:=uI rfl
 have l0:af false 1 (h++[aq.arr 105 [B (decide (a<0)),v]]) (pt h.length 0)=some (B (decide (a<0))):=uI rfl
 obtain ⟨l,e2,e3⟩:=hv.nE
 simp only [JM,e1,aE,bW,Nat.zero_add,Nat.add_zero,ah,l1,l0,e2,fX,bK]
 refine ⟨fun hz=>?_,fun hz=>⟨fun hn=>?_,fun hn=>?_⟩⟩
 ·have:=hk _ x1
  rw [if_pos (by omega)] at this
  exact this
 ·have:=hk _ x1
  rw [if_neg (by omega),if_pos hn] at this
  exact this
 ·have:=hk _ x1
  rw [if_neg (by omega),if_neg hn] at this
  exact this

theorem Iu {va vb:Value} {a b:Int} {h:ae} {K:Value→ae→Prop} (ha:dE h va a) (hb:dE h vb b) (la:a.natAbs<bu) (lb:b.natAbs<bu) (hk:∀h',EX h h'→K (I (if a-b=0 then 0 else if a-b<0 then -1 else 1)) h'):ak Tryz.prog 111 [va,vb] h K:=by
 have pb:=ha
 have n7:=hb
 obtain ⟨v,rfl,hv⟩:=ha
 obtain ⟨w,rfl,hw⟩:=hb
 refine f111 ?_
 have e1:∀(g:ae) (s:Bool) (v:Value),bk 105 g (.agg #[B s,v])=some (pt g.length 0,g++[.arr 105 [B s,v]]):=fun _ _ _=>rfl
 simp only [JP,e1,aE]
 have g0:(h++[aq.arr 105 [B (decide (a<0)),v]]++[aq.arr 105 [B (decide (b<0)),w]])[h.length]?=some (.arr 105 [B (decide (a<0)),v]):=by simp
 have g1:(h++[aq.arr 105 [B (decide (a<0)),v]]++[aq.arr 105 [B (decide (b<0)),w]])[(h++[aq.arr 105 [B (decide (a<0)),v]]).length]?=some (.arr 105 [B (decide (b<0)),w]):=bR
 have x1:EX h (h++[aq.arr 105 [B (decide (a<0)),v]]++[aq.arr 105 [B (decide (b<0)),w]]):=(EX.append _ _).push _
 generalize h++[aq.arr 105 [B (decide (a<0)),v]]++[aq.arr 105 [B (decide (b<0)),w]]=h1 at g0 g1 x1⊢
 rw [cn g0,cn g1]
 simp only [ah]
 refine aiN (pb.mono x1) (n7.mono x1) la lb ?_
 intro r h2 x2 hr
 exact RX hr fun h3 x3=>hk h3 (x1.trans (x2.trans x3))

theorem dE.nat {h:ae} {v:Value} {n:Nat} (p:cX h v n):dE h (.agg #[B false,v]) (n:Int):=⟨v,by rw [decide_eq_false (by omega)],by rwa [Int.natAbs_natCast]⟩

end Go.Proofs.YtelmdbpaoifmoaaGreat


namespace Go.Sim

theorem val_two {B:Nat} {xs:List Nat} (h:b9 B xs) {n:Nat} (hn:xs.length=n+2):∃l,l<B^n∧val B xs=l+(xs[n]+xs[n+1]*B)*B^n:=by
 refine ⟨val B (xs.take n),?_,?_⟩
 ·have:=kT (xs:=xs.take n) (h.mono fun y hy=>List.mem_of_mem_take hy)
  rwa [List.length_take,Nat.min_eq_left (by omega)] at this
 ·have h1:=gT B xs (i:=n) (by omega)
  have h2:=gT B xs (i:=n+1) (by omega)
  rw [List.take_of_length_le (by omega),h1] at h2
  rw [h2,Nat.pow_succ]
  generalize B^n=P
  grind

theorem aAz {B:Nat} {xs:List Nat} (h:b9 B xs) {n:Nat} (hn:xs.length=n+3):∃l,l<B^n∧val B xs=l+(xs[n]+(xs[n+1]+xs[n+2]*B)*B)*B^n:=by
 refine ⟨val B (xs.take n),?_,?_⟩
 ·have:=kT (xs:=xs.take n) (h.mono fun y hy=>List.mem_of_mem_take hy)
  rwa [List.length_take,Nat.min_eq_left (by omega)] at this
 ·have h1:=gT B xs (i:=n) (by omega)
  have h2:=gT B xs (i:=n+1) (by omega)
  have h3:=gT B xs (i:=n+2) (by omega)
  rw [List.take_of_length_le (by omega),h2,h1] at h3
  rw [h3,show B^(n+2)=B^n*B*B from by rw [Nat.pow_succ,Nat.pow_succ],Nat.pow_succ]
  generalize B^n=P
  grind

def mid (us:List Nat) (j:Nat) (xs:List Nat):List Nat:=us.take j++(xs++us.drop (j+xs.length))

theorem zh {us:List Nat} {j:Nat} {xs:List Nat} (h:j+xs.length≤us.length):(mid us j xs).length=us.length:=by
 unfold mid
 simp only [List.length_append,List.length_take,List.length_drop]
 omega

theorem abr {us:List Nat} {j k:Nat} {xs:List Nat} (hj:j≤us.length) (h:xs.length≤k):(mid us j xs)[j+k]?=us[j+k]?:=by
 unfold mid
 rw [List.getElem?_append_right (by rw [List.length_take];omega),List.length_take,Nat.min_eq_left hj,Nat.add_sub_cancel_left,List.getElem?_append_right h,List.getElem?_drop]
 congr 1
 omega

theorem auZ {us:List Nat} {j k:Nat} {xs:List Nat} (hj:j≤us.length) (h:k<xs.length):(mid us j xs)[j+k]?=xs[k]?:=by
 unfold mid
 rw [List.getElem?_append_right (by rw [List.length_take];omega),List.length_take,Nat.min_eq_left hj,Nat.add_sub_cancel_left,List.getElem?_append_left h]

theorem Gm {us:List Nat} {j d:Nat} {xs:List Nat} (h:j+xs.length<us.length):(mid us j xs).set (j+xs.length) d=mid us j (xs++[d]):=by
 unfold mid
 rw [List.set_append_right _ _ (by rw [List.length_take];omega),List.length_take,Nat.min_eq_left (by omega),Nat.add_sub_cancel_left,List.set_append_right _ _ (Nat.le_refl _),Nat.sub_self,List.drop_eq_getElem_cons h,List.set_cons_zero,List.length_append,List.append_assoc]
 rfl

theorem abt (us:List Nat) (j:Nat):mid us j []=us:=by unfold mid;simp

theorem auY {us:List Nat} {j:Nat} {xs ys:List Nat} (hj:j+xs.length≤us.length) (h:ys.length=xs.length):mid (mid us j xs) j ys=mid us j ys:=by
 unfold mid
 have e1:(us.take j++(xs++us.drop (j+xs.length))).take j=us.take j:=by
  rw [List.take_append_of_le_length (by rw [List.length_take];omega),List.take_take,Nat.min_self]
 have e2:(us.take j++(xs++us.drop (j+xs.length))).drop (j+ys.length)=us.drop (j+ys.length):=by
  rw [h,←List.append_assoc,List.drop_append_of_le_length (by rw [List.length_append,List.length_take];omega),List.drop_eq_nil_of_le (by rw [List.length_append,List.length_take];omega),List.nil_append]
 rw [e1,e2]

section
variable {B P U V ul vl u2 v2 top v1 : Nat}

theorem asc (hU:U=ul+(u2+top*B)*P) (pC:ul<P) (oz:u2<B) (hV:V=vl+(v2+v1*B)*P) (h1:0<v1):U / V≤top / v1:=by
 rw [Nat.le_div_iff_mul_le h1]
 have h2:U / V*V≤U:=Nat.div_mul_le_self U V
 generalize U / V=q at*
 apply Classical.byContradiction
 intro hn
 have h3:top+1≤q*v1:=by omega
 have h4:(top+1)*(B*P)≤q*v1*(B*P):=Nat.mul_le_mul_right _ h3
 have h5:q*v1*(B*P)≤q*V:=by
  rw [hV]
  have:q*(vl+(v2+v1*B)*P)=q*v1*(B*P)+q*(vl+v2*P):=by grind
  omega
 have h6:U<(top+1)*(B*P):=by
  have e1:(top+1)*(B*P)=top*B*P+B*P:=by grind
  have e2:(u2+top*B)*P=u2*P+top*B*P:=by grind
  have e3:(u2+1)*P≤B*P:=Nat.mul_le_mul_right _ (by omega)
  have e4:(u2+1)*P=u2*P+P:=by grind
  omega
 omega

theorem asb {g r:Nat} (hU:U=ul+(u2+top*B)*P) (pC:ul<P) (hV:V=vl+(v2+v1*B)*P) (ry:U<V*B) (hg:g*v1+r=top) (hq:U / V≤g) (rz:B≤g∨r*B+u2<g*v2):U / V+1≤g:=by
 have hV0:0<V:=by
  apply Nat.pos_of_ne_zero
  intro e
  rw [e] at ry
  omega
 have NG:U / V<B:=by rw [Nat.div_lt_iff_lt_mul hV0,Nat.mul_comm];exact ry
 rcases rz with hb | hb
 ·omega
 have h2:U / V*V≤U:=Nat.div_mul_le_self U V
 generalize U / V=q at*
 apply Classical.byContradiction
 intro hn
 have hqg:q=g:=by omega
 subst hqg
 have h3:q*((v2+v1*B)*P)≤q*V:=by rw [hV];exact Nat.mul_le_mul_left _ (by omega)
 have h4:q*(v2+v1*B)*P<(u2+top*B+1)*P:=by
  have e1:q*((v2+v1*B)*P)=q*(v2+v1*B)*P:=by grind
  have e2:(u2+top*B+1)*P=(u2+top*B)*P+P:=by grind
  omega
 have h5:q*(v2+v1*B)<u2+top*B+1:=Nat.lt_of_mul_lt_mul_right h4
 rw [←hg] at h5
 have e3:q*(v2+v1*B)=q*v2+q*v1*B:=by grind
 have e4:(q*v1+r)*B=q*v1*B+r*B:=by grind
 omega

theorem Y8 {g r:Nat} (hU:U=ul+(u2+top*B)*P) (hV:V=vl+(v2+v1*B)*P) (pE:vl<P) (h1:0<v1) (hg:g*v1+r=top) (nu:g<B) (aB:g*v2≤r*B+u2):g*V<U+V:=by
 have e1:g*V=g*vl+(g*v2+g*v1*B)*P:=by rw [hV];grind
 have e2:top*B=g*v1*B+r*B:=by rw [←hg];grind
 have e3:(g*v2+g*v1*B)*P≤(u2+top*B)*P:=Nat.mul_le_mul_right _ (by omega)
 have e4:g*vl<V:=by
  have a1:g*vl≤g*P:=Nat.mul_le_mul_left _ (by omega)
  have hP:0<P:=by omega
  have a2:g*P<B*P:=Nat.mul_lt_mul_of_pos_right nu hP
  have a3:B*P≤v1*B*P:=by
   have:1*(B*P)≤v1*(B*P):=Nat.mul_le_mul_right _ h1
   rw [Nat.mul_assoc]
   omega
  have a4:(v2+v1*B)*P=v2*P+v1*B*P:=by grind
  omega
 omega

theorem aAn {un w:Nat} (hB:0<B) (hU:U=ul+(u2+top*B)*P) (qE:top=w+un*B) (hV:V=vl+(v2+v1*B)*P) (pE:vl<P) (pD:v2<B) (ry:U<V*B):un≤v1:=by

 apply Classical.byContradiction
 intro hn
 have h1:(v1+1)*(B*P)*B≤un*(B*P)*B:=Nat.mul_le_mul_right _ (Nat.mul_le_mul_right _ (by omega))
 have h2:un*(B*P)*B≤U:=by
  rw [hU,qE]
  have:(u2+(w+un*B)*B)*P=(u2+w*B)*P+un*(B*P)*B:=by grind
  omega
 have h3:V<(v1+1)*(B*P):=by
  have e1:(v1+1)*(B*P)=v1*B*P+B*P:=by grind
  have e2:(v2+v1*B)*P=v2*P+v1*B*P:=by grind
  have e3:(v2+1)*P≤B*P:=Nat.mul_le_mul_right _ (by omega)
  have e4:(v2+1)*P=v2*P+P:=by grind
  omega
 have h4:V*B<(v1+1)*(B*P)*B:=Nat.mul_lt_mul_of_pos_right h3 hB
 omega

end
end Go.Sim


namespace Go.Proofs.YtelmdbpaoifmoaaGreat
open Go.Sim
variable (P : Program) (K : VK)
/-! F135: math/bits.LeadingZeros32 -/
noncomputable section
variable (x0 : Value) (h : ae)
def acq:=bw Tryz.prog 135 [[],[]]
@[irreducible] def VV:=bE acq
theorem auw:acq=some (6,VV,[.tmp 2]):=by kernel_rfl
def Kb:Prop:=
 ak P 141 [x0] h fun x4 h_1=>
 OP (ai .sub (.int .i64 (32)) x4) fun x5=>
 K x5 h_1
theorem arh:aj P VV (aR [.tmp 2] K) (bp [x0]) h=Kb P K x0 h:=by kernel_rfl
theorem f135 {K:VK} {x0:Value} {h:ae} (H:Kb Tryz.prog K x0 h):ak Tryz.prog 135 [x0] h K:=
 bF auw (Nat.le_of_ble_eq_true rfl) ((arh Tryz.prog K x0 h).mpr H)
end
/-! F136: pommel/num.up -/
noncomputable section
variable (x0 n1 x5 aA aP bc : Value) (L1 : LQ) (xs : List Value) (h : ae)
def acr:=bw Tryz.prog 136 [[],[],[],[1,5,13,14],[15],[],[],[],[],[],[],[5],[]]
@[irreducible] def D0:=bE acr
@[irreducible] def anV:=D0.r.r.l.r.l.l
@[irreducible] def VW:=D0.r.r.r
@[irreducible] def anU:=VW.l
theorem auy:acr=some (41,D0,[.tmp 4]):=by kernel_rfl
def I7 (_P:Program) (K:VK):ar:=aR [.tmp 4] K
def akz:ar:=aD (aj P VW (I7 P K)) (I7 P K)
def akA:ar:=bz 0 (akz P K)
def akB:ar:=aD (fun f' aS=>(([1,5,13,14]:List Nat).map f':List Value)=[n1,x5,aA,aP]∧L1 (([15]:List Nat).map f') aS) (akA P K)
def aev:Prop:=av (aj P anV (akB P K n1 x5 aA aP L1)) ([1,5,13,14]++[15]) ([n1,x5,aA,aP]++xs) h
def aeu:Prop:=av (aj P anU (I7 P K)) [5] [x5] h
theorem awH (n1 x5 aA aP:Value) (L1:LQ) (bc:Value) (h:ae):aev P K n1 x5 aA aP L1 [bc] h=
 (OP (ai .lss bc aP) fun a9=>
 aM a9
 (OP (aU 1 aA bc) fun aQ=>
 OP (af false 1 h aQ) fun aN=>
 OP (df .u64 aN) fun bm=>
 OP (ai .shl bm n1) fun cF=>
 OP (aU 1 x5 bc) fun bC=>
 OP (af false 1 h bC) fun bD=>
 OP (df .u32 cF) fun cA=>
 OP (ai .or bD cA) fun cR=>
 OP (aU 1 x5 bc) fun ca=>
 OH (aI 1 h ca cR) fun _ h_1=>
 OP (ai .add bc (.int .i64 (1))) fun bX=>
 OP (ai .shr cF (.int .u64 (32))) fun cJ=>
 OP (df .u32 cJ) fun dT=>
 OP (aU 1 x5 bX) fun cV=>
 OH (aI 1 h_1 cV dT) fun _ h_2=>
 OP (ai .add bc (.int .i64 (1))) fun dR=>
 ([n1,x5,aA,aP]:List Value)=[n1,x5,aA,aP]∧L1 [dR] h_2)
 (aeu P K x5 h)):=ax (by kernel_rfl)
theorem awG:aeu P K x5 h=
 (K x5 h):=ax (by kernel_rfl)
def Kc:Prop:=
 OP (aY x0) fun aG=>
 OP (ai .add aG (.int .i64 (1))) fun ay=>
 OH (kR 177 4 [(.int .u32 (0))] h ay ay) fun az h_1=>
 OP (aY x0) fun aP=>
 cG [(.int .i64 (0))] h_1 fun L1 xs hx=>
 aev P K n1 az x0 aP L1 xs hx
theorem ari:aj P D0 (aR [.tmp 4] K) (bp [x0,n1]) h=Kc P K x0 n1 h:=by kernel_rfl
theorem f136 {K:VK} {x0 n1:Value} {h:ae} (H:Kc Tryz.prog K x0 n1 h):ak Tryz.prog 136 [x0,n1] h K:=
 bF auy (Nat.le_of_ble_eq_true rfl) ((ari Tryz.prog K x0 n1 h).mpr H)
end
/-! F137: pommel/num.digit -/
noncomputable section
variable (u0 v1 n5 x7 x8 x9 aG aA mC gK kU xC : Value) (L1 : LQ) (xs : List Value) (h : ae)
def acs:=bw Tryz.prog 137 [[],[],[],[],[0,1,5],[7,8],[],[],[],[],[],[0,1,5,7],[],[],[0,1,5,7,83],[9,10,84],[],[],[],[],[],[],[0,1,5,7,9,10],[],[],[],[],[],[0,1,5,7,132],[13,133],[],[],[],[],[0,5,7,13],[7],[]]
@[irreducible] def D1:=bE acs
@[irreducible] def an0:=D1.r.r.r.r.l.l.l
@[irreducible] def V1:=D1.r.r.r.r.r
@[irreducible] def Lw:=V1.l
@[irreducible] def anW:=Lw.r.l.r.l.l
@[irreducible] def VX:=Lw.r.r
@[irreducible] def D2:=VX.l
@[irreducible] def anX:=D2.r.l.r.l.r.r.l.r.l.l
@[irreducible] def VZ:=D2.r.l.r.l.r.r.r
@[irreducible] def VY:=D2.r.r
@[irreducible] def anY:=VZ.l
@[irreducible] def anZ:=VY.l
theorem auz:acs=some (162,D1,[.tmp 4]):=by kernel_rfl
def sk (_P:Program) (K:VK):ar:=aR [.tmp 4] K
def akI:ar:=aD (aj P V1 (sk P K)) (sk P K)
def akJ:ar:=bz 0 (akI P K)
def akK:ar:=aD (fun f' aS=>(([0,1,5]:List Nat).map f':List Value)=[u0,v1,n5]∧L1 (([7,8]:List Nat).map f') aS) (akJ P K)
def akC:ar:=aD (aj P VX (sk P K)) (sk P K)
def akD:ar:=bz 2 (akC P K)
def akE:ar:=aD (fun f' aS=>(([0,1,5,7,83]:List Nat).map f':List Value)=[u0,v1,n5,x7,mC]∧L1 (([9,10,84]:List Nat).map f') aS) (akD P K)
def I8:ar:=aD (aj P VY (sk P K)) (sk P K)
def akF:ar:=aD (aj P VZ (I8 P K)) (I8 P K)
def akG:ar:=bz 4 (akF P K)
def akH:ar:=aD (fun f' aS=>(([0,1,5,7,132]:List Nat).map f':List Value)=[u0,v1,n5,x7,kU]∧L1 (([13,133]:List Nat).map f') aS) (akG P K)
def aez:Prop:=av (aj P an0 (akK P K u0 v1 n5 L1)) ([0,1,5]++[7,8]) ([u0,v1,n5]++xs) h
def uJ:Prop:=av (aj P Lw (sk P K)) [0,1,5,7] [u0,v1,n5,x7] h
def aew:Prop:=av (aj P anW (akE P K u0 v1 n5 x7 mC L1)) ([0,1,5,7,83]++[9,10,84]) ([u0,v1,n5,x7,mC]++xs) h
def aex:Prop:=av (aj P D2 (sk P K)) [0,1,5,7,9,10] [u0,v1,n5,x7,x9,aG] h
def PA:Prop:=av (aj P anX (akH P K u0 v1 n5 x7 kU L1)) ([0,1,5,7,132]++[13,133]) ([u0,v1,n5,x7,kU]++xs) h
def aey:Prop:=av (aj P anY (I8 P K)) [0,5,7,13] [u0,n5,x7,aA] h
def B8:Prop:=av (aj P anZ (sk P K)) [7] [x7] h
theorem awO (u0 v1 n5:Value) (L1:LQ) (x7 x8:Value) (h:ae):aez P K u0 v1 n5 L1 [x7,x8] h=
 (OP (ai .shr x7 (.int .u64 (32))) fun gU=>
 OP (ai .gtr gU (.int .u64 (0))) fun eX=>
 bZ eX false
 (OP (ai .sub n5 (.int .i64 (2))) fun jB=>
 OP (aU 1 v1 jB) fun cS=>
 OP (af false 1 h cS) fun gv=>
 (True)∧
 OP (df .u64 gv) fun gh=>
 OP (ai .mul x7 gh) fun dK=>
 OP (ai .shl x8 (.int .u64 (32))) fun eQ=>
 OP (ai .sub n5 (.int .i64 (2))) fun lN=>
 OP (aU 1 u0 lN) fun iL=>
 OP (af false 1 h iL) fun gW=>
 (True)∧
 OP (df .u64 gW) fun fv=>
 OP (ai .or eQ fv) fun oN=>
 OP (ai .gtr dK oN) fun fK=>
 OP (bL eX (.bool true) fK) fun gj=>
 aM gj
 (OP (ai .sub x7 (.int .u64 (1))) fun jP=>
 OP (ai .sub n5 (.int .i64 (1))) fun jQ=>
 OP (aU 1 v1 jQ) fun iM=>
 OP (af false 1 h iM) fun gy=>
 OP (df .u64 gy) fun jm=>
 OP (ai .add x8 jm) fun eB=>
 OP (ai .shr eB (.int .u64 (32))) fun ka=>
 OP (ai .gtr ka (.int .u64 (0))) fun hY=>
 aM hY
 (uJ P K u0 v1 n5 jP h)
 (([u0,v1,n5]:List Value)=[u0,v1,n5]∧L1 [jP,eB] h))
 (uJ P K u0 v1 n5 x7 h))
 (OP (bL eX (.bool true) undef) fun gj=>
 aM gj
 (OP (ai .sub x7 (.int .u64 (1))) fun jP=>
 OP (ai .sub n5 (.int .i64 (1))) fun jQ=>
 OP (aU 1 v1 jQ) fun iM=>
 OP (af false 1 h iM) fun gy=>
 OP (df .u64 gy) fun jm=>
 OP (ai .add x8 jm) fun eB=>
 OP (ai .shr eB (.int .u64 (32))) fun ka=>
 OP (ai .gtr ka (.int .u64 (0))) fun hY=>
 aM hY
 (uJ P K u0 v1 n5 jP h)
 (([u0,v1,n5]:List Value)=[u0,v1,n5]∧L1 [jP,eB] h))
 (uJ P K u0 v1 n5 x7 h))):=ax (by kernel_rfl)
theorem awJ (u0 v1 n5 x7 mC:Value) (L1:LQ) (x9 aG gK:Value) (h:ae):aew P K u0 v1 n5 x7 mC L1 [x9,aG,gK] h=
 (OP (ai .lss gK mC) fun ke=>
 aM ke
 (OP (aU 1 v1 gK) fun kW=>
 OP (af false 1 h kW) fun hZ=>
 OP (df .u64 hZ) fun oO=>
 OP (ai .mul x7 oO) fun tF=>
 OP (ai .add tF x9) fun zU=>
 OP (ai .shr zU (.int .u64 (32))) fun CD=>
 OP (aU 1 u0 gK) fun xz=>
 OP (af false 1 h xz) fun CB=>
 OP (df .u32 zU) fun RC=>
 ak P 134 [CB,RC,aG] h fun zT h_1=>
 OP (cC 0 zT) fun Ik=>
 OP (cC 1 zT) fun RD=>
 OP (aU 1 u0 gK) fun RE=>
 OH (aI 1 h_1 RE Ik) fun _ h_2=>
 OP (ai .add gK (.int .i64 (1))) fun RF=>
 ([u0,v1,n5,x7,mC]:List Value)=[u0,v1,n5,x7,mC]∧L1 [CD,RD,RF] h_2)
 (aex P K u0 v1 n5 x7 x9 aG h)):=ax (by kernel_rfl)
theorem awL (u0 v1 n5 x7 kU:Value) (L1:LQ) (aA xC:Value) (h:ae):PA P K u0 v1 n5 x7 kU L1 [aA,xC] h=
 (OP (ai .lss xC kU) fun aAQ=>
 aM aAQ
 (OP (aU 1 u0 xC) fun aAR=>
 OP (af false 1 h aAR) fun aAS=>
 (True)∧
 OP (aU 1 v1 xC) fun aAT=>
 OP (af false 1 h aAT) fun aAU=>
 (True)∧
 ak P 133 [aAS,aAU,aA] h fun ain h_1=>
 (True)∧
 OP (cC 0 ain) fun aAV=>
 OP (cC 1 ain) fun aAW=>
 OP (aU 1 u0 xC) fun aAX=>
 OH (aI 1 h_1 aAX aAV) fun _ h_2=>
 (True)∧
 OP (ai .add xC (.int .i64 (1))) fun aAY=>
 ([u0,v1,n5,x7,kU]:List Value)=[u0,v1,n5,x7,kU]∧L1 [aAW,aAY] h_2)
 (aey P K u0 n5 x7 aA h)):=ax (by kernel_rfl)
theorem awM:aey P K u0 n5 x7 aA h=
 (OP (aU 1 u0 n5) fun aAZ=>
 OP (af false 1 h aAZ) fun aA0=>
 OP (ai .add aA0 aA) fun aA1=>
 OP (aU 1 u0 n5) fun aA2=>
 OH (aI 1 h aA2 aA1) fun _ h_1=>
 B8 P K x7 h_1):=ax (by kernel_rfl)
theorem awN:B8 P K x7 h=
 (OP (df .u32 x7) fun aA3=>
 K aA3 h):=ax (by kernel_rfl)
theorem awK:aex P K u0 v1 n5 x7 x9 aG h=
 (OP (aU 1 u0 n5) fun aAI=>
 OP (af false 1 h aAI) fun aAJ=>
 OP (df .u32 x9) fun aAK=>
 ak P 134 [aAJ,aAK,aG] h fun ail h_1=>
 OP (cC 0 ail) fun aAL=>
 OP (cC 1 ail) fun aAM=>
 OP (aU 1 u0 n5) fun aAN=>
 OH (aI 1 h_1 aAN aAL) fun _ h_2=>
 OP (ai .gtr aAM (.int .u32 (0))) fun aAO=>
 aM aAO
 (OP (ai .sub x7 (.int .u64 (1))) fun aAP=>
 OP (aY v1) fun kU=>
 cG [(.int .u32 (0)),(.int .i64 (0))] h_2 fun L1 xs hx=>
 PA P K u0 v1 n5 aAP kU L1 xs hx)
 (B8 P K x7 h_2)):=ax (by kernel_rfl)
theorem awI:uJ P K u0 v1 n5 x7 h=
 (OP (aY v1) fun mC=>
 cG [(.int .u64 (0)),(.int .u32 (0)),(.int .i64 (0))] h fun L1 xs hx=>
 aew P K u0 v1 n5 x7 mC L1 xs hx):=ax (by kernel_rfl)
def Kd:Prop:=
 OP (aY v1) fun a9=>
 OP (aU 1 u0 a9) fun aN=>
 OP (af false 1 h aN) fun aW=>
 (True)∧
 OP (df .u64 aW) fun bm=>
 OP (ai .shl bm (.int .u64 (32))) fun bJ=>
 OP (ai .sub a9 (.int .i64 (1))) fun bt=>
 OP (aU 1 u0 bt) fun bC=>
 OP (af false 1 h bC) fun bD=>
 (True)∧
 OP (df .u64 bD) fun bU=>
 OP (ai .or bJ bU) fun cA=>
 OP (ai .sub a9 (.int .i64 (1))) fun dI=>
 OP (aU 1 v1 dI) fun bX=>
 OP (af false 1 h bX) fun dd=>
 (True)∧
 OP (df .u64 dd) fun cJ=>
 OP (ai .quo cA cJ) fun dT=>
 OP (ai .sub a9 (.int .i64 (1))) fun dC=>
 OP (aU 1 v1 dC) fun dn=>
 OP (af false 1 h dn) fun bO=>
 (True)∧
 OP (df .u64 bO) fun ba=>
 OP (ai .rem cA ba) fun cj=>
 cG [dT,cj] h fun L1 xs hx=>
 aez P K u0 v1 a9 L1 xs hx
theorem arj:aj P D1 (aR [.tmp 4] K) (bp [u0,v1]) h=Kd P K u0 v1 h:=by kernel_rfl
theorem f137 {K:VK} {u0 v1:Value} {h:ae} (H:Kd Tryz.prog K u0 v1 h):ak Tryz.prog 137 [u0,v1] h K:=
 bF auz (Nat.le_of_ble_eq_true rfl) ((arj Tryz.prog K u0 v1 h).mpr H)
end
/-! F138: pommel/num.down -/
noncomputable section
variable (x0 n1 x5 i6 t7 az aA : Value) (L1 : LQ) (xs : List Value) (h : ae)
def acu:=bw Tryz.prog 138 [[],[],[],[0,1,5,12],[13],[],[],[],[],[],[0,1,5,6,7,12,13],[0,1,5,12,13],[5],[]]
@[irreducible] def D3:=bE acu
@[irreducible] def Lx:=D3.r.r.l.r.l.l
@[irreducible] def V3:=D3.r.r.r
@[irreducible] def an1:=Lx.r.r.l.l.r.r.r.l
@[irreducible] def V4:=Lx.r.r.r
@[irreducible] def an3:=V3.l
@[irreducible] def an2:=V4.l
theorem auA:acu=some (45,D3,[.tmp 4]):=by kernel_rfl
def I9 (_P:Program) (K:VK):ar:=aR [.tmp 4] K
def akM:ar:=aD (aj P V3 (I9 P K)) (I9 P K)
def akN:ar:=bz 0 (akM P K)
def CZ:ar:=aD (fun f' aS=>(([0,1,5,12]:List Nat).map f':List Value)=[x0,n1,x5,az]∧L1 (([13]:List Nat).map f') aS) (akN P K)
def akO:ar:=aD (aj P V4 (CZ P K x0 n1 x5 az L1)) (CZ P K x0 n1 x5 az L1)
def akL:ar:=bz 1 (akO P K x0 n1 x5 az L1)
def aeC:Prop:=av (aj P Lx (CZ P K x0 n1 x5 az L1)) ([0,1,5,12]++[13]) ([x0,n1,x5,az]++xs) h
def GN:Prop:=av (aj P an1 (akL P K x0 n1 x5 az L1)) [0,1,5,6,7,12,13] [x0,n1,x5,i6,t7,az,aA] h
def aeA:Prop:=av (aj P an2 (CZ P K x0 n1 x5 az L1)) [0,1,5,12,13] [x0,n1,x5,az,aA] h
def aeB:Prop:=av (aj P an3 (I9 P K)) [5] [x5] h
theorem awP:GN P K x0 n1 x5 i6 t7 az aA L1 h=
 (OP (ai .shr t7 n1) fun dR=>
 OP (df .u32 dR) fun dJ=>
 OP (aU 1 x5 i6) fun dC=>
 OH (aI 1 h dC dJ) fun _ h_1=>
 aeA P K x0 n1 x5 az aA L1 h_1):=ax (by kernel_rfl)
theorem awQ:aeA P K x0 n1 x5 az aA L1 h=
 (OP (ai .add aA (.int .i64 (1))) fun dn=>
 ([x0,n1,x5,az]:List Value)=[x0,n1,x5,az]∧L1 [dn] h):=ax (by kernel_rfl)
theorem awS (x0 n1 x5 az:Value) (L1:LQ) (aA:Value) (h:ae):aeC P K x0 n1 x5 az L1 [aA] h=
 (OP (ai .lss aA az) fun aP=>
 aM aP
 (OP (aU 1 x0 aA) fun aQ=>
 OP (af false 1 h aQ) fun aN=>
 OP (df .u64 aN) fun aW=>
 OP (ai .add aA (.int .i64 (1))) fun bJ=>
 OP (aY x0) fun bM=>
 OP (ai .lss bJ bM) fun bt=>
 aM bt
 (OP (ai .add aA (.int .i64 (1))) fun cA=>
 OP (aU 1 x0 cA) fun cR=>
 OP (af false 1 h cR) fun ca=>
 OP (df .u64 ca) fun cO=>
 OP (ai .shl cO (.int .u64 (32))) fun dI=>
 OP (ai .or aW dI) fun bX=>
 GN P K x0 n1 x5 aA bX az aA L1 h)
 (GN P K x0 n1 x5 aA aW az aA L1 h))
 (aeB P K x5 h)):=ax (by kernel_rfl)
theorem awR:aeB P K x5 h=
 (ak P 118 [x5] h fun ba h_1=>
 K ba h_1):=ax (by kernel_rfl)
def Ke:Prop:=
 OP (aY x0) fun x9=>
 OH (kR 177 4 [(.int .u32 (0))] h x9 x9) fun aG h_1=>
 OP (aY x0) fun az=>
 cG [(.int .i64 (0))] h_1 fun L1 xs hx=>
 aeC P K x0 n1 aG az L1 xs hx
theorem ark:aj P D3 (aR [.tmp 4] K) (bp [x0,n1]) h=Ke P K x0 n1 h:=by kernel_rfl
theorem f138 {K:VK} {x0 n1:Value} {h:ae} (H:Ke Tryz.prog K x0 n1 h):ak Tryz.prog 138 [x0,n1] h K:=
 bF auA (Nat.le_of_ble_eq_true rfl) ((ark Tryz.prog K x0 n1 h).mpr H)
end
/-! F141: math/bits.Len32 -/
noncomputable section
variable (x0 n2 : Value) (h : ae)
def acx:=bw Tryz.prog 141 [[],[],[],[0,2],[],[],[0,2],[]]
@[irreducible] def LA:=bE acx
@[irreducible] def Wj:=LA.r.r.l
@[irreducible] def aoj:=Wj.r.l
theorem auD:acx=some (19,LA,[.tmp 2]):=by kernel_rfl
def Te (_P:Program) (K:VK):ar:=aR [.tmp 2] K
def GR:Prop:=av (aj P Wj (Te P K)) [0,2] [x0,n2] h
def GS:Prop:=av (aj P aoj (Te P K)) [0,2] [x0,n2] h
theorem aw9:GS P K x0 n2 h=
 (OP (df .u8 x0) fun bc=>
 OP (iT (.string ⟨#[0,1,2,2,3,3,3,3,4,4,4,4,4,4,4,4,5,5,5,5,5,5,5,5,5,5,5,5,5,5,5,5,6,6,6,6,6,6,6,6,6,6,6,6,6,6,6,6,6,6,6,6,6,6,6,6,6,6,6,6,6,6,6,6,7,7,7,7,7,7,7,7,7,7,7,7,7,7,7,7,7,7,7,7,7,7,7,7,7,7,7,7,7,7,7,7,7,7,7,7,7,7,7,7,7,7,7,7,7,7,7,7,7,7,7,7,7,7,7,7,7,7,7,7,7,7,7,7,8,8,8,8,8,8,8,8,8,8,8,8,8,8,8,8,8,8,8,8,8,8,8,8,8,8,8,8,8,8,8,8,8,8,8,8,8,8,8,8,8,8,8,8,8,8,8,8,8,8,8,8,8,8,8,8,8,8,8,8,8,8,8,8,8,8,8,8,8,8,8,8,8,8,8,8,8,8,8,8,8,8,8,8,8,8,8,8,8,8,8,8,8,8,8,8,8,8,8,8,8,8,8,8,8,8,8,8,8,8,8,8,8,8,8,8,8,8,8,8,8,8,8,8,8,8,8,8]⟩) bc) fun a9=>
 OP (df .i64 a9) fun bQ=>
 OP (ai .add n2 bQ) fun aQ=>
 K aQ h):=ax (by kernel_rfl)
theorem aw8:GR P K x0 n2 h=
 (OP (ai .geq x0 (.int .u32 (256))) fun x8=>
 aM x8
 (OP (ai .shr x0 (.int .u64 (8))) fun aG=>
 OP (ai .add n2 (.int .i64 (8))) fun az=>
 GS P K aG az h)
 (GS P K x0 n2 h)):=ax (by kernel_rfl)
def Kh:Prop:=
 OP (ai .geq x0 (.int .u32 (65536))) fun x4=>
 aM x4
 (OP (ai .shr x0 (.int .u64 (16))) fun x6=>
 GR P K x6 (.int .i64 (16)) h)
 (GR P K x0 (.int .i64 (0)) h)
theorem aro:aj P LA (aR [.tmp 2] K) (bp [x0]) h=Kh P K x0 h:=by kernel_rfl
theorem f141 {K:VK} {x0:Value} {h:ae} (H:Kh Tryz.prog K x0 h):ak Tryz.prog 141 [x0] h K:=
 bF auD (Nat.le_of_ble_eq_true rfl) ((aro Tryz.prog K x0 h).mpr H)
end
end Go.Proofs.YtelmdbpaoifmoaaGreat

namespace Go.Proofs.YtelmdbpaoifmoaaGreat
open Go.Sim

def wv (us:List Nat):List Value:=us.map fun d:Nat=>Value.int .u32 (d:Int)

theorem aij (us:List Nat):(wv us).length=us.length:=by simp [wv]

theorem oU {e:TypeId} {id o n k:Nat} (hk:k<n):aU 1 (sl e id o n) (I k)=some (pt id (o+k)):=by
 have:(0:Int)≤(k:Int)∧(k:Int)<(n:Int):=by omega
 simp [sl,aU,this]

theorem AF {g:ae} {iv id:Nat} {o:aq} (h:iv≠id):aO (g.set id o) iv=aO g iv:=by
 unfold aO
 rw [List.getElem?_set_ne h.symm]

theorem Ao {g:ae} {id k d:Nat} {us:List Nat} {rest:List Value} (hg:aO g id=some (wv us++rest)) (hk:us[k]?=some d):af false 1 g (pt id k)=some (.int .u32 (d:Int)):=by
 have aC:=(List.getElem?_eq_some_iff.1 hk).1
 have:(wv us++rest)[k]?=some (.int .u32 (d:Int)):=by
  rw [List.getElem?_append_left (by rw [aij];exact aC)]
  simp [wv,hk]
 simp [af,hg,ck,this]

theorem vp {g:ae} {id k d:Nat} {us:List Nat} (hg:g[id]?=some (.arr 177 (wv us))) (hk:us[k]?=some d):af false 1 g (pt id k)=some (.int .u32 (d:Int)):=
 Ao (rest:=[]) (by rw [List.append_nil];simp [aO,hg]) hk

theorem Ap {g:ae} {id k:Nat} (d:Nat) {us:List Nat} (hg:g[id]?=some (.arr 177 (wv us))) (hk:k<us.length):aI 1 g (pt id k) (.int .u32 (d:Int))=some (undef,g.set id (.arr 177 (wv (us.set k d)))):=by
 rw [oL hg (by rw [aij];exact hk) rfl rfl]
 congr 3
 simp [wv,List.map_set]

theorem ayW {a b:Nat} (hb:b≠0) (_:a<18446744073709551616):ai .rem (.int .u64 (a:Int)) (.int .u64 (b:Int))=some (.int .u64 ((a%b:Nat):Int)):=by
 have h:¬((b:Int)=0):=by omega
 have h2:a%b≤a:=Nat.mod_le _ _
 simp only [ai,gn,if_true,if_neg h]
 have e:(a:Int).tmod (b:Int)=((a%b:Nat):Int):=rfl
 rw [e]

theorem rj {d:Nat} (h:d<4294967296):df .u64 (.int .u32 (d:Int))=some (.int .u64 (d:Int)):=by rw [jU,jA (by omega) (by omega)]
theorem abE {a b:Nat} (h:a*b<18446744073709551616):ai .mul (.int .u64 (a:Int)) (.int .u64 (b:Int))=some (.int .u64 ((a*b:Nat):Int)):=by
 rw [tR,←Int.natCast_mul,jA (by omega) (by omega)]
theorem Uu {a b:Nat} (h:a+b<18446744073709551616):ai .add (.int .u64 (a:Int)) (.int .u64 (b:Int))=some (.int .u64 ((a+b:Nat):Int)):=by
 rw [cD,←Int.natCast_add,jA (by omega) (by omega)]
theorem Ym {a:Nat} (h:0<a) (h2:a<18446744073709551616):ai .sub (.int .u64 (a:Int)) (.int .u64 1)=some (.int .u64 ((a-1:Nat):Int)):=by
 rw [fz,show (a:Int)-1=((a-1:Nat):Int) by omega,jA (by omega) (by omega)]
theorem AI (t:Nat):df .u32 (.int .u64 (t:Int))=some (.int .u32 ((t%4294967296:Nat):Int)):=by rw [jU,uS];congr 2
theorem Se {x y b:Nat} {h:ae} {K:Value→ae→Prop} (hx:x<4294967296) (hy:y<4294967296) (hb:b≤1)
  (hk:∀d b':Nat,d<4294967296→b'≤1→d+y+b=x+b'*4294967296→K (.tuple #[.int .u32 (d:Int),.int .u32 (b':Int)]) h):ak Tryz.prog 134 [.int .u32 (x:Int),.int .u32 (y:Int),.int .u32 (b:Int)] h K:=by
 refine Sd hx hy hb (hk _ _ ?_ ?_ ?_)
 ·exact Nat.mod_lt _ (by decide)
 ·split <;> omega
 ·split <;> omega

theorem auI {P X V Y x c a b:Nat} (h:Y+c*P=X+V) (e:4294967296*a+b=x+c) (ha:a=0∨a=1):Y+P*b+P*4294967296=X+P*x+V∨Y+P*b=X+P*x+V:=by
 have e1:P*(4294967296*a+b)=P*(x+c):=by rw [e]
 rcases ha with rfl | rfl
 ·right;grind
 ·left;grind

section
variable {h : ae} {K : Value → ae → Prop} {id iv j m : Nat} {us vs ud : List Nat} {rest : List Value}

theorem aiT {g:ae} {q:Value} {xs:List Nat} (kg:g[id]?=some (.arr 177 (wv us))) (kv:aO g iv=some (wv vs++rest)) (br:iv≠id) (hn:vs.length=m+2) (hm:m≤1000) (hx:xs.length=m+3) (hj:j+(m+3)≤us.length)
  (hu:∀k,k≤m+2→us[j+k]?=xs[k]?) (lx:b9 4294967296 xs) (lv:b9 4294967296 vs)
  (hk:∀ys,ys.length=m+3→b9 4294967296 ys→(val 4294967296 ys+4294967296^(m+3)=val 4294967296 xs+val 4294967296 vs∨val 4294967296 ys=val 4294967296 xs+val 4294967296 vs)→
   B8 Tryz.prog K q (g.set id (.arr 177 (wv (mid us j ys))))):
  cG [(.int .u32 (0)),(.int .i64 (0))] g fun L1 xs hx=>PA Tryz.prog K (sl 177 id j (m+3)) (sl 177 iv 0 (m+2)) (I (m+2:Nat)) q (I (m+2:Nat)) L1 xs hx:=by
 refine dc (σ:=List Nat×Nat) (fun p=>[.int .u32 (p.2:Int),I p.1.length]) (fun p=>g.set id (.arr 177 (wv (mid us j p.1))))
  (fun p=>p.1.length≤m+2∧b9 4294967296 p.1∧p.2≤1∧val 4294967296 p.1+p.2*4294967296^p.1.length=val 4294967296 (xs.take p.1.length)+val 4294967296 (vs.take p.1.length)) (fun p=>m+2-p.1.length)
  ([],0) rfl (by rw [abt];exact (List.ext_getElem? fun i=>by
   rw [List.getElem?_set]
   split
   ·rename_i e;subst e
    rw [kg,if_pos (List.getElem?_eq_some_iff.1 kg).1]
   ·rfl)) ⟨Nat.zero_le _,fun y hy=>by simp at hy,Nat.zero_le _,by simp [val]⟩ ?_
 rintro ⟨ys,c⟩ ⟨je,ly,hc,bS⟩ L hL
 simp only at je ly hc bS hL⊢
 have td:(g.set id (.arr 177 (wv (mid us j ys))))[id]?=some (.arr 177 (wv (mid us j ys))):=cM kg
 have Ow:aO (g.set id (.arr 177 (wv (mid us j ys)))) iv=some (wv vs++rest):=by rw [AF br];exact kv
 rw [awL]
 simp only [cI,ah,bK]
 have Bz:∀k,ys.length≤k→k≤m+2→(mid us j ys)[j+k]?=xs[k]?:=fun k h1 h2=>by rw [abr (by omega) h1,hu k h2]
 refine ⟨fun aC=>?_,fun cH=>?_⟩
 ·have hy:ys.length<m+2:=by omega
  have uC:xs[ys.length]?=some (xs[ys.length]'(by omega)):=List.getElem?_eq_getElem (by omega)
  have NY:vs[ys.length]?=some (vs[ys.length]'(by omega)):=List.getElem?_eq_getElem (by omega)
  have bx:=lx _ (List.getElem_mem (l:=xs) (n:=ys.length) (by omega))
  have bv:=lv _ (List.getElem_mem (l:=vs) (n:=ys.length) (by omega))
  have tx:=gT 4294967296 xs (i:=ys.length) (by omega)
  have tv:=gT 4294967296 vs (i:=ys.length) (by omega)
  generalize xs[ys.length]'(by omega)=x at*
  generalize vs[ys.length]'(by omega)=v at*
  have ld:=vp td ((Bz _ (Nat.le_refl _) (by omega)).trans uC)
  have BT:=Ao Ow NY
  simp only [oU (show ys.length<m+3 by omega),oU (show ys.length<m+2 by omega),Nat.zero_add,ah,ld,BT,true_and]
  refine Sc bx bv hc ?_
  simp only [eJ,fq,fC,ah]
  rw [Ap _ td (by rw [zh (by omega)];omega),Gm (by omega),List.set_set]
  have:=hL (ys++[(x+v+c)%4294967296],(x+v+c) / 4294967296) ⟨by simp;omega,ly.append (fun y hy=>by simp at hy;omega),by show (x+v+c) / 4294967296≤1;omega,by
   simp only [List.length_append,List.length_cons,List.length_nil,Nat.zero_add]
   rw [lM,tx,tv,Nat.pow_succ]
   simp only [val,Nat.mul_zero,Nat.add_zero]
   have jX:=Nat.div_add_mod (x+v+c) 4294967296
   generalize (x+v+c) / 4294967296=a at*
   generalize (x+v+c)%4294967296=b at*
   generalize 4294967296^ys.length=P at*
   have:P*(4294967296*a+b)=P*(x+v+c):=by rw [jX]
   grind⟩ (by simp;omega)
  simp only [aE,cD,inc ys.length (by omega),ah]
  simpa using this
 ·have hy:ys.length=m+2:=by omega
  have uC:xs[m+2]?=some (xs[m+2]'(by omega)):=List.getElem?_eq_getElem (by omega)
  have bx:=lx _ (List.getElem_mem (l:=xs) (n:=m+2) (by omega))
  have tx:=gT 4294967296 xs (i:=m+2) (by omega)
  rw [List.take_of_length_le (by omega)] at tx
  generalize xs[m+2]'(by omega)=x at*
  have ld:=vp td ((Bz (m+2) (by omega) (by omega)).trans uC)
  rw [awM]
  have ea:ai .add (.int .u32 (x:Int)) (.int .u32 (c:Int))=some (.int .u32 (((x+c)%4294967296:Nat):Int)):=by
   rw [cD,←Int.natCast_add,uS];congr 2
  simp only [oU (show m+2<m+3 by omega),ah,ld,ea]
  have jZ:=Gm (us:=us) (j:=j) (d:=(x+c)%4294967296) (xs:=ys) (by omega)
  rw [hy] at jZ
  rw [Ap _ td (by rw [zh (by omega)];omega),jZ,List.set_set]
  simp only [aE]
  rw [hy,List.take_of_length_le (by omega:vs.length≤m+2)] at bS
  refine hk _ (by simp;omega) (ly.append (fun y hy=>by simp at hy;omega)) ?_
  rw [lM,hy,tx]
  simp only [val,Nat.mul_zero,Nat.add_zero]
  have jX:=Nat.div_add_mod (x+c) 4294967296
  have h01:(x+c) / 4294967296≤1:=by omega
  rw [Nat.pow_succ]
  exact auI bS jX (by omega)

theorem avF (B m:Nat):B^(m+3)=B^(m+2)*B:=Nat.pow_succ ..

theorem az7 {P A X V g v x carry borrow y c' x' b':Nat} (h:X+g*V=A+(carry+borrow)*P) (e:4294967296*c'+y=g*v+carry) (s:x'+y+borrow=x+b'*4294967296):
  X+P*x'+g*(V+P*v)=A+P*x+(c'+b')*(P*4294967296):=by
 have e1:P*(4294967296*c'+y)=P*(g*v+carry):=by rw [e]
 have e2:P*(x'+y+borrow)=P*(x+b'*4294967296):=by rw [s]
 grind

theorem az8 {P A X V g x carry borrow x' b':Nat} (h:X+g*V=A+(carry+borrow)*P) (s:x'+carry+borrow=x+b'*4294967296):X+P*x'+g*V=A+P*x+b'*(P*4294967296):=by
 have e2:P*(x'+carry+borrow)=P*(x+b'*4294967296):=by rw [s]
 grind

theorem Sg {gs:Nat} (kg:h[id]?=some (.arr 177 (wv us))) (kv:aO h iv=some (wv vs++rest)) (br:iv≠id) (hn:vs.length=m+2) (hm:m≤1000) (hx:ud.length=m+3) (hj:j+(m+3)≤us.length)
  (hu:∀k,k≤m+2→us[j+k]?=ud[k]?) (lu:b9 4294967296 ud) (lv:b9 4294967296 vs) (nu:gs<4294967296) (h1:val 4294967296 ud / val 4294967296 vs≤gs) (h2:gs*val 4294967296 vs<val 4294967296 ud+val 4294967296 vs) (V0:0<val 4294967296 vs)
  (hk:∀rs,rs.length=m+3→b9 4294967296 rs→val 4294967296 rs=val 4294967296 ud%val 4294967296 vs→K (.int .u32 ((val 4294967296 ud / val 4294967296 vs:Nat):Int)) (h.set id (.arr 177 (wv (mid us j rs))))):
  uJ Tryz.prog K (sl 177 id j (m+3)) (sl 177 iv 0 (m+2)) (I (m+2:Nat)) (.int .u64 (gs:Int)) h:=by
 have jZ:h=h.set id (.arr 177 (wv us)):=List.ext_getElem? fun i=>by
  rw [List.getElem?_set]
  split
  ·rename_i e;subst e
   rw [kg,if_pos (List.getElem?_eq_some_iff.1 kg).1]
  ·rfl
 have lvl:aY (sl 177 iv 0 (m+2))=some (I (m+2:Nat)):=rfl
 rw [awI]
 simp only [lvl,ah]
 refine dc (σ:=List Nat×Nat×Nat) (fun p=>[.int .u64 (p.2.1:Int),.int .u32 (p.2.2:Int),I p.1.length]) (fun p=>h.set id (.arr 177 (wv (mid us j p.1))))
  (fun p=>p.1.length≤m+2∧b9 4294967296 p.1∧p.2.1<4294967296∧p.2.2≤1∧val 4294967296 p.1+gs*val 4294967296 (vs.take p.1.length)=val 4294967296 (ud.take p.1.length)+(p.2.1+p.2.2)*4294967296^p.1.length) (fun p=>m+2-p.1.length)
  ([],0,0) rfl (by rw [abt];exact jZ.symm) ⟨Nat.zero_le _,fun y hy=>by simp at hy,by decide,Nat.zero_le _,by simp [val]⟩ ?_
 rintro ⟨xs,c,bo⟩ ⟨fY,lx,hc,M4,bS⟩ L hL
 simp only at fY lx hc M4 bS hL⊢
 have td:(h.set id (.arr 177 (wv (mid us j xs))))[id]?=some (.arr 177 (wv (mid us j xs))):=cM kg
 have Ow:aO (h.set id (.arr 177 (wv (mid us j xs)))) iv=some (wv vs++rest):=by rw [AF br];exact kv
 have Bz:∀k,xs.length≤k→k≤m+2→(mid us j xs)[j+k]?=ud[k]?:=fun k h1 h2=>by rw [abr (by omega) h1,hu k h2]
 rw [awJ]
 simp only [cI,ah,bK]
 refine ⟨fun aC=>?_,fun cH=>?_⟩
 ·have hy:xs.length<m+2:=by omega
  have NW:ud[xs.length]?=some (ud[xs.length]'(by omega)):=List.getElem?_eq_getElem (by omega)
  have NY:vs[xs.length]?=some (vs[xs.length]'(by omega)):=List.getElem?_eq_getElem (by omega)
  have bx:=lu _ (List.getElem_mem (l:=ud) (n:=xs.length) (by omega))
  have bv:=lv _ (List.getElem_mem (l:=vs) (n:=xs.length) (by omega))
  have tx:=gT 4294967296 ud (i:=xs.length) (by omega)
  have tv:=gT 4294967296 vs (i:=xs.length) (by omega)
  generalize ud[xs.length]'(by omega)=x at*
  generalize vs[xs.length]'(by omega)=v at*
  have ld:=vp td ((Bz _ (Nat.le_refl _) (by omega)).trans NW)
  have BT:=Ao Ow NY
  have hgv:=Gp nu bv
  simp only [oU (show xs.length<m+3 by omega),oU (show xs.length<m+2 by omega),Nat.zero_add,ah,ld,BT,rj bv,abE (show gs*v<18446744073709551616 by omega),Uu (show gs*v+c<18446744073709551616 by omega),xv,AI]
  have jX:=Nat.div_add_mod (gs*v+c) 4294967296
  have hym:(gs*v+c)%4294967296<4294967296:=Nat.mod_lt _ (by decide)
  have hyd:(gs*v+c) / 4294967296<4294967296:=by omega
  refine Se bx hym M4 ?_
  intro d b2 hd A5 yB
  simp only [eJ,fq,fC,ah]
  rw [Ap _ td (by rw [zh (by omega)];omega),Gm (by omega),List.set_set]
  generalize (gs*v+c) / 4294967296=c2 at*
  generalize (gs*v+c)%4294967296=y at*
  have:=hL (xs++[d],c2,b2) ⟨by simp;omega,lx.append (fun z hz=>by simp at hz;omega),hyd,A5,by
   simp only [List.length_append,List.length_cons,List.length_nil,Nat.zero_add]
   rw [lM,tx,tv,Nat.pow_succ]
   simp only [val,Nat.mul_zero,Nat.add_zero]
   exact az7 bS jX yB⟩ (by simp;omega)
  simp only [aE,cD,inc xs.length (by omega),ah,true_and]
  simpa using this
 ·have hy:xs.length=m+2:=by omega
  have NW:ud[m+2]?=some (ud[m+2]'(by omega)):=List.getElem?_eq_getElem (by omega)
  have bx:=lu _ (List.getElem_mem (l:=ud) (n:=m+2) (by omega))
  have tx:=gT 4294967296 ud (i:=m+2) (by omega)
  rw [List.take_of_length_le (by omega)] at tx
  generalize ud[m+2]'(by omega)=x at*
  have ld:=vp td ((Bz (m+2) (by omega) (by omega)).trans NW)
  rw [awK]
  simp only [oU (show m+2<m+3 by omega),ah,ld,AI,Nat.mod_eq_of_lt hc]
  refine Se bx hc M4 ?_
  intro d b2 hd A5 yB
  simp only [eJ,fq,fC,ah]
  have aah:=Gm (us:=us) (j:=j) (d:=d) (xs:=xs) (by omega)
  rw [hy] at aah
  rw [Ap _ td (by rw [zh (by omega)];omega),aah,List.set_set]
  simp only [aE]
  rw [hy,List.take_of_length_le (by omega:vs.length≤m+2)] at bS
  have OM:b9 4294967296 (xs++[d]):=lx.append (fun z hz=>by simp at hz;omega)
  have od:(xs++[d]).length=m+3:=by simp;omega
  have pD:val 4294967296 (xs++[d])+gs*val 4294967296 vs=val 4294967296 ud+b2*4294967296^(m+3):=by
   rw [lM,hy,tx]
   simp only [val,Nat.mul_zero,Nat.add_zero]
   rw [avF]
   exact az8 bS yB
  generalize xs++[d]=xn at*
  have aBn:=Nat.div_add_mod (val 4294967296 ud) (val 4294967296 vs)
  have sO:=Nat.mod_lt (val 4294967296 ud) V0
  have uB:=kT OM
  rw [od] at uB
  generalize hQ:val 4294967296 ud / val 4294967296 vs=Q at*
  generalize hR:val 4294967296 ud%val 4294967296 vs=R at*
  have NG:Q<4294967296:=by omega
  have E1:∀{a:Nat} {g:ae},a<4294967296→K (.int .u32 (a:Int)) g→B8 Tryz.prog K (.int .u64 (a:Int)) g:=by
   intro a g ha hK
   rw [awN,AI,ah,Nat.mod_eq_of_lt ha]
   exact hK
  rcases (show b2=1∨b2=0 by omega) with rfl | rfl
  ·skip
   have hgV:val 4294967296 ud<gs*val 4294967296 vs:=by omega
   have FB:gs=Q+1:=by
    have:gs<Q+2:=by
     apply Classical.byContradiction
     intro hn
     have h3:(Q+2)*val 4294967296 vs≤gs*val 4294967296 vs:=Nat.mul_le_mul_right _ (by omega)
     rw [Nat.add_mul,Nat.mul_comm Q] at h3
     omega
    have h4:gs≠Q:=by
     intro e
     rw [e,Nat.mul_comm] at hgV
     omega
    omega
   have bg:ai .gtr (.int .u32 ((1:Nat):Int)) (.int .u32 0)=some (B true):=rfl
   simp only [bg,ah,di,Ym (show 0<gs by omega) (show gs<18446744073709551616 by omega),lvl]
   refine aiT (us:=mid us j xn) (xs:=xn) (cM kg) (by rw [AF br];exact kv) br hn hm od (by rw [zh (by omega)];omega) (fun k hk=>auZ (by omega) (by omega)) OM lv ?_
   intro ys je ly wM
   rw [List.set_set,auY (by omega) (by omega)]
   have oB:=kT ly
   rw [je] at oB
   have hmul:gs*val 4294967296 vs=val 4294967296 vs*(Q)+val 4294967296 vs:=by rw [FB,Nat.add_mul,Nat.mul_comm Q];omega
   have hyr:val 4294967296 ys=R:=by
    rw [Nat.one_mul] at pD
    rcases wM with wM | wM <;> omega
   rw [show gs-1=Q by omega]
   exact E1 NG (hk ys je ly hyr)
  ·have FB:gs=Q:=by
    have:gs≤Q:=by rw [←hQ];exact (Nat.le_div_iff_mul_le V0).2 (by omega)
    omega
   have bg:ai .gtr (.int .u32 ((0:Nat):Int)) (.int .u32 0)=some (B false):=rfl
   simp only [bg,ah,dp]
   have hxr:val 4294967296 xn=R:=by
    rw [FB,Nat.mul_comm] at pD
    omega
   rw [FB]
   exact E1 NG (hk xn od OM hxr)

end
end Go.Proofs.YtelmdbpaoifmoaaGreat


namespace Go.Proofs.YtelmdbpaoifmoaaGreat
open Go.Sim

theorem asa (a b:Nat):ai .gtr (.int .u64 (a:Int)) (.int .u64 (b:Int))=some (B (decide (b<a))):=by
 rw [fe];congr 2;rw [decide_eq_decide];omega

theorem ZK {a:Nat}:ai .gtr (.int .u64 ((a / 4294967296:Nat):Int)) (.int .u64 0)=some (B (decide (4294967296≤a))):=by
 rw [fe];congr 2;rw [decide_eq_decide]
 have:4294967296≤a↔0<a / 4294967296:=by omega
 rw [this]
 omega

section
variable {h : ae} {K : Value → ae → Prop} {id iv j m : Nat} {us vs ud : List Nat} {rest : List Value}

theorem aiS {v1:Nat} (kg:h[id]?=some (.arr 177 (wv us))) (kv:aO h iv=some (wv vs++rest)) (br:iv≠id) (hn:vs.length=m+2) (hm:m≤1000) (hx:ud.length=m+3) (hj:j+(m+3)≤us.length)
  (hu:∀k,k≤m+2→us[j+k]?=ud[k]?) (lu:b9 4294967296 ud) (lv:b9 4294967296 vs) (kA:vs[m+1]?=some v1) (iE:2147483648≤v1) (ry:val 4294967296 ud<val 4294967296 vs*4294967296)
  (hk:∀rs,rs.length=m+3→b9 4294967296 rs→val 4294967296 rs=val 4294967296 ud%val 4294967296 vs→K (.int .u32 ((val 4294967296 ud / val 4294967296 vs:Nat):Int)) (h.set id (.arr 177 (wv (mid us j rs))))):
  ak Tryz.prog 137 [sl 177 id j (m+3),sl 177 iv 0 (m+2)] h K:=by
 obtain ⟨ul,pC,eU⟩:=aAz lu hx
 obtain ⟨vl,pE,eV⟩:=val_two lv hn
 have hu0:us[j+m]?=some (ud[m]'(by omega)):=by rw [hu m (by omega)];exact List.getElem?_eq_getElem _
 have hu1:us[j+(m+1)]?=some (ud[m+1]'(by omega)):=by rw [hu (m+1) (by omega)];exact List.getElem?_eq_getElem _
 have oz:us[j+(m+2)]?=some (ud[m+2]'(by omega)):=by rw [hu (m+2) (by omega)];exact List.getElem?_eq_getElem _
 have b0:=lu _ (List.getElem_mem (l:=ud) (n:=m) (by omega))
 have b1:=lu _ (List.getElem_mem (l:=ud) (n:=m+1) (by omega))
 have b2:=lu _ (List.getElem_mem (l:=ud) (n:=m+2) (by omega))
 have BA:vs[m]?=some (vs[m]'(by omega)):=List.getElem?_eq_getElem _
 have c0:=lv _ (List.getElem_mem (l:=vs) (n:=m) (by omega))
 have c1:=lv _ (List.getElem_mem (l:=vs) (n:=m+1) (by omega))
 have e1:vs[m+1]'(by omega)=v1:=by
  rw [List.getElem?_eq_getElem (by omega)] at kA
  injection kA
 rw [e1] at c1 eV
 generalize ud[m]'(by omega)=t0 at*
 generalize ud[m+1]'(by omega)=t1 at*
 generalize ud[m+2]'(by omega)=t2 at*
 generalize vs[m]'(by omega)=v2 at*
 have hP:0<4294967296^m:=Nat.pow_pos (by decide)
 have YJ:t1+t2*4294967296=t2*4294967296+t1:=Nat.add_comm ..
 rw [YJ] at eU
 have V0:0<val 4294967296 vs:=by
  apply Nat.pos_of_ne_zero
  intro e
  rw [e,Nat.zero_mul] at ry
  omega
 have Bv:=aAn (by decide) eU YJ.symm eV pE c0 ry
 have asw:=asc eU pC b0 eV (by omega)
 have nD:=vp kg hu0
 have pJ:=vp kg hu1
 have th:=vp kg oz
 have lv0:=Ao kv BA
 have lv1:=Ao kv kA
 have lvl:aY (sl 177 iv 0 (m+2))=some (I (m+2:Nat)):=rfl
 have s1:ai .sub (I (m+2:Nat)) (.int .i64 1)=some (I (m+1:Nat)):=by rw [fz,wrap64 (by omega) (by omega)];congr 2;omega
 have s2:ai .sub (I (m+2:Nat)) (.int .i64 2)=some (I (m:Nat)):=by rw [fz,wrap64 (by omega) (by omega)];congr 2;omega
 have Bw:t2*4294967296+t1<18446744073709551616:=by omega
 refine f137 ?_
 unfold Kd
 simp only [lvl,ah,oU (show m+2<m+3 by omega),th,true_and,rj b2,HK b2,s1,oU (show m+1<m+3 by omega),pJ,rj b1,GB b2 b1,oU (show m+1<m+2 by omega),Nat.zero_add,lv1,rj c1,ahj (show v1≠0 by omega) Bw,ayW (show v1≠0 by omega) Bw]
 generalize qE:t2*4294967296+t1=top at*
 have jX:=Nat.div_add_mod top v1
 have sO:=Nat.mod_lt top (show 0<v1 by omega)
 have hg0:top / v1≤4294967297:=by
  have:top / v1<4294967298:=by
   rw [Nat.div_lt_iff_lt_mul (by omega)]
   omega
  omega
 refine dc (σ:=Nat×Nat) (fun p=>[.int .u64 (p.1:Int),.int .u64 (p.2:Int)]) (fun _=>h) (fun p=>p.1*v1+p.2=top∧p.2<4294967296∧p.1≤4294967297∧val 4294967296 ud / val 4294967296 vs≤p.1) (fun p=>4294967296-p.2)
  (top / v1,top%v1) rfl rfl ⟨by show top / v1*v1+top%v1=top;rw [Nat.mul_comm];exact jX,by show top%v1<4294967296;omega,hg0,asw⟩ ?_
 rintro ⟨g,r⟩ ⟨Nj,hr,hg,hq⟩ L hL
 simp only at Nj hr hg hq hL⊢
 have down:(4294967296≤g∨r*4294967296+t0<g*v2)→(OP (ai .sub (.int .u64 (g:Int)) (.int .u64 (1))) fun jP=>
   OP (ai .sub (I (m+2:Nat)) (.int .i64 (1))) fun jQ=>
   OP (aU 1 (sl 177 iv 0 (m+2)) jQ) fun iM=>
   OP (af false 1 h iM) fun gy=>
   OP (df .u64 gy) fun jm=>
   OP (ai .add (.int .u64 (r:Int)) jm) fun eB=>
   OP (ai .shr eB (.int .u64 (32))) fun ka=>
   OP (ai .gtr ka (.int .u64 (0))) fun hY=>
   aM hY
    (uJ Tryz.prog K (sl 177 id j (m+3)) (sl 177 iv 0 (m+2)) (I (m+2:Nat)) jP h)
    (([sl 177 id j (m+3),sl 177 iv 0 (m+2),I (m+2:Nat)]:List Value)=[sl 177 id j (m+3),sl 177 iv 0 (m+2),I (m+2:Nat)]∧L [jP,eB] h)):=by
  intro rz
  have hd:=asb eU pC eV ry Nj hq rz
  have fQ:0<g:=by generalize val 4294967296 ud / val 4294967296 vs=Q at*;omega
  have Z3:val 4294967296 ud / val 4294967296 vs≤g-1:=by generalize val 4294967296 ud / val 4294967296 vs=Q at*;omega
  have ZH:(g-1)*v1+(r+v1)=top:=by
   rw [Nat.sub_mul,Nat.one_mul]
   have:v1≤g*v1:=Nat.le_mul_of_pos_left v1 fQ
   omega
  simp only [Ym fQ (show g<18446744073709551616 by omega),ah,s1,oU (show m+1<m+2 by omega),Nat.zero_add,lv1,rj c1,Uu (show r+v1<18446744073709551616 by omega),xv,ZK,bK]
  refine ⟨fun cH=>?_,fun aC=>⟨trivial,hL (g-1,r+v1) ⟨ZH,by show r+v1<4294967296;omega,by show g-1≤4294967297;omega,Z3⟩ (by show 4294967296-(r+v1)<4294967296-r;omega)⟩⟩
  have nu:g-1<4294967296:=by
   apply Classical.byContradiction
   intro hn
   have h3:4294967296*v1≤(g-1)*v1:=Nat.mul_le_mul_right _ (by omega)
   have h4:t2*4294967296≤v1*4294967296:=Nat.mul_le_mul_right _ Bv
   omega
  refine Sg kg kv br hn hm hx hj hu lu lv nu Z3 (Y8 eU eV pE (by omega) ZH nu ?_) V0 hk
  have h5:=Gp nu c0
  have h6:4294967296*4294967296≤(r+v1)*4294967296:=Nat.mul_le_mul_right _ cH
  omega
 have last:g<4294967296→g*v2≤r*4294967296+t0→uJ Tryz.prog K (sl 177 id j (m+3)) (sl 177 iv 0 (m+2)) (I (m+2:Nat)) (.int .u64 (g:Int)) h:=fun nu aB=>
  Sg kg kv br hn hm hx hj hu lu lv nu hq (Y8 eU eV pE (by omega) Nj nu aB) V0 hk
 rw [awO]
 simp only [xv,ah,ZK]
 by_cases nu:4294967296≤g
 ·rw [decide_eq_true nu]
  simp only [eZ,dA,ah,di]
  simpa only [true_and] using down (.inl nu)
 ·rw [decide_eq_false nu]
  have ZF:g<4294967296:=by omega
  have hgv:=Gp ZF c0
  simp only [dO,s2,ah,oU (show m<m+2 by omega),oU (show m<m+3 by omega),Nat.zero_add,lv0,nD,true_and,rj c0,rj b0,abE (show g*v2<18446744073709551616 by omega),HK hr,GB hr b0,asa,cY,bK]
  exact ⟨fun rz=>by simpa only [true_and] using down (.inr rz),fun aB=>last ZF (by omega)⟩

end
end Go.Proofs.YtelmdbpaoifmoaaGreat


namespace Go.Proofs.YtelmdbpaoifmoaaGreat
open Go.Sim

theorem Rd (k k2:IntKind) {s n:Nat} (hn:n≤k.bits) (hb:n<1000):ai .shr (.int k (s:Int)) (.int k2 (n:Int))=some (.int k ((s / 2^n:Nat):Int)):=by
 simp only [ai,oD]
 rw [if_neg (by omega)]
 have:min ((n:Int).toNat) k.bits=n:=by omega
 rw [this,Int.fdiv_eq_ediv_of_nonneg _ (by have:(0:Int)<2^n:=Int.pow_pos (by decide);omega)]
 congr 2

theorem azR (k2:IntKind) {x n:Nat} (hn:n<32) (hx:x<4294967296):ai .shl (.int .u64 (x:Int)) (.int k2 (n:Int))=some (.int .u64 ((x*2^n:Nat):Int)):=by
 have h2:2^n≤2^31:=Nat.pow_le_pow_right (by decide) (by omega)
 have h3:x*2^n≤4294967295*2^31:=Nat.mul_le_mul (by omega) h2
 have h4:x*2^n<18446744073709551616:=by omega
 simp only [ai,oD]
 rw [if_neg (by omega)]
 have:min ((n:Int).toNat) IntKind.u64.bits=n:=by
  have:IntKind.u64.bits=64:=rfl
  omega
 have e:(x:Int)*2^n=((x*2^n:Nat):Int):=by simp
 rw [this,e,jA (by omega) (by omega)]

theorem avp {s a q:Nat} (hs:s≤31) (ha:a<2^s) (hq:2^s*q<4294967296):ai .or (.int .u32 (a:Int)) (.int .u32 ((2^s*q:Nat):Int))=some (.int .u32 ((2^s*q+a:Nat):Int)):=by
 have h2:2^s≤2^31:=Nat.pow_le_pow_right (by decide) hs
 have FW:2^s*q+a<4294967296:=by
  have h3:q<2^(32-s):=by
   apply Classical.byContradiction
   intro hn
   have:2^s*2^(32-s)≤2^s*q:=Nat.mul_le_mul_left _ (by omega)
   rw [←Nat.pow_add,show s+(32-s)=32 by omega] at this
   omega
  have h4:2^s*(q+1)≤2^s*2^(32-s):=Nat.mul_le_mul_left _ (by omega)
  rw [←Nat.pow_add,show s+(32-s)=32 by omega,Nat.mul_add] at h4
  omega
 have e:(BitVec.ofInt IntKind.u32.bits (a:Int) ||| BitVec.ofInt IntKind.u32.bits ((2^s*q:Nat):Int)).toNat=2^s*q+a:=by
  show (BitVec.ofInt 32 (a:Int) ||| BitVec.ofInt 32 ((2^s*q:Nat):Int)).toNat=_
  rw [BitVec.ofInt_natCast,BitVec.ofInt_natCast,BitVec.toNat_or,BitVec.toNat_ofNat,BitVec.toNat_ofNat,Nat.mod_eq_of_lt (by omega),Nat.mod_eq_of_lt (by omega),Nat.or_comm]
  exact (Nat.two_pow_add_eq_or_of_lt ha q).symm
 simp only [ai,gn,if_true]
 rw [e,mA (by omega) (by omega)]

def nF (x:Nat):Nat:=if x=0 then 0 else x.log2+1
def Rq:Value:=(.string ⟨#[0,1,2,2,3,3,3,3,4,4,4,4,4,4,4,4,5,5,5,5,5,5,5,5,5,5,5,5,5,5,5,5,6,6,6,6,6,6,6,6,6,6,6,6,6,6,6,6,6,6,6,6,6,6,6,6,6,6,6,6,6,6,6,6,7,7,7,7,7,7,7,7,7,7,7,7,7,7,7,7,7,7,7,7,7,7,7,7,7,7,7,7,7,7,7,7,7,7,7,7,7,7,7,7,7,7,7,7,7,7,7,7,7,7,7,7,7,7,7,7,7,7,7,7,7,7,7,7,8,8,8,8,8,8,8,8,8,8,8,8,8,8,8,8,8,8,8,8,8,8,8,8,8,8,8,8,8,8,8,8,8,8,8,8,8,8,8,8,8,8,8,8,8,8,8,8,8,8,8,8,8,8,8,8,8,8,8,8,8,8,8,8,8,8,8,8,8,8,8,8,8,8,8,8,8,8,8,8,8,8,8,8,8,8,8,8,8,8,8,8,8,8,8,8,8,8,8,8,8,8,8,8,8,8,8,8,8,8,8,8,8,8,8,8,8,8,8,8,8,8,8,8,8,8,8,8]⟩)
theorem aAi:((List.range 256).map fun x:Nat=>iT Rq (.int .u8 (x:Int)))=(List.range 256).map fun x:Nat=>some (.int .u8 (nF x:Int)):=by kernel_rfl
theorem aAj {x:Nat} (h:x<256):iT Rq (.int .u8 (x:Int))=some (.int .u8 (nF x:Int)):=by
 have:=congrArg (fun l=>l[x]?) aAi
 simpa [h] using this
theorem auM {x:Nat} (h:0<x):1≤nF x∧2^(nF x-1)≤x∧x<2^nF x:=by
 unfold nF
 rw [if_neg (by omega)]
 refine ⟨by omega,?_,Nat.lt_log2_self⟩
 rw [Nat.add_sub_cancel]
 exact Nat.log2_self_le (by omega)

theorem aiX {x:Nat} {h:ae} {K:Value→ae→Prop} (h0:0<x) (hx:x<4294967296) (hk:∀n:Nat,1≤n→n≤32→2^(n-1)≤x→x<2^n→K (I n) h):ak Tryz.prog 141 [.int .u32 (x:Int)] h K:=by
 refine f141 ?_
 have last:∀{y n0:Nat},0<y→y<256→n0≤24→2^n0*y≤x→x<2^n0*(y+1)→GS Tryz.prog K (.int .u32 (y:Int)) (I n0) h:=by
  intro y n0 y0 aA6 nw dL iE
  rw [aw9]
  have cv:df .u8 (.int .u32 (y:Int))=some (.int .u8 (y:Int)):=by
   rw [jU];congr 2
   have e:IntKind.wrap .u8 (y:Int)=(y:Int)%256:=by simp [IntKind.wrap,IntKind.bits,IntKind.signed]
   rw [e];omega
  obtain ⟨l1,l2,l3⟩:=auM y0
  have l8:nF y≤8:=by
   apply Classical.byContradiction
   intro hn
   have:2^8≤2^(nF y-1):=Nat.pow_le_pow_right (by decide) (by omega)
   omega
  have ix:=aAj aA6
  have w1:df .i64 (.int .u8 (nF y:Int))=some (I (nF y)):=by rw [jU,wrap64 (by omega) (by omega)]
  have w2:ai .add (I n0) (I (nF y))=some (I (n0+nF y:Nat)):=by rw [cD,wrap64 (by omega) (by omega)];congr 2 <;> omega
  unfold Rq at ix
  rw [cv,ah,ix,ah,w1,ah,w2,ah]
  refine hk _ (by omega) (by omega) ?_ ?_
  ·rw [show n0+nF y-1=n0+(nF y-1) by omega,Nat.pow_add]
   exact Nat.le_trans (Nat.mul_le_mul_left _ l2) dL
  ·rw [Nat.pow_add]
   exact Nat.lt_of_lt_of_le iE (Nat.mul_le_mul_left _ l3)
 have mid:∀{y n0:Nat},0<y→y<65536→n0≤16→2^n0*y≤x→x<2^n0*(y+1)→GR Tryz.prog K (.int .u32 (y:Int)) (I n0) h:=by
  intro y n0 y0 y65 nw dL iE
  rw [aw8]
  simp only [kl,ah,bK]
  refine ⟨fun cH=>?_,fun aC=>last y0 (by omega) (by omega) dL iE⟩
  have sh:ai .shr (.int .u32 (y:Int)) (.int .u64 8)=some (.int .u32 ((y / 2^8:Nat):Int)):=Rd .u32 .u64 (n:=8) (by decide) (by decide)
  have w2:ai .add (I n0) (.int .i64 8)=some (I (n0+8:Nat)):=by rw [cD,wrap64 (by omega) (by omega)];congr 2
  simp only [sh,ah,w2]
  have jX:=Nat.div_add_mod y 256
  have sO:=Nat.mod_lt y (show 0<256 by decide)
  refine last (y:=y / 2^8) (by omega) (by omega) (by omega) ?_ ?_
  ·rw [Nat.pow_add,Nat.mul_assoc]
   exact Nat.le_trans (Nat.mul_le_mul_left _ (by omega)) dL
  ·rw [Nat.pow_add,Nat.mul_assoc]
   exact Nat.lt_of_lt_of_le iE (Nat.mul_le_mul_left _ (by omega))
 unfold Kh
 simp only [kl,ah,bK]
 refine ⟨fun cH=>?_,fun aC=>mid (n0:=0) h0 (by omega) (by decide) (by simp) (by simp)⟩
 have sh:ai .shr (.int .u32 (x:Int)) (.int .u64 16)=some (.int .u32 ((x / 2^16:Nat):Int)):=Rd .u32 .u64 (n:=16) (by decide) (by decide)
 simp only [sh,ah]
 have jX:=Nat.div_add_mod x 65536
 have sO:=Nat.mod_lt x (show 0<65536 by decide)
 exact mid (n0:=16) (y:=x / 2^16) (by omega) (by omega) (by decide) (by omega) (by omega)

theorem aiR {x:Nat} {h:ae} {K:Value→ae→Prop} (h0:0<x) (hx:x<4294967296) (hk:∀s:Nat,s≤31→2147483648≤x*2^s→x*2^s<4294967296→K (I s) h):ak Tryz.prog 135 [.int .u32 (x:Int)] h K:=by
 refine f135 ?_
 unfold Kb
 refine aiX h0 hx ?_
 intro n h1 h32 dL iE
 have e:ai .sub (.int .i64 32) (I n)=some (I (32-n:Nat)):=by rw [fz,wrap64 (by omega) (by omega)];congr 2;omega
 simp only [e,ah]
 have p1:2^(n-1)*2^(32-n)=2147483648:=by rw [←Nat.pow_add,show n-1+(32-n)=31 by omega]
 have p2:2^n*2^(32-n)=4294967296:=by rw [←Nat.pow_add,show n+(32-n)=32 by omega]
 refine hk _ (by omega) ?_ ?_
 ·rw [←p1];exact Nat.mul_le_mul_right _ dL
 ·rw [←p2];exact Nat.mul_lt_mul_of_pos_right iE (Nat.pow_pos (by decide))

end Go.Proofs.YtelmdbpaoifmoaaGreat


namespace Go.Proofs.YtelmdbpaoifmoaaGreat
open Go.Sim

theorem Hf {s:Nat} (hs:s≤31):(4294967296:Nat)=2^s*2^(32-s):=by rw [←Nat.pow_add,show s+(32-s)=32 by omega]

theorem aAt {s x:Nat} (hs:s≤31) (hx:x<4294967296):(∃q,x*2^s%4294967296=2^s*q)∧x*2^s / 4294967296<2^s:=by
 have e:=Hf hs
 have p0:0<2^s:=Nat.pow_pos (by decide)
 refine ⟨⟨x%2^(32-s),?_⟩,?_⟩
 ·rw [e,Nat.mul_comm x,Nat.mul_mod_mul_left]
 ·rw [Nat.div_lt_iff_lt_mul (by decide),Nat.mul_comm x]
  exact Nat.mul_lt_mul_of_pos_left hx p0

theorem aAu {P c t d e X Y:Nat} (h1:X+P*c=Y+P*(d+c)) (h2:4294967296*e+d=t):X+P*4294967296*e=Y+P*t:=by
 rw [←h2]
 grind

theorem Sf {v:Value} {xs:List Nat} {s:Nat} {h:ae} {K:Value→ae→Prop} (hx:DS 177 .u32 h v xs) (lx:b9 4294967296 xs) (hs:s≤31) (hl:xs.length≤200)
  (hk:∀os,os.length=xs.length+1→b9 4294967296 os→val 4294967296 os=val 4294967296 xs*2^s→K (sl 177 h.length 0 (xs.length+1)) (hd h os)):ak Tryz.prog 136 [v,I s] h K:=by
 refine f136 ?_
 have e1:IntKind.wrap .i64 ((xs.length:Int)+1)=((xs.length+1:Nat):Int):=by rw [wrap64 (by omega) (by omega)];omega
 simp only [Kc,hx.len,ah,cD,e1,xd (show xs.length+1≤1000 by omega),aE]
 have p0:0<2^s:=Nat.pow_pos (by decide)
 refine dc (σ:=List Nat×Nat) (fun p=>[I p.2]) (fun p=>hd h p.1) (fun p=>p.2≤xs.length∧p.1.length=xs.length+1∧b9 4294967296 p.1∧val 4294967296 p.1=val 4294967296 (xs.take p.2)*2^s∧
   (∀k,p.2<k→k≤xs.length→p.1[k]?=some 0)∧∃c,p.1[p.2]?=some c∧c<2^s) (fun p=>xs.length-p.2)
  (List.replicate (xs.length+1) 0,0) rfl rfl ⟨Nat.zero_le _,by simp,b9.tH (by decide) _,by simp [uQ,val],fun k _ (h2:k≤xs.length)=>by rw [List.getElem?_replicate,if_pos (by omega)],0,by simp,p0⟩ ?_
 rintro ⟨os,i⟩ ⟨hi,fP,lo,bS,hz,c,hc,qp⟩ L hL
 simp only at hi fP lo bS hz hc qp hL⊢
 rw [awH]
 simp only [cI,ah,bK]
 refine ⟨fun aC=>?_,fun cH=>?_⟩
 ·have bf:i<xs.length:=by omega
  obtain ⟨b,r1,r2⟩:=hx.get bf
  have uB:=lx _ (List.getElem_mem bf)
  have tx:=gT 4294967296 xs bf
  have QQ:af false 1 (hd h os) (pt b i)=some (.int .u32 (xs[i]:Int)):=(jt h os).load r2
  generalize xs[i]=x at*
  obtain ⟨⟨q,hq⟩,Bs⟩:=aAt hs uB
  have Zy:os[i]'(by omega)=c:=by
   rw [List.getElem?_eq_getElem (by omega)] at hc
   injection hc
  have ld:=Zz (h:=h) (os:=os) (j:=i) (by omega)
  rw [Zy] at ld
  have hqb:2^s*q<4294967296:=by rw [←hq];exact Nat.mod_lt _ (by decide)
  have hqc:2^s*q+c<4294967296:=by
   have e:=Hf hs
   have h3:q<2^(32-s):=by
    apply Classical.byContradiction
    intro hn
    have:2^s*2^(32-s)≤2^s*q:=Nat.mul_le_mul_left _ (by omega)
    omega
   have h4:2^s*(q+1)≤2^s*2^(32-s):=Nat.mul_le_mul_left _ (by omega)
   rw [Nat.mul_add] at h4
   omega
  have ea:aU 1 (sl 177 h.length 0 (xs.length+1)) (I i)=some (pt h.length i):=kZ (by omega)
  have ea2:aU 1 (sl 177 h.length 0 (xs.length+1)) (I (i+1:Nat))=some (pt h.length (i+1)):=kZ (by omega)
  have FK:=Nat.div_add_mod (x*2^s) 4294967296
  have mc:x*2^s / 4294967296<4294967296:=by
   have:2^s≤2^31:=Nat.pow_le_pow_right (by decide) hs
   omega
  have wi:IntKind.wrap .i64 ((i:Int)+1)=((i+1:Nat):Int):=by rw [wrap64 (by omega) (by omega)];omega
  simp only [r1,QQ,ah,rj uB,azR .i64 (show s<32 by omega) uB,ea,ld,AI,hq,avp hs qp hqb,sI _ (show i<os.length by omega),aE,cD,wi,xv,ea2,Nat.mod_eq_of_lt mc,
   sI _ (show i+1<(os.set i (2^s*q+c)).length by rw [List.length_set];omega),true_and]
  have v1:=qW 4294967296 os i (2^s*q+c) (by omega)
  have v2:=qW 4294967296 (os.set i (2^s*q+c)) (i+1) (x*2^s / 4294967296) (by rw [List.length_set];omega)
  have nC:=hz (i+1) (by omega) (by omega)
  have mi:(os.set i (2^s*q+c))[i+1]'(by rw [List.length_set];omega)=0:=by
   rw [List.getElem_set_ne (by omega)]
   rw [List.getElem?_eq_getElem (by omega)] at nC
   injection nC
  rw [Zy] at v1
  rw [mi,Nat.mul_zero,Nat.add_zero,Nat.pow_succ] at v2
  rw [hq] at FK
  refine hL ((os.set i (2^s*q+c)).set (i+1) (x*2^s / 4294967296),i+1) ⟨by show i+1≤_;omega,by simp [fP],(lo.set hqc i).set mc (i+1),?_,fun k h1 h2=>?_,_,List.getElem?_set_self (by rw [List.length_set];omega),Bs⟩ (by show xs.length-(i+1)<xs.length-i;omega)
  ·show val 4294967296 ((os.set i (2^s*q+c)).set (i+1) (x*2^s / 4294967296))=val 4294967296 (xs.take (i+1))*2^s
   rw [v2,aAu v1 FK,tx,Nat.add_mul,←bS,Nat.mul_assoc (4294967296^i) x]
  ·have h1:i+1<k:=h1
   rw [List.getElem?_set_ne (by omega),List.getElem?_set_ne (by omega)]
   exact hz k (by omega) h2
 ·have fN:i=xs.length:=by omega
  subst fN
  rw [List.take_length] at bS
  rw [awG]
  exact hk os fP lo bS

theorem Ia (B:Nat) (xs:List Nat) {i:Nat} (hi:i≤xs.length):val B xs=val B (xs.take i)+B^i*val B (xs.drop i):=by
 have:=lM B (xs.take i) (xs.drop i)
 rwa [List.take_append_drop,List.length_take,Nat.min_eq_left hi] at this

theorem aqC {s x y Z:Nat} (hs:s≤31):(x+4294967296*(y+4294967296*Z)) / 2^s%4294967296=(x+y*4294967296) / 2^s%4294967296:=by
 have e:=Hf hs
 have p0:0<2^s:=Nat.pow_pos (by decide)
 have:x+4294967296*(y+4294967296*Z)=x+y*4294967296+2^s*(4294967296*(2^(32-s)*Z)):=by
  generalize 2^s=a at*
  generalize 2^(32-s)=b at*
  grind
 rw [this,Nat.add_mul_div_left _ _ p0,Nat.add_mul_mod_self_left]

theorem aiU {v:Value} {xs:List Nat} {s:Nat} {h:ae} {K:Value→ae→Prop} (hx:DS 177 .u32 h v xs) (lx:b9 4294967296 xs) (hs:s≤31) (hl:xs.length≤200)
  (hk:∀v' h',EX h h'→cX h' v' (val 4294967296 xs / 2^s)→K v' h'):ak Tryz.prog 138 [v,I s] h K:=by
 refine f138 ?_
 simp only [Ke,hx.len,ah,xd (show xs.length≤1000 by omega),aE]
 refine dc (σ:=List Nat×Nat) (fun p=>[I p.2]) (fun p=>hd h p.1) (fun p=>p.2≤xs.length∧p.1.length=xs.length∧b9 4294967296 p.1∧val 4294967296 p.1=val 4294967296 xs / 2^s%4294967296^p.2∧
   ∀k,p.2≤k→k<xs.length→p.1[k]?=some 0) (fun p=>xs.length-p.2)
  (List.replicate xs.length 0,0) rfl rfl ⟨Nat.zero_le _,by simp,b9.tH (by decide) _,by simp [uQ,Nat.mod_one],fun k _ (h2:k<xs.length)=>by rw [List.getElem?_replicate,if_pos h2]⟩ ?_
 rintro ⟨os,i⟩ ⟨hi,fP,lo,bS,hz⟩ L hL
 simp only at hi fP lo bS hz hL⊢
 rw [awS]
 simp only [cI,ah,bK]
 refine ⟨fun aC=>?_,fun cH=>?_⟩
 ·have bf:i<xs.length:=by omega
  obtain ⟨b,r1,r2⟩:=hx.get bf
  have uB:=lx _ (List.getElem_mem bf)
  have QQ:af false 1 (hd h os) (pt b i)=some (.int .u32 (xs[i]:Int)):=(jt h os).load r2
  have wi:IntKind.wrap .i64 ((i:Int)+1)=((i+1:Nat):Int):=by rw [wrap64 (by omega) (by omega)];omega
  have ea:aU 1 (sl 177 h.length 0 xs.length) (I i)=some (pt h.length i):=kZ (by omega)
  -- pQ ft digit is
  have fin:∀t:Nat,t / 2^s%4294967296=val 4294967296 (xs.drop i) / 2^s%4294967296→GN Tryz.prog K v (I s) (sl 177 h.length 0 xs.length) (I i) (.int .u64 (t:Int)) (I xs.length) (I i) L (hd h os):=by
   intro t ht
   rw [awP]
   simp only [Rd .u64 .i64 (s:=t) (n:=s) (by have:IntKind.u64.bits=64:=rfl;omega) (by omega),ah,AI,ea,sI _ (show i<os.length by omega),aE,awQ,cD,wi,true_and]
   have mc:t / 2^s%4294967296<4294967296:=Nat.mod_lt _ (by decide)
   refine hL (os.set i (t / 2^s%4294967296),i+1) ⟨by show i+1≤_;omega,by simp [fP],lo.set mc i,?_,fun k h1 h2=>?_⟩ (by show xs.length-(i+1)<xs.length-i;omega)
   ·show val 4294967296 (os.set i (t / 2^s%4294967296))=val 4294967296 xs / 2^s%4294967296^(i+1)
    have v1:=qW 4294967296 os i (t / 2^s%4294967296) (by omega)
    have nC:=hz i (Nat.le_refl _) bf
    have mi:os[i]'(by omega)=0:=by
     rw [List.getElem?_eq_getElem (by omega)] at nC
     injection nC
    rw [mi,Nat.mul_zero,Nat.add_zero,bS] at v1
    rw [v1,ht,Nat.mod_pow_succ,Nat.div_div_eq_div_mul,Nat.mul_comm (2^s),←Nat.div_div_eq_div_mul]
    congr 3
    rw [Ia 4294967296 xs hi]
    have qA:=kT (xs:=xs.take i) (lx.mono fun y hy=>List.mem_of_mem_take hy)
    rw [List.length_take,Nat.min_eq_left hi] at qA
    have hB:0<4294967296^i:=Nat.pow_pos (by decide)
    rw [Nat.add_mul_div_left _ _ hB,Nat.div_eq_of_lt qA,Nat.zero_add]
   ·have h1:i+1≤k:=h1
    rw [List.getElem?_set_ne (by omega)]
    exact hz k (by omega) h2
  have ed:xs.drop i=xs[i]::xs.drop (i+1):=List.drop_eq_getElem_cons bf
  simp only [r1,QQ,ah,rj uB,cD,wi,hx.len,cI,bK]
  refine ⟨fun ky=>?_,fun Nf=>?_⟩
  ·have Nm:i+1<xs.length:=by omega
   obtain ⟨b2,s1,s2⟩:=hx.get Nm
   have oB:=lx _ (List.getElem_mem Nm)
   have s2':af false 1 (hd h os) (pt b2 (i+1))=some (.int .u32 (xs[i+1]:Int)):=(jt h os).load s2
   have eor:ai .or (.int .u64 (xs[i]:Int)) (.int .u64 ((xs[i+1]*4294967296:Nat):Int))=some (.int .u64 ((xs[i]+xs[i+1]*4294967296:Nat):Int)):=by
    have:=GB oB uB
    simp only [ai,gn,if_true] at this⊢
    rw [BitVec.or_comm,this,Nat.add_comm]
   simp only [s1,s2',ah,rj oB,HK oB,eor]
   refine fin _ ?_
   rw [ed,List.drop_eq_getElem_cons Nm]
   simp only [val]
   rw [aqC hs]
  ·refine fin _ ?_
   rw [ed,List.drop_eq_nil_of_le (by omega)]
   simp [val]
 ·have fN:i=xs.length:=by omega
  subst fN
  have aC:val 4294967296 xs / 2^s<4294967296^xs.length:=Nat.lt_of_le_of_lt (Nat.div_le_self ..) (kT lx)
  rw [Nat.mod_eq_of_lt aC] at bS
  rw [awR]
  have wc:DS 177 .u32 (hd h os) (sl 177 h.length 0 xs.length) os:=by rw [←fP];exact wa h os
  refine pV wc lo (by omega) ?_
  intro v' iS
  rw [bS] at iS
  exact hk v' _ (jt h os) iS

end Go.Proofs.YtelmdbpaoifmoaaGreat


namespace Go.Proofs.YtelmdbpaoifmoaaGreat
open Go.Sim

theorem aqB {A Q V low D P:Nat} (hA:A=low+P*D+Q*V):A=low+P*(D%V)+(Q+P*(D / V))*V:=by
 have:=Nat.div_add_mod D V
 have e:P*(V*(D / V)+D%V)=P*D:=by rw [this]
 rw [hA,Nat.add_mul]
 have e2:P*(V*(D / V)+D%V)=P*(D / V)*V+P*(D%V):=by grind
 omega

theorem aAk {B n U l d:Nat} (h:U=l+B^n*d) (hU:U<B^n):d=0:=by
 apply Classical.byContradiction
 intro br
 have:B^n*1≤B^n*d:=Nat.mul_le_mul_left _ (by omega)
 generalize B^n=Z at*
 omega

theorem aAo {B j m U V L D X T:Nat} (h1:U=L+B^j*D) (h2:D=X+B^(m+3)*T) (hV:V<B^(m+2)) (hB:0<B) (aC:U<V*B^(j+1)):T=0:=by
 apply Classical.byContradiction
 intro br
 have a1:B^(m+3)*1≤B^(m+3)*T:=Nat.mul_le_mul_left _ (by omega)
 have a2:B^j*B^(m+3)≤B^j*D:=Nat.mul_le_mul_left _ (by rw [h2];generalize B^(m+3)*T=z at*;omega)
 have a3:V*B^(j+1)<B^(m+2)*B^(j+1):=Nat.mul_lt_mul_of_pos_right hV (Nat.pow_pos hB)
 rw [←Nat.pow_add] at a2 a3
 rw [show m+2+(j+1)=j+(m+3) by omega] at a3
 generalize B^(j+(m+3))=z at*
 generalize V*B^(j+1)=w at*
 generalize B^j*D=y at*
 omega

theorem amB {B j V L D U:Nat} (h1:U=L+B^j*D) (aC:U<V*B^(j+1)):D<V*B:=by
 apply Classical.byContradiction
 intro br
 have a1:B^j*(V*B)≤B^j*D:=Nat.mul_le_mul_left _ (by omega)
 have a2:V*B^(j+1)=B^j*(V*B):=by
  rw [Nat.pow_succ]
  generalize B^j=z
  rw [←Nat.mul_assoc,Nat.mul_comm _ z,Nat.mul_assoc]
 rw [a2] at aC
 generalize B^j*(V*B)=w at*
 generalize B^j*D=y at*
 omega

theorem auL {B j L r V:Nat} (hL:L<B^j) (hr:r<V):L+B^j*r<V*B^j:=by
 have:B^j*(r+1)≤B^j*V:=Nat.mul_le_mul_left _ hr
 rw [Nat.mul_add,Nat.mul_one] at this
 rw [Nat.mul_comm V]
 generalize B^j*V=w at*
 generalize B^j*r=y at*
 generalize B^j=z at*
 omega

theorem ava {n b s top:Nat} {vs ys:List Nat} (cv:Canon 4294967296 vs) (ly:b9 4294967296 ys) (hn:ys.length=n+1) (qE:ys[n]?=some top) (hb:val 4294967296 ys=b) (hv:val 4294967296 vs=b*2^s) (hs:s≤31) (h1:2147483648≤top*2^s) (h2:top*2^s<4294967296):
  vs.length=n+1∧∃v1,vs[n]?=some v1∧2147483648≤v1:=by
 have te:ys[n]'(by omega)=top:=by
  rw [List.getElem?_eq_getElem (by omega)] at qE
  injection qE
 have tv:=gT 4294967296 ys (i:=n) (by omega)
 rw [List.take_of_length_le (by omega),te,hb] at tv
 have qA:=kT (xs:=ys.take n) (ly.mono fun y hy=>List.mem_of_mem_take hy)
 rw [List.length_take,Nat.min_eq_left (by omega)] at qA
 generalize val 4294967296 (ys.take n)=l at*
 have hP:0<4294967296^n:=Nat.pow_pos (by decide)
 have dL:2147483648*4294967296^n≤b*2^s:=by
  have e1:top*2^s*4294967296^n≤b*2^s:=by
   rw [tv,Nat.add_mul]
   have:4294967296^n*top*2^s=top*2^s*4294967296^n:=by
    rw [Nat.mul_assoc,Nat.mul_comm]
   omega
  exact Nat.le_trans (Nat.mul_le_mul_right _ h1) e1
 have iE:b*2^s<4294967296^(n+1):=by
  have e:=Hf hs
  have p0:0<2^s:=Nat.pow_pos (by decide)
  have t1:top+1≤2^(32-s):=by
   apply Classical.byContradiction
   intro hn
   have:2^s*2^(32-s)≤2^s*top:=Nat.mul_le_mul_left _ (by omega)
   rw [Nat.mul_comm (2^s) top] at this
   omega
  have t2:b<(top+1)*4294967296^n:=by
   rw [tv,Nat.add_mul,Nat.one_mul,Nat.mul_comm top]
   omega
  have t3:b*2^s<(top+1)*4294967296^n*2^s:=Nat.mul_lt_mul_of_pos_right t2 p0
  have t4:(top+1)*4294967296^n*2^s≤2^(32-s)*4294967296^n*2^s:=Nat.mul_le_mul_right _ (Nat.mul_le_mul_right _ t1)
  have t5:2^(32-s)*4294967296^n*2^s=4294967296^n*(2^s*2^(32-s)):=by
   generalize 2^(32-s)=x
   generalize 2^s=y
   generalize 4294967296^n=z
   grind
  rw [t5,←e,←Nat.pow_succ] at t4
  omega
 have hle:vs.length≤n+1:=cv.len (by decide) (by rw [hv];exact iE)
 have cH:n<vs.length:=by
  have h3:=kT cv.1
  rw [hv] at h3
  have h4:4294967296^n<4294967296^vs.length:=by
   have:1*4294967296^n≤2147483648*4294967296^n:=Nat.mul_le_mul_right _ (by decide)
   omega
  exact (Nat.pow_lt_pow_iff_right (by decide)).1 h4
 refine ⟨by omega,vs[n],List.getElem?_eq_getElem cH,?_⟩
 have t2:=gT 4294967296 vs (i:=n) cH
 rw [List.take_of_length_le (by omega),hv] at t2
 have od:=kT (xs:=vs.take n) (cv.1.mono fun y hy=>List.mem_of_mem_take hy)
 rw [List.length_take,Nat.min_eq_left (by omega)] at od
 apply Classical.byContradiction
 intro hc
 have:4294967296^n*(vs[n]+1)≤4294967296^n*2147483648:=Nat.mul_le_mul_left _ (by omega)
 rw [Nat.mul_add,Nat.mul_one,Nat.mul_comm _ 2147483648] at this
 omega

theorem azZ {id N l r:Nat} (h1:l≤r) (h2:r≤N):j5 177 1 (sl 177 id 0 N) (some (I l)) (some (I r))=some (sl 177 id l (r-l)):=by
 simp [j5,sl,pG,qL,h1,h2]
theorem az0 {id N r:Nat} (h2:r≤N):j5 177 1 (sl 177 id 0 N) none (some (I r))=some (sl 177 id 0 r):=by
 simp [j5,sl,pG,qL,h2]

section
variable {h : ae} {K : Value → ae → Prop}

theorem aiQ {g:ae} {id iq iv m s nq A:Nat} {vs us:List Nat} {rest:List Value} {v1:Nat} (gD:h.length≤id) (hiq:h.length≤iq) (br:iv≠id) (asS:iv≠iq) (Z0:id≠iq) (hn:vs.length=m+2) (hm:m≤1000) (hs:s≤31)
  (lv:b9 4294967296 vs) (kA:vs[m+1]?=some v1) (iE:2147483648≤v1) (pC:us.length=nq+1+(m+2)) (hnq:nq≤200) (wu:m≤150) (lu:b9 4294967296 us) (hA:val 4294967296 us=A) (Fm:A<val 4294967296 vs*4294967296^(nq+1))
  (hx:EX h g) (ku:g[id]?=some (.arr 177 (wv us))) (kq:g[iq]?=some (.arr 177 (wv (List.replicate (nq+1) 0)))) (kv:aO g iv=some (wv vs++rest))
  (hk:∀q r h',EX h h'→cX h' q (A / val 4294967296 vs)→cX h' r (A%val 4294967296 vs / 2^s)→K (.tuple #[q,r]) h'):
  cG [I nq] g fun L1 xs hx=>Pz Tryz.prog K (I s) (sl 177 iv 0 (m+2)) (sl 177 id 0 (nq+1+(m+2))) (I (m+2:Nat)) (sl 177 iq 0 (nq+1)) L1 xs hx:=by
 have V0:0<val 4294967296 vs:=by
  apply Nat.pos_of_ne_zero
  intro e
  rw [e,Nat.zero_mul] at Fm
  omega
 have Vn:=kT lv
 rw [hn] at Vn
 refine dc (σ:=Nat×List Nat×List Nat×ae) (fun p=>[I ((p.1:Int)-1)]) (fun p=>p.2.2.2)
  (fun p=>p.1≤nq+1∧EX h p.2.2.2∧p.2.1.length=nq+1+(m+2)∧b9 4294967296 p.2.1∧p.2.2.1.length=nq+1∧b9 4294967296 p.2.2.1∧(∀k,k<p.1→p.2.2.1[k]?=some 0)∧
   A=val 4294967296 p.2.1+val 4294967296 p.2.2.1*val 4294967296 vs∧val 4294967296 p.2.1<val 4294967296 vs*4294967296^p.1∧
   p.2.2.2[id]?=some (.arr 177 (wv p.2.1))∧p.2.2.2[iq]?=some (.arr 177 (wv p.2.2.1))∧aO p.2.2.2 iv=some (wv vs++rest)) (fun p=>p.1)
  (nq+1,us,List.replicate (nq+1) 0,g) (by simp) rfl ⟨Nat.le_refl _,hx,pC,lu,by simp,b9.tH (by decide) _,fun k (hk:k<nq+1)=>by rw [List.getElem?_replicate,if_pos hk],by show A=_;rw [hA,uQ];simp,by show val 4294967296 us<_;rw [hA];exact Fm,ku,kq,kv⟩ ?_
 clear ku kq kv hx lu hA pC us g
 rintro ⟨jn,us,qs,g⟩ ⟨sL,hx,pC,lu,om,lq,hz,hA,aC,ku,kq,kv⟩ L hL
 simp only at sL hx pC lu om lq hz hA aC ku kq kv hL⊢
 rw [awE]
 simp only [kl,ah,bK]
 refine ⟨fun cH=>?_,fun mR=>?_⟩
 ·obtain ⟨j,rfl⟩:∃j,jn=j+1:=⟨jn-1,by omega⟩
  have ej:((j+1:Nat):Int)-1=(j:Int):=by omega
  have w1:ai .add (I j) (I (m+2:Nat))=some (I (j+(m+2):Nat)):=by rw [cD,wrap64 (by omega) (by omega)];congr 2
  have w2:ai .add (I (j+(m+2):Nat)) (.int .i64 1)=some (I (j+(m+3):Nat)):=by rw [cD,wrap64 (by omega) (by omega)];congr 2
  have w3:ai .sub (I j) (.int .i64 1)=some (I ((j:Int)-1)):=by rw [fz,wrap64 (by omega) (by omega)]
  have w4:j+(m+3)-j=m+3:=by omega
  rw [ej]
  simp only [w1,w2,ah,azZ (show j≤j+(m+3) by omega) (show j+(m+3)≤nq+1+(m+2) by omega),w4]
  have mc:((us.drop j).take (m+3)).length=m+3:=by rw [List.length_take,List.length_drop];omega
  have hud:∀k,k≤m+2→us[j+k]?=((us.drop j).take (m+3))[k]?:=by
   intro k hk
   rw [List.getElem?_take_of_lt (by omega),List.getElem?_drop]
  have lud:b9 4294967296 ((us.drop j).take (m+3)):=lu.mono fun y hy=>List.mem_of_mem_drop (List.mem_of_mem_take hy)
  -- ft number:pQ is below,pQ is aBe,and nothing aBa
  have iD:=Ia 4294967296 us (i:=j) (by omega)
  have v3:=Ia 4294967296 (us.drop j) (i:=m+3) (by rw [List.length_drop];omega)
  have qA:=kT (xs:=us.take j) (lu.mono fun y hy=>List.mem_of_mem_take hy)
  rw [List.length_take,Nat.min_eq_left (by omega)] at qA
  have qE:val 4294967296 ((us.drop j).drop (m+3))=0:=aAo iD v3 Vn (by decide) aC
  rw [qE,Nat.mul_zero,Nat.add_zero] at v3
  rw [v3] at iD
  have ry:val 4294967296 ((us.drop j).take (m+3))<val 4294967296 vs*4294967296:=amB iD aC
  refine aiS ku kv br hn hm mc (by omega) hud lud lv kA iE ry ?_
  intro rs FU lr hrv
  have kq':(g.set id (.arr 177 (wv (mid us j rs))))[iq]?=some (.arr 177 (wv qs)):=by rw [List.getElem?_set_ne Z0];exact kq
  have ars:aU 1 (sl 177 iq 0 (nq+1)) (I j)=some (pt iq j):=kZ (by omega)
  simp only [ars,ah,Ap _ kq' (show j<qs.length by omega),aE,w3,true_and]
  have Bs:val 4294967296 ((us.drop j).take (m+3)) / val 4294967296 vs<4294967296:=by
   rw [Nat.div_lt_iff_lt_mul V0,Nat.mul_comm];exact ry
  have ZZ:val 4294967296 (mid us j rs)=val 4294967296 (us.take j)+4294967296^j*(val 4294967296 ((us.drop j).take (m+3))%val 4294967296 vs):=by
   unfold mid
   rw [lM,lM,List.length_take,Nat.min_eq_left (by omega),hrv,FU]
   have:us.drop (j+(m+3))=(us.drop j).drop (m+3):=by rw [List.drop_drop]
   rw [this,qE,Nat.mul_zero,Nat.add_zero]
  have nC:=hz j (by omega)
  have mi:qs[j]'(by omega)=0:=by
   rw [List.getElem?_eq_getElem (by omega)] at nC
   injection nC
  have hqs:=qW 4294967296 qs j (val 4294967296 ((us.drop j).take (m+3)) / val 4294967296 vs) (by omega)
  rw [mi,Nat.mul_zero,Nat.add_zero] at hqs
  have mQ:=Nat.mod_lt (val 4294967296 ((us.drop j).take (m+3))) V0
  refine hL (j,mid us j rs,qs.set j (val 4294967296 ((us.drop j).take (m+3)) / val 4294967296 vs),_) ⟨by show j≤_;omega,(hx.set gD _).set hiq _,by rw [zh (by omega)];exact pC,?_,by rw [List.length_set];exact om,lq.set Bs j,fun k hk=>?_,?_,?_,?_,cM kq',?_⟩ (by show j<j+1;omega)
  ·unfold mid
   exact (lu.mono fun y hy=>List.mem_of_mem_take hy).append (lr.append (lu.mono fun y hy=>List.mem_of_mem_drop hy))
  ·have hk:k<j:=hk
   rw [List.getElem?_set_ne (by omega)]
   exact hz k (by omega)
  ·show A=val 4294967296 (mid us j rs)+val 4294967296 (qs.set j _)*val 4294967296 vs
   rw [ZZ,hqs]
   refine aqB ?_
   rw [hA,iD]
  ·show val 4294967296 (mid us j rs)<val 4294967296 vs*4294967296^j
   rw [ZZ]
   exact auL qA mQ
  ·rw [List.getElem?_set_ne Z0.symm];exact cM ku
  ·rw [AF asS,AF br];exact kv
 ·have rD:jn=0:=by omega
  subst rD
  rw [Nat.pow_zero,Nat.mul_one] at aC
  have hQ:A / val 4294967296 vs=val 4294967296 qs:=by rw [hA,Nat.add_mul_div_right _ _ V0,Nat.div_eq_of_lt aC,Nat.zero_add]
  have hR:A%val 4294967296 vs=val 4294967296 us:=by rw [hA,Nat.add_mul_mod_self_right,Nat.mod_eq_of_lt aC]
  have hdq:DS 177 .u32 g (sl 177 iq 0 (nq+1)) qs:=.inr ⟨iq,by rw [om],.inr ⟨[],by rw [List.append_nil];simp [aO,kq,wv]⟩⟩
  rw [awF]
  refine pV hdq lq (by omega) ?_
  intro q hq
  have FX:val 4294967296 (us.take (m+2))=val 4294967296 us:=by
   have hd:=Ia 4294967296 us (i:=m+2) (by omega)
   have:val 4294967296 (us.drop (m+2))=0:=aAk hd (Nat.lt_trans aC Vn)
   rw [this,Nat.mul_zero,Nat.add_zero] at hd
   exact hd.symm
  have wg:DS 177 .u32 g (sl 177 id 0 (m+2)) (us.take (m+2)):=.inr ⟨id,by rw [List.length_take,Nat.min_eq_left (by omega)],.inr ⟨wv (us.drop (m+2)),by
   simp only [aO,ku]
   congr 1
   show wv us=wv (us.take (m+2))++wv (us.drop (m+2))
   unfold wv
   rw [←List.map_append,List.take_append_drop]⟩⟩
  simp only [true_and,az0 (show m+2≤nq+1+(m+2) by omega),ah]
  refine pV wg (lu.mono fun y hy=>List.mem_of_mem_take hy) (by rw [List.length_take];omega) ?_
  intro r0 qB
  rw [FX] at qB
  obtain ⟨zs,dz,cz,hz⟩:=qB
  have lz:zs.length≤m+2:=cz.len (by decide) (by rw [hz];exact Nat.lt_trans aC Vn)
  refine aiU dz cz.1 hs (by omega) ?_
  intro r h' x' hr
  rw [hz,←hR] at hr
  rw [←hQ] at hq
  exact hk q r h' (hx.trans x') (hq.mono x') hr

end
end Go.Proofs.YtelmdbpaoifmoaaGreat


namespace Go.Proofs.YtelmdbpaoifmoaaGreat
open Go.Sim

theorem az4 {B a P Q s n l V:Nat} (ha:a<P*B^(n-1)) (hV:2147483648*P≤V) (hB:2^s≤2147483648) (hl:l=n) (hQ:Q=B^(n-1)) (_h:1≤n):a*2^s<V*Q:=by
 have _:=hl
 have h1:a*2^s<P*B^(n-1)*2^s:=Nat.mul_lt_mul_of_pos_right ha (Nat.pow_pos (by decide))
 have h2:P*B^(n-1)*2^s≤P*B^(n-1)*2147483648:=Nat.mul_le_mul_left _ hB
 have h3:2147483648*P*B^(n-1)≤V*B^(n-1):=Nat.mul_le_mul_right _ hV
 have e:P*B^(n-1)*2147483648=2147483648*P*B^(n-1):=by
  generalize B^(n-1)=z
  rw [Nat.mul_comm,←Nat.mul_assoc]
 rw [hQ]
 generalize V*B^(n-1)=x at*
 omega

theorem Sb {va vb:Value} {a b:Nat} {h:ae} {K:Value→ae→Prop} (ha:cX h va a) (hb:cX h vb b) (la:a<bu) (lb:b<bu) (b0:0<b) (hk:∀q r h',EX h h'→cX h' q (a / b)→cX h' r (a%b)→K (.tuple #[q,r]) h'):
  ak Tryz.prog 130 [va,vb] h K:=by
 by_cases Ft:b<4294967296
 ·exact aiP ha hb la b0 Ft hk
 refine f130 ?_
 unfold Dk
 refine CI ha hb la lb ?_
 simp only [cI,ah,bK]
 refine ⟨fun aC=>?_,fun cH=>?_⟩
 ·have gB:=HJ.1 aC
  have pb:=ha
  obtain ⟨xs,d,c,rfl⟩:=ha
  obtain ⟨s1,s2⟩:=d.cells
  have lx:=nU c la
  have hq:∀g,cX g (.slice none 0 0) (val 4294967296 xs / b):=fun g=>⟨[],DS.nil _ _ _,⟨fun x hx=>by simp at hx,by simp⟩,by rw [Nat.div_eq_of_lt gB];rfl⟩
  by_cases h0:xs.length=0
  ·have e:dj 177 1 4 h (.slice none 0 0) va=some (.slice none 0 0,h):=by
    simp only [dj,s1,s2]
    rw [if_pos h0]
   simp only [e,aE]
   have:xs=[]:=List.length_eq_zero_iff.1 h0
   subst this
   exact hk _ _ h (EX.refl h) (hq h) ⟨[],DS.nil _ _ _,c,by rw [Nat.mod_eq_of_lt gB]⟩
  ·have e:dj 177 1 4 h (.slice none 0 0) va=some (sl 177 h.length 0 xs.length,h++[.arr 177 (xs.map fun d:Nat=>Value.int .u32 (d:Int))]):=by
    simp only [dj,s1,s2]
    rw [if_neg h0,if_pos ⟨by omega,by unfold maxLen;omega⟩]
   simp only [e,aE]
   refine hk _ _ _ (EX.append _ _) (hq _) ⟨xs,.inr ⟨h.length,rfl,.inr ⟨[],?_⟩⟩,c,by rw [Nat.mod_eq_of_lt gB]⟩
   simp [aO]
 have gB:b≤a:=by
  apply Classical.byContradiction
  intro hc
  exact cH (HJ.2 (by omega))
 obtain ⟨xs,dx,cx,N2⟩:=ha
 obtain ⟨ys,dy,cy,oB⟩:=hb
 have lx:=nU cx (by rw [N2];exact la)
 have ly:=nU cy (by rw [oB];exact lb)
 have je:=kT cy.1
 rw [oB] at je
 obtain ⟨m,hm⟩:∃m,ys.length=m+2:=by
  refine ⟨ys.length-2,?_⟩
  have:¬ys.length≤1:=by
   intro h1
   have:4294967296^ys.length≤4294967296^1:=Nat.pow_le_pow_right (by decide) h1
   rw [Nat.pow_one] at this
   generalize 4294967296^ys.length=z at*
   omega
  omega
 have atp:ys≠[]:=by rintro rfl;simp at hm
 have aaA:=Canon.low (by decide) cy atp
 have fY:=kT cx.1
 rw [N2] at fY
 rw [oB] at aaA
 have hlen:ys.length≤xs.length:=by
  have:4294967296^(ys.length-1)<4294967296^xs.length:=Nat.lt_of_le_of_lt aaA (Nat.lt_of_le_of_lt gB fY)
  have:=(Nat.pow_lt_pow_iff_right (show 1<4294967296 by decide)).1 this
  omega
 -- ft aBj digit
 obtain ⟨ib,g1,g2⟩:=dy.get (j:=m+1) (by omega)
 have qE:ys[m+1]?=some (ys[m+1]'(by omega)):=List.getElem?_eq_getElem (by omega)
 have Bw:=cy.1 _ (List.getElem_mem (l:=ys) (n:=m+1) (by omega))
 have sU:0<ys[m+1]'(by omega):=by
  apply Nat.pos_of_ne_zero
  intro e
  refine cy.2 ?_
  rw [List.getLast?_eq_getElem?,hm,show m+2-1=m+1 by omega,qE,e]
 have OF:aY vb=some (I (m+2:Nat)):=by rw [dy.len,hm]
 have s1:ai .sub (I (m+2:Nat)) (.int .i64 1)=some (I (m+1:Nat)):=by rw [fz,wrap64 (by omega) (by omega)];congr 2;omega
 simp only [OF,ah,fX,decide_eq_false (show ¬(((m+2:Nat):Int)=1) by omega),dp,s1,g1,g2]
 generalize ys[m+1]'(by omega)=top at*
 refine aiR sU Bw ?_
 intro s hs h1 h2
 refine Sf dy cy.1 hs (by omega) ?_
 intro fH ol1 lo1 kA
 rw [oB] at kA
 have d1:DS 177 .u32 (hd h fH) (sl 177 h.length 0 (ys.length+1)) fH:=by rw [←ol1];exact wa h fH
 refine pV d1 lo1 (by omega) ?_
 intro v' iS
 rw [kA] at iS
 obtain ⟨vs,dv,cv,wK⟩:=iS
 obtain ⟨pE,v1,NX,aan⟩:=ava (n:=m+1) cv cy.1 hm qE oB wK hs h1 h2
 obtain ⟨iv,asI,rest,kv⟩:∃i,v'=sl 177 i 0 (m+2)∧∃rest,aO (hd h fH) i=some (wv vs++rest):=by
  rcases dv with ⟨_,h0⟩ | ⟨i,e1,e2⟩
  ·rw [h0] at pE;simp at pE
  ·rcases e2 with h0 | ⟨r,hr⟩
   ·rw [h0] at pE;simp at pE
   ·exact ⟨i,by rw [e1,pE],r,hr⟩
 subst asI
 have aBt:iv<(hd h fH).length:=by
  unfold aO at kv
  apply Classical.byContradiction
  intro hn
  rw [List.getElem?_eq_none (by omega)] at kv
  cases kv
 refine Sf (dx.mono (jt h fH)) cx.1 hs (by omega) ?_
 intro zv ol2 lo2 pD
 rw [N2] at pD
 have x2:=jt (hd h fH) zv
 have k2:=M9 (hd h fH) zv
 have l2:(hd (hd h fH) zv).length=(hd h fH).length+1:=by simp [hd]
 have kv2:=x2.cells kv
 have BT:aY (sl 177 iv 0 (m+2))=some (I (m+2:Nat)):=rfl
 obtain ⟨nq,hnq⟩:∃nq,xs.length=nq+(m+2):=⟨xs.length-(m+2),by omega⟩
 have w1:ai .sub (I (xs.length:Nat)) (I (m+2:Nat))=some (I nq):=by rw [fz,wrap64 (by omega) (by omega)];congr 2;omega
 have w2:ai .add (I nq) (.int .i64 1)=some (I (nq+1:Nat)):=by rw [cD,wrap64 (by omega) (by omega)];congr 2
 simp only [BT,ah,dx.len,w1,w2,xd (show nq+1≤1000 by omega),aE]
 have x3:=jt (hd (hd h fH) zv) (List.replicate (nq+1) 0)
 have k3:=M9 (hd (hd h fH) zv) (List.replicate (nq+1) 0)
 have BN:=x3.get k2
 have kv3:=x3.cells kv2
 have xA:=(jt h fH).trans (x2.trans x3)
 have yH:=(jt h fH).1
 generalize hd (hd (hd h fH) zv) (List.replicate (nq+1) 0)=g3 at*
 have eN:xs.length+1=nq+1+(m+2):=by omega
 rw [eN]
 have atc:2^s≤2147483648:=Nat.pow_le_pow_right (show 0<2 by decide) hs
 have ash:2147483648*4294967296^(m+1)≤val 4294967296 vs:=by
  have tv:=gT 4294967296 vs (i:=m+1) (by omega)
  rw [List.take_of_length_le (by omega)] at tv
  have e1:vs[m+1]'(by omega)=v1:=by
   rw [List.getElem?_eq_getElem (by omega)] at NX
   injection NX
  rw [e1] at tv
  rw [tv,Nat.mul_comm]
  have:4294967296^(m+1)*2147483648≤4294967296^(m+1)*v1:=Nat.mul_le_mul_left _ aan
  generalize 4294967296^(m+1)*v1=z at*
  omega
 have Fm:a*2^s<val 4294967296 vs*4294967296^(nq+1):=by
  have atn:a<4294967296^(m+1)*4294967296^(nq+1):=by
   rw [←Nat.pow_add,show m+1+(nq+1)=xs.length by omega];exact fY
  exact az4 (n:=nq+2) (l:=nq+2) (by simpa using atn) ash atc rfl (by simp) (by omega)
 have Ut:0<2^s:=Nat.pow_pos (by decide)
 refine aiQ (h:=h) (A:=a*2^s) (by omega) (by omega) (by omega) (by omega) (by omega) pE (by omega) hs cv.1 NX aan (by omega) (by omega) (by omega) lo2 pD Fm xA BN k3 kv3 ?_
 intro q r h' x' hq hr
 rw [wK,Nat.mul_div_mul_right _ _ Ut] at hq
 rw [wK,Nat.mul_mod_mul_right,Nat.mul_div_cancel _ Ut] at hr
 exact hk q r h' x' hq hr

end Go.Proofs.YtelmdbpaoifmoaaGreat


namespace Go.Proofs.YtelmdbpaoifmoaaGreat
open Go.Sim

def gN (h:ae) (val:Value) (a b:Int):Prop:=∃u w,val=.agg #[B (decide (a<0)),u,B (decide (b<0)),w]∧cX h u a.natAbs∧cX h w b.natAbs

theorem RY {va:Value} {a:Int} {h:ae} {K:Value→ae→Prop} (ha:dE h va a) (hk:∀r h',EX h h'→gN h' r a 1→K r h'):ak Tryz.prog 112 [va] h K:=by
 obtain ⟨v,rfl,hv⟩:=ha
 refine f112 ?_
 have e1:bk 105 h (.agg #[B (decide (a<0)),v])=some (pt h.length 0,h++[.arr 105 [B (decide (a<0)),v]]):=rfl
 have e2:∀g:ae,aX 107 [(.bool false),(.slice none 0 0),(.bool false),(.slice none 0 0)] g=some (pt g.length 0,g++[.arr 107 z4]):=fun _=>rfl
 simp only [JQ,e1,e2,aE,List.length_append,List.length_cons,List.length_nil]
 have g0:(h++[aq.arr 105 [B (decide (a<0)),v]]++[aq.arr 107 z4])[h.length]?=some (.arr 105 [B (decide (a<0)),v]):=by simp
 have g1:(h++[aq.arr 105 [B (decide (a<0)),v]]++[aq.arr 107 z4])[h.length+1]?=some (.arr 107 z4):=by simp
 have x1:EX h (h++[aq.arr 105 [B (decide (a<0)),v]]++[aq.arr 107 z4]):=(EX.append _ _).push _
 generalize h++[aq.arr 105 [B (decide (a<0)),v]]++[aq.arr 107 z4]=h1 at g0 g1 x1⊢
 rw [cn g0]
 simp only [ah,true_and]
 refine z9 (by decide) (by decide) ?_
 intro r2 h2 x2 i2
 obtain ⟨w,rfl,hw⟩:=id i2
 refine ⟨⟨EX.load x2 (cn g0),trivial⟩,?_⟩
 have pD:=(hv.mono x1).mono x2
 obtain ⟨xs,dx,cx⟩:=id pD
 obtain ⟨ys,dy,cy⟩:=id hw
 rw [Dw dx dy]
 simp only [ah,Nat.zero_add]
 have g2:=x2.get g1
 exact qh g2 (hk _ _ ((x1.trans x2).set (by omega) _) ⟨v,w,rfl,pD.bH g2 _,hw.bH g2 _⟩)

theorem C90 {u w:Value} {s:Bool} {h:ae} {K:Value→ae→Prop} (hw:cX h w 1) (hk:∀h',EX h h'→K (B true) h'):ak Tryz.prog 90 [.agg #[B s,u,B false,w]] h K:=by
 refine f90 ?_
 have e1:bk 107 h (.agg #[B s,u,B false,w])=some (pt h.length 0,h++[.arr 107 [B s,u,B false,w]]):=rfl
 simp only [Dl,e1,aE]
 have x1:EX h (h++[aq.arr 107 [B s,u,B false,w]]):=EX.append _ _
 have l3:af false 1 (h++[aq.arr 107 [B s,u,B false,w]]) (pt h.length 3)=some w:=uI rfl
 obtain ⟨xs,dx,cx,vx⟩:=hw.mono x1
 have N1:xs=[1]:=Canon.unique (by decide) cx ⟨fun y hy=>by simp at hy;subst hy;decide,by simp⟩ (by rw [vx];rfl)
 subst N1
 obtain ⟨i,g1,g2⟩:=dx.get (j:=0) (by simp)
 have vR:aU 1 w (I 0)=some (pt i 0):=g1
 simp only [bW,Nat.zero_add,ah,l3,dx.len,List.length_singleton,fX,QI]
 rw [decide_eq_true (show ((1:Nat):Int)=1 by rfl)]
 simp only [fy,ah,vR,g2,fX,QJ,dA]
 exact hk _ x1

end Go.Proofs.YtelmdbpaoifmoaaGreat


namespace Go.Proofs.YtelmdbpaoifmoaaGreat
open Go.Sim

theorem gN.mono {h h':ae} {v:Value} {a b:Int} (x:EX h h') (p:gN h v a b):gN h' v a b:=let ⟨u,w,e,m,n⟩:=p;⟨u,w,e,m.mono x,n.mono x⟩
theorem gN.bH {h:ae} {v:Value} {a b:Int} {j:Nat} {e:TypeId} {s:Bool} {r:List Value} (p:gN h v a b) (hj:h[j]?=some (.arr e (.bool s::r))) (o:aq):gN (h.set j o) v a b:=
 let ⟨u,w,e,m,n⟩:=p;⟨u,w,e,m.bH hj o,n.bH hj o⟩

theorem Mm {h h':ae} {j:Nat} {va vb:Value} {a b:Int} {K:Value→ae→Prop} (ha:dE h' va a) (hb:dE h' vb b) (x:EX h h') (hj:h.length≤j) (hg:h'[j]?=some (.arr 107 z4)) (hk:∀r h',EX h h'→gN h' r a b→K r h'):
  OP (cT [(.bool false),(.slice none 0 0),(.bool false),(.slice none 0 0)] [(0,2,va),(2,2,vb)]) fun bt=>OH (aI 4 h' (pt j 0) bt) fun _ h_6=>OP (af true 4 h_6 (pt j 0)) fun r0=>K r0 h_6:=by
 obtain ⟨v,rfl,hv⟩:=ha
 obtain ⟨w,rfl,hw⟩:=hb
 obtain ⟨xs,dx,_⟩:=id hv
 obtain ⟨ys,dy,_⟩:=id hw
 rw [Dw dx dy]
 simp only [ah]
 exact qh hg (hk _ _ (x.set hj _) ⟨v,w,rfl,hv.bH hg _,hw.bH hg _⟩)

theorem C75 {n:Int} {h:ae} {K:Value→ae→Prop} (h1: -9223372036854775808≤n) (h2:n<9223372036854775808) (hk:∀r h',EX h h'→gN h' r n 1→K r h'):ak Tryz.prog 75 [I n] h K:=by
 refine f75 ?_
 have e1:aX 107 [(.bool false),(.slice none 0 0),(.bool false),(.slice none 0 0)] h=some (pt h.length 0,h++[.arr 107 z4]):=rfl
 simp only [KN,e1,aE]
 have x0:EX h (h++[.arr 107 z4]):=EX.append _ _
 have g0:(h++[aq.arr 107 z4])[h.length]?=some (.arr 107 z4):=bR
 generalize h++[aq.arr 107 z4]=ga at x0 g0⊢
 refine z9 h1 h2 ?_
 intro r h3 x3 i3
 refine z9 (by decide) (by decide) ?_
 intro s h4 x4 i4
 exact Mm (i3.mono x4) i4 (x0.trans (x3.trans x4)) (Nat.le_refl _) ((x3.trans x4).get g0) hk

theorem ar2 {a b:Int} (b0:0<b):0<(Nat.gcd a.natAbs b.natAbs:Int)∧(Nat.gcd a.natAbs b.natAbs:Int)≤b:=by
 have h1:0<Nat.gcd a.natAbs b.natAbs:=Nat.gcd_pos_of_pos_right _ (by omega)
 have h2:Nat.gcd a.natAbs b.natAbs≤b.natAbs:=Nat.gcd_le_right _ (by omega)
 omega

end Go.Proofs.YtelmdbpaoifmoaaGreat


namespace Go.Proofs.YtelmdbpaoifmoaaGreat
open Go.Sim

theorem CK {u w:Value} {s:Bool} {b:Nat} {h:ae} {K:Value→ae→Prop} (hw:cX h w b) (lb:b<bu) (hk:∀h',EX h h'→K (B (decide (b=1))) h'):ak Tryz.prog 90 [.agg #[B s,u,B false,w]] h K:=by
 by_cases h1:b=1
 ·subst h1
  exact C90 hw hk
 rw [decide_eq_false h1] at hk
 refine f90 ?_
 have e1:bk 107 h (.agg #[B s,u,B false,w])=some (pt h.length 0,h++[.arr 107 [B s,u,B false,w]]):=rfl
 simp only [Dl,e1,aE]
 have x1:EX h (h++[aq.arr 107 [B s,u,B false,w]]):=EX.append _ _
 have l3:af false 1 (h++[aq.arr 107 [B s,u,B false,w]]) (pt h.length 3)=some w:=uI rfl
 obtain ⟨xs,dx,cx,vx⟩:=hw.mono x1
 simp only [bW,Nat.zero_add,ah,l3,dx.len,fX]
 by_cases hl:xs.length=1
 ·obtain ⟨y,rfl⟩:∃y,xs=[y]:=by
   match xs,hl with
   | [y],_=>exact ⟨y,rfl⟩
  have hy:y=b:=by simpa [val] using vx
  subst hy
  obtain ⟨i,g1,g2⟩:=dx.get (j:=0) (by simp)
  have vR:aU 1 w (.int .i64 (0))=some (pt i 0):=g1
  rw [decide_eq_true (show ((([y]:List Nat).length:Nat):Int)=1 from rfl),QI]
  simp only [fy,bW,Nat.zero_add,ah,l3,vR,g2,List.getElem_cons_zero,fX]
  rw [decide_eq_false (show ¬((y:Int)=1) by omega),QJ]
  simp only [dA,ah]
  exact hk _ x1
 ·rw [decide_eq_false (show ¬((xs.length:Int)=1) by omega),QI]
  simp only [iz]
  rw [QJ]
  simp only [cY,ah]
  exact hk _ x1

end Go.Proofs.YtelmdbpaoifmoaaGreat


namespace Go.Proofs.YtelmdbpaoifmoaaGreat
open Go.Sim

theorem R4 {va vb:Value} {a b:Int} {h:ae} {K:Value→ae→Prop} (ha:dE h va a) (hb:dE h vb b) (la:a.natAbs<bu) (lb:b.natAbs<bu) (hk:∀r h',EX h h'→dE h' r (Nat.gcd a.natAbs b.natAbs:Nat)→K r h'):ak Tryz.prog 120 [va,vb] h K:=by
 obtain ⟨v,rfl,hv⟩:=ha
 obtain ⟨w,rfl,hw⟩:=hb
 refine f120 ?_
 unfold JW
 refine Dt ?_
 intro h3 x
 simp only [bW,Nat.zero_add,ah,x.a1,x.b1,true_and]
 refine dc (σ:=Value×Value×Nat×Nat×ae) (fun q=>[q.1,q.2.1]) (fun q=>q.2.2.2.2) (fun q=>(cX q.2.2.2.2 q.1 q.2.2.1∧cX q.2.2.2.2 q.2.1 q.2.2.2.1)∧(q.2.2.1<bu∧q.2.2.2.1<bu)∧Nat.gcd q.2.2.1 q.2.2.2.1=Nat.gcd a.natAbs b.natAbs∧EX h3 q.2.2.2.2) (fun q=>q.2.2.2.1)
  (v,w,a.natAbs,b.natAbs,h3) rfl rfl ⟨⟨hv.mono x.ex,hw.mono x.ex⟩,⟨la,lb⟩,rfl,EX.refl _⟩ ?_
 rintro ⟨vx,vy,m,n,g⟩ ⟨⟨hm,hn⟩,⟨lm,ln⟩,hg,xg⟩ L hL
 simp only at hm hn lm ln hg xg hL⊢
 rw [awf]
 obtain ⟨l,e1,e2⟩:=hn.nE
 simp only [e1,ah,fe,bK]
 refine ⟨fun hp=>?_,fun hz=>?_⟩
 ·have n0:0<n:=e2.1 (by omega)
  refine Sb hm hn lm ln n0 ?_
  intro q r g2 x2 hq hr
  simp only [eJ,fq,fC,ah,true_and]
  have mQ:m%n<n:=Nat.mod_lt _ n0
  refine hL (vy,r,n,m%n,g2) ⟨⟨hn.mono x2,hr⟩,⟨ln,by show m%n<_;omega⟩,?_,xg.trans x2⟩ mQ
  show Nat.gcd n (m%n)=_
  rw [←hg,Nat.gcd_comm m n,Nat.gcd_rec n m,Nat.gcd_comm]
 ·have n0:n=0:=by
   apply Classical.byContradiction
   intro br
   have:=e2.2 (by omega)
   omega
  subst n0
  rw [awe]
  rw [Nat.gcd_zero_right] at hg
  refine pU hm ?_
  intro h5 x5
  have g':=(xg.trans x5).get x.out
  rw [Bool.false_and]
  refine tZ g' (hk _ _ (((x.ex.trans xg).trans x5).set (by omega) _) ?_)
  rw [←hg]
  exact (dE.nat (hm.mono x5)).bH g' _

theorem R5 {va vb:Value} {a b:Int} {h:ae} {K:Value→ae→Prop} (ha:dE h va a) (hb:dE h vb b) (la:a.natAbs<bu) (b0:0<b) (lb:b.natAbs<bu) (hd:b ∣ a) (hk:∀r s h',EX h h'→dE h' r (a / b)→dE h' s 0→K (.tuple #[r,s]) h'):ak Tryz.prog 121 [va,vb] h K:=by
 obtain ⟨v,rfl,hv⟩:=ha
 obtain ⟨w,rfl,hw⟩:=hb
 have wI:decide (b<0)=false:=decide_eq_false (by omega)
 obtain ⟨c,rfl⟩:=hd
 have hdiv:b*c / b=c:=Int.mul_ediv_cancel_left c (by omega)
 rw [hdiv] at hk
 have gB:(b*c).natAbs=b.natAbs*c.natAbs:=Int.natAbs_mul b c
 have n7:0<b.natAbs:=by omega
 have hq:(b*c).natAbs / b.natAbs=c.natAbs:=by rw [gB];exact Nat.mul_div_cancel_left _ n7
 have hr:(b*c).natAbs%b.natAbs=0:=by rw [gB];exact Nat.mul_mod_right _ _
 have mR:(decide (b*c<0)&&decide (0<c.natAbs))=decide (c<0):=by
  by_cases hc:c<0
  ·rw [decide_eq_true hc,decide_eq_true (show 0<c.natAbs by omega),decide_eq_true (Int.mul_neg_of_pos_of_neg b0 hc)];rfl
  ·have:0≤b*c:=Int.mul_nonneg (by omega) (by omega)
   rw [decide_eq_false hc,decide_eq_false (by omega)];rfl
 refine f121 ?_
 have e1:∀(g:ae) (s:Bool) (v:Value),bk 105 g (.agg #[B s,v])=some (pt g.length 0,g++[.arr 105 [B s,v]]):=fun _ _ _=>rfl
 have e2:∀(g:ae),aX 105 [(.bool false),(.slice none 0 0)] g=some (pt g.length 0,g++[.arr 105 [(.bool false),(.slice none 0 0)]]):=fun _=>rfl
 have ob:∀{g:ae} {i:Nat},g[i]?=some (.arr 105 [(.bool false),(.slice none 0 0)])→dH g (pt i 0)=some (.agg #[.int .i64 105,.bool false,.slice none 0 0]):=by
  intro g i hi
  simp [dH,wQ,hi,mI,qM]
 rw [wI]
 simp only [JX,e1,e2,aE]
 have q0:EX h (h++[.arr 105 [B (decide (b*c<0)),v]]):=EX.append _ _
 have p0:(h++[aq.arr 105 [B (decide (b*c<0)),v]])[h.length]?=some (.arr 105 [B (decide (b*c<0)),v]):=bR
 generalize h++[aq.arr 105 [B (decide (b*c<0)),v]]=ga at q0 p0⊢
 have q1:EX ga (ga++[.arr 105 [B false,w]]):=EX.append _ _
 have p1:(ga++[aq.arr 105 [B false,w]])[ga.length]?=some (.arr 105 [B false,w]):=bR
 generalize ga++[aq.arr 105 [B false,w]]=gb at q1 p1⊢
 have q2:EX gb (gb++[.arr 105 [(.bool false),(.slice none 0 0)]]):=EX.append _ _
 have p2:(gb++[aq.arr 105 [(.bool false),(.slice none 0 0)]])[gb.length]?=some (.arr 105 [(.bool false),(.slice none 0 0)]):=bR
 generalize gb++[aq.arr 105 [(.bool false),(.slice none 0 0)]]=gc at q2 p2⊢
 have q3:EX gc (gc++[.arr 105 [(.bool false),(.slice none 0 0)]]):=EX.append _ _
 have p3:(gc++[aq.arr 105 [(.bool false),(.slice none 0 0)]])[gc.length]?=some (.arr 105 [(.bool false),(.slice none 0 0)]):=bR
 generalize gc++[aq.arr 105 [(.bool false),(.slice none 0 0)]]=gd at q3 p3⊢
 have Hj:=q1.trans (q2.trans q3)
 have Cl:=q0.trans Hj
 have k0:=Hj.get p0
 have k1:=(q2.trans q3).get p1
 have k2:=q3.get p2
 have la1:∀{g:ae},EX gd g→af false 1 g (pt h.length 1)=some v:=fun x=>by simp [af,aO,x.get k0,ck]
 have Ge:∀{g:ae},EX gd g→af false 1 g (pt h.length 0)=some (B (decide (b*c<0))):=fun x=>by simp [af,aO,x.get k0,ck]
 have lb1:∀{g:ae},EX gd g→af false 1 g (pt ga.length 1)=some w:=fun x=>by simp [af,aO,x.get k1,ck]
 have Ox:∀{g:ae},EX gd g→af false 1 g (pt ga.length 0)=some (B false):=fun x=>by simp [af,aO,x.get k1,ck]
 simp only [bW,Nat.zero_add,Nat.add_zero,ah,la1 (EX.refl gd),lb1 (EX.refl gd)]
 refine Sb (hv.mono Cl) (hw.mono Cl) la lb n7 ?_
 intro q r g5 x5 mq mr
 rw [hq] at mq
 rw [hr] at mr
 simp only [eJ,fq,fC,ah]
 have y1:EX g5 (g5++[.arr 105 [(.bool false),(.slice none 0 0)]]):=EX.append _ _
 have s1:(g5++[aq.arr 105 [(.bool false),(.slice none 0 0)]])[g5.length]?=some (.arr 105 [(.bool false),(.slice none 0 0)]):=bR
 have tu:(g5++[aq.arr 105 [(.bool false),(.slice none 0 0)]]).length=g5.length+1:=by simp
 generalize g5++[aq.arr 105 [(.bool false),(.slice none 0 0)]]=g6 at y1 s1 tu⊢
 have y2:EX g6 (g6++[.arr 105 [(.bool false),(.slice none 0 0)]]):=EX.append _ _
 have s2:(g6++[aq.arr 105 [(.bool false),(.slice none 0 0)]])[g6.length]?=some (.arr 105 [(.bool false),(.slice none 0 0)]):=bR
 generalize g6++[aq.arr 105 [(.bool false),(.slice none 0 0)]]=g7 at y2 s2⊢
 have Q6:=y2.get s1
 have uV:=y1.trans y2
 have z5:=x5
 have z6:=x5.trans y1
 have z7:=x5.trans uV
 simp only [ob s1,ob Q6,ob s2,ah,true_and,Ge z5,Ge z6,Ge z7,Ox z5,Ox z6,Ox z7,AM,if_true]
 have hx:(!(decide (b*c<0)==false))=decide (b*c<0):=by cases decide (b*c<0) <;> rfl
 rw [hx]
 refine pU (mq.mono uV) ?_
 intro g8 x8
 rw [mR]
 simp only [ob (x8.get Q6),ob (x8.get s2),true_and,Ge (z7.trans x8),ah]
 refine pU ((mr.mono uV).mono x8) ?_
 intro g9 x9
 have gY:=x8.trans x9
 have t1:=gY.get Q6
 have t2:=gY.get s2
 have br:g5.length≠g6.length:=by omega
 simp only [ob t1,ob t2,true_and,decide_eq_false (show ¬(0<0) by decide),Bool.and_false]
 rw [ef t1]
 simp only [aE]
 have H4:(g9.set g5.length (.arr 105 [B (decide (c<0)),q]))[g6.length]?=some (.arr 105 [(.bool false),(.slice none 0 0)]):=by rw [List.getElem?_set_ne br];exact t2
 rw [ef H4]
 simp only [aE]
 obtain ⟨l,l1,l2⟩:=mr.nE
 have l0:l=0:=by
  apply Classical.byContradiction
  intro hc
  have:=l2.1 (by omega)
  omega
 subst l0
 simp only [l1,ah,fe]
 rw [decide_eq_false (show ¬((0:Int)<((0:Nat):Int)) by decide)]
 rw [awh]
 simp only [iz]
 rw [awi]
 have pk:bL (B false) undef (.bool false)=some (B false):=rfl
 simp only [pk,ah,dp]
 rw [awg]
 have u1:((g9.set g5.length (.arr 105 [B (decide (c<0)),q])).set g6.length (.arr 105 [B false,r]))[g5.length]?=some (.arr 105 [B (decide (c<0)),q]):=by
  rw [List.getElem?_set_ne (fun e=>br e.symm)];exact cM t1
 have u2:((g9.set g5.length (.arr 105 [B (decide (c<0)),q])).set g6.length (.arr 105 [B false,r]))[g6.length]?=some (.arr 105 [B false,r]):=cM H4
 have hgd:gd.length≤g5.length:=x5.1
 have BE:EX h ((g9.set g5.length (.arr 105 [B (decide (c<0)),q])).set g6.length (.arr 105 [B false,r])):=
  (((Cl.trans z7).trans gY).set (by have:=Cl.1;omega) _).set (by have:=Cl.1;omega) _
 have lgb:gb.length<gd.length:=by
  have:=(List.getElem?_eq_some_iff.1 k2).1;exact this
 have lgc:gc.length<gd.length:=(List.getElem?_eq_some_iff.1 p3).1
 have w2:((g9.set g5.length (.arr 105 [B (decide (c<0)),q])).set g6.length (.arr 105 [B false,r]))[gb.length]?=some (.arr 105 [(.bool false),(.slice none 0 0)]):=by
  rw [List.getElem?_set_ne (by omega),List.getElem?_set_ne (by omega)];exact (z7.trans gY).get k2
 have w3:((g9.set g5.length (.arr 105 [B (decide (c<0)),q])).set g6.length (.arr 105 [B false,r]))[gc.length]?=some (.arr 105 [(.bool false),(.slice none 0 0)]):=by
  rw [List.getElem?_set_ne (by omega),List.getElem?_set_ne (by omega)];exact (z7.trans gY).get p3
 have mqf:cX ((g9.set g5.length (.arr 105 [B (decide (c<0)),q])).set g6.length (.arr 105 [B false,r])) q c.natAbs:=(((mq.mono uV).mono gY).bH t1 _).bH H4 _
 have mrf:cX ((g9.set g5.length (.arr 105 [B (decide (c<0)),q])).set g6.length (.arr 105 [B false,r])) r 0:=(((mr.mono uV).mono gY).bH t1 _).bH H4 _
 generalize (g9.set g5.length (.arr 105 [B (decide (c<0)),q])).set g6.length (.arr 105 [B false,r])=gz at u1 u2 BE w2 w3 mqf mrf⊢
 rw [cn u1,cn u2]
 simp only [ah,true_and]
 rw [ef w2]
 simp only [aE]
 have Zq:gb.length≠gc.length:=by
  have:=(List.getElem?_eq_some_iff.1 p2).1;omega
 have u2':(gz.set gb.length (.arr 105 [B (decide (c<0)),q]))[g6.length]?=some (.arr 105 [B false,r]):=by rw [List.getElem?_set_ne (by omega)];exact u2
 have Ig:(gz.set gb.length (.arr 105 [B (decide (c<0)),q]))[gc.length]?=some (.arr 105 [(.bool false),(.slice none 0 0)]):=by rw [List.getElem?_set_ne Zq];exact w3
 rw [cn u2',ef Ig]
 simp only [true_and,aE]
 have n2:((gz.set gb.length (.arr 105 [B (decide (c<0)),q])).set gc.length (.arr 105 [B false,r]))[gb.length]?=some (.arr 105 [B (decide (c<0)),q]):=by
  rw [List.getElem?_set_ne (fun e=>Zq e.symm)];exact cM w2
 rw [cn n2,cn (cM Ig)]
 simp only [ah]
 have pq:h.length≤gb.length:=(q0.trans q1).1
 refine hk _ _ _ ((BE.set pq _).set (by have:=(List.getElem?_eq_some_iff.1 p2).1;omega) _) ⟨q,rfl,(mqf.bH w2 _).bH Ig _⟩ ⟨r,rfl,(mrf.bH w2 _).bH Ig _⟩

theorem RT {va vb:Value} {a b:Int} {h:ae} {K:Value→ae→Prop} (ha:dE h va a) (hb:dE h vb b) (la:a.natAbs<bu) (b0:0<b) (lb:b.natAbs<bu)
  (hk:∀r h',EX h h'→gN h' r (a / (Nat.gcd a.natAbs b.natAbs:Int)) (b / (Nat.gcd a.natAbs b.natAbs:Int))→K r h'):ak Tryz.prog 106 [va,vb] h K:=by
 obtain ⟨v,rfl,hv⟩:=ha
 obtain ⟨w,rfl,hw⟩:=hb
 have wI:decide (b<0)=false:=decide_eq_false (by omega)
 obtain ⟨YZ,aBi⟩:=ar2 (a:=a) b0
 have hda:(Nat.gcd a.natAbs b.natAbs:Int) ∣ a:=Int.gcd_dvd_left ..
 have yB:(Nat.gcd a.natAbs b.natAbs:Int) ∣ b:=Int.gcd_dvd_right ..
 refine f106 ?_
 have e1:∀(g:ae) (s:Bool) (v:Value),bk 105 g (.agg #[B s,v])=some (pt g.length 0,g++[.arr 105 [B s,v]]):=fun _ _ _=>rfl
 have e2:∀(g:ae),aX 105 [(.bool false),(.slice none 0 0)] g=some (pt g.length 0,g++[.arr 105 [(.bool false),(.slice none 0 0)]]):=fun _=>rfl
 have e3:∀(g:ae),aX 107 [(.bool false),(.slice none 0 0),(.bool false),(.slice none 0 0)] g=some (pt g.length 0,g++[.arr 107 z4]):=fun _=>rfl
 simp only [JJ,e1,e3,aE]
 have q0:EX h (h++[.arr 105 [B (decide (a<0)),v]]):=EX.append _ _
 have p0:(h++[aq.arr 105 [B (decide (a<0)),v]])[h.length]?=some (.arr 105 [B (decide (a<0)),v]):=bR
 generalize h++[aq.arr 105 [B (decide (a<0)),v]]=ga at q0 p0⊢
 have q1:EX ga (ga++[.arr 105 [B (decide (b<0)),w]]):=EX.append _ _
 have p1:(ga++[aq.arr 105 [B (decide (b<0)),w]])[ga.length]?=some (.arr 105 [B (decide (b<0)),w]):=bR
 generalize ga++[aq.arr 105 [B (decide (b<0)),w]]=gb at q1 p1⊢
 have q2:EX gb (gb++[.arr 107 z4]):=EX.append _ _
 have p2:(gb++[aq.arr 107 z4])[gb.length]?=some (.arr 107 z4):=bR
 generalize gb++[aq.arr 107 z4]=gc at q2 p2⊢
 have k0:=(q1.trans q2).get p0
 have k1:=q2.get p1
 have x0:=q0.trans (q1.trans q2)
 have pq:h.length≤gb.length:=(q0.trans q1).1
 have OB:∀{g:ae},EX gc g→af true 2 g (pt h.length 0)=some (.agg #[B (decide (a<0)),v]):=fun x=>cn (x.get k0)
 have OA:∀{g:ae},EX gc g→af true 2 g (pt ga.length 0)=some (.agg #[B (decide (b<0)),w]):=fun x=>cn (x.get k1)
 have F7:∀{g:ae},EX gc g→dE g (.agg #[B (decide (a<0)),v]) a:=fun x=>⟨v,rfl,hv.mono (x0.trans x)⟩
 have F8:∀{g:ae},EX gc g→dE g (.agg #[B (decide (b<0)),w]) b:=fun x=>⟨w,rfl,hw.mono (x0.trans x)⟩
 have l1:af false 1 gc (pt ga.length 0)=some (B (decide (b<0))):=by simp [af,aO,k1,ck]
 simp only [bW,Nat.add_zero,ah,l1]
 rw [wI]
 simp only [dp]
 rw [avW]
 rw [OB (EX.refl gc),OA (EX.refl gc)]
 simp only [ah]
 refine R4 (F7 (EX.refl gc)) (F8 (EX.refl gc)) la lb ?_
 intro r g3 x3 ir
 simp only [e2,aE]
 have y4:EX g3 (g3++[.arr 105 [(.bool false),(.slice none 0 0)]]):=EX.append _ _
 have s4:(g3++[aq.arr 105 [(.bool false),(.slice none 0 0)]])[g3.length]?=some (.arr 105 [(.bool false),(.slice none 0 0)]):=bR
 generalize g3++[aq.arr 105 [(.bool false),(.slice none 0 0)]]=g4 at y4 s4⊢
 obtain ⟨u,rfl,hu⟩:=ir
 have hu4:=(hu.mono y4).bH s4 (.arr 105 [B (decide ((Nat.gcd a.natAbs b.natAbs:Int)<0)),u])
 rw [ef s4]
 simp only [aE]
 have sK:gc.length≤g3.length:=x3.1
 have x5:EX gc (g4.set g3.length (.arr 105 [B (decide ((Nat.gcd a.natAbs b.natAbs:Int)<0)),u])):=(x3.trans y4).set sK _
 have s5:(g4.set g3.length (.arr 105 [B (decide ((Nat.gcd a.natAbs b.natAbs:Int)<0)),u]))[g3.length]?=some (.arr 105 [B (decide ((Nat.gcd a.natAbs b.natAbs:Int)<0)),u]):=cM s4
 generalize g4.set g3.length (.arr 105 [B (decide ((Nat.gcd a.natAbs b.natAbs:Int)<0)),u])=g5 at x5 s5 hu4⊢
 have ig:∀{g:ae},EX g5 g→dE g (.agg #[B (decide ((Nat.gcd a.natAbs b.natAbs:Int)<0)),u]) (Nat.gcd a.natAbs b.natAbs:Int):=fun x=>⟨u,rfl,hu4.mono x⟩
 rw [cn s5]
 simp only [ah,true_and]
 refine z9 (by decide) (by decide) ?_
 intro one g6 x6 i1
 rw [cn (x6.get s5)]
 simp only [true_and]
 have OG:((Nat.gcd a.natAbs b.natAbs:Int)).natAbs<bu:=by rw [Int.natAbs_natCast];have:=Nat.gcd_le_right a.natAbs (show 0<b.natAbs by omega);omega
 refine Iu (ig x6) i1 OG (by rw [show (1:Int).natAbs=1 from rfl];exact xy (by decide)) ?_
 intro g7 x7
 have dK:=x6.trans x7
 have tG:=x5.trans dK
 simp only [fX,ah,bK]
 refine ⟨fun h1=>?_,fun h1=>?_⟩
 ·have uk:(Nat.gcd a.natAbs b.natAbs:Int)=1:=by
   split at h1
   ·omega
   ·split at h1 <;> omega
  rw [OB tG,OA tG]
  simp only [ah]
  rw [uk,Int.ediv_one,Int.ediv_one] at hk
  exact Mm (F7 tG) (F8 tG) (x0.trans tG) pq (tG.get p2) hk
 ·rw [OB tG,cn (dK.get s5)]
  simp only [ah]
  refine R5 (F7 tG) (ig dK) la YZ OG hda ?_
  intro rn sn g8 x8 irn isn
  simp only [eJ,fq,fC,ah]
  have y9:EX g8 (g8++[.arr 105 [(.bool false),(.slice none 0 0)]]):=EX.append _ _
  have s9:(g8++[aq.arr 105 [(.bool false),(.slice none 0 0)]])[g8.length]?=some (.arr 105 [(.bool false),(.slice none 0 0)]):=bR
  generalize g8++[aq.arr 105 [(.bool false),(.slice none 0 0)]]=g9 at y9 s9⊢
  have uU:EX g9 (g9++[.arr 105 [(.bool false),(.slice none 0 0)]]):=EX.append _ _
  have qP:(g9++[aq.arr 105 [(.bool false),(.slice none 0 0)]])[g9.length]?=some (.arr 105 [(.bool false),(.slice none 0 0)]):=bR
  generalize g9++[aq.arr 105 [(.bool false),(.slice none 0 0)]]=mK at uU qP⊢
  have Q9:=uU.get s9
  obtain ⟨qn,rfl,oq⟩:=irn
  obtain ⟨zn,rfl,hzn⟩:=isn
  have Zh:g8.length≠g9.length:=by have:=(List.getElem?_eq_some_iff.1 s9).1;omega
  rw [ef Q9]
  simp only [aE]
  have t10:(mK.set g8.length (.arr 105 [B (decide (a / (Nat.gcd a.natAbs b.natAbs:Int)<0)),qn]))[g9.length]?=some (.arr 105 [(.bool false),(.slice none 0 0)]):=by rw [List.getElem?_set_ne Zh];exact qP
  have t9:(mK.set g8.length (.arr 105 [B (decide (a / (Nat.gcd a.natAbs b.natAbs:Int)<0)),qn]))[g8.length]?=some (.arr 105 [B (decide (a / (Nat.gcd a.natAbs b.natAbs:Int)<0)),qn]):=cM Q9
  have aio:=y9.trans uU
  have Z8:=(oq.mono aio).bH Q9 (.arr 105 [B (decide (a / (Nat.gcd a.natAbs b.natAbs:Int)<0)),qn])
  have RJ:=tG.trans x8
  have gV:=dK.trans x8
  have xs1:EX g8 (mK.set g8.length (.arr 105 [B (decide (a / (Nat.gcd a.natAbs b.natAbs:Int)<0)),qn])):=aio.set (Nat.le_refl _) _
  generalize mK.set g8.length (.arr 105 [B (decide (a / (Nat.gcd a.natAbs b.natAbs:Int)<0)),qn])=AV at t10 t9 Z8 xs1⊢
  rw [ef t10]
  simp only [aE]
  have t9':(AV.set g9.length (.arr 105 [B (decide ((0:Int)<0)),zn]))[g8.length]?=some (.arr 105 [B (decide (a / (Nat.gcd a.natAbs b.natAbs:Int)<0)),qn]):=by rw [List.getElem?_set_ne (fun e=>Zh e.symm)];exact t9
  have Z9:=Z8.bH t10 (.arr 105 [B (decide ((0:Int)<0)),zn])
  have h89:g8.length≤g9.length:=by have:=(List.getElem?_eq_some_iff.1 s9).1;omega
  have zV:EX g8 (AV.set g9.length (.arr 105 [B (decide ((0:Int)<0)),zn])):=xs1.set h89 _
  generalize AV.set g9.length (.arr 105 [B (decide ((0:Int)<0)),zn])=g12 at t9' Z9 zV⊢
  rw [OA (RJ.trans zV),cn ((gV.trans zV).get s5)]
  simp only [ah]
  refine R5 (F8 (RJ.trans zV)) (ig (gV.trans zV)) lb YZ OG yB ?_
  intro rd sd mL aA ird isd
  simp only [eJ,fq,fC,ah]
  have zW:EX mL (mL++[.arr 105 [(.bool false),(.slice none 0 0)]]):=EX.append _ _
  have HB:(mL++[aq.arr 105 [(.bool false),(.slice none 0 0)]])[mL.length]?=some (.arr 105 [(.bool false),(.slice none 0 0)]):=bR
  generalize mL++[aq.arr 105 [(.bool false),(.slice none 0 0)]]=qi at zW HB⊢
  have CF:EX qi (qi++[.arr 105 [(.bool false),(.slice none 0 0)]]):=EX.append _ _
  have s15:(qi++[aq.arr 105 [(.bool false),(.slice none 0 0)]])[qi.length]?=some (.arr 105 [(.bool false),(.slice none 0 0)]):=bR
  generalize qi++[aq.arr 105 [(.bool false),(.slice none 0 0)]]=Fc at CF s15⊢
  have Q7:=CF.get HB
  obtain ⟨qd,rfl,Bs⟩:=ird
  obtain ⟨zd,rfl,hzd⟩:=isd
  have Zc:mL.length≠qi.length:=by have:=(List.getElem?_eq_some_iff.1 HB).1;omega
  rw [ef Q7]
  simp only [aE]
  have aim:=zW.trans CF
  have t15:(Fc.set mL.length (.arr 105 [B (decide (b / (Nat.gcd a.natAbs b.natAbs:Int)<0)),qd]))[qi.length]?=some (.arr 105 [(.bool false),(.slice none 0 0)]):=by rw [List.getElem?_set_ne Zc];exact s15
  have t14:(Fc.set mL.length (.arr 105 [B (decide (b / (Nat.gcd a.natAbs b.natAbs:Int)<0)),qd]))[mL.length]?=some (.arr 105 [B (decide (b / (Nat.gcd a.natAbs b.natAbs:Int)<0)),qd]):=cM Q7
  have Z6:=(Bs.mono aim).bH Q7 (.arr 105 [B (decide (b / (Nat.gcd a.natAbs b.natAbs:Int)<0)),qd])
  have xs3:EX mL (Fc.set mL.length (.arr 105 [B (decide (b / (Nat.gcd a.natAbs b.natAbs:Int)<0)),qd])):=aim.set (Nat.le_refl _) _
  generalize Fc.set mL.length (.arr 105 [B (decide (b / (Nat.gcd a.natAbs b.natAbs:Int)<0)),qd])=MH at t15 t14 Z6 xs3⊢
  rw [ef t15]
  simp only [aE]
  have ah4:(MH.set qi.length (.arr 105 [B (decide ((0:Int)<0)),zd]))[mL.length]?=some (.arr 105 [B (decide (b / (Nat.gcd a.natAbs b.natAbs:Int)<0)),qd]):=by rw [List.getElem?_set_ne (fun e=>Zc e.symm)];exact t14
  have Z7:=Z6.bH t15 (.arr 105 [B (decide ((0:Int)<0)),zd])
  have Zb:mL.length≤qi.length:=by have:=(List.getElem?_eq_some_iff.1 HB).1;omega
  have Ip:EX mL (MH.set qi.length (.arr 105 [B (decide ((0:Int)<0)),zd])):=xs3.set Zb _
  generalize MH.set qi.length (.arr 105 [B (decide ((0:Int)<0)),zd])=g17 at ah4 Z7 Ip⊢
  rw [cn ((aA.trans Ip).get t9'),cn ah4]
  simp only [ah]
  have aip:=RJ.trans (zV.trans (aA.trans Ip))
  exact Mm ⟨qn,rfl,Z9.mono (aA.trans Ip)⟩ ⟨qd,rfl,Z7⟩ (x0.trans aip) pq (aip.get p2) hk

theorem ajl {va vb:Value} {a b c d:Int} {h:ae} {K:Value→ae→Prop} (ha:gN h va a b) (hb:gN h vb c d) (la:a.natAbs<bu) (lb:b.natAbs<bu) (lc:c.natAbs<bu) (ld:d.natAbs<bu) (BO:(a*d).natAbs<bu) (b0:0<b*c) (lbc:(b*c).natAbs<bu)
  (hk:∀r h',EX h h'→gN h' r (a*d / (Nat.gcd (a*d).natAbs (b*c).natAbs:Int)) (b*c / (Nat.gcd (a*d).natAbs (b*c).natAbs:Int))→K r h'):ak Tryz.prog 77 [va,vb] h K:=by
 obtain ⟨u,w,rfl,hu,hw⟩:=ha
 obtain ⟨u2,w2,rfl,oz,nA⟩:=hb
 refine f77 ?_
 have e1:∀(g:ae) (s t:Bool) (v w:Value),bk 107 g (.agg #[B s,v,B t,w])=some (pt g.length 0,g++[.arr 107 [B s,v,B t,w]]):=fun _ _ _ _ _=>rfl
 have e3:∀(g:ae),aX 107 [(.bool false),(.slice none 0 0),(.bool false),(.slice none 0 0)] g=some (pt g.length 0,g++[.arr 107 z4]):=fun _=>rfl
 simp only [KO,e1,e3,aE]
 have q0:EX h (h++[.arr 107 [B (decide (a<0)),u,B (decide (b<0)),w]]):=EX.append _ _
 have p0:(h++[aq.arr 107 [B (decide (a<0)),u,B (decide (b<0)),w]])[h.length]?=some (.arr 107 [B (decide (a<0)),u,B (decide (b<0)),w]):=bR
 generalize h++[aq.arr 107 [B (decide (a<0)),u,B (decide (b<0)),w]]=ga at q0 p0⊢
 have q1:EX ga (ga++[.arr 107 [B (decide (c<0)),u2,B (decide (d<0)),w2]]):=EX.append _ _
 have p1:(ga++[aq.arr 107 [B (decide (c<0)),u2,B (decide (d<0)),w2]])[ga.length]?=some (.arr 107 [B (decide (c<0)),u2,B (decide (d<0)),w2]):=bR
 generalize ga++[aq.arr 107 [B (decide (c<0)),u2,B (decide (d<0)),w2]]=gb at q1 p1⊢
 have q2:EX gb (gb++[.arr 107 z4]):=EX.append _ _
 have p2:(gb++[aq.arr 107 z4])[gb.length]?=some (.arr 107 z4):=bR
 generalize gb++[aq.arr 107 z4]=gc at q2 p2⊢
 have k0:=(q1.trans q2).get p0
 have k1:=q2.get p1
 have x0:=q0.trans (q1.trans q2)
 have pq:h.length≤gb.length:=(q0.trans q1).1
 simp only [bW,Nat.zero_add,ah]
 rw [jg k0,lJ k1]
 simp only [ah,true_and]
 refine q9 (a:=a) (b:=d) ⟨u,rfl,hu.mono x0⟩ ⟨w2,rfl,nA.mono x0⟩ la ld ?_
 intro r1 g4 x4 i1
 rw [lJ (x4.get k0),jg (x4.get k1)]
 simp only [lJ k0,jg k1,ah,true_and]
 refine q9 (a:=b) (b:=c) ⟨w,rfl,(hw.mono x0).mono x4⟩ ⟨u2,rfl,(oz.mono x0).mono x4⟩ lb lc ?_
 intro r2 g5 x5 i2
 refine RT (i1.mono x5) i2 BO b0 lbc ?_
 intro r g6 x6 ir
 have cd:=x4.trans (x5.trans x6)
 have g2:=cd.get p2
 obtain ⟨y,z,rfl,hy,hz⟩:=ir
 exact qh g2 (hk _ _ ((x0.trans cd).set pq _) ⟨y,z,rfl,hy.bH g2 _,hz.bH g2 _⟩)

end Go.Proofs.YtelmdbpaoifmoaaGreat


namespace Go.Proofs.YtelmdbpaoifmoaaGreat
open Go.Sim
variable (P : Program) (K : VK)
/-! F81: (pommel/num.Rat).Sign -/
noncomputable section
variable (a0 : Value) (h : ae)
def ac8:=bw Tryz.prog 81 [[],[]]
@[irreducible] def XA:=bE ac8
theorem k81:ac8=some (6,XA,[.tmp 2]):=by kernel_rfl
def KR:Prop:=
 OH (bk 107 h a0) fun a1 h_1=>
 OP (aK 0 a1) fun x3=>
 OP (af true 2 h_1 x3) fun x4=>
 ak P 109 [x4] h_1 fun x5 h_2=>
 K x5 h_2
theorem e81:aj P XA (aR [.tmp 2] K) (bp [a0]) h=KR P K a0 h:=by kernel_rfl
theorem f81 {K:VK} {a0:Value} {h:ae} (H:KR Tryz.prog K a0 h):ak Tryz.prog 81 [a0] h K:=
 bF k81 (Nat.le_of_ble_eq_true rfl) ((e81 Tryz.prog K a0 h).mpr H)
end
/-! F84: (pommel/num.Rat).Fits -/
noncomputable section
variable (a0 x1 a2 az aN : Value) (h : ae)
def adb:=bw Tryz.prog 84 [[],[1,2,12],[12,19],[]]
@[irreducible] def Ez:=bE adb
@[irreducible] def XD:=Ez.r.l.r.l
@[irreducible] def apx:=Ez.r.r
@[irreducible] def apy:=XD.r.l
theorem k84:adb=some (21,Ez,[.tmp 4]):=by kernel_rfl
def TU (_P:Program) (K:VK):ar:=aR [.tmp 4] K
def TV:ar:=aD (aj P apx (TU P K)) (TU P K)
def afL:Prop:=av (aj P XD (TV P K)) [1,2,12] [x1,a2,az] h
def P9:Prop:=av (aj P apy (TV P K)) [12,19] [az,aN] h
theorem ahc:P9 P K az aN h=
 (OP (bL az aN (.bool false)) fun aW=>
 K aW h):=ax (by kernel_rfl)
theorem aym:afL P K x1 a2 az h=
 (bZ az true
 (OP (aK 2 a2) fun aA=>
 OP (aK 1 aA) fun aP=>
 OP (af false 1 h aP) fun bc=>
 ak P 89 [bc] h fun a9 h_1=>
 OP (fS a9) fun bQ=>
 OP (ai .leq bQ x1) fun aN=>
 P9 P K az aN h_1)
 (P9 P K az undef h)):=ax (by kernel_rfl)
def KU:Prop:=
 OH (bk 107 h a0) fun a2 h_1=>
 OP (aK 0 a2) fun x5=>
 OP (aK 1 x5) fun x6=>
 OP (af false 1 h_1 x6) fun x7=>
 ak P 89 [x7] h_1 fun x8 h_2=>
 OP (fS x8) fun x9=>
 OP (ai .leq x9 x1) fun ay=>
 afL P K x1 a2 ay h_2
theorem e84:aj P Ez (aR [.tmp 4] K) (bp [a0,x1]) h=KU P K a0 x1 h:=by kernel_rfl
theorem f84 {K:VK} {a0 x1:Value} {h:ae} (H:KU Tryz.prog K a0 x1 h):ak Tryz.prog 84 [a0,x1] h K:=
 bF k84 (Nat.le_of_ble_eq_true rfl) ((e84 Tryz.prog K a0 x1 h).mpr H)
end
/-! F86: (pommel/num.Rat).Cmp -/
noncomputable section
variable (a0 b1 : Value) (h : ae)
def adf:=bw Tryz.prog 86 [[],[]]
@[irreducible] def XF:=bE adf
theorem k86:adf=some (16,XF,[.tmp 4]):=by kernel_rfl
def KW:Prop:=
 OH (bk 107 h a0) fun a2 h_1=>
 OH (bk 107 h_1 b1) fun b3 h_2=>
 OP (aK 0 a2) fun x5=>
 OP (af true 2 h_2 x5) fun x6=>
 (True)∧
 OP (aK 2 b3) fun x7=>
 OP (af true 2 h_2 x7) fun x8=>
 (True)∧
 ak P 107 [x6,x8] h_2 fun x9 h_3=>
 (True)∧
 OP (aK 0 b3) fun aG=>
 OP (af true 2 h_3 aG) fun ay=>
 (af true 2 h_2 aG=some ay∧True)∧
 OP (aK 2 a2) fun az=>
 OP (af true 2 h_3 az) fun aA=>
 (af true 2 h_2 az=some aA∧True)∧
 ak P 107 [ay,aA] h_3 fun aP h_4=>
 (True)∧
 ak P 111 [x9,aP] h_4 fun bc h_5=>
 (True)∧
 K bc h_5
theorem e86:aj P XF (aR [.tmp 4] K) (bp [a0,b1]) h=KW P K a0 b1 h:=by kernel_rfl
theorem f86 {K:VK} {a0 b1:Value} {h:ae} (H:KW Tryz.prog K a0 b1 h):ak Tryz.prog 86 [a0,b1] h K:=
 bF k86 (Nat.le_of_ble_eq_true rfl) ((e86 Tryz.prog K a0 b1 h).mpr H)
end
/-! F87: (pommel/num.Rat).Add -/
noncomputable section
variable (a0 b1 a2 b3 x4 x7 x9 : Value) (h : ae)
def adg:=bw Tryz.prog 87 [[],[2,3,4,7],[2,3,4,7,9],[],[],[],[]]
@[irreducible] def Az:=bE adg
@[irreducible] def XG:=Az.r.l.l.r.l
@[irreducible] def apC:=Az.r.l.r
@[irreducible] def apB:=Az.r.r
@[irreducible] def apD:=XG.r.l
theorem k87:adg=some (34,Az,[.cell true 4 4]):=by kernel_rfl
def TW (_P:Program) (K:VK):ar:=aR [.cell true 4 4] K
def TX:ar:=aD (aj P apB (TW P K)) (TW P K)
def TY:ar:=aD (aj P apC (TX P K)) (TX P K)
def afO:Prop:=av (aj P XG (TY P K)) [2,3,4,7] [a2,b3,x4,x7] h
def G1:Prop:=av (aj P apD (TY P K)) [2,3,4,7,9] [a2,b3,x4,x7,x9] h
theorem ayq:G1 P K a2 b3 x4 x7 x9 h=
 (OP (bL x7 x9 (.bool false)) fun aG=>
 aM aG
 (OP (aK 0 a2) fun ay=>
 OP (af true 2 h ay) fun az=>
 OP (aK 0 b3) fun aA=>
 OP (af true 2 h aA) fun aP=>
 ak P 113 [az,aP] h fun bc h_1=>
 ak P 112 [bc] h_1 fun a9 h_2=>
 OH (aI 4 h_2 x4 a9) fun _ h_3=>
 OP (af true 4 h_3 x4) fun r0=>
 K r0 h_3)
 (OP (aK 0 a2) fun bQ=>
 OP (af true 2 h bQ) fun aQ=>
 (True)∧
 OP (aK 2 b3) fun aN=>
 OP (af true 2 h aN) fun aW=>
 (True)∧
 ak P 107 [aQ,aW] h fun bm h_1=>
 (True)∧
 OP (aK 0 b3) fun bJ=>
 OP (af true 2 h_1 bJ) fun cF=>
 (af true 2 h bJ=some cF∧True)∧
 OP (aK 2 a2) fun bM=>
 OP (af true 2 h_1 bM) fun bt=>
 (af true 2 h bM=some bt∧True)∧
 ak P 107 [cF,bt] h_1 fun bC h_2=>
 (True)∧
 ak P 113 [bm,bC] h_2 fun bD h_3=>
 (True)∧
 OP (aK 2 a2) fun bU=>
 OP (af true 2 h_3 bU) fun cA=>
 (af true 2 h bU=some cA∧af true 2 h_1 bU=some cA∧af true 2 h_2 bU=some cA∧True)∧
 OP (aK 2 b3) fun cR=>
 OP (af true 2 h_3 cR) fun ca=>
 (af true 2 h cR=some ca∧af true 2 h_1 cR=some ca∧af true 2 h_2 cR=some ca∧True)∧
 ak P 107 [cA,ca] h_3 fun cO h_4=>
 (True)∧
 ak P 106 [bD,cO] h_4 fun dI h_5=>
 (True)∧
 OH (aI 4 h_5 x4 dI) fun _ h_6=>
 (True)∧
 OP (af true 4 h_6 x4) fun r0=>
 K r0 h_6)):=ax (by kernel_rfl)
theorem ayp:afO P K a2 b3 x4 x7 h=
 (bZ x7 true
 (OP (af true 4 h b3) fun x8=>
 ak P 90 [x8] h fun x9 h_1=>
 G1 P K a2 b3 x4 x7 x9 h_1)
 (G1 P K a2 b3 x4 x7 undef h)):=ax (by kernel_rfl)
def KX:Prop:=
 OH (bk 107 h a0) fun a2 h_1=>
 OH (bk 107 h_1 b1) fun b3 h_2=>
 OH (aX 107 [(.bool false),(.slice none 0 0),(.bool false),(.slice none 0 0)] h_2) fun x4 h_3=>
 OP (af true 4 h_3 a2) fun x5=>
 ak P 90 [x5] h_3 fun x6 h_4=>
 afO P K a2 b3 x4 x6 h_4
theorem e87:aj P Az (aR [.cell true 4 4] K) (bp [a0,b1]) h=KX P K a0 b1 h:=by kernel_rfl
theorem f87 {K:VK} {a0 b1:Value} {h:ae} (H:KX Tryz.prog K a0 b1 h):ak Tryz.prog 87 [a0,b1] h K:=
 bF k87 (Nat.le_of_ble_eq_true rfl) ((e87 Tryz.prog K a0 b1 h).mpr H)
end
/-! F88: (pommel/num.Rat).Mul -/
noncomputable section
variable (a0 b1 a2 b3 x4 x7 x9 : Value) (h : ae)
def adh:=bw Tryz.prog 88 [[],[2,3,4,7],[2,3,4,7,9],[],[],[],[]]
@[irreducible] def AA:=bE adh
@[irreducible] def XH:=AA.r.l.l.r.l
@[irreducible] def apF:=AA.r.l.r
@[irreducible] def apE:=AA.r.r
@[irreducible] def apG:=XH.r.l
theorem k88:adh=some (28,AA,[.cell true 4 4]):=by kernel_rfl
def TZ (_P:Program) (K:VK):ar:=aR [.cell true 4 4] K
def T2:ar:=aD (aj P apE (TZ P K)) (TZ P K)
def T4:ar:=aD (aj P apF (T2 P K)) (T2 P K)
def afP:Prop:=av (aj P XH (T4 P K)) [2,3,4,7] [a2,b3,x4,x7] h
def G3:Prop:=av (aj P apG (T4 P K)) [2,3,4,7,9] [a2,b3,x4,x7,x9] h
theorem ays:G3 P K a2 b3 x4 x7 x9 h=
 (OP (bL x7 x9 (.bool false)) fun aG=>
 aM aG
 (OP (aK 0 a2) fun ay=>
 OP (af true 2 h ay) fun az=>
 OP (aK 0 b3) fun aA=>
 OP (af true 2 h aA) fun aP=>
 ak P 107 [az,aP] h fun bc h_1=>
 ak P 112 [bc] h_1 fun a9 h_2=>
 OH (aI 4 h_2 x4 a9) fun _ h_3=>
 OP (af true 4 h_3 x4) fun r0=>
 K r0 h_3)
 (OP (aK 0 a2) fun bQ=>
 OP (af true 2 h bQ) fun aQ=>
 (True)∧
 OP (aK 0 b3) fun aN=>
 OP (af true 2 h aN) fun aW=>
 (True)∧
 ak P 107 [aQ,aW] h fun bm h_1=>
 (True)∧
 OP (aK 2 a2) fun bJ=>
 OP (af true 2 h_1 bJ) fun cF=>
 (af true 2 h bJ=some cF∧True)∧
 OP (aK 2 b3) fun bM=>
 OP (af true 2 h_1 bM) fun bt=>
 (af true 2 h bM=some bt∧True)∧
 ak P 107 [cF,bt] h_1 fun bC h_2=>
 (True)∧
 ak P 106 [bm,bC] h_2 fun bD h_3=>
 (True)∧
 OH (aI 4 h_3 x4 bD) fun _ h_4=>
 (True)∧
 OP (af true 4 h_4 x4) fun r0=>
 K r0 h_4)):=ax (by kernel_rfl)
theorem ayr:afP P K a2 b3 x4 x7 h=
 (bZ x7 true
 (OP (af true 4 h b3) fun x8=>
 ak P 90 [x8] h fun x9 h_1=>
 G3 P K a2 b3 x4 x7 x9 h_1)
 (G3 P K a2 b3 x4 x7 undef h)):=ax (by kernel_rfl)
def KY:Prop:=
 OH (bk 107 h a0) fun a2 h_1=>
 OH (bk 107 h_1 b1) fun b3 h_2=>
 OH (aX 107 [(.bool false),(.slice none 0 0),(.bool false),(.slice none 0 0)] h_2) fun x4 h_3=>
 OP (af true 4 h_3 a2) fun x5=>
 ak P 90 [x5] h_3 fun x6 h_4=>
 afP P K a2 b3 x4 x6 h_4
theorem e88:aj P AA (aR [.cell true 4 4] K) (bp [a0,b1]) h=KY P K a0 b1 h:=by kernel_rfl
theorem f88 {K:VK} {a0 b1:Value} {h:ae} (H:KY Tryz.prog K a0 b1 h):ak Tryz.prog 88 [a0,b1] h K:=
 bF k88 (Nat.le_of_ble_eq_true rfl) ((e88 Tryz.prog K a0 b1 h).mpr H)
end
end Go.Proofs.YtelmdbpaoifmoaaGreat

namespace Go.Proofs.YtelmdbpaoifmoaaGreat
open Go.Sim

def RV (h:ae) (v:Value) (q:Rat):Prop:=gN h v q.num (q.den:Int)
theorem RV.mono {h h':ae} {v:Value} {q:Rat} (x:EX h h') (p:RV h v q):RV h' v q:=gN.mono x p

def cw (k:Nat) (q:Rat):Prop:=q.num.natAbs<10^k∧q.den<10^k

def aa4:Nat:=900
theorem avD:(10:Nat)^aa4≤bu:=by unfold bu;decide+kernel

theorem nJ {k:Nat} (h:k≤900):10^k≤bu:=Nat.le_trans (Nat.pow_le_pow_right (by decide) (show k≤aa4 from h)) avD

theorem mul_pow {a b i j:Nat} (ha:a<10^i) (hb:b<10^j):a*b<10^(i+j):=by
 rw [Nat.pow_add]
 exact Nat.mul_lt_mul'' ha hb

theorem zi {N:Int} {D:Nat} (hD:0<D):(mkRat N D).num=N / (Nat.gcd N.natAbs D:Int)∧(mkRat N D).den=D / Nat.gcd N.natAbs D:=by
 rw [←Rat.normalize_eq_mkRat (by omega:D≠0),Rat.normalize_eq]
 exact ⟨rfl,rfl⟩

theorem RU {va vb:Value} {N:Int} {D:Nat} {h:ae} {K:Value→ae→Prop} (ha:dE h va N) (hb:dE h vb (D:Int)) (la:N.natAbs<bu) (d0:0<D) (lb:D<bu) (hk:∀r h',EX h h'→RV h' r (mkRat N D)→K r h'):ak Tryz.prog 106 [va,vb] h K:=by
 refine RT ha hb la (by omega) (by rw [Int.natAbs_natCast];exact lb) ?_
 intro r h' x hr
 refine hk r h' x ?_
 obtain ⟨e1,e2⟩:=zi (N:=N) d0
 unfold RV
 rw [e1,e2,Int.natCast_ediv]
 rw [Int.natAbs_natCast] at hr
 exact hr

theorem cw.dZ {k:Nat} {q:Rat} (h:cw k q) (hk:k≤900):q.num.natAbs<bu∧q.den<bu:=by
 have:=nJ hk
 exact ⟨Nat.lt_of_lt_of_le h.1 this,Nat.lt_of_lt_of_le h.2 this⟩

theorem vI {i j:Nat} {p q:Rat} (hp:cw i p) (hq:cw j q):(p.num*q.den).natAbs<10^(i+j)∧(q.num*p.den).natAbs<10^(i+j)∧p.den*q.den<10^(i+j)∧(p.num*q.num).natAbs<10^(i+j):=by
 refine ⟨?_,?_,mul_pow hp.2 hq.2,?_⟩
 ·rw [Int.natAbs_mul,Int.natAbs_natCast];exact mul_pow hp.1 hq.2
 ·rw [Int.natAbs_mul,Int.natAbs_natCast,Nat.mul_comm];exact mul_pow hp.2 hq.1
 ·rw [Int.natAbs_mul];exact mul_pow hp.1 hq.1

theorem aby (n:Int):(mkRat n 1).num=n∧(mkRat n 1).den=1:=by
 obtain ⟨e1,e2⟩:=zi (N:=n) (D:=1) (by decide)
 rw [Nat.gcd_one_right] at e1 e2
 exact ⟨by rw [e1];simp,by rw [e2]⟩

theorem K7 (p q:Rat):p+q=mkRat (p.num*q.den+q.num*p.den) (p.den*q.den):=by rw [Rat.add_def,Rat.normalize_eq_mkRat]
theorem OR (p q:Rat):p*q=mkRat (p.num*q.num) (p.den*q.den):=by rw [Rat.mul_def,Rat.normalize_eq_mkRat]

section
variable {va vb : Value} {p q : Rat} {i j : Nat} {h : ae} {K : Value → ae → Prop}

theorem IG (ha:RV h va p) (hb:RV h vb q) (sp:cw i p) (sq:cw j q) (dG:i+j≤800) (hk:∀r h',EX h h'→RV h' r (p+q)→K r h'):ak Tryz.prog 87 [va,vb] h K:=by
 obtain ⟨u,w,rfl,hu,hw⟩:=ha
 obtain ⟨u2,w2,rfl,oz,nA⟩:=hb
 have pd:=p.den_pos
 have qd:=q.den_pos
 obtain ⟨ti,rM⟩:=sp.dZ (by omega)
 obtain ⟨tj,rN⟩:=sq.dZ (by omega)
 obtain ⟨c1,c2,c3,_⟩:=vI sp sq
 have cb:=nJ (k:=i+j) (by omega)
 have cb1:=nJ (k:=i+j+1) (by omega)
 have ik:decide ((p.den:Int)<0)=false:=decide_eq_false (by omega)
 have iF:decide ((q.den:Int)<0)=false:=decide_eq_false (by omega)
 rw [Int.natAbs_natCast] at hw nA
 rw [ik,iF]
 refine f87 ?_
 have e1:∀(g:ae) (s t:Bool) (v w:Value),bk 107 g (.agg #[B s,v,B t,w])=some (pt g.length 0,g++[.arr 107 [B s,v,B t,w]]):=fun _ _ _ _ _=>rfl
 have e3:∀(g:ae),aX 107 [(.bool false),(.slice none 0 0),(.bool false),(.slice none 0 0)] g=some (pt g.length 0,g++[.arr 107 z4]):=fun _=>rfl
 simp only [KX,e1,e3,aE]
 have q0:EX h (h++[.arr 107 [B (decide (p.num<0)),u,B false,w]]):=EX.append _ _
 have p0:(h++[aq.arr 107 [B (decide (p.num<0)),u,B false,w]])[h.length]?=some (.arr 107 [B (decide (p.num<0)),u,B false,w]):=bR
 generalize h++[aq.arr 107 [B (decide (p.num<0)),u,B false,w]]=ga at q0 p0⊢
 have q1:EX ga (ga++[.arr 107 [B (decide (q.num<0)),u2,B false,w2]]):=EX.append _ _
 have p1:(ga++[aq.arr 107 [B (decide (q.num<0)),u2,B false,w2]])[ga.length]?=some (.arr 107 [B (decide (q.num<0)),u2,B false,w2]):=bR
 generalize ga++[aq.arr 107 [B (decide (q.num<0)),u2,B false,w2]]=gb at q1 p1⊢
 have q2:EX gb (gb++[.arr 107 z4]):=EX.append _ _
 have p2:(gb++[aq.arr 107 z4])[gb.length]?=some (.arr 107 z4):=bR
 generalize gb++[aq.arr 107 z4]=gc at q2 p2⊢
 have k0:=(q1.trans q2).get p0
 have k1:=q2.get p1
 have x0:=q0.trans (q1.trans q2)
 have pq:h.length≤gb.length:=(q0.trans q1).1
 have done:∀{N:Int} {D:Nat} {r:Value} {g:ae},EX gc g→RV g r (mkRat N D)→p+q=mkRat N D→OH (aI 4 g (pt gb.length 0) r) fun _ h_3=>OP (af true 4 h_3 (pt gb.length 0)) fun r0=>K r0 h_3:=by
  intro N D r g xg hr he
  rw [←he] at hr
  have g2:=xg.get p2
  obtain ⟨y,z,rfl,hy,hz⟩:=hr
  exact qh g2 (hk _ _ ((x0.trans xg).set pq _) ⟨y,z,rfl,hy.bH g2 _,hz.bH g2 _⟩)
 simp only [iu k0,ah]
 refine CK (hw.mono x0) rM ?_
 intro g4 x4
 have qJ:=x4.get k0
 have jx:=x4.get k1
 have uT:=x0.trans x4
 rw [ayp]
 have whole:∀t u':Value,bL t u' (.bool false)=some (B (decide (p.den=1)&&decide (q.den=1)))→∀{g5:ae},EX g4 g5→G1 Tryz.prog K (pt h.length 0) (pt ga.length 0) (pt gb.length 0) t u' g5:=by
  intro t u' ht g5 x5
  have k0:=x5.get qJ
  have k1:=x5.get jx
  have oM:=uT.trans x5
  have cj:=x4.trans x5
  rw [ayq,ht]
  simp only [ah]
  by_cases jW:p.den=1∧q.den=1
  ·rw [decide_eq_true jW.1,decide_eq_true jW.2]
   simp only [Bool.and_true,di,bW,Nat.zero_add,ah]
   rw [jg k0]
   simp only [ah]
   rw [jg k1]
   simp only [ah]
   refine Iv (a:=p.num) (b:=q.num) ⟨u,rfl,hu.mono oM⟩ ⟨u2,rfl,oz.mono oM⟩ ti tj ?_
   intro r1 g6 x6 i1
   refine RY i1 ?_
   intro r2 g7 x7 i2
   obtain ⟨n1,n2⟩:=aby (p.num+q.num)
   refine done (N:=p.num+q.num) (D:=1) (cj.trans (x6.trans x7)) (by unfold RV;rw [n1,n2];exact i2) ?_
   rw [K7,jW.1,jW.2]
   simp
  ·have hf:(decide (p.den=1)&&decide (q.den=1))=false:=by
    rw [Bool.and_eq_false_iff,decide_eq_false_iff_not,decide_eq_false_iff_not]
    by_cases h1:p.den=1
    ·exact .inr fun h2=>jW ⟨h1,h2⟩
    ·exact .inl h1
   rw [hf]
   have nD:∀{g:ae},EX g5 g→af true 2 g (pt h.length 0)=some (.agg #[B (decide (p.num<0)),u]):=fun x=>jg (x.get k0)
   have th:∀{g:ae},EX g5 g→af true 2 g (pt h.length 2)=some (.agg #[B false,w]):=fun x=>lJ (x.get k0)
   have Gf:∀{g:ae},EX g5 g→af true 2 g (pt ga.length 0)=some (.agg #[B (decide (q.num<0)),u2]):=fun x=>jg (x.get k1)
   have w5:∀{g:ae},EX g5 g→af true 2 g (pt ga.length 2)=some (.agg #[B false,w2]):=fun x=>lJ (x.get k1)
   have iw:∀{g:ae},EX g5 g→dE g (.agg #[B false,w]) (p.den:Int):=fun x=>dE.nat (hw.mono (oM.trans x))
   have F9:∀{g:ae},EX g5 g→dE g (.agg #[B false,w2]) (q.den:Int):=fun x=>dE.nat (nA.mono (oM.trans x))
   simp only [dp,bW,Nat.zero_add,ah,nD (EX.refl g5),w5 (EX.refl g5),true_and]
   refine q9 (a:=p.num) (b:=(q.den:Int)) ⟨u,rfl,hu.mono oM⟩ (F9 (EX.refl g5)) ti (by rw [Int.natAbs_natCast];exact rN) ?_
   intro r1 g6 x6 i1
   simp only [Gf x6,Gf (EX.refl g5),th x6,th (EX.refl g5),ah,true_and]
   refine q9 (a:=q.num) (b:=(p.den:Int)) ⟨u2,rfl,(oz.mono oM).mono x6⟩ (iw x6) tj (by rw [Int.natAbs_natCast];exact rM) ?_
   intro r2 g7 x7 i2
   have fK:=x6.trans x7
   refine Iv (i1.mono x7) i2 (by omega) (by omega) ?_
   intro r3 g8 x8 i3
   have gj:=fK.trans x8
   simp only [th gj,th fK,w5 gj,w5 x6,w5 fK,ah,true_and]
   refine q9 (iw gj) (F9 gj) (by rw [Int.natAbs_natCast];exact rM) (by rw [Int.natAbs_natCast];exact rN) ?_
   intro r4 g9 x9 i4
   rw [←Int.natCast_mul] at i4
   have FW:(p.num*q.den+q.num*p.den).natAbs<bu:=by
    have h1:10^(i+j+1)=10^(i+j)*10:=Nat.pow_succ ..
    generalize 10^(i+j)=Z at*
    omega
   refine RU (i3.mono x9) i4 FW (Nat.mul_pos pd qd) (Nat.lt_of_lt_of_le c3 cb) ?_
   intro r mK aG ir
   exact done (cj.trans (gj.trans (x9.trans aG))) ir (K7 p q)
 by_cases h1:p.den=1
 ·rw [decide_eq_true h1]
  simp only [fy,iu jx,ah]
  refine CK (nA.mono uT) rN ?_
  intro g5 x5
  refine whole _ _ ?_ x5
  rw [h1];simp
 ·rw [decide_eq_false h1]
  simp only [iz]
  refine whole _ _ ?_ (EX.refl g4)
  rw [decide_eq_false h1];simp

end
end Go.Proofs.YtelmdbpaoifmoaaGreat


namespace Go.Proofs.YtelmdbpaoifmoaaGreat
open Go.Sim

section
variable {va vb : Value} {p q : Rat} {i j : Nat} {h : ae} {K : Value → ae → Prop}

theorem C88 (ha:RV h va p) (hb:RV h vb q) (sp:cw i p) (sq:cw j q) (dG:i+j≤800) (hk:∀r h',EX h h'→RV h' r (p*q)→K r h'):ak Tryz.prog 88 [va,vb] h K:=by
 obtain ⟨u,w,rfl,hu,hw⟩:=ha
 obtain ⟨u2,w2,rfl,oz,nA⟩:=hb
 have pd:=p.den_pos
 have qd:=q.den_pos
 obtain ⟨ti,rM⟩:=sp.dZ (by omega)
 obtain ⟨tj,rN⟩:=sq.dZ (by omega)
 obtain ⟨_,_,c3,c4⟩:=vI sp sq
 have cb:=nJ (k:=i+j) (by omega)
 have ik:decide ((p.den:Int)<0)=false:=decide_eq_false (by omega)
 have iF:decide ((q.den:Int)<0)=false:=decide_eq_false (by omega)
 rw [Int.natAbs_natCast] at hw nA
 rw [ik,iF]
 refine f88 ?_
 have e1:∀(g:ae) (s t:Bool) (v w:Value),bk 107 g (.agg #[B s,v,B t,w])=some (pt g.length 0,g++[.arr 107 [B s,v,B t,w]]):=fun _ _ _ _ _=>rfl
 have e3:∀(g:ae),aX 107 [(.bool false),(.slice none 0 0),(.bool false),(.slice none 0 0)] g=some (pt g.length 0,g++[.arr 107 z4]):=fun _=>rfl
 simp only [KY,e1,e3,aE]
 have q0:EX h (h++[.arr 107 [B (decide (p.num<0)),u,B false,w]]):=EX.append _ _
 have p0:(h++[aq.arr 107 [B (decide (p.num<0)),u,B false,w]])[h.length]?=some (.arr 107 [B (decide (p.num<0)),u,B false,w]):=bR
 generalize h++[aq.arr 107 [B (decide (p.num<0)),u,B false,w]]=ga at q0 p0⊢
 have q1:EX ga (ga++[.arr 107 [B (decide (q.num<0)),u2,B false,w2]]):=EX.append _ _
 have p1:(ga++[aq.arr 107 [B (decide (q.num<0)),u2,B false,w2]])[ga.length]?=some (.arr 107 [B (decide (q.num<0)),u2,B false,w2]):=bR
 generalize ga++[aq.arr 107 [B (decide (q.num<0)),u2,B false,w2]]=gb at q1 p1⊢
 have q2:EX gb (gb++[.arr 107 z4]):=EX.append _ _
 have p2:(gb++[aq.arr 107 z4])[gb.length]?=some (.arr 107 z4):=bR
 generalize gb++[aq.arr 107 z4]=gc at q2 p2⊢
 have k0:=(q1.trans q2).get p0
 have k1:=q2.get p1
 have x0:=q0.trans (q1.trans q2)
 have pq:h.length≤gb.length:=(q0.trans q1).1
 have done:∀{N:Int} {D:Nat} {r:Value} {g:ae},EX gc g→RV g r (mkRat N D)→p*q=mkRat N D→OH (aI 4 g (pt gb.length 0) r) fun _ h_3=>OP (af true 4 h_3 (pt gb.length 0)) fun r0=>K r0 h_3:=by
  intro N D r g xg hr he
  rw [←he] at hr
  have g2:=xg.get p2
  obtain ⟨y,z,rfl,hy,hz⟩:=hr
  exact qh g2 (hk _ _ ((x0.trans xg).set pq _) ⟨y,z,rfl,hy.bH g2 _,hz.bH g2 _⟩)
 simp only [iu k0,ah]
 refine CK (hw.mono x0) rM ?_
 intro g4 x4
 have qJ:=x4.get k0
 have jx:=x4.get k1
 have uT:=x0.trans x4
 rw [ayr]
 have whole:∀t u':Value,bL t u' (.bool false)=some (B (decide (p.den=1)&&decide (q.den=1)))→∀{g5:ae},EX g4 g5→G3 Tryz.prog K (pt h.length 0) (pt ga.length 0) (pt gb.length 0) t u' g5:=by
  intro t u' ht g5 x5
  have k0:=x5.get qJ
  have k1:=x5.get jx
  have oM:=uT.trans x5
  have cj:=x4.trans x5
  rw [ays,ht]
  simp only [ah]
  by_cases jW:p.den=1∧q.den=1
  ·rw [decide_eq_true jW.1,decide_eq_true jW.2]
   simp only [Bool.and_true,di,bW,Nat.zero_add,ah]
   rw [jg k0]
   simp only [ah]
   rw [jg k1]
   simp only [ah]
   refine q9 (a:=p.num) (b:=q.num) ⟨u,rfl,hu.mono oM⟩ ⟨u2,rfl,oz.mono oM⟩ ti tj ?_
   intro r1 g6 x6 i1
   refine RY i1 ?_
   intro r2 g7 x7 i2
   obtain ⟨n1,n2⟩:=aby (p.num*q.num)
   refine done (N:=p.num*q.num) (D:=1) (cj.trans (x6.trans x7)) (by unfold RV;rw [n1,n2];exact i2) ?_
   rw [OR,jW.1,jW.2]
  ·have hf:(decide (p.den=1)&&decide (q.den=1))=false:=by
    rw [Bool.and_eq_false_iff,decide_eq_false_iff_not,decide_eq_false_iff_not]
    by_cases h1:p.den=1
    ·exact .inr fun h2=>jW ⟨h1,h2⟩
    ·exact .inl h1
   rw [hf]
   have nD:∀{g:ae},EX g5 g→af true 2 g (pt h.length 0)=some (.agg #[B (decide (p.num<0)),u]):=fun x=>jg (x.get k0)
   have th:∀{g:ae},EX g5 g→af true 2 g (pt h.length 2)=some (.agg #[B false,w]):=fun x=>lJ (x.get k0)
   have Gf:∀{g:ae},EX g5 g→af true 2 g (pt ga.length 0)=some (.agg #[B (decide (q.num<0)),u2]):=fun x=>jg (x.get k1)
   have w5:∀{g:ae},EX g5 g→af true 2 g (pt ga.length 2)=some (.agg #[B false,w2]):=fun x=>lJ (x.get k1)
   have iw:∀{g:ae},EX g5 g→dE g (.agg #[B false,w]) (p.den:Int):=fun x=>dE.nat (hw.mono (oM.trans x))
   have F9:∀{g:ae},EX g5 g→dE g (.agg #[B false,w2]) (q.den:Int):=fun x=>dE.nat (nA.mono (oM.trans x))
   simp only [dp,bW,Nat.zero_add,ah,nD (EX.refl g5),Gf (EX.refl g5),true_and]
   refine q9 (a:=p.num) (b:=q.num) ⟨u,rfl,hu.mono oM⟩ ⟨u2,rfl,oz.mono oM⟩ ti tj ?_
   intro r1 g6 x6 i1
   simp only [th x6,th (EX.refl g5),w5 x6,w5 (EX.refl g5),ah,true_and]
   refine q9 (iw x6) (F9 x6) (by rw [Int.natAbs_natCast];exact rM) (by rw [Int.natAbs_natCast];exact rN) ?_
   intro r2 g7 x7 i2
   rw [←Int.natCast_mul] at i2
   have fK:=x6.trans x7
   refine RU (i1.mono x7) i2 (Nat.lt_of_lt_of_le c4 cb) (Nat.mul_pos pd qd) (Nat.lt_of_lt_of_le c3 cb) ?_
   intro r mK aG ir
   exact done (cj.trans (fK.trans aG)) ir (OR p q)
 by_cases h1:p.den=1
 ·rw [decide_eq_true h1]
  simp only [fy,iu jx,ah]
  refine CK (nA.mono uT) rN ?_
  intro g5 x5
  refine whole _ _ ?_ x5
  rw [h1];simp
 ·rw [decide_eq_false h1]
  simp only [iz]
  refine whole _ _ ?_ (EX.refl g4)
  rw [decide_eq_false h1];simp

def lX (p q:Rat):Int:=if p=q then 0 else if p<q then -1 else 1

theorem aqn (p q:Rat):(if p.num*q.den-q.num*p.den=0 then 0 else if p.num*q.den-q.num*p.den<0 then -1 else 1:Int)=lX p q:=by
 unfold lX
 have h1:p=q↔p.num*q.den-q.num*p.den=0:=by
  constructor
  ·rintro rfl;omega
  ·intro h
   refine Rat.le_antisymm ?_ ?_ <;> rw [Rat.le_iff] <;> omega
 have h2:p<q↔p.num*q.den-q.num*p.den<0:=by rw [Rat.lt_iff];omega
 by_cases e1:p=q
 ·rw [if_pos e1,if_pos (h1.1 e1)]
 ·rw [if_neg e1,if_neg (fun h=>e1 (h1.2 h))]
  by_cases e2:p<q
  ·rw [if_pos e2,if_pos (h2.1 e2)]
  ·rw [if_neg e2,if_neg (fun h=>e2 (h2.2 h))]

theorem IF (ha:RV h va p) (hb:RV h vb q) (sp:cw i p) (sq:cw j q) (dG:i+j≤800) (hk:∀h',EX h h'→K (I (lX p q)) h'):ak Tryz.prog 86 [va,vb] h K:=by
 obtain ⟨u,w,rfl,hu,hw⟩:=ha
 obtain ⟨u2,w2,rfl,oz,nA⟩:=hb
 obtain ⟨ti,rM⟩:=sp.dZ (by omega)
 obtain ⟨tj,rN⟩:=sq.dZ (by omega)
 obtain ⟨c1,c2,_,_⟩:=vI sp sq
 have cb:=nJ (k:=i+j) (by omega)
 have ik:decide ((p.den:Int)<0)=false:=decide_eq_false (by omega)
 have iF:decide ((q.den:Int)<0)=false:=decide_eq_false (by omega)
 rw [Int.natAbs_natCast] at hw nA
 rw [ik,iF]
 refine f86 ?_
 have e1:∀(g:ae) (s t:Bool) (v w:Value),bk 107 g (.agg #[B s,v,B t,w])=some (pt g.length 0,g++[.arr 107 [B s,v,B t,w]]):=fun _ _ _ _ _=>rfl
 simp only [KW,e1,aE]
 have q0:EX h (h++[.arr 107 [B (decide (p.num<0)),u,B false,w]]):=EX.append _ _
 have p0:(h++[aq.arr 107 [B (decide (p.num<0)),u,B false,w]])[h.length]?=some (.arr 107 [B (decide (p.num<0)),u,B false,w]):=bR
 generalize h++[aq.arr 107 [B (decide (p.num<0)),u,B false,w]]=ga at q0 p0⊢
 have q1:EX ga (ga++[.arr 107 [B (decide (q.num<0)),u2,B false,w2]]):=EX.append _ _
 have p1:(ga++[aq.arr 107 [B (decide (q.num<0)),u2,B false,w2]])[ga.length]?=some (.arr 107 [B (decide (q.num<0)),u2,B false,w2]):=bR
 generalize ga++[aq.arr 107 [B (decide (q.num<0)),u2,B false,w2]]=gb at q1 p1⊢
 have k0:=q1.get p0
 have x0:=q0.trans q1
 simp only [bW,Nat.zero_add,ah,jg k0,lJ p1,true_and]
 refine q9 (a:=p.num) (b:=(q.den:Int)) ⟨u,rfl,hu.mono x0⟩ (dE.nat (nA.mono x0)) ti (by rw [Int.natAbs_natCast];exact rN) ?_
 intro r1 g6 x6 i1
 simp only [jg (x6.get p1),jg p1,lJ (x6.get k0),lJ k0,ah,true_and]
 refine q9 (a:=q.num) (b:=(p.den:Int)) ⟨u2,rfl,(oz.mono x0).mono x6⟩ (dE.nat ((hw.mono x0).mono x6)) tj (by rw [Int.natAbs_natCast];exact rM) ?_
 intro r2 g7 x7 i2
 refine Iu (i1.mono x7) i2 (Nat.lt_of_lt_of_le c1 cb) (Nat.lt_of_lt_of_le c2 cb) ?_
 intro g8 x8
 rw [aqn]
 exact hk g8 (x0.trans (x6.trans (x7.trans x8)))

theorem Yu {p q:Rat} (hq:0<q.num):p / q=mkRat (p.num*q.den) (p.den*q.num.toNat):=by
 have h1:=Rat.mkRat_self p
 have h2:=Rat.mkRat_self q
 rw [Rat.mkRat_eq_div] at h1 h2
 rw [Rat.mkRat_eq_div,Rat.intCast_mul,Rat.natCast_mul]
 have h3:((q.num.toNat:Nat):Rat)=(q.num:Rat):=by
  rw [←Rat.intCast_natCast,Int.toNat_of_nonneg (by omega)]
 have h4:((q.den:Nat):Int)=(q.den:Int):=rfl
 rw [h3,Rat.intCast_natCast]
 have d1:((p.den:Nat):Rat)≠0:=by
  have:=p.den_nz
  intro h
  exact this (by exact_mod_cast h)
 have d2:((q.den:Nat):Rat)≠0:=by
  have:=q.den_nz
  intro h
  exact this (by exact_mod_cast h)
 have d3:(q.num:Rat)≠0:=by
  intro h
  have:q.num=0:=by exact_mod_cast h
  omega
 generalize (p.num:Rat)=a at*
 generalize (q.num:Rat)=b at*
 generalize ((p.den:Nat):Rat)=c at*
 generalize ((q.den:Nat):Rat)=d at*
 rw [←h1,←h2]
 grind

theorem ajm (ha:RV h va p) (hb:RV h vb q) (hq:0<q.num) (sp:cw i p) (sq:cw j q) (dG:i+j≤800) (hk:∀r h',EX h h'→RV h' r (p / q)→K r h'):ak Tryz.prog 77 [va,vb] h K:=by
 obtain ⟨ti,rM⟩:=sp.dZ (by omega)
 obtain ⟨tj,rN⟩:=sq.dZ (by omega)
 obtain ⟨c1,c2,_,_⟩:=vI sp sq
 have cb:=nJ (k:=i+j) (by omega)
 have pd:=p.den_pos
 have fQ:(0:Int)<(p.den:Int)*q.num:=Int.mul_pos (by omega) hq
 obtain ⟨m,hm⟩:∃m:Nat,q.num=(m:Int):=⟨q.num.toNat,by omega⟩
 have hN:((p.den:Int)*q.num).natAbs=p.den*q.num.toNat:=by rw [Int.natAbs_mul,Int.natAbs_natCast];congr 1;omega
 refine ajl ha hb ti (by rw [Int.natAbs_natCast];exact rM) tj (by rw [Int.natAbs_natCast];exact rN) (Nat.lt_of_lt_of_le c1 cb) fQ (by rw [Int.mul_comm];exact Nat.lt_of_lt_of_le c2 cb) ?_
 intro r h' x hr
 refine hk r h' x ?_
 have hD:0<p.den*q.num.toNat:=Nat.mul_pos pd (by omega)
 obtain ⟨e1,e2⟩:=zi (N:=p.num*q.den) hD
 unfold RV
 rw [Yu hq,e1,e2,Int.natCast_ediv,Int.natCast_mul,Int.toNat_of_nonneg (by omega)]
 rw [hN] at hr
 exact hr

theorem xG {n:Int} (h1: -9223372036854775808≤n) (h2:n<9223372036854775808) (hk:∀r h',EX h h'→RV h' r (n:Rat)→K r h'):ak Tryz.prog 75 [I n] h K:=by
 refine C75 h1 h2 ?_
 intro r h' x hr
 exact hk r h' x hr

end
end Go.Proofs.YtelmdbpaoifmoaaGreat


namespace Go.Proofs.YtelmdbpaoifmoaaGreat
open Go.Sim

section
variable {va vb : Value} {p q : Rat} {i j : Nat} {h : ae} {K : Value → ae → Prop}

theorem cw.neg {k:Nat} {q:Rat} (h:cw k q):cw k (-q):=by
 unfold cw at*
 rw [Rat.neg_num,Rat.neg_den,Int.natAbs_neg]
 exact h

theorem Ss (ha:RV h va p) (hk:∀h',EX h h'→K (I (iU p.num)) h'):ak Tryz.prog 81 [va] h K:=by
 obtain ⟨u,w,rfl,hu,hw⟩:=ha
 refine f81 ?_
 have e1:∀(g:ae) (s t:Bool) (v w:Value),bk 107 g (.agg #[B s,v,B t,w])=some (pt g.length 0,g++[.arr 107 [B s,v,B t,w]]):=fun _ _ _ _ _=>rfl
 simp only [KR,e1,aE]
 generalize decide ((p.den:Int)<0)=t1 at*
 have q0:EX h (h++[.arr 107 [B (decide (p.num<0)),u,B t1,w]]):=EX.append _ _
 have p0:(h++[aq.arr 107 [B (decide (p.num<0)),u,B t1,w]])[h.length]?=some (.arr 107 [B (decide (p.num<0)),u,B t1,w]):=bR
 generalize h++[aq.arr 107 [B (decide (p.num<0)),u,B t1,w]]=ga at q0 p0⊢
 simp only [bW,Nat.zero_add,ah,jg p0]
 refine RX (a:=p.num) ⟨u,rfl,hu.mono q0⟩ ?_
 intro h' x'
 exact hk h' (q0.trans x')

end
end Go.Proofs.YtelmdbpaoifmoaaGreat

