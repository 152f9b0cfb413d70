/-
  Part 5 of the texts behind a statement of this seat: Ct37, Ct38, Ct39, Ct40, ZR2, Ct45, Ct46, Ct47, Zq1, Sp18, ZN3, Kd1, Kd2, Kd3, Kd4, Kd5, Kd6, Ct41, Zq2, Zq3, Kd7, ZN4, Kd8.
-/
import Derived.Test.YtelmdbpaoifmoaaGreatProg
import Derived.KernelRfl
import Derived.Test.YtelmdbpaoifmoaaGreatMg4
open Classical (byContradiction)
open Go.Proofs.Tryz (prog)
open Int (natAbs_mul natAbs_natCast)
open List (getElem?_eq_getElem getElem?_set_ne getElem_mem length_append length_cons length_nil length_set length_take mem_of_mem_take replicate set_set take_of_length_le)
open Nat (add_mul add_zero div_add_mod gcd le_refl lt_of_lt_of_le min_eq_left mod_eq_of_lt mod_lt mul_add mul_assoc mul_comm mul_le_mul_left mul_le_mul_right mul_zero pow_add pow_le_pow_right pow_pos pow_succ zero_add zero_le)
namespace Go.Proofs.YtelmdbpaoifmoaaGreat
open Go.Sim
section
theorem Zw {b:Nat} {hx:ae} {v:Value} {os:List Nat} {d:Nat} {K:Value→ae→Prop} (hb:b≤hx.length) (o:oZ b hx v os) (hl:os.length≤10000)
  (hk:∀v' bT,(∀d,d<b→bT[d]?=hx[d]?)→b≤bT.length→oZ b bT v' (os++[d])→K v' bT):OH (dK 3 1 [.int .i64 0] hx [(0,1,I d)]) fun a h2=>OH (dY 3 1 8 h2 v a) K:=by
 have hlen:(hx.take b).length=b:=by rw [length_take];omega
 have hex:EX (hx.take b) hx:=by
  refine ⟨by omega,fun i hi=>?_⟩
  rw [List.getElem?_take_of_lt (by omega)]
 refine Pk (h0:=hx.take b) (by rw [hlen];exact o) hex hl ?_
 intro v' bT x o'
 rw [hlen] at o'
 refine hk v' bT (fun d hd=>?_) (by have:=x.1;omega) o'
 rw [x.2 d (by omega),List.getElem?_take_of_lt hd]
theorem oZ.set {b j:Nat} {hx:ae} {v:Value} {os:List Nat} (o:oZ b hx v os) (hj:j<b) (x:aj):oZ b (hx.set j x) v os:=
 fy.ep o fun d _ _ hd=>by rw [getElem?_set_ne (by omega)]
theorem aEw {a:Int} {b:Nat} (hb:b≠0):ai .rem (.int .i64 a) (.int .i64 (b:Int))=some (I (a.tmod b)):=by
 have h:¬((b:Int)=0):=by omega
 simp only [ai,hZ,if_true,if_neg h]
theorem aEp {a:Int} {b:Nat} (hb:b≠0) (h1: -9223372036854775808<a) (h2:a<9223372036854775808):ai .quo (.int .i64 a) (.int .i64 (b:Int))=some (I (a.tdiv b)):=by
 have h:¬((b:Int)=0):=by omega
 have h3:(a.tdiv b).natAbs≤a.natAbs:=by
  rw [Int.natAbs_tdiv,natAbs_natCast];exact Nat.div_le_self _ _
 simp only [ai,hZ,if_true,if_neg h]
 rw [wrap64 (by omega) (by omega)]
theorem vC {z:Int} {h:ae} {K:Value→ae→Prop} (hz:z.natAbs<1000000000000000000) (hk:∀r h',EX h h'→ZV h' r z→K r h'):ak prog 55 [I z] h K:=by
 refine f55 ?_
 have e2:∀g:ae,aV 35 [(.bool false),(.slice none 0 0)] g=some (pt g.length 0,g++[.arr 35 [(.bool false),(.slice none 0 0)]]):=fun _=>rfl
 have e3:∀b:Bool,dd [(.bool false),(.slice none 0 0)] [(0,1,B b)]=some (.agg #[B b,.slice none 0 0]):=fun _=>rfl
 simp only [OB,e2,aA,cA,ah,e3,length_append,length_cons,length_nil]
 have g1:(h++[aj.arr 35 [(.bool false),(.slice none 0 0)]]++[aj.arr 35 [(.bool false),(.slice none 0 0)]])[h.length+1]?=some (.arr 35 [(.bool false),(.slice none 0 0)]):=by simp
 have g0:(h++[aj.arr 35 [(.bool false),(.slice none 0 0)]]++[aj.arr 35 [(.bool false),(.slice none 0 0)]])[h.length]?=some (.arr 35 [(.bool false),(.slice none 0 0)]):=by simp
 have x1:EX h (h++[aj.arr 35 [(.bool false),(.slice none 0 0)]]++[aj.arr 35 [(.bool false),(.slice none 0 0)]]):=(EX.append _ _).push _
 have zR:(h++[aj.arr 35 [(.bool false),(.slice none 0 0)]]++[aj.arr 35 [(.bool false),(.slice none 0 0)]]).length=h.length+2:=by simp
 generalize h++[aj.arr 35 [(.bool false),(.slice none 0 0)]]++[aj.arr 35 [(.bool false),(.slice none 0 0)]]=h1 at*
 simp only [zero_add]
 rw [fD g1]
 simp only [aA]
 refine dj (σ:=Int×List Nat×Value×ae) (fun p=>[I p.1]) (fun p=>p.2.2.2)
  (fun p=>h.length+2≤p.2.2.2.length∧EX h p.2.2.2∧p.2.2.2[h.length]?=some (.arr 35 [.bool false,.slice none 0 0])∧p.2.2.2[h.length+1]?=some (.arr 35 [B (decide (z<0)),p.2.2.1])∧oZ (h.length+2) p.2.2.2 p.2.2.1 p.2.1∧cn 10000 p.2.1∧p.2.1.length≤5∧p.1.natAbs<10000^(5-p.2.1.length)∧val 10000 p.2.1+10000^p.2.1.length*p.1.natAbs=z.natAbs∧(p.1=0→dE 10000 p.2.1)) (fun p=>p.1.natAbs)
  (z,[],.slice none 0 0,h1.set (h.length+1) (.arr 35 [B (decide (z<0)),.slice none 0 0])) rfl rfl
  ⟨by simp [zR],x1.set (by omega) _,by rw [getElem?_set_ne (by omega)];exact g0,ck g1,.inl ⟨rfl,rfl⟩,fun _ hx=>by simp at hx,by simp,by simp;omega,by simp [val],fun _=>dE.nil _⟩ ?_
 rintro ⟨a,os,v,hx⟩ ⟨hlen,hex,k0,k1,jt,fB,hX,iD,bW,zC⟩ L hL
 simp only at hlen hex k0 k1 jt fB hX iD bW zC hL⊢
 rw [aCG]
 simp only [pO,ah,Gz]
 refine ⟨fun bp=>?_,fun heq=>?_⟩
 ·have oH:a≠0:=bp
  have aHg:a.natAbs≤z.natAbs:=by
   have:1*a.natAbs≤10000^os.length*a.natAbs:=mul_le_mul_right _ (pow_pos (by decide))
   omega
  have aHa:os.length<5:=by
   apply byContradiction
   intro hc
   have:5-os.length=0:=by omega
   rw [this] at iD
   omega
  have pA:(a.tmod 10000).natAbs=a.natAbs%10000:=Int.natAbs_tmod _ _
  have we:(a.tdiv 10000).natAbs=a.natAbs / 10000:=Int.natAbs_tdiv _ _
  have step:KX prog K (I a) (pt h.length 0) (pt (h.length+1) 0) (I ((a.natAbs%10000:Nat):Int)) L hx:=by
   rw [aCE]
   have ld:af false 1 hx (pt (h.length+1) 1)=some v:=by simp [af,aP,k1,b9]
   simp only [bU,zero_add,ah,ld]
   refine Zw hlen jt (by omega) ?_
   intro v' bT hs lX uG
   have kY:bT[h.length+1]?=some (.arr 35 [B (decide (z<0)),v]):=by rw [hs _ (by omega)];exact k1
   rw [oS kY (by simp) uG.ds.one.1 uG.ds.one.2]
   simp only [aA,List.set_cons_succ,List.set_cons_zero]
   rw [show (.int .i64 10000:Value)=.int .i64 ((10000:Nat):Int) from rfl,aEp (by decide) (by omega) (by omega)]
   simp only [ah,true_and]
   have lW:=Nat.mod_add_div a.natAbs 10000
   have el:(os++[a.natAbs%10000]).length=os.length+1:=by simp
   have hm:a.natAbs%10000<10000:=mod_lt _ (by decide)
   have Js:(a.tdiv ((10000:Nat):Int)).natAbs=a.natAbs / 10000:=we
   refine hL (a.tdiv ((10000:Nat):Int),os++[a.natAbs%10000],v',bT.set (h.length+1) (.arr 35 [B (decide (z<0)),v'])) ⟨?_,?_,?_,ck kY,uG.set (by omega) _,fB.append (fun y hy=>by simp at hy;omega),by rw [el];omega,?_,?_,?_⟩ ?_
   ·rw [length_set];exact lX
   ·refine EX.set ⟨by have:=hex.1;omega,fun i hi=>?_⟩ (by omega) _
    rw [hs i (by omega)];exact hex.2 i hi
   ·rw [getElem?_set_ne (by omega),hs _ (by omega)];exact k0
   ·show (a.tdiv ((10000:Nat):Int)).natAbs<_
    rw [el,Js]
    have:5-os.length=(5-(os.length+1))+1:=by omega
    rw [this,pow_succ] at iD
    exact Nat.div_lt_of_lt_mul (by rw [mul_comm];exact iD)
   ·show val 10000 (os++[a.natAbs%10000])+10000^(os++[a.natAbs%10000]).length*(a.tdiv ((10000:Nat):Int)).natAbs=_
    rw [el,od,Js,←bW,pow_succ]
    simp only [val,mul_zero,add_zero]
    have:=congrArg (10000^os.length*·) lW
    rw [mul_add] at this
    rw [←this,mul_assoc,Nat.add_assoc]
   ·intro h0
    have oG:a.natAbs / 10000=0:=by
     have h0b:a.tdiv ((10000:Nat):Int)=0:=h0
     rw [←Js,h0b];rfl
    refine Iw (fB.append (fun y hy=>by simp at hy;omega)) ?_
    intro h1 h2
    simp only [el,Nat.add_sub_cancel] at h2
    rw [List.getElem_append_right (le_refl _)] at h2
    simp at h2
    omega
   ·show (a.tdiv ((10000:Nat):Int)).natAbs<a.natAbs
    rw [Js]
    exact Nat.div_lt_self (by omega) (by decide)
  rw [show (.int .i64 10000:Value)=.int .i64 ((10000:Nat):Int) from rfl,aEw (by decide)]
  simp only [ah,cA,bR]
  have aG8:(a.tmod ((10000:Nat):Int)).natAbs=a.natAbs%10000:=pA
  refine ⟨fun hn=>?_,fun hn=>?_⟩
  ·have e4:gJ .neg (I (a.tmod ((10000:Nat):Int)))=some (I (-(a.tmod ((10000:Nat):Int)))):=by
    simp only [gJ]
    rw [wrap64 (by omega) (by omega),Int.zero_sub]
   rw [e4]
   simp only [ah]
   rw [show -(a.tmod ((10000:Nat):Int))=((a.natAbs%10000:Nat):Int) by omega]
   exact step
  ·rw [show a.tmod ((10000:Nat):Int)=((a.natAbs%10000:Nat):Int) by omega]
   exact step
 ·have ha:a=0:=heq
  subst ha
  rw [aCF]
  rw [cO k1]
  simp only [ah]
  rw [fD k0]
  simp only [aA]
  rw [cO (ck k0)]
  refine ah.2 (hk _ _ (hex.set (le_refl _) _) ⟨v,rfl,os,jt.ds.bM k0 _,zC rfl,?_⟩)
  simpa using bW
abbrev hz (h:ae) (os:List Nat):ae:=h++[.arr 3 (os.map fun d:Nat=>I d)]
theorem agE {h:ae} {n:Nat} (hn:n≤1000):mb 3 8 [.int .i64 0] h (I n) (I n)=some (sl 3 h.length 0 n,hz h (replicate n 0)):=by
 have Al:∀m,gY [Value.int .i64 0] m=(replicate m 0).map fun d:Nat=>I d:=by
  intro m
  induction m with
  | zero=>rfl
  | succ m ih=>
   have:gY [Value.int .i64 0] (m+1)=Value.int .i64 0::gY [Value.int .i64 0] m:=by simp [gY,List.replicate_succ]
   rw [this,ih,List.replicate_succ];rfl
 simp only [mb]
 rw [if_pos ⟨by omega,by omega,by omega,by omega⟩,Int.toNat_natCast,Al]
theorem afD (h:ae) (os:List Nat):(hz h os)[h.length]?=some (.arr 3 (os.map fun d:Nat=>I d)):=by simp [hz]
theorem ayD {h:ae} {os:List Nat} {j:Nat} (d:Nat) (hj:j<os.length):aF 1 (hz h os) (pt h.length j) (I d)=some (undef,hz h (os.set j d)):=by
 rw [oS (afD h os) (by simpa using hj) rfl rfl]
 simp [hz,List.map_set]
theorem ayC {h:ae} {os:List Nat} {j:Nat} (hj:j<os.length):af false 1 (hz h os) (pt h.length j)=some (I os[j]):=by
 simp [af,aP,b9,hj]
theorem afC (h:ae) (os:List Nat):DS 3 .i64 (hz h os) (sl 3 h.length 0 os.length) os:=.inr ⟨h.length,rfl,.inr ⟨[],by simp [aP,hz]⟩⟩
theorem wC (h:ae) (os:List Nat):EX h (hz h os):=EX.append _ _
theorem aAo {x y:Nat} (hx:x<10000) (hy:y<10000):x*y≤99980001:=by
 have:=Nat.mul_le_mul (show x≤9999 by omega) (show y≤9999 by omega)
 omega
theorem aFp (a b:Int):(if (!(decide (a<0)==decide (b<0)))=true then -((a.natAbs*b.natAbs:Nat):Int) else ((a.natAbs*b.natAbs:Nat):Int))=a*b:=by
 have ea:(a.natAbs:Int)=if a<0 then -a else a:=by split <;> omega
 have eb:(b.natAbs:Int)=if b<0 then -b else b:=by split <;> omega
 rw [Int.natCast_mul,ea,eb]
 by_cases h1:a<0 <;> by_cases h2:b<0 <;> simp [h1,h2,Int.neg_mul,Int.mul_neg]
theorem xj {va vb:Value} {a b:Int} {h:ae} {K:Value→ae→Prop} (ha:ZV h va a) (hb:ZV h vb b) (la:a.natAbs<br) (lb:b.natAbs<br) (hk:∀r h',EX h h'→ZV h' r (a*b)→K r h'):ak prog 71 [va,vb] h K:=by
 obtain ⟨v,rfl,hv⟩:=ha
 obtain ⟨w,rfl,hw⟩:=hb
 refine f71 ?_
 unfold OQ
 refine Hb ?_
 intro h3 x
 obtain ⟨xs,dx,cx,ex⟩:=hv.mono x.ex
 obtain ⟨ys,dy,cy,ey⟩:=hw.mono x.ex
 have l1:=rN cx (by rw [ex];exact la)
 have l2:=rN cy (by rw [ey];exact lb)
 have hB:(0:Nat)<10000:=by decide
 have e0:IntKind.wrap .i64 ((xs.length:Int)+(ys.length:Int))=((xs.length+ys.length:Nat):Int):=by rw [wrap64 (by omega) (by omega)];omega
 simp only [bU,zero_add,ah,x.a1,x.b1,dx.len,dy.len,cf,e0,eR (xs.length+ys.length) (by omega),agE (show xs.length+ys.length+1≤1000 by omega),aA]
 refine dj (σ:=Nat×List Nat) (fun p=>[I p.1]) (fun p=>hz h3 p.2)
  (fun p=>p.1≤xs.length∧p.2.length=xs.length+ys.length+1∧cn 10000 p.2∧(∀j (hj:j<p.2.length),p.1+ys.length≤j→p.2[j]=0)∧val 10000 p.2=val 10000 (xs.take p.1)*val 10000 ys) (fun p=>xs.length-p.1)
  (0,replicate (xs.length+ys.length+1) 0) rfl rfl ⟨by simp,by simp,cn.xe hB _,by simp,by simp [yz,val]⟩ ?_
 rintro ⟨i,os⟩ ⟨hi,hX,fB,Al,bW⟩ L hL
 simp only at hi hX fB Al bW hL⊢
 have Cz:∀ps,af false 1 (hz h3 ps) (pt h.length 1)=some v:=fun ps=>EX.load (wC h3 ps) x.a1
 have Ax:∀ps,af false 1 (hz h3 ps) (pt (h.length+1) 1)=some w:=fun ps=>EX.load (wC h3 ps) x.b1
 rw [aDI]
 simp only [bU,zero_add,Cz,dx.len,cA,ah,bR]
 refine ⟨fun aD=>?_,fun cJ=>?_⟩
 ·have bC:i<xs.length:=by omega
  have iG:xs[i]<10000:=cx.1 _ (getElem_mem bC)
  have Ag:=jw 10000 xs bC
  refine dj (σ:=Nat×Nat×List Nat) (fun p=>[I p.1,I p.2.1]) (fun p=>hz h3 p.2.2)
   (fun p=>p.2.1≤ys.length+1∧(p.2.1=ys.length+1→p.1=0)∧p.1<10000∧p.2.2.length=xs.length+ys.length+1∧cn 10000 p.2.2∧(∀j (hj:j<p.2.2.length),i+ys.length+1≤j→p.2.2[j]=0)∧(p.2.1≤ys.length→∀j (hj:j<p.2.2.length),i+ys.length≤j→p.2.2[j]=0)∧val 10000 p.2.2+10000^(i+p.2.1)*p.1=val 10000 os+10000^i*(xs[i]*val 10000 (ys.take p.2.1))) (fun p=>ys.length+1-p.2.1)
   (0,0,os) rfl rfl ⟨by simp,by simp,hB,hX,fB,fun j hj h=>Al j hj (by omega),fun _=>Al,by simp [val]⟩ ?_
  rintro ⟨c,k,ps⟩ ⟨eK,hkc,hc,j6,wu,xZ,Sd,xY⟩ L2 gj
  simp only at eK hkc hc j6 wu xZ Sd xY gj⊢
  have dx':=dx.mono (wC h3 ps)
  have dy':=dy.mono (wC h3 ps)
  have qi:i+k<ps.length:=by omega
  have axW:ps[i+k]<10000:=wu _ (getElem_mem qi)
  have ei:IntKind.wrap .i64 ((i:Int)+(k:Int))=((i+k:Nat):Int):=by rw [wrap64 (by omega) (by omega)];omega
  -- gN next IK
  have step:∀p:Nat,p≤99980001→k<ys.length+1→(k=ys.length→p=0)→xs[i]*val 10000 (ys.take (k+1))=xs[i]*val 10000 (ys.take k)+10000^k*p→
    yu prog K (pt h.length 0) (pt (h.length+1) 0) (pt (h.length+2) 0) (sl 3 h3.length 0 (xs.length+ys.length+1)) (I i) (I k) (I ((ps[i+k]+c+p:Nat):Int)) L L2 (hz h3 ps):=by
   intro p hp gF hkp hpv
   rw [aDE]
   have lZ:=tT 10000 ps (i+k) ((ps[i+k]+c+p)%10000) qi
   have pA:(ps[i+k]+c+p)%10000<10000:=mod_lt _ hB
   have lW:=Nat.mod_add_div (ps[i+k]+c+p) 10000
   have we:(ps[i+k]+c+p) / 10000<10000:=by omega
   have zL:k=ys.length→(ps[i+k]+c+p) / 10000=0:=by
    intro tj
    have:=Sd (by omega) (i+k) qi (by omega)
    rw [this,hkp tj]
    omega
   simp only [cf,ei,ah]
   rw [show (.int .i64 10000:Value)=.int .i64 ((10000:Nat):Int) from rfl,AX _ _ _ (by decide),CQ (by decide) (by omega)]
   simp only [ah]
   rw [lP (show i+k<xs.length+ys.length+1 by omega)]
   simp only [ah]
   rw [ayD _ qi]
   simp only [aA,aDF,cf,ah,eR k (by omega),true_and]
   refine gj ((ps[i+k]+c+p) / 10000,k+1,ps.set (i+k) ((ps[i+k]+c+p)%10000)) ⟨by show k+1≤ys.length+1;omega,fun h=>zL (by simp only at h;omega),we,by show (ps.set _ _).length=_;rw [length_set];exact j6,wu.set pA _,?_,?_,?_⟩ (by show ys.length+1-(k+1)<ys.length+1-k;omega)
   ·intro j hj eP
    show (ps.set (i+k) _)[j]=0
    rw [List.getElem_set_ne (by omega)]
    exact xZ j (by simpa using hj) eP
   ·intro nw j hj eP
    have qJ:k+1≤ys.length:=nw
    show (ps.set (i+k) _)[j]=0
    rw [List.getElem_set_ne (by omega)]
    exact Sd (by omega) j (by simpa using hj) eP
   ·show val 10000 (ps.set (i+k) _)+10000^(i+(k+1))*_=val 10000 os+10000^i*(xs[i]*val 10000 (ys.take (k+1)))
    rw [hpv,←Nat.add_assoc,pow_succ]
    rw [pow_add] at lZ xY⊢
    generalize ps[i+k]=o at*
    generalize (o+c+p)%10000=m at*
    generalize (o+c+p) / 10000=q at*
    generalize xs[i]*val 10000 (ys.take k)=v at*
    generalize val 10000 (ps.set (i+k) m)=s1 at*
    generalize val 10000 ps=s0 at*
    generalize val 10000 os=s2 at*
    generalize 10000^i=P at*
    generalize 10000^k=Q at*
    clear gj hL dx dy dx' dy' hv hw x Cz Ax
    have h1:P*Q*(m+10000*q)=P*Q*(o+c+p):=by rw [lW]
    grind
  have body:k<ys.length+1→OP (ai .add (I i) (I k)) fun ef=>OP (bf 1 (sl 3 h3.length 0 (xs.length+ys.length+1)) ef) fun eG=>OP (af false 1 (hz h3 ps) eG) fun eZ=>OP (ai .add eZ (I c)) fun bH=>
    OP (bj w) fun fP=>OP (ai .lss (I k) fP) fun gO=>aR gO
     (OP (bf 1 v (I i)) fun dw=>OP (af false 1 (hz h3 ps) dw) fun gP=>OP (bf 1 w (I k)) fun fU=>OP (af false 1 (hz h3 ps) fU) fun kI=>OP (ai .mul gP kI) fun fZ=>OP (ai .add bH fZ) fun mB=>
      yu prog K (pt h.length 0) (pt (h.length+1) 0) (pt (h.length+2) 0) (sl 3 h3.length 0 (xs.length+ys.length+1)) (I i) (I k) mB L L2 (hz h3 ps))
     (yu prog K (pt h.length 0) (pt (h.length+1) 0) (pt (h.length+2) 0) (sl 3 h3.length 0 (xs.length+ys.length+1)) (I i) (I k) bH L L2 (hz h3 ps)):=by
   intro gF
   have e1:IntKind.wrap .i64 ((ps[i+k]:Int)+(c:Int))=((ps[i+k]+c:Nat):Int):=by rw [wrap64 (by omega) (by omega)];omega
   simp only [cf,ei,ah]
   rw [lP (show i+k<xs.length+ys.length+1 by omega)]
   simp only [ah,ayC qi,cf,e1,dy.len,cA,bR]
   refine ⟨fun jZ=>?_,fun Jw=>?_⟩
   ·have RR:k<ys.length:=by omega
    obtain ⟨ia,a1,a2⟩:=dx'.get bC
    obtain ⟨ib,b1,b2⟩:=dy'.get RR
    have kD:ys[k]<10000:=cy.1 _ (getElem_mem RR)
    have hxy:=aAo iG kD
    have Qt:((xs[i]:Int)*(ys[k]:Int))=((xs[i]*ys[k]:Nat):Int):=by simp
    have e2:IntKind.wrap .i64 ((ps[i+k]+c:Nat)+(xs[i]*ys[k]:Nat):Int)=((ps[i+k]+c+xs[i]*ys[k]:Nat):Int):=by rw [wrap64 (by omega) (by omega)];omega
    simp only [a1,a2,b1,b2,ah,ue,Qt]
    rw [wrap64 (n:=((xs[i]*ys[k]:Nat):Int)) (by omega) (by omega)]
    simp only [cf,ah,e2]
    refine step (xs[i]*ys[k]) hxy gF (fun h=>by omega) ?_
    rw [jw 10000 ys RR]
    grind
   ·have tj:k=ys.length:=by omega
    have:=step 0 (by omega) gF (fun _=>rfl) (by rw [tj,List.take_length,take_of_length_le (by omega)];rfl)
    simpa using this
  rw [aDD]
  simp only [bU,zero_add,Ax,dy.len,cA,ah]
  have other:∀t:Bool,(t=true→k<ys.length+1)→(t=false→ys.length≤k∧c=0)→aR (B t) (OP (ai .add (I i) (I k)) fun ef=>OP (bf 1 (sl 3 h3.length 0 (xs.length+ys.length+1)) ef) fun eG=>OP (af false 1 (hz h3 ps) eG) fun eZ=>OP (ai .add eZ (I c)) fun bH=>
    OP (bj w) fun fP=>OP (ai .lss (I k) fP) fun gO=>aR gO
     (OP (bf 1 v (I i)) fun dw=>OP (af false 1 (hz h3 ps) dw) fun gP=>OP (bf 1 w (I k)) fun fU=>OP (af false 1 (hz h3 ps) fU) fun kI=>OP (ai .mul gP kI) fun fZ=>OP (ai .add bH fZ) fun mB=>
      yu prog K (pt h.length 0) (pt (h.length+1) 0) (pt (h.length+2) 0) (sl 3 h3.length 0 (xs.length+ys.length+1)) (I i) (I k) mB L L2 (hz h3 ps))
     (yu prog K (pt h.length 0) (pt (h.length+1) 0) (pt (h.length+2) 0) (sl 3 h3.length 0 (xs.length+ys.length+1)) (I i) (I k) bH L L2 (hz h3 ps)))
    (UX prog K (pt h.length 0) (pt (h.length+1) 0) (pt (h.length+2) 0) (sl 3 h3.length 0 (xs.length+ys.length+1)) (I i) L (hz h3 ps)):=by
   intro t h1 h2
   refine tY (fun he=>body (h1 (by simpa using he))) fun bp=>?_
   obtain ⟨BX,rfl⟩:=h2 (by simpa using bp)
   rw [aDG]
   simp only [cf,ah,eR i (by omega),true_and]
   have axs:val 10000 (ys.take k)=val 10000 ys:=by rw [take_of_length_le BX]
   refine hL (i+1,ps) ⟨by show i+1≤xs.length;omega,j6,wu,fun j hj eP=>xZ j hj (by have:i+1+ys.length≤j:=eP;omega),?_⟩ (by show xs.length-(i+1)<xs.length-i;omega)
   show val 10000 ps=val 10000 (xs.take (i+1))*val 10000 ys
   rw [Ag,add_mul,←bW,mul_assoc,←axs,←xY]
   omega
  by_cases gF:k<ys.length
  ·rw [aU (show (k:Int)<(ys.length:Int) by omega)]
   simp only [amD,fw,amE,dZ,ah,bU,zero_add,Cz,Ax,true_and]
   exact other true (fun _=>by omega) (fun h=>by cases h)
  ·rw [aS (show ¬(k:Int)<(ys.length:Int) by omega)]
   simp only [amD,dR,amE,fG,cK,ah,bU,zero_add,Cz,Ax,true_and]
   exact other _ (fun h=>by
    have h0:(0:Int)<(c:Int):=by simpa using h
    apply byContradiction
    intro Rs
    have:=hkc (by omega)
    omega) (fun h=>by
    have h0:¬(0:Int)<(c:Int):=by simpa using h
    omega)
 ·have:i=xs.length:=by omega
  subst this
  rw [aDH]
  rw [List.take_length] at bW
  have oQ:af false 1 (hz h3 os) (pt h.length 0)=some (B (decide (a<0))):=EX.load (wC h3 os) x.a0
  have rh:af false 1 (hz h3 os) (pt (h.length+1) 0)=some (B (decide (b<0))):=EX.load (wC h3 os) x.b0
  have e:sl 3 h3.length 0 (xs.length+ys.length+1)=sl 3 h3.length 0 os.length:=by rw [hX]
  simp only [bU,zero_add,ah,oQ,rh,Ec,if_true,e]
  simp only [Px (afC h3 os),ah]
  refine yE (afC h3 os) fB (by omega) ?_
  intro r h5 x5 zr
  have hzv:(if (!(decide (a<0)==decide (b<0)))=true then -(val 10000 os:Int) else (val 10000 os:Int))=a*b:=by
   rw [bW,ex,ey]
   exact aFp a b
  rw [hzv] at zr
  obtain ⟨q,rfl,hq⟩:=id zr
  have g':=((wC h3 os).trans x5).get x.out
  exact zi g' (hk _ _ (((x.ex.trans (wC h3 os)).trans x5).set (by omega) _) (zr.bM g' _))
end
section
def QZ (h:ae) (val:Value) (a b:Int):Prop:=∃u w,val=.agg #[B (decide (a<0)),u,B (decide (b<0)),w]∧fQ h u a.natAbs∧fQ h w b.natAbs
theorem QZ.mono {h h':ae} {v:Value} {a b:Int} (x:EX h h') (p:QZ h v a b):QZ h' v a b:=let ⟨u,w,e,m,n⟩:=p;⟨u,w,e,m.mono x,n.mono x⟩
theorem QZ.bM {h:ae} {v:Value} {a b:Int} {j:Nat} {e:TypeId} {s:Bool} {r:List Value} (p:QZ h v a b) (hj:h[j]?=some (.arr e (.bool s::r))) (o:aj):QZ (h.set j o) v a b:=
 let ⟨u,w,e,m,n⟩:=p;⟨u,w,e,m.bM hj o,n.bM hj o⟩
theorem oa {h:ae} {i:Nat} {e:TypeId} {a b c d x y z w:Value} (hg:h[i]?=some (.arr e [a,b,c,d])):aF 4 h (pt i 0) (.agg #[x,y,z,w])=some (undef,h.set i (.arr e [x,y,z,w])):=by
 simp [aF,q9,hg,gr,cW,Value.cells,setAt]
theorem iH {h:ae} {i:Nat} {e:TypeId} {a b c d:Value} (hg:h[i]?=some (.arr e [a,b,c,d])):af true 4 h (pt i 0)=some (.agg #[a,b,c,d]):=by
 simp [af,aP,hg,b9]
theorem jR {h:ae} {i:Nat} {e:TypeId} {a b c d:Value} (hg:h[i]?=some (.arr e [a,b,c,d])):af true 2 h (pt i 0)=some (.agg #[a,b]):=by
 simp [af,aP,hg,b9]
theorem kZ {h:ae} {i:Nat} {e:TypeId} {a b c d:Value} (hg:h[i]?=some (.arr e [a,b,c,d])):af true 2 h (pt i 2)=some (.agg #[c,d]):=by
 simp [af,aP,hg,b9]
theorem rR {h':ae} {j:Nat} {e:TypeId} {b0 v0 c0 w0 a b c d:Value} {K:Value→ae→Prop} (hg:h'[j]?=some (.arr e [b0,v0,c0,w0])) (hk:K (.agg #[a,b,c,d]) (h'.set j (.arr e [a,b,c,d]))):
  OH (aF 4 h' (pt j 0) (.agg #[a,b,c,d])) fun _ h6=>OP (af true 4 h6 (pt j 0)) fun r0=>K r0 h6:=by
 rw [oa hg]
 simp only [aA]
 rw [iH (ck hg)]
 exact ah.2 hk
theorem Hc {b c:Bool} {e e':TypeId} {k k':IntKind} {h h':ae} {v w:Value} {xs ys:List Nat} (d:DS e k h v xs) (d':DS e' k' h' w ys):
  dd [(.bool false),(.slice none 0 0),(.bool false),(.slice none 0 0)] [(0,2,.agg #[B b,v]),(2,2,.agg #[B c,w])]=some (.agg #[B b,v,B c,w]):=by
 rcases d with ⟨rfl,_⟩ | ⟨i,rfl,_⟩ <;> rcases d' with ⟨rfl,_⟩ | ⟨i',rfl,_⟩ <;> rfl
abbrev z4:List Value:=[(.bool false),(.slice none 0 0),(.bool false),(.slice none 0 0)]
theorem BK {h h':ae} {j:Nat} {va vb:Value} {a b:Int} {K:Value→ae→Prop} (ha:ZV h' va a) (hb:ZV h' vb b) (x:EX h h') (hj:h.length≤j) (hg:h'[j]?=some (.arr 37 z4)) (hk:∀r h',EX h h'→QZ h' r a b→K r h'):
  OP (dd [(.bool false),(.slice none 0 0),(.bool false),(.slice none 0 0)] [(0,2,va),(2,2,vb)]) fun bc=>OH (aF 4 h' (pt j 0) bc) fun _ h6=>OP (af true 4 h6 (pt j 0)) fun r0=>K r0 h6:=by
 obtain ⟨u,rfl,hu⟩:=ha
 obtain ⟨w,rfl,hw⟩:=hb
 obtain ⟨xs,dx,cx⟩:=id hu
 obtain ⟨ys,dy,cy⟩:=id hw
 rw [Hc dx dy]
 exact ah.2 (rR hg (hk _ _ (x.set hj _) ⟨u,w,rfl,hu.bM hg _,hw.bM hg _⟩))
theorem C20 {z:Int} {h:ae} {K:Value→ae→Prop} (hz:z.natAbs<1000000000000000000) (hk:∀r h',EX h h'→QZ h' r z 1→K r h'):ak prog 20 [I z] h K:=by
 refine f20 ?_
 have e1:aV 37 [(.bool false),(.slice none 0 0),(.bool false),(.slice none 0 0)] h=some (pt h.length 0,h++[.arr 37 z4]):=rfl
 simp only [Oj,e1,aA]
 refine vC hz ?_
 intro r1 h1 x1 z1
 refine vC (z:=1) (by decide) ?_
 intro r2 h2 x2 z2
 exact BK (z1.mono x2) z2 ((EX.append _ _).trans (x1.trans x2)) (le_refl _) ((x1.trans x2).get bn) hk
structure an2 (h:ae) (a b c d a' b' c' d':Value) (h3:ae):Prop where
 ex:EX h h3
 a0:af true 2 h3 (pt h.length 0)=some (.agg #[a,b])
 a2:af true 2 h3 (pt h.length 2)=some (.agg #[c,d])
 b0:af true 2 h3 (pt (h.length+1) 0)=some (.agg #[a',b'])
 b2:af true 2 h3 (pt (h.length+1) 2)=some (.agg #[c',d'])
 a4:af true 4 h3 (pt h.length 0)=some (.agg #[a,b,c,d])
 b4:af true 4 h3 (pt (h.length+1) 0)=some (.agg #[a',b',c',d'])
 out:h3[h.length+2]?=some (.arr 37 z4)
theorem ZI {h:ae} {s s' t t':Bool} {b d b' d':Value} {K:Value→Value→Value→ae→Prop} (hk:∀h3,an2 h (B s) b (B s') d (B t) b' (B t') d' h3→K (pt h.length 0) (pt (h.length+1) 0) (pt (h.length+2) 0) h3):
  OH (bm 37 h (.agg #[B s,b,B s',d])) fun a2 h_1=>OH (bm 37 h_1 (.agg #[B t,b',B t',d'])) fun b3 h_2=>OH (aV 37 [(.bool false),(.slice none 0 0),(.bool false),(.slice none 0 0)] h_2) fun x4 h_3=>K a2 b3 x4 h_3:=by
 have e1:∀(g:ae) (s s':Bool) (b d:Value),bm 37 g (.agg #[B s,b,B s',d])=some (pt g.length 0,g++[.arr 37 [B s,b,B s',d]]):=fun _ _ _ _ _=>rfl
 have e2:∀(g:ae),aV 37 [(.bool false),(.slice none 0 0),(.bool false),(.slice none 0 0)] g=some (pt g.length 0,g++[.arr 37 z4]):=fun _=>rfl
 simp only [e1,e2,aA,length_append,length_cons,length_nil]
 have g0:(h++[aj.arr 37 [B s,b,B s',d]]++[aj.arr 37 [B t,b',B t',d']]++[aj.arr 37 z4])[h.length]?=some (.arr 37 [B s,b,B s',d]):=by simp
 have g1:(h++[aj.arr 37 [B s,b,B s',d]]++[aj.arr 37 [B t,b',B t',d']]++[aj.arr 37 z4])[h.length+1]?=some (.arr 37 [B t,b',B t',d']):=by simp
 have g2:(h++[aj.arr 37 [B s,b,B s',d]]++[aj.arr 37 [B t,b',B t',d']]++[aj.arr 37 z4])[h.length+2]?=some (.arr 37 z4):=by simp
 exact hk _ ⟨((EX.append _ _).push _).push _,jR g0,kZ g0,jR g1,kZ g1,iH g0,iH g1,g2⟩
theorem C27 {va vb:Value} {a b c d:Int} {h:ae} {K:Value→ae→Prop} (ha:QZ h va a b) (hb:QZ h vb c d) (la:a.natAbs<br) (lb:b.natAbs<br) (lc:c.natAbs<br) (ld:d.natAbs<br)
  (hk:∀r h',EX h h'→QZ h' r (a*c) (b*d)→K r h'):ak prog 27 [va,vb] h K:=by
 obtain ⟨u,w,rfl,hu,hw⟩:=ha
 obtain ⟨u',w',rfl,Af,pC⟩:=hb
 refine f27 ?_
 unfold Oq
 refine ZI ?_
 intro h3 x
 have za:ZV h3 (.agg #[B (decide (a<0)),u]) a:=⟨u,rfl,hu.mono x.ex⟩
 have zb:ZV h3 (.agg #[B (decide (b<0)),w]) b:=⟨w,rfl,hw.mono x.ex⟩
 have zc:ZV h3 (.agg #[B (decide (c<0)),u']) c:=⟨u',rfl,Af.mono x.ex⟩
 have zd:ZV h3 (.agg #[B (decide (d<0)),w']) d:=⟨w',rfl,pC.mono x.ex⟩
 simp only [bU,add_zero,zero_add,ah,x.a0,x.b0,true_and]
 refine xj za zc la lc ?_
 intro r4 h4 x4 Be
 simp only [EX.load x4 x.a2,EX.load x4 x.b2,ah,x.a2,x.b2,true_and]
 refine xj (zb.mono x4) (zd.mono x4) lb ld ?_
 intro r5 h5 x5 z5
 exact BK (Be.mono x5) z5 ((x.ex.trans x4).trans x5) (by omega) ((x4.trans x5).get x.out) hk
theorem C26 {va vb:Value} {a b c d:Int} {h:ae} {K:Value→ae→Prop} (ha:QZ h va a b) (hb:QZ h vb c d) (la:a.natAbs<br) (lb:b.natAbs<br) (lc:c.natAbs<br) (ld:d.natAbs<br) (Fe:(a*d).natAbs<br) (Ti:(c*b).natAbs<br)
  (hk:∀r h',EX h h'→QZ h' r (a*d+c*b) (b*d)→K r h'):ak prog 26 [va,vb] h K:=by
 obtain ⟨u,w,rfl,hu,hw⟩:=ha
 obtain ⟨u',w',rfl,Af,pC⟩:=hb
 refine f26 ?_
 unfold Oo
 refine ZI ?_
 intro h3 x
 have za:ZV h3 (.agg #[B (decide (a<0)),u]) a:=⟨u,rfl,hu.mono x.ex⟩
 have zb:ZV h3 (.agg #[B (decide (b<0)),w]) b:=⟨w,rfl,hw.mono x.ex⟩
 have zc:ZV h3 (.agg #[B (decide (c<0)),u']) c:=⟨u',rfl,Af.mono x.ex⟩
 have zd:ZV h3 (.agg #[B (decide (d<0)),w']) d:=⟨w',rfl,pC.mono x.ex⟩
 simp only [bU,add_zero,zero_add,ah,x.a0,x.b2,true_and]
 refine xj za zd la ld ?_
 intro r4 h4 x4 Be
 simp only [EX.load x4 x.a2,EX.load x4 x.b0,ah,x.a2,x.b0,true_and]
 refine xj (zc.mono x4) (zb.mono x4) lc lb ?_
 intro r5 h5 x5 z5
 refine XD (Be.mono x5) z5 Fe Ti ?_
 intro r6 h6 x6 z6
 have dD:=(x4.trans x5).trans x6
 simp only [EX.load dD x.a2,EX.load dD x.b2,EX.load (x4.trans x5) x.a2,EX.load (x4.trans x5) x.b2,EX.load x4 x.b2,ah,true_and]
 refine xj (zb.mono dD) (zd.mono dD) lb ld ?_
 intro r7 h7 x7 z7
 exact BK (z6.mono x7) z7 ((x.ex.trans dD).trans x7) (by omega) ((dD.trans x7).get x.out) hk
end
section
def dQ (s:List UInt8):Nat:=s.foldl (fun d c=>10*d+(c.toNat-48)) 0
theorem WE:∀(s:List UInt8) (a:Nat),s.foldl (fun d c=>10*d+(c.toNat-48)) a=a*10^s.length+dQ s
 | [],a=>by simp [dQ]
 | c::s,a=>by
  have h1:=WE s (10*a+(c.toNat-48))
  have h2:=WE s (10*0+(c.toNat-48))
  have e:dQ (c::s)=s.foldl (fun d c=>10*d+(c.toNat-48)) (10*0+(c.toNat-48)):=rfl
  rw [e,h2,List.foldl_cons,h1,length_cons,pow_succ]
  generalize 10^s.length=P
  generalize c.toNat-48=d
  generalize dQ s=w
  grind
theorem A5 (s t:List UInt8):dQ (s++t)=dQ s*10^t.length+dQ t:=by
 show (s++t).foldl _ 0=_
 rw [List.foldl_append,WE]
 rfl
theorem L9 (c:UInt8):dQ [c]=c.toNat-48:=by simp [dQ]
def kA (s:List UInt8):Prop:=∀c∈s,48≤c.toNat∧c.toNat≤57
theorem L8 (c:UInt8) (s:List UInt8):dQ (c::s)=(c.toNat-48)*10^s.length+dQ s:=by
 have:=A5 [c] s
 rw [L9] at this
 exact this
theorem A6:∀{s:List UInt8},kA s→dQ s<10^s.length
 | [],_=>by simp [dQ]
 | c::s,h=>by
  have h1:=A6 (s:=s) fun x hx=>h x (by simp [hx])
  have h2:=h c (by simp)
  rw [L8,length_cons,pow_succ]
  have h3:=mul_le_mul_right (10^s.length) (show c.toNat-48≤9 by omega)
  omega
end
section
theorem WG:∀{ds:List Nat},cn 10 ds→dQ ((ds.map jr).reverse)=val 10 ds
 | [],_=>rfl
 | d::ds,h=>by
  have h1:=WG (ds:=ds) fun y hy=>h y (by simp [hy])
  have h2:=h d (by simp)
  rw [List.map_cons,List.reverse_cons,A5,L9,h1,vN h2]
  simp only [val,List.length_singleton,Nat.pow_one]
  omega
theorem ui {n:Nat} (hn:n<br):kA (cI n)∧0<(cI n).length∧(cI n).length≤1000∧((cI n).head?=some 48→(cI n).length=1)∧dQ (cI n)=n:=by
 obtain ⟨hc,hv⟩:=IH n
 by_cases h0:n=0
 ·subst h0
  have:cI 0=[48]:=rfl
  rw [this]
  exact ⟨fun c hc=>by simp at hc;subst hc;decide,by simp,by simp,by simp,rfl⟩
 ·have e:cI n=((um n).map jr).reverse:=by unfold cI;rw [if_neg h0]
  have bp:um n≠[]:=by
   intro h
   rw [h] at hv
   exact h0 hv.symm
  rw [e]
  refine ⟨?_,?_,?_,?_,?_⟩
  ·intro c Rq
   simp only [List.mem_reverse,List.mem_map] at Rq
   obtain ⟨d,hd,rfl⟩:=Rq
   rw [vN (hc.1 d hd)]
   have:=hc.1 d hd
   omega
  ·simp only [List.length_reverse,List.length_map]
   exact List.length_pos_iff.2 bp
  ·simp only [List.length_reverse,List.length_map]
   show _≤J9
   refine hc.len (by decide) ?_
   rw [hv]
   exact lt_of_lt_of_le hn ZD
  ·intro nr
   exfalso
   rw [List.head?_reverse,List.getLast?_map] at nr
   cases hl:(um n).getLast? with
   | none=>rw [hl] at nr;simp at nr
   | some d=>
    rw [hl] at nr
    have hd:d<10:=hc.1 d (List.mem_of_getLast? hl)
    have h3:jr d=48:=by simpa using nr
    have h4:=congrArg UInt8.toNat h3
    rw [vN hd] at h4
    have h5:(48:UInt8).toNat=48:=rfl
    rw [h5] at h4
    have:d=0:=by omega
    subst this
    exact hc.2 hl
  ·rw [WG hc.1,hv]
def il (z:Int):List UInt8:=if z<0 then 45::cI z.natAbs else cI z.natAbs
end
section
variable (P : Program) (K : VK)
noncomputable section
variable (x0 x1 : Value) (h : ae)
def ahX:=bz prog 17 [[],[]]
@[irreducible] def xy:=bJ ahX
theorem k17:ahX=some (11,xy,[.cell true 4 4]):=by kernel_rfl
def Oh:Prop:=
 OH (aV 37 [(.bool false),(.slice none 0 0),(.bool false),(.slice none 0 0)] h) fun x4 z1=>
 ak P 55 [x0] z1 fun x6 z2=>
 ak P 55 [x1] z2 fun x8 z3=>
 ak P 54 [x6,x8] z3 fun x9 z4=>
 ak P 25 [x9] z4 fun aM z5=>
 OH (aF 4 z5 x4 aM) fun _ z6=>
 OP (af true 4 z6 x4) fun r0=>
 K r0 z6
theorem e17:aq P xy (aT [.cell true 4 4] K) (bt [x0,x1]) h=Oh P K x0 x1 h:=by kernel_rfl
theorem f17 {K:VK} {x0 x1:Value} {h:ae} (H:Oh prog K x0 x1 h):ak prog 17 [x0,x1] h K:=
 bK k17 (bI rfl) ((e17 prog K x0 x1 h).mpr H)
end
noncomputable section
variable (q0 : Value) (h : ae)
def ah3:=bz prog 25 [[],[],[],[],[]]
@[irreducible] def c25:=bJ ah3
theorem k25:ah3=some (30,c25,[.cell true 4 2]):=by kernel_rfl
def On:Prop:=
 OH (bm 37 h q0) fun q1 z1=>
 OH (aV 37 [(.bool false),(.slice none 0 0),(.bool false),(.slice none 0 0)] z1) fun x2 z2=>
 OP (aL 0 q1) fun x8=>
 OP (af true 2 z2 x8) fun x9=>
 OP (aL 2 q1) fun aM=>
 OP (af true 2 z2 aM) fun au=>
 ak P 68 [x9,au] z2 fun aC z3=>
 OH (aV 35 [(.bool false),(.slice none 0 0)] z3) fun g3 z4=>
 OH (aF 2 z4 g3 aC) fun _ z5=>
 OP (aL 0 q1) fun aH=>
 OP (af true 2 z5 aH) fun bc=>
 OP (af true 2 z5 g3) fun bk=>
 ak P 69 [bc,bk] z5 fun bN z6=>
 OP (cg 0 bN) fun aQ=>
 OP (cg 1 bN) fun aO=>
 OH (aV 35 [(.bool false),(.slice none 0 0)] z6) fun n4 z7=>
 OH (aV 35 [(.bool false),(.slice none 0 0)] z7) fun x5 z8=>
 OH (aF 2 z8 n4 aQ) fun _ z9=>
 OH (aF 2 z9 x5 aO) fun _ jz=>
 OP (aL 2 q1) fun aZ=>
 OP (af true 2 jz aZ) fun bF=>
 OP (af true 2 jz g3) fun cB=>
 ak P 69 [bF,cB] jz fun bu kl=>
 OP (cg 0 bu) fun ca=>
 OP (cg 1 bu) fun cw=>
 OH (aV 35 [(.bool false),(.slice none 0 0)] kl) fun d6 nc=>
 OH (aV 35 [(.bool false),(.slice none 0 0)] nc) fun x7 qx=>
 OH (aF 2 qx d6 ca) fun _ vk=>
 OH (aF 2 vk x7 cw) fun _ mE=>
 OP (af true 2 mE n4) fun bZ=>
 OP (af true 2 mE d6) fun cG=>
 OP (dd [(.bool false),(.slice none 0 0),(.bool false),(.slice none 0 0)] [(0,2,bZ),(2,2,cG)]) fun cM=>
 OH (aF 4 mE x2 cM) fun _ vA=>
 OP (af true 4 vA x2) fun r0=>
 K r0 vA
theorem e25:aq P c25 (aT [.cell true 4 2] K) (bt [q0]) h=On P K q0 h:=by kernel_rfl
theorem f25 {K:VK} {q0:Value} {h:ae} (H:On prog K q0 h):ak prog 25 [q0] h K:=
 bK k25 (bI rfl) ((e25 prog K q0 h).mpr H)
end
noncomputable section
variable (a0 b1 : Value) (h : ae)
def ah7:=bz prog 29 [[],[]]
@[irreducible] def c29:=bJ ah7
theorem k29:ah7=some (16,c29,[.tmp 4]):=by kernel_rfl
def Ou:Prop:=
 OH (bm 37 h a0) fun a2 z1=>
 OH (bm 37 z1 b1) fun b3 z2=>
 OP (aL 0 a2) fun x5=>
 OP (af true 2 z2 x5) fun x6=>
 (True)∧
 OP (aL 2 b3) fun x7=>
 OP (af true 2 z2 x7) fun x8=>
 (True)∧
 ak P 71 [x6,x8] z2 fun x9 z3=>
 (True)∧
 OP (aL 0 b3) fun aM=>
 OP (af true 2 z3 aM) fun au=>
 (af true 2 z2 aM=some au∧True)∧
 OP (aL 2 a2) fun aC=>
 OP (af true 2 z3 aC) fun aB=>
 (af true 2 z2 aC=some aB∧True)∧
 ak P 71 [au,aB] z3 fun aH z4=>
 (True)∧
 ak P 72 [x9,aH] z4 fun bc z5=>
 (True)∧
 K bc z5
theorem e29:aq P c29 (aT [.tmp 4] K) (bt [a0,b1]) h=Ou P K a0 b1 h:=by kernel_rfl
theorem f29 {K:VK} {a0 b1:Value} {h:ae} (H:Ou prog K a0 b1 h):ak prog 29 [a0,b1] h K:=
 bK k29 (bI rfl) ((e29 prog K a0 b1 h).mpr H)
end
noncomputable section
variable (q0 q1 s4 d5 aQ aZ : Value) (h : ae)
def aic:=bz prog 53 [[],[],[],[1,4,5,18],[1,4,5,18,21],[],[],[],[],[4,5],[],[4],[]]
@[irreducible] def DN:=bJ aic
@[irreducible] def abo:=DN.r.r.r.l.l.r.l
@[irreducible] def ato:=DN.r.r.r.l.r
@[irreducible] def abn:=DN.r.r.r.r
@[irreducible] def atp:=abo.r.l
@[irreducible] def abm:=abn.r.l
@[irreducible] def atn:=abm.r.l
theorem k53:aic=some (35,DN,[.tmp 2,.tmp 3]):=by kernel_rfl
def GM (_P:Program) (K:VK):ar:=aT [.tmp 2,.tmp 3] K
def Yt:ar:=aG (aq P abn (GM P K)) (GM P K)
def Yu:ar:=aG (aq P ato (Yt P K)) (Yt P K)
def ake:Prop:=ay (aq P abo (Yu P K)) [1,4,5,18] [q1,s4,d5,aQ] h
def UG:Prop:=ay (aq P atp (Yu P K)) [1,4,5,18,21] [q1,s4,d5,aQ,aZ] h
def KW:Prop:=ay (aq P abm (GM P K)) [4,5] [s4,d5] h
def UF:Prop:=ay (aq P atn (GM P K)) [4] [s4] h
theorem aCC:UG P K q1 s4 d5 aQ aZ h=
 (OP (bQ aQ (.bool true) aZ) fun bF=>
 aR bF
 (K (.tuple #[(.string ⟨#[]⟩),(.bool false)]) h)
 (OP (aL 0 q1) fun cB=>
 OP (aL 0 cB) fun bu=>
 OP (af false 1 h bu) fun ca=>
 aR ca
 (OP (ai .add (.string ⟨#[45]⟩) s4) fun bZ=>
 KW P K bZ d5 h)
 (KW P K s4 d5 h))):=az (by kernel_rfl)
theorem aCB:ake P K q1 s4 d5 aQ h=
 (cC aQ false
 (OP (gI d5) fun aX=>
 OP (ai .gtr aX (.int .i64 (4000))) fun aZ=>
 UG P K q1 s4 d5 aQ aZ h)
 (UG P K q1 s4 d5 aQ undef h)):=az (by kernel_rfl)
theorem amo:UF P K s4 h=
 (K (.tuple #[s4,(.bool true)]) h):=az (by kernel_rfl)
theorem aCA:KW P K s4 d5 h=
 (OP (ai .neq d5 (.string ⟨#[49]⟩)) fun cM=>
 aR cM
 (OP (ai .add (.string ⟨#[47]⟩) d5) fun cS=>
 OP (ai .add s4 cS) fun dH=>
 UF P K dH h)
 (UF P K s4 h)):=az (by kernel_rfl)
def Oz:Prop:=
 OH (bm 37 h q0) fun q1 z1=>
 OP (af true 4 z1 q1) fun x6=>
 ak P 25 [x6] z1 fun x7 z2=>
 OH (aF 4 z2 q1 x7) fun _ z3=>
 OP (aL 0 q1) fun x8=>
 OP (af true 2 z3 x8) fun x9=>
 (True)∧
 ak P 94 [x9] z3 fun aM z4=>
 (True)∧
 ak P 93 [aM] z4 fun au z5=>
 (True)∧
 OP (aL 2 q1) fun aC=>
 OP (af true 2 z5 aC) fun aB=>
 (af true 2 z3 aC=some aB∧af true 2 z4 aC=some aB∧True)∧
 ak P 93 [aB] z5 fun aH z6=>
 (True)∧
 OP (gI au) fun bk=>
 OP (ai .gtr bk (.int .i64 (4000))) fun bN=>
 ake P K q1 au aH bN z6
theorem e53:aq P DN (aT [.tmp 2,.tmp 3] K) (bt [q0]) h=Oz P K q0 h:=by kernel_rfl
theorem f53 {K:VK} {q0:Value} {h:ae} (H:Oz prog K q0 h):ak prog 53 [q0] h K:=
 bK k53 (bI rfl) ((e53 prog K q0 h).mpr H)
end
noncomputable section
variable (a0 b1 a2 b3 x4 : Value) (L1 : LQ) (xs : List Value) (h : ae)
def aiq:=bz prog 68 [[],[],[2,3,4],[],[],[],[],[2,4],[]]
@[irreducible] def H6:=bJ aiq
@[irreducible] def atW:=H6.r.r.l.l.l
@[irreducible] def abU:=H6.r.r.r
@[irreducible] def atV:=abU.l
theorem k68:aiq=some (24,H6,[.cell true 2 4]):=by kernel_rfl
def Nf (_P:Program) (K:VK):ar:=aT [.cell true 2 4] K
def aqw:ar:=aG (aq P abU (Nf P K)) (Nf P K)
def aqx:ar:=bO 0 (aqw P K)
def aqy:ar:=aG (fun f' aW=>(([2,3,4]:List Nat).map f':List Value)=[a2,b3,x4]∧L1 (([]:List Nat).map f') aW) (aqx P K)
def akD:Prop:=ay (aq P atW (aqy P K a2 b3 x4 L1)) ([2,3,4]++[]) ([a2,b3,x4]++xs) h
def akC:Prop:=ay (aq P atV (Nf P K)) [2,4] [a2,x4] h
theorem aDj:akD P K a2 b3 x4 L1 [] h=
 (OP (aL 1 b3) fun au=>
 OP (af false 1 h au) fun aC=>
 OP (bj aC) fun aB=>
 OP (ai .gtr aB (.int .i64 (0))) fun aH=>
 aR aH
 (OP (af true 2 h a2) fun bk=>
 OP (af true 2 h b3) fun bN=>
 ak P 69 [bk,bN] h fun aQ z1=>
 OP (cg 0 aQ) fun aO=>
 OP (cg 1 aQ) fun aX=>
 OH (aV 35 [(.bool false),(.slice none 0 0)] z1) fun x5 z2=>
 OH (aV 35 [(.bool false),(.slice none 0 0)] z2) fun x6 z3=>
 OH (aF 2 z3 x5 aO) fun _ z4=>
 OH (aF 2 z4 x6 aX) fun _ z5=>
 OP (af true 2 z5 b3) fun aZ=>
 (True)∧
 OP (af true 2 z5 x6) fun bF=>
 (True)∧
 OH (aF 2 z5 a2 aZ) fun _ z6=>
 (af true 2 z6 x6=some bF∧True)∧
 OH (aF 2 z6 b3 bF) fun _ z7=>
 (True)∧
 ([a2,b3,x4]:List Value)=[a2,b3,x4]∧L1 [] z7)
 (akC P K a2 x4 h)):=az (by kernel_rfl)
theorem aDi:akC P K a2 x4 h=
 (OP (af true 2 h a2) fun cB=>
 OH (aF 2 h x4 cB) fun _ z1=>
 OP (af true 2 z1 x4) fun r0=>
 K r0 z1):=az (by kernel_rfl)
def OM:Prop:=
 OH (bm 35 h a0) fun a2 z1=>
 OH (bm 35 z1 b1) fun b3 z2=>
 OH (aV 35 [(.bool false),(.slice none 0 0)] z2) fun x4 z3=>
 OP (af true 2 z3 a2) fun x7=>
 (True)∧
 ak P 94 [x7] z3 fun x8 z4=>
 (True)∧
 OP (af true 2 z4 b3) fun x9=>
 (af true 2 z3 b3=some x9∧True)∧
 ak P 94 [x9] z4 fun aM z5=>
 (True)∧
 OH (aF 2 z5 a2 x8) fun _ z6=>
 (True)∧
 OH (aF 2 z6 b3 aM) fun _ z7=>
 (True)∧
 cQ [] z7 fun L1 xs hx=>
 akD P K a2 b3 x4 L1 xs hx
theorem e68:aq P H6 (aT [.cell true 2 4] K) (bt [a0,b1]) h=OM P K a0 b1 h:=by kernel_rfl
theorem f68 {K:VK} {a0 b1:Value} {h:ae} (H:OM prog K a0 b1 h):ak prog 68 [a0,b1] h K:=
 bK k68 (bI rfl) ((e68 prog K a0 b1 h).mpr H)
end
noncomputable section
variable (a0 b1 a2 b3 x4 x5 q6 x7 i8 x9 aM aC aB fK gW : Value) (L1 L2 : LQ) (xs : List Value) (h : ae)
def air:=bz prog 69 [[],[],[],[2,3,4,5,6],[7,8],[],[],[],[],[2,3,4,5,6,7,8],[9,10],[],[],[],[],[2,3,4,5,6,7,8,9],[],[2,3,4,5,6,7,8],[2,3,4,5,6,7],[],[3,4,5,12,13,78],[3,4,5,12,13,78,82],[],[],[],[]]
@[irreducible] def H7:=bJ air
@[irreducible] def H9:=H7.r.r.l.r.l.l
@[irreducible] def abX:=H7.r.r.r
@[irreducible] def atX:=H9.r.l.l.r.r.l.l.l
@[irreducible] def abV:=H9.r.l.l.r.r.r
@[irreducible] def abY:=H9.r.r
@[irreducible] def H8:=abX.l
@[irreducible] def atY:=abV.l
@[irreducible] def atZ:=abY.l
@[irreducible] def abW:=H8.r.l.l.r.l
@[irreducible] def at1:=H8.r.l.r
@[irreducible] def at0:=H8.r.r
@[irreducible] def at2:=abW.r.l
theorem k69:air=some (92,H7,[.cell true 2 4,.cell true 2 5]):=by kernel_rfl
def Dr (_P:Program) (K:VK):ar:=aT [.cell true 2 4,.cell true 2 5] K
def aqC:ar:=aG (aq P abX (Dr P K)) (Dr P K)
def aqD:ar:=bO 0 (aqC P K)
def GQ:ar:=aG (fun f' aW=>(([2,3,4,5,6]:List Nat).map f':List Value)=[a2,b3,x4,x5,q6]∧L1 (([7,8]:List Nat).map f') aW) (aqD P K)
def aqE:ar:=aG (aq P abY (GQ P K a2 b3 x4 x5 q6 L1)) (GQ P K a2 b3 x4 x5 q6 L1)
def Ng:ar:=bO 1 (aqE P K a2 b3 x4 x5 q6 L1)
def aqz:ar:=aG (aq P abV (Ng P K a2 b3 x4 x5 q6 L1)) (Ng P K a2 b3 x4 x5 q6 L1)
def aqA:ar:=bO 2 (aqz P K a2 b3 x4 x5 q6 L1)
def aqB:ar:=aG (fun f' aW=>(([2,3,4,5,6,7,8]:List Nat).map f':List Value)=[a2,b3,x4,x5,q6,x7,i8]∧L2 (([9,10]:List Nat).map f') aW) (aqA P K a2 b3 x4 x5 q6 L1)
def YI:ar:=aG (aq P at0 (Dr P K)) (Dr P K)
def YJ:ar:=aG (aq P at1 (YI P K)) (YI P K)
def akJ:Prop:=ay (aq P H9 (GQ P K a2 b3 x4 x5 q6 L1)) ([2,3,4,5,6]++[7,8]) ([a2,b3,x4,x5,q6]++xs) h
def akE:Prop:=ay (aq P atX (aqB P K a2 b3 x4 x5 q6 x7 i8 L1 L2)) ([2,3,4,5,6,7,8]++[9,10]) ([a2,b3,x4,x5,q6,x7,i8]++xs) h
def akF:Prop:=ay (aq P atY (Ng P K a2 b3 x4 x5 q6 L1)) [2,3,4,5,6,7,8,9] [a2,b3,x4,x5,q6,x7,i8,x9] h
def akG:Prop:=ay (aq P atZ (GQ P K a2 b3 x4 x5 q6 L1)) [2,3,4,5,6,7,8] [a2,b3,x4,x5,q6,x7,i8] h
def akH:Prop:=ay (aq P H8 (Dr P K)) [2,3,4,5,6,7] [a2,b3,x4,x5,q6,x7] h
def akI:Prop:=ay (aq P abW (YJ P K)) [3,4,5,12,13,78] [b3,x4,x5,aC,aB,fK] h
def FO:Prop:=ay (aq P at2 (YJ P K)) [3,4,5,12,13,78,82] [b3,x4,x5,aC,aB,fK,gW] h
theorem aDk (a2 b3 x4 x5 q6 x7 i8:Value) (L1 L2:LQ) (x9 aM:Value) (h:ae):akE P K a2 b3 x4 x5 q6 x7 i8 L1 L2 [x9,aM] h=
 (OP (ai .sub aM x9) fun ef=>
 OP (ai .gtr ef (.int .i64 (1))) fun eG=>
 aR eG
 (OP (ai .add x9 aM) fun bH=>
 OP (ai .quo bH (.int .i64 (2))) fun cP=>
 OP (aL 1 b3) fun dD=>
 OP (af false 1 h dD) fun og=>
 ak P 102 [og,cP] h fun gO z1=>
 ak P 101 [gO,x7] z1 fun cH z2=>
 OP (ai .leq cH (.int .i64 (0))) fun db=>
 aR db
 (([a2,b3,x4,x5,q6,x7,i8]:List Value)=[a2,b3,x4,x5,q6,x7,i8]∧L2 [cP,aM] z2)
 (([a2,b3,x4,x5,q6,x7,i8]:List Value)=[a2,b3,x4,x5,q6,x7,i8]∧L2 [x9,cP] z2))
 (akF P K a2 b3 x4 x5 q6 x7 i8 x9 L1 h)):=az (by kernel_rfl)
theorem aDl:akF P K a2 b3 x4 x5 q6 x7 i8 x9 L1 h=
 (OP (bf 1 q6 i8) fun gu=>
 OH (aF 1 h gu x9) fun _ z1=>
 OP (aL 1 b3) fun kI=>
 OP (af false 1 z1 kI) fun fZ=>
 ak P 102 [fZ,x9] z1 fun kJ z2=>
 ak P 103 [x7,kJ] z2 fun jx z3=>
 OP (dd [(.bool false),(.slice none 0 0)] [(1,1,jx)]) fun gy=>
 ak P 100 [gy] z3 fun lE z4=>
 OP (An false 1 1 lE) fun gA=>
 akG P K a2 b3 x4 x5 q6 gA i8 L1 z4):=az (by kernel_rfl)
theorem aDm:akG P K a2 b3 x4 x5 q6 x7 i8 L1 h=
 (OP (ai .sub i8 (.int .i64 (1))) fun cw=>
 ([a2,b3,x4,x5,q6]:List Value)=[a2,b3,x4,x5,q6]∧L1 [x7,cw] h):=az (by kernel_rfl)
theorem aDp (a2 b3 x4 x5 q6:Value) (L1:LQ) (x7 i8:Value) (h:ae):akJ P K a2 b3 x4 x5 q6 L1 [x7,i8] h=
 (OP (ai .geq i8 (.int .i64 (0))) fun bu=>
 aR bu
 (OP (aL 1 a2) fun bZ=>
 OP (af false 1 h bZ) fun cG=>
 OP (bf 1 cG i8) fun dC=>
 OP (af false 1 h dC) fun cE=>
 OH (dK 3 1 [(.int .i64 (0))] h [(0,1,cE)]) fun cS z1=>
 OH (dY 3 1 8 z1 cS x7) fun cT z2=>
 OP (dd [(.bool false),(.slice none 0 0)] [(1,1,cT)]) fun cR=>
 ak P 100 [cR] z2 fun cX z3=>
 OP (An false 1 1 cX) fun fE=>
 cQ [(.int .i64 (0)),(.int .i64 (10000))] z3 fun L2 xs hx=>
 akE P K a2 b3 x4 x5 q6 fE i8 L1 L2 xs hx)
 (akH P K a2 b3 x4 x5 q6 x7 h)):=az (by kernel_rfl)
theorem VE:FO P K b3 x4 x5 aC aB fK gW h=
 (OP (bQ fK gW (.bool false)) fun mD=>
 aR mD
 (OP (af true 2 h aC) fun gX=>
 (True)∧
 ak P 55 [(.int .i64 (1))] h fun sL z1=>
 (af true 2 z1 aC=some gX∧True)∧
 ak P 92 [gX,sL] z1 fun oh z2=>
 (True)∧
 OP (af true 2 z2 b3) fun sM=>
 (af true 2 h b3=some sM∧af true 2 z1 b3=some sM∧True)∧
 OP (af true 2 z2 aB) fun om=>
 (af true 2 h aB=some om∧af true 2 z1 aB=some om∧True)∧
 ak P 92 [sM,om] z2 fun jy z3=>
 (True)∧
 OH (aF 2 z3 x4 oh) fun _ z4=>
 (True)∧
 OH (aF 2 z4 x5 jy) fun _ z5=>
 (True)∧
 OP (af true 2 z5 x4) fun r0=>
 OP (af true 2 z5 x5) fun r1=>
 K (.tuple #[r0,r1]) z5)
 (OP (af true 2 h aC) fun oV=>
 (True)∧
 OP (af true 2 h aB) fun iy=>
 (True)∧
 OH (aF 2 h x4 oV) fun _ z1=>
 (af true 2 z1 aB=some iy∧True)∧
 OH (aF 2 z1 x5 iy) fun _ z2=>
 (True)∧
 OP (af true 2 z2 x4) fun r0=>
 OP (af true 2 z2 x5) fun r1=>
 K (.tuple #[r0,r1]) z2)):=az (by kernel_rfl)
theorem aDo:akI P K b3 x4 x5 aC aB fK h=
 (cC fK true
 (OP (aL 1 aB) fun ki=>
 OP (af false 1 h ki) fun rG=>
 OP (bj rG) fun jV=>
 OP (ai .gtr jV (.int .i64 (0))) fun gW=>
 FO P K b3 x4 x5 aC aB fK gW h)
 (FO P K b3 x4 x5 aC aB fK undef h)):=az (by kernel_rfl)
theorem aDn:akH P K a2 b3 x4 x5 q6 x7 h=
 (OP (aL 0 a2) fun gB=>
 OP (af false 1 h gB) fun fX=>
 OP (dd [(.bool false),(.slice none 0 0)] [(0,1,fX),(1,1,q6)]) fun iu=>
 ak P 100 [iu] h fun mC z1=>
 OP (dd [(.bool false),(.slice none 0 0)] [(1,1,x7)]) fun jT=>
 ak P 100 [jT] z1 fun jU z2=>
 OH (aV 35 [(.bool false),(.slice none 0 0)] z2) fun aC z3=>
 OH (aV 35 [(.bool false),(.slice none 0 0)] z3) fun aB z4=>
 OH (aF 2 z4 aC mC) fun _ z5=>
 OH (aF 2 z5 aB jU) fun _ z6=>
 OP (aL 0 a2) fun kK=>
 OP (af false 1 z6 kK) fun jk=>
 akI P K b3 x4 x5 aC aB jk z6):=az (by kernel_rfl)
def ON:Prop:=
 OH (bm 35 h a0) fun a2 z1=>
 OH (bm 35 z1 b1) fun b3 z2=>
 OH (aV 35 [(.bool false),(.slice none 0 0)] z2) fun x4 z3=>
 OH (aV 35 [(.bool false),(.slice none 0 0)] z3) fun x5 z4=>
 OP (aL 1 a2) fun aH=>
 OP (af false 1 z4 aH) fun bc=>
 OP (bj bc) fun bk=>
 OH (mb 3 8 [(.int .i64 (0))] z4 bk bk) fun bN z5=>
 OH (dK 3 0 [(.int .i64 (0))] z5 []) fun aQ z6=>
 OP (aL 1 a2) fun aO=>
 OP (af false 1 z6 aO) fun aX=>
 OP (bj aX) fun aZ=>
 OP (ai .sub aZ (.int .i64 (1))) fun bF=>
 cQ [aQ,bF] z6 fun L1 xs hx=>
 akJ P K a2 b3 x4 x5 bN L1 xs hx
theorem e69:aq P H7 (aT [.cell true 2 4,.cell true 2 5] K) (bt [a0,b1]) h=ON P K a0 b1 h:=by kernel_rfl
theorem f69 {K:VK} {a0 b1:Value} {h:ae} (H:ON prog K a0 b1 h):ak prog 69 [a0,b1] h K:=
 bK k69 (bI rfl) ((e69 prog K a0 b1 h).mpr H)
end
end
section
theorem Hd {e:TypeId} {k:IntKind} {h:ae} {v:Value} {xs:List Nat} (d:DS e k h v xs):dd [(.bool false),(.slice none 0 0)] [(1,1,v)]=some (.agg #[B false,v]):=by
 rcases d with ⟨rfl,_⟩ | ⟨i,rfl,_⟩ <;> rfl
theorem Q1 (b:Bool) (v:Value):An false 1 1 (.agg #[B b,v])=some v:=rfl
theorem pN {n:Nat} (h:n<10000^201):n<br:=by
 refine lt_of_lt_of_le h ?_
 unfold br
 decide+kernel
theorem fQ.Gd {h:ae} {v:Value} {n:Nat} (p:fQ h v n):ZV h (.agg #[B false,v]) (n:Int):=⟨v,by rw [aS (by omega)],by simpa using p⟩
theorem W8 {v:Value} {n d:Nat} {h:ae} {K:Value→ae→Prop} (hv:fQ h v n) (hn:n<10000^200) (hd:d≤10000) (hk:∀r h',EX h h'→fQ h' r (n*d)→K r h'):ak prog 102 [v,I d] h K:=by
 have tq:n<br:=pN (by
  have:(10000:Nat)^201=10000^200*10000:=by decide+kernel
  omega)
 have ax2:n*d<br:=by
  refine pN ?_
  have h1:n*d≤n*10000:=mul_le_mul_left _ hd
  have:(10000:Nat)^201=10000^200*10000:=by decide+kernel
  omega
 refine f102 ?_
 obtain ⟨xs,dx,cx⟩:=id hv
 simp only [NB,Hd dx,ah]
 refine vC (z:=d) (by omega) ?_
 intro r1 h1 x1 z1
 refine xj (hv.Gd.mono x1) z1 (by simpa using tq) (by have:=pN (n:=10000) (by decide+kernel);simp;omega) ?_
 intro r2 h2 x2 z2
 obtain ⟨u,rfl,hu⟩:=z2
 have e1:((n:Int)*(d:Int)).natAbs=n*d:=by rw [natAbs_mul];simp
 rw [e1] at hu
 have e2:decide ((n:Int)*(d:Int)<0)=false:=aS (by have:(n:Int)*(d:Int)=((n*d:Nat):Int):=by simp
                                                               omega)
 rw [e2]
 obtain ⟨ys,dy,cy,vy⟩:=hu
 have ly:=rN cy (by rw [vy];exact ax2)
 refine yE dy cy.1 (by omega) ?_
 intro r3 h3 x3 z3
 simp only [Bool.false_eq_true,if_false,vy] at z3
 obtain ⟨w,rfl,hw⟩:=z3
 rw [Q1]
 rw [natAbs_natCast] at hw
 exact ah.2 (hk _ _ ((x1.trans x2).trans x3) hw)
theorem fQ.azP {h h':ae} {n i m:Nat} (p:fQ h (sl 3 i 0 m) n) (hi:h'[i]?=h[i]?):fQ h' (sl 3 i 0 m) n:=by
 obtain ⟨xs,d,c,v⟩:=p
 refine ⟨xs,?_,c,v⟩
 rcases d with ⟨h1,h2⟩ | ⟨j,h1,h2⟩
 ·cases h1
 ·obtain ⟨rfl,rfl⟩:=Wk h1
  refine .inr ⟨i,rfl,h2.imp id ?_⟩
  rintro ⟨r,hr⟩
  refine ⟨r,?_⟩
  unfold aP at hr⊢
  rw [hi];exact hr
theorem avo {h:ae} {v:Value} {ys:List Nat} {d:Nat} {K:Value→ae→Prop} (p:DS 3 .i64 h v ys) (hl:ys.length≤1000) (hk:∀r h',EX h h'→DS 3 .i64 h' r (d::ys)→K r h'):
  OH (dK 3 1 [.int .i64 0] h [(0,1,I d)]) fun a h1=>OH (dY 3 1 8 h1 a v) K:=by
 have e1:dK 3 1 [.int .i64 0] h [(0,1,I d)]=some (sl 3 h.length 0 1,h++[.arr 3 [I d]]):=rfl
 rw [e1]
 simp only [aA]
 obtain ⟨c1,c2⟩:=(p.mono (EX.append h [.arr 3 [I d]])).cells
 by_cases oK:ys.length=0
 ·have:ys=[]:=List.length_eq_zero_iff.1 oK
  subst this
  have e2:dY 3 1 8 (h++[.arr 3 [I d]]) (sl 3 h.length 0 1) v=some (sl 3 h.length 0 1,h++[.arr 3 [I d]]):=by
   simp [dY,c1,c2,sl,maxLen]
  rw [e2]
  simp only [aA]
  exact hk _ _ (EX.append _ _) (.inr ⟨h.length,rfl,.inr ⟨[],by simp [aP]⟩⟩)
 ·have hg:(h++[aj.arr 3 [I d]])[h.length]?=some (.arr 3 [I d]):=bn
  have e2:dY 3 1 8 (h++[.arr 3 [I d]]) (sl 3 h.length 0 1) v=some (sl 3 (h.length+1) 0 (1+ys.length),(h++[aj.arr 3 [I d]]).set h.length .dead++[.arr 3 ([I d]++ys.map fun d:Nat=>I d)]):=by
   simp only [dY,c1,c2]
   simp only [sl,hg]
   rw [if_pos ⟨trivial,trivial,by simp,by omega,by unfold maxLen;omega⟩,if_neg oK]
   simp
  rw [e2]
  simp only [aA]
  refine hk _ _ (((EX.append _ _).set (le_refl _) _).push _) (.inr ⟨h.length+1,by rw [length_cons,Nat.add_comm 1],.inr ⟨[],?_⟩⟩)
  unfold aP
  rw [List.getElem?_append_right (by simp)]
  simp
theorem anJ (B:Nat) (xs:List Nat) {i:Nat} (hi:i<xs.length):val B (xs.drop i)=xs[i]+B*val B (xs.drop (i+1)):=by
 rw [List.drop_eq_getElem_cons hi];rfl
theorem ani {a b:Nat}:nC a b≤0↔a≤b:=by
 unfold nC
 split
 ·constructor <;> omega
 ·split <;> constructor <;> omega
theorem MC {va vb:Value} {a b:Int} {h:ae} {K:Value→ae→Prop} (ha:ZV h va a) (hb:ZV h vb b) (pn:0<b) (la:a.natAbs<10000^199) (lb:b.natAbs<10000^199)
  (hk:∀r s h',EX h h'→ZV h' r (a / b)→ZV h' s (a%b)→K (.tuple #[r,s]) h'):ak prog 69 [va,vb] h K:=by
 obtain ⟨v,rfl,hv⟩:=ha
 obtain ⟨w,rfl,hw⟩:=hb
 have aHb:(10000:Nat)^200=10000^199*10000:=by decide+kernel
 have aHc:(10000:Nat)^201=10000^200*10000:=by decide+kernel
 refine f69 ?_
 unfold ON
 refine Hb ?_
 intro h3 x
 obtain ⟨B,hBb⟩:∃B:Nat,b=B:=⟨b.toNat,by omega⟩
 subst hBb
 have hB0:0<B:=by omega
 have hBl:B<10000^199:=by simpa using lb
 obtain ⟨xs,dx,cx,ex⟩:=hv.mono x.ex
 have l1:=rN cx (by rw [ex];exact pN (by omega))
 have hwB:fQ h3 w B:=by have:=hw.mono x.ex;simpa using this
 have e2:aV 35 [(.bool false),(.slice none 0 0)] h3=some (pt h3.length 0,h3++[.arr 35 [(.bool false),(.slice none 0 0)]]):=rfl
 simp only [e2,aA,bU,zero_add]
 have x4:EX h3 (h3++[.arr 35 [(.bool false),(.slice none 0 0)]]):=EX.append _ _
 have g5:(h3++[aj.arr 35 [(.bool false),(.slice none 0 0)]])[h3.length]?=some (.arr 35 [(.bool false),(.slice none 0 0)]):=bn
 have qK:h.length+2<h3.length:=(bL x.out).1
 generalize hh4:h3++[aj.arr 35 [(.bool false),(.slice none 0 0)]]=h4 at x4 g5⊢
 have hl4:h4.length=h3.length+1:=by rw [←hh4];simp
 clear hh4
 have Qy:=dx.mono x4
 simp only [EX.load x4 x.a1,ah,Qy.len,agE (show xs.length≤1000 by omega),aA,Tz]
 have e6:IntKind.wrap .i64 ((xs.length:Int)-1)=(xs.length:Int)-1:=wrap64 (by omega) (by omega)
 have x6:EX h4 (hz h4 (replicate xs.length 0)++[.arr 3 []]):=(wC h4 _).push _
 simp only [EX.load (x4.trans x6) x.a1,ah,Qy.len,gE,e6]
 have Ci:(hz h4 (replicate xs.length 0)++[aj.arr 3 []])[h4.length]?=some (.arr 3 ((replicate xs.length 0).map fun d:Nat=>I d)):=by
  rw [List.getElem?_append_left (by simp [hz])];exact afD _ _
 have qS:fQ (hz h4 (replicate xs.length 0)++[aj.arr 3 []]) (sl 3 (hz h4 (replicate xs.length 0)).length 0 0) 0:=⟨[],.inr ⟨_,rfl,.inl rfl⟩,dE.nil _,rfl⟩
 refine dj (σ:=Nat×Nat×Value×List Nat×ae) (fun p=>[p.2.2.1,I ((p.1:Int)-1)]) (fun p=>p.2.2.2.2)
  (fun p=>p.1≤xs.length∧EX h4 p.2.2.2.2∧p.2.2.2.2[h4.length]?=some (.arr 3 (p.2.2.2.1.map fun d:Nat=>I d))∧p.2.2.2.1.length=xs.length∧cn 10000 p.2.2.2.1∧fQ p.2.2.2.2 p.2.2.1 p.2.1∧p.2.1<B∧val 10000 (p.2.2.2.1.drop p.1)*B+p.2.1=val 10000 (xs.drop p.1)) (fun p=>p.1)
  (xs.length,0,_,replicate xs.length 0,_) rfl rfl ⟨le_refl _,x6,Ci,by simp,cn.xe (by decide) _,qS,hB0,by simp [val]⟩ ?_
 rintro ⟨i,R,rv,qs,g⟩ ⟨hi,xg,hq,qP,Sg,hR,hRB,bW⟩ L hL
 simp only at hi xg hq qP Sg hR hRB bW hL⊢
 have Cz:∀{g'},EX h4 g'→af false 1 g' (pt h.length 1)=some v:=fun y=>EX.load (x4.trans y) x.a1
 have Ax:∀{g'},EX h4 g'→af false 1 g' (pt (h.length+1) 1)=some w:=fun y=>EX.load (x4.trans y) x.b1
 rw [aDp]
 simp only [nk,ah,bR]
 refine ⟨fun cJ=>?_,fun aD=>?_⟩
 ·obtain ⟨j,rfl⟩:∃j,i=j+1:=⟨i-1,by omega⟩
  have ej:((j+1:Nat):Int)-1=(j:Int):=by omega
  have xT:j<xs.length:=by omega
  obtain ⟨ia,a1,a2⟩:=(Qy.mono xg).get xT
  have SJ:xs[j]<10000:=cx.1 _ (getElem_mem xT)
  have JU:=anJ 10000 xs xT
  rw [ej]
  simp only [bU,zero_add,Cz xg,ah,a1,a2]
  obtain ⟨rs,dr,cr,vr⟩:=id hR
  have lr:=rN cr (by rw [vr];exact pN (by omega))
  refine avo dr (by omega) ?_
  intro r1 g1 y1 d1
  simp only [Hd d1,ah]
  refine W6 d1 (fun z hz=>by
   rcases List.mem_cons.1 hz with rfl | hz
   ·exact SJ
   ·exact cr.1 z hz) (by simp;omega) ?_
  rintro r2 g2 y2 z2 ⟨fb,fi,fn,rfl,hfi⟩
  have ev:val 10000 (xs[j]::rs)=xs[j]+10000*R:=by simp only [val,vr]
  simp only [Bool.false_eq_true,if_false,ev] at z2
  obtain ⟨rw2,Cl,JR⟩:=z2
  injection Cl with Cl
  injection Cl with Cl
  simp only [List.cons.injEq,and_true] at Cl
  obtain ⟨_,rfl⟩:=Cl
  rw [Q1]
  have St:fQ g2 (sl 3 fi 0 fn) (xs[j]+10000*R):=by
   rw [natAbs_natCast] at JR
   exact JR
  have aGX:h4.length<fi:=by
   have h9:=(bL hq).1
   have h8:=y1.1
   omega
  simp only [ah]
  have hR':xs[j]+10000*R<10000*B:=by omega
  generalize hRR:xs[j]+10000*R=R' at St hR'
  have iS:EX h4 g2:=(xg.trans y1).trans y2
  refine dj (σ:=Nat×Nat×ae) (fun p=>[I p.1,I p.2.1]) (fun p=>p.2.2) (fun p=>p.1<p.2.1∧p.2.1≤10000∧EX g2 p.2.2∧p.1*B≤R'∧R'<p.2.1*B) (fun p=>p.2.1-p.1)
   (0,10000,g2) rfl rfl ⟨by show 0<10000;decide,le_refl _,EX.refl _,by simp,hR'⟩ ?_
  rintro ⟨lo,nv,g3⟩ ⟨hlh,hh,y3,eQ,jD⟩ L2 gj
  simp only at hlh hh y3 eQ jD gj⊢
  have rH:EX h4 g3:=iS.trans y3
  rw [aDk]
  have e7:IntKind.wrap .i64 ((nv:Int)-(lo:Int))=((nv-lo:Nat):Int):=by rw [wrap64 (by omega) (by omega)];omega
  have e8:IntKind.wrap .i64 ((lo:Int)+(nv:Int))=((lo+nv:Nat):Int):=by rw [wrap64 (by omega) (by omega)];omega
  simp only [gE,e7,ah,fG,bR]
  refine ⟨fun rY=>?_,fun hle=>?_⟩
  ·simp only [cf,e8,ah]
   rw [show (.int .i64 2:Value)=.int .i64 ((2:Nat):Int) from rfl,CQ (by decide) (by omega)]
   simp only [ah,bU,zero_add,Ax rH]
   have hm:(lo+nv) / 2≤10000:=by omega
   refine W8 ((hwB.mono x4).mono rH) (by omega) hm ?_
   intro r4 g4 y4 m4
   have B3:B*((lo+nv) / 2)<br:=by
    refine pN ?_
    have:=mul_le_mul_left B hm
    omega
   refine W7 (a:=B*((lo+nv) / 2)) (b:=R') m4 ((St.mono y3).mono y4) B3 (pN (by omega)) ?_
   simp only [Bz,ah,bR,true_and]
   generalize hmm:(lo+nv) / 2=mid at*
   have wm:lo<mid∧mid<nv:=by omega
   refine ⟨fun h0=>?_,fun h0=>?_⟩
   ·have:=ani.1 h0
    exact gj (mid,nv,g4) ⟨wm.2,hh,y3.trans y4,by show mid*B≤R';rw [mul_comm];exact this,jD⟩ (by show nv-mid<nv-lo;omega)
   ·have:¬B*mid≤R':=fun h9=>h0 (ani.2 h9)
    exact gj (lo,mid,g4) ⟨wm.1,by show mid≤10000;omega,y3.trans y4,eQ,by show R'<mid*B;rw [mul_comm];omega⟩ (by show mid-lo<nv-lo;omega)
  ·have hhl:nv=lo+1:=by omega
   subst hhl
   have hRl:R'<lo*B+B:=by rw [Nat.succ_mul] at jD;exact jD
   rw [aDl]
   have hq3:g3[h4.length]?=some (.arr 3 (qs.map fun d:Nat=>I d)):=by
    rw [←hq]
    have wh:=(bL hq).1
    rw [((y1.trans y2).trans y3).2 _ wh]
   have ad:bf 1 (sl 3 h4.length 0 xs.length) (I j)=some (pt h4.length j):=lP xT
   simp only [ad,ah]
   rw [oS hq3 (by simp;omega) rfl rfl]
   simp only [aA]
   have es:(qs.map fun d:Nat=>I d).set j (I lo)=(qs.set j lo).map fun d:Nat=>I d:=by rw [List.map_set]
   rw [es]
   have nG:EX h4 (g3.set h4.length (.arr 3 ((qs.set j lo).map fun d:Nat=>I d))):=rH.set (le_refl _) _
   have Se:(g3.set h4.length (.arr 3 ((qs.set j lo).map fun d:Nat=>I d)))[h4.length]?=some (.arr 3 ((qs.set j lo).map fun d:Nat=>I d)):=ck hq3
   -- gN rest aGO not lie there
   have afg:fQ (g3.set h4.length (.arr 3 ((qs.set j lo).map fun d:Nat=>I d))) (sl 3 fi 0 fn) R':=(St.mono y3).azP (by rw [getElem?_set_ne (by omega)])
   generalize g3.set h4.length (.arr 3 ((qs.set j lo).map fun d:Nat=>I d))=g5 at nG Se afg⊢
   simp only [bU,zero_add,Ax nG,ah]
   refine W8 ((hwB.mono x4).mono nG) (by omega) (by omega) ?_
   intro r6 g6 y6 m6
   obtain ⟨us,du,cu,vu⟩:=afg.mono y6
   obtain ⟨ts,dt,ct,vt⟩:=m6
   have axa:B*lo≤R':=by rw [mul_comm];exact eQ
   have lu:=rN cu (by rw [vu];exact pN (by omega))
   refine Mt du dt cu.1 ct.1 (by omega) ?_ (by rw [vu,vt];exact axa) ?_
   ·apply byContradiction
    intro hc
    have:=dE.AF (by decide) cu ct (by omega)
    omega
   intro r7 g7 os y7 d7 l7 s7 v7
   simp only [Hd d7,ah]
   refine yE d7 l7 (by omega) ?_
   intro r8 g8 y8 z8
   simp only [Bool.false_eq_true,if_false] at z8
   obtain ⟨rw8,rfl,ayi⟩:=z8
   rw [Q1]
   simp only [ah]
   have QF:IntKind.wrap .i64 ((j:Int)-1)=(j:Int)-1:=wrap64 (by omega) (by omega)
   simp only [aDm,gE,QF,ah,true_and]
   have axP:lo<10000:=by omega
   have hv7:val 10000 os=R' -B*lo:=by omega
   have ayj:fQ g8 rw8 (R' -B*lo):=by rw [←hv7];simpa using ayi
   have hBB:B*lo=lo*B:=mul_comm _ _
   refine hL (j,R' -B*lo,rw8,qs.set j lo,g8) ⟨by show j≤xs.length;omega,((nG.trans y6).trans y7).trans y8,?_,by rw [length_set];exact qP,Sg.set axP _,ayj,by show R' -B*lo<B;omega,?_⟩ (by show j<j+1;omega)
   ·have wh:=(bL Se).1
    show g8[h4.length]?=_
    rw [((y6.trans y7).trans y8).2 _ wh];exact Se
   ·show val 10000 ((qs.set j lo).drop j)*B+(R' -B*lo)=val 10000 (xs.drop j)
    have hd:(qs.set j lo).drop j=lo::qs.drop (j+1):=by
     rw [List.drop_eq_getElem_cons (by rw [length_set];omega),List.getElem_set_self]
     congr 1
     rw [List.drop_set_of_lt (by omega)]
    rw [hd,JU,←bW]
    simp only [val]
    have h1:(lo+10000*val 10000 (qs.drop (j+1)))*B=lo*B+10000*(val 10000 (qs.drop (j+1))*B):=by rw [add_mul,mul_assoc]
    rw [h1]
    omega
 ·have Ca:i=0:=by omega
  subst Ca
  simp only [List.drop_zero] at bW
  rw [aDn]
  have oQ:∀{g'},EX h4 g'→af false 1 g' (pt h.length 0)=some (Go.Sim.B (decide (a<0))):=fun y=>EX.load (x4.trans y) x.a0
  have dq:DS 3 .i64 g (sl 3 h4.length 0 xs.length) qs:=by
   rw [←qP]
   exact .inr ⟨h4.length,rfl,.inr ⟨[],by simp [aP,hq]⟩⟩
  simp only [bU,add_zero,oQ xg,ah,Px dq]
  refine yE dq Sg (by omega) ?_
  intro r1 g1 y1 z1
  generalize hQ:val 10000 qs=Q at z1 bW
  obtain ⟨rs,dr,cr,vr⟩:=hR.mono y1
  have lr:=rN cr (by rw [vr];exact pN (by omega))
  simp only [Hd dr,ah]
  refine yE dr cr.1 (by omega) ?_
  intro r2 g2 y2 z2
  simp only [Bool.false_eq_true,if_false,vr] at z2
  have z1:=z1.mono y2
  have iS:EX h4 g2:=(xg.trans y1).trans y2
  have p7:h3.length+1≤g2.length:=by have:=iS.1;omega
  obtain ⟨uq,rfl,gT⟩:=id z1
  obtain ⟨ur,rfl,qR⟩:=id z2
  have e3:∀g':ae,aV 35 [(.bool false),(.slice none 0 0)] g'=some (pt g'.length 0,g'++[.arr 35 [(.bool false),(.slice none 0 0)]]):=fun _=>rfl
  simp only [e3,aA,length_append,length_cons,length_nil,zero_add]
  have k0:(g2++[aj.arr 35 [(.bool false),(.slice none 0 0)]]++[aj.arr 35 [(.bool false),(.slice none 0 0)]])[g2.length]?=some (.arr 35 [(.bool false),(.slice none 0 0)]):=by simp
  have k1:(g2++[aj.arr 35 [(.bool false),(.slice none 0 0)]]++[aj.arr 35 [(.bool false),(.slice none 0 0)]])[g2.length+1]?=some (.arr 35 [(.bool false),(.slice none 0 0)]):=by simp
  have y3:EX g2 (g2++[aj.arr 35 [(.bool false),(.slice none 0 0)]]++[aj.arr 35 [(.bool false),(.slice none 0 0)]]):=(EX.append _ _).push _
  generalize g2++[aj.arr 35 [(.bool false),(.slice none 0 0)]]++[aj.arr 35 [(.bool false),(.slice none 0 0)]]=g3 at k0 k1 y3⊢
  rw [fD k0]
  simp only [aA]
  have y4:EX g2 (g3.set g2.length (.arr 35 [Go.Sim.B (decide ((if decide (a<0)=true then -(Q:Int) else (Q:Int))<0)),uq])):=y3.set (le_refl _) _
  have tH:=ck (o:=.arr 35 [Go.Sim.B (decide ((if decide (a<0)=true then -(Q:Int) else (Q:Int))<0)),uq]) k0
  have kY:(g3.set g2.length (.arr 35 [Go.Sim.B (decide ((if decide (a<0)=true then -(Q:Int) else (Q:Int))<0)),uq]))[g2.length+1]?=some (.arr 35 [(.bool false),(.slice none 0 0)]):=by rw [getElem?_set_ne (by omega)];exact k1
  generalize g3.set g2.length (.arr 35 [Go.Sim.B (decide ((if decide (a<0)=true then -(Q:Int) else (Q:Int))<0)),uq])=g4 at y4 tH kY⊢
  rw [fD kY]
  simp only [aA]
  have y5:EX g2 (g4.set (g2.length+1) (.arr 35 [Go.Sim.B (decide ((R:Int)<0)),ur])):=y4.set (by omega) _
  have m1:=ck (o:=.arr 35 [Go.Sim.B (decide ((R:Int)<0)),ur]) kY
  have m0:(g4.set (g2.length+1) (.arr 35 [Go.Sim.B (decide ((R:Int)<0)),ur]))[g2.length]?=some (.arr 35 [Go.Sim.B (decide ((if decide (a<0)=true then -(Q:Int) else (Q:Int))<0)),uq]):=by rw [getElem?_set_ne (by omega)];exact tH
  generalize g4.set (g2.length+1) (.arr 35 [Go.Sim.B (decide ((R:Int)<0)),ur])=sY at y5 m0 m1⊢
  have nG:EX h4 sY:=iS.trans y5
  have Mm:EX h sY:=(x.ex.trans x4).trans nG
  have o4:=nG.get (x4.get x.out)
  have o5:=nG.get g5
  have zq:=z1.mono y5
  have zr:=z2.mono y5
  have zb:ZV sY (.agg #[Go.Sim.B (decide ((B:Int)<0)),w]) (B:Int):=⟨w,rfl,(hw.mono x.ex).mono (x4.trans nG)⟩
  have hQv:Q*B+R=a.natAbs:=by rw [bW,ex]
  -- gN two results
  have put:∀(r s:Value) (g6:ae),EX sY g6→ZV g6 r (a / (B:Int))→ZV g6 s (a%(B:Int))→OH (aF 2 g6 (pt (h.length+2) 0) r) fun _ h_1=>OH (aF 2 h_1 (pt h3.length 0) s) fun _ h_2=>OP (af true 2 h_2 (pt (h.length+2) 0)) fun r0=>OP (af true 2 h_2 (pt h3.length 0)) fun r1=>K (.tuple #[r0,r1]) h_2:=by
   rintro r s g6 y6 Gq Mr
   obtain ⟨u1,rfl,hu1⟩:=id Gq
   obtain ⟨u2,rfl,qj⟩:=id Mr
   have n4:=y6.get o4
   have n5:=y6.get o5
   rw [fD n4]
   simp only [aA]
   have Ks:(g6.set (h.length+2) (.arr 35 [Go.Sim.B (decide (a / (B:Int)<0)),u1]))[h3.length]?=some (.arr 35 [.bool false,.slice none 0 0]):=by rw [getElem?_set_ne (by omega)];exact n5
   rw [fD Ks]
   simp only [aA]
   have p4:((g6.set (h.length+2) (.arr 35 [Go.Sim.B (decide (a / (B:Int)<0)),u1])).set h3.length (.arr 35 [Go.Sim.B (decide (a%(B:Int)<0)),u2]))[h.length+2]?=some (.arr 35 [Go.Sim.B (decide (a / (B:Int)<0)),u1]):=by
    rw [getElem?_set_ne (by omega)];exact ck n4
   rw [cO p4,ah,cO (ck Ks),ah]
   exact hk _ _ _ (((Mm.trans y6).set (by omega) _).set (by omega) _) ((Gq.bM n4 _).bM Ks _) ((Mr.bM n4 _).bM Ks _)
  have axb:(0:Int)<(B:Int):=by omega
  have un:∀q r:Int,r+(B:Int)*q=a→0≤r→r<(B:Int)→a / (B:Int)=q∧a%(B:Int)=r:=fun q r h1 h2 h3=>(Int.ediv_emod_unique axb).2 ⟨h1,h2,h3⟩
  have Rn:((Q*B:Nat):Int)=(B:Int)*(Q:Int):=by rw [Int.natCast_mul,Int.mul_comm]
  -- nothing to be aHL
  have plain:(0≤a∨R=0)→FO prog K (pt (h.length+1) 0) (pt (h.length+2) 0) (pt h3.length 0) (pt g2.length 0) (pt (g2.length+1) 0) (Go.Sim.B false) undef sY∧FO prog K (pt (h.length+1) 0) (pt (h.length+2) 0) (pt h3.length 0) (pt g2.length 0) (pt (g2.length+1) 0) (Go.Sim.B true) (Go.Sim.B false) sY:=by
   intro hc
   have EW:a / (B:Int)=(if decide (a<0)=true then -(Q:Int) else (Q:Int))∧a%(B:Int)=(R:Int):=by
    by_cases gG:a<0
    ·have hR0:R=0:=by omega
     rw [aU gG,if_pos rfl]
     refine un _ _ ?_ (by omega) (by omega)
     rw [Int.mul_neg,←Rn]
     omega
    ·rw [aS gG,if_neg (by simp)]
     refine un _ _ ?_ (by omega) (by omega)
     rw [←Rn]
     omega
   have tail:OP (af true 2 sY (pt g2.length 0)) fun oV=>OP (af true 2 sY (pt (g2.length+1) 0)) fun iy=>OH (aF 2 sY (pt (h.length+2) 0) oV) fun _ h_1=>(af true 2 h_1 (pt (g2.length+1) 0)=some iy)∧OH (aF 2 h_1 (pt h3.length 0) iy) fun _ h_2=>OP (af true 2 h_2 (pt (h.length+2) 0)) fun r0=>OP (af true 2 h_2 (pt h3.length 0)) fun r1=>K (.tuple #[r0,r1]) h_2:=by
    have:=put _ _ sY (EX.refl _) (by rw [EW.1];exact zq) (by rw [EW.2];exact zr)
    rw [cO m0,ah,cO m1,ah]
    rw [fD o4] at this⊢
    simp only [aA] at this⊢
    refine ⟨?_,this⟩
    refine cO (e:=35) ?_
    rw [getElem?_set_ne (by omega)]
    exact m1
   constructor
   ·rw [VE]
    simp only [cK,ah,dF,true_and,and_true]
    exact tail
   ·rw [VE]
    simp only [dZ,ah,dF,true_and,and_true]
    exact tail
  have Tk:af false 1 sY (pt (g2.length+1) 1)=some ur:=by simp [af,aP,m1,b9]
  obtain ⟨l,p1,p2⟩:=(qR.mono y5).qo
  have p2':0<l↔0<R:=by simpa using p2
  simp only [oQ nG,ah,aDo]
  by_cases gG:a<0
  ·rw [aU gG]
   simp only [jm,bU,Nat.add_comm 0 1,Tk,ah,p1,fG]
   by_cases hR0:R=0
   ·rw [aS (by omega)]
    exact (plain (.inr hR0)).2
   ·rw [aU (by omega),VE]
    have aGV:a.natAbs<br:=pN (by omega)
    have aGT:Q≤a.natAbs:=by
     have:Q*1≤Q*B:=mul_le_mul_left _ hB0
     omega
    have EN:(1:Int).natAbs<br:=agw (by decide+kernel)
    simp only [dZ,ah,c8,cO m0,true_and]
    refine vC (z:=1) (by decide) ?_
    intro r6 g6 y6 z6
    refine ⟨⟨EX.load y6 (cO m0),trivial⟩,?_⟩
    have Ff:∀{g'},EX h4 g'→af true 2 g' (pt (h.length+1) 0)=some (.agg #[Go.Sim.B (decide ((B:Int)<0)),w]):=fun y=>EX.load (x4.trans y) x.b2
    refine MH (zq.mono y6) z6 (by rw [aU gG,if_pos rfl];omega) EN ?_
    intro r7 g7 y7 z7
    have xg7:=(nG.trans y6).trans y7
    simp only [Ff nG,Ff (nG.trans y6),Ff xg7,ah,cO m1,EX.load y6 (cO m1),EX.load (y6.trans y7) (cO m1),true_and,and_true]
    refine MH (zb.mono (y6.trans y7)) (zr.mono (y6.trans y7)) (by have:=pN (n:=B) (by omega);simpa using this) (by have:=pN (n:=R) (by omega);simpa using this) ?_
    intro r8 g8 y8 z8
    have EW:=un (-(Q:Int)-1) ((B:Int)-(R:Int)) (by
     rw [Int.mul_sub,Int.mul_neg,←Rn,Int.mul_one]
     omega) (by omega) (by omega)
    rw [aU gG,if_pos rfl] at z7
    exact put _ _ g8 ((y6.trans y7).trans y8) (by rw [EW.1];exact z7.mono y8) (by rw [EW.2];exact z8)
  ·rw [aS gG]
   simp only [kL]
   exact (plain (.inl (by omega))).1
end
section
theorem MI {va:Value} {a:Int} {h:ae} {K:Value→ae→Prop} (ha:ZV h va a) (hk:∀u h',EX h h'→fQ h' u a.natAbs→K (.agg #[B false,u]) h'):ak prog 94 [va] h K:=by
 obtain ⟨v,rfl,hv⟩:=ha
 refine f94 ?_
 have e1:bm 35 h (.agg #[B (decide (a<0)),v])=some (pt h.length 0,h++[.arr 35 [B (decide (a<0)),v]]):=rfl
 have e2:∀g':ae,aV 35 [(.bool false),(.slice none 0 0)] g'=some (pt g'.length 0,g'++[.arr 35 [(.bool false),(.slice none 0 0)]]):=fun _=>rfl
 simp only [O8,e1,e2,aA,length_append,length_cons,length_nil,zero_add]
 have k0:(h++[aj.arr 35 [B (decide (a<0)),v]]++[aj.arr 35 [(.bool false),(.slice none 0 0)]])[h.length]?=some (.arr 35 [B (decide (a<0)),v]):=by simp
 have k1:(h++[aj.arr 35 [B (decide (a<0)),v]]++[aj.arr 35 [(.bool false),(.slice none 0 0)]])[h.length+1]?=some (.arr 35 [(.bool false),(.slice none 0 0)]):=by simp
 have x1:EX h (h++[aj.arr 35 [B (decide (a<0)),v]]++[aj.arr 35 [(.bool false),(.slice none 0 0)]]):=(EX.append _ _).push _
 generalize h++[aj.arr 35 [B (decide (a<0)),v]]++[aj.arr 35 [(.bool false),(.slice none 0 0)]]=h1 at k0 k1 x1⊢
 simp only [bU,add_zero,ah]
 rw [oS k0 (by simp) rfl rfl]
 simp only [aA,List.set_cons_zero]
 have kY:(h1.set h.length (.arr 35 [B false,v]))[h.length+1]?=some (.arr 35 [(.bool false),(.slice none 0 0)]):=by rw [getElem?_set_ne (by omega)];exact k1
 rw [cO (ck k0)]
 simp only [ah]
 exact zi kY (hk _ _ ((x1.set (le_refl _) _).set (by omega) _) (((hv.mono x1).bM k0 _).bM kY _))
theorem XC {va vb:Value} {a b:Int} {h:ae} {K:Value→ae→Prop} (ha:ZV h va a) (hb:ZV h vb b) (la:a.natAbs<10000^199) (lb:b.natAbs<10000^199)
  (hk:∀u h',EX h h'→fQ h' u (gcd a.natAbs b.natAbs)→K (.agg #[B false,u]) h'):ak prog 68 [va,vb] h K:=by
 have oH:=ha
 have pn:=hb
 obtain ⟨v,rfl,hv⟩:=ha
 obtain ⟨w,rfl,hw⟩:=hb
 refine f68 ?_
 have e1:∀(g:ae) (s:Bool) (v:Value),bm 35 g (.agg #[B s,v])=some (pt g.length 0,g++[.arr 35 [B s,v]]):=fun _ _ _=>rfl
 have e2:∀g':ae,aV 35 [(.bool false),(.slice none 0 0)] g'=some (pt g'.length 0,g'++[.arr 35 [(.bool false),(.slice none 0 0)]]):=fun _=>rfl
 simp only [OM,e1,e2,aA,length_append,length_cons,length_nil,zero_add]
 have k0:(h++[aj.arr 35 [B (decide (a<0)),v]]++[aj.arr 35 [B (decide (b<0)),w]]++[aj.arr 35 [(.bool false),(.slice none 0 0)]])[h.length]?=some (.arr 35 [B (decide (a<0)),v]):=by simp
 have k1:(h++[aj.arr 35 [B (decide (a<0)),v]]++[aj.arr 35 [B (decide (b<0)),w]]++[aj.arr 35 [(.bool false),(.slice none 0 0)]])[h.length+1]?=some (.arr 35 [B (decide (b<0)),w]):=by simp
 have k2:(h++[aj.arr 35 [B (decide (a<0)),v]]++[aj.arr 35 [B (decide (b<0)),w]]++[aj.arr 35 [(.bool false),(.slice none 0 0)]])[h.length+2]?=some (.arr 35 [(.bool false),(.slice none 0 0)]):=by simp
 have x1:EX h (h++[aj.arr 35 [B (decide (a<0)),v]]++[aj.arr 35 [B (decide (b<0)),w]]++[aj.arr 35 [(.bool false),(.slice none 0 0)]]):=((EX.append _ _).push _).push _
 generalize h++[aj.arr 35 [B (decide (a<0)),v]]++[aj.arr 35 [B (decide (b<0)),w]]++[aj.arr 35 [(.bool false),(.slice none 0 0)]]=h1 at k0 k1 k2 x1⊢
 rw [cO k0]
 simp only [ah,true_and]
 refine MI (oH.mono x1) ?_
 intro u2 h2 x2 m2
 simp only [cO k1,EX.load x2 (cO k1),ah,true_and]
 refine MI (pn.mono (x1.trans x2)) ?_
 intro u3 h3 x3 m3
 have tH:=(x2.trans x3).get k0
 have kY:=(x2.trans x3).get k1
 have Fc:=(x2.trans x3).get k2
 have aB:=(x1.trans x2).trans x3
 have m2:=m2.mono x3
 rw [fD tH]
 simp only [aA]
 have q1:(h3.set h.length (.arr 35 [B false,u2]))[h.length+1]?=some (.arr 35 [B (decide (b<0)),w]):=by rw [getElem?_set_ne (by omega)];exact kY
 rw [fD q1]
 simp only [aA]
 refine dj (σ:=Nat×Nat×Value×Value×ae) (fun _=>[]) (fun p=>p.2.2.2.2)
  (fun p=>EX h p.2.2.2.2∧p.2.2.2.2[h.length]?=some (.arr 35 [B false,p.2.2.1])∧p.2.2.2.2[h.length+1]?=some (.arr 35 [B false,p.2.2.2.1])∧p.2.2.2.2[h.length+2]?=some (.arr 35 [.bool false,.slice none 0 0])∧fQ p.2.2.2.2 p.2.2.1 p.1∧fQ p.2.2.2.2 p.2.2.2.1 p.2.1∧p.1<10000^199∧p.2.1<10000^199∧gcd p.1 p.2.1=gcd a.natAbs b.natAbs) (fun p=>p.2.1)
  (a.natAbs,b.natAbs,u2,u3,(h3.set h.length (.arr 35 [B false,u2])).set (h.length+1) (.arr 35 [B false,u3])) rfl rfl
  ⟨(aB.set (le_refl _) _).set (by omega) _,by rw [getElem?_set_ne (by omega)];exact ck tH,ck q1,by rw [getElem?_set_ne (by omega),getElem?_set_ne (by omega)];exact Fc,(m2.bM tH _).bM q1 _,(m3.bM tH _).bM q1 _,la,lb,rfl⟩ ?_
 rintro ⟨x,y,ux,uy,g⟩ ⟨xg,j0,j1,j2,mx,my,lx,ly,hg⟩ L hL
 simp only at xg j0 j1 j2 mx my lx ly hg hL⊢
 rw [aDj]
 obtain ⟨l,p1,p2⟩:=my.qo
 have ld:af false 1 g (pt (h.length+1) 1)=some uy:=by simp [af,aP,j1,b9]
 simp only [bU,zero_add,ld,ah,p1,fG,bR]
 refine ⟨fun rY=>?_,fun hle=>?_⟩
 ·have hy:0<y:=p2.1 (by omega)
  rw [cO j0,ah,cO j1,ah]
  refine MC mx.Gd my.Gd (by omega) (by simpa using lx) (by simpa using ly) ?_
  intro r s g1 y1 zr zs
  obtain ⟨u5,rfl,hu5⟩:=id zr
  obtain ⟨u6,hs6,hu6⟩:=id zs
  have hY:decide ((x:Int)%(y:Int)<0)=false:=aS (by have:=Int.emod_nonneg (x:Int) (show (y:Int)≠0 by omega);omega)
  rw [hY] at hs6
  subst hs6
  have hmv:((x:Int)%(y:Int)).natAbs=x%y:=by
   rw [←Int.natCast_emod,natAbs_natCast]
  rw [hmv] at hu6
  have gl:h.length+2<g1.length:=by
   have:=(bL j2).1
   have:=y1.1
   omega
  simp only [dX,eD,eI,ah,e2,aA,length_append,length_cons,length_nil,zero_add]
  have n0:(g1++[aj.arr 35 [(.bool false),(.slice none 0 0)]]++[aj.arr 35 [(.bool false),(.slice none 0 0)]])[g1.length]?=some (.arr 35 [(.bool false),(.slice none 0 0)]):=by simp
  have n1:(g1++[aj.arr 35 [(.bool false),(.slice none 0 0)]]++[aj.arr 35 [(.bool false),(.slice none 0 0)]])[g1.length+1]?=some (.arr 35 [(.bool false),(.slice none 0 0)]):=by simp
  have y2:EX g1 (g1++[aj.arr 35 [(.bool false),(.slice none 0 0)]]++[aj.arr 35 [(.bool false),(.slice none 0 0)]]):=(EX.append _ _).push _
  generalize g1++[aj.arr 35 [(.bool false),(.slice none 0 0)]]++[aj.arr 35 [(.bool false),(.slice none 0 0)]]=g2 at n0 n1 y2⊢
  rw [fD n0]
  simp only [aA]
  have Kr:(g2.set g1.length (.arr 35 [B (decide ((x:Int) / (y:Int)<0)),u5]))[g1.length+1]?=some (.arr 35 [(.bool false),(.slice none 0 0)]):=by rw [getElem?_set_ne (by omega)];exact n1
  rw [fD Kr]
  simp only [aA]
  have y3:EX g1 ((g2.set g1.length (.arr 35 [B (decide ((x:Int) / (y:Int)<0)),u5])).set (g1.length+1) (.arr 35 [B false,u6])):=(y2.set (le_refl _) _).set (by omega) _
  have n6:=ck (o:=.arr 35 [B false,u6]) Kr
  generalize (g2.set g1.length (.arr 35 [B (decide ((x:Int) / (y:Int)<0)),u5])).set (g1.length+1) (.arr 35 [B false,u6])=g3 at y3 n6⊢
  have i0:=(y1.trans y3).get j0
  have i1:=(y1.trans y3).get j1
  have i2:=(y1.trans y3).get j2
  rw [cO i1]
  simp only [ah,true_and,cO n6]
  rw [fD i0]
  simp only [aA,and_true]
  have s6:(g3.set h.length (.arr 35 [B false,uy]))[g1.length+1]?=some (.arr 35 [B false,u6]):=by rw [getElem?_set_ne (by omega)];exact n6
  have s1:(g3.set h.length (.arr 35 [B false,uy]))[h.length+1]?=some (.arr 35 [B false,uy]):=by rw [getElem?_set_ne (by omega)];exact i1
  refine ⟨cO s6,?_⟩
  rw [fD s1]
  simp only [aA]
  have aD:x%y<y:=mod_lt _ hy
  refine hL (y,x%y,uy,u6,(g3.set h.length (.arr 35 [B false,uy])).set (h.length+1) (.arr 35 [B false,u6])) ⟨(((xg.trans y1).trans y3).set (le_refl _) _).set (by omega) _,?_,ck s1,?_,(((my.mono y1).mono y3).bM i0 _).bM s1 _,(((hu6.mono y3)).bM i0 _).bM s1 _,ly,by show x%y<_;omega,?_⟩ aD
  ·show ((g3.set h.length _).set (h.length+1) _)[h.length]?=_
   rw [getElem?_set_ne (by omega)];exact ck i0
  ·show ((g3.set h.length _).set (h.length+1) _)[h.length+2]?=_
   rw [getElem?_set_ne (by omega),getElem?_set_ne (by omega)];exact i2
  ·show gcd y (x%y)=_
   rw [←hg,Nat.gcd_comm x y,Nat.gcd_rec y x,Nat.gcd_comm]
 ·have hy:y=0:=by
   apply byContradiction
   intro hc
   have:=p2.2 (by omega)
   omega
  subst hy
  rw [aDi,cO j0]
  simp only [ah]
  rw [Nat.gcd_zero_right] at hg
  subst hg
  exact zi j2 (hk _ _ (xg.set (by omega) _) (mx.bM j2 _))
theorem Mw {va:Value} {a b:Int} {h:ae} {K:Value→ae→Prop} (ha:QZ h va a b) (hb:0<b) (la:a.natAbs<10000^199) (lb:b.natAbs<10000^199)
  (hk:∀r h',EX h h'→QZ h' r (a / (gcd a.natAbs b.natAbs:Int)) (b / (gcd a.natAbs b.natAbs:Int))→K r h'):ak prog 25 [va] h K:=by
 obtain ⟨u,w,rfl,hu,hw⟩:=ha
 refine f25 ?_
 have e1:bm 37 h (.agg #[B (decide (a<0)),u,B (decide (b<0)),w])=some (pt h.length 0,h++[.arr 37 [B (decide (a<0)),u,B (decide (b<0)),w]]):=rfl
 have e2:∀g':ae,aV 35 [(.bool false),(.slice none 0 0)] g'=some (pt g'.length 0,g'++[.arr 35 [(.bool false),(.slice none 0 0)]]):=fun _=>rfl
 have e4:∀g':ae,aV 37 [(.bool false),(.slice none 0 0),(.bool false),(.slice none 0 0)] g'=some (pt g'.length 0,g'++[.arr 37 z4]):=fun _=>rfl
 simp only [On,e1,e4,aA,length_append,length_cons,length_nil,zero_add]
 have k0:(h++[aj.arr 37 [B (decide (a<0)),u,B (decide (b<0)),w]]++[aj.arr 37 z4])[h.length]?=some (.arr 37 [B (decide (a<0)),u,B (decide (b<0)),w]):=by simp
 have k1:(h++[aj.arr 37 [B (decide (a<0)),u,B (decide (b<0)),w]]++[aj.arr 37 z4])[h.length+1]?=some (.arr 37 z4):=by simp
 have x1:EX h (h++[aj.arr 37 [B (decide (a<0)),u,B (decide (b<0)),w]]++[aj.arr 37 z4]):=(EX.append _ _).push _
 generalize h++[aj.arr 37 [B (decide (a<0)),u,B (decide (b<0)),w]]++[aj.arr 37 z4]=h1 at k0 k1 x1⊢
 have za:ZV h1 (.agg #[B (decide (a<0)),u]) a:=⟨u,rfl,hu.mono x1⟩
 have zb:ZV h1 (.agg #[B (decide (b<0)),w]) b:=⟨w,rfl,hw.mono x1⟩
 simp only [bU,add_zero,zero_add,jR k0,kZ k0,ah]
 refine XC za zb la lb ?_
 intro ug h2 x2 mg
 have axu:0<gcd a.natAbs b.natAbs:=Nat.gcd_pos_of_pos_right _ (by omega)
 have RG:gcd a.natAbs b.natAbs≤b.natAbs:=Nat.le_of_dvd (by omega) (Nat.gcd_dvd_right _ _)
 generalize gcd a.natAbs b.natAbs=g at mg axu RG hk
 have zg:=mg.Gd
 simp only [e2,aA]
 rw [fD bn]
 simp only [aA]
 have x3:EX h2 ((h2++[aj.arr 35 [(.bool false),(.slice none 0 0)]]).set h2.length (.arr 35 [B false,ug])):=EX.set (EX.append _ _) (le_refl _) _
 have k3:((h2++[aj.arr 35 [(.bool false),(.slice none 0 0)]]).set h2.length (.arr 35 [B false,ug]))[h2.length]?=some (.arr 35 [B false,ug]):=ck bn
 generalize (h2++[aj.arr 35 [(.bool false),(.slice none 0 0)]]).set h2.length (.arr 35 [B false,ug])=h3 at x3 k3⊢
 have aB:=x2.trans x3
 simp only [EX.load aB (jR k0),cO k3,ah]
 have lg:((g:Nat):Int).natAbs<10000^199:=by rw [natAbs_natCast];omega
 refine MC (za.mono aB) (zg.mono x3) (by omega) la lg ?_
 intro r s h4 x4 zr zs
 obtain ⟨ur,rfl,hur⟩:=id zr
 obtain ⟨us,rfl,Co⟩:=id zs
 simp only [dX,eD,eI,ah,length_append,length_cons,length_nil,zero_add]
 have n0:(h4++[aj.arr 35 [(.bool false),(.slice none 0 0)]]++[aj.arr 35 [(.bool false),(.slice none 0 0)]])[h4.length]?=some (.arr 35 [(.bool false),(.slice none 0 0)]):=by simp
 have n1:(h4++[aj.arr 35 [(.bool false),(.slice none 0 0)]]++[aj.arr 35 [(.bool false),(.slice none 0 0)]])[h4.length+1]?=some (.arr 35 [(.bool false),(.slice none 0 0)]):=by simp
 have y2:EX h4 (h4++[aj.arr 35 [(.bool false),(.slice none 0 0)]]++[aj.arr 35 [(.bool false),(.slice none 0 0)]]):=(EX.append _ _).push _
 generalize h4++[aj.arr 35 [(.bool false),(.slice none 0 0)]]++[aj.arr 35 [(.bool false),(.slice none 0 0)]]=h5 at n0 n1 y2⊢
 rw [fD n0]
 simp only [aA]
 have Kr:(h5.set h4.length (.arr 35 [B (decide (a / (g:Int)<0)),ur]))[h4.length+1]?=some (.arr 35 [(.bool false),(.slice none 0 0)]):=by rw [getElem?_set_ne (by omega)];exact n1
 rw [fD Kr]
 simp only [aA]
 have y3:EX h4 ((h5.set h4.length (.arr 35 [B (decide (a / (g:Int)<0)),ur])).set (h4.length+1) (.arr 35 [B (decide (a%(g:Int)<0)),us])):=(y2.set (le_refl _) _).set (by omega) _
 have n0':((h5.set h4.length (.arr 35 [B (decide (a / (g:Int)<0)),ur])).set (h4.length+1) (.arr 35 [B (decide (a%(g:Int)<0)),us]))[h4.length]?=some (.arr 35 [B (decide (a / (g:Int)<0)),ur]):=by rw [getElem?_set_ne (by omega)];exact ck n0
 generalize (h5.set h4.length (.arr 35 [B (decide (a / (g:Int)<0)),ur])).set (h4.length+1) (.arr 35 [B (decide (a%(g:Int)<0)),us])=h6 at y3 n0'⊢
 have bk:=(aB.trans x4).trans y3
 have cX:=x4.trans y3
 simp only [EX.load bk (kZ k0),EX.load cX (cO k3),ah]
 refine MC (zb.mono bk) (zg.mono (x3.trans cX)) (by omega) lb lg ?_
 intro r' s' h7 x7 Gq Mr
 obtain ⟨Gf,rfl,aHe⟩:=id Gq
 obtain ⟨L6,rfl,aHf⟩:=id Mr
 simp only [dX,eD,eI,ah]
 have m0:(h7++[aj.arr 35 [(.bool false),(.slice none 0 0)]]++[aj.arr 35 [(.bool false),(.slice none 0 0)]])[h7.length]?=some (.arr 35 [(.bool false),(.slice none 0 0)]):=by simp
 have m1:(h7++[aj.arr 35 [(.bool false),(.slice none 0 0)]]++[aj.arr 35 [(.bool false),(.slice none 0 0)]])[h7.length+1]?=some (.arr 35 [(.bool false),(.slice none 0 0)]):=by simp
 have w2:EX h7 (h7++[aj.arr 35 [(.bool false),(.slice none 0 0)]]++[aj.arr 35 [(.bool false),(.slice none 0 0)]]):=(EX.append _ _).push _
 generalize h7++[aj.arr 35 [(.bool false),(.slice none 0 0)]]++[aj.arr 35 [(.bool false),(.slice none 0 0)]]=h8 at m0 m1 w2⊢
 rw [fD m0]
 simp only [aA]
 have Kj:(h8.set h7.length (.arr 35 [B (decide (b / (g:Int)<0)),Gf]))[h7.length+1]?=some (.arr 35 [(.bool false),(.slice none 0 0)]):=by rw [getElem?_set_ne (by omega)];exact m1
 rw [fD Kj]
 simp only [aA]
 have w3:EX h7 ((h8.set h7.length (.arr 35 [B (decide (b / (g:Int)<0)),Gf])).set (h7.length+1) (.arr 35 [B (decide (b%(g:Int)<0)),L6])):=(w2.set (le_refl _) _).set (by omega) _
 have m0':((h8.set h7.length (.arr 35 [B (decide (b / (g:Int)<0)),Gf])).set (h7.length+1) (.arr 35 [B (decide (b%(g:Int)<0)),L6]))[h7.length]?=some (.arr 35 [B (decide (b / (g:Int)<0)),Gf]):=by rw [getElem?_set_ne (by omega)];exact ck m0
 generalize (h8.set h7.length (.arr 35 [B (decide (b / (g:Int)<0)),Gf])).set (h7.length+1) (.arr 35 [B (decide (b%(g:Int)<0)),L6])=h9 at w3 m0'⊢
 have fX:=x7.trans w3
 rw [EX.load fX (cO n0'),ah,cO m0',ah]
 exact BK (zr.mono (y3.trans fX)) (Gq.mono w3) (x1.trans (bk.trans fX)) (by omega) ((bk.trans fX).get k1) hk
theorem avs {s:List UInt8} {n:Nat} (hd:kA s) (hv:dQ s=n) (hn:0<n) (hh:s.head?≠some 48):s=cI n:=by
 have e1:((s.reverse.map fun c:UInt8=>c.toNat-48).map jr).reverse=s:=by
  rw [List.map_map]
  have:s.reverse.map (jr ∘ fun c:UInt8=>c.toNat-48)=s.reverse:=by
   conv=>rhs;rw [←List.map_id s.reverse]
   apply List.map_congr_left
   intro c hc
   have h1:=hd c (by simpa using hc)
   apply UInt8.toNat_inj.1
   simp only [Function.comp,id]
   rw [vN (by omega)]
   omega
  rw [this,List.reverse_reverse]
 have fB:cn 10 (s.reverse.map fun c:UInt8=>c.toNat-48):=by
  intro x hx
  obtain ⟨c,hc,rfl⟩:=List.mem_map.1 hx
  have h1:=hd c (by simpa using hc)
  omega
 have bW:val 10 (s.reverse.map fun c:UInt8=>c.toNat-48)=n:=by
  rw [←WG fB,e1,hv]
 have zC:dE 10 (s.reverse.map fun c:UInt8=>c.toNat-48):=by
  refine ⟨fB,?_⟩
  rw [List.getLast?_map,List.getLast?_reverse]
  intro hc
  cases hs:s.head? with
  | none=>rw [hs] at hc;cases hc
  | some c=>
   rw [hs] at hc
   have Rq:c.toNat-48=0:=by simpa using hc
   have se:c∈s:=List.mem_of_mem_head? hs
   have h1:=hd c se
   apply hh
   rw [hs]
   congr 1
   apply UInt8.toNat_inj.1
   show c.toNat=48
   omega
 obtain ⟨d1,d2⟩:=IH n
 have:=dE.unique (by decide) zC d1 (by rw [bW,d2])
 unfold cI
 rw [if_neg (by omega),←this,e1]
end
section
/-- Four digits. -/
def four (d:Nat):List UInt8:=[jr (d / 1000),jr (d / 100%10),jr (d / 10%10),jr (d%10)]
theorem awV {d:Nat} (hd:d<10000):kA (four d)∧dQ (four d)=d:=by
 have h1:=vN (d:=d / 1000) (by omega)
 have h2:=vN (d:=d / 100%10) (by omega)
 have h3:=vN (d:=d / 10%10) (by omega)
 have h4:=vN (d:=d%10) (by omega)
 constructor
 ·intro c hc
  simp only [four,List.mem_cons,List.not_mem_nil,or_false] at hc
  rcases hc with rfl | rfl | rfl | rfl <;> omega
 ·simp only [four,L8,h1,h2,h3,h4,length_cons,length_nil]
  simp only [dQ,List.foldl_nil]
  omega
theorem XI {va:Value} {n:Nat} {h:ae} {K:Value→ae→Prop} (ha:ZV h va n) (hn:n<br) (hk:∀h',EX h h'→K (S (cI n)) h'):ak prog 93 [va] h K:=by
 obtain ⟨v,rfl,hv⟩:=ha
 rw [natAbs_natCast] at hv
 refine f93 ?_
 have e1:bm 35 h (.agg #[B (decide ((n:Int)<0)),v])=some (pt h.length 0,h++[.arr 35 [B (decide ((n:Int)<0)),v]]):=rfl
 simp only [O7,e1,aA]
 have x1:EX h (h++[aj.arr 35 [B (decide ((n:Int)<0)),v]]):=EX.append _ _
 have ld:af false 1 (h++[aj.arr 35 [B (decide ((n:Int)<0)),v]]) (pt h.length 1)=some v:=mV rfl
 generalize h++[aj.arr 35 [B (decide ((n:Int)<0)),v]]=h1 at x1 ld⊢
 obtain ⟨xs,dx,cx,vx⟩:=hv.mono x1
 have lx:=rN cx (by rw [vx];exact hn)
 simp only [bU,zero_add,ld,ah,dx.len,iT,bR]
 refine ⟨fun h0=>?_,fun bp=>?_⟩
 ·have:xs=[]:=List.length_eq_zero_iff.1 (by omega)
  subst this
  have oK:n=0:=vx.symm
  subst oK
  exact hk _ x1
 ·have yf:0<xs.length:=by omega
  have axT:0<n:=by
   apply byContradiction
   intro hc
   have:=dE.zero (by decide) cx (by omega)
   rw [this] at yf
   simp at yf
  have e2:IntKind.wrap .i64 ((xs.length:Int)-1)=(xs.length:Int)-1:=wrap64 (by omega) (by omega)
  simp only [gE,e2,ah]
  refine dj (σ:=Nat×List UInt8×ae) (fun p=>[S p.2.1,I ((p.1:Int)-1)]) (fun p=>p.2.2)
   (fun p=>p.1≤xs.length∧EX h1 p.2.2∧kA p.2.1∧dQ p.2.1=val 10000 (xs.drop p.1)∧p.2.1.length=4*(xs.length-p.1)) (fun p=>p.1)
   (xs.length,[],h1) rfl rfl ⟨le_refl _,EX.refl _,fun c hc=>by simp at hc,by simp [dQ,val],by simp⟩ ?_
  rintro ⟨i,s,g⟩ ⟨hi,xg,hd,uI,qV⟩ L hL
  simp only at hi xg hd uI qV hL⊢
  rw [aEe]
  simp only [nk,ah,bR]
  refine ⟨fun cJ=>?_,fun aD=>?_⟩
  ·obtain ⟨j,rfl⟩:∃j,i=j+1:=⟨i-1,by omega⟩
   have ej:((j+1:Nat):Int)-1=(j:Int):=by omega
   have xT:j<xs.length:=by omega
   obtain ⟨ia,a1,a2⟩:=(dx.mono xg).get xT
   have hd4:xs[j]<10000:=cx.1 _ (getElem_mem xT)
   have JU:=anJ 10000 xs xT
   rw [ej]
   generalize xP:xs[j]=d at a2 hd4 JU
   simp only [bU,zero_add,EX.load xg ld,ah,a1,a2]
   rw [show (.int .i64 1000:Value)=.int .i64 ((1000:Nat):Int) from rfl,show (.int .i64 100:Value)=.int .i64 ((100:Nat):Int) from rfl,show (.int .i64 10:Value)=.int .i64 ((10:Nat):Int) from rfl]
   rw [CQ (by decide) (by omega),CQ (b:=100) (by decide) (by omega),CQ (b:=10) (by decide) (by omega)]
   simp only [ah]
   rw [AX _ _ _ (by decide),AX _ _ _ (by decide),AX _ _ _ (by decide)]
   have w:∀q:Nat,q<10→IntKind.wrap .i64 (48+(q:Int))=((48+q:Nat):Int):=fun q hq=>by rw [wrap64 (by omega) (by omega)];omega
   have w8:∀q:Nat,q<10→IntKind.wrap .u8 ((48+q:Nat):Int)=((48+q:Nat):Int):=fun q hq=>anO (by omega) (by omega)
   simp only [ah,cf,jY,w _ (show d / 1000<10 by omega),w8 _ (show d / 1000<10 by omega),w _ (show d / 100%10<10 by omega),w8 _ (show d / 100%10<10 by omega),w _ (show d / 10%10<10 by omega),w8 _ (show d / 10%10<10 by omega),w _ (show d%10<10 by omega),w8 _ (show d%10<10 by omega)]
   rw [D6 (show d / 1000<10 by omega),D6 (show d / 100%10<10 by omega),D6 (show d / 10%10<10 by omega),D6 (show d%10<10 by omega)]
   have mk:dK 5 4 [.int .u8 0] g [(0,1,cv (jr (d / 1000))),(1,1,cv (jr (d / 100%10))),(2,1,cv (jr (d / 10%10))),(3,1,cv (jr (d%10)))]=some (sl 5 g.length 0 4,g++[.arr 5 ((four d).map cv)]):=rfl
   have yg:EX g (g++[aj.arr 5 ((four d).map cv)]):=EX.append _ _
   have bs:sv (g++[aj.arr 5 ((four d).map cv)]) (sl 5 g.length 0 4)=some (S (four d)):=yS (b:=g.length) (e:=5) (.inr ⟨g.length,le_refl _,rfl,bn⟩)
   obtain ⟨f1,f2⟩:=awV hd4
   have f3:(four d).length=4:=rfl
   simp only [mk,aA,bs,ah]
   rw [yU s (four d) (by rw [f3];unfold maxLen;omega)]
   have QF:IntKind.wrap .i64 ((j:Int)-1)=(j:Int)-1:=wrap64 (by omega) (by omega)
   simp only [ah,gE,QF,true_and]
   refine hL (j,s++four d,g++[aj.arr 5 ((four d).map cv)]) ⟨by show j≤xs.length;omega,xg.trans yg,fun c hc=>(List.mem_append.1 hc).elim (hd c) (f1 c),?_,by show (s++four d).length=_;rw [length_append,f3];omega⟩ (by show j<j+1;omega)
   show dQ (s++four d)=val 10000 (xs.drop j)
   rw [A5,f2,f3,JU,uI]
   omega
  ·have Ca:i=0:=by omega
   subst Ca
   simp only [List.drop_zero,vx] at uI
   rw [aEb]
   refine dj (σ:=List UInt8) (fun s=>[S s]) (fun _=>g) (fun s=>kA s∧dQ s=n∧s.length≤1000) (fun s=>s.length) s rfl rfl ⟨hd,uI,by omega⟩ ?_
   rintro t ⟨td,tv,tl⟩ L2 gj
   rw [aEc]
   cases t with
   | nil=>simp [dQ] at tv;omega
   | cons c t=>
    have ix:=wD (a:=c::t) (i:=0) (by simp) .i64
    have ix':j7 (S (c::t)) (.int .i64 0)=some (cv c):=ix
    have eq:ai .eql (cv c) (.int .u8 48)=some (B (decide ((c.toNat:Int)=48))):=rfl
    simp only [ix',ah,eq,bR]
    refine ⟨fun nr=>?_,fun nr=>?_⟩
    ·have aFt:=CS (a:=c::t) (n:=1) (by simp) .i64
     have aFu:lK (S (c::t)) (some (.int .i64 1)) none=some (S t):=aFt
     simp only [aFu,ah,true_and]
     refine gj t ⟨fun x hx=>td x (by simp [hx]),?_,by simp at tl;omega⟩ (by simp)
     rw [L8] at tv
     have:c.toNat-48=0:=by omega
     rw [this] at tv
     omega
    ·rw [aEd]
     have:=avs td tv axT (by
      simp only [List.head?_cons,ne_eq,Option.some.injEq]
      rintro rfl
      exact nr rfl)
     rw [this]
     exact hk _ (x1.trans xg)
end
section
theorem A7 {b:Nat} (h:b<4294967296):b<br:=agw (lt_of_lt_of_le h (by decide))
theorem LD {a b:Nat}:nC a b<0↔a<b:=by
 unfold nC
 constructor
 ·intro h
  apply byContradiction
  intro hn
  rw [if_neg hn] at h
  split at h <;> omega
 ·intro h;rw [if_pos h];decide
theorem aob {va vb:Value} {a b:Nat} {h:ae} {K:Value→ae→Prop} (ha:dJ h va a) (hb:dJ h vb b) (la:a<br) (b0:0<b) (lb:b<4294967296) (hk:∀q r h',EX h h'→dJ h' q (a / b)→dJ h' r (a%b)→K (.tuple #[q,r]) h'):
  ak prog 130 [va,vb] h K:=by
 refine f130 ?_
 unfold GZ
 refine Gr ha hb la (A7 lb) ?_
 simp only [cA,ah,bR]
 refine ⟨fun aD=>?_,fun cJ=>?_⟩
 ·have iD:=LD.1 aD
  have oH:=ha
  obtain ⟨xs,d,c,rfl⟩:=ha
  obtain ⟨s1,s2⟩:=d.cells
  have lx:=qD c la
  have hq:∀g,dJ g (.slice none 0 0) (val 4294967296 xs / b):=fun g=>⟨[],DS.nil _ _ _,⟨fun x hx=>by simp at hx,by simp⟩,by rw [Nat.div_eq_of_lt iD];rfl⟩
  by_cases h0:xs.length=0
  ·have e:dY 177 1 4 h (.slice none 0 0) va=some (.slice none 0 0,h):=by
    simp only [dY,s1,s2]
    rw [if_pos h0]
   simp only [e,aA]
   have:xs=[]:=List.length_eq_zero_iff.1 h0
   subst this
   exact hk _ _ h (EX.refl h) (hq h) ⟨[],DS.nil _ _ _,c,by rw [mod_eq_of_lt iD]⟩
  ·have e:dY 177 1 4 h (.slice none 0 0) va=some (sl 177 h.length 0 xs.length,h++[.arr 177 (xs.map fun d:Nat=>Value.int .u32 (d:Int))]):=by
    simp only [dY,s1,s2]
    rw [if_neg h0,if_pos ⟨by omega,by unfold maxLen;omega⟩]
   simp only [e,aA]
   refine hk _ _ _ (EX.append _ _) (hq _) ⟨xs,.inr ⟨h.length,rfl,.inr ⟨[],?_⟩⟩,c,by rw [mod_eq_of_lt iD]⟩
   simp [aP]
 ·have iD:b≤a:=by
   apply byContradiction
   intro hc
   exact cJ (LD.2 (by omega))
  obtain ⟨ys,d,c,hy⟩:=id hb
  have hlen:ys.length=1:=by
   have h1:ys.length≤1:=c.len (k:=1) (by decide) (by rw [hy];simpa using lb)
   have h2:ys≠[]:=by rintro rfl;simp [val] at hy;omega
   have:0<ys.length:=List.length_pos_iff.2 h2
   omega
  obtain ⟨y,rfl⟩:∃y,ys=[y]:=by
   match ys,hlen with
   | [y],_=>exact ⟨y,rfl⟩
  have qY:y=b:=by simpa [val] using hy
  subst qY
  obtain ⟨i,g1,g2⟩:=d.get (j:=0) (by simp)
  have zm:bf 1 vb (.int .i64 (0))=some (pt i 0):=g1
  have Tp:bj vb=some (I 1):=d.len
  simp only [Tp,ah,iT,decide_true,c8,zm,g2,List.getElem_cons_zero]
  refine Xe ha la b0 lb ?_
  intro q h2 x2 hq
  have mk:∀(g:ae) (r:Nat),dK 177 1 [(.int .u32 (0))] g [(0,1,.int .u32 (r:Int))]=some (sl 177 g.length 0 1,g++[.arr 177 [.int .u32 (r:Int)]]):=fun _ _=>rfl
  simp only [dX,eD,eI,ah,mk,aA]
  have x3:EX h2 (h2++[.arr 177 [.int .u32 ((a%y:Nat):Int)]]):=EX.append _ _
  have dr:DS 177 .u32 (h2++[.arr 177 [.int .u32 ((a%y:Nat):Int)]]) (sl 177 h2.length 0 1) [a%y]:=.inr ⟨h2.length,rfl,.inr ⟨[],by simp [aP]⟩⟩
  have hm:a%y<y:=mod_lt _ b0
  refine sQ dr (fun x hx=>by rw [List.mem_singleton.1 hx];omega) (by simp) ?_
  intro v' kW
  have e:val 4294967296 [a%y]=a%y:=by simp [val]
  rw [e] at kW
  exact hk _ _ _ (x2.trans x3) (hq.mono x3) kW
theorem Xc {va:Value} {a:Int} {h:ae} {K:Value→ae→Prop} (ha:dV h va a) (hk:∀h',EX h h'→K (I (if a=0 then 0 else if a<0 then -1 else 1)) h'):ak prog 109 [va] h K:=by
 obtain ⟨v,rfl,hv⟩:=ha
 refine f109 ?_
 have e1:bm 105 h (.agg #[B (decide (a<0)),v])=some (pt h.length 0,h++[.arr 105 [B (decide (a<0)),v]]):=rfl
 have x1:EX h (h++[.arr 105 [B (decide (a<0)),v]]):=EX.append _ _
 have l1:af false 1 (h++[aj.arr 105 [B (decide (a<0)),v]]) (pt h.length 1)=some v:=mV rfl
 have l0:af false 1 (h++[aj.arr 105 [B (decide (a<0)),v]]) (pt h.length 0)=some (B (decide (a<0))):=mV rfl
 obtain ⟨l,e2,e3⟩:=hv.qo
 simp only [NJ,e1,aA,bU,zero_add,add_zero,ah,l1,l0,e2,iT,bR]
 refine ⟨fun hz=>?_,fun hz=>⟨fun hn=>?_,fun hn=>?_⟩⟩
 ·have:=hk _ x1
  rw [if_pos (by omega)] at this
  exact this
 ·have:=hk _ x1
  rw [if_neg (by omega),if_pos hn] at this
  exact this
 ·have:=hk _ x1
  rw [if_neg (by omega),if_neg hn] at this
  exact this
theorem Mu {va vb:Value} {a b:Int} {h:ae} {K:Value→ae→Prop} (ha:dV h va a) (hb:dV h vb b) (la:a.natAbs<br) (lb:b.natAbs<br) (hk:∀h',EX h h'→K (I (if a-b=0 then 0 else if a-b<0 then -1 else 1)) h'):ak prog 111 [va,vb] h K:=by
 have oH:=ha
 have pn:=hb
 obtain ⟨v,rfl,hv⟩:=ha
 obtain ⟨w,rfl,hw⟩:=hb
 refine f111 ?_
 have e1:∀(g:ae) (s:Bool) (v:Value),bm 105 g (.agg #[B s,v])=some (pt g.length 0,g++[.arr 105 [B s,v]]):=fun _ _ _=>rfl
 simp only [NL,e1,aA]
 have g0:(h++[aj.arr 105 [B (decide (a<0)),v]]++[aj.arr 105 [B (decide (b<0)),w]])[h.length]?=some (.arr 105 [B (decide (a<0)),v]):=by simp
 have g1:(h++[aj.arr 105 [B (decide (a<0)),v]]++[aj.arr 105 [B (decide (b<0)),w]])[(h++[aj.arr 105 [B (decide (a<0)),v]]).length]?=some (.arr 105 [B (decide (b<0)),w]):=bn
 have x1:EX h (h++[aj.arr 105 [B (decide (a<0)),v]]++[aj.arr 105 [B (decide (b<0)),w]]):=(EX.append _ _).push _
 generalize h++[aj.arr 105 [B (decide (a<0)),v]]++[aj.arr 105 [B (decide (b<0)),w]]=h1 at g0 g1 x1⊢
 rw [cO g0,cO g1]
 simp only [ah]
 refine aoa (oH.mono x1) (pn.mono x1) la lb ?_
 intro r h2 x2 hr
 exact Xc hr fun h3 x3=>hk h3 (x1.trans (x2.trans x3))
theorem dV.nat {h:ae} {v:Value} {n:Nat} (p:dJ h v n):dV h (.agg #[B false,v]) (n:Int):=⟨v,by rw [aS (by omega)],by rwa [natAbs_natCast]⟩
end
end Go.Proofs.YtelmdbpaoifmoaaGreat
namespace Go.Sim
section
theorem aF9 {B:Nat} {xs:List Nat} (h:cn B xs) {n:Nat} (hn:xs.length=n+2):∃l,l<B^n∧val B xs=l+(xs[n]+xs[n+1]*B)*B^n:=by
 refine ⟨val B (xs.take n),?_,?_⟩
 ·have:=nD (xs:=xs.take n) (h.mono fun y hy=>mem_of_mem_take hy)
  rwa [length_take,min_eq_left (by omega)] at this
 ·have h1:=jw B xs (i:=n) (by omega)
  have h2:=jw B xs (i:=n+1) (by omega)
  rw [take_of_length_le (by omega),h1] at h2
  rw [h2,pow_succ]
  generalize B^n=P
  grind
theorem aF8 {B:Nat} {xs:List Nat} (h:cn B xs) {n:Nat} (hn:xs.length=n+3):∃l,l<B^n∧val B xs=l+(xs[n]+(xs[n+1]+xs[n+2]*B)*B)*B^n:=by
 refine ⟨val B (xs.take n),?_,?_⟩
 ·have:=nD (xs:=xs.take n) (h.mono fun y hy=>mem_of_mem_take hy)
  rwa [length_take,min_eq_left (by omega)] at this
 ·have h1:=jw B xs (i:=n) (by omega)
  have h2:=jw B xs (i:=n+1) (by omega)
  have h3:=jw B xs (i:=n+2) (by omega)
  rw [take_of_length_le (by omega),h2,h1] at h3
  rw [h3,show B^(n+2)=B^n*B*B from by rw [pow_succ,pow_succ],pow_succ]
  generalize B^n=P
  grind
def mid (us:List Nat) (j:Nat) (xs:List Nat):List Nat:=us.take j++(xs++us.drop (j+xs.length))
theorem CB {us:List Nat} {j:Nat} {xs:List Nat} (h:j+xs.length≤us.length):(mid us j xs).length=us.length:=by
 unfold mid
 simp only [length_append,length_take,List.length_drop]
 omega
theorem agK {us:List Nat} {j k:Nat} {xs:List Nat} (hj:j≤us.length) (h:xs.length≤k):(mid us j xs)[j+k]?=us[j+k]?:=by
 unfold mid
 rw [List.getElem?_append_right (by rw [length_take];omega),length_take,min_eq_left hj,Nat.add_sub_cancel_left,List.getElem?_append_right h,List.getElem?_drop]
 congr 1
 omega
theorem aAf {us:List Nat} {j k:Nat} {xs:List Nat} (hj:j≤us.length) (h:k<xs.length):(mid us j xs)[j+k]?=xs[k]?:=by
 unfold mid
 rw [List.getElem?_append_right (by rw [length_take];omega),length_take,min_eq_left hj,Nat.add_sub_cancel_left,List.getElem?_append_left h]
theorem Kl {us:List Nat} {j d:Nat} {xs:List Nat} (h:j+xs.length<us.length):(mid us j xs).set (j+xs.length) d=mid us j (xs++[d]):=by
 unfold mid
 rw [List.set_append_right _ _ (by rw [length_take];omega),length_take,min_eq_left (by omega),Nat.add_sub_cancel_left,List.set_append_right _ _ (le_refl _),Nat.sub_self,List.drop_eq_getElem_cons h,List.set_cons_zero,length_append,List.append_assoc]
 rfl
theorem agL (us:List Nat) (j:Nat):mid us j []=us:=by unfold mid;simp
theorem aAe {us:List Nat} {j:Nat} {xs ys:List Nat} (hj:j+xs.length≤us.length) (h:ys.length=xs.length):mid (mid us j xs) j ys=mid us j ys:=by
 unfold mid
 have e1:(us.take j++(xs++us.drop (j+xs.length))).take j=us.take j:=by
  rw [List.take_append_of_le_length (by rw [length_take];omega),List.take_take,Nat.min_self]
 have e2:(us.take j++(xs++us.drop (j+xs.length))).drop (j+ys.length)=us.drop (j+ys.length):=by
  rw [h,←List.append_assoc,List.drop_append_of_le_length (by rw [length_append,length_take];omega),List.drop_eq_nil_of_le (by rw [length_append,length_take];omega),List.nil_append]
 rw [e1,e2]
section
variable {B P U V ul vl u2 v2 top v1 : Nat}
theorem aw8 (hU:U=ul+(u2+top*B)*P) (sm:ul<P) (qj:u2<B) (hV:V=vl+(v2+v1*B)*P) (h1:0<v1):U / V≤top / v1:=by
 rw [Nat.le_div_iff_mul_le h1]
 have h2:U / V*V≤U:=Nat.div_mul_le_self U V
 generalize U / V=q at*
 apply byContradiction
 intro hn
 have h3:top+1≤q*v1:=by omega
 have h4:(top+1)*(B*P)≤q*v1*(B*P):=mul_le_mul_right _ h3
 have h5:q*v1*(B*P)≤q*V:=by
  rw [hV]
  have:q*(vl+(v2+v1*B)*P)=q*v1*(B*P)+q*(vl+v2*P):=by grind
  omega
 have h6:U<(top+1)*(B*P):=by
  have e1:(top+1)*(B*P)=top*B*P+B*P:=by grind
  have e2:(u2+top*B)*P=u2*P+top*B*P:=by grind
  have e3:(u2+1)*P≤B*P:=mul_le_mul_right _ (by omega)
  have e4:(u2+1)*P=u2*P+P:=by grind
  omega
 omega
theorem aw7 {g r:Nat} (hU:U=ul+(u2+top*B)*P) (sm:ul<P) (hV:V=vl+(v2+v1*B)*P) (uA:U<V*B) (hg:g*v1+r=top) (hq:U / V≤g) (mN:B≤g∨r*B+u2<g*v2):U / V+1≤g:=by
 have hV0:0<V:=by
  apply Nat.pos_of_ne_zero
  intro e
  rw [e] at uA
  omega
 have Sf:U / V<B:=by rw [Nat.div_lt_iff_lt_mul hV0,mul_comm];exact uA
 rcases mN with hb | hb
 ·omega
 have h2:U / V*V≤U:=Nat.div_mul_le_self U V
 generalize U / V=q at*
 apply byContradiction
 intro hn
 have hqg:q=g:=by omega
 subst hqg
 have h3:q*((v2+v1*B)*P)≤q*V:=by rw [hV];exact mul_le_mul_left _ (by omega)
 have h4:q*(v2+v1*B)*P<(u2+top*B+1)*P:=by
  have e1:q*((v2+v1*B)*P)=q*(v2+v1*B)*P:=by grind
  have e2:(u2+top*B+1)*P=(u2+top*B)*P+P:=by grind
  omega
 have h5:q*(v2+v1*B)<u2+top*B+1:=Nat.lt_of_mul_lt_mul_right h4
 rw [←hg] at h5
 have e3:q*(v2+v1*B)=q*v2+q*v1*B:=by grind
 have e4:(q*v1+r)*B=q*v1*B+r*B:=by grind
 omega
theorem ad5 {g r:Nat} (hU:U=ul+(u2+top*B)*P) (hV:V=vl+(v2+v1*B)*P) (sr:vl<P) (h1:0<v1) (hg:g*v1+r=top) (pZ:g<B) (aE:g*v2≤r*B+u2):g*V<U+V:=by
 have e1:g*V=g*vl+(g*v2+g*v1*B)*P:=by rw [hV];grind
 have e2:top*B=g*v1*B+r*B:=by rw [←hg];grind
 have e3:(g*v2+g*v1*B)*P≤(u2+top*B)*P:=mul_le_mul_right _ (by omega)
 have e4:g*vl<V:=by
  have a1:g*vl≤g*P:=mul_le_mul_left _ (by omega)
  have hP:0<P:=by omega
  have a2:g*P<B*P:=Nat.mul_lt_mul_of_pos_right pZ hP
  have a3:B*P≤v1*B*P:=by
   have:1*(B*P)≤v1*(B*P):=mul_le_mul_right _ h1
   rw [mul_assoc]
   omega
  have a4:(v2+v1*B)*P=v2*P+v1*B*P:=by grind
  omega
 omega
theorem aFT {un w:Nat} (hB:0<B) (hU:U=ul+(u2+top*B)*P) (tB:top=w+un*B) (hV:V=vl+(v2+v1*B)*P) (sr:vl<P) (qW:v2<B) (uA:U<V*B):un≤v1:=by
 apply byContradiction
 intro hn
 have h1:(v1+1)*(B*P)*B≤un*(B*P)*B:=mul_le_mul_right _ (mul_le_mul_right _ (by omega))
 have h2:un*(B*P)*B≤U:=by
  rw [hU,tB]
  have:(u2+(w+un*B)*B)*P=(u2+w*B)*P+un*(B*P)*B:=by grind
  omega
 have h3:V<(v1+1)*(B*P):=by
  have e1:(v1+1)*(B*P)=v1*B*P+B*P:=by grind
  have e2:(v2+v1*B)*P=v2*P+v1*B*P:=by grind
  have e3:(v2+1)*P≤B*P:=mul_le_mul_right _ (by omega)
  have e4:(v2+1)*P=v2*P+P:=by grind
  omega
 have h4:V*B<(v1+1)*(B*P)*B:=Nat.mul_lt_mul_of_pos_right h3 hB
 omega
end
end
end Go.Sim
namespace Go.Proofs.YtelmdbpaoifmoaaGreat
open Go.Sim
section
variable (P : Program) (K : VK)
noncomputable section
variable (x0 : Value) (h : ae)
def ahP:=bz prog 135 [[],[]]
@[irreducible] def aaK:=bJ ahP
theorem azH:ahP=some (6,aaK,[.tmp 2]):=by kernel_rfl
def N9:Prop:=
 ak P 141 [x0] h fun x4 z1=>
 OP (ai .sub (.int .i64 (32)) x4) fun x5=>
 K x5 z1
theorem av9:aq P aaK (aT [.tmp 2] K) (bt [x0]) h=N9 P K x0 h:=by kernel_rfl
theorem f135 {K:VK} {x0:Value} {h:ae} (H:N9 prog K x0 h):ak prog 135 [x0] h K:=
 bK azH (bI rfl) ((av9 prog K x0 h).mpr H)
end
noncomputable section
variable (x0 n1 x5 aB aH bc : Value) (L1 : LQ) (xs : List Value) (h : ae)
def ahQ:=bz prog 136 [[],[],[],[1,5,13,14],[15],[],[],[],[],[],[],[5],[]]
@[irreducible] def HF:=bJ ahQ
@[irreducible] def asQ:=HF.r.r.l.r.l.l
@[irreducible] def aaL:=HF.r.r.r
@[irreducible] def asP:=aaL.l
theorem azI:ahQ=some (41,HF,[.tmp 4]):=by kernel_rfl
def M3 (_P:Program) (K:VK):ar:=aT [.tmp 4] K
def apx:ar:=aG (aq P aaL (M3 P K)) (M3 P K)
def apy:ar:=bO 0 (apx P K)
def apz:ar:=aG (fun f' aW=>(([1,5,13,14]:List Nat).map f':List Value)=[n1,x5,aB,aH]∧L1 (([15]:List Nat).map f') aW) (apy P K)
def ajU:Prop:=ay (aq P asQ (apz P K n1 x5 aB aH L1)) ([1,5,13,14]++[15]) ([n1,x5,aB,aH]++xs) h
def ajT:Prop:=ay (aq P asP (M3 P K)) [5] [x5] h
theorem aB4 (n1 x5 aB aH:Value) (L1:LQ) (bc:Value) (h:ae):ajU P K n1 x5 aB aH L1 [bc] h=
 (OP (ai .lss bc aH) fun bk=>
 aR bk
 (OP (bf 1 aB bc) fun aQ=>
 OP (af false 1 h aQ) fun aO=>
 OP (dA .u64 aO) fun aZ=>
 OP (ai .shl aZ n1) fun cB=>
 OP (bf 1 x5 bc) fun cw=>
 OP (af false 1 h cw) fun bZ=>
 OP (dA .u32 cB) fun cM=>
 OP (ai .or bZ cM) fun dC=>
 OP (bf 1 x5 bc) fun cE=>
 OH (aF 1 h cE dC) fun _ z1=>
 OP (ai .add bc (.int .i64 (1))) fun cT=>
 OP (ai .shr cB (.int .u64 (32))) fun cX=>
 OP (dA .u32 cX) fun fE=>
 OP (bf 1 x5 cT) fun dI=>
 OH (aF 1 z1 dI fE) fun _ z2=>
 OP (ai .add bc (.int .i64 (1))) fun eX=>
 ([n1,x5,aB,aH]:List Value)=[n1,x5,aB,aH]∧L1 [eX] z2)
 (ajT P K x5 h)):=az (by kernel_rfl)
theorem aB3:ajT P K x5 h=
 (K x5 h):=az (by kernel_rfl)
def Oa:Prop:=
 OP (bj x0) fun aM=>
 OP (ai .add aM (.int .i64 (1))) fun au=>
 OH (mb 177 4 [(.int .u32 (0))] h au au) fun aC z1=>
 OP (bj x0) fun aH=>
 cQ [(.int .i64 (0))] z1 fun L1 xs hx=>
 ajU P K n1 aC x0 aH L1 xs hx
theorem awa:aq P HF (aT [.tmp 4] K) (bt [x0,n1]) h=Oa P K x0 n1 h:=by kernel_rfl
theorem f136 {K:VK} {x0 n1:Value} {h:ae} (H:Oa prog K x0 n1 h):ak prog 136 [x0,n1] h K:=
 bK azI (bI rfl) ((awa prog K x0 n1 h).mpr H)
end
noncomputable section
variable (u0 v1 n5 x7 x8 x9 aM aB mD gX nE Bb : Value) (L1 : LQ) (xs : List Value) (h : ae)
def ahR:=bz prog 137 [[],[],[],[],[0,1,5],[7,8],[],[],[],[],[],[0,1,5,7],[],[],[0,1,5,7,83],[9,10,84],[],[],[],[],[],[],[0,1,5,7,9,10],[],[],[],[],[],[0,1,5,7,132],[13,133],[],[],[],[],[0,5,7,13],[7],[]]
@[irreducible] def HG:=bJ ahR
@[irreducible] def asV:=HG.r.r.r.r.l.l.l
@[irreducible] def aaP:=HG.r.r.r.r.r
@[irreducible] def PK:=aaP.l
@[irreducible] def asR:=PK.r.l.r.l.l
@[irreducible] def aaM:=PK.r.r
@[irreducible] def HI:=aaM.l
@[irreducible] def asS:=HI.r.l.r.l.r.r.l.r.l.l
@[irreducible] def aaO:=HI.r.l.r.l.r.r.r
@[irreducible] def aaN:=HI.r.r
@[irreducible] def asT:=aaO.l
@[irreducible] def asU:=aaN.l
theorem azJ:ahR=some (162,HG,[.tmp 4]):=by kernel_rfl
def vF (_P:Program) (K:VK):ar:=aT [.tmp 4] K
def apG:ar:=aG (aq P aaP (vF P K)) (vF P K)
def apH:ar:=bO 0 (apG P K)
def apI:ar:=aG (fun f' aW=>(([0,1,5]:List Nat).map f':List Value)=[u0,v1,n5]∧L1 (([7,8]:List Nat).map f') aW) (apH P K)
def apA:ar:=aG (aq P aaM (vF P K)) (vF P K)
def apB:ar:=bO 2 (apA P K)
def apC:ar:=aG (fun f' aW=>(([0,1,5,7,83]:List Nat).map f':List Value)=[u0,v1,n5,x7,mD]∧L1 (([9,10,84]:List Nat).map f') aW) (apB P K)
def M4:ar:=aG (aq P aaN (vF P K)) (vF P K)
def apD:ar:=aG (aq P aaO (M4 P K)) (M4 P K)
def apE:ar:=bO 4 (apD P K)
def apF:ar:=aG (fun f' aW=>(([0,1,5,7,132]:List Nat).map f':List Value)=[u0,v1,n5,x7,nE]∧L1 (([13,133]:List Nat).map f') aW) (apE P K)
def ajY:Prop:=ay (aq P asV (apI P K u0 v1 n5 L1)) ([0,1,5]++[7,8]) ([u0,v1,n5]++xs) h
def yr:Prop:=ay (aq P PK (vF P K)) [0,1,5,7] [u0,v1,n5,x7] h
def ajV:Prop:=ay (aq P asR (apC P K u0 v1 n5 x7 mD L1)) ([0,1,5,7,83]++[9,10,84]) ([u0,v1,n5,x7,mD]++xs) h
def ajW:Prop:=ay (aq P HI (vF P K)) [0,1,5,7,9,10] [u0,v1,n5,x7,x9,aM] h
def Ut:Prop:=ay (aq P asS (apF P K u0 v1 n5 x7 nE L1)) ([0,1,5,7,132]++[13,133]) ([u0,v1,n5,x7,nE]++xs) h
def ajX:Prop:=ay (aq P asT (M4 P K)) [0,5,7,13] [u0,n5,x7,aB] h
def FG:Prop:=ay (aq P asU (vF P K)) [7] [x7] h
theorem aCb (u0 v1 n5:Value) (L1:LQ) (x7 x8:Value) (h:ae):ajY P K u0 v1 n5 L1 [x7,x8] h=
 (OP (ai .shr x7 (.int .u64 (32))) fun og=>
 OP (ai .gtr og (.int .u64 (0))) fun fP=>
 cC fP false
 (OP (ai .sub n5 (.int .i64 (2))) fun lC=>
 OP (bf 1 v1 lC) fun dw=>
 OP (af false 1 h dw) fun gP=>
 (True)∧
 OP (dA .u64 gP) fun jj=>
 OP (ai .mul x7 jj) fun fa=>
 OP (ai .shl x8 (.int .u64 (32))) fun fU=>
 OP (ai .sub n5 (.int .i64 (2))) fun mB=>
 OP (bf 1 u0 mB) fun kJ=>
 OP (af false 1 h kJ) fun jx=>
 (True)∧
 OP (dA .u64 jx) fun gy=>
 OP (ai .or fU gy) fun lE=>
 OP (ai .gtr fa lE) fun gA=>
 OP (bQ fP (.bool true) gA) fun gB=>
 aR gB
 (OP (ai .sub x7 (.int .u64 (1))) fun m9=>
 OP (ai .sub n5 (.int .i64 (1))) fun jT=>
 OP (bf 1 v1 jT) fun jU=>
 OP (af false 1 h jU) fun kK=>
 OP (dA .u64 kK) fun jk=>
 OP (ai .add x8 jk) fun fK=>
 OP (ai .shr fK (.int .u64 (32))) fun rG=>
 OP (ai .gtr rG (.int .u64 (0))) fun jV=>
 aR jV
 (yr P K u0 v1 n5 m9 h)
 (([u0,v1,n5]:List Value)=[u0,v1,n5]∧L1 [m9,fK] h))
 (yr P K u0 v1 n5 x7 h))
 (OP (bQ fP (.bool true) undef) fun gB=>
 aR gB
 (OP (ai .sub x7 (.int .u64 (1))) fun m9=>
 OP (ai .sub n5 (.int .i64 (1))) fun jT=>
 OP (bf 1 v1 jT) fun jU=>
 OP (af false 1 h jU) fun kK=>
 OP (dA .u64 kK) fun jk=>
 OP (ai .add x8 jk) fun fK=>
 OP (ai .shr fK (.int .u64 (32))) fun rG=>
 OP (ai .gtr rG (.int .u64 (0))) fun jV=>
 aR jV
 (yr P K u0 v1 n5 m9 h)
 (([u0,v1,n5]:List Value)=[u0,v1,n5]∧L1 [m9,fK] h))
 (yr P K u0 v1 n5 x7 h))):=az (by kernel_rfl)
theorem aB6 (u0 v1 n5 x7 mD:Value) (L1:LQ) (x9 aM gX:Value) (h:ae):ajV P K u0 v1 n5 x7 mD L1 [x9,aM,gX] h=
 (OP (ai .lss gX mD) fun sL=>
 aR sL
 (OP (bf 1 v1 gX) fun oV=>
 OP (af false 1 h oV) fun iy=>
 OP (dA .u64 iy) fun tV=>
 OP (ai .mul x7 tV) fun kj=>
 OP (ai .add kj x9) fun Ml=>
 OP (ai .shr Ml (.int .u64 (32))) fun xa=>
 OP (bf 1 u0 gX) fun A8=>
 OP (af false 1 h A8) fun rF=>
 OP (dA .u32 Ml) fun A9=>
 ak P 134 [rF,A9,aM] h fun Ba z1=>
 OP (cg 0 Ba) fun WN=>
 OP (cg 1 Ba) fun aGg=>
 OP (bf 1 u0 gX) fun Gl=>
 OH (aF 1 z1 Gl WN) fun _ z2=>
 OP (ai .add gX (.int .i64 (1))) fun aGh=>
 ([u0,v1,n5,x7,mD]:List Value)=[u0,v1,n5,x7,mD]∧L1 [xa,aGg,aGh] z2)
 (ajW P K u0 v1 n5 x7 x9 aM h)):=az (by kernel_rfl)
theorem aB8 (u0 v1 n5 x7 nE:Value) (L1:LQ) (aB Bb:Value) (h:ae):Ut P K u0 v1 n5 x7 nE L1 [aB,Bb] h=
 (OP (ai .lss Bb nE) fun aGo=>
 aR aGo
 (OP (bf 1 u0 Bb) fun aGp=>
 OP (af false 1 h aGp) fun aGq=>
 (True)∧
 OP (bf 1 v1 Bb) fun aGr=>
 OP (af false 1 h aGr) fun aGs=>
 (True)∧
 ak P 133 [aGq,aGs,aB] h fun anT z1=>
 (True)∧
 OP (cg 0 anT) fun aGt=>
 OP (cg 1 anT) fun aGu=>
 OP (bf 1 u0 Bb) fun aGv=>
 OH (aF 1 z1 aGv aGt) fun _ z2=>
 (True)∧
 OP (ai .add Bb (.int .i64 (1))) fun aGw=>
 ([u0,v1,n5,x7,nE]:List Value)=[u0,v1,n5,x7,nE]∧L1 [aGu,aGw] z2)
 (ajX P K u0 n5 x7 aB h)):=az (by kernel_rfl)
theorem aB9:ajX P K u0 n5 x7 aB h=
 (OP (bf 1 u0 n5) fun aGx=>
 OP (af false 1 h aGx) fun aGy=>
 OP (ai .add aGy aB) fun aGz=>
 OP (bf 1 u0 n5) fun aGA=>
 OH (aF 1 h aGA aGz) fun _ z1=>
 FG P K x7 z1):=az (by kernel_rfl)
theorem aCa:FG P K x7 h=
 (OP (dA .u32 x7) fun aGB=>
 K aGB h):=az (by kernel_rfl)
theorem aB7:ajW P K u0 v1 n5 x7 x9 aM h=
 (OP (bf 1 u0 n5) fun WO=>
 OP (af false 1 h WO) fun vh=>
 OP (dA .u32 x9) fun WQ=>
 ak P 134 [vh,WQ,aM] h fun yC z1=>
 OP (cg 0 yC) fun WR=>
 OP (cg 1 yC) fun WS=>
 OP (bf 1 u0 n5) fun WT=>
 OH (aF 1 z1 WT WR) fun _ z2=>
 OP (ai .gtr WS (.int .u32 (0))) fun WU=>
 aR WU
 (OP (ai .sub x7 (.int .u64 (1))) fun WV=>
 OP (bj v1) fun nE=>
 cQ [(.int .u32 (0)),(.int .i64 (0))] z2 fun L1 xs hx=>
 Ut P K u0 v1 n5 WV nE L1 xs hx)
 (FG P K x7 z2)):=az (by kernel_rfl)
theorem aB5:yr P K u0 v1 n5 x7 h=
 (OP (bj v1) fun mD=>
 cQ [(.int .u64 (0)),(.int .u32 (0)),(.int .i64 (0))] h fun L1 xs hx=>
 ajV P K u0 v1 n5 x7 mD L1 xs hx):=az (by kernel_rfl)
def Ob:Prop:=
 OP (bj v1) fun bk=>
 OP (bf 1 u0 bk) fun aO=>
 OP (af false 1 h aO) fun aX=>
 (True)∧
 OP (dA .u64 aX) fun aZ=>
 OP (ai .shl aZ (.int .u64 (32))) fun bF=>
 OP (ai .sub bk (.int .i64 (1))) fun ca=>
 OP (bf 1 u0 ca) fun cw=>
 OP (af false 1 h cw) fun bZ=>
 (True)∧
 OP (dA .u64 bZ) fun cG=>
 OP (ai .or bF cG) fun cM=>
 OP (ai .sub bk (.int .i64 (1))) fun dH=>
 OP (bf 1 v1 dH) fun cT=>
 OP (af false 1 h cT) fun cR=>
 (True)∧
 OP (dA .u64 cR) fun cX=>
 OP (ai .quo cM cX) fun fE=>
 OP (ai .sub bk (.int .i64 (1))) fun eG=>
 OP (bf 1 v1 eG) fun eZ=>
 OP (af false 1 h eZ) fun bY=>
 (True)∧
 OP (dA .u64 bY) fun bH=>
 OP (ai .rem cM bH) fun cP=>
 cQ [fE,cP] h fun L1 xs hx=>
 ajY P K u0 v1 bk L1 xs hx
theorem awb:aq P HG (aT [.tmp 4] K) (bt [u0,v1]) h=Ob P K u0 v1 h:=by kernel_rfl
theorem f137 {K:VK} {u0 v1:Value} {h:ae} (H:Ob prog K u0 v1 h):ak prog 137 [u0,v1] h K:=
 bK azJ (bI rfl) ((awb prog K u0 v1 h).mpr H)
end
noncomputable section
variable (x0 n1 x5 i6 t7 aC aB : Value) (L1 : LQ) (xs : List Value) (h : ae)
def ahS:=bz prog 138 [[],[],[],[0,1,5,12],[13],[],[],[],[],[],[0,1,5,6,7,12,13],[0,1,5,12,13],[5],[]]
@[irreducible] def HJ:=bJ ahS
@[irreducible] def PM:=HJ.r.r.l.r.l.l
@[irreducible] def aaQ:=HJ.r.r.r
@[irreducible] def asW:=PM.r.r.l.l.r.r.r.l
@[irreducible] def aaR:=PM.r.r.r
@[irreducible] def asY:=aaQ.l
@[irreducible] def asX:=aaR.l
theorem azK:ahS=some (45,HJ,[.tmp 4]):=by kernel_rfl
def M5 (_P:Program) (K:VK):ar:=aT [.tmp 4] K
def apK:ar:=aG (aq P aaQ (M5 P K)) (M5 P K)
def apL:ar:=bO 0 (apK P K)
def GI:ar:=aG (fun f' aW=>(([0,1,5,12]:List Nat).map f':List Value)=[x0,n1,x5,aC]∧L1 (([13]:List Nat).map f') aW) (apL P K)
def apM:ar:=aG (aq P aaR (GI P K x0 n1 x5 aC L1)) (GI P K x0 n1 x5 aC L1)
def apJ:ar:=bO 1 (apM P K x0 n1 x5 aC L1)
def aj1:Prop:=ay (aq P PM (GI P K x0 n1 x5 aC L1)) ([0,1,5,12]++[13]) ([x0,n1,x5,aC]++xs) h
def KO:Prop:=ay (aq P asW (apJ P K x0 n1 x5 aC L1)) [0,1,5,6,7,12,13] [x0,n1,x5,i6,t7,aC,aB] h
def ajZ:Prop:=ay (aq P asX (GI P K x0 n1 x5 aC L1)) [0,1,5,12,13] [x0,n1,x5,aC,aB] h
def aj0:Prop:=ay (aq P asY (M5 P K)) [5] [x5] h
theorem aCc:KO P K x0 n1 x5 i6 t7 aC aB L1 h=
 (OP (ai .shr t7 n1) fun eX=>
 OP (dA .u32 eX) fun ef=>
 OP (bf 1 x5 i6) fun eG=>
 OH (aF 1 h eG ef) fun _ z1=>
 ajZ P K x0 n1 x5 aC aB L1 z1):=az (by kernel_rfl)
theorem aCd:ajZ P K x0 n1 x5 aC aB L1 h=
 (OP (ai .add aB (.int .i64 (1))) fun eZ=>
 ([x0,n1,x5,aC]:List Value)=[x0,n1,x5,aC]∧L1 [eZ] h):=az (by kernel_rfl)
theorem aCf (x0 n1 x5 aC:Value) (L1:LQ) (aB:Value) (h:ae):aj1 P K x0 n1 x5 aC L1 [aB] h=
 (OP (ai .lss aB aC) fun aH=>
 aR aH
 (OP (bf 1 x0 aB) fun aQ=>
 OP (af false 1 h aQ) fun aO=>
 OP (dA .u64 aO) fun aX=>
 OP (ai .add aB (.int .i64 (1))) fun bF=>
 OP (bj x0) fun bu=>
 OP (ai .lss bF bu) fun ca=>
 aR ca
 (OP (ai .add aB (.int .i64 (1))) fun cM=>
 OP (bf 1 x0 cM) fun dC=>
 OP (af false 1 h dC) fun cE=>
 OP (dA .u64 cE) fun cS=>
 OP (ai .shl cS (.int .u64 (32))) fun dH=>
 OP (ai .or aX dH) fun cT=>
 KO P K x0 n1 x5 aB cT aC aB L1 h)
 (KO P K x0 n1 x5 aB aX aC aB L1 h))
 (aj0 P K x5 h)):=az (by kernel_rfl)
theorem aCe:aj0 P K x5 h=
 (ak P 118 [x5] h fun bH z1=>
 K bH z1):=az (by kernel_rfl)
def Oc:Prop:=
 OP (bj x0) fun x9=>
 OH (mb 177 4 [(.int .u32 (0))] h x9 x9) fun aM z1=>
 OP (bj x0) fun aC=>
 cQ [(.int .i64 (0))] z1 fun L1 xs hx=>
 aj1 P K x0 n1 aM aC L1 xs hx
theorem awc:aq P HJ (aT [.tmp 4] K) (bt [x0,n1]) h=Oc P K x0 n1 h:=by kernel_rfl
theorem f138 {K:VK} {x0 n1:Value} {h:ae} (H:Oc prog K x0 n1 h):ak prog 138 [x0,n1] h K:=
 bK azK (bI rfl) ((awc prog K x0 n1 h).mpr H)
end
noncomputable section
variable (x0 n2 : Value) (h : ae)
def ahV:=bz prog 141 [[],[],[],[0,2],[],[],[0,2],[]]
@[irreducible] def PO:=bJ ahV
@[irreducible] def aaU:=PO.r.r.l
@[irreducible] def as5:=aaU.r.l
theorem azN:ahV=some (19,PO,[.tmp 2]):=by kernel_rfl
def Ym (_P:Program) (K:VK):ar:=aT [.tmp 2] K
def KQ:Prop:=ay (aq P aaU (Ym P K)) [0,2] [x0,n2] h
def KR:Prop:=ay (aq P as5 (Ym P K)) [0,2] [x0,n2] h
theorem aCl:KR P K x0 n2 h=
 (OP (dA .u8 x0) fun bc=>
 OP (j7 (.string ⟨#[0,1,2,2,3,3,3,3,4,4,4,4,4,4,4,4,5,5,5,5,5,5,5,5,5,5,5,5,5,5,5,5,6,6,6,6,6,6,6,6,6,6,6,6,6,6,6,6,6,6,6,6,6,6,6,6,6,6,6,6,6,6,6,6,7,7,7,7,7,7,7,7,7,7,7,7,7,7,7,7,7,7,7,7,7,7,7,7,7,7,7,7,7,7,7,7,7,7,7,7,7,7,7,7,7,7,7,7,7,7,7,7,7,7,7,7,7,7,7,7,7,7,7,7,7,7,7,7,8,8,8,8,8,8,8,8,8,8,8,8,8,8,8,8,8,8,8,8,8,8,8,8,8,8,8,8,8,8,8,8,8,8,8,8,8,8,8,8,8,8,8,8,8,8,8,8,8,8,8,8,8,8,8,8,8,8,8,8,8,8,8,8,8,8,8,8,8,8,8,8,8,8,8,8,8,8,8,8,8,8,8,8,8,8,8,8,8,8,8,8,8,8,8,8,8,8,8,8,8,8,8,8,8,8,8,8,8,8,8,8,8,8,8,8,8,8,8,8,8,8,8,8,8,8,8,8]⟩) bc) fun bk=>
 OP (dA .i64 bk) fun bN=>
 OP (ai .add n2 bN) fun aQ=>
 K aQ h):=az (by kernel_rfl)
theorem aCk:KQ P K x0 n2 h=
 (OP (ai .geq x0 (.int .u32 (256))) fun x8=>
 aR x8
 (OP (ai .shr x0 (.int .u64 (8))) fun aM=>
 OP (ai .add n2 (.int .i64 (8))) fun aC=>
 KR P K aM aC h)
 (KR P K x0 n2 h)):=az (by kernel_rfl)
def Of:Prop:=
 OP (ai .geq x0 (.int .u32 (65536))) fun x4=>
 aR x4
 (OP (ai .shr x0 (.int .u64 (16))) fun x6=>
 KQ P K x6 (.int .i64 (16)) h)
 (KQ P K x0 (.int .i64 (0)) h)
theorem awf:aq P PO (aT [.tmp 2] K) (bt [x0]) h=Of P K x0 h:=by kernel_rfl
theorem f141 {K:VK} {x0:Value} {h:ae} (H:Of prog K x0 h):ak prog 141 [x0] h K:=
 bK azN (bI rfl) ((awf prog K x0 h).mpr H)
end
end
section
def wv (us:List Nat):List Value:=us.map fun d:Nat=>Value.int .u32 (d:Int)
theorem anQ (us:List Nat):(wv us).length=us.length:=by simp [wv]
theorem rL {e:TypeId} {id o n k:Nat} (hk:k<n):bf 1 (sl e id o n) (I k)=some (pt id (o+k)):=by
 have:(0:Int)≤(k:Int)∧(k:Int)<(n:Int):=by omega
 simp [sl,bf,this]
theorem DX {g:ae} {iv id:Nat} {o:aj} (h:iv≠id):aP (g.set id o) iv=aP g iv:=by
 unfold aP
 rw [getElem?_set_ne h.symm]
theorem DD {g:ae} {id k d:Nat} {us:List Nat} {rest:List Value} (hg:aP g id=some (wv us++rest)) (hk:us[k]?=some d):af false 1 g (pt id k)=some (.int .u32 (d:Int)):=by
 have aD:=(bL hk).1
 have:(wv us++rest)[k]?=some (.int .u32 (d:Int)):=by
  rw [List.getElem?_append_left (by rw [anQ];exact aD)]
  simp [wv,hk]
 simp [af,hg,b9,this]
theorem yP {g:ae} {id k d:Nat} {us:List Nat} (hg:g[id]?=some (.arr 177 (wv us))) (hk:us[k]?=some d):af false 1 g (pt id k)=some (.int .u32 (d:Int)):=
 DD (rest:=[]) (by rw [List.append_nil];simp [aP,hg]) hk
theorem DE {g:ae} {id k:Nat} (d:Nat) {us:List Nat} (hg:g[id]?=some (.arr 177 (wv us))) (hk:k<us.length):aF 1 g (pt id k) (.int .u32 (d:Int))=some (undef,g.set id (.arr 177 (wv (us.set k d)))):=by
 rw [oS hg (by rw [anQ];exact hk) rfl rfl]
 congr 3
 simp [wv,List.map_set]
theorem aEv {a b:Nat} (hb:b≠0) (_:a<18446744073709551616):ai .rem (.int .u64 (a:Int)) (.int .u64 (b:Int))=some (.int .u64 ((a%b:Nat):Int)):=by
 have h:¬((b:Int)=0):=by omega
 have h2:a%b≤a:=Nat.mod_le _ _
 simp only [ai,hZ,if_true,if_neg h]
 have e:(a:Int).tmod (b:Int)=((a%b:Nat):Int):=rfl
 rw [e]
theorem uh {d:Nat} (h:d<4294967296):dA .u64 (.int .u32 (d:Int))=some (.int .u64 (d:Int)):=by rw [jY,lB (by omega) (by omega)]
theorem ag4 {a b:Nat} (h:a*b<18446744073709551616):ai .mul (.int .u64 (a:Int)) (.int .u64 (b:Int))=some (.int .u64 ((a*b:Nat):Int)):=by
 rw [ue,←Int.natCast_mul,lB (by omega) (by omega)]
theorem Zn {a b:Nat} (h:a+b<18446744073709551616):ai .add (.int .u64 (a:Int)) (.int .u64 (b:Int))=some (.int .u64 ((a+b:Nat):Int)):=by
 rw [cf,←Int.natCast_add,lB (by omega) (by omega)]
theorem adb {a:Nat} (h:0<a) (h2:a<18446744073709551616):ai .sub (.int .u64 (a:Int)) (.int .u64 1)=some (.int .u64 ((a-1:Nat):Int)):=by
 rw [gE,show (a:Int)-1=((a-1:Nat):Int) by omega,lB (by omega) (by omega)]
theorem D5 (t:Nat):dA .u32 (.int .u64 (t:Int))=some (.int .u32 ((t%4294967296:Nat):Int)):=by rw [jY,yB];congr 2
theorem Xq {x y b:Nat} {h:ae} {K:Value→ae→Prop} (hx:x<4294967296) (hy:y<4294967296) (hb:b≤1)
  (hk:∀d b':Nat,d<4294967296→b'≤1→d+y+b=x+b'*4294967296→K (.tuple #[.int .u32 (d:Int),.int .u32 (b':Int)]) h):ak prog 134 [.int .u32 (x:Int),.int .u32 (y:Int),.int .u32 (b:Int)] h K:=by
 refine Xp hx hy hb (hk _ _ ?_ ?_ ?_)
 ·exact mod_lt _ (by decide)
 ·split <;> omega
 ·split <;> omega
theorem azS {P X V Y x c a b:Nat} (h:Y+c*P=X+V) (e:4294967296*a+b=x+c) (ha:a=0∨a=1):Y+P*b+P*4294967296=X+P*x+V∨Y+P*b=X+P*x+V:=by
 have e1:P*(4294967296*a+b)=P*(x+c):=by rw [e]
 rcases ha with rfl | rfl
 ·right;grind
 ·left;grind
section
variable {h : ae} {K : Value → ae → Prop} {id iv j m : Nat} {us vs ud : List Nat} {rest : List Value}
theorem aof {g:ae} {q:Value} {xs:List Nat} (kg:g[id]?=some (.arr 177 (wv us))) (kv:aP g iv=some (wv vs++rest)) (bp:iv≠id) (hn:vs.length=m+2) (hm:m≤1000) (hx:xs.length=m+3) (hj:j+(m+3)≤us.length)
  (hu:∀k,k≤m+2→us[j+k]?=xs[k]?) (lx:cn 4294967296 xs) (lv:cn 4294967296 vs)
  (hk:∀ys,ys.length=m+3→cn 4294967296 ys→(val 4294967296 ys+4294967296^(m+3)=val 4294967296 xs+val 4294967296 vs∨val 4294967296 ys=val 4294967296 xs+val 4294967296 vs)→
   FG prog K q (g.set id (.arr 177 (wv (mid us j ys))))):
  cQ [(.int .u32 (0)),(.int .i64 (0))] g fun L1 xs hx=>Ut prog K (sl 177 id j (m+3)) (sl 177 iv 0 (m+2)) (I (m+2:Nat)) q (I (m+2:Nat)) L1 xs hx:=by
 refine dj (σ:=List Nat×Nat) (fun p=>[.int .u32 (p.2:Int),I p.1.length]) (fun p=>g.set id (.arr 177 (wv (mid us j p.1))))
  (fun p=>p.1.length≤m+2∧cn 4294967296 p.1∧p.2≤1∧val 4294967296 p.1+p.2*4294967296^p.1.length=val 4294967296 (xs.take p.1.length)+val 4294967296 (vs.take p.1.length)) (fun p=>m+2-p.1.length)
  ([],0) rfl (by rw [agL];exact (List.ext_getElem? fun i=>by
   rw [List.getElem?_set]
   split
   ·rename_i e;subst e
    rw [kg,if_pos (bL kg).1]
   ·rfl)) ⟨zero_le _,fun y hy=>by simp at hy,zero_le _,by simp [val]⟩ ?_
 rintro ⟨ys,c⟩ ⟨kD,ly,hc,bW⟩ L hL
 simp only at kD ly hc bW hL⊢
 have wF:(g.set id (.arr 177 (wv (mid us j ys))))[id]?=some (.arr 177 (wv (mid us j ys))):=ck kg
 have Te:aP (g.set id (.arr 177 (wv (mid us j ys)))) iv=some (wv vs++rest):=by rw [DX bp];exact kv
 rw [aB8]
 simp only [cA,ah,bR]
 have EY:∀k,ys.length≤k→k≤m+2→(mid us j ys)[j+k]?=xs[k]?:=fun k h1 h2=>by rw [agK (by omega) h1,hu k h2]
 refine ⟨fun aD=>?_,fun cJ=>?_⟩
 ·have hy:ys.length<m+2:=by omega
  have yj:xs[ys.length]?=some (xs[ys.length]'(by omega)):=getElem?_eq_getElem (by omega)
  have SE:vs[ys.length]?=some (vs[ys.length]'(by omega)):=getElem?_eq_getElem (by omega)
  have bx:=lx _ (getElem_mem (l:=xs) (n:=ys.length) (by omega))
  have bv:=lv _ (getElem_mem (l:=vs) (n:=ys.length) (by omega))
  have tx:=jw 4294967296 xs (i:=ys.length) (by omega)
  have tv:=jw 4294967296 vs (i:=ys.length) (by omega)
  generalize xs[ys.length]'(by omega)=x at*
  generalize vs[ys.length]'(by omega)=v at*
  have ld:=yP wF ((EY _ (le_refl _) (by omega)).trans yj)
  have Fl:=DD Te SE
  simp only [rL (show ys.length<m+3 by omega),rL (show ys.length<m+2 by omega),zero_add,ah,ld,Fl,true_and]
  refine Xo bx bv hc ?_
  simp only [dX,eD,eI,ah]
  rw [DE _ wF (by rw [CB (by omega)];omega),Kl (by omega),set_set]
  have:=hL (ys++[(x+v+c)%4294967296],(x+v+c) / 4294967296) ⟨by simp;omega,ly.append (fun y hy=>by simp at hy;omega),by show (x+v+c) / 4294967296≤1;omega,by
   simp only [length_append,length_cons,length_nil,zero_add]
   rw [od,tx,tv,pow_succ]
   simp only [val,mul_zero,add_zero]
   have lW:=div_add_mod (x+v+c) 4294967296
   generalize (x+v+c) / 4294967296=a at*
   generalize (x+v+c)%4294967296=b at*
   generalize 4294967296^ys.length=P at*
   have:P*(4294967296*a+b)=P*(x+v+c):=by rw [lW]
   grind⟩ (by simp;omega)
  simp only [aA,cf,eR ys.length (by omega),ah]
  simpa using this
 ·have hy:ys.length=m+2:=by omega
  have yj:xs[m+2]?=some (xs[m+2]'(by omega)):=getElem?_eq_getElem (by omega)
  have bx:=lx _ (getElem_mem (l:=xs) (n:=m+2) (by omega))
  have tx:=jw 4294967296 xs (i:=m+2) (by omega)
  rw [take_of_length_le (by omega)] at tx
  generalize xs[m+2]'(by omega)=x at*
  have ld:=yP wF ((EY (m+2) (by omega) (by omega)).trans yj)
  rw [aB9]
  have ea:ai .add (.int .u32 (x:Int)) (.int .u32 (c:Int))=some (.int .u32 (((x+c)%4294967296:Nat):Int)):=by
   rw [cf,←Int.natCast_add,yB];congr 2
  simp only [rL (show m+2<m+3 by omega),ah,ld,ea]
  have lZ:=Kl (us:=us) (j:=j) (d:=(x+c)%4294967296) (xs:=ys) (by omega)
  rw [hy] at lZ
  rw [DE _ wF (by rw [CB (by omega)];omega),lZ,set_set]
  simp only [aA]
  rw [hy,take_of_length_le (by omega:vs.length≤m+2)] at bW
  refine hk _ (by simp;omega) (ly.append (fun y hy=>by simp at hy;omega)) ?_
  rw [od,hy,tx]
  simp only [val,mul_zero,add_zero]
  have lW:=div_add_mod (x+c) 4294967296
  have h01:(x+c) / 4294967296≤1:=by omega
  rw [pow_succ]
  exact azS bW lW (by omega)
theorem aA8 (B m:Nat):B^(m+3)=B^(m+2)*B:=pow_succ ..
theorem aFF {P A X V g v x carry borrow y c' x' b':Nat} (h:X+g*V=A+(carry+borrow)*P) (e:4294967296*c'+y=g*v+carry) (s:x'+y+borrow=x+b'*4294967296):
  X+P*x'+g*(V+P*v)=A+P*x+(c'+b')*(P*4294967296):=by
 have e1:P*(4294967296*c'+y)=P*(g*v+carry):=by rw [e]
 have e2:P*(x'+y+borrow)=P*(x+b'*4294967296):=by rw [s]
 grind
theorem aFG {P A X V g x carry borrow x' b':Nat} (h:X+g*V=A+(carry+borrow)*P) (s:x'+carry+borrow=x+b'*4294967296):X+P*x'+g*V=A+P*x+b'*(P*4294967296):=by
 have e2:P*(x'+carry+borrow)=P*(x+b'*4294967296):=by rw [s]
 grind
theorem Xs {gs:Nat} (kg:h[id]?=some (.arr 177 (wv us))) (kv:aP h iv=some (wv vs++rest)) (bp:iv≠id) (hn:vs.length=m+2) (hm:m≤1000) (hx:ud.length=m+3) (hj:j+(m+3)≤us.length)
  (hu:∀k,k≤m+2→us[j+k]?=ud[k]?) (lu:cn 4294967296 ud) (lv:cn 4294967296 vs) (pZ:gs<4294967296) (h1:val 4294967296 ud / val 4294967296 vs≤gs) (h2:gs*val 4294967296 vs<val 4294967296 ud+val 4294967296 vs) (V0:0<val 4294967296 vs)
  (hk:∀rs,rs.length=m+3→cn 4294967296 rs→val 4294967296 rs=val 4294967296 ud%val 4294967296 vs→K (.int .u32 ((val 4294967296 ud / val 4294967296 vs:Nat):Int)) (h.set id (.arr 177 (wv (mid us j rs))))):
  yr prog K (sl 177 id j (m+3)) (sl 177 iv 0 (m+2)) (I (m+2:Nat)) (.int .u64 (gs:Int)) h:=by
 have lZ:h=h.set id (.arr 177 (wv us)):=List.ext_getElem? fun i=>by
  rw [List.getElem?_set]
  split
  ·rename_i e;subst e
   rw [kg,if_pos (bL kg).1]
  ·rfl
 have Ki:bj (sl 177 iv 0 (m+2))=some (I (m+2:Nat)):=rfl
 rw [aB5]
 simp only [Ki,ah]
 refine dj (σ:=List Nat×Nat×Nat) (fun p=>[.int .u64 (p.2.1:Int),.int .u32 (p.2.2:Int),I p.1.length]) (fun p=>h.set id (.arr 177 (wv (mid us j p.1))))
  (fun p=>p.1.length≤m+2∧cn 4294967296 p.1∧p.2.1<4294967296∧p.2.2≤1∧val 4294967296 p.1+gs*val 4294967296 (vs.take p.1.length)=val 4294967296 (ud.take p.1.length)+(p.2.1+p.2.2)*4294967296^p.1.length) (fun p=>m+2-p.1.length)
  ([],0,0) rfl (by rw [agL];exact lZ.symm) ⟨zero_le _,fun y hy=>by simp at hy,by decide,zero_le _,by simp [val]⟩ ?_
 rintro ⟨xs,c,bo⟩ ⟨iG,lx,hc,Ro,bW⟩ L hL
 simp only at iG lx hc Ro bW hL⊢
 have wF:(h.set id (.arr 177 (wv (mid us j xs))))[id]?=some (.arr 177 (wv (mid us j xs))):=ck kg
 have Te:aP (h.set id (.arr 177 (wv (mid us j xs)))) iv=some (wv vs++rest):=by rw [DX bp];exact kv
 have EY:∀k,xs.length≤k→k≤m+2→(mid us j xs)[j+k]?=ud[k]?:=fun k h1 h2=>by rw [agK (by omega) h1,hu k h2]
 rw [aB6]
 simp only [cA,ah,bR]
 refine ⟨fun aD=>?_,fun cJ=>?_⟩
 ·have hy:xs.length<m+2:=by omega
  have SB:ud[xs.length]?=some (ud[xs.length]'(by omega)):=getElem?_eq_getElem (by omega)
  have SE:vs[xs.length]?=some (vs[xs.length]'(by omega)):=getElem?_eq_getElem (by omega)
  have bx:=lu _ (getElem_mem (l:=ud) (n:=xs.length) (by omega))
  have bv:=lv _ (getElem_mem (l:=vs) (n:=xs.length) (by omega))
  have tx:=jw 4294967296 ud (i:=xs.length) (by omega)
  have tv:=jw 4294967296 vs (i:=xs.length) (by omega)
  generalize ud[xs.length]'(by omega)=x at*
  generalize vs[xs.length]'(by omega)=v at*
  have ld:=yP wF ((EY _ (le_refl _) (by omega)).trans SB)
  have Fl:=DD Te SE
  have hgv:=Kq pZ bv
  simp only [rL (show xs.length<m+3 by omega),rL (show xs.length<m+2 by omega),zero_add,ah,ld,Fl,uh bv,ag4 (show gs*v<18446744073709551616 by omega),Zn (show gs*v+c<18446744073709551616 by omega),A2,D5]
  have lW:=div_add_mod (gs*v+c) 4294967296
  have hym:(gs*v+c)%4294967296<4294967296:=mod_lt _ (by decide)
  have hyd:(gs*v+c) / 4294967296<4294967296:=by omega
  refine Xq bx hym Ro ?_
  intro d b2 hd Eu xO
  simp only [dX,eD,eI,ah]
  rw [DE _ wF (by rw [CB (by omega)];omega),Kl (by omega),set_set]
  generalize (gs*v+c) / 4294967296=c2 at*
  generalize (gs*v+c)%4294967296=y at*
  have:=hL (xs++[d],c2,b2) ⟨by simp;omega,lx.append (fun z hz=>by simp at hz;omega),hyd,Eu,by
   simp only [length_append,length_cons,length_nil,zero_add]
   rw [od,tx,tv,pow_succ]
   simp only [val,mul_zero,add_zero]
   exact aFF bW lW xO⟩ (by simp;omega)
  simp only [aA,cf,eR xs.length (by omega),ah,true_and]
  simpa using this
 ·have hy:xs.length=m+2:=by omega
  have SB:ud[m+2]?=some (ud[m+2]'(by omega)):=getElem?_eq_getElem (by omega)
  have bx:=lu _ (getElem_mem (l:=ud) (n:=m+2) (by omega))
  have tx:=jw 4294967296 ud (i:=m+2) (by omega)
  rw [take_of_length_le (by omega)] at tx
  generalize ud[m+2]'(by omega)=x at*
  have ld:=yP wF ((EY (m+2) (by omega) (by omega)).trans SB)
  rw [aB7]
  simp only [rL (show m+2<m+3 by omega),ah,ld,D5,mod_eq_of_lt hc]
  refine Xq bx hc Ro ?_
  intro d b2 hd Eu xO
  simp only [dX,eD,eI,ah]
  have afj:=Kl (us:=us) (j:=j) (d:=d) (xs:=xs) (by omega)
  rw [hy] at afj
  rw [DE _ wF (by rw [CB (by omega)];omega),afj,set_set]
  simp only [aA]
  rw [hy,take_of_length_le (by omega:vs.length≤m+2)] at bW
  have Tw:cn 4294967296 (xs++[d]):=lx.append (fun z hz=>by simp at hz;omega)
  have p7:(xs++[d]).length=m+3:=by simp;omega
  have qW:val 4294967296 (xs++[d])+gs*val 4294967296 vs=val 4294967296 ud+b2*4294967296^(m+3):=by
   rw [od,hy,tx]
   simp only [val,mul_zero,add_zero]
   rw [aA8]
   exact aFG bW xO
  generalize xs++[d]=xn at*
  have aGW:=div_add_mod (val 4294967296 ud) (val 4294967296 vs)
  have wm:=mod_lt (val 4294967296 ud) V0
  have yh:=nD Tw
  rw [p7] at yh
  generalize hQ:val 4294967296 ud / val 4294967296 vs=Q at*
  generalize hR:val 4294967296 ud%val 4294967296 vs=R at*
  have Sf:Q<4294967296:=by omega
  have IQ:∀{a:Nat} {g:ae},a<4294967296→K (.int .u32 (a:Int)) g→FG prog K (.int .u64 (a:Int)) g:=by
   intro a g ha hK
   rw [aCa,D5,ah,mod_eq_of_lt ha]
   exact hK
  rcases (show b2=1∨b2=0 by omega) with rfl | rfl
  ·skip
   have hgV:val 4294967296 ud<gs*val 4294967296 vs:=by omega
   have Jx:gs=Q+1:=by
    have:gs<Q+2:=by
     apply byContradiction
     intro hn
     have h3:(Q+2)*val 4294967296 vs≤gs*val 4294967296 vs:=mul_le_mul_right _ (by omega)
     rw [add_mul,mul_comm Q] at h3
     omega
    have h4:gs≠Q:=by
     intro e
     rw [e,mul_comm] at hgV
     omega
    omega
   have bg:ai .gtr (.int .u32 ((1:Nat):Int)) (.int .u32 0)=some (B true):=rfl
   simp only [bg,ah,c8,adb (show 0<gs by omega) (show gs<18446744073709551616 by omega),Ki]
   refine aof (us:=mid us j xn) (xs:=xn) (ck kg) (by rw [DX bp];exact kv) bp hn hm p7 (by rw [CB (by omega)];omega) (fun k hk=>aAf (by omega) (by omega)) Tw lv ?_
   intro ys kD ly Ak
   rw [set_set,aAe (by omega) (by omega)]
   have qY:=nD ly
   rw [kD] at qY
   have R5:gs*val 4294967296 vs=val 4294967296 vs*(Q)+val 4294967296 vs:=by rw [Jx,add_mul,mul_comm Q];omega
   have hyr:val 4294967296 ys=R:=by
    rw [Nat.one_mul] at qW
    rcases Ak with Ak | Ak <;> omega
   rw [show gs-1=Q by omega]
   exact IQ Sf (hk ys kD ly hyr)
  ·have Jx:gs=Q:=by
    have:gs≤Q:=by rw [←hQ];exact (Nat.le_div_iff_mul_le V0).2 (by omega)
    omega
   have bg:ai .gtr (.int .u32 ((0:Nat):Int)) (.int .u32 0)=some (B false):=rfl
   simp only [bg,ah,dF]
   have hxr:val 4294967296 xn=R:=by
    rw [Jx,mul_comm] at qW
    omega
   rw [Jx]
   exact IQ Sf (hk xn p7 Tw hxr)
end
end
section
theorem aw6 (a b:Nat):ai .gtr (.int .u64 (a:Int)) (.int .u64 (b:Int))=some (B (decide (b<a))):=by
 rw [fG];congr 2;rw [decide_eq_decide];omega
theorem aeE {a:Nat}:ai .gtr (.int .u64 ((a / 4294967296:Nat):Int)) (.int .u64 0)=some (B (decide (4294967296≤a))):=by
 rw [fG];congr 2;rw [decide_eq_decide]
 have:4294967296≤a↔0<a / 4294967296:=by omega
 rw [this]
 omega
section
variable {h : ae} {K : Value → ae → Prop} {id iv j m : Nat} {us vs ud : List Nat} {rest : List Value}
theorem aoe {v1:Nat} (kg:h[id]?=some (.arr 177 (wv us))) (kv:aP h iv=some (wv vs++rest)) (bp:iv≠id) (hn:vs.length=m+2) (hm:m≤1000) (hx:ud.length=m+3) (hj:j+(m+3)≤us.length)
  (hu:∀k,k≤m+2→us[j+k]?=ud[k]?) (lu:cn 4294967296 ud) (lv:cn 4294967296 vs) (so:vs[m+1]?=some v1) (jD:2147483648≤v1) (uA:val 4294967296 ud<val 4294967296 vs*4294967296)
  (hk:∀rs,rs.length=m+3→cn 4294967296 rs→val 4294967296 rs=val 4294967296 ud%val 4294967296 vs→K (.int .u32 ((val 4294967296 ud / val 4294967296 vs:Nat):Int)) (h.set id (.arr 177 (wv (mid us j rs))))):
  ak prog 137 [sl 177 id j (m+3),sl 177 iv 0 (m+2)] h K:=by
 obtain ⟨ul,sm,eU⟩:=aF8 lu hx
 obtain ⟨vl,sr,eV⟩:=aF9 lv hn
 have hu0:us[j+m]?=some (ud[m]'(by omega)):=by rw [hu m (by omega)];exact getElem?_eq_getElem _
 have hu1:us[j+(m+1)]?=some (ud[m+1]'(by omega)):=by rw [hu (m+1) (by omega)];exact getElem?_eq_getElem _
 have qj:us[j+(m+2)]?=some (ud[m+2]'(by omega)):=by rw [hu (m+2) (by omega)];exact getElem?_eq_getElem _
 have b0:=lu _ (getElem_mem (l:=ud) (n:=m) (by omega))
 have b1:=lu _ (getElem_mem (l:=ud) (n:=m+1) (by omega))
 have b2:=lu _ (getElem_mem (l:=ud) (n:=m+2) (by omega))
 have JT:vs[m]?=some (vs[m]'(by omega)):=getElem?_eq_getElem _
 have c0:=lv _ (getElem_mem (l:=vs) (n:=m) (by omega))
 have c1:=lv _ (getElem_mem (l:=vs) (n:=m+1) (by omega))
 have e1:vs[m+1]'(by omega)=v1:=by
  rw [getElem?_eq_getElem (by omega)] at so
  injection so
 rw [e1] at c1 eV
 generalize ud[m]'(by omega)=t0 at*
 generalize ud[m+1]'(by omega)=t1 at*
 generalize ud[m+2]'(by omega)=t2 at*
 generalize vs[m]'(by omega)=v2 at*
 have hP:0<4294967296^m:=pow_pos (by decide)
 have adC:t1+t2*4294967296=t2*4294967296+t1:=Nat.add_comm ..
 rw [adC] at eU
 have V0:0<val 4294967296 vs:=by
  apply Nat.pos_of_ne_zero
  intro e
  rw [e,Nat.zero_mul] at uA
  omega
 have ET:=aFT (by decide) eU adC.symm eV sr c0 uA
 have axr:=aw8 eU sm b0 eV (by omega)
 have oQ:=yP kg hu0
 have rh:=yP kg hu1
 have wI:=yP kg qj
 have lv0:=DD kv JT
 have lv1:=DD kv so
 have Ki:bj (sl 177 iv 0 (m+2))=some (I (m+2:Nat)):=rfl
 have s1:ai .sub (I (m+2:Nat)) (.int .i64 1)=some (I (m+1:Nat)):=by rw [gE,wrap64 (by omega) (by omega)];congr 2;omega
 have s2:ai .sub (I (m+2:Nat)) (.int .i64 2)=some (I (m:Nat)):=by rw [gE,wrap64 (by omega) (by omega)];congr 2;omega
 have EU:t2*4294967296+t1<18446744073709551616:=by omega
 refine f137 ?_
 unfold Ob
 simp only [Ki,ah,rL (show m+2<m+3 by omega),wI,true_and,uh b2,LF b2,s1,rL (show m+1<m+3 by omega),rh,uh b1,KC b2 b1,rL (show m+1<m+2 by omega),zero_add,lv1,uh c1,amP (show v1≠0 by omega) EU,aEv (show v1≠0 by omega) EU]
 generalize tB:t2*4294967296+t1=top at*
 have lW:=div_add_mod top v1
 have wm:=mod_lt top (show 0<v1 by omega)
 have hg0:top / v1≤4294967297:=by
  have:top / v1<4294967298:=by
   rw [Nat.div_lt_iff_lt_mul (by omega)]
   omega
  omega
 refine dj (σ:=Nat×Nat) (fun p=>[.int .u64 (p.1:Int),.int .u64 (p.2:Int)]) (fun _=>h) (fun p=>p.1*v1+p.2=top∧p.2<4294967296∧p.1≤4294967297∧val 4294967296 ud / val 4294967296 vs≤p.1) (fun p=>4294967296-p.2)
  (top / v1,top%v1) rfl rfl ⟨by show top / v1*v1+top%v1=top;rw [mul_comm];exact lW,by show top%v1<4294967296;omega,hg0,axr⟩ ?_
 rintro ⟨g,r⟩ ⟨zN,hr,hg,hq⟩ L hL
 simp only at zN hr hg hq hL⊢
 have down:(4294967296≤g∨r*4294967296+t0<g*v2)→(OP (ai .sub (.int .u64 (g:Int)) (.int .u64 (1))) fun m9=>
   OP (ai .sub (I (m+2:Nat)) (.int .i64 (1))) fun jT=>
   OP (bf 1 (sl 177 iv 0 (m+2)) jT) fun jU=>
   OP (af false 1 h jU) fun kK=>
   OP (dA .u64 kK) fun jk=>
   OP (ai .add (.int .u64 (r:Int)) jk) fun fK=>
   OP (ai .shr fK (.int .u64 (32))) fun rG=>
   OP (ai .gtr rG (.int .u64 (0))) fun jV=>
   aR jV
    (yr prog K (sl 177 id j (m+3)) (sl 177 iv 0 (m+2)) (I (m+2:Nat)) m9 h)
    (([sl 177 id j (m+3),sl 177 iv 0 (m+2),I (m+2:Nat)]:List Value)=[sl 177 id j (m+3),sl 177 iv 0 (m+2),I (m+2:Nat)]∧L [m9,fK] h)):=by
  intro mN
  have hd:=aw7 eU sm eV uA zN hq mN
  have hY:0<g:=by generalize val 4294967296 ud / val 4294967296 vs=Q at*;omega
  have hq1:val 4294967296 ud / val 4294967296 vs≤g-1:=by generalize val 4294967296 ud / val 4294967296 vs=Q at*;omega
  have aeB:(g-1)*v1+(r+v1)=top:=by
   rw [Nat.sub_mul,Nat.one_mul]
   have:v1≤g*v1:=Nat.le_mul_of_pos_left v1 hY
   omega
  simp only [adb hY (show g<18446744073709551616 by omega),ah,s1,rL (show m+1<m+2 by omega),zero_add,lv1,uh c1,Zn (show r+v1<18446744073709551616 by omega),A2,aeE,bR]
  refine ⟨fun cJ=>?_,fun aD=>⟨trivial,hL (g-1,r+v1) ⟨aeB,by show r+v1<4294967296;omega,by show g-1≤4294967297;omega,hq1⟩ (by show 4294967296-(r+v1)<4294967296-r;omega)⟩⟩
  have pZ:g-1<4294967296:=by
   apply byContradiction
   intro hn
   have h3:4294967296*v1≤(g-1)*v1:=mul_le_mul_right _ (by omega)
   have h4:t2*4294967296≤v1*4294967296:=mul_le_mul_right _ ET
   omega
  refine Xs kg kv bp hn hm hx hj hu lu lv pZ hq1 (ad5 eU eV sr (by omega) aeB pZ ?_) V0 hk
  have h5:=Kq pZ c0
  have h6:4294967296*4294967296≤(r+v1)*4294967296:=mul_le_mul_right _ cJ
  omega
 have last:g<4294967296→g*v2≤r*4294967296+t0→yr prog K (sl 177 id j (m+3)) (sl 177 iv 0 (m+2)) (I (m+2:Nat)) (.int .u64 (g:Int)) h:=fun pZ aE=>
  Xs kg kv bp hn hm hx hj hu lu lv pZ hq (ad5 eU eV sr (by omega) zN pZ aE) V0 hk
 rw [aCb]
 simp only [A2,ah,aeE]
 by_cases pZ:4294967296≤g
 ·rw [aU pZ]
  simp only [fw,dZ,ah,c8]
  simpa only [true_and] using down (.inl pZ)
 ·rw [aS pZ]
  have aez:g<4294967296:=by omega
  have hgv:=Kq aez c0
  simp only [dR,s2,ah,rL (show m<m+2 by omega),rL (show m<m+3 by omega),zero_add,lv0,oQ,true_and,uh c0,uh b0,ag4 (show g*v2<18446744073709551616 by omega),LF hr,KC hr b0,aw6,cK,bR]
  exact ⟨fun mN=>by simpa only [true_and] using down (.inr mN),fun aE=>last aez (by omega)⟩
end
end
section
theorem Wg (k k2:IntKind) {s n:Nat} (hn:n≤k.bits) (hb:n<1000):ai .shr (.int k (s:Int)) (.int k2 (n:Int))=some (.int k ((s / 2^n:Nat):Int)):=by
 simp only [ai,q8]
 rw [if_neg (by omega)]
 have:min ((n:Int).toNat) k.bits=n:=by omega
 rw [this,Int.fdiv_eq_ediv_of_nonneg _ (by have:(0:Int)<2^n:=Int.pow_pos (by decide);omega)]
 congr 2
theorem aFq (k2:IntKind) {x n:Nat} (hn:n<32) (hx:x<4294967296):ai .shl (.int .u64 (x:Int)) (.int k2 (n:Int))=some (.int .u64 ((x*2^n:Nat):Int)):=by
 have h2:2^n≤2^31:=pow_le_pow_right (by decide) (by omega)
 have h3:x*2^n≤4294967295*2^31:=Nat.mul_le_mul (by omega) h2
 have h4:x*2^n<18446744073709551616:=by omega
 simp only [ai,q8]
 rw [if_neg (by omega)]
 have:min ((n:Int).toNat) IntKind.u64.bits=n:=by
  have:IntKind.u64.bits=64:=rfl
  omega
 have e:(x:Int)*2^n=((x*2^n:Nat):Int):=by simp
 rw [this,e,lB (by omega) (by omega)]
theorem aAM {s a q:Nat} (hs:s≤31) (ha:a<2^s) (hq:2^s*q<4294967296):ai .or (.int .u32 (a:Int)) (.int .u32 ((2^s*q:Nat):Int))=some (.int .u32 ((2^s*q+a:Nat):Int)):=by
 have h2:2^s≤2^31:=pow_le_pow_right (by decide) hs
 have JS:2^s*q+a<4294967296:=by
  have h3:q<2^(32-s):=by
   apply byContradiction
   intro hn
   have:2^s*2^(32-s)≤2^s*q:=mul_le_mul_left _ (by omega)
   rw [←pow_add,show s+(32-s)=32 by omega] at this
   omega
  have h4:2^s*(q+1)≤2^s*2^(32-s):=mul_le_mul_left _ (by omega)
  rw [←pow_add,show s+(32-s)=32 by omega,mul_add] at h4
  omega
 have e:(BitVec.ofInt IntKind.u32.bits (a:Int) ||| BitVec.ofInt IntKind.u32.bits ((2^s*q:Nat):Int)).toNat=2^s*q+a:=by
  show (BitVec.ofInt 32 (a:Int) ||| BitVec.ofInt 32 ((2^s*q:Nat):Int)).toNat=_
  rw [BitVec.ofInt_natCast,BitVec.ofInt_natCast,BitVec.toNat_or,BitVec.toNat_ofNat,BitVec.toNat_ofNat,mod_eq_of_lt (by omega),mod_eq_of_lt (by omega),Nat.or_comm]
  exact (Nat.two_pow_add_eq_or_of_lt ha q).symm
 simp only [ai,hZ,if_true]
 rw [e,oT (by omega) (by omega)]
def qp (x:Nat):Nat:=if x=0 then 0 else x.log2+1
def Wx:Value:=(.string ⟨#[0,1,2,2,3,3,3,3,4,4,4,4,4,4,4,4,5,5,5,5,5,5,5,5,5,5,5,5,5,5,5,5,6,6,6,6,6,6,6,6,6,6,6,6,6,6,6,6,6,6,6,6,6,6,6,6,6,6,6,6,6,6,6,6,7,7,7,7,7,7,7,7,7,7,7,7,7,7,7,7,7,7,7,7,7,7,7,7,7,7,7,7,7,7,7,7,7,7,7,7,7,7,7,7,7,7,7,7,7,7,7,7,7,7,7,7,7,7,7,7,7,7,7,7,7,7,7,7,8,8,8,8,8,8,8,8,8,8,8,8,8,8,8,8,8,8,8,8,8,8,8,8,8,8,8,8,8,8,8,8,8,8,8,8,8,8,8,8,8,8,8,8,8,8,8,8,8,8,8,8,8,8,8,8,8,8,8,8,8,8,8,8,8,8,8,8,8,8,8,8,8,8,8,8,8,8,8,8,8,8,8,8,8,8,8,8,8,8,8,8,8,8,8,8,8,8,8,8,8,8,8,8,8,8,8,8,8,8,8,8,8,8,8,8,8,8,8,8,8,8,8,8,8,8,8,8]⟩)
theorem aFO:((List.range 256).map fun x:Nat=>j7 Wx (.int .u8 (x:Int)))=(List.range 256).map fun x:Nat=>some (.int .u8 (qp x:Int)):=by kernel_rfl
theorem aFP {x:Nat} (h:x<256):j7 Wx (.int .u8 (x:Int))=some (.int .u8 (qp x:Int)):=by
 have:=congrArg (fun l=>l[x]?) aFO
 simpa [h] using this
theorem azX {x:Nat} (h:0<x):1≤qp x∧2^(qp x-1)≤x∧x<2^qp x:=by
 unfold qp
 rw [if_neg (by omega)]
 refine ⟨by omega,?_,Nat.lt_log2_self⟩
 rw [Nat.add_sub_cancel]
 exact Nat.log2_self_le (by omega)
theorem aoi {x:Nat} {h:ae} {K:Value→ae→Prop} (h0:0<x) (hx:x<4294967296) (hk:∀n:Nat,1≤n→n≤32→2^(n-1)≤x→x<2^n→K (I n) h):ak prog 141 [.int .u32 (x:Int)] h K:=by
 refine f141 ?_
 have last:∀{y n0:Nat},0<y→y<256→n0≤24→2^n0*y≤x→x<2^n0*(y+1)→KR prog K (.int .u32 (y:Int)) (I n0) h:=by
  intro y n0 y0 aGE oK eQ jD
  rw [aCl]
  have cv:dA .u8 (.int .u32 (y:Int))=some (.int .u8 (y:Int)):=by
   rw [jY];congr 2
   have e:IntKind.wrap .u8 (y:Int)=(y:Int)%256:=by simp [IntKind.wrap,IntKind.bits,IntKind.signed]
   rw [e];omega
  obtain ⟨l1,l2,l3⟩:=azX y0
  have l8:qp y≤8:=by
   apply byContradiction
   intro hn
   have:2^8≤2^(qp y-1):=pow_le_pow_right (by decide) (by omega)
   omega
  have ix:=aFP aGE
  have w1:dA .i64 (.int .u8 (qp y:Int))=some (I (qp y)):=by rw [jY,wrap64 (by omega) (by omega)]
  have w2:ai .add (I n0) (I (qp y))=some (I (n0+qp y:Nat)):=by rw [cf,wrap64 (by omega) (by omega)];congr 2 <;> omega
  unfold Wx at ix
  rw [cv,ah,ix,ah,w1,ah,w2,ah]
  refine hk _ (by omega) (by omega) ?_ ?_
  ·rw [show n0+qp y-1=n0+(qp y-1) by omega,pow_add]
   exact Nat.le_trans (mul_le_mul_left _ l2) eQ
  ·rw [pow_add]
   exact lt_of_lt_of_le jD (mul_le_mul_left _ l3)
 have mid:∀{y n0:Nat},0<y→y<65536→n0≤16→2^n0*y≤x→x<2^n0*(y+1)→KQ prog K (.int .u32 (y:Int)) (I n0) h:=by
  intro y n0 y0 y65 oK eQ jD
  rw [aCk]
  simp only [nk,ah,bR]
  refine ⟨fun cJ=>?_,fun aD=>last y0 (by omega) (by omega) eQ jD⟩
  have sh:ai .shr (.int .u32 (y:Int)) (.int .u64 8)=some (.int .u32 ((y / 2^8:Nat):Int)):=Wg .u32 .u64 (n:=8) (by decide) (by decide)
  have w2:ai .add (I n0) (.int .i64 8)=some (I (n0+8:Nat)):=by rw [cf,wrap64 (by omega) (by omega)];congr 2
  simp only [sh,ah,w2]
  have lW:=div_add_mod y 256
  have wm:=mod_lt y (show 0<256 by decide)
  refine last (y:=y / 2^8) (by omega) (by omega) (by omega) ?_ ?_
  ·rw [pow_add,mul_assoc]
   exact Nat.le_trans (mul_le_mul_left _ (by omega)) eQ
  ·rw [pow_add,mul_assoc]
   exact lt_of_lt_of_le jD (mul_le_mul_left _ (by omega))
 unfold Of
 simp only [nk,ah,bR]
 refine ⟨fun cJ=>?_,fun aD=>mid (n0:=0) h0 (by omega) (by decide) (by simp) (by simp)⟩
 have sh:ai .shr (.int .u32 (x:Int)) (.int .u64 16)=some (.int .u32 ((x / 2^16:Nat):Int)):=Wg .u32 .u64 (n:=16) (by decide) (by decide)
 simp only [sh,ah]
 have lW:=div_add_mod x 65536
 have wm:=mod_lt x (show 0<65536 by decide)
 exact mid (n0:=16) (y:=x / 2^16) (by omega) (by omega) (by decide) (by omega) (by omega)
theorem aod {x:Nat} {h:ae} {K:Value→ae→Prop} (h0:0<x) (hx:x<4294967296) (hk:∀s:Nat,s≤31→2147483648≤x*2^s→x*2^s<4294967296→K (I s) h):ak prog 135 [.int .u32 (x:Int)] h K:=by
 refine f135 ?_
 unfold N9
 refine aoi h0 hx ?_
 intro n h1 h32 eQ jD
 have e:ai .sub (.int .i64 32) (I n)=some (I (32-n:Nat)):=by rw [gE,wrap64 (by omega) (by omega)];congr 2;omega
 simp only [e,ah]
 have p1:2^(n-1)*2^(32-n)=2147483648:=by rw [←pow_add,show n-1+(32-n)=31 by omega]
 have p2:2^n*2^(32-n)=4294967296:=by rw [←pow_add,show n+(32-n)=32 by omega]
 refine hk _ (by omega) ?_ ?_
 ·rw [←p1];exact mul_le_mul_right _ eQ
 ·rw [←p2];exact Nat.mul_lt_mul_of_pos_right jD (pow_pos (by decide))
end
section
theorem Le {s:Nat} (hs:s≤31):(4294967296:Nat)=2^s*2^(32-s):=by rw [←pow_add,show s+(32-s)=32 by omega]
theorem aF3 {s x:Nat} (hs:s≤31) (hx:x<4294967296):(∃q,x*2^s%4294967296=2^s*q)∧x*2^s / 4294967296<2^s:=by
 have e:=Le hs
 have p0:0<2^s:=pow_pos (by decide)
 refine ⟨⟨x%2^(32-s),?_⟩,?_⟩
 ·rw [e,mul_comm x,Nat.mul_mod_mul_left]
 ·rw [Nat.div_lt_iff_lt_mul (by decide),mul_comm x]
  exact Nat.mul_lt_mul_of_pos_left hx p0
theorem aF4 {P c t d e X Y:Nat} (h1:X+P*c=Y+P*(d+c)) (h2:4294967296*e+d=t):X+P*4294967296*e=Y+P*t:=by
 rw [←h2]
 grind
theorem Xr {v:Value} {xs:List Nat} {s:Nat} {h:ae} {K:Value→ae→Prop} (hx:DS 177 .u32 h v xs) (lx:cn 4294967296 xs) (hs:s≤31) (hl:xs.length≤200)
  (hk:∀os,os.length=xs.length+1→cn 4294967296 os→val 4294967296 os=val 4294967296 xs*2^s→K (sl 177 h.length 0 (xs.length+1)) (hd h os)):ak prog 136 [v,I s] h K:=by
 refine f136 ?_
 have e1:IntKind.wrap .i64 ((xs.length:Int)+1)=((xs.length+1:Nat):Int):=by rw [wrap64 (by omega) (by omega)];omega
 simp only [Oa,hx.len,ah,cf,e1,AG (show xs.length+1≤1000 by omega),aA]
 have p0:0<2^s:=pow_pos (by decide)
 refine dj (σ:=List Nat×Nat) (fun p=>[I p.2]) (fun p=>hd h p.1) (fun p=>p.2≤xs.length∧p.1.length=xs.length+1∧cn 4294967296 p.1∧val 4294967296 p.1=val 4294967296 (xs.take p.2)*2^s∧
   (∀k,p.2<k→k≤xs.length→p.1[k]?=some 0)∧∃c,p.1[p.2]?=some c∧c<2^s) (fun p=>xs.length-p.2)
  (replicate (xs.length+1) 0,0) rfl rfl ⟨zero_le _,by simp,cn.xe (by decide) _,by simp [yz,val],fun k _ (h2:k≤xs.length)=>by rw [List.getElem?_replicate,if_pos (by omega)],0,by simp,p0⟩ ?_
 rintro ⟨os,i⟩ ⟨hi,hX,lo,bW,hz,c,hc,qH⟩ L hL
 simp only at hi hX lo bW hz hc qH hL⊢
 rw [aB4]
 simp only [cA,ah,bR]
 refine ⟨fun aD=>?_,fun cJ=>?_⟩
 ·have bC:i<xs.length:=by omega
  obtain ⟨b,r1,r2⟩:=hx.get bC
  have yh:=lx _ (getElem_mem bC)
  have tx:=jw 4294967296 xs bC
  have VN:af false 1 (hd h os) (pt b i)=some (.int .u32 (xs[i]:Int)):=(kS h os).load r2
  generalize xs[i]=x at*
  obtain ⟨⟨q,hq⟩,EP⟩:=aF3 hs yh
  have hcv:os[i]'(by omega)=c:=by
   rw [getElem?_eq_getElem (by omega)] at hc
   injection hc
  have ld:=aer (h:=h) (os:=os) (j:=i) (by omega)
  rw [hcv] at ld
  have hqb:2^s*q<4294967296:=by rw [←hq];exact mod_lt _ (by decide)
  have hqc:2^s*q+c<4294967296:=by
   have e:=Le hs
   have h3:q<2^(32-s):=by
    apply byContradiction
    intro hn
    have:2^s*2^(32-s)≤2^s*q:=mul_le_mul_left _ (by omega)
    omega
   have h4:2^s*(q+1)≤2^s*2^(32-s):=mul_le_mul_left _ (by omega)
   rw [mul_add] at h4
   omega
  have ea:bf 1 (sl 177 h.length 0 (xs.length+1)) (I i)=some (pt h.length i):=lP (by omega)
  have ea2:bf 1 (sl 177 h.length 0 (xs.length+1)) (I (i+1:Nat))=some (pt h.length (i+1)):=lP (by omega)
  have JD:=div_add_mod (x*2^s) 4294967296
  have pv:x*2^s / 4294967296<4294967296:=by
   have:2^s≤2^31:=pow_le_pow_right (by decide) hs
   omega
  have wi:IntKind.wrap .i64 ((i:Int)+1)=((i+1:Nat):Int):=by rw [wrap64 (by omega) (by omega)];omega
  simp only [r1,VN,ah,uh yh,aFq .i64 (show s<32 by omega) yh,ea,ld,D5,hq,aAM hs qH hqb,wa _ (show i<os.length by omega),aA,cf,wi,A2,ea2,mod_eq_of_lt pv,
   wa _ (show i+1<(os.set i (2^s*q+c)).length by rw [length_set];omega),true_and]
  have v1:=tT 4294967296 os i (2^s*q+c) (by omega)
  have v2:=tT 4294967296 (os.set i (2^s*q+c)) (i+1) (x*2^s / 4294967296) (by rw [length_set];omega)
  have qm:=hz (i+1) (by omega) (by omega)
  have oN:(os.set i (2^s*q+c))[i+1]'(by rw [length_set];omega)=0:=by
   rw [List.getElem_set_ne (by omega)]
   rw [getElem?_eq_getElem (by omega)] at qm
   injection qm
  rw [hcv] at v1
  rw [oN,mul_zero,add_zero,pow_succ] at v2
  rw [hq] at JD
  refine hL ((os.set i (2^s*q+c)).set (i+1) (x*2^s / 4294967296),i+1) ⟨by show i+1≤_;omega,by simp [hX],(lo.set hqc i).set pv (i+1),?_,fun k h1 h2=>?_,_,List.getElem?_set_self (by rw [length_set];omega),EP⟩ (by show xs.length-(i+1)<xs.length-i;omega)
  ·show val 4294967296 ((os.set i (2^s*q+c)).set (i+1) (x*2^s / 4294967296))=val 4294967296 (xs.take (i+1))*2^s
   rw [v2,aF4 v1 JD,tx,add_mul,←bW,mul_assoc (4294967296^i) x]
  ·have h1:i+1<k:=h1
   rw [getElem?_set_ne (by omega),getElem?_set_ne (by omega)]
   exact hz k (by omega) h2
 ·have fH:i=xs.length:=by omega
  subst fH
  rw [List.take_length] at bW
  rw [aB3]
  exact hk os hX lo bW
theorem Ma (B:Nat) (xs:List Nat) {i:Nat} (hi:i≤xs.length):val B xs=val B (xs.take i)+B^i*val B (xs.drop i):=by
 have:=od B (xs.take i) (xs.drop i)
 rwa [List.take_append_drop,length_take,min_eq_left hi] at this
theorem avw {s x y Z:Nat} (hs:s≤31):(x+4294967296*(y+4294967296*Z)) / 2^s%4294967296=(x+y*4294967296) / 2^s%4294967296:=by
 have e:=Le hs
 have p0:0<2^s:=pow_pos (by decide)
 have:x+4294967296*(y+4294967296*Z)=x+y*4294967296+2^s*(4294967296*(2^(32-s)*Z)):=by
  generalize 2^s=a at*
  generalize 2^(32-s)=b at*
  grind
 rw [this,Nat.add_mul_div_left _ _ p0,Nat.add_mul_mod_self_left]
theorem aog {v:Value} {xs:List Nat} {s:Nat} {h:ae} {K:Value→ae→Prop} (hx:DS 177 .u32 h v xs) (lx:cn 4294967296 xs) (hs:s≤31) (hl:xs.length≤200)
  (hk:∀v' h',EX h h'→dJ h' v' (val 4294967296 xs / 2^s)→K v' h'):ak prog 138 [v,I s] h K:=by
 refine f138 ?_
 simp only [Oc,hx.len,ah,AG (show xs.length≤1000 by omega),aA]
 refine dj (σ:=List Nat×Nat) (fun p=>[I p.2]) (fun p=>hd h p.1) (fun p=>p.2≤xs.length∧p.1.length=xs.length∧cn 4294967296 p.1∧val 4294967296 p.1=val 4294967296 xs / 2^s%4294967296^p.2∧
   ∀k,p.2≤k→k<xs.length→p.1[k]?=some 0) (fun p=>xs.length-p.2)
  (replicate xs.length 0,0) rfl rfl ⟨zero_le _,by simp,cn.xe (by decide) _,by simp [yz,Nat.mod_one],fun k _ (h2:k<xs.length)=>by rw [List.getElem?_replicate,if_pos h2]⟩ ?_
 rintro ⟨os,i⟩ ⟨hi,hX,lo,bW,hz⟩ L hL
 simp only at hi hX lo bW hz hL⊢
 rw [aCf]
 simp only [cA,ah,bR]
 refine ⟨fun aD=>?_,fun cJ=>?_⟩
 ·have bC:i<xs.length:=by omega
  obtain ⟨b,r1,r2⟩:=hx.get bC
  have yh:=lx _ (getElem_mem bC)
  have VN:af false 1 (hd h os) (pt b i)=some (.int .u32 (xs[i]:Int)):=(kS h os).load r2
  have wi:IntKind.wrap .i64 ((i:Int)+1)=((i+1:Nat):Int):=by rw [wrap64 (by omega) (by omega)];omega
  have ea:bf 1 (sl 177 h.length 0 xs.length) (I i)=some (pt h.length i):=lP (by omega)
  -- vf gN IK is
  have fin:∀t:Nat,t / 2^s%4294967296=val 4294967296 (xs.drop i) / 2^s%4294967296→KO prog K v (I s) (sl 177 h.length 0 xs.length) (I i) (.int .u64 (t:Int)) (I xs.length) (I i) L (hd h os):=by
   intro t ht
   rw [aCc]
   simp only [Wg .u64 .i64 (s:=t) (n:=s) (by have:IntKind.u64.bits=64:=rfl;omega) (by omega),ah,D5,ea,wa _ (show i<os.length by omega),aA,aCd,cf,wi,true_and]
   have pv:t / 2^s%4294967296<4294967296:=mod_lt _ (by decide)
   refine hL (os.set i (t / 2^s%4294967296),i+1) ⟨by show i+1≤_;omega,by simp [hX],lo.set pv i,?_,fun k h1 h2=>?_⟩ (by show xs.length-(i+1)<xs.length-i;omega)
   ·show val 4294967296 (os.set i (t / 2^s%4294967296))=val 4294967296 xs / 2^s%4294967296^(i+1)
    have v1:=tT 4294967296 os i (t / 2^s%4294967296) (by omega)
    have qm:=hz i (le_refl _) bC
    have oN:os[i]'(by omega)=0:=by
     rw [getElem?_eq_getElem (by omega)] at qm
     injection qm
    rw [oN,mul_zero,add_zero,bW] at v1
    rw [v1,ht,Nat.mod_pow_succ,Nat.div_div_eq_div_mul,mul_comm (2^s),←Nat.div_div_eq_div_mul]
    congr 3
    rw [Ma 4294967296 xs hi]
    have tm:=nD (xs:=xs.take i) (lx.mono fun y hy=>mem_of_mem_take hy)
    rw [length_take,min_eq_left hi] at tm
    have hB:0<4294967296^i:=pow_pos (by decide)
    rw [Nat.add_mul_div_left _ _ hB,Nat.div_eq_of_lt tm,zero_add]
   ·have h1:i+1≤k:=h1
    rw [getElem?_set_ne (by omega)]
    exact hz k (by omega) h2
  have ed:xs.drop i=xs[i]::xs.drop (i+1):=List.drop_eq_getElem_cons bC
  simp only [r1,VN,ah,uh yh,cf,wi,hx.len,cA,bR]
  refine ⟨fun jZ=>?_,fun Jw=>?_⟩
  ·have RK:i+1<xs.length:=by omega
   obtain ⟨b2,s1,s2⟩:=hx.get RK
   have qY:=lx _ (getElem_mem RK)
   have s2':af false 1 (hd h os) (pt b2 (i+1))=some (.int .u32 (xs[i+1]:Int)):=(kS h os).load s2
   have eor:ai .or (.int .u64 (xs[i]:Int)) (.int .u64 ((xs[i+1]*4294967296:Nat):Int))=some (.int .u64 ((xs[i]+xs[i+1]*4294967296:Nat):Int)):=by
    have:=KC qY yh
    simp only [ai,hZ,if_true] at this⊢
    rw [BitVec.or_comm,this,Nat.add_comm]
   simp only [s1,s2',ah,uh qY,LF qY,eor]
   refine fin _ ?_
   rw [ed,List.drop_eq_getElem_cons RK]
   simp only [val]
   rw [avw hs]
  ·refine fin _ ?_
   rw [ed,List.drop_eq_nil_of_le (by omega)]
   simp [val]
 ·have fH:i=xs.length:=by omega
  subst fH
  have aD:val 4294967296 xs / 2^s<4294967296^xs.length:=Nat.lt_of_le_of_lt (Nat.div_le_self ..) (nD lx)
  rw [mod_eq_of_lt aD] at bW
  rw [aCe]
  have xP:DS 177 .u32 (hd h os) (sl 177 h.length 0 xs.length) os:=by rw [←hX];exact zG h os
  refine sQ xP lo (by omega) ?_
  intro v' kW
  rw [bW] at kW
  exact hk v' _ (kS h os) kW
end
section
theorem avt {A Q V low D P:Nat} (hA:A=low+P*D+Q*V):A=low+P*(D%V)+(Q+P*(D / V))*V:=by
 have:=div_add_mod D V
 have e:P*(V*(D / V)+D%V)=P*D:=by rw [this]
 rw [hA,add_mul]
 have e2:P*(V*(D / V)+D%V)=P*(D / V)*V+P*(D%V):=by grind
 omega
theorem aFQ {B n U l d:Nat} (h:U=l+B^n*d) (hU:U<B^n):d=0:=by
 apply byContradiction
 intro bp
 have:B^n*1≤B^n*d:=mul_le_mul_left _ (by omega)
 generalize B^n=Z at*
 omega
theorem aFU {B j m U V L D X T:Nat} (h1:U=L+B^j*D) (h2:D=X+B^(m+3)*T) (hV:V<B^(m+2)) (hB:0<B) (aD:U<V*B^(j+1)):T=0:=by
 apply byContradiction
 intro bp
 have a1:B^(m+3)*1≤B^(m+3)*T:=mul_le_mul_left _ (by omega)
 have a2:B^j*B^(m+3)≤B^j*D:=mul_le_mul_left _ (by rw [h2];generalize B^(m+3)*T=z at*;omega)
 have a3:V*B^(j+1)<B^(m+2)*B^(j+1):=Nat.mul_lt_mul_of_pos_right hV (pow_pos hB)
 rw [←pow_add] at a2 a3
 rw [show m+2+(j+1)=j+(m+3) by omega] at a3
 generalize B^(j+(m+3))=z at*
 generalize V*B^(j+1)=w at*
 generalize B^j*D=y at*
 omega
theorem arH {B j V L D U:Nat} (h1:U=L+B^j*D) (aD:U<V*B^(j+1)):D<V*B:=by
 apply byContradiction
 intro bp
 have a1:B^j*(V*B)≤B^j*D:=mul_le_mul_left _ (by omega)
 have a2:V*B^(j+1)=B^j*(V*B):=by
  rw [pow_succ]
  generalize B^j=z
  rw [←mul_assoc,mul_comm _ z,mul_assoc]
 rw [a2] at aD
 generalize B^j*(V*B)=w at*
 generalize B^j*D=y at*
 omega
theorem azW {B j L r V:Nat} (hL:L<B^j) (hr:r<V):L+B^j*r<V*B^j:=by
 have:B^j*(r+1)≤B^j*V:=mul_le_mul_left _ hr
 rw [mul_add,Nat.mul_one] at this
 rw [mul_comm V]
 generalize B^j*V=w at*
 generalize B^j*r=y at*
 generalize B^j=z at*
 omega
theorem aAt {n b s top:Nat} {vs ys:List Nat} (cv:dE 4294967296 vs) (ly:cn 4294967296 ys) (hn:ys.length=n+1) (tB:ys[n]?=some top) (hb:val 4294967296 ys=b) (hv:val 4294967296 vs=b*2^s) (hs:s≤31) (h1:2147483648≤top*2^s) (h2:top*2^s<4294967296):
  vs.length=n+1∧∃v1,vs[n]?=some v1∧2147483648≤v1:=by
 have te:ys[n]'(by omega)=top:=by
  rw [getElem?_eq_getElem (by omega)] at tB
  injection tB
 have tv:=jw 4294967296 ys (i:=n) (by omega)
 rw [take_of_length_le (by omega),te,hb] at tv
 have tm:=nD (xs:=ys.take n) (ly.mono fun y hy=>mem_of_mem_take hy)
 rw [length_take,min_eq_left (by omega)] at tm
 generalize val 4294967296 (ys.take n)=l at*
 have hP:0<4294967296^n:=pow_pos (by decide)
 have eQ:2147483648*4294967296^n≤b*2^s:=by
  have e1:top*2^s*4294967296^n≤b*2^s:=by
   rw [tv,add_mul]
   have:4294967296^n*top*2^s=top*2^s*4294967296^n:=by
    rw [mul_assoc,mul_comm]
   omega
  exact Nat.le_trans (mul_le_mul_right _ h1) e1
 have jD:b*2^s<4294967296^(n+1):=by
  have e:=Le hs
  have p0:0<2^s:=pow_pos (by decide)
  have t1:top+1≤2^(32-s):=by
   apply byContradiction
   intro hn
   have:2^s*2^(32-s)≤2^s*top:=mul_le_mul_left _ (by omega)
   rw [mul_comm (2^s) top] at this
   omega
  have t2:b<(top+1)*4294967296^n:=by
   rw [tv,add_mul,Nat.one_mul,mul_comm top]
   omega
  have t3:b*2^s<(top+1)*4294967296^n*2^s:=Nat.mul_lt_mul_of_pos_right t2 p0
  have t4:(top+1)*4294967296^n*2^s≤2^(32-s)*4294967296^n*2^s:=mul_le_mul_right _ (mul_le_mul_right _ t1)
  have t5:2^(32-s)*4294967296^n*2^s=4294967296^n*(2^s*2^(32-s)):=by
   generalize 2^(32-s)=x
   generalize 2^s=y
   generalize 4294967296^n=z
   grind
  rw [t5,←e,←pow_succ] at t4
  omega
 have hle:vs.length≤n+1:=cv.len (by decide) (by rw [hv];exact jD)
 have cJ:n<vs.length:=by
  have h3:=nD cv.1
  rw [hv] at h3
  have h4:4294967296^n<4294967296^vs.length:=by
   have:1*4294967296^n≤2147483648*4294967296^n:=mul_le_mul_right _ (by decide)
   omega
  exact (Nat.pow_lt_pow_iff_right (by decide)).1 h4
 refine ⟨by omega,vs[n],getElem?_eq_getElem cJ,?_⟩
 have t2:=jw 4294967296 vs (i:=n) cJ
 rw [take_of_length_le (by omega),hv] at t2
 have p7:=nD (xs:=vs.take n) (cv.1.mono fun y hy=>mem_of_mem_take hy)
 rw [length_take,min_eq_left (by omega)] at p7
 apply byContradiction
 intro hc
 have:4294967296^n*(vs[n]+1)≤4294967296^n*2147483648:=mul_le_mul_left _ (by omega)
 rw [mul_add,Nat.mul_one,mul_comm _ 2147483648] at this
 omega
theorem aFw {id N l r:Nat} (h1:l≤r) (h2:r≤N):mT 177 1 (sl 177 id 0 N) (some (I l)) (some (I r))=some (sl 177 id l (r-l)):=by
 simp [mT,sl,sw,tJ,h1,h2]
theorem aFx {id N r:Nat} (h2:r≤N):mT 177 1 (sl 177 id 0 N) none (some (I r))=some (sl 177 id 0 r):=by
 simp [mT,sl,sw,tJ,h2]
section
variable {h : ae} {K : Value → ae → Prop}
theorem aoc {g:ae} {id iq iv m s nq A:Nat} {vs us:List Nat} {rest:List Value} {v1:Nat} (iY:h.length≤id) (hiq:h.length≤iq) (bp:iv≠id) (R6:iv≠iq) (ae3:id≠iq) (hn:vs.length=m+2) (hm:m≤1000) (hs:s≤31)
  (lv:cn 4294967296 vs) (so:vs[m+1]?=some v1) (jD:2147483648≤v1) (sm:us.length=nq+1+(m+2)) (hnq:nq≤200) (qM:m≤150) (lu:cn 4294967296 us) (hA:val 4294967296 us=A) (Jj:A<val 4294967296 vs*4294967296^(nq+1))
  (hx:EX h g) (ku:g[id]?=some (.arr 177 (wv us))) (kq:g[iq]?=some (.arr 177 (wv (replicate (nq+1) 0)))) (kv:aP g iv=some (wv vs++rest))
  (hk:∀q r h',EX h h'→dJ h' q (A / val 4294967296 vs)→dJ h' r (A%val 4294967296 vs / 2^s)→K (.tuple #[q,r]) h'):
  cQ [I nq] g fun L1 xs hx=>Us prog K (I s) (sl 177 iv 0 (m+2)) (sl 177 id 0 (nq+1+(m+2))) (I (m+2:Nat)) (sl 177 iq 0 (nq+1)) L1 xs hx:=by
 have V0:0<val 4294967296 vs:=by
  apply Nat.pos_of_ne_zero
  intro e
  rw [e,Nat.zero_mul] at Jj
  omega
 have Vn:=nD lv
 rw [hn] at Vn
 refine dj (σ:=Nat×List Nat×List Nat×ae) (fun p=>[I ((p.1:Int)-1)]) (fun p=>p.2.2.2)
  (fun p=>p.1≤nq+1∧EX h p.2.2.2∧p.2.1.length=nq+1+(m+2)∧cn 4294967296 p.2.1∧p.2.2.1.length=nq+1∧cn 4294967296 p.2.2.1∧(∀k,k<p.1→p.2.2.1[k]?=some 0)∧
   A=val 4294967296 p.2.1+val 4294967296 p.2.2.1*val 4294967296 vs∧val 4294967296 p.2.1<val 4294967296 vs*4294967296^p.1∧
   p.2.2.2[id]?=some (.arr 177 (wv p.2.1))∧p.2.2.2[iq]?=some (.arr 177 (wv p.2.2.1))∧aP p.2.2.2 iv=some (wv vs++rest)) (fun p=>p.1)
  (nq+1,us,replicate (nq+1) 0,g) (by simp) rfl ⟨le_refl _,hx,sm,lu,by simp,cn.xe (by decide) _,fun k (hk:k<nq+1)=>by rw [List.getElem?_replicate,if_pos hk],by show A=_;rw [hA,yz];simp,by show val 4294967296 us<_;rw [hA];exact Jj,ku,kq,kv⟩ ?_
 clear ku kq kv hx lu hA sm us g
 rintro ⟨jn,us,qs,g⟩ ⟨wj,hx,sm,lu,qP,lq,hz,hA,aD,ku,kq,kv⟩ L hL
 simp only at wj hx sm lu qP lq hz hA aD ku kq kv hL⊢
 rw [aB1]
 simp only [nk,ah,bR]
 refine ⟨fun cJ=>?_,fun gG=>?_⟩
 ·obtain ⟨j,rfl⟩:∃j,jn=j+1:=⟨jn-1,by omega⟩
  have ej:((j+1:Nat):Int)-1=(j:Int):=by omega
  have w1:ai .add (I j) (I (m+2:Nat))=some (I (j+(m+2):Nat)):=by rw [cf,wrap64 (by omega) (by omega)];congr 2
  have w2:ai .add (I (j+(m+2):Nat)) (.int .i64 1)=some (I (j+(m+3):Nat)):=by rw [cf,wrap64 (by omega) (by omega)];congr 2
  have w3:ai .sub (I j) (.int .i64 1)=some (I ((j:Int)-1)):=by rw [gE,wrap64 (by omega) (by omega)]
  have w4:j+(m+3)-j=m+3:=by omega
  rw [ej]
  simp only [w1,w2,ah,aFw (show j≤j+(m+3) by omega) (show j+(m+3)≤nq+1+(m+2) by omega),w4]
  have pv:((us.drop j).take (m+3)).length=m+3:=by rw [length_take,List.length_drop];omega
  have hud:∀k,k≤m+2→us[j+k]?=((us.drop j).take (m+3))[k]?:=by
   intro k hk
   rw [List.getElem?_take_of_lt (by omega),List.getElem?_drop]
  have lud:cn 4294967296 ((us.drop j).take (m+3)):=lu.mono fun y hy=>List.mem_of_mem_drop (mem_of_mem_take hy)
  -- gN number:vf is below,vf is aGN,and nothing aGH
  have mO:=Ma 4294967296 us (i:=j) (by omega)
  have zF:=Ma 4294967296 (us.drop j) (i:=m+3) (by rw [List.length_drop];omega)
  have tm:=nD (xs:=us.take j) (lu.mono fun y hy=>mem_of_mem_take hy)
  rw [length_take,min_eq_left (by omega)] at tm
  have tB:val 4294967296 ((us.drop j).drop (m+3))=0:=aFU mO zF Vn (by decide) aD
  rw [tB,mul_zero,add_zero] at zF
  rw [zF] at mO
  have uA:val 4294967296 ((us.drop j).take (m+3))<val 4294967296 vs*4294967296:=arH mO aD
  refine aoe ku kv bp hn hm pv (by omega) hud lud lv so jD uA ?_
  intro rs So lr hrv
  have kq':(g.set id (.arr 177 (wv (mid us j rs))))[iq]?=some (.arr 177 (wv qs)):=by rw [getElem?_set_ne ae3];exact kq
  have awi:bf 1 (sl 177 iq 0 (nq+1)) (I j)=some (pt iq j):=lP (by omega)
  simp only [awi,ah,DE _ kq' (show j<qs.length by omega),aA,w3,true_and]
  have EP:val 4294967296 ((us.drop j).take (m+3)) / val 4294967296 vs<4294967296:=by
   rw [Nat.div_lt_iff_lt_mul V0,mul_comm];exact uA
  have hmr:val 4294967296 (mid us j rs)=val 4294967296 (us.take j)+4294967296^j*(val 4294967296 ((us.drop j).take (m+3))%val 4294967296 vs):=by
   unfold mid
   rw [od,od,length_take,min_eq_left (by omega),hrv,So]
   have:us.drop (j+(m+3))=(us.drop j).drop (m+3):=by rw [List.drop_drop]
   rw [this,tB,mul_zero,add_zero]
  have qm:=hz j (by omega)
  have oN:qs[j]'(by omega)=0:=by
   rw [getElem?_eq_getElem (by omega)] at qm
   injection qm
  have hqs:=tT 4294967296 qs j (val 4294967296 ((us.drop j).take (m+3)) / val 4294967296 vs) (by omega)
  rw [oN,mul_zero,add_zero] at hqs
  have pA:=mod_lt (val 4294967296 ((us.drop j).take (m+3))) V0
  refine hL (j,mid us j rs,qs.set j (val 4294967296 ((us.drop j).take (m+3)) / val 4294967296 vs),_) ⟨by show j≤_;omega,(hx.set iY _).set hiq _,by rw [CB (by omega)];exact sm,?_,by rw [length_set];exact qP,lq.set EP j,fun k hk=>?_,?_,?_,?_,ck kq',?_⟩ (by show j<j+1;omega)
  ·unfold mid
   exact (lu.mono fun y hy=>mem_of_mem_take hy).append (lr.append (lu.mono fun y hy=>List.mem_of_mem_drop hy))
  ·have hk:k<j:=hk
   rw [getElem?_set_ne (by omega)]
   exact hz k (by omega)
  ·show A=val 4294967296 (mid us j rs)+val 4294967296 (qs.set j _)*val 4294967296 vs
   rw [hmr,hqs]
   refine avt ?_
   rw [hA,mO]
  ·show val 4294967296 (mid us j rs)<val 4294967296 vs*4294967296^j
   rw [hmr]
   exact azW tm pA
  ·rw [getElem?_set_ne ae3.symm];exact ck ku
  ·rw [DX R6,DX bp];exact kv
 ·have nU:jn=0:=by omega
  subst nU
  rw [Nat.pow_zero,Nat.mul_one] at aD
  have hQ:A / val 4294967296 vs=val 4294967296 qs:=by rw [hA,Nat.add_mul_div_right _ _ V0,Nat.div_eq_of_lt aD,zero_add]
  have hR:A%val 4294967296 vs=val 4294967296 us:=by rw [hA,Nat.add_mul_mod_self_right,mod_eq_of_lt aD]
  have hdq:DS 177 .u32 g (sl 177 iq 0 (nq+1)) qs:=.inr ⟨iq,by rw [qP],.inr ⟨[],by rw [List.append_nil];simp [aP,kq,wv]⟩⟩
  rw [aB2]
  refine sQ hdq lq (by omega) ?_
  intro q hq
  have tA:val 4294967296 (us.take (m+2))=val 4294967296 us:=by
   have hd:=Ma 4294967296 us (i:=m+2) (by omega)
   have:val 4294967296 (us.drop (m+2))=0:=aFQ hd (Nat.lt_trans aD Vn)
   rw [this,mul_zero,add_zero] at hd
   exact hd.symm
  have zI:DS 177 .u32 g (sl 177 id 0 (m+2)) (us.take (m+2)):=.inr ⟨id,by rw [length_take,min_eq_left (by omega)],.inr ⟨wv (us.drop (m+2)),by
   simp only [aP,ku]
   congr 1
   show wv us=wv (us.take (m+2))++wv (us.drop (m+2))
   unfold wv
   rw [←List.map_append,List.take_append_drop]⟩⟩
  simp only [true_and,aFx (show m+2≤nq+1+(m+2) by omega),ah]
  refine sQ zI (lu.mono fun y hy=>mem_of_mem_take hy) (by rw [length_take];omega) ?_
  intro r0 qS
  rw [tA] at qS
  obtain ⟨zs,dz,cz,hz⟩:=qS
  have lz:zs.length≤m+2:=cz.len (by decide) (by rw [hz];exact Nat.lt_trans aD Vn)
  refine aog dz cz.1 hs (by omega) ?_
  intro r h' x' hr
  rw [hz,←hR] at hr
  rw [←hQ] at hq
  exact hk q r h' (hx.trans x') (hq.mono x') hr
end
end
section
theorem aFz {B a P Q s n l V:Nat} (ha:a<P*B^(n-1)) (hV:2147483648*P≤V) (hB:2^s≤2147483648) (hl:l=n) (hQ:Q=B^(n-1)) (_h:1≤n):a*2^s<V*Q:=by
 have _:=hl
 have h1:a*2^s<P*B^(n-1)*2^s:=Nat.mul_lt_mul_of_pos_right ha (pow_pos (by decide))
 have h2:P*B^(n-1)*2^s≤P*B^(n-1)*2147483648:=mul_le_mul_left _ hB
 have h3:2147483648*P*B^(n-1)≤V*B^(n-1):=mul_le_mul_right _ hV
 have e:P*B^(n-1)*2147483648=2147483648*P*B^(n-1):=by
  generalize B^(n-1)=z
  rw [mul_comm,←mul_assoc]
 rw [hQ]
 generalize V*B^(n-1)=x at*
 omega
theorem Xn {va vb:Value} {a b:Nat} {h:ae} {K:Value→ae→Prop} (ha:dJ h va a) (hb:dJ h vb b) (la:a<br) (lb:b<br) (b0:0<b) (hk:∀q r h',EX h h'→dJ h' q (a / b)→dJ h' r (a%b)→K (.tuple #[q,r]) h'):
  ak prog 130 [va,vb] h K:=by
 by_cases Jo:b<4294967296
 ·exact aob ha hb la b0 Jo hk
 refine f130 ?_
 unfold GZ
 refine Gr ha hb la lb ?_
 simp only [cA,ah,bR]
 refine ⟨fun aD=>?_,fun cJ=>?_⟩
 ·have iD:=LD.1 aD
  have oH:=ha
  obtain ⟨xs,d,c,rfl⟩:=ha
  obtain ⟨s1,s2⟩:=d.cells
  have lx:=qD c la
  have hq:∀g,dJ g (.slice none 0 0) (val 4294967296 xs / b):=fun g=>⟨[],DS.nil _ _ _,⟨fun x hx=>by simp at hx,by simp⟩,by rw [Nat.div_eq_of_lt iD];rfl⟩
  by_cases h0:xs.length=0
  ·have e:dY 177 1 4 h (.slice none 0 0) va=some (.slice none 0 0,h):=by
    simp only [dY,s1,s2]
    rw [if_pos h0]
   simp only [e,aA]
   have:xs=[]:=List.length_eq_zero_iff.1 h0
   subst this
   exact hk _ _ h (EX.refl h) (hq h) ⟨[],DS.nil _ _ _,c,by rw [mod_eq_of_lt iD]⟩
  ·have e:dY 177 1 4 h (.slice none 0 0) va=some (sl 177 h.length 0 xs.length,h++[.arr 177 (xs.map fun d:Nat=>Value.int .u32 (d:Int))]):=by
    simp only [dY,s1,s2]
    rw [if_neg h0,if_pos ⟨by omega,by unfold maxLen;omega⟩]
   simp only [e,aA]
   refine hk _ _ _ (EX.append _ _) (hq _) ⟨xs,.inr ⟨h.length,rfl,.inr ⟨[],?_⟩⟩,c,by rw [mod_eq_of_lt iD]⟩
   simp [aP]
 have iD:b≤a:=by
  apply byContradiction
  intro hc
  exact cJ (LD.2 (by omega))
 obtain ⟨xs,dx,cx,SH⟩:=ha
 obtain ⟨ys,dy,cy,qY⟩:=hb
 have lx:=qD cx (by rw [SH];exact la)
 have ly:=qD cy (by rw [qY];exact lb)
 have kD:=nD cy.1
 rw [qY] at kD
 obtain ⟨m,hm⟩:∃m,ys.length=m+2:=by
  refine ⟨ys.length-2,?_⟩
  have:¬ys.length≤1:=by
   intro h1
   have:4294967296^ys.length≤4294967296^1:=pow_le_pow_right (by decide) h1
   rw [Nat.pow_one] at this
   generalize 4294967296^ys.length=z at*
   omega
  omega
 have ayA:ys≠[]:=by rintro rfl;simp at hm
 have afA:=dE.low (by decide) cy ayA
 have iG:=nD cx.1
 rw [SH] at iG
 rw [qY] at afA
 have hlen:ys.length≤xs.length:=by
  have:4294967296^(ys.length-1)<4294967296^xs.length:=Nat.lt_of_le_of_lt afA (Nat.lt_of_le_of_lt iD iG)
  have:=(Nat.pow_lt_pow_iff_right (show 1<4294967296 by decide)).1 this
  omega
 -- gN aGS IK
 obtain ⟨ib,g1,g2⟩:=dy.get (j:=m+1) (by omega)
 have tB:ys[m+1]?=some (ys[m+1]'(by omega)):=getElem?_eq_getElem (by omega)
 have EU:=cy.1 _ (getElem_mem (l:=ys) (n:=m+1) (by omega))
 have wz:0<ys[m+1]'(by omega):=by
  apply Nat.pos_of_ne_zero
  intro e
  refine cy.2 ?_
  rw [List.getLast?_eq_getElem?,hm,show m+2-1=m+1 by omega,tB,e]
 have Tp:bj vb=some (I (m+2:Nat)):=by rw [dy.len,hm]
 have s1:ai .sub (I (m+2:Nat)) (.int .i64 1)=some (I (m+1:Nat)):=by rw [gE,wrap64 (by omega) (by omega)];congr 2;omega
 simp only [Tp,ah,iT,aS (show ¬(((m+2:Nat):Int)=1) by omega),dF,s1,g1,g2]
 generalize ys[m+1]'(by omega)=top at*
 refine aod wz EU ?_
 intro s hs h1 h2
 refine Xr dy cy.1 hs (by omega) ?_
 intro gL ol1 lo1 so
 rw [qY] at so
 have d1:DS 177 .u32 (hd h gL) (sl 177 h.length 0 (ys.length+1)) gL:=by rw [←ol1];exact zG h gL
 refine sQ d1 lo1 (by omega) ?_
 intro v' kW
 rw [so] at kW
 obtain ⟨vs,dv,cv,Ah⟩:=kW
 obtain ⟨sr,v1,SD,afp⟩:=aAt (n:=m+1) cv cy.1 hm tB qY Ah hs h1 h2
 obtain ⟨iv,axD,rest,kv⟩:∃i,v'=sl 177 i 0 (m+2)∧∃rest,aP (hd h gL) i=some (wv vs++rest):=by
  rcases dv with ⟨_,h0⟩ | ⟨i,e1,e2⟩
  ·rw [h0] at sr;simp at sr
  ·rcases e2 with h0 | ⟨r,hr⟩
   ·rw [h0] at sr;simp at sr
   ·exact ⟨i,by rw [e1,sr],r,hr⟩
 subst axD
 have aG2:iv<(hd h gL).length:=by
  unfold aP at kv
  apply byContradiction
  intro hn
  rw [List.getElem?_eq_none (by omega)] at kv
  cases kv
 refine Xr (dx.mono (kS h gL)) cx.1 hs (by omega) ?_
 intro CI ol2 lo2 qW
 rw [SH] at qW
 have x2:=kS (hd h gL) CI
 have k2:=Rw (hd h gL) CI
 have l2:(hd (hd h gL) CI).length=(hd h gL).length+1:=by simp [hd]
 have kv2:=x2.cells kv
 have Fl:bj (sl 177 iv 0 (m+2))=some (I (m+2:Nat)):=rfl
 obtain ⟨nq,hnq⟩:∃nq,xs.length=nq+(m+2):=⟨xs.length-(m+2),by omega⟩
 have w1:ai .sub (I (xs.length:Nat)) (I (m+2:Nat))=some (I nq):=by rw [gE,wrap64 (by omega) (by omega)];congr 2;omega
 have w2:ai .add (I nq) (.int .i64 1)=some (I (nq+1:Nat)):=by rw [cf,wrap64 (by omega) (by omega)];congr 2
 simp only [Fl,ah,dx.len,w1,w2,AG (show nq+1≤1000 by omega),aA]
 have x3:=kS (hd (hd h gL) CI) (replicate (nq+1) 0)
 have k3:=Rw (hd (hd h gL) CI) (replicate (nq+1) 0)
 have Fc:=x3.get k2
 have kv3:=x3.cells kv2
 have xA:=(kS h gL).trans (x2.trans x3)
 have zR:=(kS h gL).1
 generalize hd (hd (hd h gL) CI) (replicate (nq+1) 0)=g3 at*
 have eN:xs.length+1=nq+1+(m+2):=by omega
 rw [eN]
 have aym:2^s≤2147483648:=pow_le_pow_right (show 0<2 by decide) hs
 have axc:2147483648*4294967296^(m+1)≤val 4294967296 vs:=by
  have tv:=jw 4294967296 vs (i:=m+1) (by omega)
  rw [take_of_length_le (by omega)] at tv
  have e1:vs[m+1]'(by omega)=v1:=by
   rw [getElem?_eq_getElem (by omega)] at SD
   injection SD
  rw [e1] at tv
  rw [tv,mul_comm]
  have:4294967296^(m+1)*2147483648≤4294967296^(m+1)*v1:=mul_le_mul_left _ afp
  generalize 4294967296^(m+1)*v1=z at*
  omega
 have Jj:a*2^s<val 4294967296 vs*4294967296^(nq+1):=by
  have ayy:a<4294967296^(m+1)*4294967296^(nq+1):=by
   rw [←pow_add,show m+1+(nq+1)=xs.length by omega];exact iG
  exact aFz (n:=nq+2) (l:=nq+2) (by simpa using ayy) axc aym rfl (by simp) (by omega)
 have Zm:0<2^s:=pow_pos (by decide)
 refine aoc (h:=h) (A:=a*2^s) (by omega) (by omega) (by omega) (by omega) (by omega) sr (by omega) hs cv.1 SD afp (by omega) (by omega) (by omega) lo2 qW Jj xA Fc k3 kv3 ?_
 intro q r h' x' hq hr
 rw [Ah,Nat.mul_div_mul_right _ _ Zm] at hq
 rw [Ah,Nat.mul_mod_mul_right,Nat.mul_div_cancel _ Zm] at hr
 exact hk q r h' x' hq hr
end
section
def iB (h:ae) (val:Value) (a b:Int):Prop:=∃u w,val=.agg #[B (decide (a<0)),u,B (decide (b<0)),w]∧dJ h u a.natAbs∧dJ h w b.natAbs
theorem Xd {va:Value} {a:Int} {h:ae} {K:Value→ae→Prop} (ha:dV h va a) (hk:∀r h',EX h h'→iB h' r a 1→K r h'):ak prog 112 [va] h K:=by
 obtain ⟨v,rfl,hv⟩:=ha
 refine f112 ?_
 have e1:bm 105 h (.agg #[B (decide (a<0)),v])=some (pt h.length 0,h++[.arr 105 [B (decide (a<0)),v]]):=rfl
 have e2:∀g:ae,aV 107 [(.bool false),(.slice none 0 0),(.bool false),(.slice none 0 0)] g=some (pt g.length 0,g++[.arr 107 z4]):=fun _=>rfl
 simp only [NM,e1,e2,aA,length_append,length_cons,length_nil]
 have g0:(h++[aj.arr 105 [B (decide (a<0)),v]]++[aj.arr 107 z4])[h.length]?=some (.arr 105 [B (decide (a<0)),v]):=by simp
 have g1:(h++[aj.arr 105 [B (decide (a<0)),v]]++[aj.arr 107 z4])[h.length+1]?=some (.arr 107 z4):=by simp
 have x1:EX h (h++[aj.arr 105 [B (decide (a<0)),v]]++[aj.arr 107 z4]):=(EX.append _ _).push _
 generalize h++[aj.arr 105 [B (decide (a<0)),v]]++[aj.arr 107 z4]=h1 at g0 g1 x1⊢
 rw [cO g0]
 simp only [ah,true_and]
 refine De (by decide) (by decide) ?_
 intro r2 h2 x2 i2
 obtain ⟨w,rfl,hw⟩:=id i2
 refine ⟨⟨EX.load x2 (cO g0),trivial⟩,?_⟩
 have qW:=(hv.mono x1).mono x2
 obtain ⟨xs,dx,cx⟩:=id qW
 obtain ⟨ys,dy,cy⟩:=id hw
 rw [Hc dx dy]
 simp only [ah,zero_add]
 have g2:=x2.get g1
 exact rR g2 (hk _ _ ((x1.trans x2).set (by omega) _) ⟨v,w,rfl,qW.bM g2 _,hw.bM g2 _⟩)
theorem C90 {u w:Value} {s:Bool} {h:ae} {K:Value→ae→Prop} (hw:dJ h w 1) (hk:∀h',EX h h'→K (B true) h'):ak prog 90 [.agg #[B s,u,B false,w]] h K:=by
 refine f90 ?_
 have e1:bm 107 h (.agg #[B s,u,B false,w])=some (pt h.length 0,h++[.arr 107 [B s,u,B false,w]]):=rfl
 simp only [G0,e1,aA]
 have x1:EX h (h++[aj.arr 107 [B s,u,B false,w]]):=EX.append _ _
 have l3:af false 1 (h++[aj.arr 107 [B s,u,B false,w]]) (pt h.length 3)=some w:=mV rfl
 obtain ⟨xs,dx,cx,vx⟩:=hw.mono x1
 have hx1:xs=[1]:=dE.unique (by decide) cx ⟨fun y hy=>by simp at hy;subst hy;decide,by simp⟩ (by rw [vx];rfl)
 subst hx1
 obtain ⟨i,g1,g2⟩:=dx.get (j:=0) (by simp)
 have zm:bf 1 w (I 0)=some (pt i 0):=g1
 simp only [bU,zero_add,ah,l3,dx.len,List.length_singleton,iT,VG]
 rw [aU (show ((1:Nat):Int)=1 by rfl)]
 simp only [jm,ah,zm,g2,iT,VH,dZ]
 exact hk _ x1
end
section
theorem iB.mono {h h':ae} {v:Value} {a b:Int} (x:EX h h') (p:iB h v a b):iB h' v a b:=let ⟨u,w,e,m,n⟩:=p;⟨u,w,e,m.mono x,n.mono x⟩
theorem iB.bM {h:ae} {v:Value} {a b:Int} {j:Nat} {e:TypeId} {s:Bool} {r:List Value} (p:iB h v a b) (hj:h[j]?=some (.arr e (.bool s::r))) (o:aj):iB (h.set j o) v a b:=
 let ⟨u,w,e,m,n⟩:=p;⟨u,w,e,m.bM hj o,n.bM hj o⟩
theorem IY {h h':ae} {j:Nat} {va vb:Value} {a b:Int} {K:Value→ae→Prop} (ha:dV h' va a) (hb:dV h' vb b) (x:EX h h') (hj:h.length≤j) (hg:h'[j]?=some (.arr 107 z4)) (hk:∀r h',EX h h'→iB h' r a b→K r h'):
  OP (dd [(.bool false),(.slice none 0 0),(.bool false),(.slice none 0 0)] [(0,2,va),(2,2,vb)]) fun ca=>OH (aF 4 h' (pt j 0) ca) fun _ h_6=>OP (af true 4 h_6 (pt j 0)) fun r0=>K r0 h_6:=by
 obtain ⟨v,rfl,hv⟩:=ha
 obtain ⟨w,rfl,hw⟩:=hb
 obtain ⟨xs,dx,_⟩:=id hv
 obtain ⟨ys,dy,_⟩:=id hw
 rw [Hc dx dy]
 simp only [ah]
 exact rR hg (hk _ _ (x.set hj _) ⟨v,w,rfl,hv.bM hg _,hw.bM hg _⟩)
theorem C75 {n:Int} {h:ae} {K:Value→ae→Prop} (h1: -9223372036854775808≤n) (h2:n<9223372036854775808) (hk:∀r h',EX h h'→iB h' r n 1→K r h'):ak prog 75 [I n] h K:=by
 refine f75 ?_
 have e1:aV 107 [(.bool false),(.slice none 0 0),(.bool false),(.slice none 0 0)] h=some (pt h.length 0,h++[.arr 107 z4]):=rfl
 simp only [OU,e1,aA]
 have x0:EX h (h++[.arr 107 z4]):=EX.append _ _
 have g0:(h++[aj.arr 107 z4])[h.length]?=some (.arr 107 z4):=bn
 generalize h++[aj.arr 107 z4]=ga at x0 g0⊢
 refine De h1 h2 ?_
 intro r h3 x3 i3
 refine De (by decide) (by decide) ?_
 intro s h4 x4 i4
 exact IY (i3.mono x4) i4 (x0.trans (x3.trans x4)) (le_refl _) ((x3.trans x4).get g0) hk
theorem awY {a b:Int} (b0:0<b):0<(gcd a.natAbs b.natAbs:Int)∧(gcd a.natAbs b.natAbs:Int)≤b:=by
 have h1:0<gcd a.natAbs b.natAbs:=Nat.gcd_pos_of_pos_right _ (by omega)
 have h2:gcd a.natAbs b.natAbs≤b.natAbs:=Nat.gcd_le_right _ (by omega)
 omega
end
section
theorem Dh {u w:Value} {s:Bool} {b:Nat} {h:ae} {K:Value→ae→Prop} (hw:dJ h w b) (lb:b<br) (hk:∀h',EX h h'→K (B (decide (b=1))) h'):ak prog 90 [.agg #[B s,u,B false,w]] h K:=by
 by_cases h1:b=1
 ·subst h1
  exact C90 hw hk
 rw [aS h1] at hk
 refine f90 ?_
 have e1:bm 107 h (.agg #[B s,u,B false,w])=some (pt h.length 0,h++[.arr 107 [B s,u,B false,w]]):=rfl
 simp only [G0,e1,aA]
 have x1:EX h (h++[aj.arr 107 [B s,u,B false,w]]):=EX.append _ _
 have l3:af false 1 (h++[aj.arr 107 [B s,u,B false,w]]) (pt h.length 3)=some w:=mV rfl
 obtain ⟨xs,dx,cx,vx⟩:=hw.mono x1
 simp only [bU,zero_add,ah,l3,dx.len,iT]
 by_cases hl:xs.length=1
 ·obtain ⟨y,rfl⟩:∃y,xs=[y]:=by
   match xs,hl with
   | [y],_=>exact ⟨y,rfl⟩
  have hy:y=b:=by simpa [val] using vx
  subst hy
  obtain ⟨i,g1,g2⟩:=dx.get (j:=0) (by simp)
  have zm:bf 1 w (.int .i64 (0))=some (pt i 0):=g1
  rw [aU (show ((([y]:List Nat).length:Nat):Int)=1 from rfl),VG]
  simp only [jm,bU,zero_add,ah,l3,zm,g2,List.getElem_cons_zero,iT]
  rw [aS (show ¬((y:Int)=1) by omega),VH]
  simp only [dZ,ah]
  exact hk _ x1
 ·rw [aS (show ¬((xs.length:Int)=1) by omega),VG]
  simp only [kL]
  rw [VH]
  simp only [cK,ah]
  exact hk _ x1
def mW (a b:Int):List UInt8:=if b=1 then il a else il a++47::cI b.natAbs
theorem ahe {a:Int} (la:a.natAbs<br):(il a).length≤1001:=by
 have:=(ui la).2.2.1
 unfold il
 split <;> simp <;> omega
theorem Mz {va:Value} {a b:Int} {h:ae} {K:Value→ae→Prop} (ha:iB h va a b) (b0:0<b) (la:a.natAbs<br) (lb:b.natAbs<br) (hk:∀h',EX h h'→K (.tuple #[S (mW a b),I 0]) h'):ak prog 45 [va] h K:=by
 obtain ⟨u,w,rfl,hu,hw⟩:=ha
 have wy:decide (b<0)=false:=aS (by omega)
 rw [wy]
 refine f45 ?_
 have e1:bm 107 h (.agg #[B (decide (a<0)),u,B false,w])=some (pt h.length 0,h++[.arr 107 [B (decide (a<0)),u,B false,w]]):=rfl
 simp only [Ox,e1,aA]
 have x1:EX h (h++[aj.arr 107 [B (decide (a<0)),u,B false,w]]):=EX.append _ _
 have l1:af false 1 (h++[aj.arr 107 [B (decide (a<0)),u,B false,w]]) (pt h.length 1)=some u:=mV rfl
 have l0:af false 1 (h++[aj.arr 107 [B (decide (a<0)),u,B false,w]]) (pt h.length 0)=some (B (decide (a<0))):=mV rfl
 have g0:(h++[aj.arr 107 [B (decide (a<0)),u,B false,w]])[h.length]?=some (.arr 107 [B (decide (a<0)),u,B false,w]):=bn
 generalize h++[aj.arr 107 [B (decide (a<0)),u,B false,w]]=h1 at x1 l1 l0 g0⊢
 obtain ⟨d1,d2,d3,d4,d5⟩:=ui la
 obtain ⟨c1,c2,c3,c4,c5⟩:=ui lb
 simp only [bU,zero_add,add_zero,ah,l1]
 refine Gv (hu.mono x1) la ?_
 intro h2 x2
 simp only [mf,ah,fG,aS (show ¬((cI a.natAbs).length:Int)>4000 by omega),dF,EX.load x2 l0]
 have last:KV prog K (pt h.length 0) (S (il a)) h2:=by
  rw [aCz,iH (x2.get g0)]
  simp only [ah]
  refine Dh ((hw.mono x1).mono x2) lb ?_
  intro h3 x3
  simp only [bR]
  refine ⟨fun h9=>?_,fun h9=>?_⟩
  ·have e:mW a b=il a:=by unfold mW;rw [if_pos (by omega)]
   rw [←e]
   exact hk _ ((x1.trans x2).trans x3)
  ·have l3:af false 1 h3 (pt h.length 3)=some w:=by simp [af,aP,(x2.trans x3).get g0,b9]
   simp only [bU,zero_add,ah,l3]
   refine Gv (((hw.mono x1).mono x2).mono x3) lb ?_
   intro h4 x4
   have nl:=ahe la
   have a1:ai .add (S (il a)) (.string ⟨#[47]⟩)=some (S (il a++[47])):=yU (a:=il a) (b:=[47]) (by simp [maxLen];omega)
   have a2:ai .add (S (il a++[47])) (S (cI b.natAbs))=some (S (il a++[47]++cI b.natAbs)):=yU (a:=il a++[47]) (b:=cI b.natAbs) (by simp [maxLen];omega)
   simp only [mf,ah,fG,aS (show ¬((cI b.natAbs).length:Int)>4000 by omega),dF,a1,a2]
   have e:mW a b=il a++[47]++cI b.natAbs:=by unfold mW;rw [if_neg (by omega)];simp
   rw [←e]
   exact hk _ ((x1.trans x2).trans (x3.trans x4))
 by_cases gG:a<0
 ·rw [aU gG]
  have:il a=45::cI a.natAbs:=by unfold il;rw [if_pos gG]
  have ad:ai .add (.string ⟨#[45]⟩) (S (cI a.natAbs))=some (S (il a)):=by
   rw [this]
   exact yU (a:=[45]) (b:=cI a.natAbs) (by simp [maxLen];omega)
  simp only [c8,ad,ah]
  exact last
 ·rw [aS gG]
  have:il a=cI a.natAbs:=by unfold il;rw [if_neg gG]
  rw [this] at last
  simp only [dF]
  exact last
end
section
theorem Xg {va vb:Value} {a b:Int} {h:ae} {K:Value→ae→Prop} (ha:dV h va a) (hb:dV h vb b) (la:a.natAbs<br) (lb:b.natAbs<br) (hk:∀r h',EX h h'→dV h' r (gcd a.natAbs b.natAbs:Nat)→K r h'):ak prog 120 [va,vb] h K:=by
 obtain ⟨v,rfl,hv⟩:=ha
 obtain ⟨w,rfl,hw⟩:=hb
 refine f120 ?_
 unfold NU
 refine Ha ?_
 intro h3 x
 simp only [bU,zero_add,ah,x.a1,x.b1,true_and]
 refine dj (σ:=Value×Value×Nat×Nat×ae) (fun q=>[q.1,q.2.1]) (fun q=>q.2.2.2.2) (fun q=>(dJ q.2.2.2.2 q.1 q.2.2.1∧dJ q.2.2.2.2 q.2.1 q.2.2.2.1)∧(q.2.2.1<br∧q.2.2.2.1<br)∧gcd q.2.2.1 q.2.2.2.1=gcd a.natAbs b.natAbs∧EX h3 q.2.2.2.2) (fun q=>q.2.2.2.1)
  (v,w,a.natAbs,b.natAbs,h3) rfl rfl ⟨⟨hv.mono x.ex,hw.mono x.ex⟩,⟨la,lb⟩,rfl,EX.refl _⟩ ?_
 rintro ⟨vx,vy,m,n,g⟩ ⟨⟨hm,hn⟩,⟨lm,ln⟩,hg,xg⟩ L hL
 simp only at hm hn lm ln hg xg hL⊢
 rw [aBB]
 obtain ⟨l,e1,e2⟩:=hn.qo
 simp only [e1,ah,fG,bR]
 refine ⟨fun hp=>?_,fun hz=>?_⟩
 ·have n0:0<n:=e2.1 (by omega)
  refine Xn hm hn lm ln n0 ?_
  intro q r g2 x2 hq hr
  simp only [dX,eD,eI,ah,true_and]
  have pA:m%n<n:=mod_lt _ n0
  refine hL (vy,r,n,m%n,g2) ⟨⟨hn.mono x2,hr⟩,⟨ln,by show m%n<_;omega⟩,?_,xg.trans x2⟩ pA
  show gcd n (m%n)=_
  rw [←hg,Nat.gcd_comm m n,Nat.gcd_rec n m,Nat.gcd_comm]
 ·have n0:n=0:=by
   apply byContradiction
   intro bp
   have:=e2.2 (by omega)
   omega
  subst n0
  rw [aBA]
  rw [Nat.gcd_zero_right] at hg
  refine sP hm ?_
  intro h5 x5
  have g':=(xg.trans x5).get x.out
  rw [Bool.false_and]
  refine xH g' (hk _ _ (((x.ex.trans xg).trans x5).set (by omega) _) ?_)
  rw [←hg]
  exact (dV.nat (hm.mono x5)).bM g' _
theorem Xh {va vb:Value} {a b:Int} {h:ae} {K:Value→ae→Prop} (ha:dV h va a) (hb:dV h vb b) (la:a.natAbs<br) (b0:0<b) (lb:b.natAbs<br) (hd:b ∣ a) (hk:∀r s h',EX h h'→dV h' r (a / b)→dV h' s 0→K (.tuple #[r,s]) h'):ak prog 121 [va,vb] h K:=by
 obtain ⟨v,rfl,hv⟩:=ha
 obtain ⟨w,rfl,hw⟩:=hb
 have wy:decide (b<0)=false:=aS (by omega)
 obtain ⟨c,rfl⟩:=hd
 have we:b*c / b=c:=Int.mul_ediv_cancel_left c (by omega)
 rw [we] at hk
 have iD:(b*c).natAbs=b.natAbs*c.natAbs:=natAbs_mul b c
 have pn:0<b.natAbs:=by omega
 have hq:(b*c).natAbs / b.natAbs=c.natAbs:=by rw [iD];exact Nat.mul_div_cancel_left _ pn
 have hr:(b*c).natAbs%b.natAbs=0:=by rw [iD];exact Nat.mul_mod_right _ _
 have gG:(decide (b*c<0)&&decide (0<c.natAbs))=decide (c<0):=by
  by_cases hc:c<0
  ·rw [aU hc,aU (show 0<c.natAbs by omega),aU (Int.mul_neg_of_pos_of_neg b0 hc)];rfl
  ·have:0≤b*c:=Int.mul_nonneg (by omega) (by omega)
   rw [aS hc,aS (by omega)];rfl
 refine f121 ?_
 have e1:∀(g:ae) (s:Bool) (v:Value),bm 105 g (.agg #[B s,v])=some (pt g.length 0,g++[.arr 105 [B s,v]]):=fun _ _ _=>rfl
 have e2:∀(g:ae),aV 105 [(.bool false),(.slice none 0 0)] g=some (pt g.length 0,g++[.arr 105 [(.bool false),(.slice none 0 0)]]):=fun _=>rfl
 have ob:∀{g:ae} {i:Nat},g[i]?=some (.arr 105 [(.bool false),(.slice none 0 0)])→eC g (pt i 0)=some (.agg #[.int .i64 105,.bool false,.slice none 0 0]):=by
  intro g i hi
  simp [eC,Ap,hi,pU,tK]
 rw [wy]
 simp only [NV,e1,e2,aA]
 have q0:EX h (h++[.arr 105 [B (decide (b*c<0)),v]]):=EX.append _ _
 have p0:(h++[aj.arr 105 [B (decide (b*c<0)),v]])[h.length]?=some (.arr 105 [B (decide (b*c<0)),v]):=bn
 generalize h++[aj.arr 105 [B (decide (b*c<0)),v]]=ga at q0 p0⊢
 have q1:EX ga (ga++[.arr 105 [B false,w]]):=EX.append _ _
 have p1:(ga++[aj.arr 105 [B false,w]])[ga.length]?=some (.arr 105 [B false,w]):=bn
 generalize ga++[aj.arr 105 [B false,w]]=gb at q1 p1⊢
 have q2:EX gb (gb++[.arr 105 [(.bool false),(.slice none 0 0)]]):=EX.append _ _
 have p2:(gb++[aj.arr 105 [(.bool false),(.slice none 0 0)]])[gb.length]?=some (.arr 105 [(.bool false),(.slice none 0 0)]):=bn
 generalize gb++[aj.arr 105 [(.bool false),(.slice none 0 0)]]=gc at q2 p2⊢
 have q3:EX gc (gc++[.arr 105 [(.bool false),(.slice none 0 0)]]):=EX.append _ _
 have p3:(gc++[aj.arr 105 [(.bool false),(.slice none 0 0)]])[gc.length]?=some (.arr 105 [(.bool false),(.slice none 0 0)]):=bn
 generalize gc++[aj.arr 105 [(.bool false),(.slice none 0 0)]]=gd at q3 p3⊢
 have FZ:=q1.trans (q2.trans q3)
 have FY:=q0.trans FZ
 have k0:=FZ.get p0
 have k1:=(q2.trans q3).get p1
 have k2:=q3.get p2
 have la1:∀{g:ae},EX gd g→af false 1 g (pt h.length 1)=some v:=fun x=>by simp [af,aP,x.get k0,b9]
 have Kc:∀{g:ae},EX gd g→af false 1 g (pt h.length 0)=some (B (decide (b*c<0))):=fun x=>by simp [af,aP,x.get k0,b9]
 have lb1:∀{g:ae},EX gd g→af false 1 g (pt ga.length 1)=some w:=fun x=>by simp [af,aP,x.get k1,b9]
 have Tg:∀{g:ae},EX gd g→af false 1 g (pt ga.length 0)=some (B false):=fun x=>by simp [af,aP,x.get k1,b9]
 simp only [bU,zero_add,add_zero,ah,la1 (EX.refl gd),lb1 (EX.refl gd)]
 refine Xn (hv.mono FY) (hw.mono FY) la lb pn ?_
 intro q r g5 x5 mq mr
 rw [hq] at mq
 rw [hr] at mr
 simp only [dX,eD,eI,ah]
 have y1:EX g5 (g5++[.arr 105 [(.bool false),(.slice none 0 0)]]):=EX.append _ _
 have s1:(g5++[aj.arr 105 [(.bool false),(.slice none 0 0)]])[g5.length]?=some (.arr 105 [(.bool false),(.slice none 0 0)]):=bn
 have wV:(g5++[aj.arr 105 [(.bool false),(.slice none 0 0)]]).length=g5.length+1:=by simp
 generalize g5++[aj.arr 105 [(.bool false),(.slice none 0 0)]]=g6 at y1 s1 wV⊢
 have y2:EX g6 (g6++[.arr 105 [(.bool false),(.slice none 0 0)]]):=EX.append _ _
 have s2:(g6++[aj.arr 105 [(.bool false),(.slice none 0 0)]])[g6.length]?=some (.arr 105 [(.bool false),(.slice none 0 0)]):=bn
 generalize g6++[aj.arr 105 [(.bool false),(.slice none 0 0)]]=g7 at y2 s2⊢
 have V7:=y2.get s1
 have xd:=y1.trans y2
 have z5:=x5
 have z6:=x5.trans y1
 have z7:=x5.trans xd
 simp only [ob s1,ob V7,ob s2,ah,true_and,Kc z5,Kc z6,Kc z7,Tg z5,Tg z6,Tg z7,Ec,if_true]
 have hx:(!(decide (b*c<0)==false))=decide (b*c<0):=by cases decide (b*c<0) <;> rfl
 rw [hx]
 refine sP (mq.mono xd) ?_
 intro g8 x8
 rw [gG]
 simp only [ob (x8.get V7),ob (x8.get s2),true_and,Kc (z7.trans x8),ah]
 refine sP ((mr.mono xd).mono x8) ?_
 intro g9 x9
 have jy:=x8.trans x9
 have t1:=jy.get V7
 have t2:=jy.get s2
 have bp:g5.length≠g6.length:=by omega
 simp only [ob t1,ob t2,true_and,aS (show ¬(0<0) by decide),Bool.and_false]
 rw [fD t1]
 simp only [aA]
 have LZ:(g9.set g5.length (.arr 105 [B (decide (c<0)),q]))[g6.length]?=some (.arr 105 [(.bool false),(.slice none 0 0)]):=by rw [getElem?_set_ne bp];exact t2
 rw [fD LZ]
 simp only [aA]
 obtain ⟨l,l1,l2⟩:=mr.qo
 have l0:l=0:=by
  apply byContradiction
  intro hc
  have:=l2.1 (by omega)
  omega
 subst l0
 simp only [l1,ah,fG]
 rw [aS (show ¬((0:Int)<((0:Nat):Int)) by decide)]
 rw [aBD]
 simp only [kL]
 rw [aBE]
 have pk:bQ (B false) undef (.bool false)=some (B false):=rfl
 simp only [pk,ah,dF]
 rw [aBC]
 have u1:((g9.set g5.length (.arr 105 [B (decide (c<0)),q])).set g6.length (.arr 105 [B false,r]))[g5.length]?=some (.arr 105 [B (decide (c<0)),q]):=by
  rw [getElem?_set_ne (fun e=>bp e.symm)];exact ck t1
 have u2:((g9.set g5.length (.arr 105 [B (decide (c<0)),q])).set g6.length (.arr 105 [B false,r]))[g6.length]?=some (.arr 105 [B false,r]):=ck LZ
 have hgd:gd.length≤g5.length:=x5.1
 have yf:EX h ((g9.set g5.length (.arr 105 [B (decide (c<0)),q])).set g6.length (.arr 105 [B false,r])):=
  (((FY.trans z7).trans jy).set (by have:=FY.1;omega) _).set (by have:=FY.1;omega) _
 have lgb:gb.length<gd.length:=by
  have:=(bL k2).1;exact this
 have lgc:gc.length<gd.length:=(bL p3).1
 have w2:((g9.set g5.length (.arr 105 [B (decide (c<0)),q])).set g6.length (.arr 105 [B false,r]))[gb.length]?=some (.arr 105 [(.bool false),(.slice none 0 0)]):=by
  rw [getElem?_set_ne (by omega),getElem?_set_ne (by omega)];exact (z7.trans jy).get k2
 have w3:((g9.set g5.length (.arr 105 [B (decide (c<0)),q])).set g6.length (.arr 105 [B false,r]))[gc.length]?=some (.arr 105 [(.bool false),(.slice none 0 0)]):=by
  rw [getElem?_set_ne (by omega),getElem?_set_ne (by omega)];exact (z7.trans jy).get p3
 have mqf:dJ ((g9.set g5.length (.arr 105 [B (decide (c<0)),q])).set g6.length (.arr 105 [B false,r])) q c.natAbs:=(((mq.mono xd).mono jy).bM t1 _).bM LZ _
 have mrf:dJ ((g9.set g5.length (.arr 105 [B (decide (c<0)),q])).set g6.length (.arr 105 [B false,r])) r 0:=(((mr.mono xd).mono jy).bM t1 _).bM LZ _
 generalize (g9.set g5.length (.arr 105 [B (decide (c<0)),q])).set g6.length (.arr 105 [B false,r])=gz at u1 u2 yf w2 w3 mqf mrf⊢
 rw [cO u1,cO u2]
 simp only [ah,true_and]
 rw [fD w2]
 simp only [aA]
 have hbc:gb.length≠gc.length:=by
  have:=(bL p2).1;omega
 have L5:(gz.set gb.length (.arr 105 [B (decide (c<0)),q]))[g6.length]?=some (.arr 105 [B false,r]):=by rw [getElem?_set_ne (by omega)];exact u2
 have Me:(gz.set gb.length (.arr 105 [B (decide (c<0)),q]))[gc.length]?=some (.arr 105 [(.bool false),(.slice none 0 0)]):=by rw [getElem?_set_ne hbc];exact w3
 rw [cO L5,fD Me]
 simp only [true_and,aA]
 have n2:((gz.set gb.length (.arr 105 [B (decide (c<0)),q])).set gc.length (.arr 105 [B false,r]))[gb.length]?=some (.arr 105 [B (decide (c<0)),q]):=by
  rw [getElem?_set_ne (fun e=>hbc e.symm)];exact ck w2
 rw [cO n2,cO (ck Me)]
 simp only [ah]
 have qf:h.length≤gb.length:=(q0.trans q1).1
 refine hk _ _ _ ((yf.set qf _).set (by have:=(bL p2).1;omega) _) ⟨q,rfl,(mqf.bM w2 _).bM Me _⟩ ⟨r,rfl,(mrf.bM w2 _).bM Me _⟩
theorem W9 {va vb:Value} {a b:Int} {h:ae} {K:Value→ae→Prop} (ha:dV h va a) (hb:dV h vb b) (la:a.natAbs<br) (b0:0<b) (lb:b.natAbs<br)
  (hk:∀r h',EX h h'→iB h' r (a / (gcd a.natAbs b.natAbs:Int)) (b / (gcd a.natAbs b.natAbs:Int))→K r h'):ak prog 106 [va,vb] h K:=by
 obtain ⟨v,rfl,hv⟩:=ha
 obtain ⟨w,rfl,hw⟩:=hb
 have wy:decide (b<0)=false:=aS (by omega)
 obtain ⟨g1p,aGR⟩:=awY (a:=a) b0
 have Rx:(gcd a.natAbs b.natAbs:Int) ∣ a:=Int.gcd_dvd_left ..
 have xO:(gcd a.natAbs b.natAbs:Int) ∣ b:=Int.gcd_dvd_right ..
 refine f106 ?_
 have e1:∀(g:ae) (s:Bool) (v:Value),bm 105 g (.agg #[B s,v])=some (pt g.length 0,g++[.arr 105 [B s,v]]):=fun _ _ _=>rfl
 have e2:∀(g:ae),aV 105 [(.bool false),(.slice none 0 0)] g=some (pt g.length 0,g++[.arr 105 [(.bool false),(.slice none 0 0)]]):=fun _=>rfl
 have e3:∀(g:ae),aV 107 [(.bool false),(.slice none 0 0),(.bool false),(.slice none 0 0)] g=some (pt g.length 0,g++[.arr 107 z4]):=fun _=>rfl
 simp only [NG,e1,e3,aA]
 have q0:EX h (h++[.arr 105 [B (decide (a<0)),v]]):=EX.append _ _
 have p0:(h++[aj.arr 105 [B (decide (a<0)),v]])[h.length]?=some (.arr 105 [B (decide (a<0)),v]):=bn
 generalize h++[aj.arr 105 [B (decide (a<0)),v]]=ga at q0 p0⊢
 have q1:EX ga (ga++[.arr 105 [B (decide (b<0)),w]]):=EX.append _ _
 have p1:(ga++[aj.arr 105 [B (decide (b<0)),w]])[ga.length]?=some (.arr 105 [B (decide (b<0)),w]):=bn
 generalize ga++[aj.arr 105 [B (decide (b<0)),w]]=gb at q1 p1⊢
 have q2:EX gb (gb++[.arr 107 z4]):=EX.append _ _
 have p2:(gb++[aj.arr 107 z4])[gb.length]?=some (.arr 107 z4):=bn
 generalize gb++[aj.arr 107 z4]=gc at q2 p2⊢
 have k0:=(q1.trans q2).get p0
 have k1:=q2.get p1
 have x0:=q0.trans (q1.trans q2)
 have qf:h.length≤gb.length:=(q0.trans q1).1
 have Tl:∀{g:ae},EX gc g→af true 2 g (pt h.length 0)=some (.agg #[B (decide (a<0)),v]):=fun x=>cO (x.get k0)
 have Tj:∀{g:ae},EX gc g→af true 2 g (pt ga.length 0)=some (.agg #[B (decide (b<0)),w]):=fun x=>cO (x.get k1)
 have J4:∀{g:ae},EX gc g→dV g (.agg #[B (decide (a<0)),v]) a:=fun x=>⟨v,rfl,hv.mono (x0.trans x)⟩
 have J5:∀{g:ae},EX gc g→dV g (.agg #[B (decide (b<0)),w]) b:=fun x=>⟨w,rfl,hw.mono (x0.trans x)⟩
 have l1:af false 1 gc (pt ga.length 0)=some (B (decide (b<0))):=by simp [af,aP,k1,b9]
 simp only [bU,add_zero,ah,l1]
 rw [wy]
 simp only [dF]
 rw [aBp]
 rw [Tl (EX.refl gc),Tj (EX.refl gc)]
 simp only [ah]
 refine Xg (J4 (EX.refl gc)) (J5 (EX.refl gc)) la lb ?_
 intro r g3 x3 ir
 simp only [e2,aA]
 have y4:EX g3 (g3++[.arr 105 [(.bool false),(.slice none 0 0)]]):=EX.append _ _
 have s4:(g3++[aj.arr 105 [(.bool false),(.slice none 0 0)]])[g3.length]?=some (.arr 105 [(.bool false),(.slice none 0 0)]):=bn
 generalize g3++[aj.arr 105 [(.bool false),(.slice none 0 0)]]=g4 at y4 s4⊢
 obtain ⟨u,rfl,hu⟩:=ir
 have hu4:=(hu.mono y4).bM s4 (.arr 105 [B (decide ((gcd a.natAbs b.natAbs:Int)<0)),u])
 rw [fD s4]
 simp only [aA]
 have wh:gc.length≤g3.length:=x3.1
 have x5:EX gc (g4.set g3.length (.arr 105 [B (decide ((gcd a.natAbs b.natAbs:Int)<0)),u])):=(x3.trans y4).set wh _
 have s5:(g4.set g3.length (.arr 105 [B (decide ((gcd a.natAbs b.natAbs:Int)<0)),u]))[g3.length]?=some (.arr 105 [B (decide ((gcd a.natAbs b.natAbs:Int)<0)),u]):=ck s4
 generalize g4.set g3.length (.arr 105 [B (decide ((gcd a.natAbs b.natAbs:Int)<0)),u])=g5 at x5 s5 hu4⊢
 have ig:∀{g:ae},EX g5 g→dV g (.agg #[B (decide ((gcd a.natAbs b.natAbs:Int)<0)),u]) (gcd a.natAbs b.natAbs:Int):=fun x=>⟨u,rfl,hu4.mono x⟩
 rw [cO s5]
 simp only [ah,true_and]
 refine De (by decide) (by decide) ?_
 intro one g6 x6 i1
 rw [cO (x6.get s5)]
 simp only [true_and]
 have Tq:((gcd a.natAbs b.natAbs:Int)).natAbs<br:=by rw [natAbs_natCast];have:=Nat.gcd_le_right a.natAbs (show 0<b.natAbs by omega);omega
 refine Mu (ig x6) i1 Tq (by rw [show (1:Int).natAbs=1 from rfl];exact A7 (by decide)) ?_
 intro g7 x7
 have fa:=x6.trans x7
 have xc:=x5.trans fa
 simp only [iT,ah,bR]
 refine ⟨fun h1=>?_,fun h1=>?_⟩
 ·have xS:(gcd a.natAbs b.natAbs:Int)=1:=by
   split at h1
   ·omega
   ·split at h1 <;> omega
  rw [Tl xc,Tj xc]
  simp only [ah]
  rw [xS,Int.ediv_one,Int.ediv_one] at hk
  exact IY (J4 xc) (J5 xc) (x0.trans xc) qf (xc.get p2) hk
 ·rw [Tl xc,cO (fa.get s5)]
  simp only [ah]
  refine Xh (J4 xc) (ig fa) la g1p Tq Rx ?_
  intro rn sn g8 x8 irn isn
  simp only [dX,eD,eI,ah]
  have y9:EX g8 (g8++[.arr 105 [(.bool false),(.slice none 0 0)]]):=EX.append _ _
  have s9:(g8++[aj.arr 105 [(.bool false),(.slice none 0 0)]])[g8.length]?=some (.arr 105 [(.bool false),(.slice none 0 0)]):=bn
  generalize g8++[aj.arr 105 [(.bool false),(.slice none 0 0)]]=g9 at y9 s9⊢
  have W0:EX g9 (g9++[.arr 105 [(.bool false),(.slice none 0 0)]]):=EX.append _ _
  have lN:(g9++[aj.arr 105 [(.bool false),(.slice none 0 0)]])[g9.length]?=some (.arr 105 [(.bool false),(.slice none 0 0)]):=bn
  generalize g9++[aj.arr 105 [(.bool false),(.slice none 0 0)]]=iC at W0 lN⊢
  have Wa:=W0.get s9
  obtain ⟨qn,rfl,qQ⟩:=irn
  obtain ⟨zn,rfl,hzn⟩:=isn
  have h98:g8.length≠g9.length:=by have:=(bL s9).1;omega
  rw [fD Wa]
  simp only [aA]
  have t10:(iC.set g8.length (.arr 105 [B (decide (a / (gcd a.natAbs b.natAbs:Int)<0)),qn]))[g9.length]?=some (.arr 105 [(.bool false),(.slice none 0 0)]):=by rw [getElem?_set_ne h98];exact lN
  have t9:(iC.set g8.length (.arr 105 [B (decide (a / (gcd a.natAbs b.natAbs:Int)<0)),qn]))[g8.length]?=some (.arr 105 [B (decide (a / (gcd a.natAbs b.natAbs:Int)<0)),qn]):=ck Wa
  have anV:=y9.trans W0
  have afd:=(qQ.mono anV).bM Wa (.arr 105 [B (decide (a / (gcd a.natAbs b.natAbs:Int)<0)),qn])
  have WX:=xc.trans x8
  have gu:=fa.trans x8
  have xs1:EX g8 (iC.set g8.length (.arr 105 [B (decide (a / (gcd a.natAbs b.natAbs:Int)<0)),qn])):=anV.set (le_refl _) _
  generalize iC.set g8.length (.arr 105 [B (decide (a / (gcd a.natAbs b.natAbs:Int)<0)),qn])=pW at t10 t9 afd xs1⊢
  rw [fD t10]
  simp only [aA]
  have t9':(pW.set g9.length (.arr 105 [B (decide ((0:Int)<0)),zn]))[g8.length]?=some (.arr 105 [B (decide (a / (gcd a.natAbs b.natAbs:Int)<0)),qn]):=by rw [getElem?_set_ne (fun e=>h98 e.symm)];exact t9
  have afe:=afd.bM t10 (.arr 105 [B (decide ((0:Int)<0)),zn])
  have h89:g8.length≤g9.length:=by have:=(bL s9).1;omega
  have Da:EX g8 (pW.set g9.length (.arr 105 [B (decide ((0:Int)<0)),zn])):=xs1.set h89 _
  generalize pW.set g9.length (.arr 105 [B (decide ((0:Int)<0)),zn])=BQ at t9' afe Da⊢
  rw [Tj (WX.trans Da),cO ((gu.trans Da).get s5)]
  simp only [ah]
  refine Xh (J5 (WX.trans Da)) (ig (gu.trans Da)) lb g1p Tq xO ?_
  intro rd sd nP aB ird isd
  simp only [dX,eD,eI,ah]
  have y14:EX nP (nP++[.arr 105 [(.bool false),(.slice none 0 0)]]):=EX.append _ _
  have Ly:(nP++[aj.arr 105 [(.bool false),(.slice none 0 0)]])[nP.length]?=some (.arr 105 [(.bool false),(.slice none 0 0)]):=bn
  generalize nP++[aj.arr 105 [(.bool false),(.slice none 0 0)]]=pX at y14 Ly⊢
  have W1:EX pX (pX++[.arr 105 [(.bool false),(.slice none 0 0)]]):=EX.append _ _
  have yx:(pX++[aj.arr 105 [(.bool false),(.slice none 0 0)]])[pX.length]?=some (.arr 105 [(.bool false),(.slice none 0 0)]):=bn
  generalize pX++[aj.arr 105 [(.bool false),(.slice none 0 0)]]=vT at W1 yx⊢
  have V9:=W1.get Ly
  obtain ⟨qd,rfl,EP⟩:=ird
  obtain ⟨zd,rfl,hzd⟩:=isd
  have ad7:nP.length≠pX.length:=by have:=(bL Ly).1;omega
  rw [fD V9]
  simp only [aA]
  have anS:=y14.trans W1
  have t15:(vT.set nP.length (.arr 105 [B (decide (b / (gcd a.natAbs b.natAbs:Int)<0)),qd]))[pX.length]?=some (.arr 105 [(.bool false),(.slice none 0 0)]):=by rw [getElem?_set_ne ad7];exact yx
  have t14:(vT.set nP.length (.arr 105 [B (decide (b / (gcd a.natAbs b.natAbs:Int)<0)),qd]))[nP.length]?=some (.arr 105 [B (decide (b / (gcd a.natAbs b.natAbs:Int)<0)),qd]):=ck V9
  have afb:=(EP.mono anS).bM V9 (.arr 105 [B (decide (b / (gcd a.natAbs b.natAbs:Int)<0)),qd])
  have xs3:EX nP (vT.set nP.length (.arr 105 [B (decide (b / (gcd a.natAbs b.natAbs:Int)<0)),qd])):=anS.set (le_refl _) _
  generalize vT.set nP.length (.arr 105 [B (decide (b / (gcd a.natAbs b.natAbs:Int)<0)),qd])=Ja at t15 t14 afb xs3⊢
  rw [fD t15]
  simp only [aA]
  have anz:(Ja.set pX.length (.arr 105 [B (decide ((0:Int)<0)),zd]))[nP.length]?=some (.arr 105 [B (decide (b / (gcd a.natAbs b.natAbs:Int)<0)),qd]):=by rw [getElem?_set_ne (fun e=>ad7 e.symm)];exact t14
  have afc:=afb.bM t15 (.arr 105 [B (decide ((0:Int)<0)),zd])
  have h13:nP.length≤pX.length:=by have:=(bL Ly).1;omega
  have Mn:EX nP (Ja.set pX.length (.arr 105 [B (decide ((0:Int)<0)),zd])):=xs3.set h13 _
  generalize Ja.set pX.length (.arr 105 [B (decide ((0:Int)<0)),zd])=g17 at anz afc Mn⊢
  rw [cO ((aB.trans Mn).get t9'),cO anz]
  simp only [ah]
  have anW:=WX.trans (Da.trans (aB.trans Mn))
  exact IY ⟨qn,rfl,afe.mono (aB.trans Mn)⟩ ⟨qd,rfl,afc⟩ (x0.trans anW) qf (anW.get p2) hk
theorem aow {va vb:Value} {a b c d:Int} {h:ae} {K:Value→ae→Prop} (ha:iB h va a b) (hb:iB h vb c d) (la:a.natAbs<br) (lb:b.natAbs<br) (lc:c.natAbs<br) (ld:d.natAbs<br) (Fe:(a*d).natAbs<br) (b0:0<b*c) (lbc:(b*c).natAbs<br)
  (hk:∀r h',EX h h'→iB h' r (a*d / (gcd (a*d).natAbs (b*c).natAbs:Int)) (b*c / (gcd (a*d).natAbs (b*c).natAbs:Int))→K r h'):ak prog 77 [va,vb] h K:=by
 obtain ⟨u,w,rfl,hu,hw⟩:=ha
 obtain ⟨u2,w2,rfl,qj,mS⟩:=hb
 refine f77 ?_
 have e1:∀(g:ae) (s t:Bool) (v w:Value),bm 107 g (.agg #[B s,v,B t,w])=some (pt g.length 0,g++[.arr 107 [B s,v,B t,w]]):=fun _ _ _ _ _=>rfl
 have e3:∀(g:ae),aV 107 [(.bool false),(.slice none 0 0),(.bool false),(.slice none 0 0)] g=some (pt g.length 0,g++[.arr 107 z4]):=fun _=>rfl
 simp only [OV,e1,e3,aA]
 have q0:EX h (h++[.arr 107 [B (decide (a<0)),u,B (decide (b<0)),w]]):=EX.append _ _
 have p0:(h++[aj.arr 107 [B (decide (a<0)),u,B (decide (b<0)),w]])[h.length]?=some (.arr 107 [B (decide (a<0)),u,B (decide (b<0)),w]):=bn
 generalize h++[aj.arr 107 [B (decide (a<0)),u,B (decide (b<0)),w]]=ga at q0 p0⊢
 have q1:EX ga (ga++[.arr 107 [B (decide (c<0)),u2,B (decide (d<0)),w2]]):=EX.append _ _
 have p1:(ga++[aj.arr 107 [B (decide (c<0)),u2,B (decide (d<0)),w2]])[ga.length]?=some (.arr 107 [B (decide (c<0)),u2,B (decide (d<0)),w2]):=bn
 generalize ga++[aj.arr 107 [B (decide (c<0)),u2,B (decide (d<0)),w2]]=gb at q1 p1⊢
 have q2:EX gb (gb++[.arr 107 z4]):=EX.append _ _
 have p2:(gb++[aj.arr 107 z4])[gb.length]?=some (.arr 107 z4):=bn
 generalize gb++[aj.arr 107 z4]=gc at q2 p2⊢
 have k0:=(q1.trans q2).get p0
 have k1:=q2.get p1
 have x0:=q0.trans (q1.trans q2)
 have qf:h.length≤gb.length:=(q0.trans q1).1
 simp only [bU,zero_add,ah]
 rw [jR k0,kZ k1]
 simp only [ah,true_and]
 refine tW (a:=a) (b:=d) ⟨u,rfl,hu.mono x0⟩ ⟨w2,rfl,mS.mono x0⟩ la ld ?_
 intro r1 g4 x4 i1
 rw [kZ (x4.get k0),jR (x4.get k1)]
 simp only [kZ k0,jR k1,ah,true_and]
 refine tW (a:=b) (b:=c) ⟨w,rfl,(hw.mono x0).mono x4⟩ ⟨u2,rfl,(qj.mono x0).mono x4⟩ lb lc ?_
 intro r2 g5 x5 i2
 refine W9 (i1.mono x5) i2 Fe b0 lbc ?_
 intro r g6 x6 ir
 have dD:=x4.trans (x5.trans x6)
 have g2:=dD.get p2
 obtain ⟨y,z,rfl,hy,hz⟩:=ir
 exact rR g2 (hk _ _ ((x0.trans dD).set qf _) ⟨y,z,rfl,hy.bM g2 _,hz.bM g2 _⟩)
end
section
variable (P : Program) (K : VK)
noncomputable section
variable (a0 : Value) (h : ae)
def aiB:=bz prog 81 [[],[]]
@[irreducible] def c81:=bJ aiB
theorem k81:aiB=some (6,c81,[.tmp 2]):=by kernel_rfl
def OX:Prop:=
 OH (bm 107 h a0) fun a1 z1=>
 OP (aL 0 a1) fun x3=>
 OP (af true 2 z1 x3) fun x4=>
 ak P 109 [x4] z1 fun x5 z2=>
 K x5 z2
theorem e81:aq P c81 (aT [.tmp 2] K) (bt [a0]) h=OX P K a0 h:=by kernel_rfl
theorem f81 {K:VK} {a0:Value} {h:ae} (H:OX prog K a0 h):ak prog 81 [a0] h K:=
 bK k81 (bI rfl) ((e81 prog K a0 h).mpr H)
end
noncomputable section
variable (a0 x1 a2 aC aO : Value) (h : ae)
def aiE:=bz prog 84 [[],[1,2,12],[12,19],[]]
@[irreducible] def Ik:=bJ aiE
@[irreducible] def acy:=Ik.r.l.r.l
@[irreducible] def auw:=Ik.r.r
@[irreducible] def auy:=acy.r.l
theorem k84:aiE=some (21,Ik,[.tmp 4]):=by kernel_rfl
def YX (_P:Program) (K:VK):ar:=aT [.tmp 4] K
def YY:ar:=aG (aq P auw (YX P K)) (YX P K)
def ald:Prop:=ay (aq P acy (YY P K)) [1,2,12] [x1,a2,aC] h
def U5:Prop:=ay (aq P auy (YY P K)) [12,19] [aC,aO] h
theorem amK:U5 P K aC aO h=
 (OP (bQ aC aO (.bool false)) fun aX=>
 K aX h):=az (by kernel_rfl)
theorem aD0:ald P K x1 a2 aC h=
 (cC aC true
 (OP (aL 2 a2) fun aB=>
 OP (aL 1 aB) fun aH=>
 OP (af false 1 h aH) fun bc=>
 ak P 89 [bc] h fun bk z1=>
 OP (gI bk) fun bN=>
 OP (ai .leq bN x1) fun aO=>
 U5 P K aC aO z1)
 (U5 P K aC undef h)):=az (by kernel_rfl)
def O0:Prop:=
 OH (bm 107 h a0) fun a2 z1=>
 OP (aL 0 a2) fun x5=>
 OP (aL 1 x5) fun x6=>
 OP (af false 1 z1 x6) fun x7=>
 ak P 89 [x7] z1 fun x8 z2=>
 OP (gI x8) fun x9=>
 OP (ai .leq x9 x1) fun au=>
 ald P K x1 a2 au z2
theorem e84:aq P Ik (aT [.tmp 4] K) (bt [a0,x1]) h=O0 P K a0 x1 h:=by kernel_rfl
theorem f84 {K:VK} {a0 x1:Value} {h:ae} (H:O0 prog K a0 x1 h):ak prog 84 [a0,x1] h K:=
 bK k84 (bI rfl) ((e84 prog K a0 x1 h).mpr H)
end
noncomputable section
variable (a0 b1 : Value) (h : ae)
def aiG:=bz prog 86 [[],[]]
@[irreducible] def Im:=bJ aiG
theorem k86:aiG=some (16,Im,[.tmp 4]):=by kernel_rfl
def O2:Prop:=
 OH (bm 107 h a0) fun a2 z1=>
 OH (bm 107 z1 b1) fun b3 z2=>
 OP (aL 0 a2) fun x5=>
 OP (af true 2 z2 x5) fun x6=>
 (True)∧
 OP (aL 2 b3) fun x7=>
 OP (af true 2 z2 x7) fun x8=>
 (True)∧
 ak P 107 [x6,x8] z2 fun x9 z3=>
 (True)∧
 OP (aL 0 b3) fun aM=>
 OP (af true 2 z3 aM) fun au=>
 (af true 2 z2 aM=some au∧True)∧
 OP (aL 2 a2) fun aC=>
 OP (af true 2 z3 aC) fun aB=>
 (af true 2 z2 aC=some aB∧True)∧
 ak P 107 [au,aB] z3 fun aH z4=>
 (True)∧
 ak P 111 [x9,aH] z4 fun bc z5=>
 (True)∧
 K bc z5
theorem e86:aq P Im (aT [.tmp 4] K) (bt [a0,b1]) h=O2 P K a0 b1 h:=by kernel_rfl
theorem f86 {K:VK} {a0 b1:Value} {h:ae} (H:O2 prog K a0 b1 h):ak prog 86 [a0,b1] h K:=
 bK k86 (bI rfl) ((e86 prog K a0 b1 h).mpr H)
end
noncomputable section
variable (a0 b1 a2 b3 x4 x7 x9 : Value) (h : ae)
def aiH:=bz prog 87 [[],[2,3,4,7],[2,3,4,7,9],[],[],[],[]]
@[irreducible] def DQ:=bJ aiH
@[irreducible] def acA:=DQ.r.l.l.r.l
@[irreducible] def auC:=DQ.r.l.r
@[irreducible] def auB:=DQ.r.r
@[irreducible] def auD:=acA.r.l
theorem k87:aiH=some (34,DQ,[.cell true 4 4]):=by kernel_rfl
def YZ (_P:Program) (K:VK):ar:=aT [.cell true 4 4] K
def Y0:ar:=aG (aq P auB (YZ P K)) (YZ P K)
def Y1:ar:=aG (aq P auC (Y0 P K)) (Y0 P K)
def alg:Prop:=ay (aq P acA (Y1 P K)) [2,3,4,7] [a2,b3,x4,x7] h
def K4:Prop:=ay (aq P auD (Y1 P K)) [2,3,4,7,9] [a2,b3,x4,x7,x9] h
theorem aD4:K4 P K a2 b3 x4 x7 x9 h=
 (OP (bQ x7 x9 (.bool false)) fun aM=>
 aR aM
 (OP (aL 0 a2) fun au=>
 OP (af true 2 h au) fun aC=>
 OP (aL 0 b3) fun aB=>
 OP (af true 2 h aB) fun aH=>
 ak P 113 [aC,aH] h fun bc z1=>
 ak P 112 [bc] z1 fun bk z2=>
 OH (aF 4 z2 x4 bk) fun _ z3=>
 OP (af true 4 z3 x4) fun r0=>
 K r0 z3)
 (OP (aL 0 a2) fun bN=>
 OP (af true 2 h bN) fun aQ=>
 (True)∧
 OP (aL 2 b3) fun aO=>
 OP (af true 2 h aO) fun aX=>
 (True)∧
 ak P 107 [aQ,aX] h fun aZ z1=>
 (True)∧
 OP (aL 0 b3) fun bF=>
 OP (af true 2 z1 bF) fun cB=>
 (af true 2 h bF=some cB∧True)∧
 OP (aL 2 a2) fun bu=>
 OP (af true 2 z1 bu) fun ca=>
 (af true 2 h bu=some ca∧True)∧
 ak P 107 [cB,ca] z1 fun cw z2=>
 (True)∧
 ak P 113 [aZ,cw] z2 fun bZ z3=>
 (True)∧
 OP (aL 2 a2) fun cG=>
 OP (af true 2 z3 cG) fun cM=>
 (af true 2 h cG=some cM∧af true 2 z1 cG=some cM∧af true 2 z2 cG=some cM∧True)∧
 OP (aL 2 b3) fun dC=>
 OP (af true 2 z3 dC) fun cE=>
 (af true 2 h dC=some cE∧af true 2 z1 dC=some cE∧af true 2 z2 dC=some cE∧True)∧
 ak P 107 [cM,cE] z3 fun cS z4=>
 (True)∧
 ak P 106 [bZ,cS] z4 fun dH z5=>
 (True)∧
 OH (aF 4 z5 x4 dH) fun _ z6=>
 (True)∧
 OP (af true 4 z6 x4) fun r0=>
 K r0 z6)):=az (by kernel_rfl)
theorem aD3:alg P K a2 b3 x4 x7 h=
 (cC x7 true
 (OP (af true 4 h b3) fun x8=>
 ak P 90 [x8] h fun x9 z1=>
 K4 P K a2 b3 x4 x7 x9 z1)
 (K4 P K a2 b3 x4 x7 undef h)):=az (by kernel_rfl)
def O3:Prop:=
 OH (bm 107 h a0) fun a2 z1=>
 OH (bm 107 z1 b1) fun b3 z2=>
 OH (aV 107 [(.bool false),(.slice none 0 0),(.bool false),(.slice none 0 0)] z2) fun x4 z3=>
 OP (af true 4 z3 a2) fun x5=>
 ak P 90 [x5] z3 fun x6 z4=>
 alg P K a2 b3 x4 x6 z4
theorem e87:aq P DQ (aT [.cell true 4 4] K) (bt [a0,b1]) h=O3 P K a0 b1 h:=by kernel_rfl
theorem f87 {K:VK} {a0 b1:Value} {h:ae} (H:O3 prog K a0 b1 h):ak prog 87 [a0,b1] h K:=
 bK k87 (bI rfl) ((e87 prog K a0 b1 h).mpr H)
end
noncomputable section
variable (a0 b1 a2 b3 x4 x7 x9 : Value) (h : ae)
def aiI:=bz prog 88 [[],[2,3,4,7],[2,3,4,7,9],[],[],[],[]]
@[irreducible] def DR:=bJ aiI
@[irreducible] def acB:=DR.r.l.l.r.l
@[irreducible] def auF:=DR.r.l.r
@[irreducible] def auE:=DR.r.r
@[irreducible] def auG:=acB.r.l
theorem k88:aiI=some (28,DR,[.cell true 4 4]):=by kernel_rfl
def Y2 (_P:Program) (K:VK):ar:=aT [.cell true 4 4] K
def Y3:ar:=aG (aq P auE (Y2 P K)) (Y2 P K)
def Y4:ar:=aG (aq P auF (Y3 P K)) (Y3 P K)
def alh:Prop:=ay (aq P acB (Y4 P K)) [2,3,4,7] [a2,b3,x4,x7] h
def K5:Prop:=ay (aq P auG (Y4 P K)) [2,3,4,7,9] [a2,b3,x4,x7,x9] h
theorem aD6:K5 P K a2 b3 x4 x7 x9 h=
 (OP (bQ x7 x9 (.bool false)) fun aM=>
 aR aM
 (OP (aL 0 a2) fun au=>
 OP (af true 2 h au) fun aC=>
 OP (aL 0 b3) fun aB=>
 OP (af true 2 h aB) fun aH=>
 ak P 107 [aC,aH] h fun bc z1=>
 ak P 112 [bc] z1 fun bk z2=>
 OH (aF 4 z2 x4 bk) fun _ z3=>
 OP (af true 4 z3 x4) fun r0=>
 K r0 z3)
 (OP (aL 0 a2) fun bN=>
 OP (af true 2 h bN) fun aQ=>
 (True)∧
 OP (aL 0 b3) fun aO=>
 OP (af true 2 h aO) fun aX=>
 (True)∧
 ak P 107 [aQ,aX] h fun aZ z1=>
 (True)∧
 OP (aL 2 a2) fun bF=>
 OP (af true 2 z1 bF) fun cB=>
 (af true 2 h bF=some cB∧True)∧
 OP (aL 2 b3) fun bu=>
 OP (af true 2 z1 bu) fun ca=>
 (af true 2 h bu=some ca∧True)∧
 ak P 107 [cB,ca] z1 fun cw z2=>
 (True)∧
 ak P 106 [aZ,cw] z2 fun bZ z3=>
 (True)∧
 OH (aF 4 z3 x4 bZ) fun _ z4=>
 (True)∧
 OP (af true 4 z4 x4) fun r0=>
 K r0 z4)):=az (by kernel_rfl)
theorem aD5:alh P K a2 b3 x4 x7 h=
 (cC x7 true
 (OP (af true 4 h b3) fun x8=>
 ak P 90 [x8] h fun x9 z1=>
 K5 P K a2 b3 x4 x7 x9 z1)
 (K5 P K a2 b3 x4 x7 undef h)):=az (by kernel_rfl)
def O4:Prop:=
 OH (bm 107 h a0) fun a2 z1=>
 OH (bm 107 z1 b1) fun b3 z2=>
 OH (aV 107 [(.bool false),(.slice none 0 0),(.bool false),(.slice none 0 0)] z2) fun x4 z3=>
 OP (af true 4 z3 a2) fun x5=>
 ak P 90 [x5] z3 fun x6 z4=>
 alh P K a2 b3 x4 x6 z4
theorem e88:aq P DR (aT [.cell true 4 4] K) (bt [a0,b1]) h=O4 P K a0 b1 h:=by kernel_rfl
theorem f88 {K:VK} {a0 b1:Value} {h:ae} (H:O4 prog K a0 b1 h):ak prog 88 [a0,b1] h K:=
 bK k88 (bI rfl) ((e88 prog K a0 b1 h).mpr H)
end
noncomputable section
variable (a0 b1 : Value) (h : ae)
def aiP:=bz prog 96 [[],[]]
@[irreducible] def c96:=bJ aiP
theorem k96:aiP=some (9,c96,[.cell true 4 4]):=by kernel_rfl
def Pa:Prop:=
 OH (bm 107 h a0) fun a2 z1=>
 OH (bm 107 z1 b1) fun b3 z2=>
 OH (aV 107 [(.bool false),(.slice none 0 0),(.bool false),(.slice none 0 0)] z2) fun x4 z3=>
 OP (af true 4 z3 a2) fun x5=>
 (True)∧
 OP (af true 4 z3 b3) fun x6=>
 (True)∧
 ak P 116 [x6] z3 fun x7 z4=>
 (af true 4 z4 a2=some x5∧True)∧
 ak P 87 [x5,x7] z4 fun x8 z5=>
 (True)∧
 OH (aF 4 z5 x4 x8) fun _ z6=>
 (True)∧
 OP (af true 4 z6 x4) fun r0=>
 K r0 z6
theorem e96:aq P c96 (aT [.cell true 4 4] K) (bt [a0,b1]) h=Pa P K a0 b1 h:=by kernel_rfl
theorem f96 {K:VK} {a0 b1:Value} {h:ae} (H:Pa prog K a0 b1 h):ak prog 96 [a0,b1] h K:=
 bK k96 (bI rfl) ((e96 prog K a0 b1 h).mpr H)
end
noncomputable section
variable (a0 : Value) (h : ae)
def ahw:=bz prog 116 [[],[]]
@[irreducible] def aae:=bJ ahw
theorem azo:ahw=some (9,aae,[.cell true 4 2]):=by kernel_rfl
def NQ:Prop:=
 OH (bm 107 h a0) fun a1 z1=>
 OH (aV 107 [(.bool false),(.slice none 0 0),(.bool false),(.slice none 0 0)] z1) fun x2 z2=>
 OP (aL 0 a1) fun x3=>
 OP (af true 2 z2 x3) fun x4=>
 (True)∧
 ak P 119 [x4] z2 fun x5 z3=>
 (True)∧
 OP (aL 2 a1) fun x6=>
 OP (af true 2 z3 x6) fun x7=>
 (af true 2 z2 x6=some x7∧True)∧
 OP (dd [(.bool false),(.slice none 0 0),(.bool false),(.slice none 0 0)] [(0,2,x5),(2,2,x7)]) fun x8=>
 OH (aF 4 z3 x2 x8) fun _ z4=>
 (True)∧
 OP (af true 4 z4 x2) fun r0=>
 K r0 z4
theorem avQ:aq P aae (aT [.cell true 4 2] K) (bt [a0]) h=NQ P K a0 h:=by kernel_rfl
theorem f116 {K:VK} {a0:Value} {h:ae} (H:NQ prog K a0 h):ak prog 116 [a0] h K:=
 bK azo (bI rfl) ((avQ prog K a0 h).mpr H)
end
end
section
def RV (h:ae) (v:Value) (q:Rat):Prop:=iB h v q.num (q.den:Int)
theorem RV.mono {h h':ae} {v:Value} {q:Rat} (x:EX h h') (p:RV h v q):RV h' v q:=iB.mono x p
def bP (k:Nat) (q:Rat):Prop:=q.num.natAbs<10^k∧q.den<10^k
def af5:Nat:=900
theorem aA5:(10:Nat)^af5≤br:=by unfold br;decide+kernel
theorem sF {k:Nat} (h:k≤900):10^k≤br:=Nat.le_trans (pow_le_pow_right (by decide) (show k≤af5 from h)) aA5
theorem Ft {a b i j:Nat} (ha:a<10^i) (hb:b<10^j):a*b<10^(i+j):=by
 rw [pow_add]
 exact Nat.mul_lt_mul'' ha hb
theorem AI {N:Int} {D:Nat} (hD:0<D):(mkRat N D).num=N / (gcd N.natAbs D:Int)∧(mkRat N D).den=D / gcd N.natAbs D:=by
 rw [←Rat.normalize_eq_mkRat (by omega:D≠0),Rat.normalize_eq]
 exact ⟨rfl,rfl⟩
theorem Xa {va vb:Value} {N:Int} {D:Nat} {h:ae} {K:Value→ae→Prop} (ha:dV h va N) (hb:dV h vb (D:Int)) (la:N.natAbs<br) (d0:0<D) (lb:D<br) (hk:∀r h',EX h h'→RV h' r (mkRat N D)→K r h'):ak prog 106 [va,vb] h K:=by
 refine W9 ha hb la (by omega) (by rw [natAbs_natCast];exact lb) ?_
 intro r h' x hr
 refine hk r h' x ?_
 obtain ⟨e1,e2⟩:=AI (N:=N) d0
 unfold RV
 rw [e1,e2,Int.natCast_ediv]
 rw [natAbs_natCast] at hr
 exact hr
theorem bP.gQ {k:Nat} {q:Rat} (h:bP k q) (hk:k≤900):q.num.natAbs<br∧q.den<br:=by
 have:=sF hk
 exact ⟨lt_of_lt_of_le h.1 this,lt_of_lt_of_le h.2 this⟩
theorem yZ {i j:Nat} {p q:Rat} (hp:bP i p) (hq:bP j q):(p.num*q.den).natAbs<10^(i+j)∧(q.num*p.den).natAbs<10^(i+j)∧p.den*q.den<10^(i+j)∧(p.num*q.num).natAbs<10^(i+j):=by
 refine ⟨?_,?_,Ft hp.2 hq.2,?_⟩
 ·rw [natAbs_mul,natAbs_natCast];exact Ft hp.1 hq.2
 ·rw [natAbs_mul,natAbs_natCast,mul_comm];exact Ft hp.2 hq.1
 ·rw [natAbs_mul];exact Ft hp.1 hq.1
theorem agT (n:Int):(mkRat n 1).num=n∧(mkRat n 1).den=1:=by
 obtain ⟨e1,e2⟩:=AI (N:=n) (D:=1) (by decide)
 rw [Nat.gcd_one_right] at e1 e2
 exact ⟨by rw [e1];simp,by rw [e2]⟩
theorem Pe (p q:Rat):p+q=mkRat (p.num*q.den+q.num*p.den) (p.den*q.den):=by rw [Rat.add_def,Rat.normalize_eq_mkRat]
theorem TA (p q:Rat):p*q=mkRat (p.num*q.num) (p.den*q.den):=by rw [Rat.mul_def,Rat.normalize_eq_mkRat]
section
variable {va vb : Value} {p q : Rat} {i j : Nat} {h : ae} {K : Value → ae → Prop}
theorem yF (ha:RV h va p) (hb:RV h vb q) (sp:bP i p) (sq:bP j q) (eP:i+j≤800) (hk:∀r h',EX h h'→RV h' r (p+q)→K r h'):ak prog 87 [va,vb] h K:=by
 obtain ⟨u,w,rfl,hu,hw⟩:=ha
 obtain ⟨u2,w2,rfl,qj,mS⟩:=hb
 have pd:=p.den_pos
 have qd:=q.den_pos
 obtain ⟨wM,uN⟩:=sp.gQ (by omega)
 obtain ⟨wN,uO⟩:=sq.gQ (by omega)
 obtain ⟨c1,c2,c3,_⟩:=yZ sp sq
 have cb:=sF (k:=i+j) (by omega)
 have cb1:=sF (k:=i+j+1) (by omega)
 have ju:decide ((p.den:Int)<0)=false:=aS (by omega)
 have iF:decide ((q.den:Int)<0)=false:=aS (by omega)
 rw [natAbs_natCast] at hw mS
 rw [ju,iF]
 refine f87 ?_
 have e1:∀(g:ae) (s t:Bool) (v w:Value),bm 107 g (.agg #[B s,v,B t,w])=some (pt g.length 0,g++[.arr 107 [B s,v,B t,w]]):=fun _ _ _ _ _=>rfl
 have e3:∀(g:ae),aV 107 [(.bool false),(.slice none 0 0),(.bool false),(.slice none 0 0)] g=some (pt g.length 0,g++[.arr 107 z4]):=fun _=>rfl
 simp only [O3,e1,e3,aA]
 have q0:EX h (h++[.arr 107 [B (decide (p.num<0)),u,B false,w]]):=EX.append _ _
 have p0:(h++[aj.arr 107 [B (decide (p.num<0)),u,B false,w]])[h.length]?=some (.arr 107 [B (decide (p.num<0)),u,B false,w]):=bn
 generalize h++[aj.arr 107 [B (decide (p.num<0)),u,B false,w]]=ga at q0 p0⊢
 have q1:EX ga (ga++[.arr 107 [B (decide (q.num<0)),u2,B false,w2]]):=EX.append _ _
 have p1:(ga++[aj.arr 107 [B (decide (q.num<0)),u2,B false,w2]])[ga.length]?=some (.arr 107 [B (decide (q.num<0)),u2,B false,w2]):=bn
 generalize ga++[aj.arr 107 [B (decide (q.num<0)),u2,B false,w2]]=gb at q1 p1⊢
 have q2:EX gb (gb++[.arr 107 z4]):=EX.append _ _
 have p2:(gb++[aj.arr 107 z4])[gb.length]?=some (.arr 107 z4):=bn
 generalize gb++[aj.arr 107 z4]=gc at q2 p2⊢
 have k0:=(q1.trans q2).get p0
 have k1:=q2.get p1
 have x0:=q0.trans (q1.trans q2)
 have qf:h.length≤gb.length:=(q0.trans q1).1
 have done:∀{N:Int} {D:Nat} {r:Value} {g:ae},EX gc g→RV g r (mkRat N D)→p+q=mkRat N D→OH (aF 4 g (pt gb.length 0) r) fun _ h_3=>OP (af true 4 h_3 (pt gb.length 0)) fun r0=>K r0 h_3:=by
  intro N D r g xg hr he
  rw [←he] at hr
  have g2:=xg.get p2
  obtain ⟨y,z,rfl,hy,hz⟩:=hr
  exact rR g2 (hk _ _ ((x0.trans xg).set qf _) ⟨y,z,rfl,hy.bM g2 _,hz.bM g2 _⟩)
 simp only [iH k0,ah]
 refine Dh (hw.mono x0) uN ?_
 intro g4 x4
 have tH:=x4.get k0
 have kY:=x4.get k1
 have Gi:=x0.trans x4
 rw [aD3]
 have whole:∀t u':Value,bQ t u' (.bool false)=some (B (decide (p.den=1)&&decide (q.den=1)))→∀{g5:ae},EX g4 g5→K4 prog K (pt h.length 0) (pt ga.length 0) (pt gb.length 0) t u' g5:=by
  intro t u' ht g5 x5
  have k0:=x5.get tH
  have k1:=x5.get kY
  have rE:=Gi.trans x5
  have cP:=x4.trans x5
  rw [aD4,ht]
  simp only [ah]
  by_cases lV:p.den=1∧q.den=1
  ·rw [aU lV.1,aU lV.2]
   simp only [Bool.and_true,c8,bU,zero_add,ah]
   rw [jR k0]
   simp only [ah]
   rw [jR k1]
   simp only [ah]
   refine Mv (a:=p.num) (b:=q.num) ⟨u,rfl,hu.mono rE⟩ ⟨u2,rfl,qj.mono rE⟩ wM wN ?_
   intro r1 g6 x6 i1
   refine Xd i1 ?_
   intro r2 g7 x7 i2
   obtain ⟨n1,n2⟩:=agT (p.num+q.num)
   refine done (N:=p.num+q.num) (D:=1) (cP.trans (x6.trans x7)) (by unfold RV;rw [n1,n2];exact i2) ?_
   rw [Pe,lV.1,lV.2]
   simp
  ·have hf:(decide (p.den=1)&&decide (q.den=1))=false:=by
    rw [Bool.and_eq_false_iff,decide_eq_false_iff_not,decide_eq_false_iff_not]
    by_cases h1:p.den=1
    ·exact .inr fun h2=>lV ⟨h1,h2⟩
    ·exact .inl h1
   rw [hf]
   have oQ:∀{g:ae},EX g5 g→af true 2 g (pt h.length 0)=some (.agg #[B (decide (p.num<0)),u]):=fun x=>jR (x.get k0)
   have wI:∀{g:ae},EX g5 g→af true 2 g (pt h.length 2)=some (.agg #[B false,w]):=fun x=>kZ (x.get k0)
   have Kd:∀{g:ae},EX g5 g→af true 2 g (pt ga.length 0)=some (.agg #[B (decide (q.num<0)),u2]):=fun x=>jR (x.get k1)
   have Ay:∀{g:ae},EX g5 g→af true 2 g (pt ga.length 2)=some (.agg #[B false,w2]):=fun x=>kZ (x.get k1)
   have iw:∀{g:ae},EX g5 g→dV g (.agg #[B false,w]) (p.den:Int):=fun x=>dV.nat (hw.mono (rE.trans x))
   have J6:∀{g:ae},EX g5 g→dV g (.agg #[B false,w2]) (q.den:Int):=fun x=>dV.nat (mS.mono (rE.trans x))
   simp only [dF,bU,zero_add,ah,oQ (EX.refl g5),Ay (EX.refl g5),true_and]
   refine tW (a:=p.num) (b:=(q.den:Int)) ⟨u,rfl,hu.mono rE⟩ (J6 (EX.refl g5)) wM (by rw [natAbs_natCast];exact uO) ?_
   intro r1 g6 x6 i1
   simp only [Kd x6,Kd (EX.refl g5),wI x6,wI (EX.refl g5),ah,true_and]
   refine tW (a:=q.num) (b:=(p.den:Int)) ⟨u2,rfl,(qj.mono rE).mono x6⟩ (iw x6) wN (by rw [natAbs_natCast];exact uN) ?_
   intro r2 g7 x7 i2
   have gA:=x6.trans x7
   refine Mv (i1.mono x7) i2 (by omega) (by omega) ?_
   intro r3 g8 x8 i3
   have gB:=gA.trans x8
   simp only [wI gB,wI gA,Ay gB,Ay x6,Ay gA,ah,true_and]
   refine tW (iw gB) (J6 gB) (by rw [natAbs_natCast];exact uN) (by rw [natAbs_natCast];exact uO) ?_
   intro r4 g9 x9 i4
   rw [←Int.natCast_mul] at i4
   have JS:(p.num*q.den+q.num*p.den).natAbs<br:=by
    have h1:10^(i+j+1)=10^(i+j)*10:=pow_succ ..
    generalize 10^(i+j)=Z at*
    omega
   refine Xa (i3.mono x9) i4 JS (Nat.mul_pos pd qd) (lt_of_lt_of_le c3 cb) ?_
   intro r iC aM ir
   exact done (cP.trans (gB.trans (x9.trans aM))) ir (Pe p q)
 by_cases h1:p.den=1
 ·rw [aU h1]
  simp only [jm,iH kY,ah]
  refine Dh (mS.mono Gi) uO ?_
  intro g5 x5
  refine whole _ _ ?_ x5
  rw [h1];simp
 ·rw [aS h1]
  simp only [kL]
  refine whole _ _ ?_ (EX.refl g4)
  rw [aS h1];simp
end
end
end Go.Proofs.YtelmdbpaoifmoaaGreat
