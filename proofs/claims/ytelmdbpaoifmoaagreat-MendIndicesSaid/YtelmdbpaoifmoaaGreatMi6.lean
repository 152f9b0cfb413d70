/-
  Part 6 of the texts behind a statement of this seat: Zs1, Zp2, ZN5, Kp1, Kp2, Kp3, Kp4, Zp4, Zp5, ZMe10, Zs2, Sq27, ZM3, Sim33, Zs4, Zp3, ZB, ZMe8, Sq21, ZMe9, ZMd, ZMe15, Sq23, Sq28, Sq29, Zs5, ZSd, Zs6, Kp5, ZN6, Kp6, Kp7, Kp8, Kp9, ZN7, Kp10, ZK2, Kp11, Kp12, Kq1.
-/
import Derived.Test.YtelmdbpaoifmoaaGreatProg
import Derived.KernelRfl
import Derived.Test.YtelmdbpaoifmoaaGreatMi5
namespace Go.Proofs.YtelmdbpaoifmoaaGreat
open Go.Sim

theorem C54 {va vb:Value} {a b:Int} {h:ae} {K:Value→ae→Prop} (ha:ZV h va a) (hb:ZV h vb b) (b0:0≤b) (hk:∀r h',EX h h'→QZ h' r a b→K r h'):aj Tryz.prog 54 [va,vb] h K:=by
 obtain ⟨v,rfl,hv⟩:=ha
 obtain ⟨w,rfl,hw⟩:=hb
 have sA:decide (b<0)=false:=decide_eq_false (by omega)
 refine f54 ?_
 have e1:∀(g:ae) (s:Bool) (v:Value),bc 35 g (.agg #[B s,v])=some (pt g.length 0,g++[.arr 35 [B s,v]]):=fun _ _ _=>rfl
 have e3:∀(g:ae),aW 37 [(.bool false),(.slice none 0 0),(.bool false),(.slice none 0 0)] g=some (pt g.length 0,g++[.arr 37 z4]):=fun _=>rfl
 simp only [Ke,e1,e3,aD]
 have q0:EX h (h++[.arr 35 [B (decide (a<0)),v]]):=EX.append _ _
 have p0:(h++[ak.arr 35 [B (decide (a<0)),v]])[h.length]?=some (.arr 35 [B (decide (a<0)),v]):=bO
 generalize h++[ak.arr 35 [B (decide (a<0)),v]]=ga at q0 p0⊢
 have q1:EX ga (ga++[.arr 35 [B (decide (b<0)),w]]):=EX.append _ _
 have p1:(ga++[ak.arr 35 [B (decide (b<0)),w]])[ga.length]?=some (.arr 35 [B (decide (b<0)),w]):=bO
 generalize ga++[ak.arr 35 [B (decide (b<0)),w]]=gb at q1 p1⊢
 have q2:EX gb (gb++[.arr 37 z4]):=EX.append _ _
 have p2:(gb++[ak.arr 37 z4])[gb.length]?=some (.arr 37 z4):=bO
 generalize gb++[ak.arr 37 z4]=gc at q2 p2⊢
 have k0:=(q1.trans q2).get p0
 have k1:=q2.get p1
 have x0:=q0.trans (q1.trans q2)
 have l1:af false 1 gc (pt ga.length 0)=some (B (decide (b<0))):=by simp [af,aQ,k1,ck]
 simp only [bN,Nat.add_zero,ag,l1]
 rw [sA]
 simp only [c7]
 rw [aw4,cf k0,cf k1]
 simp only [ag]
 have FL:ZV gc (.agg #[B (decide (a<0)),v]) a:=⟨v,rfl,hv.mono x0⟩
 have FM:ZV gc (.agg #[B (decide (b<0)),w]) b:=⟨w,rfl,hw.mono x0⟩
 obtain ⟨xs,dx,_⟩:=id (hv.mono x0)
 obtain ⟨ys,dy,_⟩:=id (hw.mono x0)
 rw [Dh dx dy]
 simp only [ag]
 exact pN p2 (hk _ _ (x0.set (q0.trans q1).1 _) ⟨v,w,rfl,(hv.mono x0).bG p2 _,(hw.mono x0).bG p2 _⟩)

theorem apU {n:Nat} (hn:n<bj) (h:dj n=[49]):n=1:=by
 have:=(tG hn).2.2.2.2
 rw [h] at this
 simpa [cY] using this.symm

theorem aiO {va:Value} {a b:Int} {h:ae} {K:Value→ae→Prop} (ha:QZ h va a b) (b0:0<b) (la:a.natAbs<10000^199) (lb:b.natAbs<10000^199) (hk:∀h',EX h h'→K (.tuple #[S (ov (a / (Nat.gcd a.natAbs b.natAbs:Int)) (b / (Nat.gcd a.natAbs b.natAbs:Int))),B true]) h'):aj Tryz.prog 53 [va] h K:=by
 have lN:=ha
 obtain ⟨u,w,rfl,hu,hw⟩:=ha
 refine f53 ?_
 have e1:bc 37 h (.agg #[B (decide (a<0)),u,B (decide (b<0)),w])=some (pt h.length 0,h++[.arr 37 [B (decide (a<0)),u,B (decide (b<0)),w]]):=rfl
 simp only [Kd,e1,aD]
 have x1:EX h (h++[ak.arr 37 [B (decide (a<0)),u,B (decide (b<0)),w]]):=EX.append _ _
 have k1:(h++[ak.arr 37 [B (decide (a<0)),u,B (decide (b<0)),w]])[h.length]?=some (.arr 37 [B (decide (a<0)),u,B (decide (b<0)),w]):=bO
 generalize h++[ak.arr 37 [B (decide (a<0)),u,B (decide (b<0)),w]]=h1 at x1 k1⊢
 rw [gA k1]
 simp only [ag]
 refine RM (lN.mono x1) b0 la lb ?_
 intro r h2 x2 q2
 have Ze:0<Nat.gcd a.natAbs b.natAbs:=Nat.gcd_pos_of_pos_right _ (by omega)
 have MQ:Nat.gcd a.natAbs b.natAbs≤b.natAbs:=Nat.gcd_le_right _ (by omega)
 have MI:(Nat.gcd a.natAbs b.natAbs:Int) ∣ a:=Int.gcd_dvd_left ..
 have tR:(Nat.gcd a.natAbs b.natAbs:Int) ∣ b:=Int.gcd_dvd_right ..
 generalize hG:Nat.gcd a.natAbs b.natAbs=G at*
 have la':(a / (G:Int)).natAbs<10000^199:=by
  obtain ⟨c,rfl⟩:=MI
  rw [Int.mul_ediv_cancel_left c (by omega)]
  have:c.natAbs≤((G:Int)*c).natAbs:=by rw [Int.natAbs_mul];exact Nat.le_mul_of_pos_left _ (by omega)
  omega
 have b1:0<b / (G:Int)∧(b / (G:Int)).natAbs<10000^199:=by
  obtain ⟨c,rfl⟩:=tR
  rw [Int.mul_ediv_cancel_left c (by omega)]
  have hc:0<c:=by
   apply Classical.byContradiction
   intro jk
   have:=Int.mul_nonpos_of_nonneg_of_nonpos (show (0:Int)≤(G:Int) by omega) (show c≤0 by omega)
   omega
  have:c.natAbs≤((G:Int)*c).natAbs:=by rw [Int.natAbs_mul];exact Nat.le_mul_of_pos_left _ (by omega)
  exact ⟨hc,by omega⟩
 generalize a / (G:Int)=A at*
 generalize b / (G:Int)=D at*
 obtain ⟨D0,lD⟩:=b1
 obtain ⟨u',w',rfl,qg,ke⟩:=q2
 have hsD:decide (D<0)=false:=decide_eq_false (by omega)
 have k2:=x2.get k1
 rw [mO k2]
 simp only [aD]
 have x3:EX h (h2.set h.length (.arr 37 [B (decide (A<0)),u',B (decide (D<0)),w'])):=(x1.trans x2).set (Nat.le_refl _) _
 have k3:=cJ (o:=.arr 37 [B (decide (A<0)),u',B (decide (D<0)),w']) k2
 have ZU:=qg.bG k2 (.arr 37 [B (decide (A<0)),u',B (decide (D<0)),w'])
 have o9:=ke.bG k2 (.arr 37 [B (decide (A<0)),u',B (decide (D<0)),w'])
 generalize h2.set h.length (.arr 37 [B (decide (A<0)),u',B (decide (D<0)),w'])=h3 at x3 k3 ZU o9⊢
 have aAT:(10000:Nat)^199<10000^201:=by decide+kernel
 have hb:=mV (n:=A.natAbs) (by omega)
 have hD:=mV (n:=D.natAbs) (by omega)
 simp only [bN,Nat.add_zero,Nat.zero_add,iO k3,ag,true_and]
 refine Ik (⟨u',rfl,ZU⟩:ZV h3 _ A) ?_
 intro ua h4 x4 m4
 refine R5 m4.Ck hb ?_
 intro h5 x5
 have lX:∀{g},EX h3 g→af false 1 g (pt h.length 0)=some (B (decide (A<0))):=fun y=>EX.load y (by simp [af,aQ,k3,ck])
 simp only [jT k3,EX.load x4 (jT k3),EX.load (x4.trans x5) (jT k3),ag,true_and]
 have hw5:eI h5 w' D.natAbs:=(o9.mono x4).mono x5
 have zD:ZV h5 (.agg #[B (decide (D<0)),w']) ((D.natAbs:Nat):Int):=⟨w',by rw [hsD,decide_eq_false (by omega)],by rwa [Int.natAbs_natCast]⟩
 refine R5 (n:=D.natAbs) zD hD ?_
 intro h6 x6
 obtain ⟨d1,d2,d3,d4,d5⟩:=tG hb
 obtain ⟨c1,c2,c3,c4,c5⟩:=tG hD
 have xx:=(x4.trans x5).trans x6
 have nl:=abn hb
 simp only [jq,ag,eT,decide_eq_false (show ¬((dj A.natAbs).length:Int)>4000 by omega),aw2,dF,decide_eq_false (show ¬((dj D.natAbs).length:Int)>4000 by omega)]
 simp only [aw3,cV,ag,c7,bN,Nat.add_zero,lX xx]
 have fin:GG Tryz.prog K (S (gB A)) (S (dj D.natAbs)) h6:=by
  rw [aw1]
  have:ah .neq (S (dj D.natAbs)) (.string ⟨#[49]⟩)=some (B (!decide (dj D.natAbs=[49]))):=by
   show ah .neq (S (dj D.natAbs)) (S [49])=_
   rw [Ui]
  simp only [this,ag]
  by_cases h1:D=1
  ·subst h1
   have e:ov A 1=gB A:=by unfold ov;rw [if_pos rfl]
   have one:dj (1:Int).natAbs=[49]:=by decide+kernel
   rw [one]
   simp only [decide_true,Bool.not_true,c7,agF]
   rw [←e]
   exact hk _ (x3.trans xx)
  ·have e:ov A D=gB A++([47]++dj D.natAbs):=by unfold ov;rw [if_neg h1];rfl
   have br:dj D.natAbs≠[49]:=fun h9=>h1 (by have:=apU hD h9;omega)
   have a1:ah .add (.string ⟨#[47]⟩) (S (dj D.natAbs))=some (S ([47]++dj D.natAbs)):=u9 (a:=[47]) (b:=dj D.natAbs) (by simp [maxLen];omega)
   have a2:ah .add (S (gB A)) (S ([47]++dj D.natAbs))=some (S (gB A++([47]++dj D.natAbs))):=u9 (a:=gB A) (b:=[47]++dj D.natAbs) (by simp [maxLen];omega)
   rw [decide_eq_false br]
   simp only [Bool.not_false,dd,a1,a2,ag,agF]
   rw [←e]
   exact hk _ (x3.trans xx)
 by_cases jk:A<0
 ·have hs:gB A=45::dj A.natAbs:=by unfold gB;rw [if_pos jk]
  have ad:ah .add (.string ⟨#[45]⟩) (S (dj A.natAbs))=some (S (gB A)):=by
   rw [hs]
   exact u9 (a:=[45]) (b:=dj A.natAbs) (by simp [maxLen];omega)
  rw [decide_eq_true jk]
  simp only [dd,ad,ag]
  exact fin
 ·have hs:gB A=dj A.natAbs:=by unfold gB;rw [if_neg jk]
  rw [decide_eq_false jk,←hs]
  simp only [c7]
  exact fin

theorem aix {va:Value} {a b:Int} {s:List UInt8} {h:ae} {K:Value→ae→Prop} (ha:QZ h va a b) (b0:0<b) (la:a.natAbs<10000^199) (lb:b.natAbs<10000^199) (hk:∀h',EX h h'→K (B (decide (s=ov (a / (Nat.gcd a.natAbs b.natAbs:Int)) (b / (Nat.gcd a.natAbs b.natAbs:Int))))) h'):aj Tryz.prog 16 [S s,va] h K:=by
 have lN:=ha
 obtain ⟨u,w,rfl,hu,hw⟩:=ha
 refine f16 ?_
 have e1:bc 37 h (.agg #[B (decide (a<0)),u,B (decide (b<0)),w])=some (pt h.length 0,h++[.arr 37 [B (decide (a<0)),u,B (decide (b<0)),w]]):=rfl
 simp only [JW,e1,aD]
 have x1:EX h (h++[ak.arr 37 [B (decide (a<0)),u,B (decide (b<0)),w]]):=EX.append _ _
 rw [gA bO]
 simp only [ag]
 refine aiO (lN.mono x1) b0 la lb ?_
 intro h2 x2
 simp only [dY,fg,fy,ag,awv,eO,Dd,aww,dh]
 exact hk _ (x1.trans x2)

end Go.Proofs.YtelmdbpaoifmoaaGreat


namespace Go.Proofs.YtelmdbpaoifmoaaGreat
open Go.Sim

def cd (s:List UInt8):Nat:=if fF s=true then cY s else 0

theorem HF (s:List UInt8):cd s<10^s.length:=by
 unfold cd
 split
 ·rename_i h
  exact uE (oK.1 h).2.2
 ·exact Nat.pow_pos (by decide)

theorem auV {k n:Nat} (h:k≤4*n):10^k≤10000^n:=by
 have e:10^(4*n)=10000^n:=by rw [Nat.pow_mul]
 rw [←e]
 exact Nat.pow_le_pow_right (by decide) h
theorem auR:(10000:Nat)^199≤bj:=by unfold bj;decide+kernel
theorem ahF:(2:Nat)<10000^199:=by decide+kernel

theorem ahI {s:List UInt8} (h:s.length≤700):cd s<10000^199:=by
 exact Nat.lt_of_lt_of_le (HF s) (auV (n:=199) (by omega))

theorem eI.nil (h:ae):eI h (.slice none 0 0) 0:=⟨[],.inl ⟨rfl,rfl⟩,⟨fun y hy=>by simp at hy,by simp⟩,rfl⟩

theorem R7 {s:List UInt8} {h:ae} {K:Value→ae→Prop}
  (hk:∀r h',EX h h'→ZV h' r (cd s)→K (.tuple #[r,B (fF s)]) h'):aj Tryz.prog 99 [S s] h K:=by
 refine ai2 (fun hd r h' x z=>?_) (fun hd h' x=>?_)
 ·have:=hk r h' x (by unfold cd;rw [if_pos hd];exact z)
  rw [hd] at this
  exact this
 ·have:=hk (.agg #[B false,.slice none 0 0]) h' x (by
   unfold cd;rw [if_neg (by rw [hd];decide)]
   exact ⟨.slice none 0 0,rfl,eI.nil h'⟩)
  rw [hd] at this
  exact this


def pA:Value:=.agg #[B false,.slice none 0 0,B false,.slice none 0 0]

theorem Yq {g:ae} {j:Nat} {K:Value→ae→Prop} (hg:g[j]?=some (.arr 37 z4)) (hk:K (.tuple #[pA,B false]) (g.set j (.arr 37 z4))):
  OP (cN [(.bool false),(.slice none 0 0),(.bool false),(.slice none 0 0)] []) fun jI=>OH (aJ 4 g (pt j 0) jI) fun _ h_1=>OP (af true 4 h_1 (pt j 0)) fun r0=>K (.tuple #[r0,(.bool false)]) h_1:=by
 have e:cN [(.bool false),(.slice none 0 0),(.bool false),(.slice none 0 0)] []=some pA:=rfl
 rw [e,ag]
 have s:=mO (x:=B false) (y:=.slice none 0 0) (z:=B false) (w:=.slice none 0 0) hg
 have s':aJ 4 g (pt j 0) pA=some (undef,g.set j (.arr 37 z4)):=s
 rw [s',aD]
 have l:=gA (cJ (o:=.arr 37 z4) hg)
 have l':af true 4 (g.set j (.arr 37 z4)) (pt j 0)=some pA:=l
 rw [l',ag]
 exact hk

theorem RR {m ok:Bool} {n d:Nat} {h0 g:ae} {i2 i8 i10:Nat} {vn vd:Value} {K:Value→ae→Prop} (k2:g[i2]?=some (.arr 37 z4)) (k8:g[i8]?=some (.arr 35 [B (decide ((n:Int)<0)),vn])) (mn:eI g vn n)
  (k10:g[i10]?=some (.arr 35 [B (decide ((d:Int)<0)),vd])) (md:eI g vd d) (b2:h0.length≤i2) (b8:h0.length≤i8) (n28:i2≠i8) (aum:i8≠i10) (x:EX h0 g)
  (hk:ok=true→(m=true→n≠0)→∀r h',EX h0 h'→QZ h' r (if m then -(n:Int) else n) d→K (.tuple #[r,B true]) h')
  (fG:(ok=false∨m=true∧n=0)→∀h',EX h0 h'→K (.tuple #[pA,B false]) h'):w9 Tryz.prog K (pt i2 0) (B m) (pt i8 0) (B ok) (pt i10 0) g:=by
 have bad:(ok=false∨m=true∧n=0)→∀t u,bK t (.bool true) u=some (B true)→B2 Tryz.prog K (pt i2 0) (B m) (pt i8 0) (pt i10 0) t u g:=by
  intro hb t u ht
  rw [agI,ht]
  simp only [ag,dd]
  exact Yq k2 (fG hb _ (x.set b2 _))
 have AU:ok=true→(m=true→n≠0)→B2 Tryz.prog K (pt i2 0) (B m) (pt i8 0) (pt i10 0) (B false) (B false) g:=by
  intro ho hm
  have hk:=hk ho hm
  rw [agI]
  simp only [cV,ag]
  cases m with
  | false=>
   simp only [c7]
   rw [agJ,cf k8,ag,cf k10,ag]
   exact vz (K:=fun v h=>K (.tuple #[v,B true]) h) ⟨vn,rfl,mn⟩ ⟨vd,rfl,md⟩ x b2 k2 hk
  | true=>
   simp only [c7,dd]
   rw [cf k8,ag]
   refine R6 (a:=n) ⟨vn,rfl,mn⟩ ?_
   intro r7 h7 x7 z7
   obtain ⟨v7,rfl,Z0⟩:=id z7
   have g7:=x7.get k8
   rw [dX g7]
   simp only [aD]
   have atf:(h7.set i8 (.arr 35 [B (decide (-(n:Int)<0)),v7]))[i10]?=some (.arr 35 [B (decide ((d:Int)<0)),vd]):=by
    rw [List.getElem?_set_ne aum];exact x7.get k10
   rw [agJ,cf (cJ g7),ag,cf atf,ag]
   refine vz (K:=fun v h=>K (.tuple #[v,B true]) h) (z7.bG g7 _) ⟨vd,rfl,?_⟩ ((x.trans x7).set b8 _) b2 (by rw [List.getElem?_set_ne n28.symm];exact x7.get k2) hk
   exact eI.bG (md.mono x7) g7 _
 have n1:ft .not (B ok)=some (B (!ok)):=rfl
 rw [axe,n1,ag,axf]
 cases ok with
 | false=>
  simp only [Bool.not_false,eY,agH,tm,Qi]
  exact bad (.inl rfl) _ _ rfl
 | true=>
  simp only [Bool.not_true,dF,agH]
  cases m with
  | false=>
   simp only [ie,Qi,dF,cV,ag]
   exact AU rfl (fun h=>by cases h)
  | true=>
   obtain ⟨l,p1,p2⟩:=mn.nr
   have ld:af false 1 g (pt i8 1)=some vn:=by simp [af,aQ,k8,ck]
   simp only [eO,bN,Nat.zero_add,ag,ld,p1,fW,Qi,dF,dh]
   by_cases hn:n=0
   ·rw [decide_eq_true (show (l:Int)=0 by omega)]
    exact bad (.inr ⟨rfl,hn⟩) _ _ rfl
   ·rw [decide_eq_false (show ¬(l:Int)=0 by omega)]
    exact AU rfl (fun _=>hn)

def cO (t:List UInt8):List UInt8:=t.take (t.idxOf 47)
def de (t:List UInt8):List UInt8:=t.drop (t.idxOf 47+1)
def kP (t:List UInt8):Bool:=decide (t.idxOf 47<t.length)
def mY (t:List UInt8):Bool:= !kP t||(fF (de t)&&(decide (2≤cd (de t))&&decide (Nat.gcd (cd (cO t)) (cd (de t))=1)))
def nK (t:List UInt8):Nat:=if kP t=true then cd (de t) else 1
def ph (m:Bool) (t:List UInt8):Option (Int×Nat):=
 if mY t=true∧fF (cO t)=true∧(m=true→cd (cO t)≠0) then some (if m then -(cd (cO t):Int) else cd (cO t),nK t) else none
def jt (s:List UInt8):Option (Int×Nat):=if s.head?=some 45 then ph true s.tail else ph false s

theorem asW (s:List UInt8):∀{i:Nat},i<s.length→(s.drop i).idxOf 47=if s[i]! =47 then 0 else (s.drop (i+1)).idxOf 47+1:=by
 intro i hi
 rw [List.drop_eq_getElem_cons hi,List.idxOf_cons]
 have:s[i]! =s[i]:=by simp [hi]
 rw [this]
 by_cases h:s[i]=47
 ·simp [h]
 ·have h':(s[i]==47)=false:=beq_eq_false_iff_ne.2 h
  rw [h'];simp [h]

theorem Ie {s:List UInt8} {m:Bool} {h:ae} {j:Nat} {K:Value→ae→Prop} {h0:ae} (hl:s.length≤700) (x0:EX h0 h) (hj:h0.length≤j) (hg:h[j]?=some (.arr 37 z4))
  (hk:∀n d,ph m s=some (n,d)→∀r h',EX h0 h'→QZ h' r n d→K (.tuple #[r,B true]) h')
  (fG:ph m s=none→∀h',EX h0 h'→K (.tuple #[pA,B false]) h'):GI Tryz.prog K (pt j 0) (S s) (B m) h:=by
 rw [axa]
 have e1:IntKind.wrap .i64 ((s.length:Int)-1)=(s.length:Int)-1:=wrap64 (by omega) (by omega)
 simp only [jq,ag,eW,e1]
 refine db (σ:=Nat) (fun p=>[I ((p+(s.drop p).idxOf 47:Nat):Int),I ((p:Int)-1)]) (fun _=>h) (fun p=>p≤s.length) (fun p=>p)
  s.length (by simp) rfl (Nat.le_refl _) ?_
 intro i hi L hL
 rw [axb]
 simp only [j5,ag,bS]
 refine ⟨fun cH=>?_,fun aB=>?_⟩
 ·obtain ⟨p,rfl⟩:∃p,i=p+1:=⟨i-1,by omega⟩
  have hp:p<s.length:=by omega
  have ei:((p+1:Nat):Int)-1=(p:Int):=by omega
  have ix:=rj (a:=s) (i:=p) hp .i64
  have e5:ah .eql (cv s[p]) (.int .u8 47)=some (B (decide ((s[p].toNat:Int)=47))):=rfl
  have e2:IntKind.wrap .i64 ((p:Int)-1)=(p:Int)-1:=wrap64 (by omega) (by omega)
  have nx:=hL p (by omega) (by omega)
  rw [asW s hp] at nx
  have e6:s[p]! =s[p]:=by simp [hp]
  rw [e6] at nx
  rw [ei]
  simp only [ix,ag,e5,axc,eW,e2,true_and]
  have e7:(decide ((s[p].toNat:Int)=47))=decide (s[p]=47):=by
   rw [decide_eq_decide]
   constructor
   ·intro h;apply UInt8.toNat_inj.1;show s[p].toNat=47;omega
   ·intro h;rw [h];rfl
  rw [e7,bS]
  refine ⟨fun h=>?_,fun h=>?_⟩
  ·rw [if_pos h] at nx;simpa using nx
  ·rw [if_neg h] at nx
   have:p+((s.drop (p+1)).idxOf 47+1)=p+1+(s.drop (p+1)).idxOf 47:=by omega
   rw [this] at nx;exact nx
 ·have lM:i=0:=by omega
  subst lM
  simp only [List.drop_zero,Nat.zero_add]
  have fO:s.idxOf 47≤s.length:=List.idxOf_le_length
  rw [axd]
  have sW:=Hs (a:=s) (n:=s.idxOf 47) fO .i64
  simp only [sW,ag]
  have lo:(cO s).length≤700:=by unfold cO;rw [List.length_take];omega
  have lu:(de s).length≤700:=by unfold de;rw [List.length_drop];omega
  refine R7 ?_
  intro r h1 x1 z1
  show OP _ _
  have fo:s.take (s.idxOf 47)=cO s:=rfl
  rw [fo] at z1
  obtain ⟨v,rfl,hv⟩:=id z1
  rw [Int.natAbs_natCast] at hv
  simp only [dY,fg,fy,ag,fo]
  have e2:∀g:ae,aW 35 [(.bool false),(.slice none 0 0)] g=some (pt g.length 0,g++[.arr 35 [(.bool false),(.slice none 0 0)]]):=fun _=>rfl
  simp only [e2,aD]
  rw [dX bO]
  simp only [aD]
  have x2:EX h1 ((h1++[ak.arr 35 [(.bool false),(.slice none 0 0)]]).set h1.length (.arr 35 [B (decide ((cd (cO s):Int)<0)),v])):=EX.set (EX.append _ _) (Nat.le_refl _) _
  have g3:((h1++[ak.arr 35 [(.bool false),(.slice none 0 0)]]).set h1.length (.arr 35 [B (decide ((cd (cO s):Int)<0)),v]))[h1.length]?=some (.arr 35 [B (decide ((cd (cO s):Int)<0)),v]):=cJ bO
  generalize (h1++[ak.arr 35 [(.bool false),(.slice none 0 0)]]).set h1.length (.arr 35 [B (decide ((cd (cO s):Int)<0)),v])=h3 at x2 g3⊢
  have pZ:=(List.getElem?_eq_some_iff.1 hg).1
  have hj1:j<h1.length:=by have:=x1.1;omega
  have uf:=x0.1
  refine uL (z:=((1:Nat):Int)) (by decide) ?_
  intro r4 h4 x4 qJ
  obtain ⟨w,rfl,hw⟩:=id qJ
  rw [Int.natAbs_natCast] at hw
  rw [dX bO]
  simp only [aD]
  have x5:EX h4 ((h4++[ak.arr 35 [(.bool false),(.slice none 0 0)]]).set h4.length (.arr 35 [B (decide (((1:Nat):Int)<0)),w])):=EX.set (EX.append _ _) (Nat.le_refl _) _
  have g5:((h4++[ak.arr 35 [(.bool false),(.slice none 0 0)]]).set h4.length (.arr 35 [B (decide (((1:Nat):Int)<0)),w]))[h4.length]?=some (.arr 35 [B (decide (((1:Nat):Int)<0)),w]):=cJ bO
  generalize (h4++[ak.arr 35 [(.bool false),(.slice none 0 0)]]).set h4.length (.arr 35 [B (decide (((1:Nat):Int)<0)),w])=h5 at x5 g5⊢
  have hh1:h1.length<h4.length:=by
   have:=x4.1
   have:=(List.getElem?_eq_some_iff.1 g3).1
   omega
  have a9:=(x2.trans x4).trans x5
  have Mi:=(x4.trans x5).get g3
  have MP:=(x1.trans a9).get hg
  have xA:EX h0 h5:=x0.trans (x1.trans a9)
  have mn:=hv.mono a9
  have md:=hw.mono x5
  have AW:h4.length<h5.length:=(List.getElem?_eq_some_iff.1 g5).1
  simp only [jq,ag,cK,bS]
  refine ⟨fun aB=>?_,fun cH=>?_⟩
  rotate_left
  ·have wg:kP s=false:=by unfold kP;exact decide_eq_false (by omega)
   have j8:nK s=1:=by unfold nK;rw [if_neg (by rw [wg];decide)]
   have nP:mY s=true:=by unfold mY;rw [wg];rfl
   refine RR (h0:=h0) MP Mi mn g5 md hj (by omega) (by omega) (by omega) xA (fun a b=>?_) (fun a=>?_)
   ·rw [←j8]
    exact hk _ _ (if_pos ⟨nP,a,b⟩)
   ·refine fG (if_neg ?_)
    rintro ⟨_,b1,b2⟩
    rcases a with a | ⟨a1,a2⟩
    ·rw [a] at b1;cases b1
    ·exact b2 a1 a2
  have nY:kP s=true:=decide_eq_true (by omega)
  have j8:nK s=cd (de s):=by unfold nK;rw [if_pos nY]
  have nP:mY s=(fF (de s)&&(decide (2≤cd (de s))&&decide (Nat.gcd (cd (cO s)) (cd (de s))=1))):=by unfold mY;rw [nY];rfl
  have Cd:=zA (a:=s) (n:=s.idxOf 47+1) (by omega) .i64
  have fu:s.drop (s.idxOf 47+1)=de s:=rfl
  have wi:IntKind.wrap .i64 ((s.idxOf 47:Nat)+1:Int)=((s.idxOf 47+1:Nat):Int):=by rw [wrap64 (by omega) (by omega)];omega
  simp only [cC,wi,ag,Cd,fu]
  refine R7 ?_
  intro r6 h6 x6 z6
  obtain ⟨v6,rfl,ZZ⟩:=id z6
  rw [Int.natAbs_natCast] at ZZ
  simp only [dY,fg,fy,ag]
  rw [dX bO]
  simp only [aD]
  have x7:EX h6 ((h6++[ak.arr 35 [(.bool false),(.slice none 0 0)]]).set h6.length (.arr 35 [B (decide ((cd (de s):Int)<0)),v6])):=EX.set (EX.append _ _) (Nat.le_refl _) _
  have g7:((h6++[ak.arr 35 [(.bool false),(.slice none 0 0)]]).set h6.length (.arr 35 [B (decide ((cd (de s):Int)<0)),v6]))[h6.length]?=some (.arr 35 [B (decide ((cd (de s):Int)<0)),v6]):=cJ bO
  generalize (h6++[ak.arr 35 [(.bool false),(.slice none 0 0)]]).set h6.length (.arr 35 [B (decide ((cd (de s):Int)<0)),v6])=h7 at x7 g7⊢
  have dL:=x6.trans x7
  have nn:ft .not (B (fF (de s)))=some (B (!fF (de s))):=rfl
  have bad:∀{g:ae},EX h7 g→mY s=false→(OP (cN [(.bool false),(.slice none 0 0),(.bool false),(.slice none 0 0)] []) fun jI=>OH (aJ 4 g (pt j 0) jI) fun _ h_1=>OP (af true 4 h_1 (pt j 0)) fun r0=>K (.tuple #[r0,(.bool false)]) h_1):=by
   intro g xg hd
   refine Yq ((dL.trans xg).get MP) (fG (if_neg ?_) _ ((xA.trans (dL.trans xg)).set hj _))
   rintro ⟨b,_⟩
   rw [hd] at b;cases b
  simp only [nn,ag]
  cases vU:fF (de s) with
  | false=>
   rw [vU] at nP
   simp only [Bool.not_false,eY,true_and,dh,ag,dd]
   exact bad (EX.refl _) (by rw [nP];rfl)
  | true=>
   rw [vU,Bool.true_and] at nP
   have zu:ZV h7 (.agg #[B (decide ((cd (de s):Int)<0)),v6]) (cd (de s)):=z6.mono x7
   have zo:ZV h7 (.agg #[B (decide ((cd (cO s):Int)<0)),v]) (cd (cO s)):=⟨v,rfl,by rw [Int.natAbs_natCast];exact mn.mono dL⟩
   have small:=ahI lu
   have azi:=ahI lo
   have aAz:(10000:Nat)^199≤bj:=auR
   simp only [Bool.not_true,dF,cf g7,ag,true_and]
   refine uL (z:=2) (by decide) ?_
   intro r8 h8 x8 z8
   simp only [(x8.load (cf g7)),true_and]
   refine Ih (zu.mono x8) z8 (by rw [Int.natAbs_natCast];omega) (by have:(2:Nat)<10000^199:=ahF;show 2<bj;omega) ?_
   intro h9 x9
   have iS:=x8.trans x9
   simp only [cK,ag,cV]
   by_cases h2:cd (de s)<2
   ·have en:iN ((cd (de s):Int)-2)= -1:=by unfold iN;rw [if_neg (by omega),if_pos (by omega)]
    rw [en]
    simp only [show decide ((-1:Int)<0)=true from rfl,eY,dh,ag,dd]
    refine bad iS ?_
    rw [nP,decide_eq_false (by omega)];rfl
   ·have en:0≤iN ((cd (de s):Int)-2):=by
     unfold iN
     split
     ·decide
     ·rw [if_neg (by omega)];decide
    rw [decide_eq_false (show ¬iN ((cd (de s):Int)-2)<0 by omega)]
    rw [decide_eq_true (show 2≤cd (de s) by omega),Bool.true_and] at nP
    have l8:af true 2 h9 (pt h1.length 0)=some (.agg #[B (decide ((cd (cO s):Int)<0)),v]):=cf ((dL.trans iS).get Mi)
    have l9:af true 2 h9 (pt h6.length 0)=some (.agg #[B (decide ((cd (de s):Int)<0)),v6]):=cf (iS.get g7)
    simp only [dF,l8,l9,ag]
    refine RU (zo.mono iS) (zu.mono iS) (by rw [Int.natAbs_natCast];exact azi) (by rw [Int.natAbs_natCast];exact small) ?_
    intro u m8 aF mu
    simp only [Int.natAbs_natCast] at mu
    have MQ:Nat.gcd (cd (cO s)) (cd (de s))≤cd (de s):=Nat.gcd_le_right _ (by omega)
    have zg:ZV m8 (.agg #[B false,u]) (Nat.gcd (cd (cO s)) (cd (de s)):Nat):=⟨u,by rw [decide_eq_false (by omega)],by rw [Int.natAbs_natCast];exact mu⟩
    refine uL (z:=1) (by decide) ?_
    intro r11 h11 ax z11
    refine Ih (zg.mono ax) z11 (by rw [Int.natAbs_natCast];omega) (by have:(2:Nat)<10000^199:=ahF;show 1<bj;omega) ?_
    intro YK az
    have HW:=iS.trans (aF.trans (ax.trans az))
    simp only [nI,ag,cV]
    by_cases tV:Nat.gcd (cd (cO s)) (cd (de s))=1
    ·have en:iN ((Nat.gcd (cd (cO s)) (cd (de s)):Nat)-1:Int)=0:=by unfold iN;rw [if_pos (by omega)]
     rw [decide_eq_true tV] at nP
     rw [en]
     have l12:af true 2 YK (pt h6.length 0)=some (.agg #[B (decide ((cd (de s):Int)<0)),v6]):=cf (HW.get g7)
     simp only [decide_true,Bool.not_true,c7,l12,ag]
     have Cs:=dL.trans HW
     have ET:=Cs.get g5
     rw [dX ET]
     simp only [aD]
     refine RR (h0:=h0) (i2:=j) (i8:=h1.length) (i10:=h4.length) (n:=cd (cO s)) (d:=cd (de s)) (vn:=v) (vd:=v6) ?_ ?_ ?_ (cJ ET) ?_ hj (by omega) (by omega) (by omega) ?_ (fun a b=>?_) (fun a=>?_)
     ·rw [List.getElem?_set_ne (by omega)];exact Cs.get MP
     ·rw [List.getElem?_set_ne (by omega)];exact Cs.get Mi
     ·exact eI.bG (mn.mono Cs) ET _
     ·exact eI.bG (ZZ.mono (x7.trans HW)) ET _
     ·exact (xA.trans Cs).set (by omega) _
     ·rw [←j8]
      exact hk _ _ (if_pos ⟨nP,a,b⟩)
     ·refine fG (if_neg ?_)
      rintro ⟨_,b1,b2⟩
      rcases a with a | ⟨a1,a2⟩
      ·rw [a] at b1;cases b1
      ·exact b2 a1 a2
    ·have en:iN ((Nat.gcd (cd (cO s)) (cd (de s)):Nat)-1:Int)≠0:=by
      unfold iN;rw [if_neg (by omega)];split <;> decide
     rw [decide_eq_false tV] at nP
     rw [decide_eq_false en]
     simp only [Bool.not_false,dd]
     exact bad HW nP

end Go.Proofs.YtelmdbpaoifmoaaGreat


namespace Go.Proofs.YtelmdbpaoifmoaaGreat
open Go.Sim
variable (P : Program) (K : VK)
/-! F108: pommel/num.Parse -/
noncomputable section
variable (s0 x2 x6 x8 x9 aF ax az cG dR cg dS dE dK fh fU : Value) (h : ae)
def abx:=bp Tryz.prog 108 [[],[],[],[],[],[],[],[2,6,8,9,10,11,38],[2,6,8,9,10,11,38,42],[2,6,8,9,10,11,12],[2,6,8,9,11,12,46],[2,6,8,9,11,46,48],[2,6,8,9,11,50],[2,6,8,9,11,50,52],[2,6,8,9,11,50,52,55],[2,6,8,9,11,50,56],[],[],[],[],[]]
@[irreducible] def Dq:=bw abx
@[irreducible] def UC:=Dq.r.r.r.r.r.l.r.l.r.r.l
@[irreducible] def UI:=Dq.r.r.r.r.r.r
@[irreducible] def amu:=UC.r.l
@[irreducible] def Dr:=UI.l
@[irreducible] def UD:=Dr.l.l.r.l
@[irreducible] def amw:=Dr.l.r
@[irreducible] def amv:=Dr.r
@[irreducible] def UE:=UD.r.l
@[irreducible] def UF:=UE.r.l
@[irreducible] def UG:=UF.r.l
@[irreducible] def UH:=UG.r.l
@[irreducible] def amx:=UH.r.l
theorem ato:abx=some (78,Dq,[.cell true 4 2,.tmp 3]):=by kernel_rfl
def Ab (_P:Program) (K:VK):aq:=aO [.cell true 4 2,.tmp 3] K
def Sm:aq:=aC (ai P UI (Ab P K)) (Ab P K)
def Sl:aq:=aC (ai P amv (Ab P K)) (Ab P K)
def xC:aq:=aC (ai P amw (Sl P K)) (Sl P K)
def adt:Prop:=au (ai P UC (Sm P K)) [2,6,8,9,10,11,38] [x2,x6,x8,x9,aF,ax,cG] h
def OS:Prop:=au (ai P amu (Sm P K)) [2,6,8,9,10,11,38,42] [x2,x6,x8,x9,aF,ax,cG,dR] h
def BU:Prop:=au (ai P Dr (Ab P K)) [2,6,8,9,10,11,12] [x2,x6,x8,x9,aF,ax,az] h
def adu:Prop:=au (ai P UD (xC P K)) [2,6,8,9,11,12,46] [x2,x6,x8,x9,ax,az,cg] h
def OT:Prop:=au (ai P UE (xC P K)) [2,6,8,9,11,46,48] [x2,x6,x8,x9,ax,cg,dS] h
def OU:Prop:=au (ai P UF (xC P K)) [2,6,8,9,11,50] [x2,x6,x8,x9,ax,dE] h
def OV:Prop:=au (ai P UG (xC P K)) [2,6,8,9,11,50,52] [x2,x6,x8,x9,ax,dE,dK] h
def OW:Prop:=au (ai P UH (xC P K)) [2,6,8,9,11,50,52,55] [x2,x6,x8,x9,ax,dE,dK,fh] h
def BV:Prop:=au (ai P amx (xC P K)) [2,6,8,9,11,50,56] [x2,x6,x8,x9,ax,dE,fU] h
theorem af0:OS P K x2 x6 x8 x9 aF ax cG dR h=
 (OP (bK cG dR (.bool false)) fun bM=>
 BU P K x2 x6 x8 x9 aF ax bM h):=aw (by kernel_rfl)
theorem ave:adt P K x2 x6 x8 x9 aF ax cG h=
 (bU cG true
 (OH (cT 177 1 [(.int .u32 (0))] h [(0,1,(.int .u32 (1)))]) fun dB h_1=>
 aj P 126 [ax,dB] h_1 fun dm h_2=>
 OP (ah .gtr dm (.int .i64 (0))) fun dR=>
 OS P K x2 x6 x8 x9 aF ax cG dR h_2)
 (OS P K x2 x6 x8 x9 aF ax cG undef h)):=aw (by kernel_rfl)
theorem af4:BV P K x2 x6 x8 x9 ax dE fU h=
 (OP (bK dE (.bool true) fU) fun dL=>
 aL dL
 (OP (cN [(.bool false),(.slice none 0 0),(.bool false),(.slice none 0 0)] []) fun gP=>
 OH (aJ 4 h x2 gP) fun _ h_1=>
 OP (af true 4 h_1 x2) fun r0=>
 K (.tuple #[r0,(.bool false)]) h_1)
 (aj P 117 [x8,x9] h fun iE h_1=>
 aj P 117 [(.bool false),ax] h_1 fun iF h_2=>
 OP (cN [(.bool false),(.slice none 0 0),(.bool false),(.slice none 0 0)] [(0,2,iE),(2,2,iF)]) fun gQ=>
 OH (aW 107 [(.bool false),(.slice none 0 0),(.bool false),(.slice none 0 0)] h_2) fun ay h_3=>
 OH (aJ 4 h_3 ay gQ) fun _ h_4=>
 OP (af true 4 h_4 ay) fun fJ=>
 (True)∧
 OP (ft .not x6) fun fD=>
 bU fD false
 (OP (aE 0 ay) fun gn=>
 OP (af true 2 h_4 gn) fun kI=>
 (True)∧
 OP (aE 2 ay) fun fB=>
 OP (af true 2 h_4 fB) fun lA=>
 (True)∧
 aj P 120 [kI,lA] h_4 fun jW h_5=>
 (af true 4 h_5 ay=some fJ∧True)∧
 aj P 105 [(.int .i64 (1))] h_5 fun jG h_6=>
 (af true 4 h_6 ay=some fJ∧True)∧
 aj P 111 [jW,jG] h_6 fun gG h_7=>
 (af true 4 h_7 ay=some fJ∧True)∧
 OP (ah .eql gG (.int .i64 (0))) fun je=>
 OP (bK fD (.bool true) je) fun fK=>
 OH (aJ 4 h_7 x2 fJ) fun _ h_8=>
 (True)∧
 OP (af true 4 h_8 x2) fun r0=>
 K (.tuple #[r0,fK]) h_8)
 ((af true 4 h_4 ay=some fJ∧True)∧
 (af true 4 h_4 ay=some fJ∧True)∧
 (af true 4 h_4 ay=some fJ∧True)∧
 OP (bK fD (.bool true) undef) fun fK=>
 OH (aJ 4 h_4 x2 fJ) fun _ h_5=>
 (True)∧
 OP (af true 4 h_5 x2) fun r0=>
 K (.tuple #[r0,fK]) h_5))):=aw (by kernel_rfl)
theorem Qd:OW P K x2 x6 x8 x9 ax dE dK fh h=
 (bU dE false
 (OP (bK dK fh (.bool false)) fun fU=>
 BV P K x2 x6 x8 x9 ax dE fU h)
 (BV P K x2 x6 x8 x9 ax dE undef h)):=aw (by kernel_rfl)
theorem af3:OV P K x2 x6 x8 x9 ax dE dK h=
 (bU dK true
 (OP (aY x9) fun cn=>
 OP (ah .eql cn (.int .i64 (0))) fun fh=>
 OW P K x2 x6 x8 x9 ax dE dK fh h)
 (OW P K x2 x6 x8 x9 ax dE dK undef h)):=aw (by kernel_rfl)
theorem af2:OU P K x2 x6 x8 x9 ax dE h=
 (bU dE false
 (OV P K x2 x6 x8 x9 ax dE x8 h)
 (OV P K x2 x6 x8 x9 ax dE undef h)):=aw (by kernel_rfl)
theorem af1:OT P K x2 x6 x8 x9 ax cg dS h=
 (OP (bK cg (.bool true) dS) fun er=>
 OU P K x2 x6 x8 x9 ax er h):=aw (by kernel_rfl)
theorem avg:adu P K x2 x6 x8 x9 ax az cg h=
 (bU cg false
 (OP (ft .not az) fun dS=>
 OT P K x2 x6 x8 x9 ax cg dS h)
 (OT P K x2 x6 x8 x9 ax cg undef h)):=aw (by kernel_rfl)
theorem avf:BU P K x2 x6 x8 x9 aF ax az h=
 (OP (ft .not aF) fun bW=>
 adu P K x2 x6 x8 x9 ax az bW h):=aw (by kernel_rfl)
def Jm:Prop:=
 OH (aW 107 [(.bool false),(.slice none 0 0),(.bool false),(.slice none 0 0)] h) fun x2 h_1=>
 aj P 123 [s0,(.string ⟨#[47]⟩)] h_1 fun aX h_2=>
 OP (b9 0 aX) fun bH=>
 OP (b9 1 aX) fun aN=>
 OP (b9 2 aX) fun aM=>
 aj P 124 [bH,(.string ⟨#[45]⟩)] h_2 fun bt h_3=>
 OP (b9 0 bt) fun bV=>
 OP (b9 1 bt) fun bC=>
 aj P 125 [bV] h_3 fun bR h_4=>
 OP (b9 0 bR) fun bE=>
 OP (b9 1 bR) fun bZ=>
 OH (cT 177 1 [(.int .u32 (0))] h_4 [(0,1,(.int .u32 (1)))]) fun cP h_5=>
 aL aM
 (aj P 125 [aN] h_5 fun cm h_6=>
 OP (b9 0 cm) fun dc=>
 OP (b9 1 cm) fun cQ=>
 adt P K x2 aM bC bE bZ dc cQ h_6)
 (BU P K x2 aM bC bE bZ cP (.bool true) h_5)
theorem aqc:ai P Dq (aO [.cell true 4 2,.tmp 3] K) (bk [s0]) h=Jm P K s0 h:=by kernel_rfl
theorem f108 {K:VK} {s0:Value} {h:ae} (H:Jm Tryz.prog K s0 h):aj Tryz.prog 108 [s0] h K:=
 bD ato (Nat.le_of_ble_eq_true rfl) ((aqc Tryz.prog K s0 h).mpr H)
end
/-! F123: strings.Cut -/
noncomputable section
variable (s0 x1 : Value) (h : ae)
def abN:=bp Tryz.prog 123 [[],[]]
@[irreducible] def U4:=bw abN
theorem atC:abN=some (13,U4,[.tmp 4,.tmp 5,.tmp 6]):=by kernel_rfl
def JB:Prop:=
 aj P 131 [s0,x1] h fun x9 h_1=>
 OP (b9 0 x9) fun aF=>
 OP (b9 1 x9) fun ax=>
 OP (b9 2 x9) fun az=>
 K (.tuple #[aF,ax,az]) h_1
theorem aqq:ai P U4 (aO [.tmp 4,.tmp 5,.tmp 6] K) (bk [s0,x1]) h=JB P K s0 x1 h:=by kernel_rfl
theorem f123 {K:VK} {s0 x1:Value} {h:ae} (H:JB Tryz.prog K s0 x1 h):aj Tryz.prog 123 [s0,x1] h K:=
 bD atC (Nat.le_of_ble_eq_true rfl) ((aqq Tryz.prog K s0 x1 h).mpr H)
end
/-! F124: strings.CutPrefix -/
noncomputable section
variable (s0 x1 : Value) (h : ae)
def abO:=bp Tryz.prog 124 [[],[]]
@[irreducible] def U5:=bw abO
theorem atD:abO=some (11,U5,[.tmp 4,.tmp 5]):=by kernel_rfl
def JC:Prop:=
 aj P 132 [s0,x1] h fun x8 h_1=>
 OP (b9 0 x8) fun x9=>
 OP (b9 1 x8) fun aF=>
 K (.tuple #[x9,aF]) h_1
theorem aqr:ai P U5 (aO [.tmp 4,.tmp 5] K) (bk [s0,x1]) h=JC P K s0 x1 h:=by kernel_rfl
theorem f124 {K:VK} {s0 x1:Value} {h:ae} (H:JC Tryz.prog K s0 x1 h):aj Tryz.prog 124 [s0,x1] h K:=
 bD atD (Nat.le_of_ble_eq_true rfl) ((aqr Tryz.prog K s0 x1 h).mpr H)
end
/-! F125: pommel/num.read -/
noncomputable section
variable (s0 i4 x5 n6 x7 x8 ax az aM bV bE cM dc cQ cG dm dE eL : Value) (L1 L2 : LQ) (xs : List Value) (h : ae)
def abP:=bp Tryz.prog 125 [[],[],[0,11],[12],[],[],[],[0,4,11,12,19],[0,11,12,19,23],[],[],[],[0],[0,28],[0,28,32],[0,28,32,35],[0,28,36],[0,38],[0,38,41],[],[],[],[],[],[0,5],[],[],[],[],[],[0,5,6,50],[7,8,51],[],[],[],[],[0,5,6,7,8],[],[5],[]]
@[irreducible] def DE:=bw abP
@[irreducible] def DG:=DE.r.l.r.l.l
@[irreducible] def U7:=DE.r.r
@[irreducible] def U6:=DG.r.r.l.l.r.l.r.l
@[irreducible] def am0:=DG.r.r.l.l.r.r
@[irreducible] def am7:=DG.r.r.r
@[irreducible] def DF:=U7.l
@[irreducible] def am1:=U6.r.l
@[irreducible] def U8:=DF.l.l.r.l
@[irreducible] def am2:=DF.l.r
@[irreducible] def K1:=DF.r
@[irreducible] def U9:=U8.r.l
@[irreducible] def K3:=K1.r.l.l.l
@[irreducible] def Ve:=K1.r.r
@[irreducible] def Va:=U9.r.l
@[irreducible] def am4:=K3.r.l.r.r.l.r.l.l
@[irreducible] def Vg:=K3.r.l.r.r.r
@[irreducible] def am6:=Ve.l
@[irreducible] def Vb:=Va.r.l
@[irreducible] def am5:=Vg.l
@[irreducible] def Vc:=Vb.r.l
@[irreducible] def am3:=Vc.r.l
theorem atE:abP=some (77,DE,[.tmp 2,.tmp 3]):=by kernel_rfl
def tp (_P:Program) (K:VK):aq:=aO [.tmp 2,.tmp 3] K
def ajK:aq:=aC (ai P U7 (tp P K)) (tp P K)
def ajN:aq:=bz 0 (ajK P K)
def IG:aq:=aC (fun f' aR=>(([0,11]:List Nat).map f':List Value)=[s0,ax]∧L1 (([12]:List Nat).map f') aR) (ajN P K)
def ajR:aq:=aC (ai P am7 (IG P K s0 ax L1)) (IG P K s0 ax L1)
def SD:aq:=bz 1 (ajR P K s0 ax L1)
def SA:aq:=aC (ai P am0 (SD P K s0 ax L1)) (SD P K s0 ax L1)
def SB:aq:=aC (ai P K1 (tp P K)) (tp P K)
def xE:aq:=aC (ai P am2 (SB P K)) (SB P K)
def ajL:aq:=aC (ai P Ve (tp P K)) (tp P K)
def ajM:aq:=bz 2 (ajL P K)
def SC:aq:=aC (fun f' aR=>(([]:List Nat).map f':List Value)=[]∧L1 (([0,5]:List Nat).map f') aR) (ajM P K)
def IF:aq:=bz 3 (SC P K L1)
def ajO:aq:=aC (ai P Vg (IF P K L1)) (IF P K L1)
def ajP:aq:=bz 4 (ajO P K L1)
def ajQ:aq:=aC (fun f' aR=>(([0,5,6,50]:List Nat).map f':List Value)=[s0,x5,n6,dE]∧L2 (([7,8,51]:List Nat).map f') aR) (ajP P K L1)
def adW:Prop:=au (ai P DG (IG P K s0 ax L1)) ([0,11]++[12]) ([s0,ax]++xs) h
def adR:Prop:=au (ai P U6 (SA P K s0 ax L1)) [0,4,11,12,19] [s0,i4,ax,az,aM] h
def O1:Prop:=au (ai P am1 (SA P K s0 ax L1)) [0,11,12,19,23] [s0,ax,az,aM,bV] h
def adS:Prop:=au (ai P DF (tp P K)) [0] [s0] h
def adT:Prop:=au (ai P U8 (xE P K)) [0,28] [s0,bE] h
def O2:Prop:=au (ai P U9 (xE P K)) [0,28,32] [s0,bE,cM] h
def O3:Prop:=au (ai P Va (xE P K)) [0,28,32,35] [s0,bE,cM,dc] h
def O4:Prop:=au (ai P Vb (xE P K)) [0,28,36] [s0,bE,cQ] h
def O5:Prop:=au (ai P Vc (xE P K)) [0,38] [s0,cG] h
def BX:Prop:=au (ai P am3 (xE P K)) [0,38,41] [s0,cG,dm] h
def adU:Prop:=au (ai P K3 (SC P K L1)) ([]++[0,5]) ([]++xs) h
def adV:Prop:=au (ai P am4 (ajQ P K s0 x5 n6 dE L1 L2)) ([0,5,6,50]++[7,8,51]) ([s0,x5,n6,dE]++xs) h
def adX:Prop:=au (ai P am5 (IF P K L1)) [0,5,6,7,8] [s0,x5,n6,x7,x8] h
def adY:Prop:=au (ai P am6 (tp P K)) [5] [x5] h
theorem agb:O1 P K s0 ax az aM bV L1 h=
 (OP (bK aM (.bool true) bV) fun bC=>
 aL bC
 (K (.tuple #[(.slice none 0 0),(.bool false)]) h)
 (OP (ah .add az (.int .i64 (1))) fun bL=>
 ([s0,ax]:List Value)=[s0,ax]∧L1 [bL] h)):=aw (by kernel_rfl)
theorem aga:adR P K s0 i4 ax az aM L1 h=
 (bU aM false
 (OP (hT s0 i4) fun bt=>
 OP (ah .gtr bt (.int .u8 (57))) fun bV=>
 O1 P K s0 ax az aM bV L1 h)
 (O1 P K s0 ax az aM undef L1 h)):=aw (by kernel_rfl)
theorem avI (s0 ax:Value) (L1:LQ) (az:Value) (h:ae):adW P K s0 ax L1 [az] h=
 (OP (ah .lss az ax) fun ay=>
 aL ay
 (OP (hT s0 az) fun bH=>
 OP (ah .lss bH (.int .u8 (48))) fun aN=>
 adR P K s0 az ax az aN L1 h)
 (adS P K s0 h)):=aw (by kernel_rfl)
theorem agf:BX P K s0 cG dm h=
 (OP (bK cG (.bool true) dm) fun dR=>
 aL dR
 (K (.tuple #[(.slice none 0 0),(.bool false)]) h)
 (cB [s0,(.slice none 0 0)] h fun L1 xs hx=>
 adU P K L1 xs hx)):=aw (by kernel_rfl)
theorem Qg:O5 P K s0 cG h=
 (bU cG false
 (OP (fe s0) fun dB=>
 OP (ah .gtr dB (.int .i64 (4000))) fun dm=>
 BX P K s0 cG dm h)
 (BX P K s0 cG undef h)):=aw (by kernel_rfl)
theorem Qf:O4 P K s0 bE cQ h=
 (OP (bK bE (.bool true) cQ) fun dM=>
 O5 P K s0 dM h):=aw (by kernel_rfl)
theorem Qe:O3 P K s0 bE cM dc h=
 (bU bE false
 (OP (bK cM dc (.bool false)) fun cQ=>
 O4 P K s0 bE cQ h)
 (O4 P K s0 bE undef h)):=aw (by kernel_rfl)
theorem agd:O2 P K s0 bE cM h=
 (bU cM true
 (OP (fe s0) fun cm=>
 OP (ah .gtr cm (.int .i64 (1))) fun dc=>
 O3 P K s0 bE cM dc h)
 (O3 P K s0 bE cM undef h)):=aw (by kernel_rfl)
theorem agc:adT P K s0 bE h=
 (bU bE false
 (OP (hT s0 (.int .i64 (0))) fun cP=>
 OP (ah .eql cP (.int .u8 (48))) fun bY=>
 O2 P K s0 bE bY h)
 (O2 P K s0 bE undef h)):=aw (by kernel_rfl)
theorem avH (s0 x5 n6 dE:Value) (L1 L2:LQ) (x7 x8 eL:Value) (h:ae):adV P K s0 x5 n6 dE L1 L2 [x7,x8,eL] h=
 (OP (ah .lss eL dE) fun dK=>
 aL dK
 (OP (ah .mul (.int .u32 (10)) x7) fun fh=>
 OP (hT s0 eL) fun gP=>
 OP (ah .sub gP (.int .u8 (48))) fun eA=>
 OP (cS .u32 eA) fun gF=>
 OP (ah .add fh gF) fun iE=>
 OP (ah .mul (.int .u32 (10)) x8) fun iF=>
 OP (ah .add eL (.int .i64 (1))) fun gQ=>
 ([s0,x5,n6,dE]:List Value)=[s0,x5,n6,dE]∧L2 [iE,iF,gQ] h)
 (adX P K s0 x5 n6 x7 x8 L1 h)):=aw (by kernel_rfl)
theorem avJ:adX P K s0 x5 n6 x7 x8 L1 h=
 (OH (cT 177 1 [(.int .u32 (0))] h [(0,1,x8)]) fun fD h_1=>
 aj P 122 [x5,fD] h_1 fun eG h_2=>
 OH (cT 177 1 [(.int .u32 (0))] h_2 [(0,1,x7)]) fun kI h_3=>
 aj P 118 [kI] h_3 fun fB h_4=>
 aj P 128 [eG,fB] h_4 fun lA h_5=>
 OP (iZ s0 (some n6) none) fun gG=>
 ([]:List Value)=[]∧L1 [gG,lA] h_5):=aw (by kernel_rfl)
theorem avG (L1:LQ) (s0 x5:Value) (h:ae):adU P K L1 [s0,x5] h=
 (OP (ah .neq s0 (.string ⟨#[]⟩)) fun ba=>
 aL ba
 (OP (fe s0) fun cg=>
 OP (ah .sub cg (.int .i64 (1))) fun gj=>
 OP (ah .rem gj (.int .i64 (9))) fun dS=>
 OP (ah .add dS (.int .i64 (1))) fun er=>
 cB [(.int .u32 (0)),(.int .u32 (1)),(.int .i64 (0))] h fun L2 xs hx=>
 adV P K s0 x5 er er L1 L2 xs hx)
 (adY P K x5 h)):=aw (by kernel_rfl)
theorem avK:adY P K x5 h=
 (K (.tuple #[x5,(.bool true)]) h):=aw (by kernel_rfl)
theorem avF:adS P K s0 h=
 (OP (ah .eql s0 (.string ⟨#[]⟩)) fun bR=>
 adT P K s0 bR h):=aw (by kernel_rfl)
def JD:Prop:=
 OP (fe s0) fun ax=>
 cB [(.int .i64 (0))] h fun L1 xs hx=>
 adW P K s0 ax L1 xs hx
theorem aqs:ai P DE (aO [.tmp 2,.tmp 3] K) (bk [s0]) h=JD P K s0 h:=by kernel_rfl
theorem f125 {K:VK} {s0:Value} {h:ae} (H:JD Tryz.prog K s0 h):aj Tryz.prog 125 [s0] h K:=
 bD atE (Nat.le_of_ble_eq_true rfl) ((aqs Tryz.prog K s0 h).mpr H)
end
/-! F131: internal/stringslite.Cut -/
noncomputable section
variable (s0 x1 : Value) (h : ae)
def abW:=bp Tryz.prog 131 [[],[],[],[],[],[]]
@[irreducible] def Vp:=bw abW
theorem atK:abW=some (23,Vp,[.tmp 4,.tmp 5,.tmp 6]):=by kernel_rfl
def JJ:Prop:=
 aj P 139 [s0,x1] h fun aF h_1=>
 OP (ah .geq aF (.int .i64 (0))) fun az=>
 aL az
 (OP (iZ s0 none (some aF)) fun a9=>
 OP (fe x1) fun aM=>
 OP (ah .add aF aM) fun aT=>
 OP (iZ s0 (some aT) none) fun bf=>
 K (.tuple #[a9,bf,(.bool true)]) h_1)
 (K (.tuple #[s0,(.string ⟨#[]⟩),(.bool false)]) h_1)
theorem aqy:ai P Vp (aO [.tmp 4,.tmp 5,.tmp 6] K) (bk [s0,x1]) h=JJ P K s0 x1 h:=by kernel_rfl
theorem f131 {K:VK} {s0 x1:Value} {h:ae} (H:JJ Tryz.prog K s0 x1 h):aj Tryz.prog 131 [s0,x1] h K:=
 bD atK (Nat.le_of_ble_eq_true rfl) ((aqy Tryz.prog K s0 x1 h).mpr H)
end
/-! F132: internal/stringslite.CutPrefix -/
noncomputable section
variable (s0 x1 : Value) (h : ae)
def abX:=bp Tryz.prog 132 [[],[],[],[],[]]
@[irreducible] def Vq:=bw abX
theorem atL:abX=some (15,Vq,[.tmp 4,.tmp 5]):=by kernel_rfl
def JK:Prop:=
 aj P 140 [s0,x1] h fun x8 h_1=>
 OP (ft .not x8) fun x9=>
 aL x9
 (K (.tuple #[s0,(.bool false)]) h_1)
 (OP (fe x1) fun ay=>
 OP (iZ s0 (some ay) none) fun aP=>
 K (.tuple #[aP,(.bool true)]) h_1)
theorem aqz:ai P Vq (aO [.tmp 4,.tmp 5] K) (bk [s0,x1]) h=JK P K s0 x1 h:=by kernel_rfl
theorem f132 {K:VK} {s0 x1:Value} {h:ae} (H:JK Tryz.prog K s0 x1 h):aj Tryz.prog 132 [s0,x1] h K:=
 bD atL (Nat.le_of_ble_eq_true rfl) ((aqz Tryz.prog K s0 x1 h).mpr H)
end
/-! F139: internal/stringslite.Index -/
noncomputable section
variable (s0 x1 x4 n5 Am t9 uA Aq aM bt cQ tf kG : Value) (L1 : LQ) (xs : List Value) (h : ae)
def ab4:=bp Tryz.prog 139 [[],[],[0,1,4,5,12,19,36,107,132],[0,1,4,5,12,19,22,36,107,132],[],[],[],[],[],[],[],[],[],[],[],[],[],[],[0,1,5,6,7,9],[8,10,12,107,132],[],[],[],[],[],[],[],[0,1,5,6,7,8,9,10,12,107,132],[0,1,5,6,7,8,9,10,12,84,107,132],[0,1,5,6,7,8,9,10,12,84,92,107,132],[],[],[],[],[],[],[],[],[],[],[],[],[],[],[],[],[],[],[]]
@[irreducible] def Ap:=bw ab4
@[irreducible] def VB:=Ap.r.r.l.l.l.r.l
@[irreducible] def anz:=Ap.r.r.l.l.r
@[irreducible] def La:=Ap.r.r.r
@[irreducible] def anA:=VB.r.l
@[irreducible] def anx:=La.r.r.r.r.r.l.l.l
@[irreducible] def anw:=La.r.r.r.r.r.r
theorem atT:ab4=some (143,Ap,[.tmp 4]):=by kernel_rfl
def CO (_P:Program) (K:VK):aq:=aO [.tmp 4] K
def akq:aq:=aC (ai P La (CO P K)) (CO P K)
def SI:aq:=bz 0 (akq P K)
def SJ:aq:=aC (ai P anz (SI P K)) (SI P K)
def akn:aq:=aC (ai P anw (CO P K)) (CO P K)
def ako:aq:=bz 1 (akn P K)
def akp (s0 x1 n5 Am Aq t9:Value) (L1:LQ):aq:=aC (fun f' aR=>(([0,1,5,6,7,9]:List Nat).map f':List Value)=[s0,x1,n5,Am,Aq,t9]∧L1 (([8,10,12,107,132]:List Nat).map f') aR) (ako P K)
def aeg:Prop:=au (ai P VB (SJ P K)) [0,1,4,5,12,19,36,107,132] [s0,x1,x4,n5,uA,aM,cQ,tf,kG] h
def O9:Prop:=au (ai P anA (SJ P K)) [0,1,4,5,12,19,22,36,107,132] [s0,x1,x4,n5,uA,aM,bt,cQ,tf,kG] h
def auL (s0 x1 n5 Am Aq t9:Value) (L1:LQ) (xs:List Value) (h:ae):Prop:=au (ai P anx (akp P K s0 x1 n5 Am Aq t9 L1)) ([0,1,5,6,7,9]++[8,10,12,107,132]) ([s0,x1,n5,Am,Aq,t9]++xs) h
theorem awc:O9 P K s0 x1 x4 n5 uA aM bt cQ tf kG h=
 (OP (bK aM (.bool true) bt) fun bV=>
 aL bV
 (K (.int .i64 (0)) h)
 (OP (ah .eql n5 (.int .i64 (1))) fun cF=>
 aL cF
 (OP (hT x1 (.int .i64 (0))) fun bZ=>
 aj P 142 [s0,bZ] h fun cP h_1=>
 K cP h_1)
 (OP (fe s0) fun cm=>
 OP (ah .geq n5 cm) fun dc=>
 aL dc
 (K (.int .i64 (-1)) h)
 (OH none fun _ h_1=>
 aL cQ
 (OH none fun _ h_2=>
 K x4 h_2)
 (OP (hT x1 (.int .i64 (0))) fun er=>
 OP (hT x1 (.int .i64 (1))) fun eL=>
 OP (fe s0) fun iR=>
 OP (ah .sub iR n5) fun fh=>
 OP (ah .add fh (.int .i64 (1))) fun fU=>
 cB [(.int .i64 (0)),(.int .i64 (0)),uA,tf,kG] h_1 fun L1 xs hx=>
 auL P K s0 x1 n5 er eL fU L1 xs hx))))):=aw (by kernel_rfl)
theorem awb:aeg P K s0 x1 x4 n5 uA aM cQ tf kG h=
 (bU aM false
 (OP (ah .eql x1 s0) fun bt=>
 O9 P K s0 x1 x4 n5 uA aM bt cQ tf kG h)
 (O9 P K s0 x1 x4 n5 uA aM undef cQ tf kG h)):=aw (by kernel_rfl)
def JR:Prop:=
 OP (fe x1) fun a9=>
 OP (ah .eql a9 (.int .i64 (0))) fun aN=>
 aeg P K s0 x1 (.int .i64 (0)) a9 undef aN undef undef undef h
theorem aqG:ai P Ap (aO [.tmp 4] K) (bk [s0,x1]) h=JR P K s0 x1 h:=by kernel_rfl
theorem f139 {K:VK} {s0 x1:Value} {h:ae} (H:JR Tryz.prog K s0 x1 h):aj Tryz.prog 139 [s0,x1] h K:=
 bD atT (Nat.le_of_ble_eq_true rfl) ((aqG Tryz.prog K s0 x1 h).mpr H)
end
/-! F140: internal/stringslite.HasPrefix -/
noncomputable section
variable (s0 x1 aF aX : Value) (h : ae)
def ab5:=bp Tryz.prog 140 [[],[0,1,10],[10,16],[]]
@[irreducible] def DT:=bw ab5
@[irreducible] def VP:=DT.r.l.r.l
@[irreducible] def anK:=DT.r.r
@[irreducible] def anL:=VP.r.l
theorem atU:ab5=some (18,DT,[.tmp 4]):=by kernel_rfl
def SO (_P:Program) (K:VK):aq:=aO [.tmp 4] K
def SP:aq:=aC (ai P anK (SO P K)) (SO P K)
def aeo:Prop:=au (ai P VP (SP P K)) [0,1,10] [s0,x1,aF] h
def Pg:Prop:=au (ai P anL (SP P K)) [10,16] [aF,aX] h
theorem agm:Pg P K aF aX h=
 (OP (bK aF aX (.bool false)) fun bH=>
 K bH h):=aw (by kernel_rfl)
theorem awp:aeo P K s0 x1 aF h=
 (bU aF true
 (OP (fe x1) fun ay=>
 OP (iZ s0 none (some ay)) fun aP=>
 OP (ah .eql aP x1) fun aX=>
 Pg P K aF aX h)
 (Pg P K aF undef h)):=aw (by kernel_rfl)
def JS:Prop:=
 OP (fe s0) fun x6=>
 OP (fe x1) fun x8=>
 OP (ah .geq x6 x8) fun x9=>
 aeo P K s0 x1 x9 h
theorem aqH:ai P DT (aO [.tmp 4] K) (bk [s0,x1]) h=JS P K s0 x1 h:=by kernel_rfl
theorem f140 {K:VK} {s0 x1:Value} {h:ae} (H:JS Tryz.prog K s0 x1 h):aj Tryz.prog 140 [s0,x1] h K:=
 bD atU (Nat.le_of_ble_eq_true rfl) ((aqH Tryz.prog K s0 x1 h).mpr H)
end
/-! F142: internal/stringslite.IndexByte -/
noncomputable section
variable (s0 c1 : Value) (h : ae)
def ab7:=bp Tryz.prog 142 [[],[]]
@[irreducible] def VR:=bw ab7
theorem atW:ab7=some (8,VR,[.tmp 4]):=by kernel_rfl
def JU (_:Program) (K:VK) (s0 c1:Value) (h:ae):Prop:=
 OP (Bz s0 c1) fun x7=>
 K x7 h
theorem aqJ:ai P VR (aO [.tmp 4] K) (bk [s0,c1]) h=JU P K s0 c1 h:=by kernel_rfl
theorem f142 {K:VK} {s0 c1:Value} {h:ae} (H:JU Tryz.prog K s0 c1 h):aj Tryz.prog 142 [s0,c1] h K:=
 bD atW (Nat.le_of_ble_eq_true rfl) ((aqJ Tryz.prog K s0 c1 h).mpr H)
end
end Go.Proofs.YtelmdbpaoifmoaaGreat

namespace Go.Proofs.YtelmdbpaoifmoaaGreat
open Go.Sim

theorem aao (c:UInt8):∀s:List UInt8,Lib.indexByte s c=if s.idxOf c<s.length then (s.idxOf c:Int) else -1
 | []=>rfl
 | x::s=>by
  have ih:=aao c s
  rw [Lib.indexByte]
  by_cases h:(x==c)=true
  ·have e1:(x::s).idxOf c=0:=by rw [List.idxOf_cons,h];rfl
   rw [if_pos h,e1,if_pos (by simp)];rfl
  ·have h':(x==c)=false:=by simpa using h
   have e1:(x::s).idxOf c=s.idxOf c+1:=by rw [List.idxOf_cons,h'];rfl
   rw [if_neg h,ih,e1,List.length_cons]
   by_cases h2:s.idxOf c<s.length
   ·have h3:¬(((s.idxOf c:Nat):Int)== -1)=true:=by
     rw [beq_iff_eq];omega
    rw [if_pos h2,if_pos (show s.idxOf c+1<s.length+1 by omega),if_neg h3]
    omega
   ·rw [if_neg h2,if_neg (show ¬s.idxOf c+1<s.length+1 by omega)]
    rfl

theorem tb (a b c:Value):(#[a,b,c]:Array Value)[0]?=some a∧(#[a,b,c]:Array Value)[1]?=some b∧(#[a,b,c]:Array Value)[2]?=some c:=⟨rfl,rfl,rfl⟩

section
variable {h : ae} {K : Value → ae → Prop} {s : List UInt8}

theorem aiv {c:UInt8} (hk:K (I (if s.idxOf c<s.length then (s.idxOf c:Int) else -1)) h):aj Tryz.prog 142 [S s,cv c] h K:=by
 refine f142 ?_
 have e:Bz (S s) (cv c)=some (I (if s.idxOf c<s.length then (s.idxOf c:Int) else -1)):=by
  have e1:Bz (S s) (cv c)=some (Value.int .i64 (Lib.indexByte (Go.Sim.bytes (ByteArray.mk s.toArray)) ((c.toNat:Int)).toNat.toUInt8)):=rfl
  rw [e1,Un,Int.toNat_natCast,aao]
  have:c.toNat.toUInt8=c:=by simp
  rw [this]
 simp only [JU,e,ag]
 exact hk

theorem ais {c:UInt8} (hk:K (I (if s.idxOf c<s.length then (s.idxOf c:Int) else -1)) h):aj Tryz.prog 139 [S s,S [c]] h K:=by
 refine f139 ?_
 have l1:fe (S [c])=some (I 1):=rfl
 have ix:hT (S [c]) (.int .i64 0)=some (cv c):=rfl
 have e1:ah .eql (I 1) (.int .i64 0)=some (B false):=rfl
 have e2:ah .eql (I 1) (.int .i64 1)=some (B true):=rfl
 simp only [JR,l1,ag,e1]
 rw [awb]
 simp only [dF,Dd,ag]
 rw [awc]
 simp only [cV,ag,bS]
 refine ⟨fun he=>?_,fun _=>?_⟩
 ·have e3:s.idxOf c=0:=by rw [←he];simp
  have e4:0<s.length:=by rw [←he];simp
  rw [e3,if_pos e4] at hk
  exact hk
 ·simp only [e2,ag,dd,ix]
  exact aiv hk

theorem aii (hl:s.length≤1000) (hk:K (.tuple #[S (cO s),S (if kP s=true then de s else []),B (kP s)]) h):aj Tryz.prog 123 [S s,S [47]] h K:=by
 refine f123 ?_
 unfold JB
 refine f131 ?_
 unfold JJ
 refine ais ?_
 have l1:fe (S [47])=some (I 1):=rfl
 by_cases aB:s.idxOf 47<s.length
 ·have hs:kP s=true:=decide_eq_true aB
  rw [hs,if_pos rfl] at hk
  rw [if_pos aB]
  have wi:IntKind.wrap .i64 (((s.idxOf 47:Nat):Int)+1)=((s.idxOf 47+1:Nat):Int):=by rw [wrap64 (by omega) (by omega)];omega
  have sW:=Hs (a:=s) (n:=s.idxOf 47) (by omega) .i64
  have Cd:=zA (a:=s) (n:=s.idxOf 47+1) (by omega) .i64
  simp only [j5,ag,decide_eq_true (show (0:Int)≤((s.idxOf 47:Nat):Int) by omega),dd,sW,l1,cC,wi,Cd,dY,(tb _ _ _).1,(tb _ _ _).2.1,(tb _ _ _).2.2]
  exact hk
 ·have hs:kP s=false:=decide_eq_false aB
  rw [hs,if_neg (by decide)] at hk
  rw [if_neg aB]
  have ho:cO s=s:=by unfold cO;exact List.take_of_length_le (by omega)
  rw [ho] at hk
  simp only [j5,ag,show decide ((0:Int)≤ -1)=false from rfl,c7,dY,(tb _ _ _).1,(tb _ _ _).2.1,(tb _ _ _).2.2]
  exact hk

theorem aij (hl:s.length≤1000) (hk:K (.tuple #[S (if s.head?=some 45 then s.tail else s),B (decide (s.head?=some 45))]) h):aj Tryz.prog 124 [S s,S [45]] h K:=by
 refine f124 ?_
 unfold JC
 refine f132 ?_
 unfold JK
 refine f140 ?_
 have l1:fe (S [45])=some (I 1):=rfl
 have fin:∀b:Bool,b=decide (s.head?=some 45)→(OP (ft .not (B b)) fun x9=>
   aL x9
    (OP (b9 0 (.tuple #[S s,.bool false])) fun x9=>OP (b9 1 (.tuple #[S s,.bool false])) fun aF=>K (.tuple #[x9,aF]) h)
    (OP (iZ (S s) (some (I 1)) none) fun aP=>OP (b9 0 (.tuple #[aP,.bool true])) fun x9=>OP (b9 1 (.tuple #[aP,.bool true])) fun aF=>K (.tuple #[x9,aF]) h)):=by
  intro b hb
  by_cases hh:s.head?=some 45
  ·rw [decide_eq_true hh] at hb hk
   rw [if_pos hh] at hk
   subst hb
   have h1:1≤s.length:=by
    cases s with
    | nil=>simp at hh
    | cons x t=>simp
   have Cd:iZ (S s) (some (I 1)) none=some (S s.tail):=by
    rw [←List.drop_one]
    exact zA (a:=s) (n:=1) h1 .i64
   simp only [nC,ag,Bool.not_true,c7,Cd,dY,fg,fy]
   exact hk
  ·rw [decide_eq_false hh] at hb hk
   rw [if_neg hh] at hk
   subst hb
   simp only [nC,ag,Bool.not_false,dd,dY,fg,fy]
   exact hk
 unfold JS
 simp only [jq,l1,ag,j5]
 rw [awp]
 cases s with
 | nil=>
  simp only [List.length_nil,show decide ((1:Int)≤((0:Nat):Int))=false from rfl,ie]
  rw [agm]
  simp only [cV,ag]
  exact fin false (by simp)
 | cons x t=>
  have sW:iZ (S (x::t)) none (some (I 1))=some (S [x]):=by
   have:=Hs (a:=x::t) (n:=1) (by simp) .i64
   simpa using this
  rw [decide_eq_true (show (1:Int)≤((x::t).length:Int) by rw [List.length_cons];omega)]
  simp only [eO,l1,ag,sW,Dd]
  rw [agm]
  simp only [dh,ag]
  exact fin (decide ([x]=[45])) (by rw [decide_eq_decide];constructor <;> intro h <;> simpa using h)

end
end Go.Proofs.YtelmdbpaoifmoaaGreat


namespace Go.Proofs.YtelmdbpaoifmoaaGreat
open Go.Sim

theorem azN {s:List UInt8} {i:Nat} (h:i<s.length):cY (s.take (i+1))=10*cY (s.take i)+(s[i].toNat-48):=by
 rw [List.take_succ_eq_append_getElem h,xm,HG]
 simp
 omega

theorem aye (k:IntKind) {a b:Int} (ha:0≤a) (hb:0<b):ah .rem (.int k a) (.int k b)=some (.int k (a%b)):=by
 simp only [ah,fY,if_true]
 rw [if_neg (by omega),Int.tmod_eq_emod_of_nonneg ha]

theorem Og {g:ae} {d:Nat} (hd:d<4294967296) (h0:0<d):cR (g++[.arr 177 [.int .u32 (d:Int)]]) (sl 177 g.length 0 1) d:=
 ⟨[d],.inr ⟨g.length,rfl,.inr ⟨[],by simp [aQ]⟩⟩,⟨fun x hx=>by rw [List.mem_singleton.1 hx];exact hd,by simp;omega⟩,by simp [val]⟩

section
variable {h : ae} {K : Value → ae → Prop} {s : List UInt8}

theorem RA (hl:s.length≤700) (hk:∀v h',EX h h'→cR h' v (cd s)→K (.tuple #[v,B (fF s)]) h'):aj Tryz.prog 125 [S s] h K:=by
 have bad:fF s=false→K (.tuple #[.slice none 0 0,.bool false]) h:=by
  intro hb
  have:=hk (.slice none 0 0) h (EX.refl h) ⟨[],DS.nil _ _ _,Canon.nil _,by unfold cd;rw [if_neg (by rw [hb];decide)];rfl⟩
  rw [hb] at this
  exact this
 refine f125 ?_
 unfold JD
 simp only [jq,ag]
 refine db (σ:=Nat) (fun i=>[I i]) (fun _=>h) (fun i=>i≤s.length∧hI (s.take i)) (fun i=>s.length-i) 0 rfl rfl ⟨Nat.zero_le _,by simp [hI]⟩ ?_
 intro i ⟨hi,kR⟩ L hL
 rw [avI]
 simp only [cK,ag,bS]
 refine ⟨fun aB=>?_,fun cH=>?_⟩
 ·have nf:i<s.length:=by omega
  have ix:=rj (a:=s) (i:=i) nf .i64
  have FY:ah .lss (cv s[i]) (.int .u8 48)=some (B (decide ((s[i].toNat:Int)<48))):=rfl
  have E0:ah .gtr (cv s[i]) (.int .u8 57)=some (B (decide ((s[i].toNat:Int)>57))):=rfl
  have no:¬(48≤s[i].toNat∧s[i].toNat≤57)→fF s=false:=by
   intro hn
   cases e:fF s with
   | false=>rfl
   | true=>exact absurd ((oK.1 e).2.2 _ (List.getElem_mem nf)) hn
  simp only [ix,ag,FY]
  by_cases jA:s[i].toNat<48
  ·rw [decide_eq_true (show (s[i].toNat:Int)<48 by omega),aga]
   simp only [eY]
   rw [agb]
   simp only [dh,ag,dd]
   exact bad (no (by omega))
  ·rw [decide_eq_false (show ¬(s[i].toNat:Int)<48 by omega),aga]
   simp only [dF,ix,ag,E0]
   rw [agb]
   simp only [cV,ag,bS]
   refine ⟨fun h57=>bad (no (by omega)),fun h57=>?_⟩
   simp only [cC,inc i (by omega),ag,true_and]
   refine hL (i+1) ⟨by omega,?_⟩ (by omega)
   rw [List.take_succ_eq_append_getElem nf]
   intro c hc
   rcases List.mem_append.1 hc with hc | hc
   ·exact kR c hc
   ·rw [List.mem_singleton.1 hc];omega
 have hM:i=s.length:=by omega
 subst hM
 rw [List.take_length] at kR
 clear hL
 have eE:(.string ⟨#[]⟩:Value)=S []:=rfl
 rw [avF,eE]
 simp only [Dd,ag]
 -- pz is left of fS aAr
 have go:fF s=true→BX Tryz.prog K (S s) (B false) (B false) h:=by
  intro aA
  have hv:cd s=cY s:=by unfold cd;rw [if_pos aA]
  rw [aA,hv] at hk
  rw [agf]
  simp only [cV,ag,c7]
  refine db (σ:=List UInt8×List UInt8×Value×ae) (fun q=>[S q.2.1,q.2.2.1]) (fun q=>q.2.2.2) (fun q=>s=q.1++q.2.1∧cR q.2.2.2 q.2.2.1 (cY q.1)∧EX h q.2.2.2) (fun q=>q.2.1.length)
   ([],s,.slice none 0 0,h) rfl rfl ⟨rfl,⟨[],DS.nil _ _ _,Canon.nil _,rfl⟩,EX.refl h⟩ ?_
  rintro ⟨p,t,v,g⟩ ⟨dD,hm,hx⟩ L hL
  simp only at dD hm hx hL⊢
  rw [avG,eE]
  simp only [Ui,ag]
  by_cases ht:t=[]
  ·subst ht
   rw [decide_eq_true rfl]
   simp only [Bool.not_true,c7]
   rw [avK]
   rw [List.append_nil] at dD
   rw [dD] at hk
   exact hk v g hx hm
  rw [decide_eq_false ht]
  have Bp:0<t.length:=List.length_pos_iff.2 ht
  have nY:p.length+t.length=s.length:=by rw [dD,List.length_append]
  have j8:hI t:=fun c hc=>kR c (by rw [dD];simp [hc])
  have Y9:hI p:=fun c hc=>kR c (by rw [dD];simp [hc])
  have w1:IntKind.wrap .i64 ((t.length:Int)-1)=((t.length-1:Nat):Int):=by rw [wrap64 (by omega) (by omega)];omega
  have w2:ah .rem (I (t.length-1:Nat)) (.int .i64 9)=some (I ((t.length-1)%9:Nat)):=by
   have:ah .rem (I (t.length-1:Nat)) (.int .i64 9)=some (I (((t.length-1:Nat):Int)%9)):=aye .i64 (by omega) (by decide)
   rw [this];congr 2
  have w3:IntKind.wrap .i64 (((t.length-1)%9:Nat)+1:Int)=(((t.length-1)%9+1:Nat):Int):=by rw [wrap64 (by omega) (by omega)];omega
  simp only [Bool.not_false,dd,jq,ag,eW,w1,w2,cC,w3]
  have hn9:(t.length-1)%9+1≤9:=by omega
  have lT:(t.length-1)%9+1≤t.length:=by omega
  have hn1:1≤(t.length-1)%9+1:=by omega
  generalize (t.length-1)%9+1=n at*
  refine db (σ:=Nat) (fun i=>[.int .u32 (cY (t.take i):Int),.int .u32 ((10^i:Nat):Int),I i]) (fun _=>g) (fun i=>i≤n) (fun i=>n-i) 0 rfl rfl (Nat.zero_le _) ?_
  intro i iK L2 fX
  have aB:=uE (s:=t.take i) fun c hc=>j8 c (List.mem_of_mem_take hc)
  rw [List.length_take,Nat.min_eq_left (by omega)] at aB
  have p9:(10:Nat)^i≤10^9:=Nat.pow_le_pow_right (by decide) (by omega)
  rw [avH]
  simp only [cK,ag,bS]
  refine ⟨fun h1=>?_,fun h1=>?_⟩
  ·have pY:i<t.length:=by omega
   have hc:=j8 _ (List.getElem_mem pY)
   have p8:(10:Nat)^i≤10^8:=Nat.pow_le_pow_right (by decide) (by omega)
   have ix:=rj (a:=t) (i:=i) pY .i64
   have m1:ah .mul (.int .u32 10) (.int .u32 (cY (t.take i):Int))=some (.int .u32 ((10*cY (t.take i):Nat):Int)):=by
    rw [tC,show (10:Int)*(cY (t.take i):Int)=((10*cY (t.take i):Nat):Int) by omega,me (by omega) (by omega)]
   have m2:ah .mul (.int .u32 10) (.int .u32 ((10^i:Nat):Int))=some (.int .u32 ((10^(i+1):Nat):Int)):=by
    rw [tC,show (10:Int)*((10^i:Nat):Int)=((10^(i+1):Nat):Int) by rw [Nat.pow_succ];omega,me (by omega) (by rw [Nat.pow_succ];omega)]
   have QJ:ah .sub (cv t[i]) (.int .u8 48)=some (.int .u8 ((t[i].toNat-48:Nat):Int)):=by
    show some (Value.int .u8 (IntKind.wrap .u8 ((t[i].toNat:Int)-48)))=_
    have e:IntKind.wrap .u8 ((t[i].toNat:Int)-48)=((t[i].toNat:Int)-48)%256:=by simp [IntKind.wrap,IntKind.bits,IntKind.signed]
    rw [e];congr 2;omega
   have c1:cS .u32 (.int .u8 ((t[i].toNat-48:Nat):Int))=some (.int .u32 ((t[i].toNat-48:Nat):Int)):=by rw [jy,me (by omega) (by omega)]
   have a1:ah .add (.int .u32 ((10*cY (t.take i):Nat):Int)) (.int .u32 ((t[i].toNat-48:Nat):Int))=some (.int .u32 (cY (t.take (i+1)):Int)):=by
    rw [azN pY,cC,←Int.natCast_add,me (by omega) (by omega)]
   simp only [m1,ix,QJ,c1,a1,m2,cC,inc i (by omega),ag,true_and]
   exact fX (i+1) (by omega) (by omega)
  ·have hM:i=n:=by omega
   subst hM
   have ZB:(10:Nat)^i<4294967296:=by omega
   have gU:0<(10:Nat)^i:=Nat.pow_pos (by decide)
   have lp:=uE Y9
   have aAp:(10:Nat)^p.length≤bj:=ny (by omega)
   have FB:cY p*10^i+cY (t.take i)=cY (p++t.take i):=by
    rw [xm,List.length_take,Nat.min_eq_left lT]
   have arK:hI (p++t.take i):=fun c hc=>by
    rcases List.mem_append.1 hc with hc | hc
    ·exact Y9 c hc
    ·exact j8 c (List.mem_of_mem_take hc)
   have lpt:=uE arK
   rw [List.length_append,List.length_take,Nat.min_eq_left lT] at lpt
   have aAq:(10:Nat)^(p.length+i)≤bj:=ny (by omega)
   have mk:∀(g:ae) (r:Nat),cT 177 1 [(.int .u32 (0))] g [(0,1,.int .u32 (r:Int))]=some (sl 177 g.length 0 1,g++[.arr 177 [.int .u32 (r:Int)]]):=fun _ _=>rfl
   rw [avJ]
   simp only [mk,aD]
   have x1:EX g (g++[.arr 177 [.int .u32 ((10^i:Nat):Int)]]):=EX.append _ _
   refine Rz (hm.mono x1) (Og ZB gU) (by omega) (xo ZB) ?_
   intro r1 g2 x2 m2
   have x3:EX g2 (g2++[.arr 177 [.int .u32 (cY (t.take i):Int)]]):=EX.append _ _
   have dr:DS 177 .u32 (g2++[.arr 177 [.int .u32 (cY (t.take i):Int)]]) (sl 177 g2.length 0 1) [cY (t.take i)]:=.inr ⟨g2.length,rfl,.inr ⟨[],by simp [aQ]⟩⟩
   refine pD dr (fun x hx=>by rw [List.mem_singleton.1 hx];omega) (by simp) ?_
   intro r2 m3
   have e:val 4294967296 [cY (t.take i)]=cY (t.take i):=by simp [val]
   rw [e] at m3
   refine RB (m2.mono x3) m3 (by omega) (xo (by omega)) ?_
   intro r3 g4 x4 m4
   rw [FB] at m4
   have sW:=zA (a:=t) (n:=i) lT .i64
   simp only [sW,ag,true_and]
   refine hL (p++t.take i,t.drop i,r3,g4) ⟨by rw [List.append_assoc,List.take_append_drop];exact dD,m4,((hx.trans x1).trans x2).trans (x3.trans x4)⟩ (by rw [List.length_drop];omega)
 have fail:fF s=false→∀t u:Value,bK t (.bool true) u=some (B true)→BX Tryz.prog K (S s) t u h:=by
  intro hb t u ht
  rw [agf,ht]
  simp only [ag,dd]
  exact bad hb
 by_cases h0:s=[]
 ·have hb:fF s=false:=by subst h0;rfl
  rw [decide_eq_true h0,agc]
  simp only [eY]
  rw [agd]
  simp only [tm]
  rw [Qe]
  simp only [eY]
  rw [Qf]
  simp only [dh,ag]
  rw [Qg]
  simp only [eY]
  exact fail hb _ _ rfl
 have gU:0<s.length:=List.length_pos_iff.2 h0
 rw [decide_eq_false h0,agc]
 have ix:=rj (a:=s) (i:=0) gU .i64
 simp only [Int.natCast_zero] at ix
 have hh:s.head?=some s[0]:=by rw [List.head?_eq_getElem?,List.getElem?_eq_getElem gU]
 have e5:ah .eql (cv s[0]) (.int .u8 48)=some (B (decide ((s[0].toNat:Int)=48))):=rfl
 simp only [dF,ix,ag,e5]
 rw [agd]
 have tail:∀(b:Bool),b=false→fF s=true→O5 Tryz.prog K (S s) (B b) h:=by
  rintro _ rfl aA
  rw [Qg]
  simp only [dF,jq,ag,eT,decide_eq_false (show ¬(4000:Int)<(s.length:Int) by omega)]
  exact go aA
 by_cases jA:s[0].toNat=48
 ·have Nn:s.head?=some 48:=by rw [hh];congr 1;exact UInt8.toNat_inj.1 jA
  rw [decide_eq_true (show (s[0].toNat:Int)=48 by omega)]
  simp only [eO,jq,ag,eT]
  rw [Qe]
  simp only [dF,dh,ag]
  rw [Qf]
  simp only [cV,ag]
  by_cases h1:1<s.length
  ·have hb:fF s=false:=by
    cases e:fF s with
    | false=>rfl
    | true=>have:=(oK.1 e).2.1 Nn;omega
   rw [decide_eq_true (show (1:Int)<(s.length:Int) by omega),Qg]
   simp only [eY]
   exact fail hb _ _ rfl
  ·rw [decide_eq_false (show ¬(1:Int)<(s.length:Int) by omega)]
   exact tail false rfl (oK.2 ⟨⟨gU,by omega⟩,fun _=>by omega,kR⟩)
 ·rw [decide_eq_false (show ¬(s[0].toNat:Int)=48 by omega)]
  simp only [ie]
  rw [Qe]
  simp only [dF,cV,ag]
  rw [Qf]
  simp only [cV,ag]
  refine tail false rfl (oK.2 ⟨⟨gU,by omega⟩,fun hc=>?_,kR⟩)
  rw [hh] at hc
  injection hc with hc
  rw [hc] at jA
  exact absurd rfl jA

end
end Go.Proofs.YtelmdbpaoifmoaaGreat


namespace Go.Proofs.YtelmdbpaoifmoaaGreat
open Go.Sim

def dQ (s:List UInt8):List UInt8:=if s.head?=some 45 then s.tail else s

theorem GO (s:List UInt8):jt s=ph (decide (s.head?=some 45)) (dQ s):=by
 unfold jt dQ
 by_cases h:s.head?=some 45
 ·rw [if_pos h,if_pos h,decide_eq_true h]
 ·rw [if_neg h,if_neg h,decide_eq_false h]

theorem auJ (s:List UInt8):((cO s).head?=some 45↔s.head?=some 45)∧(if (cO s).head?=some 45 then (cO s).tail else cO s)=cO (dQ s)∧kP s=kP (dQ s)∧de s=de (dQ s):=by
 cases s with
 | nil=>simp [cO,dQ]
 | cons x t=>
  by_cases hx:x=45
  ·subst hx
   have e:((45:UInt8)::t).idxOf 47=t.idxOf 47+1:=by
    rw [List.idxOf_cons]
    have:((45:UInt8)==47)=false:=by decide
    rw [this];rfl
   have eu:dQ (45::t)=t:=by unfold dQ;simp
   have eo:cO (45::t)=45::cO t:=by unfold cO;rw [e,List.take_succ_cons]
   rw [eu,eo]
   refine ⟨by simp,by simp,?_,?_⟩
   ·unfold kP;rw [e,List.length_cons,decide_eq_decide];omega
   ·unfold de;rw [e];rfl
  ·have eu:dQ (x::t)=x::t:=by unfold dQ;rw [if_neg (by simpa using hx)]
   have cU:¬(cO (x::t)).head?=some 45:=by
    unfold cO
    cases h:(x::t).idxOf 47 with
    | zero=>simp
    | succ k=>rw [List.take_succ_cons];simpa using hx
   rw [eu,if_neg cU]
   exact ⟨⟨fun h=>absurd h cU,fun h=>absurd (by simpa using h) hx⟩,rfl,rfl,rfl⟩

theorem aq7 {g:ae} {j:Nat} {K:Value→ae→Prop} (hg:g[j]?=some (.arr 107 z4)) (hk:K (.tuple #[pA,B false]) (g.set j (.arr 107 z4))):
  OP (cN [(.bool false),(.slice none 0 0),(.bool false),(.slice none 0 0)] []) fun jI=>OH (aJ 4 g (pt j 0) jI) fun _ h_1=>OP (af true 4 h_1 (pt j 0)) fun r0=>K (.tuple #[r0,(.bool false)]) h_1:=by
 have e:cN [(.bool false),(.slice none 0 0),(.bool false),(.slice none 0 0)] []=some pA:=rfl
 rw [e,ag]
 have s:=mO (x:=B false) (y:=.slice none 0 0) (z:=B false) (w:=.slice none 0 0) hg
 have s':aJ 4 g (pt j 0) pA=some (undef,g.set j (.arr 107 z4)):=s
 rw [s',aD]
 have l:=gA (cJ (o:=.arr 107 z4) hg)
 have l':af true 4 (g.set j (.arr 107 z4)) (pt j 0)=some pA:=l
 rw [l',ag]
 exact hk

section
variable {h : ae} {K : Value → ae → Prop} {s : List UInt8}

theorem Hq {m:Bool} {n:Nat}:(m&&decide (0<n))=decide ((if m=true then -(n:Int) else (n:Int))<0)∧(if m=true then -(n:Int) else (n:Int)).natAbs=n:=by
 cases m with
 | false=>simp
 | true=>
  refine ⟨?_,by simp⟩
  simp only [Bool.true_and,if_true]
  rw [decide_eq_decide];omega

theorem Rt {h0:ae} {m rC ok is:Bool} {n d:Nat} {v1 v2:Value} {i2:Nat} (k2:h[i2]?=some (.arr 107 z4)) (b2:h0.length≤i2) (hx:EX h0 h) (m1:cR h v1 n) (m2:cR h v2 d) (ln:n<bj) (ld:d<bj) (hd:is=true→0<d)
  (hk:ok=true→is=true→(m=true→n≠0)→(rC=true→Nat.gcd n d=1)→∀r h',EX h0 h'→gp h' r (if m=true then -(n:Int) else n) d→K (.tuple #[r,B true]) h')
  (fG:¬(ok=true∧is=true∧(m=true→n≠0)∧(rC=true→Nat.gcd n d=1))→∀a b c e h',EX h0 h'→K (.tuple #[.agg #[a,b,c,e],B false]) h'):
  BU Tryz.prog K (pt i2 0) (B rC) (B m) v1 (B ok) v2 (B is) h:=by
 have fail:¬(ok=true∧is=true∧(m=true→n≠0)∧(rC=true→Nat.gcd n d=1))→∀t u:Value,bK t (.bool true) u=some (B true)→BV Tryz.prog K (pt i2 0) (B rC) (B m) v1 v2 t u h:=by
  intro hb t u ht
  rw [af4,ht]
  simp only [ag,dd]
  exact aq7 k2 (fG hb _ _ _ _ _ (hx.set b2 _))
 have n1:∀b:Bool,ft .not (B b)=some (B (!b)):=fun _=>rfl
 have early:¬(ok=true∧is=true)→OU Tryz.prog K (pt i2 0) (B rC) (B m) v1 v2 (B true) h:=by
  intro hb
  rw [af2]
  simp only [eY]
  rw [af3]
  simp only [tm]
  rw [Qd]
  simp only [eY]
  exact fail (fun hc=>hb ⟨hc.1,hc.2.1⟩) _ _ rfl
 rw [avf,n1,ag,avg]
 cases ok with
 | false=>
  simp only [Bool.not_false,eY]
  rw [af1]
  simp only [dh,ag]
  exact early (fun hc=>by cases hc.1)
 | true=>
 simp only [Bool.not_true,dF,n1,ag]
 rw [af1]
 simp only [cV,ag]
 cases is with
 | false=>exact early (fun hc=>by cases hc.2)
 | true=>
 have hd:=hd rfl
 simp only [Bool.not_true]
 rw [af2]
 simp only [dF]
 have main:(m=true→n≠0)→BV Tryz.prog K (pt i2 0) (B rC) (B m) v1 v2 (B false) (B false) h:=by
  intro hm
  rw [af4]
  simp only [cV,ag,c7]
  refine pC m1 ?_
  intro g1 x1
  refine pC (m2.mono x1) ?_
  intro g2 x2
  have az:=x1.trans x2
  obtain ⟨sg1,Hn⟩:=Hq (m:=m) (n:=n)
  rw [sg1,Bool.false_and]
  have FZ:=m1.mono az
  have m2':=(m2.mono x1).mono x2
  obtain ⟨xs,dx,_⟩:=id FZ
  obtain ⟨ys,dy,_⟩:=id m2'
  have eb:cN [(.bool false),(.slice none 0 0),(.bool false),(.slice none 0 0)] [(0,2,.agg #[B (decide ((if m=true then -(n:Int) else (n:Int))<0)),v1]),(2,2,.agg #[B false,v2])]=some (.agg #[B (decide ((if m=true then -(n:Int) else (n:Int))<0)),v1,B false,v2]):=by
   simp [cN,pM,gW,cZ,Value.cells,setAt]
  have e3:∀(g:ae),aW 107 [(.bool false),(.slice none 0 0),(.bool false),(.slice none 0 0)] g=some (pt g.length 0,g++[.arr 107 z4]):=fun _=>rfl
  simp only [eb,e3,ag,aD]
  have y1:EX g2 (g2++[.arr 107 z4]):=EX.append _ _
  have BD:(g2++[ak.arr 107 z4])[g2.length]?=some (.arr 107 z4):=bO
  generalize g2++[ak.arr 107 z4]=g3 at y1 BD⊢
  have nQ:i2<g2.length:=(List.getElem?_eq_some_iff.1 (az.get k2)).1
  rw [mO BD]
  simp only [aD]
  have k4:(g3.set g2.length (.arr 107 [B (decide ((if m=true then -(n:Int) else (n:Int))<0)),v1,B false,v2]))[g2.length]?=some (.arr 107 [B (decide ((if m=true then -(n:Int) else (n:Int))<0)),v1,B false,v2]):=cJ BD
  have y2:EX g2 (g3.set g2.length (.arr 107 [B (decide ((if m=true then -(n:Int) else (n:Int))<0)),v1,B false,v2])):=y1.set (Nat.le_refl _) _
  generalize g3.set g2.length (.arr 107 [B (decide ((if m=true then -(n:Int) else (n:Int))<0)),v1,B false,v2])=g4 at k4 y2⊢
  have xA:=(hx.trans az).trans y2
  have BE:=(az.trans y2).get k2
  have mm1:=FZ.mono y2
  have mm2:=m2'.mono y2
  generalize hN:(if m=true then -(n:Int) else (n:Int))=N at*
  have fin:∀{g5:ae} (b:Bool),EX g4 g5→((b=true→rC=true→Nat.gcd n d=1)∧(b=false→¬(rC=true→Nat.gcd n d=1)))→OH (aJ 4 g5 (pt i2 0) (.agg #[B (decide (N<0)),v1,B false,v2])) fun _ h_8=>OP (af true 4 h_8 (pt i2 0)) fun r0=>K (.tuple #[r0,B b]) h_8:=by
   intro g5 b x5 hb
   have kk:=x5.get BE
   refine pN (K:=fun v h=>K (.tuple #[v,B b]) h) kk ?_
   have xB:=(xA.trans x5).set b2 (.arr 107 [B (decide (N<0)),v1,B false,v2])
   cases b with
   | true=>
    refine hk rfl rfl hm (hb.1 rfl) _ _ xB ⟨v1,v2,by rw [decide_eq_false (show ¬(d:Int)<0 by omega)],?_,?_⟩
    ·rw [Hn];exact (mm1.mono x5).bG kk _
    ·rw [Int.natAbs_natCast];exact (mm2.mono x5).bG kk _
   | false=>exact fG (fun hc=>hb.2 rfl hc.2.2.2) _ _ _ _ _ xB
  rw [gA k4]
  simp only [ag,n1,true_and]
  cases rC with
  | false=>
   simp only [Bool.not_false,eY,dh,ag]
   exact fin true (EX.refl g4) ⟨fun _ h=>(by cases h),fun h=>by cases h⟩
  | true=>
   simp only [Bool.not_true,dF,bN,Nat.add_zero,Nat.zero_add,iO k4,jT k4,ag]
   refine Rx (a:=N) (b:=(d:Int)) ⟨v1,rfl,by rw [Hn];exact mm1⟩ (dn.nat mm2) (by rw [Hn];exact ln) (by rw [Int.natAbs_natCast];exact ld) ?_
   intro r5 g5 x5 i5
   rw [Hn,Int.natAbs_natCast] at i5
   simp only [gA (x5.get k4),true_and]
   refine zV (by decide) (by decide) ?_
   intro r6 g6 x6 i6
   have sf:Nat.gcd n d≤d:=Nat.gcd_le_right _ hd
   simp only [gA ((x5.trans x6).get k4),true_and]
   refine H7 (i5.mono x6) i6 (by rw [Int.natAbs_natCast];omega) (by rw [show (1:Int).natAbs=1 from rfl];exact xo (by decide)) ?_
   intro g7 x7
   have dL:=x5.trans (x6.trans x7)
   simp only [gA (dL.get k4),true_and,fW,ag,cV]
   by_cases tV:Nat.gcd n d=1
   ·rw [tV]
    have:(if ((1:Nat):Int)-1=0 then (0:Int) else if ((1:Nat):Int)-1<0 then -1 else 1)=0:=rfl
    rw [this]
    exact fin true dL ⟨fun _ _=>tV,fun h=>by cases h⟩
   ·have:(if ((Nat.gcd n d:Nat):Int)-1=0 then (0:Int) else if ((Nat.gcd n d:Nat):Int)-1<0 then -1 else 1)≠0:=by
     rw [if_neg (by omega)];split <;> decide
    rw [decide_eq_false this]
    exact fin false dL ⟨fun h=>(by cases h),fun _ hc=>tV (hc rfl)⟩
 rw [af3]
 cases m with
 | false=>
  simp only [ie]
  rw [Qd]
  simp only [dF,cV,ag]
  exact main (fun h=>by cases h)
 | true=>
  obtain ⟨l,p1,p2⟩:=m1.nr
  simp only [eO,p1,ag,fW]
  rw [Qd]
  simp only [dF,dh,ag]
  by_cases hn:n=0
  ·rw [decide_eq_true (show (l:Int)=0 by omega)]
   exact fail (fun hc=>hc.2.2.1 rfl hn) _ _ rfl
  ·rw [decide_eq_false (show ¬(l:Int)=0 by omega)]
   exact main (fun _=>hn)

end
end Go.Proofs.YtelmdbpaoifmoaaGreat


namespace Go.Proofs.YtelmdbpaoifmoaaGreat
open Go.Sim

theorem ahH {s:List UInt8} (h:s.length≤700):cd s<bj:=Nat.lt_of_lt_of_le (HF s) (ny (by omega))

theorem aib {h:ae} {K:Value→ae→Prop} {s:List UInt8} (hl:s.length≤700)
  (hk:∀n d,jt s=some (n,d)→∀r h',EX h h'→gp h' r n d→K (.tuple #[r,B true]) h')
  (fG:jt s=none→∀a b c e h',EX h h'→K (.tuple #[.agg #[a,b,c,e],B false]) h'):aj Tryz.prog 108 [S s] h K:=by
 obtain ⟨o1,o2,o3,o4⟩:=auJ s
 have hp:=GO s
 have oX:(dQ s).length≤700:=by
  unfold dQ
  split
  ·rw [List.length_tail];omega
  ·exact hl
 have lo:(cO (dQ s)).length≤700:=by unfold cO;rw [List.length_take];omega
 have lu:(de s).length≤700:=by unfold de;rw [List.length_drop];omega
 have los:(cO s).length≤700:=by unfold cO;rw [List.length_take];omega
 have hm:decide ((cO s).head?=some 45)=decide (s.head?=some 45):=by rw [decide_eq_decide];exact o1
 refine f108 ?_
 have e1:∀(g:ae),aW 107 [(.bool false),(.slice none 0 0),(.bool false),(.slice none 0 0)] g=some (pt g.length 0,g++[.arr 107 z4]):=fun _=>rfl
 have eS:(.string ⟨#[47]⟩:Value)=S [47]:=rfl
 have eM:(.string ⟨#[45]⟩:Value)=S [45]:=rfl
 simp only [Jm,e1,aD,eS,eM]
 have x0:EX h (h++[.arr 107 z4]):=EX.append _ _
 have k0:(h++[ak.arr 107 z4])[h.length]?=some (.arr 107 z4):=bO
 generalize h++[ak.arr 107 z4]=g at x0 k0⊢
 refine aii (by omega) ?_
 simp only [dY,(tb _ _ _).1,(tb _ _ _).2.1,(tb _ _ _).2.2,ag]
 refine aij (by omega) ?_
 rw [o2,hm]
 simp only [dY,fg,fy,ag]
 refine RA lo ?_
 intro v1 g1 x1 m1
 have mk:∀(g:ae),cT 177 1 [(.int .u32 (0))] g [(0,1,(.int .u32 (1)))]=some (sl 177 g.length 0 1,g++[.arr 177 [.int .u32 ((1:Nat):Int)]]):=fun _=>rfl
 simp only [dY,fg,fy,ag,mk,aD]
 have x2:EX g1 (g1++[.arr 177 [.int .u32 ((1:Nat):Int)]]):=EX.append _ _
 have aba:=Og (g:=g1) (d:=1) (by decide) (by decide)
 generalize g1++[ak.arr 177 [.int .u32 ((1:Nat):Int)]]=g2 at x2 aba⊢
 have jX:=x1.trans x2
 have Z2:=ahH lo
 -- pz fS parts say is pz fS text aAU
 have AU:∀{d:Nat},mY (dQ s)=true→nK (dQ s)=d→fF (cO (dQ s))=true→(decide (s.head?=some 45)=true→cd (cO (dQ s))≠0)→
   jt s=some (if decide (s.head?=some 45)=true then -(cd (cO (dQ s)):Int) else (cd (cO (dQ s)):Int),d):=by
  intro d a b c e
  rw [hp]
  unfold ph
  rw [if_pos ⟨a,c,e⟩,b]
 have bad:¬(mY (dQ s)=true∧fF (cO (dQ s))=true∧(decide (s.head?=some 45)=true→cd (cO (dQ s))≠0))→jt s=none:=by
  intro hb
  rw [hp]
  unfold ph
  rw [if_neg hb]
 cases nY:kP s with
 | false=>
  rw [nY] at o3
  have iu:mY (dQ s)=true:=by unfold mY;rw [←o3];rfl
  have vR:nK (dQ s)=1:=by unfold nK;rw [←o3];rfl
  simp only [c7]
  refine Rt (h0:=h) (n:=cd (cO (dQ s))) (d:=1) (is:=true) (jX.get k0) (by omega) (x0.trans jX) (m1.mono x2) aba Z2 (xo (by decide)) (fun _=>by decide) (fun a _ c _=>?_) (fun hb=>?_)
  ·exact hk _ _ (AU iu vR a c)
  ·refine fG (bad fun hc=>hb ⟨hc.2.1,rfl,hc.2.2,fun h=>by cases h⟩)
 | true=>
  rw [nY] at o3
  have hlu:=lu
  simp only [dd,if_true]
  refine RA lu ?_
  intro v2 g3 x3 m2
  simp only [dY,fg,fy,ag]
  rw [ave]
  have vR:nK (dQ s)=cd (de s):=by unfold nK;rw [←o3,←o4];rfl
  have iu:mY (dQ s)=(fF (de s)&&(decide (2≤cd (de s))&&decide (Nat.gcd (cd (cO (dQ s))) (cd (de s))=1))):=by unfold mY;rw [←o3,←o4];rfl
  have Z3:=ahH lu
  have x03:=x0.trans (jX.trans x3)
  have fin:∀{g4:ae},EX g3 g4→∀is:Bool,is=(fF (de s)&&decide (2≤cd (de s)))→BU Tryz.prog K (pt h.length 0) (B true) (B (decide (s.head?=some 45))) v1 (B (fF (cO (dQ s)))) v2 (B is) g4:=by
   intro g4 x4 is nf
   refine Rt (h0:=h) (n:=cd (cO (dQ s))) (d:=cd (de s)) ((jX.trans (x3.trans x4)).get k0) (by omega) (x03.trans x4) ((m1.mono x2).mono (x3.trans x4)) (m2.mono x4) Z2 Z3 (fun h=>?_) (fun a b c d=>?_) (fun hb=>?_)
   ·rw [h] at nf
    have:=(Bool.and_eq_true_iff.1 nf.symm).2
    have:=of_decide_eq_true this
    omega
   ·refine hk _ _ (AU ?_ vR a c)
    rw [b] at nf
    have h2:=Bool.and_eq_true_iff.1 nf.symm
    rw [iu,h2.1,h2.2,decide_eq_true (d rfl)];rfl
   ·refine fG (bad fun hc=>hb ⟨hc.2.1,?_,hc.2.2,fun _=>?_⟩)
    ·have h2:=hc.1
     rw [iu,Bool.and_eq_true,Bool.and_eq_true] at h2
     rw [nf,h2.1,h2.2.1];rfl
    ·have h2:=hc.1
     rw [iu,Bool.and_eq_true,Bool.and_eq_true] at h2
     exact of_decide_eq_true h2.2.2
  cases vU:fF (de s) with
  | false=>
   simp only [ie]
   rw [af0]
   simp only [cV,ag]
   exact fin (EX.refl g3) false (by rw [vU];rfl)
  | true=>
   simp only [eO,mk,aD]
   have x4:EX g3 (g3++[.arr 177 [.int .u32 ((1:Nat):Int)]]):=EX.append _ _
   refine Cy (m2.mono x4) (Og (by decide) (by decide)) Z3 (xo (by decide)) ?_
   have hs:decide ((0:Int)<kE (cd (de s)) 1)=decide (2≤cd (de s)):=by
    rw [decide_eq_decide]
    unfold kE
    split
    ·omega
    ·split <;> omega
   simp only [eT,ag,hs]
   rw [af0]
   simp only [dh,ag]
   exact fin x4 _ (by rw [vU];rfl)

end Go.Proofs.YtelmdbpaoifmoaaGreat


namespace Go.Proofs.YtelmdbpaoifmoaaGreat
open Go.Sim
variable (P : Program) (K : VK)
/-! F24: pommel/pommelref01.Valid -/
noncomputable section
variable (x0 : Value) (h : ae)
def acb:=bp Tryz.prog 24 [[],[],[]]
@[irreducible] def VW:=bw acb
theorem k24:acb=some (11,VW,[.tmp 2]):=by kernel_rfl
def JY:Prop:=
 aj P 67 [x0] h fun x7 h_1=>
 OP (b9 0 x7) fun x8=>
 OP (b9 1 x7) fun x9=>
 OH (aW 37 [(.bool false),(.slice none 0 0),(.bool false),(.slice none 0 0)] h_1) fun x3 h_2=>
 OH (aJ 4 h_2 x3 x8) fun _ h_3=>
 K x9 h_3
theorem e24:ai P VW (aO [.tmp 2] K) (bk [x0]) h=JY P K x0 h:=by kernel_rfl
theorem f24 {K:VK} {x0:Value} {h:ae} (H:JY Tryz.prog K x0 h):aj Tryz.prog 24 [x0] h K:=
 bD k24 (Nat.le_of_ble_eq_true rfl) ((e24 Tryz.prog K x0 h).mpr H)
end
end Go.Proofs.YtelmdbpaoifmoaaGreat

namespace Go.Proofs.YtelmdbpaoifmoaaGreat
open Go.Sim
end Go.Proofs.YtelmdbpaoifmoaaGreat


namespace Go.Proofs.YtelmdbpaoifmoaaGreat
open Go.Sim

def cut (fx n:Nat):Nat:=min n (if 10<n then 11 else fx)

end Go.Proofs.YtelmdbpaoifmoaaGreat


namespace Go.Proofs.YtelmdbpaoifmoaaGreat
open Go.Sim


structure LL (h:ae) (v:Value) (ll:List (List Nat)):Prop where
 len:aY v=some (I ll.length)
 get:∀i (hi:i<ll.length),∃b o w,aS 1 v (I i)=some (pt b o)∧af false 1 h (pt b o)=some w∧NS h w .i64 (ll[i].map fun i:Nat=>(i:Int))

theorem LL.mono {h h':ae} {v:Value} {ll:List (List Nat)} (x:EX h h') (p:LL h v ll):LL h' v ll:=
 ⟨p.len,fun i hi=>let ⟨b,o,w,a,c,d⟩:=p.get i hi;⟨b,o,w,a,EX.load x c,d.mono x⟩⟩

def aax:Value→Bool
 | .slice _ _ _=>true
 | _=>false

structure OL (b:Nat) (g:ae) (v:Value) (ws:List Value) (ll:List (List Nat)):Prop where
 own:fN b g 33 v ws
 len:ws.length=ll.length
 sls:∀w∈ws,aax w=true
 get:∀(i:Nat) (w:Value) (l:List Nat),ws[i]?=some w→ll[i]?=some l→NS g w .i64 (l.map fun i:Nat=>(i:Int))

theorem NS.atY {g g':ae} {w:Value} {ns:List Int} (p:NS g w .i64 ns) (hk:∀b,b<g.length→(∃o n,af false 1 g (pt b o)=some (I n))→g'[b]?=g[b]?):NS g' w .i64 ns:=by
 refine ⟨p.len,fun i hi=>?_,p.le⟩
 obtain ⟨b,o,h1,h2⟩:=p.get i hi
 have hb:b<g.length:=by
  apply Classical.byContradiction
  intro cH
  simp only [af] at h2
  rw [aQ,List.getElem?_eq_none (by omega)] at h2
  cases h2
 refine ⟨b,o,h1,?_⟩
 have:=hk b hb ⟨o,_,h2⟩
 simp only [af,aQ,this] at h2⊢
 exact h2

theorem OL.dI {b:Nat} {g g':ae} {v w:Value} {ws:List Value} {ll:List (List Nat)} {ns:List Int} (o:OL b g v ws ll) (p:NS g w .i64 ns) (hold:∀d,d<g.length→(∀n,v≠sl 33 d 0 n)→g'[d]?=g[d]?):NS g' w .i64 ns:=by
 refine NS.atY p fun d hd ⟨o',n,hl⟩=>hold d hd fun m hv=>?_
 obtain ⟨_,_,h3⟩:=o.own.lt hv
 simp only [af,aQ,h3,Option.bind_some,ck,Bool.false_eq_true,if_false] at hl
 have:=o.sls _ (List.mem_of_getElem? hl)
 cases this

theorem OL.app {h0 hx:ae} {v w:Value} {ws:List Value} {ll:List (List Nat)} {l:List Nat} {K:Value→ae→Prop} (o:OL h0.length hx v ws ll) (hex:EX h0 hx) (hw:NS hx w .i64 (l.map fun i:Nat=>(i:Int))) (hl:ws.length≤1000)
  (hk:∀v' bJ,EX h0 bJ→OL h0.length bJ v' (ws++[w]) (ll++[l])→K v' bJ):OH (cT 33 1 [(.slice none 0 0)] hx [(0,1,w)]) fun a h2=>OH (dA 33 1 24 h2 v a) K:=by
 obtain ⟨t1,t2⟩:=azf hw.len
 have nY:aax w=true:=by
  have:=hw.len
  unfold aY at this
  split at this
  ·rfl
  ·cases this
 refine Db o.own (by omega) (by simp [maxLen];omega) t1 t2 ?_
 intro w1 bJ _ hlen hold iL
 simp only [aD]
 have key:∀{w':Value} {ns:List Int},NS hx w' .i64 ns→NS bJ w' .i64 ns:=fun p=>o.dI p hold
 refine hk _ _ ⟨by have:=hex.1;omega,fun d hd=>?_⟩ ⟨.inr ⟨hx.length+1,by have:=hex.1;omega,by simp,iL⟩,by simp [o.len],fun x hx=>?_,fun i x y hx hy=>?_⟩
 ·rw [hold d (by have:=hex.1;omega) fun n hv=>?_]
  ·exact hex.2 d hd
  ·have:=(o.own.lt hv).1
   omega
 ·rcases List.mem_append.1 hx with hx | hx
  ·exact o.sls x hx
  ·rw [List.mem_singleton.1 hx];exact nY
 ·by_cases hi:i<ws.length
  ·rw [List.getElem?_append_left hi] at hx
   rw [List.getElem?_append_left (by rw [←o.len];exact hi)] at hy
   exact key (o.get i x y hx hy)
  ·rw [List.getElem?_append_right (by omega)] at hx
   rw [List.getElem?_append_right (by rw [←o.len];omega),←o.len] at hy
   have h0:i-ws.length=0:=by
    have:=(List.getElem?_eq_some_iff.1 hx).1
    simp at this;omega
   rw [h0] at hx hy
   simp only [List.getElem?_cons_zero,Option.some.injEq] at hx hy
   subst hx hy
   exact key hw

theorem OL.ll {b:Nat} {g:ae} {v:Value} {ws:List Value} {ll:List (List Nat)} (o:OL b g v ws ll):LL g v ll:=by
 rcases o.own with ⟨rfl,h2⟩ | ⟨i,_,rfl,h3⟩
 ·have hl:=o.len
  rw [h2] at hl
  have:ll=[]:=List.length_eq_zero_iff.1 hl.symm
  subst this
  exact ⟨rfl,fun i hi=>by simp at hi⟩
 ·refine ⟨by rw [←o.len];rfl,fun j hj=>?_⟩
  have MX:j<ws.length:=by rw [o.len];exact hj
  refine ⟨i,j,ws[j],kM MX,?_,o.get j _ _ (List.getElem?_eq_getElem MX) (List.getElem?_eq_getElem hj)⟩
  simp [af,aQ,h3,ck,MX]

theorem OL.start (b:Nat) (g:ae):OL b g (.slice none 0 0) [] []:=⟨.inl ⟨rfl,rfl⟩,rfl,fun w hw=>by simp at hw,fun i w l h=>by simp at h⟩

end Go.Proofs.YtelmdbpaoifmoaaGreat


namespace Go.Sim

structure lC (bs:List Nat) (js:List (Int×Int)) (n d k aZ b:Nat):Prop where
 none:aZ=0→b=0∧∀m,m<k→¬dW bs n d m
 rel:aZ≠0→(b<k∧dW bs n d b)∧(∀m,m<k→dW bs n d m→wS js m*lS js b≤wS js b*lS js m)∧∀i,aZ.testBit i=true↔∃m,m<k∧dW bs n d m∧wS js m*lS js b=wS js b*lS js m∧m.testBit i=true

section
variable {bs : List Nat} {js : List (Int × Int)} {n d k aZ b : Nat}

theorem lC.start:lC bs js n d 1 0 0:=⟨fun _=>⟨rfl,fun m hm h=>h.ne (by omega)⟩,fun h=>absurd rfl h⟩

theorem lC.skip (g:lC bs js n d k aZ b) (h:¬dW bs n d k):lC bs js n d (k+1) aZ b:=by
 refine ⟨fun h0=>⟨(g.none h0).1,fun m hm hr=>?_⟩,fun h0=>?_⟩
 ·by_cases e:m=k
  ·subst e;exact h hr
  ·exact (g.none h0).2 m (by omega) hr
 ·obtain ⟨⟨a1,a2⟩,a3,a4⟩:=g.rel h0
  refine ⟨⟨by omega,a2⟩,fun m hm hr=>?_,fun i=>?_⟩
  ·by_cases e:m=k
   ·subst e;exact absurd hr h
   ·exact a3 m (by omega) hr
  ·rw [a4 i]
   constructor
   ·rintro ⟨m,q1,q2,q3⟩;exact ⟨m,by omega,q2,q3⟩
   ·rintro ⟨m,q1,q2,q3⟩
    by_cases e:m=k
    ·subst e;exact absurd q2 h
    ·exact ⟨m,by omega,q2,q3⟩

theorem lC.take (P:mU js n) (hn:n≤10) (g:lC bs js n d k aZ b) (h:dW bs n d k) (hb:aZ=0∨wS js b*lS js k<wS js k*lS js b):lC bs js n d (k+1) k k:=by
 refine ⟨fun h0=>absurd h0 h.ne,fun _=>?_⟩
 have less:∀m,m<k→dW bs n d m→wS js m*lS js k<wS js k*lS js m:=by
  intro m hm hr
  rcases hb with hb | hb
  ·exact absurd hr ((g.none hb).2 m hm)
  ·have h0:aZ≠0:=by
    rintro rfl
    exact (g.none rfl).2 m hm hr
   obtain ⟨⟨a1,a2⟩,a3,_⟩:=g.rel h0
   have h1:=a3 m hm hr
   have p1:=sJ P hn hr.lt hr.ne
   have p2:=sJ P hn a2.lt a2.ne
   have p3:=sJ P hn h.lt h.ne
   apply Classical.byContradiction
   intro hc
   have:=LC p3 p1 p2 (show wS js k*lS js m≤wS js m*lS js k by omega) h1
   omega
 refine ⟨⟨by omega,h⟩,fun m hm hr=>?_,fun i=>?_⟩
 ·by_cases e:m=k
  ·subst e;exact Int.le_refl _
  ·exact Int.le_of_lt (less m (by omega) hr)
 ·constructor
  ·intro hi;exact ⟨k,by omega,h,rfl,hi⟩
  ·rintro ⟨m,q1,q2,q3,q4⟩
   by_cases e:m=k
   ·subst e;exact q4
   ·have:=less m (by omega) q2
    omega

theorem lC.join (g:lC bs js n d k aZ b) (h:dW bs n d k) (h0:aZ≠0) (hb:wS js k*lS js b=wS js b*lS js k):lC bs js n d (k+1) (aZ ||| k) b:=by
 have br:aZ ||| k≠0:=by
  intro e
  have:aZ≤aZ ||| k:=Nat.left_le_or
  omega
 refine ⟨fun e=>absurd e br,fun _=>?_⟩
 obtain ⟨⟨a1,a2⟩,a3,a4⟩:=g.rel h0
 refine ⟨⟨by omega,a2⟩,fun m hm hr=>?_,fun i=>?_⟩
 ·by_cases e:m=k
  ·subst e;omega
  ·exact a3 m (by omega) hr
 ·rw [Nat.testBit_or,Bool.or_eq_true,a4 i]
  constructor
  ·rintro (⟨m,q1,q2⟩ | hi)
   ·exact ⟨m,by omega,q2⟩
   ·exact ⟨k,by omega,h,hb,hi⟩
  ·rintro ⟨m,q1,q2,q3,q4⟩
   by_cases e:m=k
   ·subst e;exact .inr q4
   ·exact .inl ⟨m,by omega,q2,q3,q4⟩

theorem lC.pass (g:lC bs js n d k aZ b) (h0:aZ≠0) (hb:wS js k*lS js b<wS js b*lS js k):lC bs js n d (k+1) aZ b:=by
 refine ⟨fun e=>absurd e h0,fun _=>?_⟩
 obtain ⟨⟨a1,a2⟩,a3,a4⟩:=g.rel h0
 refine ⟨⟨by omega,a2⟩,fun m hm hr=>?_,fun i=>?_⟩
 ·by_cases e:m=k
  ·subst e;omega
  ·exact a3 m (by omega) hr
 ·rw [a4 i]
  constructor
  ·rintro ⟨m,q1,q2⟩;exact ⟨m,by omega,q2⟩
  ·rintro ⟨m,q1,q2,q3,q4⟩
   by_cases e:m=k
   ·subst e;omega
   ·exact ⟨m,by omega,q2,q3,q4⟩

theorem lC.all (P:mU js n) (hn:n≤10) (hb:∀b∈bs,b<2^n) (hd:d<cj n) (g:lC bs js n d (2^n) aZ b):oD bs js n d aZ:=by
 obtain ⟨s,hs⟩:=oD.ex (js:=js) P hn hb hd
 have h0:aZ≠0:=fun e=>(g.none e).2 s hs.1.1.lt hs.1.1
 obtain ⟨⟨a1,a2⟩,a3,a4⟩:=g.rel h0
 have jP:lE bs js n d b:=⟨a2,fun x hx=>a3 x hx.lt hx⟩
 have e:aZ=s:=by
  apply Nat.eq_of_testBit_eq
  intro i
  rw [Bool.eq_iff_iff,a4 i]
  constructor
  ·rintro ⟨m,_,q2,q3,q4⟩
   have hm:=jP.same P hn q2 (Int.le_of_eq q3.symm)
   exact mP.1 (hs.2 m hm) i q4
  ·intro hi
   exact ⟨s,hs.1.1.lt,hs.1.1,Int.le_antisymm (a3 s hs.1.1.lt hs.1.1) (hs.1.2 b a2),hi⟩
 rw [e]
 exact hs
end

end Go.Sim


namespace Go.Proofs.YtelmdbpaoifmoaaGreat
open Go.Sim
end Go.Proofs.YtelmdbpaoifmoaaGreat


namespace Go.Sim

def KP (p:Value→Bool) (h h':ae):Prop:=∀d c r,aQ h d=some (c::r)→p c=true→aQ h' d=some (c::r)

theorem KP.refl (p:Value→Bool) (h:ae):KP p h h:=fun _ _ _ a _=>a
theorem KP.trans {p:Value→Bool} {a b c:ae} (x:KP p a b) (y:KP p b c):KP p a c:=fun d v r h1 h2=>y d v r (x d v r h1 h2) h2
theorem KP.ex {p:Value→Bool} {a b:ae} (x:EX a b):KP p a b:=fun _ _ _ h1 _=>x.cells h1
theorem KP.set {p:Value→Bool} {h:ae} {i:Nat} {e:TypeId} {cs:List Value} (hg:h[i]?=some (.arr e cs)) (hp:∀c r,cs=c::r→p c=false) (o:ak):KP p h (h.set i o):=by
 intro d c r h1 h2
 have br:i≠d:=by
  rintro rfl
  simp only [aQ,hg] at h1
  cases h1
  rw [hp _ _ rfl] at h2
  cases h2
 simp only [aQ] at h1⊢
 rw [List.getElem?_set_ne br]
 exact h1

def RS (h:ae) (e:TypeId) (aV:Nat) (v:Value) (rows:List (List Value)):Prop:=
 (∀r∈rows,r.length=aV)∧((v=.slice none 0 0∧rows=[])∨∃i o,v=sl e i o rows.length∧(rows=[]∨∃pre post,aQ h i=some (pre++rows.flatten++post)∧pre.length=o))

section
variable {h h' : ae} {e : TypeId} {aV : Nat} {v : Value} {rows : List (List Value)}

theorem RS.mono (x:EX h h') (p:RS h e aV v rows):RS h' e aV v rows:=
 ⟨p.1,p.2.imp id fun ⟨i,o,a,b⟩=>⟨i,o,a,b.imp id fun ⟨pre,post,c,d⟩=>⟨pre,post,x.cells c,d⟩⟩⟩

theorem RS.len (p:RS h e aV v rows):aY v=some (I rows.length):=by
 rcases p.2 with ⟨rfl,rfl⟩ | ⟨i,o,rfl,_⟩ <;> rfl

theorem RS.one (p:RS h e aV v rows):gW v=true∧cZ v=[v]:=by
 rcases p.2 with ⟨rfl,_⟩ | ⟨i,o,rfl,_⟩ <;> exact ⟨rfl,rfl⟩

theorem ER:∀{rows:List (List Value)},(∀r∈rows,r.length=aV)→rows.flatten.length=rows.length*aV
 | [],_=>by simp
 | r::rows,h=>by
  have ih:=ER (rows:=rows) fun x hx=>h x (List.mem_cons_of_mem _ hx)
  simp only [List.flatten_cons,List.length_append,List.length_cons,h r (List.mem_cons_self ..),ih]
  rw [Nat.succ_mul];omega

theorem Yt:∀{rows:List (List Value)},(∀r∈rows,r.length=aV)→∀k (hk:k<rows.length),(rows.flatten.drop (k*aV)).take aV=rows[k]
 | r::rows,h,0,_=>by
  have:=h r (by simp)
  simp only [List.flatten_cons,Nat.zero_mul,List.drop_zero,List.getElem_cons_zero]
  rw [←this,List.take_left']
  rfl
 | r::rows,h,k+1,hk=>by
  have hr:=h r (by simp)
  have:=Yt (rows:=rows) (fun x hx=>h x (by simp [hx])) k (by simpa using hk)
  simp only [List.flatten_cons,List.getElem_cons_succ]
  rw [←this,show (k+1)*aV=r.length+k*aV by rw [Nat.succ_mul,hr];omega,List.drop_append,List.drop_eq_nil_of_le (by omega),List.nil_append,show r.length+k*aV-r.length=k*aV by omega]

theorem RS.get (p:RS h e aV v rows) {k:Nat} (hk:k<rows.length):∃i o cs,aS aV v (I k)=some (pt i o)∧aQ h i=some cs∧o+aV≤cs.length∧(cs.drop o).take aV=rows[k]:=by
 rcases p.2 with ⟨_,rfl⟩ | ⟨i,o,rfl,rfl | ⟨pre,post,hc,ho⟩⟩
 ·simp at hk
 ·simp at hk
 have hf:=ER p.1
 have hle:(k+1)*aV≤rows.length*aV:=Nat.mul_le_mul_right _ hk
 rw [Nat.succ_mul] at hle
 refine ⟨i,o+k*aV,_,?_,hc,?_,?_⟩
 ·have:(0:Int)≤(k:Int)∧(k:Int)<(rows.length:Int):=by omega
  simp [sl,aS,this]
 ·simp only [List.length_append,hf];omega
 ·rw [←Yt p.1 k hk,←ho,List.append_assoc,List.drop_append,List.drop_eq_nil_of_le (by omega),List.nil_append,show pre.length+k*aV-pre.length=k*aV by omega]
  rw [List.drop_append_of_le_length (by rw [hf];omega),List.take_append_of_le_length (by rw [List.length_drop,hf];omega)]

theorem Qy {i o:Nat} {cs row:List Value} (hc:aQ h i=some cs) (hl:o+aV≤cs.length) (ht:(cs.drop o).take aV=row):af true aV h (pt i o)=some (.agg row.toArray):=by
 simp [af,hc,ck,hl,ht]

theorem RS.nil (h:ae) (e:TypeId) (aV:Nat):RS h e aV (.slice none 0 0) []:=⟨fun r hr=>by simp at hr,.inl ⟨rfl,rfl⟩⟩

theorem RS.arr {i:Nat} (hw:∀r∈rows,r.length=aV) (hg:h[i]?=some (.arr e rows.flatten)):RS h e aV (sl e i 0 rows.length) rows:=
 ⟨hw,.inr ⟨i,0,rfl,.inr ⟨[],[],by simp [aQ,hg],rfl⟩⟩⟩

theorem RS.from (p:RS h e aV v rows) {k:Nat} (hk:k≤rows.length):∃v',kf e aV v (some (I k)) none=some v'∧RS h e aV v' (rows.drop k):=by
 have hw:∀r∈rows.drop k,r.length=aV:=fun r hr=>p.1 r (List.mem_of_mem_drop hr)
 rcases p.2 with ⟨rfl,rfl⟩ | ⟨i,o,rfl,hc⟩
 ·have:k=0:=by simpa using hk
  subst this
  exact ⟨_,rfl,⟨hw,.inl ⟨rfl,rfl⟩⟩⟩
 ·refine ⟨sl e i (o+k*aV) (rows.length-k),by simp [kf,sl,pc,qp,hk],hw,.inr ⟨i,_,by rw [List.length_drop],?_⟩⟩
  rcases hc with rfl | ⟨pre,post,hc,ho⟩
  ·left;simp
  ·right
   refine ⟨pre++(rows.take k).flatten,post,?_,?_⟩
   ·rw [hc]
    have:rows.flatten=(rows.take k).flatten++(rows.drop k).flatten:=by rw [←List.flatten_append,List.take_append_drop]
    rw [this];simp
   ·rw [List.length_append,ho,ER fun r hr=>p.1 r (List.mem_of_mem_take hr),List.length_take,Nat.min_eq_left hk]

def iV (b:Nat) (hx:ae) (e:TypeId) (aV:Nat) (v:Value) (rows:List (List Value)):Prop:=
 (∀r∈rows,r.length=aV)∧((v=.slice none 0 0∧rows=[])∨∃i,b≤i∧v=sl e i 0 rows.length∧hx[i]?=some (.arr e rows.flatten))

theorem iV.start (b:Nat) (hx:ae) (e:TypeId) (aV:Nat):iV b hx e aV (.slice none 0 0) []:=⟨fun r hr=>by simp at hr,.inl ⟨rfl,rfl⟩⟩

theorem iV.rs {b:Nat} (o:iV b h e aV v rows):RS h e aV v rows:=by
 rcases o.2 with ⟨rfl,rfl⟩ | ⟨i,_,rfl,hg⟩
 ·exact .nil _ _ _
 ·exact .arr o.1 hg

theorem iV.dI {b:Nat} (o:iV b h e aV v rows) (x:∀d n,v=sl e d 0 n→b≤d→h'[d]?=h[d]?):iV b h' e aV v rows:=
 ⟨o.1,o.2.imp id fun ⟨i,h1,h2,h3⟩=>⟨i,h1,h2,by rw [x i _ h2 h1];exact h3⟩⟩

theorem iV.lt {b d n:Nat} (o:iV b h e aV v rows) (hv:v=sl e d 0 n):b≤d∧d<h.length∧h[d]?=some (.arr e rows.flatten):=by
 rcases o.2 with ⟨h1,_⟩ | ⟨i,h1,h2,h3⟩
 ·rw [h1] at hv;cases hv
 ·rw [h2] at hv
  obtain ⟨rfl,_⟩:=QP hv
  exact ⟨h1,(List.getElem?_eq_some_iff.1 h3).1,h3⟩

theorem iV.ex {b:Nat} (o:iV b h e aV v rows) (x:EX h h'):iV b h' e aV v rows:=o.dI fun d _ hv _=>x.2 d (o.lt hv).2.1

theorem iV.kp {b:Nat} {p:Value→Bool} (o:iV b h e aV v rows) (hp:∀c r,rows.flatten=c::r→p c=false) (hold:∀d,d<h.length→(∀n,v≠sl e d 0 n)→h'[d]?=h[d]?):KP p h h':=by
 intro d c r h1 h2
 have hd:d<h.length:=by
  apply Classical.byContradiction
  intro cH
  rw [aQ,List.getElem?_eq_none (by omega)] at h1
  cases h1
 have br:∀n,v≠sl e d 0 n:=by
  intro n hv
  have:=(o.lt hv).2.2
  simp only [aQ,this] at h1
  cases ym:rows.flatten with
  | nil=>rw [ym] at h1;cases h1
  | cons y ys=>
   rw [ym] at h1
   cases h1
   rw [hp _ _ ym] at h2
   cases h2
 simp only [aQ,hold d hd br] at h1⊢
 exact h1

theorem iV.app {h0:ae} {bytes:Nat} {x:Value} {row zs:List Value} {K:Value→ae→Prop} (o:iV h0.length h e aV v rows) (hex:EX h0 h) (hz:zs.length=aV) (h1:gW x=true) (h2:cZ x=row) (hr:row.length=aV)
  (hb:(rows.length+1)*bytes≤140737488355328) (hm:rows.length+1≤maxLen)
  (hk:∀v' h',EX h0 h'→(∀d,d<h.length→(∀n,v≠sl e d 0 n)→h'[d]?=h[d]?)→iV h0.length h' e aV v' (rows++[row])→K v' h'):
  OH (cT e 1 zs h [(0,aV,x)]) fun a h2=>OH (dA e aV bytes h2 v a) K:=by
 have hw:∀r∈rows++[row],r.length=aV:=by
  intro r nW
  rcases List.mem_append.1 nW with nW | nW
  ·exact o.1 r nW
  ·rw [List.mem_singleton.1 nW];exact hr
 have e1:cT e 1 zs h [(0,aV,x)]=some (sl e h.length 0 1,h++[.arr e row]):=by
  have wD:gH zs 1=zs:=by simp [gH]
  have hs:setAt zs 0 row=row:=by
   unfold setAt
   rw [List.take_zero,List.nil_append,List.drop_eq_nil_of_le (by omega),List.append_nil]
  simp only [cT,wD,pM,h1,h2,hs]
  rw [if_pos ⟨trivial,hr,by omega⟩]
  rfl
 rw [e1]
 simp only [aD]
 have e2:ju (h++[.arr e row]) aV (sl e h.length 0 1)=some row:=by
  simp [ju,sl,aQ,hr]
  rw [←hr,List.take_length]
 have e3:nu (sl e h.length 0 1)=some 1:=rfl
 rcases o.2 with ⟨rfl,rfl⟩ | ⟨i,hi,rfl,bP⟩
 ·refine C5 (v:=sl e (h.length+1) 0 1) (h:=h++[.arr e row]++[.arr e row]) ?_ (hk _ _ ((hex.push _).push _) (fun d hd _=>by rw [List.getElem?_append_left (by simp;omega),List.getElem?_append_left hd]) ⟨hw,.inr ⟨h.length+1,by have:=hex.1;omega,rfl,by simp⟩⟩)
  have kQ:1*bytes≤140737488355328:=by simpa using hb
  have fH:1≤maxLen:=by simpa using hm
  simp only [dA,e2,e3]
  rw [if_neg (by omega),if_pos ⟨kQ,fH⟩]
  simp
 ·have aB:=(List.getElem?_eq_some_iff.1 bP).1
  have hg:(h++[.arr e row])[i]?=some (.arr e rows.flatten):=by rw [List.getElem?_append_left aB];exact bP
  refine C5 (v:=sl e (h.length+1) 0 (rows.length+1)) (h:=(h++[ak.arr e row]).set i ak.dead++[ak.arr e (rows.flatten++row)]) ?_
   (hk _ _ (((hex.push _).set hi _).push _) (fun d hd br=>?_) ⟨hw,.inr ⟨h.length+1,by have:=hex.1;omega,by simp,?_⟩⟩)
  ·simp only [dA,e2,e3]
   simp only [sl,hg]
   rw [if_pos ⟨trivial,trivial,ER o.1,hb,hm⟩,if_neg (by omega)]
   simp
  ·have kR:i≠d:=by rintro rfl;exact br _ rfl
   rw [List.getElem?_append_left (by simp;omega),List.getElem?_set_ne kR,List.getElem?_append_left hd]
  ·rw [List.getElem?_append_right (by simp)]
   simp

end

end Go.Sim


namespace Go.Proofs.YtelmdbpaoifmoaaGreat
open Go.Sim

/-- Fractions in memory. -/
def oF (h:ae) (v:Value) (qs:List (Int×Int)):Prop:=
 ∃rows,RS h 107 4 v rows∧rows.length=qs.length∧∀(k:Nat) (row:List Value) (q:Int×Int),rows[k]?=some row→qs[k]?=some q→gp h (.agg row.toArray) q.1 q.2


theorem oF.mono {h h':ae} {v:Value} {qs:List (Int×Int)} (x:EX h h') (p:oF h v qs):oF h' v qs:=
 let ⟨rows,a,b,c⟩:=p;⟨rows,a.mono x,b,fun k row q h1 h2=>(c k row q h1 h2).mono x⟩

theorem oF.len {h:ae} {v:Value} {qs:List (Int×Int)} (p:oF h v qs):aY v=some (I qs.length):=by
 obtain ⟨rows,a,b,_⟩:=p;rw [←b];exact a.len

theorem oF.get {h:ae} {v:Value} {qs:List (Int×Int)} (p:oF h v qs) {k:Nat} (hk:k<qs.length):∃i o r,aS 4 v (I k)=some (pt i o)∧af true 4 h (pt i o)=some r∧gp h r qs[k].1 qs[k].2:=by
 obtain ⟨rows,a,b,c⟩:=p
 have b7:k<rows.length:=by omega
 obtain ⟨i,o,cs,g1,g2,g3,g4⟩:=a.get b7
 exact ⟨i,o,_,g1,Qy g2 g3 g4,c k _ _ (List.getElem?_eq_getElem b7) (List.getElem?_eq_getElem hk)⟩

def uo:Value→Bool
 | .int .u32 _=>true
 | _=>false

theorem DSw.dI {e:TypeId} {h h':ae} {v:Value} {xs:List Nat} (x:KP uo h h') (p:DS e .u32 h v xs):DS e .u32 h' v xs:=by
 refine p.imp id fun ⟨i,a,b⟩=>⟨i,a,?_⟩
 cases xs with
 | nil=>exact .inl rfl
 | cons y ys=>
  obtain ⟨r,c⟩:=b.resolve_left (by simp)
  exact .inr ⟨r,x i _ _ c rfl⟩

theorem cR.dI {h h':ae} {v:Value} {n:Nat} (x:KP uo h h') (p:cR h v n):cR h' v n:=let ⟨xs,a,b,c⟩:=p;⟨xs,DSw.dI x a,b,c⟩
theorem gp.dI {h h':ae} {v:Value} {a b:Int} (x:KP uo h h') (p:gp h v a b):gp h' v a b:=let ⟨u,w,e,m,n⟩:=p;⟨u,w,e,m.dI x,n.dI x⟩

theorem gp.cells {h:ae} {v:Value} {a b:Int} (p:gp h v a b):gW v=true∧∃s u t w,v=.agg #[B s,u,B t,w]∧cZ v=[B s,u,B t,w]:=by
 obtain ⟨u,w,rfl,_⟩:=p
 exact ⟨rfl,_,_,_,_,rfl,rfl⟩

/-- Fractions that are being gathered. -/
def lG (b:Nat) (h:ae) (v:Value) (qs:List (Int×Int)):Prop:=
 ∃rows,iV b h 107 4 v rows∧rows.length=qs.length∧(∀r∈rows,∃s t,r=.bool s::t)∧∀(k:Nat) (row:List Value) (q:Int×Int),rows[k]?=some row→qs[k]?=some q→gp h (.agg row.toArray) q.1 q.2

theorem lG.start (b:Nat) (h:ae):lG b h (.slice none 0 0) []:=⟨[],iV.start ..,rfl,fun r hr=>by simp at hr,fun k r q h=>by simp at h⟩

theorem lG.ax8 {b:Nat} {h:ae} {v:Value} {qs:List (Int×Int)} (o:lG b h v qs):oF h v qs:=let ⟨rows,a,c,_,d⟩:=o;⟨rows,a.rs,c,d⟩

theorem lG.ex {b:Nat} {h h':ae} {v:Value} {qs:List (Int×Int)} (x:EX h h') (o:lG b h v qs):lG b h' v qs:=
 let ⟨rows,a,c,e,d⟩:=o;⟨rows,a.ex x,c,e,fun k r q h1 h2=>(d k r q h1 h2).mono x⟩

theorem ard {rows:List (List Value)} (h:∀r∈rows,∃s t,r=.bool s::t):∀c r,rows.flatten=c::r→uo c=false:=by
 intro c r hc
 cases rows with
 | nil=>simp at hc
 | cons x xs=>
  obtain ⟨s,t,rfl⟩:=h x (by simp)
  simp at hc
  rw [←hc.1];rfl

theorem lG.app {h0 h:ae} {v x:Value} {a b:Int} {qs:List (Int×Int)} {zs:List Value} {K:Value→ae→Prop} (o:lG h0.length h v qs) (hex:EX h0 h) (hx:gp h x a b) (hz:zs.length=4) (hl:qs.length≤10000)
  (hk:∀v' h',EX h0 h'→KP uo h h'→lG h0.length h' v' (qs++[(a,b)])→K v' h'):OH (cT 107 1 zs h [(0,4,x)]) fun y h2=>OH (dA 107 4 64 h2 v y) K:=by
 obtain ⟨rows,o1,o2,o3,o4⟩:=o
 obtain ⟨t1,s,u,t,w,e1,e2⟩:=hx.cells
 refine o1.app hex hz t1 e2 rfl (by omega) (by simp [maxLen];omega) ?_
 intro v' h' x' hold o'
 have kp:KP uo h h':=o1.kp (ard o3) hold
 refine hk v' h' x' kp ⟨_,o',by simp [o2],fun r hr=>?_,fun k row q h1 h2=>?_⟩
 ·rcases List.mem_append.1 hr with hr | hr
  ·exact o3 r hr
  ·rw [List.mem_singleton.1 hr];exact ⟨s,_,rfl⟩
 ·by_cases hk:k<rows.length
  ·rw [List.getElem?_append_left hk] at h1
   rw [List.getElem?_append_left (by omega)] at h2
   exact (o4 k row q h1 h2).dI kp
  ·rw [List.getElem?_append_right (by omega)] at h1
   rw [List.getElem?_append_right (by omega),←o2] at h2
   have h0:k-rows.length=0:=by
    have:=(List.getElem?_eq_some_iff.1 h1).1
    simp at this;omega
   rw [h0] at h1 h2
   simp only [List.getElem?_cons_zero,Option.some.injEq] at h1 h2
   subst h1 h2
   rw [←e1]
   exact hx.dI kp

end Go.Proofs.YtelmdbpaoifmoaaGreat


namespace Go.Proofs.YtelmdbpaoifmoaaGreat
open Go.Sim

theorem RT {s:List UInt8} {h:ae} {K:Value→ae→Prop} (hl:s.length≤700)
  (hk:∀n d,jt s=some (n,d)→∀r h',EX h h'→QZ h' r n d→K (.tuple #[r,B true]) h')
  (fG:jt s=none→∀h',EX h h'→K (.tuple #[pA,B false]) h'):aj Tryz.prog 67 [S s] h K:=by
 refine f67 ?_
 have e1:aW 37 [(.bool false),(.slice none 0 0),(.bool false),(.slice none 0 0)] h=some (pt h.length 0,h++[.arr 37 z4]):=rfl
 have x1:EX h (h++[.arr 37 z4]):=EX.append _ _
 simp only [Kh,e1,aD,jq,ag,eT,decide_eq_false (show ¬(s.length:Int)>8002 by omega),c7,axg]
 by_cases h0:s.length=0
 ·have e:s=[]:=List.length_eq_zero_iff.1 h0
  subst e
  rw [decide_eq_false (show ¬((([]:List UInt8).length:Int)>0) by simp)]
  simp only [ie,agG,cV,ag,c7]
  exact Ie (m:=false) hl x1 (Nat.le_refl _) bO (fun n d hp=>hk n d hp) (fun hp=>fG hp)
 ·rw [decide_eq_true (show (s.length:Int)>0 by omega)]
  have ix:=rj (a:=s) (i:=0) (by omega) .i64
  simp only [Int.natCast_zero] at ix
  have hh:s.head?=some (s[0]'(by omega)):=by rw [List.head?_eq_getElem?,List.getElem?_eq_getElem (by omega)]
  have e5:ah .eql (cv (s[0]'(by omega))) (.int .u8 45)=some (B (decide (((s[0]'(by omega)).toNat:Int)=45))):=rfl
  simp only [eO,ix,ag,e5,agG,dh,bS]
  refine ⟨fun hm=>?_,fun hm=>?_⟩
  ·have fH:s[0]'(by omega)=45:=by apply UInt8.toNat_inj.1;show (s[0]'(by omega)).toNat=45;omega
   have hp:jt s=ph true s.tail:=by unfold jt;rw [if_pos (by rw [hh,fH])]
   have sl:=zA (a:=s) (n:=1) (by omega) .i64
   have sl':iZ (S s) (some (.int .i64 1)) none=some (S s.tail):=by rw [←List.drop_one];exact sl
   simp only [sl',ag]
   refine Ie (m:=true) (by rw [List.length_tail];omega) x1 (Nat.le_refl _) bO (fun n d hq=>hk n d (by rw [hp];exact hq)) (fun hq=>fG (by rw [hp];exact hq))
  ·have fH:s[0]'(by omega)≠45:=by intro h;rw [h] at hm;exact hm rfl
   have hp:jt s=ph false s:=by unfold jt;rw [if_neg (by rw [hh];intro h;injection h with h;exact fH h)]
   exact Ie (m:=false) hl x1 (Nat.le_refl _) bO (fun n d hq=>hk n d (by rw [hp];exact hq)) (fun hq=>fG (by rw [hp];exact hq))

theorem aiE {s:List UInt8} {n:Int} {d:Nat} {h:ae} {K:Value→ae→Prop} (hl:s.length≤700) (hp:jt s=some (n,d)) (hk:∀r h',EX h h'→QZ h' r n d→K r h'):aj Tryz.prog 28 [S s] h K:=by
 refine f28 ?_
 have e1:∀g:ae,aW 37 [(.bool false),(.slice none 0 0),(.bool false),(.slice none 0 0)] g=some (pt g.length 0,g++[.arr 37 z4]):=fun _=>rfl
 simp only [J2,e1,aD]
 refine RT hl (fun n' d' wk r h1 x1 q1=>?_) (fun wk=>by rw [hp] at wk;cases wk)
 rw [hp] at wk
 obtain ⟨rfl,rfl⟩:n=n'∧d=d':=by injection wk with wk;injection wk with a b;exact ⟨a,b⟩
 obtain ⟨u,w,rfl,hu,hw⟩:=id q1
 have g1:=x1.get (bO (h:=h) (o:=.arr 37 z4))
 simp only [dY,fg,fy,ag]
 rw [mO bO]
 simp only [aD]
 rw [gA (cJ bO)]
 simp only [ag]
 have x2:EX h1 ((h1++[ak.arr 37 z4]).set h1.length (.arr 37 [B (decide (n<0)),u,B (decide ((d:Int)<0)),w])):=EX.set (EX.append _ _) (Nat.le_refl _) _
 have g2:=x2.get g1
 have xA:=((EX.append h [.arr 37 z4]).trans x1).trans x2
 refine pN g2 (hk _ _ (xA.set (Nat.le_refl _) _) ?_)
 exact (q1.mono x2).bG g2 _

theorem C24 {s:List UInt8} {h:ae} {K:Value→ae→Prop} (hl:s.length≤700) (hk:∀h',EX h h'→K (B (jt s).isSome) h'):aj Tryz.prog 24 [S s] h K:=by
 refine f24 ?_
 have e1:∀g:ae,aW 37 [(.bool false),(.slice none 0 0),(.bool false),(.slice none 0 0)] g=some (pt g.length 0,g++[.arr 37 z4]):=fun _=>rfl
 unfold JY
 refine RT hl (fun n d hp r h1 x1 q1=>?_) (fun hp h1 x1=>?_)
 ·obtain ⟨u,w,rfl,hu,hw⟩:=q1
  simp only [dY,fg,fy,ag,e1,aD]
  rw [mO bO]
  simp only [aD]
  rw [hp] at hk
  exact hk _ (x1.trans (EX.set (EX.append _ _) (Nat.le_refl _) _))
 ·simp only [dY,fg,fy,ag,e1,aD]
  have st:=mO (x:=B false) (y:=.slice none 0 0) (z:=B false) (w:=.slice none 0 0) (bO (h:=h1) (o:=.arr 37 z4))
  have st':aJ 4 (h1++[.arr 37 z4]) (pt h1.length 0) pA=_:=st
  rw [st']
  simp only [aD]
  rw [hp] at hk
  exact hk _ (x1.trans (EX.set (EX.append _ _) (Nat.le_refl _) _))

end Go.Proofs.YtelmdbpaoifmoaaGreat


namespace Go.Proofs.YtelmdbpaoifmoaaGreat
open Go.Sim
end Go.Proofs.YtelmdbpaoifmoaaGreat


namespace Go.Proofs.YtelmdbpaoifmoaaGreat
open Go.Sim

theorem PL.ze {h h':ae} {p:Value} {js:List (Int×Int)} {bs:List Nat} (x:CX h h') (q:PL h p js bs):PL h' p js bs:=
 let ⟨i,vj,vb,a,b,c,d⟩:=q;⟨i,vj,vb,a,x _ _ b,c.ze x,NS.ze x d⟩

section
variable (js : List (Int × Int)) (bs : List Nat) (n : Nat)

structure aAn (es:List (Int×Value)):Prop where
 val:∀s v,mB s es=some v→∃t:Nat,s=t∧t<2^n∧v=I (ja bs js n t)
 full:(mB (cj n:Nat) es).isSome=true
 next:∀s:Nat,s<cj n→(mB (s:Int) es).isSome=true→∀i,i<n→iP bs s i=true→(mB ((s ||| 2^i:Nat):Int) es).isSome=true

def xM (es LV:List (Int×Value)):Prop:=∀k,(mB k es).isSome=true→(mB k LV).isSome=true
end

theorem xM.refl (es:List (Int×Value)):xM es es:=fun _ h=>h
theorem xM.trans {a b c:List (Int×Value)} (h:xM a b) (k:xM b c):xM a c:=fun x hx=>k x (h x hx)

structure Io (im ox px cx:Nat) (p:Value) (js:List (Int×Int)) (bs:List Nat) (h:ae):Prop where
 o:aQ h ox=some [.map (some im)]
 q:aQ h px=some [p]
 c:aQ h cx=some [.func (.func 97) #[] #[pt ox 0,pt px 0,pt cx 0]]
 pl:PL h p js bs

theorem Io.mono {im ox px cx:Nat} {p:Value} {js:List (Int×Int)} {bs:List Nat} {h h':ae} (k:CX h h') (e:Io im ox px cx p js bs h):Io im ox px cx p js bs h':=
 ⟨k _ _ e.o,k _ _ e.q,k _ _ e.c,e.pl.ze k⟩

end Go.Proofs.YtelmdbpaoifmoaaGreat


namespace Go.Sim

def gC (bs:List Nat) (js:List (Int×Int)) (n s i:Nat):Int:=iC js i*(jr js s+eX js i)+ja bs js n (s ||| 2^i)

def mS (bs:List Nat) (js:List (Int×Int)) (n:Nat):Nat→List Nat→Prop
 | s,[]=>s=cj n
 | s,i::l=>((i<n∧iP bs s i=true)∧gC bs js n s i=ja bs js n s∧∀j,j<i→¬(iP bs s j=true∧gC bs js n s j=ja bs js n s))∧mS bs js n (s ||| 2^i) l

theorem agY {bs:List Nat} {n i:Nat} (hi:i<n):iP bs (cj n) i=false:=by
 unfold iP
 rw [tM,decide_eq_true hi];rfl

theorem mS.uniq {bs:List Nat} {js:List (Int×Int)} {n:Nat}:∀{l l':List Nat} {s:Nat},mS bs js n s l→mS bs js n s l'→l=l'
 | [],[],_,_,_=>rfl
 | [],i::l',s,h,k=>by
  have h':s=cj n:=h
  subst h'
  have:=k.1.1.2
  rw [agY k.1.1.1] at this
  cases this
 | i::l,[],s,h,k=>by
  have k':s=cj n:=k
  subst k'
  have:=h.1.1.2
  rw [agY h.1.1.1] at this
  cases this
 | i::l,i'::l',s,h,k=>by
  have e:i=i':=by
   rcases Nat.lt_trichotomy i i' with aB | he | pX
   ·exact absurd ⟨h.1.1.2,h.1.2.1⟩ (k.1.2.2 i aB)
   ·exact he
   ·exact absurd ⟨k.1.1.2,k.1.2.1⟩ (h.1.2.2 i' pX)
  subst e
  rw [mS.uniq h.2 k.2]

theorem mS.ok {bs:List Nat} {js:List (Int×Int)} {n:Nat} (hn:n≤10):∀{l:List Nat} {s:Nat},mS bs js n s l→nv bs n s l=true∧rE s l=cj n∧qP js (jr js s) l=ja bs js n s
 | [],s,h=>by
  have h':s=cj n:=h
  subst h'
  exact ⟨rfl,rfl,by rw [aa5];rfl⟩
 | i::l,s,h=>by
  obtain ⟨⟨⟨h1,h2⟩,h3,_⟩,h4⟩:=h
  obtain ⟨a,b,c⟩:=mS.ok hn h4
  refine ⟨?_,b,?_⟩
  ·simp only [nv,a,h2,h1,decide_true,Bool.and_self]
  ·have e:=abm js (show i<10 by omega) (zy h2)
   have yn:iC js i*(jr js s+eX js i)+ja bs js n (s ||| 2^i)=ja bs js n s:=h3
   simp only [qP]
   rw [←e] at yn⊢
   rw [c]
   exact yn

theorem mS.split {bs:List Nat} {js:List (Int×Int)} {n:Nat}:∀{a b:List Nat} {s:Nat},mS bs js n s (a++b)→mS bs js n (rE s a) b
 | [],_,_,h=>h
 | i::a,b,s,h=>mS.split (a:=a) (b:=b) (s:=s ||| 2^i) h.2

end Go.Sim


namespace Go.Proofs.YtelmdbpaoifmoaaGreat
open Go.Sim

theorem fN.ns {b:Nat} {g:ae} {v:Value} {l:List Nat} (o:fN b g 3 v (l.map fun i:Nat=>I i)) (hl:l.length≤1000):NS g v .i64 (l.map fun i:Nat=>(i:Int)):=by
 rcases o with ⟨h1,h2⟩ | ⟨a,_,h2,h3⟩
 ·have:l=[]:=by simpa using h2
  rw [this,h1]
  exact NS.nil g .i64
 ·rw [h2,List.length_map]
  have:=NS.sl (h:=g) (e:=3) (i:=a) (k:=.i64) (ns:=l.map fun i:Nat=>(i:Int)) (.inr (by simp [aQ,h3])) (by simp [maxLen];omega)
  rw [List.length_map] at this
  exact this

theorem fN.base {b c:Nat} {hx:ae} {e:TypeId} {v:Value} {xs:List Value} (o:fN c hx e v xs) (h:b≤c):fN b hx e v xs:=by
 rcases o with o | ⟨i,h1,h2,h3⟩
 ·exact .inl o
 ·exact .inr ⟨i,by omega,h2,h3⟩

end Go.Proofs.YtelmdbpaoifmoaaGreat


namespace Go.Proofs.YtelmdbpaoifmoaaGreat
open Go.Sim
end Go.Proofs.YtelmdbpaoifmoaaGreat


namespace Go.Proofs.YtelmdbpaoifmoaaGreat
open Go.Sim

theorem CE.arr {h:ae} {e:TypeId} {i:Nat} {ps:List (Int×Int)} (hg:h[i]?=some (.arr e (pj ps))):CE h e (sl e i 0 ps.length) ps:=
 ⟨by rw [afO];omega,.inr ⟨i,rfl,.inr (by simp [aQ,hg])⟩⟩


end Go.Proofs.YtelmdbpaoifmoaaGreat


namespace Go.Sim


theorem Hw:∀(l:List Nat) (s j:Nat),(rE s l).testBit j=(s.testBit j||decide (j∈l))
 | [],s,j=>by simp [rE]
 | i::l,s,j=>by
  simp only [rE,Hw l,qB]
  by_cases e:i=j
  ·subst e;simp
  ·have e':¬j=i:=fun h=>e h.symm
   simp [e,e']

structure Sd (bs:List Nat) (n:Nat) (l:List Nat):Prop where
 lt:∀i∈l,i<n
 nodup:l.Nodup
 all:∀i,i<n→i∈l
 before:l.Pairwise fun a b=>(bs.getD a 0).testBit b=false
 self:∀i,i<n→∀j,(bs.getD i 0).testBit j=true→j<n∧j≠i

theorem OB {bs:List Nat} {n:Nat}:∀{l:List Nat} {S:Nat},(∀i∈l,i<n∧S.testBit i=false)→l.Nodup→l.Pairwise (fun a b=>(bs.getD a 0).testBit b=false)→(∀i∈l,∀j,(bs.getD i 0).testBit j=true→j≠i∧(S.testBit j=true∨j∈l))→nv bs n S l=true
 | [],_,_,_,_,_=>rfl
 | i::l,S,h1,h2,h3,h4=>by
  have hn:=List.nodup_cons.1 h2
  have hp:=List.pairwise_cons.1 h3
  have hi:=h1 i (by simp)
  simp only [nv,Bool.and_eq_true,decide_eq_true_eq]
  refine ⟨⟨hi.1,?_⟩,?_⟩
  ·unfold iP
   rw [hi.2,Bool.not_false,Bool.true_and,mP]
   intro j hj
   obtain ⟨b1,b2⟩:=h4 i (by simp) j hj
   rcases b2 with b2 | b2
   ·exact b2
   ·rcases List.mem_cons.1 b2 with b2 | b2
    ·exact absurd b2 b1
    ·rw [hp.1 j b2] at hj;cases hj
  ·refine OB (fun j hj=>?_) hn.2 hp.2 fun k hk j hj=>?_
   ·have:=h1 j (by simp [hj])
    refine ⟨this.1,?_⟩
    rw [qB,this.2,Bool.false_or]
    exact decide_eq_false fun e=>hn.1 (e ▸ hj)
   ·obtain ⟨b1,b2⟩:=h4 k (by simp [hk]) j hj
    refine ⟨b1,?_⟩
    rcases b2 with b2 | b2
    ·exact .inl (by rw [qB,b2];rfl)
    ·rcases List.mem_cons.1 b2 with b2 | b2
     ·exact .inl (by rw [qB,b2];simp)
     ·exact .inr b2

theorem Sd.ok {bs:List Nat} {n:Nat} {l:List Nat} (h:Sd bs n l):nv bs n 0 l=true∧rE 0 l=cj n:=by
 refine ⟨OB (fun i hi=>⟨h.lt i hi,by simp⟩) h.nodup h.before fun i hi j hj=>?_,?_⟩
 ·obtain ⟨a,b⟩:=h.self i (h.lt i hi) j hj
  exact ⟨b,.inr (h.all j a)⟩
 ·apply Nat.eq_of_testBit_eq
  intro j
  rw [Hw,tM]
  simp only [Nat.zero_testBit,Bool.false_or]
  rw [decide_eq_decide]
  exact ⟨fun hm=>h.lt j hm,fun hl=>h.all j hl⟩

def KG (bs cs:List Nat) (n:Nat):Prop:=∀i j,i<n→j<n→(bs.getD i 0).testBit j=(cs.getD j 0).testBit i

theorem KG.symm {bs cs:List Nat} {n:Nat} (t:KG bs cs n):KG cs bs n:=fun i j hi hj=>(t j i hj hi).symm

end Go.Sim


namespace Go.Sim

theorem auz {bs:List Nat} {n:Nat}:∀{l:List Nat} {s:Nat},nv bs n s l=true→(l.Nodup∧∀i∈l,s.testBit i=false)∧(l.Pairwise fun a b=>(bs.getD a 0).testBit b=false)∧∀i∈l,∀j,(bs.getD i 0).testBit j=true→j≠i∧(s.testBit j=true∨j∈l):=by
 intro l
 induction l with
 | nil=>intro s _;simp
 | cons i l ih=>
  intro s h
  simp only [nv,Bool.and_eq_true,decide_eq_true_eq] at h
  obtain ⟨⟨a1,a2⟩,a3,a4⟩:=ih h.2
  have yu:=zy h.1.2
  have oW:iA (bs.getD i 0) s=true:=by
   have:=h.1.2
   unfold iP at this
   rw [Bool.and_eq_true] at this
   exact this.2
  rw [mP] at oW
  have old:∀j∈l,s.testBit j=false∧j≠i:=by
   intro j hj
   have:=a2 j hj
   rw [qB,Bool.or_eq_false_iff] at this
   exact ⟨this.1,fun e=>by subst e;simp at this⟩
  refine ⟨⟨?_,?_⟩,?_,?_⟩
  ·exact List.nodup_cons.2 ⟨fun hm=>(old i hm).2 rfl,a1⟩
  ·intro j hj
   rcases List.mem_cons.1 hj with rfl | hj
   ·exact yu
   ·exact (old j hj).1
  ·refine List.pairwise_cons.2 ⟨fun j hj=>?_,a3⟩
   cases hc:(bs.getD i 0).testBit j with
   | false=>rfl
   | true=>have:=oW j hc;rw [(old j hj).1] at this;cases this
  ·intro k hk j hj
   rcases List.mem_cons.1 hk with rfl | hk
   ·have:=oW j hj
    exact ⟨fun e=>(by subst e;rw [yu] at this;cases this),.inl this⟩
   ·obtain ⟨b1,b2⟩:=a4 k hk j hj
    refine ⟨b1,?_⟩
    rcases b2 with b2 | b2
    ·rw [qB,Bool.or_eq_true] at b2
     rcases b2 with b2 | b2
     ·exact .inl b2
     ·have:i=j:=of_decide_eq_true b2
      subst this;exact .inr (by simp)
    ·exact .inr (by simp [b2])

theorem auH {d s j:Nat} (h:d &&& s=0) (hs:s.testBit j=true):d.testBit j=false:=by
 have:=congrArg (Nat.testBit · j) h
 simp only [Nat.testBit_and,Nat.zero_testBit,hs,Bool.and_true] at this
 exact this

structure CG (bs:List Nat) (s:Nat) (l:List Nat):Prop where
 nd:l.Nodup
 mem:∀i,i∈l↔s.testBit i=true
 fit:l.Pairwise fun a b=>(bs.getD a 0).testBit b=false

theorem jZ.apart {bs:List Nat} {js:List (Int×Int)} {n:Nat}:∀{os:List Nat} {d:Nat},jZ bs js n d os→∀s∈os,∀i,s.testBit i=true→d.testBit i=false
 | [],_,_,s,hs,_,_=>by simp at hs
 | b::os,d,h,s,hs,i,hi=>by
  rcases List.mem_cons.1 hs with rfl | hs
  ·exact auH h.1.1.1.apart hi
  ·have:=jZ.apart h.2 s hs i hi
   rw [Nat.testBit_or,Bool.or_eq_false_iff] at this
   exact this.1

end Go.Sim


namespace Go.Sim

structure Own (bs:List Nat) (js:List (Int×Int)) (s:Nat) (E:List Nat) (kN:List Nat) (qk:List (Int×Int)):Prop where
 nd:E.Nodup
 mem:∀i,i∈E↔s.testBit i=true
 len:∀k,k<E.length→eX qk k=eX js (E.getD k 0)∧iC qk k=iC js (E.getD k 0)
 bit:∀k,k<E.length→∀j,(kN.getD k 0).testBit j=true↔j<E.length∧(bs.getD (E.getD k 0) 0).testBit (E.getD j 0)=true

section
variable {bs kN : List Nat} {js qk : List (Int × Int)} {s : Nat} {E : List Nat}

theorem yj {E:List Nat} {k:Nat} (h:k<E.length):E.getD k 0=E[k]:=by simp [List.getD_eq_getElem?_getD,h]

theorem Own.inj (w:Own bs js s E kN qk) {a b:Nat} (ha:a<E.length) (hb:b<E.length) (h:E.getD a 0=E.getD b 0):a=b:=by
 rw [yj ha,yj hb] at h
 exact (List.getElem_inj w.nd).1 h

theorem Own.cost (w:Own bs js s E kN qk):∀(o:List Nat) (now:Int),(∀k∈o,k<E.length)→qP qk now o=qP js now (o.map fun k=>E.getD k 0)
 | [],_,_=>rfl
 | k::o,now,h=>by
  have:=w.len k (h k (by simp))
  simp only [List.map_cons,qP,this.1,this.2]
  rw [w.cost o _ fun k hk=>h k (by simp [hk])]

theorem Own.part (w:Own bs js s E kN qk) {o:List Nat} (ho:nv kN E.length 0 o=true) (hf:rE 0 o=cj E.length):CG bs s (o.map fun k=>E.getD k 0):=by
 obtain ⟨⟨nd,_⟩,pw,_⟩:=auz ho
 have aB:=Gc ho
 have eQ:∀k,k<E.length→k∈o:=by
  intro k hk
  have:=Hw o 0 k
  rw [hf,tM,decide_eq_true hk,Nat.zero_testBit,Bool.false_or] at this
  exact of_decide_eq_true this.symm
 refine ⟨?_,fun i=>?_,?_⟩
 ·unfold List.Nodup
  rw [List.pairwise_map]
  refine List.Pairwise.imp_of_mem (fun ha hb h=>?_) nd
  exact fun e=>h (w.inj (aB _ ha) (aB _ hb) e)
 ·rw [←w.mem,List.mem_map]
  constructor
  ·rintro ⟨k,hk,rfl⟩
   rw [yj (aB k hk)]
   exact List.getElem_mem _
  ·intro hi
   obtain ⟨k,hk,rfl⟩:=List.mem_iff_getElem.1 hi
   exact ⟨k,eQ k hk,yj hk⟩
 ·rw [List.pairwise_map]
  refine List.Pairwise.imp_of_mem (fun ha hb h=>?_) pw
  cases hc:(bs.getD (E.getD _ 0) 0).testBit (E.getD _ 0) with
  | false=>rfl
  | true=>rw [(w.bit _ (aB _ ha) _).2 ⟨aB _ hb,hc⟩] at h;cases h

theorem Own.back (w:Own bs js s E kN qk) (hi:∀i,i∈E→(bs.getD i 0).testBit i=false) {l:List Nat} (p:CG bs s l):
  ∃o,nv kN E.length 0 o=true∧rE 0 o=cj E.length∧l=o.map fun k=>E.getD k 0:=by
 have inE:∀i∈l,i∈E:=fun i h=>(w.mem i).2 ((p.mem i).1 h)
 have ix:∀i∈l,E.idxOf i<E.length∧E.getD (E.idxOf i) 0=i:=by
  intro i h
  have hl:=List.idxOf_lt_length_of_mem (inE i h)
  exact ⟨hl,by rw [yj hl];exact List.getElem_idxOf hl⟩
 have hm:l=(l.map fun i=>E.idxOf i).map fun k=>E.getD k 0:=by
  rw [List.map_map]
  conv=>lhs;rw [←List.map_id l]
  exact List.map_congr_left fun i h=>(ix i h).2.symm
 have eQ:∀k,k<E.length→k∈l.map fun i=>E.idxOf i:=by
  intro k hk
  have hx:E[k]∈l:=(p.mem _).2 ((w.mem _).1 (List.getElem_mem hk))
  refine List.mem_map.2 ⟨E[k],hx,?_⟩
  have h2:=ix _ hx
  exact w.inj h2.1 hk (by rw [h2.2,yj hk])
 refine ⟨l.map fun i=>E.idxOf i,?_,?_,hm⟩
 ·refine OB (fun k hk=>?_) ?_ ?_ (fun k hk j hj=>?_)
  ·obtain ⟨i,h,rfl⟩:=List.mem_map.1 hk
   exact ⟨(ix i h).1,by simp⟩
  ·unfold List.Nodup
   rw [List.pairwise_map]
   refine List.Pairwise.imp_of_mem (fun ha hb h=>?_) p.nd
   exact fun e=>h (by rw [←(ix _ ha).2,←(ix _ hb).2,e])
  ·rw [List.pairwise_map]
   refine List.Pairwise.imp_of_mem (fun {a b} ha hb h=>?_) p.fit
   cases hc:(kN.getD (E.idxOf a) 0).testBit (E.idxOf b) with
   | false=>rfl
   | true=>
    have:=((w.bit _ (ix a ha).1 _).1 hc).2
    rw [(ix a ha).2,(ix b hb).2,h] at this
    cases this
  ·obtain ⟨i,h,rfl⟩:=List.mem_map.1 hk
   obtain ⟨h1,h2⟩:=(w.bit _ (ix i h).1 _).1 hj
   rw [(ix i h).2] at h2
   refine ⟨?_,.inr (eQ j h1)⟩
   rintro rfl
   rw [(ix i h).2,hi i (inE i h)] at h2
   cases h2
 ·apply Nat.eq_of_testBit_eq
  intro j
  rw [Hw,tM,Nat.zero_testBit,Bool.false_or]
  rw [decide_eq_decide]
  refine ⟨fun h=>?_,eQ j⟩
  obtain ⟨i,h2,rfl⟩:=List.mem_map.1 h
  exact (ix i h2).1

theorem Own.aZ (w:Own bs js s E kN qk) (hi:∀i,i∈E→(bs.getD i 0).testBit i=false) (hj:uC qk) (hn:E.length≤10) (hu:xR kN E.length) {o:List Nat} (hg:mS kN qk E.length 0 o):
  CG bs s (o.map fun k=>E.getD k 0)∧∀l,CG bs s l→qP js 0 (o.map fun k=>E.getD k 0)≤qP js 0 l:=by
 obtain ⟨h1,h2,h3⟩:=mS.ok hn hg
 refine ⟨w.part h1 h2,fun l hl=>?_⟩
 obtain ⟨o',p1,p2,rfl⟩:=w.back hi hl
 have:=aa6 hj hn hu (s:=0) (Nat.pow_pos (by decide)) p1 p2
 rw [aut] at this h3
 rw [←w.cost o 0 (Gc h1),←w.cost o' 0 (Gc p1)]
 omega

end
end Go.Sim


namespace Go.Proofs.YtelmdbpaoifmoaaGreat
open Go.Sim

theorem C29 {va vb:Value} {a b c d:Int} {h:ae} {K:Value→ae→Prop} (ha:QZ h va a b) (hb:QZ h vb c d) (la:a.natAbs<bj) (lb:b.natAbs<bj) (lc:c.natAbs<bj) (ld:d.natAbs<bj) (BF:(a*d).natAbs<bj) (N3:(c*b).natAbs<bj)
  (hk:∀h',EX h h'→K (I (iN (a*d-c*b))) h'):aj Tryz.prog 29 [va,vb] h K:=by
 obtain ⟨u,w,rfl,hu,hw⟩:=ha
 obtain ⟨u',w',rfl,qg,ke⟩:=hb
 refine f29 ?_
 unfold J3
 have e1:∀(g:ae) (s s':Bool) (b d:Value),bc 37 g (.agg #[B s,b,B s',d])=some (pt g.length 0,g++[.arr 37 [B s,b,B s',d]]):=fun _ _ _ _ _=>rfl
 simp only [e1,aD]
 have x1:EX h (h++[.arr 37 [B (decide (a<0)),u,B (decide (b<0)),w]]):=EX.append _ _
 have k1:(h++[ak.arr 37 [B (decide (a<0)),u,B (decide (b<0)),w]])[h.length]?=some (.arr 37 [B (decide (a<0)),u,B (decide (b<0)),w]):=bO
 generalize h++[ak.arr 37 [B (decide (a<0)),u,B (decide (b<0)),w]]=g at x1 k1⊢
 have x2:EX g (g++[.arr 37 [B (decide (c<0)),u',B (decide (d<0)),w']]):=EX.append _ _
 have k2:(g++[ak.arr 37 [B (decide (c<0)),u',B (decide (d<0)),w']])[g.length]?=some (.arr 37 [B (decide (c<0)),u',B (decide (d<0)),w']):=bO
 generalize g++[ak.arr 37 [B (decide (c<0)),u',B (decide (d<0)),w']]=g2 at x2 k2⊢
 have k1:=x2.get k1
 have xx:=x1.trans x2
 have za:ZV g2 (.agg #[B (decide (a<0)),u]) a:=⟨u,rfl,hu.mono xx⟩
 have zb:ZV g2 (.agg #[B (decide (b<0)),w]) b:=⟨w,rfl,hw.mono xx⟩
 have zc:ZV g2 (.agg #[B (decide (c<0)),u']) c:=⟨u',rfl,qg.mono xx⟩
 have zd:ZV g2 (.agg #[B (decide (d<0)),w']) d:=⟨w',rfl,ke.mono xx⟩
 have a0:=iO k1
 have a2:=jT k1
 have b0:=iO k2
 have b2:=jT k2
 simp only [bN,Nat.add_zero,Nat.zero_add,ag,a0,b2,true_and]
 refine nD za zd la ld ?_
 intro r3 g3 x3 z3
 simp only [EX.load x3 b0,EX.load x3 a2,ag,b0,a2,true_and]
 refine nD (zc.mono x3) (zb.mono x3) lc lb ?_
 intro r4 g4 x4 qJ
 refine Ih (z3.mono x4) qJ BF N3 ?_
 intro g5 x5
 exact hk g5 (xx.trans (x3.trans (x4.trans x5)))


end Go.Proofs.YtelmdbpaoifmoaaGreat


namespace Go.Proofs.YtelmdbpaoifmoaaGreat
open Go.Sim
end Go.Proofs.YtelmdbpaoifmoaaGreat


namespace Go.Proofs.YtelmdbpaoifmoaaGreat
open Go.Sim

theorem apV {a k:Nat} (ha:a<10^k) (hk:1≤k) (hb:a<bj):(dj a).length≤k:=by
 obtain ⟨d1,d2,d3,d4,d5⟩:=tG hb
 cases e:dj a with
 | nil=>simp
 | cons c r=>
  rw [e] at d1 d4 d5
  by_cases hc:c=48
  ·have:=d4 (by rw [hc];rfl)
   omega
  ·have h1:=d1 c (by simp)
   rw [Cm] at d5
   have h2:c.toNat≠48:=fun h=>hc (UInt8.toNat_inj.1 h)
   have h3:=Nat.mul_le_mul_right (10^r.length) (show 1≤c.toNat-48 by omega)
   have h4:10^r.length<10^k:=by omega
   have:=(Nat.pow_lt_pow_iff_right (show 1<10 by decide)).1 h4
   simp;omega

end Go.Proofs.YtelmdbpaoifmoaaGreat


namespace Go.Proofs.YtelmdbpaoifmoaaGreat
open Go.Sim

theorem auN {s:List UInt8} {n:Int} {d:Nat} (h:jt s=some (n,d)):0<d∧Nat.gcd n.natAbs d=1:=by
 rw [GO] at h
 unfold ph at h
 split at h
 ·rename_i hc
  injection h with h
  injection h with h1 h2
  have e:=(Hq (m:=decide (s.head?=some 45)) (n:=cd (cO (dQ s)))).2
  have hn:n.natAbs=cd (cO (dQ s)):=by rw [←h1];exact e
  rw [hn,←h2]
  unfold nK
  have hd:=hc.1
  unfold mY at hd
  split
  ·rename_i hs
   rw [hs,Bool.not_true,Bool.false_or,Bool.and_eq_true,Bool.and_eq_true,decide_eq_true_eq,decide_eq_true_eq] at hd
   exact ⟨by omega,hd.2.2⟩
  ·exact ⟨by decide,Nat.gcd_one_right _⟩
 ·cases h

theorem auk {n:Int} {d:Nat} (h0:0<d) (hg:Nat.gcd n.natAbs d=1):(mkRat n d).num=n∧(mkRat n d).den=d:=by
 obtain ⟨e1,e2⟩:=wY (N:=n) h0
 rw [hg] at e1 e2
 exact ⟨by rw [e1];simp,by rw [e2];simp⟩

def bu (s:List UInt8):Rat:=match jt s with | some (n,d)=>mkRat n d | none=>0
def isNum (s:List UInt8):Bool:=(jt s).isSome

theorem Qt {s:List UInt8} {n:Int} {d:Nat} (h:jt s=some (n,d)):(bu s).num=n∧(bu s).den=d:=by
 obtain ⟨h1,h2⟩:=auN h
 have:=auk h1 h2
 unfold bu
 rw [h]
 exact this

theorem aaw {s:List UInt8} (h:isNum s=true):jt s=some ((bu s).num,(bu s).den):=by
 unfold isNum at h
 cases e:jt s with
 | none=>rw [e] at h;cases h
 | some q=>
  obtain ⟨n,d⟩:=q
  obtain ⟨e1,e2⟩:=Qt e
  rw [e1,e2]

theorem aic {h:ae} {K:Value→ae→Prop} {s:List UInt8} (hl:s.length≤700)
  (hk:isNum s=true→∀r h',EX h h'→RV h' r (bu s)→K (.tuple #[r,B true]) h')
  (fG:isNum s=false→∀a b c e h',EX h h'→K (.tuple #[.agg #[a,b,c,e],B false]) h'):aj Tryz.prog 108 [S s] h K:=by
 refine aib hl (fun n d hp r h' x hr=>?_) (fun hp=>fG (by unfold isNum;rw [hp];rfl))
 obtain ⟨e1,e2⟩:=Qt hp
 refine hk (by unfold isNum;rw [hp];rfl) r h' x ?_
 unfold RV
 rw [e1,e2]
 exact hr

theorem XX {a k:Nat} (hk:1≤k) (hb:a<bj):(dj a).length≤k↔a<10^k:=by
 constructor
 ·intro h
  obtain ⟨d1,_,_,_,d5⟩:=tG hb
  have:=uE d1
  rw [d5] at this
  exact Nat.lt_of_lt_of_le this (Nat.pow_le_pow_right (by decide) h)
 ·intro h
  exact apV h hk hb

def rU (k:Nat) (q:Rat):Bool:=decide (q.num.natAbs<10^k)&&decide (q.den<10^k)

theorem C84 {h:ae} {K:Value→ae→Prop} {va:Value} {p:Rat} {i k:Nat} (ha:RV h va p) (sp:cA i p) (hi:i≤900) (ky:1≤k) (_:k≤1000) (hk:∀h',EX h h'→K (B (rU k p)) h'):aj Tryz.prog 84 [va,I k] h K:=by
 obtain ⟨u,w,rfl,hu,hw⟩:=ha
 obtain ⟨l1,l2⟩:=sp.dU hi
 rw [Int.natAbs_natCast] at hw
 refine f84 ?_
 have e1:∀(g:ae) (s t:Bool) (v w:Value),bc 107 g (.agg #[B s,v,B t,w])=some (pt g.length 0,g++[.arr 107 [B s,v,B t,w]]):=fun _ _ _ _ _=>rfl
 simp only [Kv,e1,aD]
 generalize decide ((p.den:Int)<0)=t1 at*
 have q0:EX h (h++[.arr 107 [B (decide (p.num<0)),u,B t1,w]]):=EX.append _ _
 have p0:(h++[ak.arr 107 [B (decide (p.num<0)),u,B t1,w]])[h.length]?=some (.arr 107 [B (decide (p.num<0)),u,B t1,w]):=bO
 generalize h++[ak.arr 107 [B (decide (p.num<0)),u,B t1,w]]=ga at q0 p0⊢
 have pg:af false 1 ga (pt h.length 1)=some u:=by simp [af,aQ,p0,ck]
 simp only [bN,Nat.zero_add,Nat.add_zero,ag,pg]
 refine CA (hu.mono q0) l1 ?_
 intro g1 x1
 have ld3:af false 1 g1 (pt h.length 3)=some w:=by simp [af,aQ,x1.get p0,ck]
 have d1:decide (((dj p.num.natAbs).length:Int)≤(k:Int))=decide (p.num.natAbs<10^k):=by
  rw [decide_eq_decide]
  have:=XX ky l1
  omega
 simp only [jq,ag,qN,d1]
 rw [axM]
 unfold rU at hk
 by_cases h1:p.num.natAbs<10^k
 ·rw [decide_eq_true h1] at hk⊢
  simp only [eO,bN,ag,ld3]
  refine CA ((hw.mono q0).mono x1) l2 ?_
  intro g2 x2
  have d2:decide (((dj p.den).length:Int)≤(k:Int))=decide (p.den<10^k):=by
   rw [decide_eq_decide]
   have:=XX ky l2
   omega
  simp only [jq,ag,qN,d2]
  rw [agR]
  simp only [dh,ag]
  rw [Bool.true_and] at hk
  exact hk g2 (q0.trans (x1.trans x2))
 ·rw [decide_eq_false h1] at hk⊢
  simp only [ie]
  rw [agR]
  simp only [cV,ag]
  exact hk g1 (q0.trans x1)

end Go.Proofs.YtelmdbpaoifmoaaGreat


namespace Go.Proofs.YtelmdbpaoifmoaaGreat
open Go.Sim
variable (P : Program) (K : VK)
/-! F80: pommel/mend.numbers -/
noncomputable section
variable (c0 x4 aF ax az : Value) (L1 : LQ) (xs : List Value) (h : ae)
def acK:=bp Tryz.prog 80 [[],[],[],[10,11],[4,12],[],[],[],[],[],[],[],[],[4],[]]
@[irreducible] def Eh:=bw acK
@[irreducible] def aoX:=Eh.r.r.l.r.l.l
@[irreducible] def Xi:=Eh.r.r.r
@[irreducible] def aoW:=Xi.l
theorem k80:acK=some (29,Eh,[.tmp 2,.tmp 3]):=by kernel_rfl
def I2 (_P:Program) (K:VK):aq:=aO [.tmp 2,.tmp 3] K
def aly:aq:=aC (ai P Xi (I2 P K)) (I2 P K)
def alz:aq:=bz 0 (aly P K)
def alA:aq:=aC (fun f' aR=>(([10,11]:List Nat).map f':List Value)=[aF,ax]∧L1 (([4,12]:List Nat).map f') aR) (alz P K)
def afm:Prop:=au (ai P aoX (alA P K aF ax L1)) ([10,11]++[4,12]) ([aF,ax]++xs) h
def afl:Prop:=au (ai P aoW (I2 P K)) [4] [x4] h
theorem axK (aF ax:Value) (L1:LQ) (x4 az:Value) (h:ae):afm P K aF ax L1 [x4,az] h=
 (OP (ah .lss az ax) fun ay=>
 aL ay
 (OP (aS 1 aF az) fun aP=>
 OP (af false 1 h aP) fun a9=>
 aj P 108 [a9] h fun aN h_1=>
 OP (b9 0 aN) fun aM=>
 OP (b9 1 aN) fun aT=>
 OH (aW 107 [(.bool false),(.slice none 0 0),(.bool false),(.slice none 0 0)] h_1) fun x7 h_2=>
 OH (aJ 4 h_2 x7 aM) fun _ h_3=>
 OP (ft .not aT) fun bt=>
 aL bt
 (K (.tuple #[(.slice none 0 0),(.bool false)]) h_3)
 (OP (af true 4 h_3 x7) fun bC=>
 OH (cT 107 1 [(.bool false),(.slice none 0 0),(.bool false),(.slice none 0 0)] h_3 [(0,4,bC)]) fun bL h_4=>
 OH (dA 107 4 64 h_4 x4 bL) fun cF h_5=>
 OP (ah .add az (.int .i64 (1))) fun bR=>
 ([aF,ax]:List Value)=[aF,ax]∧L1 [cF,bR] h_5))
 (afl P K x4 h)):=aw (by kernel_rfl)
theorem axJ:afl P K x4 h=
 (K (.tuple #[x4,(.bool true)]) h):=aw (by kernel_rfl)
def Kr:Prop:=
 OH (bc 24 h c0) fun c1 h_1=>
 OP (aE 0 c1) fun x9=>
 OP (af false 1 h_1 x9) fun aF=>
 OP (aY aF) fun ax=>
 cB [(.slice none 0 0),(.int .i64 (0))] h_1 fun L1 xs hx=>
 afm P K aF ax L1 xs hx
theorem e80:ai P Eh (aO [.tmp 2,.tmp 3] K) (bk [c0]) h=Kr P K c0 h:=by kernel_rfl
theorem f80 {K:VK} {c0:Value} {h:ae} (H:Kr Tryz.prog K c0 h):aj Tryz.prog 80 [c0] h K:=
 bD k80 (Nat.le_of_ble_eq_true rfl) ((e80 Tryz.prog K c0 h).mpr H)
end
/-! F82: slices.ContainsFunc[[]pommel/num.Rat,pommel/num.Rat] -/
noncomputable section
variable (s0 f1 : Value) (h : ae)
def acM:=bp Tryz.prog 82 [[],[]]
@[irreducible] def Xk:=bw acM
theorem k82:acM=some (9,Xk,[.tmp 4]):=by kernel_rfl
def Kt:Prop:=
 aj P 110 [s0,f1] h fun x7 h_1=>
 OP (ah .geq x7 (.int .i64 (0))) fun x8=>
 K x8 h_1
theorem e82:ai P Xk (aO [.tmp 4] K) (bk [s0,f1]) h=Kt P K s0 f1 h:=by kernel_rfl
theorem f82 {K:VK} {s0 f1:Value} {h:ae} (H:Kt Tryz.prog K s0 f1 h):aj Tryz.prog 82 [s0,f1] h K:=
 bD k82 (Nat.le_of_ble_eq_true rfl) ((e82 Tryz.prog K s0 f1 h).mpr H)
end
/-! F83: pommel/mend.chances$1 -/
noncomputable section
variable (x0 x1 x6 x9 : Value) (h : ae)
def acN:=bp Tryz.prog 83 [[],[1,6],[6,9],[]]
@[irreducible] def Ei:=bw acN
@[irreducible] def Xl:=Ei.r.l.r.l
@[irreducible] def aoY:=Ei.r.r
@[irreducible] def aoZ:=Xl.r.l
theorem k83:acN=some (11,Ei,[.tmp 2]):=by kernel_rfl
def Tt (_P:Program) (K:VK):aq:=aO [.tmp 2] K
def Tu:aq:=aC (ai P aoY (Tt P K)) (Tt P K)
def afn:Prop:=au (ai P Xl (Tu P K)) [1,6] [x1,x6] h
def PT:Prop:=au (ai P aoZ (Tu P K)) [6,9] [x6,x9] h
theorem agQ:PT P K x6 x9 h=
 (OP (bK x6 (.bool true) x9) fun aF=>
 K aF h):=aw (by kernel_rfl)
theorem axL:afn P K x1 x6 h=
 (bU x6 false
 (OP (af true 4 h x1) fun x7=>
 aj P 84 [x7,(.int .i64 (4))] h fun x8 h_1=>
 OP (ft .not x8) fun x9=>
 PT P K x6 x9 h_1)
 (PT P K x6 undef h)):=aw (by kernel_rfl)
def Ku:Prop:=
 OH (bc 107 h x0) fun x1 h_1=>
 OP (af true 4 h_1 x1) fun x3=>
 aj P 81 [x3] h_1 fun x4 h_2=>
 OP (ah .lss x4 (.int .i64 (0))) fun x5=>
 afn P K x1 x5 h_2
theorem e83:ai P Ei (aO [.tmp 2] K) (bk [x0]) h=Ku P K x0 h:=by kernel_rfl
theorem f83 {K:VK} {x0:Value} {h:ae} (H:Ku Tryz.prog K x0 h):aj Tryz.prog 83 [x0] h K:=
 bD k83 (Nat.le_of_ble_eq_true rfl) ((e83 Tryz.prog K x0 h).mpr H)
end
/-! F85: (pommel/mend.lucky).above -/
noncomputable section
variable (j0 x1 x4 x5 az ay aP : Value) (L1 : LQ) (xs : List Value) (h : ae)
def acP:=bp Tryz.prog 85 [[],[],[],[4,5,12,13],[14],[],[],[],[],[4,5],[]]
@[irreducible] def Ek:=bw acP
@[irreducible] def ao3:=Ek.r.r.l.r.l.l
@[irreducible] def Xn:=Ek.r.r.r
@[irreducible] def ao2:=Xn.l
theorem k85:acP=some (23,Ek,[.cell true 4 4]):=by kernel_rfl
def I3 (_P:Program) (K:VK):aq:=aO [.cell true 4 4] K
def alB:aq:=aC (ai P Xn (I3 P K)) (I3 P K)
def alC:aq:=bz 0 (alB P K)
def alD:aq:=aC (fun f' aR=>(([4,5,12,13]:List Nat).map f':List Value)=[x4,x5,az,ay]∧L1 (([14]:List Nat).map f') aR) (alC P K)
def afq:Prop:=au (ai P ao3 (alD P K x4 x5 az ay L1)) ([4,5,12,13]++[14]) ([x4,x5,az,ay]++xs) h
def afp:Prop:=au (ai P ao2 (I3 P K)) [4,5] [x4,x5] h
theorem axO (x4 x5 az ay:Value) (L1:LQ) (aP:Value) (h:ae):afq P K x4 x5 az ay L1 [aP] h=
 (OP (ah .lss aP ay) fun a9=>
 aL a9
 (OP (aS 4 az aP) fun aX=>
 OP (af true 4 h aX) fun bH=>
 OH (aW 107 [(.bool false),(.slice none 0 0),(.bool false),(.slice none 0 0)] h) fun x7 h_1=>
 OH (aJ 4 h_1 x7 bH) fun _ h_2=>
 OP (af true 4 h_2 x5) fun aN=>
 OP (af true 4 h_2 x7) fun aM=>
 aj P 87 [aN,aM] h_2 fun aT h_3=>
 OH (aJ 4 h_3 x5 aT) fun _ h_4=>
 OP (ah .add aP (.int .i64 (1))) fun bf=>
 ([x4,x5,az,ay]:List Value)=[x4,x5,az,ay]∧L1 [bf] h_4)
 (afp P K x4 x5 h)):=aw (by kernel_rfl)
theorem axN:afp P K x4 x5 h=
 (OP (af true 4 h x5) fun bt=>
 OH (aJ 4 h x4 bt) fun _ h_1=>
 OP (af true 4 h_1 x4) fun r0=>
 K r0 h_1):=aw (by kernel_rfl)
def Kw:Prop:=
 OH (bc 102 h j0) fun j2 h_1=>
 OH (aW 107 [(.bool false),(.slice none 0 0),(.bool false),(.slice none 0 0)] h_1) fun x4 h_2=>
 aj P 75 [(.int .i64 (0))] h_2 fun x8 h_3=>
 OH (aW 107 [(.bool false),(.slice none 0 0),(.bool false),(.slice none 0 0)] h_3) fun x5 h_4=>
 OH (aJ 4 h_4 x5 x8) fun _ h_5=>
 OP (aE 2 j2) fun x9=>
 OP (af false 1 h_5 x9) fun aF=>
 OP (kf 107 4 aF (some x1) none) fun az=>
 OP (aY az) fun ay=>
 cB [(.int .i64 (0))] h_5 fun L1 xs hx=>
 afq P K x4 x5 az ay L1 xs hx
theorem e85:ai P Ek (aO [.cell true 4 4] K) (bk [j0,x1]) h=Kw P K j0 x1 h:=by kernel_rfl
theorem f85 {K:VK} {j0 x1:Value} {h:ae} (H:Kw Tryz.prog K j0 x1 h):aj Tryz.prog 85 [j0,x1] h K:=
 bD k85 (Nat.le_of_ble_eq_true rfl) ((e85 Tryz.prog K j0 x1 h).mpr H)
end
/-! F110: slices.IndexFunc[[]pommel/num.Rat,pommel/num.Rat] -/
noncomputable section
variable (s0 f1 x7 x8 : Value) (L1 : LQ) (xs : List Value) (h : ae)
def abA:=bp Tryz.prog 110 [[],[],[0,1,7],[8],[],[],[],[],[],[],[],[]]
@[irreducible] def Dt:=bw abA
@[irreducible] def amz:=Dt.r.l.r.l.l
@[irreducible] def amy:=Dt.r.r
theorem atq:abA=some (19,Dt,[.tmp 4]):=by kernel_rfl
def So (_P:Program) (K:VK):aq:=aO [.tmp 4] K
def ajl:aq:=aC (ai P amy (So P K)) (So P K)
def ajm:aq:=bz 0 (ajl P K)
def ajn:aq:=aC (fun f' aR=>(([0,1,7]:List Nat).map f':List Value)=[s0,f1,x7]∧L1 (([8]:List Nat).map f') aR) (ajm P K)
def adv:Prop:=au (ai P amz (ajn P K s0 f1 x7 L1)) ([0,1,7]++[8]) ([s0,f1,x7]++xs) h
theorem avh (s0 f1 x7:Value) (L1:LQ) (x8:Value) (h:ae):adv P K s0 f1 x7 L1 [x8] h=
 (OP (ah .lss x8 x7) fun x9=>
 aL x9
 (OP (aS 4 s0 x8) fun aP=>
 OP (af true 4 h aP) fun a9=>
 uM P f1 [a9] h fun aX h_1=>
 aL aX
 (K x8 h_1)
 (OP (ah .add x8 (.int .i64 (1))) fun aN=>
 ([s0,f1,x7]:List Value)=[s0,f1,x7]∧L1 [aN] h_1))
 (K (.int .i64 (-1)) h)):=aw (by kernel_rfl)
def Jp:Prop:=
 OP (aY s0) fun x7=>
 cB [(.int .i64 (0))] h fun L1 xs hx=>
 adv P K s0 f1 x7 L1 xs hx
theorem aqe:ai P Dt (aO [.tmp 4] K) (bk [s0,f1]) h=Jp P K s0 f1 h:=by kernel_rfl
theorem f110 {K:VK} {s0 f1:Value} {h:ae} (H:Jp Tryz.prog K s0 f1 h):aj Tryz.prog 110 [s0,f1] h K:=
 bD atq (Nat.le_of_ble_eq_true rfl) ((aqe Tryz.prog K s0 f1 h).mpr H)
end
end Go.Proofs.YtelmdbpaoifmoaaGreat

namespace Go.Proofs.YtelmdbpaoifmoaaGreat
open Go.Sim

def ot (qs:List Rat):List (Int×Int):=qs.map fun q=>(q.num,(q.den:Int))
def QL (h:ae) (v:Value) (qs:List Rat):Prop:=oF h v (ot qs)
theorem QL.mono {h h':ae} {v:Value} {qs:List Rat} (x:EX h h') (p:QL h v qs):QL h' v qs:=oF.mono x p
theorem xa (qs:List Rat):(ot qs).length=qs.length:=by simp [ot]
theorem QL.len {h:ae} {v:Value} {qs:List Rat} (p:QL h v qs):aY v=some (I qs.length):=by have:=oF.len p;rwa [xa] at this
theorem QL.get {h:ae} {v:Value} {qs:List Rat} (p:QL h v qs) {k:Nat} (hk:k<qs.length):∃i o r,aS 4 v (I k)=some (pt i o)∧af true 4 h (pt i o)=some r∧RV h r qs[k]:=by
 obtain ⟨i,o,r,g1,g2,g3⟩:=oF.get p (k:=k) (by rw [xa];exact hk)
 refine ⟨i,o,r,g1,g2,?_⟩
 unfold RV
 simpa [ot] using g3

theorem RV.agg {h:ae} {v:Value} {q:Rat} (p:RV h v q):∃a b c d,v=.agg #[B a,b,B c,d]:=by
 obtain ⟨u,w,rfl,_⟩:=p
 exact ⟨_,_,_,_,rfl⟩

section
variable {h : ae} {K : Value → ae → Prop}

theorem C80 {vs:Value} {w:Int} {ls:List (List UInt8)} (hv:SS h vs ls) (hl:∀s∈ls,s.length≤700) (hn:ls.length≤1000)
  (hk:ls.all isNum=true→∀v h' b,EX h h'→lG b h' v (ot (ls.map bu))→K (.tuple #[v,B true]) h')
  (fG:ls.all isNum=false→∀h',EX h h'→K (.tuple #[.slice none 0 0,B false]) h'):aj Tryz.prog 80 [.agg #[vs,I w]] h K:=by
 refine f80 ?_
 have e1:bc 24 h (.agg #[vs,I w])=some (pt h.length 0,h++[.arr 24 [vs,I w]]):=rfl
 simp only [Kr,e1,aD]
 have x0:EX h (h++[.arr 24 [vs,I w]]):=EX.append _ _
 have k0:(h++[ak.arr 24 [vs,I w]])[h.length]?=some (.arr 24 [vs,I w]):=bO
 generalize h++[ak.arr 24 [vs,I w]]=g0 at x0 k0⊢
 have ld:af false 1 g0 (pt h.length 0)=some vs:=by simp [af,aQ,k0,ck]
 have hlen:=hv.len
 simp only [bN,Nat.add_zero,ag,ld,hlen]
 refine db (σ:=Nat×Value×ae) (fun q=>[q.2.1,I q.1]) (fun q=>q.2.2) (fun q=>q.1≤ls.length∧EX g0 q.2.2∧(ls.take q.1).all isNum=true∧lG g0.length q.2.2 q.2.1 (ot ((ls.take q.1).map bu))) (fun q=>ls.length-q.1)
  (0,.slice none 0 0,g0) rfl rfl ⟨Nat.zero_le _,EX.refl _,by simp,by simpa [ot] using lG.start g0.length g0⟩ ?_
 rintro ⟨i,vo,g⟩ ⟨hi,xg,eQ,own⟩ L hL
 simp only at hi xg eQ own hL⊢
 rw [axK]
 simp only [cK,ag,bS]
 refine ⟨fun aB=>?_,fun cH=>?_⟩
 ·have bF:i<ls.length:=by omega
  obtain ⟨b,o,r1,r2⟩:=(hv.mono (x0.trans xg)).get i bF
  simp only [r1,r2,ag]
  have e7:∀(g:ae),aW 107 [(.bool false),(.slice none 0 0),(.bool false),(.slice none 0 0)] g=some (pt g.length 0,g++[.arr 107 z4]):=fun _=>rfl
  refine aic (hl _ (List.getElem_mem bF)) (fun rf r g1 x1 hr=>?_) (fun rf a b c e g1 x1=>?_)
  ·obtain ⟨a,b',c,d,rfl⟩:=hr.agg
   simp only [dY,fg,fy,ag,e7,aD]
   rw [mO bO]
   simp only [aD,nC,ag,Bool.not_true,c7]
   rw [gA (cJ bO)]
   simp only [ag]
   have x2:EX g1 ((g1++[ak.arr 107 z4]).set g1.length (.arr 107 [B a,b',B c,d])):=EX.set (EX.append _ _) (Nat.le_refl _) _
   generalize (g1++[ak.arr 107 z4]).set g1.length (.arr 107 [B a,b',B c,d])=g2 at x2⊢
   have az:=x1.trans x2
   refine (own.ex az).app (xg.trans az) (hr.mono x2) rfl (by rw [xa,List.length_map,List.length_take];omega) ?_
   intro v' g3 x3 _ BT
   simp only [cC,ag,inc i (by omega),true_and]
   refine hL (i+1,v',g3) ⟨by show i+1≤_;omega,x3,?_,?_⟩ (by show ls.length-(i+1)<ls.length-i;omega)
   ·show (ls.take (i+1)).all isNum=true
    rw [List.take_succ_eq_append_getElem bF,List.all_append,eQ]
    simpa using rf
   ·show lG g0.length g3 v' (ot ((ls.take (i+1)).map bu))
    rw [List.take_succ_eq_append_getElem bF,List.map_append]
    simpa [ot] using BT
  ·simp only [dY,fg,fy,ag,e7,aD]
   rw [mO bO]
   simp only [aD,nC,ag,Bool.not_false,dd]
   refine fG ?_ _ ((x0.trans (xg.trans x1)).trans (EX.set (EX.append _ _) (Nat.le_refl _) _))
   cases he:ls.all isNum with
   | false=>rfl
   | true=>rw [List.all_eq_true] at he;rw [he _ (List.getElem_mem bF)] at rf;cases rf
 ·have hM:i=ls.length:=by omega
  subst hM
  rw [List.take_length] at eQ own
  rw [axJ]
  exact hk eQ vo g _ (x0.trans xg) own

end
end Go.Proofs.YtelmdbpaoifmoaaGreat


namespace Go.Proofs.YtelmdbpaoifmoaaGreat
open Go.Sim

def ep (qs:List Rat):Rat:=qs.foldl (·+·) 0
theorem zI {qs:List Rat} {i:Nat} (h:i<qs.length):ep (qs.take (i+1))=ep (qs.take i)+qs[i]:=by
 unfold ep
 rw [List.take_succ_eq_append_getElem h,List.foldl_append]
 rfl

theorem Oi {N:Int} {D k:Nat} (hD:0<D) (h1:N.natAbs<10^k) (h2:D<10^k):cA k (mkRat N D):=by
 obtain ⟨e1,e2⟩:=wY (N:=N) hD
 have hg:0<Nat.gcd N.natAbs D:=Nat.gcd_pos_of_pos_right _ hD
 refine ⟨?_,?_⟩
 ·rw [e1]
  have hd:(Nat.gcd N.natAbs D:Int) ∣ N:=Int.ofNat_dvd_left.2 (Nat.gcd_dvd_left ..)
  rw [Int.natAbs_ediv_of_dvd hd,Int.natAbs_natCast]
  exact Nat.lt_of_le_of_lt (Nat.div_le_self ..) h1
 ·rw [e2];exact Nat.lt_of_le_of_lt (Nat.div_le_self ..) h2

theorem cA.add {i j:Nat} {p q:Rat} (hp:cA i p) (hq:cA j q):cA (i+j+1) (p+q):=by
 obtain ⟨c1,c2,c3,_⟩:=vm hp hq
 rw [KI]
 have h1:10^(i+j+1)=10^(i+j)*10:=Nat.pow_succ ..
 refine Oi (Nat.mul_pos p.den_pos q.den_pos) ?_ ?_
 ·rw [h1];generalize 10^(i+j)=Z at*;omega
 ·rw [h1];generalize 10^(i+j)=Z at*;omega
theorem cA.mul {i j:Nat} {p q:Rat} (hp:cA i p) (hq:cA j q):cA (i+j) (p*q):=by
 obtain ⟨_,_,c3,c4⟩:=vm hp hq
 rw [Oj]
 exact Oi (Nat.mul_pos p.den_pos q.den_pos) c4 c3
theorem cA.div {i j:Nat} {p q:Rat} (hp:cA i p) (hq:cA j q) (h0:0<q.num):cA (i+j) (p / q):=by
 obtain ⟨c1,c2,_,_⟩:=vm hp hq
 rw [X3 h0]
 refine Oi (Nat.mul_pos p.den_pos (by omega)) c1 ?_
 rw [Int.natAbs_mul,Int.natAbs_natCast,Nat.mul_comm] at c2
 have:q.num.toNat=q.num.natAbs:=by omega
 rw [this];exact c2
theorem cA.le {i j:Nat} {p:Rat} (h:cA i p) (dO:i≤j):cA j p:=
 ⟨Nat.lt_of_lt_of_le h.1 (Nat.pow_le_pow_right (by decide) dO),Nat.lt_of_lt_of_le h.2 (Nat.pow_le_pow_right (by decide) dO)⟩
theorem cA.zero:cA 1 (0:Rat):=by constructor <;> decide

theorem xl {qs:List Rat} (h:∀q∈qs,cA 4 q):∀i,i≤qs.length→cA (5*i+1) (ep (qs.take i))
 | 0,_=>by rw [List.take_zero];exact cA.zero
 | i+1,hi=>by
  rw [zI (by omega)]
  exact ((xl h i (by omega)).add (h _ (List.getElem_mem (by omega)))).le (by omega)

theorem RV.bG {h:ae} {v:Value} {q:Rat} {j:Nat} {e:TypeId} {s:Bool} {r:List Value} (p:RV h v q) (hj:h[j]?=some (.arr e (.bool s::r))) (o:ak):RV (h.set j o) v q:=gp.bG p hj o

theorem QL.from {h:ae} {v:Value} {qs:List Rat} (p:QL h v qs) {k:Nat} (hk:k≤qs.length):∃v',kf 107 4 v (some (I k)) none=some v'∧QL h v' (qs.drop k):=by
 obtain ⟨rows,a,b,c⟩:=p
 rw [xa] at b
 obtain ⟨v',e1,e2⟩:=a.from (k:=k) (by omega)
 refine ⟨v',e1,rows.drop k,e2,by simp [ot];omega,fun j row q h1 h2=>?_⟩
 rw [List.getElem?_drop] at h1
 refine c (k+j) row q h1 ?_
 rw [←h2]
 unfold ot
 rw [List.getElem?_map,List.getElem?_map,List.getElem?_drop]

section
variable {h : ae} {K : Value → ae → Prop}

theorem RZ {v:Value} {n w:Int} {age:Nat} {qs:List Rat} (hq:QL h v qs) (ha:age≤qs.length) (hs:∀q∈qs,cA 4 q) (hn:qs.length≤20) (hk:∀r h',EX h h'→RV h' r (ep (qs.drop age))→K r h'):
  aj Tryz.prog 85 [.agg #[I n,I w,v],I age] h K:=by
 obtain ⟨rows,rs,_,_⟩:=id hq
 obtain ⟨t1,t2⟩:=rs.one
 refine f85 ?_
 have e1:bc 102 h (.agg #[I n,I w,v])=some (pt h.length 0,h++[.arr 102 [I n,I w,v]]):=rfl
 have e7:∀(g:ae),aW 107 [(.bool false),(.slice none 0 0),(.bool false),(.slice none 0 0)] g=some (pt g.length 0,g++[.arr 107 z4]):=fun _=>rfl
 simp only [Kw,e1,e7,aD]
 have x0:EX h (h++[.arr 102 [I n,I w,v]]):=EX.append _ _
 have k0:(h++[ak.arr 102 [I n,I w,v]])[h.length]?=some (.arr 102 [I n,I w,v]):=bO
 generalize h++[ak.arr 102 [I n,I w,v]]=g0 at x0 k0⊢
 have x1:EX g0 (g0++[.arr 107 z4]):=EX.append _ _
 have k1:(g0++[ak.arr 107 z4])[g0.length]?=some (.arr 107 z4):=bO
 generalize g0++[ak.arr 107 z4]=g1 at x1 k1⊢
 refine xw (n:=0) (by decide) (by decide) ?_
 intro r2 g2 x2 yH
 obtain ⟨a,b,c,d,rfl⟩:=yH.agg
 have x3:EX g2 (g2++[.arr 107 z4]):=EX.append _ _
 have k3:(g2++[ak.arr 107 z4])[g2.length]?=some (.arr 107 z4):=bO
 generalize g2++[ak.arr 107 z4]=g3 at x3 k3⊢
 have yI:=yH.mono x3
 rw [mO k3]
 simp only [aD]
 have hl0:=x0.1
 have yD:=x1.1
 have nQ:=x2.1
 have Fp:=(List.getElem?_eq_some_iff.1 k1).1
 have k4:(g3.set g2.length (.arr 107 [B a,b,B c,d]))[g2.length]?=some (.arr 107 [B a,b,B c,d]):=cJ k3
 have wo:RV (g3.set g2.length (.arr 107 [B a,b,B c,d])) (.agg #[B a,b,B c,d]) 0:=by
  have:=yI.bG k3 (.arr 107 [B a,b,B c,d])
  simpa using this
 have x4:EX g2 (g3.set g2.length (.arr 107 [B a,b,B c,d])):=x3.set (Nat.le_refl _) _
 generalize g3.set g2.length (.arr 107 [B a,b,B c,d])=g4 at k4 wo x4⊢
 have HT:=x0.trans (x1.trans x2)
 have jo:=(x2.trans x4).get k1
 have ld:af false 1 g4 (pt h.length 2)=some v:=by simp [af,aQ,(x1.trans (x2.trans x4)).get k0,ck]
 obtain ⟨v',s1,s2⟩:=(hq.mono HT).from ha
 have hlen:=s2.len
 simp only [bN,Nat.zero_add,ag,ld,s1,hlen]
 have ZO:∀q∈qs.drop age,cA 4 q:=fun q hm=>hs q (List.mem_of_mem_drop hm)
 have ng:(qs.drop age).length≤20:=by rw [List.length_drop];omega
 generalize qs.drop age=ps at*
 refine db (σ:=Nat×ae×(Bool×Value×Bool×Value)) (fun q=>[I q.1]) (fun q=>q.2.1)
  (fun q=>q.1≤ps.length∧EX g2 q.2.1∧q.2.1[g2.length]?=some (.arr 107 [B q.2.2.1,q.2.2.2.1,B q.2.2.2.2.1,q.2.2.2.2.2])∧q.2.1[g0.length]?=some (.arr 107 z4)∧RV q.2.1 (.agg #[B q.2.2.1,q.2.2.2.1,B q.2.2.2.2.1,q.2.2.2.2.2]) (ep (ps.take q.1))) (fun q=>ps.length-q.1)
  (0,g4,a,b,c,d) rfl rfl ⟨Nat.zero_le _,x4,k4,jo,wo⟩ ?_
 rintro ⟨i,g,a,b,c,d⟩ ⟨hi,xg,kg,kz,hr⟩ L hL
 simp only at hi xg kg kz hr hL⊢
 have nU:=s2.mono xg
 rw [axO]
 simp only [cK,ag,bS]
 refine ⟨fun aB=>?_,fun cH=>?_⟩
 ·have bF:i<ps.length:=by omega
  obtain ⟨bi,oi,r,u1,u2,u3⟩:=nU.get bF
  obtain ⟨a',b',c',d',rfl⟩:=u3.agg
  simp only [u1,u2,ag,e7,aD]
  have y1:EX g (g++[.arr 107 z4]):=EX.append _ _
  have j1:(g++[ak.arr 107 z4])[g.length]?=some (.arr 107 z4):=bO
  generalize g++[ak.arr 107 z4]=ga at y1 j1⊢
  rw [mO j1]
  simp only [aD]
  have y2:EX g (ga.set g.length (.arr 107 [B a',b',B c',d'])):=y1.set (Nat.le_refl _) _
  have j2:(ga.set g.length (.arr 107 [B a',b',B c',d']))[g.length]?=some (.arr 107 [B a',b',B c',d']):=cJ j1
  generalize ga.set g.length (.arr 107 [B a',b',B c',d'])=gb at y2 j2⊢
  have kb:=y2.get kg
  rw [gA kb,ag,gA j2,ag]
  refine Ij (hr.mono y2) (u3.mono y2) (xl ZO i hi) (ZO _ (List.getElem_mem bF)) (by omega) ?_
  intro r5 g5 x5 wq
  rw [←zI bF] at wq
  obtain ⟨a2,b2,c2,d2,rfl⟩:=wq.agg
  have kc:=x5.get kb
  rw [mO kc]
  simp only [aD,cC,inc i (by omega),ag,true_and]
  have sf:=(List.getElem?_eq_some_iff.1 kg).1
  have kz5:=(y2.trans x5).get kz
  refine hL (i+1,g5.set g2.length (.arr 107 [B a2,b2,B c2,d2]),a2,b2,c2,d2) ⟨by show i+1≤_;omega,(xg.trans (y2.trans x5)).set (Nat.le_refl _) _,cJ kc,?_,wq.bG kc _⟩ (by show ps.length-(i+1)<ps.length-i;omega)
  rw [List.getElem?_set_ne (by omega)];exact kz5
 ·have hM:i=ps.length:=by omega
  subst hM
  rw [List.take_length] at hr
  rw [axN,gA kg,ag]
  have hgz:g0.length≠g2.length:=by omega
  refine pN kz (hk _ _ ((HT.trans xg).set (by omega) _) (hr.bG kz _))

end
end Go.Proofs.YtelmdbpaoifmoaaGreat


namespace Go.Proofs.YtelmdbpaoifmoaaGreat
open Go.Sim

def eP (q:Rat):Bool:=decide (q.num<0)|| !rU 4 q

theorem auy:pI Tryz.prog 83=true:=by kernel_rfl

def uu:Nat:=700
theorem ax9 {s:List UInt8} (hl:s.length≤700):cA uu (bu s):=by
 have oX:(dQ s).length≤700:=by
  unfold dQ
  split
  ·rw [List.length_tail];omega
  ·exact hl
 have lo:(cO (dQ s)).length≤700:=by unfold cO;rw [List.length_take];omega
 have lu:(de (dQ s)).length≤700:=by unfold de;rw [List.length_drop];omega
 have p1:cd (cO (dQ s))<10^uu:=Nat.lt_of_lt_of_le (HF _) (Nat.pow_le_pow_right (by decide) (show _≤uu from lo))
 have p2:cd (de (dQ s))<10^uu:=Nat.lt_of_lt_of_le (HF _) (Nat.pow_le_pow_right (by decide) (show _≤uu from lu))
 cases e:jt s with
 | none=>
  have:bu s=0:=by unfold bu;rw [e]
  rw [this]
  exact cA.zero.le (by decide)
 | some q=>
  obtain ⟨n,d⟩:=q
  obtain ⟨e1,e2⟩:=Qt e
  unfold cA
  rw [e1,e2]
  rw [GO] at e
  unfold ph at e
  split at e
  ·injection e with e
   injection e with h1 h2
   have hs:=(Hq (m:=decide (s.head?=some 45)) (n:=cd (cO (dQ s)))).2
   refine ⟨by rw [←h1];exact Nat.lt_of_le_of_lt (Nat.le_of_eq hs) p1,?_⟩
   rw [←h2]
   unfold nK
   split
   ·exact p2
   ·exact Nat.one_lt_pow (by decide) (by decide)
  ·cases e

section
variable {h : ae} {K : Value → ae → Prop}

theorem C83 {v:Value} {q:Rat} (hq:RV h v q) (sq:cA uu q) (hk:∀h',EX h h'→K (B (eP q)) h'):aj Tryz.prog 83 [v] h K:=by
 have yG:=hq
 obtain ⟨a,b,c,d,rfl⟩:=hq.agg
 refine f83 ?_
 have e1:bc 107 h (.agg #[B a,b,B c,d])=some (pt h.length 0,h++[.arr 107 [B a,b,B c,d]]):=rfl
 simp only [Ku,e1,aD]
 have x0:EX h (h++[.arr 107 [B a,b,B c,d]]):=EX.append _ _
 have k0:(h++[ak.arr 107 [B a,b,B c,d]])[h.length]?=some (.arr 107 [B a,b,B c,d]):=bO
 generalize h++[ak.arr 107 [B a,b,B c,d]]=g0 at x0 k0⊢
 rw [gA k0,ag]
 refine RY (yG.mono x0) ?_
 intro g1 x1
 have hs:decide (iN q.num<0)=decide (q.num<0):=by
  rw [decide_eq_decide]
  unfold iN
  split
  ·omega
  ·split <;> omega
 simp only [cK,ag,hs]
 rw [axL]
 unfold eP at hk
 by_cases hn:q.num<0
 ·rw [decide_eq_true hn] at hk⊢
  simp only [eY]
  rw [agQ]
  simp only [dh,ag]
  exact hk g1 (x0.trans x1)
 ·rw [decide_eq_false hn] at hk⊢
  simp only [dF]
  rw [gA (x1.get k0),ag]
  refine C84 (k:=4) ((yG.mono x0).mono x1) sq (by decide) (by decide) (by decide) ?_
  intro g2 x2
  simp only [nC,ag]
  rw [agQ]
  simp only [cV,ag]
  rw [Bool.false_or] at hk
  exact hk g2 (x0.trans (x1.trans x2))

theorem C82 {v:Value} {qs:List Rat} (hq:QL h v qs) (sq:∀q∈qs,cA uu q) (hn:qs.length≤1000) (hk:∀h',EX h h'→K (B (qs.any eP)) h'):aj Tryz.prog 82 [v,.func (.func 83) #[] #[]] h K:=by
 refine f82 ?_
 unfold Kt
 refine f110 ?_
 unfold Jp
 simp only [hq.len,ag]
 refine db (σ:=Nat×ae) (fun q=>[I q.1]) (fun q=>q.2) (fun q=>q.1≤qs.length∧EX h q.2∧(qs.take q.1).any eP=false) (fun q=>qs.length-q.1) (0,h) rfl rfl ⟨Nat.zero_le _,EX.refl _,by simp⟩ ?_
 rintro ⟨i,g⟩ ⟨hi,xg,cU⟩ L hL
 simp only at hi xg cU hL⊢
 rw [avh]
 simp only [cK,ag,bS]
 refine ⟨fun aB=>?_,fun cH=>?_⟩
 ·have bF:i<qs.length:=by omega
  obtain ⟨b,o,r,u1,u2,u3⟩:=(hq.mono xg).get bF
  simp only [u1,u2,ag]
  refine apA auy ?_
  simp only [List.append_nil]
  refine C83 u3 (sq _ (List.getElem_mem bF)) ?_
  intro g1 x1
  cases hb:eP qs[i] with
  | true=>
   simp only [dd,j5,ag,decide_eq_true (show (0:Int)≤(i:Int) by omega)]
   have:qs.any eP=true:=List.any_eq_true.2 ⟨_,List.getElem_mem bF,hb⟩
   rw [this] at hk
   exact hk g1 (xg.trans x1)
  | false=>
   simp only [c7,cC,inc i (by omega),ag,true_and]
   refine hL (i+1,g1) ⟨by show i+1≤_;omega,xg.trans x1,?_⟩ (by show qs.length-(i+1)<qs.length-i;omega)
   show (qs.take (i+1)).any eP=false
   rw [List.take_succ_eq_append_getElem bF,List.any_append,cU]
   simpa using hb
 ·have hM:i=qs.length:=by omega
  subst hM
  rw [List.take_length] at cU
  rw [cU] at hk
  simp only [j5,ag,show decide ((0:Int)≤ -1)=false from rfl]
  exact hk g xg

end
end Go.Proofs.YtelmdbpaoifmoaaGreat


namespace Go.Proofs.YtelmdbpaoifmoaaGreat
open Go.Sim

def yT:Value→Bool
 | .int .u32 _=>true
 | .bool _=>true
 | _=>false

theorem KP.sub {p q:Value→Bool} {h h':ae} (Fx:∀v,q v=true→p v=true) (x:KP p h h'):KP q h h':=fun d c r h1 h2=>x d c r h1 (Fx c h2)
theorem as6 (v:Value) (h:uo v=true):yT v=true:=by
 unfold uo at h
 split at h
 ·rfl
 ·cases h

def QB (h:ae) (v:Value) (qs:List Rat):Prop:=QL h v qs∧(qs=[]∨∃i o n c r,v=sl 107 i o n∧aQ h i=some (c::r)∧yT c=true)

theorem QB.mono {h h':ae} {v:Value} {qs:List Rat} (x:EX h h') (p:QB h v qs):QB h' v qs:=⟨p.1.mono x,p.2.imp id fun ⟨i,o,n,c,r,a,b,d⟩=>⟨i,o,n,c,r,a,x.cells b,d⟩⟩

theorem QB.dI {h h':ae} {v:Value} {qs:List Rat} (x:KP yT h h') (p:QB h v qs):QB h' v qs:=by
 obtain ⟨⟨rows,a,b,c⟩,q⟩:=p
 rw [xa] at b
 have rat:∀(k:Nat) (row:List Value) (q:Int×Int),rows[k]?=some row→(ot qs)[k]?=some q→gp h' (.agg row.toArray) q.1 q.2:=fun k row q h1 h2=>(c k row q h1 h2).dI (KP.sub as6 x)
 refine ⟨⟨rows,⟨a.1,?_⟩,by rw [xa];exact b,rat⟩,q.imp id fun ⟨i,o,n,c,r,e1,e2,e3⟩=>⟨i,o,n,c,r,e1,x i c r e2 e3,e3⟩⟩
 rcases a.2 with h0 | ⟨i,o,e1,e2⟩
 ·exact .inl h0
 ·refine .inr ⟨i,o,e1,?_⟩
  rcases e2 with e2 | ⟨pre,post,e2,e3⟩
  ·exact .inl e2
  ·rcases q with q | ⟨i',o',n',c',r',f1,f2,f3⟩
   ·left
    exact List.length_eq_zero_iff.1 (by rw [b,q];rfl)
   ·right
    rw [e1] at f1
    have hi:i=i':=by
     simp only [sl] at f1
     injection f1 with f1
     injection f1 with f1
     injection f1
    subst hi
    refine ⟨pre,post,?_,e3⟩
    rw [←e2,f2]
    exact x i c' r' f2 f3

theorem lG.qb {b:Nat} {h:ae} {v:Value} {qs:List Rat} (o:lG b h v (ot qs)):QB h v qs:=by
 refine ⟨o.ax8,?_⟩
 obtain ⟨rows,o1,o2,o3,_⟩:=o
 rw [xa] at o2
 cases rows with
 | nil=>left;exact List.length_eq_zero_iff.1 (by rw [←o2];rfl)
 | cons row rows=>
  right
  rcases o1.2 with ⟨_,h0⟩ | ⟨i,_,e1,e2⟩
  ·cases h0
  ·obtain ⟨s,t,e3⟩:=o3 row (by simp)
   refine ⟨i,0,_,.bool s,t++rows.flatten,e1,?_,rfl⟩
   simp [aQ,e2,e3]

def LK (h:ae) (v:Value) (cs:List (List Rat×Int)):Prop:=
 ∃rows,RS h 102 3 v rows∧rows.length=cs.length∧∀(k:Nat) (row:List Value) (c:List Rat×Int),rows[k]?=some row→cs[k]?=some c→∃vq,row=[I c.1.length,I c.2,vq]∧QB h vq c.1

theorem LK.mono {h h':ae} {v:Value} {cs:List (List Rat×Int)} (x:EX h h') (p:LK h v cs):LK h' v cs:=
 let ⟨rows,a,b,c⟩:=p;⟨rows,a.mono x,b,fun k row q h1 h2=>let ⟨vq,e,m⟩:=c k row q h1 h2;⟨vq,e,m.mono x⟩⟩

theorem LK.len {h:ae} {v:Value} {cs:List (List Rat×Int)} (p:LK h v cs):aY v=some (I cs.length):=by
 obtain ⟨rows,a,b,_⟩:=p;rw [←b];exact a.len

theorem LK.get {h:ae} {v:Value} {cs:List (List Rat×Int)} (p:LK h v cs) {k:Nat} (hk:k<cs.length):∃i o vq,aS 3 v (I k)=some (pt i o)∧af true 3 h (pt i o)=some (.agg #[I cs[k].1.length,I cs[k].2,vq])∧QB h vq cs[k].1:=by
 obtain ⟨rows,a,b,c⟩:=p
 have b7:k<rows.length:=by omega
 obtain ⟨i,o,cells,g1,g2,g3,g4⟩:=a.get b7
 obtain ⟨vq,e,m⟩:=c k _ _ (List.getElem?_eq_getElem b7) (List.getElem?_eq_getElem hk)
 have:=Qy g2 g3 g4
 rw [e] at this
 exact ⟨i,o,vq,g1,this,m⟩

def nF (b:Nat) (h:ae) (v:Value) (cs:List (List Rat×Int)):Prop:=
 ∃rows,iV b h 102 3 v rows∧rows.length=cs.length∧(∀r∈rows,∃n t,r=I n::t)∧∀(k:Nat) (row:List Value) (c:List Rat×Int),rows[k]?=some row→cs[k]?=some c→∃vq,row=[I c.1.length,I c.2,vq]∧QB h vq c.1

theorem nF.start (b:Nat) (h:ae):nF b h (.slice none 0 0) []:=⟨[],iV.start ..,rfl,fun r hr=>by simp at hr,fun k r q h=>by simp at h⟩
theorem nF.lk {b:Nat} {h:ae} {v:Value} {cs:List (List Rat×Int)} (o:nF b h v cs):LK h v cs:=let ⟨rows,a,c,_,d⟩:=o;⟨rows,a.rs,c,d⟩
theorem nF.ex {b:Nat} {h h':ae} {v:Value} {cs:List (List Rat×Int)} (x:EX h h') (o:nF b h v cs):nF b h' v cs:=
 let ⟨rows,a,c,e,d⟩:=o;⟨rows,a.ex x,c,e,fun k row q h1 h2=>let ⟨vq,e,m⟩:=d k row q h1 h2;⟨vq,e,m.mono x⟩⟩

theorem arf {rows:List (List Value)} (h:∀r∈rows,∃n t,r=I n::t):∀c r,rows.flatten=c::r→yT c=false:=by
 cases rows with
 | nil=>intro c r e;simp at e
 | cons row rows=>
  obtain ⟨n,t,rfl⟩:=h row (by simp)
  intro c r e
  simp at e
  rw [←e.1];rfl

theorem nF.app {h0 h:ae} {v vq:Value} {qs:List Rat} {w:Int} {cs:List (List Rat×Int)} {zs:List Value} {K:Value→ae→Prop} (o:nF h0.length h v cs) (hex:EX h0 h) (hq:QB h vq qs) (hz:zs.length=3) (hl:cs.length≤10000)
  (hk:∀v' h',EX h0 h'→KP yT h h'→nF h0.length h' v' (cs++[(qs,w)])→K v' h'):OH (cT 102 1 zs h [(0,3,.agg #[I qs.length,I w,vq])]) fun y h2=>OH (dA 102 3 40 h2 v y) K:=by
 obtain ⟨rows,o1,o2,o3,o4⟩:=o
 obtain ⟨rq,rs,_,_⟩:=id hq.1
 obtain ⟨t1,t2⟩:=rs.one
 refine o1.app hex hz (row:=[I qs.length,I w,vq]) rfl (by simp [cZ,Value.cells]) rfl (by omega) (by simp [maxLen];omega) ?_
 intro v' h' x' hold o'
 have kp:KP yT h h':=o1.kp (arf o3) hold
 refine hk v' h' x' kp ⟨_,o',by simp [o2],fun r hr=>?_,fun k row q h1 h2=>?_⟩
 ·rcases List.mem_append.1 hr with hr | hr
  ·exact o3 r hr
  ·rw [List.mem_singleton.1 hr];exact ⟨_,_,rfl⟩
 ·by_cases hk:k<rows.length
  ·rw [List.getElem?_append_left hk] at h1
   rw [List.getElem?_append_left (by omega)] at h2
   obtain ⟨Q6,e,m⟩:=o4 k row q h1 h2
   exact ⟨Q6,e,m.dI kp⟩
  ·rw [List.getElem?_append_right (by omega)] at h1
   rw [List.getElem?_append_right (by omega),←o2] at h2
   have h0:k-rows.length=0:=by
    have:=(List.getElem?_eq_some_iff.1 h1).1
    simp at this;omega
   rw [h0] at h1 h2
   simp only [List.getElem?_cons_zero,Option.some.injEq] at h1 h2
   subst h1 h2
   exact ⟨vq,rfl,hq.dI kp⟩

end Go.Proofs.YtelmdbpaoifmoaaGreat


namespace Go.Proofs.YtelmdbpaoifmoaaGreat
open Go.Sim
variable (P : Program) (K : VK)
/-! F3: pommel/pommellaw06.MendIndices -/
noncomputable section
variable (x0 x1 l5 v6 d7 e8 x9 lY bE bY cG di bW gj er dK cn fh eG fB jW gG fK eB : Value) (h : ae)
def oc3:=bp Tryz.prog 3 [[],[],[],[],[1,5,6,7,8,9,28],[1,5,6,7,8,9,28,31],[1,5,6,7,8,9,28,31,38],[1,5,6,7,8,9,28,39],[],[1,5,6,7,8,9],[],[7,8,9,45],[8,9,45,47],[8,9,49],[49,52],[54],[54,55],[],[],[],[7,8,11,68],[8,68,71],[8,73],[73,75],[77],[77,78],[]]
@[irreducible] def c3:=bw oc3
@[irreducible] def Wh:=c3.r.r.r.r.l.l.r.l
@[irreducible] def anW:=c3.r.r.r.r.l.r
@[irreducible] def Wg:=c3.r.r.r.r.r
@[irreducible] def V4:=Wh.r.l
@[irreducible] def DW:=Wg.l
@[irreducible] def V5:=V4.r.l
@[irreducible] def V6:=DW.l.r.l.l.r.l
@[irreducible] def anS:=DW.l.r.l.r
@[irreducible] def Ld:=DW.r
@[irreducible] def anR:=V5.r.l
@[irreducible] def V7:=V6.r.l
@[irreducible] def Wb:=Ld.r.l.r.l
@[irreducible] def anU:=Ld.r.r
@[irreducible] def V8:=V7.r.l
@[irreducible] def Wc:=Wb.r.l
@[irreducible] def V9:=V8.r.l
@[irreducible] def Wd:=Wc.r.l
@[irreducible] def Wa:=V9.r.l
@[irreducible] def We:=Wd.r.l
@[irreducible] def anT:=Wa.r.l
@[irreducible] def Wf:=We.r.l
@[irreducible] def anV:=Wf.r.l
theorem k3:oc3=some (80,c3,[.tmp 4]):=by kernel_rfl
def uO (_P:Program) (K:VK):aq:=aO [.tmp 4] K
def SX:aq:=aC (ai P Wg (uO P K)) (uO P K)
def CS:aq:=aC (ai P anW (SX P K)) (SX P K)
def SW:aq:=aC (ai P Ld (uO P K)) (uO P K)
def xG:aq:=aC (ai P anS (SW P K)) (SW P K)
def xH:aq:=aC (ai P anU (uO P K)) (uO P K)
def Pr:Prop:=au (ai P Wh (CS P K)) [1,5,6,7,8,9,28] [x1,l5,v6,d7,e8,x9,bE] h
def Pj:Prop:=au (ai P V4 (CS P K)) [1,5,6,7,8,9,28,31] [x1,l5,v6,d7,e8,x9,bE,bY] h
def GA:Prop:=au (ai P V5 (CS P K)) [1,5,6,7,8,9,28,31,38] [x1,l5,v6,d7,e8,x9,bE,bY,cG] h
def Pk:Prop:=au (ai P anR (CS P K)) [1,5,6,7,8,9,28,39] [x1,l5,v6,d7,e8,x9,bE,di] h
def BZ:Prop:=au (ai P DW (uO P K)) [1,5,6,7,8,9] [x1,l5,v6,d7,e8,x9] h
def aes:Prop:=au (ai P V6 (xG P K)) [7,8,9,45] [d7,e8,x9,bW] h
def Pl:Prop:=au (ai P V7 (xG P K)) [8,9,45,47] [e8,x9,bW,gj] h
def aet:Prop:=au (ai P V8 (xG P K)) [8,9,49] [e8,x9,er] h
def Pm:Prop:=au (ai P V9 (xG P K)) [49,52] [er,dK] h
def aeu:Prop:=au (ai P Wa (xG P K)) [54] [cn] h
def Pn:Prop:=au (ai P anT (xG P K)) [54,55] [cn,fh] h
def aev:Prop:=au (ai P Wb (xH P K)) [7,8,11,68] [d7,e8,lY,eG] h
def Po:Prop:=au (ai P Wc (xH P K)) [8,68,71] [e8,eG,fB] h
def aew:Prop:=au (ai P Wd (xH P K)) [8,73] [e8,jW] h
def Pp:Prop:=au (ai P We (xH P K)) [73,75] [jW,gG] h
def aex:Prop:=au (ai P Wf (xH P K)) [77] [fK] h
def Pq:Prop:=au (ai P anV (xH P K)) [77,78] [fK,eB] h
theorem agr:Pk P K x1 l5 v6 d7 e8 x9 bE di h=
 (OP (bK bE di (.bool false)) fun dB=>
 aL dB
 (BZ P K x1 l5 v6 d7 e8 (.int .i64 (1)) h)
 (BZ P K x1 l5 v6 d7 e8 x9 h)):=aw (by kernel_rfl)
theorem agq:GA P K x1 l5 v6 d7 e8 x9 bE bY cG h=
 (bU bE true
 (OP (bK bY (.bool true) cG) fun di=>
 Pk P K x1 l5 v6 d7 e8 x9 bE di h)
 (Pk P K x1 l5 v6 d7 e8 x9 bE undef h)):=aw (by kernel_rfl)
theorem agp:Pj P K x1 l5 v6 d7 e8 x9 bE bY h=
 (bU bY false
 (OP (aS 2 l5 (.int .i64 (0))) fun cm=>
 OP (aE 0 cm) fun dc=>
 OP (af false 1 h dc) fun cQ=>
 OP (aY cQ) fun dM=>
 OP (ah .geq x1 dM) fun cG=>
 GA P K x1 l5 v6 d7 e8 x9 bE bY cG h)
 (GA P K x1 l5 v6 d7 e8 x9 bE bY undef h)):=aw (by kernel_rfl)
theorem awJ:Pr P K x1 l5 v6 d7 e8 x9 bE h=
 (bU bE true
 (OP (ah .lss x1 (.int .i64 (0))) fun cP=>
 Pj P K x1 l5 v6 d7 e8 x9 bE cP h)
 (Pj P K x1 l5 v6 d7 e8 x9 bE undef h)):=aw (by kernel_rfl)
theorem awC:Pn P K cn fh h=
 (OP (bK cn fh (.bool false)) fun fU=>
 K fU h):=aw (by kernel_rfl)
theorem awB:aeu P K cn h=
 (bU cn true
 (aj P 14 [] h fun fh h_1=>
 Pn P K cn fh h_1)
 (Pn P K cn undef h)):=aw (by kernel_rfl)
theorem awA:Pm P K er dK h=
 (OP (bK er dK (.bool false)) fun iR=>
 aeu P K iR h):=aw (by kernel_rfl)
theorem awz:aet P K e8 x9 er h=
 (bU er true
 (OP (ah .eql e8 x9) fun dK=>
 Pm P K er dK h)
 (Pm P K er undef h)):=aw (by kernel_rfl)
theorem awy:Pl P K e8 x9 bW gj h=
 (OP (bK bW gj (.bool false)) fun dS=>
 aet P K e8 x9 dS h):=aw (by kernel_rfl)
theorem awx:aes P K d7 e8 x9 bW h=
 (bU bW true
 (OP (ah .eql d7 (.int .i64 (0))) fun gj=>
 Pl P K e8 x9 bW gj h)
 (Pl P K e8 x9 bW undef h)):=aw (by kernel_rfl)
theorem awI:Pq P K fK eB h=
 (OP (bK fK eB (.bool false)) fun iS=>
 K iS h):=aw (by kernel_rfl)
theorem awH:aex P K fK h=
 (bU fK true
 (aj P 14 [] h fun eB h_1=>
 Pq P K fK eB h_1)
 (Pq P K fK undef h)):=aw (by kernel_rfl)
theorem awG:Pp P K jW gG h=
 (OP (bK jW gG (.bool false)) fun je=>
 aex P K je h):=aw (by kernel_rfl)
theorem awF:aew P K e8 jW h=
 (bU jW true
 (OP (ah .eql e8 (.int .i64 (0))) fun gG=>
 Pp P K jW gG h)
 (Pp P K jW undef h)):=aw (by kernel_rfl)
theorem awE:Po P K e8 eG fB h=
 (OP (bK eG fB (.bool false)) fun lA=>
 aew P K e8 lA h):=aw (by kernel_rfl)
theorem awD:aev P K d7 e8 lY eG h=
 (bU eG true
 (OP (ah .eql d7 lY) fun fB=>
 Po P K e8 eG fB h)
 (Po P K e8 eG undef h)):=aw (by kernel_rfl)
theorem ags:BZ P K x1 l5 v6 d7 e8 x9 h=
 (OP (ah .neq x9 (.int .i64 (0))) fun dR=>
 aL dR
 (OP (ah .eql v6 (.string ⟨#[]⟩)) fun ba=>
 aes P K d7 e8 x9 ba h)
 (OP (aS 2 l5 (.int .i64 (0))) fun eA=>
 OP (af true 2 h eA) fun gF=>
 aj P 15 [gF,x1] h fun kH h_1=>
 OP (b9 0 kH) fun iF=>
 OP (b9 1 kH) fun gQ=>
 OH (aW 37 [(.bool false),(.slice none 0 0),(.bool false),(.slice none 0 0)] h_1) fun GX h_2=>
 OH (aJ 4 h_2 GX iF) fun _ h_3=>
 OP (af true 4 h_3 GX) fun mQ=>
 aj P 16 [v6,mQ] h_3 fun fD h_4=>
 aev P K d7 e8 gQ fD h_4)):=aw (by kernel_rfl)
def T3:Prop:=
 OH (bc 24 h x0) fun x2 h_1=>
 OP (af true 2 h_1 x2) fun az=>
 OH (cT 24 1 [(.slice none 0 0),(.int .i64 (0))] h_1 [(0,2,az)]) fun ay h_2=>
 aj P 11 [ay] h_2 fun aP h_3=>
 OP (aS 2 aP (.int .i64 (0))) fun bH=>
 OP (af true 2 h_3 bH) fun aN=>
 aj P 12 [aN,x1] h_3 fun aT h_4=>
 OP (b9 0 aT) fun bf=>
 OP (b9 1 aT) fun bt=>
 OP (b9 2 aT) fun bV=>
 aj P 13 [aP] h_4 fun bL h_5=>
 OP (ah .eql bL (.int .i64 (0))) fun bR=>
 Pr P K x1 aP bf bt bV bL bR h_5
theorem e3:ai P c3 (aO [.tmp 4] K) (bk [x0,x1]) h=T3 P K x0 x1 h:=by kernel_rfl
theorem f3 {K:VK} {x0 x1:Value} {h:ae} (H:T3 Tryz.prog K x0 x1 h):aj Tryz.prog 3 [x0,x1] h K:=
 bD k3 (Nat.le_of_ble_eq_true rfl) ((e3 Tryz.prog K x0 x1 h).mpr H)
end
/-! F11: pommel/pommellaw06.chances -/
noncomputable section
variable (x0 x3 i4 c5 k6 az aP cM cm : Value) (L1 L2 : LQ) (xs : List Value) (h : ae)
def abz:=bp Tryz.prog 11 [[],[],[],[0],[3,4],[0,3,4,12],[0,3,4,12,14],[],[],[],[],[0,3,4,5],[6],[0,3,4,5,6,32],[0,3,4,5,6,32,34],[],[],[],[0,3,4,5],[0,3,4],[3],[]]
@[irreducible] def Ds:=bw abz
@[irreducible] def Dz:=Ds.r.r.l.r.l.l
@[irreducible] def UX:=Ds.r.r.r
@[irreducible] def US:=Dz.l.l.r.l
@[irreducible] def amQ:=Dz.l.r
@[irreducible] def DA:=Dz.r
@[irreducible] def amP:=UX.l
@[irreducible] def amJ:=US.r.l
@[irreducible] def Dy:=DA.l.l.r.l.r.l.l
@[irreducible] def UU:=DA.l.l.r.r
@[irreducible] def UT:=DA.r
@[irreducible] def UW:=Dy.l.l.r.l
@[irreducible] def amL:=Dy.l.r
@[irreducible] def amK:=Dy.r
@[irreducible] def amN:=UU.l
@[irreducible] def amO:=UT.l
@[irreducible] def amM:=UW.r.l
theorem k11:abz=some (67,Ds,[.tmp 2]):=by kernel_rfl
def Iy (_P:Program) (K:VK):aq:=aO [.tmp 2] K
def ajz:aq:=aC (ai P UX (Iy P K)) (Iy P K)
def ajA:aq:=bz 0 (ajz P K)
def xD:aq:=aC (fun f' aR=>(([0]:List Nat).map f':List Value)=[x0]∧L1 (([3,4]:List Nat).map f') aR) (ajA P K)
def Sw:aq:=aC (ai P DA (xD P K x0 L1)) (xD P K x0 L1)
def Sx:aq:=aC (ai P amQ (Sw P K x0 L1)) (Sw P K x0 L1)
def ajw:aq:=aC (ai P UT (xD P K x0 L1)) (xD P K x0 L1)
def Iz:aq:=bz 1 (ajw P K x0 L1)
def ajx:aq:=aC (ai P UU (Iz P K x0 L1)) (Iz P K x0 L1)
def ajy:aq:=bz 2 (ajx P K x0 L1)
def IA:aq:=aC (fun f' aR=>(([0,3,4,5]:List Nat).map f':List Value)=[x0,x3,i4,c5]∧L2 (([6]:List Nat).map f') aR) (ajy P K x0 L1)
def Su:aq:=aC (ai P amK (IA P K x0 x3 i4 c5 L1 L2)) (IA P K x0 x3 i4 c5 L1 L2)
def Sv:aq:=aC (ai P amL (Su P K x0 x3 i4 c5 L1 L2)) (Su P K x0 x3 i4 c5 L1 L2)
def adI:Prop:=au (ai P Dz (xD P K x0 L1)) ([0]++[3,4]) ([x0]++xs) h
def adC:Prop:=au (ai P US (Sx P K x0 L1)) [0,3,4,12] [x0,x3,i4,az] h
def Gm:Prop:=au (ai P amJ (Sx P K x0 L1)) [0,3,4,12,14] [x0,x3,i4,az,aP] h
def adD:Prop:=au (ai P Dy (IA P K x0 x3 i4 c5 L1 L2)) ([0,3,4,5]++[6]) ([x0,x3,i4,c5]++xs) h
def adE:Prop:=au (ai P UW (Sv P K x0 x3 i4 c5 L1 L2)) [0,3,4,5,6,32] [x0,x3,i4,c5,k6,cM] h
def Gn:Prop:=au (ai P amM (Sv P K x0 x3 i4 c5 L1 L2)) [0,3,4,5,6,32,34] [x0,x3,i4,c5,k6,cM,cm] h
def adF:Prop:=au (ai P amN (Iz P K x0 L1)) [0,3,4,5] [x0,x3,i4,c5] h
def adG:Prop:=au (ai P amO (xD P K x0 L1)) [0,3,4] [x0,x3,i4] h
def adH:Prop:=au (ai P amP (Iy P K)) [3] [x3] h
theorem af8:Gm P K x0 x3 i4 az aP L1 h=
 (OP (bK az aP (.bool false)) fun a9=>
 aL a9
 (OP (aS 2 x0 i4) fun aT=>
 OP (aE 1 aT) fun bf=>
 OP (af false 1 h bf) fun bt=>
 OP (cN [(.slice none 0 0),(.int .i64 (0))] [(1,1,bt)]) fun bV=>
 OH (aW 24 [(.slice none 0 0),(.int .i64 (0))] h) fun c5 h_1=>
 OH (aJ 2 h_1 c5 bV) fun _ h_2=>
 cB [(.int .i64 (0))] h_2 fun L2 xs hx=>
 adD P K x0 x3 i4 c5 L1 L2 xs hx)
 (adH P K x3 h)):=aw (by kernel_rfl)
theorem avo:adC P K x0 x3 i4 az L1 h=
 (bU az true
 (OP (ah .leq i4 (.int .i64 (3))) fun aP=>
 Gm P K x0 x3 i4 az aP L1 h)
 (Gm P K x0 x3 i4 az undef L1 h)):=aw (by kernel_rfl)
theorem af9:Gn P K x0 x3 i4 c5 k6 cM cm L1 L2 h=
 (OP (bK cM cm (.bool false)) fun dc=>
 aL dc
 (OP (aE 0 c5) fun cG=>
 OP (af false 1 h cG) fun di=>
 (True)∧
 OP (aS 2 x0 i4) fun dR=>
 OP (aE 0 dR) fun bM=>
 OP (af false 1 h bM) fun ba=>
 (True)∧
 OP (aS 1 ba k6) fun cg=>
 OP (af false 1 h cg) fun gj=>
 (True)∧
 OP (aS 2 x0 i4) fun dE=>
 OP (aE 0 dE) fun eL=>
 OP (af false 1 h eL) fun dK=>
 (True)∧
 OP (aS 1 dK k6) fun cn=>
 OP (af false 1 h cn) fun fh=>
 (True)∧
 OP (fe fh) fun fU=>
 OP (sG false [fU,(.int .i64 (20))]) fun dL=>
 OP (iZ gj none (some dL)) fun gP=>
 OH (cT 27 1 [(.string ⟨#[]⟩)] h [(0,1,gP)]) fun eA h_1=>
 (af false 1 h_1 cG=some di∧True)∧
 OH (dA 27 1 16 h_1 di eA) fun gF h_2=>
 (True)∧
 OP (aE 0 c5) fun iE=>
 OH (aJ 1 h_2 iE gF) fun _ h_3=>
 (True)∧
 OP (ah .add k6 (.int .i64 (1))) fun dM=>
 ([x0,x3,i4,c5]:List Value)=[x0,x3,i4,c5]∧L2 [dM] h_3)
 (adF P K x0 x3 i4 c5 L1 h)):=aw (by kernel_rfl)
theorem avq:adE P K x0 x3 i4 c5 k6 cM L1 L2 h=
 (bU cM true
 (OP (ah .leq k6 (.int .i64 (8))) fun cm=>
 Gn P K x0 x3 i4 c5 k6 cM cm L1 L2 h)
 (Gn P K x0 x3 i4 c5 k6 cM undef L1 L2 h)):=aw (by kernel_rfl)
theorem avp (x0 x3 i4 c5:Value) (L1 L2:LQ) (k6:Value) (h:ae):adD P K x0 x3 i4 c5 L1 L2 [k6] h=
 (OP (aS 2 x0 i4) fun bR=>
 OP (aE 0 bR) fun bE=>
 OP (af false 1 h bE) fun bZ=>
 OP (aY bZ) fun cP=>
 OP (ah .lss k6 cP) fun bY=>
 adE P K x0 x3 i4 c5 k6 bY L1 L2 h):=aw (by kernel_rfl)
theorem avr:adF P K x0 x3 i4 c5 L1 h=
 (OP (af true 2 h c5) fun iF=>
 OH (cT 24 1 [(.slice none 0 0),(.int .i64 (0))] h [(0,2,iF)]) fun gQ h_1=>
 OH (dA 24 2 32 h_1 x3 gQ) fun fJ h_2=>
 adG P K x0 fJ i4 L1 h_2):=aw (by kernel_rfl)
theorem avs:adG P K x0 x3 i4 L1 h=
 (OP (ah .add i4 (.int .i64 (1))) fun bH=>
 ([x0]:List Value)=[x0]∧L1 [x3,bH] h):=aw (by kernel_rfl)
theorem avu (x0:Value) (L1:LQ) (x3 i4:Value) (h:ae):adI P K x0 L1 [x3,i4] h=
 (OP (aY x0) fun aF=>
 OP (ah .lss i4 aF) fun ax=>
 adC P K x0 x3 i4 ax L1 h):=aw (by kernel_rfl)
theorem avt:adH P K x3 h=
 (K x3 h):=aw (by kernel_rfl)
def Jo:Prop:=
 OH (cT 24 0 [(.slice none 0 0),(.int .i64 (0))] h []) fun x7 h_1=>
 cB [x7,(.int .i64 (0))] h_1 fun L1 xs hx=>
 adI P K x0 L1 xs hx
theorem LN:ai P Ds (aO [.tmp 2] K) (bk [x0]) h=Jo P K x0 h:=by kernel_rfl
theorem f11 {K:VK} {x0:Value} {h:ae} (H:Jo Tryz.prog K x0 h):aj Tryz.prog 11 [x0] h K:=
 bD k11 (Nat.le_of_ble_eq_true rfl) ((LN Tryz.prog K x0 h).mpr H)
end
/-! F12: pommel/mend.Index -/
noncomputable section
variable (c0 x1 l7 bL cM : Value) (h : ae)
def abJ:=bp Tryz.prog 12 [[],[],[],[],[1,7,25],[1,7,25,32],[],[],[],[],[],[],[],[],[]]
@[irreducible] def An:=bw abJ
@[irreducible] def Vm:=An.r.r.l.l.r.r.l.r.l
@[irreducible] def anj:=An.r.r.l.l.r.r.r
@[irreducible] def ani:=An.r.r.r
@[irreducible] def anh:=Vm.r.l
theorem k12:abJ=some (52,An,[.tmp 4,.tmp 5,.tmp 6]):=by kernel_rfl
def SF (_P:Program) (K:VK):aq:=aO [.tmp 4,.tmp 5,.tmp 6] K
def aj3:aq:=aC (ai P ani (SF P K)) (SF P K)
def SG:aq:=bz 0 (aj3 P K)
def SH:aq:=aC (ai P anj (SG P K)) (SG P K)
def O6:Prop:=au (ai P Vm (SH P K)) [1,7,25] [x1,l7,bL] h
def Gs:Prop:=au (ai P anh (SH P K)) [1,7,25,32] [x1,l7,bL,cM] h
theorem agh:Gs P K x1 l7 bL cM h=
 (OP (bK bL (.bool true) cM) fun dJ=>
 aL dJ
 (K (.tuple #[(.string ⟨#[]⟩),(.int .i64 (0)),(.int .i64 (1))]) h)
 (OP (aS 3 l7 (.int .i64 (0))) fun cQ=>
 OP (af true 3 h cQ) fun dM=>
 aj P 44 [dM,x1] h fun di h_1=>
 OP (b9 0 di) fun dB=>
 OP (b9 1 di) fun dm=>
 OH (aW 107 [(.bool false),(.slice none 0 0),(.bool false),(.slice none 0 0)] h_1) fun x9 h_2=>
 OH (aJ 4 h_2 x9 dB) fun _ h_3=>
 OP (af true 4 h_3 x9) fun bM=>
 aj P 45 [bM] h_3 fun ba h_4=>
 OP (b9 0 ba) fun bW=>
 OP (b9 1 ba) fun cg=>
 OP (ah .neq cg (.int .i64 (0))) fun dS=>
 aL dS
 (K (.tuple #[(.string ⟨#[]⟩),(.int .i64 (0)),cg]) h_4)
 (K (.tuple #[bW,dm,(.int .i64 (0))]) h_4))):=aw (by kernel_rfl)
theorem avV:O6 P K x1 l7 bL h=
 (bU bL false
 (OP (aS 3 l7 (.int .i64 (0))) fun bE=>
 OP (aE 0 bE) fun bZ=>
 OP (aE 0 bZ) fun cP=>
 OP (af false 1 h cP) fun bY=>
 OP (ah .geq x1 bY) fun cM=>
 Gs P K x1 l7 bL cM h)
 (Gs P K x1 l7 bL undef h)):=aw (by kernel_rfl)
def Jx:Prop:=
 OH (bc 24 h c0) fun c2 h_1=>
 OP (af true 2 h_1 c2) fun ay=>
 OH (cT 24 1 [(.slice none 0 0),(.int .i64 (0))] h_1 [(0,2,ay)]) fun aP h_2=>
 aj P 43 [aP] h_2 fun a9 h_3=>
 OP (b9 0 a9) fun aX=>
 OP (b9 1 a9) fun bH=>
 OP (ah .neq bH (.int .i64 (0))) fun aT=>
 aL aT
 (K (.tuple #[(.string ⟨#[]⟩),(.int .i64 (0)),bH]) h_3)
 (OP (ah .lss x1 (.int .i64 (0))) fun bC=>
 O6 P K x1 aX bC h_3)
theorem e12:ai P An (aO [.tmp 4,.tmp 5,.tmp 6] K) (bk [c0,x1]) h=Jx P K c0 x1 h:=by kernel_rfl
theorem f12 {K:VK} {c0 x1:Value} {h:ae} (H:Jx Tryz.prog K c0 x1 h):aj Tryz.prog 12 [c0,x1] h K:=
 bD k12 (Nat.le_of_ble_eq_true rfl) ((e12 Tryz.prog K c0 x1 h).mpr H)
end
/-! F43: pommel/mend.chances -/
noncomputable section
variable (l0 x4 ef ax az ay cG dm bM ba bW iR dL eA iF fJ gn fB jH kJ jI : Value) (L1 : LQ) (xs : List Value) (h : ae)
def acj:=bp Tryz.prog 43 [[],[],[],[0,11,12],[4,13],[],[],[],[],[],[],[],[],[0,4],[0,4,38],[4,38,41],[],[],[],[],[4,43,44],[45],[],[],[],[4,10,43,44,45,53],[4,10,43,44,45,53,57],[4,10,43,44,45,59],[4,10,43,44,45,59,63],[4,10,43,44,45,65],[4,10,43,44,45,65,69],[4,10,43,44,45,71],[4,10,43,44,45,71,81],[],[],[],[4,10,43,44,45,86],[4,43,44,45,86,91],[],[],[],[4],[]]
@[irreducible] def DX:=bw acj
@[irreducible] def an5:=DX.r.r.l.r.l.l
@[irreducible] def Wk:=DX.r.r.r
@[irreducible] def DY:=Wk.l
@[irreducible] def Wi:=DY.l.l.r.l
@[irreducible] def anX:=DY.l.r
@[irreducible] def Le:=DY.r
@[irreducible] def anY:=Wi.r.l
@[irreducible] def Ar:=Le.l.r.l.l
@[irreducible] def Wj:=Le.r
@[irreducible] def Wl:=Ar.r.r.l.l.r.l.l.r.l
@[irreducible] def an0:=Ar.r.r.l.l.r.l.r
@[irreducible] def Lf:=Ar.r.r.l.l.r.r
@[irreducible] def anZ:=Ar.r.r.r
@[irreducible] def an4:=Wj.l
@[irreducible] def Wm:=Wl.r.l
@[irreducible] def Ws:=Lf.l.r.l
@[irreducible] def an2:=Lf.r
@[irreducible] def Wn:=Wm.r.l
@[irreducible] def an3:=Ws.r.l
@[irreducible] def Wo:=Wn.r.l
@[irreducible] def Wp:=Wo.r.l
@[irreducible] def Wq:=Wp.r.l
@[irreducible] def Wr:=Wq.r.l
@[irreducible] def an1:=Wr.r.l
theorem k43:acj=some (95,DX,[.tmp 2,.tmp 3]):=by kernel_rfl
def tu (_P:Program) (K:VK):aq:=aO [.tmp 2,.tmp 3] K
def akE:aq:=aC (ai P Wk (tu P K)) (tu P K)
def akG:aq:=bz 0 (akE P K)
def akH:aq:=aC (fun f' aR=>(([0,11,12]:List Nat).map f':List Value)=[l0,ax,az]∧L1 (([4,13]:List Nat).map f') aR) (akG P K)
def SY:aq:=aC (ai P Le (tu P K)) (tu P K)
def SZ:aq:=aC (ai P anX (SY P K)) (SY P K)
def akC:aq:=aC (ai P Wj (tu P K)) (tu P K)
def akD:aq:=bz 2 (akC P K)
def IN:aq:=aC (fun f' aR=>(([4,43,44]:List Nat).map f':List Value)=[x4,bM,ba]∧L1 (([45]:List Nat).map f') aR) (akD P K)
def akF:aq:=aC (ai P anZ (IN P K x4 bM ba L1)) (IN P K x4 bM ba L1)
def CT:aq:=bz 3 (akF P K x4 bM ba L1)
def S0:aq:=aC (ai P Lf (CT P K x4 bM ba L1)) (CT P K x4 bM ba L1)
def tw:aq:=aC (ai P an0 (S0 P K x4 bM ba L1)) (S0 P K x4 bM ba L1)
def S3:aq:=aC (ai P an2 (CT P K x4 bM ba L1)) (CT P K x4 bM ba L1)
def aeD:Prop:=au (ai P an5 (akH P K l0 ax az L1)) ([0,11,12]++[4,13]) ([l0,ax,az]++xs) h
def aey:Prop:=au (ai P DY (tu P K)) [0,4] [l0,x4] h
def aez:Prop:=au (ai P Wi (SZ P K)) [0,4,38] [l0,x4,cG] h
def Ps:Prop:=au (ai P anY (SZ P K)) [4,38,41] [x4,cG,dm] h
def Pt:Prop:=au (ai P Ar (IN P K x4 bM ba L1)) ([4,43,44]++[45]) ([x4,bM,ba]++xs) h
def aeA:Prop:=au (ai P Wl (tw P K x4 bM ba L1)) [4,10,43,44,45,53] [x4,ef,bM,ba,bW,iR] h
def Pu:Prop:=au (ai P Wm (tw P K x4 bM ba L1)) [4,10,43,44,45,53,57] [x4,ef,bM,ba,bW,iR,dL] h
def Pv:Prop:=au (ai P Wn (tw P K x4 bM ba L1)) [4,10,43,44,45,59] [x4,ef,bM,ba,bW,eA] h
def Pw:Prop:=au (ai P Wo (tw P K x4 bM ba L1)) [4,10,43,44,45,59,63] [x4,ef,bM,ba,bW,eA,iF] h
def Px:Prop:=au (ai P Wp (tw P K x4 bM ba L1)) [4,10,43,44,45,65] [x4,ef,bM,ba,bW,fJ] h
def Py:Prop:=au (ai P Wq (tw P K x4 bM ba L1)) [4,10,43,44,45,65,69] [x4,ef,bM,ba,bW,fJ,gn] h
def Pz:Prop:=au (ai P Wr (tw P K x4 bM ba L1)) [4,10,43,44,45,71] [x4,ef,bM,ba,bW,fB] h
def GB:Prop:=au (ai P an1 (tw P K x4 bM ba L1)) [4,10,43,44,45,71,81] [x4,ef,bM,ba,bW,fB,jH] h
def aeB:Prop:=au (ai P Ws (S3 P K x4 bM ba L1)) [4,10,43,44,45,86] [x4,ef,bM,ba,bW,kJ] h
def GC:Prop:=au (ai P an3 (S3 P K x4 bM ba L1)) [4,43,44,45,86,91] [x4,bM,ba,bW,kJ,jI] h
def aeC:Prop:=au (ai P an4 (tu P K)) [4] [x4] h
theorem awQ (l0 ax az:Value) (L1:LQ) (x4 ay:Value) (h:ae):aeD P K l0 ax az L1 [x4,ay] h=
 (OP (ah .lss ay az) fun aP=>
 aL aP
 (OP (aS 2 ax ay) fun a9=>
 OP (af true 2 h a9) fun aX=>
 OH (aW 24 [(.slice none 0 0),(.int .i64 (0))] h) fun c6 h_1=>
 OH (aJ 2 h_1 c6 aX) fun _ h_2=>
 OP (af true 2 h_2 c6) fun aN=>
 aj P 80 [aN] h_2 fun aM h_3=>
 OP (b9 0 aM) fun aT=>
 OP (b9 1 aM) fun bf=>
 OP (ft .not bf) fun bV=>
 aL bV
 (K (.tuple #[(.slice none 0 0),(.int .i64 (2))]) h_3)
 (OP (aY aT) fun cF=>
 OP (aE 1 c6) fun bR=>
 OP (af false 1 h_3 bR) fun bE=>
 OP (cN [(.int .i64 (0)),(.int .i64 (0))] [(0,1,cF),(1,1,bE)]) fun bZ=>
 OP (cN [(.int .i64 (0)),(.int .i64 (0)),(.slice none 0 0)] [(0,2,bZ),(2,1,aT)]) fun bY=>
 OH (cT 102 1 [(.int .i64 (0)),(.int .i64 (0)),(.slice none 0 0)] h_3 [(0,3,bY)]) fun cM h_4=>
 OH (dA 102 3 40 h_4 x4 cM) fun dJ h_5=>
 OP (ah .add ay (.int .i64 (1))) fun cm=>
 ([l0,ax,az]:List Value)=[l0,ax,az]∧L1 [dJ,cm] h_5))
 (aey P K l0 x4 h)):=aw (by kernel_rfl)
theorem agt:Ps P K x4 cG dm h=
 (OP (bK cG (.bool true) dm) fun dR=>
 aL dR
 (K (.tuple #[(.slice none 0 0),(.int .i64 (1))]) h)
 (OP (aY x4) fun ba=>
 cB [(.int .i64 (0))] h fun L1 xs hx=>
 Pt P K x4 x4 ba L1 xs hx)):=aw (by kernel_rfl)
theorem awL:aez P K l0 x4 cG h=
 (bU cG false
 (OP (aY l0) fun dB=>
 OP (ah .gtr dB (.int .i64 (3))) fun dm=>
 Ps P K x4 cG dm h)
 (Ps P K x4 cG undef h)):=aw (by kernel_rfl)
theorem agA:GB P K x4 ef bM ba bW fB jH L1 h=
 (OP (bK fB (.bool true) jH) fun fk=>
 aL fk
 (K (.tuple #[(.slice none 0 0),(.int .i64 (1))]) h)
 (OP (aE 2 ef) fun mh=>
 OP (af false 1 h mh) fun gZ=>
 aj P 82 [gZ,(.func (.func 83) #[] #[])] h fun qH h_1=>
 aeB P K x4 ef bM ba bW qH L1 h_1)):=aw (by kernel_rfl)
theorem agz:Pz P K x4 ef bM ba bW fB L1 h=
 (bU fB false
 (OP (aE 2 ef) fun lA=>
 OP (af false 1 h lA) fun jW=>
 OP (aE 0 ef) fun jG=>
 OP (aE 0 jG) fun gG=>
 OP (af false 1 h gG) fun je=>
 OP (ah .sub je (.int .i64 (1))) fun fK=>
 OP (aS 4 jW fK) fun eB=>
 OP (af true 4 h eB) fun iS=>
 aj P 81 [iS] h fun qG h_1=>
 OP (ah .eql qG (.int .i64 (0))) fun jH=>
 GB P K x4 ef bM ba bW fB jH L1 h_1)
 (GB P K x4 ef bM ba bW fB undef L1 h)):=aw (by kernel_rfl)
theorem agy:Py P K x4 ef bM ba bW fJ gn L1 h=
 (OP (bK fJ (.bool true) gn) fun kI=>
 Pz P K x4 ef bM ba bW kI L1 h):=aw (by kernel_rfl)
theorem agx:Px P K x4 ef bM ba bW fJ L1 h=
 (bU fJ false
 (OP (aE 0 ef) fun mQ=>
 OP (aE 1 mQ) fun fD=>
 OP (af false 1 h fD) fun eG=>
 OP (ah .gtr eG (.int .i64 (50))) fun gn=>
 Py P K x4 ef bM ba bW fJ gn L1 h)
 (Py P K x4 ef bM ba bW fJ undef L1 h)):=aw (by kernel_rfl)
theorem agw:Pw P K x4 ef bM ba bW eA iF L1 h=
 (OP (bK eA (.bool true) iF) fun gQ=>
 Px P K x4 ef bM ba bW gQ L1 h):=aw (by kernel_rfl)
theorem agv:Pv P K x4 ef bM ba bW eA L1 h=
 (bU eA false
 (OP (aE 0 ef) fun gF=>
 OP (aE 1 gF) fun iE=>
 OP (af false 1 h iE) fun kH=>
 OP (ah .lss kH (.int .i64 (0))) fun iF=>
 Pw P K x4 ef bM ba bW eA iF L1 h)
 (Pw P K x4 ef bM ba bW eA undef L1 h)):=aw (by kernel_rfl)
theorem agu:Pu P K x4 ef bM ba bW iR dL L1 h=
 (OP (bK iR (.bool true) dL) fun gP=>
 Pv P K x4 ef bM ba bW gP L1 h):=aw (by kernel_rfl)
theorem awN:aeA P K x4 ef bM ba bW iR L1 h=
 (bU iR false
 (OP (aE 0 ef) fun cn=>
 OP (aE 0 cn) fun fh=>
 OP (af false 1 h fh) fun fU=>
 OP (ah .gtr fU (.int .i64 (8))) fun dL=>
 Pu P K x4 ef bM ba bW iR dL L1 h)
 (Pu P K x4 ef bM ba bW iR undef L1 h)):=aw (by kernel_rfl)
theorem agB:GC P K x4 bM ba bW kJ jI L1 h=
 (OP (bK kJ (.bool true) jI) fun qI=>
 aL qI
 (K (.tuple #[(.slice none 0 0),(.int .i64 (1))]) h)
 (OP (ah .add bW (.int .i64 (1))) fun ti=>
 ([x4,bM,ba]:List Value)=[x4,bM,ba]∧L1 [ti] h)):=aw (by kernel_rfl)
theorem awO:aeB P K x4 ef bM ba bW kJ L1 h=
 (bU kJ false
 (OP (af true 3 h ef) fun tg=>
 aj P 85 [tg,(.int .i64 (0))] h fun fV h_1=>
 aj P 75 [(.int .i64 (1))] h_1 fun hZ h_2=>
 aj P 86 [fV,hZ] h_2 fun th h_3=>
 OP (ah .neq th (.int .i64 (0))) fun jI=>
 GC P K x4 bM ba bW kJ jI L1 h_3)
 (GC P K x4 bM ba bW kJ undef L1 h)):=aw (by kernel_rfl)
theorem awM (x4 bM ba:Value) (L1:LQ) (bW:Value) (h:ae):Pt P K x4 bM ba L1 [bW] h=
 (OP (ah .lss bW ba) fun cg=>
 aL cg
 (OP (aS 3 bM bW) fun gj=>
 OP (af true 3 h gj) fun dS=>
 OH (aW 102 [(.int .i64 (0)),(.int .i64 (0)),(.slice none 0 0)] h) fun ef h_1=>
 OH (aJ 3 h_1 ef dS) fun _ h_2=>
 OP (aE 0 ef) fun er=>
 OP (aE 0 er) fun dE=>
 OP (af false 1 h_2 dE) fun eL=>
 OP (ah .lss eL (.int .i64 (1))) fun dK=>
 aeA P K x4 ef bM ba bW dK L1 h_2)
 (aeC P K x4 h)):=aw (by kernel_rfl)
theorem awP:aeC P K x4 h=
 (K (.tuple #[x4,(.int .i64 (0))]) h):=aw (by kernel_rfl)
theorem awK:aey P K l0 x4 h=
 (OP (aY l0) fun cQ=>
 OP (ah .lss cQ (.int .i64 (1))) fun dM=>
 aez P K l0 x4 dM h):=aw (by kernel_rfl)
def J4:Prop:=
 OP (aY l0) fun az=>
 cB [(.slice none 0 0),(.int .i64 (0))] h fun L1 xs hx=>
 aeD P K l0 l0 az L1 xs hx
theorem EH:ai P DX (aO [.tmp 2,.tmp 3] K) (bk [l0]) h=J4 P K l0 h:=by kernel_rfl
theorem f43 {K:VK} {l0:Value} {h:ae} (H:J4 Tryz.prog K l0 h):aj Tryz.prog 43 [l0] h K:=
 bD k43 (Nat.le_of_ble_eq_true rfl) ((EH Tryz.prog K l0 h).mpr H)
end
/-! F44: (pommel/mend.lucky).index -/
noncomputable section
variable (j0 x1 j2 x4 x6 x7 x8 x9 d10 ax dK fU : Value) (L1 : LQ) (xs : List Value) (h : ae)
def ack:=bp Tryz.prog 44 [[],[],[],[],[1,2,4,6,8,9],[7,10],[],[],[],[],[],[1,2,4,6,7,8,9,10,11,52],[1,2,4,6,7,8,9,10,11,52,56],[],[1,2,4,6,7,8,9,10],[4,6,7],[]]
@[irreducible] def DZ:=bw ack
@[irreducible] def D1:=DZ.r.r.r.l.r.l.l
@[irreducible] def Wv:=DZ.r.r.r.r
@[irreducible] def Wu:=D1.r.l.l.r.r.r.l.r.l
@[irreducible] def an6:=D1.r.l.l.r.r.r.r
@[irreducible] def Wt:=D1.r.r
@[irreducible] def an9:=Wv.l
@[irreducible] def an7:=Wu.r.l
@[irreducible] def an8:=Wt.l
theorem k44:ack=some (62,DZ,[.cell true 4 4,.tmp 5]):=by kernel_rfl
def IP (_P:Program) (K:VK):aq:=aO [.cell true 4 4,.tmp 5] K
def akJ:aq:=aC (ai P Wv (IP P K)) (IP P K)
def akK:aq:=bz 0 (akJ P K)
def CU:aq:=aC (fun f' aR=>(([1,2,4,6,8,9]:List Nat).map f':List Value)=[x1,j2,x4,x6,x8,x9]∧L1 (([7,10]:List Nat).map f') aR) (akK P K)
def akI:aq:=aC (ai P Wt (CU P K x1 j2 x4 x6 x8 x9 L1)) (CU P K x1 j2 x4 x6 x8 x9 L1)
def S4:aq:=bz 1 (akI P K x1 j2 x4 x6 x8 x9 L1)
def S5:aq:=aC (ai P an6 (S4 P K x1 j2 x4 x6 x8 x9 L1)) (S4 P K x1 j2 x4 x6 x8 x9 L1)
def PA:Prop:=au (ai P D1 (CU P K x1 j2 x4 x6 x8 x9 L1)) ([1,2,4,6,8,9]++[7,10]) ([x1,j2,x4,x6,x8,x9]++xs) h
def aeE:Prop:=au (ai P Wu (S5 P K x1 j2 x4 x6 x8 x9 L1)) [1,2,4,6,7,8,9,10,11,52] [x1,j2,x4,x6,x7,x8,x9,d10,ax,dK] h
def B0:Prop:=au (ai P an7 (S5 P K x1 j2 x4 x6 x8 x9 L1)) [1,2,4,6,7,8,9,10,11,52,56] [x1,j2,x4,x6,x7,x8,x9,d10,ax,dK,fU] h
def GD:Prop:=au (ai P an8 (CU P K x1 j2 x4 x6 x8 x9 L1)) [1,2,4,6,7,8,9,10] [x1,j2,x4,x6,x7,x8,x9,d10] h
def aeF:Prop:=au (ai P an9 (IP P K)) [4,6,7] [x4,x6,x7] h
theorem agC:B0 P K x1 j2 x4 x6 x7 x8 x9 d10 ax dK fU L1 h=
 (OP (bK dK (.bool true) fU) fun dL=>
 aL dL
 (OP (af true 4 h ax) fun gP=>
 OH (aJ 4 h x6 gP) fun _ h_1=>
 GD P K x1 j2 x4 x6 d10 x8 x9 d10 L1 h_1)
 (GD P K x1 j2 x4 x6 x7 x8 x9 d10 L1 h)):=aw (by kernel_rfl)
theorem awR:aeE P K x1 j2 x4 x6 x7 x8 x9 d10 ax dK L1 h=
 (bU dK false
 (OP (af true 4 h ax) fun iR=>
 OP (af true 4 h x6) fun cn=>
 aj P 86 [iR,cn] h fun fh h_1=>
 OP (ah .gtr fh (.int .i64 (0))) fun fU=>
 B0 P K x1 j2 x4 x6 x7 x8 x9 d10 ax dK fU L1 h_1)
 (B0 P K x1 j2 x4 x6 x7 x8 x9 d10 ax dK undef L1 h)):=aw (by kernel_rfl)
theorem awS:GD P K x1 j2 x4 x6 x7 x8 x9 d10 L1 h=
 (OP (ah .add d10 (.int .i64 (1))) fun bV=>
 ([x1,j2,x4,x6,x8,x9]:List Value)=[x1,j2,x4,x6,x8,x9]∧L1 [x7,bV] h):=aw (by kernel_rfl)
theorem awU (x1 j2 x4 x6 x8 x9:Value) (L1:LQ) (x7 d10:Value) (h:ae):PA P K x1 j2 x4 x6 x8 x9 L1 [x7,d10] h=
 (OP (aE 0 j2) fun aX=>
 OP (aE 0 aX) fun bH=>
 OP (af false 1 h bH) fun aN=>
 OP (ah .sub aN x1) fun aT=>
 OP (ah .leq d10 aT) fun bf=>
 aL bf
 (OP (af true 4 h x8) fun bC=>
 (True)∧
 OP (aE 2 j2) fun bL=>
 OP (af false 1 h bL) fun cF=>
 (True)∧
 OP (ah .add x1 d10) fun bZ=>
 OP (ah .sub bZ (.int .i64 (1))) fun cP=>
 OP (aS 4 cF cP) fun bY=>
 OP (af true 4 h bY) fun cM=>
 (True)∧
 aj P 87 [bC,cM] h fun dJ h_1=>
 (True)∧
 OH (aJ 4 h_1 x8 dJ) fun _ h_2=>
 (True)∧
 OP (af true 4 h_2 x9) fun cm=>
 (True)∧
 OP (af true 3 h_2 j2) fun dc=>
 (True)∧
 OP (ah .add x1 d10) fun cG=>
 OP (ah .sub cG (.int .i64 (1))) fun di=>
 aj P 85 [dc,di] h_2 fun dB h_3=>
 (af true 4 h_3 x9=some cm∧True)∧
 aj P 87 [cm,dB] h_3 fun dm h_4=>
 (True)∧
 OH (aJ 4 h_4 x9 dm) fun _ h_5=>
 (True)∧
 OH (aW 107 [(.bool false),(.slice none 0 0),(.bool false),(.slice none 0 0)] h_5) fun ax h_6=>
 OP (ee h_6 ax) fun u=>
 (True)∧
 OP (aE 0 j2) fun dR=>
 OP (aE 1 dR) fun bM=>
 OP (af false 1 h_6 bM) fun ba=>
 (af false 1 h_5 bM=some ba∧True)∧
 aj P 75 [ba] h_6 fun bW h_7=>
 (ee h_7 ax=some u∧True)∧
 OP (af true 4 h_7 x8) fun cg=>
 (af true 4 h_5 x8=some cg∧af true 4 h_6 x8=some cg∧True)∧
 aj P 88 [bW,cg] h_7 fun gj h_8=>
 (ee h_8 ax=some u∧True)∧
 OP (af true 4 h_8 x9) fun dS=>
 (af true 4 h_5 x9=some dS∧af true 4 h_6 x9=some dS∧af true 4 h_7 x9=some dS∧True)∧
 aj P 77 [gj,dS] h_8 fun er h_9=>
 (ee h_9 ax=some u∧True)∧
 OH (aJ 4 h_9 ax er) fun _ h_10=>
 (True)∧
 OP (ah .eql x7 (.int .i64 (0))) fun eL=>
 aeE P K x1 j2 x4 x6 x7 x8 x9 d10 ax eL L1 h_10)
 (aeF P K x4 x6 x7 h)):=aw (by kernel_rfl)
theorem awT:aeF P K x4 x6 x7 h=
 (OP (af true 4 h x6) fun gF=>
 OH (aJ 4 h x4 gF) fun _ h_1=>
 OP (af true 4 h_1 x4) fun r0=>
 K (.tuple #[r0,x7]) h_1):=aw (by kernel_rfl)
def J5:Prop:=
 OH (bc 102 h j0) fun j2 h_1=>
 OH (aW 107 [(.bool false),(.slice none 0 0),(.bool false),(.slice none 0 0)] h_1) fun x4 h_2=>
 aj P 75 [(.int .i64 (0))] h_2 fun az h_3=>
 OH (aW 107 [(.bool false),(.slice none 0 0),(.bool false),(.slice none 0 0)] h_3) fun x6 h_4=>
 OH (aJ 4 h_4 x6 az) fun _ h_5=>
 aj P 75 [(.int .i64 (0))] h_5 fun ay h_6=>
 aj P 75 [(.int .i64 (0))] h_6 fun aP h_7=>
 OH (aW 107 [(.bool false),(.slice none 0 0),(.bool false),(.slice none 0 0)] h_7) fun x8 h_8=>
 OH (aW 107 [(.bool false),(.slice none 0 0),(.bool false),(.slice none 0 0)] h_8) fun x9 h_9=>
 OH (aJ 4 h_9 x8 ay) fun _ h_10=>
 OH (aJ 4 h_10 x9 aP) fun _ h_11=>
 cB [(.int .i64 (0)),(.int .i64 (1))] h_11 fun L1 xs hx=>
 PA P K x1 j2 x4 x6 x8 x9 L1 xs hx
theorem e44:ai P DZ (aO [.cell true 4 4,.tmp 5] K) (bk [j0,x1]) h=J5 P K j0 x1 h:=by kernel_rfl
theorem f44 {K:VK} {j0 x1:Value} {h:ae} (H:J5 Tryz.prog K j0 x1 h):aj Tryz.prog 44 [j0,x1] h K:=
 bD k44 (Nat.le_of_ble_eq_true rfl) ((e44 Tryz.prog K j0 x1 h).mpr H)
end
end Go.Proofs.YtelmdbpaoifmoaaGreat

namespace Go.Proofs.YtelmdbpaoifmoaaGreat
open Go.Sim

def mj (h:ae) (v:Value) (cs:List (List (List UInt8)×Int)):Prop:=
 ∃rows,RS h 24 2 v rows∧rows.length=cs.length∧∀(k:Nat) (row:List Value) (c:List (List UInt8)×Int),rows[k]?=some row→cs[k]?=some c→∃vs,row=[vs,I c.2]∧SS h vs c.1

theorem mj.mono {h h':ae} {v:Value} {cs:List (List (List UInt8)×Int)} (x:EX h h') (p:mj h v cs):mj h' v cs:=
 let ⟨rows,a,b,c⟩:=p;⟨rows,a.mono x,b,fun k row q h1 h2=>let ⟨vq,e,m⟩:=c k row q h1 h2;⟨vq,e,m.mono x⟩⟩
theorem mj.len {h:ae} {v:Value} {cs:List (List (List UInt8)×Int)} (p:mj h v cs):aY v=some (I cs.length):=by
 obtain ⟨rows,a,b,_⟩:=p;rw [←b];exact a.len
theorem mj.get {h:ae} {v:Value} {cs:List (List (List UInt8)×Int)} (p:mj h v cs) {k:Nat} (hk:k<cs.length):∃i o vs,aS 2 v (I k)=some (pt i o)∧af true 2 h (pt i o)=some (.agg #[vs,I cs[k].2])∧SS h vs cs[k].1:=by
 obtain ⟨rows,a,b,c⟩:=p
 have b7:k<rows.length:=by omega
 obtain ⟨i,o,cells,g1,g2,g3,g4⟩:=a.get b7
 obtain ⟨vq,e,m⟩:=c k _ _ (List.getElem?_eq_getElem b7) (List.getElem?_eq_getElem hk)
 have:=Qy g2 g3 g4
 rw [e] at this
 exact ⟨i,o,vq,g1,this,m⟩

def sK (qs:List Rat):Bool:=decide ((qs.getD (qs.length-1) 0).num=0)
def dw (qs:List Rat) (w:Int):Bool:=(((decide (1≤qs.length)&&decide (qs.length≤8))&&(decide (0≤w)&&decide (w≤50)))&& !sK qs)&&(!qs.any eP&&decide (ep qs=1))

theorem AO {qs:List Rat} (h:qs.any eP=false):∀q∈qs,cA 4 q:=by
 intro q hq
 have:eP q=false:=by
  cases e:eP q with
  | false=>rfl
  | true=>rw [List.any_eq_true.2 ⟨q,hq,e⟩] at h;cases h
 unfold eP rU at this
 rw [Bool.or_eq_false_iff,Bool.not_eq_false',Bool.and_eq_true,decide_eq_true_eq,decide_eq_true_eq] at this
 exact this.2

theorem ac7:cA 1 ((1:Int):Rat):=by constructor <;> decide

theorem XR (p q:Rat):decide (mA p q=0)=decide (p=q):=by
 rw [decide_eq_decide]
 unfold mA
 constructor
 ·intro h
  split at h
  ·assumption
  ·split at h <;> omega
 ·intro h;rw [if_pos h]

section
variable {h : ae} {K : Value → ae → Prop}

theorem aiH {v0 v:Value} {cs:List (List Rat×Int)} (hv:LK h v cs) (hn:cs.length≤3) (hs:∀c∈cs,(∀q∈c.1,cA uu q)∧c.1.length≤1000)
  (ky:cs.all (fun c=>dw c.1 c.2)=false→∀h',EX h h'→K (.tuple #[.slice none 0 0,I 1]) h')
  (hk:cs.all (fun c=>dw c.1 c.2)=true→∀h',EX h h'→K (.tuple #[v0,I 0]) h'):
  cB [(.int .i64 (0))] h fun L1 xs hx=>Pt Tryz.prog K v0 v (I cs.length) L1 xs hx:=by
 refine db (σ:=Nat×ae) (fun q=>[I q.1]) (fun q=>q.2) (fun q=>q.1≤cs.length∧EX h q.2∧(cs.take q.1).all (fun c=>dw c.1 c.2)=true) (fun q=>cs.length-q.1) (0,h) rfl rfl ⟨Nat.zero_le _,EX.refl _,by simp⟩ ?_
 rintro ⟨i,g⟩ ⟨hi,xg,eQ⟩ L hL
 simp only at hi xg eQ hL⊢
 rw [awM]
 simp only [cK,ag,bS]
 refine ⟨fun aB=>?_,fun cH=>?_⟩
 rotate_left
 ·have hM:i=cs.length:=by omega
  subst hM
  rw [List.take_length] at eQ
  rw [awP]
  exact hk eQ g xg
 have bF:i<cs.length:=by omega
 obtain ⟨b,o,vq,u1,u2,u3⟩:=(hv.mono xg).get bF
 obtain ⟨sq,sl⟩:=hs _ (List.getElem_mem bF)
 have nok:dw cs[i].1 cs[i].2=false→cs.all (fun c=>dw c.1 c.2)=false:=by
  intro hb
  cases e:cs.all (fun c=>dw c.1 c.2) with
  | false=>rfl
  | true=>rw [List.all_eq_true] at e;rw [e _ (List.getElem_mem bF)] at hb;cases hb
 have yok:dw cs[i].1 cs[i].2=true→(cs.take (i+1)).all (fun c=>dw c.1 c.2)=true:=by
  intro hb
  rw [List.take_succ_eq_append_getElem bF,List.all_append,eQ]
  simpa using hb
 generalize cs[i].1=qs at*
 generalize cs[i].2=w at*
 obtain ⟨rq,rs,_,_⟩:=id u3.1
 obtain ⟨t1,t2⟩:=rs.one
 have e7:aW 102 [(.int .i64 (0)),(.int .i64 (0)),(.slice none 0 0)] g=some (pt g.length 0,g++[.arr 102 [I 0,I 0,.slice none 0 0]]):=rfl
 simp only [u1,u2,ag,e7,aD]
 have y1:EX g (g++[.arr 102 [I 0,I 0,.slice none 0 0]]):=EX.append _ _
 have j1:(g++[ak.arr 102 [I 0,I 0,.slice none 0 0]])[g.length]?=some (.arr 102 [I 0,I 0,.slice none 0 0]):=bO
 generalize g++[ak.arr 102 [I 0,I 0,.slice none 0 0]]=ga at y1 j1⊢
 have st:aJ 3 ga (pt g.length 0) (.agg #[I qs.length,I w,vq])=some (undef,ga.set g.length (.arr 102 [I qs.length,I w,vq])):=by
  simp [aJ,uk,j1,gW,cZ,Value.cells,setAt]
 simp only [st,aD]
 have y2:EX g (ga.set g.length (.arr 102 [I qs.length,I w,vq])):=y1.set (Nat.le_refl _) _
 have j2:(ga.set g.length (.arr 102 [I qs.length,I w,vq]))[g.length]?=some (.arr 102 [I qs.length,I w,vq]):=cJ j1
 generalize ga.set g.length (.arr 102 [I qs.length,I w,vq])=gb at y2 j2⊢
 have xb:=xg.trans y2
 have l0:∀{g':ae},EX gb g'→af false 1 g' (pt g.length 0)=some (I qs.length):=fun x=>by simp [af,aQ,x.get j2,ck]
 have l1:∀{g':ae},EX gb g'→af false 1 g' (pt g.length 1)=some (I w):=fun x=>by simp [af,aQ,x.get j2,ck]
 have l2:∀{g':ae},EX gb g'→af false 1 g' (pt g.length 2)=some vq:=fun x=>by simp [af,aQ,x.get j2,ck]
 have la:∀{g':ae},EX gb g'→af true 3 g' (pt g.length 0)=some (.agg #[I qs.length,I w,vq]):=fun x=>by simp [af,aQ,x.get j2,ck]
 have nU:∀{g':ae},EX gb g'→QL g' vq qs:=fun x=>u3.1.mono (y2.trans x)
 -- it may not be
 have bad:∀{g':ae},EX gb g'→dw qs w=false→K (.tuple #[.slice none 0 0,.int .i64 (1)]) g':=fun x hb=>ky (nok hb) _ (xb.trans x)
 have Ug:∀{g':ae} (t u:Value),EX gb g'→dw qs w=false→bK t (.bool true) u=some (B true)→GC Tryz.prog K v0 v (I cs.length) (I i) t u L g':=by
  intro g' t u x hb ht
  rw [agB,ht]
  simp only [ag,dd]
  exact bad x hb
 have Uf:∀{g':ae} (t u:Value),EX gb g'→dw qs w=false→bK t (.bool true) u=some (B true)→GB Tryz.prog K v0 (pt g.length 0) v (I cs.length) (I i) t u L g':=by
  intro g' t u x hb ht
  rw [agA,ht]
  simp only [ag,dd]
  exact bad x hb
 have Ue:∀{g':ae},EX gb g'→dw qs w=false→Pz Tryz.prog K v0 (pt g.length 0) v (I cs.length) (I i) (B true) L g':=by
  intro g' x hb
  rw [agz]
  simp only [eY]
  exact Uf _ _ x hb rfl
 have Ud:∀{g':ae},EX gb g'→dw qs w=false→Px Tryz.prog K v0 (pt g.length 0) v (I cs.length) (I i) (B true) L g':=by
  intro g' x hb
  rw [agx]
  simp only [eY]
  rw [agy]
  simp only [dh,ag]
  exact Ue x hb
 have Uc:∀{g':ae},EX gb g'→dw qs w=false→Pv Tryz.prog K v0 (pt g.length 0) v (I cs.length) (I i) (B true) L g':=by
  intro g' x hb
  rw [agv]
  simp only [eY]
  rw [agw]
  simp only [dh,ag]
  exact Ud x hb
 simp only [bN,Nat.add_zero,ag,l0 (EX.refl gb),cK]
 rw [awN]
 by_cases h1:1≤qs.length
 rotate_left
 ·have hb:dw qs w=false:=by unfold dw;rw [decide_eq_false h1];rfl
  rw [decide_eq_true (show (qs.length:Int)<1 by omega)]
  simp only [eY]
  rw [agu]
  simp only [dh,ag]
  exact Uc (EX.refl gb) hb
 rw [decide_eq_false (show ¬(qs.length:Int)<1 by omega)]
 simp only [dF,bN,Nat.add_zero,ag,l0 (EX.refl gb),eT]
 rw [agu]
 simp only [cV,ag]
 by_cases h8:qs.length≤8
 rotate_left
 ·have hb:dw qs w=false:=by unfold dw;rw [decide_eq_false h8];simp
  rw [decide_eq_true (show (8:Int)<(qs.length:Int) by omega)]
  exact Uc (EX.refl gb) hb
 rw [decide_eq_false (show ¬(8:Int)<(qs.length:Int) by omega),agv]
 simp only [dF,bN,Nat.add_zero,Nat.zero_add,ag,l1 (EX.refl gb),cK]
 rw [agw]
 simp only [cV,ag]
 by_cases w0:0≤w
 rotate_left
 ·have hb:dw qs w=false:=by unfold dw;rw [decide_eq_false w0];simp
  rw [decide_eq_true (show w<0 by omega)]
  exact Ud (EX.refl gb) hb
 rw [decide_eq_false (show ¬w<0 by omega),agx]
 simp only [dF,bN,Nat.add_zero,Nat.zero_add,ag,l1 (EX.refl gb),eT]
 rw [agy]
 simp only [cV,ag]
 by_cases tc:w≤50
 rotate_left
 ·have hb:dw qs w=false:=by unfold dw;rw [decide_eq_false tc];simp
  rw [decide_eq_true (show 50<w by omega)]
  exact Ue (EX.refl gb) hb
 rw [decide_eq_false (show ¬50<w by omega),agz]
 have w1:IntKind.wrap .i64 ((qs.length:Int)-1)=((qs.length-1:Nat):Int):=by rw [wrap64 (by omega) (by omega)];omega
 obtain ⟨b5,o5,r5,s1,s2,s3⟩:=(nU (EX.refl gb)).get (k:=qs.length-1) (by omega)
 simp only [dF,bN,Nat.add_zero,Nat.zero_add,ag,l2 (EX.refl gb),l0 (EX.refl gb),eW,w1,s1,s2]
 refine RY s3 ?_
 intro g1 x1
 have hz:decide (iN (qs[qs.length-1]'(by omega)).num=0)=sK qs:=by
  unfold sK
  rw [List.getD_eq_getElem?_getD,List.getElem?_eq_getElem (by omega),Option.getD_some,decide_eq_decide]
  unfold iN
  split
  ·simp [*]
  ·split <;> simp [*]
 simp only [fW,ag,hz]
 cases Zs:sK qs with
 | true=>
  have hb:dw qs w=false:=by unfold dw;rw [Zs];simp
  exact Uf _ _ x1 hb rfl
 | false=>
 rw [agA]
 simp only [cV,ag,c7,bN,Nat.zero_add,l2 x1]
 refine C82 (nU x1) sq sl ?_
 intro g2 x2
 have az:=x1.trans x2
 rw [awO]
 cases gr:qs.any eP with
 | true=>
  have hb:dw qs w=false:=by unfold dw;rw [gr];simp
  simp only [eY]
  exact Ug _ _ az hb rfl
 | false=>
 simp only [dF,la az,ag]
 have s4:=AO gr
 refine RZ (age:=0) (nU az) (Nat.zero_le _) s4 (by omega) ?_
 intro r3 g3 x3 yI
 rw [List.drop_zero] at yI
 have ssz:=xl s4 qs.length (Nat.le_refl _)
 rw [List.take_length] at ssz
 refine xw (n:=1) (by decide) (by decide) ?_
 intro r4 g4 x4 wo
 refine R4 (yI.mono x4) wo ssz ac7 (by omega) ?_
 intro g5 x5
 have a9:=az.trans (x3.trans (x4.trans x5))
 have hc:(!decide (mA (ep qs) ((1:Int):Rat)=0))= !decide (ep qs=1):=by rw [XR];rfl
 simp only [nI,ag,hc]
 have aA:dw qs w=decide (ep qs=1):=by
  unfold dw
  rw [decide_eq_true h1,decide_eq_true h8,decide_eq_true w0,decide_eq_true tc,Zs,gr];simp
 by_cases hO:ep qs=1
 ·rw [decide_eq_true hO] at aA⊢
  rw [agB]
  simp only [Bool.not_true,cV,ag,c7,cC,inc i (by omega),true_and]
  exact hL (i+1,g5) ⟨by show i+1≤_;omega,xb.trans a9,yok aA⟩ (by show cs.length-(i+1)<cs.length-i;omega)
 ·rw [decide_eq_false hO] at aA⊢
  exact Ug _ _ a9 aA rfl

end
end Go.Proofs.YtelmdbpaoifmoaaGreat


namespace Go.Proofs.YtelmdbpaoifmoaaGreat
open Go.Sim Go.ChangeShapes Go.WideShapes Go.ChangeAt Go.RowKit

set_option maxRecDepth 100000
theorem Lt:Tryz.prog.cellsOf 27=1:=by kernel_rfl
theorem apD:Tryz.prog.cellsOf 22=1:=by kernel_rfl
theorem XQ:Tryz.prog.cellsOf 24=2:=by kernel_rfl
theorem azI:Tryz.prog.underlying 22=some (.slice 27):=by kernel_rfl
theorem ahG:Tryz.prog.underlying 27=some .string:=by kernel_rfl
section
variable {H : Type} {enc : TypeId × Value → H} {W : World} {ρ : aI} {h : ae}

theorem azG:∀n cs (y:DataW H×List MemPlace),DataW.trod enc Tryz.prog W 0 (fun _=>true) true n 27 cs=some y→cs.length=Tryz.prog.cellsOf 27∧∀x∈cs,eR x=true:=by
 intro n cs y h
 obtain ⟨s,rfl,_,_⟩:=DataW.trod_string ahG h
 exact ⟨by rw [Lt];rfl,by simp [eR]⟩

theorem azq:∀{n:Nat} {xs:List Value},xs.length=n*1→(∀i,i<n→∃m,∃y:DataW H×List MemPlace,DataW.trod enc Tryz.prog W 0 (fun _=>true) true m 27 ((xs.drop (i*1)).take 1)=some y)→∃ls:List (List UInt8),ls.length=n∧xs=ls.map S:=by
 intro n
 induction n with
 | zero=>intro xs hx _;exact ⟨[],rfl,by simpa using hx⟩
 | succ n ih=>
  intro xs hx hy
  cases xs with
  | nil=>simp at hx
  | cons x xs=>
   obtain ⟨m,y,h0⟩:=hy 0 (by omega)
   obtain ⟨s,e1,_⟩:=DataW.trod_string ahG h0
   have ex:x=.string s:=by simpa using e1
   obtain ⟨ls,l1,l2⟩:=ih (xs:=xs) (by simpa using hx) fun i hi=>by
    obtain ⟨m,y,h1⟩:=hy (i+1) (by omega)
    refine ⟨m,y,?_⟩
    simpa using h1
   refine ⟨Go.Sim.bytes s::ls,by simp [l1],?_⟩
   rw [List.map_cons,alV,←ex,←l2]

theorem aqR {fuel:Nat} {v:Value} {x:DataW H×List MemPlace} (hd:DataW.trod enc Tryz.prog W 0 (fun _=>true) true fuel 22 [v]=some x) (HR:aU Tryz.prog ρ h W) (iM:ma h):
  ∃(ar:aI) (g:ae) (v':Value) (ls:List (List UInt8)),ρ.le ar∧aU Tryz.prog ar (h++g) W∧ma (h++g)∧av ar v' v∧fw v'=true∧SS (h++g) v' ls:=by
 obtain ⟨ar,g,v',n,xs,e1,e2,e3,e4,e5,e6,e7,e8,e9⟩:=aqP (P:=Tryz.prog) (W:=W) (enc:=enc) (ρ:=ρ) (h:=h) azI (by rw [Lt];omega) azG hd HR iM
 rw [Lt] at e7 e9
 obtain ⟨ls,q1,rfl⟩:=azq e7 e9
 subst q1
 refine ⟨ar,g,v',ls,e1,e2,e3,e4,e5,?_⟩
 rcases e6 with ⟨hv,h0⟩ | ⟨i,rfl,h0⟩
 ·have:ls=[]:=List.length_eq_zero_iff.1 h0
  subst this
  rcases hv with rfl | rfl <;> exact ⟨rfl,fun k hk=>by simp at hk⟩
 ·rcases h0 with h0 | h0
  ·have:ls=[]:=List.length_eq_zero_iff.1 h0
   subst this
   exact ⟨rfl,fun k hk=>by simp at hk⟩
  ·exact SS.sl h0

theorem apF {n:Nat} {cs:List Value} {y:DataW H×List MemPlace} (hd:DataW.trod enc Tryz.prog W 0 (fun _=>true) true n 24 cs=some y) (HR:aU Tryz.prog ρ h W) (iM:ma h):
  ∃(ar:aI) (g:ae) (row:List Value) (c:List (List UInt8)×Int),ρ.le ar∧aU Tryz.prog ar (h++g) W∧ma (h++g)∧bn ar row cs∧(∀x∈row,fw x=true)∧row.length=Tryz.prog.cellsOf 24∧∃vs,row=[vs,I c.2]∧SS (h++g) vs c.1:=by
 obtain ⟨y0,y1,m,_,hl,h0,h1⟩:=trod_struct2 Tryz.underlying24 hd
 simp only [XQ,apD,apE] at hl h0 h1
 obtain ⟨c0,c1,rfl⟩:=at6 hl
 simp at h0 h1
 obtain ⟨w,e1,_,_⟩:=DataW.trod_int Tryz.underlying3 h1
 simp at e1
 subst e1
 obtain ⟨ar,g,v',ls,a1,a2,a3,a4,a5,a6⟩:=aqR h0 HR iM
 refine ⟨ar,g,[v',I w],(ls,w),a1,a2,a3,.cons a4 (.cons (.int _ _) .nil),?_,by rw [XQ];rfl,v',rfl,a6⟩
 intro x hx
 rcases List.mem_cons.1 hx with rfl | hx
 ·exact a5
 ·rw [List.mem_singleton.1 hx];rfl

theorem aqO {b:Nat} {v:Value} {d:DataW H} {ps:List MemPlace} (aA:Value.okWide Tryz.prog W .any b 24 v) (hd:DataW.Trod enc Tryz.prog W 0 (fun _=>true) true 24 v d ps) (HR:aU Tryz.prog ρ h W) (iM:ma h):
  ∃(ar:aI) (g:ae) (vs:Value) (ls:List (List UInt8)) (w:Int),ρ.le ar∧aU Tryz.prog ar (h++g) W∧ma (h++g)∧av ar (.agg #[vs,I w]) v∧SS (h++g) vs ls:=by
 simp only [Value.okWide,Tryz.underlying24] at aA
 obtain ⟨cs,rfl,_⟩:=aA
 obtain ⟨fuel,hf⟩:=hd
 simp only [Value.cells] at hf
 obtain ⟨ar,g,row,c,a1,a2,a3,a4,a5,a6,vs,rfl,a7⟩:=apF hf HR iM
 exact ⟨ar,g,vs,c.1,c.2,a1,a2,a3,av.xT (xs':=cs.toList) a4 a5,a7⟩

end
end Go.Proofs.YtelmdbpaoifmoaaGreat


namespace Go.Proofs.YtelmdbpaoifmoaaGreat
open Go.Sim

def lW (cs:List (List (List UInt8)×Int)):List (List Rat×Int):=cs.map fun c=>(c.1.map bu,c.2)
def iJ (cs:List (List (List UInt8)×Int)):Bool:=cs.all fun c=>c.1.all isNum
def pH (cs:List (List (List UInt8)×Int)):Bool:=(decide (1≤cs.length)&&decide (cs.length≤3))&&(lW cs).all fun c=>dw c.1 c.2

section
variable {h : ae} {K : Value → ae → Prop}

theorem C43 {v:Value} {cs:List (List (List UInt8)×Int)} (hv:mj h v cs) (hl:∀c∈cs,c.1.length≤1000∧∀s∈c.1,s.length≤700) (hn:cs.length≤1000)
  (sj:iJ cs=false→∀h',EX h h'→K (.tuple #[.slice none 0 0,I 2]) h')
  (ky:iJ cs=true→pH cs=false→∀h',EX h h'→K (.tuple #[.slice none 0 0,I 1]) h')
  (hk:iJ cs=true→pH cs=true→∀v' h',EX h h'→LK h' v' (lW cs)→K (.tuple #[v',I 0]) h'):aj Tryz.prog 43 [v] h K:=by
 refine f43 ?_
 unfold J4
 have hlen:=hv.len
 simp only [hlen,ag]
 refine db (σ:=Nat×Value×ae) (fun q=>[q.2.1,I q.1]) (fun q=>q.2.2) (fun q=>q.1≤cs.length∧EX h q.2.2∧iJ (cs.take q.1)=true∧nF h.length q.2.2 q.2.1 (lW (cs.take q.1))) (fun q=>cs.length-q.1)
  (0,.slice none 0 0,h) rfl rfl ⟨Nat.zero_le _,EX.refl _,by simp [iJ],by simpa [lW] using nF.start h.length h⟩ ?_
 rintro ⟨i,vo,g⟩ ⟨hi,xg,kS,own⟩ L hL
 simp only at hi xg kS own hL⊢
 rw [awQ]
 simp only [cK,ag,bS]
 refine ⟨fun aB=>?_,fun cH=>?_⟩
 ·have bF:i<cs.length:=by omega
  obtain ⟨b,o,vs,u1,u2,u3⟩:=(hv.mono xg).get bF
  obtain ⟨l1,l2⟩:=hl _ (List.getElem_mem bF)
  have e7:aW 24 [(.slice none 0 0),(.int .i64 (0))] g=some (pt g.length 0,g++[.arr 24 [.slice none 0 0,I 0]]):=rfl
  simp only [u1,u2,ag,e7,aD]
  have y1:EX g (g++[.arr 24 [.slice none 0 0,I 0]]):=EX.append _ _
  have j1:(g++[ak.arr 24 [.slice none 0 0,I 0]])[g.length]?=some (.arr 24 [.slice none 0 0,I 0]):=bO
  generalize g++[ak.arr 24 [.slice none 0 0,I 0]]=ga at y1 j1⊢
  rw [dX j1]
  simp only [aD]
  have y2:EX g (ga.set g.length (.arr 24 [vs,I cs[i].2])):=y1.set (Nat.le_refl _) _
  have j2:(ga.set g.length (.arr 24 [vs,I cs[i].2]))[g.length]?=some (.arr 24 [vs,I cs[i].2]):=cJ j1
  generalize ga.set g.length (.arr 24 [vs,I cs[i].2])=gb at y2 j2⊢
  rw [cf j2,ag]
  refine C80 (u3.mono y2) l2 l1 (fun eQ vq g1 bq x1 ho=>?_) (fun cU g1 x1=>?_)
  ·have hq:=ho.qb
   have hlq:=hq.1.len
   obtain ⟨rq,rs,_,_⟩:=id hq.1
   have pg:af false 1 g1 (pt g.length 1)=some (I cs[i].2):=by simp [af,aQ,x1.get j2,ck]
   have bl:∀a c:Int,cN [(.int .i64 (0)),(.int .i64 (0))] [(0,1,I a),(1,1,I c)]=some (.agg #[I a,I c]):=fun _ _=>rfl
   have bl2:∀a c:Int,cN [(.int .i64 (0)),(.int .i64 (0)),(.slice none 0 0)] [(0,2,.agg #[I a,I c]),(2,1,vq)]=some (.agg #[I a,I c,vq]):=fun a c=>by
    rcases rs.2 with ⟨e,_⟩ | ⟨i,o,e,_⟩ <;> rw [e] <;> rfl
   simp only [dY,fg,fy,ag,nC,Bool.not_true,c7,hlq,bN,Nat.zero_add,pg,bl,bl2]
   have x2:=y2.trans x1
   refine (own.ex x2).app (xg.trans x2) hq rfl (by unfold lW;rw [List.length_map,List.length_take];omega) ?_
   intro v' g3 x3 _ BT
   simp only [cC,ag,inc i (by omega),true_and]
   refine hL (i+1,v',g3) ⟨by show i+1≤_;omega,x3,?_,?_⟩ (by show cs.length-(i+1)<cs.length-i;omega)
   ·show iJ (cs.take (i+1))=true
    unfold iJ at kS⊢
    rw [List.take_succ_eq_append_getElem bF,List.all_append,kS]
    simpa using eQ
   ·show nF h.length g3 v' (lW (cs.take (i+1)))
    rw [List.take_succ_eq_append_getElem bF]
    have e:lW (cs.take i++[cs[i]])=lW (cs.take i)++[(cs[i].1.map bu,cs[i].2)]:=by unfold lW;rw [List.map_append];rfl
    rw [e]
    exact BT
  ·simp only [dY,fg,fy,ag,nC,Bool.not_false,dd]
   refine sj ?_ _ (xg.trans (y2.trans x1))
   cases he:iJ cs with
   | false=>rfl
   | true=>
    unfold iJ at he
    rw [List.all_eq_true] at he
    rw [he _ (List.getElem_mem bF)] at cU
    cases cU
 ·have hM:i=cs.length:=by omega
  subst hM
  rw [List.take_length] at kS own
  have ky:=ky kS
  have hk:=hk kS
  have lk:=own.lk
  have jl:(lW cs).length=cs.length:=by simp [lW]
  have llk:=lk.len
  rw [jl] at llk
  unfold pH at ky hk
  rw [awK]
  simp only [hlen,ag,cK]
  rw [awL]
  by_cases h1:1≤cs.length
  rotate_left
  ·rw [decide_eq_false h1] at ky
   rw [decide_eq_true (show (cs.length:Int)<1 by omega)]
   simp only [eY]
   rw [agt]
   simp only [dh,ag,dd]
   exact ky rfl g xg
  rw [decide_eq_true h1] at ky hk
  rw [decide_eq_false (show ¬(cs.length:Int)<1 by omega)]
  simp only [dF,hlen,ag,eT]
  rw [agt]
  simp only [cV,ag]
  by_cases h3:cs.length≤3
  rotate_left
  ·rw [decide_eq_false h3] at ky
   rw [decide_eq_true (show (3:Int)<(cs.length:Int) by omega)]
   simp only [dd]
   exact ky rfl g xg
  rw [decide_eq_true h3] at ky hk
  rw [decide_eq_false (show ¬(3:Int)<(cs.length:Int) by omega)]
  simp only [c7,llk,ag]
  rw [←jl]
  refine aiH lk (by omega) (fun c hc=>?_) (fun ha h' x=>ky (by rw [ha];rfl) h' (xg.trans x)) (fun ha h' x=>hk (by rw [ha];rfl) vo h' (xg.trans x) (lk.mono x))
  obtain ⟨d,hd,rfl⟩:=List.mem_map.1 hc
  obtain ⟨l1,l2⟩:=hl d hd
  refine ⟨fun q hq=>?_,by simpa using l1⟩
  obtain ⟨s,hs,rfl⟩:=List.mem_map.1 hq
  exact ax9 (l2 s hs)

end
end Go.Proofs.YtelmdbpaoifmoaaGreat


namespace Go.Proofs.YtelmdbpaoifmoaaGreat
open Go.Sim

def Cell (g:ae) (i:Nat) (q:Rat):Prop:=∃a b c d,g[i]?=some (.arr 107 [B a,b,B c,d])∧RV g (.agg #[B a,b,B c,d]) q

theorem Cell.mono {g g':ae} {i:Nat} {q:Rat} (x:EX g g') (p:Cell g i q):Cell g' i q:=let ⟨a,b,c,d,e,r⟩:=p;⟨a,b,c,d,x.get e,r.mono x⟩
theorem Cell.lt {g:ae} {i:Nat} {q:Rat} (p:Cell g i q):i<g.length:=let ⟨_,_,_,_,e,_⟩:=p;(List.getElem?_eq_some_iff.1 e).1
theorem Cell.load {g:ae} {i:Nat} {q:Rat} (p:Cell g i q):∃v,af true 4 g (pt i 0)=some v∧RV g v q:=let ⟨_,_,_,_,e,r⟩:=p;⟨_,gA e,r⟩

structure uU (g g':ae) (i:Nat) (q:Rat):Prop where
 cell:Cell g' i q
 len:g'.length=g.length
 old:∀j,j≠i→g'[j]?=g[j]?
 val:∀{v:Value} {p:Rat},RV g v p→RV g' v p

theorem XP {g:ae} {i:Nat} {v:Value} {q:Rat} {s:Bool} {b c d:Value} (hg:g[i]?=some (.arr 107 [.bool s,b,c,d])) (hv:RV g v q):∃g',aJ 4 g (pt i 0) v=some (undef,g')∧uU g g' i q:=by
 obtain ⟨a',b',c',d',rfl⟩:=hv.agg
 refine ⟨_,mO hg,⟨⟨a',b',c',d',cJ hg,hv.bG hg _⟩,by simp,fun j hj=>List.getElem?_set_ne (fun h=>hj h.symm),fun h=>h.bG hg _⟩⟩

theorem uU.ex {h0 g g':ae} {i:Nat} {q:Rat} (s:uU g g' i q) (x:EX h0 g) (hi:h0.length≤i):EX h0 g':=
 ⟨by rw [s.len];exact x.1,fun j hj=>by rw [s.old j (by omega)];exact x.2 j hj⟩
theorem uU.dI {g g':ae} {i j:Nat} {q p:Rat} (s:uU g g' i q) (hj:j≠i) (c:Cell g j p):Cell g' j p:=
 let ⟨a,b,e,d,k,r⟩:=c;⟨a,b,e,d,by rw [s.old j hj];exact k,s.val r⟩

structure Jb where
 aZ:Rat
 fx:Nat
 done:Rat
 iD:Rat

def bT (qs:List Rat) (w:Int) (age:Nat):Nat→Jb
 | 0=>⟨0,0,0,0⟩
 | d+1=>
  let s:=bT qs w age d
  let done:=s.done+qs.getD (age+d) 0
  let iD:=s.iD+ep (qs.drop (age+d))
  let x:=(w:Rat)*done / iD
  if s.fx=0∨s.aZ<x then ⟨x,d+1,done,iD⟩ else ⟨s.aZ,s.fx,done,iD⟩

theorem rD (qs:List Rat) (w:Int) (age d:Nat):(bT qs w age (d+1)).done=(bT qs w age d).done+qs.getD (age+d) 0∧(bT qs w age (d+1)).iD=(bT qs w age d).iD+ep (qs.drop (age+d)):=by
 simp only [bT]
 split <;> exact ⟨rfl,rfl⟩

theorem Ox {q:Rat}:0<q↔0<q.num:=by
 rw [Rat.lt_iff]
 simp
theorem num_nonneg {q:Rat}:0≤q↔0≤q.num:=by
 rw [Rat.le_iff]
 simp

theorem ahx {l:List Rat} (h:∀q∈l,0≤q):∀i,i≤l.length→0≤ep (l.take i)
 | 0,_=>by rw [List.take_zero];exact Rat.le_refl
 | i+1,hi=>by
  rw [zI (by omega)]
  exact Rat.add_nonneg (ahx h i (by omega)) (h _ (List.getElem_mem _))

theorem vi {qs:List Rat} {w:Int} (h:dw qs w=true):(1≤qs.length∧qs.length≤8)∧(0≤w∧w≤50)∧qs.any eP=false∧ep qs=1∧(∀q∈qs,0≤q)∧∀h0:0<qs.length,0<qs[qs.length-1]:=by
 unfold dw at h
 simp only [Bool.and_eq_true,decide_eq_true_eq,Bool.not_eq_true'] at h
 obtain ⟨⟨⟨a,b⟩,c⟩,d,e⟩:=h
 have nn:∀q∈qs,0≤q:=by
  intro q hq
  have:eP q=false:=by
   cases e:eP q with
   | false=>rfl
   | true=>rw [List.any_eq_true.2 ⟨q,hq,e⟩] at d;cases d
  unfold eP at this
  rw [Bool.or_eq_false_iff,decide_eq_false_iff_not] at this
  rw [num_nonneg];omega
 refine ⟨a,b,d,e,nn,fun h0=>?_⟩
 have h1:=nn _ (List.getElem_mem (l:=qs) (n:=qs.length-1) (by omega))
 rw [num_nonneg] at h1
 rw [Ox]
 unfold sK at c
 rw [List.getD_eq_getElem?_getD,List.getElem?_eq_getElem (by omega),Option.getD_some,decide_eq_false_iff_not] at c
 omega

theorem ap0 {qs:List Rat} {w:Int} (h:dw qs w=true) {k:Nat} (hk:k<qs.length):0<ep (qs.drop k):=by
 obtain ⟨_,_,_,_,nn,last⟩:=vi h
 have hl:=last (by omega)
 have hn:∀q∈qs.drop k,0≤q:=fun q hq=>nn q (List.mem_of_mem_drop hq)
 have e:(qs.drop k).take ((qs.drop k).length-1+1)=qs.drop k:=List.take_of_length_le (by omega)
 have lO:(qs.drop k).length=qs.length-k:=List.length_drop
 have h1:=ahx hn ((qs.drop k).length-1) (by omega)
 rw [←e,zI (by omega)]
 have e2:(qs.drop k)[(qs.drop k).length-1]'(by omega)=qs[qs.length-1]'(by omega):=by
  rw [List.getElem_drop]
  congr 1
  omega
 rw [e2]
 generalize ep ((qs.drop k).take ((qs.drop k).length-1))=a at*
 generalize qs[qs.length-1]'(by omega)=b at*
 grind

theorem Co {qs:List Rat} {w:Int} (h:dw qs w=true) {age:Nat}:∀{d:Nat},age+d≤qs.length→0≤(bT qs w age d).iD∧(0<d→0<(bT qs w age d).iD)
 | 0,_=>⟨Rat.le_refl,fun h=>absurd h (by decide)⟩
 | d+1,hd=>by
  have ih:=(Co (age:=age) (d:=d) h (by omega)).1
  have hp:=ap0 h (k:=age+d) (by omega)
  rw [(rD qs w age d).2]
  generalize (bT qs w age d).iD=a at*
  generalize ep (qs.drop (age+d))=b at*
  refine ⟨by grind,fun _=>by grind⟩

theorem zE {qs:List Rat} {w:Int} (h:dw qs w=true) {age:Nat}:∀{d:Nat},age+d≤qs.length→cA (5*d+1) (bT qs w age d).done∧cA (42*d+1) (bT qs w age d).iD
 | 0,_=>⟨cA.zero,cA.zero⟩
 | d+1,hd=>by
  obtain ⟨i1,i2⟩:=zE (age:=age) (d:=d) h (by omega)
  obtain ⟨⟨_,l8⟩,_,hb,_⟩:=vi h
  have s4:=AO hb
  obtain ⟨e1,e2⟩:=rD qs w age d
  have hs:=xl (qs:=qs.drop (age+d)) (fun q hq=>s4 q (List.mem_of_mem_drop hq)) _ (Nat.le_refl _)
  rw [List.take_length,List.length_drop] at hs
  have hg:cA 4 (qs.getD (age+d) 0):=by
   rw [List.getD_eq_getElem?_getD,List.getElem?_eq_getElem (by omega),Option.getD_some]
   exact s4 _ (List.getElem_mem _)
  rw [e1,e2]
  have j1:=i1.add hg
  have j2:=i2.add hs
  exact ⟨cA.le j1 (show 5*d+1+4+1≤5*(d+1)+1 by omega),cA.le j2 (show 42*d+1+(5*(qs.length-(age+d))+1)+1≤42*(d+1)+1 by omega)⟩

theorem HN {w:Int} (h0:0≤w) (h1:w≤50):cA 2 (w:Rat):=by
 refine ⟨?_,by show (1:Nat)<10^2;decide⟩
 show w.natAbs<10^2
 omega

def jd (qs:List Rat) (w:Int) (age d:Nat):Rat:=(w:Rat)*(bT qs w age (d+1)).done / (bT qs w age (d+1)).iD

theorem Q2 {qs:List Rat} {w:Int} (h:dw qs w=true) {age d:Nat} (hd:age+(d+1)≤qs.length):cA 380 (jd qs w age d):=by
 obtain ⟨⟨_,l8⟩,⟨w0,tc⟩,_⟩:=vi h
 obtain ⟨i1,i2⟩:=zE (age:=age) (d:=d+1) h hd
 have hp:=(Co (age:=age) (d:=d+1) h hd).2 (by omega)
 rw [Ox] at hp
 have j1:=((HN w0 tc).mul i1).div i2 hp
 exact cA.le j1 (show 2+(5*(d+1)+1)+(42*(d+1)+1)≤380 by omega)

theorem Cf {qs:List Rat} {w:Int} (h:dw qs w=true) {age:Nat}:∀{d:Nat},age+d≤qs.length→cA 380 (bT qs w age d).aZ
 | 0,_=>cA.zero.le (by decide)
 | d+1,hd=>by
  have ih:=Cf (age:=age) (d:=d) h (by omega)
  have ht:=Q2 (age:=age) (d:=d) h hd
  have e:(bT qs w age (d+1)).aZ=jd qs w age d∨(bT qs w age (d+1)).aZ=(bT qs w age d).aZ:=by
   unfold jd
   rw [(rD qs w age d).1,(rD qs w age d).2]
   simp only [bT]
   split
   ·exact .inl rfl
   ·exact .inr rfl
  rcases e with e | e <;> rw [e] <;> assumption

end Go.Proofs.YtelmdbpaoifmoaaGreat


namespace Go.Proofs.YtelmdbpaoifmoaaGreat
open Go.Sim

def QU (h:ae) (v:Value) (q:Rat) (k:Nat):Prop:=∃a b:Int,QZ h v a b∧0<b∧(a:Rat)=q*(b:Rat)∧a.natAbs<10^k∧b.natAbs<10^k
def QV (h:ae) (v:Value) (q:Rat):Prop:=QZ h v q.num (q.den:Int)

theorem QU.mono {h h':ae} {v:Value} {q:Rat} {k:Nat} (x:EX h h') (p:QU h v q k):QU h' v q k:=let ⟨a,b,e,r⟩:=p;⟨a,b,e.mono x,r⟩
theorem QV.mono {h h':ae} {v:Value} {q:Rat} (x:EX h h') (p:QV h v q):QV h' v q:=QZ.mono x p
theorem QV.bG {h:ae} {v:Value} {q:Rat} {j:Nat} {e:TypeId} {s:Bool} {r:List Value} (p:QV h v q) (hj:h[j]?=some (.arr e (.bool s::r))) (o:ak):QV (h.set j o) v q:=QZ.bG p hj o

theorem auu (q:Rat):(q.num:Rat)=q*(q.den:Rat):=by
 have h1:(q.den:Rat)≠0:=by
  intro h
  have:=q.den_pos
  have h2:(q.den:Rat)=((0:Nat):Rat):=by simpa using h
  have:=Rat.natCast_inj.1 h2
  omega
 have h2:=Rat.mkRat_self q
 rw [Rat.mkRat_eq_div,Rat.div_def] at h2
 have h3:q*(q.den:Rat)=(q.num:Rat)*((q.den:Rat)⁻¹*(q.den:Rat)):=by
  rw [←Rat.mul_assoc,h2]
 rw [h3,Rat.inv_mul_cancel _ h1,Rat.mul_one]

theorem QV.un {h:ae} {v:Value} {q:Rat} {k:Nat} (p:QV h v q) (s:cA k q):QU h v q k:=
 ⟨q.num,q.den,p,by have:=q.den_pos;omega,auu q,s.1,by rw [Int.natAbs_natCast];exact s.2⟩

theorem apB {b:Int} (hb:0<b):(b:Rat)≠0:=by
 intro h
 have:b=0:=by exact_mod_cast h
 omega

theorem QU.mk {a b:Int} {q:Rat} (hb:0<b) (h:(a:Rat)=q*(b:Rat)):mkRat a b.toNat=q:=by
 rw [Rat.mkRat_eq_div]
 have kQ:=apB hb
 obtain ⟨n,rfl⟩:∃n:Nat,b=(n:Int):=⟨b.toNat,by omega⟩
 have e:(((n:Int).toNat:Nat):Rat)=((n:Int):Rat):=by rw [Int.toNat_natCast];rfl
 rw [e,h,Rat.div_def,Rat.mul_assoc,Rat.mul_inv_cancel _ kQ,Rat.mul_one]

theorem oJ {i j:Nat} {a b:Int} (ha:a.natAbs<10^i) (hb:b.natAbs<10^j):(a*b).natAbs<10^(i+j):=by
 rw [Int.natAbs_mul];exact mul_pow ha hb

def NZ:Nat:=796
theorem auT {k n:Nat} (h:k=4*n):(10:Nat)^k≤10000^n:=by
 subst h
 exact Nat.le_of_eq (Nat.pow_mul 10 4 n)
theorem auS:(10:Nat)^NZ≤10000^199:=auT (k:=NZ) (n:=199) rfl
theorem GU {k n:Nat} (hk:k≤796) (h:n<10^k):n<10000^199:=Nat.lt_of_lt_of_le h (Nat.le_trans (Nat.pow_le_pow_right (by decide) (show k≤NZ from hk)) auS)

section
variable {va vb : Value} {p q : Rat} {i j : Nat} {h : ae} {K : Value → ae → Prop}

theorem H9 (ha:QU h va p i) (hb:QU h vb q j) (dO:i+j≤899) (hk:∀r h',EX h h'→QU h' r (p+q) (i+j+1)→K r h'):aj Tryz.prog 26 [va,vb] h K:=by
 obtain ⟨a,b,qa,b0,ea,la,lb⟩:=ha
 obtain ⟨c,d,qc,d0,ec,lc,ld⟩:=hb
 have dU:∀{k n:Nat},k≤899→n<10^k→n<bj:=fun hk hn=>Nat.lt_of_lt_of_le hn (ny (by omega))
 have h1:=oJ la ld
 have h2:=oJ lc lb
 have h3:=oJ lb ld
 rw [Nat.add_comm j i] at h2
 refine C26 qa qc (dU (by omega) la) (dU (by omega) lb) (dU (by omega) lc) (dU (by omega) ld) (dU dO h1) (dU dO h2) ?_
 intro r h' x hr
 refine hk r h' x ⟨_,_,hr,Int.mul_pos b0 d0,?_,?_,?_⟩
 ·simp only [Rat.intCast_add,Rat.intCast_mul,ea,ec];grind
 ·rw [Nat.pow_succ];generalize 10^(i+j)=Z at*;omega
 ·rw [Nat.pow_succ];generalize 10^(i+j)=Z at*;omega

theorem aiD (ha:QU h va p i) (hb:QU h vb q j) (dO:i+j≤899) (hk:∀r h',EX h h'→QU h' r (p*q) (i+j)→K r h'):aj Tryz.prog 27 [va,vb] h K:=by
 obtain ⟨a,b,qa,b0,ea,la,lb⟩:=ha
 obtain ⟨c,d,qc,d0,ec,lc,ld⟩:=hb
 have dU:∀{k n:Nat},k≤899→n<10^k→n<bj:=fun hk hn=>Nat.lt_of_lt_of_le hn (ny (by omega))
 refine C27 qa qc (dU (by omega) la) (dU (by omega) lb) (dU (by omega) lc) (dU (by omega) ld) ?_
 intro r h' x hr
 refine hk r h' x ⟨_,_,hr,Int.mul_pos b0 d0,?_,oJ la lc,oJ lb ld⟩
 simp only [Rat.intCast_mul,ea,ec];grind

theorem aiN (ha:QU h va p i) (hb:QU h vb q j) (dO:i+j≤899) (hk:∀r h',EX h h'→QU h' r (p-q) (i+j+1)→K r h'):aj Tryz.prog 52 [va,vb] h K:=by
 obtain ⟨a,b,qa,b0,ea,la,lb⟩:=ha
 obtain ⟨c,d,qc,d0,ec,lc,ld⟩:=hb
 have dU:∀{k n:Nat},k≤899→n<10^k→n<bj:=fun hk hn=>Nat.lt_of_lt_of_le hn (ny (by omega))
 have h1:=oJ la ld
 have h2:=oJ lc lb
 have h3:=oJ lb ld
 rw [Nat.add_comm j i] at h2
 obtain ⟨u,w,rfl,hu,hw⟩:=qa
 obtain ⟨u',w',rfl,qg,ke⟩:=qc
 refine f52 ?_
 unfold Kc
 refine Dg ?_
 intro h3 x
 have za:ZV h3 (.agg #[B (decide (a<0)),u]) a:=⟨u,rfl,hu.mono x.ex⟩
 have zb:ZV h3 (.agg #[B (decide (b<0)),w]) b:=⟨w,rfl,hw.mono x.ex⟩
 have zc:ZV h3 (.agg #[B (decide (c<0)),u']) c:=⟨u',rfl,qg.mono x.ex⟩
 have zd:ZV h3 (.agg #[B (decide (d<0)),w']) d:=⟨w',rfl,ke.mono x.ex⟩
 simp only [bN,Nat.add_zero,Nat.zero_add,ag,x.a0,x.b2,true_and]
 refine nD za zd (dU (by omega) la) (dU (by omega) ld) ?_
 intro r4 h4 x4 qJ
 simp only [EX.load x4 x.b0,EX.load x4 x.a2,ag,x.b0,x.a2,true_and]
 refine nD (zc.mono x4) (zb.mono x4) (dU (by omega) lc) (dU (by omega) lb) ?_
 intro r5 h5 x5 z5
 refine CB (qJ.mono x5) z5 (dU dO h1) (dU dO h2) ?_
 intro r6 h6 x6 z6
 have cg:=x4.trans (x5.trans x6)
 simp only [EX.load cg x.a2,EX.load cg x.b2,EX.load x4 x.b2,EX.load (x4.trans x5) x.a2,EX.load (x4.trans x5) x.b2,ag,true_and]
 refine nD (zb.mono cg) (zd.mono cg) (dU (by omega) lb) (dU (by omega) ld) ?_
 intro r7 h7 x7 z7
 have gj:=cg.trans x7
 refine vz (z6.mono x7) z7 (x.ex.trans gj) (by omega) (gj.get x.out) ?_
 intro r h' xx hr
 refine hk r h' xx ⟨_,_,hr,Int.mul_pos b0 d0,?_,?_,?_⟩
 ·simp only [Rat.intCast_sub,Rat.intCast_mul,ea,ec];grind
 ·rw [Nat.pow_succ];generalize 10^(i+j)=Z at*;omega
 ·rw [Nat.pow_succ];generalize 10^(i+j)=Z at*;omega

theorem aiM (ha:QU h va p i) (hb:QU h vb q j) (q0:0<q) (dO:i+j≤899) (hk:∀r h',EX h h'→QU h' r (p / q) (i+j)→K r h'):aj Tryz.prog 51 [va,vb] h K:=by
 obtain ⟨a,b,qa,b0,ea,la,lb⟩:=ha
 obtain ⟨c,d,qc,d0,ec,lc,ld⟩:=hb
 have dU:∀{k n:Nat},k≤899→n<10^k→n<bj:=fun hk hn=>Nat.lt_of_lt_of_le hn (ny (by omega))
 have h1:=oJ la ld
 have h2:=oJ lb lc
 have c0:0<c:=by
  have d':(0:Rat)<(d:Rat):=by exact_mod_cast d0
  have:(0:Rat)<(c:Rat):=by rw [ec];exact Rat.mul_pos q0 d'
  exact_mod_cast this
 obtain ⟨u,w,rfl,hu,hw⟩:=qa
 obtain ⟨u',w',rfl,qg,ke⟩:=qc
 refine f51 ?_
 unfold Kb
 refine Dg ?_
 intro h3 x
 have za:ZV h3 (.agg #[B (decide (a<0)),u]) a:=⟨u,rfl,hu.mono x.ex⟩
 have zb:ZV h3 (.agg #[B (decide (b<0)),w]) b:=⟨w,rfl,hw.mono x.ex⟩
 have zc:ZV h3 (.agg #[B (decide (c<0)),u']) c:=⟨u',rfl,qg.mono x.ex⟩
 have zd:ZV h3 (.agg #[B (decide (d<0)),w']) d:=⟨w',rfl,ke.mono x.ex⟩
 simp only [bN,Nat.add_zero,Nat.zero_add,ag,x.a0,x.b2,true_and]
 refine nD za zd (dU (by omega) la) (dU (by omega) ld) ?_
 intro r4 h4 x4 qJ
 simp only [EX.load x4 x.b0,EX.load x4 x.a2,ag,x.b0,x.a2,true_and]
 refine nD (zb.mono x4) (zc.mono x4) (dU (by omega) lb) (dU (by omega) lc) ?_
 intro r5 h5 x5 z5
 refine C54 (qJ.mono x5) z5 (Int.le_of_lt (Int.mul_pos b0 c0)) ?_
 intro r6 h6 x6 z6
 have cg:=x4.trans (x5.trans x6)
 obtain ⟨m,n,rfl,hm,hn⟩:=z6
 refine pN (cg.get x.out) (hk _ _ ((x.ex.trans cg).set (by omega) _) ⟨_,_,⟨m,n,rfl,hm.bG (cg.get x.out) _,hn.bG (cg.get x.out) _⟩,Int.mul_pos b0 c0,?_,h1,h2⟩)
 simp only [Rat.intCast_mul,ea,ec]
 have:q≠0:=by intro e;rw [e] at q0;exact absurd q0 (by decide)
 grind

theorem Cz (ha:QU h va p i) (hi:i≤796) (hk:∀r h',EX h h'→QV h' r p→K r h'):aj Tryz.prog 25 [va] h K:=by
 obtain ⟨a,b,qa,b0,ea,la,lb⟩:=ha
 refine RM qa b0 (GU hi la) (GU hi lb) ?_
 intro r h' x hr
 refine hk r h' x ?_
 have e:=QU.mk b0 ea
 obtain ⟨e1,e2⟩:=wY (N:=a) (D:=b.toNat) (by omega)
 have eb:b.natAbs=b.toNat:=by omega
 unfold QV
 rw [←e,e1,e2,Int.natCast_ediv,Int.toNat_of_nonneg (by omega),←eb]
 exact hr

theorem aiy (ha:QU h va p i) (hi:i≤796) {s:List UInt8} (hk:∀h',EX h h'→K (B (decide (s=ov p.num (p.den:Int)))) h'):aj Tryz.prog 16 [S s,va] h K:=by
 obtain ⟨a,b,qa,b0,ea,la,lb⟩:=ha
 refine aix qa b0 (GU hi la) (GU hi lb) ?_
 have e:=QU.mk b0 ea
 obtain ⟨e1,e2⟩:=wY (N:=a) (D:=b.toNat) (by omega)
 have eb:b.natAbs=b.toNat:=by omega
 rw [←e,e1,e2,Int.natCast_ediv,Int.toNat_of_nonneg (by omega),←eb] at hk
 exact hk

theorem as7 {a b c d:Int} (b0:0<b) (d0:0<d) (ea:(a:Rat)=p*(b:Rat)) (ec:(c:Rat)=q*(d:Rat)):iN (a*d-c*b)=mA p q:=by
 have b':(0:Rat)<(b:Rat):=by exact_mod_cast b0
 have d':(0:Rat)<(d:Rat):=by exact_mod_cast d0
 have bd:=Rat.mul_pos b' d'
 have e:((a*d-c*b:Int):Rat)=(p-q)*((b:Rat)*(d:Rat)):=by
  simp only [Rat.intCast_sub,Rat.intCast_mul,ea,ec];grind
 generalize a*d-c*b=z at e⊢
 generalize (b:Rat)*(d:Rat)=t at*
 have key:(z=0↔p=q)∧(z<0↔p<q):=by
  constructor
  ·constructor
   ·intro hz
    subst hz
    have:(p-q)*t=0:=by rw [←e];rfl
    grind
   ·intro hz
    subst hz
    have:((z:Int):Rat)=0:=by rw [e];grind
    exact_mod_cast this
  ·constructor
   ·intro hz
    have pa:(z:Rat)<0:=by exact_mod_cast hz
    rw [e] at pa
    apply Classical.byContradiction
    intro hc
    have h1:0≤p-q:=by grind
    have:=Rat.mul_nonneg h1 (Rat.le_of_lt bd)
    grind
   ·intro hz
    have h1:0<q-p:=by grind
    have:=Rat.mul_pos h1 bd
    have:(z:Rat)<0:=by rw [e];grind
    exact_mod_cast this
 unfold mA iN
 by_cases h1:p=q
 ·rw [if_pos h1]
  have:=key.1.2 h1
  subst this
  simp
 ·rw [if_neg h1]
  have z1:z≠0:=fun hz=>h1 (key.1.1 hz)
  by_cases h2:p<q
  ·rw [if_pos h2,if_neg z1,if_pos (key.2.2 h2)]
  ·rw [if_neg h2]
   have:¬z<0:=fun hz=>h2 (key.2.1 hz)
   rw [if_neg z1,if_neg this]

theorem RO (ha:QU h va p i) (hb:QU h vb q j) (dO:i+j≤899) (hk:∀h',EX h h'→K (I (mA p q)) h'):aj Tryz.prog 29 [va,vb] h K:=by
 obtain ⟨a,b,qa,b0,ea,la,lb⟩:=ha
 obtain ⟨c,d,qc,d0,ec,lc,ld⟩:=hb
 have dU:∀{k n:Nat},k≤899→n<10^k→n<bj:=fun hk hn=>Nat.lt_of_lt_of_le hn (ny (by omega))
 have h1:=oJ la ld
 have h2:=oJ lc lb
 rw [Nat.add_comm j i] at h2
 refine C29 qa qc (dU (by omega) la) (dU (by omega) lb) (dU (by omega) lc) (dU (by omega) ld) (dU dO h1) (dU dO h2) ?_
 rw [as7 b0 d0 ea ec]
 exact hk

theorem xv {z:Int} (hz:z.natAbs<1000000000000000000) (hk:∀r h',EX h h'→QV h' r (z:Rat)→K r h'):aj Tryz.prog 20 [I z] h K:=C20 hz hk

theorem RN {s:List UInt8} (hl:s.length≤700) (hn:isNum s=true) (hk:∀r h',EX h h'→QV h' r (bu s)→K r h'):aj Tryz.prog 28 [S s] h K:=aiE hl (aaw hn) hk

def iH (g:ae) (i:Nat) (q:Rat):Prop:=∃a b c d,g[i]?=some (.arr 37 [B a,b,B c,d])∧QV g (.agg #[B a,b,B c,d]) q

theorem iH.mono {g g':ae} {i:Nat} {q:Rat} (x:EX g g') (p:iH g i q):iH g' i q:=let ⟨a,b,c,d,e,r⟩:=p;⟨a,b,c,d,x.get e,r.mono x⟩
theorem iH.lt {g:ae} {i:Nat} {q:Rat} (p:iH g i q):i<g.length:=let ⟨_,_,_,_,e,_⟩:=p;(List.getElem?_eq_some_iff.1 e).1
theorem iH.load {g:ae} {i:Nat} {q:Rat} (p:iH g i q):∃v,af true 4 g (pt i 0)=some v∧QV g v q:=let ⟨_,_,_,_,e,r⟩:=p;⟨_,gA e,r⟩

structure xQ (g g':ae) (i:Nat) (q:Rat):Prop where
 cell:iH g' i q
 len:g'.length=g.length
 old:∀j,j≠i→g'[j]?=g[j]?
 val:∀{v:Value} {p:Rat},QV g v p→QV g' v p

theorem Ay {g:ae} {i:Nat} {v:Value} {q:Rat} {s:Bool} {b c d:Value} (hg:g[i]?=some (.arr 37 [.bool s,b,c,d])) (hv:QV g v q):∃g',aJ 4 g (pt i 0) v=some (undef,g')∧xQ g g' i q:=by
 obtain ⟨u,w,rfl,hu,hw⟩:=id hv
 refine ⟨_,mO hg,⟨⟨_,_,_,_,cJ hg,hv.bG hg _⟩,by simp,fun j hj=>List.getElem?_set_ne (fun h=>hj h.symm),fun h=>h.bG hg _⟩⟩
theorem iH.store {g:ae} {i:Nat} {v:Value} {p q:Rat} (hc:iH g i p) (hv:QV g v q):∃g',aJ 4 g (pt i 0) v=some (undef,g')∧xQ g g' i q:=by
 obtain ⟨a,b,c,d,hg,_⟩:=hc
 exact Ay hg hv

theorem xQ.ex {h0 g g':ae} {i:Nat} {q:Rat} (s:xQ g g' i q) (x:EX h0 g) (hi:h0.length≤i):EX h0 g':=
 ⟨by rw [s.len];exact x.1,fun j hj=>by rw [s.old j (by omega)];exact x.2 j hj⟩
theorem xQ.dI {g g':ae} {i j:Nat} {q p:Rat} (s:xQ g g' i q) (hj:j≠i) (c:iH g j p):iH g' j p:=
 let ⟨a,b,e,d,k,r⟩:=c;⟨a,b,e,d,by rw [s.old j hj];exact k,s.val r⟩

theorem xX {g:ae} {v:Value} {q:Rat} {K:ae→Prop} (hv:QV g v q) (hk:∀g',EX g g'→iH g' g.length q→g'.length=g.length+1→K g'):
  OH (aJ 4 (g++[ak.arr 37 z4]) (pt g.length 0) v) fun _ h_2=>K h_2:=by
 obtain ⟨g',e2,s⟩:=Ay (g:=g++[.arr 37 z4]) (i:=g.length) bO (hv.mono (EX.append _ _))
 rw [e2]
 simp only [aD]
 exact hk g' (s.ex (EX.append _ _) (Nat.le_refl _)) s.cell (by rw [s.len];simp)

end

end Go.Proofs.YtelmdbpaoifmoaaGreat

