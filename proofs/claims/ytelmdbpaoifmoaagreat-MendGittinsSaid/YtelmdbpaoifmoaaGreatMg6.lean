/-
  Part 6 of the texts behind a statement of this seat: Zs1, Zp2, ZN5, Kp1, Kp2, Kp3, Kp4, Zp4, Zp5, ZMe10, Zs2, Sq27, ZM3, Sim33, Zs4, Zp3, ZB, ZMe8, Sq21, ZMe9, ZMd, ZMe15, Sq23, Sq28, Sq29, Zs5, ZSd, Zs6, Kp5, ZN6, Kp6, Kp7, Kp8, Kp9, ZN7, Kp10, Kp11, Kp12, Kq1, ZN8, Kq6, Kq7, Kq8, Kr1, Kp13, Kp14.
-/
import Derived.Test.YtelmdbpaoifmoaaGreatProg
import Derived.KernelRfl
import Derived.Test.YtelmdbpaoifmoaaGreatMg5
open Bool (and_eq_true)
open Classical (byContradiction)
open Go.Proofs.Tryz (prog)
open Int (natAbs_natCast)
open List (Pairwise append_nil getElem?_append_left getElem?_append_right getElem?_eq_getElem getElem?_set_ne getElem_mem idxOf_cons length_append length_drop length_map length_take mem_append mem_cons mem_map mem_of_mem_drop mem_singleton take_length take_succ_eq_append_getElem)
open Nat (add_zero gcd le_refl lt_of_lt_of_le pow_le_pow_right pow_succ zero_add zero_le)
open Option (getD_some)
namespace Go.Proofs.YtelmdbpaoifmoaaGreat
open Go.Sim
section
theorem C54 {va vb:Value} {a b:Int} {h:ae} {K:Value→ae→Prop} (ha:ZV h va a) (hb:ZV h vb b) (b0:0≤b) (hk:∀r h',EX h h'→QZ h' r a b→K r h'):aj prog 54 [va,vb] h K:=by
 obtain ⟨v,rfl,hv⟩:=ha
 obtain ⟨w,rfl,hw⟩:=hb
 have vF:decide (b<0)=false:=aU (by omega)
 refine f54 ?_
 have e1:∀(g:ae) (s:Bool) (v:Value),bm 35 g (.agg #[B s,v])=some (pt g.length 0,g++[.arr 35 [B s,v]]):=fun _ _ _=>rfl
 have e3:∀(g:ae),aV 37 [(.bool false),(.slice none 0 0),(.bool false),(.slice none 0 0)] g=some (pt g.length 0,g++[.arr 37 z4]):=fun _=>rfl
 simp only [Nq,e1,e3,aC]
 have q0:EX h (h++[.arr 35 [B (decide (a<0)),v]]):=EX.append _ _
 have p0:(h++[aq.arr 35 [B (decide (a<0)),v]])[h.length]?=some (.arr 35 [B (decide (a<0)),v]):=bn
 generalize h++[aq.arr 35 [B (decide (a<0)),v]]=ga at q0 p0⊢
 have q1:EX ga (ga++[.arr 35 [B (decide (b<0)),w]]):=EX.append _ _
 have p1:(ga++[aq.arr 35 [B (decide (b<0)),w]])[ga.length]?=some (.arr 35 [B (decide (b<0)),w]):=bn
 generalize ga++[aq.arr 35 [B (decide (b<0)),w]]=gb at q1 p1⊢
 have q2:EX gb (gb++[.arr 37 z4]):=EX.append _ _
 have p2:(gb++[aq.arr 37 z4])[gb.length]?=some (.arr 37 z4):=bn
 generalize gb++[aq.arr 37 z4]=gc at q2 p2⊢
 have k0:=(q1.trans q2).get p0
 have k1:=q2.get p1
 have x0:=q0.trans (q1.trans q2)
 have l1:af false 1 gc (pt ga.length 0)=some (B (decide (b<0))):=by simp [af,aR,k1,cf]
 simp only [cn,add_zero,ah,l1]
 rw [vF]
 simp only [dV]
 rw [aAQ,cL k0,cL k1]
 simp only [ah]
 have I7:ZV gc (.agg #[B (decide (a<0)),v]) a:=⟨v,rfl,hv.mono x0⟩
 have I8:ZV gc (.agg #[B (decide (b<0)),w]) b:=⟨w,rfl,hw.mono x0⟩
 obtain ⟨xs,dx,_⟩:=id (hv.mono x0)
 obtain ⟨ys,dy,_⟩:=id (hw.mono x0)
 rw [Gk dx dy]
 simp only [ah]
 exact rk p2 (hk _ _ (x0.set (q0.trans q1).1 _) ⟨v,w,rfl,(hv.mono x0).bL p2 _,(hw.mono x0).bL p2 _⟩)
theorem azf:(1000000000000000000:Nat)<10000^199:=by decide+kernel
theorem C17 {w n:Int} {h:ae} {K:Value→ae→Prop} (hw:w.natAbs<1000000000000000000) (n0:0<n) (hn:n.natAbs<1000000000000000000) (hk:∀r h',EX h h'→QZ h' r (w / (gcd w.natAbs n.natAbs:Int)) (n / (gcd w.natAbs n.natAbs:Int))→K r h'):aj prog 17 [I w,I n] h K:=by
 refine f17 ?_
 have e3:aV 37 [(.bool false),(.slice none 0 0),(.bool false),(.slice none 0 0)] h=some (pt h.length 0,h++[.arr 37 z4]):=rfl
 simp only [M9,e3,aC]
 have x0:EX h (h++[.arr 37 z4]):=EX.append _ _
 have g0:(h++[aq.arr 37 z4])[h.length]?=some (.arr 37 z4):=bn
 generalize h++[aq.arr 37 z4]=ga at x0 g0⊢
 refine uG hw ?_
 intro r1 h1 x1 z1
 refine uG hn ?_
 intro r2 h2 x2 z2
 refine C54 (z1.mono x2) z2 (by omega) ?_
 intro q h3 x3 qz
 have p18:=azf
 refine Lm qz n0 (by omega) (by omega) ?_
 intro r h4 x4 qr
 have aH:=(x1.trans x2).trans (x3.trans x4)
 have g4:=aH.get g0
 obtain ⟨y,z,rfl,my,mz⟩:=qr
 exact rk g4 (hk _ _ ((x0.trans aH).set (le_refl _) _) ⟨y,z,rfl,my.bL g4 _,mz.bL g4 _⟩)
theorem atJ {n:Nat} (hn:n<br) (h:cE n=[49]):n=1:=by
 have:=(tG hn).2.2.2.2
 rw [h] at this
 simpa [dM] using this.symm
theorem amK {va:Value} {a b:Int} {h:ae} {K:Value→ae→Prop} (ha:QZ h va a b) (b0:0<b) (la:a.natAbs<10000^199) (lb:b.natAbs<10000^199) (hk:∀h',EX h h'→K (.tuple #[S (mZ (a / (gcd a.natAbs b.natAbs:Int)) (b / (gcd a.natAbs b.natAbs:Int))),B true]) h'):aj prog 53 [va] h K:=by
 have oa:=ha
 obtain ⟨u,w,rfl,hu,hw⟩:=ha
 refine f53 ?_
 have e1:bm 37 h (.agg #[B (decide (a<0)),u,B (decide (b<0)),w])=some (pt h.length 0,h++[.arr 37 [B (decide (a<0)),u,B (decide (b<0)),w]]):=rfl
 simp only [Np,e1,aC]
 have x1:EX h (h++[aq.arr 37 [B (decide (a<0)),u,B (decide (b<0)),w]]):=EX.append _ _
 have k1:(h++[aq.arr 37 [B (decide (a<0)),u,B (decide (b<0)),w]])[h.length]?=some (.arr 37 [B (decide (a<0)),u,B (decide (b<0)),w]):=bn
 generalize h++[aq.arr 37 [B (decide (a<0)),u,B (decide (b<0)),w]]=h1 at x1 k1⊢
 rw [hO k1]
 simp only [ah]
 refine Lm (oa.mono x1) b0 la lb ?_
 intro r h2 x2 q2
 have hg0:0<gcd a.natAbs b.natAbs:=Nat.gcd_pos_of_pos_right _ (by omega)
 have Qx:gcd a.natAbs b.natAbs≤b.natAbs:=Nat.gcd_le_right _ (by omega)
 have Qn:(gcd a.natAbs b.natAbs:Int) ∣ a:=Int.gcd_dvd_left ..
 have wY:(gcd a.natAbs b.natAbs:Int) ∣ b:=Int.gcd_dvd_right ..
 generalize hG:gcd a.natAbs b.natAbs=G at*
 have la':(a / (G:Int)).natAbs<10000^199:=by
  obtain ⟨c,rfl⟩:=Qn
  rw [Int.mul_ediv_cancel_left c (by omega)]
  have:c.natAbs≤((G:Int)*c).natAbs:=by rw [Int.natAbs_mul];exact Nat.le_mul_of_pos_left _ (by omega)
  omega
 have b1:0<b / (G:Int)∧(b / (G:Int)).natAbs<10000^199:=by
  obtain ⟨c,rfl⟩:=wY
  rw [Int.mul_ediv_cancel_left c (by omega)]
  have hc:0<c:=by
   apply byContradiction
   intro jk
   have:=Int.mul_nonpos_of_nonneg_of_nonpos (show (0:Int)≤(G:Int) by omega) (show c≤0 by omega)
   omega
  have:c.natAbs≤((G:Int)*c).natAbs:=by rw [Int.natAbs_mul];exact Nat.le_mul_of_pos_left _ (by omega)
  exact ⟨hc,by omega⟩
 generalize a / (G:Int)=A at*
 generalize b / (G:Int)=D at*
 obtain ⟨D0,lD⟩:=b1
 obtain ⟨u',w',rfl,zh,oV⟩:=q2
 have hsD:decide (D<0)=false:=aU (by omega)
 have k2:=x2.get k1
 rw [nH k2]
 simp only [aC]
 have x3:EX h (h2.set h.length (.arr 37 [B (decide (A<0)),u',B (decide (D<0)),w'])):=(x1.trans x2).set (le_refl _) _
 have k3:=cj (o:=.arr 37 [B (decide (A<0)),u',B (decide (D<0)),w']) k2
 have hu3:=zh.bL k2 (.arr 37 [B (decide (A<0)),u',B (decide (D<0)),w'])
 have rJ:=oV.bL k2 (.arr 37 [B (decide (A<0)),u',B (decide (D<0)),w'])
 generalize h2.set h.length (.arr 37 [B (decide (A<0)),u',B (decide (D<0)),w'])=h3 at x3 k3 hu3 rJ⊢
 have aFr:(10000:Nat)^199<10000^201:=by decide+kernel
 have hb:=ph (n:=A.natAbs) (by omega)
 have hD:=ph (n:=D.natAbs) (by omega)
 simp only [cn,add_zero,zero_add,jE k3,ah,true_and]
 refine Lv (⟨u',rfl,hu3⟩:ZV h3 _ A) ?_
 intro ua h4 x4 m4
 refine Wt m4.Fi hb ?_
 intro h5 x5
 have oz:∀{g},EX h3 g→af false 1 g (pt h.length 0)=some (B (decide (A<0))):=fun y=>EX.load y (by simp [af,aR,k3,cf])
 simp only [kJ k3,EX.load x4 (kJ k3),EX.load (x4.trans x5) (kJ k3),ah,true_and]
 have hw5:fD h5 w' D.natAbs:=(rJ.mono x4).mono x5
 have zD:ZV h5 (.agg #[B (decide (D<0)),w']) ((D.natAbs:Nat):Int):=⟨w',by rw [hsD,aU (by omega)],by rwa [natAbs_natCast]⟩
 refine Wt (n:=D.natAbs) zD hD ?_
 intro h6 x6
 obtain ⟨d1,d2,d3,d4,d5⟩:=tG hb
 obtain ⟨c1,c2,c3,c4,c5⟩:=tG hD
 have xx:=(x4.trans x5).trans x6
 have nl:=afN hb
 simp only [lN,ah,fN,aU (show ¬((cE A.natAbs).length:Int)>4000 by omega),aAO,eB,aU (show ¬((cE D.natAbs).length:Int)>4000 by omega)]
 simp only [aAP,dI,ah,dV,cn,add_zero,oz xx]
 have fin:JU prog K (S (gQ A)) (S (cE D.natAbs)) h6:=by
  rw [aAN]
  have:ai .neq (S (cE D.natAbs)) (.string ⟨#[49]⟩)=some (B (!decide (cE D.natAbs=[49]))):=by
   show ai .neq (S (cE D.natAbs)) (S [49])=_
   rw [Yq]
  simp only [this,ah]
  by_cases h1:D=1
  ·subst h1
   have e:mZ A 1=gQ A:=by unfold mZ;rw [if_pos rfl]
   have one:cE (1:Int).natAbs=[49]:=by decide+kernel
   rw [one]
   simp only [decide_true,Bool.not_true,dV,akW]
   rw [←e]
   exact hk _ (x3.trans xx)
  ·have e:mZ A D=gQ A++([47]++cE D.natAbs):=by unfold mZ;rw [if_neg h1];rfl
   have bp:cE D.natAbs≠[49]:=fun h9=>h1 (by have:=atJ hD h9;omega)
   have a1:ai .add (.string ⟨#[47]⟩) (S (cE D.natAbs))=some (S ([47]++cE D.natAbs)):=yd (a:=[47]) (b:=cE D.natAbs) (by simp [maxLen];omega)
   have a2:ai .add (S (gQ A)) (S ([47]++cE D.natAbs))=some (S (gQ A++([47]++cE D.natAbs))):=yd (a:=gQ A) (b:=[47]++cE D.natAbs) (by simp [maxLen];omega)
   rw [aU bp]
   simp only [Bool.not_false,dX,a1,a2,ah,akW]
   rw [←e]
   exact hk _ (x3.trans xx)
 by_cases jk:A<0
 ·have hs:gQ A=45::cE A.natAbs:=by unfold gQ;rw [if_pos jk]
  have ad:ai .add (.string ⟨#[45]⟩) (S (cE A.natAbs))=some (S (gQ A)):=by
   rw [hs]
   exact yd (a:=[45]) (b:=cE A.natAbs) (by simp [maxLen];omega)
  rw [a9 jk]
  simp only [dX,ad,ah]
  exact fin
 ·have hs:gQ A=cE A.natAbs:=by unfold gQ;rw [if_neg jk]
  rw [aU jk,←hs]
  simp only [dV]
  exact fin
end
section
def cF (s:List UInt8):Nat:=if gE s=true then dM s else 0
theorem KY (s:List UInt8):cF s<10^s.length:=by
 unfold cF
 split
 ·rename_i h
  exact Ai (tK.1 h).2.2
 ·exact Nat.pow_pos (by decide)
theorem azk {k n:Nat} (h:k≤4*n):10^k≤10000^n:=by
 have e:10^(4*n)=10000^n:=by rw [Nat.pow_mul]
 rw [←e]
 exact pow_le_pow_right (by decide) h
theorem azg:(10000:Nat)^199≤br:=by unfold br;decide+kernel
theorem al1:(2:Nat)<10000^199:=by decide+kernel
theorem al4 {s:List UInt8} (h:s.length≤700):cF s<10000^199:=by
 exact lt_of_lt_of_le (KY s) (azk (n:=199) (by omega))
theorem fD.nil (h:ae):fD h (.slice none 0 0) 0:=⟨[],.inl ⟨rfl,rfl⟩,⟨fun y hy=>by simp at hy,by simp⟩,rfl⟩
theorem Wv {s:List UInt8} {h:ae} {K:Value→ae→Prop}
  (hk:∀r h',EX h h'→ZV h' r (cF s)→K (.tuple #[r,B (gE s)]) h'):aj prog 99 [S s] h K:=by
 refine amT (fun hd r h' x z=>?_) (fun hd h' x=>?_)
 ·have:=hk r h' x (by unfold cF;rw [if_pos hd];exact z)
  rw [hd] at this
  exact this
 ·have:=hk (.agg #[B false,.slice none 0 0]) h' x (by
   unfold cF;rw [if_neg (by rw [hd];decide)]
   exact ⟨.slice none 0 0,rfl,fD.nil h'⟩)
  rw [hd] at this
  exact this
def rY:Value:=.agg #[B false,.slice none 0 0,B false,.slice none 0 0]
theorem acp {g:ae} {j:Nat} {K:Value→ae→Prop} (hg:g[j]?=some (.arr 37 z4)) (hk:K (.tuple #[rY,B false]) (g.set j (.arr 37 z4))):
  OP (dc [(.bool false),(.slice none 0 0),(.bool false),(.slice none 0 0)] []) fun gS=>OH (aE 4 g (pt j 0) gS) fun _ h_1=>OP (af true 4 h_1 (pt j 0)) fun r0=>K (.tuple #[r0,(.bool false)]) h_1:=by
 have e:dc [(.bool false),(.slice none 0 0),(.bool false),(.slice none 0 0)] []=some rY:=rfl
 rw [e,ah]
 have s:=nH (x:=B false) (y:=.slice none 0 0) (z:=B false) (w:=.slice none 0 0) hg
 have s':aE 4 g (pt j 0) rY=some (undef,g.set j (.arr 37 z4)):=s
 rw [s',aC]
 have l:=hO (cj (o:=.arr 37 z4) hg)
 have l':af true 4 (g.set j (.arr 37 z4)) (pt j 0)=some rY:=l
 rw [l',ah]
 exact hk
theorem Wl {m ok:Bool} {n d:Nat} {h0 g:ae} {i2 i8 i10:Nat} {vn vd:Value} {K:Value→ae→Prop} (k2:g[i2]?=some (.arr 37 z4)) (k8:g[i8]?=some (.arr 35 [B (decide ((n:Int)<0)),vn])) (mn:fD g vn n)
  (El:g[i10]?=some (.arr 35 [B (decide ((d:Int)<0)),vd])) (md:fD g vd d) (b2:h0.length≤i2) (b8:h0.length≤i8) (n28:i2≠i8) (ayE:i8≠i10) (x:EX h0 g)
  (hk:ok=true→(m=true→n≠0)→∀r h',EX h0 h'→QZ h' r (if m then -(n:Int) else n) d→K (.tuple #[r,B true]) h')
  (gF:(ok=false∨m=true∧n=0)→∀h',EX h0 h'→K (.tuple #[rY,B false]) h'):zW prog K (pt i2 0) (B m) (pt i8 0) (B ok) (pt i10 0) g:=by
 have bad:(ok=false∨m=true∧n=0)→∀t u,bP t (.bool true) u=some (B true)→EU prog K (pt i2 0) (B m) (pt i8 0) (pt i10 0) t u g:=by
  intro hb t u ht
  rw [ak3,ht]
  simp only [ah,dX]
  exact acp k2 (gF hb _ (x.set b2 _))
 have DA:ok=true→(m=true→n≠0)→EU prog K (pt i2 0) (B m) (pt i8 0) (pt i10 0) (B false) (B false) g:=by
  intro ho hm
  have hk:=hk ho hm
  rw [ak3]
  simp only [dI,ah]
  cases m with
  | false=>
   simp only [dV]
   rw [ak4,cL k8,ah,cL El,ah]
   exact AX (K:=fun v h=>K (.tuple #[v,B true]) h) ⟨vn,rfl,mn⟩ ⟨vd,rfl,md⟩ x b2 k2 hk
  | true=>
   simp only [dV,dX]
   rw [cL k8,ah]
   refine Wu (a:=n) ⟨vn,rfl,mn⟩ ?_
   intro r7 h7 x7 z7
   obtain ⟨v7,rfl,hv7⟩:=id z7
   have g7:=x7.get k8
   rw [fk g7]
   simp only [aC]
   have axi:(h7.set i8 (.arr 35 [B (decide (-(n:Int)<0)),v7]))[i10]?=some (.arr 35 [B (decide ((d:Int)<0)),vd]):=by
    rw [getElem?_set_ne ayE];exact x7.get El
   rw [ak4,cL (cj g7),ah,cL axi,ah]
   refine AX (K:=fun v h=>K (.tuple #[v,B true]) h) (z7.bL g7 _) ⟨vd,rfl,?_⟩ ((x.trans x7).set b8 _) b2 (by rw [getElem?_set_ne n28.symm];exact x7.get k2) hk
   exact fD.bL (md.mono x7) g7 _
 have n1:gw .not (B ok)=some (B (!ok)):=rfl
 rw [aBm,n1,ah,aBn]
 cases ok with
 | false=>
  simp only [Bool.not_false,gn,ak2,As,Ui]
  exact bad (.inl rfl) _ _ rfl
 | true=>
  simp only [Bool.not_true,eB,ak2]
  cases m with
  | false=>
   simp only [lj,Ui,eB,dI,ah]
   exact DA rfl (fun h=>by cases h)
  | true=>
   obtain ⟨l,p1,p2⟩:=mn.pN
   have ld:af false 1 g (pt i8 1)=some vn:=by simp [af,aR,k8,cf]
   simp only [jt,cn,zero_add,ah,ld,p1,jA,Ui,eB,eW]
   by_cases hn:n=0
   ·rw [a9 (show (l:Int)=0 by omega)]
    exact bad (.inr ⟨rfl,hn⟩) _ _ rfl
   ·rw [aU (show ¬(l:Int)=0 by omega)]
    exact DA rfl (fun _=>hn)
def dF (t:List UInt8):List UInt8:=t.take (t.idxOf 47)
def dQ (t:List UInt8):List UInt8:=t.drop (t.idxOf 47+1)
def nw (t:List UInt8):Bool:=decide (t.idxOf 47<t.length)
def oL (t:List UInt8):Bool:= !nw t||(gE (dQ t)&&(decide (2≤cF (dQ t))&&decide (gcd (cF (dF t)) (cF (dQ t))=1)))
def pv (t:List UInt8):Nat:=if nw t=true then cF (dQ t) else 1
def qR (m:Bool) (t:List UInt8):Option (Int×Nat):=
 if oL t=true∧gE (dF t)=true∧(m=true→cF (dF t)≠0) then some (if m then -(cF (dF t):Int) else cF (dF t),pv t) else none
def jR (s:List UInt8):Option (Int×Nat):=if s.head?=some 45 then qR true s.tail else qR false s
theorem awZ (s:List UInt8):∀{i:Nat},i<s.length→(s.drop i).idxOf 47=if s[i]! =47 then 0 else (s.drop (i+1)).idxOf 47+1:=by
 intro i hi
 rw [List.drop_eq_getElem_cons hi,idxOf_cons]
 have:s[i]! =s[i]:=by simp [hi]
 rw [this]
 by_cases h:s[i]=47
 ·simp [h]
 ·have h':(s[i]==47)=false:=beq_eq_false_iff_ne.2 h
  rw [h'];simp [h]
theorem Lo {s:List UInt8} {m:Bool} {h:ae} {j:Nat} {K:Value→ae→Prop} {h0:ae} (hl:s.length≤700) (x0:EX h0 h) (hj:h0.length≤j) (hg:h[j]?=some (.arr 37 z4))
  (hk:∀n d,qR m s=some (n,d)→∀r h',EX h0 h'→QZ h' r n d→K (.tuple #[r,B true]) h')
  (gF:qR m s=none→∀h',EX h0 h'→K (.tuple #[rY,B false]) h'):J3 prog K (pt j 0) (S s) (B m) h:=by
 rw [aBi]
 have e1:IntKind.wrap .i64 ((s.length:Int)-1)=(s.length:Int)-1:=wrap64 (by omega) (by omega)
 simp only [lN,ah,gq,e1]
 refine dL (σ:=Nat) (fun p=>[I ((p+(s.drop p).idxOf 47:Nat):Int),I ((p:Int)-1)]) (fun _=>h) (fun p=>p≤s.length) (fun p=>p)
  s.length (by simp) rfl (le_refl _) ?_
 intro i hi L hL
 rw [aBj]
 simp only [nS,ah,bX]
 refine ⟨fun cK=>?_,fun aD=>?_⟩
 ·obtain ⟨p,rfl⟩:∃p,i=p+1:=⟨i-1,by omega⟩
  have hp:p<s.length:=by omega
  have ei:((p+1:Nat):Int)-1=(p:Int):=by omega
  have ix:=vL (a:=s) (i:=p) hp .i64
  have e5:ai .eql (cv s[p]) (.int .u8 47)=some (B (decide ((s[p].toNat:Int)=47))):=rfl
  have e2:IntKind.wrap .i64 ((p:Int)-1)=(p:Int)-1:=wrap64 (by omega) (by omega)
  have nx:=hL p (by omega) (by omega)
  rw [awZ s hp] at nx
  have e6:s[p]! =s[p]:=by simp [hp]
  rw [e6] at nx
  rw [ei]
  simp only [ix,ah,e5,aBk,gq,e2,true_and]
  have e7:(decide ((s[p].toNat:Int)=47))=decide (s[p]=47):=by
   rw [decide_eq_decide]
   constructor
   ·intro h;apply UInt8.toNat_inj.1;show s[p].toNat=47;omega
   ·intro h;rw [h];rfl
  rw [e7,bX]
  refine ⟨fun h=>?_,fun h=>?_⟩
  ·rw [if_pos h] at nx;simpa using nx
  ·rw [if_neg h] at nx
   have:p+((s.drop (p+1)).idxOf 47+1)=p+1+(s.drop (p+1)).idxOf 47:=by omega
   rw [this] at nx;exact nx
 ·have nZ:i=0:=by omega
  subst nZ
  simp only [List.drop_zero,zero_add]
  have gr:s.idxOf 47≤s.length:=List.idxOf_le_length
  rw [aBl]
  have wa:=UT (a:=s) (n:=s.idxOf 47) gr .i64
  simp only [wa,ah]
  have lo:(dF s).length≤700:=by unfold dF;rw [length_take];omega
  have lu:(dQ s).length≤700:=by unfold dQ;rw [length_drop];omega
  refine Wv ?_
  intro r h1 x1 z1
  show OP _ _
  have fo:s.take (s.idxOf 47)=dF s:=rfl
  rw [fo] at z1
  obtain ⟨v,rfl,hv⟩:=id z1
  rw [natAbs_natCast] at hv
  simp only [eQ,ft,fv,ah,fo]
  have e2:∀g:ae,aV 35 [(.bool false),(.slice none 0 0)] g=some (pt g.length 0,g++[.arr 35 [(.bool false),(.slice none 0 0)]]):=fun _=>rfl
  simp only [e2,aC]
  rw [fk bn]
  simp only [aC]
  have x2:EX h1 ((h1++[aq.arr 35 [(.bool false),(.slice none 0 0)]]).set h1.length (.arr 35 [B (decide ((cF (dF s):Int)<0)),v])):=EX.set (EX.append _ _) (le_refl _) _
  have g3:((h1++[aq.arr 35 [(.bool false),(.slice none 0 0)]]).set h1.length (.arr 35 [B (decide ((cF (dF s):Int)<0)),v]))[h1.length]?=some (.arr 35 [B (decide ((cF (dF s):Int)<0)),v]):=cj bn
  generalize (h1++[aq.arr 35 [(.bool false),(.slice none 0 0)]]).set h1.length (.arr 35 [B (decide ((cF (dF s):Int)<0)),v])=h3 at x2 g3⊢
  have pG:=(bK hg).1
  have hj1:j<h1.length:=by have:=x1.1;omega
  have xo:=x0.1
  refine uG (z:=((1:Nat):Int)) (by decide) ?_
  intro r4 h4 x4 Ap
  obtain ⟨w,rfl,hw⟩:=id Ap
  rw [natAbs_natCast] at hw
  rw [fk bn]
  simp only [aC]
  have x5:EX h4 ((h4++[aq.arr 35 [(.bool false),(.slice none 0 0)]]).set h4.length (.arr 35 [B (decide (((1:Nat):Int)<0)),w])):=EX.set (EX.append _ _) (le_refl _) _
  have g5:((h4++[aq.arr 35 [(.bool false),(.slice none 0 0)]]).set h4.length (.arr 35 [B (decide (((1:Nat):Int)<0)),w]))[h4.length]?=some (.arr 35 [B (decide (((1:Nat):Int)<0)),w]):=cj bn
  generalize (h4++[aq.arr 35 [(.bool false),(.slice none 0 0)]]).set h4.length (.arr 35 [B (decide (((1:Nat):Int)<0)),w])=h5 at x5 g5⊢
  have hh1:h1.length<h4.length:=by
   have:=x4.1
   have:=(bK g3).1
   omega
  have ba:=(x2.trans x4).trans x5
  have PY:=(x4.trans x5).get g3
  have Qw:=(x1.trans ba).get hg
  have xA:EX h0 h5:=x0.trans (x1.trans ba)
  have mn:=hv.mono ba
  have md:=hw.mono x5
  have h45:h4.length<h5.length:=(bK g5).1
  simp only [lN,ah,cW,bX]
  refine ⟨fun aD=>?_,fun cK=>?_⟩
  rotate_left
  ·have yU:nw s=false:=by unfold nw;exact aU (by omega)
   have mi:pv s=1:=by unfold pv;rw [if_neg (by rw [yU];decide)]
   have qo:oL s=true:=by unfold oL;rw [yU];rfl
   refine Wl (h0:=h0) Qw PY mn g5 md hj (by omega) (by omega) (by omega) xA (fun a b=>?_) (fun a=>?_)
   ·rw [←mi]
    exact hk _ _ (if_pos ⟨qo,a,b⟩)
   ·refine gF (if_neg ?_)
    rintro ⟨_,b1,b2⟩
    rcases a with a | ⟨a1,a2⟩
    ·rw [a] at b1;cases b1
    ·exact b2 a1 a2
  have qB:nw s=true:=a9 (by omega)
  have mi:pv s=cF (dQ s):=by unfold pv;rw [if_pos qB]
  have qo:oL s=(gE (dQ s)&&(decide (2≤cF (dQ s))&&decide (gcd (cF (dF s)) (cF (dQ s))=1))):=by unfold oL;rw [qB];rfl
  have Fb:=B9 (a:=s) (n:=s.idxOf 47+1) (by omega) .i64
  have fu:s.drop (s.idxOf 47+1)=dQ s:=rfl
  have wi:IntKind.wrap .i64 ((s.idxOf 47:Nat)+1:Int)=((s.idxOf 47+1:Nat):Int):=by rw [wrap64 (by omega) (by omega)];omega
  simp only [cQ,wi,ah,Fb,fu]
  refine Wv ?_
  intro r6 h6 x6 z6
  obtain ⟨v6,rfl,hv6⟩:=id z6
  rw [natAbs_natCast] at hv6
  simp only [eQ,ft,fv,ah]
  rw [fk bn]
  simp only [aC]
  have x7:EX h6 ((h6++[aq.arr 35 [(.bool false),(.slice none 0 0)]]).set h6.length (.arr 35 [B (decide ((cF (dQ s):Int)<0)),v6])):=EX.set (EX.append _ _) (le_refl _) _
  have g7:((h6++[aq.arr 35 [(.bool false),(.slice none 0 0)]]).set h6.length (.arr 35 [B (decide ((cF (dQ s):Int)<0)),v6]))[h6.length]?=some (.arr 35 [B (decide ((cF (dQ s):Int)<0)),v6]):=cj bn
  generalize (h6++[aq.arr 35 [(.bool false),(.slice none 0 0)]]).set h6.length (.arr 35 [B (decide ((cF (dQ s):Int)<0)),v6])=h7 at x7 g7⊢
  have eO:=x6.trans x7
  have nn:gw .not (B (gE (dQ s)))=some (B (!gE (dQ s))):=rfl
  have bad:∀{g:ae},EX h7 g→oL s=false→(OP (dc [(.bool false),(.slice none 0 0),(.bool false),(.slice none 0 0)] []) fun gS=>OH (aE 4 g (pt j 0) gS) fun _ h_1=>OP (af true 4 h_1 (pt j 0)) fun r0=>K (.tuple #[r0,(.bool false)]) h_1):=by
   intro g xg hd
   refine acp ((eO.trans xg).get Qw) (gF (if_neg ?_) _ ((xA.trans (eO.trans xg)).set hj _))
   rintro ⟨b,_⟩
   rw [hd] at b;cases b
  simp only [nn,ah]
  cases yI:gE (dQ s) with
  | false=>
   rw [yI] at qo
   simp only [Bool.not_false,gn,true_and,eW,ah,dX]
   exact bad (EX.refl _) (by rw [qo];rfl)
  | true=>
   rw [yI,Bool.true_and] at qo
   have zu:ZV h7 (.agg #[B (decide ((cF (dQ s):Int)<0)),v6]) (cF (dQ s)):=z6.mono x7
   have zo:ZV h7 (.agg #[B (decide ((cF (dF s):Int)<0)),v]) (cF (dF s)):=⟨v,rfl,by rw [natAbs_natCast];exact mn.mono eO⟩
   have small:=al4 lu
   have aDF:=al4 lo
   have aE1:(10000:Nat)^199≤br:=azg
   simp only [Bool.not_true,eB,cL g7,ah,true_and]
   refine uG (z:=2) (by decide) ?_
   intro r8 h8 x8 z8
   simp only [(x8.load (cL g7)),true_and]
   refine Lq (zu.mono x8) z8 (by rw [natAbs_natCast];omega) (by have:(2:Nat)<10000^199:=al1;show 2<br;omega) ?_
   intro h9 x9
   have jW:=x8.trans x9
   simp only [cW,ah,dI]
   by_cases h2:cF (dQ s)<2
   ·have en:lL ((cF (dQ s):Int)-2)= -1:=by unfold lL;rw [if_neg (by omega),if_pos (by omega)]
    rw [en]
    simp only [show decide ((-1:Int)<0)=true from rfl,gn,eW,ah,dX]
    refine bad jW ?_
    rw [qo,aU (by omega)];rfl
   ·have en:0≤lL ((cF (dQ s):Int)-2):=by
     unfold lL
     split
     ·decide
     ·rw [if_neg (by omega)];decide
    rw [aU (show ¬lL ((cF (dQ s):Int)-2)<0 by omega)]
    rw [a9 (show 2≤cF (dQ s) by omega),Bool.true_and] at qo
    have l8:af true 2 h9 (pt h1.length 0)=some (.agg #[B (decide ((cF (dF s):Int)<0)),v]):=cL ((eO.trans jW).get PY)
    have l9:af true 2 h9 (pt h6.length 0)=some (.agg #[B (decide ((cF (dQ s):Int)<0)),v6]):=cL (jW.get g7)
    simp only [eB,l8,l9,ah]
    refine Wn (zo.mono jW) (zu.mono jW) (by rw [natAbs_natCast];exact aDF) (by rw [natAbs_natCast];exact small) ?_
    intro u sA aM mu
    simp only [natAbs_natCast] at mu
    have Qx:gcd (cF (dF s)) (cF (dQ s))≤cF (dQ s):=Nat.gcd_le_right _ (by omega)
    have zg:ZV sA (.agg #[B false,u]) (gcd (cF (dF s)) (cF (dQ s)):Nat):=⟨u,by rw [aU (by omega)],by rw [natAbs_natCast];exact mu⟩
    refine uG (z:=1) (by decide) ?_
    intro r11 h11 au jY
    refine Lq (zg.mono au) jY (by rw [natAbs_natCast];omega) (by have:(2:Nat)<10000^199:=al1;show 1<br;omega) ?_
    intro h12 aB
    have Lb:=jW.trans (aM.trans (au.trans aB))
    simp only [rf,ah,dI]
    by_cases w9:gcd (cF (dF s)) (cF (dQ s))=1
    ·have en:lL ((gcd (cF (dF s)) (cF (dQ s)):Nat)-1:Int)=0:=by unfold lL;rw [if_pos (by omega)]
     rw [a9 w9] at qo
     rw [en]
     have l12:af true 2 h12 (pt h6.length 0)=some (.agg #[B (decide ((cF (dQ s):Int)<0)),v6]):=cL (Lb.get g7)
     simp only [decide_true,Bool.not_true,dV,l12,ah]
     have Ft:=eO.trans Lb
     have Ie:=Ft.get g5
     rw [fk Ie]
     simp only [aC]
     refine Wl (h0:=h0) (i2:=j) (i8:=h1.length) (i10:=h4.length) (n:=cF (dF s)) (d:=cF (dQ s)) (vn:=v) (vd:=v6) ?_ ?_ ?_ (cj Ie) ?_ hj (by omega) (by omega) (by omega) ?_ (fun a b=>?_) (fun a=>?_)
     ·rw [getElem?_set_ne (by omega)];exact Ft.get Qw
     ·rw [getElem?_set_ne (by omega)];exact Ft.get PY
     ·exact fD.bL (mn.mono Ft) Ie _
     ·exact fD.bL (hv6.mono (x7.trans Lb)) Ie _
     ·exact (xA.trans Ft).set (by omega) _
     ·rw [←mi]
      exact hk _ _ (if_pos ⟨qo,a,b⟩)
     ·refine gF (if_neg ?_)
      rintro ⟨_,b1,b2⟩
      rcases a with a | ⟨a1,a2⟩
      ·rw [a] at b1;cases b1
      ·exact b2 a1 a2
    ·have en:lL ((gcd (cF (dF s)) (cF (dQ s)):Nat)-1:Int)≠0:=by
      unfold lL;rw [if_neg (by omega)];split <;> decide
     rw [aU w9] at qo
     rw [aU en]
     simp only [Bool.not_false,dX]
     exact bad Lb qo
end
section
variable (P : Program) (K : VK)
noncomputable section
variable (s0 x2 x6 x8 x9 aM au aB dC eL dm fC bS cX gD iM : Value) (h : ae)
def afX:=bz prog 108 [[],[],[],[],[],[],[],[2,6,8,9,10,11,38],[2,6,8,9,10,11,38,42],[2,6,8,9,10,11,12],[2,6,8,9,11,12,46],[2,6,8,9,11,46,48],[2,6,8,9,11,50],[2,6,8,9,11,50,52],[2,6,8,9,11,50,52,55],[2,6,8,9,11,50,56],[],[],[],[],[]]
@[irreducible] def Gu:=bI afX
@[irreducible] def YN:=Gu.r.r.r.r.r.l.r.l.r.r.l
@[irreducible] def YT:=Gu.r.r.r.r.r.r
@[irreducible] def aqn:=YN.r.l
@[irreducible] def Gv:=YT.l
@[irreducible] def YO:=Gv.l.l.r.l
@[irreducible] def aqp:=Gv.l.r
@[irreducible] def aqo:=Gv.r
@[irreducible] def YP:=YO.r.l
@[irreducible] def YQ:=YP.r.l
@[irreducible] def YR:=YQ.r.l
@[irreducible] def YS:=YR.r.l
@[irreducible] def aqq:=YS.r.l
theorem axr:afX=some (78,Gu,[.cell true 4 2,.tmp 3]):=by kernel_rfl
def CE (_P:Program) (K:VK):ar:=aS [.cell true 4 2,.tmp 3] K
def WM:ar:=aF (ak P YT (CE P K)) (CE P K)
def WL:ar:=aF (ak P aqo (CE P K)) (CE P K)
def Av:ar:=aF (ak P aqp (WL P K)) (WL P K)
def ahV:Prop:=ay (ak P YN (WM P K)) [2,6,8,9,10,11,38] [x2,x6,x8,x9,aM,au,dC] h
def SQ:Prop:=ay (ak P aqn (WM P K)) [2,6,8,9,10,11,38,42] [x2,x6,x8,x9,aM,au,dC,eL] h
def EI:Prop:=ay (ak P Gv (CE P K)) [2,6,8,9,10,11,12] [x2,x6,x8,x9,aM,au,aB] h
def ahW:Prop:=ay (ak P YO (Av P K)) [2,6,8,9,11,12,46] [x2,x6,x8,x9,au,aB,dm] h
def SR:Prop:=ay (ak P YP (Av P K)) [2,6,8,9,11,46,48] [x2,x6,x8,x9,au,dm,fC] h
def SU:Prop:=ay (ak P YQ (Av P K)) [2,6,8,9,11,50] [x2,x6,x8,x9,au,bS] h
def SV:Prop:=ay (ak P YR (Av P K)) [2,6,8,9,11,50,52] [x2,x6,x8,x9,au,bS,cX] h
def SW:Prop:=ay (ak P YS (Av P K)) [2,6,8,9,11,50,52,55] [x2,x6,x8,x9,au,bS,cX,gD] h
def EJ:Prop:=ay (ak P aqq (Av P K)) [2,6,8,9,11,50,56] [x2,x6,x8,x9,au,bS,iM] h
theorem akx:SQ P K x2 x6 x8 x9 aM au dC eL h=
 (OP (bP dC eL (.bool false)) fun bV=>
 EI P K x2 x6 x8 x9 aM au bV h):=az (by kernel_rfl)
theorem azE:ahV P K x2 x6 x8 x9 aM au dC h=
 (cm dC true
 (OH (dH 177 1 [(.int .u32 (0))] h [(0,1,(.int .u32 (1)))]) fun dU z1=>
 aj P 126 [au,dU] z1 fun ef z2=>
 OP (ai .gtr ef (.int .i64 (0))) fun eL=>
 SQ P K x2 x6 x8 x9 aM au dC eL z2)
 (SQ P K x2 x6 x8 x9 aM au dC undef h)):=az (by kernel_rfl)
theorem akB:EJ P K x2 x6 x8 x9 au bS iM h=
 (OP (bP bS (.bool true) iM) fun eO=>
 aQ eO
 (OP (dc [(.bool false),(.slice none 0 0),(.bool false),(.slice none 0 0)] []) fun fW=>
 OH (aE 4 h x2 fW) fun _ z1=>
 OP (af true 4 z1 x2) fun r0=>
 K (.tuple #[r0,(.bool false)]) z1)
 (aj P 117 [x8,x9] h fun fQ z1=>
 aj P 117 [(.bool false),au] z1 fun ko z2=>
 OP (dc [(.bool false),(.slice none 0 0),(.bool false),(.slice none 0 0)] [(0,2,fQ),(2,2,ko)]) fun iY=>
 OH (aV 107 [(.bool false),(.slice none 0 0),(.bool false),(.slice none 0 0)] z2) fun aA z3=>
 OH (aE 4 z3 aA iY) fun _ z4=>
 OP (af true 4 z4 aA) fun gf=>
 (True)∧
 OP (gw .not x6) fun gh=>
 cm gh false
 (OP (aL 0 aA) fun fM=>
 OP (af true 2 z4 fM) fun mD=>
 (True)∧
 OP (aL 2 aA) fun iC=>
 OP (af true 2 z4 iC) fun lW=>
 (True)∧
 aj P 120 [mD,lW] z4 fun nf z5=>
 (af true 4 z5 aA=some gf∧True)∧
 aj P 105 [(.int .i64 (1))] z5 fun jI z6=>
 (af true 4 z6 aA=some gf∧True)∧
 aj P 111 [nf,jI] z6 fun jJ z7=>
 (af true 4 z7 aA=some gf∧True)∧
 OP (ai .eql jJ (.int .i64 (0))) fun kr=>
 OP (bP gh (.bool true) kr) fun iN=>
 OH (aE 4 z7 x2 gf) fun _ z8=>
 (True)∧
 OP (af true 4 z8 x2) fun r0=>
 K (.tuple #[r0,iN]) z8)
 ((af true 4 z4 aA=some gf∧True)∧
 (af true 4 z4 aA=some gf∧True)∧
 (af true 4 z4 aA=some gf∧True)∧
 OP (bP gh (.bool true) undef) fun iN=>
 OH (aE 4 z4 x2 gf) fun _ z5=>
 (True)∧
 OP (af true 4 z5 x2) fun r0=>
 K (.tuple #[r0,iN]) z5))):=az (by kernel_rfl)
theorem Ue:SW P K x2 x6 x8 x9 au bS cX gD h=
 (cm bS false
 (OP (bP cX gD (.bool false)) fun iM=>
 EJ P K x2 x6 x8 x9 au bS iM h)
 (EJ P K x2 x6 x8 x9 au bS undef h)):=az (by kernel_rfl)
theorem akA:SV P K x2 x6 x8 x9 au bS cX h=
 (cm cX true
 (OP (bj x9) fun df=>
 OP (ai .eql df (.int .i64 (0))) fun gD=>
 SW P K x2 x6 x8 x9 au bS cX gD h)
 (SW P K x2 x6 x8 x9 au bS cX undef h)):=az (by kernel_rfl)
theorem akz:SU P K x2 x6 x8 x9 au bS h=
 (cm bS false
 (SV P K x2 x6 x8 x9 au bS x8 h)
 (SV P K x2 x6 x8 x9 au bS undef h)):=az (by kernel_rfl)
theorem aky:SR P K x2 x6 x8 x9 au dm fC h=
 (OP (bP dm (.bool true) fC) fun gB=>
 SU P K x2 x6 x8 x9 au gB h):=az (by kernel_rfl)
theorem azG:ahW P K x2 x6 x8 x9 au aB dm h=
 (cm dm false
 (OP (gw .not aB) fun fC=>
 SR P K x2 x6 x8 x9 au dm fC h)
 (SR P K x2 x6 x8 x9 au dm undef h)):=az (by kernel_rfl)
theorem azF:EI P K x2 x6 x8 x9 aM au aB h=
 (OP (gw .not aM) fun cI=>
 ahW P K x2 x6 x8 x9 au aB cI h):=az (by kernel_rfl)
def MB:Prop:=
 OH (aV 107 [(.bool false),(.slice none 0 0),(.bool false),(.slice none 0 0)] h) fun x2 z1=>
 aj P 123 [s0,(.string ⟨#[47]⟩)] z1 fun bk z2=>
 OP (b9 0 bk) fun bM=>
 OP (b9 1 bk) fun aP=>
 OP (b9 2 bk) fun aO=>
 aj P 124 [bM,(.string ⟨#[45]⟩)] z2 fun bE z3=>
 OP (b9 0 bE) fun ck=>
 OP (b9 1 bE) fun bu=>
 aj P 125 [ck] z3 fun bW z4=>
 OP (b9 0 bW) fun cC=>
 OP (b9 1 bW) fun cG=>
 OH (dH 177 1 [(.int .u32 (0))] z4 [(0,1,(.int .u32 (1)))]) fun dj z5=>
 aQ aO
 (aj P 125 [aP] z5 fun cP z6=>
 OP (b9 0 cP) fun cZ=>
 OP (b9 1 cP) fun cT=>
 ahV P K x2 aO bu cC cG cZ cT z6)
 (EI P K x2 aO bu cC cG dj (.bool true) z5)
theorem at1:ak P Gu (aS [.cell true 4 2,.tmp 3] K) (bt [s0]) h=MB P K s0 h:=by kernel_rfl
theorem f108 {K:VK} {s0:Value} {h:ae} (H:MB prog K s0 h):aj prog 108 [s0] h K:=
 bJ axr (bH rfl) ((at1 prog K s0 h).mpr H)
end
noncomputable section
variable (s0 x1 : Value) (h : ae)
def agc:=bz prog 123 [[],[]]
@[irreducible] def Za:=bI agc
theorem axG:agc=some (13,Za,[.tmp 4,.tmp 5,.tmp 6]):=by kernel_rfl
def MP:Prop:=
 aj P 131 [s0,x1] h fun x9 z1=>
 OP (b9 0 x9) fun aM=>
 OP (b9 1 x9) fun au=>
 OP (b9 2 x9) fun aB=>
 K (.tuple #[aM,au,aB]) z1
theorem auh:ak P Za (aS [.tmp 4,.tmp 5,.tmp 6] K) (bt [s0,x1]) h=MP P K s0 x1 h:=by kernel_rfl
theorem f123 {K:VK} {s0 x1:Value} {h:ae} (H:MP prog K s0 x1 h):aj prog 123 [s0,x1] h K:=
 bJ axG (bH rfl) ((auh prog K s0 x1 h).mpr H)
end
noncomputable section
variable (s0 x1 : Value) (h : ae)
def agd:=bz prog 124 [[],[]]
@[irreducible] def Zb:=bI agd
theorem axH:agd=some (11,Zb,[.tmp 4,.tmp 5]):=by kernel_rfl
def MQ:Prop:=
 aj P 132 [s0,x1] h fun x8 z1=>
 OP (b9 0 x8) fun x9=>
 OP (b9 1 x8) fun aM=>
 K (.tuple #[x9,aM]) z1
theorem aui:ak P Zb (aS [.tmp 4,.tmp 5] K) (bt [s0,x1]) h=MQ P K s0 x1 h:=by kernel_rfl
theorem f124 {K:VK} {s0 x1:Value} {h:ae} (H:MQ prog K s0 x1 h):aj prog 124 [s0,x1] h K:=
 bJ axH (bH rfl) ((aui prog K s0 x1 h).mpr H)
end
noncomputable section
variable (s0 i4 x5 n6 x7 x8 au aB aO ck cC cO cZ cT dC ef bS cD : Value) (L1 L2 : LQ) (xs : List Value) (h : ae)
def agf:=bz prog 125 [[],[],[0,11],[12],[],[],[],[0,4,11,12,19],[0,11,12,19,23],[],[],[],[0],[0,28],[0,28,32],[0,28,32,35],[0,28,36],[0,38],[0,38,41],[],[],[],[],[],[0,5],[],[],[],[],[],[0,5,6,50],[7,8,51],[],[],[],[],[0,5,6,7,8],[],[5],[]]
@[irreducible] def GG:=bI agf
@[irreducible] def GI:=GG.r.l.r.l.l
@[irreducible] def Zd:=GG.r.r
@[irreducible] def Zc:=GI.r.r.l.l.r.l.r.l
@[irreducible] def aqL:=GI.r.r.l.l.r.r
@[irreducible] def aqS:=GI.r.r.r
@[irreducible] def GH:=Zd.l
@[irreducible] def aqM:=Zc.r.l
@[irreducible] def Ze:=GH.l.l.r.l
@[irreducible] def aqN:=GH.l.r
@[irreducible] def Ov:=GH.r
@[irreducible] def Zf:=Ze.r.l
@[irreducible] def Ow:=Ov.r.l.l.l
@[irreducible] def Zj:=Ov.r.r
@[irreducible] def Zg:=Zf.r.l
@[irreducible] def aqP:=Ow.r.l.r.r.l.r.l.l
@[irreducible] def Zk:=Ow.r.l.r.r.r
@[irreducible] def aqR:=Zj.l
@[irreducible] def Zh:=Zg.r.l
@[irreducible] def aqQ:=Zk.l
@[irreducible] def Zi:=Zh.r.l
@[irreducible] def aqO:=Zi.r.l
theorem axI:agf=some (77,GG,[.tmp 2,.tmp 3]):=by kernel_rfl
def wA (_P:Program) (K:VK):ar:=aS [.tmp 2,.tmp 3] K
def anw:ar:=aF (ak P Zd (wA P K)) (wA P K)
def anA:ar:=bN 0 (anw P K)
def LR:ar:=aF (fun f' aT=>(([0,11]:List Nat).map f':List Value)=[s0,au]∧L1 (([12]:List Nat).map f') aT) (anA P K)
def anE:ar:=aF (ak P aqS (LR P K s0 au L1)) (LR P K s0 au L1)
def WY:ar:=bN 1 (anE P K s0 au L1)
def WV:ar:=aF (ak P aqL (WY P K s0 au L1)) (WY P K s0 au L1)
def WW:ar:=aF (ak P Ov (wA P K)) (wA P K)
def Aw:ar:=aF (ak P aqN (WW P K)) (WW P K)
def anx:ar:=aF (ak P Zj (wA P K)) (wA P K)
def anz:ar:=bN 2 (anx P K)
def WX:ar:=aF (fun f' aT=>(([]:List Nat).map f':List Value)=[]∧L1 (([0,5]:List Nat).map f') aT) (anz P K)
def LP:ar:=bN 3 (WX P K L1)
def anB:ar:=aF (ak P Zk (LP P K L1)) (LP P K L1)
def anC:ar:=bN 4 (anB P K L1)
def anD:ar:=aF (fun f' aT=>(([0,5,6,50]:List Nat).map f':List Value)=[s0,x5,n6,bS]∧L2 (([7,8,51]:List Nat).map f') aT) (anC P K L1)
def aii:Prop:=ay (ak P GI (LR P K s0 au L1)) ([0,11]++[12]) ([s0,au]++xs) h
def aic:Prop:=ay (ak P Zc (WV P K s0 au L1)) [0,4,11,12,19] [s0,i4,au,aB,aO] h
def S3:Prop:=ay (ak P aqM (WV P K s0 au L1)) [0,11,12,19,23] [s0,au,aB,aO,ck] h
def aid:Prop:=ay (ak P GH (wA P K)) [0] [s0] h
def aie:Prop:=ay (ak P Ze (Aw P K)) [0,28] [s0,cC] h
def S4:Prop:=ay (ak P Zf (Aw P K)) [0,28,32] [s0,cC,cO] h
def S5:Prop:=ay (ak P Zg (Aw P K)) [0,28,32,35] [s0,cC,cO,cZ] h
def S6:Prop:=ay (ak P Zh (Aw P K)) [0,28,36] [s0,cC,cT] h
def S7:Prop:=ay (ak P Zi (Aw P K)) [0,38] [s0,dC] h
def EL:Prop:=ay (ak P aqO (Aw P K)) [0,38,41] [s0,dC,ef] h
def aif:Prop:=ay (ak P Ow (WX P K L1)) ([]++[0,5]) ([]++xs) h
def aih:Prop:=ay (ak P aqP (anD P K s0 x5 n6 bS L1 L2)) ([0,5,6,50]++[7,8,51]) ([s0,x5,n6,bS]++xs) h
def aij:Prop:=ay (ak P aqQ (LP P K L1)) [0,5,6,7,8] [s0,x5,n6,x7,x8] h
def aik:Prop:=ay (ak P aqR (wA P K)) [5] [x5] h
theorem akG:S3 P K s0 au aB aO ck L1 h=
 (OP (bP aO (.bool true) ck) fun bu=>
 aQ bu
 (K (.tuple #[(.slice none 0 0),(.bool false)]) h)
 (OP (ai .add aB (.int .i64 (1))) fun bY=>
 ([s0,au]:List Value)=[s0,au]∧L1 [bY] h)):=az (by kernel_rfl)
theorem akF:aic P K s0 i4 au aB aO L1 h=
 (cm aO false
 (OP (jP s0 i4) fun bE=>
 OP (ai .gtr bE (.int .u8 (57))) fun ck=>
 S3 P K s0 au aB aO ck L1 h)
 (S3 P K s0 au aB aO undef L1 h)):=az (by kernel_rfl)
theorem az1 (s0 au:Value) (L1:LQ) (aB:Value) (h:ae):aii P K s0 au L1 [aB] h=
 (OP (ai .lss aB au) fun aA=>
 aQ aA
 (OP (jP s0 aB) fun bM=>
 OP (ai .lss bM (.int .u8 (48))) fun aP=>
 aic P K s0 aB au aB aP L1 h)
 (aid P K s0 h)):=az (by kernel_rfl)
theorem akJ:EL P K s0 dC ef h=
 (OP (bP dC (.bool true) ef) fun eL=>
 aQ eL
 (K (.tuple #[(.slice none 0 0),(.bool false)]) h)
 (cM [s0,(.slice none 0 0)] h fun L1 xs hx=>
 aif P K L1 xs hx)):=az (by kernel_rfl)
theorem Uh:S7 P K s0 dC h=
 (cm dC false
 (OP (gv s0) fun dU=>
 OP (ai .gtr dU (.int .i64 (4000))) fun ef=>
 EL P K s0 dC ef h)
 (EL P K s0 dC undef h)):=az (by kernel_rfl)
theorem Ug:S6 P K s0 cC cT h=
 (OP (bP cC (.bool true) cT) fun fm=>
 S7 P K s0 fm h):=az (by kernel_rfl)
theorem Uf:S5 P K s0 cC cO cZ h=
 (cm cC false
 (OP (bP cO cZ (.bool false)) fun cT=>
 S6 P K s0 cC cT h)
 (S6 P K s0 cC undef h)):=az (by kernel_rfl)
theorem akI:S4 P K s0 cC cO h=
 (cm cO true
 (OP (gv s0) fun cP=>
 OP (ai .gtr cP (.int .i64 (1))) fun cZ=>
 S5 P K s0 cC cO cZ h)
 (S5 P K s0 cC cO undef h)):=az (by kernel_rfl)
theorem akH:aie P K s0 cC h=
 (cm cC false
 (OP (jP s0 (.int .i64 (0))) fun dj=>
 OP (ai .eql dj (.int .u8 (48))) fun cA=>
 S4 P K s0 cC cA h)
 (S4 P K s0 cC undef h)):=az (by kernel_rfl)
theorem az0 (s0 x5 n6 bS:Value) (L1 L2:LQ) (x7 x8 cD:Value) (h:ae):aih P K s0 x5 n6 bS L1 L2 [x7,x8,cD] h=
 (OP (ai .lss cD bS) fun cX=>
 aQ cX
 (OP (ai .mul (.int .u32 (10)) x7) fun gD=>
 OP (jP s0 cD) fun fW=>
 OP (ai .sub fW (.int .u8 (48))) fun fI=>
 OP (dh .u32 fI) fun kn=>
 OP (ai .add gD kn) fun fQ=>
 OP (ai .mul (.int .u32 (10)) x8) fun ko=>
 OP (ai .add cD (.int .i64 (1))) fun iY=>
 ([s0,x5,n6,bS]:List Value)=[s0,x5,n6,bS]∧L2 [fQ,ko,iY] h)
 (aij P K s0 x5 n6 x7 x8 L1 h)):=az (by kernel_rfl)
theorem az2:aij P K s0 x5 n6 x7 x8 L1 h=
 (OH (dH 177 1 [(.int .u32 (0))] h [(0,1,x8)]) fun gh z1=>
 aj P 122 [x5,gh] z1 fun gj z2=>
 OH (dH 177 1 [(.int .u32 (0))] z2 [(0,1,x7)]) fun mD z3=>
 aj P 118 [mD] z3 fun iC z4=>
 aj P 128 [gj,iC] z4 fun lW z5=>
 OP (kV s0 (some n6) none) fun jJ=>
 ([]:List Value)=[]∧L1 [jJ,lW] z5):=az (by kernel_rfl)
theorem azZ (L1:LQ) (s0 x5:Value) (h:ae):aif P K L1 [s0,x5] h=
 (OP (ai .neq s0 (.string ⟨#[]⟩)) fun bG=>
 aQ bG
 (OP (gv s0) fun dm=>
 OP (ai .sub dm (.int .i64 (1))) fun nK=>
 OP (ai .rem nK (.int .i64 (9))) fun fC=>
 OP (ai .add fC (.int .i64 (1))) fun gB=>
 cM [(.int .u32 (0)),(.int .u32 (1)),(.int .i64 (0))] h fun L2 xs hx=>
 aih P K s0 x5 gB gB L1 L2 xs hx)
 (aik P K x5 h)):=az (by kernel_rfl)
theorem az3:aik P K x5 h=
 (K (.tuple #[x5,(.bool true)]) h):=az (by kernel_rfl)
theorem azY:aid P K s0 h=
 (OP (ai .eql s0 (.string ⟨#[]⟩)) fun bW=>
 aie P K s0 bW h):=az (by kernel_rfl)
def MR:Prop:=
 OP (gv s0) fun au=>
 cM [(.int .i64 (0))] h fun L1 xs hx=>
 aii P K s0 au L1 xs hx
theorem auj:ak P GG (aS [.tmp 2,.tmp 3] K) (bt [s0]) h=MR P K s0 h:=by kernel_rfl
theorem f125 {K:VK} {s0:Value} {h:ae} (H:MR prog K s0 h):aj prog 125 [s0] h K:=
 bJ axI (bH rfl) ((auj prog K s0 h).mpr H)
end
noncomputable section
variable (s0 x1 : Value) (h : ae)
def agm:=bz prog 131 [[],[],[],[],[],[]]
@[irreducible] def Zr:=bI agm
theorem axO:agm=some (23,Zr,[.tmp 4,.tmp 5,.tmp 6]):=by kernel_rfl
def MW:Prop:=
 aj P 139 [s0,x1] h fun aM z1=>
 OP (ai .geq aM (.int .i64 (0))) fun aB=>
 aQ aB
 (OP (kV s0 none (some aM)) fun ba=>
 OP (gv x1) fun aO=>
 OP (ai .add aM aO) fun aW=>
 OP (kV s0 (some aW) none) fun aY=>
 K (.tuple #[ba,aY,(.bool true)]) z1)
 (K (.tuple #[s0,(.string ⟨#[]⟩),(.bool false)]) z1)
theorem aup:ak P Zr (aS [.tmp 4,.tmp 5,.tmp 6] K) (bt [s0,x1]) h=MW P K s0 x1 h:=by kernel_rfl
theorem f131 {K:VK} {s0 x1:Value} {h:ae} (H:MW prog K s0 x1 h):aj prog 131 [s0,x1] h K:=
 bJ axO (bH rfl) ((aup prog K s0 x1 h).mpr H)
end
noncomputable section
variable (s0 x1 : Value) (h : ae)
def agn:=bz prog 132 [[],[],[],[],[]]
@[irreducible] def Zs:=bI agn
theorem axP:agn=some (15,Zs,[.tmp 4,.tmp 5]):=by kernel_rfl
def MX:Prop:=
 aj P 140 [s0,x1] h fun x8 z1=>
 OP (gw .not x8) fun x9=>
 aQ x9
 (K (.tuple #[s0,(.bool false)]) z1)
 (OP (gv x1) fun aA=>
 OP (kV s0 (some aA) none) fun aH=>
 K (.tuple #[aH,(.bool true)]) z1)
theorem auq:ak P Zs (aS [.tmp 4,.tmp 5] K) (bt [s0,x1]) h=MX P K s0 x1 h:=by kernel_rfl
theorem f132 {K:VK} {s0 x1:Value} {h:ae} (H:MX prog K s0 x1 h):aj prog 132 [s0,x1] h K:=
 bJ axP (bH rfl) ((auq prog K s0 x1 h).mpr H)
end
noncomputable section
variable (s0 x1 x4 n5 CV t9 xD wJ aO bE cT wm nc : Value) (L1 : LQ) (xs : List Value) (h : ae)
def agu:=bz prog 139 [[],[],[0,1,4,5,12,19,36,107,132],[0,1,4,5,12,19,22,36,107,132],[],[],[],[],[],[],[],[],[],[],[],[],[],[],[0,1,5,6,7,9],[8,10,12,107,132],[],[],[],[],[],[],[],[0,1,5,6,7,8,9,10,12,107,132],[0,1,5,6,7,8,9,10,12,84,107,132],[0,1,5,6,7,8,9,10,12,84,92,107,132],[],[],[],[],[],[],[],[],[],[],[],[],[],[],[],[],[],[],[]]
@[irreducible] def CZ:=bI agu
@[irreducible] def ZD:=CZ.r.r.l.l.l.r.l
@[irreducible] def arh:=CZ.r.r.l.l.r
@[irreducible] def OD:=CZ.r.r.r
@[irreducible] def ari:=ZD.r.l
@[irreducible] def arf:=OD.r.r.r.r.r.l.l.l
@[irreducible] def ard:=OD.r.r.r.r.r.r
theorem axW:agu=some (143,CZ,[.tmp 4]):=by kernel_rfl
def FO (_P:Program) (K:VK):ar:=aS [.tmp 4] K
def aoc:ar:=aF (ak P OD (FO P K)) (FO P K)
def W0:ar:=bN 0 (aoc P K)
def W1:ar:=aF (ak P arh (W0 P K)) (W0 P K)
def an9:ar:=aF (ak P ard (FO P K)) (FO P K)
def aoa:ar:=bN 1 (an9 P K)
def aob (s0 x1 n5 CV wJ t9:Value) (L1:LQ):ar:=aF (fun f' aT=>(([0,1,5,6,7,9]:List Nat).map f':List Value)=[s0,x1,n5,CV,wJ,t9]∧L1 (([8,10,12,107,132]:List Nat).map f') aT) (aoa P K)
def aiC:Prop:=ay (ak P ZD (W1 P K)) [0,1,4,5,12,19,36,107,132] [s0,x1,x4,n5,xD,aO,cT,wm,nc] h
def Ta:Prop:=ay (ak P ari (W1 P K)) [0,1,4,5,12,19,22,36,107,132] [s0,x1,x4,n5,xD,aO,bE,cT,wm,nc] h
def ay8 (s0 x1 n5 CV wJ t9:Value) (L1:LQ) (xs:List Value) (h:ae):Prop:=ay (ak P arf (aob P K s0 x1 n5 CV wJ t9 L1)) ([0,1,5,6,7,9]++[8,10,12,107,132]) ([s0,x1,n5,CV,wJ,t9]++xs) h
theorem aAu:Ta P K s0 x1 x4 n5 xD aO bE cT wm nc h=
 (OP (bP aO (.bool true) bE) fun ck=>
 aQ ck
 (K (.int .i64 (0)) h)
 (OP (ai .eql n5 (.int .i64 (1))) fun cg=>
 aQ cg
 (OP (jP x1 (.int .i64 (0))) fun cG=>
 aj P 142 [s0,cG] h fun dj z1=>
 K dj z1)
 (OP (gv s0) fun cP=>
 OP (ai .geq n5 cP) fun cZ=>
 aQ cZ
 (K (.int .i64 (-1)) h)
 (OH none fun _ z1=>
 aQ cT
 (OH none fun _ z2=>
 K x4 z2)
 (OP (jP x1 (.int .i64 (0))) fun gB=>
 OP (jP x1 (.int .i64 (1))) fun cD=>
 OP (gv s0) fun kP=>
 OP (ai .sub kP n5) fun gD=>
 OP (ai .add gD (.int .i64 (1))) fun iM=>
 cM [(.int .i64 (0)),(.int .i64 (0)),xD,wm,nc] z1 fun L1 xs hx=>
 ay8 P K s0 x1 n5 gB cD iM L1 xs hx))))):=az (by kernel_rfl)
theorem aAt:aiC P K s0 x1 x4 n5 xD aO cT wm nc h=
 (cm aO false
 (OP (ai .eql x1 s0) fun bE=>
 Ta P K s0 x1 x4 n5 xD aO bE cT wm nc h)
 (Ta P K s0 x1 x4 n5 xD aO undef cT wm nc h)):=az (by kernel_rfl)
def M5:Prop:=
 OP (gv x1) fun ba=>
 OP (ai .eql ba (.int .i64 (0))) fun aP=>
 aiC P K s0 x1 (.int .i64 (0)) ba undef aP undef undef undef h
theorem auy:ak P CZ (aS [.tmp 4] K) (bt [s0,x1]) h=M5 P K s0 x1 h:=by kernel_rfl
theorem f139 {K:VK} {s0 x1:Value} {h:ae} (H:M5 prog K s0 x1 h):aj prog 139 [s0,x1] h K:=
 bJ axW (bH rfl) ((auy prog K s0 x1 h).mpr H)
end
noncomputable section
variable (s0 x1 aM bk : Value) (h : ae)
def agv:=bz prog 140 [[],[0,1,10],[10,16],[]]
@[irreducible] def GQ:=bI agv
@[irreducible] def ZE:=GQ.r.l.r.l
@[irreducible] def arj:=GQ.r.r
@[irreducible] def ark:=ZE.r.l
theorem axX:agv=some (18,GQ,[.tmp 4]):=by kernel_rfl
def W2 (_P:Program) (K:VK):ar:=aS [.tmp 4] K
def W3:ar:=aF (ak P arj (W2 P K)) (W2 P K)
def aiD:Prop:=ay (ak P ZE (W3 P K)) [0,1,10] [s0,x1,aM] h
def Tb:Prop:=ay (ak P ark (W3 P K)) [10,16] [aM,bk] h
theorem akK:Tb P K aM bk h=
 (OP (bP aM bk (.bool false)) fun bM=>
 K bM h):=az (by kernel_rfl)
theorem aAw:aiD P K s0 x1 aM h=
 (cm aM true
 (OP (gv x1) fun aA=>
 OP (kV s0 none (some aA)) fun aH=>
 OP (ai .eql aH x1) fun bk=>
 Tb P K aM bk h)
 (Tb P K aM undef h)):=az (by kernel_rfl)
def M6:Prop:=
 OP (gv s0) fun x6=>
 OP (gv x1) fun x8=>
 OP (ai .geq x6 x8) fun x9=>
 aiD P K s0 x1 x9 h
theorem auz:ak P GQ (aS [.tmp 4] K) (bt [s0,x1]) h=M6 P K s0 x1 h:=by kernel_rfl
theorem f140 {K:VK} {s0 x1:Value} {h:ae} (H:M6 prog K s0 x1 h):aj prog 140 [s0,x1] h K:=
 bJ axX (bH rfl) ((auz prog K s0 x1 h).mpr H)
end
noncomputable section
variable (s0 c1 : Value) (h : ae)
def agx:=bz prog 142 [[],[]]
@[irreducible] def ZG:=bI agx
theorem axZ:agx=some (8,ZG,[.tmp 4]):=by kernel_rfl
def M8 (_:Program) (K:VK) (s0 c1:Value) (h:ae):Prop:=
 OP (Eg s0 c1) fun x7=>
 K x7 h
theorem auB:ak P ZG (aS [.tmp 4] K) (bt [s0,c1]) h=M8 P K s0 c1 h:=by kernel_rfl
theorem f142 {K:VK} {s0 c1:Value} {h:ae} (H:M8 prog K s0 c1 h):aj prog 142 [s0,c1] h K:=
 bJ axZ (bH rfl) ((auB prog K s0 c1 h).mpr H)
end
end
section
theorem aew (c:UInt8):∀s:List UInt8,Lib.indexByte s c=if s.idxOf c<s.length then (s.idxOf c:Int) else -1
 | []=>rfl
 | x::s=>by
  have ih:=aew c s
  rw [Lib.indexByte]
  by_cases h:(x==c)=true
  ·have e1:(x::s).idxOf c=0:=by rw [idxOf_cons,h];rfl
   rw [if_pos h,e1,if_pos (by simp)];rfl
  ·have h':(x==c)=false:=by simpa using h
   have e1:(x::s).idxOf c=s.idxOf c+1:=by rw [idxOf_cons,h'];rfl
   rw [if_neg h,ih,e1,List.length_cons]
   by_cases h2:s.idxOf c<s.length
   ·have h3:¬(((s.idxOf c:Nat):Int)== -1)=true:=by
     rw [beq_iff_eq];omega
    rw [if_pos h2,if_pos (show s.idxOf c+1<s.length+1 by omega),if_neg h3]
    omega
   ·rw [if_neg h2,if_neg (show ¬s.idxOf c+1<s.length+1 by omega)]
    rfl
theorem wj (a b c:Value):(#[a,b,c]:Array Value)[0]?=some a∧(#[a,b,c]:Array Value)[1]?=some b∧(#[a,b,c]:Array Value)[2]?=some c:=⟨rfl,rfl,rfl⟩
section
variable {h : ae} {K : Value → ae → Prop} {s : List UInt8}
theorem amF {c:UInt8} (hk:K (I (if s.idxOf c<s.length then (s.idxOf c:Int) else -1)) h):aj prog 142 [S s,cv c] h K:=by
 refine f142 ?_
 have e:Eg (S s) (cv c)=some (I (if s.idxOf c<s.length then (s.idxOf c:Int) else -1)):=by
  have e1:Eg (S s) (cv c)=some (Value.int .i64 (Lib.indexByte (Go.Sim.bytes (ByteArray.mk s.toArray)) ((c.toNat:Int)).toNat.toUInt8)):=rfl
  rw [e1,Yy,Int.toNat_natCast,aew]
  have:c.toNat.toUInt8=c:=by simp
  rw [this]
 simp only [M8,e,ah]
 exact hk
theorem amD {c:UInt8} (hk:K (I (if s.idxOf c<s.length then (s.idxOf c:Int) else -1)) h):aj prog 139 [S s,S [c]] h K:=by
 refine f139 ?_
 have l1:gv (S [c])=some (I 1):=rfl
 have ix:jP (S [c]) (.int .i64 0)=some (cv c):=rfl
 have e1:ai .eql (I 1) (.int .i64 0)=some (B false):=rfl
 have e2:ai .eql (I 1) (.int .i64 1)=some (B true):=rfl
 simp only [M5,l1,ah,e1]
 rw [aAt]
 simp only [eB,Of,ah]
 rw [aAu]
 simp only [dI,ah,bX]
 refine ⟨fun he=>?_,fun _=>?_⟩
 ·have e3:s.idxOf c=0:=by rw [←he];simp
  have e4:0<s.length:=by rw [←he];simp
  rw [e3,if_pos e4] at hk
  exact hk
 ·simp only [e2,ah,dX,ix]
  exact amF hk
theorem amu (hl:s.length≤1000) (hk:K (.tuple #[S (dF s),S (if nw s=true then dQ s else []),B (nw s)]) h):aj prog 123 [S s,S [47]] h K:=by
 refine f123 ?_
 unfold MP
 refine f131 ?_
 unfold MW
 refine amD ?_
 have l1:gv (S [47])=some (I 1):=rfl
 by_cases aD:s.idxOf 47<s.length
 ·have hs:nw s=true:=a9 aD
  rw [hs,if_pos rfl] at hk
  rw [if_pos aD]
  have wi:IntKind.wrap .i64 (((s.idxOf 47:Nat):Int)+1)=((s.idxOf 47+1:Nat):Int):=by rw [wrap64 (by omega) (by omega)];omega
  have wa:=UT (a:=s) (n:=s.idxOf 47) (by omega) .i64
  have Fb:=B9 (a:=s) (n:=s.idxOf 47+1) (by omega) .i64
  simp only [nS,ah,a9 (show (0:Int)≤((s.idxOf 47:Nat):Int) by omega),dX,wa,l1,cQ,wi,Fb,eQ,(wj _ _ _).1,(wj _ _ _).2.1,(wj _ _ _).2.2]
  exact hk
 ·have hs:nw s=false:=aU aD
  rw [hs,if_neg (by decide)] at hk
  rw [if_neg aD]
  have ho:dF s=s:=by unfold dF;exact List.take_of_length_le (by omega)
  rw [ho] at hk
  simp only [nS,ah,show decide ((0:Int)≤ -1)=false from rfl,dV,eQ,(wj _ _ _).1,(wj _ _ _).2.1,(wj _ _ _).2.2]
  exact hk
theorem amv (hl:s.length≤1000) (hk:K (.tuple #[S (if s.head?=some 45 then s.tail else s),B (decide (s.head?=some 45))]) h):aj prog 124 [S s,S [45]] h K:=by
 refine f124 ?_
 unfold MQ
 refine f132 ?_
 unfold MX
 refine f140 ?_
 have l1:gv (S [45])=some (I 1):=rfl
 have fin:∀b:Bool,b=decide (s.head?=some 45)→(OP (gw .not (B b)) fun x9=>
   aQ x9
    (OP (b9 0 (.tuple #[S s,.bool false])) fun x9=>OP (b9 1 (.tuple #[S s,.bool false])) fun aM=>K (.tuple #[x9,aM]) h)
    (OP (kV (S s) (some (I 1)) none) fun aH=>OP (b9 0 (.tuple #[aH,.bool true])) fun x9=>OP (b9 1 (.tuple #[aH,.bool true])) fun aM=>K (.tuple #[x9,aM]) h)):=by
  intro b hb
  by_cases hh:s.head?=some 45
  ·rw [a9 hh] at hb hk
   rw [if_pos hh] at hk
   subst hb
   have h1:1≤s.length:=by
    cases s with
    | nil=>simp at hh
    | cons x t=>simp
   have Fb:kV (S s) (some (I 1)) none=some (S s.tail):=by
    rw [←List.drop_one]
    exact B9 (a:=s) (n:=1) h1 .i64
   simp only [qV,ah,Bool.not_true,dV,Fb,eQ,ft,fv]
   exact hk
  ·rw [aU hh] at hb hk
   rw [if_neg hh] at hk
   subst hb
   simp only [qV,ah,Bool.not_false,dX,eQ,ft,fv]
   exact hk
 unfold M6
 simp only [lN,l1,ah,nS]
 rw [aAw]
 cases s with
 | nil=>
  simp only [List.length_nil,show decide ((1:Int)≤((0:Nat):Int))=false from rfl,lj]
  rw [akK]
  simp only [dI,ah]
  exact fin false (by simp)
 | cons x t=>
  have wa:kV (S (x::t)) none (some (I 1))=some (S [x]):=by
   have:=UT (a:=x::t) (n:=1) (by simp) .i64
   simpa using this
  rw [a9 (show (1:Int)≤((x::t).length:Int) by rw [List.length_cons];omega)]
  simp only [jt,l1,ah,wa,Of]
  rw [akK]
  simp only [eW,ah]
  exact fin (decide ([x]=[45])) (by rw [decide_eq_decide];constructor <;> intro h <;> simpa using h)
end
end
section
theorem aEd {s:List UInt8} {i:Nat} (h:i<s.length):dM (s.take (i+1))=10*dM (s.take i)+(s[i].toNat-48):=by
 rw [take_succ_eq_append_getElem h,Ah,K0]
 simp
 omega
theorem aCC (k:IntKind) {a b:Int} (ha:0≤a) (hb:0<b):ai .rem (.int k a) (.int k b)=some (.int k (a%b)):=by
 simp only [ai,hI,if_true]
 rw [if_neg (by omega),Int.tmod_eq_emod_of_nonneg ha]
theorem Sg {g:ae} {d:Nat} (hd:d<4294967296) (h0:0<d):dD (g++[.arr 177 [.int .u32 (d:Int)]]) (sl 177 g.length 0 1) d:=
 ⟨[d],.inr ⟨g.length,rfl,.inr ⟨[],by simp [aR]⟩⟩,⟨fun x hx=>by rw [mem_singleton.1 hx];exact hd,by simp;omega⟩,by simp [val]⟩
section
variable {h : ae} {K : Value → ae → Prop} {s : List UInt8}
theorem VZ (hl:s.length≤700) (hk:∀v h',EX h h'→dD h' v (cF s)→K (.tuple #[v,B (gE s)]) h'):aj prog 125 [S s] h K:=by
 have bad:gE s=false→K (.tuple #[.slice none 0 0,.bool false]) h:=by
  intro hb
  have:=hk (.slice none 0 0) h (EX.refl h) ⟨[],DS.nil _ _ _,dw.nil _,by unfold cF;rw [if_neg (by rw [hb];decide)];rfl⟩
  rw [hb] at this
  exact this
 refine f125 ?_
 unfold MR
 simp only [lN,ah]
 refine dL (σ:=Nat) (fun i=>[I i]) (fun _=>h) (fun i=>i≤s.length∧ka (s.take i)) (fun i=>s.length-i) 0 rfl rfl ⟨zero_le _,by simp [ka]⟩ ?_
 intro i ⟨hi,nz⟩ L hL
 rw [az1]
 simp only [cW,ah,bX]
 refine ⟨fun aD=>?_,fun cK=>?_⟩
 ·have pF:i<s.length:=by omega
  have ix:=vL (a:=s) (i:=i) pF .i64
  have Es:ai .lss (cv s[i]) (.int .u8 48)=some (B (decide ((s[i].toNat:Int)<48))):=rfl
  have Il:ai .gtr (cv s[i]) (.int .u8 57)=some (B (decide ((s[i].toNat:Int)>57))):=rfl
  have no:¬(48≤s[i].toNat∧s[i].toNat≤57)→gE s=false:=by
   intro hn
   cases e:gE s with
   | false=>rfl
   | true=>exact absurd ((tK.1 e).2.2 _ (getElem_mem pF)) hn
  simp only [ix,ah,Es]
  by_cases mO:s[i].toNat<48
  ·rw [a9 (show (s[i].toNat:Int)<48 by omega),akF]
   simp only [gn]
   rw [akG]
   simp only [eW,ah,dX]
   exact bad (no (by omega))
  ·rw [aU (show ¬(s[i].toNat:Int)<48 by omega),akF]
   simp only [eB,ix,ah,Il]
   rw [akG]
   simp only [dI,ah,bX]
   refine ⟨fun h57=>bad (no (by omega)),fun h57=>?_⟩
   simp only [cQ,fA i (by omega),ah,true_and]
   refine hL (i+1) ⟨by omega,?_⟩ (by omega)
   rw [take_succ_eq_append_getElem pF]
   intro c hc
   rcases mem_append.1 hc with hc | hc
   ·exact nz c hc
   ·rw [mem_singleton.1 hc];omega
 have fY:i=s.length:=by omega
 subst fY
 rw [take_length] at nz
 clear hL
 have eE:(.string ⟨#[]⟩:Value)=S []:=rfl
 rw [azY,eE]
 simp only [Of,ah]
 -- uz is left of gR aES
 have go:gE s=true→EL prog K (S s) (B false) (B false) h:=by
  intro aG
  have hv:cF s=dM s:=by unfold cF;rw [if_pos aG]
  rw [aG,hv] at hk
  rw [akJ]
  simp only [dI,ah,dV]
  refine dL (σ:=List UInt8×List UInt8×Value×ae) (fun q=>[S q.2.1,q.2.2.1]) (fun q=>q.2.2.2) (fun q=>s=q.1++q.2.1∧dD q.2.2.2 q.2.2.1 (dM q.1)∧EX h q.2.2.2) (fun q=>q.2.1.length)
   ([],s,.slice none 0 0,h) rfl rfl ⟨rfl,⟨[],DS.nil _ _ _,dw.nil _,rfl⟩,EX.refl h⟩ ?_
  rintro ⟨p,t,v,g⟩ ⟨bD,hm,hx⟩ L hL
  simp only at bD hm hx hL⊢
  rw [azZ,eE]
  simp only [Yq,ah]
  by_cases ht:t=[]
  ·subst ht
   rw [a9 rfl]
   simp only [Bool.not_true,dV]
   rw [az3]
   rw [append_nil] at bD
   rw [bD] at hk
   exact hk v g hx hm
  rw [aU ht]
  have D6:0<t.length:=List.length_pos_iff.2 ht
  have qB:p.length+t.length=s.length:=by rw [bD,length_append]
  have mi:ka t:=fun c hc=>nz c (by rw [bD];simp [hc])
  have hdp:ka p:=fun c hc=>nz c (by rw [bD];simp [hc])
  have w1:IntKind.wrap .i64 ((t.length:Int)-1)=((t.length-1:Nat):Int):=by rw [wrap64 (by omega) (by omega)];omega
  have w2:ai .rem (I (t.length-1:Nat)) (.int .i64 9)=some (I ((t.length-1)%9:Nat)):=by
   have:ai .rem (I (t.length-1:Nat)) (.int .i64 9)=some (I (((t.length-1:Nat):Int)%9)):=aCC .i64 (by omega) (by decide)
   rw [this];congr 2
  have w3:IntKind.wrap .i64 (((t.length-1)%9:Nat)+1:Int)=(((t.length-1)%9+1:Nat):Int):=by rw [wrap64 (by omega) (by omega)];omega
  simp only [Bool.not_false,dX,lN,ah,gq,w1,w2,cQ,w3]
  have hn9:(t.length-1)%9+1≤9:=by omega
  have om:(t.length-1)%9+1≤t.length:=by omega
  have hn1:1≤(t.length-1)%9+1:=by omega
  generalize (t.length-1)%9+1=n at*
  refine dL (σ:=Nat) (fun i=>[.int .u32 (dM (t.take i):Int),.int .u32 ((10^i:Nat):Int),I i]) (fun _=>g) (fun i=>i≤n) (fun i=>n-i) 0 rfl rfl (zero_le _) ?_
  intro i iS L2 hZ
  have aD:=Ai (s:=t.take i) fun c hc=>mi c (List.mem_of_mem_take hc)
  rw [length_take,Nat.min_eq_left (by omega)] at aD
  have p9:(10:Nat)^i≤10^9:=pow_le_pow_right (by decide) (by omega)
  rw [az0]
  simp only [cW,ah,bX]
  refine ⟨fun h1=>?_,fun h1=>?_⟩
  ·have sH:i<t.length:=by omega
   have hc:=mi _ (getElem_mem sH)
   have p8:(10:Nat)^i≤10^8:=pow_le_pow_right (by decide) (by omega)
   have ix:=vL (a:=t) (i:=i) sH .i64
   have m1:ai .mul (.int .u32 10) (.int .u32 (dM (t.take i):Int))=some (.int .u32 ((10*dM (t.take i):Nat):Int)):=by
    rw [wI,show (10:Int)*(dM (t.take i):Int)=((10*dM (t.take i):Nat):Int) by omega,oA (by omega) (by omega)]
   have m2:ai .mul (.int .u32 10) (.int .u32 ((10^i:Nat):Int))=some (.int .u32 ((10^(i+1):Nat):Int)):=by
    rw [wI,show (10:Int)*((10^i:Nat):Int)=((10^(i+1):Nat):Int) by rw [pow_succ];omega,oA (by omega) (by rw [pow_succ];omega)]
   have UO:ai .sub (cv t[i]) (.int .u8 48)=some (.int .u8 ((t[i].toNat-48:Nat):Int)):=by
    show some (Value.int .u8 (IntKind.wrap .u8 ((t[i].toNat:Int)-48)))=_
    have e:IntKind.wrap .u8 ((t[i].toNat:Int)-48)=((t[i].toNat:Int)-48)%256:=by simp [IntKind.wrap,IntKind.bits,IntKind.signed]
    rw [e];congr 2;omega
   have c1:dh .u32 (.int .u8 ((t[i].toNat-48:Nat):Int))=some (.int .u32 ((t[i].toNat-48:Nat):Int)):=by rw [jN,oA (by omega) (by omega)]
   have a1:ai .add (.int .u32 ((10*dM (t.take i):Nat):Int)) (.int .u32 ((t[i].toNat-48:Nat):Int))=some (.int .u32 (dM (t.take (i+1)):Int)):=by
    rw [aEd sH,cQ,←Int.natCast_add,oA (by omega) (by omega)]
   simp only [m1,ix,UO,c1,a1,m2,cQ,fA i (by omega),ah,true_and]
   exact hZ (i+1) (by omega) (by omega)
  ·have fY:i=n:=by omega
   subst fY
   have adM:(10:Nat)^i<4294967296:=by omega
   have jm:0<(10:Nat)^i:=Nat.pow_pos (by decide)
   have lp:=Ai hdp
   have aEP:(10:Nat)^p.length≤br:=rR (by omega)
   have IX:dM p*10^i+dM (t.take i)=dM (p++t.take i):=by
    rw [Ah,length_take,Nat.min_eq_left om]
   have avD:ka (p++t.take i):=fun c hc=>by
    rcases mem_append.1 hc with hc | hc
    ·exact hdp c hc
    ·exact mi c (List.mem_of_mem_take hc)
   have lpt:=Ai avD
   rw [length_append,length_take,Nat.min_eq_left om] at lpt
   have aEQ:(10:Nat)^(p.length+i)≤br:=rR (by omega)
   have mk:∀(g:ae) (r:Nat),dH 177 1 [(.int .u32 (0))] g [(0,1,.int .u32 (r:Int))]=some (sl 177 g.length 0 1,g++[.arr 177 [.int .u32 (r:Int)]]):=fun _ _=>rfl
   rw [az2]
   simp only [mk,aC]
   have x1:EX g (g++[.arr 177 [.int .u32 ((10^i:Nat):Int)]]):=EX.append _ _
   refine VY (hm.mono x1) (Sg adM jm) (by omega) (Aj adM) ?_
   intro r1 g2 x2 m2
   have x3:EX g2 (g2++[.arr 177 [.int .u32 (dM (t.take i):Int)]]):=EX.append _ _
   have dr:DS 177 .u32 (g2++[.arr 177 [.int .u32 (dM (t.take i):Int)]]) (sl 177 g2.length 0 1) [dM (t.take i)]:=.inr ⟨g2.length,rfl,.inr ⟨[],by simp [aR]⟩⟩
   refine sf dr (fun x hx=>by rw [mem_singleton.1 hx];omega) (by simp) ?_
   intro r2 m3
   have e:val 4294967296 [dM (t.take i)]=dM (t.take i):=by simp [val]
   rw [e] at m3
   refine V1 (m2.mono x3) m3 (by omega) (Aj (by omega)) ?_
   intro r3 g4 x4 m4
   rw [IX] at m4
   have wa:=B9 (a:=t) (n:=i) om .i64
   simp only [wa,ah,true_and]
   refine hL (p++t.take i,t.drop i,r3,g4) ⟨by rw [List.append_assoc,List.take_append_drop];exact bD,m4,((hx.trans x1).trans x2).trans (x3.trans x4)⟩ (by rw [length_drop];omega)
 have fail:gE s=false→∀t u:Value,bP t (.bool true) u=some (B true)→EL prog K (S s) t u h:=by
  intro hb t u ht
  rw [akJ,ht]
  simp only [ah,dX]
  exact bad hb
 by_cases h0:s=[]
 ·have hb:gE s=false:=by subst h0;rfl
  rw [a9 h0,akH]
  simp only [gn]
  rw [akI]
  simp only [As]
  rw [Uf]
  simp only [gn]
  rw [Ug]
  simp only [eW,ah]
  rw [Uh]
  simp only [gn]
  exact fail hb _ _ rfl
 have jm:0<s.length:=List.length_pos_iff.2 h0
 rw [aU h0,akH]
 have ix:=vL (a:=s) (i:=0) jm .i64
 simp only [Int.natCast_zero] at ix
 have hh:s.head?=some s[0]:=by rw [List.head?_eq_getElem?,getElem?_eq_getElem jm]
 have e5:ai .eql (cv s[0]) (.int .u8 48)=some (B (decide ((s[0].toNat:Int)=48))):=rfl
 simp only [eB,ix,ah,e5]
 rw [akI]
 have tail:∀(b:Bool),b=false→gE s=true→S7 prog K (S s) (B b) h:=by
  rintro _ rfl aG
  rw [Uh]
  simp only [eB,lN,ah,fN,aU (show ¬(4000:Int)<(s.length:Int) by omega)]
  exact go aG
 by_cases mO:s[0].toNat=48
 ·have Rb:s.head?=some 48:=by rw [hh];congr 1;exact UInt8.toNat_inj.1 mO
  rw [a9 (show (s[0].toNat:Int)=48 by omega)]
  simp only [jt,lN,ah,fN]
  rw [Uf]
  simp only [eB,eW,ah]
  rw [Ug]
  simp only [dI,ah]
  by_cases h1:1<s.length
  ·have hb:gE s=false:=by
    cases e:gE s with
    | false=>rfl
    | true=>have:=(tK.1 e).2.1 Rb;omega
   rw [a9 (show (1:Int)<(s.length:Int) by omega),Uh]
   simp only [gn]
   exact fail hb _ _ rfl
  ·rw [aU (show ¬(1:Int)<(s.length:Int) by omega)]
   exact tail false rfl (tK.2 ⟨⟨jm,by omega⟩,fun _=>by omega,nz⟩)
 ·rw [aU (show ¬(s[0].toNat:Int)=48 by omega)]
  simp only [lj]
  rw [Uf]
  simp only [eB,dI,ah]
  rw [Ug]
  simp only [dI,ah]
  refine tail false rfl (tK.2 ⟨⟨jm,by omega⟩,fun hc=>?_,nz⟩)
  rw [hh] at hc
  injection hc with hc
  rw [hc] at mO
  exact absurd rfl mO
end
end
section
def fH (s:List UInt8):List UInt8:=if s.head?=some 45 then s.tail else s
theorem T5 (s:List UInt8):jR s=qR (decide (s.head?=some 45)) (fH s):=by
 unfold jR fH
 by_cases h:s.head?=some 45
 ·rw [if_pos h,if_pos h,a9 h]
 ·rw [if_neg h,if_neg h,aU h]
theorem ay4 (s:List UInt8):((dF s).head?=some 45↔s.head?=some 45)∧(if (dF s).head?=some 45 then (dF s).tail else dF s)=dF (fH s)∧nw s=nw (fH s)∧dQ s=dQ (fH s):=by
 cases s with
 | nil=>simp [dF,fH]
 | cons x t=>
  by_cases hx:x=45
  ·subst hx
   have e:((45:UInt8)::t).idxOf 47=t.idxOf 47+1:=by
    rw [idxOf_cons]
    have:((45:UInt8)==47)=false:=by decide
    rw [this];rfl
   have eu:fH (45::t)=t:=by unfold fH;simp
   have eo:dF (45::t)=45::dF t:=by unfold dF;rw [e,List.take_succ_cons]
   rw [eu,eo]
   refine ⟨by simp,by simp,?_,?_⟩
   ·unfold nw;rw [e,List.length_cons,decide_eq_decide];omega
   ·unfold dQ;rw [e];rfl
  ·have eu:fH (x::t)=x::t:=by unfold fH;rw [if_neg (by simpa using hx)]
   have dG:¬(dF (x::t)).head?=some 45:=by
    unfold dF
    cases h:(x::t).idxOf 47 with
    | zero=>simp
    | succ k=>rw [List.take_succ_cons];simpa using hx
   rw [eu,if_neg dG]
   exact ⟨⟨fun h=>absurd h dG,fun h=>absurd (by simpa using h) hx⟩,rfl,rfl,rfl⟩
theorem au0 {g:ae} {j:Nat} {K:Value→ae→Prop} (hg:g[j]?=some (.arr 107 z4)) (hk:K (.tuple #[rY,B false]) (g.set j (.arr 107 z4))):
  OP (dc [(.bool false),(.slice none 0 0),(.bool false),(.slice none 0 0)] []) fun gS=>OH (aE 4 g (pt j 0) gS) fun _ h_1=>OP (af true 4 h_1 (pt j 0)) fun r0=>K (.tuple #[r0,(.bool false)]) h_1:=by
 have e:dc [(.bool false),(.slice none 0 0),(.bool false),(.slice none 0 0)] []=some rY:=rfl
 rw [e,ah]
 have s:=nH (x:=B false) (y:=.slice none 0 0) (z:=B false) (w:=.slice none 0 0) hg
 have s':aE 4 g (pt j 0) rY=some (undef,g.set j (.arr 107 z4)):=s
 rw [s',aC]
 have l:=hO (cj (o:=.arr 107 z4) hg)
 have l':af true 4 (g.set j (.arr 107 z4)) (pt j 0)=some rY:=l
 rw [l',ah]
 exact hk
section
variable {h : ae} {K : Value → ae → Prop} {s : List UInt8}
theorem US {m:Bool} {n:Nat}:(m&&decide (0<n))=decide ((if m=true then -(n:Int) else (n:Int))<0)∧(if m=true then -(n:Int) else (n:Int)).natAbs=n:=by
 cases m with
 | false=>simp
 | true=>
  refine ⟨?_,by simp⟩
  simp only [Bool.true_and,if_true]
  rw [decide_eq_decide];omega
theorem VR {h0:ae} {m uo ok is:Bool} {n d:Nat} {v1 v2:Value} {i2:Nat} (k2:h[i2]?=some (.arr 107 z4)) (b2:h0.length≤i2) (hx:EX h0 h) (m1:dD h v1 n) (m2:dD h v2 d) (ln:n<br) (ld:d<br) (hd:is=true→0<d)
  (hk:ok=true→is=true→(m=true→n≠0)→(uo=true→gcd n d=1)→∀r h',EX h0 h'→gV h' r (if m=true then -(n:Int) else n) d→K (.tuple #[r,B true]) h')
  (gF:¬(ok=true∧is=true∧(m=true→n≠0)∧(uo=true→gcd n d=1))→∀a b c e h',EX h0 h'→K (.tuple #[.agg #[a,b,c,e],B false]) h'):
  EI prog K (pt i2 0) (B uo) (B m) v1 (B ok) v2 (B is) h:=by
 have fail:¬(ok=true∧is=true∧(m=true→n≠0)∧(uo=true→gcd n d=1))→∀t u:Value,bP t (.bool true) u=some (B true)→EJ prog K (pt i2 0) (B uo) (B m) v1 v2 t u h:=by
  intro hb t u ht
  rw [akB,ht]
  simp only [ah,dX]
  exact au0 k2 (gF hb _ _ _ _ _ (hx.set b2 _))
 have n1:∀b:Bool,gw .not (B b)=some (B (!b)):=fun _=>rfl
 have early:¬(ok=true∧is=true)→SU prog K (pt i2 0) (B uo) (B m) v1 v2 (B true) h:=by
  intro hb
  rw [akz]
  simp only [gn]
  rw [akA]
  simp only [As]
  rw [Ue]
  simp only [gn]
  exact fail (fun hc=>hb ⟨hc.1,hc.2.1⟩) _ _ rfl
 rw [azF,n1,ah,azG]
 cases ok with
 | false=>
  simp only [Bool.not_false,gn]
  rw [aky]
  simp only [eW,ah]
  exact early (fun hc=>by cases hc.1)
 | true=>
 simp only [Bool.not_true,eB,n1,ah]
 rw [aky]
 simp only [dI,ah]
 cases is with
 | false=>exact early (fun hc=>by cases hc.2)
 | true=>
 have hd:=hd rfl
 simp only [Bool.not_true]
 rw [akz]
 simp only [eB]
 have main:(m=true→n≠0)→EJ prog K (pt i2 0) (B uo) (B m) v1 v2 (B false) (B false) h:=by
  intro hm
  rw [akB]
  simp only [dI,ah,dV]
  refine se m1 ?_
  intro g1 x1
  refine se (m2.mono x1) ?_
  intro g2 x2
  have aB:=x1.trans x2
  obtain ⟨sg1,KC⟩:=US (m:=m) (n:=n)
  rw [sg1,Bool.false_and]
  have Jl:=m1.mono aB
  have m2':=(m2.mono x1).mono x2
  obtain ⟨xs,dx,_⟩:=id Jl
  obtain ⟨ys,dy,_⟩:=id m2'
  have eb:dc [(.bool false),(.slice none 0 0),(.bool false),(.slice none 0 0)] [(0,2,.agg #[B (decide ((if m=true then -(n:Int) else (n:Int))<0)),v1]),(2,2,.agg #[B false,v2])]=some (.agg #[B (decide ((if m=true then -(n:Int) else (n:Int))<0)),v1,B false,v2]):=by
   simp [dc,su,iA,de,Value.cells,setAt]
  have e3:∀(g:ae),aV 107 [(.bool false),(.slice none 0 0),(.bool false),(.slice none 0 0)] g=some (pt g.length 0,g++[.arr 107 z4]):=fun _=>rfl
  simp only [eb,e3,ah,aC]
  have y1:EX g2 (g2++[.arr 107 z4]):=EX.append _ _
  have RN:(g2++[aq.arr 107 z4])[g2.length]?=some (.arr 107 z4):=bn
  generalize g2++[aq.arr 107 z4]=g3 at y1 RN⊢
  have pH:i2<g2.length:=(bK (aB.get k2)).1
  rw [nH RN]
  simp only [aC]
  have k4:(g3.set g2.length (.arr 107 [B (decide ((if m=true then -(n:Int) else (n:Int))<0)),v1,B false,v2]))[g2.length]?=some (.arr 107 [B (decide ((if m=true then -(n:Int) else (n:Int))<0)),v1,B false,v2]):=cj RN
  have y2:EX g2 (g3.set g2.length (.arr 107 [B (decide ((if m=true then -(n:Int) else (n:Int))<0)),v1,B false,v2])):=y1.set (le_refl _) _
  generalize g3.set g2.length (.arr 107 [B (decide ((if m=true then -(n:Int) else (n:Int))<0)),v1,B false,v2])=g4 at k4 y2⊢
  have xA:=(hx.trans aB).trans y2
  have Em:=(aB.trans y2).get k2
  have mm1:=Jl.mono y2
  have mm2:=m2'.mono y2
  generalize hN:(if m=true then -(n:Int) else (n:Int))=N at*
  have fin:∀{g5:ae} (b:Bool),EX g4 g5→((b=true→uo=true→gcd n d=1)∧(b=false→¬(uo=true→gcd n d=1)))→OH (aE 4 g5 (pt i2 0) (.agg #[B (decide (N<0)),v1,B false,v2])) fun _ h_8=>OP (af true 4 h_8 (pt i2 0)) fun r0=>K (.tuple #[r0,B b]) h_8:=by
   intro g5 b x5 hb
   have kk:=x5.get Em
   refine rk (K:=fun v h=>K (.tuple #[v,B b]) h) kk ?_
   have xB:=(xA.trans x5).set b2 (.arr 107 [B (decide (N<0)),v1,B false,v2])
   cases b with
   | true=>
    refine hk rfl rfl hm (hb.1 rfl) _ _ xB ⟨v1,v2,by rw [aU (show ¬(d:Int)<0 by omega)],?_,?_⟩
    ·rw [KC];exact (mm1.mono x5).bL kk _
    ·rw [natAbs_natCast];exact (mm2.mono x5).bL kk _
   | false=>exact gF (fun hc=>hb.2 rfl hc.2.2.2) _ _ _ _ _ xB
  rw [hO k4]
  simp only [ah,n1,true_and]
  cases uo with
  | false=>
   simp only [Bool.not_false,gn,eW,ah]
   exact fin true (EX.refl g4) ⟨fun _ h=>(by cases h),fun h=>by cases h⟩
  | true=>
   simp only [Bool.not_true,eB,cn,add_zero,zero_add,jE k4,kJ k4,ah]
   refine VW (a:=N) (b:=(d:Int)) ⟨v1,rfl,by rw [KC];exact mm1⟩ (dR.nat mm2) (by rw [KC];exact ln) (by rw [natAbs_natCast];exact ld) ?_
   intro r5 g5 x5 i5
   rw [KC,natAbs_natCast] at i5
   simp only [hO (x5.get k4),true_and]
   refine Cx (by decide) (by decide) ?_
   intro r6 g6 x6 i6
   have vg:gcd n d≤d:=Nat.gcd_le_right _ hd
   simp only [hO ((x5.trans x6).get k4),true_and]
   refine Lk (i5.mono x6) i6 (by rw [natAbs_natCast];omega) (by rw [show (1:Int).natAbs=1 from rfl];exact Aj (by decide)) ?_
   intro g7 x7
   have eO:=x5.trans (x6.trans x7)
   simp only [hO (eO.get k4),true_and,jA,ah,dI]
   by_cases w9:gcd n d=1
   ·rw [w9]
    have:(if ((1:Nat):Int)-1=0 then (0:Int) else if ((1:Nat):Int)-1<0 then -1 else 1)=0:=rfl
    rw [this]
    exact fin true eO ⟨fun _ _=>w9,fun h=>by cases h⟩
   ·have:(if ((gcd n d:Nat):Int)-1=0 then (0:Int) else if ((gcd n d:Nat):Int)-1<0 then -1 else 1)≠0:=by
     rw [if_neg (by omega)];split <;> decide
    rw [aU this]
    exact fin false eO ⟨fun h=>(by cases h),fun _ hc=>w9 (hc rfl)⟩
 rw [akA]
 cases m with
 | false=>
  simp only [lj]
  rw [Ue]
  simp only [eB,dI,ah]
  exact main (fun h=>by cases h)
 | true=>
  obtain ⟨l,p1,p2⟩:=m1.pN
  simp only [jt,p1,ah,jA]
  rw [Ue]
  simp only [eB,eW,ah]
  by_cases hn:n=0
  ·rw [a9 (show (l:Int)=0 by omega)]
   exact fail (fun hc=>hc.2.2.1 rfl hn) _ _ rfl
  ·rw [aU (show ¬(l:Int)=0 by omega)]
   exact main (fun _=>hn)
end
end
section
theorem al3 {s:List UInt8} (h:s.length≤700):cF s<br:=lt_of_lt_of_le (KY s) (rR (by omega))
theorem amq {h:ae} {K:Value→ae→Prop} {s:List UInt8} (hl:s.length≤700)
  (hk:∀n d,jR s=some (n,d)→∀r h',EX h h'→gV h' r n d→K (.tuple #[r,B true]) h')
  (gF:jR s=none→∀a b c e h',EX h h'→K (.tuple #[.agg #[a,b,c,e],B false]) h'):aj prog 108 [S s] h K:=by
 obtain ⟨o1,o2,o3,o4⟩:=ay4 s
 have hp:=T5 s
 have rG:(fH s).length≤700:=by
  unfold fH
  split
  ·rw [List.length_tail];omega
  ·exact hl
 have lo:(dF (fH s)).length≤700:=by unfold dF;rw [length_take];omega
 have lu:(dQ s).length≤700:=by unfold dQ;rw [length_drop];omega
 have los:(dF s).length≤700:=by unfold dF;rw [length_take];omega
 have hm:decide ((dF s).head?=some 45)=decide (s.head?=some 45):=by rw [decide_eq_decide];exact o1
 refine f108 ?_
 have e1:∀(g:ae),aV 107 [(.bool false),(.slice none 0 0),(.bool false),(.slice none 0 0)] g=some (pt g.length 0,g++[.arr 107 z4]):=fun _=>rfl
 have eS:(.string ⟨#[47]⟩:Value)=S [47]:=rfl
 have eM:(.string ⟨#[45]⟩:Value)=S [45]:=rfl
 simp only [MB,e1,aC,eS,eM]
 have x0:EX h (h++[.arr 107 z4]):=EX.append _ _
 have k0:(h++[aq.arr 107 z4])[h.length]?=some (.arr 107 z4):=bn
 generalize h++[aq.arr 107 z4]=g at x0 k0⊢
 refine amu (by omega) ?_
 simp only [eQ,(wj _ _ _).1,(wj _ _ _).2.1,(wj _ _ _).2.2,ah]
 refine amv (by omega) ?_
 rw [o2,hm]
 simp only [eQ,ft,fv,ah]
 refine VZ lo ?_
 intro v1 g1 x1 m1
 have mk:∀(g:ae),dH 177 1 [(.int .u32 (0))] g [(0,1,(.int .u32 (1)))]=some (sl 177 g.length 0 1,g++[.arr 177 [.int .u32 ((1:Nat):Int)]]):=fun _=>rfl
 simp only [eQ,ft,fv,ah,mk,aC]
 have x2:EX g1 (g1++[.arr 177 [.int .u32 ((1:Nat):Int)]]):=EX.append _ _
 have afz:=Sg (g:=g1) (d:=1) (by decide) (by decide)
 generalize g1++[aq.arr 177 [.int .u32 ((1:Nat):Int)]]=g2 at x2 afz⊢
 have ng:=x1.trans x2
 have hvo:=al3 lo
 -- uz gR parts say is uz gR text aFs
 have DA:∀{d:Nat},oL (fH s)=true→pv (fH s)=d→gE (dF (fH s))=true→(decide (s.head?=some 45)=true→cF (dF (fH s))≠0)→
   jR s=some (if decide (s.head?=some 45)=true then -(cF (dF (fH s)):Int) else (cF (dF (fH s)):Int),d):=by
  intro d a b c e
  rw [hp]
  unfold qR
  rw [if_pos ⟨a,c,e⟩,b]
 have bad:¬(oL (fH s)=true∧gE (dF (fH s))=true∧(decide (s.head?=some 45)=true→cF (dF (fH s))≠0))→jR s=none:=by
  intro hb
  rw [hp]
  unfold qR
  rw [if_neg hb]
 cases qB:nw s with
 | false=>
  rw [qB] at o3
  have mh:oL (fH s)=true:=by unfold oL;rw [←o3];rfl
  have yF:pv (fH s)=1:=by unfold pv;rw [←o3];rfl
  simp only [dV]
  refine VR (h0:=h) (n:=cF (dF (fH s))) (d:=1) (is:=true) (ng.get k0) (by omega) (x0.trans ng) (m1.mono x2) afz hvo (Aj (by decide)) (fun _=>by decide) (fun a _ c _=>?_) (fun hb=>?_)
  ·exact hk _ _ (DA mh yF a c)
  ·refine gF (bad fun hc=>hb ⟨hc.2.1,rfl,hc.2.2,fun h=>by cases h⟩)
 | true=>
  rw [qB] at o3
  have hlu:=lu
  simp only [dX,if_true]
  refine VZ lu ?_
  intro v2 g3 x3 m2
  simp only [eQ,ft,fv,ah]
  rw [azE]
  have yF:pv (fH s)=cF (dQ s):=by unfold pv;rw [←o3,←o4];rfl
  have mh:oL (fH s)=(gE (dQ s)&&(decide (2≤cF (dQ s))&&decide (gcd (cF (dF (fH s))) (cF (dQ s))=1))):=by unfold oL;rw [←o3,←o4];rfl
  have hvu:=al3 lu
  have x03:=x0.trans (ng.trans x3)
  have fin:∀{g4:ae},EX g3 g4→∀is:Bool,is=(gE (dQ s)&&decide (2≤cF (dQ s)))→EI prog K (pt h.length 0) (B true) (B (decide (s.head?=some 45))) v1 (B (gE (dF (fH s)))) v2 (B is) g4:=by
   intro g4 x4 is pF
   refine VR (h0:=h) (n:=cF (dF (fH s))) (d:=cF (dQ s)) ((ng.trans (x3.trans x4)).get k0) (by omega) (x03.trans x4) ((m1.mono x2).mono (x3.trans x4)) (m2.mono x4) hvo hvu (fun h=>?_) (fun a b c d=>?_) (fun hb=>?_)
   ·rw [h] at pF
    have:=(Bool.and_eq_true_iff.1 pF.symm).2
    have:=of_decide_eq_true this
    omega
   ·refine hk _ _ (DA ?_ yF a c)
    rw [b] at pF
    have h2:=Bool.and_eq_true_iff.1 pF.symm
    rw [mh,h2.1,h2.2,a9 (d rfl)];rfl
   ·refine gF (bad fun hc=>hb ⟨hc.2.1,?_,hc.2.2,fun _=>?_⟩)
    ·have h2:=hc.1
     rw [mh,and_eq_true,and_eq_true] at h2
     rw [pF,h2.1,h2.2.1];rfl
    ·have h2:=hc.1
     rw [mh,and_eq_true,and_eq_true] at h2
     exact of_decide_eq_true h2.2.2
  cases yI:gE (dQ s) with
  | false=>
   simp only [lj]
   rw [akx]
   simp only [dI,ah]
   exact fin (EX.refl g3) false (by rw [yI];rfl)
  | true=>
   simp only [jt,mk,aC]
   have x4:EX g3 (g3++[.arr 177 [.int .u32 ((1:Nat):Int)]]):=EX.append _ _
   refine Fx (m2.mono x4) (Sg (by decide) (by decide)) hvu (Aj (by decide)) ?_
   have hs:decide ((0:Int)<m8 (cF (dQ s)) 1)=decide (2≤cF (dQ s)):=by
    rw [decide_eq_decide]
    unfold m8
    split
    ·omega
    ·split <;> omega
   simp only [fN,ah,hs]
   rw [akx]
   simp only [eW,ah]
   exact fin x4 _ (by rw [yI];rfl)
end
section
variable (P : Program) (K : VK)
noncomputable section
variable (x0 : Value) (h : ae)
def agD:=bz prog 24 [[],[],[]]
@[irreducible] def ZM:=bI agD
theorem k24:agD=some (11,ZM,[.tmp 2]):=by kernel_rfl
def Nf:Prop:=
 aj P 67 [x0] h fun x7 z1=>
 OP (b9 0 x7) fun x8=>
 OP (b9 1 x7) fun x9=>
 OH (aV 37 [(.bool false),(.slice none 0 0),(.bool false),(.slice none 0 0)] z1) fun x3 z2=>
 OH (aE 4 z2 x3 x8) fun _ z3=>
 K x9 z3
theorem e24:ak P ZM (aS [.tmp 2] K) (bt [x0]) h=Nf P K x0 h:=by kernel_rfl
theorem f24 {K:VK} {x0:Value} {h:ae} (H:Nf prog K x0 h):aj prog 24 [x0] h K:=
 bJ k24 (bH rfl) ((e24 prog K x0 h).mpr H)
end
end
section
end
section
def cut (iW n:Nat):Nat:=min n (if 10<n then 11 else iW)
end
section
structure LL (h:ae) (v:Value) (ll:List (List Nat)):Prop where
 len:bj v=some (I ll.length)
 get:∀i (hi:i<ll.length),∃b o w,bc 1 v (I i)=some (pt b o)∧af false 1 h (pt b o)=some w∧NS h w .i64 (ll[i].map fun i:Nat=>(i:Int))
theorem LL.mono {h h':ae} {v:Value} {ll:List (List Nat)} (x:EX h h') (p:LL h v ll):LL h' v ll:=
 ⟨p.len,fun i hi=>let ⟨b,o,w,a,c,d⟩:=p.get i hi;⟨b,o,w,a,EX.load x c,d.mono x⟩⟩
def aeG:Value→Bool
 | .slice _ _ _=>true
 | _=>false
structure OL (b:Nat) (g:ae) (v:Value) (ws:List Value) (ll:List (List Nat)):Prop where
 own:fE b g 33 v ws
 len:ws.length=ll.length
 sls:∀w∈ws,aeG w=true
 get:∀(i:Nat) (w:Value) (l:List Nat),ws[i]?=some w→ll[i]?=some l→NS g w .i64 (l.map fun i:Nat=>(i:Int))
theorem NS.ax1 {g g':ae} {w:Value} {ns:List Int} (p:NS g w .i64 ns) (hk:∀b,b<g.length→(∃o n,af false 1 g (pt b o)=some (I n))→g'[b]?=g[b]?):NS g' w .i64 ns:=by
 refine ⟨p.len,fun i hi=>?_,p.le⟩
 obtain ⟨b,o,h1,h2⟩:=p.get i hi
 have hb:b<g.length:=by
  apply byContradiction
  intro cK
  simp only [af] at h2
  rw [aR,List.getElem?_eq_none (by omega)] at h2
  cases h2
 refine ⟨b,o,h1,?_⟩
 have:=hk b hb ⟨o,_,h2⟩
 simp only [af,aR,this] at h2⊢
 exact h2
theorem OL.dY {b:Nat} {g g':ae} {v w:Value} {ws:List Value} {ll:List (List Nat)} {ns:List Int} (o:OL b g v ws ll) (p:NS g w .i64 ns) (kU:∀d,d<g.length→(∀n,v≠sl 33 d 0 n)→g'[d]?=g[d]?):NS g' w .i64 ns:=by
 refine NS.ax1 p fun d hd ⟨o',n,hl⟩=>kU d hd fun m hv=>?_
 obtain ⟨_,_,h3⟩:=o.own.lt hv
 simp only [af,aR,h3,Option.bind_some,cf,Bool.false_eq_true,if_false] at hl
 have:=o.sls _ (List.mem_of_getElem? hl)
 cases this
theorem OL.app {h0 hx:ae} {v w:Value} {ws:List Value} {ll:List (List Nat)} {l:List Nat} {K:Value→ae→Prop} (o:OL h0.length hx v ws ll) (hex:EX h0 hx) (hw:NS hx w .i64 (l.map fun i:Nat=>(i:Int))) (hl:ws.length≤1000)
  (hk:∀v' bR,EX h0 bR→OL h0.length bR v' (ws++[w]) (ll++[l])→K v' bR):OH (dH 33 1 [(.slice none 0 0)] hx [(0,1,w)]) fun a h2=>OH (dT 33 1 24 h2 v a) K:=by
 obtain ⟨t1,t2⟩:=aDC hw.len
 have qB:aeG w=true:=by
  have:=hw.len
  unfold bj at this
  split at this
  ·rfl
  ·cases this
 refine Ge o.own (by omega) (by simp [maxLen];omega) t1 t2 ?_
 intro w1 bR _ hlen kU jO
 simp only [aC]
 have key:∀{w':Value} {ns:List Int},NS hx w' .i64 ns→NS bR w' .i64 ns:=fun p=>o.dY p kU
 refine hk _ _ ⟨by have:=hex.1;omega,fun d hd=>?_⟩ ⟨.inr ⟨hx.length+1,by have:=hex.1;omega,by simp,jO⟩,by simp [o.len],fun x hx=>?_,fun i x y hx hy=>?_⟩
 ·rw [kU d (by have:=hex.1;omega) fun n hv=>?_]
  ·exact hex.2 d hd
  ·have:=(o.own.lt hv).1
   omega
 ·rcases mem_append.1 hx with hx | hx
  ·exact o.sls x hx
  ·rw [mem_singleton.1 hx];exact qB
 ·by_cases hi:i<ws.length
  ·rw [getElem?_append_left hi] at hx
   rw [getElem?_append_left (by rw [←o.len];exact hi)] at hy
   exact key (o.get i x y hx hy)
  ·rw [getElem?_append_right (by omega)] at hx
   rw [getElem?_append_right (by rw [←o.len];omega),←o.len] at hy
   have h0:i-ws.length=0:=by
    have:=(bK hx).1
    simp at this;omega
   rw [h0] at hx hy
   simp only [List.getElem?_cons_zero,Option.some.injEq] at hx hy
   subst hx hy
   exact key hw
theorem OL.start (b:Nat) (g:ae):OL b g (.slice none 0 0) [] []:=⟨.inl ⟨rfl,rfl⟩,rfl,fun w hw=>by simp at hw,fun i w l h=>by simp at h⟩
end
end Go.Proofs.YtelmdbpaoifmoaaGreat
namespace Go.Sim
section
structure nN (bs:List Nat) (js:List (Int×Int)) (n d k bf b:Nat):Prop where
 none:bf=0→b=0∧∀m,m<k→¬fq bs n d m
 rel:bf≠0→(b<k∧fq bs n d b)∧(∀m,m<k→fq bs n d m→wS js m*lS js b≤wS js b*lS js m)∧∀i,bf.testBit i=true↔∃m,m<k∧fq bs n d m∧wS js m*lS js b=wS js b*lS js m∧m.testBit i=true
section
variable {bs : List Nat} {js : List (Int × Int)} {n d k bf b : Nat}
theorem nN.start:nN bs js n d 1 0 0:=⟨fun _=>⟨rfl,fun m hm h=>h.ne (by omega)⟩,fun h=>absurd rfl h⟩
theorem nN.skip (g:nN bs js n d k bf b) (h:¬fq bs n d k):nN bs js n d (k+1) bf b:=by
 refine ⟨fun h0=>⟨(g.none h0).1,fun m hm hr=>?_⟩,fun h0=>?_⟩
 ·by_cases e:m=k
  ·subst e;exact h hr
  ·exact (g.none h0).2 m (by omega) hr
 ·obtain ⟨⟨a1,a2⟩,a3,a4⟩:=g.rel h0
  refine ⟨⟨by omega,a2⟩,fun m hm hr=>?_,fun i=>?_⟩
  ·by_cases e:m=k
   ·subst e;exact absurd hr h
   ·exact a3 m (by omega) hr
  ·rw [a4 i]
   constructor
   ·rintro ⟨m,q1,q2,q3⟩;exact ⟨m,by omega,q2,q3⟩
   ·rintro ⟨m,q1,q2,q3⟩
    by_cases e:m=k
    ·subst e;exact absurd q2 h
    ·exact ⟨m,by omega,q2,q3⟩
theorem nN.take (P:pf js n) (hn:n≤10) (g:nN bs js n d k bf b) (h:fq bs n d k) (hb:bf=0∨wS js b*lS js k<wS js k*lS js b):nN bs js n d (k+1) k k:=by
 refine ⟨fun h0=>absurd h0 h.ne,fun _=>?_⟩
 have less:∀m,m<k→fq bs n d m→wS js m*lS js k<wS js k*lS js m:=by
  intro m hm hr
  rcases hb with hb | hb
  ·exact absurd hr ((g.none hb).2 m hm)
  ·have h0:bf≠0:=by
    rintro rfl
    exact (g.none rfl).2 m hm hr
   obtain ⟨⟨a1,a2⟩,a3,_⟩:=g.rel h0
   have h1:=a3 m hm hr
   have p1:=vP P hn hr.lt hr.ne
   have p2:=vP P hn a2.lt a2.ne
   have p3:=vP P hn h.lt h.ne
   apply byContradiction
   intro hc
   have:=Pk p3 p1 p2 (show wS js k*lS js m≤wS js m*lS js k by omega) h1
   omega
 refine ⟨⟨by omega,h⟩,fun m hm hr=>?_,fun i=>?_⟩
 ·by_cases e:m=k
  ·subst e;exact Int.le_refl _
  ·exact Int.le_of_lt (less m (by omega) hr)
 ·constructor
  ·intro hi;exact ⟨k,by omega,h,rfl,hi⟩
  ·rintro ⟨m,q1,q2,q3,q4⟩
   by_cases e:m=k
   ·subst e;exact q4
   ·have:=less m (by omega) q2
    omega
theorem nN.join (g:nN bs js n d k bf b) (h:fq bs n d k) (h0:bf≠0) (hb:wS js k*lS js b=wS js b*lS js k):nN bs js n d (k+1) (bf ||| k) b:=by
 have bp:bf ||| k≠0:=by
  intro e
  have:bf≤bf ||| k:=Nat.left_le_or
  omega
 refine ⟨fun e=>absurd e bp,fun _=>?_⟩
 obtain ⟨⟨a1,a2⟩,a3,a4⟩:=g.rel h0
 refine ⟨⟨by omega,a2⟩,fun m hm hr=>?_,fun i=>?_⟩
 ·by_cases e:m=k
  ·subst e;omega
  ·exact a3 m (by omega) hr
 ·rw [Nat.testBit_or,Bool.or_eq_true,a4 i]
  constructor
  ·rintro (⟨m,q1,q2⟩ | hi)
   ·exact ⟨m,by omega,q2⟩
   ·exact ⟨k,by omega,h,hb,hi⟩
  ·rintro ⟨m,q1,q2,q3,q4⟩
   by_cases e:m=k
   ·subst e;exact .inr q4
   ·exact .inl ⟨m,by omega,q2,q3,q4⟩
theorem nN.pass (g:nN bs js n d k bf b) (h0:bf≠0) (hb:wS js k*lS js b<wS js b*lS js k):nN bs js n d (k+1) bf b:=by
 refine ⟨fun e=>absurd e h0,fun _=>?_⟩
 obtain ⟨⟨a1,a2⟩,a3,a4⟩:=g.rel h0
 refine ⟨⟨by omega,a2⟩,fun m hm hr=>?_,fun i=>?_⟩
 ·by_cases e:m=k
  ·subst e;omega
  ·exact a3 m (by omega) hr
 ·rw [a4 i]
  constructor
  ·rintro ⟨m,q1,q2⟩;exact ⟨m,by omega,q2⟩
  ·rintro ⟨m,q1,q2,q3,q4⟩
   by_cases e:m=k
   ·subst e;omega
   ·exact ⟨m,by omega,q2,q3,q4⟩
theorem nN.all (P:pf js n) (hn:n≤10) (hb:∀b∈bs,b<2^n) (hd:d<cJ n) (g:nN bs js n d (2^n) bf b):q9 bs js n d bf:=by
 obtain ⟨s,hs⟩:=q9.ex (js:=js) P hn hb hd
 have h0:bf≠0:=fun e=>(g.none e).2 s hs.1.1.lt hs.1.1
 obtain ⟨⟨a1,a2⟩,a3,a4⟩:=g.rel h0
 have lI:nO bs js n d b:=⟨a2,fun x hx=>a3 x hx.lt hx⟩
 have e:bf=s:=by
  apply Nat.eq_of_testBit_eq
  intro i
  rw [Bool.eq_iff_iff,a4 i]
  constructor
  ·rintro ⟨m,_,q2,q3,q4⟩
   have hm:=lI.same P hn q2 (Int.le_of_eq q3.symm)
   exact pa.1 (hs.2 m hm) i q4
  ·intro hi
   exact ⟨s,hs.1.1.lt,hs.1.1,Int.le_antisymm (a3 s hs.1.1.lt hs.1.1) (hs.1.2 b a2),hi⟩
 rw [e]
 exact hs
end
end
end Go.Sim
namespace Go.Proofs.YtelmdbpaoifmoaaGreat
open Go.Sim
section
end
end Go.Proofs.YtelmdbpaoifmoaaGreat
namespace Go.Sim
section
def KP (p:Value→Bool) (h h':ae):Prop:=∀d c r,aR h d=some (c::r)→p c=true→aR h' d=some (c::r)
theorem KP.refl (p:Value→Bool) (h:ae):KP p h h:=fun _ _ _ a _=>a
theorem KP.trans {p:Value→Bool} {a b c:ae} (x:KP p a b) (y:KP p b c):KP p a c:=fun d v r h1 h2=>y d v r (x d v r h1 h2) h2
theorem KP.ex {p:Value→Bool} {a b:ae} (x:EX a b):KP p a b:=fun _ _ _ h1 _=>x.cells h1
theorem KP.set {p:Value→Bool} {h:ae} {i:Nat} {e:TypeId} {cs:List Value} (hg:h[i]?=some (.arr e cs)) (hp:∀c r,cs=c::r→p c=false) (o:aq):KP p h (h.set i o):=by
 intro d c r h1 h2
 have bp:i≠d:=by
  rintro rfl
  simp only [aR,hg] at h1
  cases h1
  rw [hp _ _ rfl] at h2
  cases h2
 simp only [aR] at h1⊢
 rw [getElem?_set_ne bp]
 exact h1
def RS (h:ae) (e:TypeId) (aX:Nat) (v:Value) (rows:List (List Value)):Prop:=
 (∀r∈rows,r.length=aX)∧((v=.slice none 0 0∧rows=[])∨∃i o,v=sl e i o rows.length∧(rows=[]∨∃pre post,aR h i=some (pre++rows.flatten++post)∧pre.length=o))
section
variable {h h' : ae} {e : TypeId} {aX : Nat} {v : Value} {rows : List (List Value)}
theorem RS.mono (x:EX h h') (p:RS h e aX v rows):RS h' e aX v rows:=
 ⟨p.1,p.2.imp id fun ⟨i,o,a,b⟩=>⟨i,o,a,b.imp id fun ⟨pre,post,c,d⟩=>⟨pre,post,x.cells c,d⟩⟩⟩
theorem RS.len (p:RS h e aX v rows):bj v=some (I rows.length):=by
 rcases p.2 with ⟨rfl,rfl⟩ | ⟨i,o,rfl,_⟩ <;> rfl
theorem RS.one (p:RS h e aX v rows):iA v=true∧de v=[v]:=by
 rcases p.2 with ⟨rfl,_⟩ | ⟨i,o,rfl,_⟩ <;> exact ⟨rfl,rfl⟩
theorem Ia:∀{rows:List (List Value)},(∀r∈rows,r.length=aX)→rows.flatten.length=rows.length*aX
 | [],_=>by simp
 | r::rows,h=>by
  have ih:=Ia (rows:=rows) fun x hx=>h x (List.mem_cons_of_mem _ hx)
  simp only [List.flatten_cons,length_append,List.length_cons,h r (List.mem_cons_self ..),ih]
  rw [Nat.succ_mul];omega
theorem acs:∀{rows:List (List Value)},(∀r∈rows,r.length=aX)→∀k (hk:k<rows.length),(rows.flatten.drop (k*aX)).take aX=rows[k]
 | r::rows,h,0,_=>by
  have:=h r (by simp)
  simp only [List.flatten_cons,Nat.zero_mul,List.drop_zero,List.getElem_cons_zero]
  rw [←this,List.take_left']
  rfl
 | r::rows,h,k+1,hk=>by
  have hr:=h r (by simp)
  have:=acs (rows:=rows) (fun x hx=>h x (by simp [hx])) k (by simpa using hk)
  simp only [List.flatten_cons,List.getElem_cons_succ]
  rw [←this,show (k+1)*aX=r.length+k*aX by rw [Nat.succ_mul,hr];omega,List.drop_append,List.drop_eq_nil_of_le (by omega),List.nil_append,show r.length+k*aX-r.length=k*aX by omega]
theorem RS.get (p:RS h e aX v rows) {k:Nat} (hk:k<rows.length):∃i o cs,bc aX v (I k)=some (pt i o)∧aR h i=some cs∧o+aX≤cs.length∧(cs.drop o).take aX=rows[k]:=by
 rcases p.2 with ⟨_,rfl⟩ | ⟨i,o,rfl,rfl | ⟨pre,post,hc,ho⟩⟩
 ·simp at hk
 ·simp at hk
 have hf:=Ia p.1
 have hle:(k+1)*aX≤rows.length*aX:=Nat.mul_le_mul_right _ hk
 rw [Nat.succ_mul] at hle
 refine ⟨i,o+k*aX,_,?_,hc,?_,?_⟩
 ·have:(0:Int)≤(k:Int)∧(k:Int)<(rows.length:Int):=by omega
  simp [sl,bc,this]
 ·simp only [length_append,hf];omega
 ·rw [←acs p.1 k hk,←ho,List.append_assoc,List.drop_append,List.drop_eq_nil_of_le (by omega),List.nil_append,show pre.length+k*aX-pre.length=k*aX by omega]
  rw [List.drop_append_of_le_length (by rw [hf];omega),List.take_append_of_le_length (by rw [length_drop,hf];omega)]
theorem UA {i o:Nat} {cs row:List Value} (hc:aR h i=some cs) (hl:o+aX≤cs.length) (ht:(cs.drop o).take aX=row):af true aX h (pt i o)=some (.agg row.toArray):=by
 simp [af,hc,cf,hl,ht]
theorem RS.nil (h:ae) (e:TypeId) (aX:Nat):RS h e aX (.slice none 0 0) []:=⟨fun r hr=>by simp at hr,.inl ⟨rfl,rfl⟩⟩
theorem RS.arr {i:Nat} (hw:∀r∈rows,r.length=aX) (hg:h[i]?=some (.arr e rows.flatten)):RS h e aX (sl e i 0 rows.length) rows:=
 ⟨hw,.inr ⟨i,0,rfl,.inr ⟨[],[],by simp [aR,hg],rfl⟩⟩⟩
theorem RS.from (p:RS h e aX v rows) {k:Nat} (hk:k≤rows.length):∃v',mo e aX v (some (I k)) none=some v'∧RS h e aX v' (rows.drop k):=by
 have hw:∀r∈rows.drop k,r.length=aX:=fun r hr=>p.1 r (mem_of_mem_drop hr)
 rcases p.2 with ⟨rfl,rfl⟩ | ⟨i,o,rfl,hc⟩
 ·have:k=0:=by simpa using hk
  subst this
  exact ⟨_,rfl,⟨hw,.inl ⟨rfl,rfl⟩⟩⟩
 ·refine ⟨sl e i (o+k*aX) (rows.length-k),by simp [mo,sl,rM,sX,hk],hw,.inr ⟨i,_,by rw [length_drop],?_⟩⟩
  rcases hc with rfl | ⟨pre,post,hc,ho⟩
  ·left;simp
  ·right
   refine ⟨pre++(rows.take k).flatten,post,?_,?_⟩
   ·rw [hc]
    have:rows.flatten=(rows.take k).flatten++(rows.drop k).flatten:=by rw [←List.flatten_append,List.take_append_drop]
    rw [this];simp
   ·rw [length_append,ho,Ia fun r hr=>p.1 r (List.mem_of_mem_take hr),length_take,Nat.min_eq_left hk]
def j7 (b:Nat) (hx:ae) (e:TypeId) (aX:Nat) (v:Value) (rows:List (List Value)):Prop:=
 (∀r∈rows,r.length=aX)∧((v=.slice none 0 0∧rows=[])∨∃i,b≤i∧v=sl e i 0 rows.length∧hx[i]?=some (.arr e rows.flatten))
theorem j7.start (b:Nat) (hx:ae) (e:TypeId) (aX:Nat):j7 b hx e aX (.slice none 0 0) []:=⟨fun r hr=>by simp at hr,.inl ⟨rfl,rfl⟩⟩
theorem j7.rs {b:Nat} (o:j7 b h e aX v rows):RS h e aX v rows:=by
 rcases o.2 with ⟨rfl,rfl⟩ | ⟨i,_,rfl,hg⟩
 ·exact .nil _ _ _
 ·exact .arr o.1 hg
theorem j7.dY {b:Nat} (o:j7 b h e aX v rows) (x:∀d n,v=sl e d 0 n→b≤d→h'[d]?=h[d]?):j7 b h' e aX v rows:=
 ⟨o.1,o.2.imp id fun ⟨i,h1,h2,h3⟩=>⟨i,h1,h2,by rw [x i _ h2 h1];exact h3⟩⟩
theorem j7.lt {b d n:Nat} (o:j7 b h e aX v rows) (hv:v=sl e d 0 n):b≤d∧d<h.length∧h[d]?=some (.arr e rows.flatten):=by
 rcases o.2 with ⟨h1,_⟩ | ⟨i,h1,h2,h3⟩
 ·rw [h1] at hv;cases hv
 ·rw [h2] at hv
  obtain ⟨rfl,_⟩:=UU hv
  exact ⟨h1,(bK h3).1,h3⟩
theorem j7.ex {b:Nat} (o:j7 b h e aX v rows) (x:EX h h'):j7 b h' e aX v rows:=o.dY fun d _ hv _=>x.2 d (o.lt hv).2.1
theorem j7.kp {b:Nat} {p:Value→Bool} (o:j7 b h e aX v rows) (hp:∀c r,rows.flatten=c::r→p c=false) (kU:∀d,d<h.length→(∀n,v≠sl e d 0 n)→h'[d]?=h[d]?):KP p h h':=by
 intro d c r h1 h2
 have hd:d<h.length:=by
  apply byContradiction
  intro cK
  rw [aR,List.getElem?_eq_none (by omega)] at h1
  cases h1
 have bp:∀n,v≠sl e d 0 n:=by
  intro n hv
  have:=(o.lt hv).2.2
  simp only [aR,this] at h1
  cases A7:rows.flatten with
  | nil=>rw [A7] at h1;cases h1
  | cons y ys=>
   rw [A7] at h1
   cases h1
   rw [hp _ _ A7] at h2
   cases h2
 simp only [aR,kU d hd bp] at h1⊢
 exact h1
theorem j7.app {h0:ae} {bytes:Nat} {x:Value} {row zs:List Value} {K:Value→ae→Prop} (o:j7 h0.length h e aX v rows) (hex:EX h0 h) (hz:zs.length=aX) (h1:iA x=true) (h2:de x=row) (hr:row.length=aX)
  (hb:(rows.length+1)*bytes≤140737488355328) (hm:rows.length+1≤maxLen)
  (hk:∀v' h',EX h0 h'→(∀d,d<h.length→(∀n,v≠sl e d 0 n)→h'[d]?=h[d]?)→j7 h0.length h' e aX v' (rows++[row])→K v' h'):
  OH (dH e 1 zs h [(0,aX,x)]) fun a h2=>OH (dT e aX bytes h2 v a) K:=by
 have hw:∀r∈rows++[row],r.length=aX:=by
  intro r qx
  rcases mem_append.1 qx with qx | qx
  ·exact o.1 r qx
  ·rw [mem_singleton.1 qx];exact hr
 have e1:dH e 1 zs h [(0,aX,x)]=some (sl e h.length 0 1,h++[.arr e row]):=by
  have zm:iO zs 1=zs:=by simp [iO]
  have hs:setAt zs 0 row=row:=by
   unfold setAt
   rw [List.take_zero,List.nil_append,List.drop_eq_nil_of_le (by omega),append_nil]
  simp only [dH,zm,su,h1,h2,hs]
  rw [if_pos ⟨trivial,hr,by omega⟩]
  rfl
 rw [e1]
 simp only [aC]
 have e2:kL (h++[.arr e row]) aX (sl e h.length 0 1)=some row:=by
  simp [kL,sl,aR,hr]
  rw [←hr,take_length]
 have e3:pP (sl e h.length 0 1)=some 1:=rfl
 rcases o.2 with ⟨rfl,rfl⟩ | ⟨i,hi,rfl,bU⟩
 ·refine F4 (v:=sl e (h.length+1) 0 1) (h:=h++[.arr e row]++[.arr e row]) ?_ (hk _ _ ((hex.push _).push _) (fun d hd _=>by rw [getElem?_append_left (by simp;omega),getElem?_append_left hd]) ⟨hw,.inr ⟨h.length+1,by have:=hex.1;omega,rfl,by simp⟩⟩)
  have kB:1*bytes≤140737488355328:=by simpa using hb
  have fU:1≤maxLen:=by simpa using hm
  simp only [dT,e2,e3]
  rw [if_neg (by omega),if_pos ⟨kB,fU⟩]
  simp
 ·have aD:=(bK bU).1
  have hg:(h++[.arr e row])[i]?=some (.arr e rows.flatten):=by rw [getElem?_append_left aD];exact bU
  refine F4 (v:=sl e (h.length+1) 0 (rows.length+1)) (h:=(h++[aq.arr e row]).set i aq.dead++[aq.arr e (rows.flatten++row)]) ?_
   (hk _ _ (((hex.push _).set hi _).push _) (fun d hd bp=>?_) ⟨hw,.inr ⟨h.length+1,by have:=hex.1;omega,by simp,?_⟩⟩)
  ·simp only [dT,e2,e3]
   simp only [sl,hg]
   rw [if_pos ⟨trivial,trivial,Ia o.1,hb,hm⟩,if_neg (by omega)]
   simp
  ·have nz:i≠d:=by rintro rfl;exact bp _ rfl
   rw [getElem?_append_left (by simp;omega),getElem?_set_ne nz,getElem?_append_left hd]
  ·rw [getElem?_append_right (by simp)]
   simp
end
end
end Go.Sim
namespace Go.Proofs.YtelmdbpaoifmoaaGreat
open Go.Sim
section
/-- Fractions in memory. -/
def ra (h:ae) (v:Value) (qs:List (Int×Int)):Prop:=
 ∃rows,RS h 107 4 v rows∧rows.length=qs.length∧∀(k:Nat) (row:List Value) (q:Int×Int),rows[k]?=some row→qs[k]?=some q→gV h (.agg row.toArray) q.1 q.2
theorem ra.mono {h h':ae} {v:Value} {qs:List (Int×Int)} (x:EX h h') (p:ra h v qs):ra h' v qs:=
 let ⟨rows,a,b,c⟩:=p;⟨rows,a.mono x,b,fun k row q h1 h2=>(c k row q h1 h2).mono x⟩
theorem ra.len {h:ae} {v:Value} {qs:List (Int×Int)} (p:ra h v qs):bj v=some (I qs.length):=by
 obtain ⟨rows,a,b,_⟩:=p;rw [←b];exact a.len
theorem ra.get {h:ae} {v:Value} {qs:List (Int×Int)} (p:ra h v qs) {k:Nat} (hk:k<qs.length):∃i o r,bc 4 v (I k)=some (pt i o)∧af true 4 h (pt i o)=some r∧gV h r qs[k].1 qs[k].2:=by
 obtain ⟨rows,a,b,c⟩:=p
 have ca:k<rows.length:=by omega
 obtain ⟨i,o,cs,g1,g2,g3,g4⟩:=a.get ca
 exact ⟨i,o,_,g1,UA g2 g3 g4,c k _ _ (getElem?_eq_getElem ca) (getElem?_eq_getElem hk)⟩
def tW:Value→Bool
 | .int .u32 _=>true
 | _=>false
theorem DSw.dY {e:TypeId} {h h':ae} {v:Value} {xs:List Nat} (x:KP tW h h') (p:DS e .u32 h v xs):DS e .u32 h' v xs:=by
 refine p.imp id fun ⟨i,a,b⟩=>⟨i,a,?_⟩
 cases xs with
 | nil=>exact .inl rfl
 | cons y ys=>
  obtain ⟨r,c⟩:=b.resolve_left (by simp)
  exact .inr ⟨r,x i _ _ c rfl⟩
theorem dD.dY {h h':ae} {v:Value} {n:Nat} (x:KP tW h h') (p:dD h v n):dD h' v n:=let ⟨xs,a,b,c⟩:=p;⟨xs,DSw.dY x a,b,c⟩
theorem gV.dY {h h':ae} {v:Value} {a b:Int} (x:KP tW h h') (p:gV h v a b):gV h' v a b:=let ⟨u,w,e,m,n⟩:=p;⟨u,w,e,m.dY x,n.dY x⟩
theorem gV.cells {h:ae} {v:Value} {a b:Int} (p:gV h v a b):iA v=true∧∃s u t w,v=.agg #[B s,u,B t,w]∧de v=[B s,u,B t,w]:=by
 obtain ⟨u,w,rfl,_⟩:=p
 exact ⟨rfl,_,_,_,_,rfl,rfl⟩
/-- Fractions that are being gathered. -/
def nR (b:Nat) (h:ae) (v:Value) (qs:List (Int×Int)):Prop:=
 ∃rows,j7 b h 107 4 v rows∧rows.length=qs.length∧(∀r∈rows,∃s t,r=.bool s::t)∧∀(k:Nat) (row:List Value) (q:Int×Int),rows[k]?=some row→qs[k]?=some q→gV h (.agg row.toArray) q.1 q.2
theorem nR.start (b:Nat) (h:ae):nR b h (.slice none 0 0) []:=⟨[],j7.start ..,rfl,fun r hr=>by simp at hr,fun k r q h=>by simp at h⟩
theorem nR.aCv {b:Nat} {h:ae} {v:Value} {qs:List (Int×Int)} (o:nR b h v qs):ra h v qs:=let ⟨rows,a,c,_,d⟩:=o;⟨rows,a.rs,c,d⟩
theorem nR.ex {b:Nat} {h h':ae} {v:Value} {qs:List (Int×Int)} (x:EX h h') (o:nR b h v qs):nR b h' v qs:=
 let ⟨rows,a,c,e,d⟩:=o;⟨rows,a.ex x,c,e,fun k r q h1 h2=>(d k r q h1 h2).mono x⟩
theorem au8 {rows:List (List Value)} (h:∀r∈rows,∃s t,r=.bool s::t):∀c r,rows.flatten=c::r→tW c=false:=by
 intro c r hc
 cases rows with
 | nil=>simp at hc
 | cons x xs=>
  obtain ⟨s,t,rfl⟩:=h x (by simp)
  simp at hc
  rw [←hc.1];rfl
theorem nR.app {h0 h:ae} {v x:Value} {a b:Int} {qs:List (Int×Int)} {zs:List Value} {K:Value→ae→Prop} (o:nR h0.length h v qs) (hex:EX h0 h) (hx:gV h x a b) (hz:zs.length=4) (hl:qs.length≤10000)
  (hk:∀v' h',EX h0 h'→KP tW h h'→nR h0.length h' v' (qs++[(a,b)])→K v' h'):OH (dH 107 1 zs h [(0,4,x)]) fun y h2=>OH (dT 107 4 64 h2 v y) K:=by
 obtain ⟨rows,o1,o2,o3,o4⟩:=o
 obtain ⟨t1,s,u,t,w,e1,e2⟩:=hx.cells
 refine o1.app hex hz t1 e2 rfl (by omega) (by simp [maxLen];omega) ?_
 intro v' h' x' kU o'
 have kp:KP tW h h':=o1.kp (au8 o3) kU
 refine hk v' h' x' kp ⟨_,o',by simp [o2],fun r hr=>?_,fun k row q h1 h2=>?_⟩
 ·rcases mem_append.1 hr with hr | hr
  ·exact o3 r hr
  ·rw [mem_singleton.1 hr];exact ⟨s,_,rfl⟩
 ·by_cases hk:k<rows.length
  ·rw [getElem?_append_left hk] at h1
   rw [getElem?_append_left (by omega)] at h2
   exact (o4 k row q h1 h2).dY kp
  ·rw [getElem?_append_right (by omega)] at h1
   rw [getElem?_append_right (by omega),←o2] at h2
   have h0:k-rows.length=0:=by
    have:=(bK h1).1
    simp at this;omega
   rw [h0] at h1 h2
   simp only [List.getElem?_cons_zero,Option.some.injEq] at h1 h2
   subst h1 h2
   rw [←e1]
   exact hx.dY kp
end
section
theorem Wm {s:List UInt8} {h:ae} {K:Value→ae→Prop} (hl:s.length≤700)
  (hk:∀n d,jR s=some (n,d)→∀r h',EX h h'→QZ h' r n d→K (.tuple #[r,B true]) h')
  (gF:jR s=none→∀h',EX h h'→K (.tuple #[rY,B false]) h'):aj prog 67 [S s] h K:=by
 refine f67 ?_
 have e1:aV 37 [(.bool false),(.slice none 0 0),(.bool false),(.slice none 0 0)] h=some (pt h.length 0,h++[.arr 37 z4]):=rfl
 have x1:EX h (h++[.arr 37 z4]):=EX.append _ _
 simp only [Nz,e1,aC,lN,ah,fN,aU (show ¬(s.length:Int)>8002 by omega),dV,aBo]
 by_cases h0:s.length=0
 ·have e:s=[]:=List.length_eq_zero_iff.1 h0
  subst e
  rw [aU (show ¬((([]:List UInt8).length:Int)>0) by simp)]
  simp only [lj,ak1,dI,ah,dV]
  exact Lo (m:=false) hl x1 (le_refl _) bn (fun n d hp=>hk n d hp) (fun hp=>gF hp)
 ·rw [a9 (show (s.length:Int)>0 by omega)]
  have ix:=vL (a:=s) (i:=0) (by omega) .i64
  simp only [Int.natCast_zero] at ix
  have hh:s.head?=some (s[0]'(by omega)):=by rw [List.head?_eq_getElem?,getElem?_eq_getElem (by omega)]
  have e5:ai .eql (cv (s[0]'(by omega))) (.int .u8 45)=some (B (decide (((s[0]'(by omega)).toNat:Int)=45))):=rfl
  simp only [jt,ix,ah,e5,ak1,eW,bX]
  refine ⟨fun hm=>?_,fun hm=>?_⟩
  ·have fU:s[0]'(by omega)=45:=by apply UInt8.toNat_inj.1;show (s[0]'(by omega)).toNat=45;omega
   have hp:jR s=qR true s.tail:=by unfold jR;rw [if_pos (by rw [hh,fU])]
   have sl:=B9 (a:=s) (n:=1) (by omega) .i64
   have sl':kV (S s) (some (.int .i64 1)) none=some (S s.tail):=by rw [←List.drop_one];exact sl
   simp only [sl',ah]
   refine Lo (m:=true) (by rw [List.length_tail];omega) x1 (le_refl _) bn (fun n d hq=>hk n d (by rw [hp];exact hq)) (fun hq=>gF (by rw [hp];exact hq))
  ·have fU:s[0]'(by omega)≠45:=by intro h;rw [h] at hm;exact hm rfl
   have hp:jR s=qR false s:=by unfold jR;rw [if_neg (by rw [hh];intro h;injection h with h;exact fU h)]
   exact Lo (m:=false) hl x1 (le_refl _) bn (fun n d hq=>hk n d (by rw [hp];exact hq)) (fun hq=>gF (by rw [hp];exact hq))
theorem amH {s:List UInt8} {n:Int} {d:Nat} {h:ae} {K:Value→ae→Prop} (hl:s.length≤700) (hp:jR s=some (n,d)) (hk:∀r h',EX h h'→QZ h' r n d→K r h'):aj prog 28 [S s] h K:=by
 refine f28 ?_
 have e1:∀g:ae,aV 37 [(.bool false),(.slice none 0 0),(.bool false),(.slice none 0 0)] g=some (pt g.length 0,g++[.arr 37 z4]):=fun _=>rfl
 simp only [Nj,e1,aC]
 refine Wm hl (fun n' d' yX r h1 x1 q1=>?_) (fun yX=>by rw [hp] at yX;cases yX)
 rw [hp] at yX
 obtain ⟨rfl,rfl⟩:n=n'∧d=d':=by injection yX with yX;injection yX with a b;exact ⟨a,b⟩
 obtain ⟨u,w,rfl,hu,hw⟩:=id q1
 have g1:=x1.get (bn (h:=h) (o:=.arr 37 z4))
 simp only [eQ,ft,fv,ah]
 rw [nH bn]
 simp only [aC]
 rw [hO (cj bn)]
 simp only [ah]
 have x2:EX h1 ((h1++[aq.arr 37 z4]).set h1.length (.arr 37 [B (decide (n<0)),u,B (decide ((d:Int)<0)),w])):=EX.set (EX.append _ _) (le_refl _) _
 have g2:=x2.get g1
 have xA:=((EX.append h [.arr 37 z4]).trans x1).trans x2
 refine rk g2 (hk _ _ (xA.set (le_refl _) _) ?_)
 exact (q1.mono x2).bL g2 _
theorem C24 {s:List UInt8} {h:ae} {K:Value→ae→Prop} (hl:s.length≤700) (hk:∀h',EX h h'→K (B (jR s).isSome) h'):aj prog 24 [S s] h K:=by
 refine f24 ?_
 have e1:∀g:ae,aV 37 [(.bool false),(.slice none 0 0),(.bool false),(.slice none 0 0)] g=some (pt g.length 0,g++[.arr 37 z4]):=fun _=>rfl
 unfold Nf
 refine Wm hl (fun n d hp r h1 x1 q1=>?_) (fun hp h1 x1=>?_)
 ·obtain ⟨u,w,rfl,hu,hw⟩:=q1
  simp only [eQ,ft,fv,ah,e1,aC]
  rw [nH bn]
  simp only [aC]
  rw [hp] at hk
  exact hk _ (x1.trans (EX.set (EX.append _ _) (le_refl _) _))
 ·simp only [eQ,ft,fv,ah,e1,aC]
  have st:=nH (x:=B false) (y:=.slice none 0 0) (z:=B false) (w:=.slice none 0 0) (bn (h:=h1) (o:=.arr 37 z4))
  have st':aE 4 (h1++[.arr 37 z4]) (pt h1.length 0) rY=_:=st
  rw [st']
  simp only [aC]
  rw [hp] at hk
  exact hk _ (x1.trans (EX.set (EX.append _ _) (le_refl _) _))
end
section
end
section
theorem PL.BR {h h':ae} {p:Value} {js:List (Int×Int)} {bs:List Nat} (x:CX h h') (q:PL h p js bs):PL h' p js bs:=
 let ⟨i,vj,vb,a,b,c,d⟩:=q;⟨i,vj,vb,a,x _ _ b,c.BR x,NS.BR x d⟩
section
variable (js : List (Int × Int)) (bs : List Nat) (n : Nat)
structure aEN (es:List (Int×Value)):Prop where
 val:∀s v,oM s es=some v→∃t:Nat,s=t∧t<2^n∧v=I (ki bs js n t)
 full:(oM (cJ n:Nat) es).isSome=true
 next:∀s:Nat,s<cJ n→(oM (s:Int) es).isSome=true→∀i,i<n→jT bs s i=true→(oM ((s ||| 2^i:Nat):Int) es).isSome=true
def AD (es nW:List (Int×Value)):Prop:=∀k,(oM k es).isSome=true→(oM k nW).isSome=true
end
theorem AD.refl (es:List (Int×Value)):AD es es:=fun _ h=>h
theorem AD.trans {a b c:List (Int×Value)} (h:AD a b) (k:AD b c):AD a c:=fun x hx=>k x (h x hx)
structure Ly (im ox px cx:Nat) (p:Value) (js:List (Int×Int)) (bs:List Nat) (h:ae):Prop where
 o:aR h ox=some [.map (some im)]
 q:aR h px=some [p]
 c:aR h cx=some [.func (.func 97) #[] #[pt ox 0,pt px 0,pt cx 0]]
 pl:PL h p js bs
theorem Ly.mono {im ox px cx:Nat} {p:Value} {js:List (Int×Int)} {bs:List Nat} {h h':ae} (k:CX h h') (e:Ly im ox px cx p js bs h):Ly im ox px cx p js bs h':=
 ⟨k _ _ e.o,k _ _ e.q,k _ _ e.c,e.pl.BR k⟩
end
end Go.Proofs.YtelmdbpaoifmoaaGreat
namespace Go.Sim
section
def gC (bs:List Nat) (js:List (Int×Int)) (n s i:Nat):Int:=jH js i*(kK js s+fP js i)+ki bs js n (s ||| 2^i)
def pc (bs:List Nat) (js:List (Int×Int)) (n:Nat):Nat→List Nat→Prop
 | s,[]=>s=cJ n
 | s,i::l=>((i<n∧jT bs s i=true)∧gC bs js n s i=ki bs js n s∧∀j,j<i→¬(jT bs s j=true∧gC bs js n s j=ki bs js n s))∧pc bs js n (s ||| 2^i) l
theorem alj {bs:List Nat} {n i:Nat} (hi:i<n):jT bs (cJ n) i=false:=by
 unfold jT
 rw [wT,a9 hi];rfl
theorem pc.uniq {bs:List Nat} {js:List (Int×Int)} {n:Nat}:∀{l l':List Nat} {s:Nat},pc bs js n s l→pc bs js n s l'→l=l'
 | [],[],_,_,_=>rfl
 | [],i::l',s,h,k=>by
  have h':s=cJ n:=h
  subst h'
  have:=k.1.1.2
  rw [alj k.1.1.1] at this
  cases this
 | i::l,[],s,h,k=>by
  have k':s=cJ n:=k
  subst k'
  have:=h.1.1.2
  rw [alj h.1.1.1] at this
  cases this
 | i::l,i'::l',s,h,k=>by
  have e:i=i':=by
   rcases Nat.lt_trichotomy i i' with aD | he | sG
   ·exact absurd ⟨h.1.1.2,h.1.2.1⟩ (k.1.2.2 i aD)
   ·exact he
   ·exact absurd ⟨k.1.1.2,k.1.2.1⟩ (h.1.2.2 i' sG)
  subst e
  rw [pc.uniq h.2 k.2]
theorem pc.ok {bs:List Nat} {js:List (Int×Int)} {n:Nat} (hn:n≤10):∀{l:List Nat} {s:Nat},pc bs js n s l→pQ bs n s l=true∧uv s l=cJ n∧tE js (kK js s) l=ki bs js n s
 | [],s,h=>by
  have h':s=cJ n:=h
  subst h'
  exact ⟨rfl,rfl,by rw [afp];rfl⟩
 | i::l,s,h=>by
  obtain ⟨⟨⟨h1,h2⟩,h3,_⟩,h4⟩:=h
  obtain ⟨a,b,c⟩:=pc.ok hn h4
  refine ⟨?_,b,?_⟩
  ·simp only [pQ,a,h2,h1,decide_true,Bool.and_self]
  ·have e:=Sx js (show i<10 by omega) (B7 h2)
   have A8:jH js i*(kK js s+fP js i)+ki bs js n (s ||| 2^i)=ki bs js n s:=h3
   simp only [tE]
   rw [←e] at A8⊢
   rw [c]
   exact A8
theorem pc.split {bs:List Nat} {js:List (Int×Int)} {n:Nat}:∀{a b:List Nat} {s:Nat},pc bs js n s (a++b)→pc bs js n (uv s a) b
 | [],_,_,h=>h
 | i::a,b,s,h=>pc.split (a:=a) (b:=b) (s:=s ||| 2^i) h.2
end
end Go.Sim
namespace Go.Proofs.YtelmdbpaoifmoaaGreat
open Go.Sim
section
theorem fE.ns {b:Nat} {g:ae} {v:Value} {l:List Nat} (o:fE b g 3 v (l.map fun i:Nat=>I i)) (hl:l.length≤1000):NS g v .i64 (l.map fun i:Nat=>(i:Int)):=by
 rcases o with ⟨h1,h2⟩ | ⟨a,_,h2,h3⟩
 ·have:l=[]:=by simpa using h2
  rw [this,h1]
  exact NS.nil g .i64
 ·rw [h2,length_map]
  have:=NS.sl (h:=g) (e:=3) (i:=a) (k:=.i64) (ns:=l.map fun i:Nat=>(i:Int)) (.inr (by simp [aR,h3])) (by simp [maxLen];omega)
  rw [length_map] at this
  exact this
theorem fE.base {b c:Nat} {hx:ae} {e:TypeId} {v:Value} {xs:List Value} (o:fE c hx e v xs) (h:b≤c):fE b hx e v xs:=by
 rcases o with o | ⟨i,h1,h2,h3⟩
 ·exact .inl o
 ·exact .inr ⟨i,by omega,h2,h3⟩
end
section
end
section
theorem Uv (k:IntKind) {a b:Int} (ha:0≤a) (hb:0<b):ai .rem (.int k a) (.int k b)=some (.int k (a%b)):=by
 simp only [ai,hI,if_true]
 rw [if_neg (by omega),Int.tmod_eq_emod_of_nonneg ha]
theorem FE.arr {h:ae} {e:TypeId} {i:Nat} {ps:List (Int×Int)} (hg:h[i]?=some (.arr e (rQ ps))):FE h e (sl e i 0 ps.length) ps:=
 ⟨by rw [akh];omega,.inr ⟨i,rfl,.inr (by simp [aR,hg])⟩⟩
end
end Go.Proofs.YtelmdbpaoifmoaaGreat
namespace Go.Sim
section
theorem KK:∀(l:List Nat) (s j:Nat),(uv s l).testBit j=(s.testBit j||decide (j∈l))
 | [],s,j=>by simp [uv]
 | i::l,s,j=>by
  simp only [uv,KK l,th]
  by_cases e:i=j
  ·subst e;simp
  ·have e':¬j=i:=fun h=>e h.symm
   simp [e,e']
structure WC (bs:List Nat) (n:Nat) (l:List Nat):Prop where
 lt:∀i∈l,i<n
 nodup:l.Nodup
 all:∀i,i<n→i∈l
 before:l.Pairwise fun a b=>(bs.getD a 0).testBit b=false
 self:∀i,i<n→∀j,(bs.getD i 0).testBit j=true→j<n∧j≠i
theorem SB {bs:List Nat} {n:Nat}:∀{l:List Nat} {S:Nat},(∀i∈l,i<n∧S.testBit i=false)→l.Nodup→l.Pairwise (fun a b=>(bs.getD a 0).testBit b=false)→(∀i∈l,∀j,(bs.getD i 0).testBit j=true→j≠i∧(S.testBit j=true∨j∈l))→pQ bs n S l=true
 | [],_,_,_,_,_=>rfl
 | i::l,S,h1,h2,h3,h4=>by
  have hn:=List.nodup_cons.1 h2
  have hp:=List.pairwise_cons.1 h3
  have hi:=h1 i (by simp)
  simp only [pQ,and_eq_true,decide_eq_true_eq]
  refine ⟨⟨hi.1,?_⟩,?_⟩
  ·unfold jT
   rw [hi.2,Bool.not_false,Bool.true_and,pa]
   intro j hj
   obtain ⟨b1,b2⟩:=h4 i (by simp) j hj
   rcases b2 with b2 | b2
   ·exact b2
   ·rcases mem_cons.1 b2 with b2 | b2
    ·exact absurd b2 b1
    ·rw [hp.1 j b2] at hj;cases hj
  ·refine SB (fun j hj=>?_) hn.2 hp.2 fun k hk j hj=>?_
   ·have:=h1 j (by simp [hj])
    refine ⟨this.1,?_⟩
    rw [th,this.2,Bool.false_or]
    exact aU fun e=>hn.1 (e ▸ hj)
   ·obtain ⟨b1,b2⟩:=h4 k (by simp [hk]) j hj
    refine ⟨b1,?_⟩
    rcases b2 with b2 | b2
    ·exact .inl (by rw [th,b2];rfl)
    ·rcases mem_cons.1 b2 with b2 | b2
     ·exact .inl (by rw [th,b2];simp)
     ·exact .inr b2
theorem WC.ok {bs:List Nat} {n:Nat} {l:List Nat} (h:WC bs n l):pQ bs n 0 l=true∧uv 0 l=cJ n:=by
 refine ⟨SB (fun i hi=>⟨h.lt i hi,by simp⟩) h.nodup h.before fun i hi j hj=>?_,?_⟩
 ·obtain ⟨a,b⟩:=h.self i (h.lt i hi) j hj
  exact ⟨b,.inr (h.all j a)⟩
 ·apply Nat.eq_of_testBit_eq
  intro j
  rw [KK,wT]
  simp only [Nat.zero_testBit,Bool.false_or]
  rw [decide_eq_decide]
  exact ⟨fun hm=>h.lt j hm,fun hl=>h.all j hl⟩
def N1 (bs cs:List Nat) (n:Nat):Prop:=∀i j,i<n→j<n→(bs.getD i 0).testBit j=(cs.getD j 0).testBit i
theorem N1.symm {bs cs:List Nat} {n:Nat} (t:N1 bs cs n):N1 cs bs n:=fun i j hi hj=>(t j i hj hi).symm
end
section
theorem ayT {bs:List Nat} {n:Nat}:∀{l:List Nat} {s:Nat},pQ bs n s l=true→(l.Nodup∧∀i∈l,s.testBit i=false)∧(l.Pairwise fun a b=>(bs.getD a 0).testBit b=false)∧∀i∈l,∀j,(bs.getD i 0).testBit j=true→j≠i∧(s.testBit j=true∨j∈l):=by
 intro l
 induction l with
 | nil=>intro s _;simp
 | cons i l ih=>
  intro s h
  simp only [pQ,and_eq_true,decide_eq_true_eq] at h
  obtain ⟨⟨a1,a2⟩,a3,a4⟩:=ih h.2
  have Be:=B7 h.1.2
  have rF:jF (bs.getD i 0) s=true:=by
   have:=h.1.2
   unfold jT at this
   rw [and_eq_true] at this
   exact this.2
  rw [pa] at rF
  have old:∀j∈l,s.testBit j=false∧j≠i:=by
   intro j hj
   have:=a2 j hj
   rw [th,Bool.or_eq_false_iff] at this
   exact ⟨this.1,fun e=>by subst e;simp at this⟩
  refine ⟨⟨?_,?_⟩,?_,?_⟩
  ·exact List.nodup_cons.2 ⟨fun hm=>(old i hm).2 rfl,a1⟩
  ·intro j hj
   rcases mem_cons.1 hj with rfl | hj
   ·exact Be
   ·exact (old j hj).1
  ·refine List.pairwise_cons.2 ⟨fun j hj=>?_,a3⟩
   cases hc:(bs.getD i 0).testBit j with
   | false=>rfl
   | true=>have:=rF j hc;rw [(old j hj).1] at this;cases this
  ·intro k hk j hj
   rcases mem_cons.1 hk with rfl | hk
   ·have:=rF j hj
    exact ⟨fun e=>(by subst e;rw [Be] at this;cases this),.inl this⟩
   ·obtain ⟨b1,b2⟩:=a4 k hk j hj
    refine ⟨b1,?_⟩
    rcases b2 with b2 | b2
    ·rw [th,Bool.or_eq_true] at b2
     rcases b2 with b2 | b2
     ·exact .inl b2
     ·have:i=j:=of_decide_eq_true b2
      subst this;exact .inr (by simp)
    ·exact .inr (by simp [b2])
theorem ay2 {d s j:Nat} (h:d &&& s=0) (hs:s.testBit j=true):d.testBit j=false:=by
 have:=congrArg (Nat.testBit · j) h
 simp only [Nat.testBit_and,Nat.zero_testBit,hs,Bool.and_true] at this
 exact this
structure FG (bs:List Nat) (s:Nat) (l:List Nat):Prop where
 nd:l.Nodup
 mem:∀i,i∈l↔s.testBit i=true
 fit:l.Pairwise fun a b=>(bs.getD a 0).testBit b=false
theorem lZ.apart {bs:List Nat} {js:List (Int×Int)} {n:Nat}:∀{os:List Nat} {d:Nat},lZ bs js n d os→∀s∈os,∀i,s.testBit i=true→d.testBit i=false
 | [],_,_,s,hs,_,_=>by simp at hs
 | b::os,d,h,s,hs,i,hi=>by
  rcases mem_cons.1 hs with rfl | hs
  ·exact ay2 h.1.1.1.apart hi
  ·have:=lZ.apart h.2 s hs i hi
   rw [Nat.testBit_or,Bool.or_eq_false_iff] at this
   exact this.1
end
section
structure tA (bs:List Nat) (js:List (Int×Int)) (s:Nat) (E:List Nat) (nm:List Nat) (sT:List (Int×Int)):Prop where
 nd:E.Nodup
 mem:∀i,i∈E↔s.testBit i=true
 len:∀k,k<E.length→fP sT k=fP js (E.getD k 0)∧jH sT k=jH js (E.getD k 0)
 bit:∀k,k<E.length→∀j,(nm.getD k 0).testBit j=true↔j<E.length∧(bs.getD (E.getD k 0) 0).testBit (E.getD j 0)=true
section
variable {bs nm : List Nat} {js sT : List (Int × Int)} {s : Nat} {E : List Nat}
theorem A4 {E:List Nat} {k:Nat} (h:k<E.length):E.getD k 0=E[k]:=by simp [List.getD_eq_getElem?_getD,h]
theorem tA.inj (w:tA bs js s E nm sT) {a b:Nat} (ha:a<E.length) (hb:b<E.length) (h:E.getD a 0=E.getD b 0):a=b:=by
 rw [A4 ha,A4 hb] at h
 exact (List.getElem_inj w.nd).1 h
theorem tA.cost (w:tA bs js s E nm sT):∀(o:List Nat) (now:Int),(∀k∈o,k<E.length)→tE sT now o=tE js now (o.map fun k=>E.getD k 0)
 | [],_,_=>rfl
 | k::o,now,h=>by
  have:=w.len k (h k (by simp))
  simp only [List.map_cons,tE,this.1,this.2]
  rw [w.cost o _ fun k hk=>h k (by simp [hk])]
theorem tA.part (w:tA bs js s E nm sT) {o:List Nat} (ho:pQ nm E.length 0 o=true) (hf:uv 0 o=cJ E.length):FG bs s (o.map fun k=>E.getD k 0):=by
 obtain ⟨⟨nd,_⟩,pw,_⟩:=ayT ho
 have aD:=Jx ho
 have fJ:∀k,k<E.length→k∈o:=by
  intro k hk
  have:=KK o 0 k
  rw [hf,wT,a9 hk,Nat.zero_testBit,Bool.false_or] at this
  exact of_decide_eq_true this.symm
 refine ⟨?_,fun i=>?_,?_⟩
 ·unfold List.Nodup
  rw [List.pairwise_map]
  refine Pairwise.imp_of_mem (fun ha hb h=>?_) nd
  exact fun e=>h (w.inj (aD _ ha) (aD _ hb) e)
 ·rw [←w.mem,mem_map]
  constructor
  ·rintro ⟨k,hk,rfl⟩
   rw [A4 (aD k hk)]
   exact getElem_mem _
  ·intro hi
   obtain ⟨k,hk,rfl⟩:=List.mem_iff_getElem.1 hi
   exact ⟨k,fJ k hk,A4 hk⟩
 ·rw [List.pairwise_map]
  refine Pairwise.imp_of_mem (fun ha hb h=>?_) pw
  cases hc:(bs.getD (E.getD _ 0) 0).testBit (E.getD _ 0) with
  | false=>rfl
  | true=>rw [(w.bit _ (aD _ ha) _).2 ⟨aD _ hb,hc⟩] at h;cases h
theorem tA.back (w:tA bs js s E nm sT) (hi:∀i,i∈E→(bs.getD i 0).testBit i=false) {l:List Nat} (p:FG bs s l):
  ∃o,pQ nm E.length 0 o=true∧uv 0 o=cJ E.length∧l=o.map fun k=>E.getD k 0:=by
 have inE:∀i∈l,i∈E:=fun i h=>(w.mem i).2 ((p.mem i).1 h)
 have ix:∀i∈l,E.idxOf i<E.length∧E.getD (E.idxOf i) 0=i:=by
  intro i h
  have hl:=List.idxOf_lt_length_of_mem (inE i h)
  exact ⟨hl,by rw [A4 hl];exact List.getElem_idxOf hl⟩
 have hm:l=(l.map fun i=>E.idxOf i).map fun k=>E.getD k 0:=by
  rw [List.map_map]
  conv=>lhs;rw [←List.map_id l]
  exact List.map_congr_left fun i h=>(ix i h).2.symm
 have fJ:∀k,k<E.length→k∈l.map fun i=>E.idxOf i:=by
  intro k hk
  have hx:E[k]∈l:=(p.mem _).2 ((w.mem _).1 (getElem_mem hk))
  refine mem_map.2 ⟨E[k],hx,?_⟩
  have h2:=ix _ hx
  exact w.inj h2.1 hk (by rw [h2.2,A4 hk])
 refine ⟨l.map fun i=>E.idxOf i,?_,?_,hm⟩
 ·refine SB (fun k hk=>?_) ?_ ?_ (fun k hk j hj=>?_)
  ·obtain ⟨i,h,rfl⟩:=mem_map.1 hk
   exact ⟨(ix i h).1,by simp⟩
  ·unfold List.Nodup
   rw [List.pairwise_map]
   refine Pairwise.imp_of_mem (fun ha hb h=>?_) p.nd
   exact fun e=>h (by rw [←(ix _ ha).2,←(ix _ hb).2,e])
  ·rw [List.pairwise_map]
   refine Pairwise.imp_of_mem (fun {a b} ha hb h=>?_) p.fit
   cases hc:(nm.getD (E.idxOf a) 0).testBit (E.idxOf b) with
   | false=>rfl
   | true=>
    have:=((w.bit _ (ix a ha).1 _).1 hc).2
    rw [(ix a ha).2,(ix b hb).2,h] at this
    cases this
  ·obtain ⟨i,h,rfl⟩:=mem_map.1 hk
   obtain ⟨h1,h2⟩:=(w.bit _ (ix i h).1 _).1 hj
   rw [(ix i h).2] at h2
   refine ⟨?_,.inr (fJ j h1)⟩
   rintro rfl
   rw [(ix i h).2,hi i (inE i h)] at h2
   cases h2
 ·apply Nat.eq_of_testBit_eq
  intro j
  rw [KK,wT,Nat.zero_testBit,Bool.false_or]
  rw [decide_eq_decide]
  refine ⟨fun h=>?_,fJ j⟩
  obtain ⟨i,h2,rfl⟩:=mem_map.1 h
  exact (ix i h2).1
theorem tA.bf (w:tA bs js s E nm sT) (hi:∀i,i∈E→(bs.getD i 0).testBit i=false) (hj:xG sT) (hn:E.length≤10) (hu:AI nm E.length) {o:List Nat} (hg:pc nm sT E.length 0 o):
  FG bs s (o.map fun k=>E.getD k 0)∧∀l,FG bs s l→tE js 0 (o.map fun k=>E.getD k 0)≤tE js 0 l:=by
 obtain ⟨h1,h2,h3⟩:=pc.ok hn hg
 refine ⟨w.part h1 h2,fun l hl=>?_⟩
 obtain ⟨o',p1,p2,rfl⟩:=w.back hi hl
 have:=afq hj hn hu (s:=0) (Nat.pow_pos (by decide)) p1 p2
 rw [ayL] at this h3
 rw [←w.cost o 0 (Jx h1),←w.cost o' 0 (Jx p1)]
 omega
end
end
end Go.Sim
namespace Go.Proofs.YtelmdbpaoifmoaaGreat
open Go.Sim
section
theorem C29 {va vb:Value} {a b c d:Int} {h:ae} {K:Value→ae→Prop} (ha:QZ h va a b) (hb:QZ h vb c d) (la:a.natAbs<br) (lb:b.natAbs<br) (lc:c.natAbs<br) (ld:d.natAbs<br) (En:(a*d).natAbs<br) (RW:(c*b).natAbs<br)
  (hk:∀h',EX h h'→K (I (lL (a*d-c*b))) h'):aj prog 29 [va,vb] h K:=by
 obtain ⟨u,w,rfl,hu,hw⟩:=ha
 obtain ⟨u',w',rfl,zh,oV⟩:=hb
 refine f29 ?_
 unfold Nk
 have e1:∀(g:ae) (s s':Bool) (b d:Value),bm 37 g (.agg #[B s,b,B s',d])=some (pt g.length 0,g++[.arr 37 [B s,b,B s',d]]):=fun _ _ _ _ _=>rfl
 simp only [e1,aC]
 have x1:EX h (h++[.arr 37 [B (decide (a<0)),u,B (decide (b<0)),w]]):=EX.append _ _
 have k1:(h++[aq.arr 37 [B (decide (a<0)),u,B (decide (b<0)),w]])[h.length]?=some (.arr 37 [B (decide (a<0)),u,B (decide (b<0)),w]):=bn
 generalize h++[aq.arr 37 [B (decide (a<0)),u,B (decide (b<0)),w]]=g at x1 k1⊢
 have x2:EX g (g++[.arr 37 [B (decide (c<0)),u',B (decide (d<0)),w']]):=EX.append _ _
 have k2:(g++[aq.arr 37 [B (decide (c<0)),u',B (decide (d<0)),w']])[g.length]?=some (.arr 37 [B (decide (c<0)),u',B (decide (d<0)),w']):=bn
 generalize g++[aq.arr 37 [B (decide (c<0)),u',B (decide (d<0)),w']]=g2 at x2 k2⊢
 have k1:=x2.get k1
 have xx:=x1.trans x2
 have za:ZV g2 (.agg #[B (decide (a<0)),u]) a:=⟨u,rfl,hu.mono xx⟩
 have zb:ZV g2 (.agg #[B (decide (b<0)),w]) b:=⟨w,rfl,hw.mono xx⟩
 have zc:ZV g2 (.agg #[B (decide (c<0)),u']) c:=⟨u',rfl,zh.mono xx⟩
 have zd:ZV g2 (.agg #[B (decide (d<0)),w']) d:=⟨w',rfl,oV.mono xx⟩
 have a0:=jE k1
 have a2:=kJ k1
 have b0:=jE k2
 have b2:=kJ k2
 simp only [cn,add_zero,zero_add,ah,a0,b2,true_and]
 refine wy za zd la ld ?_
 intro r3 g3 x3 z3
 simp only [EX.load x3 b0,EX.load x3 a2,ah,b0,a2,true_and]
 refine wy (zc.mono x3) (zb.mono x3) lc lb ?_
 intro r4 g4 x4 Ap
 refine Lq (z3.mono x4) Ap En RW ?_
 intro g5 x5
 exact hk g5 (xx.trans (x3.trans (x4.trans x5)))
theorem abZ {n:Nat} (hn:n<br):gE (cE n)=true∧cF (cE n)=n:=by
 obtain ⟨d1,d2,d3,d4,d5⟩:=tG hn
 have:gE (cE n)=true:=tK.2 ⟨⟨d2,by omega⟩,d4,d1⟩
 exact ⟨this,by unfold cF;rw [if_pos this,d5]⟩
theorem azb {a b:Nat} (ha:a<br) (hb:b<br) (b1:1≤b) (hg:gcd a b=1):jR (mZ a b)=some ((a:Int),b):=by
 obtain ⟨d1,d2,d3,d4,d5⟩:=tG ha
 obtain ⟨o1,o2⟩:=abZ ha
 obtain ⟨p1,p2⟩:=abZ hb
 have no:(47:UInt8)∉cE a:=fun h=>by have:=d1 _ h;simp at this
 have en:gQ (a:Int)=cE a:=by unfold gQ;rw [if_neg (by omega),natAbs_natCast]
 have hd:∀t:List UInt8,(cE a++t).head?≠some 45:=by
  intro t h
  obtain ⟨c,r,e⟩:∃c r,cE a=c::r:=by
   cases hd:cE a with
   | nil=>rw [hd] at d2;simp at d2
   | cons c r=>exact ⟨c,r,rfl⟩
  rw [e] at h
  have hc:c=45:=by simpa using h
  have:=d1 c (by rw [e];simp)
  rw [hc] at this
  simp at this
 unfold mZ jR
 rw [en,natAbs_natCast]
 by_cases e:(b:Int)=1
 ·have e1:b=1:=by omega
  have h0:=hd []
  rw [append_nil] at h0
  have ix:(cE a).idxOf 47=(cE a).length:=List.idxOf_eq_length no
  have hs:nw (cE a)=false:=by unfold nw;rw [ix];simp
  have ho:dF (cE a)=cE a:=by unfold dF;rw [ix,take_length]
  rw [if_pos e,if_neg h0]
  unfold qR oL pv
  rw [hs,ho,o1,o2]
  simp [e1]
 ·have ix:(cE a++47::cE b).idxOf 47=(cE a).length:=by
   rw [List.idxOf_append,if_neg no];simp
  have hs:nw (cE a++47::cE b)=true:=by unfold nw;rw [ix];simp
  have ho:dF (cE a++47::cE b)=cE a:=by unfold dF;rw [ix];simp
  have hu:dQ (cE a++47::cE b)=cE b:=by unfold dQ;rw [ix];simp
  rw [if_neg e,if_neg (hd _)]
  unfold qR oL pv
  rw [hs,ho,hu,o1,o2,p1,p2]
  have:2≤b:=by omega
  simp [hg,this]
end
section
end
section
theorem Pm {a k:Nat} (ha:a<10^k) (hk:1≤k) (hb:a<br):(cE a).length≤k:=by
 obtain ⟨d1,d2,d3,d4,d5⟩:=tG hb
 cases e:cE a with
 | nil=>simp
 | cons c r=>
  rw [e] at d1 d4 d5
  by_cases hc:c=48
  ·have:=d4 (by rw [hc];rfl)
   omega
  ·have h1:=d1 c (by simp)
   rw [KZ] at d5
   have h2:c.toNat≠48:=fun h=>hc (UInt8.toNat_inj.1 h)
   have h3:=Nat.mul_le_mul_right (10^r.length) (show 1≤c.toNat-48 by omega)
   have h4:10^r.length<10^k:=by omega
   have:=(Nat.pow_lt_pow_iff_right (show 1<10 by decide)).1 h4
   simp;omega
end
section
theorem aza {s:List UInt8} {n:Int} {d:Nat} (h:jR s=some (n,d)):0<d∧gcd n.natAbs d=1:=by
 rw [T5] at h
 unfold qR at h
 split at h
 ·rename_i hc
  injection h with h
  injection h with h1 h2
  have e:=(US (m:=decide (s.head?=some 45)) (n:=cF (dF (fH s)))).2
  have hn:n.natAbs=cF (dF (fH s)):=by rw [←h1];exact e
  rw [hn,←h2]
  unfold pv
  have hd:=hc.1
  unfold oL at hd
  split
  ·rename_i hs
   rw [hs,Bool.not_true,Bool.false_or,and_eq_true,and_eq_true,decide_eq_true_eq,decide_eq_true_eq] at hd
   exact ⟨by omega,hd.2.2⟩
  ·exact ⟨by decide,Nat.gcd_one_right _⟩
 ·cases h
theorem ayw {n:Int} {d:Nat} (h0:0<d) (hg:gcd n.natAbs d=1):(mkRat n d).num=n∧(mkRat n d).den=d:=by
 obtain ⟨e1,e2⟩:=zP (N:=n) h0
 rw [hg] at e1 e2
 exact ⟨by rw [e1];simp,by rw [e2];simp⟩
def jS (s:List UInt8):Rat:=match jR s with | some (n,d)=>mkRat n d | none=>0
def mW (s:List UInt8):Bool:=(jR s).isSome
theorem Ut {s:List UInt8} {n:Int} {d:Nat} (h:jR s=some (n,d)):(jS s).num=n∧(jS s).den=d:=by
 obtain ⟨h1,h2⟩:=aza h
 have:=ayw h1 h2
 unfold jS
 rw [h]
 exact this
theorem axa {s:List UInt8} (h:mW s=true):jR s=some ((jS s).num,(jS s).den):=by
 unfold mW at h
 cases e:jR s with
 | none=>rw [e] at h;cases h
 | some q=>
  obtain ⟨n,d⟩:=q
  obtain ⟨e1,e2⟩:=Ut e
  rw [e1,e2]
theorem amr {h:ae} {K:Value→ae→Prop} {s:List UInt8} (hl:s.length≤700)
  (hk:mW s=true→∀r h',EX h h'→RV h' r (jS s)→K (.tuple #[r,B true]) h')
  (gF:mW s=false→∀a b c e h',EX h h'→K (.tuple #[.agg #[a,b,c,e],B false]) h'):aj prog 108 [S s] h K:=by
 refine amq hl (fun n d hp r h' x hr=>?_) (fun hp=>gF (by unfold mW;rw [hp];rfl))
 obtain ⟨e1,e2⟩:=Ut hp
 refine hk (by unfold mW;rw [hp];rfl) r h' x ?_
 unfold RV
 rw [e1,e2]
 exact hr
theorem abU {a k:Nat} (hk:1≤k) (hb:a<br):(cE a).length≤k↔a<10^k:=by
 constructor
 ·intro h
  obtain ⟨d1,_,_,_,d5⟩:=tG hb
  have:=Ai d1
  rw [d5] at this
  exact lt_of_lt_of_le this (pow_le_pow_right (by decide) h)
 ·intro h
  exact Pm h hk hb
def Du (k:Nat) (q:Rat):Bool:=decide (q.num.natAbs<10^k)&&decide (q.den<10^k)
theorem C84 {h:ae} {K:Value→ae→Prop} {va:Value} {p:Rat} {i k:Nat} (ha:RV h va p) (sp:bO i p) (hi:i≤900) (mR:1≤k) (_:k≤1000) (hk:∀h',EX h h'→K (B (Du k p)) h'):aj prog 84 [va,I k] h K:=by
 obtain ⟨u,w,rfl,hu,hw⟩:=ha
 obtain ⟨l1,l2⟩:=sp.gL hi
 rw [natAbs_natCast] at hw
 refine f84 ?_
 have e1:∀(g:ae) (s t:Bool) (v w:Value),bm 107 g (.agg #[B s,v,B t,w])=some (pt g.length 0,g++[.arr 107 [B s,v,B t,w]]):=fun _ _ _ _ _=>rfl
 simp only [NO,e1,aC]
 generalize decide ((p.den:Int)<0)=t1 at*
 have q0:EX h (h++[.arr 107 [B (decide (p.num<0)),u,B t1,w]]):=EX.append _ _
 have p0:(h++[aq.arr 107 [B (decide (p.num<0)),u,B t1,w]])[h.length]?=some (.arr 107 [B (decide (p.num<0)),u,B t1,w]):=bn
 generalize h++[aq.arr 107 [B (decide (p.num<0)),u,B t1,w]]=ga at q0 p0⊢
 have qK:af false 1 ga (pt h.length 1)=some u:=by simp [af,aR,p0,cf]
 simp only [cn,zero_add,add_zero,ah,qK]
 refine FB (hu.mono q0) l1 ?_
 intro g1 x1
 have ld3:af false 1 g1 (pt h.length 3)=some w:=by simp [af,aR,x1.get p0,cf]
 have d1:decide (((cE p.num.natAbs).length:Int)≤(k:Int))=decide (p.num.natAbs<10^k):=by
  rw [decide_eq_decide]
  have:=abU mR l1
  omega
 simp only [lN,ah,AM,d1]
 rw [aB7]
 unfold Du at hk
 by_cases h1:p.num.natAbs<10^k
 ·rw [a9 h1] at hk⊢
  simp only [jt,cn,ah,ld3]
  refine FB ((hw.mono q0).mono x1) l2 ?_
  intro g2 x2
  have d2:decide (((cE p.den).length:Int)≤(k:Int))=decide (p.den<10^k):=by
   rw [decide_eq_decide]
   have:=abU mR l2
   omega
  simp only [lN,ah,AM,d2]
  rw [alc]
  simp only [eW,ah]
  rw [Bool.true_and] at hk
  exact hk g2 (q0.trans (x1.trans x2))
 ·rw [aU h1] at hk⊢
  simp only [lj]
  rw [alc]
  simp only [dI,ah]
  exact hk g1 (q0.trans x1)
end
section
variable (P : Program) (K : VK)
noncomputable section
variable (c0 x4 aM au aB : Value) (L1 : LQ) (xs : List Value) (h : ae)
def aha:=bz prog 80 [[],[],[],[10,11],[4,12],[],[],[],[],[],[],[],[],[4],[]]
@[irreducible] def Hj:=bI aha
@[irreducible] def asM:=Hj.r.r.l.r.l.l
@[irreducible] def abc:=Hj.r.r.r
@[irreducible] def asL:=abc.l
theorem k80:aha=some (29,Hj,[.tmp 2,.tmp 3]):=by kernel_rfl
def Mg (_P:Program) (K:VK):ar:=aS [.tmp 2,.tmp 3] K
def apt:ar:=aF (ak P abc (Mg P K)) (Mg P K)
def apu:ar:=bN 0 (apt P K)
def apv:ar:=aF (fun f' aT=>(([10,11]:List Nat).map f':List Value)=[aM,au]∧L1 (([4,12]:List Nat).map f') aT) (apu P K)
def ajL:Prop:=ay (ak P asM (apv P K aM au L1)) ([10,11]++[4,12]) ([aM,au]++xs) h
def ajK:Prop:=ay (ak P asL (Mg P K)) [4] [x4] h
theorem aB5 (aM au:Value) (L1:LQ) (x4 aB:Value) (h:ae):ajL P K aM au L1 [x4,aB] h=
 (OP (ai .lss aB au) fun aA=>
 aQ aA
 (OP (bc 1 aM aB) fun aH=>
 OP (af false 1 h aH) fun ba=>
 aj P 108 [ba] h fun aP z1=>
 OP (b9 0 aP) fun aO=>
 OP (b9 1 aP) fun aW=>
 OH (aV 107 [(.bool false),(.slice none 0 0),(.bool false),(.slice none 0 0)] z1) fun x7 z2=>
 OH (aE 4 z2 x7 aO) fun _ z3=>
 OP (gw .not aW) fun bE=>
 aQ bE
 (K (.tuple #[(.slice none 0 0),(.bool false)]) z3)
 (OP (af true 4 z3 x7) fun bu=>
 OH (dH 107 1 [(.bool false),(.slice none 0 0),(.bool false),(.slice none 0 0)] z3 [(0,4,bu)]) fun bY z4=>
 OH (dT 107 4 64 z4 x4 bY) fun cg z5=>
 OP (ai .add aB (.int .i64 (1))) fun bW=>
 ([aM,au]:List Value)=[aM,au]∧L1 [cg,bW] z5))
 (ajK P K x4 h)):=az (by kernel_rfl)
theorem aB4:ajK P K x4 h=
 (K (.tuple #[x4,(.bool true)]) h):=az (by kernel_rfl)
def NK:Prop:=
 OH (bm 24 h c0) fun c1 z1=>
 OP (aL 0 c1) fun x9=>
 OP (af false 1 z1 x9) fun aM=>
 OP (bj aM) fun au=>
 cM [(.slice none 0 0),(.int .i64 (0))] z1 fun L1 xs hx=>
 ajL P K aM au L1 xs hx
theorem e80:ak P Hj (aS [.tmp 2,.tmp 3] K) (bt [c0]) h=NK P K c0 h:=by kernel_rfl
theorem f80 {K:VK} {c0:Value} {h:ae} (H:NK prog K c0 h):aj prog 80 [c0] h K:=
 bJ k80 (bH rfl) ((e80 prog K c0 h).mpr H)
end
noncomputable section
variable (s0 f1 : Value) (h : ae)
def ahc:=bz prog 82 [[],[]]
@[irreducible] def c82:=bI ahc
theorem k82:ahc=some (9,c82,[.tmp 4]):=by kernel_rfl
def NM:Prop:=
 aj P 110 [s0,f1] h fun x7 z1=>
 OP (ai .geq x7 (.int .i64 (0))) fun x8=>
 K x8 z1
theorem e82:ak P c82 (aS [.tmp 4] K) (bt [s0,f1]) h=NM P K s0 f1 h:=by kernel_rfl
theorem f82 {K:VK} {s0 f1:Value} {h:ae} (H:NM prog K s0 f1 h):aj prog 82 [s0,f1] h K:=
 bJ k82 (bH rfl) ((e82 prog K s0 f1 h).mpr H)
end
noncomputable section
variable (x0 x1 x6 x9 : Value) (h : ae)
def ahd:=bz prog 83 [[],[1,6],[6,9],[]]
@[irreducible] def AO:=bI ahd
@[irreducible] def abf:=AO.r.l.r.l
@[irreducible] def asN:=AO.r.r
@[irreducible] def asO:=abf.r.l
theorem k83:ahd=some (11,AO,[.tmp 2]):=by kernel_rfl
def XD (_P:Program) (K:VK):ar:=aS [.tmp 2] K
def XE:ar:=aF (ak P asN (XD P K)) (XD P K)
def ajM:Prop:=ay (ak P abf (XE P K)) [1,6] [x1,x6] h
def TK:Prop:=ay (ak P asO (XE P K)) [6,9] [x6,x9] h
theorem alb:TK P K x6 x9 h=
 (OP (bP x6 (.bool true) x9) fun aM=>
 K aM h):=az (by kernel_rfl)
theorem aB6:ajM P K x1 x6 h=
 (cm x6 false
 (OP (af true 4 h x1) fun x7=>
 aj P 84 [x7,(.int .i64 (4))] h fun x8 z1=>
 OP (gw .not x8) fun x9=>
 TK P K x6 x9 z1)
 (TK P K x6 undef h)):=az (by kernel_rfl)
def NN:Prop:=
 OH (bm 107 h x0) fun x1 z1=>
 OP (af true 4 z1 x1) fun x3=>
 aj P 81 [x3] z1 fun x4 z2=>
 OP (ai .lss x4 (.int .i64 (0))) fun x5=>
 ajM P K x1 x5 z2
theorem e83:ak P AO (aS [.tmp 2] K) (bt [x0]) h=NN P K x0 h:=by kernel_rfl
theorem f83 {K:VK} {x0:Value} {h:ae} (H:NN prog K x0 h):aj prog 83 [x0] h K:=
 bJ k83 (bH rfl) ((e83 prog K x0 h).mpr H)
end
noncomputable section
variable (j0 x1 x4 x5 aB aA aH : Value) (L1 : LQ) (xs : List Value) (h : ae)
def ahf:=bz prog 85 [[],[],[],[4,5,12,13],[14],[],[],[],[],[4,5],[]]
@[irreducible] def Hm:=bI ahf
@[irreducible] def asS:=Hm.r.r.l.r.l.l
@[irreducible] def abh:=Hm.r.r.r
@[irreducible] def asR:=abh.l
theorem k85:ahf=some (23,Hm,[.cell true 4 4]):=by kernel_rfl
def Mh (_P:Program) (K:VK):ar:=aS [.cell true 4 4] K
def apw:ar:=aF (ak P abh (Mh P K)) (Mh P K)
def apx:ar:=bN 0 (apw P K)
def apy:ar:=aF (fun f' aT=>(([4,5,12,13]:List Nat).map f':List Value)=[x4,x5,aB,aA]∧L1 (([14]:List Nat).map f') aT) (apx P K)
def ajP:Prop:=ay (ak P asS (apy P K x4 x5 aB aA L1)) ([4,5,12,13]++[14]) ([x4,x5,aB,aA]++xs) h
def ajO:Prop:=ay (ak P asR (Mh P K)) [4,5] [x4,x5] h
theorem aB9 (x4 x5 aB aA:Value) (L1:LQ) (aH:Value) (h:ae):ajP P K x4 x5 aB aA L1 [aH] h=
 (OP (ai .lss aH aA) fun ba=>
 aQ ba
 (OP (bc 4 aB aH) fun bk=>
 OP (af true 4 h bk) fun bM=>
 OH (aV 107 [(.bool false),(.slice none 0 0),(.bool false),(.slice none 0 0)] h) fun x7 z1=>
 OH (aE 4 z1 x7 bM) fun _ z2=>
 OP (af true 4 z2 x5) fun aP=>
 OP (af true 4 z2 x7) fun aO=>
 aj P 87 [aP,aO] z2 fun aW z3=>
 OH (aE 4 z3 x5 aW) fun _ z4=>
 OP (ai .add aH (.int .i64 (1))) fun aY=>
 ([x4,x5,aB,aA]:List Value)=[x4,x5,aB,aA]∧L1 [aY] z4)
 (ajO P K x4 x5 h)):=az (by kernel_rfl)
theorem aB8:ajO P K x4 x5 h=
 (OP (af true 4 h x5) fun bE=>
 OH (aE 4 h x4 bE) fun _ z1=>
 OP (af true 4 z1 x4) fun r0=>
 K r0 z1):=az (by kernel_rfl)
def NP:Prop:=
 OH (bm 102 h j0) fun j2 z1=>
 OH (aV 107 [(.bool false),(.slice none 0 0),(.bool false),(.slice none 0 0)] z1) fun x4 z2=>
 aj P 75 [(.int .i64 (0))] z2 fun x8 z3=>
 OH (aV 107 [(.bool false),(.slice none 0 0),(.bool false),(.slice none 0 0)] z3) fun x5 z4=>
 OH (aE 4 z4 x5 x8) fun _ z5=>
 OP (aL 2 j2) fun x9=>
 OP (af false 1 z5 x9) fun aM=>
 OP (mo 107 4 aM (some x1) none) fun aB=>
 OP (bj aB) fun aA=>
 cM [(.int .i64 (0))] z5 fun L1 xs hx=>
 ajP P K x4 x5 aB aA L1 xs hx
theorem e85:ak P Hm (aS [.cell true 4 4] K) (bt [j0,x1]) h=NP P K j0 x1 h:=by kernel_rfl
theorem f85 {K:VK} {j0 x1:Value} {h:ae} (H:NP prog K j0 x1 h):aj prog 85 [j0,x1] h K:=
 bJ k85 (bH rfl) ((e85 prog K j0 x1 h).mpr H)
end
noncomputable section
variable (s0 f1 x7 x8 : Value) (L1 : LQ) (xs : List Value) (h : ae)
def afZ:=bz prog 110 [[],[],[0,1,7],[8],[],[],[],[],[],[],[],[]]
@[irreducible] def Gx:=bI afZ
@[irreducible] def aqs:=Gx.r.l.r.l.l
@[irreducible] def aqr:=Gx.r.r
theorem axt:afZ=some (19,Gx,[.tmp 4]):=by kernel_rfl
def WN (_P:Program) (K:VK):ar:=aS [.tmp 4] K
def anb:ar:=aF (ak P aqr (WN P K)) (WN P K)
def anc:ar:=bN 0 (anb P K)
def ane:ar:=aF (fun f' aT=>(([0,1,7]:List Nat).map f':List Value)=[s0,f1,x7]∧L1 (([8]:List Nat).map f') aT) (anc P K)
def ahX:Prop:=ay (ak P aqs (ane P K s0 f1 x7 L1)) ([0,1,7]++[8]) ([s0,f1,x7]++xs) h
theorem azH (s0 f1 x7:Value) (L1:LQ) (x8:Value) (h:ae):ahX P K s0 f1 x7 L1 [x8] h=
 (OP (ai .lss x8 x7) fun x9=>
 aQ x9
 (OP (bc 4 s0 x8) fun aH=>
 OP (af true 4 h aH) fun ba=>
 uI P f1 [ba] h fun bk z1=>
 aQ bk
 (K x8 z1)
 (OP (ai .add x8 (.int .i64 (1))) fun aP=>
 ([s0,f1,x7]:List Value)=[s0,f1,x7]∧L1 [aP] z1))
 (K (.int .i64 (-1)) h)):=az (by kernel_rfl)
def MD:Prop:=
 OP (bj s0) fun x7=>
 cM [(.int .i64 (0))] h fun L1 xs hx=>
 ahX P K s0 f1 x7 L1 xs hx
theorem at3:ak P Gx (aS [.tmp 4] K) (bt [s0,f1]) h=MD P K s0 f1 h:=by kernel_rfl
theorem f110 {K:VK} {s0 f1:Value} {h:ae} (H:MD prog K s0 f1 h):aj prog 110 [s0,f1] h K:=
 bJ axt (bH rfl) ((at3 prog K s0 f1 h).mpr H)
end
end
section
def qS (qs:List Rat):List (Int×Int):=qs.map fun q=>(q.num,(q.den:Int))
def QL (h:ae) (v:Value) (qs:List Rat):Prop:=ra h v (qS qs)
theorem QL.mono {h h':ae} {v:Value} {qs:List Rat} (x:EX h h') (p:QL h v qs):QL h' v qs:=ra.mono x p
theorem zY (qs:List Rat):(qS qs).length=qs.length:=by simp [qS]
theorem QL.len {h:ae} {v:Value} {qs:List Rat} (p:QL h v qs):bj v=some (I qs.length):=by have:=ra.len p;rwa [zY] at this
theorem QL.get {h:ae} {v:Value} {qs:List Rat} (p:QL h v qs) {k:Nat} (hk:k<qs.length):∃i o r,bc 4 v (I k)=some (pt i o)∧af true 4 h (pt i o)=some r∧RV h r qs[k]:=by
 obtain ⟨i,o,r,g1,g2,g3⟩:=ra.get p (k:=k) (by rw [zY];exact hk)
 refine ⟨i,o,r,g1,g2,?_⟩
 unfold RV
 simpa [qS] using g3
theorem RV.agg {h:ae} {v:Value} {q:Rat} (p:RV h v q):∃a b c d,v=.agg #[B a,b,B c,d]:=by
 obtain ⟨u,w,rfl,_⟩:=p
 exact ⟨_,_,_,_,rfl⟩
section
variable {h : ae} {K : Value → ae → Prop}
theorem C80 {vs:Value} {w:Int} {ls:List (List UInt8)} (hv:SS h vs ls) (hl:∀s∈ls,s.length≤700) (hn:ls.length≤1000)
  (hk:ls.all mW=true→∀v h' b,EX h h'→nR b h' v (qS (ls.map jS))→K (.tuple #[v,B true]) h')
  (gF:ls.all mW=false→∀h',EX h h'→K (.tuple #[.slice none 0 0,B false]) h'):aj prog 80 [.agg #[vs,I w]] h K:=by
 refine f80 ?_
 have e1:bm 24 h (.agg #[vs,I w])=some (pt h.length 0,h++[.arr 24 [vs,I w]]):=rfl
 simp only [NK,e1,aC]
 have x0:EX h (h++[.arr 24 [vs,I w]]):=EX.append _ _
 have k0:(h++[aq.arr 24 [vs,I w]])[h.length]?=some (.arr 24 [vs,I w]):=bn
 generalize h++[aq.arr 24 [vs,I w]]=g0 at x0 k0⊢
 have ld:af false 1 g0 (pt h.length 0)=some vs:=by simp [af,aR,k0,cf]
 have hlen:=hv.len
 simp only [cn,add_zero,ah,ld,hlen]
 refine dL (σ:=Nat×Value×ae) (fun q=>[q.2.1,I q.1]) (fun q=>q.2.2) (fun q=>q.1≤ls.length∧EX g0 q.2.2∧(ls.take q.1).all mW=true∧nR g0.length q.2.2 q.2.1 (qS ((ls.take q.1).map jS))) (fun q=>ls.length-q.1)
  (0,.slice none 0 0,g0) rfl rfl ⟨zero_le _,EX.refl _,by simp,by simpa [qS] using nR.start g0.length g0⟩ ?_
 rintro ⟨i,vo,g⟩ ⟨hi,xg,fJ,own⟩ L hL
 simp only at hi xg fJ own hL⊢
 rw [aB5]
 simp only [cW,ah,bX]
 refine ⟨fun aD=>?_,fun cK=>?_⟩
 ·have bC:i<ls.length:=by omega
  obtain ⟨b,o,r1,r2⟩:=(hv.mono (x0.trans xg)).get i bC
  simp only [r1,r2,ah]
  have e7:∀(g:ae),aV 107 [(.bool false),(.slice none 0 0),(.bool false),(.slice none 0 0)] g=some (pt g.length 0,g++[.arr 107 z4]):=fun _=>rfl
  refine amr (hl _ (getElem_mem bC)) (fun IL r g1 x1 hr=>?_) (fun IL a b c e g1 x1=>?_)
  ·obtain ⟨a,b',c,d,rfl⟩:=hr.agg
   simp only [eQ,ft,fv,ah,e7,aC]
   rw [nH bn]
   simp only [aC,qV,ah,Bool.not_true,dV]
   rw [hO (cj bn)]
   simp only [ah]
   have x2:EX g1 ((g1++[aq.arr 107 z4]).set g1.length (.arr 107 [B a,b',B c,d])):=EX.set (EX.append _ _) (le_refl _) _
   generalize (g1++[aq.arr 107 z4]).set g1.length (.arr 107 [B a,b',B c,d])=g2 at x2⊢
   have aB:=x1.trans x2
   refine (own.ex aB).app (xg.trans aB) (hr.mono x2) rfl (by rw [zY,length_map,length_take];omega) ?_
   intro v' g3 x3 _ rP
   simp only [cQ,ah,fA i (by omega),true_and]
   refine hL (i+1,v',g3) ⟨by show i+1≤_;omega,x3,?_,?_⟩ (by show ls.length-(i+1)<ls.length-i;omega)
   ·show (ls.take (i+1)).all mW=true
    rw [take_succ_eq_append_getElem bC,List.all_append,fJ]
    simpa using IL
   ·show nR g0.length g3 v' (qS ((ls.take (i+1)).map jS))
    rw [take_succ_eq_append_getElem bC,List.map_append]
    simpa [qS] using rP
  ·simp only [eQ,ft,fv,ah,e7,aC]
   rw [nH bn]
   simp only [aC,qV,ah,Bool.not_false,dX]
   refine gF ?_ _ ((x0.trans (xg.trans x1)).trans (EX.set (EX.append _ _) (le_refl _) _))
   cases he:ls.all mW with
   | false=>rfl
   | true=>rw [List.all_eq_true] at he;rw [he _ (getElem_mem bC)] at IL;cases IL
 ·have fY:i=ls.length:=by omega
  subst fY
  rw [take_length] at fJ own
  rw [aB4]
  exact hk fJ vo g _ (x0.trans xg) own
end
end
section
def dW (qs:List Rat):Rat:=qs.foldl (·+·) 0
theorem KT {qs:List Rat} {i:Nat} (h:i<qs.length):dW (qs.take (i+1))=dW (qs.take i)+qs[i]:=by
 unfold dW
 rw [take_succ_eq_append_getElem h,List.foldl_append]
 rfl
theorem BQ {N:Int} {D k:Nat} (hD:0<D) (h1:N.natAbs<10^k) (h2:D<10^k):bO k (mkRat N D):=by
 obtain ⟨e1,e2⟩:=zP (N:=N) hD
 have hg:0<gcd N.natAbs D:=Nat.gcd_pos_of_pos_right _ hD
 refine ⟨?_,?_⟩
 ·rw [e1]
  have hd:(gcd N.natAbs D:Int) ∣ N:=Int.ofNat_dvd_left.2 (Nat.gcd_dvd_left ..)
  rw [Int.natAbs_ediv_of_dvd hd,natAbs_natCast]
  exact Nat.lt_of_le_of_lt (Nat.div_le_self ..) h1
 ·rw [e2];exact Nat.lt_of_le_of_lt (Nat.div_le_self ..) h2
theorem bO.add {i j:Nat} {p q:Rat} (hp:bO i p) (hq:bO j q):bO (i+j+1) (p+q):=by
 obtain ⟨c1,c2,c3,_⟩:=yl hp hq
 rw [N3]
 have h1:10^(i+j+1)=10^(i+j)*10:=pow_succ ..
 refine BQ (Nat.mul_pos p.den_pos q.den_pos) ?_ ?_
 ·rw [h1];generalize 10^(i+j)=Z at*;omega
 ·rw [h1];generalize 10^(i+j)=Z at*;omega
theorem bO.mul {i j:Nat} {p q:Rat} (hp:bO i p) (hq:bO j q):bO (i+j) (p*q):=by
 obtain ⟨_,_,c3,c4⟩:=yl hp hq
 rw [Sj]
 exact BQ (Nat.mul_pos p.den_pos q.den_pos) c4 c3
theorem bO.div {i j:Nat} {p q:Rat} (hp:bO i p) (hq:bO j q) (h0:0<q.num):bO (i+j) (p / q):=by
 obtain ⟨c1,c2,_,_⟩:=yl hp hq
 rw [ab1 h0]
 refine BQ (Nat.mul_pos p.den_pos (by omega)) c1 ?_
 rw [Int.natAbs_mul,natAbs_natCast,Nat.mul_comm] at c2
 have:q.num.toNat=q.num.natAbs:=by omega
 rw [this];exact c2
theorem bO.le {i j:Nat} {p:Rat} (h:bO i p) (eC:i≤j):bO j p:=
 ⟨lt_of_lt_of_le h.1 (pow_le_pow_right (by decide) eC),lt_of_lt_of_le h.2 (pow_le_pow_right (by decide) eC)⟩
theorem bO.zero:bO 1 (0:Rat):=by constructor <;> decide
theorem Cg {qs:List Rat} (h:∀q∈qs,bO 4 q):∀i,i≤qs.length→bO (5*i+1) (dW (qs.take i))
 | 0,_=>by rw [List.take_zero];exact bO.zero
 | i+1,hi=>by
  rw [KT (by omega)]
  exact ((Cg h i (by omega)).add (h _ (getElem_mem (by omega)))).le (by omega)
theorem RV.bL {h:ae} {v:Value} {q:Rat} {j:Nat} {e:TypeId} {s:Bool} {r:List Value} (p:RV h v q) (hj:h[j]?=some (.arr e (.bool s::r))) (o:aq):RV (h.set j o) v q:=gV.bL p hj o
theorem QL.from {h:ae} {v:Value} {qs:List Rat} (p:QL h v qs) {k:Nat} (hk:k≤qs.length):∃v',mo 107 4 v (some (I k)) none=some v'∧QL h v' (qs.drop k):=by
 obtain ⟨rows,a,b,c⟩:=p
 rw [zY] at b
 obtain ⟨v',e1,e2⟩:=a.from (k:=k) (by omega)
 refine ⟨v',e1,rows.drop k,e2,by simp [qS];omega,fun j row q h1 h2=>?_⟩
 rw [List.getElem?_drop] at h1
 refine c (k+j) row q h1 ?_
 rw [←h2]
 unfold qS
 rw [List.getElem?_map,List.getElem?_map,List.getElem?_drop]
section
variable {h : ae} {K : Value → ae → Prop}
theorem Ls {v:Value} {n w:Int} {age:Nat} {qs:List Rat} (hq:QL h v qs) (ha:age≤qs.length) (hs:∀q∈qs,bO 4 q) (hn:qs.length≤20) (hk:∀r h',EX h h'→RV h' r (dW (qs.drop age))→K r h'):
  aj prog 85 [.agg #[I n,I w,v],I age] h K:=by
 obtain ⟨rows,rs,_,_⟩:=id hq
 obtain ⟨t1,t2⟩:=rs.one
 refine f85 ?_
 have e1:bm 102 h (.agg #[I n,I w,v])=some (pt h.length 0,h++[.arr 102 [I n,I w,v]]):=rfl
 have e7:∀(g:ae),aV 107 [(.bool false),(.slice none 0 0),(.bool false),(.slice none 0 0)] g=some (pt g.length 0,g++[.arr 107 z4]):=fun _=>rfl
 simp only [NP,e1,e7,aC]
 have x0:EX h (h++[.arr 102 [I n,I w,v]]):=EX.append _ _
 have k0:(h++[aq.arr 102 [I n,I w,v]])[h.length]?=some (.arr 102 [I n,I w,v]):=bn
 generalize h++[aq.arr 102 [I n,I w,v]]=g0 at x0 k0⊢
 have x1:EX g0 (g0++[.arr 107 z4]):=EX.append _ _
 have k1:(g0++[aq.arr 107 z4])[g0.length]?=some (.arr 107 z4):=bn
 generalize g0++[aq.arr 107 z4]=g1 at x1 k1⊢
 refine tw (n:=0) (by decide) (by decide) ?_
 intro r2 g2 x2 Bv
 obtain ⟨a,b,c,d,rfl⟩:=Bv.agg
 have x3:EX g2 (g2++[.arr 107 z4]):=EX.append _ _
 have k3:(g2++[aq.arr 107 z4])[g2.length]?=some (.arr 107 z4):=bn
 generalize g2++[aq.arr 107 z4]=g3 at x3 k3⊢
 have Bw:=Bv.mono x3
 rw [nH k3]
 simp only [aC]
 have hl0:=x0.1
 have yP:=x1.1
 have pH:=x2.1
 have IH:=(bK k1).1
 have k4:(g3.set g2.length (.arr 107 [B a,b,B c,d]))[g2.length]?=some (.arr 107 [B a,b,B c,d]):=cj k3
 have vE:RV (g3.set g2.length (.arr 107 [B a,b,B c,d])) (.agg #[B a,b,B c,d]) 0:=by
  have:=Bw.bL k3 (.arr 107 [B a,b,B c,d])
  simpa using this
 have x4:EX g2 (g3.set g2.length (.arr 107 [B a,b,B c,d])):=x3.set (le_refl _) _
 generalize g3.set g2.length (.arr 107 [B a,b,B c,d])=g4 at k4 vE x4⊢
 have K9:=x0.trans (x1.trans x2)
 have kI:=(x2.trans x4).get k1
 have ld:af false 1 g4 (pt h.length 2)=some v:=by simp [af,aR,(x1.trans (x2.trans x4)).get k0,cf]
 obtain ⟨v',s1,s2⟩:=(hq.mono K9).from ha
 have hlen:=s2.len
 simp only [cn,zero_add,ah,ld,s1,hlen]
 have hsd:∀q∈qs.drop age,bO 4 q:=fun q hm=>hs q (mem_of_mem_drop hm)
 have oT:(qs.drop age).length≤20:=by rw [length_drop];omega
 generalize qs.drop age=ps at*
 refine dL (σ:=Nat×ae×(Bool×Value×Bool×Value)) (fun q=>[I q.1]) (fun q=>q.2.1)
  (fun q=>q.1≤ps.length∧EX g2 q.2.1∧q.2.1[g2.length]?=some (.arr 107 [B q.2.2.1,q.2.2.2.1,B q.2.2.2.2.1,q.2.2.2.2.2])∧q.2.1[g0.length]?=some (.arr 107 z4)∧RV q.2.1 (.agg #[B q.2.2.1,q.2.2.2.1,B q.2.2.2.2.1,q.2.2.2.2.2]) (dW (ps.take q.1))) (fun q=>ps.length-q.1)
  (0,g4,a,b,c,d) rfl rfl ⟨zero_le _,x4,k4,kI,vE⟩ ?_
 rintro ⟨i,g,a,b,c,d⟩ ⟨hi,xg,kg,kz,hr⟩ L hL
 simp only at hi xg kg kz hr hL⊢
 have qv:=s2.mono xg
 rw [aB9]
 simp only [cW,ah,bX]
 refine ⟨fun aD=>?_,fun cK=>?_⟩
 ·have bC:i<ps.length:=by omega
  obtain ⟨bi,oi,r,u1,u2,u3⟩:=qv.get bC
  obtain ⟨a',b',c',d',rfl⟩:=u3.agg
  simp only [u1,u2,ah,e7,aC]
  have y1:EX g (g++[.arr 107 z4]):=EX.append _ _
  have j1:(g++[aq.arr 107 z4])[g.length]?=some (.arr 107 z4):=bn
  generalize g++[aq.arr 107 z4]=ga at y1 j1⊢
  rw [nH j1]
  simp only [aC]
  have y2:EX g (ga.set g.length (.arr 107 [B a',b',B c',d'])):=y1.set (le_refl _) _
  have j2:(ga.set g.length (.arr 107 [B a',b',B c',d']))[g.length]?=some (.arr 107 [B a',b',B c',d']):=cj j1
  generalize ga.set g.length (.arr 107 [B a',b',B c',d'])=gb at y2 j2⊢
  have kb:=y2.get kg
  rw [hO kb,ah,hO j2,ah]
  refine xO (hr.mono y2) (u3.mono y2) (Cg hsd i hi) (hsd _ (getElem_mem bC)) (by omega) ?_
  intro r5 g5 x5 qy
  rw [←KT bC] at qy
  obtain ⟨a2,b2,c2,d2,rfl⟩:=qy.agg
  have kc:=x5.get kb
  rw [nH kc]
  simp only [aC,cQ,fA i (by omega),ah,true_and]
  have vg:=(bK kg).1
  have kz5:=(y2.trans x5).get kz
  refine hL (i+1,g5.set g2.length (.arr 107 [B a2,b2,B c2,d2]),a2,b2,c2,d2) ⟨by show i+1≤_;omega,(xg.trans (y2.trans x5)).set (le_refl _) _,cj kc,?_,qy.bL kc _⟩ (by show ps.length-(i+1)<ps.length-i;omega)
  rw [getElem?_set_ne (by omega)];exact kz5
 ·have fY:i=ps.length:=by omega
  subst fY
  rw [take_length] at hr
  rw [aB8,hO kg,ah]
  have hgz:g0.length≠g2.length:=by omega
  refine rk kz (hk _ _ ((K9.trans xg).set (by omega) _) (hr.bL kz _))
end
end
section
def ma (q:Rat):Bool:=decide (q.num<0)|| !Du 4 q
theorem ayS:qf prog 83=true:=by kernel_rfl
def xy:Nat:=700
theorem aCw {s:List UInt8} (hl:s.length≤700):bO xy (jS s):=by
 have rG:(fH s).length≤700:=by
  unfold fH
  split
  ·rw [List.length_tail];omega
  ·exact hl
 have lo:(dF (fH s)).length≤700:=by unfold dF;rw [length_take];omega
 have lu:(dQ (fH s)).length≤700:=by unfold dQ;rw [length_drop];omega
 have p1:cF (dF (fH s))<10^xy:=lt_of_lt_of_le (KY _) (pow_le_pow_right (by decide) (show _≤xy from lo))
 have p2:cF (dQ (fH s))<10^xy:=lt_of_lt_of_le (KY _) (pow_le_pow_right (by decide) (show _≤xy from lu))
 cases e:jR s with
 | none=>
  have:jS s=0:=by unfold jS;rw [e]
  rw [this]
  exact bO.zero.le (by decide)
 | some q=>
  obtain ⟨n,d⟩:=q
  obtain ⟨e1,e2⟩:=Ut e
  unfold bO
  rw [e1,e2]
  rw [T5] at e
  unfold qR at e
  split at e
  ·injection e with e
   injection e with h1 h2
   have hs:=(US (m:=decide (s.head?=some 45)) (n:=cF (dF (fH s)))).2
   refine ⟨by rw [←h1];exact Nat.lt_of_le_of_lt (Nat.le_of_eq hs) p1,?_⟩
   rw [←h2]
   unfold pv
   split
   ·exact p2
   ·exact Nat.one_lt_pow (by decide) (by decide)
  ·cases e
section
variable {h : ae} {K : Value → ae → Prop}
theorem C83 {v:Value} {q:Rat} (hq:RV h v q) (sq:bO xy q) (hk:∀h',EX h h'→K (B (ma q)) h'):aj prog 83 [v] h K:=by
 have Bt:=hq
 obtain ⟨a,b,c,d,rfl⟩:=hq.agg
 refine f83 ?_
 have e1:bm 107 h (.agg #[B a,b,B c,d])=some (pt h.length 0,h++[.arr 107 [B a,b,B c,d]]):=rfl
 simp only [NN,e1,aC]
 have x0:EX h (h++[.arr 107 [B a,b,B c,d]]):=EX.append _ _
 have k0:(h++[aq.arr 107 [B a,b,B c,d]])[h.length]?=some (.arr 107 [B a,b,B c,d]):=bn
 generalize h++[aq.arr 107 [B a,b,B c,d]]=g0 at x0 k0⊢
 rw [hO k0,ah]
 refine Ws (Bt.mono x0) ?_
 intro g1 x1
 have hs:decide (lL q.num<0)=decide (q.num<0):=by
  rw [decide_eq_decide]
  unfold lL
  split
  ·omega
  ·split <;> omega
 simp only [cW,ah,hs]
 rw [aB6]
 unfold ma at hk
 by_cases hn:q.num<0
 ·rw [a9 hn] at hk⊢
  simp only [gn]
  rw [alb]
  simp only [eW,ah]
  exact hk g1 (x0.trans x1)
 ·rw [aU hn] at hk⊢
  simp only [eB]
  rw [hO (x1.get k0),ah]
  refine C84 (k:=4) ((Bt.mono x0).mono x1) sq (by decide) (by decide) (by decide) ?_
  intro g2 x2
  simp only [qV,ah]
  rw [alb]
  simp only [dI,ah]
  rw [Bool.false_or] at hk
  exact hk g2 (x0.trans (x1.trans x2))
theorem C82 {v:Value} {qs:List Rat} (hq:QL h v qs) (sq:∀q∈qs,bO xy q) (hn:qs.length≤1000) (hk:∀h',EX h h'→K (B (qs.any ma)) h'):aj prog 82 [v,.func (.func 83) #[] #[]] h K:=by
 refine f82 ?_
 unfold NM
 refine f110 ?_
 unfold MD
 simp only [hq.len,ah]
 refine dL (σ:=Nat×ae) (fun q=>[I q.1]) (fun q=>q.2) (fun q=>q.1≤qs.length∧EX h q.2∧(qs.take q.1).any ma=false) (fun q=>qs.length-q.1) (0,h) rfl rfl ⟨zero_le _,EX.refl _,by simp⟩ ?_
 rintro ⟨i,g⟩ ⟨hi,xg,dG⟩ L hL
 simp only at hi xg dG hL⊢
 rw [azH]
 simp only [cW,ah,bX]
 refine ⟨fun aD=>?_,fun cK=>?_⟩
 ·have bC:i<qs.length:=by omega
  obtain ⟨b,o,r,u1,u2,u3⟩:=(hq.mono xg).get bC
  simp only [u1,u2,ah]
  refine O4 ayS ?_
  simp only [append_nil]
  refine C83 u3 (sq _ (getElem_mem bC)) ?_
  intro g1 x1
  cases hb:ma qs[i] with
  | true=>
   simp only [dX,nS,ah,a9 (show (0:Int)≤(i:Int) by omega)]
   have:qs.any ma=true:=List.any_eq_true.2 ⟨_,getElem_mem bC,hb⟩
   rw [this] at hk
   exact hk g1 (xg.trans x1)
  | false=>
   simp only [dV,cQ,fA i (by omega),ah,true_and]
   refine hL (i+1,g1) ⟨by show i+1≤_;omega,xg.trans x1,?_⟩ (by show qs.length-(i+1)<qs.length-i;omega)
   show (qs.take (i+1)).any ma=false
   rw [take_succ_eq_append_getElem bC,List.any_append,dG]
   simpa using hb
 ·have fY:i=qs.length:=by omega
  subst fY
  rw [take_length] at dG
  rw [dG] at hk
  simp only [nS,ah,show decide ((0:Int)≤ -1)=false from rfl]
  exact hk g xg
end
end
section
def BJ:Value→Bool
 | .int .u32 _=>true
 | .bool _=>true
 | _=>false
theorem KP.sub {p q:Value→Bool} {h h':ae} (IT:∀v,q v=true→p v=true) (x:KP p h h'):KP q h h':=fun d c r h1 h2=>x d c r h1 (IT c h2)
theorem axb (v:Value) (h:tW v=true):BJ v=true:=by
 unfold tW at h
 split at h
 ·rfl
 ·cases h
def QB (h:ae) (v:Value) (qs:List Rat):Prop:=QL h v qs∧(qs=[]∨∃i o n c r,v=sl 107 i o n∧aR h i=some (c::r)∧BJ c=true)
theorem QB.mono {h h':ae} {v:Value} {qs:List Rat} (x:EX h h') (p:QB h v qs):QB h' v qs:=⟨p.1.mono x,p.2.imp id fun ⟨i,o,n,c,r,a,b,d⟩=>⟨i,o,n,c,r,a,x.cells b,d⟩⟩
theorem QB.dY {h h':ae} {v:Value} {qs:List Rat} (x:KP BJ h h') (p:QB h v qs):QB h' v qs:=by
 obtain ⟨⟨rows,a,b,c⟩,q⟩:=p
 rw [zY] at b
 have rat:∀(k:Nat) (row:List Value) (q:Int×Int),rows[k]?=some row→(qS qs)[k]?=some q→gV h' (.agg row.toArray) q.1 q.2:=fun k row q h1 h2=>(c k row q h1 h2).dY (KP.sub axb x)
 refine ⟨⟨rows,⟨a.1,?_⟩,by rw [zY];exact b,rat⟩,q.imp id fun ⟨i,o,n,c,r,e1,e2,e3⟩=>⟨i,o,n,c,r,e1,x i c r e2 e3,e3⟩⟩
 rcases a.2 with h0 | ⟨i,o,e1,e2⟩
 ·exact .inl h0
 ·refine .inr ⟨i,o,e1,?_⟩
  rcases e2 with e2 | ⟨pre,post,e2,e3⟩
  ·exact .inl e2
  ·rcases q with q | ⟨i',o',n',c',r',f1,f2,f3⟩
   ·left
    exact List.length_eq_zero_iff.1 (by rw [b,q];rfl)
   ·right
    rw [e1] at f1
    have hi:i=i':=by
     simp only [sl] at f1
     injection f1 with f1
     injection f1 with f1
     injection f1
    subst hi
    refine ⟨pre,post,?_,e3⟩
    rw [←e2,f2]
    exact x i c' r' f2 f3
theorem nR.qb {b:Nat} {h:ae} {v:Value} {qs:List Rat} (o:nR b h v (qS qs)):QB h v qs:=by
 refine ⟨o.aCv,?_⟩
 obtain ⟨rows,o1,o2,o3,_⟩:=o
 rw [zY] at o2
 cases rows with
 | nil=>left;exact List.length_eq_zero_iff.1 (by rw [←o2];rfl)
 | cons row rows=>
  right
  rcases o1.2 with ⟨_,h0⟩ | ⟨i,_,e1,e2⟩
  ·cases h0
  ·obtain ⟨s,t,e3⟩:=o3 row (by simp)
   refine ⟨i,0,_,.bool s,t++rows.flatten,e1,?_,rfl⟩
   simp [aR,e2,e3]
def LK (h:ae) (v:Value) (cs:List (List Rat×Int)):Prop:=
 ∃rows,RS h 102 3 v rows∧rows.length=cs.length∧∀(k:Nat) (row:List Value) (c:List Rat×Int),rows[k]?=some row→cs[k]?=some c→∃vq,row=[I c.1.length,I c.2,vq]∧QB h vq c.1
theorem LK.mono {h h':ae} {v:Value} {cs:List (List Rat×Int)} (x:EX h h') (p:LK h v cs):LK h' v cs:=
 let ⟨rows,a,b,c⟩:=p;⟨rows,a.mono x,b,fun k row q h1 h2=>let ⟨vq,e,m⟩:=c k row q h1 h2;⟨vq,e,m.mono x⟩⟩
theorem LK.len {h:ae} {v:Value} {cs:List (List Rat×Int)} (p:LK h v cs):bj v=some (I cs.length):=by
 obtain ⟨rows,a,b,_⟩:=p;rw [←b];exact a.len
theorem LK.get {h:ae} {v:Value} {cs:List (List Rat×Int)} (p:LK h v cs) {k:Nat} (hk:k<cs.length):∃i o vq,bc 3 v (I k)=some (pt i o)∧af true 3 h (pt i o)=some (.agg #[I cs[k].1.length,I cs[k].2,vq])∧QB h vq cs[k].1:=by
 obtain ⟨rows,a,b,c⟩:=p
 have ca:k<rows.length:=by omega
 obtain ⟨i,o,cells,g1,g2,g3,g4⟩:=a.get ca
 obtain ⟨vq,e,m⟩:=c k _ _ (getElem?_eq_getElem ca) (getElem?_eq_getElem hk)
 have:=UA g2 g3 g4
 rw [e] at this
 exact ⟨i,o,vq,g1,this,m⟩
def p6 (b:Nat) (h:ae) (v:Value) (cs:List (List Rat×Int)):Prop:=
 ∃rows,j7 b h 102 3 v rows∧rows.length=cs.length∧(∀r∈rows,∃n t,r=I n::t)∧∀(k:Nat) (row:List Value) (c:List Rat×Int),rows[k]?=some row→cs[k]?=some c→∃vq,row=[I c.1.length,I c.2,vq]∧QB h vq c.1
theorem p6.start (b:Nat) (h:ae):p6 b h (.slice none 0 0) []:=⟨[],j7.start ..,rfl,fun r hr=>by simp at hr,fun k r q h=>by simp at h⟩
theorem p6.lk {b:Nat} {h:ae} {v:Value} {cs:List (List Rat×Int)} (o:p6 b h v cs):LK h v cs:=let ⟨rows,a,c,_,d⟩:=o;⟨rows,a.rs,c,d⟩
theorem p6.ex {b:Nat} {h h':ae} {v:Value} {cs:List (List Rat×Int)} (x:EX h h') (o:p6 b h v cs):p6 b h' v cs:=
 let ⟨rows,a,c,e,d⟩:=o;⟨rows,a.ex x,c,e,fun k row q h1 h2=>let ⟨vq,e,m⟩:=d k row q h1 h2;⟨vq,e,m.mono x⟩⟩
theorem au9 {rows:List (List Value)} (h:∀r∈rows,∃n t,r=I n::t):∀c r,rows.flatten=c::r→BJ c=false:=by
 cases rows with
 | nil=>intro c r e;simp at e
 | cons row rows=>
  obtain ⟨n,t,rfl⟩:=h row (by simp)
  intro c r e
  simp at e
  rw [←e.1];rfl
theorem p6.app {h0 h:ae} {v vq:Value} {qs:List Rat} {w:Int} {cs:List (List Rat×Int)} {zs:List Value} {K:Value→ae→Prop} (o:p6 h0.length h v cs) (hex:EX h0 h) (hq:QB h vq qs) (hz:zs.length=3) (hl:cs.length≤10000)
  (hk:∀v' h',EX h0 h'→KP BJ h h'→p6 h0.length h' v' (cs++[(qs,w)])→K v' h'):OH (dH 102 1 zs h [(0,3,.agg #[I qs.length,I w,vq])]) fun y h2=>OH (dT 102 3 40 h2 v y) K:=by
 obtain ⟨rows,o1,o2,o3,o4⟩:=o
 obtain ⟨rq,rs,_,_⟩:=id hq.1
 obtain ⟨t1,t2⟩:=rs.one
 refine o1.app hex hz (row:=[I qs.length,I w,vq]) rfl (by simp [de,Value.cells]) rfl (by omega) (by simp [maxLen];omega) ?_
 intro v' h' x' kU o'
 have kp:KP BJ h h':=o1.kp (au9 o3) kU
 refine hk v' h' x' kp ⟨_,o',by simp [o2],fun r hr=>?_,fun k row q h1 h2=>?_⟩
 ·rcases mem_append.1 hr with hr | hr
  ·exact o3 r hr
  ·rw [mem_singleton.1 hr];exact ⟨_,_,rfl⟩
 ·by_cases hk:k<rows.length
  ·rw [getElem?_append_left hk] at h1
   rw [getElem?_append_left (by omega)] at h2
   obtain ⟨Vo,e,m⟩:=o4 k row q h1 h2
   exact ⟨Vo,e,m.dY kp⟩
  ·rw [getElem?_append_right (by omega)] at h1
   rw [getElem?_append_right (by omega),←o2] at h2
   have h0:k-rows.length=0:=by
    have:=(bK h1).1
    simp at this;omega
   rw [h0] at h1 h2
   simp only [List.getElem?_cons_zero,Option.some.injEq] at h1 h2
   subst h1 h2
   exact ⟨vq,rfl,hq.dY kp⟩
end
section
variable (P : Program) (K : VK)
noncomputable section
variable (l0 x4 fh au aB aA dC ef bV bG cI kP eO fI ko gf fM iC jK nL gS : Value) (L1 : LQ) (xs : List Value) (h : ae)
def agJ:=bz prog 43 [[],[],[],[0,11,12],[4,13],[],[],[],[],[],[],[],[],[0,4],[0,4,38],[4,38,41],[],[],[],[],[4,43,44],[45],[],[],[],[4,10,43,44,45,53],[4,10,43,44,45,53,57],[4,10,43,44,45,59],[4,10,43,44,45,59,63],[4,10,43,44,45,65],[4,10,43,44,45,65,69],[4,10,43,44,45,71],[4,10,43,44,45,71,81],[],[],[],[4,10,43,44,45,86],[4,43,44,45,86,91],[],[],[],[4],[]]
@[irreducible] def GS:=bI agJ
@[irreducible] def arz:=GS.r.r.l.r.l.l
@[irreducible] def ZU:=GS.r.r.r
@[irreducible] def GU:=ZU.l
@[irreducible] def ZS:=GU.l.l.r.l
@[irreducible] def arq:=GU.l.r
@[irreducible] def OG:=GU.r
@[irreducible] def ars:=ZS.r.l
@[irreducible] def C0:=OG.l.r.l.l
@[irreducible] def ZT:=OG.r
@[irreducible] def ZW:=C0.r.r.l.l.r.l.l.r.l
@[irreducible] def aru:=C0.r.r.l.l.r.l.r
@[irreducible] def OI:=C0.r.r.l.l.r.r
@[irreducible] def art:=C0.r.r.r
@[irreducible] def ary:=ZT.l
@[irreducible] def ZX:=ZW.r.l
@[irreducible] def Z3:=OI.l.r.l
@[irreducible] def arw:=OI.r
@[irreducible] def ZY:=ZX.r.l
@[irreducible] def arx:=Z3.r.l
@[irreducible] def ZZ:=ZY.r.l
@[irreducible] def Z0:=ZZ.r.l
@[irreducible] def Z1:=Z0.r.l
@[irreducible] def Z2:=Z1.r.l
@[irreducible] def arv:=Z2.r.l
theorem k43:agJ=some (95,GS,[.tmp 2,.tmp 3]):=by kernel_rfl
def wB (_P:Program) (K:VK):ar:=aS [.tmp 2,.tmp 3] K
def aoi:ar:=aF (ak P ZU (wB P K)) (wB P K)
def aok:ar:=bN 0 (aoi P K)
def aol:ar:=aF (fun f' aT=>(([0,11,12]:List Nat).map f':List Value)=[l0,au,aB]∧L1 (([4,13]:List Nat).map f') aT) (aok P K)
def W5:ar:=aF (ak P OG (wB P K)) (wB P K)
def W6:ar:=aF (ak P arq (W5 P K)) (W5 P K)
def aog:ar:=aF (ak P ZT (wB P K)) (wB P K)
def aoh:ar:=bN 2 (aog P K)
def LZ:ar:=aF (fun f' aT=>(([4,43,44]:List Nat).map f':List Value)=[x4,bV,bG]∧L1 (([45]:List Nat).map f') aT) (aoh P K)
def aoj:ar:=aF (ak P art (LZ P K x4 bV bG L1)) (LZ P K x4 bV bG L1)
def FP:ar:=bN 3 (aoj P K x4 bV bG L1)
def W7:ar:=aF (ak P OI (FP P K x4 bV bG L1)) (FP P K x4 bV bG L1)
def wC:ar:=aF (ak P aru (W7 P K x4 bV bG L1)) (W7 P K x4 bV bG L1)
def W8:ar:=aF (ak P arw (FP P K x4 bV bG L1)) (FP P K x4 bV bG L1)
def aiL:Prop:=ay (ak P arz (aol P K l0 au aB L1)) ([0,11,12]++[4,13]) ([l0,au,aB]++xs) h
def aiG:Prop:=ay (ak P GU (wB P K)) [0,4] [l0,x4] h
def aiH:Prop:=ay (ak P ZS (W6 P K)) [0,4,38] [l0,x4,dC] h
def Tc:Prop:=ay (ak P ars (W6 P K)) [4,38,41] [x4,dC,ef] h
def Td:Prop:=ay (ak P C0 (LZ P K x4 bV bG L1)) ([4,43,44]++[45]) ([x4,bV,bG]++xs) h
def aiI:Prop:=ay (ak P ZW (wC P K x4 bV bG L1)) [4,10,43,44,45,53] [x4,fh,bV,bG,cI,kP] h
def Te:Prop:=ay (ak P ZX (wC P K x4 bV bG L1)) [4,10,43,44,45,53,57] [x4,fh,bV,bG,cI,kP,eO] h
def Tf:Prop:=ay (ak P ZY (wC P K x4 bV bG L1)) [4,10,43,44,45,59] [x4,fh,bV,bG,cI,fI] h
def Tg:Prop:=ay (ak P ZZ (wC P K x4 bV bG L1)) [4,10,43,44,45,59,63] [x4,fh,bV,bG,cI,fI,ko] h
def Th:Prop:=ay (ak P Z0 (wC P K x4 bV bG L1)) [4,10,43,44,45,65] [x4,fh,bV,bG,cI,gf] h
def Ti:Prop:=ay (ak P Z1 (wC P K x4 bV bG L1)) [4,10,43,44,45,65,69] [x4,fh,bV,bG,cI,gf,fM] h
def Tj:Prop:=ay (ak P Z2 (wC P K x4 bV bG L1)) [4,10,43,44,45,71] [x4,fh,bV,bG,cI,iC] h
def JQ:Prop:=ay (ak P arv (wC P K x4 bV bG L1)) [4,10,43,44,45,71,81] [x4,fh,bV,bG,cI,iC,jK] h
def aiJ:Prop:=ay (ak P Z3 (W8 P K x4 bV bG L1)) [4,10,43,44,45,86] [x4,fh,bV,bG,cI,nL] h
def JR:Prop:=ay (ak P arx (W8 P K x4 bV bG L1)) [4,43,44,45,86,91] [x4,bV,bG,cI,nL,gS] h
def aiK:Prop:=ay (ak P ary (wB P K)) [4] [x4] h
theorem aAH (l0 au aB:Value) (L1:LQ) (x4 aA:Value) (h:ae):aiL P K l0 au aB L1 [x4,aA] h=
 (OP (ai .lss aA aB) fun aH=>
 aQ aH
 (OP (bc 2 au aA) fun ba=>
 OP (af true 2 h ba) fun bk=>
 OH (aV 24 [(.slice none 0 0),(.int .i64 (0))] h) fun c6 z1=>
 OH (aE 2 z1 c6 bk) fun _ z2=>
 OP (af true 2 z2 c6) fun aP=>
 aj P 80 [aP] z2 fun aO z3=>
 OP (b9 0 aO) fun aW=>
 OP (b9 1 aO) fun aY=>
 OP (gw .not aY) fun ck=>
 aQ ck
 (K (.tuple #[(.slice none 0 0),(.int .i64 (2))]) z3)
 (OP (bj aW) fun cg=>
 OP (aL 1 c6) fun bW=>
 OP (af false 1 z3 bW) fun cC=>
 OP (dc [(.int .i64 (0)),(.int .i64 (0))] [(0,1,cg),(1,1,cC)]) fun cG=>
 OP (dc [(.int .i64 (0)),(.int .i64 (0)),(.slice none 0 0)] [(0,2,cG),(2,1,aW)]) fun cA=>
 OH (dH 102 1 [(.int .i64 (0)),(.int .i64 (0)),(.slice none 0 0)] z3 [(0,3,cA)]) fun cO z4=>
 OH (dT 102 3 40 z4 x4 cO) fun dB z5=>
 OP (ai .add aA (.int .i64 (1))) fun cP=>
 ([l0,au,aB]:List Value)=[l0,au,aB]∧L1 [dB,cP] z5))
 (aiG P K l0 x4 h)):=az (by kernel_rfl)
theorem akM:Tc P K x4 dC ef h=
 (OP (bP dC (.bool true) ef) fun eL=>
 aQ eL
 (K (.tuple #[(.slice none 0 0),(.int .i64 (1))]) h)
 (OP (bj x4) fun bG=>
 cM [(.int .i64 (0))] h fun L1 xs hx=>
 Td P K x4 x4 bG L1 xs hx)):=az (by kernel_rfl)
theorem aAC:aiH P K l0 x4 dC h=
 (cm dC false
 (OP (bj l0) fun dU=>
 OP (ai .gtr dU (.int .i64 (3))) fun ef=>
 Tc P K x4 dC ef h)
 (Tc P K x4 dC undef h)):=az (by kernel_rfl)
theorem akT:JQ P K x4 fh bV bG cI iC jK L1 h=
 (OP (bP iC (.bool true) jK) fun gI=>
 aQ gI
 (K (.tuple #[(.slice none 0 0),(.int .i64 (1))]) h)
 (OP (aL 2 fh) fun lX=>
 OP (af false 1 h lX) fun gJ=>
 aj P 82 [gJ,(.func (.func 83) #[] #[])] h fun rW z1=>
 aiJ P K x4 fh bV bG cI rW L1 z1)):=az (by kernel_rfl)
theorem akS:Tj P K x4 fh bV bG cI iC L1 h=
 (cm iC false
 (OP (aL 2 fh) fun lW=>
 OP (af false 1 h lW) fun nf=>
 OP (aL 0 fh) fun jI=>
 OP (aL 0 jI) fun jJ=>
 OP (af false 1 h jJ) fun kr=>
 OP (ai .sub kr (.int .i64 (1))) fun iN=>
 OP (bc 4 nf iN) fun fw=>
 OP (af true 4 h fw) fun jW=>
 aj P 81 [jW] h fun qY z1=>
 OP (ai .eql qY (.int .i64 (0))) fun jK=>
 JQ P K x4 fh bV bG cI iC jK L1 z1)
 (JQ P K x4 fh bV bG cI iC undef L1 h)):=az (by kernel_rfl)
theorem akR:Ti P K x4 fh bV bG cI gf fM L1 h=
 (OP (bP gf (.bool true) fM) fun mD=>
 Tj P K x4 fh bV bG cI mD L1 h):=az (by kernel_rfl)
theorem akQ:Th P K x4 fh bV bG cI gf L1 h=
 (cm gf false
 (OP (aL 0 fh) fun kQ=>
 OP (aL 1 kQ) fun gh=>
 OP (af false 1 h gh) fun gj=>
 OP (ai .gtr gj (.int .i64 (50))) fun fM=>
 Ti P K x4 fh bV bG cI gf fM L1 h)
 (Ti P K x4 fh bV bG cI gf undef L1 h)):=az (by kernel_rfl)
theorem akP:Tg P K x4 fh bV bG cI fI ko L1 h=
 (OP (bP fI (.bool true) ko) fun iY=>
 Th P K x4 fh bV bG cI iY L1 h):=az (by kernel_rfl)
theorem akO:Tf P K x4 fh bV bG cI fI L1 h=
 (cm fI false
 (OP (aL 0 fh) fun kn=>
 OP (aL 1 kn) fun fQ=>
 OP (af false 1 h fQ) fun lV=>
 OP (ai .lss lV (.int .i64 (0))) fun ko=>
 Tg P K x4 fh bV bG cI fI ko L1 h)
 (Tg P K x4 fh bV bG cI fI undef L1 h)):=az (by kernel_rfl)
theorem akN:Te P K x4 fh bV bG cI kP eO L1 h=
 (OP (bP kP (.bool true) eO) fun fW=>
 Tf P K x4 fh bV bG cI fW L1 h):=az (by kernel_rfl)
theorem aAE:aiI P K x4 fh bV bG cI kP L1 h=
 (cm kP false
 (OP (aL 0 fh) fun df=>
 OP (aL 0 df) fun gD=>
 OP (af false 1 h gD) fun iM=>
 OP (ai .gtr iM (.int .i64 (8))) fun eO=>
 Te P K x4 fh bV bG cI kP eO L1 h)
 (Te P K x4 fh bV bG cI kP undef L1 h)):=az (by kernel_rfl)
theorem akU:JR P K x4 bV bG cI nL gS L1 h=
 (OP (bP nL (.bool true) gS) fun tq=>
 aQ tq
 (K (.tuple #[(.slice none 0 0),(.int .i64 (1))]) h)
 (OP (ai .add cI (.int .i64 (1))) fun jX=>
 ([x4,bV,bG]:List Value)=[x4,bV,bG]∧L1 [jX] h)):=az (by kernel_rfl)
theorem aAF:aiJ P K x4 fh bV bG cI nL L1 h=
 (cm nL false
 (OP (af true 3 h fh) fun rX=>
 aj P 85 [rX,(.int .i64 (0))] h fun nM z1=>
 aj P 75 [(.int .i64 (1))] z1 fun iZ z2=>
 aj P 86 [nM,iZ] z2 fun oC z3=>
 OP (ai .neq oC (.int .i64 (0))) fun gS=>
 JR P K x4 bV bG cI nL gS L1 z3)
 (JR P K x4 bV bG cI nL undef L1 h)):=az (by kernel_rfl)
theorem aAD (x4 bV bG:Value) (L1:LQ) (cI:Value) (h:ae):Td P K x4 bV bG L1 [cI] h=
 (OP (ai .lss cI bG) fun dm=>
 aQ dm
 (OP (bc 3 bV cI) fun nK=>
 OP (af true 3 h nK) fun fC=>
 OH (aV 102 [(.int .i64 (0)),(.int .i64 (0)),(.slice none 0 0)] h) fun fh z1=>
 OH (aE 3 z1 fh fC) fun _ z2=>
 OP (aL 0 fh) fun gB=>
 OP (aL 0 gB) fun bS=>
 OP (af false 1 z2 bS) fun cD=>
 OP (ai .lss cD (.int .i64 (1))) fun cX=>
 aiI P K x4 fh bV bG cI cX L1 z2)
 (aiK P K x4 h)):=az (by kernel_rfl)
theorem aAG:aiK P K x4 h=
 (K (.tuple #[x4,(.int .i64 (0))]) h):=az (by kernel_rfl)
theorem aAB:aiG P K l0 x4 h=
 (OP (bj l0) fun cT=>
 OP (ai .lss cT (.int .i64 (1))) fun fm=>
 aiH P K l0 x4 fm h):=az (by kernel_rfl)
def Nl:Prop:=
 OP (bj l0) fun aB=>
 cM [(.slice none 0 0),(.int .i64 (0))] h fun L1 xs hx=>
 aiL P K l0 l0 aB L1 xs hx
theorem HT:ak P GS (aS [.tmp 2,.tmp 3] K) (bt [l0]) h=Nl P K l0 h:=by kernel_rfl
theorem f43 {K:VK} {l0:Value} {h:ae} (H:Nl prog K l0 h):aj prog 43 [l0] h K:=
 bJ k43 (bH rfl) ((HT prog K l0 h).mpr H)
end
noncomputable section
variable (j0 x1 j2 x4 x6 x7 x8 x9 d10 au cX iM : Value) (L1 : LQ) (xs : List Value) (h : ae)
def agK:=bz prog 44 [[],[],[],[],[1,2,4,6,8,9],[7,10],[],[],[],[],[],[1,2,4,6,7,8,9,10,11,52],[1,2,4,6,7,8,9,10,11,52,56],[],[1,2,4,6,7,8,9,10],[4,6,7],[]]
@[irreducible] def GV:=bI agK
@[irreducible] def GW:=GV.r.r.r.l.r.l.l
@[irreducible] def Z6:=GV.r.r.r.r
@[irreducible] def Z5:=GW.r.l.l.r.r.r.l.r.l
@[irreducible] def arA:=GW.r.l.l.r.r.r.r
@[irreducible] def Z4:=GW.r.r
@[irreducible] def arD:=Z6.l
@[irreducible] def arB:=Z5.r.l
@[irreducible] def arC:=Z4.l
theorem k44:agK=some (62,GV,[.cell true 4 4,.tmp 5]):=by kernel_rfl
def L0 (_P:Program) (K:VK):ar:=aS [.cell true 4 4,.tmp 5] K
def aon:ar:=aF (ak P Z6 (L0 P K)) (L0 P K)
def aoo:ar:=bN 0 (aon P K)
def FQ:ar:=aF (fun f' aT=>(([1,2,4,6,8,9]:List Nat).map f':List Value)=[x1,j2,x4,x6,x8,x9]∧L1 (([7,10]:List Nat).map f') aT) (aoo P K)
def aom:ar:=aF (ak P Z4 (FQ P K x1 j2 x4 x6 x8 x9 L1)) (FQ P K x1 j2 x4 x6 x8 x9 L1)
def W9:ar:=bN 1 (aom P K x1 j2 x4 x6 x8 x9 L1)
def Xa:ar:=aF (ak P arA (W9 P K x1 j2 x4 x6 x8 x9 L1)) (W9 P K x1 j2 x4 x6 x8 x9 L1)
def Tk:Prop:=ay (ak P GW (FQ P K x1 j2 x4 x6 x8 x9 L1)) ([1,2,4,6,8,9]++[7,10]) ([x1,j2,x4,x6,x8,x9]++xs) h
def aiM:Prop:=ay (ak P Z5 (Xa P K x1 j2 x4 x6 x8 x9 L1)) [1,2,4,6,7,8,9,10,11,52] [x1,j2,x4,x6,x7,x8,x9,d10,au,cX] h
def EN:Prop:=ay (ak P arB (Xa P K x1 j2 x4 x6 x8 x9 L1)) [1,2,4,6,7,8,9,10,11,52,56] [x1,j2,x4,x6,x7,x8,x9,d10,au,cX,iM] h
def JS:Prop:=ay (ak P arC (FQ P K x1 j2 x4 x6 x8 x9 L1)) [1,2,4,6,7,8,9,10] [x1,j2,x4,x6,x7,x8,x9,d10] h
def aiN:Prop:=ay (ak P arD (L0 P K)) [4,6,7] [x4,x6,x7] h
theorem akV:EN P K x1 j2 x4 x6 x7 x8 x9 d10 au cX iM L1 h=
 (OP (bP cX (.bool true) iM) fun eO=>
 aQ eO
 (OP (af true 4 h au) fun fW=>
 OH (aE 4 h x6 fW) fun _ z1=>
 JS P K x1 j2 x4 x6 d10 x8 x9 d10 L1 z1)
 (JS P K x1 j2 x4 x6 x7 x8 x9 d10 L1 h)):=az (by kernel_rfl)
theorem aAI:aiM P K x1 j2 x4 x6 x7 x8 x9 d10 au cX L1 h=
 (cm cX false
 (OP (af true 4 h au) fun kP=>
 OP (af true 4 h x6) fun df=>
 aj P 86 [kP,df] h fun gD z1=>
 OP (ai .gtr gD (.int .i64 (0))) fun iM=>
 EN P K x1 j2 x4 x6 x7 x8 x9 d10 au cX iM L1 z1)
 (EN P K x1 j2 x4 x6 x7 x8 x9 d10 au cX undef L1 h)):=az (by kernel_rfl)
theorem aAJ:JS P K x1 j2 x4 x6 x7 x8 x9 d10 L1 h=
 (OP (ai .add d10 (.int .i64 (1))) fun ck=>
 ([x1,j2,x4,x6,x8,x9]:List Value)=[x1,j2,x4,x6,x8,x9]∧L1 [x7,ck] h):=az (by kernel_rfl)
theorem aAL (x1 j2 x4 x6 x8 x9:Value) (L1:LQ) (x7 d10:Value) (h:ae):Tk P K x1 j2 x4 x6 x8 x9 L1 [x7,d10] h=
 (OP (aL 0 j2) fun bk=>
 OP (aL 0 bk) fun bM=>
 OP (af false 1 h bM) fun aP=>
 OP (ai .sub aP x1) fun aW=>
 OP (ai .leq d10 aW) fun aY=>
 aQ aY
 (OP (af true 4 h x8) fun bu=>
 (True)∧
 OP (aL 2 j2) fun bY=>
 OP (af false 1 h bY) fun cg=>
 (True)∧
 OP (ai .add x1 d10) fun cG=>
 OP (ai .sub cG (.int .i64 (1))) fun dj=>
 OP (bc 4 cg dj) fun cA=>
 OP (af true 4 h cA) fun cO=>
 (True)∧
 aj P 87 [bu,cO] h fun dB z1=>
 (True)∧
 OH (aE 4 z1 x8 dB) fun _ z2=>
 (True)∧
 OP (af true 4 z2 x9) fun cP=>
 (True)∧
 OP (af true 3 z2 j2) fun cZ=>
 (True)∧
 OP (ai .add x1 d10) fun dC=>
 OP (ai .sub dC (.int .i64 (1))) fun eJ=>
 aj P 85 [cZ,eJ] z2 fun dU z3=>
 (af true 4 z3 x9=some cP∧True)∧
 aj P 87 [cP,dU] z3 fun ef z4=>
 (True)∧
 OH (aE 4 z4 x9 ef) fun _ z5=>
 (True)∧
 OH (aV 107 [(.bool false),(.slice none 0 0),(.bool false),(.slice none 0 0)] z5) fun au z6=>
 OP (dZ z6 au) fun u=>
 (True)∧
 OP (aL 0 j2) fun eL=>
 OP (aL 1 eL) fun bV=>
 OP (af false 1 z6 bV) fun bG=>
 (af false 1 z5 bV=some bG∧True)∧
 aj P 75 [bG] z6 fun cI z7=>
 (dZ z7 au=some u∧True)∧
 OP (af true 4 z7 x8) fun dm=>
 (af true 4 z5 x8=some dm∧af true 4 z6 x8=some dm∧True)∧
 aj P 88 [cI,dm] z7 fun nK z8=>
 (dZ z8 au=some u∧True)∧
 OP (af true 4 z8 x9) fun fC=>
 (af true 4 z5 x9=some fC∧af true 4 z6 x9=some fC∧af true 4 z7 x9=some fC∧True)∧
 aj P 77 [nK,fC] z8 fun gB z9=>
 (dZ z9 au=some u∧True)∧
 OH (aE 4 z9 au gB) fun _ jd=>
 (True)∧
 OP (ai .eql x7 (.int .i64 (0))) fun cD=>
 aiM P K x1 j2 x4 x6 x7 x8 x9 d10 au cD L1 jd)
 (aiN P K x4 x6 x7 h)):=az (by kernel_rfl)
theorem aAK:aiN P K x4 x6 x7 h=
 (OP (af true 4 h x6) fun kn=>
 OH (aE 4 h x4 kn) fun _ z1=>
 OP (af true 4 z1 x4) fun r0=>
 K (.tuple #[r0,x7]) z1):=az (by kernel_rfl)
def Nm:Prop:=
 OH (bm 102 h j0) fun j2 z1=>
 OH (aV 107 [(.bool false),(.slice none 0 0),(.bool false),(.slice none 0 0)] z1) fun x4 z2=>
 aj P 75 [(.int .i64 (0))] z2 fun aB z3=>
 OH (aV 107 [(.bool false),(.slice none 0 0),(.bool false),(.slice none 0 0)] z3) fun x6 z4=>
 OH (aE 4 z4 x6 aB) fun _ z5=>
 aj P 75 [(.int .i64 (0))] z5 fun aA z6=>
 aj P 75 [(.int .i64 (0))] z6 fun aH z7=>
 OH (aV 107 [(.bool false),(.slice none 0 0),(.bool false),(.slice none 0 0)] z7) fun x8 z8=>
 OH (aV 107 [(.bool false),(.slice none 0 0),(.bool false),(.slice none 0 0)] z8) fun x9 z9=>
 OH (aE 4 z9 x8 aA) fun _ jd=>
 OH (aE 4 jd x9 aH) fun _ jY=>
 cM [(.int .i64 (0)),(.int .i64 (1))] jY fun L1 xs hx=>
 Tk P K x1 j2 x4 x6 x8 x9 L1 xs hx
theorem e44:ak P GV (aS [.cell true 4 4,.tmp 5] K) (bt [j0,x1]) h=Nm P K j0 x1 h:=by kernel_rfl
theorem f44 {K:VK} {j0 x1:Value} {h:ae} (H:Nm prog K j0 x1 h):aj prog 44 [j0,x1] h K:=
 bJ k44 (bH rfl) ((e44 prog K j0 x1 h).mpr H)
end
end
section
def pZ (h:ae) (v:Value) (cs:List (List (List UInt8)×Int)):Prop:=
 ∃rows,RS h 24 2 v rows∧rows.length=cs.length∧∀(k:Nat) (row:List Value) (c:List (List UInt8)×Int),rows[k]?=some row→cs[k]?=some c→∃vs,row=[vs,I c.2]∧SS h vs c.1
theorem pZ.mono {h h':ae} {v:Value} {cs:List (List (List UInt8)×Int)} (x:EX h h') (p:pZ h v cs):pZ h' v cs:=
 let ⟨rows,a,b,c⟩:=p;⟨rows,a.mono x,b,fun k row q h1 h2=>let ⟨vq,e,m⟩:=c k row q h1 h2;⟨vq,e,m.mono x⟩⟩
theorem pZ.len {h:ae} {v:Value} {cs:List (List (List UInt8)×Int)} (p:pZ h v cs):bj v=some (I cs.length):=by
 obtain ⟨rows,a,b,_⟩:=p;rw [←b];exact a.len
theorem pZ.get {h:ae} {v:Value} {cs:List (List (List UInt8)×Int)} (p:pZ h v cs) {k:Nat} (hk:k<cs.length):∃i o vs,bc 2 v (I k)=some (pt i o)∧af true 2 h (pt i o)=some (.agg #[vs,I cs[k].2])∧SS h vs cs[k].1:=by
 obtain ⟨rows,a,b,c⟩:=p
 have ca:k<rows.length:=by omega
 obtain ⟨i,o,cells,g1,g2,g3,g4⟩:=a.get ca
 obtain ⟨vq,e,m⟩:=c k _ _ (getElem?_eq_getElem ca) (getElem?_eq_getElem hk)
 have:=UA g2 g3 g4
 rw [e] at this
 exact ⟨i,o,vq,g1,this,m⟩
def zE (qs:List Rat):Bool:=decide ((qs.getD (qs.length-1) 0).num=0)
def dN (qs:List Rat) (w:Int):Bool:=(((decide (1≤qs.length)&&decide (qs.length≤8))&&(decide (0≤w)&&decide (w≤50)))&& !zE qs)&&(!qs.any ma&&decide (dW qs=1))
theorem yq {qs:List Rat} (h:qs.any ma=false):∀q∈qs,bO 4 q:=by
 intro q hq
 have:ma q=false:=by
  cases e:ma q with
  | false=>rfl
  | true=>rw [List.any_eq_true.2 ⟨q,hq,e⟩] at h;cases h
 unfold ma Du at this
 rw [Bool.or_eq_false_iff,Bool.not_eq_false',and_eq_true,decide_eq_true_eq,decide_eq_true_eq] at this
 exact this.2
theorem ahx:bO 1 ((1:Int):Rat):=by constructor <;> decide
theorem atx (p q:Rat):decide (mc p q=0)=decide (p=q):=by
 rw [decide_eq_decide]
 unfold mc
 constructor
 ·intro h
  split at h
  ·assumption
  ·split at h <;> omega
 ·intro h;rw [if_pos h]
section
variable {h : ae} {K : Value → ae → Prop}
theorem amI {v0 v:Value} {cs:List (List Rat×Int)} (hv:LK h v cs) (hn:cs.length≤3) (hs:∀c∈cs,(∀q∈c.1,bO xy q)∧c.1.length≤1000)
  (mR:cs.all (fun c=>dN c.1 c.2)=false→∀h',EX h h'→K (.tuple #[.slice none 0 0,I 1]) h')
  (hk:cs.all (fun c=>dN c.1 c.2)=true→∀h',EX h h'→K (.tuple #[v0,I 0]) h'):
  cM [(.int .i64 (0))] h fun L1 xs hx=>Td prog K v0 v (I cs.length) L1 xs hx:=by
 refine dL (σ:=Nat×ae) (fun q=>[I q.1]) (fun q=>q.2) (fun q=>q.1≤cs.length∧EX h q.2∧(cs.take q.1).all (fun c=>dN c.1 c.2)=true) (fun q=>cs.length-q.1) (0,h) rfl rfl ⟨zero_le _,EX.refl _,by simp⟩ ?_
 rintro ⟨i,g⟩ ⟨hi,xg,fJ⟩ L hL
 simp only at hi xg fJ hL⊢
 rw [aAD]
 simp only [cW,ah,bX]
 refine ⟨fun aD=>?_,fun cK=>?_⟩
 rotate_left
 ·have fY:i=cs.length:=by omega
  subst fY
  rw [take_length] at fJ
  rw [aAG]
  exact hk fJ g xg
 have bC:i<cs.length:=by omega
 obtain ⟨b,o,vq,u1,u2,u3⟩:=(hv.mono xg).get bC
 obtain ⟨sq,sl⟩:=hs _ (getElem_mem bC)
 have nok:dN cs[i].1 cs[i].2=false→cs.all (fun c=>dN c.1 c.2)=false:=by
  intro hb
  cases e:cs.all (fun c=>dN c.1 c.2) with
  | false=>rfl
  | true=>rw [List.all_eq_true] at e;rw [e _ (getElem_mem bC)] at hb;cases hb
 have yok:dN cs[i].1 cs[i].2=true→(cs.take (i+1)).all (fun c=>dN c.1 c.2)=true:=by
  intro hb
  rw [take_succ_eq_append_getElem bC,List.all_append,fJ]
  simpa using hb
 generalize cs[i].1=qs at*
 generalize cs[i].2=w at*
 obtain ⟨rq,rs,_,_⟩:=id u3.1
 obtain ⟨t1,t2⟩:=rs.one
 have e7:aV 102 [(.int .i64 (0)),(.int .i64 (0)),(.slice none 0 0)] g=some (pt g.length 0,g++[.arr 102 [I 0,I 0,.slice none 0 0]]):=rfl
 simp only [u1,u2,ah,e7,aC]
 have y1:EX g (g++[.arr 102 [I 0,I 0,.slice none 0 0]]):=EX.append _ _
 have j1:(g++[aq.arr 102 [I 0,I 0,.slice none 0 0]])[g.length]?=some (.arr 102 [I 0,I 0,.slice none 0 0]):=bn
 generalize g++[aq.arr 102 [I 0,I 0,.slice none 0 0]]=ga at y1 j1⊢
 have st:aE 3 ga (pt g.length 0) (.agg #[I qs.length,I w,vq])=some (undef,ga.set g.length (.arr 102 [I qs.length,I w,vq])):=by
  simp [aE,vK,j1,iA,de,Value.cells,setAt]
 simp only [st,aC]
 have y2:EX g (ga.set g.length (.arr 102 [I qs.length,I w,vq])):=y1.set (le_refl _) _
 have j2:(ga.set g.length (.arr 102 [I qs.length,I w,vq]))[g.length]?=some (.arr 102 [I qs.length,I w,vq]):=cj j1
 generalize ga.set g.length (.arr 102 [I qs.length,I w,vq])=gb at y2 j2⊢
 have xb:=xg.trans y2
 have l0:∀{g':ae},EX gb g'→af false 1 g' (pt g.length 0)=some (I qs.length):=fun x=>by simp [af,aR,x.get j2,cf]
 have l1:∀{g':ae},EX gb g'→af false 1 g' (pt g.length 1)=some (I w):=fun x=>by simp [af,aR,x.get j2,cf]
 have l2:∀{g':ae},EX gb g'→af false 1 g' (pt g.length 2)=some vq:=fun x=>by simp [af,aR,x.get j2,cf]
 have la:∀{g':ae},EX gb g'→af true 3 g' (pt g.length 0)=some (.agg #[I qs.length,I w,vq]):=fun x=>by simp [af,aR,x.get j2,cf]
 have qv:∀{g':ae},EX gb g'→QL g' vq qs:=fun x=>u3.1.mono (y2.trans x)
 -- it dE not be
 have bad:∀{g':ae},EX gb g'→dN qs w=false→K (.tuple #[.slice none 0 0,.int .i64 (1)]) g':=fun x hb=>mR (nok hb) _ (xb.trans x)
 have Yn:∀{g':ae} (t u:Value),EX gb g'→dN qs w=false→bP t (.bool true) u=some (B true)→JR prog K v0 v (I cs.length) (I i) t u L g':=by
  intro g' t u x hb ht
  rw [akU,ht]
  simp only [ah,dX]
  exact bad x hb
 have Ym:∀{g':ae} (t u:Value),EX gb g'→dN qs w=false→bP t (.bool true) u=some (B true)→JQ prog K v0 (pt g.length 0) v (I cs.length) (I i) t u L g':=by
  intro g' t u x hb ht
  rw [akT,ht]
  simp only [ah,dX]
  exact bad x hb
 have Yl:∀{g':ae},EX gb g'→dN qs w=false→Tj prog K v0 (pt g.length 0) v (I cs.length) (I i) (B true) L g':=by
  intro g' x hb
  rw [akS]
  simp only [gn]
  exact Ym _ _ x hb rfl
 have Yk:∀{g':ae},EX gb g'→dN qs w=false→Th prog K v0 (pt g.length 0) v (I cs.length) (I i) (B true) L g':=by
  intro g' x hb
  rw [akQ]
  simp only [gn]
  rw [akR]
  simp only [eW,ah]
  exact Yl x hb
 have Yj:∀{g':ae},EX gb g'→dN qs w=false→Tf prog K v0 (pt g.length 0) v (I cs.length) (I i) (B true) L g':=by
  intro g' x hb
  rw [akO]
  simp only [gn]
  rw [akP]
  simp only [eW,ah]
  exact Yk x hb
 simp only [cn,add_zero,ah,l0 (EX.refl gb),cW]
 rw [aAE]
 by_cases h1:1≤qs.length
 rotate_left
 ·have hb:dN qs w=false:=by unfold dN;rw [aU h1];rfl
  rw [a9 (show (qs.length:Int)<1 by omega)]
  simp only [gn]
  rw [akN]
  simp only [eW,ah]
  exact Yj (EX.refl gb) hb
 rw [aU (show ¬(qs.length:Int)<1 by omega)]
 simp only [eB,cn,add_zero,ah,l0 (EX.refl gb),fN]
 rw [akN]
 simp only [dI,ah]
 by_cases h8:qs.length≤8
 rotate_left
 ·have hb:dN qs w=false:=by unfold dN;rw [aU h8];simp
  rw [a9 (show (8:Int)<(qs.length:Int) by omega)]
  exact Yj (EX.refl gb) hb
 rw [aU (show ¬(8:Int)<(qs.length:Int) by omega),akO]
 simp only [eB,cn,add_zero,zero_add,ah,l1 (EX.refl gb),cW]
 rw [akP]
 simp only [dI,ah]
 by_cases w0:0≤w
 rotate_left
 ·have hb:dN qs w=false:=by unfold dN;rw [aU w0];simp
  rw [a9 (show w<0 by omega)]
  exact Yk (EX.refl gb) hb
 rw [aU (show ¬w<0 by omega),akQ]
 simp only [eB,cn,add_zero,zero_add,ah,l1 (EX.refl gb),fN]
 rw [akR]
 simp only [dI,ah]
 by_cases kN:w≤50
 rotate_left
 ·have hb:dN qs w=false:=by unfold dN;rw [aU kN];simp
  rw [a9 (show 50<w by omega)]
  exact Yl (EX.refl gb) hb
 rw [aU (show ¬50<w by omega),akS]
 have w1:IntKind.wrap .i64 ((qs.length:Int)-1)=((qs.length-1:Nat):Int):=by rw [wrap64 (by omega) (by omega)];omega
 obtain ⟨b5,o5,r5,s1,s2,s3⟩:=(qv (EX.refl gb)).get (k:=qs.length-1) (by omega)
 simp only [eB,cn,add_zero,zero_add,ah,l2 (EX.refl gb),l0 (EX.refl gb),gq,w1,s1,s2]
 refine Ws s3 ?_
 intro g1 x1
 have hz:decide (lL (qs[qs.length-1]'(by omega)).num=0)=zE qs:=by
  unfold zE
  rw [List.getD_eq_getElem?_getD,getElem?_eq_getElem (by omega),getD_some,decide_eq_decide]
  unfold lL
  split
  ·simp [*]
  ·split <;> simp [*]
 simp only [jA,ah,hz]
 cases hlz:zE qs with
 | true=>
  have hb:dN qs w=false:=by unfold dN;rw [hlz];simp
  exact Ym _ _ x1 hb rfl
 | false=>
 rw [akT]
 simp only [dI,ah,dV,cn,zero_add,l2 x1]
 refine C82 (qv x1) sq sl ?_
 intro g2 x2
 have aB:=x1.trans x2
 rw [aAF]
 cases gX:qs.any ma with
 | true=>
  have hb:dN qs w=false:=by unfold dN;rw [gX];simp
  simp only [gn]
  exact Yn _ _ aB hb rfl
 | false=>
 simp only [eB,la aB,ah]
 have s4:=yq gX
 refine Ls (age:=0) (qv aB) (zero_le _) s4 (by omega) ?_
 intro r3 g3 x3 Bw
 rw [List.drop_zero] at Bw
 have ssz:=Cg s4 qs.length (le_refl _)
 rw [take_length] at ssz
 refine tw (n:=1) (by decide) (by decide) ?_
 intro r4 g4 x4 vE
 refine FA (Bw.mono x4) vE ssz ahx (by omega) ?_
 intro g5 x5
 have ba:=aB.trans (x3.trans (x4.trans x5))
 have hc:(!decide (mc (dW qs) ((1:Int):Rat)=0))= !decide (dW qs=1):=by rw [atx];rfl
 simp only [rf,ah,hc]
 have aG:dN qs w=decide (dW qs=1):=by
  unfold dN
  rw [a9 h1,a9 h8,a9 w0,a9 kN,hlz,gX];simp
 by_cases iU:dW qs=1
 ·rw [a9 iU] at aG⊢
  rw [akU]
  simp only [Bool.not_true,dI,ah,dV,cQ,fA i (by omega),true_and]
  exact hL (i+1,g5) ⟨by show i+1≤_;omega,xb.trans ba,yok aG⟩ (by show cs.length-(i+1)<cs.length-i;omega)
 ·rw [aU iU] at aG⊢
  exact Yn _ _ ba aG rfl
end
end
section
def eG (cs:List (List (List UInt8)×Int)):List (List Rat×Int):=cs.map fun c=>(c.1.map jS,c.2)
def rp (cs:List (List (List UInt8)×Int)):Bool:=cs.all fun c=>c.1.all mW
def tC (cs:List (List (List UInt8)×Int)):Bool:=(decide (1≤cs.length)&&decide (cs.length≤3))&&(eG cs).all fun c=>dN c.1 c.2
section
variable {h : ae} {K : Value → ae → Prop}
theorem Wf {v:Value} {cs:List (List (List UInt8)×Int)} (hv:pZ h v cs) (hl:∀c∈cs,c.1.length≤1000∧∀s∈c.1,s.length≤700) (hn:cs.length≤1000)
  (sI:rp cs=false→∀h',EX h h'→K (.tuple #[.slice none 0 0,I 2]) h')
  (mR:rp cs=true→tC cs=false→∀h',EX h h'→K (.tuple #[.slice none 0 0,I 1]) h')
  (hk:rp cs=true→tC cs=true→∀v' h',EX h h'→LK h' v' (eG cs)→K (.tuple #[v',I 0]) h'):aj prog 43 [v] h K:=by
 refine f43 ?_
 unfold Nl
 have hlen:=hv.len
 simp only [hlen,ah]
 refine dL (σ:=Nat×Value×ae) (fun q=>[q.2.1,I q.1]) (fun q=>q.2.2) (fun q=>q.1≤cs.length∧EX h q.2.2∧rp (cs.take q.1)=true∧p6 h.length q.2.2 q.2.1 (eG (cs.take q.1))) (fun q=>cs.length-q.1)
  (0,.slice none 0 0,h) rfl rfl ⟨zero_le _,EX.refl _,by simp [rp],by simpa [eG] using p6.start h.length h⟩ ?_
 rintro ⟨i,vo,g⟩ ⟨hi,xg,Bn,own⟩ L hL
 simp only at hi xg Bn own hL⊢
 rw [aAH]
 simp only [cW,ah,bX]
 refine ⟨fun aD=>?_,fun cK=>?_⟩
 ·have bC:i<cs.length:=by omega
  obtain ⟨b,o,vs,u1,u2,u3⟩:=(hv.mono xg).get bC
  obtain ⟨l1,l2⟩:=hl _ (getElem_mem bC)
  have e7:aV 24 [(.slice none 0 0),(.int .i64 (0))] g=some (pt g.length 0,g++[.arr 24 [.slice none 0 0,I 0]]):=rfl
  simp only [u1,u2,ah,e7,aC]
  have y1:EX g (g++[.arr 24 [.slice none 0 0,I 0]]):=EX.append _ _
  have j1:(g++[aq.arr 24 [.slice none 0 0,I 0]])[g.length]?=some (.arr 24 [.slice none 0 0,I 0]):=bn
  generalize g++[aq.arr 24 [.slice none 0 0,I 0]]=ga at y1 j1⊢
  rw [fk j1]
  simp only [aC]
  have y2:EX g (ga.set g.length (.arr 24 [vs,I cs[i].2])):=y1.set (le_refl _) _
  have j2:(ga.set g.length (.arr 24 [vs,I cs[i].2]))[g.length]?=some (.arr 24 [vs,I cs[i].2]):=cj j1
  generalize ga.set g.length (.arr 24 [vs,I cs[i].2])=gb at y2 j2⊢
  rw [cL j2,ah]
  refine C80 (u3.mono y2) l2 l1 (fun fJ vq g1 bq x1 ho=>?_) (fun dG g1 x1=>?_)
  ·have hq:=ho.qb
   have hlq:=hq.1.len
   obtain ⟨rq,rs,_,_⟩:=id hq.1
   have qK:af false 1 g1 (pt g.length 1)=some (I cs[i].2):=by simp [af,aR,x1.get j2,cf]
   have bl:∀a c:Int,dc [(.int .i64 (0)),(.int .i64 (0))] [(0,1,I a),(1,1,I c)]=some (.agg #[I a,I c]):=fun _ _=>rfl
   have bl2:∀a c:Int,dc [(.int .i64 (0)),(.int .i64 (0)),(.slice none 0 0)] [(0,2,.agg #[I a,I c]),(2,1,vq)]=some (.agg #[I a,I c,vq]):=fun a c=>by
    rcases rs.2 with ⟨e,_⟩ | ⟨i,o,e,_⟩ <;> rw [e] <;> rfl
   simp only [eQ,ft,fv,ah,qV,Bool.not_true,dV,hlq,cn,zero_add,qK,bl,bl2]
   have x2:=y2.trans x1
   refine (own.ex x2).app (xg.trans x2) hq rfl (by unfold eG;rw [length_map,length_take];omega) ?_
   intro v' g3 x3 _ rP
   simp only [cQ,ah,fA i (by omega),true_and]
   refine hL (i+1,v',g3) ⟨by show i+1≤_;omega,x3,?_,?_⟩ (by show cs.length-(i+1)<cs.length-i;omega)
   ·show rp (cs.take (i+1))=true
    unfold rp at Bn⊢
    rw [take_succ_eq_append_getElem bC,List.all_append,Bn]
    simpa using fJ
   ·show p6 h.length g3 v' (eG (cs.take (i+1)))
    rw [take_succ_eq_append_getElem bC]
    have e:eG (cs.take i++[cs[i]])=eG (cs.take i)++[(cs[i].1.map jS,cs[i].2)]:=by unfold eG;rw [List.map_append];rfl
    rw [e]
    exact rP
  ·simp only [eQ,ft,fv,ah,qV,Bool.not_false,dX]
   refine sI ?_ _ (xg.trans (y2.trans x1))
   cases he:rp cs with
   | false=>rfl
   | true=>
    unfold rp at he
    rw [List.all_eq_true] at he
    rw [he _ (getElem_mem bC)] at dG
    cases dG
 ·have fY:i=cs.length:=by omega
  subst fY
  rw [take_length] at Bn own
  have mR:=mR Bn
  have hk:=hk Bn
  have lk:=own.lk
  have jl:(eG cs).length=cs.length:=by simp [eG]
  have llk:=lk.len
  rw [jl] at llk
  unfold tC at mR hk
  rw [aAB]
  simp only [hlen,ah,cW]
  rw [aAC]
  by_cases h1:1≤cs.length
  rotate_left
  ·rw [aU h1] at mR
   rw [a9 (show (cs.length:Int)<1 by omega)]
   simp only [gn]
   rw [akM]
   simp only [eW,ah,dX]
   exact mR rfl g xg
  rw [a9 h1] at mR hk
  rw [aU (show ¬(cs.length:Int)<1 by omega)]
  simp only [eB,hlen,ah,fN]
  rw [akM]
  simp only [dI,ah]
  by_cases h3:cs.length≤3
  rotate_left
  ·rw [aU h3] at mR
   rw [a9 (show (3:Int)<(cs.length:Int) by omega)]
   simp only [dX]
   exact mR rfl g xg
  rw [a9 h3] at mR hk
  rw [aU (show ¬(3:Int)<(cs.length:Int) by omega)]
  simp only [dV,llk,ah]
  rw [←jl]
  refine amI lk (by omega) (fun c hc=>?_) (fun ha h' x=>mR (by rw [ha];rfl) h' (xg.trans x)) (fun ha h' x=>hk (by rw [ha];rfl) vo h' (xg.trans x) (lk.mono x))
  obtain ⟨d,hd,rfl⟩:=mem_map.1 hc
  obtain ⟨l1,l2⟩:=hl d hd
  refine ⟨fun q hq=>?_,by simpa using l1⟩
  obtain ⟨s,hs,rfl⟩:=mem_map.1 hq
  exact aCw (l2 s hs)
end
end
section
def Cell (g:ae) (i:Nat) (q:Rat):Prop:=∃a b c d,g[i]?=some (.arr 107 [B a,b,B c,d])∧RV g (.agg #[B a,b,B c,d]) q
theorem Cell.mono {g g':ae} {i:Nat} {q:Rat} (x:EX g g') (p:Cell g i q):Cell g' i q:=let ⟨a,b,c,d,e,r⟩:=p;⟨a,b,c,d,x.get e,r.mono x⟩
theorem Cell.lt {g:ae} {i:Nat} {q:Rat} (p:Cell g i q):i<g.length:=let ⟨_,_,_,_,e,_⟩:=p;(bK e).1
theorem Cell.load {g:ae} {i:Nat} {q:Rat} (p:Cell g i q):∃v,af true 4 g (pt i 0)=some v∧RV g v q:=let ⟨_,_,_,_,e,r⟩:=p;⟨_,hO e,r⟩
structure xV (g g':ae) (i:Nat) (q:Rat):Prop where
 cell:Cell g' i q
 len:g'.length=g.length
 old:∀j,j≠i→g'[j]?=g[j]?
 val:∀{v:Value} {p:Rat},RV g v p→RV g' v p
theorem O7 {g:ae} {i:Nat} {v:Value} {q:Rat} {s:Bool} {b c d:Value} (hg:g[i]?=some (.arr 107 [.bool s,b,c,d])) (hv:RV g v q):∃g',aE 4 g (pt i 0) v=some (undef,g')∧xV g g' i q:=by
 obtain ⟨a',b',c',d',rfl⟩:=hv.agg
 refine ⟨_,nH hg,⟨⟨a',b',c',d',cj hg,hv.bL hg _⟩,by simp,fun j hj=>getElem?_set_ne (fun h=>hj h.symm),fun h=>h.bL hg _⟩⟩
theorem xV.ex {h0 g g':ae} {i:Nat} {q:Rat} (s:xV g g' i q) (x:EX h0 g) (hi:h0.length≤i):EX h0 g':=
 ⟨by rw [s.len];exact x.1,fun j hj=>by rw [s.old j (by omega)];exact x.2 j hj⟩
theorem xV.dY {g g':ae} {i j:Nat} {q p:Rat} (s:xV g g' i q) (hj:j≠i) (c:Cell g j p):Cell g' j p:=
 let ⟨a,b,e,d,k,r⟩:=c;⟨a,b,e,d,by rw [s.old j hj];exact k,s.val r⟩
structure Mq where
 bf:Rat
 iW:Nat
 done:Rat
 lh:Rat
def cw (qs:List Rat) (w:Int) (age:Nat):Nat→Mq
 | 0=>⟨0,0,0,0⟩
 | d+1=>
  let s:=cw qs w age d
  let done:=s.done+qs.getD (age+d) 0
  let lh:=s.lh+dW (qs.drop (age+d))
  let x:=(w:Rat)*done / lh
  if s.iW=0∨s.bf<x then ⟨x,d+1,done,lh⟩ else ⟨s.bf,s.iW,done,lh⟩
theorem uu (qs:List Rat) (w:Int) (age d:Nat):(cw qs w age (d+1)).done=(cw qs w age d).done+qs.getD (age+d) 0∧(cw qs w age (d+1)).lh=(cw qs w age d).lh+dW (qs.drop (age+d)):=by
 simp only [cw]
 split <;> exact ⟨rfl,rfl⟩
theorem ED {q:Rat}:0<q↔0<q.num:=by
 rw [Rat.lt_iff]
 simp
theorem EC {q:Rat}:0≤q↔0≤q.num:=by
 rw [Rat.le_iff]
 simp
theorem U9 {l:List Rat} (h:∀q∈l,0≤q):∀i,i≤l.length→0≤dW (l.take i)
 | 0,_=>by rw [List.take_zero];exact Rat.le_refl
 | i+1,hi=>by
  rw [KT (by omega)]
  exact Rat.add_nonneg (U9 h i (by omega)) (h _ (getElem_mem _))
theorem np {qs:List Rat} {w:Int} (h:dN qs w=true):(1≤qs.length∧qs.length≤8)∧(0≤w∧w≤50)∧qs.any ma=false∧dW qs=1∧(∀q∈qs,0≤q)∧∀h0:0<qs.length,0<qs[qs.length-1]:=by
 unfold dN at h
 simp only [and_eq_true,decide_eq_true_eq,Bool.not_eq_true'] at h
 obtain ⟨⟨⟨a,b⟩,c⟩,d,e⟩:=h
 have nn:∀q∈qs,0≤q:=by
  intro q hq
  have:ma q=false:=by
   cases e:ma q with
   | false=>rfl
   | true=>rw [List.any_eq_true.2 ⟨q,hq,e⟩] at d;cases d
  unfold ma at this
  rw [Bool.or_eq_false_iff,decide_eq_false_iff_not] at this
  rw [EC];omega
 refine ⟨a,b,d,e,nn,fun h0=>?_⟩
 have h1:=nn _ (getElem_mem (l:=qs) (n:=qs.length-1) (by omega))
 rw [EC] at h1
 rw [ED]
 unfold zE at c
 rw [List.getD_eq_getElem?_getD,getElem?_eq_getElem (by omega),getD_some,decide_eq_false_iff_not] at c
 omega
theorem HP {qs:List Rat} {w:Int} (h:dN qs w=true) {k:Nat} (hk:k<qs.length):0<dW (qs.drop k):=by
 obtain ⟨_,_,_,_,nn,last⟩:=np h
 have hl:=last (by omega)
 have hn:∀q∈qs.drop k,0≤q:=fun q hq=>nn q (mem_of_mem_drop hq)
 have e:(qs.drop k).take ((qs.drop k).length-1+1)=qs.drop k:=List.take_of_length_le (by omega)
 have oP:(qs.drop k).length=qs.length-k:=length_drop
 have h1:=U9 hn ((qs.drop k).length-1) (by omega)
 rw [←e,KT (by omega)]
 have e2:(qs.drop k)[(qs.drop k).length-1]'(by omega)=qs[qs.length-1]'(by omega):=by
  rw [List.getElem_drop]
  congr 1
  omega
 rw [e2]
 generalize dW ((qs.drop k).take ((qs.drop k).length-1))=a at*
 generalize qs[qs.length-1]'(by omega)=b at*
 grind
theorem Fm {qs:List Rat} {w:Int} (h:dN qs w=true) {age:Nat}:∀{d:Nat},age+d≤qs.length→0≤(cw qs w age d).lh∧(0<d→0<(cw qs w age d).lh)
 | 0,_=>⟨Rat.le_refl,fun h=>absurd h (by decide)⟩
 | d+1,hd=>by
  have ih:=(Fm (age:=age) (d:=d) h (by omega)).1
  have hp:=HP h (k:=age+d) (by omega)
  rw [(uu qs w age d).2]
  generalize (cw qs w age d).lh=a at*
  generalize dW (qs.drop (age+d))=b at*
  refine ⟨by grind,fun _=>by grind⟩
theorem KJ {qs:List Rat} {w:Int} (h:dN qs w=true) {age:Nat}:∀{d:Nat},age+d≤qs.length→bO (5*d+1) (cw qs w age d).done∧bO (42*d+1) (cw qs w age d).lh
 | 0,_=>⟨bO.zero,bO.zero⟩
 | d+1,hd=>by
  obtain ⟨i1,i2⟩:=KJ (age:=age) (d:=d) h (by omega)
  obtain ⟨⟨_,l8⟩,_,hb,_⟩:=np h
  have s4:=yq hb
  obtain ⟨e1,e2⟩:=uu qs w age d
  have hs:=Cg (qs:=qs.drop (age+d)) (fun q hq=>s4 q (mem_of_mem_drop hq)) _ (le_refl _)
  rw [take_length,length_drop] at hs
  have hg:bO 4 (qs.getD (age+d) 0):=by
   rw [List.getD_eq_getElem?_getD,getElem?_eq_getElem (by omega),getD_some]
   exact s4 _ (getElem_mem _)
  rw [e1,e2]
  have j1:=i1.add hg
  have j2:=i2.add hs
  exact ⟨bO.le j1 (show 5*d+1+4+1≤5*(d+1)+1 by omega),bO.le j2 (show 42*d+1+(5*(qs.length-(age+d))+1)+1≤42*(d+1)+1 by omega)⟩
theorem Cm {w:Int} (h0:0≤w) (h1:w≤50):bO 2 (w:Rat):=by
 refine ⟨?_,by show (1:Nat)<10^2;decide⟩
 show w.natAbs<10^2
 omega
def jz (qs:List Rat) (w:Int) (age d:Nat):Rat:=(w:Rat)*(cw qs w age (d+1)).done / (cw qs w age (d+1)).lh
theorem al0 {qs:List Rat} {w:Int} (h:dN qs w=true) {age d:Nat} (hd:age+(d+1)≤qs.length):bO 380 (jz qs w age d):=by
 obtain ⟨⟨_,l8⟩,⟨w0,kN⟩,_⟩:=np h
 obtain ⟨i1,i2⟩:=KJ (age:=age) (d:=d+1) h hd
 have hp:=(Fm (age:=age) (d:=d+1) h hd).2 (by omega)
 rw [ED] at hp
 have j1:=((Cm w0 kN).mul i1).div i2 hp
 exact bO.le j1 (show 2+(5*(d+1)+1)+(42*(d+1)+1)≤380 by omega)
theorem UZ {qs:List Rat} {w:Int} (h:dN qs w=true) {age:Nat}:∀{d:Nat},age+d≤qs.length→bO 380 (cw qs w age d).bf
 | 0,_=>bO.zero.le (by decide)
 | d+1,hd=>by
  have ih:=UZ (age:=age) (d:=d) h (by omega)
  have ht:=al0 (age:=age) (d:=d) h hd
  have e:(cw qs w age (d+1)).bf=jz qs w age d∨(cw qs w age (d+1)).bf=(cw qs w age d).bf:=by
   unfold jz
   rw [(uu qs w age d).1,(uu qs w age d).2]
   simp only [cw]
   split
   ·exact .inl rfl
   ·exact .inr rfl
  rcases e with e | e <;> rw [e] <;> assumption
end
section
def QU (h:ae) (v:Value) (q:Rat) (k:Nat):Prop:=∃a b:Int,QZ h v a b∧0<b∧(a:Rat)=q*(b:Rat)∧a.natAbs<10^k∧b.natAbs<10^k
def QV (h:ae) (v:Value) (q:Rat):Prop:=QZ h v q.num (q.den:Int)
theorem QU.mono {h h':ae} {v:Value} {q:Rat} {k:Nat} (x:EX h h') (p:QU h v q k):QU h' v q k:=let ⟨a,b,e,r⟩:=p;⟨a,b,e.mono x,r⟩
theorem QV.mono {h h':ae} {v:Value} {q:Rat} (x:EX h h') (p:QV h v q):QV h' v q:=QZ.mono x p
theorem QV.bL {h:ae} {v:Value} {q:Rat} {j:Nat} {e:TypeId} {s:Bool} {r:List Value} (p:QV h v q) (hj:h[j]?=some (.arr e (.bool s::r))) (o:aq):QV (h.set j o) v q:=QZ.bL p hj o
theorem ayM (q:Rat):(q.num:Rat)=q*(q.den:Rat):=by
 have h1:(q.den:Rat)≠0:=by
  intro h
  have:=q.den_pos
  have h2:(q.den:Rat)=((0:Nat):Rat):=by simpa using h
  have:=Rat.natCast_inj.1 h2
  omega
 have h2:=Rat.mkRat_self q
 rw [Rat.mkRat_eq_div,Rat.div_def] at h2
 have h3:q*(q.den:Rat)=(q.num:Rat)*((q.den:Rat)⁻¹*(q.den:Rat)):=by
  rw [←Rat.mul_assoc,h2]
 rw [h3,Rat.inv_mul_cancel _ h1,Rat.mul_one]
theorem QV.un {h:ae} {v:Value} {q:Rat} {k:Nat} (p:QV h v q) (s:bO k q):QU h v q k:=
 ⟨q.num,q.den,p,by have:=q.den_pos;omega,ayM q,s.1,by rw [natAbs_natCast];exact s.2⟩
theorem ato {b:Int} (hb:0<b):(b:Rat)≠0:=by
 intro h
 have:b=0:=by exact_mod_cast h
 omega
theorem QU.mk {a b:Int} {q:Rat} (hb:0<b) (h:(a:Rat)=q*(b:Rat)):mkRat a b.toNat=q:=by
 rw [Rat.mkRat_eq_div]
 have kB:=ato hb
 obtain ⟨n,rfl⟩:∃n:Nat,b=(n:Int):=⟨b.toNat,by omega⟩
 have e:(((n:Int).toNat:Nat):Rat)=((n:Int):Rat):=by rw [Int.toNat_natCast];rfl
 rw [e,h,Rat.div_def,Rat.mul_assoc,Rat.mul_inv_cancel _ kB,Rat.mul_one]
theorem yk {i j:Nat} {a b:Int} (ha:a.natAbs<10^i) (hb:b.natAbs<10^j):(a*b).natAbs<10^(i+j):=by
 rw [Int.natAbs_mul];exact Ez ha hb
def RO:Nat:=796
theorem azi {k n:Nat} (h:k=4*n):(10:Nat)^k≤10000^n:=by
 subst h
 exact Nat.le_of_eq (Nat.pow_mul 10 4 n)
theorem azh:(10:Nat)^RO≤10000^199:=azi (k:=RO) (n:=199) rfl
theorem Ke {k n:Nat} (hk:k≤796) (h:n<10^k):n<10000^199:=lt_of_lt_of_le h (Nat.le_trans (pow_le_pow_right (by decide) (show k≤RO from hk)) azh)
section
variable {va vb : Value} {p q : Rat} {i j : Nat} {h : ae} {K : Value → ae → Prop}
theorem Wc (ha:QU h va p i) (hb:QU h vb q j) (eC:i+j≤899) (hk:∀r h',EX h h'→QU h' r (p+q) (i+j+1)→K r h'):aj prog 26 [va,vb] h K:=by
 obtain ⟨a,b,qa,b0,ea,la,lb⟩:=ha
 obtain ⟨c,d,qc,d0,ec,lc,ld⟩:=hb
 have gL:∀{k n:Nat},k≤899→n<10^k→n<br:=fun hk hn=>lt_of_lt_of_le hn (rR (by omega))
 have h1:=yk la ld
 have h2:=yk lc lb
 have h3:=yk lb ld
 rw [Nat.add_comm j i] at h2
 refine C26 qa qc (gL (by omega) la) (gL (by omega) lb) (gL (by omega) lc) (gL (by omega) ld) (gL eC h1) (gL eC h2) ?_
 intro r h' x hr
 refine hk r h' x ⟨_,_,hr,Int.mul_pos b0 d0,?_,?_,?_⟩
 ·simp only [Rat.intCast_add,Rat.intCast_mul,ea,ec];grind
 ·rw [pow_succ];generalize 10^(i+j)=Z at*;omega
 ·rw [pow_succ];generalize 10^(i+j)=Z at*;omega
theorem Wd (ha:QU h va p i) (hb:QU h vb q j) (eC:i+j≤899) (hk:∀r h',EX h h'→QU h' r (p*q) (i+j)→K r h'):aj prog 27 [va,vb] h K:=by
 obtain ⟨a,b,qa,b0,ea,la,lb⟩:=ha
 obtain ⟨c,d,qc,d0,ec,lc,ld⟩:=hb
 have gL:∀{k n:Nat},k≤899→n<10^k→n<br:=fun hk hn=>lt_of_lt_of_le hn (rR (by omega))
 refine C27 qa qc (gL (by omega) la) (gL (by omega) lb) (gL (by omega) lc) (gL (by omega) ld) ?_
 intro r h' x hr
 refine hk r h' x ⟨_,_,hr,Int.mul_pos b0 d0,?_,yk la lc,yk lb ld⟩
 simp only [Rat.intCast_mul,ea,ec];grind
theorem Wb (ha:QU h va p i) (hi:i≤796) (hk:∀r h',EX h h'→QV h' r p→K r h'):aj prog 25 [va] h K:=by
 obtain ⟨a,b,qa,b0,ea,la,lb⟩:=ha
 refine Lm qa b0 (Ke hi la) (Ke hi lb) ?_
 intro r h' x hr
 refine hk r h' x ?_
 have e:=QU.mk b0 ea
 obtain ⟨e1,e2⟩:=zP (N:=a) (D:=b.toNat) (by omega)
 have eb:b.natAbs=b.toNat:=by omega
 unfold QV
 rw [←e,e1,e2,Int.natCast_ediv,Int.toNat_of_nonneg (by omega),←eb]
 exact hr
theorem axc {a b c d:Int} (b0:0<b) (d0:0<d) (ea:(a:Rat)=p*(b:Rat)) (ec:(c:Rat)=q*(d:Rat)):lL (a*d-c*b)=mc p q:=by
 have b':(0:Rat)<(b:Rat):=by exact_mod_cast b0
 have d':(0:Rat)<(d:Rat):=by exact_mod_cast d0
 have bd:=Rat.mul_pos b' d'
 have e:((a*d-c*b:Int):Rat)=(p-q)*((b:Rat)*(d:Rat)):=by
  simp only [Rat.intCast_sub,Rat.intCast_mul,ea,ec];grind
 generalize a*d-c*b=z at e⊢
 generalize (b:Rat)*(d:Rat)=t at*
 have key:(z=0↔p=q)∧(z<0↔p<q):=by
  constructor
  ·constructor
   ·intro hz
    subst hz
    have:(p-q)*t=0:=by rw [←e];rfl
    grind
   ·intro hz
    subst hz
    have:((z:Int):Rat)=0:=by rw [e];grind
    exact_mod_cast this
  ·constructor
   ·intro hz
    have rK:(z:Rat)<0:=by exact_mod_cast hz
    rw [e] at rK
    apply byContradiction
    intro hc
    have h1:0≤p-q:=by grind
    have:=Rat.mul_nonneg h1 (Rat.le_of_lt bd)
    grind
   ·intro hz
    have h1:0<q-p:=by grind
    have:=Rat.mul_pos h1 bd
    have:(z:Rat)<0:=by rw [e];grind
    exact_mod_cast this
 unfold mc lL
 by_cases h1:p=q
 ·rw [if_pos h1]
  have:=key.1.2 h1
  subst this
  simp
 ·rw [if_neg h1]
  have z1:z≠0:=fun hz=>h1 (key.1.1 hz)
  by_cases h2:p<q
  ·rw [if_pos h2,if_neg z1,if_pos (key.2.2 h2)]
  ·rw [if_neg h2]
   have:¬z<0:=fun hz=>h2 (key.2.1 hz)
   rw [if_neg z1,if_neg this]
theorem We (ha:QU h va p i) (hb:QU h vb q j) (eC:i+j≤899) (hk:∀h',EX h h'→K (I (mc p q)) h'):aj prog 29 [va,vb] h K:=by
 obtain ⟨a,b,qa,b0,ea,la,lb⟩:=ha
 obtain ⟨c,d,qc,d0,ec,lc,ld⟩:=hb
 have gL:∀{k n:Nat},k≤899→n<10^k→n<br:=fun hk hn=>lt_of_lt_of_le hn (rR (by omega))
 have h1:=yk la ld
 have h2:=yk lc lb
 rw [Nat.add_comm j i] at h2
 refine C29 qa qc (gL (by omega) la) (gL (by omega) lb) (gL (by omega) lc) (gL (by omega) ld) (gL eC h1) (gL eC h2) ?_
 rw [axc b0 d0 ea ec]
 exact hk
theorem Fz {z:Int} (hz:z.natAbs<1000000000000000000) (hk:∀r h',EX h h'→QV h' r (z:Rat)→K r h'):aj prog 20 [I z] h K:=C20 hz hk
theorem Ln {s:List UInt8} (hl:s.length≤700) (hn:mW s=true) (hk:∀r h',EX h h'→QV h' r (jS s)→K r h'):aj prog 28 [S s] h K:=amH hl (axa hn) hk
def jZ (g:ae) (i:Nat) (q:Rat):Prop:=∃a b c d,g[i]?=some (.arr 37 [B a,b,B c,d])∧QV g (.agg #[B a,b,B c,d]) q
theorem jZ.mono {g g':ae} {i:Nat} {q:Rat} (x:EX g g') (p:jZ g i q):jZ g' i q:=let ⟨a,b,c,d,e,r⟩:=p;⟨a,b,c,d,x.get e,r.mono x⟩
theorem jZ.lt {g:ae} {i:Nat} {q:Rat} (p:jZ g i q):i<g.length:=let ⟨_,_,_,_,e,_⟩:=p;(bK e).1
theorem jZ.load {g:ae} {i:Nat} {q:Rat} (p:jZ g i q):∃v,af true 4 g (pt i 0)=some v∧QV g v q:=let ⟨_,_,_,_,e,r⟩:=p;⟨_,hO e,r⟩
structure AH (g g':ae) (i:Nat) (q:Rat):Prop where
 cell:jZ g' i q
 len:g'.length=g.length
 old:∀j,j≠i→g'[j]?=g[j]?
 val:∀{v:Value} {p:Rat},QV g v p→QV g' v p
theorem O6 {g:ae} {i:Nat} {v:Value} {q:Rat} {s:Bool} {b c d:Value} (hg:g[i]?=some (.arr 37 [.bool s,b,c,d])) (hv:QV g v q):∃g',aE 4 g (pt i 0) v=some (undef,g')∧AH g g' i q:=by
 obtain ⟨u,w,rfl,hu,hw⟩:=id hv
 refine ⟨_,nH hg,⟨⟨_,_,_,_,cj hg,hv.bL hg _⟩,by simp,fun j hj=>getElem?_set_ne (fun h=>hj h.symm),fun h=>h.bL hg _⟩⟩
theorem jZ.store {g:ae} {i:Nat} {v:Value} {p q:Rat} (hc:jZ g i p) (hv:QV g v q):∃g',aE 4 g (pt i 0) v=some (undef,g')∧AH g g' i q:=by
 obtain ⟨a,b,c,d,hg,_⟩:=hc
 exact O6 hg hv
theorem AH.ex {h0 g g':ae} {i:Nat} {q:Rat} (s:AH g g' i q) (x:EX h0 g) (hi:h0.length≤i):EX h0 g':=
 ⟨by rw [s.len];exact x.1,fun j hj=>by rw [s.old j (by omega)];exact x.2 j hj⟩
theorem AH.dY {g g':ae} {i j:Nat} {q p:Rat} (s:AH g g' i q) (hj:j≠i) (c:jZ g j p):jZ g' j p:=
 let ⟨a,b,e,d,k,r⟩:=c;⟨a,b,e,d,by rw [s.old j hj];exact k,s.val r⟩
end
end
section
end
section
theorem aye {g:ae} {i o:Nat} {a b:Value} (h:af true 2 g (pt i o)=some (.agg #[a,b])):af false 1 g (pt i o)=some a∧af false 1 g (pt i (o+1))=some b:=by
 simp only [af] at h⊢
 cases hc:aR g i with
 | none=>rw [hc] at h;cases h
 | some xs=>
  rw [hc] at h
  simp only [Option.bind_some,cf,if_true,Bool.false_eq_true,if_false] at h⊢
  split at h
  ·injection h with h
   injection h with h
   have h:=congrArg Array.toList h
   simp only [List.toList_toArray] at h
   have h0:=congrArg (fun l=>l[0]?) h
   have h1:=congrArg (fun l=>l[1]?) h
   simp only [List.getElem?_take,List.getElem?_drop] at h0 h1
   constructor
   ·simpa using h0
   ·simpa using h1
  ·cases h
end
section
theorem jZ.num {g:ae} {i:Nat} {q:Rat} (p:jZ g i q):∃u,af true 2 g (pt i 0)=some u∧ZV g u q.num:=by
 obtain ⟨a,b,c,d,e,u,w,e2,hu,hw⟩:=p
 refine ⟨_,jE e,u,?_,hu⟩
 injection e2 with e2
 have e3:=congrArg Array.toList e2
 simp only [List.cons.injEq] at e3
 rw [e3.1,e3.2.1]
section
variable {h : ae} {K : Value → ae → Prop}
end
end
section
def mM (cs:List (List (List UInt8)×Int)):Int:=if rp cs=false then 2 else if tC cs=false then 1 else 0
section
variable {h : ae} {K : Value → ae → Prop}
end
end
section
def RG:Value→Bool
 | .string _=>true
 | _=>false
def TS (h:ae) (v:Value) (ls:List (List UInt8)):Prop:=(v=.slice none 0 0∧ls=[])∨∃e i,v=sl e i 0 ls.length∧(ls=[]∨aR h i=some (ls.map S))
theorem TS.ss {h:ae} {v:Value} {ls:List (List UInt8)} (p:TS h v ls):SS h v ls:=by
 rcases p with ⟨rfl,rfl⟩ | ⟨e,i,rfl,rfl | hc⟩
 ·exact ⟨rfl,fun k hk=>by simp at hk⟩
 ·exact ⟨rfl,fun k hk=>by simp at hk⟩
 ·exact SS.sl hc
theorem TS.dY {h h':ae} {v:Value} {ls:List (List UInt8)} (x:KP RG h h') (p:TS h v ls):TS h' v ls:=by
 rcases p with p | ⟨e,i,rfl,hc⟩
 ·exact .inl p
 ·refine .inr ⟨e,i,rfl,?_⟩
  rcases hc with hc | hc
  ·exact .inl hc
  ·cases ls with
   | nil=>exact .inl rfl
   | cons s t=>right;exact x i _ _ hc rfl
theorem TS.one {h:ae} {v:Value} {ls:List (List UInt8)} (p:TS h v ls):iA v=true∧de v=[v]∧gy v=true:=by
 rcases p with ⟨rfl,_⟩ | ⟨e,i,rfl,_⟩ <;> exact ⟨rfl,rfl,rfl⟩
def nQ (b:Nat) (h:ae) (v:Value) (cs:List (List (List UInt8)×Int)):Prop:=
 ∃rows,j7 b h 24 2 v rows∧rows.length=cs.length∧∀(k:Nat) (row:List Value) (c:List (List UInt8)×Int),rows[k]?=some row→cs[k]?=some c→∃vs,row=[vs,I c.2]∧TS h vs c.1
theorem nQ.start (b:Nat) (h:ae):nQ b h (.slice none 0 0) []:=⟨[],j7.start ..,rfl,fun k r q h=>by simp at h⟩
theorem nQ.chl {b:Nat} {h:ae} {v:Value} {cs:List (List (List UInt8)×Int)} (o:nQ b h v cs):pZ h v cs:=
 let ⟨rows,a,c,d⟩:=o;⟨rows,a.rs,c,fun k row q h1 h2=>let ⟨vs,e,m⟩:=d k row q h1 h2;⟨vs,e,m.ss⟩⟩
theorem nQ.ex {b:Nat} {h h':ae} {v:Value} {cs:List (List (List UInt8)×Int)} (x:EX h h') (o:nQ b h v cs):nQ b h' v cs:=
 let ⟨rows,a,c,d⟩:=o;⟨rows,a.ex x,c,fun k row q h1 h2=>let ⟨vq,e,m⟩:=d k row q h1 h2;⟨vq,e,m.dY (KP.ex x)⟩⟩
theorem nQ.app {h0 h:ae} {v vs:Value} {ls:List (List UInt8)} {w:Int} {cs:List (List (List UInt8)×Int)} {zs:List Value} {K:Value→ae→Prop} (o:nQ h0.length h v cs) (hex:EX h0 h) (hq:TS h vs ls) (hz:zs.length=2) (hl:cs.length≤10000)
  (hk:∀v' h',EX h0 h'→nQ h0.length h' v' (cs++[(ls,w)])→K v' h'):OH (dH 24 1 zs h [(0,2,.agg #[vs,I w])]) fun y h2=>OH (dT 24 2 32 h2 v y) K:=by
 obtain ⟨rows,o1,o2,o4⟩:=o
 obtain ⟨t1,t2,_⟩:=hq.one
 refine o1.app hex hz (row:=[vs,I w]) rfl (by simp [de,Value.cells]) rfl (by omega) (by simp [maxLen];omega) ?_
 intro v' h' x' kU o'
 have fl:∀c r,rows.flatten=c::r→RG c=false:=by
  intro c r e
  cases rows with
  | nil=>simp at e
  | cons row rows=>
   cases cs with
   | nil=>simp at o2
   | cons c0 cs=>
    obtain ⟨vs0,e0,m0⟩:=o4 0 row c0 rfl rfl
    subst e0
    simp only [List.flatten_cons,List.cons_append,List.cons.injEq] at e
    rw [←e.1]
    rcases m0 with ⟨rfl,_⟩ | ⟨_,_,rfl,_⟩ <;> rfl
 have kp:KP RG h h':=o1.kp fl kU
 refine hk v' h' x' ⟨_,o',by simp [o2],fun k row q h1 h2=>?_⟩
 by_cases hk:k<rows.length
 ·rw [getElem?_append_left hk] at h1
  rw [getElem?_append_left (by omega)] at h2
  obtain ⟨Vo,e,m⟩:=o4 k row q h1 h2
  exact ⟨Vo,e,m.dY kp⟩
 ·rw [getElem?_append_right (by omega)] at h1
  rw [getElem?_append_right (by omega),←o2] at h2
  have h0:k-rows.length=0:=by
   have:=(bK h1).1
   simp at this;omega
  rw [h0] at h1 h2
  simp only [List.getElem?_cons_zero,Option.some.injEq] at h1 h2
  subst h1 h2
  exact ⟨vs,rfl,hq.dY kp⟩
theorem ay7 {b:Nat} {h:ae} {v:Value} {ls:List (List UInt8)} (o:fE b h 27 v (ls.map S)):TS h v ls:=by
 rcases o with ⟨rfl,e⟩ | ⟨i,_,rfl,hg⟩
 ·exact .inl ⟨rfl,by simpa using e⟩
 ·exact .inr ⟨27,i,by rw [length_map],.inr (by simp [aR,hg])⟩
section
variable {h : ae} {K : Value → ae → Prop}
end
end
section
section
variable {h : ae} {K : Value → ae → Prop}
theorem qP {g:ae} {i:Nat} (hi:g[i]?=some (.arr 107 z4)):dZ g (pt i 0)=some (.agg #[.int .i64 107,.bool false,.slice none 0 0,.bool false,.slice none 0 0]):=by
 simp [dZ,zw,hi,py,sY]
theorem Ct {g:ae} {i:Nat} {v:Value} {q:Rat} (hg:g[i]?=some (.arr 107 z4)) (hv:RV g v q):∃g',aE 4 g (pt i 0) v=some (undef,g')∧xV g g' i q:=O7 (s:=false) (b:=.slice none 0 0) (c:=.bool false) (d:=.slice none 0 0) hg hv
theorem Cell.store {g:ae} {i:Nat} {v:Value} {p q:Rat} (c:Cell g i p) (hv:RV g v q):∃g',aE 4 g (pt i 0) v=some (undef,g')∧xV g g' i q:=by
 obtain ⟨a,b,e,d,k,_⟩:=c
 exact O7 (s:=a) k hv
structure xP (h g:ae) (ij ix ib id iw:Nat) (qs:List Rat) (w:Int) (vq:Value) (s:Mq):Prop where
 ex:EX h g
 Jb:g[ij]?=some (.arr 102 [I qs.length,I w,vq])
 out:g[ix]?=some (.arr 107 z4)
 bf:Cell g ib s.bf
 done:Cell g id s.done
 lh:Cell g iw s.lh
theorem xP.mono {h g g':ae} {ij ix ib id iw:Nat} {qs:List Rat} {w:Int} {vq:Value} {s:Mq} (x:EX g g') (p:xP h g ij ix ib id iw qs w vq s):xP h g' ij ix ib id iw qs w vq s:=
 ⟨p.ex.trans x,x.get p.Jb,x.get p.out,p.bf.mono x,p.done.mono x,p.lh.mono x⟩
theorem amJ {ij ix ib id iw:Nat} {qs:List Rat} {w:Int} {vq:Value} {age:Nat} {g0:ae} (hq:QL h vq qs) (aG:dN qs w=true) (DF:age<qs.length)
  (b1:h.length≤ix∧h.length≤ib∧h.length≤id∧h.length≤iw) (d1:ij≠ib∧ij≠id∧ij≠iw) (d2:ix≠ib∧ix≠id∧ix≠iw) (d3:ib≠id∧ib≠iw∧id≠iw)
  (hi:xP h g0 ij ix ib id iw qs w vq (cw qs w age 0))
  (hk:∀r h',EX h h'→RV h' r (cw qs w age (qs.length-age)).bf→K (.tuple #[r,I ((cw qs w age (qs.length-age)).iW:Nat)]) h'):
  cM [(.int .i64 (0)),(.int .i64 (1))] g0 fun L1 xs hx=>Tk prog K (I age) (pt ij 0) (pt ix 0) (pt ib 0) (pt id 0) (pt iw 0) L1 xs hx:=by
 obtain ⟨⟨_,l8⟩,⟨w0,kN⟩,hb,_⟩:=np aG
 have s4:=yq hb
 refine dL (σ:=Nat×ae) (fun q=>[I ((cw qs w age q.1).iW:Nat),I (q.1+1:Nat)]) (fun q=>q.2) (fun q=>age+q.1≤qs.length∧xP h q.2 ij ix ib id iw qs w vq (cw qs w age q.1)) (fun q=>qs.length-q.1) (0,g0) rfl rfl ⟨by show age+0≤_;omega,hi⟩ ?_
 clear hi
 rintro ⟨d,g⟩ ⟨hd,inv⟩ L hL
 simp only at hd inv hL⊢
 rw [aAL]
 have Sc:af false 1 g (pt ij 0)=some (I qs.length):=by simp [af,aR,inv.Jb,cf]
 have ws:ai .sub (I qs.length) (I age)=some (I (qs.length-age:Nat)):=by rw [gq,wrap64 (by omega) (by omega)];congr 2;omega
 simp only [cn,add_zero,ah,Sc,ws,AM,bX]
 refine ⟨fun hle=>?_,fun sG=>?_⟩
 rotate_left
 ·have Qo:d=qs.length-age:=by omega
  subst Qo
  rw [aAK]
  obtain ⟨v,l1,l2⟩:=inv.bf.load
  obtain ⟨g',e1,st⟩:=Ct inv.out l2
  simp only [l1,ah,e1,aC]
  obtain ⟨v',m1,m2⟩:=st.cell.load
  simp only [m1,ah]
  exact hk v' g' (st.ex inv.ex b1.1) m2
 have oP:age+d<qs.length:=by omega
 have mh:age+(d+1)≤qs.length:=by omega
 obtain ⟨sz1,sz2⟩:=KJ (age:=age) (d:=d) aG hd
 obtain ⟨sz3,Va⟩:=KJ (age:=age) (d:=d+1) aG mh
 obtain ⟨ed,ew⟩:=uu qs w age d
 have hwp:=(Fm (age:=age) (d:=d+1) aG mh).2 (by omega)
 rw [ED] at hwp
 obtain ⟨vd,l1,l2⟩:=inv.done.load
 have Er:∀{g':ae},g'[ij]?=some (.arr 102 [I qs.length,I w,vq])→af false 1 g' (pt ij 2)=some vq:=fun k=>by simp [af,aR,k,cf]
 have lj1:∀{g':ae},g'[ij]?=some (.arr 102 [I qs.length,I w,vq])→af false 1 g' (pt ij 1)=some (I w):=fun k=>by simp [af,aR,k,cf]
 have lja:∀{g':ae},g'[ij]?=some (.arr 102 [I qs.length,I w,vq])→af true 3 g' (pt ij 0)=some (.agg #[I qs.length,I w,vq]):=fun k=>by simp [af,aR,k,cf]
 have w1:ai .add (I age) (I (d+1:Nat))=some (I (age+(d+1):Nat)):=by rw [cQ,wrap64 (by omega) (by omega)];congr 2
 have w2:ai .sub (I (age+(d+1):Nat)) (.int .i64 1)=some (I (age+d:Nat)):=by rw [gq,wrap64 (by omega) (by omega)];congr 2;omega
 obtain ⟨bi,oi,r,u1,u2,u3⟩:=(hq.mono inv.ex).get oP
 simp only [l1,ah,true_and,Er inv.Jb,w1,w2,u1,u2]
 refine xO l2 u3 sz1 (s4 _ (getElem_mem oP)) (by omega) ?_
 intro r1 g1 x1 Bu
 have eg:qs[age+d]=qs.getD (age+d) 0:=by rw [List.getD_eq_getElem?_getD,getElem?_eq_getElem oP];rfl
 rw [eg,←ed] at Bu
 have inv1:=inv.mono x1
 -- uz is done
 obtain ⟨g2,e2,Cb⟩:=inv1.done.store Bu
 simp only [e2,aC]
 have Vr:=Cb.dY (Ne.symm d3.2.2) inv1.lh
 have bs2:=Cb.dY d3.1 inv1.bf
 have jb2:g2[ij]?=some (.arr 102 [I qs.length,I w,vq]):=by rw [Cb.old _ d1.2.1];exact inv1.Jb
 have ou2:g2[ix]?=some (.arr 107 z4):=by rw [Cb.old _ d2.2.1];exact inv1.out
 have xh2:=Cb.ex inv1.ex b1.2.2.1
 obtain ⟨vw,m1,m2⟩:=Vr.load
 simp only [m1,ah,lja jb2]
 refine Ls (age:=age+d) (hq.mono xh2) (by omega) s4 (by omega) ?_
 intro r3 g3 x3 Bw
 have m3:af true 4 g3 (pt iw 0)=some vw:=by
  obtain ⟨a,b,c,e,k,_⟩:=Vr
  rw [hO k] at m1
  rw [hO (x3.get k)];exact m1
 simp only [m3,true_and]
 have jw:=Cg (qs:=qs.drop (age+d)) (fun q hq=>s4 q (mem_of_mem_drop hq)) _ (le_refl _)
 rw [take_length,length_drop] at jw
 refine xO (m2.mono x3) Bw sz2 jw (by omega) ?_
 intro r4 g4 x4 vE
 rw [←ew] at vE
 have bu:=x3.trans x4
 obtain ⟨g5,e5,Cc⟩:=(Vr.mono bu).store vE
 simp only [e5,aC]
 have Dm:=Cc.dY d3.2.2 (Cb.cell.mono bu)
 have Yw:=Cc.dY d3.2.1 (bs2.mono bu)
 have Ja:g5[ij]?=some (.arr 102 [I qs.length,I w,vq]):=by rw [Cc.old _ d1.2.2];exact bu.get jb2
 have ou5:g5[ix]?=some (.arr 107 z4):=by rw [Cc.old _ d2.2.2];exact bu.get ou2
 have Ld:=Cc.ex (xh2.trans bu) b1.2.2.2
 have Cn:=Cc.cell
 -- one more try
 have e7:aV 107 [(.bool false),(.slice none 0 0),(.bool false),(.slice none 0 0)] g5=some (pt g5.length 0,g5++[.arr 107 z4]):=rfl
 simp only [e7,aC]
 have y1:EX g5 (g5++[.arr 107 z4]):=EX.append _ _
 have j1:(g5++[aq.arr 107 z4])[g5.length]?=some (.arr 107 z4):=bn
 generalize g5++[aq.arr 107 z4]=g6 at y1 j1⊢
 simp only [qP j1,ah,true_and,lj1 (y1.get Ja),lj1 Ja]
 refine tw (by omega) (by omega) ?_
 intro r7 g7 x7 hr7
 have eO:=y1.trans x7
 obtain ⟨vd7,n1,n2⟩:=(Dm.mono eO).load
 have same:∀{i:Nat} {q:Rat} {ga gb:ae} {v:Value},Cell ga i q→EX ga gb→af true 4 gb (pt i 0)=some v→af true 4 ga (pt i 0)=some v:=by
  intro i q ga gb v c x l
  obtain ⟨a,b,c,e,k,_⟩:=c
  rw [hO (x.get k)] at l
  rw [hO k];exact l
 simp only [qP (x7.get j1),true_and,n1,ah,same Dm eO n1,same (Dm.mono y1) x7 n1]
 refine Lt hr7 n2 (Cm w0 kN) sz3 (by omega) ?_
 intro r8 g8 x8 Q2
 have fW:=eO.trans x8
 obtain ⟨vw8,o1,o2⟩:=(Cn.mono fW).load
 simp only [qP ((x7.trans x8).get j1),true_and,o1,ah,same Cn fW o1,same (Cn.mono y1) (x7.trans x8) o1,same (Cn.mono eO) x8 o1]
 refine Wr Q2 o2 hwp ((Cm w0 kN).mul sz3) Va (by omega) ?_
 intro r9 g9 x9 Bx
 have ht:RV g9 r9 (jz qs w age d):=Bx
 have htz:=al0 (age:=age) (d:=d) aG mh
 have hbz:=UZ (age:=age) (d:=d) aG hd
 have fM:=x7.trans (x8.trans x9)
 obtain ⟨gW,uR,rT⟩:=Ct (fM.get j1) ht
 have jO:∀{i:Nat},i<g5.length→i≠g5.length:=fun aD he=>by omega
 have fI:=y1.trans fM
 have ib5:=Yw.lt
 have id5:=Dm.lt
 have iw5:=Cn.lt
 have ij5:ij<g5.length:=(bK Ja).1
 have ix5:ix<g5.length:=(bK ou5).1
 have Oi:=rT.dY (jO ib5) (Yw.mono fI)
 have dnA:=rT.dY (jO id5) (Dm.mono fI)
 have wkA:=rT.dY (jO iw5) (Cn.mono fI)
 have jbA:gW[ij]?=some (.arr 102 [I qs.length,I w,vq]):=by rw [rT.old _ (jO ij5)];exact fI.get Ja
 have ouA:gW[ix]?=some (.arr 107 z4):=by rw [rT.old _ (jO ix5)];exact fI.get ou5
 have xhA:=rT.ex (Ld.trans fI) (by have:=Ld.1;omega)
 simp only [qP (fM.get j1),true_and,uR,aC,jA,ah]
 have next:∀(bf:Rat) (iW:Nat) {g':ae},xP h g' ij ix ib id iw qs w vq ⟨bf,iW,(cw qs w age (d+1)).done,(cw qs w age (d+1)).lh⟩→cw qs w age (d+1)=⟨bf,iW,(cw qs w age (d+1)).done,(cw qs w age (d+1)).lh⟩→JS prog K (I age) (pt ij 0) (pt ix 0) (pt ib 0) (I iW) (pt id 0) (pt iw 0) (I (d+1:Nat)) L g':=by
  intro bf iW g' iv es
  rw [aAJ]
  have wi:IntKind.wrap .i64 (((d+1:Nat):Int)+1)=((d+1+1:Nat):Int):=by rw [wrap64 (by omega) (by omega)];omega
  simp only [cQ,wi,ah,true_and]
  have:=hL (d+1,g') ⟨mh,by show xP h g' ij ix ib id iw qs w vq (cw qs w age (d+1));rw [es];exact iv⟩ (by show qs.length-(d+1)<qs.length-d;omega)
  have em:(cw qs w age (d+1)).iW=iW:=by rw [es]
  simp only [em] at this
  exact this
 -- it is Oe
 have Oe:((cw qs w age d).iW=0∨(cw qs w age d).bf<jz qs w age d)→∀(t u:Value) {g':ae},EX gW g'→bP t (.bool true) u=some (B true)→EN prog K (I age) (pt ij 0) (pt ix 0) (pt ib 0) (I ((cw qs w age d).iW:Nat)) (pt id 0) (pt iw 0) (I (d+1:Nat)) (pt g5.length 0) t u L g':=by
  intro ru t u g' x' D5
  rw [akV,D5]
  obtain ⟨vt,p1,p2⟩:=(rT.cell.mono x').load
  obtain ⟨pz,Ps,Ca⟩:=(Oi.mono x').store p2
  simp only [ah,dX,p1,Ps,aC]
  refine next (jz qs w age d) (d+1) ⟨Ca.ex (xhA.trans x') b1.2.1,by rw [Ca.old _ d1.1];exact x'.get jbA,by rw [Ca.old _ d2.1];exact x'.get ouA,Ca.cell,Ca.dY d3.1.symm (dnA.mono x'),Ca.dY d3.2.1.symm (wkA.mono x')⟩ ?_
  unfold jz at ru⊢
  rw [ed,ew] at ru⊢
  simp only [cw]
  rw [if_pos ru]
 have aEi:¬((cw qs w age d).iW=0∨(cw qs w age d).bf<jz qs w age d)→∀(t u:Value) {g':ae},EX gW g'→bP t (.bool true) u=some (B false)→EN prog K (I age) (pt ij 0) (pt ix 0) (pt ib 0) (I ((cw qs w age d).iW:Nat)) (pt id 0) (pt iw 0) (I (d+1:Nat)) (pt g5.length 0) t u L g':=by
  intro ru t u g' x' D5
  rw [akV,D5]
  simp only [ah,dV]
  refine next (cw qs w age d).bf (cw qs w age d).iW ⟨xhA.trans x',x'.get jbA,x'.get ouA,Oi.mono x',dnA.mono x',wkA.mono x'⟩ ?_
  unfold jz at ru
  rw [ed,ew] at ru⊢
  simp only [cw]
  rw [if_neg ru]
 rw [aAI]
 by_cases hm:(cw qs w age d).iW=0
 ·rw [a9 (show ((cw qs w age d).iW:Int)=0 by omega)]
  simp only [gn]
  exact Oe (.inl hm) _ _ (EX.refl gW) rfl
 ·rw [aU (show ¬((cw qs w age d).iW:Int)=0 by omega)]
  obtain ⟨vt,p1,p2⟩:=rT.cell.load
  obtain ⟨vb,p3,p4⟩:=Oi.load
  simp only [eB,p1,p3,ah]
  refine FA p2 p4 htz hbz (by decide) ?_
  intro pz au
  have hc:decide ((0:Int)<mc (jz qs w age d) (cw qs w age d).bf)=decide ((cw qs w age d).bf<jz qs w age d):=by
   rw [decide_eq_decide]
   unfold mc
   generalize jz qs w age d=a
   generalize (cw qs w age d).bf=b
   by_cases e:a=b
   ·subst e
    rw [if_pos rfl]
    exact ⟨fun h=>absurd h (by decide),fun h=>absurd h Rat.lt_irrefl⟩
   ·rw [if_neg e]
    by_cases e2:a<b
    ·rw [if_pos e2]
     exact ⟨fun h=>absurd h (by decide),fun h=>by grind⟩
    ·rw [if_neg e2]
     exact ⟨fun _=>by grind,fun _=>by decide⟩
  simp only [fN,ah,hc]
  by_cases ru:(cw qs w age d).bf<jz qs w age d
  ·rw [a9 ru]
   exact Oe (.inr ru) _ _ au rfl
  ·rw [aU ru]
   exact aEi (fun h=>h.elim hm ru) _ _ au rfl
end
end
section
section
variable {h : ae} {K : Value → ae → Prop}
theorem C44 {qs:List Rat} {w:Int} {vq:Value} {age:Nat} (hq:QL h vq qs) (aG:dN qs w=true) (DF:age<qs.length)
  (hk:∀r h',EX h h'→RV h' r (cw qs w age (qs.length-age)).bf→K (.tuple #[r,I ((cw qs w age (qs.length-age)).iW:Nat)]) h'):aj prog 44 [.agg #[I qs.length,I w,vq],I age] h K:=by
 obtain ⟨rq,rs,_,_⟩:=id hq
 refine f44 ?_
 have e1:bm 102 h (.agg #[I qs.length,I w,vq])=some (pt h.length 0,h++[.arr 102 [I qs.length,I w,vq]]):=by
  rcases rs.2 with ⟨e,_⟩ | ⟨i,o,e,_⟩ <;> rw [e] <;> rfl
 have e7:∀(g:ae),aV 107 [(.bool false),(.slice none 0 0),(.bool false),(.slice none 0 0)] g=some (pt g.length 0,g++[.arr 107 z4]):=fun _=>rfl
 simp only [Nm,e1,e7,aC]
 have x0:EX h (h++[.arr 102 [I qs.length,I w,vq]]):=EX.append _ _
 have k0:(h++[aq.arr 102 [I qs.length,I w,vq]])[h.length]?=some (.arr 102 [I qs.length,I w,vq]):=bn
 generalize h++[aq.arr 102 [I qs.length,I w,vq]]=g0 at x0 k0⊢
 have x1:EX g0 (g0++[.arr 107 z4]):=EX.append _ _
 have k1:(g0++[aq.arr 107 z4])[g0.length]?=some (.arr 107 z4):=bn
 generalize g0++[aq.arr 107 z4]=g1 at x1 k1⊢
 have m0:h.length<g0.length:=(bK k0).1
 have m1:g0.length<g1.length:=(bK k1).1
 refine tw (n:=0) (by decide) (by decide) ?_
 intro r2 g2 x2 Bv
 have Bv:RV g2 r2 0:=Bv
 have x3:EX g2 (g2++[.arr 107 z4]):=EX.append _ _
 have k3:(g2++[aq.arr 107 z4])[g2.length]?=some (.arr 107 z4):=bn
 generalize g2++[aq.arr 107 z4]=g3 at x3 k3⊢
 have m2:=x2.1
 have m3:g2.length<g3.length:=(bK k3).1
 obtain ⟨g4,e4,UW⟩:=Ct k3 (Bv.mono x3)
 simp only [e4,aC]
 have bu:EX g2 g4:=UW.ex x3 (le_refl _)
 refine tw (n:=0) (by decide) (by decide) ?_
 intro r5 g5 x5 qy
 have qy:RV g5 r5 0:=qy
 refine tw (n:=0) (by decide) (by decide) ?_
 intro r6 g6 x6 Q1
 have Q1:RV g6 r6 0:=Q1
 have x7:EX g6 (g6++[.arr 107 z4]):=EX.append _ _
 have k7:(g6++[aq.arr 107 z4])[g6.length]?=some (.arr 107 z4):=bn
 generalize g6++[aq.arr 107 z4]=g7 at x7 k7⊢
 have x8:EX g7 (g7++[.arr 107 z4]):=EX.append _ _
 have k8:(g7++[aq.arr 107 z4])[g7.length]?=some (.arr 107 z4):=bn
 generalize g7++[aq.arr 107 z4]=g8 at x8 k8⊢
 have m4:=UW.len
 have m5:=x5.1
 have m6:=x6.1
 have m7:g6.length<g7.length:=(bK k7).1
 have gj:=x7.trans x8
 obtain ⟨g9,e9,KI⟩:=Ct (x8.get k7) (((qy.mono x6).mono gj))
 simp only [e9,aC]
 have k9:g9[g7.length]?=some (.arr 107 z4):=by rw [KI.old _ (by omega)];exact k8
 obtain ⟨gW,uR,rT⟩:=Ct k9 (KI.val (Q1.mono gj))
 simp only [uR,aC]
 have fM:EX g6 g9:=KI.ex gj (le_refl _)
 have aEI:EX g6 gW:=rT.ex fM (by omega)
 have La:=(x5.trans x6).trans aEI
 have K9:=x0.trans (x1.trans x2)
 have xA:=K9.trans (bu.trans La)
 have jb:=((x1.trans x2).trans (bu.trans La)).get k0
 have ou:=(x2.trans (bu.trans La)).get k1
 exact amJ (g0:=gW) (ij:=h.length) (ix:=g0.length) (ib:=g2.length) (id:=g6.length) (iw:=g7.length) hq aG DF ⟨by omega,by omega,by omega,by omega⟩ ⟨by omega,by omega,by omega⟩ ⟨by omega,by omega,by omega⟩ ⟨by omega,by omega,by omega⟩
  ⟨xA,jb,ou,UW.cell.mono La,rT.dY (by omega) KI.cell,rT.cell⟩ hk
end
end
end Go.Proofs.YtelmdbpaoifmoaaGreat
