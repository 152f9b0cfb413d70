/-
  Part 6 of the texts behind a statement of this seat: Zp2, ZN5, Kp1, Kp2, Kp3, Kp4, Zp4, Zp5, ZMe10, Zs2, Sq27, ZM3, Sim33, Zs4, Zp3, ZB, ZMe8, Sq21, ZMe9, ZMd, ZMe15, Sq23, Sq28, Sq29, Zs5, ZSd, Zs6, Kp5, ZN6, Kp6, Kp7, Kp8, Kp9, ZN7, Kp10, Kp11, Kp12, Kq1, ZN8, Kq6, Kq7, Kq8, Kr1, Kp13, Kp14, Kq3, ZNA.
-/
import Derived.Test.YtelmdbpaoifmoaaGreatProg
import Derived.KernelRfl
import Derived.Test.YtelmdbpaoifmoaaGreatMu5
open Bool (and_eq_true)
open Classical (byContradiction)
open Go.Proofs.Tryz (prog)
open Int (natAbs_natCast)
open List (Pairwise append_nil getD_eq_getElem?_getD getElem?_append_left getElem?_append_right getElem?_eq_getElem getElem?_set_ne getElem_mem idxOf_cons length_append length_drop length_map length_take mem_append mem_cons mem_map mem_of_mem_drop mem_singleton take_length take_succ_eq_append_getElem)
open Nat (add_zero gcd le_refl lt_of_lt_of_le pow_le_pow_right zero_add zero_le)
open Option (getD_some)
namespace Go.Proofs.YtelmdbpaoifmoaaGreat
open Go.Sim
section
def cF (s:List UInt8):Nat:=if gJ s=true then dJ s else 0
theorem Ly (s:List UInt8):cF s<10^s.length:=by
 unfold cF
 split
 ·rename_i h
  exact AJ (tX.1 h).2.2
 ·exact Nat.pow_pos (by decide)
theorem aAf {k n:Nat} (h:k≤4*n):10^k≤10000^n:=by
 have e:10^(4*n)=10000^n:=by rw [Nat.pow_mul]
 rw [←e]
 exact pow_le_pow_right (by decide) h
theorem aAb:(10000:Nat)^199≤bG:=by unfold bG;decide+kernel
theorem amC:(2:Nat)<10000^199:=by decide+kernel
theorem amE {s:List UInt8} (h:s.length≤700):cF s<10000^199:=by
 exact lt_of_lt_of_le (Ly s) (aAf (n:=199) (by omega))
theorem fy.nil (h:ae):fy h (.slice none 0 0) 0:=⟨[],.inl ⟨rfl,rfl⟩,⟨fun y hy=>by simp at hy,by simp⟩,rfl⟩
theorem WZ {s:List UInt8} {h:ae} {K:Value→ae→Prop}
  (hk:∀r h',EX h h'→ZV h' r (cF s)→K (.tuple #[r,B (gJ s)]) h'):ak prog 99 [S s] h K:=by
 refine anA (fun hd r h' x z=>?_) (fun hd h' x=>?_)
 ·have:=hk r h' x (by unfold cF;rw [if_pos hd];exact z)
  rw [hd] at this
  exact this
 ·have:=hk (.agg #[B false,.slice none 0 0]) h' x (by
   unfold cF;rw [if_neg (by rw [hd];decide)]
   exact ⟨.slice none 0 0,rfl,fy.nil h'⟩)
  rw [hd] at this
  exact this
def sC:Value:=.agg #[B false,.slice none 0 0,B false,.slice none 0 0]
theorem ac2 {g:ae} {j:Nat} {K:Value→ae→Prop} (hg:g[j]?=some (.arr 37 z4)) (hk:K (.tuple #[sC,B false]) (g.set j (.arr 37 z4))):
  OP (dh [(.bool false),(.slice none 0 0),(.bool false),(.slice none 0 0)] []) fun iR=>OH (aG 4 g (pt j 0) iR) fun _ h_1=>OP (af true 4 h_1 (pt j 0)) fun r0=>K (.tuple #[r0,(.bool false)]) h_1:=by
 have e:dh [(.bool false),(.slice none 0 0),(.bool false),(.slice none 0 0)] []=some sC:=rfl
 rw [e,ah]
 have s:=nR (x:=B false) (y:=.slice none 0 0) (z:=B false) (w:=.slice none 0 0) hg
 have s':aG 4 g (pt j 0) sC=some (undef,g.set j (.arr 37 z4)):=s
 rw [s',aB]
 have l:=ik (ck (o:=.arr 37 z4) hg)
 have l':af true 4 (g.set j (.arr 37 z4)) (pt j 0)=some sC:=l
 rw [l',ah]
 exact hk
theorem WQ {m ok:Bool} {n d:Nat} {h0 g:ae} {i2 i8 i10:Nat} {vn vd:Value} {K:Value→ae→Prop} (k2:g[i2]?=some (.arr 37 z4)) (k8:g[i8]?=some (.arr 35 [B (decide ((n:Int)<0)),vn])) (mn:fy g vn n)
  (Ag:g[i10]?=some (.arr 35 [B (decide ((d:Int)<0)),vd])) (md:fy g vd d) (b2:h0.length≤i2) (b8:h0.length≤i8) (n28:i2≠i8) (azz:i8≠i10) (x:EX h0 g)
  (hk:ok=true→(m=true→n≠0)→∀r h',EX h0 h'→QZ h' r (if m then -(n:Int) else n) d→K (.tuple #[r,B true]) h')
  (fV:(ok=false∨m=true∧n=0)→∀h',EX h0 h'→K (.tuple #[sC,B false]) h'):Aw prog K (pt i2 0) (B m) (pt i8 0) (B ok) (pt i10 0) g:=by
 have bad:(ok=false∨m=true∧n=0)→∀t u,bX t (.bool true) u=some (B true)→FA prog K (pt i2 0) (B m) (pt i8 0) (pt i10 0) t u g:=by
  intro hb t u ht
  rw [alF,ht]
  simp only [ah,dS]
  exact ac2 k2 (fV hb _ (x.set b2 _))
 have Eb:ok=true→(m=true→n≠0)→FA prog K (pt i2 0) (B m) (pt i8 0) (pt i10 0) (B false) (B false) g:=by
  intro ho hm
  have hk:=hk ho hm
  rw [alF]
  simp only [dU,ah]
  cases m with
  | false=>
   simp only [dR]
   rw [alG,cI k8,ah,cI Ag,ah]
   exact DT (K:=fun v h=>K (.tuple #[v,B true]) h) ⟨vn,rfl,mn⟩ ⟨vd,rfl,md⟩ x b2 k2 hk
  | true=>
   simp only [dR,dS]
   rw [cI k8,ah]
   refine WY (a:=n) ⟨vn,rfl,mn⟩ ?_
   intro r7 h7 x7 z7
   obtain ⟨v7,rfl,hv7⟩:=id z7
   have g7:=x7.get k8
   rw [eZ g7]
   simp only [aB]
   have ax9:(h7.set i8 (.arr 35 [B (decide (-(n:Int)<0)),v7]))[i10]?=some (.arr 35 [B (decide ((d:Int)<0)),vd]):=by
    rw [getElem?_set_ne azz];exact x7.get Ag
   rw [alG,cI (ck g7),ah,cI ax9,ah]
   refine DT (K:=fun v h=>K (.tuple #[v,B true]) h) (z7.bM g7 _) ⟨vd,rfl,?_⟩ ((x.trans x7).set b8 _) b2 (by rw [getElem?_set_ne n28.symm];exact x7.get k2) hk
   exact fy.bM (md.mono x7) g7 _
 have n1:gT .not (B ok)=some (B (!ok)):=rfl
 rw [aCA,n1,ah,aCB]
 cases ok with
 | false=>
  simp only [Bool.not_false,gr,alE,AT,UQ]
  exact bad (.inl rfl) _ _ rfl
 | true=>
  simp only [Bool.not_true,eQ,alE]
  cases m with
  | false=>
   simp only [lK,UQ,eQ,dU,ah]
   exact Eb rfl (fun h=>by cases h)
  | true=>
   obtain ⟨l,p1,p2⟩:=mn.qf
   have ld:af false 1 g (pt i8 1)=some vn:=by simp [af,aQ,k8,cf]
   simp only [gQ,cw,zero_add,ah,ld,p1,jw,UQ,eQ,ef]
   by_cases hn:n=0
   ·rw [aZ (show (l:Int)=0 by omega)]
    exact bad (.inr ⟨rfl,hn⟩) _ _ rfl
   ·rw [aU (show ¬(l:Int)=0 by omega)]
    exact Eb rfl (fun _=>hn)
def dA (t:List UInt8):List UInt8:=t.take (t.idxOf 47)
def dQ (t:List UInt8):List UInt8:=t.drop (t.idxOf 47+1)
def nF (t:List UInt8):Bool:=decide (t.idxOf 47<t.length)
def oZ (t:List UInt8):Bool:= !nF t||(gJ (dQ t)&&(decide (2≤cF (dQ t))&&decide (gcd (cF (dA t)) (cF (dQ t))=1)))
def pO (t:List UInt8):Nat:=if nF t=true then cF (dQ t) else 1
def rk (m:Bool) (t:List UInt8):Option (Int×Nat):=
 if oZ t=true∧gJ (dA t)=true∧(m=true→cF (dA t)≠0) then some (if m then -(cF (dA t):Int) else cF (dA t),pO t) else none
def jK (s:List UInt8):Option (Int×Nat):=if s.head?=some 45 then rk true s.tail else rk false s
theorem axO (s:List UInt8):∀{i:Nat},i<s.length→(s.drop i).idxOf 47=if s[i]! =47 then 0 else (s.drop (i+1)).idxOf 47+1:=by
 intro i hi
 rw [List.drop_eq_getElem_cons hi,idxOf_cons]
 have:s[i]! =s[i]:=by simp [hi]
 rw [this]
 by_cases h:s[i]=47
 ·simp [h]
 ·have h':(s[i]==47)=false:=beq_eq_false_iff_ne.2 h
  rw [h'];simp [h]
theorem L0 {s:List UInt8} {m:Bool} {h:ae} {j:Nat} {K:Value→ae→Prop} {h0:ae} (hl:s.length≤700) (x0:EX h0 h) (hj:h0.length≤j) (hg:h[j]?=some (.arr 37 z4))
  (hk:∀n d,rk m s=some (n,d)→∀r h',EX h0 h'→QZ h' r n d→K (.tuple #[r,B true]) h')
  (fV:rk m s=none→∀h',EX h0 h'→K (.tuple #[sC,B false]) h'):KD prog K (pt j 0) (S s) (B m) h:=by
 rw [aCw]
 have e1:IntKind.wrap .i64 ((s.length:Int)-1)=(s.length:Int)-1:=wrap64 (by omega) (by omega)
 simp only [lX,ah,gf,e1]
 refine dI (σ:=Nat) (fun p=>[I ((p+(s.drop p).idxOf 47:Nat):Int),I ((p:Int)-1)]) (fun _=>h) (fun p=>p≤s.length) (fun p=>p)
  s.length (by simp) rfl (le_refl _) ?_
 intro i hi L hL
 rw [aCx]
 simp only [nA,ah,bW]
 refine ⟨fun cE=>?_,fun aD=>?_⟩
 ·obtain ⟨p,rfl⟩:∃p,i=p+1:=⟨i-1,by omega⟩
  have hp:p<s.length:=by omega
  have ei:((p+1:Nat):Int)-1=(p:Int):=by omega
  have ix:=wg (a:=s) (i:=p) hp .i64
  have e5:ai .eql (cv s[p]) (.int .u8 47)=some (B (decide ((s[p].toNat:Int)=47))):=rfl
  have e2:IntKind.wrap .i64 ((p:Int)-1)=(p:Int)-1:=wrap64 (by omega) (by omega)
  have nx:=hL p (by omega) (by omega)
  rw [axO s hp] at nx
  have e6:s[p]! =s[p]:=by simp [hp]
  rw [e6] at nx
  rw [ei]
  simp only [ix,ah,e5,aCy,gf,e2,true_and]
  have e7:(decide ((s[p].toNat:Int)=47))=decide (s[p]=47):=by
   rw [decide_eq_decide]
   constructor
   ·intro h;apply UInt8.toNat_inj.1;show s[p].toNat=47;omega
   ·intro h;rw [h];rfl
  rw [e7,bW]
  refine ⟨fun h=>?_,fun h=>?_⟩
  ·rw [if_pos h] at nx;simpa using nx
  ·rw [if_neg h] at nx
   have:p+((s.drop (p+1)).idxOf 47+1)=p+1+(s.drop (p+1)).idxOf 47:=by omega
   rw [this] at nx;exact nx
 ·have oz:i=0:=by omega
  subst oz
  simp only [List.drop_zero,zero_add]
  have gv:s.idxOf 47≤s.length:=List.idxOf_le_length
  rw [aCz]
  have wI:=Vv (a:=s) (n:=s.idxOf 47) gv .i64
  simp only [wI,ah]
  have lo:(dA s).length≤700:=by unfold dA;rw [length_take];omega
  have lu:(dQ s).length≤700:=by unfold dQ;rw [length_drop];omega
  refine WZ ?_
  intro r h1 x1 z1
  show OP _ _
  have fo:s.take (s.idxOf 47)=dA s:=rfl
  rw [fo] at z1
  obtain ⟨v,rfl,hv⟩:=id z1
  rw [natAbs_natCast] at hv
  simp only [eC,eO,eY,ah,fo]
  have e2:∀g:ae,aV 35 [(.bool false),(.slice none 0 0)] g=some (pt g.length 0,g++[.arr 35 [(.bool false),(.slice none 0 0)]]):=fun _=>rfl
  simp only [e2,aB]
  rw [eZ br]
  simp only [aB]
  have x2:EX h1 ((h1++[aq.arr 35 [(.bool false),(.slice none 0 0)]]).set h1.length (.arr 35 [B (decide ((cF (dA s):Int)<0)),v])):=EX.set (EX.append _ _) (le_refl _) _
  have g3:((h1++[aq.arr 35 [(.bool false),(.slice none 0 0)]]).set h1.length (.arr 35 [B (decide ((cF (dA s):Int)<0)),v]))[h1.length]?=some (.arr 35 [B (decide ((cF (dA s):Int)<0)),v]):=ck br
  generalize (h1++[aq.arr 35 [(.bool false),(.slice none 0 0)]]).set h1.length (.arr 35 [B (decide ((cF (dA s):Int)<0)),v])=h3 at x2 g3⊢
  have pW:=(bD hg).1
  have hj1:j<h1.length:=by have:=x1.1;omega
  have xN:=x0.1
  refine uX (z:=((1:Nat):Int)) (by decide) ?_
  intro r4 h4 x4 Gd
  obtain ⟨w,rfl,hw⟩:=id Gd
  rw [natAbs_natCast] at hw
  rw [eZ br]
  simp only [aB]
  have x5:EX h4 ((h4++[aq.arr 35 [(.bool false),(.slice none 0 0)]]).set h4.length (.arr 35 [B (decide (((1:Nat):Int)<0)),w])):=EX.set (EX.append _ _) (le_refl _) _
  have g5:((h4++[aq.arr 35 [(.bool false),(.slice none 0 0)]]).set h4.length (.arr 35 [B (decide (((1:Nat):Int)<0)),w]))[h4.length]?=some (.arr 35 [B (decide (((1:Nat):Int)<0)),w]):=ck br
  generalize (h4++[aq.arr 35 [(.bool false),(.slice none 0 0)]]).set h4.length (.arr 35 [B (decide (((1:Nat):Int)<0)),w])=h5 at x5 g5⊢
  have hh1:h1.length<h4.length:=by
   have:=x4.1
   have:=(bD g3).1
   omega
  have bf:=(x2.trans x4).trans x5
  have Qs:=(x4.trans x5).get g3
  have Q1:=(x1.trans bf).get hg
  have xA:EX h0 h5:=x0.trans (x1.trans bf)
  have mn:=hv.mono bf
  have md:=hw.mono x5
  have h45:h4.length<h5.length:=(bD g5).1
  simp only [lX,ah,cS,bW]
  refine ⟨fun aD=>?_,fun cE=>?_⟩
  rotate_left
  ·have zJ:nF s=false:=by unfold nF;exact aU (by omega)
   have mA:pO s=1:=by unfold pO;rw [if_neg (by rw [zJ];decide)]
   have qG:oZ s=true:=by unfold oZ;rw [zJ];rfl
   refine WQ (h0:=h0) Q1 Qs mn g5 md hj (by omega) (by omega) (by omega) xA (fun a b=>?_) (fun a=>?_)
   ·rw [←mA]
    exact hk _ _ (if_pos ⟨qG,a,b⟩)
   ·refine fV (if_neg ?_)
    rintro ⟨_,b1,b2⟩
    rcases a with a | ⟨a1,a2⟩
    ·rw [a] at b1;cases b1
    ·exact b2 a1 a2
  have qR:nF s=true:=aZ (by omega)
  have mA:pO s=cF (dQ s):=by unfold pO;rw [if_pos qR]
  have qG:oZ s=(gJ (dQ s)&&(decide (2≤cF (dQ s))&&decide (gcd (cF (dA s)) (cF (dQ s))=1))):=by unfold oZ;rw [qR];rfl
  have FO:=CE (a:=s) (n:=s.idxOf 47+1) (by omega) .i64
  have fu:s.drop (s.idxOf 47+1)=dQ s:=rfl
  have wi:IntKind.wrap .i64 ((s.idxOf 47:Nat)+1:Int)=((s.idxOf 47+1:Nat):Int):=by rw [wrap64 (by omega) (by omega)];omega
  simp only [cP,wi,ah,FO,fu]
  refine WZ ?_
  intro r6 h6 x6 z6
  obtain ⟨v6,rfl,hv6⟩:=id z6
  rw [natAbs_natCast] at hv6
  simp only [eC,eO,eY,ah]
  rw [eZ br]
  simp only [aB]
  have x7:EX h6 ((h6++[aq.arr 35 [(.bool false),(.slice none 0 0)]]).set h6.length (.arr 35 [B (decide ((cF (dQ s):Int)<0)),v6])):=EX.set (EX.append _ _) (le_refl _) _
  have g7:((h6++[aq.arr 35 [(.bool false),(.slice none 0 0)]]).set h6.length (.arr 35 [B (decide ((cF (dQ s):Int)<0)),v6]))[h6.length]?=some (.arr 35 [B (decide ((cF (dQ s):Int)<0)),v6]):=ck br
  generalize (h6++[aq.arr 35 [(.bool false),(.slice none 0 0)]]).set h6.length (.arr 35 [B (decide ((cF (dQ s):Int)<0)),v6])=h7 at x7 g7⊢
  have eP:=x6.trans x7
  have nn:gT .not (B (gJ (dQ s)))=some (B (!gJ (dQ s))):=rfl
  have bad:∀{g:ae},EX h7 g→oZ s=false→(OP (dh [(.bool false),(.slice none 0 0),(.bool false),(.slice none 0 0)] []) fun iR=>OH (aG 4 g (pt j 0) iR) fun _ h_1=>OP (af true 4 h_1 (pt j 0)) fun r0=>K (.tuple #[r0,(.bool false)]) h_1):=by
   intro g xg hd
   refine ac2 ((eP.trans xg).get Q1) (fV (if_neg ?_) _ ((xA.trans (eP.trans xg)).set hj _))
   rintro ⟨b,_⟩
   rw [hd] at b;cases b
  simp only [nn,ah]
  cases zv:gJ (dQ s) with
  | false=>
   rw [zv] at qG
   simp only [Bool.not_false,gr,true_and,ef,ah,dS]
   exact bad (EX.refl _) (by rw [qG];rfl)
  | true=>
   rw [zv,Bool.true_and] at qG
   have zu:ZV h7 (.agg #[B (decide ((cF (dQ s):Int)<0)),v6]) (cF (dQ s)):=z6.mono x7
   have zo:ZV h7 (.agg #[B (decide ((cF (dA s):Int)<0)),v]) (cF (dA s)):=⟨v,rfl,by rw [natAbs_natCast];exact mn.mono eP⟩
   have small:=amE lu
   have aEI:=amE lo
   have aF0:(10000:Nat)^199≤bG:=aAb
   simp only [Bool.not_true,eQ,cI g7,ah,true_and]
   refine uX (z:=2) (by decide) ?_
   intro r8 h8 x8 z8
   simp only [(x8.load (cI g7)),true_and]
   refine L4 (zu.mono x8) z8 (by rw [natAbs_natCast];omega) (by have:(2:Nat)<10000^199:=amC;show 2<bG;omega) ?_
   intro h9 x9
   have ka:=x8.trans x9
   simp only [cS,ah,dU]
   by_cases h2:cF (dQ s)<2
   ·have en:lV ((cF (dQ s):Int)-2)= -1:=by unfold lV;rw [if_neg (by omega),if_pos (by omega)]
    rw [en]
    simp only [show decide ((-1:Int)<0)=true from rfl,gr,ef,ah,dS]
    refine bad ka ?_
    rw [qG,aU (by omega)];rfl
   ·have en:0≤lV ((cF (dQ s):Int)-2):=by
     unfold lV
     split
     ·decide
     ·rw [if_neg (by omega)];decide
    rw [aU (show ¬lV ((cF (dQ s):Int)-2)<0 by omega)]
    rw [aZ (show 2≤cF (dQ s) by omega),Bool.true_and] at qG
    have l8:af true 2 h9 (pt h1.length 0)=some (.agg #[B (decide ((cF (dA s):Int)<0)),v]):=cI ((eP.trans ka).get Qs)
    have l9:af true 2 h9 (pt h6.length 0)=some (.agg #[B (decide ((cF (dQ s):Int)<0)),v6]):=cI (ka.get g7)
    simp only [eQ,l8,l9,ah]
    refine WS (zo.mono ka) (zu.mono ka) (by rw [natAbs_natCast];exact aEI) (by rw [natAbs_natCast];exact small) ?_
    intro u sQ aE mu
    simp only [natAbs_natCast] at mu
    have Q2:gcd (cF (dA s)) (cF (dQ s))≤cF (dQ s):=Nat.gcd_le_right _ (by omega)
    have zg:ZV sQ (.agg #[B false,u]) (gcd (cF (dA s)) (cF (dQ s)):Nat):=⟨u,by rw [aU (by omega)],by rw [natAbs_natCast];exact mu⟩
    refine uX (z:=1) (by decide) ?_
    intro r11 h11 au ke
    refine L4 (zg.mono au) ke (by rw [natAbs_natCast];omega) (by have:(2:Nat)<10000^199:=amC;show 1<bG;omega) ?_
    intro h12 aA
    have LO:=ka.trans (aE.trans (au.trans aA))
    simp only [qA,ah,dU]
    by_cases xD:gcd (cF (dA s)) (cF (dQ s))=1
    ·have en:lV ((gcd (cF (dA s)) (cF (dQ s)):Nat)-1:Int)=0:=by unfold lV;rw [if_pos (by omega)]
     rw [aZ xD] at qG
     rw [en]
     have l12:af true 2 h12 (pt h6.length 0)=some (.agg #[B (decide ((cF (dQ s):Int)<0)),v6]):=cI (LO.get g7)
     simp only [decide_true,Bool.not_true,dR,l12,ah]
     have F8:=eP.trans LO
     have IM:=F8.get g5
     rw [eZ IM]
     simp only [aB]
     refine WQ (h0:=h0) (i2:=j) (i8:=h1.length) (i10:=h4.length) (n:=cF (dA s)) (d:=cF (dQ s)) (vn:=v) (vd:=v6) ?_ ?_ ?_ (ck IM) ?_ hj (by omega) (by omega) (by omega) ?_ (fun a b=>?_) (fun a=>?_)
     ·rw [getElem?_set_ne (by omega)];exact F8.get Q1
     ·rw [getElem?_set_ne (by omega)];exact F8.get Qs
     ·exact fy.bM (mn.mono F8) IM _
     ·exact fy.bM (hv6.mono (x7.trans LO)) IM _
     ·exact (xA.trans F8).set (by omega) _
     ·rw [←mA]
      exact hk _ _ (if_pos ⟨qG,a,b⟩)
     ·refine fV (if_neg ?_)
      rintro ⟨_,b1,b2⟩
      rcases a with a | ⟨a1,a2⟩
      ·rw [a] at b1;cases b1
      ·exact b2 a1 a2
    ·have en:lV ((gcd (cF (dA s)) (cF (dQ s)):Nat)-1:Int)≠0:=by
      unfold lV;rw [if_neg (by omega)];split <;> decide
     rw [aU xD] at qG
     rw [aU en]
     simp only [Bool.not_false,dS]
     exact bad LO qG
end
section
variable (P : Program) (K : VK)
noncomputable section
variable (s0 x2 x6 x8 x9 aE au aA dD eB dE fx bQ cT gG jv : Value) (h : ae)
def agB:=bC prog 108 [[],[],[],[],[],[],[],[2,6,8,9,10,11,38],[2,6,8,9,10,11,38,42],[2,6,8,9,10,11,12],[2,6,8,9,11,12,46],[2,6,8,9,11,46,48],[2,6,8,9,11,50],[2,6,8,9,11,50,52],[2,6,8,9,11,50,52,55],[2,6,8,9,11,50,56],[],[],[],[],[]]
@[irreducible] def G9:=bN agB
@[irreducible] def Zg:=G9.r.r.r.r.r.l.r.l.r.r.l
@[irreducible] def Zm:=G9.r.r.r.r.r.r
@[irreducible] def aq8:=Zg.r.l
@[irreducible] def Ha:=Zm.l
@[irreducible] def Zh:=Ha.l.l.r.l
@[irreducible] def ara:=Ha.l.r
@[irreducible] def aq9:=Ha.r
@[irreducible] def Zi:=Zh.r.l
@[irreducible] def Zj:=Zi.r.l
@[irreducible] def Zk:=Zj.r.l
@[irreducible] def Zl:=Zk.r.l
@[irreducible] def arb:=Zl.r.l
theorem ayi:agB=some (78,G9,[.cell true 4 2,.tmp 3]):=by kernel_rfl
def Dd (_P:Program) (K:VK):ar:=aS [.cell true 4 2,.tmp 3] K
def Xf:ar:=aF (aj P Zm (Dd P K)) (Dd P K)
def Xe:ar:=aF (aj P aq9 (Dd P K)) (Dd P K)
def AW:ar:=aF (aj P ara (Xe P K)) (Xe P K)
def ait:Prop:=ay (aj P Zg (Xf P K)) [2,6,8,9,10,11,38] [x2,x6,x8,x9,aE,au,dD] h
def To:Prop:=ay (aj P aq8 (Xf P K)) [2,6,8,9,10,11,38,42] [x2,x6,x8,x9,aE,au,dD,eB] h
def Fo:Prop:=ay (aj P Ha (Dd P K)) [2,6,8,9,10,11,12] [x2,x6,x8,x9,aE,au,aA] h
def aiu:Prop:=ay (aj P Zh (AW P K)) [2,6,8,9,11,12,46] [x2,x6,x8,x9,au,aA,dE] h
def Tp:Prop:=ay (aj P Zi (AW P K)) [2,6,8,9,11,46,48] [x2,x6,x8,x9,au,dE,fx] h
def Tq:Prop:=ay (aj P Zj (AW P K)) [2,6,8,9,11,50] [x2,x6,x8,x9,au,bQ] h
def Ts:Prop:=ay (aj P Zk (AW P K)) [2,6,8,9,11,50,52] [x2,x6,x8,x9,au,bQ,cT] h
def Tt:Prop:=ay (aj P Zl (AW P K)) [2,6,8,9,11,50,52,55] [x2,x6,x8,x9,au,bQ,cT,gG] h
def Fp:Prop:=ay (aj P arb (AW P K)) [2,6,8,9,11,50,56] [x2,x6,x8,x9,au,bQ,jv] h
theorem ak7:To P K x2 x6 x8 x9 aE au dD eB h=
 (OP (bX dD eB (.bool false)) fun bV=>
 Fo P K x2 x6 x8 x9 aE au bV h):=az (by kernel_rfl)
theorem aAz:ait P K x2 x6 x8 x9 aE au dD h=
 (cD dD true
 (OH (cW 177 1 [(.int .u32 (0))] h [(0,1,(.int .u32 (1)))]) fun ep z1=>
 ak P 126 [au,ep] z1 fun dW z2=>
 OP (ai .gtr dW (.int .i64 (0))) fun eB=>
 To P K x2 x6 x8 x9 aE au dD eB z2)
 (To P K x2 x6 x8 x9 aE au dD undef h)):=az (by kernel_rfl)
theorem alb:Fp P K x2 x6 x8 x9 au bQ jv h=
 (OP (bX bQ (.bool true) jv) fun eP=>
 aO eP
 (OP (dh [(.bool false),(.slice none 0 0),(.bool false),(.slice none 0 0)] []) fun fW=>
 OH (aG 4 h x2 fW) fun _ z1=>
 OP (af true 4 z1 x2) fun r0=>
 K (.tuple #[r0,(.bool false)]) z1)
 (ak P 117 [x8,x9] h fun fQ z1=>
 ak P 117 [(.bool false),au] z1 fun jS z2=>
 OP (dh [(.bool false),(.slice none 0 0),(.bool false),(.slice none 0 0)] [(0,2,fQ),(2,2,jS)]) fun jd=>
 OH (aV 107 [(.bool false),(.slice none 0 0),(.bool false),(.slice none 0 0)] z2) fun aC z3=>
 OH (aG 4 z3 aC jd) fun _ z4=>
 OP (af true 4 z4 aC) fun gn=>
 (True)∧
 OP (gT .not x6) fun fX=>
 cD fX false
 (OP (aM 0 aC) fun gq=>
 OP (af true 2 z4 gq) fun oP=>
 (True)∧
 OP (aM 2 aC) fun gO=>
 OP (af true 2 z4 gO) fun mI=>
 (True)∧
 ak P 120 [oP,mI] z4 fun nU z5=>
 (af true 4 z5 aC=some gn∧True)∧
 ak P 105 [(.int .i64 (1))] z5 fun kD z6=>
 (af true 4 z6 aC=some gn∧True)∧
 ak P 111 [nU,kD] z6 fun kE z7=>
 (af true 4 z7 aC=some gn∧True)∧
 OP (ai .eql kE (.int .i64 (0))) fun j9=>
 OP (bX fX (.bool true) j9) fun iQ=>
 OH (aG 4 z7 x2 gn) fun _ z8=>
 (True)∧
 OP (af true 4 z8 x2) fun r0=>
 K (.tuple #[r0,iQ]) z8)
 ((af true 4 z4 aC=some gn∧True)∧
 (af true 4 z4 aC=some gn∧True)∧
 (af true 4 z4 aC=some gn∧True)∧
 OP (bX fX (.bool true) undef) fun iQ=>
 OH (aG 4 z4 x2 gn) fun _ z5=>
 (True)∧
 OP (af true 4 z5 x2) fun r0=>
 K (.tuple #[r0,iQ]) z5))):=az (by kernel_rfl)
theorem UM:Tt P K x2 x6 x8 x9 au bQ cT gG h=
 (cD bQ false
 (OP (bX cT gG (.bool false)) fun jv=>
 Fp P K x2 x6 x8 x9 au bQ jv h)
 (Fp P K x2 x6 x8 x9 au bQ undef h)):=az (by kernel_rfl)
theorem ala:Ts P K x2 x6 x8 x9 au bQ cT h=
 (cD cT true
 (OP (bj x9) fun cY=>
 OP (ai .eql cY (.int .i64 (0))) fun gG=>
 Tt P K x2 x6 x8 x9 au bQ cT gG h)
 (Tt P K x2 x6 x8 x9 au bQ cT undef h)):=az (by kernel_rfl)
theorem ak9:Tq P K x2 x6 x8 x9 au bQ h=
 (cD bQ false
 (Ts P K x2 x6 x8 x9 au bQ x8 h)
 (Ts P K x2 x6 x8 x9 au bQ undef h)):=az (by kernel_rfl)
theorem ak8:Tp P K x2 x6 x8 x9 au dE fx h=
 (OP (bX dE (.bool true) fx) fun gF=>
 Tq P K x2 x6 x8 x9 au gF h):=az (by kernel_rfl)
theorem aAB:aiu P K x2 x6 x8 x9 au aA dE h=
 (cD dE false
 (OP (gT .not aA) fun fx=>
 Tp P K x2 x6 x8 x9 au dE fx h)
 (Tp P K x2 x6 x8 x9 au dE undef h)):=az (by kernel_rfl)
theorem aAA:Fo P K x2 x6 x8 x9 aE au aA h=
 (OP (gT .not aE) fun cJ=>
 aiu P K x2 x6 x8 x9 au aA cJ h):=az (by kernel_rfl)
def Nb:Prop:=
 OH (aV 107 [(.bool false),(.slice none 0 0),(.bool false),(.slice none 0 0)] h) fun x2 z1=>
 ak P 123 [s0,(.string ⟨#[47]⟩)] z1 fun bp z2=>
 OP (ca 0 bp) fun bY=>
 OP (ca 1 bp) fun aR=>
 OP (ca 2 bp) fun aP=>
 ak P 124 [bY,(.string ⟨#[45]⟩)] z2 fun bH z3=>
 OP (ca 0 bH) fun cm=>
 OP (ca 1 bH) fun bt=>
 ak P 125 [cm] z3 fun bE z4=>
 OP (ca 0 bE) fun cG=>
 OP (ca 1 bE) fun cL=>
 OH (cW 177 1 [(.int .u32 (0))] z4 [(0,1,(.int .u32 (1)))]) fun dO z5=>
 aO aP
 (ak P 125 [aR] z5 fun cj z6=>
 OP (ca 0 cj) fun dV=>
 OP (ca 1 cj) fun db=>
 ait P K x2 aP bt cG cL dV db z6)
 (Fo P K x2 aP bt cG cL dO (.bool true) z5)
theorem auR:aj P G9 (aS [.cell true 4 2,.tmp 3] K) (bw [s0]) h=Nb P K s0 h:=by kernel_rfl
theorem f108 {K:VK} {s0:Value} {h:ae} (H:Nb prog K s0 h):ak prog 108 [s0] h K:=
 bP ayi (bL rfl) ((auR prog K s0 h).mpr H)
end
noncomputable section
variable (s0 x1 : Value) (h : ae)
def agQ:=bC prog 123 [[],[]]
@[irreducible] def ZS:=bN agQ
theorem ayx:agQ=some (13,ZS,[.tmp 4,.tmp 5,.tmp 6]):=by kernel_rfl
def Nq:Prop:=
 ak P 131 [s0,x1] h fun x9 z1=>
 OP (ca 0 x9) fun aE=>
 OP (ca 1 x9) fun au=>
 OP (ca 2 x9) fun aA=>
 K (.tuple #[aE,au,aA]) z1
theorem au6:aj P ZS (aS [.tmp 4,.tmp 5,.tmp 6] K) (bw [s0,x1]) h=Nq P K s0 x1 h:=by kernel_rfl
theorem f123 {K:VK} {s0 x1:Value} {h:ae} (H:Nq prog K s0 x1 h):ak prog 123 [s0,x1] h K:=
 bP ayx (bL rfl) ((au6 prog K s0 x1 h).mpr H)
end
noncomputable section
variable (s0 x1 : Value) (h : ae)
def agR:=bC prog 124 [[],[]]
@[irreducible] def ZT:=bN agR
theorem ayy:agR=some (11,ZT,[.tmp 4,.tmp 5]):=by kernel_rfl
def Nr:Prop:=
 ak P 132 [s0,x1] h fun x8 z1=>
 OP (ca 0 x8) fun x9=>
 OP (ca 1 x8) fun aE=>
 K (.tuple #[x9,aE]) z1
theorem au7:aj P ZT (aS [.tmp 4,.tmp 5] K) (bw [s0,x1]) h=Nr P K s0 x1 h:=by kernel_rfl
theorem f124 {K:VK} {s0 x1:Value} {h:ae} (H:Nr prog K s0 x1 h):ak prog 124 [s0,x1] h K:=
 bP ayy (bL rfl) ((au7 prog K s0 x1 h).mpr H)
end
noncomputable section
variable (s0 i4 x5 n6 x7 x8 au aA aP cm cG cM dV db dD dW bQ cB : Value) (L1 L2 : LQ) (xs : List Value) (h : ae)
def agS:=bC prog 125 [[],[],[0,11],[12],[],[],[],[0,4,11,12,19],[0,11,12,19,23],[],[],[],[0],[0,28],[0,28,32],[0,28,32,35],[0,28,36],[0,38],[0,38,41],[],[],[],[],[],[0,5],[],[],[],[],[],[0,5,6,50],[7,8,51],[],[],[],[],[0,5,6,7,8],[],[5],[]]
@[irreducible] def Hl:=bN agS
@[irreducible] def Hn:=Hl.r.l.r.l.l
@[irreducible] def ZW:=Hl.r.r
@[irreducible] def ZU:=Hn.r.r.l.l.r.l.r.l
@[irreducible] def arD:=Hn.r.r.l.l.r.r
@[irreducible] def arK:=Hn.r.r.r
@[irreducible] def Hm:=ZW.l
@[irreducible] def arE:=ZU.r.l
@[irreducible] def ZX:=Hm.l.l.r.l
@[irreducible] def arF:=Hm.l.r
@[irreducible] def O6:=Hm.r
@[irreducible] def ZY:=ZX.r.l
@[irreducible] def O7:=O6.r.l.l.l
@[irreducible] def Z2:=O6.r.r
@[irreducible] def ZZ:=ZY.r.l
@[irreducible] def arH:=O7.r.l.r.r.l.r.l.l
@[irreducible] def Z3:=O7.r.l.r.r.r
@[irreducible] def arJ:=Z2.l
@[irreducible] def Z0:=ZZ.r.l
@[irreducible] def arI:=Z3.l
@[irreducible] def Z1:=Z0.r.l
@[irreducible] def arG:=Z1.r.l
theorem ayz:agS=some (77,Hl,[.tmp 2,.tmp 3]):=by kernel_rfl
def wU (_P:Program) (K:VK):ar:=aS [.tmp 2,.tmp 3] K
def aof:ar:=aF (aj P ZW (wU P K)) (wU P K)
def aoi:ar:=bO 0 (aof P K)
def Ms:ar:=aF (fun f' aT=>(([0,11]:List Nat).map f':List Value)=[s0,au]∧L1 (([12]:List Nat).map f') aT) (aoi P K)
def aom:ar:=aF (aj P arK (Ms P K s0 au L1)) (Ms P K s0 au L1)
def Xq:ar:=bO 1 (aom P K s0 au L1)
def Xn:ar:=aF (aj P arD (Xq P K s0 au L1)) (Xq P K s0 au L1)
def Xo:ar:=aF (aj P O6 (wU P K)) (wU P K)
def AX:ar:=aF (aj P arF (Xo P K)) (Xo P K)
def aog:ar:=aF (aj P Z2 (wU P K)) (wU P K)
def aoh:ar:=bO 2 (aog P K)
def Xp:ar:=aF (fun f' aT=>(([]:List Nat).map f':List Value)=[]∧L1 (([0,5]:List Nat).map f') aT) (aoh P K)
def Mr:ar:=bO 3 (Xp P K L1)
def aoj:ar:=aF (aj P Z3 (Mr P K L1)) (Mr P K L1)
def aok:ar:=bO 4 (aoj P K L1)
def aol:ar:=aF (fun f' aT=>(([0,5,6,50]:List Nat).map f':List Value)=[s0,x5,n6,bQ]∧L2 (([7,8,51]:List Nat).map f') aT) (aok P K L1)
def aiV:Prop:=ay (aj P Hn (Ms P K s0 au L1)) ([0,11]++[12]) ([s0,au]++xs) h
def aiQ:Prop:=ay (aj P ZU (Xn P K s0 au L1)) [0,4,11,12,19] [s0,i4,au,aA,aP] h
def TJ:Prop:=ay (aj P arE (Xn P K s0 au L1)) [0,11,12,19,23] [s0,au,aA,aP,cm] h
def aiR:Prop:=ay (aj P Hm (wU P K)) [0] [s0] h
def aiS:Prop:=ay (aj P ZX (AX P K)) [0,28] [s0,cG] h
def TK:Prop:=ay (aj P ZY (AX P K)) [0,28,32] [s0,cG,cM] h
def TM:Prop:=ay (aj P ZZ (AX P K)) [0,28,32,35] [s0,cG,cM,dV] h
def TN:Prop:=ay (aj P Z0 (AX P K)) [0,28,36] [s0,cG,db] h
def TO:Prop:=ay (aj P Z1 (AX P K)) [0,38] [s0,dD] h
def Fs:Prop:=ay (aj P arG (AX P K)) [0,38,41] [s0,dD,dW] h
def aiT:Prop:=ay (aj P O7 (Xp P K L1)) ([]++[0,5]) ([]++xs) h
def aiU:Prop:=ay (aj P arH (aol P K s0 x5 n6 bQ L1 L2)) ([0,5,6,50]++[7,8,51]) ([s0,x5,n6,bQ]++xs) h
def aiW:Prop:=ay (aj P arI (Mr P K L1)) [0,5,6,7,8] [s0,x5,n6,x7,x8] h
def aiX:Prop:=ay (aj P arJ (wU P K)) [5] [x5] h
theorem alg:TJ P K s0 au aA aP cm L1 h=
 (OP (bX aP (.bool true) cm) fun bt=>
 aO bt
 (K (.tuple #[(.slice none 0 0),(.bool false)]) h)
 (OP (ai .add aA (.int .i64 (1))) fun bu=>
 ([s0,au]:List Value)=[s0,au]∧L1 [bu] h)):=az (by kernel_rfl)
theorem alf:aiQ P K s0 i4 au aA aP L1 h=
 (cD aP false
 (OP (jW s0 i4) fun bH=>
 OP (ai .gtr bH (.int .u8 (57))) fun cm=>
 TJ P K s0 au aA aP cm L1 h)
 (TJ P K s0 au aA aP undef L1 h)):=az (by kernel_rfl)
theorem aBc (s0 au:Value) (L1:LQ) (aA:Value) (h:ae):aiV P K s0 au L1 [aA] h=
 (OP (ai .lss aA au) fun aC=>
 aO aC
 (OP (jW s0 aA) fun bY=>
 OP (ai .lss bY (.int .u8 (48))) fun aR=>
 aiQ P K s0 aA au aA aR L1 h)
 (aiR P K s0 h)):=az (by kernel_rfl)
theorem alj:Fs P K s0 dD dW h=
 (OP (bX dD (.bool true) dW) fun eB=>
 aO eB
 (K (.tuple #[(.slice none 0 0),(.bool false)]) h)
 (cN [s0,(.slice none 0 0)] h fun L1 xs hx=>
 aiT P K L1 xs hx)):=az (by kernel_rfl)
theorem UP:TO P K s0 dD h=
 (cD dD false
 (OP (gy s0) fun ep=>
 OP (ai .gtr ep (.int .i64 (4000))) fun dW=>
 Fs P K s0 dD dW h)
 (Fs P K s0 dD undef h)):=az (by kernel_rfl)
theorem UO:TN P K s0 cG db h=
 (OP (bX cG (.bool true) db) fun fF=>
 TO P K s0 fF h):=az (by kernel_rfl)
theorem UN:TM P K s0 cG cM dV h=
 (cD cG false
 (OP (bX cM dV (.bool false)) fun db=>
 TN P K s0 cG db h)
 (TN P K s0 cG undef h)):=az (by kernel_rfl)
theorem ali:TK P K s0 cG cM h=
 (cD cM true
 (OP (gy s0) fun cj=>
 OP (ai .gtr cj (.int .i64 (1))) fun dV=>
 TM P K s0 cG cM dV h)
 (TM P K s0 cG cM undef h)):=az (by kernel_rfl)
theorem alh:aiS P K s0 cG h=
 (cD cG false
 (OP (jW s0 (.int .i64 (0))) fun dO=>
 OP (ai .eql dO (.int .u8 (48))) fun cg=>
 TK P K s0 cG cg h)
 (TK P K s0 cG undef h)):=az (by kernel_rfl)
theorem aBb (s0 x5 n6 bQ:Value) (L1 L2:LQ) (x7 x8 cB:Value) (h:ae):aiU P K s0 x5 n6 bQ L1 L2 [x7,x8,cB] h=
 (OP (ai .lss cB bQ) fun cT=>
 aO cT
 (OP (ai .mul (.int .u32 (10)) x7) fun gG=>
 OP (jW s0 cB) fun fW=>
 OP (ai .sub fW (.int .u8 (48))) fun fG=>
 OP (c8 .u32 fG) fun jR=>
 OP (ai .add gG jR) fun fQ=>
 OP (ai .mul (.int .u32 (10)) x8) fun jS=>
 OP (ai .add cB (.int .i64 (1))) fun jd=>
 ([s0,x5,n6,bQ]:List Value)=[s0,x5,n6,bQ]∧L2 [fQ,jS,jd] h)
 (aiW P K s0 x5 n6 x7 x8 L1 h)):=az (by kernel_rfl)
theorem aBd:aiW P K s0 x5 n6 x7 x8 L1 h=
 (OH (cW 177 1 [(.int .u32 (0))] h [(0,1,x8)]) fun fX z1=>
 ak P 122 [x5,fX] z1 fun gp z2=>
 OH (cW 177 1 [(.int .u32 (0))] z2 [(0,1,x7)]) fun oP z3=>
 ak P 118 [oP] z3 fun gO z4=>
 ak P 128 [gp,gO] z4 fun mI z5=>
 OP (lj s0 (some n6) none) fun kE=>
 ([]:List Value)=[]∧L1 [kE,mI] z5):=az (by kernel_rfl)
theorem aBa (L1:LQ) (s0 x5:Value) (h:ae):aiT P K L1 [s0,x5] h=
 (OP (ai .neq s0 (.string ⟨#[]⟩)) fun bJ=>
 aO bJ
 (OP (gy s0) fun dE=>
 OP (ai .sub dE (.int .i64 (1))) fun lJ=>
 OP (ai .rem lJ (.int .i64 (9))) fun fx=>
 OP (ai .add fx (.int .i64 (1))) fun gF=>
 cN [(.int .u32 (0)),(.int .u32 (1)),(.int .i64 (0))] h fun L2 xs hx=>
 aiU P K s0 x5 gF gF L1 L2 xs hx)
 (aiX P K x5 h)):=az (by kernel_rfl)
theorem aBe:aiX P K x5 h=
 (K (.tuple #[x5,(.bool true)]) h):=az (by kernel_rfl)
theorem aA9:aiR P K s0 h=
 (OP (ai .eql s0 (.string ⟨#[]⟩)) fun bE=>
 aiS P K s0 bE h):=az (by kernel_rfl)
def Ns:Prop:=
 OP (gy s0) fun au=>
 cN [(.int .i64 (0))] h fun L1 xs hx=>
 aiV P K s0 au L1 xs hx
theorem au8:aj P Hl (aS [.tmp 2,.tmp 3] K) (bw [s0]) h=Ns P K s0 h:=by kernel_rfl
theorem f125 {K:VK} {s0:Value} {h:ae} (H:Ns prog K s0 h):ak prog 125 [s0] h K:=
 bP ayz (bL rfl) ((au8 prog K s0 h).mpr H)
end
noncomputable section
variable (s0 x1 : Value) (h : ae)
def agY:=bC prog 131 [[],[],[],[],[],[]]
@[irreducible] def aaa:=bN agY
theorem ayF:agY=some (23,aaa,[.tmp 4,.tmp 5,.tmp 6]):=by kernel_rfl
def Nx:Prop:=
 ak P 139 [s0,x1] h fun aE z1=>
 OP (ai .geq aE (.int .i64 (0))) fun aA=>
 aO aA
 (OP (lj s0 none (some aE)) fun bf=>
 OP (gy x1) fun aP=>
 OP (ai .add aE aP) fun aX=>
 OP (lj s0 (some aX) none) fun ba=>
 K (.tuple #[bf,ba,(.bool true)]) z1)
 (K (.tuple #[s0,(.string ⟨#[]⟩),(.bool false)]) z1)
theorem ave:aj P aaa (aS [.tmp 4,.tmp 5,.tmp 6] K) (bw [s0,x1]) h=Nx P K s0 x1 h:=by kernel_rfl
theorem f131 {K:VK} {s0 x1:Value} {h:ae} (H:Nx prog K s0 x1 h):ak prog 131 [s0,x1] h K:=
 bP ayF (bL rfl) ((ave prog K s0 x1 h).mpr H)
end
noncomputable section
variable (s0 x1 : Value) (h : ae)
def agZ:=bC prog 132 [[],[],[],[],[]]
@[irreducible] def aab:=bN agZ
theorem ayG:agZ=some (15,aab,[.tmp 4,.tmp 5]):=by kernel_rfl
def Ny:Prop:=
 ak P 140 [s0,x1] h fun x8 z1=>
 OP (gT .not x8) fun x9=>
 aO x9
 (K (.tuple #[s0,(.bool false)]) z1)
 (OP (gy x1) fun aC=>
 OP (lj s0 (some aC) none) fun aI=>
 K (.tuple #[aI,(.bool true)]) z1)
theorem avf:aj P aab (aS [.tmp 4,.tmp 5] K) (bw [s0,x1]) h=Ny P K s0 x1 h:=by kernel_rfl
theorem f132 {K:VK} {s0 x1:Value} {h:ae} (H:Ny prog K s0 x1 h):ak prog 132 [s0,x1] h K:=
 bP ayG (bL rfl) ((avf prog K s0 x1 h).mpr H)
end
noncomputable section
variable (s0 x1 x4 n5 Dv t9 xZ w9 aP bH db tK np : Value) (L1 : LQ) (xs : List Value) (h : ae)
def ag6:=bC prog 139 [[],[],[0,1,4,5,12,19,36,107,132],[0,1,4,5,12,19,22,36,107,132],[],[],[],[],[],[],[],[],[],[],[],[],[],[],[0,1,5,6,7,9],[8,10,12,107,132],[],[],[],[],[],[],[],[0,1,5,6,7,8,9,10,12,107,132],[0,1,5,6,7,8,9,10,12,84,107,132],[0,1,5,6,7,8,9,10,12,84,92,107,132],[],[],[],[],[],[],[],[],[],[],[],[],[],[],[],[],[],[],[]]
@[irreducible] def Dx:=bN ag6
@[irreducible] def aam:=Dx.r.r.l.l.l.r.l
@[irreducible] def ar7:=Dx.r.r.l.l.r
@[irreducible] def Pe:=Dx.r.r.r
@[irreducible] def ar8:=aam.r.l
@[irreducible] def ar6:=Pe.r.r.r.r.r.l.l.l
@[irreducible] def ar5:=Pe.r.r.r.r.r.r
theorem ayN:ag6=some (143,Dx,[.tmp 4]):=by kernel_rfl
def Gw (_P:Program) (K:VK):ar:=aS [.tmp 4] K
def aoU:ar:=aF (aj P Pe (Gw P K)) (Gw P K)
def Xs:ar:=bO 0 (aoU P K)
def Xt:ar:=aF (aj P ar7 (Xs P K)) (Xs P K)
def aoR:ar:=aF (aj P ar5 (Gw P K)) (Gw P K)
def aoS:ar:=bO 1 (aoR P K)
def aoT (s0 x1 n5 Dv w9 t9:Value) (L1:LQ):ar:=aF (fun f' aT=>(([0,1,5,6,7,9]:List Nat).map f':List Value)=[s0,x1,n5,Dv,w9,t9]∧L1 (([8,10,12,107,132]:List Nat).map f') aT) (aoS P K)
def ajf:Prop:=ay (aj P aam (Xt P K)) [0,1,4,5,12,19,36,107,132] [s0,x1,x4,n5,xZ,aP,db,tK,np] h
def TR:Prop:=ay (aj P ar8 (Xt P K)) [0,1,4,5,12,19,22,36,107,132] [s0,x1,x4,n5,xZ,aP,bH,db,tK,np] h
def az2 (s0 x1 n5 Dv w9 t9:Value) (L1:LQ) (xs:List Value) (h:ae):Prop:=ay (aj P ar6 (aoT P K s0 x1 n5 Dv w9 t9 L1)) ([0,1,5,6,7,9]++[8,10,12,107,132]) ([s0,x1,n5,Dv,w9,t9]++xs) h
theorem aBF:TR P K s0 x1 x4 n5 xZ aP bH db tK np h=
 (OP (bX aP (.bool true) bH) fun cm=>
 aO cm
 (K (.int .i64 (0)) h)
 (OP (ai .eql n5 (.int .i64 (1))) fun bI=>
 aO bI
 (OP (jW x1 (.int .i64 (0))) fun cL=>
 ak P 142 [s0,cL] h fun dO z1=>
 K dO z1)
 (OP (gy s0) fun cj=>
 OP (ai .geq n5 cj) fun dV=>
 aO dV
 (K (.int .i64 (-1)) h)
 (OH none fun _ z1=>
 aO db
 (OH none fun _ z2=>
 K x4 z2)
 (OP (jW x1 (.int .i64 (0))) fun gF=>
 OP (jW x1 (.int .i64 (1))) fun cB=>
 OP (gy s0) fun j6=>
 OP (ai .sub j6 n5) fun gG=>
 OP (ai .add gG (.int .i64 (1))) fun jv=>
 cN [(.int .i64 (0)),(.int .i64 (0)),xZ,tK,np] z1 fun L1 xs hx=>
 az2 P K s0 x1 n5 gF cB jv L1 xs hx))))):=az (by kernel_rfl)
theorem aBE:ajf P K s0 x1 x4 n5 xZ aP db tK np h=
 (cD aP false
 (OP (ai .eql x1 s0) fun bH=>
 TR P K s0 x1 x4 n5 xZ aP bH db tK np h)
 (TR P K s0 x1 x4 n5 xZ aP undef db tK np h)):=az (by kernel_rfl)
def NG:Prop:=
 OP (gy x1) fun bf=>
 OP (ai .eql bf (.int .i64 (0))) fun aR=>
 ajf P K s0 x1 (.int .i64 (0)) bf undef aR undef undef undef h
theorem avm:aj P Dx (aS [.tmp 4] K) (bw [s0,x1]) h=NG P K s0 x1 h:=by kernel_rfl
theorem f139 {K:VK} {s0 x1:Value} {h:ae} (H:NG prog K s0 x1 h):ak prog 139 [s0,x1] h K:=
 bP ayN (bL rfl) ((avm prog K s0 x1 h).mpr H)
end
noncomputable section
variable (s0 x1 aE bp : Value) (h : ae)
def ag7:=bC prog 140 [[],[0,1,10],[10,16],[]]
@[irreducible] def Hv:=bN ag7
@[irreducible] def aan:=Hv.r.l.r.l
@[irreducible] def ar9:=Hv.r.r
@[irreducible] def asa:=aan.r.l
theorem ayO:ag7=some (18,Hv,[.tmp 4]):=by kernel_rfl
def Xu (_P:Program) (K:VK):ar:=aS [.tmp 4] K
def Xv:ar:=aF (aj P ar9 (Xu P K)) (Xu P K)
def ajg:Prop:=ay (aj P aan (Xv P K)) [0,1,10] [s0,x1,aE] h
def TU:Prop:=ay (aj P asa (Xv P K)) [10,16] [aE,bp] h
theorem alm:TU P K aE bp h=
 (OP (bX aE bp (.bool false)) fun bY=>
 K bY h):=az (by kernel_rfl)
theorem aBG:ajg P K s0 x1 aE h=
 (cD aE true
 (OP (gy x1) fun aC=>
 OP (lj s0 none (some aC)) fun aI=>
 OP (ai .eql aI x1) fun bp=>
 TU P K aE bp h)
 (TU P K aE undef h)):=az (by kernel_rfl)
def NH:Prop:=
 OP (gy s0) fun x6=>
 OP (gy x1) fun x8=>
 OP (ai .geq x6 x8) fun x9=>
 ajg P K s0 x1 x9 h
theorem avn:aj P Hv (aS [.tmp 4] K) (bw [s0,x1]) h=NH P K s0 x1 h:=by kernel_rfl
theorem f140 {K:VK} {s0 x1:Value} {h:ae} (H:NH prog K s0 x1 h):ak prog 140 [s0,x1] h K:=
 bP ayO (bL rfl) ((avn prog K s0 x1 h).mpr H)
end
noncomputable section
variable (s0 c1 : Value) (h : ae)
def ag9:=bC prog 142 [[],[]]
@[irreducible] def aap:=bN ag9
theorem ayQ:ag9=some (8,aap,[.tmp 4]):=by kernel_rfl
def NJ (_:Program) (K:VK) (s0 c1:Value) (h:ae):Prop:=
 OP (EU s0 c1) fun x7=>
 K x7 h
theorem avp:aj P aap (aS [.tmp 4] K) (bw [s0,c1]) h=NJ P K s0 c1 h:=by kernel_rfl
theorem f142 {K:VK} {s0 c1:Value} {h:ae} (H:NJ prog K s0 c1 h):ak prog 142 [s0,c1] h K:=
 bP ayQ (bL rfl) ((avp prog K s0 c1 h).mpr H)
end
end
section
theorem afb (c:UInt8):∀s:List UInt8,Lib.indexByte s c=if s.idxOf c<s.length then (s.idxOf c:Int) else -1
 | []=>rfl
 | x::s=>by
  have ih:=afb c s
  rw [Lib.indexByte]
  by_cases h:(x==c)=true
  ·have e1:(x::s).idxOf c=0:=by rw [idxOf_cons,h];rfl
   rw [if_pos h,e1,if_pos (by simp)];rfl
  ·have h':(x==c)=false:=by simpa using h
   have e1:(x::s).idxOf c=s.idxOf c+1:=by rw [idxOf_cons,h'];rfl
   rw [if_neg h,ih,e1,List.length_cons]
   by_cases h2:s.idxOf c<s.length
   ·have h3:¬(((s.idxOf c:Nat):Int)== -1)=true:=by
     rw [beq_iff_eq];omega
    rw [if_pos h2,if_pos (show s.idxOf c+1<s.length+1 by omega),if_neg h3]
    omega
   ·rw [if_neg h2,if_neg (show ¬s.idxOf c+1<s.length+1 by omega)]
    rfl
theorem wM (a b c:Value):(#[a,b,c]:Array Value)[0]?=some a∧(#[a,b,c]:Array Value)[1]?=some b∧(#[a,b,c]:Array Value)[2]?=some c:=⟨rfl,rfl,rfl⟩
section
variable {h : ae} {K : Value → ae → Prop} {s : List UInt8}
theorem ani {c:UInt8} (hk:K (I (if s.idxOf c<s.length then (s.idxOf c:Int) else -1)) h):ak prog 142 [S s,cv c] h K:=by
 refine f142 ?_
 have e:EU (S s) (cv c)=some (I (if s.idxOf c<s.length then (s.idxOf c:Int) else -1)):=by
  have e1:EU (S s) (cv c)=some (Value.int .i64 (Lib.indexByte (Go.Sim.bytes (ByteArray.mk s.toArray)) ((c.toNat:Int)).toNat.toUInt8)):=rfl
  rw [e1,Y1,Int.toNat_natCast,afb]
  have:c.toNat.toUInt8=c:=by simp
  rw [this]
 simp only [NJ,e,ah]
 exact hk
theorem ang {c:UInt8} (hk:K (I (if s.idxOf c<s.length then (s.idxOf c:Int) else -1)) h):ak prog 139 [S s,S [c]] h K:=by
 refine f139 ?_
 have l1:gy (S [c])=some (I 1):=rfl
 have ix:jW (S [c]) (.int .i64 0)=some (cv c):=rfl
 have e1:ai .eql (I 1) (.int .i64 0)=some (B false):=rfl
 have e2:ai .eql (I 1) (.int .i64 1)=some (B true):=rfl
 simp only [NG,l1,ah,e1]
 rw [aBE]
 simp only [eQ,OS,ah]
 rw [aBF]
 simp only [dU,ah,bW]
 refine ⟨fun he=>?_,fun _=>?_⟩
 ·have e3:s.idxOf c=0:=by rw [←he];simp
  have e4:0<s.length:=by rw [←he];simp
  rw [e3,if_pos e4] at hk
  exact hk
 ·simp only [e2,ah,dS,ix]
  exact ani hk
theorem am6 (hl:s.length≤1000) (hk:K (.tuple #[S (dA s),S (if nF s=true then dQ s else []),B (nF s)]) h):ak prog 123 [S s,S [47]] h K:=by
 refine f123 ?_
 unfold Nq
 refine f131 ?_
 unfold Nx
 refine ang ?_
 have l1:gy (S [47])=some (I 1):=rfl
 by_cases aD:s.idxOf 47<s.length
 ·have hs:nF s=true:=aZ aD
  rw [hs,if_pos rfl] at hk
  rw [if_pos aD]
  have wi:IntKind.wrap .i64 (((s.idxOf 47:Nat):Int)+1)=((s.idxOf 47+1:Nat):Int):=by rw [wrap64 (by omega) (by omega)];omega
  have wI:=Vv (a:=s) (n:=s.idxOf 47) (by omega) .i64
  have FO:=CE (a:=s) (n:=s.idxOf 47+1) (by omega) .i64
  simp only [nA,ah,aZ (show (0:Int)≤((s.idxOf 47:Nat):Int) by omega),dS,wI,l1,cP,wi,FO,eC,(wM _ _ _).1,(wM _ _ _).2.1,(wM _ _ _).2.2]
  exact hk
 ·have hs:nF s=false:=aU aD
  rw [hs,if_neg (by decide)] at hk
  rw [if_neg aD]
  have ho:dA s=s:=by unfold dA;exact List.take_of_length_le (by omega)
  rw [ho] at hk
  simp only [nA,ah,show decide ((0:Int)≤ -1)=false from rfl,dR,eC,(wM _ _ _).1,(wM _ _ _).2.1,(wM _ _ _).2.2]
  exact hk
theorem am7 (hl:s.length≤1000) (hk:K (.tuple #[S (if s.head?=some 45 then s.tail else s),B (decide (s.head?=some 45))]) h):ak prog 124 [S s,S [45]] h K:=by
 refine f124 ?_
 unfold Nr
 refine f132 ?_
 unfold Ny
 refine f140 ?_
 have l1:gy (S [45])=some (I 1):=rfl
 have fin:∀b:Bool,b=decide (s.head?=some 45)→(OP (gT .not (B b)) fun x9=>
   aO x9
    (OP (ca 0 (.tuple #[S s,.bool false])) fun x9=>OP (ca 1 (.tuple #[S s,.bool false])) fun aE=>K (.tuple #[x9,aE]) h)
    (OP (lj (S s) (some (I 1)) none) fun aI=>OP (ca 0 (.tuple #[aI,.bool true])) fun x9=>OP (ca 1 (.tuple #[aI,.bool true])) fun aE=>K (.tuple #[x9,aE]) h)):=by
  intro b hb
  by_cases hh:s.head?=some 45
  ·rw [aZ hh] at hb hk
   rw [if_pos hh] at hk
   subst hb
   have h1:1≤s.length:=by
    cases s with
    | nil=>simp at hh
    | cons x t=>simp
   have FO:lj (S s) (some (I 1)) none=some (S s.tail):=by
    rw [←List.drop_one]
    exact CE (a:=s) (n:=1) h1 .i64
   simp only [tG,ah,Bool.not_true,dR,FO,eC,eO,eY]
   exact hk
  ·rw [aU hh] at hb hk
   rw [if_neg hh] at hk
   subst hb
   simp only [tG,ah,Bool.not_false,dS,eC,eO,eY]
   exact hk
 unfold NH
 simp only [lX,l1,ah,nA]
 rw [aBG]
 cases s with
 | nil=>
  simp only [List.length_nil,show decide ((1:Int)≤((0:Nat):Int))=false from rfl,lK]
  rw [alm]
  simp only [dU,ah]
  exact fin false (by simp)
 | cons x t=>
  have wI:lj (S (x::t)) none (some (I 1))=some (S [x]):=by
   have:=Vv (a:=x::t) (n:=1) (by simp) .i64
   simpa using this
  rw [aZ (show (1:Int)≤((x::t).length:Int) by rw [List.length_cons];omega)]
  simp only [gQ,l1,ah,wI,OS]
  rw [alm]
  simp only [ef,ah]
  exact fin (decide ([x]=[45])) (by rw [decide_eq_decide];constructor <;> intro h <;> simpa using h)
end
end
section
theorem aFg {s:List UInt8} {i:Nat} (h:i<s.length):dJ (s.take (i+1))=10*dJ (s.take i)+(s[i].toNat-48):=by
 rw [take_succ_eq_append_getElem h,AI,LA]
 simp
 omega
theorem aDE (k:IntKind) {a b:Int} (ha:0≤a) (hb:0<b):ai .rem (.int k a) (.int k b)=some (.int k (a%b)):=by
 simp only [ai,ie,if_true]
 rw [if_neg (by omega),Int.tmod_eq_emod_of_nonneg ha]
theorem SH {g:ae} {d:Nat} (hd:d<4294967296) (h0:0<d):dm (g++[.arr 177 [.int .u32 (d:Int)]]) (sl 177 g.length 0 1) d:=
 ⟨[d],.inr ⟨g.length,rfl,.inr ⟨[],by simp [aQ]⟩⟩,⟨fun x hx=>by rw [mem_singleton.1 hx];exact hd,by simp;omega⟩,by simp [val]⟩
section
variable {h : ae} {K : Value → ae → Prop} {s : List UInt8}
theorem Wx (hl:s.length≤700) (hk:∀v h',EX h h'→dm h' v (cF s)→K (.tuple #[v,B (gJ s)]) h'):ak prog 125 [S s] h K:=by
 have bad:gJ s=false→K (.tuple #[.slice none 0 0,.bool false]) h:=by
  intro hb
  have:=hk (.slice none 0 0) h (EX.refl h) ⟨[],DS.nil _ _ _,dj.nil _,by unfold cF;rw [if_neg (by rw [hb];decide)];rfl⟩
  rw [hb] at this
  exact this
 refine f125 ?_
 unfold Ns
 simp only [lX,ah]
 refine dI (σ:=Nat) (fun i=>[I i]) (fun _=>h) (fun i=>i≤s.length∧kl (s.take i)) (fun i=>s.length-i) 0 rfl rfl ⟨zero_le _,by simp [kl]⟩ ?_
 intro i ⟨hi,nG⟩ L hL
 rw [aBc]
 simp only [cS,ah,bW]
 refine ⟨fun aD=>?_,fun cE=>?_⟩
 ·have pV:i<s.length:=by omega
  have ix:=wg (a:=s) (i:=i) pV .i64
  have E5:ai .lss (cv s[i]) (.int .u8 48)=some (B (decide ((s[i].toNat:Int)<48))):=rfl
  have IV:ai .gtr (cv s[i]) (.int .u8 57)=some (B (decide ((s[i].toNat:Int)>57))):=rfl
  have no:¬(48≤s[i].toNat∧s[i].toNat≤57)→gJ s=false:=by
   intro hn
   cases e:gJ s with
   | false=>rfl
   | true=>exact absurd ((tX.1 e).2.2 _ (getElem_mem pV)) hn
  simp only [ix,ah,E5]
  by_cases mT:s[i].toNat<48
  ·rw [aZ (show (s[i].toNat:Int)<48 by omega),alf]
   simp only [gr]
   rw [alg]
   simp only [ef,ah,dS]
   exact bad (no (by omega))
  ·rw [aU (show ¬(s[i].toNat:Int)<48 by omega),alf]
   simp only [eQ,ix,ah,IV]
   rw [alg]
   simp only [dU,ah,bW]
   refine ⟨fun h57=>bad (no (by omega)),fun h57=>?_⟩
   simp only [cP,ft i (by omega),ah,true_and]
   refine hL (i+1) ⟨by omega,?_⟩ (by omega)
   rw [take_succ_eq_append_getElem pV]
   intro c hc
   rcases mem_append.1 hc with hc | hc
   ·exact nG c hc
   ·rw [mem_singleton.1 hc];omega
 have fO:i=s.length:=by omega
 subst fO
 rw [take_length] at nG
 clear hL
 have eE:(.string ⟨#[]⟩:Value)=S []:=rfl
 rw [aA9,eE]
 simp only [OS,ah]
 -- uO is left of gN aFR
 have go:gJ s=true→Fs prog K (S s) (B false) (B false) h:=by
  intro aH
  have hv:cF s=dJ s:=by unfold cF;rw [if_pos aH]
  rw [aH,hv] at hk
  rw [alj]
  simp only [dU,ah,dR]
  refine dI (σ:=List UInt8×List UInt8×Value×ae) (fun q=>[S q.2.1,q.2.2.1]) (fun q=>q.2.2.2) (fun q=>s=q.1++q.2.1∧dm q.2.2.2 q.2.2.1 (dJ q.1)∧EX h q.2.2.2) (fun q=>q.2.1.length)
   ([],s,.slice none 0 0,h) rfl rfl ⟨rfl,⟨[],DS.nil _ _ _,dj.nil _,rfl⟩,EX.refl h⟩ ?_
  rintro ⟨p,t,v,g⟩ ⟨bK,hm,hx⟩ L hL
  simp only at bK hm hx hL⊢
  rw [aBa,eE]
  simp only [YV,ah]
  by_cases ht:t=[]
  ·subst ht
   rw [aZ rfl]
   simp only [Bool.not_true,dR]
   rw [aBe]
   rw [append_nil] at bK
   rw [bK] at hk
   exact hk v g hx hm
  rw [aU ht]
  have EI:0<t.length:=List.length_pos_iff.2 ht
  have qR:p.length+t.length=s.length:=by rw [bK,length_append]
  have mA:kl t:=fun c hc=>nG c (by rw [bK];simp [hc])
  have hdp:kl p:=fun c hc=>nG c (by rw [bK];simp [hc])
  have w1:IntKind.wrap .i64 ((t.length:Int)-1)=((t.length-1:Nat):Int):=by rw [wrap64 (by omega) (by omega)];omega
  have w2:ai .rem (I (t.length-1:Nat)) (.int .i64 9)=some (I ((t.length-1)%9:Nat)):=by
   have:ai .rem (I (t.length-1:Nat)) (.int .i64 9)=some (I (((t.length-1:Nat):Int)%9)):=aDE .i64 (by omega) (by decide)
   rw [this];congr 2
  have w3:IntKind.wrap .i64 (((t.length-1)%9:Nat)+1:Int)=(((t.length-1)%9+1:Nat):Int):=by rw [wrap64 (by omega) (by omega)];omega
  simp only [Bool.not_false,dS,lX,ah,gf,w1,w2,cP,w3]
  have hn9:(t.length-1)%9+1≤9:=by omega
  have oF:(t.length-1)%9+1≤t.length:=by omega
  have hn1:1≤(t.length-1)%9+1:=by omega
  generalize (t.length-1)%9+1=n at*
  refine dI (σ:=Nat) (fun i=>[.int .u32 (dJ (t.take i):Int),.int .u32 ((10^i:Nat):Int),I i]) (fun _=>g) (fun i=>i≤n) (fun i=>n-i) 0 rfl rfl (zero_le _) ?_
  intro i iW L2 iA
  have aD:=AJ (s:=t.take i) fun c hc=>mA c (List.mem_of_mem_take hc)
  rw [length_take,Nat.min_eq_left (by omega)] at aD
  have p9:(10:Nat)^i≤10^9:=pow_le_pow_right (by decide) (by omega)
  rw [aBb]
  simp only [cS,ah,bW]
  refine ⟨fun h1=>?_,fun h1=>?_⟩
  ·have sW:i<t.length:=by omega
   have hc:=mA _ (getElem_mem sW)
   have p8:(10:Nat)^i≤10^8:=pow_le_pow_right (by decide) (by omega)
   have ix:=wg (a:=t) (i:=i) sW .i64
   have m1:ai .mul (.int .u32 10) (.int .u32 (dJ (t.take i):Int))=some (.int .u32 ((10*dJ (t.take i):Nat):Int)):=by
    rw [vg,show (10:Int)*(dJ (t.take i):Int)=((10*dJ (t.take i):Nat):Int) by omega,oM (by omega) (by omega)]
   have m2:ai .mul (.int .u32 10) (.int .u32 ((10^i:Nat):Int))=some (.int .u32 ((10^(i+1):Nat):Int)):=by
    rw [vg,show (10:Int)*((10^i:Nat):Int)=((10^(i+1):Nat):Int) by rw [Nat.pow_succ];omega,oM (by omega) (by rw [Nat.pow_succ];omega)]
   have Vq:ai .sub (cv t[i]) (.int .u8 48)=some (.int .u8 ((t[i].toNat-48:Nat):Int)):=by
    show some (Value.int .u8 (IntKind.wrap .u8 ((t[i].toNat:Int)-48)))=_
    have e:IntKind.wrap .u8 ((t[i].toNat:Int)-48)=((t[i].toNat:Int)-48)%256:=by simp [IntKind.wrap,IntKind.bits,IntKind.signed]
    rw [e];congr 2;omega
   have c1:c8 .u32 (.int .u8 ((t[i].toNat-48:Nat):Int))=some (.int .u32 ((t[i].toNat-48:Nat):Int)):=by rw [jx,oM (by omega) (by omega)]
   have a1:ai .add (.int .u32 ((10*dJ (t.take i):Nat):Int)) (.int .u32 ((t[i].toNat-48:Nat):Int))=some (.int .u32 (dJ (t.take (i+1)):Int)):=by
    rw [aFg sW,cP,←Int.natCast_add,oM (by omega) (by omega)]
   simp only [m1,ix,Vq,c1,a1,m2,cP,ft i (by omega),ah,true_and]
   exact iA (i+1) (by omega) (by omega)
  ·have fO:i=n:=by omega
   subst fO
   have aer:(10:Nat)^i<4294967296:=by omega
   have iJ:0<(10:Nat)^i:=Nat.pow_pos (by decide)
   have lp:=AJ hdp
   have aFN:(10:Nat)^p.length≤bG:=tB (by omega)
   have Js:dJ p*10^i+dJ (t.take i)=dJ (p++t.take i):=by
    rw [AI,length_take,Nat.min_eq_left oF]
   have awv:kl (p++t.take i):=fun c hc=>by
    rcases mem_append.1 hc with hc | hc
    ·exact hdp c hc
    ·exact mA c (List.mem_of_mem_take hc)
   have lpt:=AJ awv
   rw [length_append,length_take,Nat.min_eq_left oF] at lpt
   have aFO:(10:Nat)^(p.length+i)≤bG:=tB (by omega)
   have mk:∀(g:ae) (r:Nat),cW 177 1 [(.int .u32 (0))] g [(0,1,.int .u32 (r:Int))]=some (sl 177 g.length 0 1,g++[.arr 177 [.int .u32 (r:Int)]]):=fun _ _=>rfl
   rw [aBd]
   simp only [mk,aB]
   have x1:EX g (g++[.arr 177 [.int .u32 ((10^i:Nat):Int)]]):=EX.append _ _
   refine Ww (hm.mono x1) (SH aer iJ) (by omega) (AK aer) ?_
   intro r1 g2 x2 m2
   have x3:EX g2 (g2++[.arr 177 [.int .u32 (dJ (t.take i):Int)]]):=EX.append _ _
   have dr:DS 177 .u32 (g2++[.arr 177 [.int .u32 (dJ (t.take i):Int)]]) (sl 177 g2.length 0 1) [dJ (t.take i)]:=.inr ⟨g2.length,rfl,.inr ⟨[],by simp [aQ]⟩⟩
   refine sF dr (fun x hx=>by rw [mem_singleton.1 hx];omega) (by simp) ?_
   intro r2 m3
   have e:val 4294967296 [dJ (t.take i)]=dJ (t.take i):=by simp [val]
   rw [e] at m3
   refine Wy (m2.mono x3) m3 (by omega) (AK (by omega)) ?_
   intro r3 g4 x4 m4
   rw [Js] at m4
   have wI:=CE (a:=t) (n:=i) oF .i64
   simp only [wI,ah,true_and]
   refine hL (p++t.take i,t.drop i,r3,g4) ⟨by rw [List.append_assoc,List.take_append_drop];exact bK,m4,((hx.trans x1).trans x2).trans (x3.trans x4)⟩ (by rw [length_drop];omega)
 have fail:gJ s=false→∀t u:Value,bX t (.bool true) u=some (B true)→Fs prog K (S s) t u h:=by
  intro hb t u ht
  rw [alj,ht]
  simp only [ah,dS]
  exact bad hb
 by_cases h0:s=[]
 ·have hb:gJ s=false:=by subst h0;rfl
  rw [aZ h0,alh]
  simp only [gr]
  rw [ali]
  simp only [AT]
  rw [UN]
  simp only [gr]
  rw [UO]
  simp only [ef,ah]
  rw [UP]
  simp only [gr]
  exact fail hb _ _ rfl
 have iJ:0<s.length:=List.length_pos_iff.2 h0
 rw [aU h0,alh]
 have ix:=wg (a:=s) (i:=0) iJ .i64
 simp only [Int.natCast_zero] at ix
 have hh:s.head?=some s[0]:=by rw [List.head?_eq_getElem?,getElem?_eq_getElem iJ]
 have e5:ai .eql (cv s[0]) (.int .u8 48)=some (B (decide ((s[0].toNat:Int)=48))):=rfl
 simp only [eQ,ix,ah,e5]
 rw [ali]
 have tail:∀(b:Bool),b=false→gJ s=true→TO prog K (S s) (B b) h:=by
  rintro _ rfl aH
  rw [UP]
  simp only [eQ,lX,ah,fS,aU (show ¬(4000:Int)<(s.length:Int) by omega)]
  exact go aH
 by_cases mT:s[0].toNat=48
 ·have RA:s.head?=some 48:=by rw [hh];congr 1;exact UInt8.toNat_inj.1 mT
  rw [aZ (show (s[0].toNat:Int)=48 by omega)]
  simp only [gQ,lX,ah,fS]
  rw [UN]
  simp only [eQ,ef,ah]
  rw [UO]
  simp only [dU,ah]
  by_cases h1:1<s.length
  ·have hb:gJ s=false:=by
    cases e:gJ s with
    | false=>rfl
    | true=>have:=(tX.1 e).2.1 RA;omega
   rw [aZ (show (1:Int)<(s.length:Int) by omega),UP]
   simp only [gr]
   exact fail hb _ _ rfl
  ·rw [aU (show ¬(1:Int)<(s.length:Int) by omega)]
   exact tail false rfl (tX.2 ⟨⟨iJ,by omega⟩,fun _=>by omega,nG⟩)
 ·rw [aU (show ¬(s[0].toNat:Int)=48 by omega)]
  simp only [lK]
  rw [UN]
  simp only [eQ,dU,ah]
  rw [UO]
  simp only [dU,ah]
  refine tail false rfl (tX.2 ⟨⟨iJ,by omega⟩,fun hc=>?_,nG⟩)
  rw [hh] at hc
  injection hc with hc
  rw [hc] at mT
  exact absurd rfl mT
end
end
section
def fE (s:List UInt8):List UInt8:=if s.head?=some 45 then s.tail else s
theorem UD (s:List UInt8):jK s=rk (decide (s.head?=some 45)) (fE s):=by
 unfold jK fE
 by_cases h:s.head?=some 45
 ·rw [if_pos h,if_pos h,aZ h]
 ·rw [if_neg h,if_neg h,aU h]
theorem azY (s:List UInt8):((dA s).head?=some 45↔s.head?=some 45)∧(if (dA s).head?=some 45 then (dA s).tail else dA s)=dA (fE s)∧nF s=nF (fE s)∧dQ s=dQ (fE s):=by
 cases s with
 | nil=>simp [dA,fE]
 | cons x t=>
  by_cases hx:x=45
  ·subst hx
   have e:((45:UInt8)::t).idxOf 47=t.idxOf 47+1:=by
    rw [idxOf_cons]
    have:((45:UInt8)==47)=false:=by decide
    rw [this];rfl
   have eu:fE (45::t)=t:=by unfold fE;simp
   have eo:dA (45::t)=45::dA t:=by unfold dA;rw [e,List.take_succ_cons]
   rw [eu,eo]
   refine ⟨by simp,by simp,?_,?_⟩
   ·unfold nF;rw [e,List.length_cons,decide_eq_decide];omega
   ·unfold dQ;rw [e];rfl
  ·have eu:fE (x::t)=x::t:=by unfold fE;rw [if_neg (by simpa using hx)]
   have dC:¬(dA (x::t)).head?=some 45:=by
    unfold dA
    cases h:(x::t).idxOf 47 with
    | zero=>simp
    | succ k=>rw [List.take_succ_cons];simpa using hx
   rw [eu,if_neg dC]
   exact ⟨⟨fun h=>absurd h dC,fun h=>absurd (by simpa using h) hx⟩,rfl,rfl,rfl⟩
theorem avR {g:ae} {j:Nat} {K:Value→ae→Prop} (hg:g[j]?=some (.arr 107 z4)) (hk:K (.tuple #[sC,B false]) (g.set j (.arr 107 z4))):
  OP (dh [(.bool false),(.slice none 0 0),(.bool false),(.slice none 0 0)] []) fun iR=>OH (aG 4 g (pt j 0) iR) fun _ h_1=>OP (af true 4 h_1 (pt j 0)) fun r0=>K (.tuple #[r0,(.bool false)]) h_1:=by
 have e:dh [(.bool false),(.slice none 0 0),(.bool false),(.slice none 0 0)] []=some sC:=rfl
 rw [e,ah]
 have s:=nR (x:=B false) (y:=.slice none 0 0) (z:=B false) (w:=.slice none 0 0) hg
 have s':aG 4 g (pt j 0) sC=some (undef,g.set j (.arr 107 z4)):=s
 rw [s',aB]
 have l:=ik (ck (o:=.arr 107 z4) hg)
 have l':af true 4 (g.set j (.arr 107 z4)) (pt j 0)=some sC:=l
 rw [l',ah]
 exact hk
section
variable {h : ae} {K : Value → ae → Prop} {s : List UInt8}
theorem Vu {m:Bool} {n:Nat}:(m&&decide (0<n))=decide ((if m=true then -(n:Int) else (n:Int))<0)∧(if m=true then -(n:Int) else (n:Int)).natAbs=n:=by
 cases m with
 | false=>simp
 | true=>
  refine ⟨?_,by simp⟩
  simp only [Bool.true_and,if_true]
  rw [decide_eq_decide];omega
theorem Wp {h0:ae} {m uK ok is:Bool} {n d:Nat} {v1 v2:Value} {i2:Nat} (k2:h[i2]?=some (.arr 107 z4)) (b2:h0.length≤i2) (hx:EX h0 h) (m1:dm h v1 n) (m2:dm h v2 d) (ln:n<bG) (ld:d<bG) (hd:is=true→0<d)
  (hk:ok=true→is=true→(m=true→n≠0)→(uK=true→gcd n d=1)→∀r h',EX h0 h'→gY h' r (if m=true then -(n:Int) else n) d→K (.tuple #[r,B true]) h')
  (fV:¬(ok=true∧is=true∧(m=true→n≠0)∧(uK=true→gcd n d=1))→∀a b c e h',EX h0 h'→K (.tuple #[.agg #[a,b,c,e],B false]) h'):
  Fo prog K (pt i2 0) (B uK) (B m) v1 (B ok) v2 (B is) h:=by
 have fail:¬(ok=true∧is=true∧(m=true→n≠0)∧(uK=true→gcd n d=1))→∀t u:Value,bX t (.bool true) u=some (B true)→Fp prog K (pt i2 0) (B uK) (B m) v1 v2 t u h:=by
  intro hb t u ht
  rw [alb,ht]
  simp only [ah,dS]
  exact avR k2 (fV hb _ _ _ _ _ (hx.set b2 _))
 have n1:∀b:Bool,gT .not (B b)=some (B (!b)):=fun _=>rfl
 have early:¬(ok=true∧is=true)→Tq prog K (pt i2 0) (B uK) (B m) v1 v2 (B true) h:=by
  intro hb
  rw [ak9]
  simp only [gr]
  rw [ala]
  simp only [AT]
  rw [UM]
  simp only [gr]
  exact fail (fun hc=>hb ⟨hc.1,hc.2.1⟩) _ _ rfl
 rw [aAA,n1,ah,aAB]
 cases ok with
 | false=>
  simp only [Bool.not_false,gr]
  rw [ak8]
  simp only [ef,ah]
  exact early (fun hc=>by cases hc.1)
 | true=>
 simp only [Bool.not_true,eQ,n1,ah]
 rw [ak8]
 simp only [dU,ah]
 cases is with
 | false=>exact early (fun hc=>by cases hc.2)
 | true=>
 have hd:=hd rfl
 simp only [Bool.not_true]
 rw [ak9]
 simp only [eQ]
 have main:(m=true→n≠0)→Fp prog K (pt i2 0) (B uK) (B m) v1 v2 (B false) (B false) h:=by
  intro hm
  rw [alb]
  simp only [dU,ah,dR]
  refine sE m1 ?_
  intro g1 x1
  refine sE (m2.mono x1) ?_
  intro g2 x2
  have aA:=x1.trans x2
  obtain ⟨sg1,Ld⟩:=Vu (m:=m) (n:=n)
  rw [sg1,Bool.false_and]
  have JQ:=m1.mono aA
  have m2':=(m2.mono x1).mono x2
  obtain ⟨xs,dx,_⟩:=id JQ
  obtain ⟨ys,dy,_⟩:=id m2'
  have eb:dh [(.bool false),(.slice none 0 0),(.bool false),(.slice none 0 0)] [(0,2,.agg #[B (decide ((if m=true then -(n:Int) else (n:Int))<0)),v1]),(2,2,.agg #[B false,v2])]=some (.agg #[B (decide ((if m=true then -(n:Int) else (n:Int))<0)),v1,B false,v2]):=by
   simp [dh,sN,iM,de,Value.cells,setAt]
  have e3:∀(g:ae),aV 107 [(.bool false),(.slice none 0 0),(.bool false),(.slice none 0 0)] g=some (pt g.length 0,g++[.arr 107 z4]):=fun _=>rfl
  simp only [eb,e3,ah,aB]
  have y1:EX g2 (g2++[.arr 107 z4]):=EX.append _ _
  have Si:(g2++[aq.arr 107 z4])[g2.length]?=some (.arr 107 z4):=br
  generalize g2++[aq.arr 107 z4]=g3 at y1 Si⊢
  have nK:i2<g2.length:=(bD (aA.get k2)).1
  rw [nR Si]
  simp only [aB]
  have k4:(g3.set g2.length (.arr 107 [B (decide ((if m=true then -(n:Int) else (n:Int))<0)),v1,B false,v2]))[g2.length]?=some (.arr 107 [B (decide ((if m=true then -(n:Int) else (n:Int))<0)),v1,B false,v2]):=ck Si
  have y2:EX g2 (g3.set g2.length (.arr 107 [B (decide ((if m=true then -(n:Int) else (n:Int))<0)),v1,B false,v2])):=y1.set (le_refl _) _
  generalize g3.set g2.length (.arr 107 [B (decide ((if m=true then -(n:Int) else (n:Int))<0)),v1,B false,v2])=g4 at k4 y2⊢
  have xA:=(hx.trans aA).trans y2
  have EZ:=(aA.trans y2).get k2
  have mm1:=JQ.mono y2
  have mm2:=m2'.mono y2
  generalize hN:(if m=true then -(n:Int) else (n:Int))=N at*
  have fin:∀{g5:ae} (b:Bool),EX g4 g5→((b=true→uK=true→gcd n d=1)∧(b=false→¬(uK=true→gcd n d=1)))→OH (aG 4 g5 (pt i2 0) (.agg #[B (decide (N<0)),v1,B false,v2])) fun _ h_8=>OP (af true 4 h_8 (pt i2 0)) fun r0=>K (.tuple #[r0,B b]) h_8:=by
   intro g5 b x5 hb
   have kk:=x5.get EZ
   refine rK (K:=fun v h=>K (.tuple #[v,B b]) h) kk ?_
   have xB:=(xA.trans x5).set b2 (.arr 107 [B (decide (N<0)),v1,B false,v2])
   cases b with
   | true=>
    refine hk rfl rfl hm (hb.1 rfl) _ _ xB ⟨v1,v2,by rw [aU (show ¬(d:Int)<0 by omega)],?_,?_⟩
    ·rw [Ld];exact (mm1.mono x5).bM kk _
    ·rw [natAbs_natCast];exact (mm2.mono x5).bM kk _
   | false=>exact fV (fun hc=>hb.2 rfl hc.2.2.2) _ _ _ _ _ xB
  rw [ik k4]
  simp only [ah,n1,true_and]
  cases uK with
  | false=>
   simp only [Bool.not_false,gr,ef,ah]
   exact fin true (EX.refl g4) ⟨fun _ h=>(by cases h),fun h=>by cases h⟩
  | true=>
   simp only [Bool.not_true,eQ,cw,add_zero,zero_add,jJ k4,kS k4,ah]
   refine Wu (a:=N) (b:=(d:Int)) ⟨v1,rfl,by rw [Ld];exact mm1⟩ (dT.nat mm2) (by rw [Ld];exact ln) (by rw [natAbs_natCast];exact ld) ?_
   intro r5 g5 x5 i5
   rw [Ld,natAbs_natCast] at i5
   simp only [ik (x5.get k4),true_and]
   refine C4 (by decide) (by decide) ?_
   intro r6 g6 x6 i6
   have xE:gcd n d≤d:=Nat.gcd_le_right _ hd
   simp only [ik ((x5.trans x6).get k4),true_and]
   refine LX (i5.mono x6) i6 (by rw [natAbs_natCast];omega) (by rw [show (1:Int).natAbs=1 from rfl];exact AK (by decide)) ?_
   intro g7 x7
   have eP:=x5.trans (x6.trans x7)
   simp only [ik (eP.get k4),true_and,jw,ah,dU]
   by_cases xD:gcd n d=1
   ·rw [xD]
    have:(if ((1:Nat):Int)-1=0 then (0:Int) else if ((1:Nat):Int)-1<0 then -1 else 1)=0:=rfl
    rw [this]
    exact fin true eP ⟨fun _ _=>xD,fun h=>by cases h⟩
   ·have:(if ((gcd n d:Nat):Int)-1=0 then (0:Int) else if ((gcd n d:Nat):Int)-1<0 then -1 else 1)≠0:=by
     rw [if_neg (by omega)];split <;> decide
    rw [aU this]
    exact fin false eP ⟨fun h=>(by cases h),fun _ hc=>xD (hc rfl)⟩
 rw [ala]
 cases m with
 | false=>
  simp only [lK]
  rw [UM]
  simp only [eQ,dU,ah]
  exact main (fun h=>by cases h)
 | true=>
  obtain ⟨l,p1,p2⟩:=m1.qf
  simp only [gQ,p1,ah,jw]
  rw [UM]
  simp only [eQ,ef,ah]
  by_cases hn:n=0
  ·rw [aZ (show (l:Int)=0 by omega)]
   exact fail (fun hc=>hc.2.2.1 rfl hn) _ _ rfl
  ·rw [aU (show ¬(l:Int)=0 by omega)]
   exact main (fun _=>hn)
end
end
section
theorem amD {s:List UInt8} (h:s.length≤700):cF s<bG:=lt_of_lt_of_le (Ly s) (tB (by omega))
theorem am0 {h:ae} {K:Value→ae→Prop} {s:List UInt8} (hl:s.length≤700)
  (hk:∀n d,jK s=some (n,d)→∀r h',EX h h'→gY h' r n d→K (.tuple #[r,B true]) h')
  (fV:jK s=none→∀a b c e h',EX h h'→K (.tuple #[.agg #[a,b,c,e],B false]) h'):ak prog 108 [S s] h K:=by
 obtain ⟨o1,o2,o3,o4⟩:=azY s
 have hp:=UD s
 have rU:(fE s).length≤700:=by
  unfold fE
  split
  ·rw [List.length_tail];omega
  ·exact hl
 have lo:(dA (fE s)).length≤700:=by unfold dA;rw [length_take];omega
 have lu:(dQ s).length≤700:=by unfold dQ;rw [length_drop];omega
 have los:(dA s).length≤700:=by unfold dA;rw [length_take];omega
 have hm:decide ((dA s).head?=some 45)=decide (s.head?=some 45):=by rw [decide_eq_decide];exact o1
 refine f108 ?_
 have e1:∀(g:ae),aV 107 [(.bool false),(.slice none 0 0),(.bool false),(.slice none 0 0)] g=some (pt g.length 0,g++[.arr 107 z4]):=fun _=>rfl
 have eS:(.string ⟨#[47]⟩:Value)=S [47]:=rfl
 have eM:(.string ⟨#[45]⟩:Value)=S [45]:=rfl
 simp only [Nb,e1,aB,eS,eM]
 have x0:EX h (h++[.arr 107 z4]):=EX.append _ _
 have k0:(h++[aq.arr 107 z4])[h.length]?=some (.arr 107 z4):=br
 generalize h++[aq.arr 107 z4]=g at x0 k0⊢
 refine am6 (by omega) ?_
 simp only [eC,(wM _ _ _).1,(wM _ _ _).2.1,(wM _ _ _).2.2,ah]
 refine am7 (by omega) ?_
 rw [o2,hm]
 simp only [eC,eO,eY,ah]
 refine Wx lo ?_
 intro v1 g1 x1 m1
 have mk:∀(g:ae),cW 177 1 [(.int .u32 (0))] g [(0,1,(.int .u32 (1)))]=some (sl 177 g.length 0 1,g++[.arr 177 [.int .u32 ((1:Nat):Int)]]):=fun _=>rfl
 simp only [eC,eO,eY,ah,mk,aB]
 have x2:EX g1 (g1++[.arr 177 [.int .u32 ((1:Nat):Int)]]):=EX.append _ _
 have aga:=SH (g:=g1) (d:=1) (by decide) (by decide)
 generalize g1++[aq.arr 177 [.int .u32 ((1:Nat):Int)]]=g2 at x2 aga⊢
 have nt:=x1.trans x2
 have hvo:=amD lo
 -- uO gN parts say is uO gN text aGA
 have Eb:∀{d:Nat},oZ (fE s)=true→pO (fE s)=d→gJ (dA (fE s))=true→(decide (s.head?=some 45)=true→cF (dA (fE s))≠0)→
   jK s=some (if decide (s.head?=some 45)=true then -(cF (dA (fE s)):Int) else (cF (dA (fE s)):Int),d):=by
  intro d a b c e
  rw [hp]
  unfold rk
  rw [if_pos ⟨a,c,e⟩,b]
 have bad:¬(oZ (fE s)=true∧gJ (dA (fE s))=true∧(decide (s.head?=some 45)=true→cF (dA (fE s))≠0))→jK s=none:=by
  intro hb
  rw [hp]
  unfold rk
  rw [if_neg hb]
 cases qR:nF s with
 | false=>
  rw [qR] at o3
  have mw:oZ (fE s)=true:=by unfold oZ;rw [←o3];rfl
  have zm:pO (fE s)=1:=by unfold pO;rw [←o3];rfl
  simp only [dR]
  refine Wp (h0:=h) (n:=cF (dA (fE s))) (d:=1) (is:=true) (nt.get k0) (by omega) (x0.trans nt) (m1.mono x2) aga hvo (AK (by decide)) (fun _=>by decide) (fun a _ c _=>?_) (fun hb=>?_)
  ·exact hk _ _ (Eb mw zm a c)
  ·refine fV (bad fun hc=>hb ⟨hc.2.1,rfl,hc.2.2,fun h=>by cases h⟩)
 | true=>
  rw [qR] at o3
  have hlu:=lu
  simp only [dS,if_true]
  refine Wx lu ?_
  intro v2 g3 x3 m2
  simp only [eC,eO,eY,ah]
  rw [aAz]
  have zm:pO (fE s)=cF (dQ s):=by unfold pO;rw [←o3,←o4];rfl
  have mw:oZ (fE s)=(gJ (dQ s)&&(decide (2≤cF (dQ s))&&decide (gcd (cF (dA (fE s))) (cF (dQ s))=1))):=by unfold oZ;rw [←o3,←o4];rfl
  have hvu:=amD lu
  have x03:=x0.trans (nt.trans x3)
  have fin:∀{g4:ae},EX g3 g4→∀is:Bool,is=(gJ (dQ s)&&decide (2≤cF (dQ s)))→Fo prog K (pt h.length 0) (B true) (B (decide (s.head?=some 45))) v1 (B (gJ (dA (fE s)))) v2 (B is) g4:=by
   intro g4 x4 is pV
   refine Wp (h0:=h) (n:=cF (dA (fE s))) (d:=cF (dQ s)) ((nt.trans (x3.trans x4)).get k0) (by omega) (x03.trans x4) ((m1.mono x2).mono (x3.trans x4)) (m2.mono x4) hvo hvu (fun h=>?_) (fun a b c d=>?_) (fun hb=>?_)
   ·rw [h] at pV
    have:=(Bool.and_eq_true_iff.1 pV.symm).2
    have:=of_decide_eq_true this
    omega
   ·refine hk _ _ (Eb ?_ zm a c)
    rw [b] at pV
    have h2:=Bool.and_eq_true_iff.1 pV.symm
    rw [mw,h2.1,h2.2,aZ (d rfl)];rfl
   ·refine fV (bad fun hc=>hb ⟨hc.2.1,?_,hc.2.2,fun _=>?_⟩)
    ·have h2:=hc.1
     rw [mw,and_eq_true,and_eq_true] at h2
     rw [pV,h2.1,h2.2.1];rfl
    ·have h2:=hc.1
     rw [mw,and_eq_true,and_eq_true] at h2
     exact of_decide_eq_true h2.2.2
  cases zv:gJ (dQ s) with
  | false=>
   simp only [lK]
   rw [ak7]
   simp only [dU,ah]
   exact fin (EX.refl g3) false (by rw [zv];rfl)
  | true=>
   simp only [gQ,mk,aB]
   have x4:EX g3 (g3++[.arr 177 [.int .u32 ((1:Nat):Int)]]):=EX.append _ _
   refine Gf (m2.mono x4) (SH (by decide) (by decide)) hvu (AK (by decide)) ?_
   have hs:decide ((0:Int)<nj (cF (dQ s)) 1)=decide (2≤cF (dQ s)):=by
    rw [decide_eq_decide]
    unfold nj
    split
    ·omega
    ·split <;> omega
   simp only [fS,ah,hs]
   rw [ak7]
   simp only [ef,ah]
   exact fin x4 _ (by rw [zv];rfl)
end
section
variable (P : Program) (K : VK)
noncomputable section
variable (x0 : Value) (h : ae)
def ahe:=bC prog 24 [[],[],[]]
@[irreducible] def c24:=bN ahe
theorem k24:ahe=some (11,c24,[.tmp 2]):=by kernel_rfl
def NO:Prop:=
 ak P 67 [x0] h fun x7 z1=>
 OP (ca 0 x7) fun x8=>
 OP (ca 1 x7) fun x9=>
 OH (aV 37 [(.bool false),(.slice none 0 0),(.bool false),(.slice none 0 0)] z1) fun x3 z2=>
 OH (aG 4 z2 x3 x8) fun _ z3=>
 K x9 z3
theorem e24:aj P c24 (aS [.tmp 2] K) (bw [x0]) h=NO P K x0 h:=by kernel_rfl
theorem f24 {K:VK} {x0:Value} {h:ae} (H:NO prog K x0 h):ak prog 24 [x0] h K:=
 bP k24 (bL rfl) ((e24 prog K x0 h).mpr H)
end
end
section
end
section
def cut (iD n:Nat):Nat:=min n (if 10<n then 11 else iD)
end
section
structure LL (h:ae) (v:Value) (ll:List (List Nat)):Prop where
 len:bj v=some (I ll.length)
 get:∀i (hi:i<ll.length),∃b o w,a9 1 v (I i)=some (pt b o)∧af false 1 h (pt b o)=some w∧NS h w .i64 (ll[i].map fun i:Nat=>(i:Int))
theorem LL.mono {h h':ae} {v:Value} {ll:List (List Nat)} (x:EX h h') (p:LL h v ll):LL h' v ll:=
 ⟨p.len,fun i hi=>let ⟨b,o,w,a,c,d⟩:=p.get i hi;⟨b,o,w,a,EX.load x c,d.mono x⟩⟩
def afl:Value→Bool
 | .slice _ _ _=>true
 | _=>false
structure OL (b:Nat) (g:ae) (v:Value) (ws:List Value) (ll:List (List Nat)):Prop where
 own:eJ b g 33 v ws
 len:ws.length=ll.length
 sls:∀w∈ws,afl w=true
 get:∀(i:Nat) (w:Value) (l:List Nat),ws[i]?=some w→ll[i]?=some l→NS g w .i64 (l.map fun i:Nat=>(i:Int))
theorem NS.ayS {g g':ae} {w:Value} {ns:List Int} (p:NS g w .i64 ns) (hk:∀b,b<g.length→(∃o n,af false 1 g (pt b o)=some (I n))→g'[b]?=g[b]?):NS g' w .i64 ns:=by
 refine ⟨p.len,fun i hi=>?_,p.le⟩
 obtain ⟨b,o,h1,h2⟩:=p.get i hi
 have hb:b<g.length:=by
  apply byContradiction
  intro cE
  simp only [af] at h2
  rw [aQ,List.getElem?_eq_none (by omega)] at h2
  cases h2
 refine ⟨b,o,h1,?_⟩
 have:=hk b hb ⟨o,_,h2⟩
 simp only [af,aQ,this] at h2⊢
 exact h2
theorem OL.dH {b:Nat} {g g':ae} {v w:Value} {ws:List Value} {ll:List (List Nat)} {ns:List Int} (o:OL b g v ws ll) (p:NS g w .i64 ns) (hold:∀d,d<g.length→(∀n,v≠sl 33 d 0 n)→g'[d]?=g[d]?):NS g' w .i64 ns:=by
 refine NS.ayS p fun d hd ⟨o',n,hl⟩=>hold d hd fun m hv=>?_
 obtain ⟨_,_,h3⟩:=o.own.lt hv
 simp only [af,aQ,h3,Option.bind_some,cf,Bool.false_eq_true,if_false] at hl
 have:=o.sls _ (List.mem_of_getElem? hl)
 cases this
theorem OL.app {h0 hx:ae} {v w:Value} {ws:List Value} {ll:List (List Nat)} {l:List Nat} {K:Value→ae→Prop} (o:OL h0.length hx v ws ll) (hex:EX h0 hx) (hw:NS hx w .i64 (l.map fun i:Nat=>(i:Int))) (hl:ws.length≤1000)
  (hk:∀v' bS,EX h0 bS→OL h0.length bS v' (ws++[w]) (ll++[l])→K v' bS):OH (cW 33 1 [(.slice none 0 0)] hx [(0,1,w)]) fun a h2=>OH (dM 33 1 24 h2 v a) K:=by
 obtain ⟨t1,t2⟩:=aEF hw.len
 have qR:afl w=true:=by
  have:=hw.len
  unfold bj at this
  split at this
  ·rfl
  ·cases this
 refine Dn o.own (by omega) (by simp [maxLen];omega) t1 t2 ?_
 intro w1 bS _ hlen hold jz
 simp only [aB]
 have key:∀{w':Value} {ns:List Int},NS hx w' .i64 ns→NS bS w' .i64 ns:=fun p=>o.dH p hold
 refine hk _ _ ⟨by have:=hex.1;omega,fun d hd=>?_⟩ ⟨.inr ⟨hx.length+1,by have:=hex.1;omega,by simp,jz⟩,by simp [o.len],fun x hx=>?_,fun i x y hx hy=>?_⟩
 ·rw [hold d (by have:=hex.1;omega) fun n hv=>?_]
  ·exact hex.2 d hd
  ·have:=(o.own.lt hv).1
   omega
 ·rcases mem_append.1 hx with hx | hx
  ·exact o.sls x hx
  ·rw [mem_singleton.1 hx];exact qR
 ·by_cases hi:i<ws.length
  ·rw [getElem?_append_left hi] at hx
   rw [getElem?_append_left (by rw [←o.len];exact hi)] at hy
   exact key (o.get i x y hx hy)
  ·rw [getElem?_append_right (by omega)] at hx
   rw [getElem?_append_right (by rw [←o.len];omega),←o.len] at hy
   have h0:i-ws.length=0:=by
    have:=(bD hx).1
    simp at this;omega
   rw [h0] at hx hy
   simp only [List.getElem?_cons_zero,Option.some.injEq] at hx hy
   subst hx hy
   exact key hw
theorem OL.start (b:Nat) (g:ae):OL b g (.slice none 0 0) [] []:=⟨.inl ⟨rfl,rfl⟩,rfl,fun w hw=>by simp at hw,fun i w l h=>by simp at h⟩
end
end Go.Proofs.YtelmdbpaoifmoaaGreat
namespace Go.Sim
section
structure nV (bs:List Nat) (js:List (Int×Int)) (n d k bc b:Nat):Prop where
 none:bc=0→b=0∧∀m,m<k→¬fh bs n d m
 rel:bc≠0→(b<k∧fh bs n d b)∧(∀m,m<k→fh bs n d m→wS js m*lS js b≤wS js b*lS js m)∧∀i,bc.testBit i=true↔∃m,m<k∧fh bs n d m∧wS js m*lS js b=wS js b*lS js m∧m.testBit i=true
section
variable {bs : List Nat} {js : List (Int × Int)} {n d k bc b : Nat}
theorem nV.start:nV bs js n d 1 0 0:=⟨fun _=>⟨rfl,fun m hm h=>h.ne (by omega)⟩,fun h=>absurd rfl h⟩
theorem nV.skip (g:nV bs js n d k bc b) (h:¬fh bs n d k):nV bs js n d (k+1) bc b:=by
 refine ⟨fun h0=>⟨(g.none h0).1,fun m hm hr=>?_⟩,fun h0=>?_⟩
 ·by_cases e:m=k
  ·subst e;exact h hr
  ·exact (g.none h0).2 m (by omega) hr
 ·obtain ⟨⟨a1,a2⟩,a3,a4⟩:=g.rel h0
  refine ⟨⟨by omega,a2⟩,fun m hm hr=>?_,fun i=>?_⟩
  ·by_cases e:m=k
   ·subst e;exact absurd hr h
   ·exact a3 m (by omega) hr
  ·rw [a4 i]
   constructor
   ·rintro ⟨m,q1,q2,q3⟩;exact ⟨m,by omega,q2,q3⟩
   ·rintro ⟨m,q1,q2,q3⟩
    by_cases e:m=k
    ·subst e;exact absurd q2 h
    ·exact ⟨m,by omega,q2,q3⟩
theorem nV.take (P:pI js n) (hn:n≤10) (g:nV bs js n d k bc b) (h:fh bs n d k) (hb:bc=0∨wS js b*lS js k<wS js k*lS js b):nV bs js n d (k+1) k k:=by
 refine ⟨fun h0=>absurd h0 h.ne,fun _=>?_⟩
 have less:∀m,m<k→fh bs n d m→wS js m*lS js k<wS js k*lS js m:=by
  intro m hm hr
  rcases hb with hb | hb
  ·exact absurd hr ((g.none hb).2 m hm)
  ·have h0:bc≠0:=by
    rintro rfl
    exact (g.none rfl).2 m hm hr
   obtain ⟨⟨a1,a2⟩,a3,_⟩:=g.rel h0
   have h1:=a3 m hm hr
   have p1:=wq P hn hr.lt hr.ne
   have p2:=wq P hn a2.lt a2.ne
   have p3:=wq P hn h.lt h.ne
   apply byContradiction
   intro hc
   have:=PQ p3 p1 p2 (show wS js k*lS js m≤wS js m*lS js k by omega) h1
   omega
 refine ⟨⟨by omega,h⟩,fun m hm hr=>?_,fun i=>?_⟩
 ·by_cases e:m=k
  ·subst e;exact Int.le_refl _
  ·exact Int.le_of_lt (less m (by omega) hr)
 ·constructor
  ·intro hi;exact ⟨k,by omega,h,rfl,hi⟩
  ·rintro ⟨m,q1,q2,q3,q4⟩
   by_cases e:m=k
   ·subst e;exact q4
   ·have:=less m (by omega) q2
    omega
theorem nV.join (g:nV bs js n d k bc b) (h:fh bs n d k) (h0:bc≠0) (hb:wS js k*lS js b=wS js b*lS js k):nV bs js n d (k+1) (bc ||| k) b:=by
 have bk:bc ||| k≠0:=by
  intro e
  have:bc≤bc ||| k:=Nat.left_le_or
  omega
 refine ⟨fun e=>absurd e bk,fun _=>?_⟩
 obtain ⟨⟨a1,a2⟩,a3,a4⟩:=g.rel h0
 refine ⟨⟨by omega,a2⟩,fun m hm hr=>?_,fun i=>?_⟩
 ·by_cases e:m=k
  ·subst e;omega
  ·exact a3 m (by omega) hr
 ·rw [Nat.testBit_or,Bool.or_eq_true,a4 i]
  constructor
  ·rintro (⟨m,q1,q2⟩ | hi)
   ·exact ⟨m,by omega,q2⟩
   ·exact ⟨k,by omega,h,hb,hi⟩
  ·rintro ⟨m,q1,q2,q3,q4⟩
   by_cases e:m=k
   ·subst e;exact .inr q4
   ·exact .inl ⟨m,by omega,q2,q3,q4⟩
theorem nV.pass (g:nV bs js n d k bc b) (h0:bc≠0) (hb:wS js k*lS js b<wS js b*lS js k):nV bs js n d (k+1) bc b:=by
 refine ⟨fun e=>absurd e h0,fun _=>?_⟩
 obtain ⟨⟨a1,a2⟩,a3,a4⟩:=g.rel h0
 refine ⟨⟨by omega,a2⟩,fun m hm hr=>?_,fun i=>?_⟩
 ·by_cases e:m=k
  ·subst e;omega
  ·exact a3 m (by omega) hr
 ·rw [a4 i]
  constructor
  ·rintro ⟨m,q1,q2⟩;exact ⟨m,by omega,q2⟩
  ·rintro ⟨m,q1,q2,q3,q4⟩
   by_cases e:m=k
   ·subst e;omega
   ·exact ⟨m,by omega,q2,q3,q4⟩
theorem nV.all (P:pI js n) (hn:n≤10) (hb:∀b∈bs,b<2^n) (hd:d<cK n) (g:nV bs js n d (2^n) bc b):rC bs js n d bc:=by
 obtain ⟨s,hs⟩:=rC.ex (js:=js) P hn hb hd
 have h0:bc≠0:=fun e=>(g.none e).2 s hs.1.1.lt hs.1.1
 obtain ⟨⟨a1,a2⟩,a3,a4⟩:=g.rel h0
 have lT:nW bs js n d b:=⟨a2,fun x hx=>a3 x hx.lt hx⟩
 have e:bc=s:=by
  apply Nat.eq_of_testBit_eq
  intro i
  rw [Bool.eq_iff_iff,a4 i]
  constructor
  ·rintro ⟨m,_,q2,q3,q4⟩
   have hm:=lT.same P hn q2 (Int.le_of_eq q3.symm)
   exact pB.1 (hs.2 m hm) i q4
  ·intro hi
   exact ⟨s,hs.1.1.lt,hs.1.1,Int.le_antisymm (a3 s hs.1.1.lt hs.1.1) (hs.1.2 b a2),hi⟩
 rw [e]
 exact hs
end
end
end Go.Sim
namespace Go.Proofs.YtelmdbpaoifmoaaGreat
open Go.Sim
section
end
end Go.Proofs.YtelmdbpaoifmoaaGreat
namespace Go.Sim
section
def KP (p:Value→Bool) (h h':ae):Prop:=∀d c r,aQ h d=some (c::r)→p c=true→aQ h' d=some (c::r)
theorem KP.refl (p:Value→Bool) (h:ae):KP p h h:=fun _ _ _ a _=>a
theorem KP.trans {p:Value→Bool} {a b c:ae} (x:KP p a b) (y:KP p b c):KP p a c:=fun d v r h1 h2=>y d v r (x d v r h1 h2) h2
theorem KP.ex {p:Value→Bool} {a b:ae} (x:EX a b):KP p a b:=fun _ _ _ h1 _=>x.cells h1
theorem KP.set {p:Value→Bool} {h:ae} {i:Nat} {e:TypeId} {cs:List Value} (hg:h[i]?=some (.arr e cs)) (hp:∀c r,cs=c::r→p c=false) (o:aq):KP p h (h.set i o):=by
 intro d c r h1 h2
 have bk:i≠d:=by
  rintro rfl
  simp only [aQ,hg] at h1
  cases h1
  rw [hp _ _ rfl] at h2
  cases h2
 simp only [aQ] at h1⊢
 rw [getElem?_set_ne bk]
 exact h1
def RS (h:ae) (e:TypeId) (aW:Nat) (v:Value) (rows:List (List Value)):Prop:=
 (∀r∈rows,r.length=aW)∧((v=.slice none 0 0∧rows=[])∨∃i o,v=sl e i o rows.length∧(rows=[]∨∃pre post,aQ h i=some (pre++rows.flatten++post)∧pre.length=o))
section
variable {h h' : ae} {e : TypeId} {aW : Nat} {v : Value} {rows : List (List Value)}
theorem RS.mono (x:EX h h') (p:RS h e aW v rows):RS h' e aW v rows:=
 ⟨p.1,p.2.imp id fun ⟨i,o,a,b⟩=>⟨i,o,a,b.imp id fun ⟨pre,post,c,d⟩=>⟨pre,post,x.cells c,d⟩⟩⟩
theorem RS.len (p:RS h e aW v rows):bj v=some (I rows.length):=by
 rcases p.2 with ⟨rfl,rfl⟩ | ⟨i,o,rfl,_⟩ <;> rfl
theorem RS.one (p:RS h e aW v rows):iM v=true∧de v=[v]:=by
 rcases p.2 with ⟨rfl,_⟩ | ⟨i,o,rfl,_⟩ <;> exact ⟨rfl,rfl⟩
theorem D5:∀{rows:List (List Value)},(∀r∈rows,r.length=aW)→rows.flatten.length=rows.length*aW
 | [],_=>by simp
 | r::rows,h=>by
  have ih:=D5 (rows:=rows) fun x hx=>h x (List.mem_cons_of_mem _ hx)
  simp only [List.flatten_cons,length_append,List.length_cons,h r (List.mem_cons_self ..),ih]
  rw [Nat.succ_mul];omega
theorem ac6:∀{rows:List (List Value)},(∀r∈rows,r.length=aW)→∀k (hk:k<rows.length),(rows.flatten.drop (k*aW)).take aW=rows[k]
 | r::rows,h,0,_=>by
  have:=h r (by simp)
  simp only [List.flatten_cons,Nat.zero_mul,List.drop_zero,List.getElem_cons_zero]
  rw [←this,List.take_left']
  rfl
 | r::rows,h,k+1,hk=>by
  have hr:=h r (by simp)
  have:=ac6 (rows:=rows) (fun x hx=>h x (by simp [hx])) k (by simpa using hk)
  simp only [List.flatten_cons,List.getElem_cons_succ]
  rw [←this,show (k+1)*aW=r.length+k*aW by rw [Nat.succ_mul,hr];omega,List.drop_append,List.drop_eq_nil_of_le (by omega),List.nil_append,show r.length+k*aW-r.length=k*aW by omega]
theorem RS.get (p:RS h e aW v rows) {k:Nat} (hk:k<rows.length):∃i o cs,a9 aW v (I k)=some (pt i o)∧aQ h i=some cs∧o+aW≤cs.length∧(cs.drop o).take aW=rows[k]:=by
 rcases p.2 with ⟨_,rfl⟩ | ⟨i,o,rfl,rfl | ⟨pre,post,hc,ho⟩⟩
 ·simp at hk
 ·simp at hk
 have hf:=D5 p.1
 have hle:(k+1)*aW≤rows.length*aW:=Nat.mul_le_mul_right _ hk
 rw [Nat.succ_mul] at hle
 refine ⟨i,o+k*aW,_,?_,hc,?_,?_⟩
 ·have:(0:Int)≤(k:Int)∧(k:Int)<(rows.length:Int):=by omega
  simp [sl,a9,this]
 ·simp only [length_append,hf];omega
 ·rw [←ac6 p.1 k hk,←ho,List.append_assoc,List.drop_append,List.drop_eq_nil_of_le (by omega),List.nil_append,show pre.length+k*aW-pre.length=k*aW by omega]
  rw [List.drop_append_of_le_length (by rw [hf];omega),List.take_append_of_le_length (by rw [length_drop,hf];omega)]
theorem K6 {i o:Nat} {cs row:List Value} (hc:aQ h i=some cs) (hl:o+aW≤cs.length) (ht:(cs.drop o).take aW=row):af true aW h (pt i o)=some (.agg row.toArray):=by
 simp [af,hc,cf,hl,ht]
theorem RS.nil (h:ae) (e:TypeId) (aW:Nat):RS h e aW (.slice none 0 0) []:=⟨fun r hr=>by simp at hr,.inl ⟨rfl,rfl⟩⟩
theorem RS.arr {i:Nat} (hw:∀r∈rows,r.length=aW) (hg:h[i]?=some (.arr e rows.flatten)):RS h e aW (sl e i 0 rows.length) rows:=
 ⟨hw,.inr ⟨i,0,rfl,.inr ⟨[],[],by simp [aQ,hg],rfl⟩⟩⟩
theorem RS.from (p:RS h e aW v rows) {k:Nat} (hk:k≤rows.length):∃v',mD e aW v (some (I k)) none=some v'∧RS h e aW v' (rows.drop k):=by
 have hw:∀r∈rows.drop k,r.length=aW:=fun r hr=>p.1 r (mem_of_mem_drop hr)
 rcases p.2 with ⟨rfl,rfl⟩ | ⟨i,o,rfl,hc⟩
 ·have:k=0:=by simpa using hk
  subst this
  exact ⟨_,rfl,⟨hw,.inl ⟨rfl,rfl⟩⟩⟩
 ·refine ⟨sl e i (o+k*aW) (rows.length-k),by simp [mD,sl,rZ,tu,hk],hw,.inr ⟨i,_,by rw [length_drop],?_⟩⟩
  rcases hc with rfl | ⟨pre,post,hc,ho⟩
  ·left;simp
  ·right
   refine ⟨pre++(rows.take k).flatten,post,?_,?_⟩
   ·rw [hc]
    have:rows.flatten=(rows.take k).flatten++(rows.drop k).flatten:=by rw [←List.flatten_append,List.take_append_drop]
    rw [this];simp
   ·rw [length_append,ho,D5 fun r hr=>p.1 r (List.mem_of_mem_take hr),length_take,Nat.min_eq_left hk]
def ki (b:Nat) (hx:ae) (e:TypeId) (aW:Nat) (v:Value) (rows:List (List Value)):Prop:=
 (∀r∈rows,r.length=aW)∧((v=.slice none 0 0∧rows=[])∨∃i,b≤i∧v=sl e i 0 rows.length∧hx[i]?=some (.arr e rows.flatten))
theorem ki.start (b:Nat) (hx:ae) (e:TypeId) (aW:Nat):ki b hx e aW (.slice none 0 0) []:=⟨fun r hr=>by simp at hr,.inl ⟨rfl,rfl⟩⟩
theorem ki.rs {b:Nat} (o:ki b h e aW v rows):RS h e aW v rows:=by
 rcases o.2 with ⟨rfl,rfl⟩ | ⟨i,_,rfl,hg⟩
 ·exact .nil _ _ _
 ·exact .arr o.1 hg
theorem ki.dH {b:Nat} (o:ki b h e aW v rows) (x:∀d n,v=sl e d 0 n→b≤d→h'[d]?=h[d]?):ki b h' e aW v rows:=
 ⟨o.1,o.2.imp id fun ⟨i,h1,h2,h3⟩=>⟨i,h1,h2,by rw [x i _ h2 h1];exact h3⟩⟩
theorem ki.lt {b d n:Nat} (o:ki b h e aW v rows) (hv:v=sl e d 0 n):b≤d∧d<h.length∧h[d]?=some (.arr e rows.flatten):=by
 rcases o.2 with ⟨h1,_⟩ | ⟨i,h1,h2,h3⟩
 ·rw [h1] at hv;cases hv
 ·rw [h2] at hv
  obtain ⟨rfl,_⟩:=uJ hv
  exact ⟨h1,(bD h3).1,h3⟩
theorem ki.ex {b:Nat} (o:ki b h e aW v rows) (x:EX h h'):ki b h' e aW v rows:=o.dH fun d _ hv _=>x.2 d (o.lt hv).2.1
theorem ki.kp {b:Nat} {p:Value→Bool} (o:ki b h e aW v rows) (hp:∀c r,rows.flatten=c::r→p c=false) (hold:∀d,d<h.length→(∀n,v≠sl e d 0 n)→h'[d]?=h[d]?):KP p h h':=by
 intro d c r h1 h2
 have hd:d<h.length:=by
  apply byContradiction
  intro cE
  rw [aQ,List.getElem?_eq_none (by omega)] at h1
  cases h1
 have bk:∀n,v≠sl e d 0 n:=by
  intro n hv
  have:=(o.lt hv).2.2
  simp only [aQ,this] at h1
  cases Bu:rows.flatten with
  | nil=>rw [Bu] at h1;cases h1
  | cons y ys=>
   rw [Bu] at h1
   cases h1
   rw [hp _ _ Bu] at h2
   cases h2
 simp only [aQ,hold d hd bk] at h1⊢
 exact h1
theorem ki.app {h0:ae} {bytes:Nat} {x:Value} {row zs:List Value} {K:Value→ae→Prop} (o:ki h0.length h e aW v rows) (hex:EX h0 h) (hz:zs.length=aW) (h1:iM x=true) (h2:de x=row) (hr:row.length=aW)
  (hb:(rows.length+1)*bytes≤140737488355328) (hm:rows.length+1≤maxLen)
  (hk:∀v' h',EX h0 h'→(∀d,d<h.length→(∀n,v≠sl e d 0 n)→h'[d]?=h[d]?)→ki h0.length h' e aW v' (rows++[row])→K v' h'):
  OH (cW e 1 zs h [(0,aW,x)]) fun a h2=>OH (dM e aW bytes h2 v a) K:=by
 have hw:∀r∈rows++[row],r.length=aW:=by
  intro r qO
  rcases mem_append.1 qO with qO | qO
  ·exact o.1 r qO
  ·rw [mem_singleton.1 qO];exact hr
 have e1:cW e 1 zs h [(0,aW,x)]=some (sl e h.length 0 1,h++[.arr e row]):=by
  have zW:iS zs 1=zs:=by simp [iS]
  have hs:setAt zs 0 row=row:=by
   unfold setAt
   rw [List.take_zero,List.nil_append,List.drop_eq_nil_of_le (by omega),append_nil]
  simp only [cW,zW,sN,h1,h2,hs]
  rw [if_pos ⟨trivial,hr,by omega⟩]
  rfl
 rw [e1]
 simp only [aB]
 have e2:kU (h++[.arr e row]) aW (sl e h.length 0 1)=some row:=by
  simp [kU,sl,aQ,hr]
  rw [←hr,take_length]
 have e3:qh (sl e h.length 0 1)=some 1:=rfl
 rcases o.2 with ⟨rfl,rfl⟩ | ⟨i,hi,rfl,bT⟩
 ·refine GK (v:=sl e (h.length+1) 0 1) (h:=h++[.arr e row]++[.arr e row]) ?_ (hk _ _ ((hex.push _).push _) (fun d hd _=>by rw [getElem?_append_left (by simp;omega),getElem?_append_left hd]) ⟨hw,.inr ⟨h.length+1,by have:=hex.1;omega,rfl,by simp⟩⟩)
  have kI:1*bytes≤140737488355328:=by simpa using hb
  have fL:1≤maxLen:=by simpa using hm
  simp only [dM,e2,e3]
  rw [if_neg (by omega),if_pos ⟨kI,fL⟩]
  simp
 ·have aD:=(bD bT).1
  have hg:(h++[.arr e row])[i]?=some (.arr e rows.flatten):=by rw [getElem?_append_left aD];exact bT
  refine GK (v:=sl e (h.length+1) 0 (rows.length+1)) (h:=(h++[aq.arr e row]).set i aq.dead++[aq.arr e (rows.flatten++row)]) ?_
   (hk _ _ (((hex.push _).set hi _).push _) (fun d hd bk=>?_) ⟨hw,.inr ⟨h.length+1,by have:=hex.1;omega,by simp,?_⟩⟩)
  ·simp only [dM,e2,e3]
   simp only [sl,hg]
   rw [if_pos ⟨trivial,trivial,D5 o.1,hb,hm⟩,if_neg (by omega)]
   simp
  ·have nG:i≠d:=by rintro rfl;exact bk _ rfl
   rw [getElem?_append_left (by simp;omega),getElem?_set_ne nG,getElem?_append_left hd]
  ·rw [getElem?_append_right (by simp)]
   simp
end
end
end Go.Sim
namespace Go.Proofs.YtelmdbpaoifmoaaGreat
open Go.Sim
section
/-- Fractions in memory. -/
def rD (h:ae) (v:Value) (qs:List (Int×Int)):Prop:=
 ∃rows,RS h 107 4 v rows∧rows.length=qs.length∧∀(k:Nat) (row:List Value) (q:Int×Int),rows[k]?=some row→qs[k]?=some q→gY h (.agg row.toArray) q.1 q.2
theorem rD.mono {h h':ae} {v:Value} {qs:List (Int×Int)} (x:EX h h') (p:rD h v qs):rD h' v qs:=
 let ⟨rows,a,b,c⟩:=p;⟨rows,a.mono x,b,fun k row q h1 h2=>(c k row q h1 h2).mono x⟩
theorem rD.len {h:ae} {v:Value} {qs:List (Int×Int)} (p:rD h v qs):bj v=some (I qs.length):=by
 obtain ⟨rows,a,b,_⟩:=p;rw [←b];exact a.len
theorem rD.get {h:ae} {v:Value} {qs:List (Int×Int)} (p:rD h v qs) {k:Nat} (hk:k<qs.length):∃i o r,a9 4 v (I k)=some (pt i o)∧af true 4 h (pt i o)=some r∧gY h r qs[k].1 qs[k].2:=by
 obtain ⟨rows,a,b,c⟩:=p
 have b9:k<rows.length:=by omega
 obtain ⟨i,o,cs,g1,g2,g3,g4⟩:=a.get b9
 exact ⟨i,o,_,g1,K6 g2 g3 g4,c k _ _ (getElem?_eq_getElem b9) (getElem?_eq_getElem hk)⟩
def uu:Value→Bool
 | .int .u32 _=>true
 | _=>false
theorem DSw.dH {e:TypeId} {h h':ae} {v:Value} {xs:List Nat} (x:KP uu h h') (p:DS e .u32 h v xs):DS e .u32 h' v xs:=by
 refine p.imp id fun ⟨i,a,b⟩=>⟨i,a,?_⟩
 cases xs with
 | nil=>exact .inl rfl
 | cons y ys=>
  obtain ⟨r,c⟩:=b.resolve_left (by simp)
  exact .inr ⟨r,x i _ _ c rfl⟩
theorem dm.dH {h h':ae} {v:Value} {n:Nat} (x:KP uu h h') (p:dm h v n):dm h' v n:=let ⟨xs,a,b,c⟩:=p;⟨xs,DSw.dH x a,b,c⟩
theorem gY.dH {h h':ae} {v:Value} {a b:Int} (x:KP uu h h') (p:gY h v a b):gY h' v a b:=let ⟨u,w,e,m,n⟩:=p;⟨u,w,e,m.dH x,n.dH x⟩
theorem gY.cells {h:ae} {v:Value} {a b:Int} (p:gY h v a b):iM v=true∧∃s u t w,v=.agg #[B s,u,B t,w]∧de v=[B s,u,B t,w]:=by
 obtain ⟨u,w,rfl,_⟩:=p
 exact ⟨rfl,_,_,_,_,rfl,rfl⟩
/-- Fractions that are being gathered. -/
def nY (b:Nat) (h:ae) (v:Value) (qs:List (Int×Int)):Prop:=
 ∃rows,ki b h 107 4 v rows∧rows.length=qs.length∧(∀r∈rows,∃s t,r=.bool s::t)∧∀(k:Nat) (row:List Value) (q:Int×Int),rows[k]?=some row→qs[k]?=some q→gY h (.agg row.toArray) q.1 q.2
theorem nY.start (b:Nat) (h:ae):nY b h (.slice none 0 0) []:=⟨[],ki.start ..,rfl,fun r hr=>by simp at hr,fun k r q h=>by simp at h⟩
theorem nY.aDx {b:Nat} {h:ae} {v:Value} {qs:List (Int×Int)} (o:nY b h v qs):rD h v qs:=let ⟨rows,a,c,_,d⟩:=o;⟨rows,a.rs,c,d⟩
theorem nY.ex {b:Nat} {h h':ae} {v:Value} {qs:List (Int×Int)} (x:EX h h') (o:nY b h v qs):nY b h' v qs:=
 let ⟨rows,a,c,e,d⟩:=o;⟨rows,a.ex x,c,e,fun k r q h1 h2=>(d k r q h1 h2).mono x⟩
theorem avZ {rows:List (List Value)} (h:∀r∈rows,∃s t,r=.bool s::t):∀c r,rows.flatten=c::r→uu c=false:=by
 intro c r hc
 cases rows with
 | nil=>simp at hc
 | cons x xs=>
  obtain ⟨s,t,rfl⟩:=h x (by simp)
  simp at hc
  rw [←hc.1];rfl
theorem nY.app {h0 h:ae} {v x:Value} {a b:Int} {qs:List (Int×Int)} {zs:List Value} {K:Value→ae→Prop} (o:nY h0.length h v qs) (hex:EX h0 h) (hx:gY h x a b) (hz:zs.length=4) (hl:qs.length≤10000)
  (hk:∀v' h',EX h0 h'→KP uu h h'→nY h0.length h' v' (qs++[(a,b)])→K v' h'):OH (cW 107 1 zs h [(0,4,x)]) fun y h2=>OH (dM 107 4 64 h2 v y) K:=by
 obtain ⟨rows,o1,o2,o3,o4⟩:=o
 obtain ⟨t1,s,u,t,w,e1,e2⟩:=hx.cells
 refine o1.app hex hz t1 e2 rfl (by omega) (by simp [maxLen];omega) ?_
 intro v' h' x' hold o'
 have kp:KP uu h h':=o1.kp (avZ o3) hold
 refine hk v' h' x' kp ⟨_,o',by simp [o2],fun r hr=>?_,fun k row q h1 h2=>?_⟩
 ·rcases mem_append.1 hr with hr | hr
  ·exact o3 r hr
  ·rw [mem_singleton.1 hr];exact ⟨s,_,rfl⟩
 ·by_cases hk:k<rows.length
  ·rw [getElem?_append_left hk] at h1
   rw [getElem?_append_left (by omega)] at h2
   exact (o4 k row q h1 h2).dH kp
  ·rw [getElem?_append_right (by omega)] at h1
   rw [getElem?_append_right (by omega),←o2] at h2
   have h0:k-rows.length=0:=by
    have:=(bD h1).1
    simp at this;omega
   rw [h0] at h1 h2
   simp only [List.getElem?_cons_zero,Option.some.injEq] at h1 h2
   subst h1 h2
   rw [←e1]
   exact hx.dH kp
end
section
theorem WR {s:List UInt8} {h:ae} {K:Value→ae→Prop} (hl:s.length≤700)
  (hk:∀n d,jK s=some (n,d)→∀r h',EX h h'→QZ h' r n d→K (.tuple #[r,B true]) h')
  (fV:jK s=none→∀h',EX h h'→K (.tuple #[sC,B false]) h'):ak prog 67 [S s] h K:=by
 refine f67 ?_
 have e1:aV 37 [(.bool false),(.slice none 0 0),(.bool false),(.slice none 0 0)] h=some (pt h.length 0,h++[.arr 37 z4]):=rfl
 have x1:EX h (h++[.arr 37 z4]):=EX.append _ _
 simp only [N9,e1,aB,lX,ah,fS,aU (show ¬(s.length:Int)>8002 by omega),dR,aCC]
 by_cases h0:s.length=0
 ·have e:s=[]:=List.length_eq_zero_iff.1 h0
  subst e
  rw [aU (show ¬((([]:List UInt8).length:Int)>0) by simp)]
  simp only [lK,alD,dU,ah,dR]
  exact L0 (m:=false) hl x1 (le_refl _) br (fun n d hp=>hk n d hp) (fun hp=>fV hp)
 ·rw [aZ (show (s.length:Int)>0 by omega)]
  have ix:=wg (a:=s) (i:=0) (by omega) .i64
  simp only [Int.natCast_zero] at ix
  have hh:s.head?=some (s[0]'(by omega)):=by rw [List.head?_eq_getElem?,getElem?_eq_getElem (by omega)]
  have e5:ai .eql (cv (s[0]'(by omega))) (.int .u8 45)=some (B (decide (((s[0]'(by omega)).toNat:Int)=45))):=rfl
  simp only [gQ,ix,ah,e5,alD,ef,bW]
  refine ⟨fun hm=>?_,fun hm=>?_⟩
  ·have fL:s[0]'(by omega)=45:=by apply UInt8.toNat_inj.1;show (s[0]'(by omega)).toNat=45;omega
   have hp:jK s=rk true s.tail:=by unfold jK;rw [if_pos (by rw [hh,fL])]
   have sl:=CE (a:=s) (n:=1) (by omega) .i64
   have sl':lj (S s) (some (.int .i64 1)) none=some (S s.tail):=by rw [←List.drop_one];exact sl
   simp only [sl',ah]
   refine L0 (m:=true) (by rw [List.length_tail];omega) x1 (le_refl _) br (fun n d hq=>hk n d (by rw [hp];exact hq)) (fun hq=>fV (by rw [hp];exact hq))
  ·have fL:s[0]'(by omega)≠45:=by intro h;rw [h] at hm;exact hm rfl
   have hp:jK s=rk false s:=by unfold jK;rw [if_neg (by rw [hh];intro h;injection h with h;exact fL h)]
   exact L0 (m:=false) hl x1 (le_refl _) br (fun n d hq=>hk n d (by rw [hp];exact hq)) (fun hq=>fV (by rw [hp];exact hq))
theorem anm {s:List UInt8} {n:Int} {d:Nat} {h:ae} {K:Value→ae→Prop} (hl:s.length≤700) (hp:jK s=some (n,d)) (hk:∀r h',EX h h'→QZ h' r n d→K r h'):ak prog 28 [S s] h K:=by
 refine f28 ?_
 have e1:∀g:ae,aV 37 [(.bool false),(.slice none 0 0),(.bool false),(.slice none 0 0)] g=some (pt g.length 0,g++[.arr 37 z4]):=fun _=>rfl
 simp only [NR,e1,aB]
 refine WR hl (fun n' d' zM r h1 x1 q1=>?_) (fun zM=>by rw [hp] at zM;cases zM)
 rw [hp] at zM
 obtain ⟨rfl,rfl⟩:n=n'∧d=d':=by injection zM with zM;injection zM with a b;exact ⟨a,b⟩
 obtain ⟨u,w,rfl,hu,hw⟩:=id q1
 have g1:=x1.get (br (h:=h) (o:=.arr 37 z4))
 simp only [eC,eO,eY,ah]
 rw [nR br]
 simp only [aB]
 rw [ik (ck br)]
 simp only [ah]
 have x2:EX h1 ((h1++[aq.arr 37 z4]).set h1.length (.arr 37 [B (decide (n<0)),u,B (decide ((d:Int)<0)),w])):=EX.set (EX.append _ _) (le_refl _) _
 have g2:=x2.get g1
 have xA:=((EX.append h [.arr 37 z4]).trans x1).trans x2
 refine rK g2 (hk _ _ (xA.set (le_refl _) _) ?_)
 exact (q1.mono x2).bM g2 _
theorem WJ {s:List UInt8} {h:ae} {K:Value→ae→Prop} (hl:s.length≤700) (hk:∀h',EX h h'→K (B (jK s).isSome) h'):ak prog 24 [S s] h K:=by
 refine f24 ?_
 have e1:∀g:ae,aV 37 [(.bool false),(.slice none 0 0),(.bool false),(.slice none 0 0)] g=some (pt g.length 0,g++[.arr 37 z4]):=fun _=>rfl
 unfold NO
 refine WR hl (fun n d hp r h1 x1 q1=>?_) (fun hp h1 x1=>?_)
 ·obtain ⟨u,w,rfl,hu,hw⟩:=q1
  simp only [eC,eO,eY,ah,e1,aB]
  rw [nR br]
  simp only [aB]
  rw [hp] at hk
  exact hk _ (x1.trans (EX.set (EX.append _ _) (le_refl _) _))
 ·simp only [eC,eO,eY,ah,e1,aB]
  have st:=nR (x:=B false) (y:=.slice none 0 0) (z:=B false) (w:=.slice none 0 0) (br (h:=h1) (o:=.arr 37 z4))
  have st':aG 4 (h1++[.arr 37 z4]) (pt h1.length 0) sC=_:=st
  rw [st']
  simp only [aB]
  rw [hp] at hk
  exact hk _ (x1.trans (EX.set (EX.append _ _) (le_refl _) _))
end
section
end
section
theorem PL.Cl {h h':ae} {p:Value} {js:List (Int×Int)} {bs:List Nat} (x:CX h h') (q:PL h p js bs):PL h' p js bs:=
 let ⟨i,vj,vb,a,b,c,d⟩:=q;⟨i,vj,vb,a,x _ _ b,c.Cl x,NS.Cl x d⟩
section
variable (js : List (Int × Int)) (bs : List Nat) (n : Nat)
structure aFL (es:List (Int×Value)):Prop where
 val:∀s v,pa s es=some v→∃t:Nat,s=t∧t<2^n∧v=I (ky bs js n t)
 full:(pa (cK n:Nat) es).isSome=true
 next:∀s:Nat,s<cK n→(pa (s:Int) es).isSome=true→∀i,i<n→jY bs s i=true→(pa ((s ||| 2^i:Nat):Int) es).isSome=true
def A3 (es og:List (Int×Value)):Prop:=∀k,(pa k es).isSome=true→(pa k og).isSome=true
end
theorem A3.refl (es:List (Int×Value)):A3 es es:=fun _ h=>h
theorem A3.trans {a b c:List (Int×Value)} (h:A3 a b) (k:A3 b c):A3 a c:=fun x hx=>k x (h x hx)
structure Mc (im ox px cx:Nat) (p:Value) (js:List (Int×Int)) (bs:List Nat) (h:ae):Prop where
 o:aQ h ox=some [.map (some im)]
 q:aQ h px=some [p]
 c:aQ h cx=some [.func (.func 97) #[] #[pt ox 0,pt px 0,pt cx 0]]
 pl:PL h p js bs
theorem Mc.mono {im ox px cx:Nat} {p:Value} {js:List (Int×Int)} {bs:List Nat} {h h':ae} (k:CX h h') (e:Mc im ox px cx p js bs h):Mc im ox px cx p js bs h':=
 ⟨k _ _ e.o,k _ _ e.q,k _ _ e.c,e.pl.Cl k⟩
end
end Go.Proofs.YtelmdbpaoifmoaaGreat
namespace Go.Sim
section
def gC (bs:List Nat) (js:List (Int×Int)) (n s i:Nat):Int:=jP js i*(kT js s+fP js i)+ky bs js n (s ||| 2^i)
def pF (bs:List Nat) (js:List (Int×Int)) (n:Nat):Nat→List Nat→Prop
 | s,[]=>s=cK n
 | s,i::l=>((i<n∧jY bs s i=true)∧gC bs js n s i=ky bs js n s∧∀j,j<i→¬(jY bs s j=true∧gC bs js n s j=ky bs js n s))∧pF bs js n (s ||| 2^i) l
theorem alV {bs:List Nat} {n i:Nat} (hi:i<n):jY bs (cK n) i=false:=by
 unfold jY
 rw [xo,aZ hi];rfl
theorem pF.uniq {bs:List Nat} {js:List (Int×Int)} {n:Nat}:∀{l l':List Nat} {s:Nat},pF bs js n s l→pF bs js n s l'→l=l'
 | [],[],_,_,_=>rfl
 | [],i::l',s,h,k=>by
  have h':s=cK n:=h
  subst h'
  have:=k.1.1.2
  rw [alV k.1.1.1] at this
  cases this
 | i::l,[],s,h,k=>by
  have k':s=cK n:=k
  subst k'
  have:=h.1.1.2
  rw [alV h.1.1.1] at this
  cases this
 | i::l,i'::l',s,h,k=>by
  have e:i=i':=by
   rcases Nat.lt_trichotomy i i' with aD | he | sV
   ·exact absurd ⟨h.1.1.2,h.1.2.1⟩ (k.1.2.2 i aD)
   ·exact he
   ·exact absurd ⟨k.1.1.2,k.1.2.1⟩ (h.1.2.2 i' sV)
  subst e
  rw [pF.uniq h.2 k.2]
theorem pF.ok {bs:List Nat} {js:List (Int×Int)} {n:Nat} (hn:n≤10):∀{l:List Nat} {s:Nat},pF bs js n s l→qi bs n s l=true∧uM s l=cK n∧tR js (kT js s) l=ky bs js n s
 | [],s,h=>by
  have h':s=cK n:=h
  subst h'
  exact ⟨rfl,rfl,by rw [af2];rfl⟩
 | i::l,s,h=>by
  obtain ⟨⟨⟨h1,h2⟩,h3,_⟩,h4⟩:=h
  obtain ⟨a,b,c⟩:=pF.ok hn h4
  refine ⟨?_,b,?_⟩
  ·simp only [qi,a,h2,h1,decide_true,Bool.and_self]
  ·have e:=J4 js (show i<10 by omega) (CB h2)
   have Bv:jP js i*(kT js s+fP js i)+ky bs js n (s ||| 2^i)=ky bs js n s:=h3
   simp only [tR]
   rw [←e] at Bv⊢
   rw [c]
   exact Bv
theorem pF.split {bs:List Nat} {js:List (Int×Int)} {n:Nat}:∀{a b:List Nat} {s:Nat},pF bs js n s (a++b)→pF bs js n (uM s a) b
 | [],_,_,h=>h
 | i::a,b,s,h=>pF.split (a:=a) (b:=b) (s:=s ||| 2^i) h.2
end
end Go.Sim
namespace Go.Proofs.YtelmdbpaoifmoaaGreat
open Go.Sim
section
theorem eJ.ns {b:Nat} {g:ae} {v:Value} {l:List Nat} (o:eJ b g 3 v (l.map fun i:Nat=>I i)) (hl:l.length≤1000):NS g v .i64 (l.map fun i:Nat=>(i:Int)):=by
 rcases o with ⟨h1,h2⟩ | ⟨a,_,h2,h3⟩
 ·have:l=[]:=by simpa using h2
  rw [this,h1]
  exact NS.nil g .i64
 ·rw [h2,length_map]
  have:=NS.sl (h:=g) (e:=3) (i:=a) (k:=.i64) (ns:=l.map fun i:Nat=>(i:Int)) (.inr (by simp [aQ,h3])) (by simp [maxLen];omega)
  rw [length_map] at this
  exact this
theorem eJ.base {b c:Nat} {hx:ae} {e:TypeId} {v:Value} {xs:List Value} (o:eJ c hx e v xs) (h:b≤c):eJ b hx e v xs:=by
 rcases o with o | ⟨i,h1,h2,h3⟩
 ·exact .inl o
 ·exact .inr ⟨i,by omega,h2,h3⟩
end
section
end
section
theorem CC (k:IntKind) {a b:Int} (ha:0≤a) (hb:0<b):ai .rem (.int k a) (.int k b)=some (.int k (a%b)):=by
 simp only [ai,ie,if_true]
 rw [if_neg (by omega),Int.tmod_eq_emod_of_nonneg ha]
theorem Gl.arr {h:ae} {e:TypeId} {i:Nat} {ps:List (Int×Int)} (hg:h[i]?=some (.arr e (sk ps))):Gl h e (sl e i 0 ps.length) ps:=
 ⟨by rw [akP];omega,.inr ⟨i,rfl,.inr (by simp [aQ,hg])⟩⟩
end
end Go.Proofs.YtelmdbpaoifmoaaGreat
namespace Go.Sim
section
theorem Ll:∀(l:List Nat) (s j:Nat),(uM s l).testBit j=(s.testBit j||decide (j∈l))
 | [],s,j=>by simp [uM]
 | i::l,s,j=>by
  simp only [uM,Ll l,tE]
  by_cases e:i=j
  ·subst e;simp
  ·have e':¬j=i:=fun h=>e h.symm
   simp [e,e']
structure W6 (bs:List Nat) (n:Nat) (l:List Nat):Prop where
 lt:∀i∈l,i<n
 nodup:l.Nodup
 all:∀i,i<n→i∈l
 before:l.Pairwise fun a b=>(bs.getD a 0).testBit b=false
 self:∀i,i<n→∀j,(bs.getD i 0).testBit j=true→j<n∧j≠i
theorem S5 {bs:List Nat} {n:Nat}:∀{l:List Nat} {S:Nat},(∀i∈l,i<n∧S.testBit i=false)→l.Nodup→l.Pairwise (fun a b=>(bs.getD a 0).testBit b=false)→(∀i∈l,∀j,(bs.getD i 0).testBit j=true→j≠i∧(S.testBit j=true∨j∈l))→qi bs n S l=true
 | [],_,_,_,_,_=>rfl
 | i::l,S,h1,h2,h3,h4=>by
  have hn:=List.nodup_cons.1 h2
  have hp:=List.pairwise_cons.1 h3
  have hi:=h1 i (by simp)
  simp only [qi,and_eq_true,decide_eq_true_eq]
  refine ⟨⟨hi.1,?_⟩,?_⟩
  ·unfold jY
   rw [hi.2,Bool.not_false,Bool.true_and,pB]
   intro j hj
   obtain ⟨b1,b2⟩:=h4 i (by simp) j hj
   rcases b2 with b2 | b2
   ·exact b2
   ·rcases mem_cons.1 b2 with b2 | b2
    ·exact absurd b2 b1
    ·rw [hp.1 j b2] at hj;cases hj
  ·refine S5 (fun j hj=>?_) hn.2 hp.2 fun k hk j hj=>?_
   ·have:=h1 j (by simp [hj])
    refine ⟨this.1,?_⟩
    rw [tE,this.2,Bool.false_or]
    exact aU fun e=>hn.1 (e ▸ hj)
   ·obtain ⟨b1,b2⟩:=h4 k (by simp [hk]) j hj
    refine ⟨b1,?_⟩
    rcases b2 with b2 | b2
    ·exact .inl (by rw [tE,b2];rfl)
    ·rcases mem_cons.1 b2 with b2 | b2
     ·exact .inl (by rw [tE,b2];simp)
     ·exact .inr b2
theorem W6.ok {bs:List Nat} {n:Nat} {l:List Nat} (h:W6 bs n l):qi bs n 0 l=true∧uM 0 l=cK n:=by
 refine ⟨S5 (fun i hi=>⟨h.lt i hi,by simp⟩) h.nodup h.before fun i hi j hj=>?_,?_⟩
 ·obtain ⟨a,b⟩:=h.self i (h.lt i hi) j hj
  exact ⟨b,.inr (h.all j a)⟩
 ·apply Nat.eq_of_testBit_eq
  intro j
  rw [Ll,xo]
  simp only [Nat.zero_testBit,Bool.false_or]
  rw [decide_eq_decide]
  exact ⟨fun hm=>h.lt j hm,fun hl=>h.all j hl⟩
def OC (bs cs:List Nat) (n:Nat):Prop:=∀i j,i<n→j<n→(bs.getD i 0).testBit j=(cs.getD j 0).testBit i
theorem OC.symm {bs cs:List Nat} {n:Nat} (t:OC bs cs n):OC cs bs n:=fun i j hi hj=>(t j i hj hi).symm
end
section
theorem azN {bs:List Nat} {n:Nat}:∀{l:List Nat} {s:Nat},qi bs n s l=true→(l.Nodup∧∀i∈l,s.testBit i=false)∧(l.Pairwise fun a b=>(bs.getD a 0).testBit b=false)∧∀i∈l,∀j,(bs.getD i 0).testBit j=true→j≠i∧(s.testBit j=true∨j∈l):=by
 intro l
 induction l with
 | nil=>intro s _;simp
 | cons i l ih=>
  intro s h
  simp only [qi,and_eq_true,decide_eq_true_eq] at h
  obtain ⟨⟨a1,a2⟩,a3,a4⟩:=ih h.2
  have BB:=CB h.1.2
  have rT:jL (bs.getD i 0) s=true:=by
   have:=h.1.2
   unfold jY at this
   rw [and_eq_true] at this
   exact this.2
  rw [pB] at rT
  have old:∀j∈l,s.testBit j=false∧j≠i:=by
   intro j hj
   have:=a2 j hj
   rw [tE,Bool.or_eq_false_iff] at this
   exact ⟨this.1,fun e=>by subst e;simp at this⟩
  refine ⟨⟨?_,?_⟩,?_,?_⟩
  ·exact List.nodup_cons.2 ⟨fun hm=>(old i hm).2 rfl,a1⟩
  ·intro j hj
   rcases mem_cons.1 hj with rfl | hj
   ·exact BB
   ·exact (old j hj).1
  ·refine List.pairwise_cons.2 ⟨fun j hj=>?_,a3⟩
   cases hc:(bs.getD i 0).testBit j with
   | false=>rfl
   | true=>have:=rT j hc;rw [(old j hj).1] at this;cases this
  ·intro k hk j hj
   rcases mem_cons.1 hk with rfl | hk
   ·have:=rT j hj
    exact ⟨fun e=>(by subst e;rw [BB] at this;cases this),.inl this⟩
   ·obtain ⟨b1,b2⟩:=a4 k hk j hj
    refine ⟨b1,?_⟩
    rcases b2 with b2 | b2
    ·rw [tE,Bool.or_eq_true] at b2
     rcases b2 with b2 | b2
     ·exact .inl b2
     ·have:i=j:=of_decide_eq_true b2
      subst this;exact .inr (by simp)
    ·exact .inr (by simp [b2])
theorem azW {d s j:Nat} (h:d &&& s=0) (hs:s.testBit j=true):d.testBit j=false:=by
 have:=congrArg (Nat.testBit · j) h
 simp only [Nat.testBit_and,Nat.zero_testBit,hs,Bool.and_true] at this
 exact this
structure Gn (bs:List Nat) (s:Nat) (l:List Nat):Prop where
 nd:l.Nodup
 mem:∀i,i∈l↔s.testBit i=true
 fit:l.Pairwise fun a b=>(bs.getD a 0).testBit b=false
theorem mh.apart {bs:List Nat} {js:List (Int×Int)} {n:Nat}:∀{os:List Nat} {d:Nat},mh bs js n d os→∀s∈os,∀i,s.testBit i=true→d.testBit i=false
 | [],_,_,s,hs,_,_=>by simp at hs
 | b::os,d,h,s,hs,i,hi=>by
  rcases mem_cons.1 hs with rfl | hs
  ·exact azW h.1.1.1.apart hi
  ·have:=mh.apart h.2 s hs i hi
   rw [Nat.testBit_or,Bool.or_eq_false_iff] at this
   exact this.1
end
section
structure tO (bs:List Nat) (js:List (Int×Int)) (s:Nat) (E:List Nat) (nB:List Nat) (tj:List (Int×Int)):Prop where
 nd:E.Nodup
 mem:∀i,i∈E↔s.testBit i=true
 len:∀k,k<E.length→fP tj k=fP js (E.getD k 0)∧jP tj k=jP js (E.getD k 0)
 bit:∀k,k<E.length→∀j,(nB.getD k 0).testBit j=true↔j<E.length∧(bs.getD (E.getD k 0) 0).testBit (E.getD j 0)=true
section
variable {bs nB : List Nat} {js tj : List (Int × Int)} {s : Nat} {E : List Nat}
theorem Br {E:List Nat} {k:Nat} (h:k<E.length):E.getD k 0=E[k]:=by simp [getD_eq_getElem?_getD,h]
theorem tO.inj (w:tO bs js s E nB tj) {a b:Nat} (ha:a<E.length) (hb:b<E.length) (h:E.getD a 0=E.getD b 0):a=b:=by
 rw [Br ha,Br hb] at h
 exact (List.getElem_inj w.nd).1 h
theorem tO.cost (w:tO bs js s E nB tj):∀(o:List Nat) (now:Int),(∀k∈o,k<E.length)→tR tj now o=tR js now (o.map fun k=>E.getD k 0)
 | [],_,_=>rfl
 | k::o,now,h=>by
  have:=w.len k (h k (by simp))
  simp only [List.map_cons,tR,this.1,this.2]
  rw [w.cost o _ fun k hk=>h k (by simp [hk])]
theorem tO.part (w:tO bs js s E nB tj) {o:List Nat} (ho:qi nB E.length 0 o=true) (hf:uM 0 o=cK E.length):Gn bs s (o.map fun k=>E.getD k 0):=by
 obtain ⟨⟨nd,_⟩,pw,_⟩:=azN ho
 have aD:=J8 ho
 have fJ:∀k,k<E.length→k∈o:=by
  intro k hk
  have:=Ll o 0 k
  rw [hf,xo,aZ hk,Nat.zero_testBit,Bool.false_or] at this
  exact of_decide_eq_true this.symm
 refine ⟨?_,fun i=>?_,?_⟩
 ·unfold List.Nodup
  rw [List.pairwise_map]
  refine Pairwise.imp_of_mem (fun ha hb h=>?_) nd
  exact fun e=>h (w.inj (aD _ ha) (aD _ hb) e)
 ·rw [←w.mem,mem_map]
  constructor
  ·rintro ⟨k,hk,rfl⟩
   rw [Br (aD k hk)]
   exact getElem_mem _
  ·intro hi
   obtain ⟨k,hk,rfl⟩:=List.mem_iff_getElem.1 hi
   exact ⟨k,fJ k hk,Br hk⟩
 ·rw [List.pairwise_map]
  refine Pairwise.imp_of_mem (fun ha hb h=>?_) pw
  cases hc:(bs.getD (E.getD _ 0) 0).testBit (E.getD _ 0) with
  | false=>rfl
  | true=>rw [(w.bit _ (aD _ ha) _).2 ⟨aD _ hb,hc⟩] at h;cases h
theorem tO.back (w:tO bs js s E nB tj) (hi:∀i,i∈E→(bs.getD i 0).testBit i=false) {l:List Nat} (p:Gn bs s l):
  ∃o,qi nB E.length 0 o=true∧uM 0 o=cK E.length∧l=o.map fun k=>E.getD k 0:=by
 have inE:∀i∈l,i∈E:=fun i h=>(w.mem i).2 ((p.mem i).1 h)
 have ix:∀i∈l,E.idxOf i<E.length∧E.getD (E.idxOf i) 0=i:=by
  intro i h
  have hl:=List.idxOf_lt_length_of_mem (inE i h)
  exact ⟨hl,by rw [Br hl];exact List.getElem_idxOf hl⟩
 have hm:l=(l.map fun i=>E.idxOf i).map fun k=>E.getD k 0:=by
  rw [List.map_map]
  conv=>lhs;rw [←List.map_id l]
  exact List.map_congr_left fun i h=>(ix i h).2.symm
 have fJ:∀k,k<E.length→k∈l.map fun i=>E.idxOf i:=by
  intro k hk
  have hx:E[k]∈l:=(p.mem _).2 ((w.mem _).1 (getElem_mem hk))
  refine mem_map.2 ⟨E[k],hx,?_⟩
  have h2:=ix _ hx
  exact w.inj h2.1 hk (by rw [h2.2,Br hk])
 refine ⟨l.map fun i=>E.idxOf i,?_,?_,hm⟩
 ·refine S5 (fun k hk=>?_) ?_ ?_ (fun k hk j hj=>?_)
  ·obtain ⟨i,h,rfl⟩:=mem_map.1 hk
   exact ⟨(ix i h).1,by simp⟩
  ·unfold List.Nodup
   rw [List.pairwise_map]
   refine Pairwise.imp_of_mem (fun ha hb h=>?_) p.nd
   exact fun e=>h (by rw [←(ix _ ha).2,←(ix _ hb).2,e])
  ·rw [List.pairwise_map]
   refine Pairwise.imp_of_mem (fun {a b} ha hb h=>?_) p.fit
   cases hc:(nB.getD (E.idxOf a) 0).testBit (E.idxOf b) with
   | false=>rfl
   | true=>
    have:=((w.bit _ (ix a ha).1 _).1 hc).2
    rw [(ix a ha).2,(ix b hb).2,h] at this
    cases this
  ·obtain ⟨i,h,rfl⟩:=mem_map.1 hk
   obtain ⟨h1,h2⟩:=(w.bit _ (ix i h).1 _).1 hj
   rw [(ix i h).2] at h2
   refine ⟨?_,.inr (fJ j h1)⟩
   rintro rfl
   rw [(ix i h).2,hi i (inE i h)] at h2
   cases h2
 ·apply Nat.eq_of_testBit_eq
  intro j
  rw [Ll,xo,Nat.zero_testBit,Bool.false_or]
  rw [decide_eq_decide]
  refine ⟨fun h=>?_,fJ j⟩
  obtain ⟨i,h2,rfl⟩:=mem_map.1 h
  exact (ix i h2).1
theorem tO.bc (w:tO bs js s E nB tj) (hi:∀i,i∈E→(bs.getD i 0).testBit i=false) (hj:yd tj) (hn:E.length≤10) (hu:A8 nB E.length) {o:List Nat} (hg:pF nB tj E.length 0 o):
  Gn bs s (o.map fun k=>E.getD k 0)∧∀l,Gn bs s l→tR js 0 (o.map fun k=>E.getD k 0)≤tR js 0 l:=by
 obtain ⟨h1,h2,h3⟩:=pF.ok hn hg
 refine ⟨w.part h1 h2,fun l hl=>?_⟩
 obtain ⟨o',p1,p2,rfl⟩:=w.back hi hl
 have:=af3 hj hn hu (s:=0) (Nat.pow_pos (by decide)) p1 p2
 rw [azG] at this h3
 rw [←w.cost o 0 (J8 h1),←w.cost o' 0 (J8 p1)]
 omega
end
end
end Go.Sim
namespace Go.Proofs.YtelmdbpaoifmoaaGreat
open Go.Sim
section
theorem C29 {va vb:Value} {a b c d:Int} {h:ae} {K:Value→ae→Prop} (ha:QZ h va a b) (hb:QZ h vb c d) (la:a.natAbs<bG) (lb:b.natAbs<bG) (lc:c.natAbs<bG) (ld:d.natAbs<bG) (Sm:(a*d).natAbs<bG) (lcb:(c*b).natAbs<bG)
  (hk:∀h',EX h h'→K (I (lV (a*d-c*b))) h'):ak prog 29 [va,vb] h K:=by
 obtain ⟨u,w,rfl,hu,hw⟩:=ha
 obtain ⟨u',w',rfl,EK,qT⟩:=hb
 refine f29 ?_
 unfold NT
 have e1:∀(g:ae) (s s':Bool) (b d:Value),bm 37 g (.agg #[B s,b,B s',d])=some (pt g.length 0,g++[.arr 37 [B s,b,B s',d]]):=fun _ _ _ _ _=>rfl
 simp only [e1,aB]
 have x1:EX h (h++[.arr 37 [B (decide (a<0)),u,B (decide (b<0)),w]]):=EX.append _ _
 have k1:(h++[aq.arr 37 [B (decide (a<0)),u,B (decide (b<0)),w]])[h.length]?=some (.arr 37 [B (decide (a<0)),u,B (decide (b<0)),w]):=br
 generalize h++[aq.arr 37 [B (decide (a<0)),u,B (decide (b<0)),w]]=g at x1 k1⊢
 have x2:EX g (g++[.arr 37 [B (decide (c<0)),u',B (decide (d<0)),w']]):=EX.append _ _
 have k2:(g++[aq.arr 37 [B (decide (c<0)),u',B (decide (d<0)),w']])[g.length]?=some (.arr 37 [B (decide (c<0)),u',B (decide (d<0)),w']):=br
 generalize g++[aq.arr 37 [B (decide (c<0)),u',B (decide (d<0)),w']]=g2 at x2 k2⊢
 have k1:=x2.get k1
 have xx:=x1.trans x2
 have za:ZV g2 (.agg #[B (decide (a<0)),u]) a:=⟨u,rfl,hu.mono xx⟩
 have zb:ZV g2 (.agg #[B (decide (b<0)),w]) b:=⟨w,rfl,hw.mono xx⟩
 have zc:ZV g2 (.agg #[B (decide (c<0)),u']) c:=⟨u',rfl,EK.mono xx⟩
 have zd:ZV g2 (.agg #[B (decide (d<0)),w']) d:=⟨w',rfl,qT.mono xx⟩
 have a0:=jJ k1
 have a2:=kS k1
 have b0:=jJ k2
 have b2:=kS k2
 simp only [cw,add_zero,zero_add,ah,a0,b2,true_and]
 refine C5 za zd la ld ?_
 intro r3 g3 x3 z3
 simp only [EX.load x3 b0,EX.load x3 a2,ah,b0,a2,true_and]
 refine C5 (zc.mono x3) (zb.mono x3) lc lb ?_
 intro r4 g4 x4 Gd
 refine L4 (z3.mono x4) Gd Sm lcb ?_
 intro g5 x5
 exact hk g5 (xx.trans (x3.trans (x4.trans x5)))
theorem acB {n:Nat} (hn:n<bG):gJ (cC n)=true∧cF (cC n)=n:=by
 obtain ⟨d1,d2,d3,d4,d5⟩:=tT hn
 have:gJ (cC n)=true:=tX.2 ⟨⟨d2,by omega⟩,d4,d1⟩
 exact ⟨this,by unfold cF;rw [if_pos this,d5]⟩
theorem az6 {a b:Nat} (ha:a<bG) (hb:b<bG) (b1:1≤b) (hg:gcd a b=1):jK (ni a b)=some ((a:Int),b):=by
 obtain ⟨d1,d2,d3,d4,d5⟩:=tT ha
 obtain ⟨o1,o2⟩:=acB ha
 obtain ⟨p1,p2⟩:=acB hb
 have no:(47:UInt8)∉cC a:=fun h=>by have:=d1 _ h;simp at this
 have en:gU (a:Int)=cC a:=by unfold gU;rw [if_neg (by omega),natAbs_natCast]
 have hd:∀t:List UInt8,(cC a++t).head?≠some 45:=by
  intro t h
  obtain ⟨c,r,e⟩:∃c r,cC a=c::r:=by
   cases hd:cC a with
   | nil=>rw [hd] at d2;simp at d2
   | cons c r=>exact ⟨c,r,rfl⟩
  rw [e] at h
  have hc:c=45:=by simpa using h
  have:=d1 c (by rw [e];simp)
  rw [hc] at this
  simp at this
 unfold ni jK
 rw [en,natAbs_natCast]
 by_cases e:(b:Int)=1
 ·have e1:b=1:=by omega
  have h0:=hd []
  rw [append_nil] at h0
  have ix:(cC a).idxOf 47=(cC a).length:=List.idxOf_eq_length no
  have hs:nF (cC a)=false:=by unfold nF;rw [ix];simp
  have ho:dA (cC a)=cC a:=by unfold dA;rw [ix,take_length]
  rw [if_pos e,if_neg h0]
  unfold rk oZ pO
  rw [hs,ho,o1,o2]
  simp [e1]
 ·have ix:(cC a++47::cC b).idxOf 47=(cC a).length:=by
   rw [List.idxOf_append,if_neg no];simp
  have hs:nF (cC a++47::cC b)=true:=by unfold nF;rw [ix];simp
  have ho:dA (cC a++47::cC b)=cC a:=by unfold dA;rw [ix];simp
  have hu:dQ (cC a++47::cC b)=cC b:=by unfold dQ;rw [ix];simp
  rw [if_neg e,if_neg (hd _)]
  unfold rk oZ pO
  rw [hs,ho,hu,o1,o2,p1,p2]
  have:2≤b:=by omega
  simp [hg,this]
end
section
end
section
theorem PT {a k:Nat} (ha:a<10^k) (hk:1≤k) (hb:a<bG):(cC a).length≤k:=by
 obtain ⟨d1,d2,d3,d4,d5⟩:=tT hb
 cases e:cC a with
 | nil=>simp
 | cons c r=>
  rw [e] at d1 d4 d5
  by_cases hc:c=48
  ·have:=d4 (by rw [hc];rfl)
   omega
  ·have h1:=d1 c (by simp)
   rw [Lz] at d5
   have h2:c.toNat≠48:=fun h=>hc (UInt8.toNat_inj.1 h)
   have h3:=Nat.mul_le_mul_right (10^r.length) (show 1≤c.toNat-48 by omega)
   have h4:10^r.length<10^k:=by omega
   have:=(Nat.pow_lt_pow_iff_right (show 1<10 by decide)).1 h4
   simp;omega
end
section
theorem az5 {s:List UInt8} {n:Int} {d:Nat} (h:jK s=some (n,d)):0<d∧gcd n.natAbs d=1:=by
 rw [UD] at h
 unfold rk at h
 split at h
 ·rename_i hc
  injection h with h
  injection h with h1 h2
  have e:=(Vu (m:=decide (s.head?=some 45)) (n:=cF (dA (fE s)))).2
  have hn:n.natAbs=cF (dA (fE s)):=by rw [←h1];exact e
  rw [hn,←h2]
  unfold pO
  have hd:=hc.1
  unfold oZ at hd
  split
  ·rename_i hs
   rw [hs,Bool.not_true,Bool.false_or,and_eq_true,and_eq_true,decide_eq_true_eq,decide_eq_true_eq] at hd
   exact ⟨by omega,hd.2.2⟩
  ·exact ⟨by decide,Nat.gcd_one_right _⟩
 ·cases h
theorem azp {n:Int} {d:Nat} (h0:0<d) (hg:gcd n.natAbs d=1):(mkRat n d).num=n∧(mkRat n d).den=d:=by
 obtain ⟨e1,e2⟩:=Cj (N:=n) h0
 rw [hg] at e1 e2
 exact ⟨by rw [e1];simp,by rw [e2];simp⟩
def lG (s:List UInt8):Rat:=match jK s with | some (n,d)=>mkRat n d | none=>0
def oI (s:List UInt8):Bool:=(jK s).isSome
theorem U5 {s:List UInt8} {n:Int} {d:Nat} (h:jK s=some (n,d)):(lG s).num=n∧(lG s).den=d:=by
 obtain ⟨h1,h2⟩:=az5 h
 have:=azp h1 h2
 unfold lG
 rw [h]
 exact this
theorem axZ {s:List UInt8} (h:oI s=true):jK s=some ((lG s).num,(lG s).den):=by
 unfold oI at h
 cases e:jK s with
 | none=>rw [e] at h;cases h
 | some q=>
  obtain ⟨n,d⟩:=q
  obtain ⟨e1,e2⟩:=U5 e
  rw [e1,e2]
theorem am1 {h:ae} {K:Value→ae→Prop} {s:List UInt8} (hl:s.length≤700)
  (hk:oI s=true→∀r h',EX h h'→RV h' r (lG s)→K (.tuple #[r,B true]) h')
  (fV:oI s=false→∀a b c e h',EX h h'→K (.tuple #[.agg #[a,b,c,e],B false]) h'):ak prog 108 [S s] h K:=by
 refine am0 hl (fun n d hp r h' x hr=>?_) (fun hp=>fV (by unfold oI;rw [hp];rfl))
 obtain ⟨e1,e2⟩:=U5 hp
 refine hk (by unfold oI;rw [hp];rfl) r h' x ?_
 unfold RV
 rw [e1,e2]
 exact hr
theorem acw {a k:Nat} (hk:1≤k) (hb:a<bG):(cC a).length≤k↔a<10^k:=by
 constructor
 ·intro h
  obtain ⟨d1,_,_,_,d5⟩:=tT hb
  have:=AJ d1
  rw [d5] at this
  exact lt_of_lt_of_le this (pow_le_pow_right (by decide) h)
 ·intro h
  exact PT h hk hb
def D3 (k:Nat) (q:Rat):Bool:=decide (q.num.natAbs<10^k)&&decide (q.den<10^k)
theorem C84 {h:ae} {K:Value→ae→Prop} {va:Value} {p:Rat} {i k:Nat} (ha:RV h va p) (sp:cd i p) (hi:i≤900) (mW:1≤k) (_:k≤1000) (hk:∀h',EX h h'→K (B (D3 k p)) h'):ak prog 84 [va,I k] h K:=by
 obtain ⟨u,w,rfl,hu,hw⟩:=ha
 obtain ⟨l1,l2⟩:=sp.jV hi
 rw [natAbs_natCast] at hw
 refine f84 ?_
 have e1:∀(g:ae) (s t:Bool) (v w:Value),bm 107 g (.agg #[B s,v,B t,w])=some (pt g.length 0,g++[.arr 107 [B s,v,B t,w]]):=fun _ _ _ _ _=>rfl
 simp only [On,e1,aB]
 generalize decide ((p.den:Int)<0)=t1 at*
 have q0:EX h (h++[.arr 107 [B (decide (p.num<0)),u,B t1,w]]):=EX.append _ _
 have p0:(h++[aq.arr 107 [B (decide (p.num<0)),u,B t1,w]])[h.length]?=some (.arr 107 [B (decide (p.num<0)),u,B t1,w]):=br
 generalize h++[aq.arr 107 [B (decide (p.num<0)),u,B t1,w]]=ga at q0 p0⊢
 have pv:af false 1 ga (pt h.length 1)=some u:=by simp [af,aQ,p0,cf]
 simp only [cw,zero_add,add_zero,ah,pv]
 refine Gi (hu.mono q0) l1 ?_
 intro g1 x1
 have ld3:af false 1 g1 (pt h.length 3)=some w:=by simp [af,aQ,x1.get p0,cf]
 have d1:decide (((cC p.num.natAbs).length:Int)≤(k:Int))=decide (p.num.natAbs<10^k):=by
  rw [decide_eq_decide]
  have:=acw mW l1
  omega
 simp only [lX,ah,Ds,d1]
 rw [aC8]
 unfold D3 at hk
 by_cases h1:p.num.natAbs<10^k
 ·rw [aZ h1] at hk⊢
  simp only [gQ,cw,ah,ld3]
  refine Gi ((hw.mono q0).mono x1) l2 ?_
  intro g2 x2
  have d2:decide (((cC p.den).length:Int)≤(k:Int))=decide (p.den<10^k):=by
   rw [decide_eq_decide]
   have:=acw mW l2
   omega
  simp only [lX,ah,Ds,d2]
  rw [alO]
  simp only [ef,ah]
  rw [Bool.true_and] at hk
  exact hk g2 (q0.trans (x1.trans x2))
 ·rw [aU h1] at hk⊢
  simp only [lK]
  rw [alO]
  simp only [dU,ah]
  exact hk g1 (q0.trans x1)
end
section
variable (P : Program) (K : VK)
noncomputable section
variable (c0 x4 aE au aA : Value) (L1 : LQ) (xs : List Value) (h : ae)
def ahJ:=bC prog 80 [[],[],[],[10,11],[4,12],[],[],[],[],[],[],[],[],[4],[]]
@[irreducible] def H4:=bN ahJ
@[irreducible] def atz:=H4.r.r.l.r.l.l
@[irreducible] def abK:=H4.r.r.r
@[irreducible] def aty:=abK.l
theorem k80:ahJ=some (29,H4,[.tmp 2,.tmp 3]):=by kernel_rfl
def MP (_P:Program) (K:VK):ar:=aS [.tmp 2,.tmp 3] K
def ap8:ar:=aF (aj P abK (MP P K)) (MP P K)
def ap9:ar:=bO 0 (ap8 P K)
def aqa:ar:=aF (fun f' aT=>(([10,11]:List Nat).map f':List Value)=[aE,au]∧L1 (([4,12]:List Nat).map f') aT) (ap9 P K)
def akk:Prop:=ay (aj P atz (aqa P K aE au L1)) ([10,11]++[4,12]) ([aE,au]++xs) h
def akj:Prop:=ay (aj P aty (MP P K)) [4] [x4] h
theorem aC6 (aE au:Value) (L1:LQ) (x4 aA:Value) (h:ae):akk P K aE au L1 [x4,aA] h=
 (OP (ai .lss aA au) fun aC=>
 aO aC
 (OP (a9 1 aE aA) fun aI=>
 OP (af false 1 h aI) fun bf=>
 ak P 108 [bf] h fun aR z1=>
 OP (ca 0 aR) fun aP=>
 OP (ca 1 aR) fun aX=>
 OH (aV 107 [(.bool false),(.slice none 0 0),(.bool false),(.slice none 0 0)] z1) fun x7 z2=>
 OH (aG 4 z2 x7 aP) fun _ z3=>
 OP (gT .not aX) fun bH=>
 aO bH
 (K (.tuple #[(.slice none 0 0),(.bool false)]) z3)
 (OP (af true 4 z3 x7) fun bt=>
 OH (cW 107 1 [(.bool false),(.slice none 0 0),(.bool false),(.slice none 0 0)] z3 [(0,4,bt)]) fun bu z4=>
 OH (dM 107 4 64 z4 x4 bu) fun bI z5=>
 OP (ai .add aA (.int .i64 (1))) fun bE=>
 ([aE,au]:List Value)=[aE,au]∧L1 [bI,bE] z5))
 (akj P K x4 h)):=az (by kernel_rfl)
theorem aC5:akj P K x4 h=
 (K (.tuple #[x4,(.bool true)]) h):=az (by kernel_rfl)
def Oj:Prop:=
 OH (bm 24 h c0) fun c1 z1=>
 OP (aM 0 c1) fun x9=>
 OP (af false 1 z1 x9) fun aE=>
 OP (bj aE) fun au=>
 cN [(.slice none 0 0),(.int .i64 (0))] z1 fun L1 xs hx=>
 akk P K aE au L1 xs hx
theorem e80:aj P H4 (aS [.tmp 2,.tmp 3] K) (bw [c0]) h=Oj P K c0 h:=by kernel_rfl
theorem f80 {K:VK} {c0:Value} {h:ae} (H:Oj prog K c0 h):ak prog 80 [c0] h K:=
 bP k80 (bL rfl) ((e80 prog K c0 h).mpr H)
end
noncomputable section
variable (s0 f1 : Value) (h : ae)
def ahL:=bC prog 82 [[],[]]
@[irreducible] def c82:=bN ahL
theorem k82:ahL=some (9,c82,[.tmp 4]):=by kernel_rfl
def Ol:Prop:=
 ak P 110 [s0,f1] h fun x7 z1=>
 OP (ai .geq x7 (.int .i64 (0))) fun x8=>
 K x8 z1
theorem e82:aj P c82 (aS [.tmp 4] K) (bw [s0,f1]) h=Ol P K s0 f1 h:=by kernel_rfl
theorem f82 {K:VK} {s0 f1:Value} {h:ae} (H:Ol prog K s0 f1 h):ak prog 82 [s0,f1] h K:=
 bP k82 (bL rfl) ((e82 prog K s0 f1 h).mpr H)
end
noncomputable section
variable (x0 x1 x6 x9 : Value) (h : ae)
def ahM:=bC prog 83 [[],[1,6],[6,9],[]]
@[irreducible] def Be:=bN ahM
@[irreducible] def abN:=Be.r.l.r.l
@[irreducible] def atA:=Be.r.r
@[irreducible] def atB:=abN.r.l
theorem k83:ahM=some (11,Be,[.tmp 2]):=by kernel_rfl
def Yb (_P:Program) (K:VK):ar:=aS [.tmp 2] K
def Yc:ar:=aF (aj P atA (Yb P K)) (Yb P K)
def akl:Prop:=ay (aj P abN (Yc P K)) [1,6] [x1,x6] h
def Un:Prop:=ay (aj P atB (Yc P K)) [6,9] [x6,x9] h
theorem alN:Un P K x6 x9 h=
 (OP (bX x6 (.bool true) x9) fun aE=>
 K aE h):=az (by kernel_rfl)
theorem aC7:akl P K x1 x6 h=
 (cD x6 false
 (OP (af true 4 h x1) fun x7=>
 ak P 84 [x7,(.int .i64 (4))] h fun x8 z1=>
 OP (gT .not x8) fun x9=>
 Un P K x6 x9 z1)
 (Un P K x6 undef h)):=az (by kernel_rfl)
def Om:Prop:=
 OH (bm 107 h x0) fun x1 z1=>
 OP (af true 4 z1 x1) fun x3=>
 ak P 81 [x3] z1 fun x4 z2=>
 OP (ai .lss x4 (.int .i64 (0))) fun x5=>
 akl P K x1 x5 z2
theorem e83:aj P Be (aS [.tmp 2] K) (bw [x0]) h=Om P K x0 h:=by kernel_rfl
theorem f83 {K:VK} {x0:Value} {h:ae} (H:Om prog K x0 h):ak prog 83 [x0] h K:=
 bP k83 (bL rfl) ((e83 prog K x0 h).mpr H)
end
noncomputable section
variable (j0 x1 x4 x5 aA aC aI : Value) (L1 : LQ) (xs : List Value) (h : ae)
def ahO:=bC prog 85 [[],[],[],[4,5,12,13],[14],[],[],[],[],[4,5],[]]
@[irreducible] def H6:=bN ahO
@[irreducible] def atF:=H6.r.r.l.r.l.l
@[irreducible] def abP:=H6.r.r.r
@[irreducible] def atE:=abP.l
theorem k85:ahO=some (23,H6,[.cell true 4 4]):=by kernel_rfl
def MQ (_P:Program) (K:VK):ar:=aS [.cell true 4 4] K
def aqb:ar:=aF (aj P abP (MQ P K)) (MQ P K)
def aqc:ar:=bO 0 (aqb P K)
def aqd:ar:=aF (fun f' aT=>(([4,5,12,13]:List Nat).map f':List Value)=[x4,x5,aA,aC]∧L1 (([14]:List Nat).map f') aT) (aqc P K)
def ako:Prop:=ay (aj P atF (aqd P K x4 x5 aA aC L1)) ([4,5,12,13]++[14]) ([x4,x5,aA,aC]++xs) h
def akn:Prop:=ay (aj P atE (MQ P K)) [4,5] [x4,x5] h
theorem aDa (x4 x5 aA aC:Value) (L1:LQ) (aI:Value) (h:ae):ako P K x4 x5 aA aC L1 [aI] h=
 (OP (ai .lss aI aC) fun bf=>
 aO bf
 (OP (a9 4 aA aI) fun bp=>
 OP (af true 4 h bp) fun bY=>
 OH (aV 107 [(.bool false),(.slice none 0 0),(.bool false),(.slice none 0 0)] h) fun x7 z1=>
 OH (aG 4 z1 x7 bY) fun _ z2=>
 OP (af true 4 z2 x5) fun aR=>
 OP (af true 4 z2 x7) fun aP=>
 ak P 87 [aR,aP] z2 fun aX z3=>
 OH (aG 4 z3 x5 aX) fun _ z4=>
 OP (ai .add aI (.int .i64 (1))) fun ba=>
 ([x4,x5,aA,aC]:List Value)=[x4,x5,aA,aC]∧L1 [ba] z4)
 (akn P K x4 x5 h)):=az (by kernel_rfl)
theorem aC9:akn P K x4 x5 h=
 (OP (af true 4 h x5) fun bH=>
 OH (aG 4 h x4 bH) fun _ z1=>
 OP (af true 4 z1 x4) fun r0=>
 K r0 z1):=az (by kernel_rfl)
def Oo:Prop:=
 OH (bm 102 h j0) fun j2 z1=>
 OH (aV 107 [(.bool false),(.slice none 0 0),(.bool false),(.slice none 0 0)] z1) fun x4 z2=>
 ak P 75 [(.int .i64 (0))] z2 fun x8 z3=>
 OH (aV 107 [(.bool false),(.slice none 0 0),(.bool false),(.slice none 0 0)] z3) fun x5 z4=>
 OH (aG 4 z4 x5 x8) fun _ z5=>
 OP (aM 2 j2) fun x9=>
 OP (af false 1 z5 x9) fun aE=>
 OP (mD 107 4 aE (some x1) none) fun aA=>
 OP (bj aA) fun aC=>
 cN [(.int .i64 (0))] z5 fun L1 xs hx=>
 ako P K x4 x5 aA aC L1 xs hx
theorem e85:aj P H6 (aS [.cell true 4 4] K) (bw [j0,x1]) h=Oo P K j0 x1 h:=by kernel_rfl
theorem f85 {K:VK} {j0 x1:Value} {h:ae} (H:Oo prog K j0 x1 h):ak prog 85 [j0,x1] h K:=
 bP k85 (bL rfl) ((e85 prog K j0 x1 h).mpr H)
end
noncomputable section
variable (s0 f1 x7 x8 : Value) (L1 : LQ) (xs : List Value) (h : ae)
def agD:=bC prog 110 [[],[],[0,1,7],[8],[],[],[],[],[],[],[],[]]
@[irreducible] def Hb:=bN agD
@[irreducible] def ari:=Hb.r.l.r.l.l
@[irreducible] def arh:=Hb.r.r
theorem ayk:agD=some (19,Hb,[.tmp 4]):=by kernel_rfl
def Xg (_P:Program) (K:VK):ar:=aS [.tmp 4] K
def anV:ar:=aF (aj P arh (Xg P K)) (Xg P K)
def anW:ar:=bO 0 (anV P K)
def anX:ar:=aF (fun f' aT=>(([0,1,7]:List Nat).map f':List Value)=[s0,f1,x7]∧L1 (([8]:List Nat).map f') aT) (anW P K)
def aiB:Prop:=ay (aj P ari (anX P K s0 f1 x7 L1)) ([0,1,7]++[8]) ([s0,f1,x7]++xs) h
theorem aAS (s0 f1 x7:Value) (L1:LQ) (x8:Value) (h:ae):aiB P K s0 f1 x7 L1 [x8] h=
 (OP (ai .lss x8 x7) fun x9=>
 aO x9
 (OP (a9 4 s0 x8) fun aI=>
 OP (af true 4 h aI) fun bf=>
 uZ P f1 [bf] h fun bp z1=>
 aO bp
 (K x8 z1)
 (OP (ai .add x8 (.int .i64 (1))) fun aR=>
 ([s0,f1,x7]:List Value)=[s0,f1,x7]∧L1 [aR] z1))
 (K (.int .i64 (-1)) h)):=az (by kernel_rfl)
def Nd:Prop:=
 OP (bj s0) fun x7=>
 cN [(.int .i64 (0))] h fun L1 xs hx=>
 aiB P K s0 f1 x7 L1 xs hx
theorem auT:aj P Hb (aS [.tmp 4] K) (bw [s0,f1]) h=Nd P K s0 f1 h:=by kernel_rfl
theorem f110 {K:VK} {s0 f1:Value} {h:ae} (H:Nd prog K s0 f1 h):ak prog 110 [s0,f1] h K:=
 bP ayk (bL rfl) ((auT prog K s0 f1 h).mpr H)
end
end
section
def rl (qs:List Rat):List (Int×Int):=qs.map fun q=>(q.num,(q.den:Int))
def QL (h:ae) (v:Value) (qs:List Rat):Prop:=rD h v (rl qs)
theorem QL.mono {h h':ae} {v:Value} {qs:List Rat} (x:EX h h') (p:QL h v qs):QL h' v qs:=rD.mono x p
theorem Ay (qs:List Rat):(rl qs).length=qs.length:=by simp [rl]
theorem QL.len {h:ae} {v:Value} {qs:List Rat} (p:QL h v qs):bj v=some (I qs.length):=by have:=rD.len p;rwa [Ay] at this
theorem QL.get {h:ae} {v:Value} {qs:List Rat} (p:QL h v qs) {k:Nat} (hk:k<qs.length):∃i o r,a9 4 v (I k)=some (pt i o)∧af true 4 h (pt i o)=some r∧RV h r qs[k]:=by
 obtain ⟨i,o,r,g1,g2,g3⟩:=rD.get p (k:=k) (by rw [Ay];exact hk)
 refine ⟨i,o,r,g1,g2,?_⟩
 unfold RV
 simpa [rl] using g3
theorem RV.agg {h:ae} {v:Value} {q:Rat} (p:RV h v q):∃a b c d,v=.agg #[B a,b,B c,d]:=by
 obtain ⟨u,w,rfl,_⟩:=p
 exact ⟨_,_,_,_,rfl⟩
section
variable {h : ae} {K : Value → ae → Prop}
theorem C80 {vs:Value} {w:Int} {ls:List (List UInt8)} (hv:SS h vs ls) (hl:∀s∈ls,s.length≤700) (hn:ls.length≤1000)
  (hk:ls.all oI=true→∀v h' b,EX h h'→nY b h' v (rl (ls.map lG))→K (.tuple #[v,B true]) h')
  (fV:ls.all oI=false→∀h',EX h h'→K (.tuple #[.slice none 0 0,B false]) h'):ak prog 80 [.agg #[vs,I w]] h K:=by
 refine f80 ?_
 have e1:bm 24 h (.agg #[vs,I w])=some (pt h.length 0,h++[.arr 24 [vs,I w]]):=rfl
 simp only [Oj,e1,aB]
 have x0:EX h (h++[.arr 24 [vs,I w]]):=EX.append _ _
 have k0:(h++[aq.arr 24 [vs,I w]])[h.length]?=some (.arr 24 [vs,I w]):=br
 generalize h++[aq.arr 24 [vs,I w]]=g0 at x0 k0⊢
 have ld:af false 1 g0 (pt h.length 0)=some vs:=by simp [af,aQ,k0,cf]
 have hlen:=hv.len
 simp only [cw,add_zero,ah,ld,hlen]
 refine dI (σ:=Nat×Value×ae) (fun q=>[q.2.1,I q.1]) (fun q=>q.2.2) (fun q=>q.1≤ls.length∧EX g0 q.2.2∧(ls.take q.1).all oI=true∧nY g0.length q.2.2 q.2.1 (rl ((ls.take q.1).map lG))) (fun q=>ls.length-q.1)
  (0,.slice none 0 0,g0) rfl rfl ⟨zero_le _,EX.refl _,by simp,by simpa [rl] using nY.start g0.length g0⟩ ?_
 rintro ⟨i,vo,g⟩ ⟨hi,xg,fJ,own⟩ L hL
 simp only at hi xg fJ own hL⊢
 rw [aC6]
 simp only [cS,ah,bW]
 refine ⟨fun aD=>?_,fun cE=>?_⟩
 ·have bn:i<ls.length:=by omega
  obtain ⟨b,o,r1,r2⟩:=(hv.mono (x0.trans xg)).get i bn
  simp only [r1,r2,ah]
  have e7:∀(g:ae),aV 107 [(.bool false),(.slice none 0 0),(.bool false),(.slice none 0 0)] g=some (pt g.length 0,g++[.arr 107 z4]):=fun _=>rfl
  refine am1 (hl _ (getElem_mem bn)) (fun Ji r g1 x1 hr=>?_) (fun Ji a b c e g1 x1=>?_)
  ·obtain ⟨a,b',c,d,rfl⟩:=hr.agg
   simp only [eC,eO,eY,ah,e7,aB]
   rw [nR br]
   simp only [aB,tG,ah,Bool.not_true,dR]
   rw [ik (ck br)]
   simp only [ah]
   have x2:EX g1 ((g1++[aq.arr 107 z4]).set g1.length (.arr 107 [B a,b',B c,d])):=EX.set (EX.append _ _) (le_refl _) _
   generalize (g1++[aq.arr 107 z4]).set g1.length (.arr 107 [B a,b',B c,d])=g2 at x2⊢
   have aA:=x1.trans x2
   refine (own.ex aA).app (xg.trans aA) (hr.mono x2) rfl (by rw [Ay,length_map,length_take];omega) ?_
   intro v' g3 x3 _ sj
   simp only [cP,ah,ft i (by omega),true_and]
   refine hL (i+1,v',g3) ⟨by show i+1≤_;omega,x3,?_,?_⟩ (by show ls.length-(i+1)<ls.length-i;omega)
   ·show (ls.take (i+1)).all oI=true
    rw [take_succ_eq_append_getElem bn,List.all_append,fJ]
    simpa using Ji
   ·show nY g0.length g3 v' (rl ((ls.take (i+1)).map lG))
    rw [take_succ_eq_append_getElem bn,List.map_append]
    simpa [rl] using sj
  ·simp only [eC,eO,eY,ah,e7,aB]
   rw [nR br]
   simp only [aB,tG,ah,Bool.not_false,dS]
   refine fV ?_ _ ((x0.trans (xg.trans x1)).trans (EX.set (EX.append _ _) (le_refl _) _))
   cases he:ls.all oI with
   | false=>rfl
   | true=>rw [List.all_eq_true] at he;rw [he _ (getElem_mem bn)] at Ji;cases Ji
 ·have fO:i=ls.length:=by omega
  subst fO
  rw [take_length] at fJ own
  rw [aC5]
  exact hk fJ vo g _ (x0.trans xg) own
end
end
section
def dP (qs:List Rat):Rat:=qs.foldl (·+·) 0
theorem Ls {qs:List Rat} {i:Nat} (h:i<qs.length):dP (qs.take (i+1))=dP (qs.take i)+qs[i]:=by
 unfold dP
 rw [take_succ_eq_append_getElem h,List.foldl_append]
 rfl
theorem Ck {N:Int} {D k:Nat} (hD:0<D) (h1:N.natAbs<10^k) (h2:D<10^k):cd k (mkRat N D):=by
 obtain ⟨e1,e2⟩:=Cj (N:=N) hD
 have hg:0<gcd N.natAbs D:=Nat.gcd_pos_of_pos_right _ hD
 refine ⟨?_,?_⟩
 ·rw [e1]
  have hd:(gcd N.natAbs D:Int) ∣ N:=Int.ofNat_dvd_left.2 (Nat.gcd_dvd_left ..)
  rw [Int.natAbs_ediv_of_dvd hd,natAbs_natCast]
  exact Nat.lt_of_le_of_lt (Nat.div_le_self ..) h1
 ·rw [e2];exact Nat.lt_of_le_of_lt (Nat.div_le_self ..) h2
theorem cd.add {i j:Nat} {p q:Rat} (hp:cd i p) (hq:cd j q):cd (i+j+1) (p+q):=by
 obtain ⟨c1,c2,c3,_⟩:=yN hp hq
 rw [OE]
 have h1:10^(i+j+1)=10^(i+j)*10:=Nat.pow_succ ..
 refine Ck (Nat.mul_pos p.den_pos q.den_pos) ?_ ?_
 ·rw [h1];generalize 10^(i+j)=Z at*;omega
 ·rw [h1];generalize 10^(i+j)=Z at*;omega
theorem cd.mul {i j:Nat} {p q:Rat} (hp:cd i p) (hq:cd j q):cd (i+j) (p*q):=by
 obtain ⟨_,_,c3,c4⟩:=yN hp hq
 rw [SL]
 exact Ck (Nat.mul_pos p.den_pos q.den_pos) c4 c3
theorem cd.div {i j:Nat} {p q:Rat} (hp:cd i p) (hq:cd j q) (h0:0<q.num):cd (i+j) (p / q):=by
 obtain ⟨c1,c2,_,_⟩:=yN hp hq
 rw [acD h0]
 refine Ck (Nat.mul_pos p.den_pos (by omega)) c1 ?_
 rw [Int.natAbs_mul,natAbs_natCast,Nat.mul_comm] at c2
 have:q.num.toNat=q.num.natAbs:=by omega
 rw [this];exact c2
theorem cd.le {i j:Nat} {p:Rat} (h:cd i p) (fB:i≤j):cd j p:=
 ⟨lt_of_lt_of_le h.1 (pow_le_pow_right (by decide) fB),lt_of_lt_of_le h.2 (pow_le_pow_right (by decide) fB)⟩
theorem cd.zero:cd 1 (0:Rat):=by constructor <;> decide
theorem CL {qs:List Rat} (h:∀q∈qs,cd 4 q):∀i,i≤qs.length→cd (5*i+1) (dP (qs.take i))
 | 0,_=>by rw [List.take_zero];exact cd.zero
 | i+1,hi=>by
  rw [Ls (by omega)]
  exact ((CL h i (by omega)).add (h _ (getElem_mem (by omega)))).le (by omega)
theorem RV.bM {h:ae} {v:Value} {q:Rat} {j:Nat} {e:TypeId} {s:Bool} {r:List Value} (p:RV h v q) (hj:h[j]?=some (.arr e (.bool s::r))) (o:aq):RV (h.set j o) v q:=gY.bM p hj o
theorem QL.from {h:ae} {v:Value} {qs:List Rat} (p:QL h v qs) {k:Nat} (hk:k≤qs.length):∃v',mD 107 4 v (some (I k)) none=some v'∧QL h v' (qs.drop k):=by
 obtain ⟨rows,a,b,c⟩:=p
 rw [Ay] at b
 obtain ⟨v',e1,e2⟩:=a.from (k:=k) (by omega)
 refine ⟨v',e1,rows.drop k,e2,by simp [rl];omega,fun j row q h1 h2=>?_⟩
 rw [List.getElem?_drop] at h1
 refine c (k+j) row q h1 ?_
 rw [←h2]
 unfold rl
 rw [List.getElem?_map,List.getElem?_map,List.getElem?_drop]
section
variable {h : ae} {K : Value → ae → Prop}
theorem L6 {v:Value} {n w:Int} {age:Nat} {qs:List Rat} (hq:QL h v qs) (ha:age≤qs.length) (hs:∀q∈qs,cd 4 q) (hn:qs.length≤20) (hk:∀r h',EX h h'→RV h' r (dP (qs.drop age))→K r h'):
  ak prog 85 [.agg #[I n,I w,v],I age] h K:=by
 obtain ⟨rows,rs,_,_⟩:=id hq
 obtain ⟨t1,t2⟩:=rs.one
 refine f85 ?_
 have e1:bm 102 h (.agg #[I n,I w,v])=some (pt h.length 0,h++[.arr 102 [I n,I w,v]]):=rfl
 have e7:∀(g:ae),aV 107 [(.bool false),(.slice none 0 0),(.bool false),(.slice none 0 0)] g=some (pt g.length 0,g++[.arr 107 z4]):=fun _=>rfl
 simp only [Oo,e1,e7,aB]
 have x0:EX h (h++[.arr 102 [I n,I w,v]]):=EX.append _ _
 have k0:(h++[aq.arr 102 [I n,I w,v]])[h.length]?=some (.arr 102 [I n,I w,v]):=br
 generalize h++[aq.arr 102 [I n,I w,v]]=g0 at x0 k0⊢
 have x1:EX g0 (g0++[.arr 107 z4]):=EX.append _ _
 have k1:(g0++[aq.arr 107 z4])[g0.length]?=some (.arr 107 z4):=br
 generalize g0++[aq.arr 107 z4]=g1 at x1 k1⊢
 refine tM (n:=0) (by decide) (by decide) ?_
 intro r2 g2 x2 BX
 obtain ⟨a,b,c,d,rfl⟩:=BX.agg
 have x3:EX g2 (g2++[.arr 107 z4]):=EX.append _ _
 have k3:(g2++[aq.arr 107 z4])[g2.length]?=some (.arr 107 z4):=br
 generalize g2++[aq.arr 107 z4]=g3 at x3 k3⊢
 have BY:=BX.mono x3
 rw [nR k3]
 simp only [aB]
 have hl0:=x0.1
 have zC:=x1.1
 have nK:=x2.1
 have Et:=(bD k1).1
 have k4:(g3.set g2.length (.arr 107 [B a,b,B c,d]))[g2.length]?=some (.arr 107 [B a,b,B c,d]):=ck k3
 have vW:RV (g3.set g2.length (.arr 107 [B a,b,B c,d])) (.agg #[B a,b,B c,d]) 0:=by
  have:=BY.bM k3 (.arr 107 [B a,b,B c,d])
  simpa using this
 have x4:EX g2 (g3.set g2.length (.arr 107 [B a,b,B c,d])):=x3.set (le_refl _) _
 generalize g3.set g2.length (.arr 107 [B a,b,B c,d])=g4 at k4 vW x4⊢
 have LM:=x0.trans (x1.trans x2)
 have kR:=(x2.trans x4).get k1
 have ld:af false 1 g4 (pt h.length 2)=some v:=by simp [af,aQ,(x1.trans (x2.trans x4)).get k0,cf]
 obtain ⟨v',s1,s2⟩:=(hq.mono LM).from ha
 have hlen:=s2.len
 simp only [cw,zero_add,ah,ld,s1,hlen]
 have hsd:∀q∈qs.drop age,cd 4 q:=fun q hm=>hs q (mem_of_mem_drop hm)
 have ph:(qs.drop age).length≤20:=by rw [length_drop];omega
 generalize qs.drop age=ps at*
 refine dI (σ:=Nat×ae×(Bool×Value×Bool×Value)) (fun q=>[I q.1]) (fun q=>q.2.1)
  (fun q=>q.1≤ps.length∧EX g2 q.2.1∧q.2.1[g2.length]?=some (.arr 107 [B q.2.2.1,q.2.2.2.1,B q.2.2.2.2.1,q.2.2.2.2.2])∧q.2.1[g0.length]?=some (.arr 107 z4)∧RV q.2.1 (.agg #[B q.2.2.1,q.2.2.2.1,B q.2.2.2.2.1,q.2.2.2.2.2]) (dP (ps.take q.1))) (fun q=>ps.length-q.1)
  (0,g4,a,b,c,d) rfl rfl ⟨zero_le _,x4,k4,kR,vW⟩ ?_
 rintro ⟨i,g,a,b,c,d⟩ ⟨hi,xg,kg,kz,hr⟩ L hL
 simp only at hi xg kg kz hr hL⊢
 have qM:=s2.mono xg
 rw [aDa]
 simp only [cS,ah,bW]
 refine ⟨fun aD=>?_,fun cE=>?_⟩
 ·have bn:i<ps.length:=by omega
  obtain ⟨bi,oi,r,u1,u2,u3⟩:=qM.get bn
  obtain ⟨a',b',c',d',rfl⟩:=u3.agg
  simp only [u1,u2,ah,e7,aB]
  have y1:EX g (g++[.arr 107 z4]):=EX.append _ _
  have j1:(g++[aq.arr 107 z4])[g.length]?=some (.arr 107 z4):=br
  generalize g++[aq.arr 107 z4]=ga at y1 j1⊢
  rw [nR j1]
  simp only [aB]
  have y2:EX g (ga.set g.length (.arr 107 [B a',b',B c',d'])):=y1.set (le_refl _) _
  have j2:(ga.set g.length (.arr 107 [B a',b',B c',d']))[g.length]?=some (.arr 107 [B a',b',B c',d']):=ck j1
  generalize ga.set g.length (.arr 107 [B a',b',B c',d'])=gb at y2 j2⊢
  have kb:=y2.get kg
  rw [ik kb,ah,ik j2,ah]
  refine yo (hr.mono y2) (u3.mono y2) (CL hsd i hi) (hsd _ (getElem_mem bn)) (by omega) ?_
  intro r5 g5 x5 qP
  rw [←Ls bn] at qP
  obtain ⟨a2,b2,c2,d2,rfl⟩:=qP.agg
  have kc:=x5.get kb
  rw [nR kc]
  simp only [aB,cP,ft i (by omega),ah,true_and]
  have xE:=(bD kg).1
  have kz5:=(y2.trans x5).get kz
  refine hL (i+1,g5.set g2.length (.arr 107 [B a2,b2,B c2,d2]),a2,b2,c2,d2) ⟨by show i+1≤_;omega,(xg.trans (y2.trans x5)).set (le_refl _) _,ck kc,?_,qP.bM kc _⟩ (by show ps.length-(i+1)<ps.length-i;omega)
  rw [getElem?_set_ne (by omega)];exact kz5
 ·have fO:i=ps.length:=by omega
  subst fO
  rw [take_length] at hr
  rw [aC9,ik kg,ah]
  have hgz:g0.length≠g2.length:=by omega
  refine rK kz (hk _ _ ((LM.trans xg).set (by omega) _) (hr.bM kz _))
end
end
section
def mi (q:Rat):Bool:=decide (q.num<0)|| !D3 4 q
theorem azM:rG prog 83=true:=by kernel_rfl
def xU:Nat:=700
theorem aDy {s:List UInt8} (hl:s.length≤700):cd xU (lG s):=by
 have rU:(fE s).length≤700:=by
  unfold fE
  split
  ·rw [List.length_tail];omega
  ·exact hl
 have lo:(dA (fE s)).length≤700:=by unfold dA;rw [length_take];omega
 have lu:(dQ (fE s)).length≤700:=by unfold dQ;rw [length_drop];omega
 have p1:cF (dA (fE s))<10^xU:=lt_of_lt_of_le (Ly _) (pow_le_pow_right (by decide) (show _≤xU from lo))
 have p2:cF (dQ (fE s))<10^xU:=lt_of_lt_of_le (Ly _) (pow_le_pow_right (by decide) (show _≤xU from lu))
 cases e:jK s with
 | none=>
  have:lG s=0:=by unfold lG;rw [e]
  rw [this]
  exact cd.zero.le (by decide)
 | some q=>
  obtain ⟨n,d⟩:=q
  obtain ⟨e1,e2⟩:=U5 e
  unfold cd
  rw [e1,e2]
  rw [UD] at e
  unfold rk at e
  split at e
  ·injection e with e
   injection e with h1 h2
   have hs:=(Vu (m:=decide (s.head?=some 45)) (n:=cF (dA (fE s)))).2
   refine ⟨by rw [←h1];exact Nat.lt_of_le_of_lt (Nat.le_of_eq hs) p1,?_⟩
   rw [←h2]
   unfold pO
   split
   ·exact p2
   ·exact Nat.one_lt_pow (by decide) (by decide)
  ·cases e
section
variable {h : ae} {K : Value → ae → Prop}
theorem C83 {v:Value} {q:Rat} (hq:RV h v q) (sq:cd xU q) (hk:∀h',EX h h'→K (B (mi q)) h'):ak prog 83 [v] h K:=by
 have BV:=hq
 obtain ⟨a,b,c,d,rfl⟩:=hq.agg
 refine f83 ?_
 have e1:bm 107 h (.agg #[B a,b,B c,d])=some (pt h.length 0,h++[.arr 107 [B a,b,B c,d]]):=rfl
 simp only [Om,e1,aB]
 have x0:EX h (h++[.arr 107 [B a,b,B c,d]]):=EX.append _ _
 have k0:(h++[aq.arr 107 [B a,b,B c,d]])[h.length]?=some (.arr 107 [B a,b,B c,d]):=br
 generalize h++[aq.arr 107 [B a,b,B c,d]]=g0 at x0 k0⊢
 rw [ik k0,ah]
 refine WW (BV.mono x0) ?_
 intro g1 x1
 have hs:decide (lV q.num<0)=decide (q.num<0):=by
  rw [decide_eq_decide]
  unfold lV
  split
  ·omega
  ·split <;> omega
 simp only [cS,ah,hs]
 rw [aC7]
 unfold mi at hk
 by_cases hn:q.num<0
 ·rw [aZ hn] at hk⊢
  simp only [gr]
  rw [alN]
  simp only [ef,ah]
  exact hk g1 (x0.trans x1)
 ·rw [aU hn] at hk⊢
  simp only [eQ]
  rw [ik (x1.get k0),ah]
  refine C84 (k:=4) ((BV.mono x0).mono x1) sq (by decide) (by decide) (by decide) ?_
  intro g2 x2
  simp only [tG,ah]
  rw [alN]
  simp only [dU,ah]
  rw [Bool.false_or] at hk
  exact hk g2 (x0.trans (x1.trans x2))
theorem C82 {v:Value} {qs:List Rat} (hq:QL h v qs) (sq:∀q∈qs,cd xU q) (hn:qs.length≤1000) (hk:∀h',EX h h'→K (B (qs.any mi)) h'):ak prog 82 [v,.func (.func 83) #[] #[]] h K:=by
 refine f82 ?_
 unfold Ol
 refine f110 ?_
 unfold Nd
 simp only [hq.len,ah]
 refine dI (σ:=Nat×ae) (fun q=>[I q.1]) (fun q=>q.2) (fun q=>q.1≤qs.length∧EX h q.2∧(qs.take q.1).any mi=false) (fun q=>qs.length-q.1) (0,h) rfl rfl ⟨zero_le _,EX.refl _,by simp⟩ ?_
 rintro ⟨i,g⟩ ⟨hi,xg,dC⟩ L hL
 simp only at hi xg dC hL⊢
 rw [aAS]
 simp only [cS,ah,bW]
 refine ⟨fun aD=>?_,fun cE=>?_⟩
 ·have bn:i<qs.length:=by omega
  obtain ⟨b,o,r,u1,u2,u3⟩:=(hq.mono xg).get bn
  simp only [u1,u2,ah]
  refine acg azM ?_
  simp only [append_nil]
  refine C83 u3 (sq _ (getElem_mem bn)) ?_
  intro g1 x1
  cases hb:mi qs[i] with
  | true=>
   simp only [dS,nA,ah,aZ (show (0:Int)≤(i:Int) by omega)]
   have:qs.any mi=true:=List.any_eq_true.2 ⟨_,getElem_mem bn,hb⟩
   rw [this] at hk
   exact hk g1 (xg.trans x1)
  | false=>
   simp only [dR,cP,ft i (by omega),ah,true_and]
   refine hL (i+1,g1) ⟨by show i+1≤_;omega,xg.trans x1,?_⟩ (by show qs.length-(i+1)<qs.length-i;omega)
   show (qs.take (i+1)).any mi=false
   rw [take_succ_eq_append_getElem bn,List.any_append,dC]
   simpa using hb
 ·have fO:i=qs.length:=by omega
  subst fO
  rw [take_length] at dC
  rw [dC] at hk
  simp only [nA,ah,show decide ((0:Int)≤ -1)=false from rfl]
  exact hk g xg
end
end
section
def Cb:Value→Bool
 | .int .u32 _=>true
 | .bool _=>true
 | _=>false
theorem KP.sub {p q:Value→Bool} {h h':ae} (Jo:∀v,q v=true→p v=true) (x:KP p h h'):KP q h h':=fun d c r h1 h2=>x d c r h1 (Jo c h2)
theorem ax0 (v:Value) (h:uu v=true):Cb v=true:=by
 unfold uu at h
 split at h
 ·rfl
 ·cases h
def QB (h:ae) (v:Value) (qs:List Rat):Prop:=QL h v qs∧(qs=[]∨∃i o n c r,v=sl 107 i o n∧aQ h i=some (c::r)∧Cb c=true)
theorem QB.mono {h h':ae} {v:Value} {qs:List Rat} (x:EX h h') (p:QB h v qs):QB h' v qs:=⟨p.1.mono x,p.2.imp id fun ⟨i,o,n,c,r,a,b,d⟩=>⟨i,o,n,c,r,a,x.cells b,d⟩⟩
theorem QB.dH {h h':ae} {v:Value} {qs:List Rat} (x:KP Cb h h') (p:QB h v qs):QB h' v qs:=by
 obtain ⟨⟨rows,a,b,c⟩,q⟩:=p
 rw [Ay] at b
 have rat:∀(k:Nat) (row:List Value) (q:Int×Int),rows[k]?=some row→(rl qs)[k]?=some q→gY h' (.agg row.toArray) q.1 q.2:=fun k row q h1 h2=>(c k row q h1 h2).dH (KP.sub ax0 x)
 refine ⟨⟨rows,⟨a.1,?_⟩,by rw [Ay];exact b,rat⟩,q.imp id fun ⟨i,o,n,c,r,e1,e2,e3⟩=>⟨i,o,n,c,r,e1,x i c r e2 e3,e3⟩⟩
 rcases a.2 with h0 | ⟨i,o,e1,e2⟩
 ·exact .inl h0
 ·refine .inr ⟨i,o,e1,?_⟩
  rcases e2 with e2 | ⟨pre,post,e2,e3⟩
  ·exact .inl e2
  ·rcases q with q | ⟨i',o',n',c',r',f1,f2,f3⟩
   ·left
    exact List.length_eq_zero_iff.1 (by rw [b,q];rfl)
   ·right
    rw [e1] at f1
    have hi:i=i':=by
     simp only [sl] at f1
     injection f1 with f1
     injection f1 with f1
     injection f1
    subst hi
    refine ⟨pre,post,?_,e3⟩
    rw [←e2,f2]
    exact x i c' r' f2 f3
theorem nY.qb {b:Nat} {h:ae} {v:Value} {qs:List Rat} (o:nY b h v (rl qs)):QB h v qs:=by
 refine ⟨o.aDx,?_⟩
 obtain ⟨rows,o1,o2,o3,_⟩:=o
 rw [Ay] at o2
 cases rows with
 | nil=>left;exact List.length_eq_zero_iff.1 (by rw [←o2];rfl)
 | cons row rows=>
  right
  rcases o1.2 with ⟨_,h0⟩ | ⟨i,_,e1,e2⟩
  ·cases h0
  ·obtain ⟨s,t,e3⟩:=o3 row (by simp)
   refine ⟨i,0,_,.bool s,t++rows.flatten,e1,?_,rfl⟩
   simp [aQ,e2,e3]
def LK (h:ae) (v:Value) (cs:List (List Rat×Int)):Prop:=
 ∃rows,RS h 102 3 v rows∧rows.length=cs.length∧∀(k:Nat) (row:List Value) (c:List Rat×Int),rows[k]?=some row→cs[k]?=some c→∃vq,row=[I c.1.length,I c.2,vq]∧QB h vq c.1
theorem LK.mono {h h':ae} {v:Value} {cs:List (List Rat×Int)} (x:EX h h') (p:LK h v cs):LK h' v cs:=
 let ⟨rows,a,b,c⟩:=p;⟨rows,a.mono x,b,fun k row q h1 h2=>let ⟨vq,e,m⟩:=c k row q h1 h2;⟨vq,e,m.mono x⟩⟩
theorem LK.len {h:ae} {v:Value} {cs:List (List Rat×Int)} (p:LK h v cs):bj v=some (I cs.length):=by
 obtain ⟨rows,a,b,_⟩:=p;rw [←b];exact a.len
theorem LK.get {h:ae} {v:Value} {cs:List (List Rat×Int)} (p:LK h v cs) {k:Nat} (hk:k<cs.length):∃i o vq,a9 3 v (I k)=some (pt i o)∧af true 3 h (pt i o)=some (.agg #[I cs[k].1.length,I cs[k].2,vq])∧QB h vq cs[k].1:=by
 obtain ⟨rows,a,b,c⟩:=p
 have b9:k<rows.length:=by omega
 obtain ⟨i,o,cells,g1,g2,g3,g4⟩:=a.get b9
 obtain ⟨vq,e,m⟩:=c k _ _ (getElem?_eq_getElem b9) (getElem?_eq_getElem hk)
 have:=K6 g2 g3 g4
 rw [e] at this
 exact ⟨i,o,vq,g1,this,m⟩
def qx (b:Nat) (h:ae) (v:Value) (cs:List (List Rat×Int)):Prop:=
 ∃rows,ki b h 102 3 v rows∧rows.length=cs.length∧(∀r∈rows,∃n t,r=I n::t)∧∀(k:Nat) (row:List Value) (c:List Rat×Int),rows[k]?=some row→cs[k]?=some c→∃vq,row=[I c.1.length,I c.2,vq]∧QB h vq c.1
theorem qx.start (b:Nat) (h:ae):qx b h (.slice none 0 0) []:=⟨[],ki.start ..,rfl,fun r hr=>by simp at hr,fun k r q h=>by simp at h⟩
theorem qx.lk {b:Nat} {h:ae} {v:Value} {cs:List (List Rat×Int)} (o:qx b h v cs):LK h v cs:=let ⟨rows,a,c,_,d⟩:=o;⟨rows,a.rs,c,d⟩
theorem qx.ex {b:Nat} {h h':ae} {v:Value} {cs:List (List Rat×Int)} (x:EX h h') (o:qx b h v cs):qx b h' v cs:=
 let ⟨rows,a,c,e,d⟩:=o;⟨rows,a.ex x,c,e,fun k row q h1 h2=>let ⟨vq,e,m⟩:=d k row q h1 h2;⟨vq,e,m.mono x⟩⟩
theorem av0 {rows:List (List Value)} (h:∀r∈rows,∃n t,r=I n::t):∀c r,rows.flatten=c::r→Cb c=false:=by
 cases rows with
 | nil=>intro c r e;simp at e
 | cons row rows=>
  obtain ⟨n,t,rfl⟩:=h row (by simp)
  intro c r e
  simp at e
  rw [←e.1];rfl
theorem qx.app {h0 h:ae} {v vq:Value} {qs:List Rat} {w:Int} {cs:List (List Rat×Int)} {zs:List Value} {K:Value→ae→Prop} (o:qx h0.length h v cs) (hex:EX h0 h) (hq:QB h vq qs) (hz:zs.length=3) (hl:cs.length≤10000)
  (hk:∀v' h',EX h0 h'→KP Cb h h'→qx h0.length h' v' (cs++[(qs,w)])→K v' h'):OH (cW 102 1 zs h [(0,3,.agg #[I qs.length,I w,vq])]) fun y h2=>OH (dM 102 3 40 h2 v y) K:=by
 obtain ⟨rows,o1,o2,o3,o4⟩:=o
 obtain ⟨rq,rs,_,_⟩:=id hq.1
 obtain ⟨t1,t2⟩:=rs.one
 refine o1.app hex hz (row:=[I qs.length,I w,vq]) rfl (by simp [de,Value.cells]) rfl (by omega) (by simp [maxLen];omega) ?_
 intro v' h' x' hold o'
 have kp:KP Cb h h':=o1.kp (av0 o3) hold
 refine hk v' h' x' kp ⟨_,o',by simp [o2],fun r hr=>?_,fun k row q h1 h2=>?_⟩
 ·rcases mem_append.1 hr with hr | hr
  ·exact o3 r hr
  ·rw [mem_singleton.1 hr];exact ⟨_,_,rfl⟩
 ·by_cases hk:k<rows.length
  ·rw [getElem?_append_left hk] at h1
   rw [getElem?_append_left (by omega)] at h2
   obtain ⟨FZ,e,m⟩:=o4 k row q h1 h2
   exact ⟨FZ,e,m.dH kp⟩
  ·rw [getElem?_append_right (by omega)] at h1
   rw [getElem?_append_right (by omega),←o2] at h2
   have h0:k-rows.length=0:=by
    have:=(bD h1).1
    simp at this;omega
   rw [h0] at h1 h2
   simp only [List.getElem?_cons_zero,Option.some.injEq] at h1 h2
   subst h1 h2
   exact ⟨vq,rfl,hq.dH kp⟩
end
section
variable (P : Program) (K : VK)
noncomputable section
variable (l0 x4 fk au aA aC dD dW bV bJ cJ j6 eP fG jS gn gq gO kF pC iR : Value) (L1 : LQ) (xs : List Value) (h : ae)
def ahk:=bC prog 43 [[],[],[],[0,11,12],[4,13],[],[],[],[],[],[],[],[],[0,4],[0,4,38],[4,38,41],[],[],[],[],[4,43,44],[45],[],[],[],[4,10,43,44,45,53],[4,10,43,44,45,53,57],[4,10,43,44,45,59],[4,10,43,44,45,59,63],[4,10,43,44,45,65],[4,10,43,44,45,65,69],[4,10,43,44,45,71],[4,10,43,44,45,71,81],[],[],[],[4,10,43,44,45,86],[4,43,44,45,86,91],[],[],[],[4],[]]
@[irreducible] def Hy:=bN ahk
@[irreducible] def asu:=Hy.r.r.l.r.l.l
@[irreducible] def aaD:=Hy.r.r.r
@[irreducible] def Hz:=aaD.l
@[irreducible] def aaB:=Hz.l.l.r.l
@[irreducible] def asm:=Hz.l.r
@[irreducible] def Ph:=Hz.r
@[irreducible] def asn:=aaB.r.l
@[irreducible] def Dz:=Ph.l.r.l.l
@[irreducible] def aaC:=Ph.r
@[irreducible] def aaE:=Dz.r.r.l.l.r.l.l.r.l
@[irreducible] def asp:=Dz.r.r.l.l.r.l.r
@[irreducible] def Pj:=Dz.r.r.l.l.r.r
@[irreducible] def aso:=Dz.r.r.r
@[irreducible] def ast:=aaC.l
@[irreducible] def aaF:=aaE.r.l
@[irreducible] def aaL:=Pj.l.r.l
@[irreducible] def asr:=Pj.r
@[irreducible] def aaG:=aaF.r.l
@[irreducible] def ass:=aaL.r.l
@[irreducible] def aaH:=aaG.r.l
@[irreducible] def aaI:=aaH.r.l
@[irreducible] def aaJ:=aaI.r.l
@[irreducible] def aaK:=aaJ.r.l
@[irreducible] def asq:=aaK.r.l
theorem k43:ahk=some (95,Hy,[.tmp 2,.tmp 3]):=by kernel_rfl
def wV (_P:Program) (K:VK):ar:=aS [.tmp 2,.tmp 3] K
def ao3:ar:=aF (aj P aaD (wV P K)) (wV P K)
def ao5:ar:=bO 0 (ao3 P K)
def ao6:ar:=aF (fun f' aT=>(([0,11,12]:List Nat).map f':List Value)=[l0,au,aA]∧L1 (([4,13]:List Nat).map f') aT) (ao5 P K)
def XA:ar:=aF (aj P Ph (wV P K)) (wV P K)
def XB:ar:=aF (aj P asm (XA P K)) (XA P K)
def ao1:ar:=aF (aj P aaC (wV P K)) (wV P K)
def ao2:ar:=bO 2 (ao1 P K)
def MB:ar:=aF (fun f' aT=>(([4,43,44]:List Nat).map f':List Value)=[x4,bV,bJ]∧L1 (([45]:List Nat).map f') aT) (ao2 P K)
def ao4:ar:=aF (aj P aso (MB P K x4 bV bJ L1)) (MB P K x4 bV bJ L1)
def Gx:ar:=bO 3 (ao4 P K x4 bV bJ L1)
def XC:ar:=aF (aj P Pj (Gx P K x4 bV bJ L1)) (Gx P K x4 bV bJ L1)
def wX:ar:=aF (aj P asp (XC P K x4 bV bJ L1)) (XC P K x4 bV bJ L1)
def XD:ar:=aF (aj P asr (Gx P K x4 bV bJ L1)) (Gx P K x4 bV bJ L1)
def ajr:Prop:=ay (aj P asu (ao6 P K l0 au aA L1)) ([0,11,12]++[4,13]) ([l0,au,aA]++xs) h
def ajm:Prop:=ay (aj P Hz (wV P K)) [0,4] [l0,x4] h
def ajn:Prop:=ay (aj P aaB (XB P K)) [0,4,38] [l0,x4,dD] h
def TV:Prop:=ay (aj P asn (XB P K)) [4,38,41] [x4,dD,dW] h
def TW:Prop:=ay (aj P Dz (MB P K x4 bV bJ L1)) ([4,43,44]++[45]) ([x4,bV,bJ]++xs) h
def ajo:Prop:=ay (aj P aaE (wX P K x4 bV bJ L1)) [4,10,43,44,45,53] [x4,fk,bV,bJ,cJ,j6] h
def TX:Prop:=ay (aj P aaF (wX P K x4 bV bJ L1)) [4,10,43,44,45,53,57] [x4,fk,bV,bJ,cJ,j6,eP] h
def TY:Prop:=ay (aj P aaG (wX P K x4 bV bJ L1)) [4,10,43,44,45,59] [x4,fk,bV,bJ,cJ,fG] h
def TZ:Prop:=ay (aj P aaH (wX P K x4 bV bJ L1)) [4,10,43,44,45,59,63] [x4,fk,bV,bJ,cJ,fG,jS] h
def T2:Prop:=ay (aj P aaI (wX P K x4 bV bJ L1)) [4,10,43,44,45,65] [x4,fk,bV,bJ,cJ,gn] h
def T4:Prop:=ay (aj P aaJ (wX P K x4 bV bJ L1)) [4,10,43,44,45,65,69] [x4,fk,bV,bJ,cJ,gn,gq] h
def T5:Prop:=ay (aj P aaK (wX P K x4 bV bJ L1)) [4,10,43,44,45,71] [x4,fk,bV,bJ,cJ,gO] h
def Kt:Prop:=ay (aj P asq (wX P K x4 bV bJ L1)) [4,10,43,44,45,71,81] [x4,fk,bV,bJ,cJ,gO,kF] h
def ajp:Prop:=ay (aj P aaL (XD P K x4 bV bJ L1)) [4,10,43,44,45,86] [x4,fk,bV,bJ,cJ,pC] h
def Ku:Prop:=ay (aj P ass (XD P K x4 bV bJ L1)) [4,43,44,45,86,91] [x4,bV,bJ,cJ,pC,iR] h
def ajq:Prop:=ay (aj P ast (wV P K)) [4] [x4] h
theorem aBV (l0 au aA:Value) (L1:LQ) (x4 aC:Value) (h:ae):ajr P K l0 au aA L1 [x4,aC] h=
 (OP (ai .lss aC aA) fun aI=>
 aO aI
 (OP (a9 2 au aC) fun bf=>
 OP (af true 2 h bf) fun bp=>
 OH (aV 24 [(.slice none 0 0),(.int .i64 (0))] h) fun c6 z1=>
 OH (aG 2 z1 c6 bp) fun _ z2=>
 OP (af true 2 z2 c6) fun aR=>
 ak P 80 [aR] z2 fun aP z3=>
 OP (ca 0 aP) fun aX=>
 OP (ca 1 aP) fun ba=>
 OP (gT .not ba) fun cm=>
 aO cm
 (K (.tuple #[(.slice none 0 0),(.int .i64 (2))]) z3)
 (OP (bj aX) fun bI=>
 OP (aM 1 c6) fun bE=>
 OP (af false 1 z3 bE) fun cG=>
 OP (dh [(.int .i64 (0)),(.int .i64 (0))] [(0,1,bI),(1,1,cG)]) fun cL=>
 OP (dh [(.int .i64 (0)),(.int .i64 (0)),(.slice none 0 0)] [(0,2,cL),(2,1,aX)]) fun cg=>
 OH (cW 102 1 [(.int .i64 (0)),(.int .i64 (0)),(.slice none 0 0)] z3 [(0,3,cg)]) fun cM z4=>
 OH (dM 102 3 40 z4 x4 cM) fun dK z5=>
 OP (ai .add aC (.int .i64 (1))) fun cj=>
 ([l0,au,aA]:List Value)=[l0,au,aA]∧L1 [dK,cj] z5))
 (ajm P K l0 x4 h)):=az (by kernel_rfl)
theorem aln:TV P K x4 dD dW h=
 (OP (bX dD (.bool true) dW) fun eB=>
 aO eB
 (K (.tuple #[(.slice none 0 0),(.int .i64 (1))]) h)
 (OP (bj x4) fun bJ=>
 cN [(.int .i64 (0))] h fun L1 xs hx=>
 TW P K x4 x4 bJ L1 xs hx)):=az (by kernel_rfl)
theorem aBQ:ajn P K l0 x4 dD h=
 (cD dD false
 (OP (bj l0) fun ep=>
 OP (ai .gtr ep (.int .i64 (3))) fun dW=>
 TV P K x4 dD dW h)
 (TV P K x4 dD undef h)):=az (by kernel_rfl)
theorem alv:Kt P K x4 fk bV bJ cJ gO kF L1 h=
 (OP (bX gO (.bool true) kF) fun gH=>
 aO gH
 (K (.tuple #[(.slice none 0 0),(.int .i64 (1))]) h)
 (OP (aM 2 fk) fun me=>
 OP (af false 1 h me) fun gP=>
 ak P 82 [gP,(.func (.func 83) #[] #[])] h fun wP z1=>
 ajp P K x4 fk bV bJ cJ wP L1 z1)):=az (by kernel_rfl)
theorem alu:T5 P K x4 fk bV bJ cJ gO L1 h=
 (cD gO false
 (OP (aM 2 fk) fun mI=>
 OP (af false 1 h mI) fun nU=>
 OP (aM 0 fk) fun kD=>
 OP (aM 0 kD) fun kE=>
 OP (af false 1 h kE) fun j9=>
 OP (ai .sub j9 (.int .i64 (1))) fun iQ=>
 OP (a9 4 nU iQ) fun fH=>
 OP (af true 4 h fH) fun ka=>
 ak P 81 [ka] h fun ry z1=>
 OP (ai .eql ry (.int .i64 (0))) fun kF=>
 Kt P K x4 fk bV bJ cJ gO kF L1 z1)
 (Kt P K x4 fk bV bJ cJ gO undef L1 h)):=az (by kernel_rfl)
theorem als:T4 P K x4 fk bV bJ cJ gn gq L1 h=
 (OP (bX gn (.bool true) gq) fun oP=>
 T5 P K x4 fk bV bJ cJ oP L1 h):=az (by kernel_rfl)
theorem alr:T2 P K x4 fk bV bJ cJ gn L1 h=
 (cD gn false
 (OP (aM 0 fk) fun j7=>
 OP (aM 1 j7) fun fX=>
 OP (af false 1 h fX) fun gp=>
 OP (ai .gtr gp (.int .i64 (50))) fun gq=>
 T4 P K x4 fk bV bJ cJ gn gq L1 h)
 (T4 P K x4 fk bV bJ cJ gn undef L1 h)):=az (by kernel_rfl)
theorem alq:TZ P K x4 fk bV bJ cJ fG jS L1 h=
 (OP (bX fG (.bool true) jS) fun jd=>
 T2 P K x4 fk bV bJ cJ jd L1 h):=az (by kernel_rfl)
theorem alp:TY P K x4 fk bV bJ cJ fG L1 h=
 (cD fG false
 (OP (aM 0 fk) fun jR=>
 OP (aM 1 jR) fun fQ=>
 OP (af false 1 h fQ) fun nT=>
 OP (ai .lss nT (.int .i64 (0))) fun jS=>
 TZ P K x4 fk bV bJ cJ fG jS L1 h)
 (TZ P K x4 fk bV bJ cJ fG undef L1 h)):=az (by kernel_rfl)
theorem alo:TX P K x4 fk bV bJ cJ j6 eP L1 h=
 (OP (bX j6 (.bool true) eP) fun fW=>
 TY P K x4 fk bV bJ cJ fW L1 h):=az (by kernel_rfl)
theorem aBS:ajo P K x4 fk bV bJ cJ j6 L1 h=
 (cD j6 false
 (OP (aM 0 fk) fun cY=>
 OP (aM 0 cY) fun gG=>
 OP (af false 1 h gG) fun jv=>
 OP (ai .gtr jv (.int .i64 (8))) fun eP=>
 TX P K x4 fk bV bJ cJ j6 eP L1 h)
 (TX P K x4 fk bV bJ cJ j6 undef L1 h)):=az (by kernel_rfl)
theorem alw:Ku P K x4 bV bJ cJ pC iR L1 h=
 (OP (bX pC (.bool true) iR) fun rz=>
 aO rz
 (K (.tuple #[(.slice none 0 0),(.int .i64 (1))]) h)
 (OP (ai .add cJ (.int .i64 (1))) fun mJ=>
 ([x4,bV,bJ]:List Value)=[x4,bV,bJ]∧L1 [mJ] h)):=az (by kernel_rfl)
theorem aBT:ajp P K x4 fk bV bJ cJ pC L1 h=
 (cD pC false
 (OP (af true 3 h fk) fun uR=>
 ak P 85 [uR,(.int .i64 (0))] h fun nr z1=>
 ak P 75 [(.int .i64 (1))] z1 fun iF z2=>
 ak P 86 [nr,iF] z2 fun oQ z3=>
 OP (ai .neq oQ (.int .i64 (0))) fun iR=>
 Ku P K x4 bV bJ cJ pC iR L1 z3)
 (Ku P K x4 bV bJ cJ pC undef L1 h)):=az (by kernel_rfl)
theorem aBR (x4 bV bJ:Value) (L1:LQ) (cJ:Value) (h:ae):TW P K x4 bV bJ L1 [cJ] h=
 (OP (ai .lss cJ bJ) fun dE=>
 aO dE
 (OP (a9 3 bV cJ) fun lJ=>
 OP (af true 3 h lJ) fun fx=>
 OH (aV 102 [(.int .i64 (0)),(.int .i64 (0)),(.slice none 0 0)] h) fun fk z1=>
 OH (aG 3 z1 fk fx) fun _ z2=>
 OP (aM 0 fk) fun gF=>
 OP (aM 0 gF) fun bQ=>
 OP (af false 1 z2 bQ) fun cB=>
 OP (ai .lss cB (.int .i64 (1))) fun cT=>
 ajo P K x4 fk bV bJ cJ cT L1 z2)
 (ajq P K x4 h)):=az (by kernel_rfl)
theorem aBU:ajq P K x4 h=
 (K (.tuple #[x4,(.int .i64 (0))]) h):=az (by kernel_rfl)
theorem aBP:ajm P K l0 x4 h=
 (OP (bj l0) fun db=>
 OP (ai .lss db (.int .i64 (1))) fun fF=>
 ajn P K l0 x4 fF h):=az (by kernel_rfl)
def NV:Prop:=
 OP (bj l0) fun aA=>
 cN [(.slice none 0 0),(.int .i64 (0))] h fun L1 xs hx=>
 ajr P K l0 l0 aA L1 xs hx
theorem IB:aj P Hy (aS [.tmp 2,.tmp 3] K) (bw [l0]) h=NV P K l0 h:=by kernel_rfl
theorem f43 {K:VK} {l0:Value} {h:ae} (H:NV prog K l0 h):ak prog 43 [l0] h K:=
 bP k43 (bL rfl) ((IB prog K l0 h).mpr H)
end
noncomputable section
variable (j0 x1 j2 x4 x6 x7 x8 x9 d10 au cT jv : Value) (L1 : LQ) (xs : List Value) (h : ae)
def ahl:=bC prog 44 [[],[],[],[],[1,2,4,6,8,9],[7,10],[],[],[],[],[],[1,2,4,6,7,8,9,10,11,52],[1,2,4,6,7,8,9,10,11,52,56],[],[1,2,4,6,7,8,9,10],[4,6,7],[]]
@[irreducible] def HA:=bN ahl
@[irreducible] def HB:=HA.r.r.r.l.r.l.l
@[irreducible] def aaO:=HA.r.r.r.r
@[irreducible] def aaN:=HB.r.l.l.r.r.r.l.r.l
@[irreducible] def asv:=HB.r.l.l.r.r.r.r
@[irreducible] def aaM:=HB.r.r
@[irreducible] def asy:=aaO.l
@[irreducible] def asw:=aaN.r.l
@[irreducible] def asx:=aaM.l
theorem k44:ahl=some (62,HA,[.cell true 4 4,.tmp 5]):=by kernel_rfl
def MC (_P:Program) (K:VK):ar:=aS [.cell true 4 4,.tmp 5] K
def ao8:ar:=aF (aj P aaO (MC P K)) (MC P K)
def ao9:ar:=bO 0 (ao8 P K)
def Gy:ar:=aF (fun f' aT=>(([1,2,4,6,8,9]:List Nat).map f':List Value)=[x1,j2,x4,x6,x8,x9]∧L1 (([7,10]:List Nat).map f') aT) (ao9 P K)
def ao7:ar:=aF (aj P aaM (Gy P K x1 j2 x4 x6 x8 x9 L1)) (Gy P K x1 j2 x4 x6 x8 x9 L1)
def XE:ar:=bO 1 (ao7 P K x1 j2 x4 x6 x8 x9 L1)
def XF:ar:=aF (aj P asv (XE P K x1 j2 x4 x6 x8 x9 L1)) (XE P K x1 j2 x4 x6 x8 x9 L1)
def T6:Prop:=ay (aj P HB (Gy P K x1 j2 x4 x6 x8 x9 L1)) ([1,2,4,6,8,9]++[7,10]) ([x1,j2,x4,x6,x8,x9]++xs) h
def ajs:Prop:=ay (aj P aaN (XF P K x1 j2 x4 x6 x8 x9 L1)) [1,2,4,6,7,8,9,10,11,52] [x1,j2,x4,x6,x7,x8,x9,d10,au,cT] h
def Fu:Prop:=ay (aj P asw (XF P K x1 j2 x4 x6 x8 x9 L1)) [1,2,4,6,7,8,9,10,11,52,56] [x1,j2,x4,x6,x7,x8,x9,d10,au,cT,jv] h
def Kv:Prop:=ay (aj P asx (Gy P K x1 j2 x4 x6 x8 x9 L1)) [1,2,4,6,7,8,9,10] [x1,j2,x4,x6,x7,x8,x9,d10] h
def ajt:Prop:=ay (aj P asy (MC P K)) [4,6,7] [x4,x6,x7] h
theorem alx:Fu P K x1 j2 x4 x6 x7 x8 x9 d10 au cT jv L1 h=
 (OP (bX cT (.bool true) jv) fun eP=>
 aO eP
 (OP (af true 4 h au) fun fW=>
 OH (aG 4 h x6 fW) fun _ z1=>
 Kv P K x1 j2 x4 x6 d10 x8 x9 d10 L1 z1)
 (Kv P K x1 j2 x4 x6 x7 x8 x9 d10 L1 h)):=az (by kernel_rfl)
theorem aBW:ajs P K x1 j2 x4 x6 x7 x8 x9 d10 au cT L1 h=
 (cD cT false
 (OP (af true 4 h au) fun j6=>
 OP (af true 4 h x6) fun cY=>
 ak P 86 [j6,cY] h fun gG z1=>
 OP (ai .gtr gG (.int .i64 (0))) fun jv=>
 Fu P K x1 j2 x4 x6 x7 x8 x9 d10 au cT jv L1 z1)
 (Fu P K x1 j2 x4 x6 x7 x8 x9 d10 au cT undef L1 h)):=az (by kernel_rfl)
theorem aBX:Kv P K x1 j2 x4 x6 x7 x8 x9 d10 L1 h=
 (OP (ai .add d10 (.int .i64 (1))) fun cm=>
 ([x1,j2,x4,x6,x8,x9]:List Value)=[x1,j2,x4,x6,x8,x9]∧L1 [x7,cm] h):=az (by kernel_rfl)
theorem aBZ (x1 j2 x4 x6 x8 x9:Value) (L1:LQ) (x7 d10:Value) (h:ae):T6 P K x1 j2 x4 x6 x8 x9 L1 [x7,d10] h=
 (OP (aM 0 j2) fun bp=>
 OP (aM 0 bp) fun bY=>
 OP (af false 1 h bY) fun aR=>
 OP (ai .sub aR x1) fun aX=>
 OP (ai .leq d10 aX) fun ba=>
 aO ba
 (OP (af true 4 h x8) fun bt=>
 (True)∧
 OP (aM 2 j2) fun bu=>
 OP (af false 1 h bu) fun bI=>
 (True)∧
 OP (ai .add x1 d10) fun cL=>
 OP (ai .sub cL (.int .i64 (1))) fun dO=>
 OP (a9 4 bI dO) fun cg=>
 OP (af true 4 h cg) fun cM=>
 (True)∧
 ak P 87 [bt,cM] h fun dK z1=>
 (True)∧
 OH (aG 4 z1 x8 dK) fun _ z2=>
 (True)∧
 OP (af true 4 z2 x9) fun cj=>
 (True)∧
 OP (af true 3 z2 j2) fun dV=>
 (True)∧
 OP (ai .add x1 d10) fun dD=>
 OP (ai .sub dD (.int .i64 (1))) fun dZ=>
 ak P 85 [dV,dZ] z2 fun ep z3=>
 (af true 4 z3 x9=some cj∧True)∧
 ak P 87 [cj,ep] z3 fun dW z4=>
 (True)∧
 OH (aG 4 z4 x9 dW) fun _ z5=>
 (True)∧
 OH (aV 107 [(.bool false),(.slice none 0 0),(.bool false),(.slice none 0 0)] z5) fun au z6=>
 OP (eL z6 au) fun u=>
 (True)∧
 OP (aM 0 j2) fun eB=>
 OP (aM 1 eB) fun bV=>
 OP (af false 1 z6 bV) fun bJ=>
 (af false 1 z5 bV=some bJ∧True)∧
 ak P 75 [bJ] z6 fun cJ z7=>
 (eL z7 au=some u∧True)∧
 OP (af true 4 z7 x8) fun dE=>
 (af true 4 z5 x8=some dE∧af true 4 z6 x8=some dE∧True)∧
 ak P 88 [cJ,dE] z7 fun lJ z8=>
 (eL z8 au=some u∧True)∧
 OP (af true 4 z8 x9) fun fx=>
 (af true 4 z5 x9=some fx∧af true 4 z6 x9=some fx∧af true 4 z7 x9=some fx∧True)∧
 ak P 77 [lJ,fx] z8 fun gF z9=>
 (eL z9 au=some u∧True)∧
 OH (aG 4 z9 au gF) fun _ je=>
 (True)∧
 OP (ai .eql x7 (.int .i64 (0))) fun cB=>
 ajs P K x1 j2 x4 x6 x7 x8 x9 d10 au cB L1 je)
 (ajt P K x4 x6 x7 h)):=az (by kernel_rfl)
theorem aBY:ajt P K x4 x6 x7 h=
 (OP (af true 4 h x6) fun jR=>
 OH (aG 4 h x4 jR) fun _ z1=>
 OP (af true 4 z1 x4) fun r0=>
 K (.tuple #[r0,x7]) z1):=az (by kernel_rfl)
def NW:Prop:=
 OH (bm 102 h j0) fun j2 z1=>
 OH (aV 107 [(.bool false),(.slice none 0 0),(.bool false),(.slice none 0 0)] z1) fun x4 z2=>
 ak P 75 [(.int .i64 (0))] z2 fun aA z3=>
 OH (aV 107 [(.bool false),(.slice none 0 0),(.bool false),(.slice none 0 0)] z3) fun x6 z4=>
 OH (aG 4 z4 x6 aA) fun _ z5=>
 ak P 75 [(.int .i64 (0))] z5 fun aC z6=>
 ak P 75 [(.int .i64 (0))] z6 fun aI z7=>
 OH (aV 107 [(.bool false),(.slice none 0 0),(.bool false),(.slice none 0 0)] z7) fun x8 z8=>
 OH (aV 107 [(.bool false),(.slice none 0 0),(.bool false),(.slice none 0 0)] z8) fun x9 z9=>
 OH (aG 4 z9 x8 aC) fun _ je=>
 OH (aG 4 je x9 aI) fun _ ke=>
 cN [(.int .i64 (0)),(.int .i64 (1))] ke fun L1 xs hx=>
 T6 P K x1 j2 x4 x6 x8 x9 L1 xs hx
theorem e44:aj P HA (aS [.cell true 4 4,.tmp 5] K) (bw [j0,x1]) h=NW P K j0 x1 h:=by kernel_rfl
theorem f44 {K:VK} {j0 x1:Value} {h:ae} (H:NW prog K j0 x1 h):ak prog 44 [j0,x1] h K:=
 bP k44 (bL rfl) ((e44 prog K j0 x1 h).mpr H)
end
end
section
def qv (h:ae) (v:Value) (cs:List (List (List UInt8)×Int)):Prop:=
 ∃rows,RS h 24 2 v rows∧rows.length=cs.length∧∀(k:Nat) (row:List Value) (c:List (List UInt8)×Int),rows[k]?=some row→cs[k]?=some c→∃vs,row=[vs,I c.2]∧SS h vs c.1
theorem qv.mono {h h':ae} {v:Value} {cs:List (List (List UInt8)×Int)} (x:EX h h') (p:qv h v cs):qv h' v cs:=
 let ⟨rows,a,b,c⟩:=p;⟨rows,a.mono x,b,fun k row q h1 h2=>let ⟨vq,e,m⟩:=c k row q h1 h2;⟨vq,e,m.mono x⟩⟩
theorem qv.len {h:ae} {v:Value} {cs:List (List (List UInt8)×Int)} (p:qv h v cs):bj v=some (I cs.length):=by
 obtain ⟨rows,a,b,_⟩:=p;rw [←b];exact a.len
theorem qv.get {h:ae} {v:Value} {cs:List (List (List UInt8)×Int)} (p:qv h v cs) {k:Nat} (hk:k<cs.length):∃i o vs,a9 2 v (I k)=some (pt i o)∧af true 2 h (pt i o)=some (.agg #[vs,I cs[k].2])∧SS h vs cs[k].1:=by
 obtain ⟨rows,a,b,c⟩:=p
 have b9:k<rows.length:=by omega
 obtain ⟨i,o,cells,g1,g2,g3,g4⟩:=a.get b9
 obtain ⟨vq,e,m⟩:=c k _ _ (getElem?_eq_getElem b9) (getElem?_eq_getElem hk)
 have:=K6 g2 g3 g4
 rw [e] at this
 exact ⟨i,o,vq,g1,this,m⟩
def Ah (qs:List Rat):Bool:=decide ((qs.getD (qs.length-1) 0).num=0)
def dN (qs:List Rat) (w:Int):Bool:=(((decide (1≤qs.length)&&decide (qs.length≤8))&&(decide (0≤w)&&decide (w≤50)))&& !Ah qs)&&(!qs.any mi&&decide (dP qs=1))
theorem yT {qs:List Rat} (h:qs.any mi=false):∀q∈qs,cd 4 q:=by
 intro q hq
 have:mi q=false:=by
  cases e:mi q with
  | false=>rfl
  | true=>rw [List.any_eq_true.2 ⟨q,hq,e⟩] at h;cases h
 unfold mi D3 at this
 rw [Bool.or_eq_false_iff,Bool.not_eq_false',and_eq_true,decide_eq_true_eq,decide_eq_true_eq] at this
 exact this.2
theorem ah6:cd 1 ((1:Int):Rat):=by constructor <;> decide
theorem aun (p q:Rat):decide (nD p q=0)=decide (p=q):=by
 rw [decide_eq_decide]
 unfold nD
 constructor
 ·intro h
  split at h
  ·assumption
  ·split at h <;> omega
 ·intro h;rw [if_pos h]
section
variable {h : ae} {K : Value → ae → Prop}
theorem ano {v0 v:Value} {cs:List (List Rat×Int)} (hv:LK h v cs) (hn:cs.length≤3) (hs:∀c∈cs,(∀q∈c.1,cd xU q)∧c.1.length≤1000)
  (mW:cs.all (fun c=>dN c.1 c.2)=false→∀h',EX h h'→K (.tuple #[.slice none 0 0,I 1]) h')
  (hk:cs.all (fun c=>dN c.1 c.2)=true→∀h',EX h h'→K (.tuple #[v0,I 0]) h'):
  cN [(.int .i64 (0))] h fun L1 xs hx=>TW prog K v0 v (I cs.length) L1 xs hx:=by
 refine dI (σ:=Nat×ae) (fun q=>[I q.1]) (fun q=>q.2) (fun q=>q.1≤cs.length∧EX h q.2∧(cs.take q.1).all (fun c=>dN c.1 c.2)=true) (fun q=>cs.length-q.1) (0,h) rfl rfl ⟨zero_le _,EX.refl _,by simp⟩ ?_
 rintro ⟨i,g⟩ ⟨hi,xg,fJ⟩ L hL
 simp only at hi xg fJ hL⊢
 rw [aBR]
 simp only [cS,ah,bW]
 refine ⟨fun aD=>?_,fun cE=>?_⟩
 rotate_left
 ·have fO:i=cs.length:=by omega
  subst fO
  rw [take_length] at fJ
  rw [aBU]
  exact hk fJ g xg
 have bn:i<cs.length:=by omega
 obtain ⟨b,o,vq,u1,u2,u3⟩:=(hv.mono xg).get bn
 obtain ⟨sq,sl⟩:=hs _ (getElem_mem bn)
 have nok:dN cs[i].1 cs[i].2=false→cs.all (fun c=>dN c.1 c.2)=false:=by
  intro hb
  cases e:cs.all (fun c=>dN c.1 c.2) with
  | false=>rfl
  | true=>rw [List.all_eq_true] at e;rw [e _ (getElem_mem bn)] at hb;cases hb
 have yok:dN cs[i].1 cs[i].2=true→(cs.take (i+1)).all (fun c=>dN c.1 c.2)=true:=by
  intro hb
  rw [take_succ_eq_append_getElem bn,List.all_append,fJ]
  simpa using hb
 generalize cs[i].1=qs at*
 generalize cs[i].2=w at*
 obtain ⟨rq,rs,_,_⟩:=id u3.1
 obtain ⟨t1,t2⟩:=rs.one
 have e7:aV 102 [(.int .i64 (0)),(.int .i64 (0)),(.slice none 0 0)] g=some (pt g.length 0,g++[.arr 102 [I 0,I 0,.slice none 0 0]]):=rfl
 simp only [u1,u2,ah,e7,aB]
 have y1:EX g (g++[.arr 102 [I 0,I 0,.slice none 0 0]]):=EX.append _ _
 have j1:(g++[aq.arr 102 [I 0,I 0,.slice none 0 0]])[g.length]?=some (.arr 102 [I 0,I 0,.slice none 0 0]):=br
 generalize g++[aq.arr 102 [I 0,I 0,.slice none 0 0]]=ga at y1 j1⊢
 have st:aG 3 ga (pt g.length 0) (.agg #[I qs.length,I w,vq])=some (undef,ga.set g.length (.arr 102 [I qs.length,I w,vq])):=by
  simp [aG,we,j1,iM,de,Value.cells,setAt]
 simp only [st,aB]
 have y2:EX g (ga.set g.length (.arr 102 [I qs.length,I w,vq])):=y1.set (le_refl _) _
 have j2:(ga.set g.length (.arr 102 [I qs.length,I w,vq]))[g.length]?=some (.arr 102 [I qs.length,I w,vq]):=ck j1
 generalize ga.set g.length (.arr 102 [I qs.length,I w,vq])=gb at y2 j2⊢
 have xb:=xg.trans y2
 have l0:∀{g':ae},EX gb g'→af false 1 g' (pt g.length 0)=some (I qs.length):=fun x=>by simp [af,aQ,x.get j2,cf]
 have l1:∀{g':ae},EX gb g'→af false 1 g' (pt g.length 1)=some (I w):=fun x=>by simp [af,aQ,x.get j2,cf]
 have l2:∀{g':ae},EX gb g'→af false 1 g' (pt g.length 2)=some vq:=fun x=>by simp [af,aQ,x.get j2,cf]
 have la:∀{g':ae},EX gb g'→af true 3 g' (pt g.length 0)=some (.agg #[I qs.length,I w,vq]):=fun x=>by simp [af,aQ,x.get j2,cf]
 have qM:∀{g':ae},EX gb g'→QL g' vq qs:=fun x=>u3.1.mono (y2.trans x)
 -- it dw not be
 have bad:∀{g':ae},EX gb g'→dN qs w=false→K (.tuple #[.slice none 0 0,.int .i64 (1)]) g':=fun x hb=>mW (nok hb) _ (xb.trans x)
 have YS:∀{g':ae} (t u:Value),EX gb g'→dN qs w=false→bX t (.bool true) u=some (B true)→Ku prog K v0 v (I cs.length) (I i) t u L g':=by
  intro g' t u x hb ht
  rw [alw,ht]
  simp only [ah,dS]
  exact bad x hb
 have YR:∀{g':ae} (t u:Value),EX gb g'→dN qs w=false→bX t (.bool true) u=some (B true)→Kt prog K v0 (pt g.length 0) v (I cs.length) (I i) t u L g':=by
  intro g' t u x hb ht
  rw [alv,ht]
  simp only [ah,dS]
  exact bad x hb
 have YQ:∀{g':ae},EX gb g'→dN qs w=false→T5 prog K v0 (pt g.length 0) v (I cs.length) (I i) (B true) L g':=by
  intro g' x hb
  rw [alu]
  simp only [gr]
  exact YR _ _ x hb rfl
 have YP:∀{g':ae},EX gb g'→dN qs w=false→T2 prog K v0 (pt g.length 0) v (I cs.length) (I i) (B true) L g':=by
  intro g' x hb
  rw [alr]
  simp only [gr]
  rw [als]
  simp only [ef,ah]
  exact YQ x hb
 have YO:∀{g':ae},EX gb g'→dN qs w=false→TY prog K v0 (pt g.length 0) v (I cs.length) (I i) (B true) L g':=by
  intro g' x hb
  rw [alp]
  simp only [gr]
  rw [alq]
  simp only [ef,ah]
  exact YP x hb
 simp only [cw,add_zero,ah,l0 (EX.refl gb),cS]
 rw [aBS]
 by_cases h1:1≤qs.length
 rotate_left
 ·have hb:dN qs w=false:=by unfold dN;rw [aU h1];rfl
  rw [aZ (show (qs.length:Int)<1 by omega)]
  simp only [gr]
  rw [alo]
  simp only [ef,ah]
  exact YO (EX.refl gb) hb
 rw [aU (show ¬(qs.length:Int)<1 by omega)]
 simp only [eQ,cw,add_zero,ah,l0 (EX.refl gb),fS]
 rw [alo]
 simp only [dU,ah]
 by_cases h8:qs.length≤8
 rotate_left
 ·have hb:dN qs w=false:=by unfold dN;rw [aU h8];simp
  rw [aZ (show (8:Int)<(qs.length:Int) by omega)]
  exact YO (EX.refl gb) hb
 rw [aU (show ¬(8:Int)<(qs.length:Int) by omega),alp]
 simp only [eQ,cw,add_zero,zero_add,ah,l1 (EX.refl gb),cS]
 rw [alq]
 simp only [dU,ah]
 by_cases w0:0≤w
 rotate_left
 ·have hb:dN qs w=false:=by unfold dN;rw [aU w0];simp
  rw [aZ (show w<0 by omega)]
  exact YP (EX.refl gb) hb
 rw [aU (show ¬w<0 by omega),alr]
 simp only [eQ,cw,add_zero,zero_add,ah,l1 (EX.refl gb),fS]
 rw [als]
 simp only [dU,ah]
 by_cases nm:w≤50
 rotate_left
 ·have hb:dN qs w=false:=by unfold dN;rw [aU nm];simp
  rw [aZ (show 50<w by omega)]
  exact YQ (EX.refl gb) hb
 rw [aU (show ¬50<w by omega),alu]
 have w1:IntKind.wrap .i64 ((qs.length:Int)-1)=((qs.length-1:Nat):Int):=by rw [wrap64 (by omega) (by omega)];omega
 obtain ⟨b5,o5,r5,s1,s2,s3⟩:=(qM (EX.refl gb)).get (k:=qs.length-1) (by omega)
 simp only [eQ,cw,add_zero,zero_add,ah,l2 (EX.refl gb),l0 (EX.refl gb),gf,w1,s1,s2]
 refine WW s3 ?_
 intro g1 x1
 have hz:decide (lV (qs[qs.length-1]'(by omega)).num=0)=Ah qs:=by
  unfold Ah
  rw [getD_eq_getElem?_getD,getElem?_eq_getElem (by omega),getD_some,decide_eq_decide]
  unfold lV
  split
  ·simp [*]
  ·split <;> simp [*]
 simp only [jw,ah,hz]
 cases hlz:Ah qs with
 | true=>
  have hb:dN qs w=false:=by unfold dN;rw [hlz];simp
  exact YR _ _ x1 hb rfl
 | false=>
 rw [alv]
 simp only [dU,ah,dR,cw,zero_add,l2 x1]
 refine C82 (qM x1) sq sl ?_
 intro g2 x2
 have aA:=x1.trans x2
 rw [aBT]
 cases hX:qs.any mi with
 | true=>
  have hb:dN qs w=false:=by unfold dN;rw [hX];simp
  simp only [gr]
  exact YS _ _ aA hb rfl
 | false=>
 simp only [eQ,la aA,ah]
 have s4:=yT hX
 refine L6 (age:=0) (qM aA) (zero_le _) s4 (by omega) ?_
 intro r3 g3 x3 BY
 rw [List.drop_zero] at BY
 have ssz:=CL s4 qs.length (le_refl _)
 rw [take_length] at ssz
 refine tM (n:=1) (by decide) (by decide) ?_
 intro r4 g4 x4 vW
 refine Gh (BY.mono x4) vW ssz ah6 (by omega) ?_
 intro g5 x5
 have bf:=aA.trans (x3.trans (x4.trans x5))
 have hc:(!decide (nD (dP qs) ((1:Int):Rat)=0))= !decide (dP qs=1):=by rw [aun];rfl
 simp only [qA,ah,hc]
 have aH:dN qs w=decide (dP qs=1):=by
  unfold dN
  rw [aZ h1,aZ h8,aZ w0,aZ nm,hlz,hX];simp
 by_cases iY:dP qs=1
 ·rw [aZ iY] at aH⊢
  rw [alw]
  simp only [Bool.not_true,dU,ah,dR,cP,ft i (by omega),true_and]
  exact hL (i+1,g5) ⟨by show i+1≤_;omega,xb.trans bf,yok aH⟩ (by show cs.length-(i+1)<cs.length-i;omega)
 ·rw [aU iY] at aH⊢
  exact YS _ _ bf aH rfl
end
end
section
def fw (cs:List (List (List UInt8)×Int)):List (List Rat×Int):=cs.map fun c=>(c.1.map lG,c.2)
def nE (cs:List (List (List UInt8)×Int)):Bool:=cs.all fun c=>c.1.all oI
def nZ (cs:List (List (List UInt8)×Int)):Bool:=(decide (1≤cs.length)&&decide (cs.length≤3))&&(fw cs).all fun c=>dN c.1 c.2
section
variable {h : ae} {K : Value → ae → Prop}
theorem WM {v:Value} {cs:List (List (List UInt8)×Int)} (hv:qv h v cs) (hl:∀c∈cs,c.1.length≤1000∧∀s∈c.1,s.length≤700) (hn:cs.length≤1000)
  (vN:nE cs=false→∀h',EX h h'→K (.tuple #[.slice none 0 0,I 2]) h')
  (mW:nE cs=true→nZ cs=false→∀h',EX h h'→K (.tuple #[.slice none 0 0,I 1]) h')
  (hk:nE cs=true→nZ cs=true→∀v' h',EX h h'→LK h' v' (fw cs)→K (.tuple #[v',I 0]) h'):ak prog 43 [v] h K:=by
 refine f43 ?_
 unfold NV
 have hlen:=hv.len
 simp only [hlen,ah]
 refine dI (σ:=Nat×Value×ae) (fun q=>[q.2.1,I q.1]) (fun q=>q.2.2) (fun q=>q.1≤cs.length∧EX h q.2.2∧nE (cs.take q.1)=true∧qx h.length q.2.2 q.2.1 (fw (cs.take q.1))) (fun q=>cs.length-q.1)
  (0,.slice none 0 0,h) rfl rfl ⟨zero_le _,EX.refl _,by simp [nE],by simpa [fw] using qx.start h.length h⟩ ?_
 rintro ⟨i,vo,g⟩ ⟨hi,xg,pg,own⟩ L hL
 simp only at hi xg pg own hL⊢
 rw [aBV]
 simp only [cS,ah,bW]
 refine ⟨fun aD=>?_,fun cE=>?_⟩
 ·have bn:i<cs.length:=by omega
  obtain ⟨b,o,vs,u1,u2,u3⟩:=(hv.mono xg).get bn
  obtain ⟨l1,l2⟩:=hl _ (getElem_mem bn)
  have e7:aV 24 [(.slice none 0 0),(.int .i64 (0))] g=some (pt g.length 0,g++[.arr 24 [.slice none 0 0,I 0]]):=rfl
  simp only [u1,u2,ah,e7,aB]
  have y1:EX g (g++[.arr 24 [.slice none 0 0,I 0]]):=EX.append _ _
  have j1:(g++[aq.arr 24 [.slice none 0 0,I 0]])[g.length]?=some (.arr 24 [.slice none 0 0,I 0]):=br
  generalize g++[aq.arr 24 [.slice none 0 0,I 0]]=ga at y1 j1⊢
  rw [eZ j1]
  simp only [aB]
  have y2:EX g (ga.set g.length (.arr 24 [vs,I cs[i].2])):=y1.set (le_refl _) _
  have j2:(ga.set g.length (.arr 24 [vs,I cs[i].2]))[g.length]?=some (.arr 24 [vs,I cs[i].2]):=ck j1
  generalize ga.set g.length (.arr 24 [vs,I cs[i].2])=gb at y2 j2⊢
  rw [cI j2,ah]
  refine C80 (u3.mono y2) l2 l1 (fun fJ vq g1 bq x1 ho=>?_) (fun dC g1 x1=>?_)
  ·have hq:=ho.qb
   have hlq:=hq.1.len
   obtain ⟨rq,rs,_,_⟩:=id hq.1
   have pv:af false 1 g1 (pt g.length 1)=some (I cs[i].2):=by simp [af,aQ,x1.get j2,cf]
   have bl:∀a c:Int,dh [(.int .i64 (0)),(.int .i64 (0))] [(0,1,I a),(1,1,I c)]=some (.agg #[I a,I c]):=fun _ _=>rfl
   have bl2:∀a c:Int,dh [(.int .i64 (0)),(.int .i64 (0)),(.slice none 0 0)] [(0,2,.agg #[I a,I c]),(2,1,vq)]=some (.agg #[I a,I c,vq]):=fun a c=>by
    rcases rs.2 with ⟨e,_⟩ | ⟨i,o,e,_⟩ <;> rw [e] <;> rfl
   simp only [eC,eO,eY,ah,tG,Bool.not_true,dR,hlq,cw,zero_add,pv,bl,bl2]
   have x2:=y2.trans x1
   refine (own.ex x2).app (xg.trans x2) hq rfl (by unfold fw;rw [length_map,length_take];omega) ?_
   intro v' g3 x3 _ sj
   simp only [cP,ah,ft i (by omega),true_and]
   refine hL (i+1,v',g3) ⟨by show i+1≤_;omega,x3,?_,?_⟩ (by show cs.length-(i+1)<cs.length-i;omega)
   ·show nE (cs.take (i+1))=true
    unfold nE at pg⊢
    rw [take_succ_eq_append_getElem bn,List.all_append,pg]
    simpa using fJ
   ·show qx h.length g3 v' (fw (cs.take (i+1)))
    rw [take_succ_eq_append_getElem bn]
    have e:fw (cs.take i++[cs[i]])=fw (cs.take i)++[(cs[i].1.map lG,cs[i].2)]:=by unfold fw;rw [List.map_append];rfl
    rw [e]
    exact sj
  ·simp only [eC,eO,eY,ah,tG,Bool.not_false,dS]
   refine vN ?_ _ (xg.trans (y2.trans x1))
   cases he:nE cs with
   | false=>rfl
   | true=>
    unfold nE at he
    rw [List.all_eq_true] at he
    rw [he _ (getElem_mem bn)] at dC
    cases dC
 ·have fO:i=cs.length:=by omega
  subst fO
  rw [take_length] at pg own
  have mW:=mW pg
  have hk:=hk pg
  have lk:=own.lk
  have jl:(fw cs).length=cs.length:=by simp [fw]
  have E3:=lk.len
  rw [jl] at E3
  unfold nZ at mW hk
  rw [aBP]
  simp only [hlen,ah,cS]
  rw [aBQ]
  by_cases h1:1≤cs.length
  rotate_left
  ·rw [aU h1] at mW
   rw [aZ (show (cs.length:Int)<1 by omega)]
   simp only [gr]
   rw [aln]
   simp only [ef,ah,dS]
   exact mW rfl g xg
  rw [aZ h1] at mW hk
  rw [aU (show ¬(cs.length:Int)<1 by omega)]
  simp only [eQ,hlen,ah,fS]
  rw [aln]
  simp only [dU,ah]
  by_cases h3:cs.length≤3
  rotate_left
  ·rw [aU h3] at mW
   rw [aZ (show (3:Int)<(cs.length:Int) by omega)]
   simp only [dS]
   exact mW rfl g xg
  rw [aZ h3] at mW hk
  rw [aU (show ¬(3:Int)<(cs.length:Int) by omega)]
  simp only [dR,E3,ah]
  rw [←jl]
  refine ano lk (by omega) (fun c hc=>?_) (fun ha h' x=>mW (by rw [ha];rfl) h' (xg.trans x)) (fun ha h' x=>hk (by rw [ha];rfl) vo h' (xg.trans x) (lk.mono x))
  obtain ⟨d,hd,rfl⟩:=mem_map.1 hc
  obtain ⟨l1,l2⟩:=hl d hd
  refine ⟨fun q hq=>?_,by simpa using l1⟩
  obtain ⟨s,hs,rfl⟩:=mem_map.1 hq
  exact aDy (l2 s hs)
end
end
section
def Cell (g:ae) (i:Nat) (q:Rat):Prop:=∃a b c d,g[i]?=some (.arr 107 [B a,b,B c,d])∧RV g (.agg #[B a,b,B c,d]) q
theorem Cell.mono {g g':ae} {i:Nat} {q:Rat} (x:EX g g') (p:Cell g i q):Cell g' i q:=let ⟨a,b,c,d,e,r⟩:=p;⟨a,b,c,d,x.get e,r.mono x⟩
theorem Cell.lt {g:ae} {i:Nat} {q:Rat} (p:Cell g i q):i<g.length:=let ⟨_,_,_,_,e,_⟩:=p;(bD e).1
theorem Cell.load {g:ae} {i:Nat} {q:Rat} (p:Cell g i q):∃v,af true 4 g (pt i 0)=some v∧RV g v q:=let ⟨_,_,_,_,e,r⟩:=p;⟨_,ik e,r⟩
structure yx (g g':ae) (i:Nat) (q:Rat):Prop where
 cell:Cell g' i q
 len:g'.length=g.length
 old:∀j,j≠i→g'[j]?=g[j]?
 val:∀{v:Value} {p:Rat},RV g v p→RV g' v p
theorem PD {g:ae} {i:Nat} {v:Value} {q:Rat} {s:Bool} {b c d:Value} (hg:g[i]?=some (.arr 107 [.bool s,b,c,d])) (hv:RV g v q):∃g',aG 4 g (pt i 0) v=some (undef,g')∧yx g g' i q:=by
 obtain ⟨a',b',c',d',rfl⟩:=hv.agg
 refine ⟨_,nR hg,⟨⟨a',b',c',d',ck hg,hv.bM hg _⟩,by simp,fun j hj=>getElem?_set_ne (fun h=>hj h.symm),fun h=>h.bM hg _⟩⟩
theorem yx.ex {h0 g g':ae} {i:Nat} {q:Rat} (s:yx g g' i q) (x:EX h0 g) (hi:h0.length≤i):EX h0 g':=
 ⟨by rw [s.len];exact x.1,fun j hj=>by rw [s.old j (by omega)];exact x.2 j hj⟩
theorem yx.dH {g g':ae} {i j:Nat} {q p:Rat} (s:yx g g' i q) (hj:j≠i) (c:Cell g j p):Cell g' j p:=
 let ⟨a,b,e,d,k,r⟩:=c;⟨a,b,e,d,by rw [s.old j hj];exact k,s.val r⟩
structure MY where
 bc:Rat
 iD:Nat
 done:Rat
 jQ:Rat
def bR (qs:List Rat) (w:Int) (age:Nat):Nat→MY
 | 0=>⟨0,0,0,0⟩
 | d+1=>
  let s:=bR qs w age d
  let done:=s.done+qs.getD (age+d) 0
  let jQ:=s.jQ+dP (qs.drop (age+d))
  let x:=(w:Rat)*done / jQ
  if s.iD=0∨s.bc<x then ⟨x,d+1,done,jQ⟩ else ⟨s.bc,s.iD,done,jQ⟩
theorem uL (qs:List Rat) (w:Int) (age d:Nat):(bR qs w age (d+1)).done=(bR qs w age d).done+qs.getD (age+d) 0∧(bR qs w age (d+1)).jQ=(bR qs w age d).jQ+dP (qs.drop (age+d)):=by
 simp only [bR]
 split <;> exact ⟨rfl,rfl⟩
theorem Fg {q:Rat}:0<q↔0<q.num:=by
 rw [Rat.lt_iff]
 simp
theorem Ff {q:Rat}:0≤q↔0≤q.num:=by
 rw [Rat.le_iff]
 simp
theorem VI {l:List Rat} (h:∀q∈l,0≤q):∀i,i≤l.length→0≤dP (l.take i)
 | 0,_=>by rw [List.take_zero];exact Rat.le_refl
 | i+1,hi=>by
  rw [Ls (by omega)]
  exact Rat.add_nonneg (VI h i (by omega)) (h _ (getElem_mem _))
theorem pL {qs:List Rat} {w:Int} (h:dN qs w=true):(1≤qs.length∧qs.length≤8)∧(0≤w∧w≤50)∧qs.any mi=false∧dP qs=1∧(∀q∈qs,0≤q)∧∀h0:0<qs.length,0<qs[qs.length-1]:=by
 unfold dN at h
 simp only [and_eq_true,decide_eq_true_eq,Bool.not_eq_true'] at h
 obtain ⟨⟨⟨a,b⟩,c⟩,d,e⟩:=h
 have nn:∀q∈qs,0≤q:=by
  intro q hq
  have:mi q=false:=by
   cases e:mi q with
   | false=>rfl
   | true=>rw [List.any_eq_true.2 ⟨q,hq,e⟩] at d;cases d
  unfold mi at this
  rw [Bool.or_eq_false_iff,decide_eq_false_iff_not] at this
  rw [Ff];omega
 refine ⟨a,b,d,e,nn,fun h0=>?_⟩
 have h1:=nn _ (getElem_mem (l:=qs) (n:=qs.length-1) (by omega))
 rw [Ff] at h1
 rw [Fg]
 unfold Ah at c
 rw [getD_eq_getElem?_getD,getElem?_eq_getElem (by omega),getD_some,decide_eq_false_iff_not] at c
 omega
theorem Iz {qs:List Rat} {w:Int} (h:dN qs w=true) {k:Nat} (hk:k<qs.length):0<dP (qs.drop k):=by
 obtain ⟨_,_,_,_,nn,last⟩:=pL h
 have hl:=last (by omega)
 have hn:∀q∈qs.drop k,0≤q:=fun q hq=>nn q (mem_of_mem_drop hq)
 have e:(qs.drop k).take ((qs.drop k).length-1+1)=qs.drop k:=List.take_of_length_le (by omega)
 have pe:(qs.drop k).length=qs.length-k:=length_drop
 have h1:=VI hn ((qs.drop k).length-1) (by omega)
 rw [←e,Ls (by omega)]
 have e2:(qs.drop k)[(qs.drop k).length-1]'(by omega)=qs[qs.length-1]'(by omega):=by
  rw [List.getElem_drop]
  congr 1
  omega
 rw [e2]
 generalize dP ((qs.drop k).take ((qs.drop k).length-1))=a at*
 generalize qs[qs.length-1]'(by omega)=b at*
 grind
theorem F1 {qs:List Rat} {w:Int} (h:dN qs w=true) {age:Nat}:∀{d:Nat},age+d≤qs.length→0≤(bR qs w age d).jQ∧(0<d→0<(bR qs w age d).jQ)
 | 0,_=>⟨Rat.le_refl,fun h=>absurd h (by decide)⟩
 | d+1,hd=>by
  have ih:=(F1 (age:=age) (d:=d) h (by omega)).1
  have hp:=Iz h (k:=age+d) (by omega)
  rw [(uL qs w age d).2]
  generalize (bR qs w age d).jQ=a at*
  generalize dP (qs.drop (age+d))=b at*
  refine ⟨by grind,fun _=>by grind⟩
theorem Lk {qs:List Rat} {w:Int} (h:dN qs w=true) {age:Nat}:∀{d:Nat},age+d≤qs.length→cd (5*d+1) (bR qs w age d).done∧cd (42*d+1) (bR qs w age d).jQ
 | 0,_=>⟨cd.zero,cd.zero⟩
 | d+1,hd=>by
  obtain ⟨i1,i2⟩:=Lk (age:=age) (d:=d) h (by omega)
  obtain ⟨⟨_,l8⟩,_,hb,_⟩:=pL h
  have s4:=yT hb
  obtain ⟨e1,e2⟩:=uL qs w age d
  have hs:=CL (qs:=qs.drop (age+d)) (fun q hq=>s4 q (mem_of_mem_drop hq)) _ (le_refl _)
  rw [take_length,length_drop] at hs
  have hg:cd 4 (qs.getD (age+d) 0):=by
   rw [getD_eq_getElem?_getD,getElem?_eq_getElem (by omega),getD_some]
   exact s4 _ (getElem_mem _)
  rw [e1,e2]
  have j1:=i1.add hg
  have j2:=i2.add hs
  exact ⟨cd.le j1 (show 5*d+1+4+1≤5*(d+1)+1 by omega),cd.le j2 (show 42*d+1+(5*(qs.length-(age+d))+1)+1≤42*(d+1)+1 by omega)⟩
theorem LH {w:Int} (h0:0≤w) (h1:w≤50):cd 2 (w:Rat):=by
 refine ⟨?_,by show (1:Nat)<10^2;decide⟩
 show w.natAbs<10^2
 omega
def jD (qs:List Rat) (w:Int) (age d:Nat):Rat:=(w:Rat)*(bR qs w age (d+1)).done / (bR qs w age (d+1)).jQ
theorem amB {qs:List Rat} {w:Int} (h:dN qs w=true) {age d:Nat} (hd:age+(d+1)≤qs.length):cd 380 (jD qs w age d):=by
 obtain ⟨⟨_,l8⟩,⟨w0,nm⟩,_⟩:=pL h
 obtain ⟨i1,i2⟩:=Lk (age:=age) (d:=d+1) h hd
 have hp:=(F1 (age:=age) (d:=d+1) h hd).2 (by omega)
 rw [Fg] at hp
 have j1:=((LH w0 nm).mul i1).div i2 hp
 exact cd.le j1 (show 2+(5*(d+1)+1)+(42*(d+1)+1)≤380 by omega)
theorem Vz {qs:List Rat} {w:Int} (h:dN qs w=true) {age:Nat}:∀{d:Nat},age+d≤qs.length→cd 380 (bR qs w age d).bc
 | 0,_=>cd.zero.le (by decide)
 | d+1,hd=>by
  have ih:=Vz (age:=age) (d:=d) h (by omega)
  have ht:=amB (age:=age) (d:=d) h hd
  have e:(bR qs w age (d+1)).bc=jD qs w age d∨(bR qs w age (d+1)).bc=(bR qs w age d).bc:=by
   unfold jD
   rw [(uL qs w age d).1,(uL qs w age d).2]
   simp only [bR]
   split
   ·exact .inl rfl
   ·exact .inr rfl
  rcases e with e | e <;> rw [e] <;> assumption
end
section
def QU (h:ae) (v:Value) (q:Rat) (k:Nat):Prop:=∃a b:Int,QZ h v a b∧0<b∧(a:Rat)=q*(b:Rat)∧a.natAbs<10^k∧b.natAbs<10^k
def QV (h:ae) (v:Value) (q:Rat):Prop:=QZ h v q.num (q.den:Int)
theorem QU.mono {h h':ae} {v:Value} {q:Rat} {k:Nat} (x:EX h h') (p:QU h v q k):QU h' v q k:=let ⟨a,b,e,r⟩:=p;⟨a,b,e.mono x,r⟩
theorem QV.mono {h h':ae} {v:Value} {q:Rat} (x:EX h h') (p:QV h v q):QV h' v q:=QZ.mono x p
theorem QV.bM {h:ae} {v:Value} {q:Rat} {j:Nat} {e:TypeId} {s:Bool} {r:List Value} (p:QV h v q) (hj:h[j]?=some (.arr e (.bool s::r))) (o:aq):QV (h.set j o) v q:=QZ.bM p hj o
theorem azH (q:Rat):(q.num:Rat)=q*(q.den:Rat):=by
 have h1:(q.den:Rat)≠0:=by
  intro h
  have:=q.den_pos
  have h2:(q.den:Rat)=((0:Nat):Rat):=by simpa using h
  have:=Rat.natCast_inj.1 h2
  omega
 have h2:=Rat.mkRat_self q
 rw [Rat.mkRat_eq_div,Rat.div_def] at h2
 have h3:q*(q.den:Rat)=(q.num:Rat)*((q.den:Rat)⁻¹*(q.den:Rat)):=by
  rw [←Rat.mul_assoc,h2]
 rw [h3,Rat.inv_mul_cancel _ h1,Rat.mul_one]
theorem QV.un {h:ae} {v:Value} {q:Rat} {k:Nat} (p:QV h v q) (s:cd k q):QU h v q k:=
 ⟨q.num,q.den,p,by have:=q.den_pos;omega,azH q,s.1,by rw [natAbs_natCast];exact s.2⟩
theorem aud {b:Int} (hb:0<b):(b:Rat)≠0:=by
 intro h
 have:b=0:=by exact_mod_cast h
 omega
theorem QU.mk {a b:Int} {q:Rat} (hb:0<b) (h:(a:Rat)=q*(b:Rat)):mkRat a b.toNat=q:=by
 rw [Rat.mkRat_eq_div]
 have kI:=aud hb
 obtain ⟨n,rfl⟩:∃n:Nat,b=(n:Int):=⟨b.toNat,by omega⟩
 have e:(((n:Int).toNat:Nat):Rat)=((n:Int):Rat):=by rw [Int.toNat_natCast];rfl
 rw [e,h,Rat.div_def,Rat.mul_assoc,Rat.mul_inv_cancel _ kI,Rat.mul_one]
theorem Iq {i j:Nat} {a b:Int} (ha:a.natAbs<10^i) (hb:b.natAbs<10^j):(a*b).natAbs<10^(i+j):=by
 rw [Int.natAbs_mul];exact Fb ha hb
def Sj:Nat:=796
theorem aAd {k n:Nat} (h:k=4*n):(10:Nat)^k≤10000^n:=by
 subst h
 exact Nat.le_of_eq (Nat.pow_mul 10 4 n)
theorem aAc:(10:Nat)^Sj≤10000^199:=aAd (k:=Sj) (n:=199) rfl
theorem akV {k n:Nat} (hk:k≤796) (h:n<10^k):n<10000^199:=lt_of_lt_of_le h (Nat.le_trans (pow_le_pow_right (by decide) (show k≤Sj from hk)) aAc)
section
variable {va vb : Value} {p q : Rat} {i j : Nat} {h : ae} {K : Value → ae → Prop}
theorem anl (ha:QU h va p i) (hb:QU h vb q j) (fB:i+j≤899) (hk:∀r h',EX h h'→QU h' r (p*q) (i+j)→K r h'):ak prog 27 [va,vb] h K:=by
 obtain ⟨a,b,qa,b0,ea,la,lb⟩:=ha
 obtain ⟨c,d,qc,d0,ec,lc,ld⟩:=hb
 have jV:∀{k n:Nat},k≤899→n<10^k→n<bG:=fun hk hn=>lt_of_lt_of_le hn (tB (by omega))
 refine C27 qa qc (jV (by omega) la) (jV (by omega) lb) (jV (by omega) lc) (jV (by omega) ld) ?_
 intro r h' x hr
 refine hk r h' x ⟨_,_,hr,Int.mul_pos b0 d0,?_,Iq la lc,Iq lb ld⟩
 simp only [Rat.intCast_mul,ea,ec];grind
theorem ax1 {a b c d:Int} (b0:0<b) (d0:0<d) (ea:(a:Rat)=p*(b:Rat)) (ec:(c:Rat)=q*(d:Rat)):lV (a*d-c*b)=nD p q:=by
 have b':(0:Rat)<(b:Rat):=by exact_mod_cast b0
 have d':(0:Rat)<(d:Rat):=by exact_mod_cast d0
 have bd:=Rat.mul_pos b' d'
 have e:((a*d-c*b:Int):Rat)=(p-q)*((b:Rat)*(d:Rat)):=by
  simp only [Rat.intCast_sub,Rat.intCast_mul,ea,ec];grind
 generalize a*d-c*b=z at e⊢
 generalize (b:Rat)*(d:Rat)=t at*
 have key:(z=0↔p=q)∧(z<0↔p<q):=by
  constructor
  ·constructor
   ·intro hz
    subst hz
    have:(p-q)*t=0:=by rw [←e];rfl
    grind
   ·intro hz
    subst hz
    have:((z:Int):Rat)=0:=by rw [e];grind
    exact_mod_cast this
  ·constructor
   ·intro hz
    have rX:(z:Rat)<0:=by exact_mod_cast hz
    rw [e] at rX
    apply byContradiction
    intro hc
    have h1:0≤p-q:=by grind
    have:=Rat.mul_nonneg h1 (Rat.le_of_lt bd)
    grind
   ·intro hz
    have h1:0<q-p:=by grind
    have:=Rat.mul_pos h1 bd
    have:(z:Rat)<0:=by rw [e];grind
    exact_mod_cast this
 unfold nD lV
 by_cases h1:p=q
 ·rw [if_pos h1]
  have:=key.1.2 h1
  subst this
  simp
 ·rw [if_neg h1]
  have z1:z≠0:=fun hz=>h1 (key.1.1 hz)
  by_cases h2:p<q
  ·rw [if_pos h2,if_neg z1,if_pos (key.2.2 h2)]
  ·rw [if_neg h2]
   have:¬z<0:=fun hz=>h2 (key.2.1 hz)
   rw [if_neg z1,if_neg this]
theorem ann (ha:QU h va p i) (hb:QU h vb q j) (fB:i+j≤899) (hk:∀h',EX h h'→K (I (nD p q)) h'):ak prog 29 [va,vb] h K:=by
 obtain ⟨a,b,qa,b0,ea,la,lb⟩:=ha
 obtain ⟨c,d,qc,d0,ec,lc,ld⟩:=hb
 have jV:∀{k n:Nat},k≤899→n<10^k→n<bG:=fun hk hn=>lt_of_lt_of_le hn (tB (by omega))
 have h1:=Iq la ld
 have h2:=Iq lc lb
 rw [Nat.add_comm j i] at h2
 refine C29 qa qc (jV (by omega) la) (jV (by omega) lb) (jV (by omega) lc) (jV (by omega) ld) (jV fB h1) (jV fB h2) ?_
 rw [ax1 b0 d0 ea ec]
 exact hk
theorem ank {z:Int} (hz:z.natAbs<1000000000000000000) (hk:∀r h',EX h h'→QV h' r (z:Rat)→K r h'):ak prog 20 [I z] h K:=C20 hz hk
theorem WL {s:List UInt8} (hl:s.length≤700) (hn:oI s=true) (hk:∀r h',EX h h'→QV h' r (lG s)→K r h'):ak prog 28 [S s] h K:=anm hl (axZ hn) hk
def pD (g:ae) (i:Nat) (q:Rat):Prop:=∃a b c d,g[i]?=some (.arr 37 [B a,b,B c,d])∧QV g (.agg #[B a,b,B c,d]) q
theorem pD.mono {g g':ae} {i:Nat} {q:Rat} (x:EX g g') (p:pD g i q):pD g' i q:=let ⟨a,b,c,d,e,r⟩:=p;⟨a,b,c,d,x.get e,r.mono x⟩
theorem pD.lt {g:ae} {i:Nat} {q:Rat} (p:pD g i q):i<g.length:=let ⟨_,_,_,_,e,_⟩:=p;(bD e).1
theorem pD.load {g:ae} {i:Nat} {q:Rat} (p:pD g i q):∃v,af true 4 g (pt i 0)=some v∧QV g v q:=let ⟨_,_,_,_,e,r⟩:=p;⟨_,ik e,r⟩
structure A7 (g g':ae) (i:Nat) (q:Rat):Prop where
 cell:pD g' i q
 len:g'.length=g.length
 old:∀j,j≠i→g'[j]?=g[j]?
 val:∀{v:Value} {p:Rat},QV g v p→QV g' v p
theorem aue {g:ae} {i:Nat} {v:Value} {q:Rat} {s:Bool} {b c d:Value} (hg:g[i]?=some (.arr 37 [.bool s,b,c,d])) (hv:QV g v q):∃g',aG 4 g (pt i 0) v=some (undef,g')∧A7 g g' i q:=by
 obtain ⟨u,w,rfl,hu,hw⟩:=id hv
 refine ⟨_,nR hg,⟨⟨_,_,_,_,ck hg,hv.bM hg _⟩,by simp,fun j hj=>getElem?_set_ne (fun h=>hj h.symm),fun h=>h.bM hg _⟩⟩
theorem pD.store {g:ae} {i:Nat} {v:Value} {p q:Rat} (hc:pD g i p) (hv:QV g v q):∃g',aG 4 g (pt i 0) v=some (undef,g')∧A7 g g' i q:=by
 obtain ⟨a,b,c,d,hg,_⟩:=hc
 exact aue hg hv
theorem A7.ex {h0 g g':ae} {i:Nat} {q:Rat} (s:A7 g g' i q) (x:EX h0 g) (hi:h0.length≤i):EX h0 g':=
 ⟨by rw [s.len];exact x.1,fun j hj=>by rw [s.old j (by omega)];exact x.2 j hj⟩
theorem A7.dH {g g':ae} {i j:Nat} {q p:Rat} (s:A7 g g' i q) (hj:j≠i) (c:pD g j p):pD g' j p:=
 let ⟨a,b,e,d,k,r⟩:=c;⟨a,b,e,d,by rw [s.old j hj];exact k,s.val r⟩
end
end
section
end
section
theorem ay6 {g:ae} {i o:Nat} {a b:Value} (h:af true 2 g (pt i o)=some (.agg #[a,b])):af false 1 g (pt i o)=some a∧af false 1 g (pt i (o+1))=some b:=by
 simp only [af] at h⊢
 cases hc:aQ g i with
 | none=>rw [hc] at h;cases h
 | some xs=>
  rw [hc] at h
  simp only [Option.bind_some,cf,if_true,Bool.false_eq_true,if_false] at h⊢
  split at h
  ·injection h with h
   injection h with h
   have h:=congrArg Array.toList h
   simp only at h
   have h0:=congrArg (fun l=>l[0]?) h
   have h1:=congrArg (fun l=>l[1]?) h
   simp only [List.getElem?_take,List.getElem?_drop] at h0 h1
   constructor
   ·simpa using h0
   ·simpa using h1
  ·cases h
end
section
theorem pD.num {g:ae} {i:Nat} {q:Rat} (p:pD g i q):∃u,af true 2 g (pt i 0)=some u∧ZV g u q.num:=by
 obtain ⟨a,b,c,d,e,u,w,e2,hu,hw⟩:=p
 refine ⟨_,jJ e,u,?_,hu⟩
 injection e2 with e2
 have e3:=congrArg Array.toList e2
 simp only [List.cons.injEq] at e3
 rw [e3.1,e3.2.1]
section
variable {h : ae} {K : Value → ae → Prop}
end
end
section
def mR (cs:List (List (List UInt8)×Int)):Int:=if nE cs=false then 2 else if nZ cs=false then 1 else 0
section
variable {h : ae} {K : Value → ae → Prop}
end
end
section
def qZ:Value→Bool
 | .string _=>true
 | _=>false
def TS (h:ae) (v:Value) (ls:List (List UInt8)):Prop:=(v=.slice none 0 0∧ls=[])∨∃e i,v=sl e i 0 ls.length∧(ls=[]∨aQ h i=some (ls.map S))
theorem TS.ss {h:ae} {v:Value} {ls:List (List UInt8)} (p:TS h v ls):SS h v ls:=by
 rcases p with ⟨rfl,rfl⟩ | ⟨e,i,rfl,rfl | hc⟩
 ·exact ⟨rfl,fun k hk=>by simp at hk⟩
 ·exact ⟨rfl,fun k hk=>by simp at hk⟩
 ·exact SS.sl hc
theorem TS.dH {h h':ae} {v:Value} {ls:List (List UInt8)} (x:KP qZ h h') (p:TS h v ls):TS h' v ls:=by
 rcases p with p | ⟨e,i,rfl,hc⟩
 ·exact .inl p
 ·refine .inr ⟨e,i,rfl,?_⟩
  rcases hc with hc | hc
  ·exact .inl hc
  ·cases ls with
   | nil=>exact .inl rfl
   | cons s t=>right;exact x i _ _ hc rfl
theorem TS.one {h:ae} {v:Value} {ls:List (List UInt8)} (p:TS h v ls):iM v=true∧de v=[v]∧gA v=true:=by
 rcases p with ⟨rfl,_⟩ | ⟨e,i,rfl,_⟩ <;> exact ⟨rfl,rfl,rfl⟩
def fz (b:Nat) (h:ae) (v:Value) (cs:List (List (List UInt8)×Int)):Prop:=
 ∃rows,ki b h 24 2 v rows∧rows.length=cs.length∧∀(k:Nat) (row:List Value) (c:List (List UInt8)×Int),rows[k]?=some row→cs[k]?=some c→∃vs,row=[vs,I c.2]∧TS h vs c.1
theorem fz.start (b:Nat) (h:ae):fz b h (.slice none 0 0) []:=⟨[],ki.start ..,rfl,fun k r q h=>by simp at h⟩
theorem fz.Il {b:Nat} {h:ae} {v:Value} {cs:List (List (List UInt8)×Int)} (o:fz b h v cs):qv h v cs:=
 let ⟨rows,a,c,d⟩:=o;⟨rows,a.rs,c,fun k row q h1 h2=>let ⟨vs,e,m⟩:=d k row q h1 h2;⟨vs,e,m.ss⟩⟩
theorem fz.ex {b:Nat} {h h':ae} {v:Value} {cs:List (List (List UInt8)×Int)} (x:EX h h') (o:fz b h v cs):fz b h' v cs:=
 let ⟨rows,a,c,d⟩:=o;⟨rows,a.ex x,c,fun k row q h1 h2=>let ⟨vq,e,m⟩:=d k row q h1 h2;⟨vq,e,m.dH (KP.ex x)⟩⟩
theorem fz.app {h0 h:ae} {v vs:Value} {ls:List (List UInt8)} {w:Int} {cs:List (List (List UInt8)×Int)} {zs:List Value} {K:Value→ae→Prop} (o:fz h0.length h v cs) (hex:EX h0 h) (hq:TS h vs ls) (hz:zs.length=2) (hl:cs.length≤10000)
  (hk:∀v' h',EX h0 h'→fz h0.length h' v' (cs++[(ls,w)])→K v' h'):OH (cW 24 1 zs h [(0,2,.agg #[vs,I w])]) fun y h2=>OH (dM 24 2 32 h2 v y) K:=by
 obtain ⟨rows,o1,o2,o4⟩:=o
 obtain ⟨t1,t2,_⟩:=hq.one
 refine o1.app hex hz (row:=[vs,I w]) rfl (by simp [de,Value.cells]) rfl (by omega) (by simp [maxLen];omega) ?_
 intro v' h' x' hold o'
 have fl:∀c r,rows.flatten=c::r→qZ c=false:=by
  intro c r e
  cases rows with
  | nil=>simp at e
  | cons row rows=>
   cases cs with
   | nil=>simp at o2
   | cons c0 cs=>
    obtain ⟨vs0,e0,m0⟩:=o4 0 row c0 rfl rfl
    subst e0
    simp only [List.flatten_cons,List.cons_append,List.cons.injEq] at e
    rw [←e.1]
    rcases m0 with ⟨rfl,_⟩ | ⟨_,_,rfl,_⟩ <;> rfl
 have kp:KP qZ h h':=o1.kp fl hold
 refine hk v' h' x' ⟨_,o',by simp [o2],fun k row q h1 h2=>?_⟩
 by_cases hk:k<rows.length
 ·rw [getElem?_append_left hk] at h1
  rw [getElem?_append_left (by omega)] at h2
  obtain ⟨FZ,e,m⟩:=o4 k row q h1 h2
  exact ⟨FZ,e,m.dH kp⟩
 ·rw [getElem?_append_right (by omega)] at h1
  rw [getElem?_append_right (by omega),←o2] at h2
  have h0:k-rows.length=0:=by
   have:=(bD h1).1
   simp at this;omega
  rw [h0] at h1 h2
  simp only [List.getElem?_cons_zero,Option.some.injEq] at h1 h2
  subst h1 h2
  exact ⟨vs,rfl,hq.dH kp⟩
theorem az1 {b:Nat} {h:ae} {v:Value} {ls:List (List UInt8)} (o:eJ b h 27 v (ls.map S)):TS h v ls:=by
 rcases o with ⟨rfl,e⟩ | ⟨i,_,rfl,hg⟩
 ·exact .inl ⟨rfl,by simpa using e⟩
 ·exact .inr ⟨27,i,by rw [length_map],.inr (by simp [aQ,hg])⟩
section
variable {h : ae} {K : Value → ae → Prop}
end
end
section
section
variable {h : ae} {K : Value → ae → Prop}
theorem ri {g:ae} {i:Nat} (hi:g[i]?=some (.arr 107 z4)):eL g (pt i 0)=some (.agg #[.int .i64 107,.bool false,.slice none 0 0,.bool false,.slice none 0 0]):=by
 simp [eL,B8,hi,pP,xW]
theorem CW {g:ae} {i:Nat} {v:Value} {q:Rat} (hg:g[i]?=some (.arr 107 z4)) (hv:RV g v q):∃g',aG 4 g (pt i 0) v=some (undef,g')∧yx g g' i q:=PD (s:=false) (b:=.slice none 0 0) (c:=.bool false) (d:=.slice none 0 0) hg hv
theorem Cell.store {g:ae} {i:Nat} {v:Value} {p q:Rat} (c:Cell g i p) (hv:RV g v q):∃g',aG 4 g (pt i 0) v=some (undef,g')∧yx g g' i q:=by
 obtain ⟨a,b,e,d,k,_⟩:=c
 exact PD (s:=a) k hv
structure yp (h g:ae) (ij ix ib id iw:Nat) (qs:List Rat) (w:Int) (vq:Value) (s:MY):Prop where
 ex:EX h g
 JH:g[ij]?=some (.arr 102 [I qs.length,I w,vq])
 out:g[ix]?=some (.arr 107 z4)
 bc:Cell g ib s.bc
 done:Cell g id s.done
 jQ:Cell g iw s.jQ
theorem yp.mono {h g g':ae} {ij ix ib id iw:Nat} {qs:List Rat} {w:Int} {vq:Value} {s:MY} (x:EX g g') (p:yp h g ij ix ib id iw qs w vq s):yp h g' ij ix ib id iw qs w vq s:=
 ⟨p.ex.trans x,x.get p.JH,x.get p.out,p.bc.mono x,p.done.mono x,p.jQ.mono x⟩
theorem anp {ij ix ib id iw:Nat} {qs:List Rat} {w:Int} {vq:Value} {age:Nat} {g0:ae} (hq:QL h vq qs) (aH:dN qs w=true) (Eg:age<qs.length)
  (b1:h.length≤ix∧h.length≤ib∧h.length≤id∧h.length≤iw) (d1:ij≠ib∧ij≠id∧ij≠iw) (d2:ix≠ib∧ix≠id∧ix≠iw) (d3:ib≠id∧ib≠iw∧id≠iw)
  (hi:yp h g0 ij ix ib id iw qs w vq (bR qs w age 0))
  (hk:∀r h',EX h h'→RV h' r (bR qs w age (qs.length-age)).bc→K (.tuple #[r,I ((bR qs w age (qs.length-age)).iD:Nat)]) h'):
  cN [(.int .i64 (0)),(.int .i64 (1))] g0 fun L1 xs hx=>T6 prog K (I age) (pt ij 0) (pt ix 0) (pt ib 0) (pt id 0) (pt iw 0) L1 xs hx:=by
 obtain ⟨⟨_,l8⟩,⟨w0,nm⟩,hb,_⟩:=pL aH
 have s4:=yT hb
 refine dI (σ:=Nat×ae) (fun q=>[I ((bR qs w age q.1).iD:Nat),I (q.1+1:Nat)]) (fun q=>q.2) (fun q=>age+q.1≤qs.length∧yp h q.2 ij ix ib id iw qs w vq (bR qs w age q.1)) (fun q=>qs.length-q.1) (0,g0) rfl rfl ⟨by show age+0≤_;omega,hi⟩ ?_
 clear hi
 rintro ⟨d,g⟩ ⟨hd,inv⟩ L hL
 simp only at hd inv hL⊢
 rw [aBZ]
 have SD:af false 1 g (pt ij 0)=some (I qs.length):=by simp [af,aQ,inv.JH,cf]
 have ws:ai .sub (I qs.length) (I age)=some (I (qs.length-age:Nat)):=by rw [gf,wrap64 (by omega) (by omega)];congr 2;omega
 simp only [cw,add_zero,ah,SD,ws,Ds,bW]
 refine ⟨fun hle=>?_,fun sV=>?_⟩
 rotate_left
 ·have QS:d=qs.length-age:=by omega
  subst QS
  rw [aBY]
  obtain ⟨v,l1,l2⟩:=inv.bc.load
  obtain ⟨g',e1,st⟩:=CW inv.out l2
  simp only [l1,ah,e1,aB]
  obtain ⟨v',m1,m2⟩:=st.cell.load
  simp only [m1,ah]
  exact hk v' g' (st.ex inv.ex b1.1) m2
 have pe:age+d<qs.length:=by omega
 have mw:age+(d+1)≤qs.length:=by omega
 obtain ⟨sz1,sz2⟩:=Lk (age:=age) (d:=d) aH hd
 obtain ⟨sz3,sz4⟩:=Lk (age:=age) (d:=d+1) aH mw
 obtain ⟨ed,ew⟩:=uL qs w age d
 have hwp:=(F1 (age:=age) (d:=d+1) aH mw).2 (by omega)
 rw [Fg] at hwp
 obtain ⟨vd,l1,l2⟩:=inv.done.load
 have E2:∀{g':ae},g'[ij]?=some (.arr 102 [I qs.length,I w,vq])→af false 1 g' (pt ij 2)=some vq:=fun k=>by simp [af,aQ,k,cf]
 have lj1:∀{g':ae},g'[ij]?=some (.arr 102 [I qs.length,I w,vq])→af false 1 g' (pt ij 1)=some (I w):=fun k=>by simp [af,aQ,k,cf]
 have lja:∀{g':ae},g'[ij]?=some (.arr 102 [I qs.length,I w,vq])→af true 3 g' (pt ij 0)=some (.agg #[I qs.length,I w,vq]):=fun k=>by simp [af,aQ,k,cf]
 have w1:ai .add (I age) (I (d+1:Nat))=some (I (age+(d+1):Nat)):=by rw [cP,wrap64 (by omega) (by omega)];congr 2
 have w2:ai .sub (I (age+(d+1):Nat)) (.int .i64 1)=some (I (age+d:Nat)):=by rw [gf,wrap64 (by omega) (by omega)];congr 2;omega
 obtain ⟨bi,oi,r,u1,u2,u3⟩:=(hq.mono inv.ex).get pe
 simp only [l1,ah,true_and,E2 inv.JH,w1,w2,u1,u2]
 refine yo l2 u3 sz1 (s4 _ (getElem_mem pe)) (by omega) ?_
 intro r1 g1 x1 BW
 have eg:qs[age+d]=qs.getD (age+d) 0:=by rw [getD_eq_getElem?_getD,getElem?_eq_getElem pe];rfl
 rw [eg,←ed] at BW
 have inv1:=inv.mono x1
 -- uO is done
 obtain ⟨g2,e2,CG⟩:=inv1.done.store BW
 simp only [e2,aB]
 have VZ:=CG.dH (Ne.symm d3.2.2) inv1.jQ
 have bs2:=CG.dH d3.1 inv1.bc
 have jb2:g2[ij]?=some (.arr 102 [I qs.length,I w,vq]):=by rw [CG.old _ d1.2.1];exact inv1.JH
 have ou2:g2[ix]?=some (.arr 107 z4):=by rw [CG.old _ d2.2.1];exact inv1.out
 have xh2:=CG.ex inv1.ex b1.2.2.1
 obtain ⟨vw,m1,m2⟩:=VZ.load
 simp only [m1,ah,lja jb2]
 refine L6 (age:=age+d) (hq.mono xh2) (by omega) s4 (by omega) ?_
 intro r3 g3 x3 BY
 have m3:af true 4 g3 (pt iw 0)=some vw:=by
  obtain ⟨a,b,c,e,k,_⟩:=VZ
  rw [ik k] at m1
  rw [ik (x3.get k)];exact m1
 simp only [m3,true_and]
 have kn:=CL (qs:=qs.drop (age+d)) (fun q hq=>s4 q (mem_of_mem_drop hq)) _ (le_refl _)
 rw [take_length,length_drop] at kn
 refine yo (m2.mono x3) BY sz2 kn (by omega) ?_
 intro r4 g4 x4 vW
 rw [←ew] at vW
 have bt:=x3.trans x4
 obtain ⟨g5,e5,CH⟩:=(VZ.mono bt).store vW
 simp only [e5,aB]
 have DR:=CH.dH d3.2.2 (CG.cell.mono bt)
 have YZ:=CH.dH d3.2.1 (bs2.mono bt)
 have JG:g5[ij]?=some (.arr 102 [I qs.length,I w,vq]):=by rw [CH.old _ d1.2.2];exact bt.get jb2
 have ou5:g5[ix]?=some (.arr 107 z4):=by rw [CH.old _ d2.2.2];exact bt.get ou2
 have LP:=CH.ex (xh2.trans bt) b1.2.2.2
 have CQ:=CH.cell
 -- one more try
 have e7:aV 107 [(.bool false),(.slice none 0 0),(.bool false),(.slice none 0 0)] g5=some (pt g5.length 0,g5++[.arr 107 z4]):=rfl
 simp only [e7,aB]
 have y1:EX g5 (g5++[.arr 107 z4]):=EX.append _ _
 have j1:(g5++[aq.arr 107 z4])[g5.length]?=some (.arr 107 z4):=br
 generalize g5++[aq.arr 107 z4]=g6 at y1 j1⊢
 simp only [ri j1,ah,true_and,lj1 (y1.get JG),lj1 JG]
 refine tM (by omega) (by omega) ?_
 intro r7 g7 x7 hr7
 have eP:=y1.trans x7
 obtain ⟨vd7,n1,n2⟩:=(DR.mono eP).load
 have same:∀{i:Nat} {q:Rat} {ga gb:ae} {v:Value},Cell ga i q→EX ga gb→af true 4 gb (pt i 0)=some v→af true 4 ga (pt i 0)=some v:=by
  intro i q ga gb v c x l
  obtain ⟨a,b,c,e,k,_⟩:=c
  rw [ik (x.get k)] at l
  rw [ik k];exact l
 simp only [ri (x7.get j1),true_and,n1,ah,same DR eP n1,same (DR.mono y1) x7 n1]
 refine L7 hr7 n2 (LH w0 nm) sz3 (by omega) ?_
 intro r8 g8 x8 Rq
 have fW:=eP.trans x8
 obtain ⟨vw8,o1,o2⟩:=(CQ.mono fW).load
 simp only [ri ((x7.trans x8).get j1),true_and,o1,ah,same CQ fW o1,same (CQ.mono y1) (x7.trans x8) o1,same (CQ.mono eP) x8 o1]
 refine WV Rq o2 hwp ((LH w0 nm).mul sz3) sz4 (by omega) ?_
 intro r9 g9 x9 BZ
 have ht:RV g9 r9 (jD qs w age d):=BZ
 have htz:=amB (age:=age) (d:=d) aH mw
 have hbz:=Vz (age:=age) (d:=d) aH hd
 have gq:=x7.trans (x8.trans x9)
 obtain ⟨iz,vB,so⟩:=CW (gq.get j1) ht
 have jz:∀{i:Nat},i<g5.length→i≠g5.length:=fun aD he=>by omega
 have fG:=y1.trans gq
 have ib5:=YZ.lt
 have id5:=DR.lt
 have iw5:=CQ.lt
 have ij5:ij<g5.length:=(bD JG).1
 have ix5:ix<g5.length:=(bD ou5).1
 have OV:=so.dH (jz ib5) (YZ.mono fG)
 have dnA:=so.dH (jz id5) (DR.mono fG)
 have wkA:=so.dH (jz iw5) (CQ.mono fG)
 have jbA:iz[ij]?=some (.arr 102 [I qs.length,I w,vq]):=by rw [so.old _ (jz ij5)];exact fG.get JG
 have ouA:iz[ix]?=some (.arr 107 z4):=by rw [so.old _ (jz ix5)];exact fG.get ou5
 have xhA:=so.ex (LP.trans fG) (by have:=LP.1;omega)
 simp only [ri (gq.get j1),true_and,vB,aB,jw,ah]
 have next:∀(bc:Rat) (iD:Nat) {g':ae},yp h g' ij ix ib id iw qs w vq ⟨bc,iD,(bR qs w age (d+1)).done,(bR qs w age (d+1)).jQ⟩→bR qs w age (d+1)=⟨bc,iD,(bR qs w age (d+1)).done,(bR qs w age (d+1)).jQ⟩→Kv prog K (I age) (pt ij 0) (pt ix 0) (pt ib 0) (I iD) (pt id 0) (pt iw 0) (I (d+1:Nat)) L g':=by
  intro bc iD g' iv es
  rw [aBX]
  have wi:IntKind.wrap .i64 (((d+1:Nat):Int)+1)=((d+1+1:Nat):Int):=by rw [wrap64 (by omega) (by omega)];omega
  simp only [cP,wi,ah,true_and]
  have:=hL (d+1,g') ⟨mw,by show yp h g' ij ix ib id iw qs w vq (bR qs w age (d+1));rw [es];exact iv⟩ (by show qs.length-(d+1)<qs.length-d;omega)
  have em:(bR qs w age (d+1)).iD=iD:=by rw [es]
  simp only [em] at this
  exact this
 -- it is OR
 have OR:((bR qs w age d).iD=0∨(bR qs w age d).bc<jD qs w age d)→∀(t u:Value) {g':ae},EX iz g'→bX t (.bool true) u=some (B true)→Fu prog K (I age) (pt ij 0) (pt ix 0) (pt ib 0) (I ((bR qs w age d).iD:Nat)) (pt id 0) (pt iw 0) (I (d+1:Nat)) (pt g5.length 0) t u L g':=by
  intro rN t u g' x' EH
  rw [alx,EH]
  obtain ⟨vt,p1,p2⟩:=(so.cell.mono x').load
  obtain ⟨qE,e11,CF⟩:=(OV.mono x').store p2
  simp only [ah,dS,p1,e11,aB]
  refine next (jD qs w age d) (d+1) ⟨CF.ex (xhA.trans x') b1.2.1,by rw [CF.old _ d1.1];exact x'.get jbA,by rw [CF.old _ d2.1];exact x'.get ouA,CF.cell,CF.dH d3.1.symm (dnA.mono x'),CF.dH d3.2.1.symm (wkA.mono x')⟩ ?_
  unfold jD at rN⊢
  rw [ed,ew] at rN⊢
  simp only [bR]
  rw [if_pos rN]
 have aFk:¬((bR qs w age d).iD=0∨(bR qs w age d).bc<jD qs w age d)→∀(t u:Value) {g':ae},EX iz g'→bX t (.bool true) u=some (B false)→Fu prog K (I age) (pt ij 0) (pt ix 0) (pt ib 0) (I ((bR qs w age d).iD:Nat)) (pt id 0) (pt iw 0) (I (d+1:Nat)) (pt g5.length 0) t u L g':=by
  intro rN t u g' x' EH
  rw [alx,EH]
  simp only [ah,dR]
  refine next (bR qs w age d).bc (bR qs w age d).iD ⟨xhA.trans x',x'.get jbA,x'.get ouA,OV.mono x',dnA.mono x',wkA.mono x'⟩ ?_
  unfold jD at rN
  rw [ed,ew] at rN⊢
  simp only [bR]
  rw [if_neg rN]
 rw [aBW]
 by_cases hm:(bR qs w age d).iD=0
 ·rw [aZ (show ((bR qs w age d).iD:Int)=0 by omega)]
  simp only [gr]
  exact OR (.inl hm) _ _ (EX.refl iz) rfl
 ·rw [aU (show ¬((bR qs w age d).iD:Int)=0 by omega)]
  obtain ⟨vt,p1,p2⟩:=so.cell.load
  obtain ⟨vb,p3,p4⟩:=OV.load
  simp only [eQ,p1,p3,ah]
  refine Gh p2 p4 htz hbz (by decide) ?_
  intro qE au
  have hc:decide ((0:Int)<nD (jD qs w age d) (bR qs w age d).bc)=decide ((bR qs w age d).bc<jD qs w age d):=by
   rw [decide_eq_decide]
   unfold nD
   generalize jD qs w age d=a
   generalize (bR qs w age d).bc=b
   by_cases e:a=b
   ·subst e
    rw [if_pos rfl]
    exact ⟨fun h=>absurd h (by decide),fun h=>absurd h Rat.lt_irrefl⟩
   ·rw [if_neg e]
    by_cases e2:a<b
    ·rw [if_pos e2]
     exact ⟨fun h=>absurd h (by decide),fun h=>by grind⟩
    ·rw [if_neg e2]
     exact ⟨fun _=>by grind,fun _=>by decide⟩
  simp only [fS,ah,hc]
  by_cases rN:(bR qs w age d).bc<jD qs w age d
  ·rw [aZ rN]
   exact OR (.inr rN) _ _ au rfl
  ·rw [aU rN]
   exact aFk (fun h=>h.elim hm rN) _ _ au rfl
end
end
section
section
variable {h : ae} {K : Value → ae → Prop}
theorem C44 {qs:List Rat} {w:Int} {vq:Value} {age:Nat} (hq:QL h vq qs) (aH:dN qs w=true) (Eg:age<qs.length)
  (hk:∀r h',EX h h'→RV h' r (bR qs w age (qs.length-age)).bc→K (.tuple #[r,I ((bR qs w age (qs.length-age)).iD:Nat)]) h'):ak prog 44 [.agg #[I qs.length,I w,vq],I age] h K:=by
 obtain ⟨rq,rs,_,_⟩:=id hq
 refine f44 ?_
 have e1:bm 102 h (.agg #[I qs.length,I w,vq])=some (pt h.length 0,h++[.arr 102 [I qs.length,I w,vq]]):=by
  rcases rs.2 with ⟨e,_⟩ | ⟨i,o,e,_⟩ <;> rw [e] <;> rfl
 have e7:∀(g:ae),aV 107 [(.bool false),(.slice none 0 0),(.bool false),(.slice none 0 0)] g=some (pt g.length 0,g++[.arr 107 z4]):=fun _=>rfl
 simp only [NW,e1,e7,aB]
 have x0:EX h (h++[.arr 102 [I qs.length,I w,vq]]):=EX.append _ _
 have k0:(h++[aq.arr 102 [I qs.length,I w,vq]])[h.length]?=some (.arr 102 [I qs.length,I w,vq]):=br
 generalize h++[aq.arr 102 [I qs.length,I w,vq]]=g0 at x0 k0⊢
 have x1:EX g0 (g0++[.arr 107 z4]):=EX.append _ _
 have k1:(g0++[aq.arr 107 z4])[g0.length]?=some (.arr 107 z4):=br
 generalize g0++[aq.arr 107 z4]=g1 at x1 k1⊢
 have m0:h.length<g0.length:=(bD k0).1
 have m1:g0.length<g1.length:=(bD k1).1
 refine tM (n:=0) (by decide) (by decide) ?_
 intro r2 g2 x2 BX
 have BX:RV g2 r2 0:=BX
 have x3:EX g2 (g2++[.arr 107 z4]):=EX.append _ _
 have k3:(g2++[aq.arr 107 z4])[g2.length]?=some (.arr 107 z4):=br
 generalize g2++[aq.arr 107 z4]=g3 at x3 k3⊢
 have m2:=x2.1
 have m3:g2.length<g3.length:=(bD k3).1
 obtain ⟨g4,e4,Vw⟩:=CW k3 (BX.mono x3)
 simp only [e4,aB]
 have bt:EX g2 g4:=Vw.ex x3 (le_refl _)
 refine tM (n:=0) (by decide) (by decide) ?_
 intro r5 g5 x5 qP
 have qP:RV g5 r5 0:=qP
 refine tM (n:=0) (by decide) (by decide) ?_
 intro r6 g6 x6 Rp
 have Rp:RV g6 r6 0:=Rp
 have x7:EX g6 (g6++[.arr 107 z4]):=EX.append _ _
 have k7:(g6++[aq.arr 107 z4])[g6.length]?=some (.arr 107 z4):=br
 generalize g6++[aq.arr 107 z4]=g7 at x7 k7⊢
 have x8:EX g7 (g7++[.arr 107 z4]):=EX.append _ _
 have k8:(g7++[aq.arr 107 z4])[g7.length]?=some (.arr 107 z4):=br
 generalize g7++[aq.arr 107 z4]=g8 at x8 k8⊢
 have m4:=Vw.len
 have m5:=x5.1
 have m6:=x6.1
 have m7:g6.length<g7.length:=(bD k7).1
 have gp:=x7.trans x8
 obtain ⟨g9,e9,Lj⟩:=CW (x8.get k7) (((qP.mono x6).mono gp))
 simp only [e9,aB]
 have k9:g9[g7.length]?=some (.arr 107 z4):=by rw [Lj.old _ (by omega)];exact k8
 obtain ⟨iz,vB,so⟩:=CW k9 (Lj.val (Rp.mono gp))
 simp only [vB,aB]
 have gq:EX g6 g9:=Lj.ex gp (le_refl _)
 have aFG:EX g6 iz:=so.ex gq (by omega)
 have LN:=(x5.trans x6).trans aFG
 have LM:=x0.trans (x1.trans x2)
 have xA:=LM.trans (bt.trans LN)
 have jb:=((x1.trans x2).trans (bt.trans LN)).get k0
 have ou:=(x2.trans (bt.trans LN)).get k1
 exact anp (g0:=iz) (ij:=h.length) (ix:=g0.length) (ib:=g2.length) (id:=g6.length) (iw:=g7.length) hq aH Eg ⟨by omega,by omega,by omega,by omega⟩ ⟨by omega,by omega,by omega⟩ ⟨by omega,by omega,by omega⟩ ⟨by omega,by omega,by omega⟩
  ⟨xA,jb,ou,Vw.cell.mono LN,so.dH (by omega) Lj.cell,so.cell⟩ hk
end
end
section
theorem av3 (l:List Rat):∀a:Rat,l.foldl (·+·) a=a+dP l:=by
 induction l with
 | nil=>intro a;simp [dP,Rat.add_zero]
 | cons x l ih=>
  intro a
  unfold dP
  simp only [List.foldl_cons]
  rw [ih (a+x),ih (0+x),Rat.zero_add,Rat.add_assoc]
theorem VG (x:Rat) (l:List Rat):dP (x::l)=x+dP l:=by
 unfold dP
 rw [List.foldl_cons,Rat.zero_add,av3]
 rfl
theorem VH {qs:List Rat} {k:Nat} (hk:k<qs.length):dP (qs.drop k)=qs.getD k 0+dP (qs.drop (k+1)):=by
 rw [List.drop_eq_getElem_cons hk,VG,getD_eq_getElem?_getD,getElem?_eq_getElem hk,getD_some]
theorem acG (qs:List Rat) (w:Int) (age:Nat):∀d:Nat,age+d≤qs.length→(bR qs w age d).done=dP (qs.drop age)-dP (qs.drop (age+d))
 | 0,_=>by simp only [add_zero,bR];grind
 | d+1,hd=>by
  rw [(uL qs w age d).1,acG qs w age d (by omega),VH (k:=age+d) (by omega)]
  have:age+(d+1)=age+d+1:=by omega
  rw [this]
  generalize dP (qs.drop age)=a
  generalize dP (qs.drop (age+d+1))=b
  generalize qs.getD (age+d) 0=c
  grind
theorem adm {qs:List Rat} (h:∀q∈qs,0≤q) (k:Nat):0≤qs.getD k 0:=by
 rw [getD_eq_getElem?_getD]
 cases e:qs[k]? with
 | none=>exact Rat.le_refl
 | some q=>exact h q (List.mem_of_getElem? e)
theorem acH {qs:List Rat} {w:Int} (h:∀q∈qs,0≤q) {age:Nat}:∀d:Nat,0≤(bR qs w age d).done
 | 0=>Rat.le_refl
 | d+1=>by
  rw [(uL qs w age d).1]
  exact Rat.add_nonneg (acH h d) (adm h _)
theorem DQ {a b:Rat} (ha:0≤a) (hb:0<b):0≤a / b:=by
 rw [Rat.div_def]
 exact Rat.mul_nonneg ha (Rat.le_of_lt (Rat.inv_pos.2 hb))
theorem aFa {qs:List Rat} {w:Int} (h:dN qs w=true) {age d:Nat} (hd:age+(d+1)≤qs.length):0≤jD qs w age d:=by
 obtain ⟨_,⟨w0,_⟩,_,_,nn,_⟩:=pL h
 refine DQ (Rat.mul_nonneg ?_ (acH nn _)) ((F1 h hd).2 (by omega))
 exact_mod_cast w0
theorem aml (qs:List Rat) (w:Int) (age:Nat):∀d,(bR qs w age d).iD≤d∧(0<d→0<(bR qs w age d).iD)
 | 0=>⟨le_refl _,fun h=>absurd h (by decide)⟩
 | d+1=>by
  obtain ⟨i1,i2⟩:=aml qs w age d
  simp only [bR]
  split
  ·simp
  ·rename_i hc
   have:(bR qs w age d).iD≠0:=fun e=>hc (.inl e)
   refine ⟨by simp;omega,fun _=>by simp;omega⟩
theorem amn (qs:List Rat) (w:Int) (age d:Nat):bR qs w age (d+1)=if (bR qs w age d).iD=0∨(bR qs w age d).bc<jD qs w age d then ⟨jD qs w age d,d+1,(bR qs w age (d+1)).done,(bR qs w age (d+1)).jQ⟩ else ⟨(bR qs w age d).bc,(bR qs w age d).iD,(bR qs w age (d+1)).done,(bR qs w age (d+1)).jQ⟩:=by
 unfold jD
 rw [(uL qs w age d).1,(uL qs w age d).2]
 rfl
theorem aco {p q:Rat}:0<nD p q↔q<p:=by
 unfold nD
 by_cases h:p=q
 ·rw [if_pos h,h];constructor
  ·intro h;omega
  ·intro h;exact absurd h (by grind)
 ·rw [if_neg h]
  by_cases h2:p<q
  ·rw [if_pos h2];constructor
   ·intro h;omega
   ·intro h3;exact absurd h3 (by grind)
  ·rw [if_neg h2];constructor
   ·intro _;grind
   ·intro _;decide
theorem acI {qs:List Rat} {w:Int} (h:dN qs w=true) (k:Nat):cd 41 (dP (qs.drop k)):=by
 obtain ⟨⟨_,l8⟩,_,hb,_⟩:=pL h
 have s4:=yT hb
 have hs:=CL (qs:=qs.drop k) (fun q hq=>s4 q (mem_of_mem_drop hq)) _ (le_refl _)
 rw [take_length,length_drop] at hs
 exact hs.le (by omega)
end
section
variable (P : Program) (K : VK)
noncomputable section
variable (l0 x1 x6 x8 i9 wZ bu bI bE cj eB : Value) (L1 : LQ) (xs : List Value) (h : ae)
def ahj:=bC prog 41 [[],[],[],[],[],[],[],[],[],[],[6,8,25,26],[27],[],[],[],[6,8,9,10,25,26,27,34],[6,8,9,10,25,26,27,34,42],[],[],[],[],[6,8],[],[],[],[],[]]
@[irreducible] def Hx:=bN ahj
@[irreducible] def Dy:=Hx.r.r.r.r.r.l.r.l.l
@[irreducible] def aaz:=Hx.r.r.r.r.r.r
@[irreducible] def aaA:=Dy.r.r.l.l.r.l.l.r.l
@[irreducible] def asi:=Dy.r.r.l.l.r.l.r
@[irreducible] def ash:=Dy.r.r.l.l.r.r
@[irreducible] def asf:=Dy.r.r.r
@[irreducible] def asl:=aaz.l
@[irreducible] def asj:=aaA.r.l
theorem k41:ahj=some (54,Hx,[.tmp 4,.tmp 5]):=by kernel_rfl
def Mz (_P:Program) (K:VK):ar:=aS [.tmp 4,.tmp 5] K
def aoY:ar:=aF (aj P aaz (Mz P K)) (Mz P K)
def aoZ:ar:=bO 0 (aoY P K)
def MA:ar:=aF (fun f' aT=>(([6,8,25,26]:List Nat).map f':List Value)=[x6,x8,bu,bI]∧L1 (([27]:List Nat).map f') aT) (aoZ P K)
def ao0:ar:=aF (aj P asf (MA P K x6 x8 bu bI L1)) (MA P K x6 x8 bu bI L1)
def Xx:ar:=bO 1 (ao0 P K x6 x8 bu bI L1)
def Xy:ar:=aF (aj P ash (Xx P K x6 x8 bu bI L1)) (Xx P K x6 x8 bu bI L1)
def Xz:ar:=aF (aj P asi (Xy P K x6 x8 bu bI L1)) (Xy P K x6 x8 bu bI L1)
def ajj:Prop:=ay (aj P Dy (MA P K x6 x8 bu bI L1)) ([6,8,25,26]++[27]) ([x6,x8,bu,bI]++xs) h
def ajk:Prop:=ay (aj P aaA (Xz P K x6 x8 bu bI L1)) [6,8,9,10,25,26,27,34] [x6,x8,i9,wZ,bu,bI,bE,cj] h
def Ks:Prop:=ay (aj P asj (Xz P K x6 x8 bu bI L1)) [6,8,9,10,25,26,27,34,42] [x6,x8,i9,wZ,bu,bI,bE,cj,eB] h
def ajl:Prop:=ay (aj P asl (Mz P K)) [6,8] [x6,x8] h
theorem aBN:Ks P K x6 x8 i9 wZ bu bI bE cj eB L1 h=
 (OP (bX cj (.bool true) eB) fun bV=>
 aO bV
 (K (.tuple #[(.int .i64 (0)),(.int .i64 (1))]) h)
 (OP (kP 3 1 x8 i9) fun dE=>
 OH (aG 1 h dE wZ) fun _ z1=>
 OP (ai .add bE (.int .i64 (1))) fun lJ=>
 ([x6,x8,bu,bI]:List Value)=[x6,x8,bu,bI]∧L1 [lJ] z1)):=az (by kernel_rfl)
theorem aBM:ajk P K x6 x8 i9 wZ bu bI bE cj L1 h=
 (cD cj false
 (OP (a9 3 x6 i9) fun dD=>
 OP (aM 0 dD) fun dZ=>
 OP (aM 0 dZ) fun ep=>
 OP (af false 1 h ep) fun dW=>
 OP (ai .geq wZ dW) fun eB=>
 Ks P K x6 x8 i9 wZ bu bI bE cj eB L1 h)
 (Ks P K x6 x8 i9 wZ bu bI bE cj undef L1 h)):=az (by kernel_rfl)
theorem aBL (x6 x8 bu bI:Value) (L1:LQ) (bE:Value) (h:ae):ajj P K x6 x8 bu bI L1 [bE] h=
 (OP (ai .lss bE bI) fun cG=>
 aO cG
 (OP (a9 1 bu bE) fun dO=>
 OP (af false 1 h dO) fun cg=>
 OP (ai .lss cg (.int .i64 (-1))) fun dK=>
 ajk P K x6 x8 bE cg bu bI bE dK L1 h)
 (ajl P K x6 x8 h)):=az (by kernel_rfl)
theorem aBO:ajl P K x6 x8 h=
 (OP (af true 3 h x8) fun gF=>
 ak P 65 [x6,gF] h fun bQ z1=>
 OP (ai .lss bQ (.int .i64 (0))) fun cT=>
 aO cT
 (K (.tuple #[(.int .i64 (0)),(.int .i64 (5))]) z1)
 (K (.tuple #[bQ,(.int .i64 (0))]) z1)):=az (by kernel_rfl)
def NU:Prop:=
 ak P 43 [l0] h fun aI z1=>
 OP (ca 0 aI) fun bf=>
 OP (ca 1 aI) fun bp=>
 OP (ai .neq bp (.int .i64 (0))) fun aR=>
 aO aR
 (K (.tuple #[(.int .i64 (0)),bp]) z1)
 (OP (bj x1) fun ba=>
 OP (bj bf) fun cm=>
 OP (ai .neq ba cm) fun bt=>
 aO bt
 (K (.tuple #[(.int .i64 (0)),(.int .i64 (1))]) z1)
 (OH (aV 120 [(.int .i64 (0)),(.int .i64 (0)),(.int .i64 (0))] z1) fun x8 z2=>
 OP (bj x1) fun bI=>
 cN [(.int .i64 (0))] z2 fun L1 xs hx=>
 ajj P K bf x8 x1 bI L1 xs hx))
theorem e41:aj P Hx (aS [.tmp 4,.tmp 5] K) (bw [l0,x1]) h=NU P K l0 x1 h:=by kernel_rfl
theorem f41 {K:VK} {l0 x1:Value} {h:ae} (H:NU prog K l0 x1 h):ak prog 41 [l0,x1] h K:=
 bP k41 (bL rfl) ((e41 prog K l0 x1 h).mpr H)
end
noncomputable section
variable (l0 x1 x3 x5 x6 i7 x9 au aA aC cM db : Value) (L1 : LQ) (xs : List Value) (h : ae)
def ahw:=bC prog 65 [[],[],[],[],[3,6,11,12],[5,13],[],[],[],[],[],[],[3,5,6,7,9,11,12,13,32],[3,5,6,7,9,11,12,13,32,36],[],[3,5,6,11,12,13],[5],[]]
@[irreducible] def HI:=bN ahw
@[irreducible] def HJ:=HI.r.r.r.l.r.l.l
@[irreducible] def aa8:=HI.r.r.r.r
@[irreducible] def aa7:=HJ.r.r.l.l.r.r.r.l.r.l
@[irreducible] def asS:=HJ.r.r.l.l.r.r.r.r
@[irreducible] def aa6:=HJ.r.r.r
@[irreducible] def asV:=aa8.l
@[irreducible] def asT:=aa7.r.l
@[irreducible] def asU:=aa6.l
theorem k65:ahw=some (42,HI,[.tmp 4]):=by kernel_rfl
def MG (_P:Program) (K:VK):ar:=aS [.tmp 4] K
def aps:ar:=aF (aj P aa8 (MG P K)) (MG P K)
def apt:ar:=bO 0 (aps P K)
def GB:ar:=aF (fun f' aT=>(([3,6,11,12]:List Nat).map f':List Value)=[x3,x6,au,aA]∧L1 (([5,13]:List Nat).map f') aT) (apt P K)
def apr:ar:=aF (aj P aa6 (GB P K x3 x6 au aA L1)) (GB P K x3 x6 au aA L1)
def XO:ar:=bO 1 (apr P K x3 x6 au aA L1)
def XP:ar:=aF (aj P asS (XO P K x3 x6 au aA L1)) (XO P K x3 x6 au aA L1)
def ajH:Prop:=ay (aj P HJ (GB P K x3 x6 au aA L1)) ([3,6,11,12]++[5,13]) ([x3,x6,au,aA]++xs) h
def ajF:Prop:=ay (aj P aa7 (XP P K x3 x6 au aA L1)) [3,5,6,7,9,11,12,13,32] [x3,x5,x6,i7,x9,au,aA,aC,cM] h
def Fy:Prop:=ay (aj P asT (XP P K x3 x6 au aA L1)) [3,5,6,7,9,11,12,13,32,36] [x3,x5,x6,i7,x9,au,aA,aC,cM,db] h
def Fz:Prop:=ay (aj P asU (GB P K x3 x6 au aA L1)) [3,5,6,11,12,13] [x3,x5,x6,au,aA,aC] h
def ajG:Prop:=ay (aj P asV (MG P K)) [5] [x5] h
theorem alB:Fy P K x3 x5 x6 i7 x9 au aA aC cM db L1 h=
 (OP (bX cM (.bool true) db) fun fF=>
 aO fF
 (OP (af true 4 h x9) fun dZ=>
 (True)∧
 OH (aG 4 h x6 dZ) fun _ z1=>
 (True)∧
 Fz P K x3 i7 x6 au aA aC L1 z1)
 (Fz P K x3 x5 x6 au aA aC L1 h)):=az (by kernel_rfl)
theorem aCl:ajF P K x3 x5 x6 i7 x9 au aA aC cM L1 h=
 (cD cM false
 (OP (af true 4 h x9) fun dK=>
 OP (af true 4 h x6) fun cj=>
 ak P 86 [dK,cj] h fun dV z1=>
 OP (ai .gtr dV (.int .i64 (0))) fun db=>
 Fy P K x3 x5 x6 i7 x9 au aA aC cM db L1 z1)
 (Fy P K x3 x5 x6 i7 x9 au aA aC cM undef L1 h)):=az (by kernel_rfl)
theorem aCm:Fz P K x3 x5 x6 au aA aC L1 h=
 (OP (ai .add aC (.int .i64 (1))) fun ep=>
 ([x3,x6,au,aA]:List Value)=[x3,x6,au,aA]∧L1 [x5,ep] h):=az (by kernel_rfl)
theorem aCo (x3 x6 au aA:Value) (L1:LQ) (x5 aC:Value) (h:ae):ajH P K x3 x6 au aA L1 [x5,aC] h=
 (OP (ai .lss aC aA) fun aI=>
 aO aI
 (OP (a9 3 au aC) fun bp=>
 OP (af true 3 h bp) fun bY=>
 OH (aV 102 [(.int .i64 (0)),(.int .i64 (0)),(.slice none 0 0)] h) fun j8 z1=>
 OH (aG 3 z1 j8 bY) fun _ z2=>
 OP (kP 3 1 x3 aC) fun aP=>
 OP (af false 1 z2 aP) fun aX=>
 OP (ai .eql aX (.int .i64 (-1))) fun ba=>
 aO ba
 (Fz P K x3 x5 x6 au aA aC L1 z2)
 (OH (aV 107 [(.bool false),(.slice none 0 0),(.bool false),(.slice none 0 0)] z2) fun x9 z3=>
 OP (eL z3 x9) fun u=>
 (True)∧
 OP (af true 3 z3 j8) fun cm=>
 (af true 3 z2 j8=some cm∧True)∧
 OP (kP 3 1 x3 aC) fun bu=>
 OP (af false 1 z3 bu) fun bI=>
 (af false 1 z2 bu=some bI∧True)∧
 ak P 44 [cm,bI] z3 fun bE z4=>
 (eL z4 x9=some u∧True)∧
 OP (ca 0 bE) fun cG=>
 OP (ca 1 bE) fun _=>
 OH (aG 4 z4 x9 cG) fun _ z5=>
 (True)∧
 OP (ai .lss x5 (.int .i64 (0))) fun cg=>
 ajF P K x3 x5 x6 aC x9 au aA aC cg L1 z5))
 (ajG P K x5 h)):=az (by kernel_rfl)
theorem aCn:ajG P K x5 h=
 (K x5 h):=az (by kernel_rfl)
def N6:Prop:=
 OH (bm 120 h x1) fun x3 z1=>
 OH (aV 107 [(.bool false),(.slice none 0 0),(.bool false),(.slice none 0 0)] z1) fun x6 z2=>
 OP (bj l0) fun aA=>
 cN [(.int .i64 (-1)),(.int .i64 (0))] z2 fun L1 xs hx=>
 ajH P K x3 x6 l0 aA L1 xs hx
theorem e65:aj P HI (aS [.tmp 4] K) (bw [l0,x1]) h=N6 P K l0 x1 h:=by kernel_rfl
theorem f65 {K:VK} {l0 x1:Value} {h:ae} (H:N6 prog K l0 x1 h):ak prog 65 [l0,x1] h K:=
 bP k65 (bL rfl) ((e65 prog K l0 x1 h).mpr H)
end
end
end Go.Proofs.YtelmdbpaoifmoaaGreat
