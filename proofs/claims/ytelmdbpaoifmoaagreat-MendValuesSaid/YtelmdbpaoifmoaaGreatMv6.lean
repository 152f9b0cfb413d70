/-
  Part 6 of the texts behind a statement of this seat: Zp2, ZN5, Kp1, Kp2, Kp3, Kp4, Zp4, Zp5, ZMe10, ZM3, Sim33, Zs4, Zp3, ZB, ZMd, Zs5, ZSd, Zs6, Kp5, ZN6, Kp6, Kp7, Kp8, Kp9, ZN7, Kp10, ZK2, Kp11, Kp12, Kp13, Kp14, Kq1, ZN8, Kq2.
-/
import Derived.Test.YtelmdbpaoifmoaaGreatProg
import Derived.KernelRfl
import Derived.Test.YtelmdbpaoifmoaaGreatMv5
open Bool (and_eq_true)
open Go.Proofs.Tryz (prog)
open Int (mul_pos natAbs_natCast)
open List (getElem?_append_left getElem?_eq_getElem getElem?_set_ne getElem_mem idxOf_cons length_append length_cons length_drop length_take mem_append mem_of_mem_drop mem_singleton take_length take_succ_eq_append_getElem)
open Nat (add_zero gcd le_refl lt_of_lt_of_le pow_le_pow_right pow_succ zero_add zero_le)
open Option (getD_some)
namespace Go.Proofs.YtelmdbpaoifmoaaGreat
open Go.Sim
section
def cT (s:List UInt8):Nat:=if iz s=true then dT s else 0
theorem M5 (s:List UInt8):cT s<10^s.length:=by
 unfold cT
 split
 ·rename_i h
  exact yM (rM.1 h).2.2
 ·exact Nat.pow_pos (by decide)
theorem aER {k n:Nat} (h:k<=4*n):10^k<=10000^n:=by
 have e:10^(4*n)=10000^n:=by rw [Nat.pow_mul]
 rw [<-e]
 exact pow_le_pow_right (by decide) h
theorem aEN:(10000:Nat)^199<=bG:=by unfold bG;decide+kernel
theorem aqJ:(2:Nat)<10000^199:=by decide+kernel
theorem aqM {s:List UInt8} (h:s.length<=700):cT s<10000^199:=by
 exact lt_of_lt_of_le (M5 s) (aER (n:=199) (by omega))
theorem gf.nil (h:ae):gf h (.slice none 0 0) 0:=⟨[],.inl ⟨rfl,rfl⟩,⟨λy hy=>by simp at hy,by simp⟩,rfl⟩
theorem ZD {s:List UInt8} {h:ae} {K:Value->ae->Prop}
  (hk:∀r h',EX h h'->ZV h' r (cT s)->K (.tuple #[r,B (iz s)]) h'):ak prog 99 [S s] h K:=by
 refine arF (λhd r h' x z=>?_) (λhd h' x=>?_)
 ·have:=hk r h' x (by unfold cT;rw [if_pos hd];exact z)
  rw [hd] at this
  exact this
 ·have:=hk (.agg #[B false,.slice none 0 0]) h' x (by
   unfold cT;rw [if_neg (by rw [hd];decide)]
   exact ⟨.slice none 0 0,rfl,gf.nil h'⟩)
  rw [hd] at this
  exact this
def sG:Value:=.agg #[B false,.slice none 0 0,B false,.slice none 0 0]
theorem agu {g:ae} {j:Nat} {K:Value->ae->Prop} (hg:g[j]?=some (.arr 37 z4)) (hk:K (.tuple #[sG,B false]) (g.set j (.arr 37 z4))):
  OP (dC [(.bool false),(.slice none 0 0),(.bool false),(.slice none 0 0)] []) λiU=>OH (aG 4 g (pt j 0) iU) λ_ h_1=>OP (af true 4 h_1 (pt j 0)) λr0=>K (.tuple #[r0,(.bool false)]) h_1:=by
 have e:dC [(.bool false),(.slice none 0 0),(.bool false),(.slice none 0 0)] []=some sG:=rfl
 rw [e,ah]
 have s:=m8 (x:=B false) (y:=.slice none 0 0) (z:=B false) (w:=.slice none 0 0) hg
 have s':aG 4 g (pt j 0) sG=some (undef,g.set j (.arr 37 z4)):=s
 rw [s',aE]
 have l:=gX (cJ (o:=.arr 37 z4) hg)
 have l':af true 4 (g.set j (.arr 37 z4)) (pt j 0)=some sG:=l
 rw [l',ah]
 exact hk
theorem Zt {m ok:Bool} {n d:Nat} {h0 g:ae} {i2 i8 i10:Nat} {vn vd:Value} {K:Value->ae->Prop} (k2:g[i2]?=some (.arr 37 z4)) (k8:g[i8]?=some (.arr 35 [B (decide ((n:Int)<0)),vn])) (mn:gf g vn n)
  (FA:g[i10]?=some (.arr 35 [B (decide ((d:Int)<0)),vd])) (md:gf g vd d) (b2:h0.length<=i2) (b8:h0.length<=i8) (U7:i2≠i8) (aEh:i8≠i10) (x:EX h0 g)
  (hk:ok=true->(m=true->n≠0)->∀r h',EX h0 h'->QZ h' r (if m then -(n:Int) else n) d->K (.tuple #[r,B true]) h')
  (hZ:(ok=false∨m=true/\n=0)->∀h',EX h0 h'->K (.tuple #[sG,B false]) h'):Bg prog K (pt i2 0) (B m) (pt i8 0) (B ok) (pt i10 0) g:=by
 have bad:(ok=false∨m=true/\n=0)->∀t u,bF t (.bool true) u=some (B true)->Gj prog K (pt i2 0) (B m) (pt i8 0) (pt i10 0) t u g:=by
  intro hb t u ht
  rw [apP,ht]
  simp only [ah,dA]
  exact agu k2 (hZ hb _ (x.set b2 _))
 have EF:ok=true->(m=true->n≠0)->Gj prog K (pt i2 0) (B m) (pt i8 0) (pt i10 0) (B false) (B false) g:=by
  intro ho hm
  have hk:=hk ho hm
  rw [apP]
  simp only [dQ,ah]
  cases m with
  | false=>
   simp only [dD]
   rw [apQ,cZ k8,ah,cZ FA,ah]
   exact zV (K:=λv h=>K (.tuple #[v,B true]) h) ⟨vn,rfl,mn⟩ ⟨vd,rfl,md⟩ x b2 k2 hk
  | true=>
   simp only [dD,dA]
   rw [cZ k8,ah]
   refine ZC (a:=n) ⟨vn,rfl,mn⟩ ?_
   intro r7 h7 x7 z7
   obtain ⟨v7,rfl,hv7⟩:=id z7
   have g7:=x7.get k8
   rw [fM g7]
   simp only [aE]
   have aCZ:(h7.set i8 (.arr 35 [B (decide (-(n:Int)<0)),v7]))[i10]?=some (.arr 35 [B (decide ((d:Int)<0)),vd]):=by
    rw [getElem?_set_ne aEh];exact x7.get FA
   rw [apQ,cZ (cJ g7),ah,cZ aCZ,ah]
   refine zV (K:=λv h=>K (.tuple #[v,B true]) h) (z7.bT g7 _) ⟨vd,rfl,?_⟩ ((x.trans x7).set b8 _) b2 (by rw [getElem?_set_ne U7.symm];exact x7.get k2) hk
   exact gf.bT (md.mono x7) g7 _
 have n1:gq .not (B ok)=some (B (!ok)):=rfl
 rw [aHJ,n1,ah,aHK]
 cases ok with
 | false=>
  simp only [Bool.not_false,fW,apO,xv,Xh]
  exact bad (.inl rfl) _ _ rfl
 | true=>
  simp only [Bool.not_true,eL,apO]
  cases m with
  | false=>
   simp only [jV,Xh,eL,dQ,ah]
   exact EF rfl (λh=>by cases h)
  | true=>
   obtain ⟨l,p1,p2⟩:=mn.qk
   have ld:af false 1 g (pt i8 1)=some vn:=by simp [af,aW,k8,cP]
   simp only [fP,bZ,zero_add,ah,ld,p1,hY,Xh,eL,dY]
   by_cases hn:n=0
   ·rw [bj (show (l:Int)=0 by omega)]
    exact bad (.inr ⟨rfl,hn⟩) _ _ rfl
   ·rw [aY (show ¬(l:Int)=0 by omega)]
    exact EF rfl (λ_=>hn)
def dI (t:List UInt8):List UInt8:=t.take (t.idxOf 47)
def ep (t:List UInt8):List UInt8:=t.drop (t.idxOf 47+1)
def nP (t:List UInt8):Bool:=decide (t.idxOf 47<t.length)
def pU (t:List UInt8):Bool:= !nP t||(iz (ep t)&&(decide (2<=cT (ep t))&&decide (gcd (cT (dI t)) (cT (ep t))=1)))
def qK (t:List UInt8):Nat:=if nP t=true then cT (ep t) else 1
def sA (m:Bool) (t:List UInt8):Option (Int×Nat):=
 if pU t=true/\iz (dI t)=true/\(m=true->cT (dI t)≠0) then some (if m then -(cT (dI t):Int) else cT (dI t),qK t) else none
def lO (s:List UInt8):Option (Int×Nat):=if s.head?=some 45 then sA true s.tail else sA false s
theorem aCE (s:List UInt8):∀{i:Nat},i<s.length->(s.drop i).idxOf 47=if s[i]! =47 then 0 else (s.drop (i+1)).idxOf 47+1:=by
 intro i hi
 rw [List.drop_eq_getElem_cons hi,idxOf_cons]
 have:s[i]! =s[i]:=by simp [hi]
 rw [this]
 by_cases h:s[i]=47
 ·simp [h]
 ·have h':(s[i]==47)=false:=beq_eq_false_iff_ne.2 h
  rw [h'];simp [h]
theorem NA {s:List UInt8} {m:Bool} {h:ae} {j:Nat} {K:Value->ae->Prop} {h0:ae} (hl:s.length<=700) (x0:EX h0 h) (hj:h0.length<=j) (hg:h[j]?=some (.arr 37 z4))
  (hk:∀n d,sA m s=some (n,d)->∀r h',EX h0 h'->QZ h' r n d->K (.tuple #[r,B true]) h')
  (hZ:sA m s=none->∀h',EX h0 h'->K (.tuple #[sG,B false]) h'):L6 prog K (pt j 0) (S s) (B m) h:=by
 rw [aHF]
 have e1:IntKind.wrap .i64 ((s.length:Int)-1)=(s.length:Int)-1:=wrap64 (by omega) (by omega)
 simp only [lK,ah,gE,e1]
 refine dF (σ:=Nat) (λp=>[I ((p+(s.drop p).idxOf 47:Nat):Int),I ((p:Int)-1)]) (λ_=>h) (λp=>p<=s.length) (λp=>p)
  s.length (by simp) rfl (le_refl _) ?_
 intro i hi L hL
 rw [aHG]
 simp only [nv,ah,bQ]
 refine ⟨λcU=>?_,λaF=>?_⟩
 ·obtain ⟨p,rfl⟩:∃p,i=p+1:=⟨i-1,by omega⟩
  have hp:p<s.length:=by omega
  have ei:((p+1:Nat):Int)-1=(p:Int):=by omega
  have ix:=uT (a:=s) (i:=p) hp .i64
  have e5:ai .eql (cv s[p]) (.int .u8 47)=some (B (decide ((s[p].toNat:Int)=47))):=rfl
  have e2:IntKind.wrap .i64 ((p:Int)-1)=(p:Int)-1:=wrap64 (by omega) (by omega)
  have nx:=hL p (by omega) (by omega)
  rw [aCE s hp] at nx
  have e6:s[p]! =s[p]:=by simp [hp]
  rw [e6] at nx
  rw [ei]
  simp only [ix,ah,e5,aHH,gE,e2,true_and]
  have e7:(decide ((s[p].toNat:Int)=47))=decide (s[p]=47):=by
   rw [decide_eq_decide]
   constructor
   ·intro h;apply UInt8.toNat_inj.1;show s[p].toNat=47;omega
   ·intro h;rw [h];rfl
  rw [e7,bQ]
  refine ⟨λh=>?_,λh=>?_⟩
  ·rw [if_pos h] at nx;simpa using nx
  ·rw [if_neg h] at nx
   have:p+((s.drop (p+1)).idxOf 47+1)=p+1+(s.drop (p+1)).idxOf 47:=by omega
   rw [this] at nx;exact nx
 ·have mD:i=0:=by omega
  subst mD
  simp only [List.drop_zero,zero_add]
  have gp:s.idxOf 47<=s.length:=List.idxOf_le_length
  rw [aHI]
  have xd:=MN (a:=s) (n:=s.idxOf 47) gp .i64
  simp only [xd,ah]
  have lo:(dI s).length<=700:=by unfold dI;rw [length_take];omega
  have lu:(ep s).length<=700:=by unfold ep;rw [length_drop];omega
  refine ZD ?_
  intro r h1 x1 z1
  show OP _ _
  have fo:s.take (s.idxOf 47)=dI s:=rfl
  rw [fo] at z1
  obtain ⟨v,rfl,hv⟩:=id z1
  rw [natAbs_natCast] at hv
  simp only [eR,fv,fz,ah,fo]
  have e2:∀g:ae,aV 35 [(.bool false),(.slice none 0 0)] g=some (pt g.length 0,g++[.arr 35 [(.bool false),(.slice none 0 0)]]):=λ_=>rfl
  simp only [e2,aE]
  rw [fM br]
  simp only [aE]
  have x2:EX h1 ((h1++[aq.arr 35 [(.bool false),(.slice none 0 0)]]).set h1.length (.arr 35 [B (decide ((cT (dI s):Int)<0)),v])):=EX.set (EX.append _ _) (le_refl _) _
  have g3:((h1++[aq.arr 35 [(.bool false),(.slice none 0 0)]]).set h1.length (.arr 35 [B (decide ((cT (dI s):Int)<0)),v]))[h1.length]?=some (.arr 35 [B (decide ((cT (dI s):Int)<0)),v]):=cJ br
  generalize (h1++[aq.arr 35 [(.bool false),(.slice none 0 0)]]).set h1.length (.arr 35 [B (decide ((cT (dI s):Int)<0)),v])=h3 at x2 g3⊢
  have pB:=(bz hg).1
  have hj1:j<h1.length:=by have:=x1.1;omega
  have yz:=x0.1
  refine zh (z:=((1:Nat):Int)) (by decide) ?_
  intro r4 h4 x4 tY
  obtain ⟨w,rfl,hw⟩:=id tY
  rw [natAbs_natCast] at hw
  rw [fM br]
  simp only [aE]
  have x5:EX h4 ((h4++[aq.arr 35 [(.bool false),(.slice none 0 0)]]).set h4.length (.arr 35 [B (decide (((1:Nat):Int)<0)),w])):=EX.set (EX.append _ _) (le_refl _) _
  have g5:((h4++[aq.arr 35 [(.bool false),(.slice none 0 0)]]).set h4.length (.arr 35 [B (decide (((1:Nat):Int)<0)),w]))[h4.length]?=some (.arr 35 [B (decide (((1:Nat):Int)<0)),w]):=cJ br
  generalize (h4++[aq.arr 35 [(.bool false),(.slice none 0 0)]]).set h4.length (.arr 35 [B (decide (((1:Nat):Int)<0)),w])=h5 at x5 g5⊢
  have hh1:h1.length<h4.length:=by
   have:=x4.1
   have:=(bz g3).1
   omega
  have aP:=(x2.trans x4).trans x5
  have Sw:=(x4.trans x5).get g3
  have S8:=(x1.trans aP).get hg
  have xA:EX h0 h5:=x0.trans (x1.trans aP)
  have mn:=hv.mono aP
  have md:=hw.mono x5
  have EH:h4.length<h5.length:=(bz g5).1
  simp only [lK,ah,cW,bQ]
  refine ⟨λaF=>?_,λcU=>?_⟩
  rotate_left
  ·have wo:nP s=false:=by unfold nP;exact aY (by omega)
   have mT:qK s=1:=by unfold qK;rw [if_neg (by rw [wo];decide)]
   have qO:pU s=true:=by unfold pU;rw [wo];rfl
   refine Zt (h0:=h0) S8 Sw mn g5 md hj (by omega) (by omega) (by omega) xA (λa b=>?_) (λa=>?_)
   ·rw [<-mT]
    exact hk _ _ (if_pos ⟨qO,a,b⟩)
   ·refine hZ (if_neg ?_)
    rintro ⟨_,b1,b2⟩
    rcases a with a | ⟨a1,a2⟩
    ·rw [a] at b1;cases b1
    ·exact b2 a1 a2
  have tz:nP s=true:=bj (by omega)
  have mT:qK s=cT (ep s):=by unfold qK;rw [if_pos tz]
  have qO:pU s=(iz (ep s)&&(decide (2<=cT (ep s))&&decide (gcd (cT (dI s)) (cT (ep s))=1))):=by unfold pU;rw [tz];rfl
  have Gz:=Dc (a:=s) (n:=s.idxOf 47+1) (by omega) .i64
  have fu:s.drop (s.idxOf 47+1)=ep s:=rfl
  have wi:IntKind.wrap .i64 ((s.idxOf 47:Nat)+1:Int)=((s.idxOf 47+1:Nat):Int):=by rw [wrap64 (by omega) (by omega)];omega
  simp only [cL,wi,ah,Gz,fu]
  refine ZD ?_
  intro r6 h6 x6 z6
  obtain ⟨v6,rfl,hv6⟩:=id z6
  rw [natAbs_natCast] at hv6
  simp only [eR,fv,fz,ah]
  rw [fM br]
  simp only [aE]
  have x7:EX h6 ((h6++[aq.arr 35 [(.bool false),(.slice none 0 0)]]).set h6.length (.arr 35 [B (decide ((cT (ep s):Int)<0)),v6])):=EX.set (EX.append _ _) (le_refl _) _
  have g7:((h6++[aq.arr 35 [(.bool false),(.slice none 0 0)]]).set h6.length (.arr 35 [B (decide ((cT (ep s):Int)<0)),v6]))[h6.length]?=some (.arr 35 [B (decide ((cT (ep s):Int)<0)),v6]):=cJ br
  generalize (h6++[aq.arr 35 [(.bool false),(.slice none 0 0)]]).set h6.length (.arr 35 [B (decide ((cT (ep s):Int)<0)),v6])=h7 at x7 g7⊢
  have ee:=x6.trans x7
  have nn:gq .not (B (iz (ep s)))=some (B (!iz (ep s))):=rfl
  have bad:∀{g:ae},EX h7 g->pU s=false->(OP (dC [(.bool false),(.slice none 0 0),(.bool false),(.slice none 0 0)] []) λiU=>OH (aG 4 g (pt j 0) iU) λ_ h_1=>OP (af true 4 h_1 (pt j 0)) λr0=>K (.tuple #[r0,(.bool false)]) h_1):=by
   intro g xg hd
   refine agu ((ee.trans xg).get S8) (hZ (if_neg ?_) _ ((xA.trans (ee.trans xg)).set hj _))
   rintro ⟨b,_⟩
   rw [hd] at b;cases b
  simp only [nn,ah]
  cases Aq:iz (ep s) with
  | false=>
   rw [Aq] at qO
   simp only [Bool.not_false,fW,true_and,dY,ah,dA]
   exact bad (EX.refl _) (by rw [qO];rfl)
  | true=>
   rw [Aq,Bool.true_and] at qO
   have zu:ZV h7 (.agg #[B (decide ((cT (ep s):Int)<0)),v6]) (cT (ep s)):=z6.mono x7
   have zo:ZV h7 (.agg #[B (decide ((cT (dI s):Int)<0)),v]) (cT (dI s)):=⟨v,rfl,by rw [natAbs_natCast];exact mn.mono ee⟩
   have small:=aqM lu
   have aJT:=aqM lo
   have aLb:(10000:Nat)^199<=bG:=aEN
   simp only [Bool.not_true,eL,cZ g7,ah,true_and]
   refine zh (z:=2) (by decide) ?_
   intro r8 h8 x8 z8
   simp only [(x8.load (cZ g7)),true_and]
   refine NC (zu.mono x8) z8 (by rw [natAbs_natCast];omega) (by have:(2:Nat)<10000^199:=aqJ;show 2<bG;omega) ?_
   intro h9 x9
   have gQ:=x8.trans x9
   simp only [cW,ah,dQ]
   by_cases h2:cT (ep s)<2
   ·have en:jG ((cT (ep s):Int)-2)= -1:=by unfold jG;rw [if_neg (by omega),if_pos (by omega)]
    rw [en]
    simp only [show decide ((-1:Int)<0)=true from rfl,fW,dY,ah,dA]
    refine bad gQ ?_
    rw [qO,aY (by omega)];rfl
   ·have en:0<=jG ((cT (ep s):Int)-2):=by
     unfold jG
     split
     ·decide
     ·rw [if_neg (by omega)];decide
    rw [aY (show ¬jG ((cT (ep s):Int)-2)<0 by omega)]
    rw [bj (show 2<=cT (ep s) by omega),Bool.true_and] at qO
    have l8:af true 2 h9 (pt h1.length 0)=some (.agg #[B (decide ((cT (dI s):Int)<0)),v]):=cZ ((ee.trans gQ).get Sw)
    have l9:af true 2 h9 (pt h6.length 0)=some (.agg #[B (decide ((cT (ep s):Int)<0)),v6]):=cZ (gQ.get g7)
    simp only [eL,l8,l9,ah]
    refine Zv (zo.mono gQ) (zu.mono gQ) (by rw [natAbs_natCast];exact aJT) (by rw [natAbs_natCast];exact small) ?_
    intro u pV ay mu
    simp only [natAbs_natCast] at mu
    have S9:gcd (cT (dI s)) (cT (ep s))<=cT (ep s):=Nat.gcd_le_right _ (by omega)
    have zg:ZV pV (.agg #[B false,u]) (gcd (cT (dI s)) (cT (ep s)):Nat):=⟨u,by rw [aY (by omega)],by rw [natAbs_natCast];exact mu⟩
    refine zh (z:=1) (by decide) ?_
    intro r11 h11 au jx
    refine NC (zg.mono au) jx (by rw [natAbs_natCast];omega) (by have:(2:Nat)<10000^199:=aqJ;show 1<bG;omega) ?_
    intro h12 aD
    have Nk:=gQ.trans (ay.trans (au.trans aD))
    simp only [oA,ah,dQ]
    by_cases yl:gcd (cT (dI s)) (cT (ep s))=1
    ·have en:jG ((gcd (cT (dI s)) (cT (ep s)):Nat)-1:Int)=0:=by unfold jG;rw [if_pos (by omega)]
     rw [bj yl] at qO
     rw [en]
     have l12:af true 2 h12 (pt h6.length 0)=some (.agg #[B (decide ((cT (ep s):Int)<0)),v6]):=cZ (Nk.get g7)
     simp only [decide_true,Bool.not_true,dD,l12,ah]
     have GX:=ee.trans Nk
     have JX:=GX.get g5
     rw [fM JX]
     simp only [aE]
     refine Zt (h0:=h0) (i2:=j) (i8:=h1.length) (i10:=h4.length) (n:=cT (dI s)) (d:=cT (ep s)) (vn:=v) (vd:=v6) ?_ ?_ ?_ (cJ JX) ?_ hj (by omega) (by omega) (by omega) ?_ (λa b=>?_) (λa=>?_)
     ·rw [getElem?_set_ne (by omega)];exact GX.get S8
     ·rw [getElem?_set_ne (by omega)];exact GX.get Sw
     ·exact gf.bT (mn.mono GX) JX _
     ·exact gf.bT (hv6.mono (x7.trans Nk)) JX _
     ·exact (xA.trans GX).set (by omega) _
     ·rw [<-mT]
      exact hk _ _ (if_pos ⟨qO,a,b⟩)
     ·refine hZ (if_neg ?_)
      rintro ⟨_,b1,b2⟩
      rcases a with a | ⟨a1,a2⟩
      ·rw [a] at b1;cases b1
      ·exact b2 a1 a2
    ·have en:jG ((gcd (cT (dI s)) (cT (ep s)):Nat)-1:Int)≠0:=by
      unfold jG;rw [if_neg (by omega)];split <;> decide
     rw [aY yl] at qO
     rw [aY en]
     simp only [Bool.not_false,dA]
     exact bad Nk qO
end
section
variable (P : Program) (K : VK)
noncomputable section
variable (s0 x2 x6 x8 x9 ay au aD dO eO cI fE bY de hI iT : Value) (h : ae)
def akd:=bE prog 108 [[],[],[],[],[],[],[],[2,6,8,9,10,11,38],[2,6,8,9,10,11,38,42],[2,6,8,9,10,11,12],[2,6,8,9,11,12,46],[2,6,8,9,11,46,48],[2,6,8,9,11,50],[2,6,8,9,11,50,52],[2,6,8,9,11,50,52,55],[2,6,8,9,11,50,56],[],[],[],[],[]]
@[irreducible] def Ij:=bM akd
@[irreducible] def ab4:=Ij.r.r.r.r.r.l.r.l.r.r.l
@[irreducible] def aca:=Ij.r.r.r.r.r.r
@[irreducible] def avv:=ab4.r.l
@[irreducible] def Ik:=aca.l
@[irreducible] def ab5:=Ik.l.l.r.l
@[irreducible] def avx:=Ik.l.r
@[irreducible] def avw:=Ik.r
@[irreducible] def ab6:=ab5.r.l
@[irreducible] def ab7:=ab6.r.l
@[irreducible] def ab8:=ab7.r.l
@[irreducible] def ab9:=ab8.r.l
@[irreducible] def avy:=ab9.r.l
theorem aC8:akd=some (78,Ij,[.cell true 4 2,.tmp 3]):=by kernel_rfl
def DK (_P:Program) (K:VK):ar:=aT [.cell true 4 2,.tmp 3] K
def ZR:ar:=aH (aj P aca (DK P K)) (DK P K)
def ZQ:ar:=aH (aj P avw (DK P K)) (DK P K)
def BE:ar:=aH (aj P avx (ZQ P K)) (ZQ P K)
def amc:Prop:=ax (aj P ab4 (ZR P K)) [2,6,8,9,10,11,38] [x2,x6,x8,x9,ay,au,dO] h
def Vz:Prop:=ax (aj P avv (ZR P K)) [2,6,8,9,10,11,38,42] [x2,x6,x8,x9,ay,au,dO,eO] h
def F0:Prop:=ax (aj P Ik (DK P K)) [2,6,8,9,10,11,12] [x2,x6,x8,x9,ay,au,aD] h
def amd:Prop:=ax (aj P ab5 (BE P K)) [2,6,8,9,11,12,46] [x2,x6,x8,x9,au,aD,cI] h
def VA:Prop:=ax (aj P ab6 (BE P K)) [2,6,8,9,11,46,48] [x2,x6,x8,x9,au,cI,fE] h
def VB:Prop:=ax (aj P ab7 (BE P K)) [2,6,8,9,11,50] [x2,x6,x8,x9,au,bY] h
def VC:Prop:=ax (aj P ab8 (BE P K)) [2,6,8,9,11,50,52] [x2,x6,x8,x9,au,bY,de] h
def VD:Prop:=ax (aj P ab9 (BE P K)) [2,6,8,9,11,50,52,55] [x2,x6,x8,x9,au,bY,de,hI] h
def F1:Prop:=ax (aj P avy (BE P K)) [2,6,8,9,11,50,56] [x2,x6,x8,x9,au,bY,iT] h
theorem ao8:Vz P K x2 x6 x8 x9 ay au dO eO h=
 (OP (bF dO eO (.bool false)) λcj=>
 F0 P K x2 x6 x8 x9 ay au cj h):=az (by kernel_rfl)
theorem aFb:amc P K x2 x6 x8 x9 ay au dO h=
 (ck dO true
 (OH (dN 177 1 [(.int .u32 (0))] h [(0,1,(.int .u32 (1)))]) λeJ z1=>
 ak P 126 [au,eJ] z1 λdW z2=>
 OP (ai .gtr dW (.int .i64 (0))) λeO=>
 Vz P K x2 x6 x8 x9 ay au dO eO z2)
 (Vz P K x2 x6 x8 x9 ay au dO undef h)):=az (by kernel_rfl)
theorem apc:F1 P K x2 x6 x8 x9 au bY iT h=
 (OP (bF bY (.bool true) iT) λee=>
 aN ee
 (OP (dC [(.bool false),(.slice none 0 0),(.bool false),(.slice none 0 0)] []) λfO=>
 OH (aG 4 h x2 fO) λ_ z1=>
 OP (af true 4 z1 x2) λr0=>
 K (.tuple #[r0,(.bool false)]) z1)
 (ak P 117 [x8,x9] h λfI z1=>
 ak P 117 [(.bool false),au] z1 λhO z2=>
 OP (dC [(.bool false),(.slice none 0 0),(.bool false),(.slice none 0 0)] [(0,2,fI),(2,2,hO)]) λkf=>
 OH (aV 107 [(.bool false),(.slice none 0 0),(.bool false),(.slice none 0 0)] z2) λaB z3=>
 OH (aG 4 z3 aB kf) λ_ z4=>
 OP (af true 4 z4 aB) λgP=>
 (True)/\
 OP (gq .not x6) λgC=>
 ck gC false
 (OP (aJ 0 aB) λfU=>
 OP (af true 2 z4 fU) λmN=>
 (True)/\
 OP (aJ 2 aB) λiD=>
 OP (af true 2 z4 iD) λkW=>
 (True)/\
 ak P 120 [mN,kW] z4 λmi z5=>
 (af true 4 z5 aB=some gP/\True)/\
 ak P 105 [(.int .i64 (1))] z5 λfF z6=>
 (af true 4 z6 aB=some gP/\True)/\
 ak P 111 [mi,fF] z6 λkn z7=>
 (af true 4 z7 aB=some gP/\True)/\
 OP (ai .eql kn (.int .i64 (0))) λiE=>
 OP (bF gC (.bool true) iE) λil=>
 OH (aG 4 z7 x2 gP) λ_ z8=>
 (True)/\
 OP (af true 4 z8 x2) λr0=>
 K (.tuple #[r0,il]) z8)
 ((af true 4 z4 aB=some gP/\True)/\
 (af true 4 z4 aB=some gP/\True)/\
 (af true 4 z4 aB=some gP/\True)/\
 OP (bF gC (.bool true) undef) λil=>
 OH (aG 4 z4 x2 gP) λ_ z5=>
 (True)/\
 OP (af true 4 z5 x2) λr0=>
 K (.tuple #[r0,il]) z5))):=az (by kernel_rfl)
theorem W8:VD P K x2 x6 x8 x9 au bY de hI h=
 (ck bY false
 (OP (bF de hI (.bool false)) λiT=>
 F1 P K x2 x6 x8 x9 au bY iT h)
 (F1 P K x2 x6 x8 x9 au bY undef h)):=az (by kernel_rfl)
theorem apb:VC P K x2 x6 x8 x9 au bY de h=
 (ck de true
 (OP (bk x9) λcX=>
 OP (ai .eql cX (.int .i64 (0))) λhI=>
 VD P K x2 x6 x8 x9 au bY de hI h)
 (VD P K x2 x6 x8 x9 au bY de undef h)):=az (by kernel_rfl)
theorem apa:VB P K x2 x6 x8 x9 au bY h=
 (ck bY false
 (VC P K x2 x6 x8 x9 au bY x8 h)
 (VC P K x2 x6 x8 x9 au bY undef h)):=az (by kernel_rfl)
theorem ao9:VA P K x2 x6 x8 x9 au cI fE h=
 (OP (bF cI (.bool true) fE) λfN=>
 VB P K x2 x6 x8 x9 au fN h):=az (by kernel_rfl)
theorem aFd:amd P K x2 x6 x8 x9 au aD cI h=
 (ck cI false
 (OP (gq .not aD) λfE=>
 VA P K x2 x6 x8 x9 au cI fE h)
 (VA P K x2 x6 x8 x9 au cI undef h)):=az (by kernel_rfl)
theorem aFc:F0 P K x2 x6 x8 x9 ay au aD h=
 (OP (gq .not ay) λcS=>
 amd P K x2 x6 x8 x9 au aD cS h):=az (by kernel_rfl)
def OO:Prop:=
 OH (aV 107 [(.bool false),(.slice none 0 0),(.bool false),(.slice none 0 0)] h) λx2 z1=>
 ak P 123 [s0,(.string ⟨#[47]⟩)] z1 λaL z2=>
 OP (cD 0 aL) λbK=>
 OP (cD 1 aL) λaS=>
 OP (cD 2 aL) λaK=>
 ak P 124 [bK,(.string ⟨#[45]⟩)] z2 λbO z3=>
 OP (cD 0 bO) λcB=>
 OP (cD 1 bO) λbL=>
 ak P 125 [cB] z3 λb9 z4=>
 OP (cD 0 b9) λcG=>
 OP (cD 1 b9) λcM=>
 OH (dN 177 1 [(.int .u32 (0))] z4 [(0,1,(.int .u32 (1)))]) λdm z5=>
 aN aK
 (ak P 125 [aS] z5 λcK z6=>
 OP (cD 0 cK) λdw=>
 OP (cD 1 cK) λdc=>
 amc P K x2 aK bL cG cM dw dc z6)
 (F0 P K x2 aK bL cG cM dm (.bool true) z5)
theorem azw:aj P Ij (aT [.cell true 4 2,.tmp 3] K) (bw [s0]) h=OO P K s0 h:=by kernel_rfl
theorem f108 {K:VK} {s0:Value} {h:ae} (H:OO prog K s0 h):ak prog 108 [s0] h K:=
 bN aC8 (bJ rfl) ((azw prog K s0 h).mpr H)
end
noncomputable section
variable (s0 x1 : Value) (h : ae)
def akt:=bE prog 123 [[],[]]
@[irreducible] def acz:=bM akt
theorem aDn:akt=some (13,acz,[.tmp 4,.tmp 5,.tmp 6]):=by kernel_rfl
def O4:Prop:=
 ak P 131 [s0,x1] h λx9 z1=>
 OP (cD 0 x9) λay=>
 OP (cD 1 x9) λau=>
 OP (cD 2 x9) λaD=>
 K (.tuple #[ay,au,aD]) z1
theorem azL:aj P acz (aT [.tmp 4,.tmp 5,.tmp 6] K) (bw [s0,x1]) h=O4 P K s0 x1 h:=by kernel_rfl
theorem f123 {K:VK} {s0 x1:Value} {h:ae} (H:O4 prog K s0 x1 h):ak prog 123 [s0,x1] h K:=
 bN aDn (bJ rfl) ((azL prog K s0 x1 h).mpr H)
end
noncomputable section
variable (s0 x1 : Value) (h : ae)
def aku:=bE prog 124 [[],[]]
@[irreducible] def acA:=bM aku
theorem aDo:aku=some (11,acA,[.tmp 4,.tmp 5]):=by kernel_rfl
def O5:Prop:=
 ak P 132 [s0,x1] h λx8 z1=>
 OP (cD 0 x8) λx9=>
 OP (cD 1 x8) λay=>
 K (.tuple #[x9,ay]) z1
theorem azM:aj P acA (aT [.tmp 4,.tmp 5] K) (bw [s0,x1]) h=O5 P K s0 x1 h:=by kernel_rfl
theorem f124 {K:VK} {s0 x1:Value} {h:ae} (H:O5 prog K s0 x1 h):ak prog 124 [s0,x1] h K:=
 bN aDo (bJ rfl) ((azM prog K s0 x1 h).mpr H)
end
noncomputable section
variable (s0 i4 x5 n6 x7 x8 au aD aK cB cG bV dw dc dO dW bY cg : Value) (L1 L2 : LQ) (xs : List Value) (h : ae)
def akv:=bE prog 125 [[],[],[0,11],[12],[],[],[],[0,4,11,12,19],[0,11,12,19,23],[],[],[],[0],[0,28],[0,28,32],[0,28,32,35],[0,28,36],[0,38],[0,38,41],[],[],[],[],[],[0,5],[],[],[],[],[],[0,5,6,50],[7,8,51],[],[],[],[],[0,5,6,7,8],[],[5],[]]
@[irreducible] def Iy:=bM akv
@[irreducible] def IA:=Iy.r.l.r.l.l
@[irreducible] def acC:=Iy.r.r
@[irreducible] def acB:=IA.r.r.l.l.r.l.r.l
@[irreducible] def av1:=IA.r.r.l.l.r.r
@[irreducible] def av8:=IA.r.r.r
@[irreducible] def Iz:=acC.l
@[irreducible] def av2:=acB.r.l
@[irreducible] def acD:=Iz.l.l.r.l
@[irreducible] def av3:=Iz.l.r
@[irreducible] def QN:=Iz.r
@[irreducible] def acE:=acD.r.l
@[irreducible] def QO:=QN.r.l.l.l
@[irreducible] def acI:=QN.r.r
@[irreducible] def acF:=acE.r.l
@[irreducible] def av5:=QO.r.l.r.r.l.r.l.l
@[irreducible] def acJ:=QO.r.l.r.r.r
@[irreducible] def av7:=acI.l
@[irreducible] def acG:=acF.r.l
@[irreducible] def av6:=acJ.l
@[irreducible] def acH:=acG.r.l
@[irreducible] def av4:=acH.r.l
theorem aDp:akv=some (77,Iy,[.tmp 2,.tmp 3]):=by kernel_rfl
def xw (_P:Program) (K:VK):ar:=aT [.tmp 2,.tmp 3] K
def aso:ar:=aH (aj P acC (xw P K)) (xw P K)
def asr:ar:=bH 0 (aso P K)
def N3:ar:=aH (λf' aX=>(([0,11]:List Nat).map f':List Value)=[s0,au]/\L1 (([12]:List Nat).map f') aX) (asr P K)
def asv:ar:=aH (aj P av8 (N3 P K s0 au L1)) (N3 P K s0 au L1)
def Z7:ar:=bH 1 (asv P K s0 au L1)
def Z4:ar:=aH (aj P av1 (Z7 P K s0 au L1)) (Z7 P K s0 au L1)
def Z5:ar:=aH (aj P QN (xw P K)) (xw P K)
def BG:ar:=aH (aj P av3 (Z5 P K)) (Z5 P K)
def asp:ar:=aH (aj P acI (xw P K)) (xw P K)
def asq:ar:=bH 2 (asp P K)
def Z6:ar:=aH (λf' aX=>(([]:List Nat).map f':List Value)=[]/\L1 (([0,5]:List Nat).map f') aX) (asq P K)
def N2:ar:=bH 3 (Z6 P K L1)
def ass:ar:=aH (aj P acJ (N2 P K L1)) (N2 P K L1)
def ast:ar:=bH 4 (ass P K L1)
def asu:ar:=aH (λf' aX=>(([0,5,6,50]:List Nat).map f':List Value)=[s0,x5,n6,bY]/\L2 (([7,8,51]:List Nat).map f') aX) (ast P K L1)
def amF:Prop:=ax (aj P IA (N3 P K s0 au L1)) ([0,11]++[12]) ([s0,au]++xs) h
def amA:Prop:=ax (aj P acB (Z4 P K s0 au L1)) [0,4,11,12,19] [s0,i4,au,aD,aK] h
def VI:Prop:=ax (aj P av2 (Z4 P K s0 au L1)) [0,11,12,19,23] [s0,au,aD,aK,cB] h
def amB:Prop:=ax (aj P Iz (xw P K)) [0] [s0] h
def amC:Prop:=ax (aj P acD (BG P K)) [0,28] [s0,cG] h
def VJ:Prop:=ax (aj P acE (BG P K)) [0,28,32] [s0,cG,bV] h
def VL:Prop:=ax (aj P acF (BG P K)) [0,28,32,35] [s0,cG,bV,dw] h
def VM:Prop:=ax (aj P acG (BG P K)) [0,28,36] [s0,cG,dc] h
def VN:Prop:=ax (aj P acH (BG P K)) [0,38] [s0,dO] h
def F4:Prop:=ax (aj P av4 (BG P K)) [0,38,41] [s0,dO,dW] h
def amD:Prop:=ax (aj P QO (Z6 P K L1)) ([]++[0,5]) ([]++xs) h
def amE:Prop:=ax (aj P av5 (asu P K s0 x5 n6 bY L1 L2)) ([0,5,6,50]++[7,8,51]) ([s0,x5,n6,bY]++xs) h
def amG:Prop:=ax (aj P av6 (N2 P K L1)) [0,5,6,7,8] [s0,x5,n6,x7,x8] h
def amH:Prop:=ax (aj P av7 (xw P K)) [5] [x5] h
theorem apj:VI P K s0 au aD aK cB L1 h=
 (OP (bF aK (.bool true) cB) λbL=>
 aN bL
 (K (.tuple #[(.slice none 0 0),(.bool false)]) h)
 (OP (ai .add aD (.int .i64 (1))) λbX=>
 ([s0,au]:List Value)=[s0,au]/\L1 [bX] h)):=az (by kernel_rfl)
theorem api:amA P K s0 i4 au aD aK L1 h=
 (ck aK false
 (OP (j6 s0 i4) λbO=>
 OP (ai .gtr bO (.int .u8 (57))) λcB=>
 VI P K s0 au aD aK cB L1 h)
 (VI P K s0 au aD aK undef L1 h)):=az (by kernel_rfl)
theorem aFF (s0 au:Value) (L1:LQ) (aD:Value) (h:ae):amF P K s0 au L1 [aD] h=
 (OP (ai .lss aD au) λaB=>
 aN aB
 (OP (j6 s0 aD) λbK=>
 OP (ai .lss bK (.int .u8 (48))) λaS=>
 amA P K s0 aD au aD aS L1 h)
 (amB P K s0 h)):=az (by kernel_rfl)
theorem apm:F4 P K s0 dO dW h=
 (OP (bF dO (.bool true) dW) λeO=>
 aN eO
 (K (.tuple #[(.slice none 0 0),(.bool false)]) h)
 (cO [s0,(.slice none 0 0)] h λL1 xs hx=>
 amD P K L1 xs hx)):=az (by kernel_rfl)
theorem Xb:VN P K s0 dO h=
 (ck dO false
 (OP (gK s0) λeJ=>
 OP (ai .gtr eJ (.int .i64 (4000))) λdW=>
 F4 P K s0 dO dW h)
 (F4 P K s0 dO undef h)):=az (by kernel_rfl)
theorem Xa:VM P K s0 cG dc h=
 (OP (bF cG (.bool true) dc) λer=>
 VN P K s0 er h):=az (by kernel_rfl)
theorem W9:VL P K s0 cG bV dw h=
 (ck cG false
 (OP (bF bV dw (.bool false)) λdc=>
 VM P K s0 cG dc h)
 (VM P K s0 cG undef h)):=az (by kernel_rfl)
theorem apl:VJ P K s0 cG bV h=
 (ck bV true
 (OP (gK s0) λcK=>
 OP (ai .gtr cK (.int .i64 (1))) λdw=>
 VL P K s0 cG bV dw h)
 (VL P K s0 cG bV undef h)):=az (by kernel_rfl)
theorem apk:amC P K s0 cG h=
 (ck cG false
 (OP (j6 s0 (.int .i64 (0))) λdm=>
 OP (ai .eql dm (.int .u8 (48))) λcC=>
 VJ P K s0 cG cC h)
 (VJ P K s0 cG undef h)):=az (by kernel_rfl)
theorem aFE (s0 x5 n6 bY:Value) (L1 L2:LQ) (x7 x8 cg:Value) (h:ae):amE P K s0 x5 n6 bY L1 L2 [x7,x8,cg] h=
 (OP (ai .lss cg bY) λde=>
 aN de
 (OP (ai .mul (.int .u32 (10)) x7) λhI=>
 OP (j6 s0 cg) λfO=>
 OP (ai .sub fO (.int .u8 (48))) λeP=>
 OP (dG .u32 eP) λjw=>
 OP (ai .add hI jw) λfI=>
 OP (ai .mul (.int .u32 (10)) x8) λhO=>
 OP (ai .add cg (.int .i64 (1))) λkf=>
 ([s0,x5,n6,bY]:List Value)=[s0,x5,n6,bY]/\L2 [fI,hO,kf] h)
 (amG P K s0 x5 n6 x7 x8 L1 h)):=az (by kernel_rfl)
theorem aFG:amG P K s0 x5 n6 x7 x8 L1 h=
 (OH (dN 177 1 [(.int .u32 (0))] h [(0,1,x8)]) λgC z1=>
 ak P 122 [x5,gC] z1 λfw z2=>
 OH (dN 177 1 [(.int .u32 (0))] z2 [(0,1,x7)]) λmN z3=>
 ak P 118 [mN] z3 λiD z4=>
 ak P 128 [fw,iD] z4 λkW z5=>
 OP (kQ s0 (some n6) none) λkn=>
 ([]:List Value)=[]/\L1 [kn,kW] z5):=az (by kernel_rfl)
theorem aFD (L1:LQ) (s0 x5:Value) (h:ae):amD P K L1 [s0,x5] h=
 (OP (ai .neq s0 (.string ⟨#[]⟩)) λbu=>
 aN bu
 (OP (gK s0) λcI=>
 OP (ai .sub cI (.int .i64 (1))) λgO=>
 OP (ai .rem gO (.int .i64 (9))) λfE=>
 OP (ai .add fE (.int .i64 (1))) λfN=>
 cO [(.int .u32 (0)),(.int .u32 (1)),(.int .i64 (0))] h λL2 xs hx=>
 amE P K s0 x5 fN fN L1 L2 xs hx)
 (amH P K x5 h)):=az (by kernel_rfl)
theorem aFH:amH P K x5 h=
 (K (.tuple #[x5,(.bool true)]) h):=az (by kernel_rfl)
theorem aFC:amB P K s0 h=
 (OP (ai .eql s0 (.string ⟨#[]⟩)) λb9=>
 amC P K s0 b9 h):=az (by kernel_rfl)
def O6:Prop:=
 OP (gK s0) λau=>
 cO [(.int .i64 (0))] h λL1 xs hx=>
 amF P K s0 au L1 xs hx
theorem azN:aj P Iy (aT [.tmp 2,.tmp 3] K) (bw [s0]) h=O6 P K s0 h:=by kernel_rfl
theorem f125 {K:VK} {s0:Value} {h:ae} (H:O6 prog K s0 h):ak prog 125 [s0] h K:=
 bN aDp (bJ rfl) ((azN prog K s0 h).mpr H)
end
noncomputable section
variable (s0 x1 : Value) (h : ae)
def akC:=bE prog 131 [[],[],[],[],[],[]]
@[irreducible] def acQ:=bM akC
theorem aDv:akC=some (23,acQ,[.tmp 4,.tmp 5,.tmp 6]):=by kernel_rfl
def Pb:Prop:=
 ak P 139 [s0,x1] h λay z1=>
 OP (ai .geq ay (.int .i64 (0))) λaD=>
 aN aD
 (OP (kQ s0 none (some ay)) λaP=>
 OP (gK x1) λaK=>
 OP (ai .add ay aK) λaU=>
 OP (kQ s0 (some aU) none) λba=>
 K (.tuple #[aP,ba,(.bool true)]) z1)
 (K (.tuple #[s0,(.string ⟨#[]⟩),(.bool false)]) z1)
theorem azT:aj P acQ (aT [.tmp 4,.tmp 5,.tmp 6] K) (bw [s0,x1]) h=Pb P K s0 x1 h:=by kernel_rfl
theorem f131 {K:VK} {s0 x1:Value} {h:ae} (H:Pb prog K s0 x1 h):ak prog 131 [s0,x1] h K:=
 bN aDv (bJ rfl) ((azT prog K s0 x1 h).mpr H)
end
noncomputable section
variable (s0 x1 : Value) (h : ae)
def akD:=bE prog 132 [[],[],[],[],[]]
@[irreducible] def acR:=bM akD
theorem aDw:akD=some (15,acR,[.tmp 4,.tmp 5]):=by kernel_rfl
def Pc:Prop:=
 ak P 140 [s0,x1] h λx8 z1=>
 OP (gq .not x8) λx9=>
 aN x9
 (K (.tuple #[s0,(.bool false)]) z1)
 (OP (gK x1) λaB=>
 OP (kQ s0 (some aB) none) λaA=>
 K (.tuple #[aA,(.bool true)]) z1)
theorem azU:aj P acR (aT [.tmp 4,.tmp 5] K) (bw [s0,x1]) h=Pc P K s0 x1 h:=by kernel_rfl
theorem f132 {K:VK} {s0 x1:Value} {h:ae} (H:Pc prog K s0 x1 h):ak prog 132 [s0,x1] h K:=
 bN aDw (bJ rfl) ((azU prog K s0 x1 h).mpr H)
end
noncomputable section
variable (s0 x1 x4 n5 D5 t9 w6 zM aK bO dc o9 mM : Value) (L1 : LQ) (xs : List Value) (h : ae)
def akK:=bE prog 139 [[],[],[0,1,4,5,12,19,36,107,132],[0,1,4,5,12,19,22,36,107,132],[],[],[],[],[],[],[],[],[],[],[],[],[],[],[0,1,5,6,7,9],[8,10,12,107,132],[],[],[],[],[],[],[],[0,1,5,6,7,8,9,10,12,107,132],[0,1,5,6,7,8,9,10,12,84,107,132],[0,1,5,6,7,8,9,10,12,84,92,107,132],[],[],[],[],[],[],[],[],[],[],[],[],[],[],[],[],[],[],[]]
@[irreducible] def D7:=bM akK
@[irreducible] def ac3:=D7.r.r.l.l.l.r.l
@[irreducible] def awv:=D7.r.r.l.l.r
@[irreducible] def QX:=D7.r.r.r
@[irreducible] def aww:=ac3.r.l
@[irreducible] def ac2:=QX.r.r.r.r.r.l.l.l
@[irreducible] def awt:=QX.r.r.r.r.r.r
@[irreducible] def QY:=ac2.r.l.r.l
@[irreducible] def awu:=QY.l.l.r.l
@[irreducible] def aKX:=QY.l.r
@[irreducible] def aKW:=QY.r
@[irreducible] def aKY:=awu.r.l
theorem aDD:akK=some (143,D7,[.tmp 4]):=by kernel_rfl
def Ho (_P:Program) (K:VK):ar:=aT [.tmp 4] K
def as4:ar:=aH (aj P QX (Ho P K)) (Ho P K)
def Z9:ar:=bH 0 (as4 P K)
def aaa:ar:=aH (aj P awv (Z9 P K)) (Z9 P K)
def as1:ar:=aH (aj P awt (Ho P K)) (Ho P K)
def as2:ar:=bH 1 (as1 P K)
def as3 (s0 x1 n5 D5 zM t9:Value) (L1:LQ):ar:=aH (λf' aX=>(([0,1,5,6,7,9]:List Nat).map f':List Value)=[s0,x1,n5,D5,zM,t9]/\L1 (([8,10,12,107,132]:List Nat).map f') aX) (as2 P K)
def amZ:Prop:=ax (aj P ac3 (aaa P K)) [0,1,4,5,12,19,36,107,132] [s0,x1,x4,n5,w6,aK,dc,o9,mM] h
def VQ:Prop:=ax (aj P aww (aaa P K)) [0,1,4,5,12,19,22,36,107,132] [s0,x1,x4,n5,w6,aK,bO,dc,o9,mM] h
def aEG (s0 x1 n5 D5 zM t9:Value) (L1:LQ) (xs:List Value) (h:ae):Prop:=ax (aj P ac2 (as3 P K s0 x1 n5 D5 zM t9 L1)) ([0,1,5,6,7,9]++[8,10,12,107,132]) ([s0,x1,n5,D5,zM,t9]++xs) h
theorem aF8:VQ P K s0 x1 x4 n5 w6 aK bO dc o9 mM h=
 (OP (bF aK (.bool true) bO) λcB=>
 aN cB
 (K (.int .i64 (0)) h)
 (OP (ai .eql n5 (.int .i64 (1))) λcV=>
 aN cV
 (OP (j6 x1 (.int .i64 (0))) λcM=>
 ak P 142 [s0,cM] h λdm z1=>
 K dm z1)
 (OP (gK s0) λcK=>
 OP (ai .geq n5 cK) λdw=>
 aN dw
 (K (.int .i64 (-1)) h)
 (OH none λ_ z1=>
 aN dc
 (OH none λ_ z2=>
 K x4 z2)
 (OP (j6 x1 (.int .i64 (0))) λfN=>
 OP (j6 x1 (.int .i64 (1))) λcg=>
 OP (gK s0) λiS=>
 OP (ai .sub iS n5) λhI=>
 OP (ai .add hI (.int .i64 (1))) λiT=>
 cO [(.int .i64 (0)),(.int .i64 (0)),w6,o9,mM] z1 λL1 xs hx=>
 aEG P K s0 x1 n5 fN cg iT L1 xs hx))))):=az (by kernel_rfl)
theorem aF7:amZ P K s0 x1 x4 n5 w6 aK dc o9 mM h=
 (ck aK false
 (OP (ai .eql x1 s0) λbO=>
 VQ P K s0 x1 x4 n5 w6 aK bO dc o9 mM h)
 (VQ P K s0 x1 x4 n5 w6 aK undef dc o9 mM h)):=az (by kernel_rfl)
def Pk:Prop:=
 OP (gK x1) λaP=>
 OP (ai .eql aP (.int .i64 (0))) λaS=>
 amZ P K s0 x1 (.int .i64 (0)) aP undef aS undef undef undef h
theorem az1:aj P D7 (aT [.tmp 4] K) (bw [s0,x1]) h=Pk P K s0 x1 h:=by kernel_rfl
theorem f139 {K:VK} {s0 x1:Value} {h:ae} (H:Pk prog K s0 x1 h):ak prog 139 [s0,x1] h K:=
 bN aDD (bJ rfl) ((az1 prog K s0 x1 h).mpr H)
end
noncomputable section
variable (s0 x1 ay aL : Value) (h : ae)
def akL:=bE prog 140 [[],[0,1,10],[10,16],[]]
@[irreducible] def IL:=bM akL
@[irreducible] def adj:=IL.r.l.r.l
@[irreducible] def awG:=IL.r.r
@[irreducible] def awH:=adj.r.l
theorem aDE:akL=some (18,IL,[.tmp 4]):=by kernel_rfl
def aae (_P:Program) (K:VK):ar:=aT [.tmp 4] K
def aaf:ar:=aH (aj P awG (aae P K)) (aae P K)
def am7:Prop:=ax (aj P adj (aaf P K)) [0,1,10] [s0,x1,ay] h
def VX:Prop:=ax (aj P awH (aaf P K)) [10,16] [ay,aL] h
theorem aps:VX P K ay aL h=
 (OP (bF ay aL (.bool false)) λbK=>
 K bK h):=az (by kernel_rfl)
theorem aGl:am7 P K s0 x1 ay h=
 (ck ay true
 (OP (gK x1) λaB=>
 OP (kQ s0 none (some aB)) λaA=>
 OP (ai .eql aA x1) λaL=>
 VX P K ay aL h)
 (VX P K ay undef h)):=az (by kernel_rfl)
def Pl:Prop:=
 OP (gK s0) λx6=>
 OP (gK x1) λx8=>
 OP (ai .geq x6 x8) λx9=>
 am7 P K s0 x1 x9 h
theorem az2:aj P IL (aT [.tmp 4] K) (bw [s0,x1]) h=Pl P K s0 x1 h:=by kernel_rfl
theorem f140 {K:VK} {s0 x1:Value} {h:ae} (H:Pl prog K s0 x1 h):ak prog 140 [s0,x1] h K:=
 bN aDE (bJ rfl) ((az2 prog K s0 x1 h).mpr H)
end
noncomputable section
variable (s0 c1 : Value) (h : ae)
def akN:=bE prog 142 [[],[]]
@[irreducible] def adl:=bM akN
theorem aDG:akN=some (8,adl,[.tmp 4]):=by kernel_rfl
def Pn (_:Program) (K:VK) (s0 c1:Value) (h:ae):Prop:=
 OP (Fu s0 c1) λx7=>
 K x7 h
theorem az4:aj P adl (aT [.tmp 4] K) (bw [s0,c1]) h=Pn P K s0 c1 h:=by kernel_rfl
theorem f142 {K:VK} {s0 c1:Value} {h:ae} (H:Pn prog K s0 c1 h):ak prog 142 [s0,c1] h K:=
 bN aDG (bJ rfl) ((az4 prog K s0 c1 h).mpr H)
end
end
section
theorem aiH (c:UInt8):∀s:List UInt8,Lib.indexByte s c=if s.idxOf c<s.length then (s.idxOf c:Int) else -1
 | []=>rfl
 | x::s=>by
  have ih:=aiH c s
  rw [Lib.indexByte]
  by_cases h:(x==c)=true
  ·have e1:(x::s).idxOf c=0:=by rw [idxOf_cons,h];rfl
   rw [if_pos h,e1,if_pos (by simp)];rfl
  ·have h':(x==c)=false:=by simpa using h
   have e1:(x::s).idxOf c=s.idxOf c+1:=by rw [idxOf_cons,h'];rfl
   rw [if_neg h,ih,e1,length_cons]
   by_cases h2:s.idxOf c<s.length
   ·have h3:¬(((s.idxOf c:Nat):Int)== -1)=true:=by
     rw [beq_iff_eq];omega
    rw [if_pos h2,if_pos (show s.idxOf c+1<s.length+1 by omega),if_neg h3]
    omega
   ·rw [if_neg h2,if_neg (show ¬s.idxOf c+1<s.length+1 by omega)]
    rfl
theorem xl (a b c:Value):(#[a,b,c]:Array Value)[0]?=some a/\(#[a,b,c]:Array Value)[1]?=some b/\(#[a,b,c]:Array Value)[2]?=some c:=⟨rfl,rfl,rfl⟩
section
variable {h : ae} {K : Value -> ae -> Prop} {s : List UInt8}
theorem aro {c:UInt8} (hk:K (I (if s.idxOf c<s.length then (s.idxOf c:Int) else -1)) h):ak prog 142 [S s,cv c] h K:=by
 refine f142 ?_
 have e:Fu (S s) (cv c)=some (I (if s.idxOf c<s.length then (s.idxOf c:Int) else -1)):=by
  have e1:Fu (S s) (cv c)=some (Value.int .i64 (Lib.indexByte (Go.Sim.bytes (ByteArray.mk s.toArray)) ((c.toNat:Int)).toNat.toUInt8)):=rfl
  rw [e1,abP,Int.toNat_natCast,aiH]
  have:c.toNat.toUInt8=c:=by simp
  rw [this]
 simp only [Pn,e,ah]
 exact hk
theorem ark {c:UInt8} (hk:K (I (if s.idxOf c<s.length then (s.idxOf c:Int) else -1)) h):ak prog 139 [S s,S [c]] h K:=by
 refine f139 ?_
 have l1:gK (S [c])=some (I 1):=rfl
 have ix:j6 (S [c]) (.int .i64 0)=some (cv c):=rfl
 have e1:ai .eql (I 1) (.int .i64 0)=some (B false):=rfl
 have e2:ai .eql (I 1) (.int .i64 1)=some (B true):=rfl
 simp only [Pk,l1,ah,e1]
 rw [aF7]
 simp only [eL,H5,ah]
 rw [aF8]
 simp only [dQ,ah,bQ]
 refine ⟨λhe=>?_,λ_=>?_⟩
 ·have e3:s.idxOf c=0:=by rw [<-he];simp
  have e4:0<s.length:=by rw [<-he];simp
  rw [e3,if_pos e4] at hk
  exact hk
 ·simp only [e2,ah,dA,ix]
  exact aro hk
theorem aq9 (hl:s.length<=1000) (hk:K (.tuple #[S (dI s),S (if nP s=true then ep s else []),B (nP s)]) h):ak prog 123 [S s,S [47]] h K:=by
 refine f123 ?_
 unfold O4
 refine f131 ?_
 unfold Pb
 refine ark ?_
 have l1:gK (S [47])=some (I 1):=rfl
 by_cases aF:s.idxOf 47<s.length
 ·have hs:nP s=true:=bj aF
  rw [hs,if_pos rfl] at hk
  rw [if_pos aF]
  have wi:IntKind.wrap .i64 (((s.idxOf 47:Nat):Int)+1)=((s.idxOf 47+1:Nat):Int):=by rw [wrap64 (by omega) (by omega)];omega
  have xd:=MN (a:=s) (n:=s.idxOf 47) (by omega) .i64
  have Gz:=Dc (a:=s) (n:=s.idxOf 47+1) (by omega) .i64
  simp only [nv,ah,bj (show (0:Int)<=((s.idxOf 47:Nat):Int) by omega),dA,xd,l1,cL,wi,Gz,eR,(xl _ _ _).1,(xl _ _ _).2.1,(xl _ _ _).2.2]
  exact hk
 ·have hs:nP s=false:=aY aF
  rw [hs,if_neg (by decide)] at hk
  rw [if_neg aF]
  have ho:dI s=s:=by unfold dI;exact List.take_of_length_le (by omega)
  rw [ho] at hk
  simp only [nv,ah,show decide ((0:Int)<= -1)=false from rfl,dD,eR,(xl _ _ _).1,(xl _ _ _).2.1,(xl _ _ _).2.2]
  exact hk
theorem ara (hl:s.length<=1000) (hk:K (.tuple #[S (if s.head?=some 45 then s.tail else s),B (decide (s.head?=some 45))]) h):ak prog 124 [S s,S [45]] h K:=by
 refine f124 ?_
 unfold O5
 refine f132 ?_
 unfold Pc
 refine f140 ?_
 have l1:gK (S [45])=some (I 1):=rfl
 have fin:∀b:Bool,b=decide (s.head?=some 45)->(OP (gq .not (B b)) λx9=>
   aN x9
    (OP (cD 0 (.tuple #[S s,.bool false])) λx9=>OP (cD 1 (.tuple #[S s,.bool false])) λay=>K (.tuple #[x9,ay]) h)
    (OP (kQ (S s) (some (I 1)) none) λaA=>OP (cD 0 (.tuple #[aA,.bool true])) λx9=>OP (cD 1 (.tuple #[aA,.bool true])) λay=>K (.tuple #[x9,ay]) h)):=by
  intro b hb
  by_cases hh:s.head?=some 45
  ·rw [bj hh] at hb hk
   rw [if_pos hh] at hk
   subst hb
   have h1:1<=s.length:=by
    cases s with
    | nil=>simp at hh
    | cons x t=>simp
   have Gz:kQ (S s) (some (I 1)) none=some (S s.tail):=by
    rw [<-List.drop_one]
    exact Dc (a:=s) (n:=1) h1 .i64
   simp only [oW,ah,Bool.not_true,dD,Gz,eR,fv,fz]
   exact hk
  ·rw [aY hh] at hb hk
   rw [if_neg hh] at hk
   subst hb
   simp only [oW,ah,Bool.not_false,dA,eR,fv,fz]
   exact hk
 unfold Pl
 simp only [lK,l1,ah,nv]
 rw [aGl]
 cases s with
 | nil=>
  simp only [List.length_nil,show decide ((1:Int)<=((0:Nat):Int))=false from rfl,jV]
  rw [aps]
  simp only [dQ,ah]
  exact fin false (by simp)
 | cons x t=>
  have xd:kQ (S (x::t)) none (some (I 1))=some (S [x]):=by
   have:=MN (a:=x::t) (n:=1) (by simp) .i64
   simpa using this
  rw [bj (show (1:Int)<=((x::t).length:Int) by rw [length_cons];omega)]
  simp only [fP,l1,ah,xd,H5]
  rw [aps]
  simp only [dY,ah]
  exact fin (decide ([x]=[45])) (by rw [decide_eq_decide];constructor <;> intro h <;> simpa using h)
end
end
section
theorem aKs {s:List UInt8} {i:Nat} (h:i<s.length):dT (s.take (i+1))=10*dT (s.take i)+(s[i].toNat-48):=by
 rw [take_succ_eq_append_getElem h,Bu,M6]
 simp
 omega
theorem aIM (k:IntKind) {a b:Int} (ha:0<=a) (hb:0<b):ai .rem (.int k a) (.int k b)=some (.int k (a%b)):=by
 simp only [ai,iX,if_true]
 rw [if_neg (by omega),Int.tmod_eq_emod_of_nonneg ha]
theorem UW {g:ae} {d:Nat} (hd:d<4294967296) (h0:0<d):dL (g++[.arr 177 [.int .u32 (d:Int)]]) (sl 177 g.length 0 1) d:=
 ⟨[d],.inr ⟨g.length,rfl,.inr ⟨[],by simp [aW]⟩⟩,⟨λx hx=>by rw [mem_singleton.1 hx];exact hd,by simp;omega⟩,by simp [val]⟩
section
variable {h : ae} {K : Value -> ae -> Prop} {s : List UInt8}
theorem Y5 (hl:s.length<=700) (hk:∀v h',EX h h'->dL h' v (cT s)->K (.tuple #[v,B (iz s)]) h'):ak prog 125 [S s] h K:=by
 have bad:iz s=false->K (.tuple #[.slice none 0 0,.bool false]) h:=by
  intro hb
  have:=hk (.slice none 0 0) h (EX.refl h) ⟨[],DS.nil _ _ _,dJ.nil _,by unfold cT;rw [if_neg (by rw [hb];decide)];rfl⟩
  rw [hb] at this
  exact this
 refine f125 ?_
 unfold O6
 simp only [lK,ah]
 refine dF (σ:=Nat) (λi=>[I i]) (λ_=>h) (λi=>i<=s.length/\jX (s.take i)) (λi=>s.length-i) 0 rfl rfl ⟨zero_le _,by simp [jX]⟩ ?_
 intro i ⟨hi,nQ⟩ L hL
 rw [aFF]
 simp only [cW,ah,bQ]
 refine ⟨λaF=>?_,λcU=>?_⟩
 ·have p7:i<s.length:=by omega
  have ix:=uT (a:=s) (i:=i) p7 .i64
  have FI:ai .lss (cv s[i]) (.int .u8 48)=some (B (decide ((s[i].toNat:Int)<48))):=rfl
  have J6:ai .gtr (cv s[i]) (.int .u8 57)=some (B (decide ((s[i].toNat:Int)>57))):=rfl
  have no:¬(48<=s[i].toNat/\s[i].toNat<=57)->iz s=false:=by
   intro hn
   cases e:iz s with
   | false=>rfl
   | true=>exact absurd ((rM.1 e).2.2 _ (getElem_mem p7)) hn
  simp only [ix,ah,FI]
  by_cases lY:s[i].toNat<48
  ·rw [bj (show (s[i].toNat:Int)<48 by omega),api]
   simp only [fW]
   rw [apj]
   simp only [dY,ah,dA]
   exact bad (no (by omega))
  ·rw [aY (show ¬(s[i].toNat:Int)<48 by omega),api]
   simp only [eL,ix,ah,J6]
   rw [apj]
   simp only [dQ,ah,bQ]
   refine ⟨λh57=>bad (no (by omega)),λh57=>?_⟩
   simp only [cL,ft i (by omega),ah,true_and]
   refine hL (i+1) ⟨by omega,?_⟩ (by omega)
   rw [take_succ_eq_append_getElem p7]
   intro c hc
   rcases mem_append.1 hc with hc | hc
   ·exact nQ c hc
   ·rw [mem_singleton.1 hc];omega
 have fZ:i=s.length:=by omega
 subst fZ
 rw [take_length] at nQ
 clear hL
 have eE:(.string ⟨#[]⟩:Value)=S []:=rfl
 rw [aFC,eE]
 simp only [H5,ah]
 -- sD is left of gB aK0
 have go:iz s=true->F4 prog K (S s) (B false) (B false) h:=by
  intro aI
  have hv:cT s=dT s:=by unfold cT;rw [if_pos aI]
  rw [aI,hv] at hk
  rw [apm]
  simp only [dQ,ah,dD]
  refine dF (σ:=List UInt8×List UInt8×Value×ae) (λq=>[S q.2.1,q.2.2.1]) (λq=>q.2.2.2) (λq=>s=q.1++q.2.1/\dL q.2.2.2 q.2.2.1 (dT q.1)/\EX h q.2.2.2) (λq=>q.2.1.length)
   ([],s,.slice none 0 0,h) rfl rfl ⟨rfl,⟨[],DS.nil _ _ _,dJ.nil _,rfl⟩,EX.refl h⟩ ?_
  rintro ⟨p,t,v,g⟩ ⟨bc,hm,hx⟩ L hL
  simp only at bc hm hx hL⊢
  rw [aFD,eE]
  simp only [abI,ah]
  by_cases ht:t=[]
  ·subst ht
   rw [bj rfl]
   simp only [Bool.not_true,dD]
   rw [aFH]
   rw [List.append_nil] at bc
   rw [bc] at hk
   exact hk v g hx hm
  rw [aY ht]
  have Fi:0<t.length:=List.length_pos_iff.2 ht
  have tz:p.length+t.length=s.length:=by rw [bc,length_append]
  have mT:jX t:=λc hc=>nQ c (by rw [bc];simp [hc])
  have hdp:jX p:=λc hc=>nQ c (by rw [bc];simp [hc])
  have w1:IntKind.wrap .i64 ((t.length:Int)-1)=((t.length-1:Nat):Int):=by rw [wrap64 (by omega) (by omega)];omega
  have w2:ai .rem (I (t.length-1:Nat)) (.int .i64 9)=some (I ((t.length-1)%9:Nat)):=by
   have:ai .rem (I (t.length-1:Nat)) (.int .i64 9)=some (I (((t.length-1:Nat):Int)%9)):=aIM .i64 (by omega) (by decide)
   rw [this];congr 2
  have w3:IntKind.wrap .i64 (((t.length-1)%9:Nat)+1:Int)=(((t.length-1)%9+1:Nat):Int):=by rw [wrap64 (by omega) (by omega)];omega
  simp only [Bool.not_false,dA,lK,ah,gE,w1,w2,cL,w3]
  have hn9:(t.length-1)%9+1<=9:=by omega
  have oL:(t.length-1)%9+1<=t.length:=by omega
  have hn1:1<=(t.length-1)%9+1:=by omega
  generalize (t.length-1)%9+1=n at*
  refine dF (σ:=Nat) (λi=>[.int .u32 (dT (t.take i):Int),.int .u32 ((10^i:Nat):Int),I i]) (λ_=>g) (λi=>i<=n) (λi=>n-i) 0 rfl rfl (zero_le _) ?_
  intro i fK L2 iV
  have aF:=yM (s:=t.take i) λc hc=>mT c (List.mem_of_mem_take hc)
  rw [length_take,Nat.min_eq_left (by omega)] at aF
  have p9:(10:Nat)^i<=10^9:=pow_le_pow_right (by decide) (by omega)
  rw [aFE]
  simp only [cW,ah,bQ]
  refine ⟨λh1=>?_,λh1=>?_⟩
  ·have th:i<t.length:=by omega
   have hc:=mT _ (getElem_mem th)
   have p8:(10:Nat)^i<=10^8:=pow_le_pow_right (by decide) (by omega)
   have ix:=uT (a:=t) (i:=i) th .i64
   have m1:ai .mul (.int .u32 10) (.int .u32 (dT (t.take i):Int))=some (.int .u32 ((10*dT (t.take i):Nat):Int)):=by
    rw [xN,show (10:Int)*(dT (t.take i):Int)=((10*dT (t.take i):Nat):Int) by omega,oY (by omega) (by omega)]
   have m2:ai .mul (.int .u32 10) (.int .u32 ((10^i:Nat):Int))=some (.int .u32 ((10^(i+1):Nat):Int)):=by
    rw [xN,show (10:Int)*((10^i:Nat):Int)=((10^(i+1):Nat):Int) by rw [pow_succ];omega,oY (by omega) (by rw [pow_succ];omega)]
   have XN:ai .sub (cv t[i]) (.int .u8 48)=some (.int .u8 ((t[i].toNat-48:Nat):Int)):=by
    show some (Value.int .u8 (IntKind.wrap .u8 ((t[i].toNat:Int)-48)))=_
    have e:IntKind.wrap .u8 ((t[i].toNat:Int)-48)=((t[i].toNat:Int)-48)%256:=by simp [IntKind.wrap,IntKind.bits,IntKind.signed]
    rw [e];congr 2;omega
   have c1:dG .u32 (.int .u8 ((t[i].toNat-48:Nat):Int))=some (.int .u32 ((t[i].toNat-48:Nat):Int)):=by rw [kZ,oY (by omega) (by omega)]
   have a1:ai .add (.int .u32 ((10*dT (t.take i):Nat):Int)) (.int .u32 ((t[i].toNat-48:Nat):Int))=some (.int .u32 (dT (t.take (i+1)):Int)):=by
    rw [aKs th,cL,<-Int.natCast_add,oY (by omega) (by omega)]
   simp only [m1,ix,XN,c1,a1,m2,cL,ft i (by omega),ah,true_and]
   exact iV (i+1) (by omega) (by omega)
  ·have fZ:i=n:=by omega
   subst fZ
   have ahT:(10:Nat)^i<4294967296:=by omega
   have iN:0<(10:Nat)^i:=Nat.pow_pos (by decide)
   have lp:=yM hdp
   have aKU:(10:Nat)^p.length<=bG:=qq (by omega)
   have KJ:dT p*10^i+dT (t.take i)=dT (p++t.take i):=by
    rw [Bu,length_take,Nat.min_eq_left oL]
   have aBa:jX (p++t.take i):=λc hc=>by
    rcases mem_append.1 hc with hc | hc
    ·exact hdp c hc
    ·exact mT c (List.mem_of_mem_take hc)
   have lpt:=yM aBa
   rw [length_append,length_take,Nat.min_eq_left oL] at lpt
   have aKV:(10:Nat)^(p.length+i)<=bG:=qq (by omega)
   have mk:∀(g:ae) (r:Nat),dN 177 1 [(.int .u32 (0))] g [(0,1,.int .u32 (r:Int))]=some (sl 177 g.length 0 1,g++[.arr 177 [.int .u32 (r:Int)]]):=λ_ _=>rfl
   rw [aFG]
   simp only [mk,aE]
   have x1:EX g (g++[.arr 177 [.int .u32 ((10^i:Nat):Int)]]):=EX.append _ _
   refine Y4 (hm.mono x1) (UW ahT iN) (by omega) (Bw ahT) ?_
   intro r1 g2 x2 m2
   have x3:EX g2 (g2++[.arr 177 [.int .u32 (dT (t.take i):Int)]]):=EX.append _ _
   have dr:DS 177 .u32 (g2++[.arr 177 [.int .u32 (dT (t.take i):Int)]]) (sl 177 g2.length 0 1) [dT (t.take i)]:=.inr ⟨g2.length,rfl,.inr ⟨[],by simp [aW]⟩⟩
   refine sJ dr (λx hx=>by rw [mem_singleton.1 hx];omega) (by simp) ?_
   intro r2 m3
   have e:val 4294967296 [dT (t.take i)]=dT (t.take i):=by simp [val]
   rw [e] at m3
   refine Y6 (m2.mono x3) m3 (by omega) (Bw (by omega)) ?_
   intro r3 g4 x4 m4
   rw [KJ] at m4
   have xd:=Dc (a:=t) (n:=i) oL .i64
   simp only [xd,ah,true_and]
   refine hL (p++t.take i,t.drop i,r3,g4) ⟨by rw [List.append_assoc,List.take_append_drop];exact bc,m4,((hx.trans x1).trans x2).trans (x3.trans x4)⟩ (by rw [length_drop];omega)
 have fail:iz s=false->∀t u:Value,bF t (.bool true) u=some (B true)->F4 prog K (S s) t u h:=by
  intro hb t u ht
  rw [apm,ht]
  simp only [ah,dA]
  exact bad hb
 by_cases h0:s=[]
 ·have hb:iz s=false:=by subst h0;rfl
  rw [bj h0,apk]
  simp only [fW]
  rw [apl]
  simp only [xv]
  rw [W9]
  simp only [fW]
  rw [Xa]
  simp only [dY,ah]
  rw [Xb]
  simp only [fW]
  exact fail hb _ _ rfl
 have iN:0<s.length:=List.length_pos_iff.2 h0
 rw [aY h0,apk]
 have ix:=uT (a:=s) (i:=0) iN .i64
 simp only [Int.natCast_zero] at ix
 have hh:s.head?=some s[0]:=by rw [List.head?_eq_getElem?,getElem?_eq_getElem iN]
 have e5:ai .eql (cv s[0]) (.int .u8 48)=some (B (decide ((s[0].toNat:Int)=48))):=rfl
 simp only [eL,ix,ah,e5]
 rw [apl]
 have tail:∀(b:Bool),b=false->iz s=true->VN prog K (S s) (B b) h:=by
  rintro _ rfl aI
  rw [Xb]
  simp only [eL,lK,ah,fQ,aY (show ¬(4000:Int)<(s.length:Int) by omega)]
  exact go aI
 by_cases lY:s[0].toNat=48
 ·have TJ:s.head?=some 48:=by rw [hh];congr 1;exact UInt8.toNat_inj.1 lY
  rw [bj (show (s[0].toNat:Int)=48 by omega)]
  simp only [fP,lK,ah,fQ]
  rw [W9]
  simp only [eL,dY,ah]
  rw [Xa]
  simp only [dQ,ah]
  by_cases h1:1<s.length
  ·have hb:iz s=false:=by
    cases e:iz s with
    | false=>rfl
    | true=>have:=(rM.1 e).2.1 TJ;omega
   rw [bj (show (1:Int)<(s.length:Int) by omega),Xb]
   simp only [fW]
   exact fail hb _ _ rfl
  ·rw [aY (show ¬(1:Int)<(s.length:Int) by omega)]
   exact tail false rfl (rM.2 ⟨⟨iN,by omega⟩,λ_=>by omega,nQ⟩)
 ·rw [aY (show ¬(s[0].toNat:Int)=48 by omega)]
  simp only [jV]
  rw [W9]
  simp only [eL,dQ,ah]
  rw [Xa]
  simp only [dQ,ah]
  refine tail false rfl (rM.2 ⟨⟨iN,by omega⟩,λhc=>?_,nQ⟩)
  rw [hh] at hc
  injection hc with hc
  rw [hc] at lY
  exact absurd rfl lY
end
end
section
def fD (s:List UInt8):List UInt8:=if s.head?=some 45 then s.tail else s
theorem Mc (s:List UInt8):lO s=sA (decide (s.head?=some 45)) (fD s):=by
 unfold lO fD
 by_cases h:s.head?=some 45
 ·rw [if_pos h,if_pos h,bj h]
 ·rw [if_neg h,if_neg h,aY h]
theorem aEE (s:List UInt8):((dI s).head?=some 45↔s.head?=some 45)/\(if (dI s).head?=some 45 then (dI s).tail else dI s)=dI (fD s)/\nP s=nP (fD s)/\ep s=ep (fD s):=by
 cases s with
 | nil=>simp [dI,fD]
 | cons x t=>
  by_cases hx:x=45
  ·subst hx
   have e:((45:UInt8)::t).idxOf 47=t.idxOf 47+1:=by
    rw [idxOf_cons]
    have:((45:UInt8)==47)=false:=by decide
    rw [this];rfl
   have eu:fD (45::t)=t:=by unfold fD;simp
   have eo:dI (45::t)=45::dI t:=by unfold dI;rw [e,List.take_succ_cons]
   rw [eu,eo]
   refine ⟨by simp,by simp,?_,?_⟩
   ·unfold nP;rw [e,length_cons,decide_eq_decide];omega
   ·unfold ep;rw [e];rfl
  ·have eu:fD (x::t)=x::t:=by unfold fD;rw [if_neg (by simpa using hx)]
   have dV:¬(dI (x::t)).head?=some 45:=by
    unfold dI
    cases h:(x::t).idxOf 47 with
    | zero=>simp
    | succ k=>rw [List.take_succ_cons];simpa using hx
   rw [eu,if_neg dV]
   exact ⟨⟨λh=>absurd h dV,λh=>absurd (by simpa using h) hx⟩,rfl,rfl,rfl⟩
theorem aAw {g:ae} {j:Nat} {K:Value->ae->Prop} (hg:g[j]?=some (.arr 107 z4)) (hk:K (.tuple #[sG,B false]) (g.set j (.arr 107 z4))):
  OP (dC [(.bool false),(.slice none 0 0),(.bool false),(.slice none 0 0)] []) λiU=>OH (aG 4 g (pt j 0) iU) λ_ h_1=>OP (af true 4 h_1 (pt j 0)) λr0=>K (.tuple #[r0,(.bool false)]) h_1:=by
 have e:dC [(.bool false),(.slice none 0 0),(.bool false),(.slice none 0 0)] []=some sG:=rfl
 rw [e,ah]
 have s:=m8 (x:=B false) (y:=.slice none 0 0) (z:=B false) (w:=.slice none 0 0) hg
 have s':aG 4 g (pt j 0) sG=some (undef,g.set j (.arr 107 z4)):=s
 rw [s',aE]
 have l:=gX (cJ (o:=.arr 107 z4) hg)
 have l':af true 4 (g.set j (.arr 107 z4)) (pt j 0)=some sG:=l
 rw [l',ah]
 exact hk
section
variable {h : ae} {K : Value -> ae -> Prop} {s : List UInt8}
theorem ML {m:Bool} {n:Nat}:(m&&decide (0<n))=decide ((if m=true then -(n:Int) else (n:Int))<0)/\(if m=true then -(n:Int) else (n:Int)).natAbs=n:=by
 cases m with
 | false=>simp
 | true=>
  refine ⟨?_,by simp⟩
  simp only [Bool.true_and,if_true]
  rw [decide_eq_decide];omega
theorem YX {h0:ae} {m vz ok is:Bool} {n d:Nat} {v1 v2:Value} {i2:Nat} (k2:h[i2]?=some (.arr 107 z4)) (b2:h0.length<=i2) (hx:EX h0 h) (m1:dL h v1 n) (m2:dL h v2 d) (ln:n<bG) (ld:d<bG) (hd:is=true->0<d)
  (hk:ok=true->is=true->(m=true->n≠0)->(vz=true->gcd n d=1)->∀r h',EX h0 h'->iI h' r (if m=true then -(n:Int) else n) d->K (.tuple #[r,B true]) h')
  (hZ:¬(ok=true/\is=true/\(m=true->n≠0)/\(vz=true->gcd n d=1))->∀a b c e h',EX h0 h'->K (.tuple #[.agg #[a,b,c,e],B false]) h'):
  F0 prog K (pt i2 0) (B vz) (B m) v1 (B ok) v2 (B is) h:=by
 have fail:¬(ok=true/\is=true/\(m=true->n≠0)/\(vz=true->gcd n d=1))->∀t u:Value,bF t (.bool true) u=some (B true)->F1 prog K (pt i2 0) (B vz) (B m) v1 v2 t u h:=by
  intro hb t u ht
  rw [apc,ht]
  simp only [ah,dA]
  exact aAw k2 (hZ hb _ _ _ _ _ (hx.set b2 _))
 have n1:∀b:Bool,gq .not (B b)=some (B (!b)):=λ_=>rfl
 have early:¬(ok=true/\is=true)->VB prog K (pt i2 0) (B vz) (B m) v1 v2 (B true) h:=by
  intro hb
  rw [apa]
  simp only [fW]
  rw [apb]
  simp only [xv]
  rw [W8]
  simp only [fW]
  exact fail (λhc=>hb ⟨hc.1,hc.2.1⟩) _ _ rfl
 rw [aFc,n1,ah,aFd]
 cases ok with
 | false=>
  simp only [Bool.not_false,fW]
  rw [ao9]
  simp only [dY,ah]
  exact early (λhc=>by cases hc.1)
 | true=>
 simp only [Bool.not_true,eL,n1,ah]
 rw [ao9]
 simp only [dQ,ah]
 cases is with
 | false=>exact early (λhc=>by cases hc.2)
 | true=>
 have hd:=hd rfl
 simp only [Bool.not_true]
 rw [apa]
 simp only [eL]
 have main:(m=true->n≠0)->F1 prog K (pt i2 0) (B vz) (B m) v1 v2 (B false) (B false) h:=by
  intro hm
  rw [apc]
  simp only [dQ,ah,dD]
  refine sI m1 ?_
  intro g1 x1
  refine sI (m2.mono x1) ?_
  intro g2 x2
  have aD:=x1.trans x2
  obtain ⟨sg1,MI⟩:=ML (m:=m) (n:=n)
  rw [sg1,Bool.false_and]
  have Le:=m1.mono aD
  have m2':=(m2.mono x1).mono x2
  obtain ⟨xs,dx,_⟩:=id Le
  obtain ⟨ys,dy,_⟩:=id m2'
  have eb:dC [(.bool false),(.slice none 0 0),(.bool false),(.slice none 0 0)] [(0,2,.agg #[B (decide ((if m=true then -(n:Int) else (n:Int))<0)),v1]),(2,2,.agg #[B false,v2])]=some (.agg #[B (decide ((if m=true then -(n:Int) else (n:Int))<0)),v1,B false,v2]):=by
   simp [dC,sT,jq,dU,Value.cells,setAt]
  have e3:∀(g:ae),aV 107 [(.bool false),(.slice none 0 0),(.bool false),(.slice none 0 0)] g=some (pt g.length 0,g++[.arr 107 z4]):=λ_=>rfl
  simp only [eb,e3,ah,aE]
  have y1:EX g2 (g2++[.arr 107 z4]):=EX.append _ _
  have FB:(g2++[aq.arr 107 z4])[g2.length]?=some (.arr 107 z4):=br
  generalize g2++[aq.arr 107 z4]=g3 at y1 FB⊢
  have nU:i2<g2.length:=(bz (aD.get k2)).1
  rw [m8 FB]
  simp only [aE]
  have k4:(g3.set g2.length (.arr 107 [B (decide ((if m=true then -(n:Int) else (n:Int))<0)),v1,B false,v2]))[g2.length]?=some (.arr 107 [B (decide ((if m=true then -(n:Int) else (n:Int))<0)),v1,B false,v2]):=cJ FB
  have y2:EX g2 (g3.set g2.length (.arr 107 [B (decide ((if m=true then -(n:Int) else (n:Int))<0)),v1,B false,v2])):=y1.set (le_refl _) _
  generalize g3.set g2.length (.arr 107 [B (decide ((if m=true then -(n:Int) else (n:Int))<0)),v1,B false,v2])=g4 at k4 y2⊢
  have xA:=(hx.trans aD).trans y2
  have FC:=(aD.trans y2).get k2
  have mm1:=Le.mono y2
  have mm2:=m2'.mono y2
  generalize hN:(if m=true then -(n:Int) else (n:Int))=N at*
  have fin:∀{g5:ae} (b:Bool),EX g4 g5->((b=true->vz=true->gcd n d=1)/\(b=false->¬(vz=true->gcd n d=1)))->OH (aG 4 g5 (pt i2 0) (.agg #[B (decide (N<0)),v1,B false,v2])) λ_ h_8=>OP (af true 4 h_8 (pt i2 0)) λr0=>K (.tuple #[r0,B b]) h_8:=by
   intro g5 b x5 hb
   have kk:=x5.get FC
   refine rO (K:=λv h=>K (.tuple #[v,B b]) h) kk ?_
   have xB:=(xA.trans x5).set b2 (.arr 107 [B (decide (N<0)),v1,B false,v2])
   cases b with
   | true=>
    refine hk rfl rfl hm (hb.1 rfl) _ _ xB ⟨v1,v2,by rw [aY (show ¬(d:Int)<0 by omega)],?_,?_⟩
    ·rw [MI];exact (mm1.mono x5).bT kk _
    ·rw [natAbs_natCast];exact (mm2.mono x5).bT kk _
   | false=>exact hZ (λhc=>hb.2 rfl hc.2.2.2) _ _ _ _ _ xB
  rw [gX k4]
  simp only [ah,n1,true_and]
  cases vz with
  | false=>
   simp only [Bool.not_false,fW,dY,ah]
   exact fin true (EX.refl g4) ⟨λ_ h=>(by cases h),λh=>by cases h⟩
  | true=>
   simp only [Bool.not_true,eL,bZ,add_zero,zero_add,kl k4,lL k4,ah]
   refine Y2 (a:=N) (b:=(d:Int)) ⟨v1,rfl,by rw [MI];exact mm1⟩ (eC.nat mm2) (by rw [MI];exact ln) (by rw [natAbs_natCast];exact ld) ?_
   intro r5 g5 x5 i5
   rw [MI,natAbs_natCast] at i5
   simp only [gX (x5.get k4),true_and]
   refine DA (by decide) (by decide) ?_
   intro r6 g6 x6 i6
   have rS:gcd n d<=d:=Nat.gcd_le_right _ hd
   simp only [gX ((x5.trans x6).get k4),true_and]
   refine Nt (i5.mono x6) i6 (by rw [natAbs_natCast];omega) (by rw [show (1:Int).natAbs=1 from rfl];exact Bw (by decide)) ?_
   intro g7 x7
   have ee:=x5.trans (x6.trans x7)
   simp only [gX (ee.get k4),true_and,hY,ah,dQ]
   by_cases yl:gcd n d=1
   ·rw [yl]
    have:(if ((1:Nat):Int)-1=0 then (0:Int) else if ((1:Nat):Int)-1<0 then -1 else 1)=0:=rfl
    rw [this]
    exact fin true ee ⟨λ_ _=>yl,λh=>by cases h⟩
   ·have:(if ((gcd n d:Nat):Int)-1=0 then (0:Int) else if ((gcd n d:Nat):Int)-1<0 then -1 else 1)≠0:=by
     rw [if_neg (by omega)];split <;> decide
    rw [aY this]
    exact fin false ee ⟨λh=>(by cases h),λ_ hc=>yl (hc rfl)⟩
 rw [apb]
 cases m with
 | false=>
  simp only [jV]
  rw [W8]
  simp only [eL,dQ,ah]
  exact main (λh=>by cases h)
 | true=>
  obtain ⟨l,p1,p2⟩:=m1.qk
  simp only [fP,p1,ah,hY]
  rw [W8]
  simp only [eL,dY,ah]
  by_cases hn:n=0
  ·rw [bj (show (l:Int)=0 by omega)]
   exact fail (λhc=>hc.2.2.1 rfl hn) _ _ rfl
  ·rw [aY (show ¬(l:Int)=0 by omega)]
   exact main (λ_=>hn)
end
end
section
theorem aqL {s:List UInt8} (h:s.length<=700):cT s<bG:=lt_of_lt_of_le (M5 s) (qq (by omega))
theorem aq5 {h:ae} {K:Value->ae->Prop} {s:List UInt8} (hl:s.length<=700)
  (hk:∀n d,lO s=some (n,d)->∀r h',EX h h'->iI h' r n d->K (.tuple #[r,B true]) h')
  (hZ:lO s=none->∀a b c e h',EX h h'->K (.tuple #[.agg #[a,b,c,e],B false]) h'):ak prog 108 [S s] h K:=by
 obtain ⟨o1,o2,o3,o4⟩:=aEE s
 have hp:=Mc s
 have rY:(fD s).length<=700:=by
  unfold fD
  split
  ·rw [List.length_tail];omega
  ·exact hl
 have lo:(dI (fD s)).length<=700:=by unfold dI;rw [length_take];omega
 have lu:(ep s).length<=700:=by unfold ep;rw [length_drop];omega
 have los:(dI s).length<=700:=by unfold dI;rw [length_take];omega
 have hm:decide ((dI s).head?=some 45)=decide (s.head?=some 45):=by rw [decide_eq_decide];exact o1
 refine f108 ?_
 have e1:∀(g:ae),aV 107 [(.bool false),(.slice none 0 0),(.bool false),(.slice none 0 0)] g=some (pt g.length 0,g++[.arr 107 z4]):=λ_=>rfl
 have eS:(.string ⟨#[47]⟩:Value)=S [47]:=rfl
 have eM:(.string ⟨#[45]⟩:Value)=S [45]:=rfl
 simp only [OO,e1,aE,eS,eM]
 have x0:EX h (h++[.arr 107 z4]):=EX.append _ _
 have k0:(h++[aq.arr 107 z4])[h.length]?=some (.arr 107 z4):=br
 generalize h++[aq.arr 107 z4]=g at x0 k0⊢
 refine aq9 (by omega) ?_
 simp only [eR,(xl _ _ _).1,(xl _ _ _).2.1,(xl _ _ _).2.2,ah]
 refine ara (by omega) ?_
 rw [o2,hm]
 simp only [eR,fv,fz,ah]
 refine Y5 lo ?_
 intro v1 g1 x1 m1
 have mk:∀(g:ae),dN 177 1 [(.int .u32 (0))] g [(0,1,(.int .u32 (1)))]=some (sl 177 g.length 0 1,g++[.arr 177 [.int .u32 ((1:Nat):Int)]]):=λ_=>rfl
 simp only [eR,fv,fz,ah,mk,aE]
 have x2:EX g1 (g1++[.arr 177 [.int .u32 ((1:Nat):Int)]]):=EX.append _ _
 have ajI:=UW (g:=g1) (d:=1) (by decide) (by decide)
 generalize g1++[aq.arr 177 [.int .u32 ((1:Nat):Int)]]=g2 at x2 ajI⊢
 have mP:=x1.trans x2
 have hvo:=aqL lo
 -- sD gB parts say is sD gB text aLL
 have EF:∀{d:Nat},pU (fD s)=true->qK (fD s)=d->iz (dI (fD s))=true->(decide (s.head?=some 45)=true->cT (dI (fD s))≠0)->
   lO s=some (if decide (s.head?=some 45)=true then -(cT (dI (fD s)):Int) else (cT (dI (fD s)):Int),d):=by
  intro d a b c e
  rw [hp]
  unfold sA
  rw [if_pos ⟨a,c,e⟩,b]
 have bad:¬(pU (fD s)=true/\iz (dI (fD s))=true/\(decide (s.head?=some 45)=true->cT (dI (fD s))≠0))->lO s=none:=by
  intro hb
  rw [hp]
  unfold sA
  rw [if_neg hb]
 cases tz:nP s with
 | false=>
  rw [tz] at o3
  have ki:pU (fD s)=true:=by unfold pU;rw [<-o3];rfl
  have uF:qK (fD s)=1:=by unfold qK;rw [<-o3];rfl
  simp only [dD]
  refine YX (h0:=h) (n:=cT (dI (fD s))) (d:=1) (is:=true) (mP.get k0) (by omega) (x0.trans mP) (m1.mono x2) ajI hvo (Bw (by decide)) (λ_=>by decide) (λa _ c _=>?_) (λhb=>?_)
  ·exact hk _ _ (EF ki uF a c)
  ·refine hZ (bad λhc=>hb ⟨hc.2.1,rfl,hc.2.2,λh=>by cases h⟩)
 | true=>
  rw [tz] at o3
  have hlu:=lu
  simp only [dA,if_true]
  refine Y5 lu ?_
  intro v2 g3 x3 m2
  simp only [eR,fv,fz,ah]
  rw [aFb]
  have uF:qK (fD s)=cT (ep s):=by unfold qK;rw [<-o3,<-o4];rfl
  have ki:pU (fD s)=(iz (ep s)&&(decide (2<=cT (ep s))&&decide (gcd (cT (dI (fD s))) (cT (ep s))=1))):=by unfold pU;rw [<-o3,<-o4];rfl
  have hvu:=aqL lu
  have yR:=x0.trans (mP.trans x3)
  have fin:∀{g4:ae},EX g3 g4->∀is:Bool,is=(iz (ep s)&&decide (2<=cT (ep s)))->F0 prog K (pt h.length 0) (B true) (B (decide (s.head?=some 45))) v1 (B (iz (dI (fD s)))) v2 (B is) g4:=by
   intro g4 x4 is p7
   refine YX (h0:=h) (n:=cT (dI (fD s))) (d:=cT (ep s)) ((mP.trans (x3.trans x4)).get k0) (by omega) (yR.trans x4) ((m1.mono x2).mono (x3.trans x4)) (m2.mono x4) hvo hvu (λh=>?_) (λa b c d=>?_) (λhb=>?_)
   ·rw [h] at p7
    have:=(Bool.and_eq_true_iff.1 p7.symm).2
    have:=of_decide_eq_true this
    omega
   ·refine hk _ _ (EF ?_ uF a c)
    rw [b] at p7
    have h2:=Bool.and_eq_true_iff.1 p7.symm
    rw [ki,h2.1,h2.2,bj (d rfl)];rfl
   ·refine hZ (bad λhc=>hb ⟨hc.2.1,?_,hc.2.2,λ_=>?_⟩)
    ·have h2:=hc.1
     rw [ki,and_eq_true,and_eq_true] at h2
     rw [p7,h2.1,h2.2.1];rfl
    ·have h2:=hc.1
     rw [ki,and_eq_true,and_eq_true] at h2
     exact of_decide_eq_true h2.2.2
  cases Aq:iz (ep s) with
  | false=>
   simp only [jV]
   rw [ao8]
   simp only [dQ,ah]
   exact fin (EX.refl g3) false (by rw [Aq];rfl)
  | true=>
   simp only [fP,mk,aE]
   have x4:EX g3 (g3++[.arr 177 [.int .u32 ((1:Nat):Int)]]):=EX.append _ _
   refine G5 (m2.mono x4) (UW (by decide) (by decide)) hvu (Bw (by decide)) ?_
   have hs:decide ((0:Int)<nH (cT (ep s)) 1)=decide (2<=cT (ep s)):=by
    rw [decide_eq_decide]
    unfold nH
    split
    ·omega
    ·split <;> omega
   simp only [fQ,ah,hs]
   rw [ao8]
   simp only [dY,ah]
   exact fin x4 _ (by rw [Aq];rfl)
end
section
variable (P : Program) (K : VK)
noncomputable section
variable (x0 : Value) (h : ae)
def akU:=bE prog 24 [[],[],[]]
@[irreducible] def c24:=bM akU
theorem k24:akU=some (11,c24,[.tmp 2]):=by kernel_rfl
def Ps:Prop:=
 ak P 67 [x0] h λx7 z1=>
 OP (cD 0 x7) λx8=>
 OP (cD 1 x7) λx9=>
 OH (aV 37 [(.bool false),(.slice none 0 0),(.bool false),(.slice none 0 0)] z1) λx3 z2=>
 OH (aG 4 z2 x3 x8) λ_ z3=>
 K x9 z3
theorem e24:aj P c24 (aT [.tmp 2] K) (bw [x0]) h=Ps P K x0 h:=by kernel_rfl
theorem f24 {K:VK} {x0:Value} {h:ae} (H:Ps prog K x0 h):ak prog 24 [x0] h K:=
 bN k24 (bJ rfl) ((e24 prog K x0 h).mpr H)
end
end
section
end
section
def cut (gT n:Nat):Nat:=min n (if 10<n then 11 else gT)
end
section
end
end Go.Proofs.YtelmdbpaoifmoaaGreat
namespace Go.Sim
section
def KP (p:Value->Bool) (h h':ae):Prop:=∀d c r,aW h d=some (c::r)->p c=true->aW h' d=some (c::r)
theorem KP.trans {p:Value->Bool} {a b c:ae} (x:KP p a b) (y:KP p b c):KP p a c:=λd v r h1 h2=>y d v r (x d v r h1 h2) h2
theorem KP.ex {p:Value->Bool} {a b:ae} (x:EX a b):KP p a b:=λ_ _ _ h1 _=>x.cells h1
theorem KP.set {p:Value->Bool} {h:ae} {i:Nat} {e:TypeId} {cs:List Value} (hg:h[i]?=some (.arr e cs)) (hp:∀c r,cs=c::r->p c=false) (o:aq):KP p h (h.set i o):=by
 intro d c r h1 h2
 have bt:i≠d:=by
  rintro rfl
  simp only [aW,hg] at h1
  cases h1
  rw [hp _ _ rfl] at h2
  cases h2
 simp only [aW] at h1⊢
 rw [getElem?_set_ne bt]
 exact h1
def RS (h:ae) (e:TypeId) (bm:Nat) (v:Value) (rows:List (List Value)):Prop:=
 (∀r∈rows,r.length=bm)/\((v=.slice none 0 0/\rows=[])∨∃i o,v=sl e i o rows.length/\(rows=[]∨∃pre post,aW h i=some (pre++rows.flatten++post)/\pre.length=o))
section
variable {h h' : ae} {e : TypeId} {bm : Nat} {v : Value} {rows : List (List Value)}
theorem RS.mono (x:EX h h') (p:RS h e bm v rows):RS h' e bm v rows:=
 ⟨p.1,p.2.imp id λ⟨i,o,a,b⟩=>⟨i,o,a,b.imp id λ⟨pre,post,c,d⟩=>⟨pre,post,x.cells c,d⟩⟩⟩
theorem RS.len (p:RS h e bm v rows):bk v=some (I rows.length):=by
 rcases p.2 with ⟨rfl,rfl⟩ | ⟨i,o,rfl,_⟩ <;> rfl
theorem RS.one (p:RS h e bm v rows):jq v=true/\dU v=[v]:=by
 rcases p.2 with ⟨rfl,_⟩ | ⟨i,o,rfl,_⟩ <;> exact ⟨rfl,rfl⟩
theorem JT:∀{rows:List (List Value)},(∀r∈rows,r.length=bm)->rows.flatten.length=rows.length*bm
 | [],_=>by simp
 | r::rows,h=>by
  have ih:=JT (rows:=rows) λx hx=>h x (List.mem_cons_of_mem _ hx)
  simp only [List.flatten_cons,length_append,length_cons,h r (List.mem_cons_self ..),ih]
  rw [Nat.succ_mul];omega
theorem agy:∀{rows:List (List Value)},(∀r∈rows,r.length=bm)->∀k (hk:k<rows.length),(rows.flatten.drop (k*bm)).take bm=rows[k]
 | r::rows,h,0,_=>by
  have:=h r (by simp)
  simp only [List.flatten_cons,Nat.zero_mul,List.drop_zero,List.getElem_cons_zero]
  rw [<-this,List.take_left']
  rfl
 | r::rows,h,k+1,hk=>by
  have hr:=h r (by simp)
  have:=agy (rows:=rows) (λx hx=>h x (by simp [hx])) k (by simpa using hk)
  simp only [List.flatten_cons,List.getElem_cons_succ]
  rw [<-this,show (k+1)*bm=r.length+k*bm by rw [Nat.succ_mul,hr];omega,List.drop_append,List.drop_eq_nil_of_le (by omega),List.nil_append,show r.length+k*bm-r.length=k*bm by omega]
theorem RS.get (p:RS h e bm v rows) {k:Nat} (hk:k<rows.length):∃i o cs,aZ bm v (I k)=some (pt i o)/\aW h i=some cs/\o+bm<=cs.length/\(cs.drop o).take bm=rows[k]:=by
 rcases p.2 with ⟨_,rfl⟩ | ⟨i,o,rfl,rfl | ⟨pre,post,hc,ho⟩⟩
 ·simp at hk
 ·simp at hk
 have hf:=JT p.1
 have hle:(k+1)*bm<=rows.length*bm:=Nat.mul_le_mul_right _ hk
 rw [Nat.succ_mul] at hle
 refine ⟨i,o+k*bm,_,?_,hc,?_,?_⟩
 ·have:(0:Int)<=(k:Int)/\(k:Int)<(rows.length:Int):=by omega
  simp [sl,aZ,this]
 ·simp only [length_append,hf];omega
 ·rw [<-agy p.1 k hk,<-ho,List.append_assoc,List.drop_append,List.drop_eq_nil_of_le (by omega),List.nil_append,show pre.length+k*bm-pre.length=k*bm by omega]
  rw [List.drop_append_of_le_length (by rw [hf];omega),List.take_append_of_le_length (by rw [length_drop,hf];omega)]
theorem Xy {i o:Nat} {cs row:List Value} (hc:aW h i=some cs) (hl:o+bm<=cs.length) (ht:(cs.drop o).take bm=row):af true bm h (pt i o)=some (.agg row.toArray):=by
 simp [af,hc,cP,hl,ht]
theorem RS.nil (h:ae) (e:TypeId) (bm:Nat):RS h e bm (.slice none 0 0) []:=⟨λr hr=>by simp at hr,.inl ⟨rfl,rfl⟩⟩
theorem RS.arr {i:Nat} (hw:∀r∈rows,r.length=bm) (hg:h[i]?=some (.arr e rows.flatten)):RS h e bm (sl e i 0 rows.length) rows:=
 ⟨hw,.inr ⟨i,0,rfl,.inr ⟨[],[],by simp [aW,hg],rfl⟩⟩⟩
theorem RS.from (p:RS h e bm v rows) {k:Nat} (hk:k<=rows.length):∃v',nX e bm v (some (I k)) none=some v'/\RS h e bm v' (rows.drop k):=by
 have hw:∀r∈rows.drop k,r.length=bm:=λr hr=>p.1 r (mem_of_mem_drop hr)
 rcases p.2 with ⟨rfl,rfl⟩ | ⟨i,o,rfl,hc⟩
 ·have:k=0:=by simpa using hk
  subst this
  exact ⟨_,rfl,⟨hw,.inl ⟨rfl,rfl⟩⟩⟩
 ·refine ⟨sl e i (o+k*bm) (rows.length-k),by simp [nX,sl,tE,u9,hk],hw,.inr ⟨i,_,by rw [length_drop],?_⟩⟩
  rcases hc with rfl | ⟨pre,post,hc,ho⟩
  ·left;simp
  ·right
   refine ⟨pre++(rows.take k).flatten,post,?_,?_⟩
   ·rw [hc]
    have:rows.flatten=(rows.take k).flatten++(rows.drop k).flatten:=by rw [<-List.flatten_append,List.take_append_drop]
    rw [this];simp
   ·rw [length_append,ho,JT λr hr=>p.1 r (List.mem_of_mem_take hr),length_take,Nat.min_eq_left hk]
def kY (b:Nat) (hx:ae) (e:TypeId) (bm:Nat) (v:Value) (rows:List (List Value)):Prop:=
 (∀r∈rows,r.length=bm)/\((v=.slice none 0 0/\rows=[])∨∃i,b<=i/\v=sl e i 0 rows.length/\hx[i]?=some (.arr e rows.flatten))
theorem kY.start (b:Nat) (hx:ae) (e:TypeId) (bm:Nat):kY b hx e bm (.slice none 0 0) []:=⟨λr hr=>by simp at hr,.inl ⟨rfl,rfl⟩⟩
theorem kY.rs {b:Nat} (o:kY b h e bm v rows):RS h e bm v rows:=by
 rcases o.2 with ⟨rfl,rfl⟩ | ⟨i,_,rfl,hg⟩
 ·exact .nil _ _ _
 ·exact .arr o.1 hg
theorem kY.eX {b:Nat} (o:kY b h e bm v rows) (x:∀d n,v=sl e d 0 n->b<=d->h'[d]?=h[d]?):kY b h' e bm v rows:=
 ⟨o.1,o.2.imp id λ⟨i,h1,h2,h3⟩=>⟨i,h1,h2,by rw [x i _ h2 h1];exact h3⟩⟩
theorem kY.lt {b d n:Nat} (o:kY b h e bm v rows) (hv:v=sl e d 0 n):b<=d/\d<h.length/\h[d]?=some (.arr e rows.flatten):=by
 rcases o.2 with ⟨h1,_⟩ | ⟨i,h1,h2,h3⟩
 ·rw [h1] at hv;cases hv
 ·rw [h2] at hv
  obtain ⟨rfl,_⟩:=XS hv
  exact ⟨h1,(bz h3).1,h3⟩
theorem kY.ex {b:Nat} (o:kY b h e bm v rows) (x:EX h h'):kY b h' e bm v rows:=o.eX λd _ hv _=>x.2 d (o.lt hv).2.1
theorem kY.kp {b:Nat} {p:Value->Bool} (o:kY b h e bm v rows) (hp:∀c r,rows.flatten=c::r->p c=false) (oM:∀d,d<h.length->(∀n,v≠sl e d 0 n)->h'[d]?=h[d]?):KP p h h':=by
 intro d c r h1 h2
 have hd:d<h.length:=by
  apply Classical.byContradiction
  intro cU
  rw [aW,List.getElem?_eq_none (by omega)] at h1
  cases h1
 have bt:∀n,v≠sl e d 0 n:=by
  intro n hv
  have:=(o.lt hv).2.2
  simp only [aW,this] at h1
  cases Cg:rows.flatten with
  | nil=>rw [Cg] at h1;cases h1
  | cons y ys=>
   rw [Cg] at h1
   cases h1
   rw [hp _ _ Cg] at h2
   cases h2
 simp only [aW,oM d hd bt] at h1⊢
 exact h1
theorem kY.app {h0:ae} {bytes:Nat} {x:Value} {row zs:List Value} {K:Value->ae->Prop} (o:kY h0.length h e bm v rows) (hex:EX h0 h) (hz:zs.length=bm) (h1:jq x=true) (h2:dU x=row) (hr:row.length=bm)
  (hb:(rows.length+1)*bytes<=140737488355328) (hm:rows.length+1<=maxLen)
  (hk:∀v' h',EX h0 h'->(∀d,d<h.length->(∀n,v≠sl e d 0 n)->h'[d]?=h[d]?)->kY h0.length h' e bm v' (rows++[row])->K v' h'):
  OH (dN e 1 zs h [(0,bm,x)]) λa h2=>OH (eG e bm bytes h2 v a) K:=by
 have hw:∀r∈rows++[row],r.length=bm:=by
  intro r wx
  rcases mem_append.1 wx with wx | wx
  ·exact o.1 r wx
  ·rw [mem_singleton.1 wx];exact hr
 have e1:dN e 1 zs h [(0,bm,x)]=some (sl e h.length 0 1,h++[.arr e row]):=by
  have AN:je zs 1=zs:=by simp [je]
  have hs:setAt zs 0 row=row:=by
   unfold setAt
   rw [List.take_zero,List.nil_append,List.drop_eq_nil_of_le (by omega),List.append_nil]
  simp only [dN,AN,sT,h1,h2,hs]
  rw [if_pos ⟨trivial,hr,by omega⟩]
  rfl
 rw [e1]
 simp only [aE]
 have e2:kF (h++[.arr e row]) bm (sl e h.length 0 1)=some row:=by
  simp [kF,sl,aW,hr]
  rw [<-hr,take_length]
 have e3:qm (sl e h.length 0 1)=some 1:=rfl
 rcases o.2 with ⟨rfl,rfl⟩ | ⟨i,hi,rfl,cA⟩
 ·refine HJ (v:=sl e (h.length+1) 0 1) (h:=h++[.arr e row]++[.arr e row]) ?_ (hk _ _ ((hex.push _).push _) (λd hd _=>by rw [getElem?_append_left (by simp;omega),getElem?_append_left hd]) ⟨hw,.inr ⟨h.length+1,by have:=hex.1;omega,rfl,by simp⟩⟩)
  have jZ:1*bytes<=140737488355328:=by simpa using hb
  have fq:1<=maxLen:=by simpa using hm
  simp only [eG,e2,e3]
  rw [if_neg (by omega),if_pos ⟨jZ,fq⟩]
  simp
 ·have aF:=(bz cA).1
  have hg:(h++[.arr e row])[i]?=some (.arr e rows.flatten):=by rw [getElem?_append_left aF];exact cA
  refine HJ (v:=sl e (h.length+1) 0 (rows.length+1)) (h:=(h++[aq.arr e row]).set i aq.dead++[aq.arr e (rows.flatten++row)]) ?_
   (hk _ _ (((hex.push _).set hi _).push _) (λd hd bt=>?_) ⟨hw,.inr ⟨h.length+1,by have:=hex.1;omega,by simp,?_⟩⟩)
  ·simp only [eG,e2,e3]
   simp only [sl,hg]
   rw [if_pos ⟨trivial,trivial,JT o.1,hb,hm⟩,if_neg (by omega)]
   simp
  ·have nQ:i≠d:=by rintro rfl;exact bt _ rfl
   rw [getElem?_append_left (by simp;omega),getElem?_set_ne nQ,getElem?_append_left hd]
  ·rw [List.getElem?_append_right (by simp)]
   simp
end
end
end Go.Sim
namespace Go.Proofs.YtelmdbpaoifmoaaGreat
open Go.Sim
section
/-- Fractions in memory. -/
def rG (h:ae) (v:Value) (qs:List (Int×Int)):Prop:=
 ∃rows,RS h 107 4 v rows/\rows.length=qs.length/\∀(k:Nat) (row:List Value) (q:Int×Int),rows[k]?=some row->qs[k]?=some q->iI h (.agg row.toArray) q.1 q.2
theorem rG.mono {h h':ae} {v:Value} {qs:List (Int×Int)} (x:EX h h') (p:rG h v qs):rG h' v qs:=
 let ⟨rows,a,b,c⟩:=p;⟨rows,a.mono x,b,λk row q h1 h2=>(c k row q h1 h2).mono x⟩
theorem rG.len {h:ae} {v:Value} {qs:List (Int×Int)} (p:rG h v qs):bk v=some (I qs.length):=by
 obtain ⟨rows,a,b,_⟩:=p;rw [<-b];exact a.len
theorem rG.get {h:ae} {v:Value} {qs:List (Int×Int)} (p:rG h v qs) {k:Nat} (hk:k<qs.length):∃i o r,aZ 4 v (I k)=some (pt i o)/\af true 4 h (pt i o)=some r/\iI h r qs[k].1 qs[k].2:=by
 obtain ⟨rows,a,b,c⟩:=p
 have bD:k<rows.length:=by omega
 obtain ⟨i,o,cs,g1,g2,g3,g4⟩:=a.get bD
 exact ⟨i,o,_,g1,Xy g2 g3 g4,c k _ _ (getElem?_eq_getElem bD) (getElem?_eq_getElem hk)⟩
def uV:Value->Bool
 | .int .u32 _=>true
 | _=>false
theorem DSw.eX {e:TypeId} {h h':ae} {v:Value} {xs:List Nat} (x:KP uV h h') (p:DS e .u32 h v xs):DS e .u32 h' v xs:=by
 refine p.imp id λ⟨i,a,b⟩=>⟨i,a,?_⟩
 cases xs with
 | nil=>exact .inl rfl
 | cons y ys=>
  obtain ⟨r,c⟩:=b.resolve_left (by simp)
  exact .inr ⟨r,x i _ _ c rfl⟩
theorem dL.eX {h h':ae} {v:Value} {n:Nat} (x:KP uV h h') (p:dL h v n):dL h' v n:=let ⟨xs,a,b,c⟩:=p;⟨xs,DSw.eX x a,b,c⟩
theorem iI.eX {h h':ae} {v:Value} {a b:Int} (x:KP uV h h') (p:iI h v a b):iI h' v a b:=let ⟨u,w,e,m,n⟩:=p;⟨u,w,e,m.eX x,n.eX x⟩
theorem iI.cells {h:ae} {v:Value} {a b:Int} (p:iI h v a b):jq v=true/\∃s u t w,v=.agg #[B s,u,B t,w]/\dU v=[B s,u,B t,w]:=by
 obtain ⟨u,w,rfl,_⟩:=p
 exact ⟨rfl,_,_,_,_,rfl,rfl⟩
/-- Fractions that are being gathered. -/
def ov (b:Nat) (h:ae) (v:Value) (qs:List (Int×Int)):Prop:=
 ∃rows,kY b h 107 4 v rows/\rows.length=qs.length/\(∀r∈rows,∃s t,r=.bool s::t)/\∀(k:Nat) (row:List Value) (q:Int×Int),rows[k]?=some row->qs[k]?=some q->iI h (.agg row.toArray) q.1 q.2
theorem ov.start (b:Nat) (h:ae):ov b h (.slice none 0 0) []:=⟨[],kY.start ..,rfl,λr hr=>by simp at hr,λk r q h=>by simp at h⟩
theorem ov.aIE {b:Nat} {h:ae} {v:Value} {qs:List (Int×Int)} (o:ov b h v qs):rG h v qs:=let ⟨rows,a,c,_,d⟩:=o;⟨rows,a.rs,c,d⟩
theorem ov.ex {b:Nat} {h h':ae} {v:Value} {qs:List (Int×Int)} (x:EX h h') (o:ov b h v qs):ov b h' v qs:=
 let ⟨rows,a,c,e,d⟩:=o;⟨rows,a.ex x,c,e,λk r q h1 h2=>(d k r q h1 h2).mono x⟩
theorem aAD {rows:List (List Value)} (h:∀r∈rows,∃s t,r=.bool s::t):∀c r,rows.flatten=c::r->uV c=false:=by
 intro c r hc
 cases rows with
 | nil=>simp at hc
 | cons x xs=>
  obtain ⟨s,t,rfl⟩:=h x (by simp)
  simp at hc
  rw [<-hc.1];rfl
theorem ov.app {h0 h:ae} {v x:Value} {a b:Int} {qs:List (Int×Int)} {zs:List Value} {K:Value->ae->Prop} (o:ov h0.length h v qs) (hex:EX h0 h) (hx:iI h x a b) (hz:zs.length=4) (hl:qs.length<=10000)
  (hk:∀v' h',EX h0 h'->KP uV h h'->ov h0.length h' v' (qs++[(a,b)])->K v' h'):OH (dN 107 1 zs h [(0,4,x)]) λy h2=>OH (eG 107 4 64 h2 v y) K:=by
 obtain ⟨rows,o1,o2,o3,o4⟩:=o
 obtain ⟨t1,s,u,t,w,e1,e2⟩:=hx.cells
 refine o1.app hex hz t1 e2 rfl (by omega) (by simp [maxLen];omega) ?_
 intro v' h' x' oM o'
 have kp:KP uV h h':=o1.kp (aAD o3) oM
 refine hk v' h' x' kp ⟨_,o',by simp [o2],λr hr=>?_,λk row q h1 h2=>?_⟩
 ·rcases mem_append.1 hr with hr | hr
  ·exact o3 r hr
  ·rw [mem_singleton.1 hr];exact ⟨s,_,rfl⟩
 ·by_cases hk:k<rows.length
  ·rw [getElem?_append_left hk] at h1
   rw [getElem?_append_left (by omega)] at h2
   exact (o4 k row q h1 h2).eX kp
  ·rw [List.getElem?_append_right (by omega)] at h1
   rw [List.getElem?_append_right (by omega),<-o2] at h2
   have h0:k-rows.length=0:=by
    have:=(bz h1).1
    simp at this;omega
   rw [h0] at h1 h2
   simp only [List.getElem?_cons_zero,Option.some.injEq] at h1 h2
   subst h1 h2
   rw [<-e1]
   exact hx.eX kp
end
section
theorem Zu {s:List UInt8} {h:ae} {K:Value->ae->Prop} (hl:s.length<=700)
  (hk:∀n d,lO s=some (n,d)->∀r h',EX h h'->QZ h' r n d->K (.tuple #[r,B true]) h')
  (hZ:lO s=none->∀h',EX h h'->K (.tuple #[sG,B false]) h'):ak prog 67 [S s] h K:=by
 refine f67 ?_
 have e1:aV 37 [(.bool false),(.slice none 0 0),(.bool false),(.slice none 0 0)] h=some (pt h.length 0,h++[.arr 37 z4]):=rfl
 have x1:EX h (h++[.arr 37 z4]):=EX.append _ _
 simp only [PU,e1,aE,lK,ah,fQ,aY (show ¬(s.length:Int)>8002 by omega),dD,aHL]
 by_cases h0:s.length=0
 ·have e:s=[]:=List.length_eq_zero_iff.1 h0
  subst e
  rw [aY (show ¬((([]:List UInt8).length:Int)>0) by simp)]
  simp only [jV,apN,dQ,ah,dD]
  exact NA (m:=false) hl x1 (le_refl _) br (λn d hp=>hk n d hp) (λhp=>hZ hp)
 ·rw [bj (show (s.length:Int)>0 by omega)]
  have ix:=uT (a:=s) (i:=0) (by omega) .i64
  simp only [Int.natCast_zero] at ix
  have hh:s.head?=some (s[0]'(by omega)):=by rw [List.head?_eq_getElem?,getElem?_eq_getElem (by omega)]
  have e5:ai .eql (cv (s[0]'(by omega))) (.int .u8 45)=some (B (decide (((s[0]'(by omega)).toNat:Int)=45))):=rfl
  simp only [fP,ix,ah,e5,apN,dY,bQ]
  refine ⟨λhm=>?_,λhm=>?_⟩
  ·have fq:s[0]'(by omega)=45:=by apply UInt8.toNat_inj.1;show (s[0]'(by omega)).toNat=45;omega
   have hp:lO s=sA true s.tail:=by unfold lO;rw [if_pos (by rw [hh,fq])]
   have sl:=Dc (a:=s) (n:=1) (by omega) .i64
   have sl':kQ (S s) (some (.int .i64 1)) none=some (S s.tail):=by rw [<-List.drop_one];exact sl
   simp only [sl',ah]
   refine NA (m:=true) (by rw [List.length_tail];omega) x1 (le_refl _) br (λn d hq=>hk n d (by rw [hp];exact hq)) (λhq=>hZ (by rw [hp];exact hq))
  ·have fq:s[0]'(by omega)≠45:=by intro h;rw [h] at hm;exact hm rfl
   have hp:lO s=sA false s:=by unfold lO;rw [if_neg (by rw [hh];intro h;injection h with h;exact fq h)]
   exact NA (m:=false) hl x1 (le_refl _) br (λn d hq=>hk n d (by rw [hp];exact hq)) (λhq=>hZ (by rw [hp];exact hq))
theorem arw {s:List UInt8} {n:Int} {d:Nat} {h:ae} {K:Value->ae->Prop} (hl:s.length<=700) (hp:lO s=some (n,d)) (hk:∀r h',EX h h'->QZ h' r n d->K r h'):ak prog 28 [S s] h K:=by
 refine f28 ?_
 have e1:∀g:ae,aV 37 [(.bool false),(.slice none 0 0),(.bool false),(.slice none 0 0)] g=some (pt g.length 0,g++[.arr 37 z4]):=λ_=>rfl
 simp only [Pw,e1,aE]
 refine Zu hl (λn' d' AE r h1 x1 q1=>?_) (λAE=>by rw [hp] at AE;cases AE)
 rw [hp] at AE
 obtain ⟨rfl,rfl⟩:n=n'/\d=d':=by injection AE with AE;injection AE with a b;exact ⟨a,b⟩
 obtain ⟨u,w,rfl,hu,hw⟩:=id q1
 have g1:=x1.get (br (h:=h) (o:=.arr 37 z4))
 simp only [eR,fv,fz,ah]
 rw [m8 br]
 simp only [aE]
 rw [gX (cJ br)]
 simp only [ah]
 have x2:EX h1 ((h1++[aq.arr 37 z4]).set h1.length (.arr 37 [B (decide (n<0)),u,B (decide ((d:Int)<0)),w])):=EX.set (EX.append _ _) (le_refl _) _
 have g2:=x2.get g1
 have xA:=((EX.append h [.arr 37 z4]).trans x1).trans x2
 refine rO g2 (hk _ _ (xA.set (le_refl _) _) ?_)
 exact (q1.mono x2).bT g2 _
theorem C24 {s:List UInt8} {h:ae} {K:Value->ae->Prop} (hl:s.length<=700) (hk:∀h',EX h h'->K (B (lO s).isSome) h'):ak prog 24 [S s] h K:=by
 refine f24 ?_
 have e1:∀g:ae,aV 37 [(.bool false),(.slice none 0 0),(.bool false),(.slice none 0 0)] g=some (pt g.length 0,g++[.arr 37 z4]):=λ_=>rfl
 unfold Ps
 refine Zu hl (λn d hp r h1 x1 q1=>?_) (λhp h1 x1=>?_)
 ·obtain ⟨u,w,rfl,hu,hw⟩:=q1
  simp only [eR,fv,fz,ah,e1,aE]
  rw [m8 br]
  simp only [aE]
  rw [hp] at hk
  exact hk _ (x1.trans (EX.set (EX.append _ _) (le_refl _) _))
 ·simp only [eR,fv,fz,ah,e1,aE]
  have st:=m8 (x:=B false) (y:=.slice none 0 0) (z:=B false) (w:=.slice none 0 0) (br (h:=h1) (o:=.arr 37 z4))
  have st':aG 4 (h1++[.arr 37 z4]) (pt h1.length 0) sG=_:=st
  rw [st']
  simp only [aE]
  rw [hp] at hk
  exact hk _ (x1.trans (EX.set (EX.append _ _) (le_refl _) _))
end
section
end
section
end
section
theorem C29 {va vb:Value} {a b c d:Int} {h:ae} {K:Value->ae->Prop} (ha:QZ h va a b) (hb:QZ h vb c d) (la:a.natAbs<bG) (lb:b.natAbs<bG) (lc:c.natAbs<bG) (ld:d.natAbs<bG) (FD:(a*d).natAbs<bG) (UD:(c*b).natAbs<bG)
  (hk:∀h',EX h h'->K (I (jG (a*d-c*b))) h'):ak prog 29 [va,vb] h K:=by
 obtain ⟨u,w,rfl,hu,hw⟩:=ha
 obtain ⟨u',w',rfl,tB,mY⟩:=hb
 refine f29 ?_
 unfold Px
 have e1:∀(g:ae) (s s':Bool) (b d:Value),bp 37 g (.agg #[B s,b,B s',d])=some (pt g.length 0,g++[.arr 37 [B s,b,B s',d]]):=λ_ _ _ _ _=>rfl
 simp only [e1,aE]
 have x1:EX h (h++[.arr 37 [B (decide (a<0)),u,B (decide (b<0)),w]]):=EX.append _ _
 have k1:(h++[aq.arr 37 [B (decide (a<0)),u,B (decide (b<0)),w]])[h.length]?=some (.arr 37 [B (decide (a<0)),u,B (decide (b<0)),w]):=br
 generalize h++[aq.arr 37 [B (decide (a<0)),u,B (decide (b<0)),w]]=g at x1 k1⊢
 have x2:EX g (g++[.arr 37 [B (decide (c<0)),u',B (decide (d<0)),w']]):=EX.append _ _
 have k2:(g++[aq.arr 37 [B (decide (c<0)),u',B (decide (d<0)),w']])[g.length]?=some (.arr 37 [B (decide (c<0)),u',B (decide (d<0)),w']):=br
 generalize g++[aq.arr 37 [B (decide (c<0)),u',B (decide (d<0)),w']]=g2 at x2 k2⊢
 have k1:=x2.get k1
 have xx:=x1.trans x2
 have za:ZV g2 (.agg #[B (decide (a<0)),u]) a:=⟨u,rfl,hu.mono xx⟩
 have zb:ZV g2 (.agg #[B (decide (b<0)),w]) b:=⟨w,rfl,hw.mono xx⟩
 have zc:ZV g2 (.agg #[B (decide (c<0)),u']) c:=⟨u',rfl,tB.mono xx⟩
 have zd:ZV g2 (.agg #[B (decide (d<0)),w']) d:=⟨w',rfl,mY.mono xx⟩
 have a0:=kl k1
 have a2:=lL k1
 have b0:=kl k2
 have b2:=lL k2
 simp only [bZ,add_zero,zero_add,ah,a0,b2,true_and]
 refine qC za zd la ld ?_
 intro r3 g3 x3 z3
 simp only [EX.load x3 b0,EX.load x3 a2,ah,b0,a2,true_and]
 refine qC (zc.mono x3) (zb.mono x3) lc lb ?_
 intro r4 g4 x4 tY
 refine NC (z3.mono x4) tY FD UD ?_
 intro g5 x5
 exact hk g5 (xx.trans (x3.trans (x4.trans x5)))
end
section
end
section
theorem azf {a k:Nat} (ha:a<10^k) (hk:1<=k) (hb:a<bG):(eK a).length<=k:=by
 obtain ⟨d1,d2,d3,d4,d5⟩:=xU hb
 cases e:eK a with
 | nil=>simp
 | cons c r=>
  rw [e] at d1 d4 d5
  by_cases hc:c=48
  ·have:=d4 (by rw [hc];rfl)
   omega
  ·have h1:=d1 c (by simp)
   rw [GJ] at d5
   have h2:c.toNat≠48:=λh=>hc (UInt8.toNat_inj.1 h)
   have h3:=Nat.mul_le_mul_right (10^r.length) (show 1<=c.toNat-48 by omega)
   have h4:10^r.length<10^k:=by omega
   have:=(Nat.pow_lt_pow_iff_right (show 1<10 by decide)).1 h4
   simp;omega
end
section
theorem aEI {s:List UInt8} {n:Int} {d:Nat} (h:lO s=some (n,d)):0<d/\gcd n.natAbs d=1:=by
 rw [Mc] at h
 unfold sA at h
 split at h
 ·rename_i hc
  injection h with h
  injection h with h1 h2
  have e:=(ML (m:=decide (s.head?=some 45)) (n:=cT (dI (fD s)))).2
  have hn:n.natAbs=cT (dI (fD s)):=by rw [<-h1];exact e
  rw [hn,<-h2]
  unfold qK
  have hd:=hc.1
  unfold pU at hd
  split
  ·rename_i hs
   rw [hs,Bool.not_true,Bool.false_or,and_eq_true,and_eq_true,decide_eq_true_eq,decide_eq_true_eq] at hd
   exact ⟨by omega,hd.2.2⟩
  ·exact ⟨by decide,Nat.gcd_one_right _⟩
 ·cases h
theorem aEb {n:Int} {d:Nat} (h0:0<d) (hg:gcd n.natAbs d=1):(mkRat n d).num=n/\(mkRat n d).den=d:=by
 obtain ⟨e1,e2⟩:=A8 (N:=n) h0
 rw [hg] at e1 e2
 exact ⟨by rw [e1];simp,by rw [e2];simp⟩
def bP (s:List UInt8):Rat:=match lO s with | some (n,d)=>mkRat n d | none=>0
def jo (s:List UInt8):Bool:=(lO s).isSome
theorem Xt {s:List UInt8} {n:Int} {d:Nat} (h:lO s=some (n,d)):(bP s).num=n/\(bP s).den=d:=by
 obtain ⟨h1,h2⟩:=aEI h
 have:=aEb h1 h2
 unfold bP
 rw [h]
 exact this
theorem aiQ {s:List UInt8} (h:jo s=true):lO s=some ((bP s).num,(bP s).den):=by
 unfold jo at h
 cases e:lO s with
 | none=>rw [e] at h;cases h
 | some q=>
  obtain ⟨n,d⟩:=q
  obtain ⟨e1,e2⟩:=Xt e
  rw [e1,e2]
theorem aq6 {h:ae} {K:Value->ae->Prop} {s:List UInt8} (hl:s.length<=700)
  (hk:jo s=true->∀r h',EX h h'->RV h' r (bP s)->K (.tuple #[r,B true]) h')
  (hZ:jo s=false->∀a b c e h',EX h h'->K (.tuple #[.agg #[a,b,c,e],B false]) h'):ak prog 108 [S s] h K:=by
 refine aq5 hl (λn d hp r h' x hr=>?_) (λhp=>hZ (by unfold jo;rw [hp];rfl))
 obtain ⟨e1,e2⟩:=Xt hp
 refine hk (by unfold jo;rw [hp];rfl) r h' x ?_
 unfold RV
 rw [e1,e2]
 exact hr
theorem afY {a k:Nat} (hk:1<=k) (hb:a<bG):(eK a).length<=k↔a<10^k:=by
 constructor
 ·intro h
  obtain ⟨d1,_,_,_,d5⟩:=xU hb
  have:=yM d1
  rw [d5] at this
  exact lt_of_lt_of_le this (pow_le_pow_right (by decide) h)
 ·intro h
  exact azf h hk hb
def vU (k:Nat) (q:Rat):Bool:=decide (q.num.natAbs<10^k)&&decide (q.den<10^k)
theorem C84 {h:ae} {K:Value->ae->Prop} {va:Value} {p:Rat} {i k:Nat} (ha:RV h va p) (sp:cd i p) (hi:i<=900) (nC:1<=k) (_:k<=1000) (hk:∀h',EX h h'->K (B (vU k p)) h'):ak prog 84 [va,I k] h K:=by
 obtain ⟨u,w,rfl,hu,hw⟩:=ha
 obtain ⟨l1,l2⟩:=sp.fA hi
 rw [natAbs_natCast] at hw
 refine f84 ?_
 have e1:∀(g:ae) (s t:Bool) (v w:Value),bp 107 g (.agg #[B s,v,B t,w])=some (pt g.length 0,g++[.arr 107 [B s,v,B t,w]]):=λ_ _ _ _ _=>rfl
 simp only [P9,e1,aE]
 generalize decide ((p.den:Int)<0)=t1 at*
 have q0:EX h (h++[.arr 107 [B (decide (p.num<0)),u,B t1,w]]):=EX.append _ _
 have p0:(h++[aq.arr 107 [B (decide (p.num<0)),u,B t1,w]])[h.length]?=some (.arr 107 [B (decide (p.num<0)),u,B t1,w]):=br
 generalize h++[aq.arr 107 [B (decide (p.num<0)),u,B t1,w]]=ga at q0 p0⊢
 have qj:af false 1 ga (pt h.length 1)=some u:=by simp [af,aW,p0,cP]
 simp only [bZ,zero_add,add_zero,ah,qj]
 refine Ha (hu.mono q0) l1 ?_
 intro g1 x1
 have ld3:af false 1 g1 (pt h.length 3)=some w:=by simp [af,aW,x1.get p0,cP]
 have d1:decide (((eK p.num.natAbs).length:Int)<=(k:Int))=decide (p.num.natAbs<10^k):=by
  rw [decide_eq_decide]
  have:=afY nC l1
  omega
 simp only [lK,ah,sP,d1]
 rw [aIh]
 unfold vU at hk
 by_cases h1:p.num.natAbs<10^k
 ·rw [bj h1] at hk⊢
  simp only [fP,bZ,ah,ld3]
  refine Ha ((hw.mono q0).mono x1) l2 ?_
  intro g2 x2
  have d2:decide (((eK p.den).length:Int)<=(k:Int))=decide (p.den<10^k):=by
   rw [decide_eq_decide]
   have:=afY nC l2
   omega
  simp only [lK,ah,sP,d2]
  rw [apY]
  simp only [dY,ah]
  rw [Bool.true_and] at hk
  exact hk g2 (q0.trans (x1.trans x2))
 ·rw [aY h1] at hk⊢
  simp only [jV]
  rw [apY]
  simp only [dQ,ah]
  exact hk g1 (q0.trans x1)
end
section
variable (P : Program) (K : VK)
noncomputable section
variable (c0 x4 ay au aD : Value) (L1 : LQ) (xs : List Value) (h : ae)
def aly:=bE prog 80 [[],[],[],[10,11],[4,12],[],[],[],[],[],[],[],[],[4],[]]
@[irreducible] def Jg:=bM aly
@[irreducible] def ayh:=Jg.r.r.l.r.l.l
@[irreducible] def afd:=Jg.r.r.r
@[irreducible] def ayg:=afd.l
theorem k80:aly=some (29,Jg,[.tmp 2,.tmp 3]):=by kernel_rfl
def Ot (_P:Program) (K:VK):ar:=aT [.tmp 2,.tmp 3] K
def auy:ar:=aH (aj P afd (Ot P K)) (Ot P K)
def auz:ar:=bH 0 (auy P K)
def auA:ar:=aH (λf' aX=>(([10,11]:List Nat).map f':List Value)=[ay,au]/\L1 (([4,12]:List Nat).map f') aX) (auz P K)
def aon:Prop:=ax (aj P ayh (auA P K ay au L1)) ([10,11]++[4,12]) ([ay,au]++xs) h
def aom:Prop:=ax (aj P ayg (Ot P K)) [4] [x4] h
theorem aIf (ay au:Value) (L1:LQ) (x4 aD:Value) (h:ae):aon P K ay au L1 [x4,aD] h=
 (OP (ai .lss aD au) λaB=>
 aN aB
 (OP (aZ 1 ay aD) λaA=>
 OP (af false 1 h aA) λaP=>
 ak P 108 [aP] h λaS z1=>
 OP (cD 0 aS) λaK=>
 OP (cD 1 aS) λaU=>
 OH (aV 107 [(.bool false),(.slice none 0 0),(.bool false),(.slice none 0 0)] z1) λx7 z2=>
 OH (aG 4 z2 x7 aK) λ_ z3=>
 OP (gq .not aU) λbO=>
 aN bO
 (K (.tuple #[(.slice none 0 0),(.bool false)]) z3)
 (OP (af true 4 z3 x7) λbL=>
 OH (dN 107 1 [(.bool false),(.slice none 0 0),(.bool false),(.slice none 0 0)] z3 [(0,4,bL)]) λbX z4=>
 OH (eG 107 4 64 z4 x4 bX) λcV z5=>
 OP (ai .add aD (.int .i64 (1))) λb9=>
 ([ay,au]:List Value)=[ay,au]/\L1 [cV,b9] z5))
 (aom P K x4 h)):=az (by kernel_rfl)
theorem aIe:aom P K x4 h=
 (K (.tuple #[x4,(.bool true)]) h):=az (by kernel_rfl)
def P5:Prop:=
 OH (bp 24 h c0) λc1 z1=>
 OP (aJ 0 c1) λx9=>
 OP (af false 1 z1 x9) λay=>
 OP (bk ay) λau=>
 cO [(.slice none 0 0),(.int .i64 (0))] z1 λL1 xs hx=>
 aon P K ay au L1 xs hx
theorem e80:aj P Jg (aT [.tmp 2,.tmp 3] K) (bw [c0]) h=P5 P K c0 h:=by kernel_rfl
theorem f80 {K:VK} {c0:Value} {h:ae} (H:P5 prog K c0 h):ak prog 80 [c0] h K:=
 bN k80 (bJ rfl) ((e80 prog K c0 h).mpr H)
end
noncomputable section
variable (s0 f1 : Value) (h : ae)
def alA:=bE prog 82 [[],[]]
@[irreducible] def c82:=bM alA
theorem k82:alA=some (9,c82,[.tmp 4]):=by kernel_rfl
def P7:Prop:=
 ak P 110 [s0,f1] h λx7 z1=>
 OP (ai .geq x7 (.int .i64 (0))) λx8=>
 K x8 z1
theorem e82:aj P c82 (aT [.tmp 4] K) (bw [s0,f1]) h=P7 P K s0 f1 h:=by kernel_rfl
theorem f82 {K:VK} {s0 f1:Value} {h:ae} (H:P7 prog K s0 f1 h):ak prog 82 [s0,f1] h K:=
 bN k82 (bJ rfl) ((e82 prog K s0 f1 h).mpr H)
end
noncomputable section
variable (x0 x1 x6 x9 : Value) (h : ae)
def alB:=bE prog 83 [[],[1,6],[6,9],[]]
@[irreducible] def B0:=bM alB
@[irreducible] def afg:=B0.r.l.r.l
@[irreducible] def ayi:=B0.r.r
@[irreducible] def ayj:=afg.r.l
theorem k83:alB=some (11,B0,[.tmp 2]):=by kernel_rfl
def aaY (_P:Program) (K:VK):ar:=aT [.tmp 2] K
def aaZ:ar:=aH (aj P ayi (aaY P K)) (aaY P K)
def aoo:Prop:=ax (aj P afg (aaZ P K)) [1,6] [x1,x6] h
def WJ:Prop:=ax (aj P ayj (aaZ P K)) [6,9] [x6,x9] h
theorem apX:WJ P K x6 x9 h=
 (OP (bF x6 (.bool true) x9) λay=>
 K ay h):=az (by kernel_rfl)
theorem aIg:aoo P K x1 x6 h=
 (ck x6 false
 (OP (af true 4 h x1) λx7=>
 ak P 84 [x7,(.int .i64 (4))] h λx8 z1=>
 OP (gq .not x8) λx9=>
 WJ P K x6 x9 z1)
 (WJ P K x6 undef h)):=az (by kernel_rfl)
def P8:Prop:=
 OH (bp 107 h x0) λx1 z1=>
 OP (af true 4 z1 x1) λx3=>
 ak P 81 [x3] z1 λx4 z2=>
 OP (ai .lss x4 (.int .i64 (0))) λx5=>
 aoo P K x1 x5 z2
theorem e83:aj P B0 (aT [.tmp 2] K) (bw [x0]) h=P8 P K x0 h:=by kernel_rfl
theorem f83 {K:VK} {x0:Value} {h:ae} (H:P8 prog K x0 h):ak prog 83 [x0] h K:=
 bN k83 (bJ rfl) ((e83 prog K x0 h).mpr H)
end
noncomputable section
variable (j0 x1 x4 x5 aD aB aA : Value) (L1 : LQ) (xs : List Value) (h : ae)
def alD:=bE prog 85 [[],[],[],[4,5,12,13],[14],[],[],[],[],[4,5],[]]
@[irreducible] def Ji:=bM alD
@[irreducible] def ayn:=Ji.r.r.l.r.l.l
@[irreducible] def afi:=Ji.r.r.r
@[irreducible] def aym:=afi.l
theorem k85:alD=some (23,Ji,[.cell true 4 4]):=by kernel_rfl
def Ou (_P:Program) (K:VK):ar:=aT [.cell true 4 4] K
def auB:ar:=aH (aj P afi (Ou P K)) (Ou P K)
def auC:ar:=bH 0 (auB P K)
def auD:ar:=aH (λf' aX=>(([4,5,12,13]:List Nat).map f':List Value)=[x4,x5,aD,aB]/\L1 (([14]:List Nat).map f') aX) (auC P K)
def aor:Prop:=ax (aj P ayn (auD P K x4 x5 aD aB L1)) ([4,5,12,13]++[14]) ([x4,x5,aD,aB]++xs) h
def aoq:Prop:=ax (aj P aym (Ou P K)) [4,5] [x4,x5] h
theorem aIj (x4 x5 aD aB:Value) (L1:LQ) (aA:Value) (h:ae):aor P K x4 x5 aD aB L1 [aA] h=
 (OP (ai .lss aA aB) λaP=>
 aN aP
 (OP (aZ 4 aD aA) λaL=>
 OP (af true 4 h aL) λbK=>
 OH (aV 107 [(.bool false),(.slice none 0 0),(.bool false),(.slice none 0 0)] h) λx7 z1=>
 OH (aG 4 z1 x7 bK) λ_ z2=>
 OP (af true 4 z2 x5) λaS=>
 OP (af true 4 z2 x7) λaK=>
 ak P 87 [aS,aK] z2 λaU z3=>
 OH (aG 4 z3 x5 aU) λ_ z4=>
 OP (ai .add aA (.int .i64 (1))) λba=>
 ([x4,x5,aD,aB]:List Value)=[x4,x5,aD,aB]/\L1 [ba] z4)
 (aoq P K x4 x5 h)):=az (by kernel_rfl)
theorem aIi:aoq P K x4 x5 h=
 (OP (af true 4 h x5) λbO=>
 OH (aG 4 h x4 bO) λ_ z1=>
 OP (af true 4 z1 x4) λr0=>
 K r0 z1):=az (by kernel_rfl)
def Qa:Prop:=
 OH (bp 102 h j0) λj2 z1=>
 OH (aV 107 [(.bool false),(.slice none 0 0),(.bool false),(.slice none 0 0)] z1) λx4 z2=>
 ak P 75 [(.int .i64 (0))] z2 λx8 z3=>
 OH (aV 107 [(.bool false),(.slice none 0 0),(.bool false),(.slice none 0 0)] z3) λx5 z4=>
 OH (aG 4 z4 x5 x8) λ_ z5=>
 OP (aJ 2 j2) λx9=>
 OP (af false 1 z5 x9) λay=>
 OP (nX 107 4 ay (some x1) none) λaD=>
 OP (bk aD) λaB=>
 cO [(.int .i64 (0))] z5 λL1 xs hx=>
 aor P K x4 x5 aD aB L1 xs hx
theorem e85:aj P Ji (aT [.cell true 4 4] K) (bw [j0,x1]) h=Qa P K j0 x1 h:=by kernel_rfl
theorem f85 {K:VK} {j0 x1:Value} {h:ae} (H:Qa prog K j0 x1 h):ak prog 85 [j0,x1] h K:=
 bN k85 (bJ rfl) ((e85 prog K j0 x1 h).mpr H)
end
noncomputable section
variable (s0 f1 x7 x8 : Value) (L1 : LQ) (xs : List Value) (h : ae)
def akg:=bE prog 110 [[],[],[0,1,7],[8],[],[],[],[],[],[],[],[]]
@[irreducible] def Il:=bM akg
@[irreducible] def avA:=Il.r.l.r.l.l
@[irreducible] def avz:=Il.r.r
theorem aDa:akg=some (19,Il,[.tmp 4]):=by kernel_rfl
def ZS (_P:Program) (K:VK):ar:=aT [.tmp 4] K
def arX:ar:=aH (aj P avz (ZS P K)) (ZS P K)
def arY:ar:=bH 0 (arX P K)
def arZ:ar:=aH (λf' aX=>(([0,1,7]:List Nat).map f':List Value)=[s0,f1,x7]/\L1 (([8]:List Nat).map f') aX) (arY P K)
def ame:Prop:=ax (aj P avA (arZ P K s0 f1 x7 L1)) ([0,1,7]++[8]) ([s0,f1,x7]++xs) h
theorem aFe (s0 f1 x7:Value) (L1:LQ) (x8:Value) (h:ae):ame P K s0 f1 x7 L1 [x8] h=
 (OP (ai .lss x8 x7) λx9=>
 aN x9
 (OP (aZ 4 s0 x8) λaA=>
 OP (af true 4 h aA) λaP=>
 vG P f1 [aP] h λaL z1=>
 aN aL
 (K x8 z1)
 (OP (ai .add x8 (.int .i64 (1))) λaS=>
 ([s0,f1,x7]:List Value)=[s0,f1,x7]/\L1 [aS] z1))
 (K (.int .i64 (-1)) h)):=az (by kernel_rfl)
def OS:Prop:=
 OP (bk s0) λx7=>
 cO [(.int .i64 (0))] h λL1 xs hx=>
 ame P K s0 f1 x7 L1 xs hx
theorem azy:aj P Il (aT [.tmp 4] K) (bw [s0,f1]) h=OS P K s0 f1 h:=by kernel_rfl
theorem f110 {K:VK} {s0 f1:Value} {h:ae} (H:OS prog K s0 f1 h):ak prog 110 [s0,f1] h K:=
 bN aDa (bJ rfl) ((azy prog K s0 f1 h).mpr H)
end
end
section
def ru (qs:List Rat):List (Int×Int):=qs.map λq=>(q.num,(q.den:Int))
def QL (h:ae) (v:Value) (qs:List Rat):Prop:=rG h v (ru qs)
theorem QL.mono {h h':ae} {v:Value} {qs:List Rat} (x:EX h h') (p:QL h v qs):QL h' v qs:=rG.mono x p
theorem Bi (qs:List Rat):(ru qs).length=qs.length:=by simp [ru]
theorem QL.len {h:ae} {v:Value} {qs:List Rat} (p:QL h v qs):bk v=some (I qs.length):=by have:=rG.len p;rwa [Bi] at this
theorem QL.get {h:ae} {v:Value} {qs:List Rat} (p:QL h v qs) {k:Nat} (hk:k<qs.length):∃i o r,aZ 4 v (I k)=some (pt i o)/\af true 4 h (pt i o)=some r/\RV h r qs[k]:=by
 obtain ⟨i,o,r,g1,g2,g3⟩:=rG.get p (k:=k) (by rw [Bi];exact hk)
 refine ⟨i,o,r,g1,g2,?_⟩
 unfold RV
 simpa [ru] using g3
theorem RV.agg {h:ae} {v:Value} {q:Rat} (p:RV h v q):∃a b c d,v=.agg #[B a,b,B c,d]:=by
 obtain ⟨u,w,rfl,_⟩:=p
 exact ⟨_,_,_,_,rfl⟩
section
variable {h : ae} {K : Value -> ae -> Prop}
theorem C80 {vs:Value} {w:Int} {ls:List (List UInt8)} (hv:SS h vs ls) (hl:∀s∈ls,s.length<=700) (hn:ls.length<=1000)
  (hk:ls.all jo=true->∀v h' b,EX h h'->ov b h' v (ru (ls.map bP))->K (.tuple #[v,B true]) h')
  (hZ:ls.all jo=false->∀h',EX h h'->K (.tuple #[.slice none 0 0,B false]) h'):ak prog 80 [.agg #[vs,I w]] h K:=by
 refine f80 ?_
 have e1:bp 24 h (.agg #[vs,I w])=some (pt h.length 0,h++[.arr 24 [vs,I w]]):=rfl
 simp only [P5,e1,aE]
 have x0:EX h (h++[.arr 24 [vs,I w]]):=EX.append _ _
 have k0:(h++[aq.arr 24 [vs,I w]])[h.length]?=some (.arr 24 [vs,I w]):=br
 generalize h++[aq.arr 24 [vs,I w]]=g0 at x0 k0⊢
 have ld:af false 1 g0 (pt h.length 0)=some vs:=by simp [af,aW,k0,cP]
 have hlen:=hv.len
 simp only [bZ,add_zero,ah,ld,hlen]
 refine dF (σ:=Nat×Value×ae) (λq=>[q.2.1,I q.1]) (λq=>q.2.2) (λq=>q.1<=ls.length/\EX g0 q.2.2/\(ls.take q.1).all jo=true/\ov g0.length q.2.2 q.2.1 (ru ((ls.take q.1).map bP))) (λq=>ls.length-q.1)
  (0,.slice none 0 0,g0) rfl rfl ⟨zero_le _,EX.refl _,by simp,by simpa [ru] using ov.start g0.length g0⟩ ?_
 rintro ⟨i,vo,g⟩ ⟨hi,xg,gy,own⟩ L hL
 simp only at hi xg gy own hL⊢
 rw [aIf]
 simp only [cW,ah,bQ]
 refine ⟨λaF=>?_,λcU=>?_⟩
 ·have bn:i<ls.length:=by omega
  obtain ⟨b,o,r1,r2⟩:=(hv.mono (x0.trans xg)).get i bn
  simp only [r1,r2,ah]
  have e7:∀(g:ae),aV 107 [(.bool false),(.slice none 0 0),(.bool false),(.slice none 0 0)] g=some (pt g.length 0,g++[.arr 107 z4]):=λ_=>rfl
  refine aq6 (hl _ (getElem_mem bn)) (λuO r g1 x1 hr=>?_) (λuO a b c e g1 x1=>?_)
  ·obtain ⟨a,b',c,d,rfl⟩:=hr.agg
   simp only [eR,fv,fz,ah,e7,aE]
   rw [m8 br]
   simp only [aE,oW,ah,Bool.not_true,dD]
   rw [gX (cJ br)]
   simp only [ah]
   have x2:EX g1 ((g1++[aq.arr 107 z4]).set g1.length (.arr 107 [B a,b',B c,d])):=EX.set (EX.append _ _) (le_refl _) _
   generalize (g1++[aq.arr 107 z4]).set g1.length (.arr 107 [B a,b',B c,d])=g2 at x2⊢
   have aD:=x1.trans x2
   refine (own.ex aD).app (xg.trans aD) (hr.mono x2) rfl (by rw [Bi,List.length_map,length_take];omega) ?_
   intro v' g3 x3 _ FY
   simp only [cL,ah,ft i (by omega),true_and]
   refine hL (i+1,v',g3) ⟨by show i+1<=_;omega,x3,?_,?_⟩ (by show ls.length-(i+1)<ls.length-i;omega)
   ·show (ls.take (i+1)).all jo=true
    rw [take_succ_eq_append_getElem bn,List.all_append,gy]
    simpa using uO
   ·show ov g0.length g3 v' (ru ((ls.take (i+1)).map bP))
    rw [take_succ_eq_append_getElem bn,List.map_append]
    simpa [ru] using FY
  ·simp only [eR,fv,fz,ah,e7,aE]
   rw [m8 br]
   simp only [aE,oW,ah,Bool.not_false,dA]
   refine hZ ?_ _ ((x0.trans (xg.trans x1)).trans (EX.set (EX.append _ _) (le_refl _) _))
   cases he:ls.all jo with
   | false=>rfl
   | true=>rw [List.all_eq_true] at he;rw [he _ (getElem_mem bn)] at uO;cases uO
 ·have fZ:i=ls.length:=by omega
  subst fZ
  rw [take_length] at gy own
  rw [aIe]
  exact hk gy vo g _ (x0.trans xg) own
end
end
section
def cR (qs:List Rat):Rat:=qs.foldl (·+·) 0
theorem Dj {qs:List Rat} {i:Nat} (h:i<qs.length):cR (qs.take (i+1))=cR (qs.take i)+qs[i]:=by
 unfold cR
 rw [take_succ_eq_append_getElem h,List.foldl_append]
 rfl
theorem Li {N:Int} {D k:Nat} (hD:0<D) (h1:N.natAbs<10^k) (h2:D<10^k):cd k (mkRat N D):=by
 obtain ⟨e1,e2⟩:=A8 (N:=N) hD
 have hg:0<gcd N.natAbs D:=Nat.gcd_pos_of_pos_right _ hD
 refine ⟨?_,?_⟩
 ·rw [e1]
  have hd:(gcd N.natAbs D:Int) ∣ N:=Int.ofNat_dvd_left.2 (Nat.gcd_dvd_left ..)
  rw [Int.natAbs_ediv_of_dvd hd,natAbs_natCast]
  exact Nat.lt_of_le_of_lt (Nat.div_le_self ..) h1
 ·rw [e2];exact Nat.lt_of_le_of_lt (Nat.div_le_self ..) h2
theorem cd.add {i j:Nat} {p q:Rat} (hp:cd i p) (hq:cd j q):cd (i+j+1) (p+q):=by
 obtain ⟨c1,c2,c3,_⟩:=zS hp hq
 rw [Qm]
 have h1:10^(i+j+1)=10^(i+j)*10:=pow_succ ..
 refine Li (Nat.mul_pos p.den_pos q.den_pos) ?_ ?_
 ·rw [h1];generalize 10^(i+j)=Z at*;omega
 ·rw [h1];generalize 10^(i+j)=Z at*;omega
theorem cd.mul {i j:Nat} {p q:Rat} (hp:cd i p) (hq:cd j q):cd (i+j) (p*q):=by
 obtain ⟨_,_,c3,c4⟩:=zS hp hq
 rw [UZ]
 exact Li (Nat.mul_pos p.den_pos q.den_pos) c4 c3
theorem cd.div {i j:Nat} {p q:Rat} (hp:cd i p) (hq:cd j q) (h0:0<q.num):cd (i+j) (p / q):=by
 obtain ⟨c1,c2,_,_⟩:=zS hp hq
 rw [af4 h0]
 refine Li (Nat.mul_pos p.den_pos (by omega)) c1 ?_
 rw [Int.natAbs_mul,natAbs_natCast,Nat.mul_comm] at c2
 have:q.num.toNat=q.num.natAbs:=by omega
 rw [this];exact c2
theorem cd.le {i j:Nat} {p:Rat} (h:cd i p) (eW:i<=j):cd j p:=
 ⟨lt_of_lt_of_le h.1 (pow_le_pow_right (by decide) eW),lt_of_lt_of_le h.2 (pow_le_pow_right (by decide) eW)⟩
theorem cd.zero:cd 1 (0:Rat):=by constructor <;> decide
theorem Br {qs:List Rat} (h:∀q∈qs,cd 4 q):∀i,i<=qs.length->cd (5*i+1) (cR (qs.take i))
 | 0,_=>by rw [List.take_zero];exact cd.zero
 | i+1,hi=>by
  rw [Dj (by omega)]
  exact ((Br h i (by omega)).add (h _ (getElem_mem (by omega)))).le (by omega)
theorem RV.bT {h:ae} {v:Value} {q:Rat} {j:Nat} {e:TypeId} {s:Bool} {r:List Value} (p:RV h v q) (hj:h[j]?=some (.arr e (.bool s::r))) (o:aq):RV (h.set j o) v q:=iI.bT p hj o
theorem QL.from {h:ae} {v:Value} {qs:List Rat} (p:QL h v qs) {k:Nat} (hk:k<=qs.length):∃v',nX 107 4 v (some (I k)) none=some v'/\QL h v' (qs.drop k):=by
 obtain ⟨rows,a,b,c⟩:=p
 rw [Bi] at b
 obtain ⟨v',e1,e2⟩:=a.from (k:=k) (by omega)
 refine ⟨v',e1,rows.drop k,e2,by simp [ru];omega,λj row q h1 h2=>?_⟩
 rw [List.getElem?_drop] at h1
 refine c (k+j) row q h1 ?_
 rw [<-h2]
 unfold ru
 rw [List.getElem?_map,List.getElem?_map,List.getElem?_drop]
section
variable {h : ae} {K : Value -> ae -> Prop}
theorem NF {v:Value} {n w:Int} {age:Nat} {qs:List Rat} (hq:QL h v qs) (ha:age<=qs.length) (hs:∀q∈qs,cd 4 q) (hn:qs.length<=20) (hk:∀r h',EX h h'->RV h' r (cR (qs.drop age))->K r h'):
  ak prog 85 [.agg #[I n,I w,v],I age] h K:=by
 obtain ⟨rows,rs,_,_⟩:=id hq
 obtain ⟨t1,t2⟩:=rs.one
 refine f85 ?_
 have e1:bp 102 h (.agg #[I n,I w,v])=some (pt h.length 0,h++[.arr 102 [I n,I w,v]]):=rfl
 have e7:∀(g:ae),aV 107 [(.bool false),(.slice none 0 0),(.bool false),(.slice none 0 0)] g=some (pt g.length 0,g++[.arr 107 z4]):=λ_=>rfl
 simp only [Qa,e1,e7,aE]
 have x0:EX h (h++[.arr 102 [I n,I w,v]]):=EX.append _ _
 have k0:(h++[aq.arr 102 [I n,I w,v]])[h.length]?=some (.arr 102 [I n,I w,v]):=br
 generalize h++[aq.arr 102 [I n,I w,v]]=g0 at x0 k0⊢
 have x1:EX g0 (g0++[.arr 107 z4]):=EX.append _ _
 have k1:(g0++[aq.arr 107 z4])[g0.length]?=some (.arr 107 z4):=br
 generalize g0++[aq.arr 107 z4]=g1 at x1 k1⊢
 refine ub (n:=0) (by decide) (by decide) ?_
 intro r2 g2 x2 CA
 obtain ⟨a,b,c,d,rfl⟩:=CA.agg
 have x3:EX g2 (g2++[.arr 107 z4]):=EX.append _ _
 have k3:(g2++[aq.arr 107 z4])[g2.length]?=some (.arr 107 z4):=br
 generalize g2++[aq.arr 107 z4]=g3 at x3 k3⊢
 have CB:=CA.mono x3
 rw [m8 k3]
 simp only [aE]
 have hl0:=x0.1
 have rT:=x1.1
 have nU:=x2.1
 have Ku:=(bz k1).1
 have k4:(g3.set g2.length (.arr 107 [B a,b,B c,d]))[g2.length]?=some (.arr 107 [B a,b,B c,d]):=cJ k3
 have wy:RV (g3.set g2.length (.arr 107 [B a,b,B c,d])) (.agg #[B a,b,B c,d]) 0:=by
  have:=CB.bT k3 (.arr 107 [B a,b,B c,d])
  simpa using this
 have x4:EX g2 (g3.set g2.length (.arr 107 [B a,b,B c,d])):=x3.set (le_refl _) _
 generalize g3.set g2.length (.arr 107 [B a,b,B c,d])=g4 at k4 wy x4⊢
 have yQ:=x0.trans (x1.trans x2)
 have lJ:=(x2.trans x4).get k1
 have ld:af false 1 g4 (pt h.length 2)=some v:=by simp [af,aW,(x1.trans (x2.trans x4)).get k0,cP]
 obtain ⟨v',s1,s2⟩:=(hq.mono yQ).from ha
 have hlen:=s2.len
 simp only [bZ,zero_add,ah,ld,s1,hlen]
 have hsd:∀q∈qs.drop age,cd 4 q:=λq hm=>hs q (mem_of_mem_drop hm)
 have mW:(qs.drop age).length<=20:=by rw [length_drop];omega
 generalize qs.drop age=ps at*
 refine dF (σ:=Nat×ae×(Bool×Value×Bool×Value)) (λq=>[I q.1]) (λq=>q.2.1)
  (λq=>q.1<=ps.length/\EX g2 q.2.1/\q.2.1[g2.length]?=some (.arr 107 [B q.2.2.1,q.2.2.2.1,B q.2.2.2.2.1,q.2.2.2.2.2])/\q.2.1[g0.length]?=some (.arr 107 z4)/\RV q.2.1 (.agg #[B q.2.2.1,q.2.2.2.1,B q.2.2.2.2.1,q.2.2.2.2.2]) (cR (ps.take q.1))) (λq=>ps.length-q.1)
  (0,g4,a,b,c,d) rfl rfl ⟨zero_le _,x4,k4,lJ,wy⟩ ?_
 rintro ⟨i,g,a,b,c,d⟩ ⟨hi,xg,kg,kz,hr⟩ L hL
 simp only at hi xg kg kz hr hL⊢
 have qU:=s2.mono xg
 rw [aIj]
 simp only [cW,ah,bQ]
 refine ⟨λaF=>?_,λcU=>?_⟩
 ·have bn:i<ps.length:=by omega
  obtain ⟨bi,oi,r,u1,u2,u3⟩:=qU.get bn
  obtain ⟨a',b',c',d',rfl⟩:=u3.agg
  simp only [u1,u2,ah,e7,aE]
  have y1:EX g (g++[.arr 107 z4]):=EX.append _ _
  have j1:(g++[aq.arr 107 z4])[g.length]?=some (.arr 107 z4):=br
  generalize g++[aq.arr 107 z4]=ga at y1 j1⊢
  rw [m8 j1]
  simp only [aE]
  have y2:EX g (ga.set g.length (.arr 107 [B a',b',B c',d'])):=y1.set (le_refl _) _
  have j2:(ga.set g.length (.arr 107 [B a',b',B c',d']))[g.length]?=some (.arr 107 [B a',b',B c',d']):=cJ j1
  generalize ga.set g.length (.arr 107 [B a',b',B c',d'])=gb at y2 j2⊢
  have kb:=y2.get kg
  rw [gX kb,ah,gX j2,ah]
  refine zi (hr.mono y2) (u3.mono y2) (Br hsd i hi) (hsd _ (getElem_mem bn)) (by omega) ?_
  intro r5 g5 x5 qW
  rw [<-Dj bn] at qW
  obtain ⟨a2,b2,c2,d2,rfl⟩:=qW.agg
  have kc:=x5.get kb
  rw [m8 kc]
  simp only [aE,cL,ft i (by omega),ah,true_and]
  have rS:=(bz kg).1
  have kz5:=(y2.trans x5).get kz
  refine hL (i+1,g5.set g2.length (.arr 107 [B a2,b2,B c2,d2]),a2,b2,c2,d2) ⟨by show i+1<=_;omega,(xg.trans (y2.trans x5)).set (le_refl _) _,cJ kc,?_,qW.bT kc _⟩ (by show ps.length-(i+1)<ps.length-i;omega)
  rw [getElem?_set_ne (by omega)];exact kz5
 ·have fZ:i=ps.length:=by omega
  subst fZ
  rw [take_length] at hr
  rw [aIi,gX kg,ah]
  have hgz:g0.length≠g2.length:=by omega
  refine rO kz (hk _ _ ((yQ.trans xg).set (by omega) _) (hr.bT kz _))
end
end
section
def gw (q:Rat):Bool:=decide (q.num<0)|| !vU 4 q
theorem aEu:qI prog 83=true:=by kernel_rfl
def yG:Nat:=700
theorem aIF {s:List UInt8} (hl:s.length<=700):cd yG (bP s):=by
 have rY:(fD s).length<=700:=by
  unfold fD
  split
  ·rw [List.length_tail];omega
  ·exact hl
 have lo:(dI (fD s)).length<=700:=by unfold dI;rw [length_take];omega
 have lu:(ep (fD s)).length<=700:=by unfold ep;rw [length_drop];omega
 have p1:cT (dI (fD s))<10^yG:=lt_of_lt_of_le (M5 _) (pow_le_pow_right (by decide) (show _<=yG from lo))
 have p2:cT (ep (fD s))<10^yG:=lt_of_lt_of_le (M5 _) (pow_le_pow_right (by decide) (show _<=yG from lu))
 cases e:lO s with
 | none=>
  have:bP s=0:=by unfold bP;rw [e]
  rw [this]
  exact cd.zero.le (by decide)
 | some q=>
  obtain ⟨n,d⟩:=q
  obtain ⟨e1,e2⟩:=Xt e
  unfold cd
  rw [e1,e2]
  rw [Mc] at e
  unfold sA at e
  split at e
  ·injection e with e
   injection e with h1 h2
   have hs:=(ML (m:=decide (s.head?=some 45)) (n:=cT (dI (fD s)))).2
   refine ⟨by rw [<-h1];exact Nat.lt_of_le_of_lt (Nat.le_of_eq hs) p1,?_⟩
   rw [<-h2]
   unfold qK
   split
   ·exact p2
   ·exact Nat.one_lt_pow (by decide) (by decide)
  ·cases e
section
variable {h : ae} {K : Value -> ae -> Prop}
theorem C83 {v:Value} {q:Rat} (hq:RV h v q) (sq:cd yG q) (hk:∀h',EX h h'->K (B (gw q)) h'):ak prog 83 [v] h K:=by
 have Cy:=hq
 obtain ⟨a,b,c,d,rfl⟩:=hq.agg
 refine f83 ?_
 have e1:bp 107 h (.agg #[B a,b,B c,d])=some (pt h.length 0,h++[.arr 107 [B a,b,B c,d]]):=rfl
 simp only [P8,e1,aE]
 have x0:EX h (h++[.arr 107 [B a,b,B c,d]]):=EX.append _ _
 have k0:(h++[aq.arr 107 [B a,b,B c,d]])[h.length]?=some (.arr 107 [B a,b,B c,d]):=br
 generalize h++[aq.arr 107 [B a,b,B c,d]]=g0 at x0 k0⊢
 rw [gX k0,ah]
 refine ZA (Cy.mono x0) ?_
 intro g1 x1
 have hs:decide (jG q.num<0)=decide (q.num<0):=by
  rw [decide_eq_decide]
  unfold jG
  split
  ·omega
  ·split <;> omega
 simp only [cW,ah,hs]
 rw [aIg]
 unfold gw at hk
 by_cases hn:q.num<0
 ·rw [bj hn] at hk⊢
  simp only [fW]
  rw [apX]
  simp only [dY,ah]
  exact hk g1 (x0.trans x1)
 ·rw [aY hn] at hk⊢
  simp only [eL]
  rw [gX (x1.get k0),ah]
  refine C84 (k:=4) ((Cy.mono x0).mono x1) sq (by decide) (by decide) (by decide) ?_
  intro g2 x2
  simp only [oW,ah]
  rw [apX]
  simp only [dQ,ah]
  rw [Bool.false_or] at hk
  exact hk g2 (x0.trans (x1.trans x2))
theorem C82 {v:Value} {qs:List Rat} (hq:QL h v qs) (sq:∀q∈qs,cd yG q) (hn:qs.length<=1000) (hk:∀h',EX h h'->K (B (qs.any gw)) h'):ak prog 82 [v,.func (.func 83) #[] #[]] h K:=by
 refine f82 ?_
 unfold P7
 refine f110 ?_
 unfold OS
 simp only [hq.len,ah]
 refine dF (σ:=Nat×ae) (λq=>[I q.1]) (λq=>q.2) (λq=>q.1<=qs.length/\EX h q.2/\(qs.take q.1).any gw=false) (λq=>qs.length-q.1) (0,h) rfl rfl ⟨zero_le _,EX.refl _,by simp⟩ ?_
 rintro ⟨i,g⟩ ⟨hi,xg,dV⟩ L hL
 simp only at hi xg dV hL⊢
 rw [aFe]
 simp only [cW,ah,bQ]
 refine ⟨λaF=>?_,λcU=>?_⟩
 ·have bn:i<qs.length:=by omega
  obtain ⟨b,o,r,u1,u2,u3⟩:=(hq.mono xg).get bn
  simp only [u1,u2,ah]
  refine Ro aEu ?_
  simp only [List.append_nil]
  refine C83 u3 (sq _ (getElem_mem bn)) ?_
  intro g1 x1
  cases hb:gw qs[i] with
  | true=>
   simp only [dA,nv,ah,bj (show (0:Int)<=(i:Int) by omega)]
   have:qs.any gw=true:=List.any_eq_true.2 ⟨_,getElem_mem bn,hb⟩
   rw [this] at hk
   exact hk g1 (xg.trans x1)
  | false=>
   simp only [dD,cL,ft i (by omega),ah,true_and]
   refine hL (i+1,g1) ⟨by show i+1<=_;omega,xg.trans x1,?_⟩ (by show qs.length-(i+1)<qs.length-i;omega)
   show (qs.take (i+1)).any gw=false
   rw [take_succ_eq_append_getElem bn,List.any_append,dV]
   simpa using hb
 ·have fZ:i=qs.length:=by omega
  subst fZ
  rw [take_length] at dV
  rw [dV] at hk
  simp only [nv,ah,show decide ((0:Int)<= -1)=false from rfl]
  exact hk g xg
end
end
section
def CK:Value->Bool
 | .int .u32 _=>true
 | .bool _=>true
 | _=>false
theorem KP.sub {p q:Value->Bool} {h h':ae} (KD:∀v,q v=true->p v=true) (x:KP p h h'):KP q h h':=λd c r h1 h2=>x d c r h1 (KD c h2)
theorem aCP (v:Value) (h:uV v=true):CK v=true:=by
 unfold uV at h
 split at h
 ·rfl
 ·cases h
def QB (h:ae) (v:Value) (qs:List Rat):Prop:=QL h v qs/\(qs=[]∨∃i o n c r,v=sl 107 i o n/\aW h i=some (c::r)/\CK c=true)
theorem QB.mono {h h':ae} {v:Value} {qs:List Rat} (x:EX h h') (p:QB h v qs):QB h' v qs:=⟨p.1.mono x,p.2.imp id λ⟨i,o,n,c,r,a,b,d⟩=>⟨i,o,n,c,r,a,x.cells b,d⟩⟩
theorem QB.eX {h h':ae} {v:Value} {qs:List Rat} (x:KP CK h h') (p:QB h v qs):QB h' v qs:=by
 obtain ⟨⟨rows,a,b,c⟩,q⟩:=p
 rw [Bi] at b
 have rat:∀(k:Nat) (row:List Value) (q:Int×Int),rows[k]?=some row->(ru qs)[k]?=some q->iI h' (.agg row.toArray) q.1 q.2:=λk row q h1 h2=>(c k row q h1 h2).eX (KP.sub aCP x)
 refine ⟨⟨rows,⟨a.1,?_⟩,by rw [Bi];exact b,rat⟩,q.imp id λ⟨i,o,n,c,r,e1,e2,e3⟩=>⟨i,o,n,c,r,e1,x i c r e2 e3,e3⟩⟩
 rcases a.2 with h0 | ⟨i,o,e1,e2⟩
 ·exact .inl h0
 ·refine .inr ⟨i,o,e1,?_⟩
  rcases e2 with e2 | ⟨pre,post,e2,e3⟩
  ·exact .inl e2
  ·rcases q with q | ⟨i',o',n',c',r',f1,f2,f3⟩
   ·left
    exact List.length_eq_zero_iff.1 (by rw [b,q];rfl)
   ·right
    rw [e1] at f1
    have hi:i=i':=by
     simp only [sl] at f1
     injection f1 with f1
     injection f1 with f1
     injection f1
    subst hi
    refine ⟨pre,post,?_,e3⟩
    rw [<-e2,f2]
    exact x i c' r' f2 f3
theorem ov.qb {b:Nat} {h:ae} {v:Value} {qs:List Rat} (o:ov b h v (ru qs)):QB h v qs:=by
 refine ⟨o.aIE,?_⟩
 obtain ⟨rows,o1,o2,o3,_⟩:=o
 rw [Bi] at o2
 cases rows with
 | nil=>left;exact List.length_eq_zero_iff.1 (by rw [<-o2];rfl)
 | cons row rows=>
  right
  rcases o1.2 with ⟨_,h0⟩ | ⟨i,_,e1,e2⟩
  ·cases h0
  ·obtain ⟨s,t,e3⟩:=o3 row (by simp)
   refine ⟨i,0,_,.bool s,t++rows.flatten,e1,?_,rfl⟩
   simp [aW,e2,e3]
def LK (h:ae) (v:Value) (cs:List (List Rat×Int)):Prop:=
 ∃rows,RS h 102 3 v rows/\rows.length=cs.length/\∀(k:Nat) (row:List Value) (c:List Rat×Int),rows[k]?=some row->cs[k]?=some c->∃vq,row=[I c.1.length,I c.2,vq]/\QB h vq c.1
theorem LK.mono {h h':ae} {v:Value} {cs:List (List Rat×Int)} (x:EX h h') (p:LK h v cs):LK h' v cs:=
 let ⟨rows,a,b,c⟩:=p;⟨rows,a.mono x,b,λk row q h1 h2=>let ⟨vq,e,m⟩:=c k row q h1 h2;⟨vq,e,m.mono x⟩⟩
theorem LK.len {h:ae} {v:Value} {cs:List (List Rat×Int)} (p:LK h v cs):bk v=some (I cs.length):=by
 obtain ⟨rows,a,b,_⟩:=p;rw [<-b];exact a.len
theorem LK.get {h:ae} {v:Value} {cs:List (List Rat×Int)} (p:LK h v cs) {k:Nat} (hk:k<cs.length):∃i o vq,aZ 3 v (I k)=some (pt i o)/\af true 3 h (pt i o)=some (.agg #[I cs[k].1.length,I cs[k].2,vq])/\QB h vq cs[k].1:=by
 obtain ⟨rows,a,b,c⟩:=p
 have bD:k<rows.length:=by omega
 obtain ⟨i,o,cells,g1,g2,g3,g4⟩:=a.get bD
 obtain ⟨vq,e,m⟩:=c k _ _ (getElem?_eq_getElem bD) (getElem?_eq_getElem hk)
 have:=Xy g2 g3 g4
 rw [e] at this
 exact ⟨i,o,vq,g1,this,m⟩
def qE (b:Nat) (h:ae) (v:Value) (cs:List (List Rat×Int)):Prop:=
 ∃rows,kY b h 102 3 v rows/\rows.length=cs.length/\(∀r∈rows,∃n t,r=I n::t)/\∀(k:Nat) (row:List Value) (c:List Rat×Int),rows[k]?=some row->cs[k]?=some c->∃vq,row=[I c.1.length,I c.2,vq]/\QB h vq c.1
theorem qE.start (b:Nat) (h:ae):qE b h (.slice none 0 0) []:=⟨[],kY.start ..,rfl,λr hr=>by simp at hr,λk r q h=>by simp at h⟩
theorem qE.lk {b:Nat} {h:ae} {v:Value} {cs:List (List Rat×Int)} (o:qE b h v cs):LK h v cs:=let ⟨rows,a,c,_,d⟩:=o;⟨rows,a.rs,c,d⟩
theorem qE.ex {b:Nat} {h h':ae} {v:Value} {cs:List (List Rat×Int)} (x:EX h h') (o:qE b h v cs):qE b h' v cs:=
 let ⟨rows,a,c,e,d⟩:=o;⟨rows,a.ex x,c,e,λk row q h1 h2=>let ⟨vq,e,m⟩:=d k row q h1 h2;⟨vq,e,m.mono x⟩⟩
theorem aAE {rows:List (List Value)} (h:∀r∈rows,∃n t,r=I n::t):∀c r,rows.flatten=c::r->CK c=false:=by
 cases rows with
 | nil=>intro c r e;simp at e
 | cons row rows=>
  obtain ⟨n,t,rfl⟩:=h row (by simp)
  intro c r e
  simp at e
  rw [<-e.1];rfl
theorem qE.app {h0 h:ae} {v vq:Value} {qs:List Rat} {w:Int} {cs:List (List Rat×Int)} {zs:List Value} {K:Value->ae->Prop} (o:qE h0.length h v cs) (hex:EX h0 h) (hq:QB h vq qs) (hz:zs.length=3) (hl:cs.length<=10000)
  (hk:∀v' h',EX h0 h'->KP CK h h'->qE h0.length h' v' (cs++[(qs,w)])->K v' h'):OH (dN 102 1 zs h [(0,3,.agg #[I qs.length,I w,vq])]) λy h2=>OH (eG 102 3 40 h2 v y) K:=by
 obtain ⟨rows,o1,o2,o3,o4⟩:=o
 obtain ⟨rq,rs,_,_⟩:=id hq.1
 obtain ⟨t1,t2⟩:=rs.one
 refine o1.app hex hz (row:=[I qs.length,I w,vq]) rfl (by simp [dU,Value.cells]) rfl (by omega) (by simp [maxLen];omega) ?_
 intro v' h' x' oM o'
 have kp:KP CK h h':=o1.kp (aAE o3) oM
 refine hk v' h' x' kp ⟨_,o',by simp [o2],λr hr=>?_,λk row q h1 h2=>?_⟩
 ·rcases mem_append.1 hr with hr | hr
  ·exact o3 r hr
  ·rw [mem_singleton.1 hr];exact ⟨_,_,rfl⟩
 ·by_cases hk:k<rows.length
  ·rw [getElem?_append_left hk] at h1
   rw [getElem?_append_left (by omega)] at h2
   obtain ⟨Yo,e,m⟩:=o4 k row q h1 h2
   exact ⟨Yo,e,m.eX kp⟩
  ·rw [List.getElem?_append_right (by omega)] at h1
   rw [List.getElem?_append_right (by omega),<-o2] at h2
   have h0:k-rows.length=0:=by
    have:=(bz h1).1
    simp at this;omega
   rw [h0] at h1 h2
   simp only [List.getElem?_cons_zero,Option.some.injEq] at h1 h2
   subst h1 h2
   exact ⟨vq,rfl,hq.eX kp⟩
end
section
variable (P : Program) (K : VK)
noncomputable section
variable (x0 x3 i4 c5 k6 aD aA bV cK : Value) (L1 L2 : LQ) (xs : List Value) (h : ae)
def akf:=bE prog 11 [[],[],[],[0],[3,4],[0,3,4,12],[0,3,4,12,14],[],[],[],[],[0,3,4,5],[6],[0,3,4,5,6,32],[0,3,4,5,6,32,34],[],[],[],[0,3,4,5],[0,3,4],[3],[]]
@[irreducible] def zL:=bM akf
@[irreducible] def Is:=zL.r.r.l.r.l.l
@[irreducible] def acr:=zL.r.r.r
@[irreducible] def acn:=Is.l.l.r.l
@[irreducible] def avR:=Is.l.r
@[irreducible] def It:=Is.r
@[irreducible] def avQ:=acr.l
@[irreducible] def avK:=acn.r.l
@[irreducible] def Ir:=It.l.l.r.l.r.l.l
@[irreducible] def acp:=It.l.l.r.r
@[irreducible] def aco:=It.r
@[irreducible] def acq:=Ir.l.l.r.l
@[irreducible] def avM:=Ir.l.r
@[irreducible] def avL:=Ir.r
@[irreducible] def avO:=acp.l
@[irreducible] def avP:=aco.l
@[irreducible] def avN:=acq.r.l
theorem k11:akf=some (67,zL,[.tmp 2]):=by kernel_rfl
def NV (_P:Program) (K:VK):ar:=aT [.tmp 2] K
def asb:ar:=aH (aj P acr (NV P K)) (NV P K)
def asc:ar:=bH 0 (asb P K)
def BF:ar:=aH (λf' aX=>(([0]:List Nat).map f':List Value)=[x0]/\L1 (([3,4]:List Nat).map f') aX) (asc P K)
def Z0:ar:=aH (aj P It (BF P K x0 L1)) (BF P K x0 L1)
def Z1:ar:=aH (aj P avR (Z0 P K x0 L1)) (Z0 P K x0 L1)
def ar8:ar:=aH (aj P aco (BF P K x0 L1)) (BF P K x0 L1)
def NW:ar:=bH 1 (ar8 P K x0 L1)
def ar9:ar:=aH (aj P acp (NW P K x0 L1)) (NW P K x0 L1)
def asa:ar:=bH 2 (ar9 P K x0 L1)
def NX:ar:=aH (λf' aX=>(([0,3,4,5]:List Nat).map f':List Value)=[x0,x3,i4,c5]/\L2 (([6]:List Nat).map f') aX) (asa P K x0 L1)
def ZY:ar:=aH (aj P avL (NX P K x0 x3 i4 c5 L1 L2)) (NX P K x0 x3 i4 c5 L1 L2)
def ZZ:ar:=aH (aj P avM (ZY P K x0 x3 i4 c5 L1 L2)) (ZY P K x0 x3 i4 c5 L1 L2)
def amr:Prop:=ax (aj P Is (BF P K x0 L1)) ([0]++[3,4]) ([x0]++xs) h
def aml:Prop:=ax (aj P acn (Z1 P K x0 L1)) [0,3,4,12] [x0,x3,i4,aD] h
def LC:Prop:=ax (aj P avK (Z1 P K x0 L1)) [0,3,4,12,14] [x0,x3,i4,aD,aA] h
def amm:Prop:=ax (aj P Ir (NX P K x0 x3 i4 c5 L1 L2)) ([0,3,4,5]++[6]) ([x0,x3,i4,c5]++xs) h
def amn:Prop:=ax (aj P acq (ZZ P K x0 x3 i4 c5 L1 L2)) [0,3,4,5,6,32] [x0,x3,i4,c5,k6,bV] h
def LD:Prop:=ax (aj P avN (ZZ P K x0 x3 i4 c5 L1 L2)) [0,3,4,5,6,32,34] [x0,x3,i4,c5,k6,bV,cK] h
def amo:Prop:=ax (aj P avO (NW P K x0 L1)) [0,3,4,5] [x0,x3,i4,c5] h
def amp:Prop:=ax (aj P avP (BF P K x0 L1)) [0,3,4] [x0,x3,i4] h
def amq:Prop:=ax (aj P avQ (NV P K)) [3] [x3] h
theorem apg:LC P K x0 x3 i4 aD aA L1 h=
 (OP (bF aD aA (.bool false)) λaP=>
 aN aP
 (OP (aZ 2 x0 i4) λaU=>
 OP (aJ 1 aU) λba=>
 OP (af false 1 h ba) λbO=>
 OP (dC [(.slice none 0 0),(.int .i64 (0))] [(1,1,bO)]) λcB=>
 OH (aV 24 [(.slice none 0 0),(.int .i64 (0))] h) λc5 z1=>
 OH (aG 2 z1 c5 cB) λ_ z2=>
 cO [(.int .i64 (0))] z2 λL2 xs hx=>
 amm P K x0 x3 i4 c5 L1 L2 xs hx)
 (amq P K x3 h)):=az (by kernel_rfl)
theorem aFl:aml P K x0 x3 i4 aD L1 h=
 (ck aD true
 (OP (ai .leq i4 (.int .i64 (3))) λaA=>
 LC P K x0 x3 i4 aD aA L1 h)
 (LC P K x0 x3 i4 aD undef L1 h)):=az (by kernel_rfl)
theorem aph:LD P K x0 x3 i4 c5 k6 bV cK L1 L2 h=
 (OP (bF bV cK (.bool false)) λdw=>
 aN dw
 (OP (aJ 0 c5) λdO=>
 OP (af false 1 h dO) λeY=>
 (True)/\
 OP (aZ 2 x0 i4) λeO=>
 OP (aJ 0 eO) λcj=>
 OP (af false 1 h cj) λbu=>
 (True)/\
 OP (aZ 1 bu k6) λcI=>
 OP (af false 1 h cI) λgO=>
 (True)/\
 OP (aZ 2 x0 i4) λbY=>
 OP (aJ 0 bY) λcg=>
 OP (af false 1 h cg) λde=>
 (True)/\
 OP (aZ 1 de k6) λcX=>
 OP (af false 1 h cX) λhI=>
 (True)/\
 OP (gK hI) λiT=>
 OP (wJ false [iT,(.int .i64 (20))]) λee=>
 OP (kQ gO none (some ee)) λfO=>
 OH (dN 27 1 [(.string ⟨#[]⟩)] h [(0,1,fO)]) λeP z1=>
 (af false 1 z1 dO=some eY/\True)/\
 OH (eG 27 1 16 z1 eY eP) λjw z2=>
 (True)/\
 OP (aJ 0 c5) λfI=>
 OH (aG 1 z2 fI jw) λ_ z3=>
 (True)/\
 OP (ai .add k6 (.int .i64 (1))) λer=>
 ([x0,x3,i4,c5]:List Value)=[x0,x3,i4,c5]/\L2 [er] z3)
 (amo P K x0 x3 i4 c5 L1 h)):=az (by kernel_rfl)
theorem aFn:amn P K x0 x3 i4 c5 k6 bV L1 L2 h=
 (ck bV true
 (OP (ai .leq k6 (.int .i64 (8))) λcK=>
 LD P K x0 x3 i4 c5 k6 bV cK L1 L2 h)
 (LD P K x0 x3 i4 c5 k6 bV undef L1 L2 h)):=az (by kernel_rfl)
theorem aFm (x0 x3 i4 c5:Value) (L1 L2:LQ) (k6:Value) (h:ae):amm P K x0 x3 i4 c5 L1 L2 [k6] h=
 (OP (aZ 2 x0 i4) λb9=>
 OP (aJ 0 b9) λcG=>
 OP (af false 1 h cG) λcM=>
 OP (bk cM) λdm=>
 OP (ai .lss k6 dm) λcC=>
 amn P K x0 x3 i4 c5 k6 cC L1 L2 h):=az (by kernel_rfl)
theorem aFo:amo P K x0 x3 i4 c5 L1 h=
 (OP (af true 2 h c5) λhO=>
 OH (dN 24 1 [(.slice none 0 0),(.int .i64 (0))] h [(0,2,hO)]) λkf z1=>
 OH (eG 24 2 32 z1 x3 kf) λgP z2=>
 amp P K x0 gP i4 L1 z2):=az (by kernel_rfl)
theorem aFp:amp P K x0 x3 i4 L1 h=
 (OP (ai .add i4 (.int .i64 (1))) λbK=>
 ([x0]:List Value)=[x0]/\L1 [x3,bK] h):=az (by kernel_rfl)
theorem aFr (x0:Value) (L1:LQ) (x3 i4:Value) (h:ae):amr P K x0 L1 [x3,i4] h=
 (OP (bk x0) λay=>
 OP (ai .lss i4 ay) λau=>
 aml P K x0 x3 i4 au L1 h):=az (by kernel_rfl)
theorem aFq:amq P K x3 h=
 (K x3 h):=az (by kernel_rfl)
def OR:Prop:=
 OH (dN 24 0 [(.slice none 0 0),(.int .i64 (0))] h []) λx7 z1=>
 cO [x7,(.int .i64 (0))] z1 λL1 xs hx=>
 amr P K x0 L1 xs hx
theorem RO:aj P zL (aT [.tmp 2] K) (bw [x0]) h=OR P K x0 h:=by kernel_rfl
theorem f11 {K:VK} {x0:Value} {h:ae} (H:OR prog K x0 h):ak prog 11 [x0] h K:=
 bN k11 (bJ rfl) ((RO prog K x0 h).mpr H)
end
noncomputable section
variable (l0 x4 fR au aD aB dO dW cj bu cS iS ee eP hO gP fU iD jT mj iU : Value) (L1 : LQ) (xs : List Value) (h : ae)
def ak1:=bE prog 43 [[],[],[],[0,11,12],[4,13],[],[],[],[],[],[],[],[],[0,4],[0,4,38],[4,38,41],[],[],[],[],[4,43,44],[45],[],[],[],[4,10,43,44,45,53],[4,10,43,44,45,53,57],[4,10,43,44,45,59],[4,10,43,44,45,59,63],[4,10,43,44,45,65],[4,10,43,44,45,65,69],[4,10,43,44,45,71],[4,10,43,44,45,71,81],[],[],[],[4,10,43,44,45,86],[4,43,44,45,86,91],[],[],[],[4],[]]
@[irreducible] def IQ:=bM ak1
@[irreducible] def aw5:=IQ.r.r.l.r.l.l
@[irreducible] def adM:=IQ.r.r.r
@[irreducible] def IS:=adM.l
@[irreducible] def adK:=IS.l.l.r.l
@[irreducible] def awX:=IS.l.r
@[irreducible] def Q5:=IS.r
@[irreducible] def awY:=adK.r.l
@[irreducible] def D9:=Q5.l.r.l.l
@[irreducible] def adL:=Q5.r
@[irreducible] def adN:=D9.r.r.l.l.r.l.l.r.l
@[irreducible] def aw0:=D9.r.r.l.l.r.l.r
@[irreducible] def Q6:=D9.r.r.l.l.r.r
@[irreducible] def awZ:=D9.r.r.r
@[irreducible] def aw4:=adL.l
@[irreducible] def adO:=adN.r.l
@[irreducible] def adU:=Q6.l.r.l
@[irreducible] def aw2:=Q6.r
@[irreducible] def adP:=adO.r.l
@[irreducible] def aw3:=adU.r.l
@[irreducible] def adQ:=adP.r.l
@[irreducible] def adR:=adQ.r.l
@[irreducible] def adS:=adR.r.l
@[irreducible] def adT:=adS.r.l
@[irreducible] def aw1:=adT.r.l
theorem k43:ak1=some (95,IQ,[.tmp 2,.tmp 3]):=by kernel_rfl
def xz (_P:Program) (K:VK):ar:=aT [.tmp 2,.tmp 3] K
def atp:ar:=aH (aj P adM (xz P K)) (xz P K)
def atr:ar:=bH 0 (atp P K)
def ats:ar:=aH (λf' aX=>(([0,11,12]:List Nat).map f':List Value)=[l0,au,aD]/\L1 (([4,13]:List Nat).map f') aX) (atr P K)
def aao:ar:=aH (aj P Q5 (xz P K)) (xz P K)
def aap:ar:=aH (aj P awX (aao P K)) (aao P K)
def atn:ar:=aH (aj P adL (xz P K)) (xz P K)
def ato:ar:=bH 2 (atn P K)
def Ob:ar:=aH (λf' aX=>(([4,43,44]:List Nat).map f':List Value)=[x4,cj,bu]/\L1 (([45]:List Nat).map f') aX) (ato P K)
def atq:ar:=aH (aj P awZ (Ob P K x4 cj bu L1)) (Ob P K x4 cj bu L1)
def Hu:ar:=bH 3 (atq P K x4 cj bu L1)
def aaq:ar:=aH (aj P Q6 (Hu P K x4 cj bu L1)) (Hu P K x4 cj bu L1)
def xC:ar:=aH (aj P aw0 (aaq P K x4 cj bu L1)) (aaq P K x4 cj bu L1)
def aar:ar:=aH (aj P aw2 (Hu P K x4 cj bu L1)) (Hu P K x4 cj bu L1)
def anl:Prop:=ax (aj P aw5 (ats P K l0 au aD L1)) ([0,11,12]++[4,13]) ([l0,au,aD]++xs) h
def ang:Prop:=ax (aj P IS (xz P K)) [0,4] [l0,x4] h
def anh:Prop:=ax (aj P adK (aap P K)) [0,4,38] [l0,x4,dO] h
def V7:Prop:=ax (aj P awY (aap P K)) [4,38,41] [x4,dO,dW] h
def V8:Prop:=ax (aj P D9 (Ob P K x4 cj bu L1)) ([4,43,44]++[45]) ([x4,cj,bu]++xs) h
def ani:Prop:=ax (aj P adN (xC P K x4 cj bu L1)) [4,10,43,44,45,53] [x4,fR,cj,bu,cS,iS] h
def V9:Prop:=ax (aj P adO (xC P K x4 cj bu L1)) [4,10,43,44,45,53,57] [x4,fR,cj,bu,cS,iS,ee] h
def Wa:Prop:=ax (aj P adP (xC P K x4 cj bu L1)) [4,10,43,44,45,59] [x4,fR,cj,bu,cS,eP] h
def Wb:Prop:=ax (aj P adQ (xC P K x4 cj bu L1)) [4,10,43,44,45,59,63] [x4,fR,cj,bu,cS,eP,hO] h
def Wc:Prop:=ax (aj P adR (xC P K x4 cj bu L1)) [4,10,43,44,45,65] [x4,fR,cj,bu,cS,gP] h
def Wd:Prop:=ax (aj P adS (xC P K x4 cj bu L1)) [4,10,43,44,45,65,69] [x4,fR,cj,bu,cS,gP,fU] h
def We:Prop:=ax (aj P adT (xC P K x4 cj bu L1)) [4,10,43,44,45,71] [x4,fR,cj,bu,cS,iD] h
def LV:Prop:=ax (aj P aw1 (xC P K x4 cj bu L1)) [4,10,43,44,45,71,81] [x4,fR,cj,bu,cS,iD,jT] h
def anj:Prop:=ax (aj P adU (aar P K x4 cj bu L1)) [4,10,43,44,45,86] [x4,fR,cj,bu,cS,mj] h
def LW:Prop:=ax (aj P aw3 (aar P K x4 cj bu L1)) [4,43,44,45,86,91] [x4,cj,bu,cS,mj,iU] h
def ank:Prop:=ax (aj P aw4 (xz P K)) [4] [x4] h
theorem aGM (l0 au aD:Value) (L1:LQ) (x4 aB:Value) (h:ae):anl P K l0 au aD L1 [x4,aB] h=
 (OP (ai .lss aB aD) λaA=>
 aN aA
 (OP (aZ 2 au aB) λaP=>
 OP (af true 2 h aP) λaL=>
 OH (aV 24 [(.slice none 0 0),(.int .i64 (0))] h) λc6 z1=>
 OH (aG 2 z1 c6 aL) λ_ z2=>
 OP (af true 2 z2 c6) λaS=>
 ak P 80 [aS] z2 λaK z3=>
 OP (cD 0 aK) λaU=>
 OP (cD 1 aK) λba=>
 OP (gq .not ba) λcB=>
 aN cB
 (K (.tuple #[(.slice none 0 0),(.int .i64 (2))]) z3)
 (OP (bk aU) λcV=>
 OP (aJ 1 c6) λb9=>
 OP (af false 1 z3 b9) λcG=>
 OP (dC [(.int .i64 (0)),(.int .i64 (0))] [(0,1,cV),(1,1,cG)]) λcM=>
 OP (dC [(.int .i64 (0)),(.int .i64 (0)),(.slice none 0 0)] [(0,2,cM),(2,1,aU)]) λcC=>
 OH (dN 102 1 [(.int .i64 (0)),(.int .i64 (0)),(.slice none 0 0)] z3 [(0,3,cC)]) λbV z4=>
 OH (eG 102 3 40 z4 x4 bV) λdK z5=>
 OP (ai .add aB (.int .i64 (1))) λcK=>
 ([l0,au,aD]:List Value)=[l0,au,aD]/\L1 [dK,cK] z5))
 (ang P K l0 x4 h)):=az (by kernel_rfl)
theorem apv:V7 P K x4 dO dW h=
 (OP (bF dO (.bool true) dW) λeO=>
 aN eO
 (K (.tuple #[(.slice none 0 0),(.int .i64 (1))]) h)
 (OP (bk x4) λbu=>
 cO [(.int .i64 (0))] h λL1 xs hx=>
 V8 P K x4 x4 bu L1 xs hx)):=az (by kernel_rfl)
theorem aGH:anh P K l0 x4 dO h=
 (ck dO false
 (OP (bk l0) λeJ=>
 OP (ai .gtr eJ (.int .i64 (3))) λdW=>
 V7 P K x4 dO dW h)
 (V7 P K x4 dO undef h)):=az (by kernel_rfl)
theorem apC:LV P K x4 fR cj bu cS iD jT L1 h=
 (OP (bF iD (.bool true) jT) λfc=>
 aN fc
 (K (.tuple #[(.slice none 0 0),(.int .i64 (1))]) h)
 (OP (aJ 2 fR) λlQ=>
 OP (af false 1 h lQ) λeB=>
 ak P 82 [eB,(.func (.func 83) #[] #[])] h λtX z1=>
 anj P K x4 fR cj bu cS tX L1 z1)):=az (by kernel_rfl)
theorem apB:We P K x4 fR cj bu cS iD L1 h=
 (ck iD false
 (OP (aJ 2 fR) λkW=>
 OP (af false 1 h kW) λmi=>
 OP (aJ 0 fR) λfF=>
 OP (aJ 0 fF) λkn=>
 OP (af false 1 h kn) λiE=>
 OP (ai .sub iE (.int .i64 (1))) λil=>
 OP (aZ 4 mi il) λfJ=>
 OP (af true 4 h fJ) λgQ=>
 ak P 81 [gQ] h λgG z1=>
 OP (ai .eql gG (.int .i64 (0))) λjT=>
 LV P K x4 fR cj bu cS iD jT L1 z1)
 (LV P K x4 fR cj bu cS iD undef L1 h)):=az (by kernel_rfl)
theorem apA:Wd P K x4 fR cj bu cS gP fU L1 h=
 (OP (bF gP (.bool true) fU) λmN=>
 We P K x4 fR cj bu cS mN L1 h):=az (by kernel_rfl)
theorem apz:Wc P K x4 fR cj bu cS gP L1 h=
 (ck gP false
 (OP (aJ 0 fR) λjd=>
 OP (aJ 1 jd) λgC=>
 OP (af false 1 h gC) λfw=>
 OP (ai .gtr fw (.int .i64 (50))) λfU=>
 Wd P K x4 fR cj bu cS gP fU L1 h)
 (Wd P K x4 fR cj bu cS gP undef L1 h)):=az (by kernel_rfl)
theorem apy:Wb P K x4 fR cj bu cS eP hO L1 h=
 (OP (bF eP (.bool true) hO) λkf=>
 Wc P K x4 fR cj bu cS kf L1 h):=az (by kernel_rfl)
theorem apx:Wa P K x4 fR cj bu cS eP L1 h=
 (ck eP false
 (OP (aJ 0 fR) λjw=>
 OP (aJ 1 jw) λfI=>
 OP (af false 1 h fI) λng=>
 OP (ai .lss ng (.int .i64 (0))) λhO=>
 Wb P K x4 fR cj bu cS eP hO L1 h)
 (Wb P K x4 fR cj bu cS eP undef L1 h)):=az (by kernel_rfl)
theorem apw:V9 P K x4 fR cj bu cS iS ee L1 h=
 (OP (bF iS (.bool true) ee) λfO=>
 Wa P K x4 fR cj bu cS fO L1 h):=az (by kernel_rfl)
theorem aGJ:ani P K x4 fR cj bu cS iS L1 h=
 (ck iS false
 (OP (aJ 0 fR) λcX=>
 OP (aJ 0 cX) λhI=>
 OP (af false 1 h hI) λiT=>
 OP (ai .gtr iT (.int .i64 (8))) λee=>
 V9 P K x4 fR cj bu cS iS ee L1 h)
 (V9 P K x4 fR cj bu cS iS undef L1 h)):=az (by kernel_rfl)
theorem apD:LW P K x4 cj bu cS mj iU L1 h=
 (OP (bF mj (.bool true) iU) λmO=>
 aN mO
 (K (.tuple #[(.slice none 0 0),(.int .i64 (1))]) h)
 (OP (ai .add cS (.int .i64 (1))) λpa=>
 ([x4,cj,bu]:List Value)=[x4,cj,bu]/\L1 [pa] h)):=az (by kernel_rfl)
theorem aGK:anj P K x4 fR cj bu cS mj L1 h=
 (ck mj false
 (OP (af true 3 h fR) λqA=>
 ak P 85 [qA,(.int .i64 (0))] h λgH z1=>
 ak P 75 [(.int .i64 (1))] z1 λiF z2=>
 ak P 86 [gH,iF] z2 λlR z3=>
 OP (ai .neq lR (.int .i64 (0))) λiU=>
 LW P K x4 cj bu cS mj iU L1 z3)
 (LW P K x4 cj bu cS mj undef L1 h)):=az (by kernel_rfl)
theorem aGI (x4 cj bu:Value) (L1:LQ) (cS:Value) (h:ae):V8 P K x4 cj bu L1 [cS] h=
 (OP (ai .lss cS bu) λcI=>
 aN cI
 (OP (aZ 3 cj cS) λgO=>
 OP (af true 3 h gO) λfE=>
 OH (aV 102 [(.int .i64 (0)),(.int .i64 (0)),(.slice none 0 0)] h) λfR z1=>
 OH (aG 3 z1 fR fE) λ_ z2=>
 OP (aJ 0 fR) λfN=>
 OP (aJ 0 fN) λbY=>
 OP (af false 1 z2 bY) λcg=>
 OP (ai .lss cg (.int .i64 (1))) λde=>
 ani P K x4 fR cj bu cS de L1 z2)
 (ank P K x4 h)):=az (by kernel_rfl)
theorem aGL:ank P K x4 h=
 (K (.tuple #[x4,(.int .i64 (0))]) h):=az (by kernel_rfl)
theorem aGG:ang P K l0 x4 h=
 (OP (bk l0) λdc=>
 OP (ai .lss dc (.int .i64 (1))) λer=>
 anh P K l0 x4 er h):=az (by kernel_rfl)
def Pz:Prop:=
 OP (bk l0) λaD=>
 cO [(.slice none 0 0),(.int .i64 (0))] h λL1 xs hx=>
 anl P K l0 l0 aD L1 xs hx
theorem JJ:aj P IQ (aT [.tmp 2,.tmp 3] K) (bw [l0]) h=Pz P K l0 h:=by kernel_rfl
theorem f43 {K:VK} {l0:Value} {h:ae} (H:Pz prog K l0 h):ak prog 43 [l0] h K:=
 bN k43 (bJ rfl) ((JJ prog K l0 h).mpr H)
end
noncomputable section
variable (j0 x1 j2 x4 x6 x7 x8 x9 d10 au de iT : Value) (L1 : LQ) (xs : List Value) (h : ae)
def ak2:=bE prog 44 [[],[],[],[],[1,2,4,6,8,9],[7,10],[],[],[],[],[],[1,2,4,6,7,8,9,10,11,52],[1,2,4,6,7,8,9,10,11,52,56],[],[1,2,4,6,7,8,9,10],[4,6,7],[]]
@[irreducible] def IT:=bM ak2
@[irreducible] def IU:=IT.r.r.r.l.r.l.l
@[irreducible] def adX:=IT.r.r.r.r
@[irreducible] def adW:=IU.r.l.l.r.r.r.l.r.l
@[irreducible] def aw6:=IU.r.l.l.r.r.r.r
@[irreducible] def adV:=IU.r.r
@[irreducible] def aw9:=adX.l
@[irreducible] def aw7:=adW.r.l
@[irreducible] def aw8:=adV.l
theorem k44:ak2=some (62,IT,[.cell true 4 4,.tmp 5]):=by kernel_rfl
def Oc (_P:Program) (K:VK):ar:=aT [.cell true 4 4,.tmp 5] K
def atu:ar:=aH (aj P adX (Oc P K)) (Oc P K)
def atv:ar:=bH 0 (atu P K)
def Hv:ar:=aH (λf' aX=>(([1,2,4,6,8,9]:List Nat).map f':List Value)=[x1,j2,x4,x6,x8,x9]/\L1 (([7,10]:List Nat).map f') aX) (atv P K)
def att:ar:=aH (aj P adV (Hv P K x1 j2 x4 x6 x8 x9 L1)) (Hv P K x1 j2 x4 x6 x8 x9 L1)
def aas:ar:=bH 1 (att P K x1 j2 x4 x6 x8 x9 L1)
def aat:ar:=aH (aj P aw6 (aas P K x1 j2 x4 x6 x8 x9 L1)) (aas P K x1 j2 x4 x6 x8 x9 L1)
def Wf:Prop:=ax (aj P IU (Hv P K x1 j2 x4 x6 x8 x9 L1)) ([1,2,4,6,8,9]++[7,10]) ([x1,j2,x4,x6,x8,x9]++xs) h
def anm:Prop:=ax (aj P adW (aat P K x1 j2 x4 x6 x8 x9 L1)) [1,2,4,6,7,8,9,10,11,52] [x1,j2,x4,x6,x7,x8,x9,d10,au,de] h
def Gb:Prop:=ax (aj P aw7 (aat P K x1 j2 x4 x6 x8 x9 L1)) [1,2,4,6,7,8,9,10,11,52,56] [x1,j2,x4,x6,x7,x8,x9,d10,au,de,iT] h
def LX:Prop:=ax (aj P aw8 (Hv P K x1 j2 x4 x6 x8 x9 L1)) [1,2,4,6,7,8,9,10] [x1,j2,x4,x6,x7,x8,x9,d10] h
def ann:Prop:=ax (aj P aw9 (Oc P K)) [4,6,7] [x4,x6,x7] h
theorem apE:Gb P K x1 j2 x4 x6 x7 x8 x9 d10 au de iT L1 h=
 (OP (bF de (.bool true) iT) λee=>
 aN ee
 (OP (af true 4 h au) λfO=>
 OH (aG 4 h x6 fO) λ_ z1=>
 LX P K x1 j2 x4 x6 d10 x8 x9 d10 L1 z1)
 (LX P K x1 j2 x4 x6 x7 x8 x9 d10 L1 h)):=az (by kernel_rfl)
theorem aGN:anm P K x1 j2 x4 x6 x7 x8 x9 d10 au de L1 h=
 (ck de false
 (OP (af true 4 h au) λiS=>
 OP (af true 4 h x6) λcX=>
 ak P 86 [iS,cX] h λhI z1=>
 OP (ai .gtr hI (.int .i64 (0))) λiT=>
 Gb P K x1 j2 x4 x6 x7 x8 x9 d10 au de iT L1 z1)
 (Gb P K x1 j2 x4 x6 x7 x8 x9 d10 au de undef L1 h)):=az (by kernel_rfl)
theorem aGO:LX P K x1 j2 x4 x6 x7 x8 x9 d10 L1 h=
 (OP (ai .add d10 (.int .i64 (1))) λcB=>
 ([x1,j2,x4,x6,x8,x9]:List Value)=[x1,j2,x4,x6,x8,x9]/\L1 [x7,cB] h):=az (by kernel_rfl)
theorem aGQ (x1 j2 x4 x6 x8 x9:Value) (L1:LQ) (x7 d10:Value) (h:ae):Wf P K x1 j2 x4 x6 x8 x9 L1 [x7,d10] h=
 (OP (aJ 0 j2) λaL=>
 OP (aJ 0 aL) λbK=>
 OP (af false 1 h bK) λaS=>
 OP (ai .sub aS x1) λaU=>
 OP (ai .leq d10 aU) λba=>
 aN ba
 (OP (af true 4 h x8) λbL=>
 (True)/\
 OP (aJ 2 j2) λbX=>
 OP (af false 1 h bX) λcV=>
 (True)/\
 OP (ai .add x1 d10) λcM=>
 OP (ai .sub cM (.int .i64 (1))) λdm=>
 OP (aZ 4 cV dm) λcC=>
 OP (af true 4 h cC) λbV=>
 (True)/\
 ak P 87 [bL,bV] h λdK z1=>
 (True)/\
 OH (aG 4 z1 x8 dK) λ_ z2=>
 (True)/\
 OP (af true 4 z2 x9) λcK=>
 (True)/\
 OP (af true 3 z2 j2) λdw=>
 (True)/\
 OP (ai .add x1 d10) λdO=>
 OP (ai .sub dO (.int .i64 (1))) λeY=>
 ak P 85 [dw,eY] z2 λeJ z3=>
 (af true 4 z3 x9=some cK/\True)/\
 ak P 87 [cK,eJ] z3 λdW z4=>
 (True)/\
 OH (aG 4 z4 x9 dW) λ_ z5=>
 (True)/\
 OH (aV 107 [(.bool false),(.slice none 0 0),(.bool false),(.slice none 0 0)] z5) λau z6=>
 OP (dh z6 au) λu=>
 (True)/\
 OP (aJ 0 j2) λeO=>
 OP (aJ 1 eO) λcj=>
 OP (af false 1 z6 cj) λbu=>
 (af false 1 z5 cj=some bu/\True)/\
 ak P 75 [bu] z6 λcS z7=>
 (dh z7 au=some u/\True)/\
 OP (af true 4 z7 x8) λcI=>
 (af true 4 z5 x8=some cI/\af true 4 z6 x8=some cI/\True)/\
 ak P 88 [cS,cI] z7 λgO z8=>
 (dh z8 au=some u/\True)/\
 OP (af true 4 z8 x9) λfE=>
 (af true 4 z5 x9=some fE/\af true 4 z6 x9=some fE/\af true 4 z7 x9=some fE/\True)/\
 ak P 77 [gO,fE] z8 λfN z9=>
 (dh z9 au=some u/\True)/\
 OH (aG 4 z9 au fN) λ_ hX=>
 (True)/\
 OP (ai .eql x7 (.int .i64 (0))) λcg=>
 anm P K x1 j2 x4 x6 x7 x8 x9 d10 au cg L1 hX)
 (ann P K x4 x6 x7 h)):=az (by kernel_rfl)
theorem aGP:ann P K x4 x6 x7 h=
 (OP (af true 4 h x6) λjw=>
 OH (aG 4 h x4 jw) λ_ z1=>
 OP (af true 4 z1 x4) λr0=>
 K (.tuple #[r0,x7]) z1):=az (by kernel_rfl)
def PA:Prop:=
 OH (bp 102 h j0) λj2 z1=>
 OH (aV 107 [(.bool false),(.slice none 0 0),(.bool false),(.slice none 0 0)] z1) λx4 z2=>
 ak P 75 [(.int .i64 (0))] z2 λaD z3=>
 OH (aV 107 [(.bool false),(.slice none 0 0),(.bool false),(.slice none 0 0)] z3) λx6 z4=>
 OH (aG 4 z4 x6 aD) λ_ z5=>
 ak P 75 [(.int .i64 (0))] z5 λaB z6=>
 ak P 75 [(.int .i64 (0))] z6 λaA z7=>
 OH (aV 107 [(.bool false),(.slice none 0 0),(.bool false),(.slice none 0 0)] z7) λx8 z8=>
 OH (aV 107 [(.bool false),(.slice none 0 0),(.bool false),(.slice none 0 0)] z8) λx9 z9=>
 OH (aG 4 z9 x8 aB) λ_ hX=>
 OH (aG 4 hX x9 aA) λ_ jx=>
 cO [(.int .i64 (0)),(.int .i64 (1))] jx λL1 xs hx=>
 Wf P K x1 j2 x4 x6 x8 x9 L1 xs hx
theorem e44:aj P IT (aT [.cell true 4 4,.tmp 5] K) (bw [j0,x1]) h=PA P K j0 x1 h:=by kernel_rfl
theorem f44 {K:VK} {j0 x1:Value} {h:ae} (H:PA prog K j0 x1 h):ak prog 44 [j0,x1] h K:=
 bN k44 (bJ rfl) ((e44 prog K j0 x1 h).mpr H)
end
end
section
def jU (h:ae) (v:Value) (cs:List (List (List UInt8)×Int)):Prop:=
 ∃rows,RS h 24 2 v rows/\rows.length=cs.length/\∀(k:Nat) (row:List Value) (c:List (List UInt8)×Int),rows[k]?=some row->cs[k]?=some c->∃vs,row=[vs,I c.2]/\SS h vs c.1
theorem jU.mono {h h':ae} {v:Value} {cs:List (List (List UInt8)×Int)} (x:EX h h') (p:jU h v cs):jU h' v cs:=
 let ⟨rows,a,b,c⟩:=p;⟨rows,a.mono x,b,λk row q h1 h2=>let ⟨vq,e,m⟩:=c k row q h1 h2;⟨vq,e,m.mono x⟩⟩
theorem jU.len {h:ae} {v:Value} {cs:List (List (List UInt8)×Int)} (p:jU h v cs):bk v=some (I cs.length):=by
 obtain ⟨rows,a,b,_⟩:=p;rw [<-b];exact a.len
theorem jU.get {h:ae} {v:Value} {cs:List (List (List UInt8)×Int)} (p:jU h v cs) {k:Nat} (hk:k<cs.length):∃i o vs,aZ 2 v (I k)=some (pt i o)/\af true 2 h (pt i o)=some (.agg #[vs,I cs[k].2])/\SS h vs cs[k].1:=by
 obtain ⟨rows,a,b,c⟩:=p
 have bD:k<rows.length:=by omega
 obtain ⟨i,o,cells,g1,g2,g3,g4⟩:=a.get bD
 obtain ⟨vq,e,m⟩:=c k _ _ (getElem?_eq_getElem bD) (getElem?_eq_getElem hk)
 have:=Xy g2 g3 g4
 rw [e] at this
 exact ⟨i,o,vq,g1,this,m⟩
def wN (qs:List Rat):Bool:=decide ((qs.getD (qs.length-1) 0).num=0)
def dM (qs:List Rat) (w:Int):Bool:=(((decide (1<=qs.length)&&decide (qs.length<=8))&&(decide (0<=w)&&decide (w<=50)))&& !wN qs)&&(!qs.any gw&&decide (cR qs=1))
theorem vV {qs:List Rat} (h:qs.any gw=false):∀q∈qs,cd 4 q:=by
 intro q hq
 have:gw q=false:=by
  cases e:gw q with
  | false=>rfl
  | true=>rw [List.any_eq_true.2 ⟨q,hq,e⟩] at h;cases h
 unfold gw vU at this
 rw [Bool.or_eq_false_iff,Bool.not_eq_false',and_eq_true,decide_eq_true_eq,decide_eq_true_eq] at this
 exact this.2
theorem Vj:cd 1 ((1:Int):Rat):=by constructor <;> decide
theorem afP (p q:Rat):decide (lW p q=0)=decide (p=q):=by
 rw [decide_eq_decide]
 unfold lW
 constructor
 ·intro h
  split at h
  ·assumption
  ·split at h <;> omega
 ·intro h;rw [if_pos h]
section
variable {h : ae} {K : Value -> ae -> Prop}
theorem arx {v0 v:Value} {cs:List (List Rat×Int)} (hv:LK h v cs) (hn:cs.length<=3) (hs:∀c∈cs,(∀q∈c.1,cd yG q)/\c.1.length<=1000)
  (nC:cs.all (λc=>dM c.1 c.2)=false->∀h',EX h h'->K (.tuple #[.slice none 0 0,I 1]) h')
  (hk:cs.all (λc=>dM c.1 c.2)=true->∀h',EX h h'->K (.tuple #[v0,I 0]) h'):
  cO [(.int .i64 (0))] h λL1 xs hx=>V8 prog K v0 v (I cs.length) L1 xs hx:=by
 refine dF (σ:=Nat×ae) (λq=>[I q.1]) (λq=>q.2) (λq=>q.1<=cs.length/\EX h q.2/\(cs.take q.1).all (λc=>dM c.1 c.2)=true) (λq=>cs.length-q.1) (0,h) rfl rfl ⟨zero_le _,EX.refl _,by simp⟩ ?_
 rintro ⟨i,g⟩ ⟨hi,xg,gy⟩ L hL
 simp only at hi xg gy hL⊢
 rw [aGI]
 simp only [cW,ah,bQ]
 refine ⟨λaF=>?_,λcU=>?_⟩
 rotate_left
 ·have fZ:i=cs.length:=by omega
  subst fZ
  rw [take_length] at gy
  rw [aGL]
  exact hk gy g xg
 have bn:i<cs.length:=by omega
 obtain ⟨b,o,vq,u1,u2,u3⟩:=(hv.mono xg).get bn
 obtain ⟨sq,sl⟩:=hs _ (getElem_mem bn)
 have nok:dM cs[i].1 cs[i].2=false->cs.all (λc=>dM c.1 c.2)=false:=by
  intro hb
  cases e:cs.all (λc=>dM c.1 c.2) with
  | false=>rfl
  | true=>rw [List.all_eq_true] at e;rw [e _ (getElem_mem bn)] at hb;cases hb
 have yok:dM cs[i].1 cs[i].2=true->(cs.take (i+1)).all (λc=>dM c.1 c.2)=true:=by
  intro hb
  rw [take_succ_eq_append_getElem bn,List.all_append,gy]
  simpa using hb
 generalize cs[i].1=qs at*
 generalize cs[i].2=w at*
 obtain ⟨rq,rs,_,_⟩:=id u3.1
 obtain ⟨t1,t2⟩:=rs.one
 have e7:aV 102 [(.int .i64 (0)),(.int .i64 (0)),(.slice none 0 0)] g=some (pt g.length 0,g++[.arr 102 [I 0,I 0,.slice none 0 0]]):=rfl
 simp only [u1,u2,ah,e7,aE]
 have y1:EX g (g++[.arr 102 [I 0,I 0,.slice none 0 0]]):=EX.append _ _
 have j1:(g++[aq.arr 102 [I 0,I 0,.slice none 0 0]])[g.length]?=some (.arr 102 [I 0,I 0,.slice none 0 0]):=br
 generalize g++[aq.arr 102 [I 0,I 0,.slice none 0 0]]=ga at y1 j1⊢
 have st:aG 3 ga (pt g.length 0) (.agg #[I qs.length,I w,vq])=some (undef,ga.set g.length (.arr 102 [I qs.length,I w,vq])):=by
  simp [aG,wK,j1,jq,dU,Value.cells,setAt]
 simp only [st,aE]
 have y2:EX g (ga.set g.length (.arr 102 [I qs.length,I w,vq])):=y1.set (le_refl _) _
 have j2:(ga.set g.length (.arr 102 [I qs.length,I w,vq]))[g.length]?=some (.arr 102 [I qs.length,I w,vq]):=cJ j1
 generalize ga.set g.length (.arr 102 [I qs.length,I w,vq])=gb at y2 j2⊢
 have xb:=xg.trans y2
 have l0:∀{g':ae},EX gb g'->af false 1 g' (pt g.length 0)=some (I qs.length):=λx=>by simp [af,aW,x.get j2,cP]
 have l1:∀{g':ae},EX gb g'->af false 1 g' (pt g.length 1)=some (I w):=λx=>by simp [af,aW,x.get j2,cP]
 have l2:∀{g':ae},EX gb g'->af false 1 g' (pt g.length 2)=some vq:=λx=>by simp [af,aW,x.get j2,cP]
 have la:∀{g':ae},EX gb g'->af true 3 g' (pt g.length 0)=some (.agg #[I qs.length,I w,vq]):=λx=>by simp [af,aW,x.get j2,cP]
 have qU:∀{g':ae},EX gb g'->QL g' vq qs:=λx=>u3.1.mono (y2.trans x)
 -- it may not be
 have bad:∀{g':ae},EX gb g'->dM qs w=false->K (.tuple #[.slice none 0 0,.int .i64 (1)]) g':=λx hb=>nC (nok hb) _ (xb.trans x)
 have b56:∀{g':ae} (t u:Value),EX gb g'->dM qs w=false->bF t (.bool true) u=some (B true)->LW prog K v0 v (I cs.length) (I i) t u L g':=by
  intro g' t u x hb ht
  rw [apD,ht]
  simp only [ah,dA]
  exact bad x hb
 have b50:∀{g':ae} (t u:Value),EX gb g'->dM qs w=false->bF t (.bool true) u=some (B true)->LV prog K v0 (pt g.length 0) v (I cs.length) (I i) t u L g':=by
  intro g' t u x hb ht
  rw [apC,ht]
  simp only [ah,dA]
  exact bad x hb
 have b48:∀{g':ae},EX gb g'->dM qs w=false->We prog K v0 (pt g.length 0) v (I cs.length) (I i) (B true) L g':=by
  intro g' x hb
  rw [apB]
  simp only [fW]
  exact b50 _ _ x hb rfl
 have b44:∀{g':ae},EX gb g'->dM qs w=false->Wc prog K v0 (pt g.length 0) v (I cs.length) (I i) (B true) L g':=by
  intro g' x hb
  rw [apz]
  simp only [fW]
  rw [apA]
  simp only [dY,ah]
  exact b48 x hb
 have b40:∀{g':ae},EX gb g'->dM qs w=false->Wa prog K v0 (pt g.length 0) v (I cs.length) (I i) (B true) L g':=by
  intro g' x hb
  rw [apx]
  simp only [fW]
  rw [apy]
  simp only [dY,ah]
  exact b44 x hb
 simp only [bZ,add_zero,ah,l0 (EX.refl gb),cW]
 rw [aGJ]
 by_cases h1:1<=qs.length
 rotate_left
 ·have hb:dM qs w=false:=by unfold dM;rw [aY h1];rfl
  rw [bj (show (qs.length:Int)<1 by omega)]
  simp only [fW]
  rw [apw]
  simp only [dY,ah]
  exact b40 (EX.refl gb) hb
 rw [aY (show ¬(qs.length:Int)<1 by omega)]
 simp only [eL,bZ,add_zero,ah,l0 (EX.refl gb),fQ]
 rw [apw]
 simp only [dQ,ah]
 by_cases h8:qs.length<=8
 rotate_left
 ·have hb:dM qs w=false:=by unfold dM;rw [aY h8];simp
  rw [bj (show (8:Int)<(qs.length:Int) by omega)]
  exact b40 (EX.refl gb) hb
 rw [aY (show ¬(8:Int)<(qs.length:Int) by omega),apx]
 simp only [eL,bZ,add_zero,zero_add,ah,l1 (EX.refl gb),cW]
 rw [apy]
 simp only [dQ,ah]
 by_cases w0:0<=w
 rotate_left
 ·have hb:dM qs w=false:=by unfold dM;rw [aY w0];simp
  rw [bj (show w<0 by omega)]
  exact b44 (EX.refl gb) hb
 rw [aY (show ¬w<0 by omega),apz]
 simp only [eL,bZ,add_zero,zero_add,ah,l1 (EX.refl gb),fQ]
 rw [apA]
 simp only [dQ,ah]
 by_cases nc:w<=50
 rotate_left
 ·have hb:dM qs w=false:=by unfold dM;rw [aY nc];simp
  rw [bj (show 50<w by omega)]
  exact b48 (EX.refl gb) hb
 rw [aY (show ¬50<w by omega),apB]
 have w1:IntKind.wrap .i64 ((qs.length:Int)-1)=((qs.length-1:Nat):Int):=by rw [wrap64 (by omega) (by omega)];omega
 obtain ⟨b5,o5,r5,s1,s2,s3⟩:=(qU (EX.refl gb)).get (k:=qs.length-1) (by omega)
 simp only [eL,bZ,add_zero,zero_add,ah,l2 (EX.refl gb),l0 (EX.refl gb),gE,w1,s1,s2]
 refine ZA s3 ?_
 intro g1 x1
 have hz:decide (jG (qs[qs.length-1]'(by omega)).num=0)=wN qs:=by
  unfold wN
  rw [List.getD_eq_getElem?_getD,getElem?_eq_getElem (by omega),getD_some,decide_eq_decide]
  unfold jG
  split
  ·simp [*]
  ·split <;> simp [*]
 simp only [hY,ah,hz]
 cases hlz:wN qs with
 | true=>
  have hb:dM qs w=false:=by unfold dM;rw [hlz];simp
  exact b50 _ _ x1 hb rfl
 | false=>
 rw [apC]
 simp only [dQ,ah,dD,bZ,zero_add,l2 x1]
 refine C82 (qU x1) sq sl ?_
 intro g2 x2
 have aD:=x1.trans x2
 rw [aGK]
 cases iL:qs.any gw with
 | true=>
  have hb:dM qs w=false:=by unfold dM;rw [iL];simp
  simp only [fW]
  exact b56 _ _ aD hb rfl
 | false=>
 simp only [eL,la aD,ah]
 have s4:=vV iL
 refine NF (age:=0) (qU aD) (zero_le _) s4 (by omega) ?_
 intro r3 g3 x3 CB
 rw [List.drop_zero] at CB
 have ssz:=Br s4 qs.length (le_refl _)
 rw [take_length] at ssz
 refine ub (n:=1) (by decide) (by decide) ?_
 intro r4 g4 x4 wy
 refine G9 (CB.mono x4) wy ssz Vj (by omega) ?_
 intro g5 x5
 have aP:=aD.trans (x3.trans (x4.trans x5))
 have hc:(!decide (lW (cR qs) ((1:Int):Rat)=0))= !decide (cR qs=1):=by rw [afP];rfl
 simp only [oA,ah,hc]
 have aI:dM qs w=decide (cR qs=1):=by
  unfold dM
  rw [bj h1,bj h8,bj w0,bj nc,hlz,iL];simp
 by_cases jF:cR qs=1
 ·rw [bj jF] at aI⊢
  rw [apD]
  simp only [Bool.not_true,dQ,ah,dD,cL,ft i (by omega),true_and]
  exact hL (i+1,g5) ⟨by show i+1<=_;omega,xb.trans aP,yok aI⟩ (by show cs.length-(i+1)<cs.length-i;omega)
 ·rw [aY jF] at aI⊢
  exact b56 _ _ aP aI rfl
end
end
section
open Go.Sim Go.ChangeShapes Go.WideShapes Go.ChangeAt Go.RowKit
set_option maxRecDepth 100000
theorem Rs:prog.cellsOf 27=1:=by kernel_rfl
theorem ayV:prog.cellsOf 22=1:=by kernel_rfl
theorem Ju:prog.cellsOf 24=2:=by kernel_rfl
theorem aKn:prog.underlying 22=some (.slice 27):=by kernel_rfl
theorem aqK:prog.underlying 27=some .string:=by kernel_rfl
theorem Yj:prog.underlying 25=some (.slice 24):=by kernel_rfl
section
variable {H : Type} {enc : TypeId × Value -> H} {W : World} {ρ : aO} {h : ae}
theorem aKm:∀n cs (y:DataW H×List MemPlace),DataW.trod enc prog W 0 (λ_=>true) true n 27 cs=some y->cs.length=prog.cellsOf 27/\∀x∈cs,gA x=true:=by
 intro n cs y h
 obtain ⟨s,rfl,_,_⟩:=DataW.trod_string aqK h
 exact ⟨by rw [Rs];rfl,by simp [gA]⟩
theorem aJ6:∀{n:Nat} {xs:List Value},xs.length=n*1->(∀i,i<n->∃m,∃y:DataW H×List MemPlace,DataW.trod enc prog W 0 (λ_=>true) true m 27 ((xs.drop (i*1)).take 1)=some y)->∃ls:List (List UInt8),ls.length=n/\xs=ls.map S:=by
 intro n
 induction n with
 | zero=>intro xs hx _;exact ⟨[],rfl,by simpa using hx⟩
 | succ n ih=>
  intro xs hx hy
  cases xs with
  | nil=>simp at hx
  | cons x xs=>
   obtain ⟨m,y,h0⟩:=hy 0 (by omega)
   obtain ⟨s,e1,_⟩:=DataW.trod_string aqK h0
   have ex:x=.string s:=by simpa using e1
   obtain ⟨ls,l1,l2⟩:=ih (xs:=xs) (by simpa using hx) λi hi=>by
    obtain ⟨m,y,h1⟩:=hy (i+1) (by omega)
    refine ⟨m,y,?_⟩
    simpa using h1
   refine ⟨Go.Sim.bytes s::ls,by simp [l1],?_⟩
   rw [List.map_cons,auV,<-ex,<-l2]
theorem aAd {fuel:Nat} {v:Value} {x:DataW H×List MemPlace} (hd:DataW.trod enc prog W 0 (λ_=>true) true fuel 22 [v]=some x) (HR:a9 prog ρ h W) (jE:mh h):
  ∃(av:aO) (g:ae) (v':Value) (ls:List (List UInt8)),ρ.le av/\a9 prog av (h++g) W/\mh (h++g)/\aC av v' v/\gF v'=true/\SS (h++g) v' ls:=by
 obtain ⟨av,g,v',n,xs,e1,e2,e3,e4,e5,e6,e7,e8,e9⟩:=aAa (P:=prog) (W:=W) (enc:=enc) (ρ:=ρ) (h:=h) aKn (by rw [Rs];omega) aKm hd HR jE
 rw [Rs] at e7 e9
 obtain ⟨ls,q1,rfl⟩:=aJ6 e7 e9
 subst q1
 refine ⟨av,g,v',ls,e1,e2,e3,e4,e5,?_⟩
 rcases e6 with ⟨hv,h0⟩ | ⟨i,rfl,h0⟩
 ·have:ls=[]:=List.length_eq_zero_iff.1 h0
  subst this
  rcases hv with rfl | rfl <;> exact ⟨rfl,λk hk=>by simp at hk⟩
 ·rcases h0 with h0 | h0
  ·have:ls=[]:=List.length_eq_zero_iff.1 h0
   subst this
   exact ⟨rfl,λk hk=>by simp at hk⟩
  ·exact SS.sl h0
theorem ayX {n:Nat} {cs:List Value} {y:DataW H×List MemPlace} (hd:DataW.trod enc prog W 0 (λ_=>true) true n 24 cs=some y) (HR:a9 prog ρ h W) (jE:mh h):
  ∃(av:aO) (g:ae) (row:List Value) (c:List (List UInt8)×Int),ρ.le av/\a9 prog av (h++g) W/\mh (h++g)/\bR av row cs/\(∀x∈row,gF x=true)/\row.length=prog.cellsOf 24/\∃vs,row=[vs,I c.2]/\SS (h++g) vs c.1:=by
 obtain ⟨y0,y1,m,_,hl,h0,h1⟩:=trod_struct2 Tryz.underlying24 hd
 simp only [Ju,ayV,ayW] at hl h0 h1
 obtain ⟨c0,c1,rfl⟩:=aDT hl
 simp at h0 h1
 obtain ⟨w,e1,_,_⟩:=DataW.trod_int Tryz.underlying3 h1
 simp at e1
 subst e1
 obtain ⟨av,g,v',ls,a1,a2,a3,a4,a5,a6⟩:=aAd h0 HR jE
 refine ⟨av,g,[v',I w],(ls,w),a1,a2,a3,.cons a4 (.cons (.int _ _) .nil),?_,by rw [Ju];rfl,v',rfl,a6⟩
 intro x hx
 rcases List.mem_cons.1 hx with rfl | hx
 ·exact a5
 ·rw [mem_singleton.1 hx];rfl
theorem az9 {b:Nat} {v:Value} {d:DataW H} {ps:List MemPlace} (aI:Value.okWide prog W .any b 25 v) (hd:DataW.Trod enc prog W 0 (λ_=>true) true 25 v d ps) (HR:a9 prog ρ h W) (jE:mh h):
  ∃(av:aO) (g:ae) (v':Value) (cs:List (List (List UInt8)×Int)),ρ.le av/\a9 prog av (h++g) W/\mh (h++g)/\aC av v' v/\jU (h++g) v' cs:=by
 simp only [Value.okWide,Yj] at aI
 obtain ⟨fuel,hf⟩:=hd
 rw [aJQ Yj aI] at hf
 obtain ⟨av,g,v',rows,is,e1,e2,e3,e4,e5,e6,e7,e8,e9⟩:=aAb (P:=prog) (W:=W) (enc:=enc) (ρ:=ρ) (h:=h) (I:=List (List UInt8)×Int) Yj (by rw [Ju];omega)
  (λh row c=>∃vs,row=[vs,I c.2]/\SS h vs c.1) (λ⟨vs,a,b⟩=>⟨vs,a,b.mono (EX.append _ _)⟩) (λn cs y h1 h2 h3=>ayX h1 h2 h3) hf aI HR jE
 refine ⟨av,g,v',is,e1,e2,e3,e4,rows,⟨λr hr=>by rw [e7 r hr,Ju],?_⟩,e8,e9⟩
 rcases e6 with e6 | ⟨i,a,b⟩
 ·exact .inl e6
 ·exact .inr ⟨i,0,a,b.imp id λc=>⟨[],[],by simpa using c,rfl⟩⟩
end
end
section
def bf (cs:List (List (List UInt8)×Int)):List (List Rat×Int):=cs.map λc=>(c.1.map bP,c.2)
def lB (cs:List (List (List UInt8)×Int)):Bool:=cs.all λc=>c.1.all jo
def um (cs:List (List (List UInt8)×Int)):Bool:=(decide (1<=cs.length)&&decide (cs.length<=3))&&(bf cs).all λc=>dM c.1 c.2
section
variable {h : ae} {K : Value -> ae -> Prop}
theorem Zm {v:Value} {cs:List (List (List UInt8)×Int)} (hv:jU h v cs) (hl:∀c∈cs,c.1.length<=1000/\∀s∈c.1,s.length<=700) (hn:cs.length<=1000)
  (ti:lB cs=false->∀h',EX h h'->K (.tuple #[.slice none 0 0,I 2]) h')
  (nC:lB cs=true->um cs=false->∀h',EX h h'->K (.tuple #[.slice none 0 0,I 1]) h')
  (hk:lB cs=true->um cs=true->∀v' h',EX h h'->LK h' v' (bf cs)->K (.tuple #[v',I 0]) h'):ak prog 43 [v] h K:=by
 refine f43 ?_
 unfold Pz
 have hlen:=hv.len
 simp only [hlen,ah]
 refine dF (σ:=Nat×Value×ae) (λq=>[q.2.1,I q.1]) (λq=>q.2.2) (λq=>q.1<=cs.length/\EX h q.2.2/\lB (cs.take q.1)=true/\qE h.length q.2.2 q.2.1 (bf (cs.take q.1))) (λq=>cs.length-q.1)
  (0,.slice none 0 0,h) rfl rfl ⟨zero_le _,EX.refl _,by simp [lB],by simpa [bf] using qE.start h.length h⟩ ?_
 rintro ⟨i,vo,g⟩ ⟨hi,xg,qQ,own⟩ L hL
 simp only at hi xg qQ own hL⊢
 rw [aGM]
 simp only [cW,ah,bQ]
 refine ⟨λaF=>?_,λcU=>?_⟩
 ·have bn:i<cs.length:=by omega
  obtain ⟨b,o,vs,u1,u2,u3⟩:=(hv.mono xg).get bn
  obtain ⟨l1,l2⟩:=hl _ (getElem_mem bn)
  have e7:aV 24 [(.slice none 0 0),(.int .i64 (0))] g=some (pt g.length 0,g++[.arr 24 [.slice none 0 0,I 0]]):=rfl
  simp only [u1,u2,ah,e7,aE]
  have y1:EX g (g++[.arr 24 [.slice none 0 0,I 0]]):=EX.append _ _
  have j1:(g++[aq.arr 24 [.slice none 0 0,I 0]])[g.length]?=some (.arr 24 [.slice none 0 0,I 0]):=br
  generalize g++[aq.arr 24 [.slice none 0 0,I 0]]=ga at y1 j1⊢
  rw [fM j1]
  simp only [aE]
  have y2:EX g (ga.set g.length (.arr 24 [vs,I cs[i].2])):=y1.set (le_refl _) _
  have j2:(ga.set g.length (.arr 24 [vs,I cs[i].2]))[g.length]?=some (.arr 24 [vs,I cs[i].2]):=cJ j1
  generalize ga.set g.length (.arr 24 [vs,I cs[i].2])=gb at y2 j2⊢
  rw [cZ j2,ah]
  refine C80 (u3.mono y2) l2 l1 (λgy vq g1 bq x1 ho=>?_) (λdV g1 x1=>?_)
  ·have hq:=ho.qb
   have hlq:=hq.1.len
   obtain ⟨rq,rs,_,_⟩:=id hq.1
   have qj:af false 1 g1 (pt g.length 1)=some (I cs[i].2):=by simp [af,aW,x1.get j2,cP]
   have bl:∀a c:Int,dC [(.int .i64 (0)),(.int .i64 (0))] [(0,1,I a),(1,1,I c)]=some (.agg #[I a,I c]):=λ_ _=>rfl
   have bl2:∀a c:Int,dC [(.int .i64 (0)),(.int .i64 (0)),(.slice none 0 0)] [(0,2,.agg #[I a,I c]),(2,1,vq)]=some (.agg #[I a,I c,vq]):=λa c=>by
    rcases rs.2 with ⟨e,_⟩ | ⟨i,o,e,_⟩ <;> rw [e] <;> rfl
   simp only [eR,fv,fz,ah,oW,Bool.not_true,dD,hlq,bZ,zero_add,qj,bl,bl2]
   have x2:=y2.trans x1
   refine (own.ex x2).app (xg.trans x2) hq rfl (by unfold bf;rw [List.length_map,length_take];omega) ?_
   intro v' g3 x3 _ FY
   simp only [cL,ah,ft i (by omega),true_and]
   refine hL (i+1,v',g3) ⟨by show i+1<=_;omega,x3,?_,?_⟩ (by show cs.length-(i+1)<cs.length-i;omega)
   ·show lB (cs.take (i+1))=true
    unfold lB at qQ⊢
    rw [take_succ_eq_append_getElem bn,List.all_append,qQ]
    simpa using gy
   ·show qE h.length g3 v' (bf (cs.take (i+1)))
    rw [take_succ_eq_append_getElem bn]
    have e:bf (cs.take i++[cs[i]])=bf (cs.take i)++[(cs[i].1.map bP,cs[i].2)]:=by unfold bf;rw [List.map_append];rfl
    rw [e]
    exact FY
  ·simp only [eR,fv,fz,ah,oW,Bool.not_false,dA]
   refine ti ?_ _ (xg.trans (y2.trans x1))
   cases he:lB cs with
   | false=>rfl
   | true=>
    unfold lB at he
    rw [List.all_eq_true] at he
    rw [he _ (getElem_mem bn)] at dV
    cases dV
 ·have fZ:i=cs.length:=by omega
  subst fZ
  rw [take_length] at qQ own
  have nC:=nC qQ
  have hk:=hk qQ
  have lk:=own.lk
  have jl:(bf cs).length=cs.length:=by simp [bf]
  have llk:=lk.len
  rw [jl] at llk
  unfold um at nC hk
  rw [aGG]
  simp only [hlen,ah,cW]
  rw [aGH]
  by_cases h1:1<=cs.length
  rotate_left
  ·rw [aY h1] at nC
   rw [bj (show (cs.length:Int)<1 by omega)]
   simp only [fW]
   rw [apv]
   simp only [dY,ah,dA]
   exact nC rfl g xg
  rw [bj h1] at nC hk
  rw [aY (show ¬(cs.length:Int)<1 by omega)]
  simp only [eL,hlen,ah,fQ]
  rw [apv]
  simp only [dQ,ah]
  by_cases h3:cs.length<=3
  rotate_left
  ·rw [aY h3] at nC
   rw [bj (show (3:Int)<(cs.length:Int) by omega)]
   simp only [dA]
   exact nC rfl g xg
  rw [bj h3] at nC hk
  rw [aY (show ¬(3:Int)<(cs.length:Int) by omega)]
  simp only [dD,llk,ah]
  rw [<-jl]
  refine arx lk (by omega) (λc hc=>?_) (λha h' x=>nC (by rw [ha];rfl) h' (xg.trans x)) (λha h' x=>hk (by rw [ha];rfl) vo h' (xg.trans x) (lk.mono x))
  obtain ⟨d,hd,rfl⟩:=List.mem_map.1 hc
  obtain ⟨l1,l2⟩:=hl d hd
  refine ⟨λq hq=>?_,by simpa using l1⟩
  obtain ⟨s,hs,rfl⟩:=List.mem_map.1 hq
  exact aIF (l2 s hs)
end
end
section
def Cell (g:ae) (i:Nat) (q:Rat):Prop:=∃a b c d,g[i]?=some (.arr 107 [B a,b,B c,d])/\RV g (.agg #[B a,b,B c,d]) q
theorem Cell.mono {g g':ae} {i:Nat} {q:Rat} (x:EX g g') (p:Cell g i q):Cell g' i q:=let ⟨a,b,c,d,e,r⟩:=p;⟨a,b,c,d,x.get e,r.mono x⟩
theorem Cell.lt {g:ae} {i:Nat} {q:Rat} (p:Cell g i q):i<g.length:=let ⟨_,_,_,_,e,_⟩:=p;(bz e).1
theorem Cell.load {g:ae} {i:Nat} {q:Rat} (p:Cell g i q):∃v,af true 4 g (pt i 0)=some v/\RV g v q:=let ⟨_,_,_,_,e,r⟩:=p;⟨_,gX e,r⟩
structure zy (g g':ae) (i:Nat) (q:Rat):Prop where
 cell:Cell g' i q
 len:g'.length=g.length
 old:∀j,j≠i->g'[j]?=g[j]?
 val:∀{v:Value} {p:Rat},RV g v p->RV g' v p
theorem Rq {g:ae} {i:Nat} {v:Value} {q:Rat} {s:Bool} {b c d:Value} (hg:g[i]?=some (.arr 107 [.bool s,b,c,d])) (hv:RV g v q):∃g',aG 4 g (pt i 0) v=some (undef,g')/\zy g g' i q:=by
 obtain ⟨a',b',c',d',rfl⟩:=hv.agg
 refine ⟨_,m8 hg,⟨⟨a',b',c',d',cJ hg,hv.bT hg _⟩,by simp,λj hj=>getElem?_set_ne (λh=>hj h.symm),λh=>h.bT hg _⟩⟩
theorem zy.ex {h0 g g':ae} {i:Nat} {q:Rat} (s:zy g g' i q) (x:EX h0 g) (hi:h0.length<=i):EX h0 g':=
 ⟨by rw [s.len];exact x.1,λj hj=>by rw [s.old j (by omega)];exact x.2 j hj⟩
theorem zy.eX {g g':ae} {i j:Nat} {q p:Rat} (s:zy g g' i q) (hj:j≠i) (c:Cell g j p):Cell g' j p:=
 let ⟨a,b,e,d,k,r⟩:=c;⟨a,b,e,d,by rw [s.old j hj];exact k,s.val r⟩
structure OC where
 bU:Rat
 gT:Nat
 done:Rat
 ke:Rat
def bW (qs:List Rat) (w:Int) (age:Nat):Nat->OC
 | 0=>⟨0,0,0,0⟩
 | d+1=>
  let s:=bW qs w age d
  let done:=s.done+qs.getD (age+d) 0
  let ke:=s.ke+cR (qs.drop (age+d))
  let x:=(w:Rat)*done / ke
  if s.gT=0∨s.bU<x then ⟨x,d+1,done,ke⟩ else ⟨s.bU,s.gT,done,ke⟩
theorem tQ (qs:List Rat) (w:Int) (age d:Nat):(bW qs w age (d+1)).done=(bW qs w age d).done+qs.getD (age+d) 0/\(bW qs w age (d+1)).ke=(bW qs w age d).ke+cR (qs.drop (age+d)):=by
 simp only [bW]
 split <;> exact ⟨rfl,rfl⟩
theorem CU {q:Rat}:0<q↔0<q.num:=by
 rw [Rat.lt_iff]
 simp
theorem aj3 {q:Rat}:0<=q↔0<=q.num:=by
 rw [Rat.le_iff]
 simp
theorem Ya {l:List Rat} (h:∀q∈l,0<=q):∀i,i<=l.length->0<=cR (l.take i)
 | 0,_=>by rw [List.take_zero];exact Rat.le_refl
 | i+1,hi=>by
  rw [Dj (by omega)]
  exact Rat.add_nonneg (Ya h i (by omega)) (h _ (getElem_mem _))
theorem oB {qs:List Rat} {w:Int} (h:dM qs w=true):(1<=qs.length/\qs.length<=8)/\(0<=w/\w<=50)/\qs.any gw=false/\cR qs=1/\(∀q∈qs,0<=q)/\∀h0:0<qs.length,0<qs[qs.length-1]:=by
 unfold dM at h
 simp only [and_eq_true,decide_eq_true_eq,Bool.not_eq_true'] at h
 obtain ⟨⟨⟨a,b⟩,c⟩,d,e⟩:=h
 have nn:∀q∈qs,0<=q:=by
  intro q hq
  have:gw q=false:=by
   cases e:gw q with
   | false=>rfl
   | true=>rw [List.any_eq_true.2 ⟨q,hq,e⟩] at d;cases d
  unfold gw at this
  rw [Bool.or_eq_false_iff,decide_eq_false_iff_not] at this
  rw [aj3];omega
 refine ⟨a,b,d,e,nn,λh0=>?_⟩
 have h1:=nn _ (getElem_mem (l:=qs) (n:=qs.length-1) (by omega))
 rw [aj3] at h1
 rw [CU]
 unfold wN at c
 rw [List.getD_eq_getElem?_getD,getElem?_eq_getElem (by omega),getD_some,decide_eq_false_iff_not] at c
 omega
theorem xW {qs:List Rat} {w:Int} (h:dM qs w=true) {k:Nat} (hk:k<qs.length):0<cR (qs.drop k):=by
 obtain ⟨_,_,_,_,nn,last⟩:=oB h
 have hl:=last (by omega)
 have hn:∀q∈qs.drop k,0<=q:=λq hq=>nn q (mem_of_mem_drop hq)
 have e:(qs.drop k).take ((qs.drop k).length-1+1)=qs.drop k:=List.take_of_length_le (by omega)
 have oG:(qs.drop k).length=qs.length-k:=length_drop
 have h1:=Ya hn ((qs.drop k).length-1) (by omega)
 rw [<-e,Dj (by omega)]
 have e2:(qs.drop k)[(qs.drop k).length-1]'(by omega)=qs[qs.length-1]'(by omega):=by
  rw [List.getElem_drop]
  congr 1
  omega
 rw [e2]
 generalize cR ((qs.drop k).take ((qs.drop k).length-1))=a at*
 generalize qs[qs.length-1]'(by omega)=b at*
 grind
theorem Dr {qs:List Rat} {w:Int} (h:dM qs w=true) {age:Nat}:∀{d:Nat},age+d<=qs.length->0<=(bW qs w age d).ke/\(0<d->0<(bW qs w age d).ke)
 | 0,_=>⟨Rat.le_refl,λh=>absurd h (by decide)⟩
 | d+1,hd=>by
  have ih:=(Dr (age:=age) (d:=d) h (by omega)).1
  have hp:=xW h (k:=age+d) (by omega)
  rw [(tQ qs w age d).2]
  generalize (bW qs w age d).ke=a at*
  generalize cR (qs.drop (age+d))=b at*
  refine ⟨by grind,λ_=>by grind⟩
theorem Dg {qs:List Rat} {w:Int} (h:dM qs w=true) {age:Nat}:∀{d:Nat},age+d<=qs.length->cd (5*d+1) (bW qs w age d).done/\cd (42*d+1) (bW qs w age d).ke
 | 0,_=>⟨cd.zero,cd.zero⟩
 | d+1,hd=>by
  obtain ⟨i1,i2⟩:=Dg (age:=age) (d:=d) h (by omega)
  obtain ⟨⟨_,l8⟩,_,hb,_⟩:=oB h
  have s4:=vV hb
  obtain ⟨e1,e2⟩:=tQ qs w age d
  have hs:=Br (qs:=qs.drop (age+d)) (λq hq=>s4 q (mem_of_mem_drop hq)) _ (le_refl _)
  rw [take_length,length_drop] at hs
  have hg:cd 4 (qs.getD (age+d) 0):=by
   rw [List.getD_eq_getElem?_getD,getElem?_eq_getElem (by omega),getD_some]
   exact s4 _ (getElem_mem _)
  rw [e1,e2]
  have j1:=i1.add hg
  have j2:=i2.add hs
  exact ⟨cd.le j1 (show 5*d+1+4+1<=5*(d+1)+1 by omega),cd.le j2 (show 42*d+1+(5*(qs.length-(age+d))+1)+1<=42*(d+1)+1 by omega)⟩
theorem GK {w:Int} (h0:0<=w) (h1:w<=50):cd 2 (w:Rat):=by
 refine ⟨?_,by show (1:Nat)<10^2;decide⟩
 show w.natAbs<10^2
 omega
def iC (qs:List Rat) (w:Int) (age d:Nat):Rat:=(w:Rat)*(bW qs w age (d+1)).done / (bW qs w age (d+1)).ke
theorem Yh {qs:List Rat} {w:Int} (h:dM qs w=true) {age d:Nat} (hd:age+(d+1)<=qs.length):cd 380 (iC qs w age d):=by
 obtain ⟨⟨_,l8⟩,⟨w0,nc⟩,_⟩:=oB h
 obtain ⟨i1,i2⟩:=Dg (age:=age) (d:=d+1) h hd
 have hp:=(Dr (age:=age) (d:=d+1) h hd).2 (by omega)
 rw [CU] at hp
 have j1:=((GK w0 nc).mul i1).div i2 hp
 exact cd.le j1 (show 2+(5*(d+1)+1)+(42*(d+1)+1)<=380 by omega)
theorem MR {qs:List Rat} {w:Int} (h:dM qs w=true) {age:Nat}:∀{d:Nat},age+d<=qs.length->cd 380 (bW qs w age d).bU
 | 0,_=>cd.zero.le (by decide)
 | d+1,hd=>by
  have ih:=MR (age:=age) (d:=d) h (by omega)
  have ht:=Yh (age:=age) (d:=d) h hd
  have e:(bW qs w age (d+1)).bU=iC qs w age d∨(bW qs w age (d+1)).bU=(bW qs w age d).bU:=by
   unfold iC
   rw [(tQ qs w age d).1,(tQ qs w age d).2]
   simp only [bW]
   split
   ·exact .inl rfl
   ·exact .inr rfl
  rcases e with e | e <;> rw [e] <;> assumption
end
section
section
variable {h : ae} {K : Value -> ae -> Prop}
theorem rp {g:ae} {i:Nat} (hi:g[i]?=some (.arr 107 z4)):dh g (pt i 0)=some (.agg #[.int .i64 107,.bool false,.slice none 0 0,.bool false,.slice none 0 0]):=by
 simp [dh,yD,hi,oD]
theorem Dx {g:ae} {i:Nat} {v:Value} {q:Rat} (hg:g[i]?=some (.arr 107 z4)) (hv:RV g v q):∃g',aG 4 g (pt i 0) v=some (undef,g')/\zy g g' i q:=Rq (s:=false) (b:=.slice none 0 0) (c:=.bool false) (d:=.slice none 0 0) hg hv
theorem Cell.store {g:ae} {i:Nat} {v:Value} {p q:Rat} (c:Cell g i p) (hv:RV g v q):∃g',aG 4 g (pt i 0) v=some (undef,g')/\zy g g' i q:=by
 obtain ⟨a,b,e,d,k,_⟩:=c
 exact Rq (s:=a) k hv
structure zk (h g:ae) (ij ix ib id iw:Nat) (qs:List Rat) (w:Int) (vq:Value) (s:OC):Prop where
 ex:EX h g
 KY:g[ij]?=some (.arr 102 [I qs.length,I w,vq])
 out:g[ix]?=some (.arr 107 z4)
 bU:Cell g ib s.bU
 done:Cell g id s.done
 ke:Cell g iw s.ke
theorem zk.mono {h g g':ae} {ij ix ib id iw:Nat} {qs:List Rat} {w:Int} {vq:Value} {s:OC} (x:EX g g') (p:zk h g ij ix ib id iw qs w vq s):zk h g' ij ix ib id iw qs w vq s:=
 ⟨p.ex.trans x,x.get p.KY,x.get p.out,p.bU.mono x,p.done.mono x,p.ke.mono x⟩
theorem ary {ij ix ib id iw:Nat} {qs:List Rat} {w:Int} {vq:Value} {age:Nat} {g0:ae} (hq:QL h vq qs) (aI:dM qs w=true) (EL:age<qs.length)
  (b1:h.length<=ix/\h.length<=ib/\h.length<=id/\h.length<=iw) (d1:ij≠ib/\ij≠id/\ij≠iw) (d2:ix≠ib/\ix≠id/\ix≠iw) (d3:ib≠id/\ib≠iw/\id≠iw)
  (hi:zk h g0 ij ix ib id iw qs w vq (bW qs w age 0))
  (hk:∀r h',EX h h'->RV h' r (bW qs w age (qs.length-age)).bU->K (.tuple #[r,I ((bW qs w age (qs.length-age)).gT:Nat)]) h'):
  cO [(.int .i64 (0)),(.int .i64 (1))] g0 λL1 xs hx=>Wf prog K (I age) (pt ij 0) (pt ix 0) (pt ib 0) (pt id 0) (pt iw 0) L1 xs hx:=by
 obtain ⟨⟨_,l8⟩,⟨w0,nc⟩,hb,_⟩:=oB aI
 have s4:=vV hb
 refine dF (σ:=Nat×ae) (λq=>[I ((bW qs w age q.1).gT:Nat),I (q.1+1:Nat)]) (λq=>q.2) (λq=>age+q.1<=qs.length/\zk h q.2 ij ix ib id iw qs w vq (bW qs w age q.1)) (λq=>qs.length-q.1) (0,g0) rfl rfl ⟨by show age+0<=_;omega,hi⟩ ?_
 clear hi
 rintro ⟨d,g⟩ ⟨hd,inv⟩ L hL
 simp only at hd inv hL⊢
 rw [aGQ]
 have UO:af false 1 g (pt ij 0)=some (I qs.length):=by simp [af,aW,inv.KY,cP]
 have ws:ai .sub (I qs.length) (I age)=some (I (qs.length-age:Nat)):=by rw [gE,wrap64 (by omega) (by omega)];congr 2;omega
 simp only [bZ,add_zero,ah,UO,ws,sP,bQ]
 refine ⟨λhle=>?_,λtg=>?_⟩
 rotate_left
 ·have EP:d=qs.length-age:=by omega
  subst EP
  rw [aGP]
  obtain ⟨v,l1,l2⟩:=inv.bU.load
  obtain ⟨g',e1,st⟩:=Dx inv.out l2
  simp only [l1,ah,e1,aE]
  obtain ⟨v',m1,m2⟩:=st.cell.load
  simp only [m1,ah]
  exact hk v' g' (st.ex inv.ex b1.1) m2
 have oG:age+d<qs.length:=by omega
 have ki:age+(d+1)<=qs.length:=by omega
 obtain ⟨sz1,Yb⟩:=Dg (age:=age) (d:=d) aI hd
 obtain ⟨Yc,Yd⟩:=Dg (age:=age) (d:=d+1) aI ki
 obtain ⟨ed,ew⟩:=tQ qs w age d
 have hwp:=(Dr (age:=age) (d:=d+1) aI ki).2 (by omega)
 rw [CU] at hwp
 obtain ⟨vd,l1,l2⟩:=inv.done.load
 have FH:∀{g':ae},g'[ij]?=some (.arr 102 [I qs.length,I w,vq])->af false 1 g' (pt ij 2)=some vq:=λk=>by simp [af,aW,k,cP]
 have lj1:∀{g':ae},g'[ij]?=some (.arr 102 [I qs.length,I w,vq])->af false 1 g' (pt ij 1)=some (I w):=λk=>by simp [af,aW,k,cP]
 have lja:∀{g':ae},g'[ij]?=some (.arr 102 [I qs.length,I w,vq])->af true 3 g' (pt ij 0)=some (.agg #[I qs.length,I w,vq]):=λk=>by simp [af,aW,k,cP]
 have w1:ai .add (I age) (I (d+1:Nat))=some (I (age+(d+1):Nat)):=by rw [cL,wrap64 (by omega) (by omega)];congr 2
 have w2:ai .sub (I (age+(d+1):Nat)) (.int .i64 1)=some (I (age+d:Nat)):=by rw [gE,wrap64 (by omega) (by omega)];congr 2;omega
 obtain ⟨bi,oi,r,u1,u2,u3⟩:=(hq.mono inv.ex).get oG
 simp only [l1,ah,true_and,FH inv.KY,w1,w2,u1,u2]
 refine zi l2 u3 sz1 (s4 _ (getElem_mem oG)) (by omega) ?_
 intro r1 g1 x1 Cz
 have eg:qs[age+d]=qs.getD (age+d) 0:=by rw [List.getD_eq_getElem?_getD,getElem?_eq_getElem oG];rfl
 rw [eg,<-ed] at Cz
 have inv1:=inv.mono x1
 -- sD is done
 obtain ⟨g2,e2,De⟩:=inv1.done.store Cz
 simp only [e2,aE]
 have Ys:=De.eX (Ne.symm d3.2.2) inv1.ke
 have bs2:=De.eX d3.1 inv1.bU
 have jb2:g2[ij]?=some (.arr 102 [I qs.length,I w,vq]):=by rw [De.old _ d1.2.1];exact inv1.KY
 have ou2:g2[ix]?=some (.arr 107 z4):=by rw [De.old _ d2.2.1];exact inv1.out
 have xh2:=De.ex inv1.ex b1.2.2.1
 obtain ⟨vw,m1,m2⟩:=Ys.load
 simp only [m1,ah,lja jb2]
 refine NF (age:=age+d) (hq.mono xh2) (by omega) s4 (by omega) ?_
 intro r3 g3 x3 CB
 have m3:af true 4 g3 (pt iw 0)=some vw:=by
  obtain ⟨a,b,c,e,k,_⟩:=Ys
  rw [gX k] at m1
  rw [gX (x3.get k)];exact m1
 simp only [m3,true_and]
 have kC:=Br (qs:=qs.drop (age+d)) (λq hq=>s4 q (mem_of_mem_drop hq)) _ (le_refl _)
 rw [take_length,length_drop] at kC
 refine zi (m2.mono x3) CB Yb kC (by omega) ?_
 intro r4 g4 x4 wy
 rw [<-ew] at wy
 have bL:=x3.trans x4
 obtain ⟨g5,e5,Df⟩:=(Ys.mono bL).store wy
 simp only [e5,aE]
 have Er:=Df.eX d3.2.2 (De.cell.mono bL)
 have bs5:=Df.eX d3.2.1 (bs2.mono bL)
 have KX:g5[ij]?=some (.arr 102 [I qs.length,I w,vq]):=by rw [Df.old _ d1.2.2];exact bL.get jb2
 have ou5:g5[ix]?=some (.arr 107 z4):=by rw [Df.old _ d2.2.2];exact bL.get ou2
 have Nl:=Df.ex (xh2.trans bL) b1.2.2.2
 have Dq:=Df.cell
 -- one more try
 have e7:aV 107 [(.bool false),(.slice none 0 0),(.bool false),(.slice none 0 0)] g5=some (pt g5.length 0,g5++[.arr 107 z4]):=rfl
 simp only [e7,aE]
 have y1:EX g5 (g5++[.arr 107 z4]):=EX.append _ _
 have j1:(g5++[aq.arr 107 z4])[g5.length]?=some (.arr 107 z4):=br
 generalize g5++[aq.arr 107 z4]=g6 at y1 j1⊢
 simp only [rp j1,ah,true_and,lj1 (y1.get KX),lj1 KX]
 refine ub (by omega) (by omega) ?_
 intro r7 g7 x7 hr7
 have ee:=y1.trans x7
 obtain ⟨vd7,n1,n2⟩:=(Er.mono ee).load
 have same:∀{i:Nat} {q:Rat} {ga gb:ae} {v:Value},Cell ga i q->EX ga gb->af true 4 gb (pt i 0)=some v->af true 4 ga (pt i 0)=some v:=by
  intro i q ga gb v c x l
  obtain ⟨a,b,c,e,k,_⟩:=c
  rw [gX (x.get k)] at l
  rw [gX k];exact l
 simp only [rp (x7.get j1),true_and,n1,ah,same Er ee n1,same (Er.mono y1) x7 n1]
 refine NG hr7 n2 (GK w0 nc) Yc (by omega) ?_
 intro r8 g8 x8 TC
 have fO:=ee.trans x8
 obtain ⟨vw8,o1,o2⟩:=(Dq.mono fO).load
 simp only [rp ((x7.trans x8).get j1),true_and,o1,ah,same Dq fO o1,same (Dq.mono y1) (x7.trans x8) o1,same (Dq.mono ee) x8 o1]
 refine Zz TC o2 hwp ((GK w0 nc).mul Yc) Yd (by omega) ?_
 intro r9 g9 x9 CC
 have ht:RV g9 r9 (iC qs w age d):=CC
 have htz:=Yh (age:=age) (d:=d) aI ki
 have hbz:=MR (age:=age) (d:=d) aI hd
 have fU:=x7.trans (x8.trans x9)
 obtain ⟨gj,vQ,sB⟩:=Dx (fU.get j1) ht
 have lH:∀{i:Nat},i<g5.length->i≠g5.length:=λaF he=>by omega
 have eP:=y1.trans fU
 have ib5:=bs5.lt
 have id5:=Er.lt
 have iw5:=Dq.lt
 have ij5:ij<g5.length:=(bz KX).1
 have ix5:ix<g5.length:=(bz ou5).1
 have QE:=sB.eX (lH ib5) (bs5.mono eP)
 have dnA:=sB.eX (lH id5) (Er.mono eP)
 have wkA:=sB.eX (lH iw5) (Dq.mono eP)
 have jbA:gj[ij]?=some (.arr 102 [I qs.length,I w,vq]):=by rw [sB.old _ (lH ij5)];exact eP.get KX
 have ouA:gj[ix]?=some (.arr 107 z4):=by rw [sB.old _ (lH ix5)];exact eP.get ou5
 have xhA:=sB.ex (Nl.trans eP) (by have:=Nl.1;omega)
 simp only [rp (fU.get j1),true_and,vQ,aE,hY,ah]
 have next:∀(bU:Rat) (gT:Nat) {g':ae},zk h g' ij ix ib id iw qs w vq ⟨bU,gT,(bW qs w age (d+1)).done,(bW qs w age (d+1)).ke⟩->bW qs w age (d+1)=⟨bU,gT,(bW qs w age (d+1)).done,(bW qs w age (d+1)).ke⟩->LX prog K (I age) (pt ij 0) (pt ix 0) (pt ib 0) (I gT) (pt id 0) (pt iw 0) (I (d+1:Nat)) L g':=by
  intro bU gT g' iv es
  rw [aGO]
  have wi:IntKind.wrap .i64 (((d+1:Nat):Int)+1)=((d+1+1:Nat):Int):=by rw [wrap64 (by omega) (by omega)];omega
  simp only [cL,wi,ah,true_and]
  have:=hL (d+1,g') ⟨ki,by show zk h g' ij ix ib id iw qs w vq (bW qs w age (d+1));rw [es];exact iv⟩ (by show qs.length-(d+1)<qs.length-d;omega)
  have em:(bW qs w age (d+1)).gT=gT:=by rw [es]
  simp only [em] at this
  exact this
 -- it is QA
 have QA:((bW qs w age d).gT=0∨(bW qs w age d).bU<iC qs w age d)->∀(t u:Value) {g':ae},EX gj g'->bF t (.bool true) u=some (B true)->Gb prog K (I age) (pt ij 0) (pt ix 0) (pt ib 0) (I ((bW qs w age d).gT:Nat)) (pt id 0) (pt iw 0) (I (d+1:Nat)) (pt g5.length 0) t u L g':=by
  intro rQ t u g' x' Fh
  rw [apE,Fh]
  obtain ⟨vt,p1,p2⟩:=(sB.cell.mono x').load
  obtain ⟨qN,RO,Dd⟩:=(QE.mono x').store p2
  simp only [ah,dA,p1,RO,aE]
  refine next (iC qs w age d) (d+1) ⟨Dd.ex (xhA.trans x') b1.2.1,by rw [Dd.old _ d1.1];exact x'.get jbA,by rw [Dd.old _ d2.1];exact x'.get ouA,Dd.cell,Dd.eX d3.1.symm (dnA.mono x'),Dd.eX d3.2.1.symm (wkA.mono x')⟩ ?_
  unfold iC at rQ⊢
  rw [ed,ew] at rQ⊢
  simp only [bW]
  rw [if_pos rQ]
 have aKw:¬((bW qs w age d).gT=0∨(bW qs w age d).bU<iC qs w age d)->∀(t u:Value) {g':ae},EX gj g'->bF t (.bool true) u=some (B false)->Gb prog K (I age) (pt ij 0) (pt ix 0) (pt ib 0) (I ((bW qs w age d).gT:Nat)) (pt id 0) (pt iw 0) (I (d+1:Nat)) (pt g5.length 0) t u L g':=by
  intro rQ t u g' x' Fh
  rw [apE,Fh]
  simp only [ah,dD]
  refine next (bW qs w age d).bU (bW qs w age d).gT ⟨xhA.trans x',x'.get jbA,x'.get ouA,QE.mono x',dnA.mono x',wkA.mono x'⟩ ?_
  unfold iC at rQ
  rw [ed,ew] at rQ⊢
  simp only [bW]
  rw [if_neg rQ]
 rw [aGN]
 by_cases hm:(bW qs w age d).gT=0
 ·rw [bj (show ((bW qs w age d).gT:Int)=0 by omega)]
  simp only [fW]
  exact QA (.inl hm) _ _ (EX.refl gj) rfl
 ·rw [aY (show ¬((bW qs w age d).gT:Int)=0 by omega)]
  obtain ⟨vt,p1,p2⟩:=sB.cell.load
  obtain ⟨vb,p3,p4⟩:=QE.load
  simp only [eL,p1,p3,ah]
  refine G9 p2 p4 htz hbz (by decide) ?_
  intro qN au
  have hc:decide ((0:Int)<lW (iC qs w age d) (bW qs w age d).bU)=decide ((bW qs w age d).bU<iC qs w age d):=by
   rw [decide_eq_decide]
   unfold lW
   generalize iC qs w age d=a
   generalize (bW qs w age d).bU=b
   by_cases e:a=b
   ·subst e
    rw [if_pos rfl]
    exact ⟨λh=>absurd h (by decide),λh=>absurd h Rat.lt_irrefl⟩
   ·rw [if_neg e]
    by_cases e2:a<b
    ·rw [if_pos e2]
     exact ⟨λh=>absurd h (by decide),λh=>by grind⟩
    ·rw [if_neg e2]
     exact ⟨λ_=>by grind,λ_=>by decide⟩
  simp only [fQ,ah,hc]
  by_cases rQ:(bW qs w age d).bU<iC qs w age d
  ·rw [bj rQ]
   exact QA (.inr rQ) _ _ au rfl
  ·rw [aY rQ]
   exact aKw (λh=>h.elim hm rQ) _ _ au rfl
end
end
section
section
variable {h : ae} {K : Value -> ae -> Prop}
theorem C44 {qs:List Rat} {w:Int} {vq:Value} {age:Nat} (hq:QL h vq qs) (aI:dM qs w=true) (EL:age<qs.length)
  (hk:∀r h',EX h h'->RV h' r (bW qs w age (qs.length-age)).bU->K (.tuple #[r,I ((bW qs w age (qs.length-age)).gT:Nat)]) h'):ak prog 44 [.agg #[I qs.length,I w,vq],I age] h K:=by
 obtain ⟨rq,rs,_,_⟩:=id hq
 refine f44 ?_
 have e1:bp 102 h (.agg #[I qs.length,I w,vq])=some (pt h.length 0,h++[.arr 102 [I qs.length,I w,vq]]):=by
  rcases rs.2 with ⟨e,_⟩ | ⟨i,o,e,_⟩ <;> rw [e] <;> rfl
 have e7:∀(g:ae),aV 107 [(.bool false),(.slice none 0 0),(.bool false),(.slice none 0 0)] g=some (pt g.length 0,g++[.arr 107 z4]):=λ_=>rfl
 simp only [PA,e1,e7,aE]
 have x0:EX h (h++[.arr 102 [I qs.length,I w,vq]]):=EX.append _ _
 have k0:(h++[aq.arr 102 [I qs.length,I w,vq]])[h.length]?=some (.arr 102 [I qs.length,I w,vq]):=br
 generalize h++[aq.arr 102 [I qs.length,I w,vq]]=g0 at x0 k0⊢
 have x1:EX g0 (g0++[.arr 107 z4]):=EX.append _ _
 have k1:(g0++[aq.arr 107 z4])[g0.length]?=some (.arr 107 z4):=br
 generalize g0++[aq.arr 107 z4]=g1 at x1 k1⊢
 have m0:h.length<g0.length:=(bz k0).1
 have m1:g0.length<g1.length:=(bz k1).1
 refine ub (n:=0) (by decide) (by decide) ?_
 intro r2 g2 x2 CA
 have CA:RV g2 r2 0:=CA
 have x3:EX g2 (g2++[.arr 107 z4]):=EX.append _ _
 have k3:(g2++[aq.arr 107 z4])[g2.length]?=some (.arr 107 z4):=br
 generalize g2++[aq.arr 107 z4]=g3 at x3 k3⊢
 have m2:=x2.1
 have m3:g2.length<g3.length:=(bz k3).1
 obtain ⟨g4,e4,XU⟩:=Dx k3 (CA.mono x3)
 simp only [e4,aE]
 have bL:EX g2 g4:=XU.ex x3 (le_refl _)
 refine ub (n:=0) (by decide) (by decide) ?_
 intro r5 g5 x5 qW
 have qW:RV g5 r5 0:=qW
 refine ub (n:=0) (by decide) (by decide) ?_
 intro r6 g6 x6 TA
 have TA:RV g6 r6 0:=TA
 have x7:EX g6 (g6++[.arr 107 z4]):=EX.append _ _
 have k7:(g6++[aq.arr 107 z4])[g6.length]?=some (.arr 107 z4):=br
 generalize g6++[aq.arr 107 z4]=g7 at x7 k7⊢
 have x8:EX g7 (g7++[.arr 107 z4]):=EX.append _ _
 have k8:(g7++[aq.arr 107 z4])[g7.length]?=some (.arr 107 z4):=br
 generalize g7++[aq.arr 107 z4]=g8 at x8 k8⊢
 have m4:=XU.len
 have m5:=x5.1
 have m6:=x6.1
 have m7:g6.length<g7.length:=(bz k7).1
 have fw:=x7.trans x8
 obtain ⟨g9,e9,MQ⟩:=Dx (x8.get k7) (((qW.mono x6).mono fw))
 simp only [e9,aE]
 have k9:g9[g7.length]?=some (.arr 107 z4):=by rw [MQ.old _ (by omega)];exact k8
 obtain ⟨gj,vQ,sB⟩:=Dx k9 (MQ.val (TA.mono fw))
 simp only [vQ,aE]
 have fU:EX g6 g9:=MQ.ex fw (le_refl _)
 have aKN:EX g6 gj:=sB.ex fU (by omega)
 have Nj:=(x5.trans x6).trans aKN
 have yQ:=x0.trans (x1.trans x2)
 have xA:=yQ.trans (bL.trans Nj)
 have jb:=((x1.trans x2).trans (bL.trans Nj)).get k0
 have ou:=(x2.trans (bL.trans Nj)).get k1
 exact ary (g0:=gj) (ij:=h.length) (ix:=g0.length) (ib:=g2.length) (id:=g6.length) (iw:=g7.length) hq aI EL ⟨by omega,by omega,by omega,by omega⟩ ⟨by omega,by omega,by omega⟩ ⟨by omega,by omega,by omega⟩ ⟨by omega,by omega,by omega⟩
  ⟨xA,jb,ou,XU.cell.mono Nj,sB.eX (by omega) MQ.cell,sB.cell⟩ hk
end
end
section
def QU (h:ae) (v:Value) (q:Rat) (k:Nat):Prop:=∃a b:Int,QZ h v a b/\0<b/\(a:Rat)=q*(b:Rat)/\a.natAbs<10^k/\b.natAbs<10^k
def QV (h:ae) (v:Value) (q:Rat):Prop:=QZ h v q.num (q.den:Int)
theorem QU.mono {h h':ae} {v:Value} {q:Rat} {k:Nat} (x:EX h h') (p:QU h v q k):QU h' v q k:=let ⟨a,b,e,r⟩:=p;⟨a,b,e.mono x,r⟩
theorem QV.mono {h h':ae} {v:Value} {q:Rat} (x:EX h h') (p:QV h v q):QV h' v q:=QZ.mono x p
theorem QV.bT {h:ae} {v:Value} {q:Rat} {j:Nat} {e:TypeId} {s:Bool} {r:List Value} (p:QV h v q) (hj:h[j]?=some (.arr e (.bool s::r))) (o:aq):QV (h.set j o) v q:=QZ.bT p hj o
theorem aEn (q:Rat):(q.num:Rat)=q*(q.den:Rat):=by
 have h1:(q.den:Rat)≠0:=by
  intro h
  have:=q.den_pos
  have h2:(q.den:Rat)=((0:Nat):Rat):=by simpa using h
  have:=Rat.natCast_inj.1 h2
  omega
 have h2:=Rat.mkRat_self q
 rw [Rat.mkRat_eq_div,Rat.div_def] at h2
 have h3:q*(q.den:Rat)=(q.num:Rat)*((q.den:Rat)⁻¹*(q.den:Rat)):=by
  rw [<-Rat.mul_assoc,h2]
 rw [h3,Rat.inv_mul_cancel _ h1,Rat.mul_one]
theorem QV.un {h:ae} {v:Value} {q:Rat} {k:Nat} (p:QV h v q) (s:cd k q):QU h v q k:=
 ⟨q.num,q.den,p,by have:=q.den_pos;omega,aEn q,s.1,by rw [natAbs_natCast];exact s.2⟩
theorem ayT {b:Int} (hb:0<b):(b:Rat)≠0:=by
 intro h
 have:b=0:=by exact_mod_cast h
 omega
theorem QU.mk {a b:Int} {q:Rat} (hb:0<b) (h:(a:Rat)=q*(b:Rat)):mkRat a b.toNat=q:=by
 rw [Rat.mkRat_eq_div]
 have jZ:=ayT hb
 obtain ⟨n,rfl⟩:∃n:Nat,b=(n:Int):=⟨b.toNat,by omega⟩
 have e:(((n:Int).toNat:Nat):Rat)=((n:Int):Rat):=by rw [Int.toNat_natCast];rfl
 rw [e,h,Rat.div_def,Rat.mul_assoc,Rat.mul_inv_cancel _ jZ,Rat.mul_one]
theorem rL {i j:Nat} {a b:Int} (ha:a.natAbs<10^i) (hb:b.natAbs<10^j):(a*b).natAbs<10^(i+j):=by
 rw [Int.natAbs_mul];exact FO ha hb
def Uw:Nat:=796
theorem aEP {k n:Nat} (h:k=4*n):(10:Nat)^k<=10000^n:=by
 subst h
 exact Nat.le_of_eq (Nat.pow_mul 10 4 n)
theorem aEO:(10:Nat)^Uw<=10000^199:=aEP (k:=Uw) (n:=199) rfl
theorem Mh {k n:Nat} (hk:k<=796) (h:n<10^k):n<10000^199:=lt_of_lt_of_le h (Nat.le_trans (pow_le_pow_right (by decide) (show k<=Uw from hk)) aEO)
section
variable {va vb : Value} {p q : Rat} {i j : Nat} {h : ae} {K : Value -> ae -> Prop}
theorem DC (ha:QU h va p i) (hb:QU h vb q j) (eW:i+j<=899) (hk:∀r h',EX h h'->QU h' r (p+q) (i+j+1)->K r h'):ak prog 26 [va,vb] h K:=by
 obtain ⟨a,b,qa,b0,ea,la,lb⟩:=ha
 obtain ⟨c,d,qc,d0,ec,lc,ld⟩:=hb
 have fA:∀{k n:Nat},k<=899->n<10^k->n<bG:=λhk hn=>lt_of_lt_of_le hn (qq (by omega))
 have h1:=rL la ld
 have h2:=rL lc lb
 have h3:=rL lb ld
 rw [Nat.add_comm j i] at h2
 refine C26 qa qc (fA (by omega) la) (fA (by omega) lb) (fA (by omega) lc) (fA (by omega) ld) (fA eW h1) (fA eW h2) ?_
 intro r h' x hr
 refine hk r h' x ⟨_,_,hr,mul_pos b0 d0,?_,?_,?_⟩
 ·simp only [Rat.intCast_add,Rat.intCast_mul,ea,ec];grind
 ·rw [pow_succ];generalize 10^(i+j)=Z at*;omega
 ·rw [pow_succ];generalize 10^(i+j)=Z at*;omega
theorem Nx (ha:QU h va p i) (hb:QU h vb q j) (eW:i+j<=899) (hk:∀r h',EX h h'->QU h' r (p*q) (i+j)->K r h'):ak prog 27 [va,vb] h K:=by
 obtain ⟨a,b,qa,b0,ea,la,lb⟩:=ha
 obtain ⟨c,d,qc,d0,ec,lc,ld⟩:=hb
 have fA:∀{k n:Nat},k<=899->n<10^k->n<bG:=λhk hn=>lt_of_lt_of_le hn (qq (by omega))
 refine C27 qa qc (fA (by omega) la) (fA (by omega) lb) (fA (by omega) lc) (fA (by omega) ld) ?_
 intro r h' x hr
 refine hk r h' x ⟨_,_,hr,mul_pos b0 d0,?_,rL la lc,rL lb ld⟩
 simp only [Rat.intCast_mul,ea,ec];grind
theorem Zo (ha:QU h va p i) (hb:QU h vb q j) (eW:i+j<=899) (hk:∀r h',EX h h'->QU h' r (p-q) (i+j+1)->K r h'):ak prog 52 [va,vb] h K:=by
 obtain ⟨a,b,qa,b0,ea,la,lb⟩:=ha
 obtain ⟨c,d,qc,d0,ec,lc,ld⟩:=hb
 have fA:∀{k n:Nat},k<=899->n<10^k->n<bG:=λhk hn=>lt_of_lt_of_le hn (qq (by omega))
 have h1:=rL la ld
 have h2:=rL lc lb
 have h3:=rL lb ld
 rw [Nat.add_comm j i] at h2
 obtain ⟨u,w,rfl,hu,hw⟩:=qa
 obtain ⟨u',w',rfl,tB,mY⟩:=qc
 refine f52 ?_
 unfold PH
 refine H8 ?_
 intro h3 x
 have za:ZV h3 (.agg #[B (decide (a<0)),u]) a:=⟨u,rfl,hu.mono x.ex⟩
 have zb:ZV h3 (.agg #[B (decide (b<0)),w]) b:=⟨w,rfl,hw.mono x.ex⟩
 have zc:ZV h3 (.agg #[B (decide (c<0)),u']) c:=⟨u',rfl,tB.mono x.ex⟩
 have zd:ZV h3 (.agg #[B (decide (d<0)),w']) d:=⟨w',rfl,mY.mono x.ex⟩
 simp only [bZ,add_zero,zero_add,ah,x.a0,x.b2,true_and]
 refine qC za zd (fA (by omega) la) (fA (by omega) ld) ?_
 intro r4 h4 x4 tY
 simp only [EX.load x4 x.b0,EX.load x4 x.a2,ah,x.b0,x.a2,true_and]
 refine qC (zc.mono x4) (zb.mono x4) (fA (by omega) lc) (fA (by omega) lb) ?_
 intro r5 h5 x5 z5
 refine Hb (tY.mono x5) z5 (fA eW h1) (fA eW h2) ?_
 intro r6 h6 x6 z6
 have cI:=x4.trans (x5.trans x6)
 simp only [EX.load cI x.a2,EX.load cI x.b2,EX.load x4 x.b2,EX.load (x4.trans x5) x.a2,EX.load (x4.trans x5) x.b2,ah,true_and]
 refine qC (zb.mono cI) (zd.mono cI) (fA (by omega) lb) (fA (by omega) ld) ?_
 intro r7 h7 x7 z7
 have gO:=cI.trans x7
 refine zV (z6.mono x7) z7 (x.ex.trans gO) (by omega) (gO.get x.out) ?_
 intro r h' xx hr
 refine hk r h' xx ⟨_,_,hr,mul_pos b0 d0,?_,?_,?_⟩
 ·simp only [Rat.intCast_sub,Rat.intCast_mul,ea,ec];grind
 ·rw [pow_succ];generalize 10^(i+j)=Z at*;omega
 ·rw [pow_succ];generalize 10^(i+j)=Z at*;omega
theorem Nz (ha:QU h va p i) (hb:QU h vb q j) (q0:0<q) (eW:i+j<=899) (hk:∀r h',EX h h'->QU h' r (p / q) (i+j)->K r h'):ak prog 51 [va,vb] h K:=by
 obtain ⟨a,b,qa,b0,ea,la,lb⟩:=ha
 obtain ⟨c,d,qc,d0,ec,lc,ld⟩:=hb
 have fA:∀{k n:Nat},k<=899->n<10^k->n<bG:=λhk hn=>lt_of_lt_of_le hn (qq (by omega))
 have h1:=rL la ld
 have h2:=rL lb lc
 have c0:0<c:=by
  have d':(0:Rat)<(d:Rat):=by exact_mod_cast d0
  have:(0:Rat)<(c:Rat):=by rw [ec];exact Rat.mul_pos q0 d'
  exact_mod_cast this
 obtain ⟨u,w,rfl,hu,hw⟩:=qa
 obtain ⟨u',w',rfl,tB,mY⟩:=qc
 refine f51 ?_
 unfold PG
 refine H8 ?_
 intro h3 x
 have za:ZV h3 (.agg #[B (decide (a<0)),u]) a:=⟨u,rfl,hu.mono x.ex⟩
 have zb:ZV h3 (.agg #[B (decide (b<0)),w]) b:=⟨w,rfl,hw.mono x.ex⟩
 have zc:ZV h3 (.agg #[B (decide (c<0)),u']) c:=⟨u',rfl,tB.mono x.ex⟩
 have zd:ZV h3 (.agg #[B (decide (d<0)),w']) d:=⟨w',rfl,mY.mono x.ex⟩
 simp only [bZ,add_zero,zero_add,ah,x.a0,x.b2,true_and]
 refine qC za zd (fA (by omega) la) (fA (by omega) ld) ?_
 intro r4 h4 x4 tY
 simp only [EX.load x4 x.b0,EX.load x4 x.a2,ah,x.b0,x.a2,true_and]
 refine qC (zb.mono x4) (zc.mono x4) (fA (by omega) lb) (fA (by omega) lc) ?_
 intro r5 h5 x5 z5
 refine C54 (tY.mono x5) z5 (Int.le_of_lt (mul_pos b0 c0)) ?_
 intro r6 h6 x6 z6
 have cI:=x4.trans (x5.trans x6)
 obtain ⟨m,n,rfl,hm,hn⟩:=z6
 refine rO (cI.get x.out) (hk _ _ ((x.ex.trans cI).set (by omega) _) ⟨_,_,⟨m,n,rfl,hm.bT (cI.get x.out) _,hn.bT (cI.get x.out) _⟩,mul_pos b0 c0,?_,h1,h2⟩)
 simp only [Rat.intCast_mul,ea,ec]
 have:q≠0:=by intro e;rw [e] at q0;exact absurd q0 (by decide)
 grind
theorem DB (ha:QU h va p i) (hi:i<=796) (hk:∀r h',EX h h'->QV h' r p->K r h'):ak prog 25 [va] h K:=by
 obtain ⟨a,b,qa,b0,ea,la,lb⟩:=ha
 refine Zj qa b0 (Mh hi la) (Mh hi lb) ?_
 intro r h' x hr
 refine hk r h' x ?_
 have e:=QU.mk b0 ea
 obtain ⟨e1,e2⟩:=A8 (N:=a) (D:=b.toNat) (by omega)
 have eb:b.natAbs=b.toNat:=by omega
 unfold QV
 rw [<-e,e1,e2,Int.natCast_ediv,Int.toNat_of_nonneg (by omega),<-eb]
 exact hr
theorem arq (ha:QU h va p i) (hi:i<=796) {s:List UInt8} (hk:∀h',EX h h'->K (B (decide (s=pN p.num (p.den:Int)))) h'):ak prog 16 [S s,va] h K:=by
 obtain ⟨a,b,qa,b0,ea,la,lb⟩:=ha
 refine arp qa b0 (Mh hi la) (Mh hi lb) ?_
 have e:=QU.mk b0 ea
 obtain ⟨e1,e2⟩:=A8 (N:=a) (D:=b.toNat) (by omega)
 have eb:b.natAbs=b.toNat:=by omega
 rw [<-e,e1,e2,Int.natCast_ediv,Int.toNat_of_nonneg (by omega),<-eb] at hk
 exact hk
theorem aCQ {a b c d:Int} (b0:0<b) (d0:0<d) (ea:(a:Rat)=p*(b:Rat)) (ec:(c:Rat)=q*(d:Rat)):jG (a*d-c*b)=lW p q:=by
 have b':(0:Rat)<(b:Rat):=by exact_mod_cast b0
 have d':(0:Rat)<(d:Rat):=by exact_mod_cast d0
 have bd:=Rat.mul_pos b' d'
 have e:((a*d-c*b:Int):Rat)=(p-q)*((b:Rat)*(d:Rat)):=by
  simp only [Rat.intCast_sub,Rat.intCast_mul,ea,ec];grind
 generalize a*d-c*b=z at e⊢
 generalize (b:Rat)*(d:Rat)=t at*
 have key:(z=0↔p=q)/\(z<0↔p<q):=by
  constructor
  ·constructor
   ·intro hz
    subst hz
    have:(p-q)*t=0:=by rw [<-e];rfl
    grind
   ·intro hz
    subst hz
    have:((z:Int):Rat)=0:=by rw [e];grind
    exact_mod_cast this
  ·constructor
   ·intro hz
    have sg:(z:Rat)<0:=by exact_mod_cast hz
    rw [e] at sg
    apply Classical.byContradiction
    intro hc
    have h1:0<=p-q:=by grind
    have:=Rat.mul_nonneg h1 (Rat.le_of_lt bd)
    grind
   ·intro hz
    have h1:0<q-p:=by grind
    have:=Rat.mul_pos h1 bd
    have:(z:Rat)<0:=by rw [e];grind
    exact_mod_cast this
 unfold lW jG
 by_cases h1:p=q
 ·rw [if_pos h1]
  have:=key.1.2 h1
  subst this
  simp
 ·rw [if_neg h1]
  have z1:z≠0:=λhz=>h1 (key.1.1 hz)
  by_cases h2:p<q
  ·rw [if_pos h2,if_neg z1,if_pos (key.2.2 h2)]
  ·rw [if_neg h2]
   have:¬z<0:=λhz=>h2 (key.2.1 hz)
   rw [if_neg z1,if_neg this]
theorem G7 (ha:QU h va p i) (hb:QU h vb q j) (eW:i+j<=899) (hk:∀h',EX h h'->K (I (lW p q)) h'):ak prog 29 [va,vb] h K:=by
 obtain ⟨a,b,qa,b0,ea,la,lb⟩:=ha
 obtain ⟨c,d,qc,d0,ec,lc,ld⟩:=hb
 have fA:∀{k n:Nat},k<=899->n<10^k->n<bG:=λhk hn=>lt_of_lt_of_le hn (qq (by omega))
 have h1:=rL la ld
 have h2:=rL lc lb
 rw [Nat.add_comm j i] at h2
 refine C29 qa qc (fA (by omega) la) (fA (by omega) lb) (fA (by omega) lc) (fA (by omega) ld) (fA eW h1) (fA eW h2) ?_
 rw [aCQ b0 d0 ea ec]
 exact hk
theorem vF {z:Int} (hz:z.natAbs<1000000000000000000) (hk:∀r h',EX h h'->QV h' r (z:Rat)->K r h'):ak prog 20 [I z] h K:=C20 hz hk
theorem Zk {s:List UInt8} (hl:s.length<=700) (hn:jo s=true) (hk:∀r h',EX h h'->QV h' r (bP s)->K r h'):ak prog 28 [S s] h K:=arw hl (aiQ hn) hk
def fe (g:ae) (i:Nat) (q:Rat):Prop:=∃a b c d,g[i]?=some (.arr 37 [B a,b,B c,d])/\QV g (.agg #[B a,b,B c,d]) q
theorem fe.mono {g g':ae} {i:Nat} {q:Rat} (x:EX g g') (p:fe g i q):fe g' i q:=let ⟨a,b,c,d,e,r⟩:=p;⟨a,b,c,d,x.get e,r.mono x⟩
theorem fe.lt {g:ae} {i:Nat} {q:Rat} (p:fe g i q):i<g.length:=let ⟨_,_,_,_,e,_⟩:=p;(bz e).1
theorem fe.load {g:ae} {i:Nat} {q:Rat} (p:fe g i q):∃v,af true 4 g (pt i 0)=some v/\QV g v q:=let ⟨_,_,_,_,e,r⟩:=p;⟨_,gX e,r⟩
structure BQ (g g':ae) (i:Nat) (q:Rat):Prop where
 cell:fe g' i q
 len:g'.length=g.length
 old:∀j,j≠i->g'[j]?=g[j]?
 val:∀{v:Value} {p:Rat},QV g v p->QV g' v p
theorem B2 {g:ae} {i:Nat} {v:Value} {q:Rat} {s:Bool} {b c d:Value} (hg:g[i]?=some (.arr 37 [.bool s,b,c,d])) (hv:QV g v q):∃g',aG 4 g (pt i 0) v=some (undef,g')/\BQ g g' i q:=by
 obtain ⟨u,w,rfl,hu,hw⟩:=id hv
 refine ⟨_,m8 hg,⟨⟨_,_,_,_,cJ hg,hv.bT hg _⟩,by simp,λj hj=>getElem?_set_ne (λh=>hj h.symm),λh=>h.bT hg _⟩⟩
theorem fe.store {g:ae} {i:Nat} {v:Value} {p q:Rat} (hc:fe g i p) (hv:QV g v q):∃g',aG 4 g (pt i 0) v=some (undef,g')/\BQ g g' i q:=by
 obtain ⟨a,b,c,d,hg,_⟩:=hc
 exact B2 hg hv
theorem BQ.ex {h0 g g':ae} {i:Nat} {q:Rat} (s:BQ g g' i q) (x:EX h0 g) (hi:h0.length<=i):EX h0 g':=
 ⟨by rw [s.len];exact x.1,λj hj=>by rw [s.old j (by omega)];exact x.2 j hj⟩
theorem BQ.eX {g g':ae} {i j:Nat} {q p:Rat} (s:BQ g g' i q) (hj:j≠i) (c:fe g j p):fe g' j p:=
 let ⟨a,b,e,d,k,r⟩:=c;⟨a,b,e,d,by rw [s.old j hj];exact k,s.val r⟩
theorem B1 {g:ae} {v:Value} {q:Rat} {K:ae->Prop} (hv:QV g v q) (hk:∀g',EX g g'->fe g' g.length q->g'.length=g.length+1->K g'):
  OH (aG 4 (g++[aq.arr 37 z4]) (pt g.length 0) v) λ_ h_2=>K h_2:=by
 obtain ⟨g',e2,s⟩:=B2 (g:=g++[.arr 37 z4]) (i:=g.length) br (hv.mono (EX.append _ _))
 rw [e2]
 simp only [aE]
 exact hk g' (s.ex (EX.append _ _) (le_refl _)) s.cell (by rw [s.len];simp)
end
end
section
variable (P : Program) (K : VK)
noncomputable section
variable (l0 x3 i4 x5 k6 k7 q8 bu cg fc mj gH nK sE qy : Value) (L1 L2 : LQ) (xs : List Value) (h : ae)
def akA:=bE prog 13 [[],[],[],[0],[3,4],[],[],[],[],[0,3,4,5],[6],[],[],[],[],[],[0,3,4,5],[0,3,4,5,44],[0,3,4,5,44,51],[],[],[],[],[0,4,5],[3,7],[],[],[],[0,3,4,5,7,8,82],[0,3,4,5,7,8,82,86],[0,3,4,5,7,8,88],[0,3,4,5,7,8,88,98],[0,3,4,5,7,8,88,98,102],[0,3,4,5,7,8,88,103],[],[0,3,4,5,7],[0,3,4,5],[],[0,3,4],[0,3],[],[3],[]]
@[irreducible] def xO:=bM akA
@[irreducible] def IK:=xO.r.r.l.r.l.l
@[irreducible] def ac6:=xO.r.r.r
@[irreducible] def awx:=IK.r.l.l.r.l.r.l.l
@[irreducible] def ac4:=IK.r.l.l.r.r
@[irreducible] def adh:=IK.r.r
@[irreducible] def adg:=ac6.l
@[irreducible] def II:=ac4.l
@[irreducible] def awE:=adh.l
@[irreducible] def awF:=adg.r.l
@[irreducible] def ac5:=II.l.l.r.l
@[irreducible] def awy:=II.l.r
@[irreducible] def Q0:=II.r
@[irreducible] def awz:=ac5.r.l
@[irreducible] def IJ:=Q0.l.r.l.l
@[irreducible] def ac7:=Q0.r
@[irreducible] def ac9:=IJ.r.l.l.r.l.r.l
@[irreducible] def awA:=IJ.r.l.l.r.r
@[irreducible] def ac8:=IJ.r.r
@[irreducible] def awD:=ac7.l
@[irreducible] def ada:=ac9.r.l
@[irreducible] def awC:=ac8.l
@[irreducible] def adb:=ada.r.l
@[irreducible] def ade:=adb.r.l
@[irreducible] def adf:=ade.r.l
@[irreducible] def awB:=adf.r.l
theorem FB:akA=some (118,xO,[.tmp 2]):=by kernel_rfl
def Hp (_P:Program) (K:VK):ar:=aT [.tmp 2] K
def as8:ar:=aH (aj P ac6 (Hp P K)) (Hp P K)
def atc:ar:=bH 0 (as8 P K)
def Hr:ar:=aH (λf' aX=>(([0]:List Nat).map f':List Value)=[l0]/\L1 (([3,4]:List Nat).map f') aX) (atc P K)
def atd:ar:=aH (aj P adh (Hr P K l0 L1)) (Hr P K l0 L1)
def xy:ar:=bH 1 (atd P K l0 L1)
def as5:ar:=aH (aj P ac4 (xy P K l0 L1)) (xy P K l0 L1)
def as6:ar:=bH 2 (as5 P K l0 L1)
def as7:ar:=aH (λf' aX=>(([0,3,4,5]:List Nat).map f':List Value)=[l0,x3,i4,x5]/\L2 (([6]:List Nat).map f') aX) (as6 P K l0 L1)
def aab:ar:=aH (aj P Q0 (xy P K l0 L1)) (xy P K l0 L1)
def aac:ar:=aH (aj P awy (aab P K l0 L1)) (aab P K l0 L1)
def as9:ar:=aH (aj P ac7 (xy P K l0 L1)) (xy P K l0 L1)
def ata:ar:=bH 4 (as9 P K l0 L1)
def Hq:ar:=aH (λf' aX=>(([0,4,5]:List Nat).map f':List Value)=[l0,i4,x5]/\L2 (([3,7]:List Nat).map f') aX) (ata P K l0 L1)
def atb:ar:=aH (aj P ac8 (Hq P K l0 i4 x5 L1 L2)) (Hq P K l0 i4 x5 L1 L2)
def aad:ar:=bH 5 (atb P K l0 i4 x5 L1 L2)
def BH:ar:=aH (aj P awA (aad P K l0 i4 x5 L1 L2)) (aad P K l0 i4 x5 L1 L2)
def am6:Prop:=ax (aj P IK (Hr P K l0 L1)) ([0]++[3,4]) ([l0]++xs) h
def am0:Prop:=ax (aj P awx (as7 P K l0 x3 i4 x5 L1 L2)) ([0,3,4,5]++[6]) ([l0,x3,i4,x5]++xs) h
def am1:Prop:=ax (aj P II (xy P K l0 L1)) [0,3,4,5] [l0,x3,i4,x5] h
def am2:Prop:=ax (aj P ac5 (aac P K l0 L1)) [0,3,4,5,44] [l0,x3,i4,x5,bu] h
def LL:Prop:=ax (aj P awz (aac P K l0 L1)) [0,3,4,5,44,51] [l0,x3,i4,x5,bu,cg] h
def VR:Prop:=ax (aj P IJ (Hq P K l0 i4 x5 L1 L2)) ([0,4,5]++[3,7]) ([l0,i4,x5]++xs) h
def am3:Prop:=ax (aj P ac9 (BH P K l0 i4 x5 L1 L2)) [0,3,4,5,7,8,82] [l0,x3,i4,x5,k7,q8,fc] h
def VS:Prop:=ax (aj P ada (BH P K l0 i4 x5 L1 L2)) [0,3,4,5,7,8,82,86] [l0,x3,i4,x5,k7,q8,fc,mj] h
def VT:Prop:=ax (aj P adb (BH P K l0 i4 x5 L1 L2)) [0,3,4,5,7,8,88] [l0,x3,i4,x5,k7,q8,gH] h
def VU:Prop:=ax (aj P ade (BH P K l0 i4 x5 L1 L2)) [0,3,4,5,7,8,88,98] [l0,x3,i4,x5,k7,q8,gH,nK] h
def VV:Prop:=ax (aj P adf (BH P K l0 i4 x5 L1 L2)) [0,3,4,5,7,8,88,98,102] [l0,x3,i4,x5,k7,q8,gH,nK,sE] h
def LM:Prop:=ax (aj P awB (BH P K l0 i4 x5 L1 L2)) [0,3,4,5,7,8,88,103] [l0,x3,i4,x5,k7,q8,gH,qy] h
def LN:Prop:=ax (aj P awC (Hq P K l0 i4 x5 L1 L2)) [0,3,4,5,7] [l0,x3,i4,x5,k7] h
def am4:Prop:=ax (aj P awD (xy P K l0 L1)) [0,3,4,5] [l0,x3,i4,x5] h
def C0:Prop:=ax (aj P awE (Hr P K l0 L1)) [0,3,4] [l0,x3,i4] h
def am5:Prop:=ax (aj P adg (Hp P K)) [0,3] [l0,x3] h
def VW:Prop:=ax (aj P awF (Hp P K)) [3] [x3] h
theorem aF9 (l0 x3 i4 x5:Value) (L1 L2:LQ) (k6:Value) (h:ae):am0 P K l0 x3 i4 x5 L1 L2 [k6] h=
 (OP (aZ 2 l0 i4) λaK=>
 OP (aJ 0 aK) λaU=>
 OP (af false 1 h aU) λba=>
 OP (bk ba) λbO=>
 OP (ai .lss k6 bO) λcB=>
 aN cB
 (OP (aZ 2 l0 i4) λcG=>
 OP (aJ 0 cG) λcM=>
 OP (af false 1 h cM) λdm=>
 OP (aZ 1 dm k6) λbV=>
 OP (af false 1 h bV) λdK=>
 ak P 24 [dK] h λcK z1=>
 OP (gq .not cK) λdw=>
 aN dw
 (K (.int .i64 (2)) z1)
 (OP (ai .add k6 (.int .i64 (1))) λbX=>
 ([l0,x3,i4,x5]:List Value)=[l0,x3,i4,x5]/\L2 [bX] z1))
 (am1 P K l0 x3 i4 x5 L1 h)):=az (by kernel_rfl)
theorem apn:LL P K l0 x3 i4 x5 bu cg L1 h=
 (OP (bF bu (.bool true) cg) λde=>
 aN de
 (C0 P K l0 (.int .i64 (1)) i4 L1 h)
 (cO [x3,(.int .i64 (0))] h λL2 xs hx=>
 VR P K l0 i4 x5 L1 L2 xs hx)):=az (by kernel_rfl)
theorem aGb:am2 P K l0 x3 i4 x5 bu L1 h=
 (ck bu false
 (OP (aZ 2 l0 i4) λgO=>
 OP (aJ 1 gO) λfE=>
 OP (af false 1 h fE) λfN=>
 ak P 46 [fN,(.int .i64 (0)),(.int .i64 (50))] h λbY z1=>
 OP (gq .not bY) λcg=>
 LL P K l0 x3 i4 x5 bu cg L1 z1)
 (LL P K l0 x3 i4 x5 bu undef L1 h)):=az (by kernel_rfl)
theorem aGf:LM P K l0 x3 i4 x5 k7 q8 gH qy L1 L2 h=
 (OP (bF gH (.bool true) qy) λBx=>
 aN Bx
 (LN P K l0 (.int .i64 (1)) i4 x5 k7 L1 L2 h)
 (OP (af true 4 h x5) λGO=>
 OP (af true 4 h q8) λqz=>
 ak P 26 [GO,qz] h λo9 z1=>
 ak P 25 [o9] z1 λtW z2=>
 OH (aG 4 z2 x5 tW) λ_ z3=>
 LN P K l0 x3 i4 x5 k7 L1 L2 z3)):=az (by kernel_rfl)
theorem Xc:VV P K l0 x3 i4 x5 k7 q8 gH nK sE L1 L2 h=
 (ck gH false
 (OP (bF nK sE (.bool false)) λqy=>
 LM P K l0 x3 i4 x5 k7 q8 gH qy L1 L2 h)
 (LM P K l0 x3 i4 x5 k7 q8 gH undef L1 L2 h)):=az (by kernel_rfl)
theorem apq:VU P K l0 x3 i4 x5 k7 q8 gH nK L1 L2 h=
 (ck nK true
 (OP (aJ 0 q8) λYK=>
 OP (af true 2 h YK) λYx=>
 ak P 48 [Yx] h λGN z1=>
 OP (ai .eql GN (.int .i64 (0))) λsE=>
 VV P K l0 x3 i4 x5 k7 q8 gH nK sE L1 L2 z1)
 (VV P K l0 x3 i4 x5 k7 q8 gH nK undef L1 L2 h)):=az (by kernel_rfl)
theorem aGe:VT P K l0 x3 i4 x5 k7 q8 gH L1 L2 h=
 (ck gH false
 (OP (aZ 2 l0 i4) λmO=>
 OP (aJ 0 mO) λpa=>
 OP (af false 1 h pa) λrC=>
 OP (bk rC) λyX=>
 OP (ai .sub yX (.int .i64 (1))) λqB=>
 OP (ai .eql k7 qB) λoh=>
 VU P K l0 x3 i4 x5 k7 q8 gH oh L1 L2 h)
 (VU P K l0 x3 i4 x5 k7 q8 gH undef L1 L2 h)):=az (by kernel_rfl)
theorem apo:VS P K l0 x3 i4 x5 k7 q8 fc mj L1 L2 h=
 (OP (bF fc (.bool true) mj) λqA=>
 VT P K l0 x3 i4 x5 k7 q8 qA L1 L2 h):=az (by kernel_rfl)
theorem aGd:am3 P K l0 x3 i4 x5 k7 q8 fc L1 L2 h=
 (ck fc false
 (OP (aJ 0 q8) λlQ=>
 OP (af true 2 h lQ) λeB=>
 ak P 48 [eB] h λtX z1=>
 OP (ai .lss tX (.int .i64 (0))) λmj=>
 VS P K l0 x3 i4 x5 k7 q8 fc mj L1 L2 z1)
 (VS P K l0 x3 i4 x5 k7 q8 fc undef L1 L2 h)):=az (by kernel_rfl)
theorem aGg:LN P K l0 x3 i4 x5 k7 L1 L2 h=
 (OP (ai .add k7 (.int .i64 (1))) λng=>
 ([l0,i4,x5]:List Value)=[l0,i4,x5]/\L2 [x3,ng] h):=az (by kernel_rfl)
theorem aGc (l0 i4 x5:Value) (L1 L2:LQ) (x3 k7:Value) (h:ae):VR P K l0 i4 x5 L1 L2 [x3,k7] h=
 (OP (aZ 2 l0 i4) λiT=>
 OP (aJ 0 iT) λee=>
 OP (af false 1 h ee) λfO=>
 OP (bk fO) λeP=>
 OP (ai .lss k7 eP) λjw=>
 aN jw
 (OP (aZ 2 l0 i4) λgP=>
 OP (aJ 0 gP) λjd=>
 OP (af false 1 h jd) λgC=>
 OP (aZ 1 gC k7) λfU=>
 OP (af false 1 h fU) λmN=>
 ak P 28 [mN] h λiD z1=>
 OH (aV 37 [(.bool false),(.slice none 0 0),(.bool false),(.slice none 0 0)] z1) λq8 z2=>
 OH (aG 4 z2 q8 iD) λ_ z3=>
 OP (aZ 2 l0 i4) λfF=>
 OP (aJ 0 fF) λkn=>
 OP (af false 1 z3 kn) λiE=>
 OP (aZ 1 iE k7) λfJ=>
 OP (af false 1 z3 fJ) λgQ=>
 ak P 47 [gQ,(.int .i64 (4))] z3 λgG z4=>
 OP (gq .not gG) λjT=>
 am3 P K l0 x3 i4 x5 k7 q8 jT L1 L2 z4)
 (am4 P K l0 x3 i4 x5 L1 h)):=az (by kernel_rfl)
theorem aGh:am4 P K l0 x3 i4 x5 L1 h=
 (OP (af true 4 h x5) λyU=>
 (True)/\
 ak P 20 [(.int .i64 (1))] h λYy z1=>
 (af true 4 z1 x5=some yU/\True)/\
 ak P 29 [yU,Yy] z1 λxo z2=>
 (True)/\
 OP (ai .neq xo (.int .i64 (0))) λGP=>
 aN GP
 (C0 P K l0 (.int .i64 (1)) i4 L1 z2)
 (C0 P K l0 x3 i4 L1 z2)):=az (by kernel_rfl)
theorem aGa:am1 P K l0 x3 i4 x5 L1 h=
 (OP (aZ 2 l0 i4) λdO=>
 OP (aJ 0 dO) λeY=>
 OP (af false 1 h eY) λeJ=>
 OP (bk eJ) λdW=>
 ak P 46 [dW,(.int .i64 (1)),(.int .i64 (8))] h λeO z1=>
 OP (gq .not eO) λcj=>
 am2 P K l0 x3 i4 x5 cj L1 z1):=az (by kernel_rfl)
theorem aGi:C0 P K l0 x3 i4 L1 h=
 (OP (ai .add i4 (.int .i64 (1))) λaA=>
 ([l0]:List Value)=[l0]/\L1 [x3,aA] h):=az (by kernel_rfl)
theorem aGk (l0:Value) (L1:LQ) (x3 i4:Value) (h:ae):am6 P K l0 L1 [x3,i4] h=
 (OP (bk l0) λau=>
 OP (ai .lss i4 au) λaD=>
 aN aD
 (ak P 20 [(.int .i64 (0))] h λaP z1=>
 OH (aV 37 [(.bool false),(.slice none 0 0),(.bool false),(.slice none 0 0)] z1) λx5 z2=>
 OH (aG 4 z2 x5 aP) λ_ z3=>
 cO [(.int .i64 (0))] z3 λL2 xs hx=>
 am0 P K l0 x3 i4 x5 L1 L2 xs hx)
 (am5 P K l0 x3 h)):=az (by kernel_rfl)
theorem apr:VW P K x3 h=
 (K x3 h):=az (by kernel_rfl)
theorem aGj:am5 P K l0 x3 h=
 (OP (bk l0) λGQ=>
 ak P 46 [GQ,(.int .i64 (1)),(.int .i64 (3))] h λGR z1=>
 OP (gq .not GR) λyV=>
 aN yV
 (VW P K (.int .i64 (1)) z1)
 (VW P K x3 z1)):=az (by kernel_rfl)
def uk:Prop:=
 cO [(.int .i64 (0)),(.int .i64 (0))] h λL1 xs hx=>
 am6 P K l0 L1 xs hx
theorem e13:aj P xO (aT [.tmp 2] K) (bw [l0]) h=uk P K l0 h:=by kernel_rfl
theorem f13 {K:VK} {l0:Value} {h:ae} (H:uk prog K l0 h):ak prog 13 [l0] h K:=
 bN FB (bJ rfl) ((e13 prog K l0 h).mpr H)
end
noncomputable section
variable (c0 x1 c2 x4 x6 x7 x8 d9 : Value) (L1 : LQ) (xs : List Value) (h : ae)
def akO:=bE prog 15 [[],[],[],[],[1,2,4,6,8],[7,9],[],[],[],[],[],[1,2,4,6,7,8,9],[4,6,7],[]]
@[irreducible] def sQ:=bM akO
@[irreducible] def ado:=sQ.r.r.r.l.r.l.l
@[irreducible] def adn:=sQ.r.r.r.r
@[irreducible] def awK:=ado.r.r.l
@[irreducible] def awL:=adn.l
theorem k15:akO=some (55,sQ,[.cell true 4 4,.tmp 5]):=by kernel_rfl
def N9 (_P:Program) (K:VK):ar:=aT [.cell true 4 4,.tmp 5] K
def ate:ar:=aH (aj P adn (N9 P K)) (N9 P K)
def atf:ar:=bH 0 (ate P K)
def aah:ar:=aH (λf' aX=>(([1,2,4,6,8]:List Nat).map f':List Value)=[x1,c2,x4,x6,x8]/\L1 (([7,9]:List Nat).map f') aX) (atf P K)
def am9:Prop:=ax (aj P ado (aah P K x1 c2 x4 x6 x8 L1)) ([1,2,4,6,8]++[7,9]) ([x1,c2,x4,x6,x8]++xs) h
def LR:Prop:=ax (aj P awK (aah P K x1 c2 x4 x6 x8 L1)) [1,2,4,6,7,8,9] [x1,c2,x4,x6,x7,x8,d9] h
def am8:Prop:=ax (aj P awL (N9 P K)) [4,6,7] [x4,x6,x7] h
theorem aGo:LR P K x1 c2 x4 x6 x7 x8 d9 L1 h=
 (OP (ai .add d9 (.int .i64 (1))) λba=>
 ([x1,c2,x4,x6,x8]:List Value)=[x1,c2,x4,x6,x8]/\L1 [x7,ba] h):=az (by kernel_rfl)
theorem aGq (x1 c2 x4 x6 x8:Value) (L1:LQ) (x7 d9:Value) (h:ae):am9 P K x1 c2 x4 x6 x8 L1 [x7,d9] h=
 (OP (aJ 0 c2) λaA=>
 OP (af false 1 h aA) λaP=>
 OP (bk aP) λaL=>
 OP (ai .sub aL x1) λaS=>
 OP (ai .leq d9 aS) λaK=>
 aN aK
 (OP (af true 4 h x8) λbO=>
 (True)/\
 OP (af true 2 h c2) λcB=>
 (True)/\
 OP (ai .add x1 d9) λcV=>
 OP (ai .sub cV (.int .i64 (1))) λb9=>
 ak P 50 [cB,b9] h λcG z1=>
 (af true 4 z1 x8=some bO/\True)/\
 ak P 26 [bO,cG] z1 λcM z2=>
 (True)/\
 ak P 25 [cM] z2 λdm z3=>
 (True)/\
 OH (aG 4 z3 x8 dm) λ_ z4=>
 (True)/\
 OH (aV 37 [(.bool false),(.slice none 0 0),(.bool false),(.slice none 0 0)] z4) λtT z5=>
 OP (dh z5 tT) λu=>
 (True)/\
 OP (aJ 1 c2) λcC=>
 OP (af false 1 z5 cC) λbV=>
 (af false 1 z4 cC=some bV/\True)/\
 ak P 20 [bV] z5 λdK z6=>
 (dh z6 tT=some u/\True)/\
 OP (af true 2 z6 c2) λcK=>
 (af true 2 z4 c2=some cK/\af true 2 z5 c2=some cK/\True)/\
 ak P 50 [cK,x1] z6 λdc z7=>
 (dh z7 tT=some u/\True)/\
 OP (af true 2 z7 c2) λer=>
 (af true 2 z4 c2=some er/\af true 2 z5 c2=some er/\af true 2 z6 c2=some er/\True)/\
 OP (ai .add x1 d9) λeJ=>
 ak P 50 [er,eJ] z7 λdW z8=>
 (dh z8 tT=some u/\True)/\
 ak P 52 [dc,dW] z8 λeO z9=>
 (dh z9 tT=some u/\True)/\
 ak P 27 [dK,eO] z9 λcj hX=>
 (dh hX tT=some u/\True)/\
 OP (af true 4 hX x8) λbu=>
 (af true 4 z4 x8=some bu/\af true 4 z5 x8=some bu/\af true 4 z6 x8=some bu/\af true 4 z7 x8=some bu/\af true 4 z8 x8=some bu/\af true 4 z9 x8=some bu/\True)/\
 ak P 51 [cj,bu] hX λcS jx=>
 (dh jx tT=some u/\True)/\
 ak P 25 [cS] jx λcI kr=>
 (dh kr tT=some u/\True)/\
 OH (aG 4 kr tT cI) λ_ kH=>
 (True)/\
 OP (af true 4 kH tT) λgO=>
 OP (af true 4 kH x6) λfE=>
 ak P 29 [gO,fE] kH λfN om=>
 OP (ai .gtr fN (.int .i64 (0))) λbY=>
 aN bY
 (OP (af true 4 om tT) λcg=>
 OH (aG 4 om x6 cg) λ_ ky=>
 LR P K x1 c2 x4 x6 d9 x8 d9 L1 ky)
 (LR P K x1 c2 x4 x6 x7 x8 d9 L1 om))
 (am8 P K x4 x6 x7 h)):=az (by kernel_rfl)
theorem aGp:am8 P K x4 x6 x7 h=
 (OP (af true 4 h x6) λiS=>
 OH (aG 4 h x4 iS) λ_ z1=>
 OP (af true 4 z1 x4) λr0=>
 K (.tuple #[r0,x7]) z1):=az (by kernel_rfl)
def zz:Prop:=
 OH (bp 24 h c0) λc2 z1=>
 OH (aV 37 [(.bool false),(.slice none 0 0),(.bool false),(.slice none 0 0)] z1) λx4 z2=>
 ak P 20 [(.int .i64 (-1))] z2 λau z3=>
 OH (aV 37 [(.bool false),(.slice none 0 0),(.bool false),(.slice none 0 0)] z3) λx6 z4=>
 OH (aG 4 z4 x6 au) λ_ z5=>
 ak P 20 [(.int .i64 (0))] z5 λaD z6=>
 OH (aV 37 [(.bool false),(.slice none 0 0),(.bool false),(.slice none 0 0)] z6) λx8 z7=>
 OH (aG 4 z7 x8 aD) λ_ z8=>
 cO [(.int .i64 (0)),(.int .i64 (1))] z8 λL1 xs hx=>
 am9 P K x1 c2 x4 x6 x8 L1 xs hx
theorem RP:aj P sQ (aT [.cell true 4 4,.tmp 5] K) (bw [c0,x1]) h=zz P K c0 x1 h:=by kernel_rfl
theorem f15 {K:VK} {c0 x1:Value} {h:ae} (H:zz prog K c0 x1 h):ak prog 15 [c0,x1] h K:=
 bN k15 (bJ rfl) ((RP prog K c0 x1 h).mpr H)
end
noncomputable section
variable (x0 n1 k5 i6 : Value) (L1 : LQ) (xs : List Value) (h : ae)
def ak5:=bE prog 47 [[],[],[],[0,1],[5,6],[],[],[],[],[0,1,5,6],[],[],[0,1,5,6],[],[]]
@[irreducible] def zO:=bM ak5
@[irreducible] def Q7:=zO.r.r.l.r.l.l
@[irreducible] def axf:=zO.r.r.r
@[irreducible] def axd:=Q7.r.l.l.r.l
@[irreducible] def adZ:=Q7.r.r
@[irreducible] def axe:=adZ.l
theorem k47:ak5=some (26,zO,[.tmp 4]):=by kernel_rfl
def aaw (_P:Program) (K:VK):ar:=aT [.tmp 4] K
def aty:ar:=aH (aj P axf (aaw P K)) (aaw P K)
def atz:ar:=bH 0 (aty P K)
def Hw:ar:=aH (λf' aX=>(([0,1]:List Nat).map f':List Value)=[x0,n1]/\L1 (([5,6]:List Nat).map f') aX) (atz P K)
def atA:ar:=aH (aj P adZ (Hw P K x0 n1 L1)) (Hw P K x0 n1 L1)
def atx:ar:=bH 1 (atA P K x0 n1 L1)
def anq:Prop:=ax (aj P Q7 (Hw P K x0 n1 L1)) ([0,1]++[5,6]) ([x0,n1]++xs) h
def Gc:Prop:=ax (aj P axd (atx P K x0 n1 L1)) [0,1,5,6] [x0,n1,k5,i6] h
def anp:Prop:=ax (aj P axe (Hw P K x0 n1 L1)) [0,1,5,6] [x0,n1,k5,i6] h
theorem aGS:Gc P K x0 n1 k5 i6 L1 h=
 (OP (ai .gtr k5 n1) λbX=>
 aN bX
 (K (.bool false) h)
 (anp P K x0 n1 k5 i6 L1 h)):=az (by kernel_rfl)
theorem aGT:anp P K x0 n1 k5 i6 L1 h=
 (OP (ai .add i6 (.int .i64 (1))) λaD=>
 ([x0,n1]:List Value)=[x0,n1]/\L1 [k5,aD] h):=az (by kernel_rfl)
theorem aGU (x0 n1:Value) (L1:LQ) (k5 i6:Value) (h:ae):anq P K x0 n1 L1 [k5,i6] h=
 (OP (gK x0) λx9=>
 OP (ai .lss i6 x9) λay=>
 aN ay
 (OP (j6 x0 i6) λaP=>
 OP (ai .eql aP (.int .u8 (47))) λaL=>
 aN aL
 (Gc P K x0 n1 (.int .i64 (0)) i6 L1 h)
 (OP (j6 x0 i6) λaK=>
 OP (ai .neq aK (.int .u8 (45))) λaU=>
 aN aU
 (OP (ai .add k5 (.int .i64 (1))) λbO=>
 Gc P K x0 n1 bO i6 L1 h)
 (Gc P K x0 n1 k5 i6 L1 h)))
 (K (.bool true) h)):=az (by kernel_rfl)
def PD:Prop:=
 cO [(.int .i64 (0)),(.int .i64 (0))] h λL1 xs hx=>
 anq P K x0 n1 L1 xs hx
theorem e47:aj P zO (aT [.tmp 4] K) (bw [x0,n1]) h=PD P K x0 n1 h:=by kernel_rfl
theorem f47 {K:VK} {x0 n1:Value} {h:ae} (H:PD prog K x0 n1 h):ak prog 47 [x0,n1] h K:=
 bN k47 (bJ rfl) ((e47 prog K x0 n1 h).mpr H)
end
noncomputable section
variable (c0 x1 c2 x4 x5 k6 : Value) (L1 : LQ) (xs : List Value) (h : ae)
def ak8:=bE prog 50 [[],[],[],[2,4,5],[6],[],[],[],[4,5],[]]
@[irreducible] def IW:=bM ak8
@[irreducible] def axh:=IW.r.r.l.r.l.l
@[irreducible] def ad1:=IW.r.r.r
@[irreducible] def axg:=ad1.l
theorem k50:ak8=some (26,IW,[.cell true 4 4]):=by kernel_rfl
def Od (_P:Program) (K:VK):ar:=aT [.cell true 4 4] K
def atB:ar:=aH (aj P ad1 (Od P K)) (Od P K)
def atC:ar:=bH 0 (atB P K)
def atD:ar:=aH (λf' aX=>(([2,4,5]:List Nat).map f':List Value)=[c2,x4,x5]/\L1 (([6]:List Nat).map f') aX) (atC P K)
def ans:Prop:=ax (aj P axh (atD P K c2 x4 x5 L1)) ([2,4,5]++[6]) ([c2,x4,x5]++xs) h
def anr:Prop:=ax (aj P axg (Od P K)) [4,5] [x4,x5] h
theorem aGW (c2 x4 x5:Value) (L1:LQ) (k6:Value) (h:ae):ans P K c2 x4 x5 L1 [k6] h=
 (OP (aJ 0 c2) λay=>
 OP (af false 1 h ay) λau=>
 OP (bk au) λaD=>
 OP (ai .lss k6 aD) λaB=>
 aN aB
 (OP (af true 4 h x5) λaL=>
 (True)/\
 OP (aJ 0 c2) λbK=>
 OP (af false 1 h bK) λaS=>
 (True)/\
 OP (aZ 1 aS k6) λaU=>
 OP (af false 1 h aU) λba=>
 (True)/\
 ak P 28 [ba] h λbO z1=>
 (af true 4 z1 x5=some aL/\True)/\
 ak P 26 [aL,bO] z1 λcB z2=>
 (True)/\
 ak P 25 [cB] z2 λbL z3=>
 (True)/\
 OH (aG 4 z3 x5 bL) λ_ z4=>
 (True)/\
 OP (ai .add k6 (.int .i64 (1))) λaP=>
 ([c2,x4,x5]:List Value)=[c2,x4,x5]/\L1 [aP] z4)
 (anr P K x4 x5 h)):=az (by kernel_rfl)
theorem aGV:anr P K x4 x5 h=
 (OP (af true 4 h x5) λbX=>
 OH (aG 4 h x4 bX) λ_ z1=>
 OP (af true 4 z1 x4) λr0=>
 K r0 z1):=az (by kernel_rfl)
def PF:Prop:=
 OH (bp 24 h c0) λc2 z1=>
 OH (aV 37 [(.bool false),(.slice none 0 0),(.bool false),(.slice none 0 0)] z1) λx4 z2=>
 ak P 20 [(.int .i64 (0))] z2 λx7 z3=>
 OH (aV 37 [(.bool false),(.slice none 0 0),(.bool false),(.slice none 0 0)] z3) λx5 z4=>
 OH (aG 4 z4 x5 x7) λ_ z5=>
 cO [x1] z5 λL1 xs hx=>
 ans P K c2 x4 x5 L1 xs hx
theorem e50:aj P IW (aT [.cell true 4 4] K) (bw [c0,x1]) h=PF P K c0 x1 h:=by kernel_rfl
theorem f50 {K:VK} {c0 x1:Value} {h:ae} (H:PF prog K c0 x1 h):ak prog 50 [c0,x1] h K:=
 bN k50 (bJ rfl) ((e50 prog K c0 x1 h).mpr H)
end
end
section
section
variable {h : ae} {K : Value -> ae -> Prop}
theorem DD {vs:Value} {ls:List (List UInt8)} {w:Int} {age:Nat} (hv:SS h vs ls) (hn:ls.length<=20) (hl:∀s∈ls,s.length<=700/\jo s=true) (hs:∀s∈ls,cd 4 (bP s)) (ha:age<=ls.length)
  (hk:∀r h',EX h h'->QV h' r (cR ((ls.map bP).drop age))->K r h'):ak prog 50 [.agg #[vs,I w],I age] h K:=by
 refine f50 ?_
 have e1:bp 24 h (.agg #[vs,I w])=some (pt h.length 0,h++[.arr 24 [vs,I w]]):=rfl
 have e2:∀g:ae,aV 37 [(.bool false),(.slice none 0 0),(.bool false),(.slice none 0 0)] g=some (pt g.length 0,g++[.arr 37 z4]):=λ_=>rfl
 simp only [PF,e1,e2,aE,length_append,length_cons,List.length_nil,zero_add]
 have k0:(h++[aq.arr 24 [vs,I w]]++[aq.arr 37 z4])[h.length]?=some (.arr 24 [vs,I w]):=by simp
 have k1:(h++[aq.arr 24 [vs,I w]]++[aq.arr 37 z4])[h.length+1]?=some (.arr 37 z4):=by simp
 have x1:EX h (h++[aq.arr 24 [vs,I w]]++[aq.arr 37 z4]):=(EX.append _ _).push _
 have l1:(h++[aq.arr 24 [vs,I w]]++[aq.arr 37 z4]).length=h.length+2:=by simp
 generalize h++[aq.arr 24 [vs,I w]]++[aq.arr 37 z4]=h1 at k0 k1 x1 l1⊢
 refine vF (by decide) ?_
 intro r2 h2 x2 q2
 refine B1 q2 ?_
 intro h3 x3 c3 l3
 have aB:=x2.trans x3
 have hle:h1.length<=h2.length:=x2.1
 refine dF (σ:=Nat×ae) (λq=>[I ((age:Int)+q.1)]) (λq=>q.2) (λq=>age+q.1<=ls.length/\EX h1 q.2/\fe q.2 h2.length (cR (((ls.map bP).drop age).take q.1))) (λq=>ls.length-q.1) (0,h3) (by simp) rfl
  ⟨ha,aB,by simpa [cR] using c3⟩ ?_
 rintro ⟨i,g⟩ ⟨hi,xg,hc⟩ L hL
 simp only at hi xg hc hL⊢
 rw [aGW]
 have ld:af false 1 g (pt h.length 0)=some vs:=by simp [af,aW,xg.get k0,cP]
 have nW:=hv.mono (x1.trans xg)
 simp only [bZ,add_zero,ld,ah,nW.len,cW,bQ,true_and]
 refine ⟨λaF=>?_,λcU=>?_⟩
 ·have bn:age+i<ls.length:=by omega
  obtain ⟨b,o,r1,r2⟩:=nW.get (age+i) bn
  have em:=getElem_mem bn
  obtain ⟨a1,a2⟩:=hl _ em
  have a3:=hs _ em
  obtain ⟨vc,lc,qc⟩:=hc.load
  have ea:(age:Int)+(i:Int)=((age+i:Nat):Int):=by omega
  simp only [lc,ea,r1,r2,ah]
  refine Zk a1 a2 ?_
  intro r4 g4 x4 q4
  have oG:i<((ls.map bP).drop age).length:=by simp;omega
  have kC:=Br (qs:=(ls.map bP).drop age) (λq hq=>by
   have:=mem_of_mem_drop hq
   obtain ⟨s,h1,rfl⟩:=List.mem_map.1 this
   exact hs s h1) i (by omega)
  refine ⟨⟨EX.load x4 lc,trivial⟩,?_⟩
  refine DC ((qc.mono x4).un kC) (q4.un a3) (by omega) ?_
  intro r5 g5 x5 q5
  refine DB q5 (by omega) ?_
  intro r6 g6 x6 q6
  have cI:=x4.trans (x5.trans x6)
  obtain ⟨g7,e7,s7⟩:=(hc.mono cI).store q6
  have e:cR (((ls.map bP).drop age).take i)+bP ls[age+i]=cR (((ls.map bP).drop age).take (i+1)):=by
   rw [Dj oG];simp
  rw [e] at s7
  have ei:(age:Int)+((i+1:Nat):Int)=((age+i+1:Nat):Int):=by omega
  simp only [e7,aE,cL,ah,ft (age+i) (by omega)]
  have hh:=hL (i+1,g7) ⟨by show age+(i+1)<=_;omega,s7.ex (xg.trans cI) hle,s7.cell⟩ (by show ls.length-(i+1)<ls.length-i;omega)
  simp only [ei] at hh
  exact hh
 ·have fZ:age+i=ls.length:=by omega
  rw [aGV]
  obtain ⟨vc,lc,qc⟩:=hc.load
  simp only [lc,ah]
  obtain ⟨g7,e7,s7⟩:=B2 (xg.get k1) qc
  simp only [e7,aE]
  obtain ⟨v8,l8,q8⟩:=s7.cell.load
  simp only [l8,ah]
  rw [List.take_of_length_le (by simp;omega)] at q8
  exact hk _ _ (s7.ex (x1.trans xg) (by omega)) q8
end
end
end Go.Proofs.YtelmdbpaoifmoaaGreat
