/-
  Part 8 of the texts behind a statement of this seat: Kv1, ZNC, Kv2, Kv3, Kv4, Kv5, Kv6.
-/
import Derived.Test.YtelmdbpaoifmoaaGreatProg
import Derived.KernelRfl
import Derived.Test.YtelmdbpaoifmoaaGreatMv7
open Go.Proofs.Tryz (prog)
open List (getElem?_eq_none getElem?_set_ne getElem?_set_self length_map length_set replicate)
open Nat (le_refl)
namespace Go.Proofs.YtelmdbpaoifmoaaGreat
open Go.Sim
section
def bS (ns:List Nat) (g:ae):ae:=ns.foldl (λg n=>g.set n .dead) g
theorem Kp (n:Nat) (ns:List Nat) (g:ae):bS (n::ns) g=bS ns (g.set n .dead):=rfl
theorem lZ:∀(ns:List Nat) (g:ae),(bS ns g).length=g.length
 | [],_=>rfl
 | n::ns,g=>by rw [Kp,lZ];simp
theorem p5:∀(ns:List Nat) (g:ae) {d:Nat},d∉ns->(bS ns g)[d]?=g[d]?
 | [],_,_,_=>rfl
 | n::ns,g,d,h=>by
  have h1:d≠n/\d∉ns:=by simpa using h
  rw [Kp,p5 ns _ h1.2,getElem?_set_ne λe=>h1.1 e.symm]
theorem uK:∀(ns:List Nat) (g:ae) {d:Nat},d∈ns->d<g.length->(bS ns g)[d]?=some .dead
 | n::ns,g,d,h,hl=>by
  rw [Kp]
  by_cases hd:d∈ns
  ·exact uK ns _ hd (by simpa using hl)
  ·have:d=n:=by
    rcases List.mem_cons.1 h with h | h
    ·exact h
    ·exact absurd h hd
   subst this
   rw [p5 ns _ hd,getElem?_set_self hl]
theorem ahv {ns:List Nat} {g Y:ae} (hl:Y.length=g.length) (h1:∀d,d∈ns->d<g.length->Y[d]?=some .dead) (h2:∀d,d∉ns->Y[d]?=g[d]?):bS ns g=Y:=by
 apply List.ext_getElem?
 intro d
 by_cases hd:d∈ns
 ·by_cases hg:d<g.length
  ·rw [uK ns g hd hg,h1 d hd hg]
  ·rw [getElem?_eq_none (by rw [lZ];omega),getElem?_eq_none (by omega)]
 ·rw [p5 ns g hd,h2 d hd]
theorem lh {g g':ae} (x:EX g g') (ns:List Nat):EX (bS ns g) (bS ns g'):=
 ⟨by rw [lZ,lZ];exact x.1,λd hd=>by
  rw [lZ] at hd
  by_cases h:d∈ns
  ·rw [uK ns g h hd,uK ns g' h (Nat.lt_of_lt_of_le hd x.1)]
  ·rw [p5 ns g h,p5 ns g' h,x.2 d hd]⟩
theorem GZ {im:Nat} {g g':ae} (x:XM im g g') (ns:List Nat):XM im (bS ns g) (bS ns g'):=
 ⟨by rw [lZ,lZ];exact x.1,λd hd hi=>by
  rw [lZ] at hd
  by_cases h:d∈ns
  ·rw [uK ns g h hd,uK ns g' h (Nat.lt_of_lt_of_le hd x.1)]
  ·rw [p5 ns g h,p5 ns g' h,x.2 d hd hi]⟩
theorem Td {ns:List Nat} {i:Nat} {o:aq} (hi:i∉ns) (g:ae):bS ns (g.set i o)=(bS ns g).set i o:=by
 refine ahv (by rw [length_set,length_set,lZ]) (λd hd hl=>?_) (λd hd=>?_)
 ·rw [length_set] at hl
  rw [getElem?_set_ne (by rintro rfl;exact hi hd)]
  exact uK ns g hd hl
 ·by_cases e:i=d
  ·subst e
   by_cases hl:i<g.length
   ·rw [getElem?_set_self (by rw [lZ];exact hl),getElem?_set_self hl]
   ·rw [getElem?_eq_none (by rw [length_set,lZ];omega),getElem?_eq_none (by rw [length_set];omega)]
  ·rw [getElem?_set_ne e,getElem?_set_ne e,p5 ns g hd]
theorem ahw {ns:List Nat} {i:Nat} {o:aq} (hi:i∈ns) (g:ae):bS ns (g.set i o)=bS ns g:=by
 refine ahv (by rw [length_set,lZ]) (λd hd hl=>?_) (λd hd=>?_)
 ·rw [length_set] at hl
  exact uK ns g hd hl
 ·rw [p5 ns g hd,getElem?_set_ne (by rintro rfl;exact hd hi)]
theorem uL {ns:List Nat} {g:ae} {i:Nat} {o:aq} (h:(bS ns g)[i]?=some o) (hd:o≠ .dead):g[i]?=some o/\i∉ns:=by
 by_cases hi:i∈ns
 ·have hl:=(bz h).1
  rw [lZ] at hl
  rw [uK ns g hi hl] at h
  exact absurd (Option.some.inj h).symm hd
 ·rw [p5 ns g hi] at h
  exact ⟨h,hi⟩
theorem RG (ns:List Nat) (g:ae):CX (bS ns g) g:=by
 intro d cs hd
 by_cases hi:d∈ns
 ·exfalso
  unfold aW at hd
  by_cases hl:d<g.length
  ·rw [uK ns g hi hl] at hd;cases hd
  ·rw [getElem?_eq_none (by rw [lZ];omega)] at hd;cases hd
 ·unfold aW at hd⊢
  rwa [p5 ns g hi] at hd
theorem Sa {n m:Nat} {g g':ae} (x:EX g g') (hm:g.length<=m):EX (bS [n] g) (bS [n,m] g'):=
 (lh x [n]).set (by rw [lZ];exact hm) _
theorem aKO {im n m:Nat} {g g':ae} (x:XM im g g') (hm:g.length<=m):XM im (bS [n] g) (bS [n,m] g'):=by
 have y:=GZ x [n]
 refine ⟨by rw [lZ,lZ];exact x.1,λd hd hi=>?_⟩
 have:d≠m:=by rw [lZ] at hd;omega
 show ((bS [n] g').set m .dead)[d]?=_
 rw [getElem?_set_ne λe=>this e.symm]
 exact y.2 d hd hi
theorem afI {P:Program} {F:FuncId} {args:List Value} {h:ae} {K K':Value->ae->Prop} (hc:ak P F args h K) (hk:∀v h',K v h'->K' v h'):ak P F args h K':=by
 rw [uc] at hc⊢
 obtain ⟨v,h1,a,b⟩:=hc
 exact ⟨v,h1,a,hk _ _ b⟩
theorem afJ {P:Program} {F:FuncId} {args:List Value}:∀(ns:List Nat) {g:ae} {K:Value->ae->Prop},(∀n∈ns,∃e xs,g[n]?=some (.arr e xs))->ns.Nodup->
  ak P F args (bS ns g) (λr h'=>EX (bS ns g) h'/\∀g',EX g g'->bS ns g'=h'->K r g')->ak P F args g K
 | [],g,K,_,_,hc=>afI hc λr h' ⟨x,q⟩=>q h' x rfl
 | n::ns,g,K,gy,mW,hc=>by
  obtain ⟨e,xs,hn⟩:=gy n (by simp)
  obtain ⟨hnn,aBH⟩:=List.nodup_cons.1 mW
  have mX:=(bz hn).1
  refine afH hn (afJ ns (g:=g.set n .dead) (λm hm=>?_) aBH (afI hc ?_))
  ·obtain ⟨e',fV,fq⟩:=gy m (by simp [hm])
   exact ⟨e',fV,by rw [getElem?_set_ne (by rintro rfl;exact hnn hm)];exact fq⟩
  ·rintro r h' ⟨x,q⟩
   refine ⟨x,λg2 x2 e2=>⟨ahx hn x2,?_⟩⟩
   have uF:g2[n]?=some .dead:=(ahx hn x2).1
   have E5:=(bz uF).1
   refine q (g2.set n (.arr e xs)) ⟨by have:=x2.1;rw [length_set] at this⊢;exact this,λd hd=>?_⟩ ?_
   ·by_cases uG:n=d
    ·subst uG
     rw [getElem?_set_self E5,hn]
    ·rw [getElem?_set_ne uG,x2.2 d (by rw [length_set];exact hd),getElem?_set_ne uG]
   ·rw [Kp,List.set_set,<-e2]
    congr 1
    apply List.ext_getElem?
    intro d
    by_cases uG:n=d
    ·subst uG
     rw [getElem?_set_self E5,uF]
    ·rw [getElem?_set_ne uG]
theorem Qp {n:Nat} {g:ae} {e:TypeId} {xs:List Value} (hn:g[n]?=some (.arr e xs)):∀d∈[n],∃e xs,g[d]?=some (.arr e xs):=by
 intro d hd
 rw [List.mem_singleton.1 hd]
 exact ⟨_,_,hn⟩
theorem rI {n m:Nat} {g:ae} {e e':TypeId} {xs ys:List Value} (hn:g[n]?=some (.arr e xs)) (hm:g[m]?=some (.arr e' ys)):∀d∈[n,m],∃e xs,g[d]?=some (.arr e xs):=by
 intro d hd
 rcases List.mem_cons.1 hd with rfl | hd
 ·exact ⟨_,_,hn⟩
 ·rw [List.mem_singleton.1 hd];exact ⟨_,_,hm⟩
theorem sv {n m:Nat} (h:n≠m):[n,m].Nodup:=by simp [h]
def Fw:Value->Bool
 | .bool _=>false
 | _=>true
theorem DS.kp {e:TypeId} {k:IntKind} {h h':ae} {v:Value} {xs:List Nat} (x:KP Fw h h') (d:DS e k h v xs):DS e k h' v xs:=by
 rcases d with d | ⟨i,h1,h2⟩
 ·exact .inl d
 ·refine .inr ⟨i,h1,?_⟩
  rcases h2 with h2 | ⟨rest,h2⟩
  ·exact .inl h2
  ·cases xs with
   | nil=>exact .inl rfl
   | cons a xs=>exact .inr ⟨rest,x i _ _ h2 rfl⟩
theorem QZ.kp {h h':ae} {v:Value} {a b:Int} (x:KP Fw h h') (p:QZ h v a b):QZ h' v a b:=
 let ⟨u,w,e,⟨us,m1,m2⟩,⟨ws,n1,n2⟩⟩:=p;⟨u,w,e,⟨us,m1.kp x,m2⟩,⟨ws,n1.kp x,n2⟩⟩
theorem QU.kp {h h':ae} {v:Value} {q:Rat} {k:Nat} (x:KP Fw h h') (p:QU h v q k):QU h' v q k:=let ⟨a,b,e,r⟩:=p;⟨a,b,e.kp x,r⟩
theorem QV.kp {h h':ae} {v:Value} {q:Rat} (x:KP Fw h h') (p:QV h v q):QV h' v q:=QZ.kp x p
structure mQ (c:Nat->Prop) (g g':ae):Prop where
 len:g.length<=g'.length
 old:∀d,d<g.length->¬c d->g'[d]?=g[d]?
 kp:KP Fw g g'
theorem mQ.ex {c:Nat->Prop} {g g':ae} (x:EX g g'):mQ c g g':=⟨x.1,λd hd _=>x.2 d hd,KP.ex x⟩
theorem mQ.get {c:Nat->Prop} {g g':ae} (x:mQ c g g') {i:Nat} {o:aq} (hg:g[i]?=some o) (hi:¬c i):g'[i]?=some o:=by
 rw [x.old i (bz hg).1 hi];exact hg
def nO (g:ae) (i:Nat):Prop:=∃a b c d,g[i]?=some (.arr 37 [.bool a,b,c,d])
def rE (g:ae) (i:Nat) (q:Rat) (k:Nat):Prop:=∃a b c d,g[i]?=some (.arr 37 [B a,b,B c,d])/\QU g (.agg #[B a,b,B c,d]) q k
theorem nO.ch {c:Nat->Prop} {g g':ae} {i:Nat} (p:nO g i) (x:mQ c g g') (hi:¬c i):nO g' i:=let ⟨a,b,d,e,k⟩:=p;⟨a,b,d,e,x.get k hi⟩
theorem fe.ch {c:Nat->Prop} {g g':ae} {i:Nat} {q:Rat} (p:fe g i q) (x:mQ c g g') (hi:¬c i):fe g' i q:=let ⟨a,b,d,e,k,r⟩:=p;⟨a,b,d,e,x.get k hi,r.kp x.kp⟩
theorem rE.ch {c:Nat->Prop} {g g':ae} {i k:Nat} {q:Rat} (p:rE g i q k) (x:mQ c g g') (hi:¬c i):rE g' i q k:=let ⟨a,b,d,e,f,r⟩:=p;⟨a,b,d,e,x.get f hi,r.kp x.kp⟩
theorem fe.d {g:ae} {i:Nat} {q:Rat} (p:fe g i q):nO g i:=let ⟨a,b,c,d,k,_⟩:=p;⟨a,b,.bool c,d,k⟩
theorem rE.d {g:ae} {i k:Nat} {q:Rat} (p:rE g i q k):nO g i:=let ⟨a,b,c,d,k,_⟩:=p;⟨a,b,.bool c,d,k⟩
theorem fe.u {g:ae} {i k:Nat} {q:Rat} (p:fe g i q) (s:cd k q):rE g i q k:=let ⟨a,b,c,d,e,r⟩:=p;⟨a,b,c,d,e,r.un s⟩
theorem nO.lt {g:ae} {i:Nat} (p:nO g i):i<g.length:=let ⟨_,_,_,_,k⟩:=p;(bz k).1
section
variable {ns : List Nat} {g : ae}
theorem fe.nD {i:Nat} {q:Rat} (p:fe (bS ns g) i q):∃v,af true 4 g (pt i 0)=some v/\QV (bS ns g) v q:=
 let ⟨_,_,_,_,e,r⟩:=p;⟨_,gX (uL e (by simp)).1,r⟩
theorem rE.nD {i k:Nat} {q:Rat} (p:rE (bS ns g) i q k):∃v,af true 4 g (pt i 0)=some v/\QU (bS ns g) v q k:=
 let ⟨_,_,_,_,e,r⟩:=p;⟨_,gX (uL e (by simp)).1,r⟩
structure xI (ns:List Nat) (g g':ae) (i:Nat):Prop where
 len:g'.length=g.length
 old:∀d,d≠i->g'[d]?=g[d]?
 ch:mQ (·=i) (bS ns g) (bS ns g')
theorem aia {i:Nat} {a c:Bool} {b d:Value} (hc:nO (bS ns g) i):∃g',aG 4 g (pt i 0) (.agg #[B a,b,B c,d])=some (undef,g')/\xI ns g g' i/\(bS ns g')[i]?=some (.arr 37 [B a,b,B c,d]):=by
 obtain ⟨a',b',c',d',k⟩:=hc
 obtain ⟨k1,k2⟩:=uL k (by simp)
 refine ⟨_,m8 k1,⟨by simp,λd hd=>getElem?_set_ne λe=>hd e.symm,?_⟩,?_⟩
 ·rw [Td k2]
  refine ⟨by simp,λd _ hd=>getElem?_set_ne λe=>hd e.symm,KP.set k ?_ _⟩
  rintro x r e
  injection e with e
  rw [<-e];rfl
 ·rw [Td k2]
  exact cJ k
theorem wD {i:Nat} {v:Value} {q:Rat} (hc:nO (bS ns g) i) (hv:QV (bS ns g) v q):∃g',aG 4 g (pt i 0) v=some (undef,g')/\xI ns g g' i/\fe (bS ns g') i q:=by
 obtain ⟨u,w,rfl,_,_⟩:=id hv
 obtain ⟨g',e,s,k⟩:=aia (a:=decide (q.num<0)) (b:=u) (c:=decide ((q.den:Int)<0)) (d:=w) hc
 exact ⟨g',e,s,_,_,_,_,k,hv.kp s.ch.kp⟩
theorem aCj {i k:Nat} {v:Value} {q:Rat} (hc:nO (bS ns g) i) (hv:QU (bS ns g) v q k):∃g',aG 4 g (pt i 0) v=some (undef,g')/\xI ns g g' i/\rE (bS ns g') i q k:=by
 obtain ⟨a,b,⟨u,w,rfl,_,_⟩,_⟩:=id hv
 obtain ⟨g',e,s,k⟩:=aia (a:=decide (a<0)) (b:=u) (c:=decide (b<0)) (d:=w) hc
 exact ⟨g',e,s,_,_,_,_,k,hv.kp s.ch.kp⟩
end
end
section
variable (P : Program) (K : VK)
noncomputable section
variable (l0 ca x2 x3 x8 x9 ay i11 aA aP aL i17 aS aK aU ka fF iE gQ gG vD By : Value) (L1 : LQ) (xs : List Value) (h : ae)
def akT:=bE prog 22 [[],[],[],[0,1,2,3,8],[9,10,11],[],[],[],[],[0,1,2,3,8,9,10,11],[0,1,2,3,8,9,10],[],[],[],[],[],[],[0,1,2,3,8,9,10,14,15,16],[],[0,1,2,3,8,9,10,14,16],[15,17],[],[],[0,1,2,3,8,9,10,14,15,16,17,74],[0,1,2,3,8,9,10,14,15,16,17,74,76],[0,1,2,3,8,9,10,14,15,16,17,74,76,79],[0,1,2,3,8,9,10,14,15,16,17,74,80],[],[],[],[],[],[],[],[0,1,2,3,8,9,10,14,15,16,17,18,19,20,21],[],[],[0,1,2,3,8,9,10,14,15,16,17,21,146],[0,1,2,3,8,9,10,14,15,16,17,21,146,150],[],[0,1,2,3,8,9,10,14,15,16,17],[3,8,9,14],[],[]]
@[irreducible] def BY:=bM akT
@[irreducible] def adB:=BY.r.r.l.r.l.l
@[irreducible] def adv:=BY.r.r.r
@[irreducible] def awO:=adB.r.r.l
@[irreducible] def ads:=adv.l
@[irreducible] def Q3:=ads.r.r.r.l
@[irreducible] def D8:=Q3.l.r.l.l
@[irreducible] def adt:=Q3.r
@[irreducible] def adx:=D8.r.l.l.l.l.r.l
@[irreducible] def awP:=D8.r.l.l.l.r
@[irreducible] def adw:=D8.r.l.l.r
@[irreducible] def adu:=D8.r.r
@[irreducible] def awU:=adt.l
@[irreducible] def ady:=adx.r.l
@[irreducible] def Q4:=adw.r.r.r.r.r.l
@[irreducible] def awT:=adu.l
@[irreducible] def adz:=ady.r.l
@[irreducible] def adA:=Q4.r.r.l.r.l
@[irreducible] def awR:=Q4.r.r.r
@[irreducible] def awQ:=adz.r.l
@[irreducible] def awS:=adA.r.l
theorem k22:akT=some (157,BY,[.cell true 4 8]):=by kernel_rfl
def zm (_P:Program) (K:VK):ar:=aT [.cell true 4 8] K
def atj:ar:=aH (aj P adv (zm P K)) (zm P K)
def atk:ar:=bH 0 (atj P K)
def aam:ar:=aH (λf' aX=>(([0,1,2,3,8]:List Nat).map f':List Value)=[l0,ca,x2,x3,x8]/\L1 (([9,10,11]:List Nat).map f') aX) (atk P K)
def atg:ar:=aH (aj P adt (zm P K)) (zm P K)
def ath:ar:=bH 2 (atg P K)
def Hs:ar:=aH (λf' aX=>(([0,1,2,3,8,9,10,14,16]:List Nat).map f':List Value)=[l0,ca,x2,x3,x8,x9,ay,aA,aL]/\L1 (([15,17]:List Nat).map f') aX) (ath P K)
def ati:ar:=aH (aj P adu (Hs P K l0 ca x2 x3 x8 x9 ay aA aL L1)) (Hs P K l0 ca x2 x3 x8 x9 ay aA aL L1)
def DL:ar:=bH 3 (ati P K l0 ca x2 x3 x8 x9 ay aA aL L1)
def aak:ar:=aH (aj P adw (DL P K l0 ca x2 x3 x8 x9 ay aA aL L1)) (DL P K l0 ca x2 x3 x8 x9 ay aA aL L1)
def Ht:ar:=aH (aj P awP (aak P K l0 ca x2 x3 x8 x9 ay aA aL L1)) (aak P K l0 ca x2 x3 x8 x9 ay aA aL L1)
def aal:ar:=aH (aj P awR (DL P K l0 ca x2 x3 x8 x9 ay aA aL L1)) (DL P K l0 ca x2 x3 x8 x9 ay aA aL L1)
def V6:Prop:=ax (aj P adB (aam P K l0 ca x2 x3 x8 L1)) ([0,1,2,3,8]++[9,10,11]) ([l0,ca,x2,x3,x8]++xs) h
def LS:Prop:=ax (aj P awO (aam P K l0 ca x2 x3 x8 L1)) [0,1,2,3,8,9,10,11] [l0,ca,x2,x3,x8,x9,ay,i11] h
def VZ:Prop:=ax (aj P ads (zm P K)) [0,1,2,3,8,9,10] [l0,ca,x2,x3,x8,x9,ay] h
def LU:Prop:=ax (aj P Q3 (zm P K)) [0,1,2,3,8,9,10,14,15,16] [l0,ca,x2,x3,x8,x9,ay,aA,aP,aL] h
def anb:Prop:=ax (aj P D8 (Hs P K l0 ca x2 x3 x8 x9 ay aA aL L1)) ([0,1,2,3,8,9,10,14,16]++[15,17]) ([l0,ca,x2,x3,x8,x9,ay,aA,aL]++xs) h
def V1:Prop:=ax (aj P adx (Ht P K l0 ca x2 x3 x8 x9 ay aA aL L1)) [0,1,2,3,8,9,10,14,15,16,17,74] [l0,ca,x2,x3,x8,x9,ay,aA,aP,aL,i17,fF] h
def V3:Prop:=ax (aj P ady (Ht P K l0 ca x2 x3 x8 x9 ay aA aL L1)) [0,1,2,3,8,9,10,14,15,16,17,74,76] [l0,ca,x2,x3,x8,x9,ay,aA,aP,aL,i17,fF,iE] h
def V4:Prop:=ax (aj P adz (Ht P K l0 ca x2 x3 x8 x9 ay aA aL L1)) [0,1,2,3,8,9,10,14,15,16,17,74,76,79] [l0,ca,x2,x3,x8,x9,ay,aA,aP,aL,i17,fF,iE,gQ] h
def F6:Prop:=ax (aj P awQ (Ht P K l0 ca x2 x3 x8 x9 ay aA aL L1)) [0,1,2,3,8,9,10,14,15,16,17,74,80] [l0,ca,x2,x3,x8,x9,ay,aA,aP,aL,i17,fF,gG] h
def F8:Prop:=ax (aj P Q4 (DL P K l0 ca x2 x3 x8 x9 ay aA aL L1)) [0,1,2,3,8,9,10,14,15,16,17,18,19,20,21] [l0,ca,x2,x3,x8,x9,ay,aA,aP,aL,i17,aS,aK,aU,ka] h
def V5:Prop:=ax (aj P adA (aal P K l0 ca x2 x3 x8 x9 ay aA aL L1)) [0,1,2,3,8,9,10,14,15,16,17,21,146] [l0,ca,x2,x3,x8,x9,ay,aA,aP,aL,i17,ka,vD] h
def F9:Prop:=ax (aj P awS (aal P K l0 ca x2 x3 x8 x9 ay aA aL L1)) [0,1,2,3,8,9,10,14,15,16,17,21,146,150] [l0,ca,x2,x3,x8,x9,ay,aA,aP,aL,i17,ka,vD,By] h
def C2:Prop:=ax (aj P awT (Hs P K l0 ca x2 x3 x8 x9 ay aA aL L1)) [0,1,2,3,8,9,10,14,15,16,17] [l0,ca,x2,x3,x8,x9,ay,aA,aP,aL,i17] h
def anc:Prop:=ax (aj P awU (zm P K)) [3,8,9,14] [x3,x8,x9,aA] h
theorem aGt:LS P K l0 ca x2 x3 x8 x9 ay i11 L1 h=
 (OP (ai .add i11 (.int .i64 (1))) λb9=>
 ([l0,ca,x2,x3,x8]:List Value)=[l0,ca,x2,x3,x8]/\L1 [x9,ay,b9] h):=az (by kernel_rfl)
theorem aGC (l0 ca x2 x3 x8:Value) (L1:LQ) (x9 ay i11:Value) (h:ae):V6 P K l0 ca x2 x3 x8 L1 [x9,ay,i11] h=
 (OP (bk l0) λbL=>
 OP (ai .lss i11 bL) λbX=>
 aN bX
 (OP (aZ 1 ca i11) λcC=>
 OP (af false 1 h cC) λbV=>
 OP (ai .add bV (.int .i64 (1))) λdK=>
 OP (dG .u8 dK) λcK=>
 OH (dN 5 1 [(.int .u8 (0))] h [(0,1,cK)]) λdw z1=>
 OP (oQ z1 dw) λdc=>
 OP (ai .add x9 dc) λer=>
 OP (aZ 1 ca i11) λeJ=>
 OP (af false 1 z1 eJ) λdW=>
 OP (ai .geq dW (.int .i64 (0))) λeO=>
 aN eO
 (OP (aZ 2 l0 i11) λcI=>
 OP (aJ 1 cI) λgO=>
 OP (af false 1 z1 gO) λfE=>
 OP (ai .add ay fE) λfN=>
 LS P K l0 ca x2 x3 x8 er fN i11 L1 z1)
 (LS P K l0 ca x2 x3 x8 er ay i11 L1 z1))
 (VZ P K l0 ca x2 x3 x8 x9 ay h)):=az (by kernel_rfl)
theorem Xg:F6 P K l0 ca x2 x3 x8 x9 ay aA aP aL i17 fF gG L1 h=
 (OP (bF fF (.bool true) gG) λjT=>
 aN jT
 (C2 P K l0 ca x2 x3 x8 x9 ay aA aP aL i17 L1 h)
 (OH (dN 3 0 [(.int .i64 (0))] h []) λfc z1=>
 OH (eG 3 1 8 z1 fc ca) λeB z2=>
 OP (aZ 1 eB i17) λqA=>
 OP (af false 1 z2 qA) λgH=>
 OP (ai .add gH (.int .i64 (1))) λiF=>
 OP (aZ 1 eB i17) λlR=>
 OH (aG 1 z2 lR iF) λ_ z3=>
 OH (aV 37 [(.bool false),(.slice none 0 0),(.bool false),(.slice none 0 0)] z3) λaK z4=>
 OP (dh z4 aK) λu=>
 (True)/\
 OH (aV 37 [(.bool false),(.slice none 0 0),(.bool false),(.slice none 0 0)] z4) λaU z5=>
 OP (dh z5 aU) λu_1=>
 (dh z5 aK=some u/\True)/\
 OP (aZ 2 l0 i17) λpa=>
 OP (af true 2 z5 pa) λrC=>
 (af true 2 z3 pa=some rC/\af true 2 z4 pa=some rC/\True)/\
 OP (aZ 1 ca i17) λoh=>
 OP (af false 1 z5 oh) λnK=>
 (af false 1 z3 oh=some nK/\af false 1 z4 oh=some nK/\True)/\
 ak P 50 [rC,nK] z5 λYK z6=>
 (dh z6 aK=some u/\dh z6 aU=some u_1/\True)/\
 OP (aZ 2 l0 i17) λsE=>
 OP (af true 2 z6 sE) λqy=>
 (af true 2 z3 sE=some qy/\af true 2 z4 sE=some qy/\af true 2 z5 sE=some qy/\True)/\
 OP (aZ 1 ca i17) λqz=>
 OP (af false 1 z6 qz) λo9=>
 (af false 1 z3 qz=some o9/\af false 1 z4 qz=some o9/\af false 1 z5 qz=some o9/\True)/\
 OP (ai .add o9 (.int .i64 (1))) λtW=>
 ak P 50 [qy,tW] z6 λyU z7=>
 (dh z7 aK=some u/\dh z7 aU=some u_1/\True)/\
 OH (aG 4 z7 aK YK) λ_ z8=>
 (True)/\
 OH (aG 4 z8 aU yU) λ_ z9=>
 (True)/\
 ak P 20 [ay] z9 λxo hX=>
 OH (aV 37 [(.bool false),(.slice none 0 0),(.bool false),(.slice none 0 0)] hX) λka jx=>
 OH (aG 4 jx ka xo) λ_ kr=>
 OP (aJ 0 aU) λGP=>
 OP (af true 2 kr GP) λaKB=>
 ak P 48 [aKB] kr λGQ kH=>
 OP (ai .gtr GQ (.int .i64 (0))) λGR=>
 aN GR
 (OP (af true 4 kH ka) λyV=>
 (True)/\
 OP (af true 4 kH aU) λaKC=>
 (True)/\
 OP (af true 4 kH aK) λGS=>
 (True)/\
 ak P 51 [aKC,GS] kH λsF om=>
 (af true 4 om ka=some yV/\True)/\
 ak P 22 [l0,eB,x2,x3] om λGU ky=>
 (af true 4 ky ka=some yV/\True)/\
 ak P 27 [sF,GU] ky λGV rD=>
 (af true 4 rD ka=some yV/\True)/\
 ak P 26 [yV,GV] rD λGW G3=>
 (True)/\
 OH (aG 4 G3 ka GW) λ_ No=>
 (True)/\
 F8 P K l0 ca x2 x3 x8 x9 ay aA aP aL i17 eB aK aU ka L1 No)
 (F8 P K l0 ca x2 x3 x8 x9 ay aA aP aL i17 eB aK aU ka L1 kH))):=az (by kernel_rfl)
theorem Xf:V4 P K l0 ca x2 x3 x8 x9 ay aA aP aL i17 fF iE gQ L1 h=
 (ck fF false
 (OP (bF iE gQ (.bool false)) λgG=>
 F6 P K l0 ca x2 x3 x8 x9 ay aA aP aL i17 fF gG L1 h)
 (F6 P K l0 ca x2 x3 x8 x9 ay aA aP aL i17 fF undef L1 h)):=az (by kernel_rfl)
theorem apt:V3 P K l0 ca x2 x3 x8 x9 ay aA aP aL i17 fF iE L1 h=
 (ck iE true
 (OP (ai .neq i17 aL) λgQ=>
 V4 P K l0 ca x2 x3 x8 x9 ay aA aP aL i17 fF iE gQ L1 h)
 (V4 P K l0 ca x2 x3 x8 x9 ay aA aP aL i17 fF iE undef L1 h)):=az (by kernel_rfl)
theorem aGx:V1 P K l0 ca x2 x3 x8 x9 ay aA aP aL i17 fF L1 h=
 (ck fF false
 (V3 P K l0 ca x2 x3 x8 x9 ay aA aP aL i17 fF x2 L1 h)
 (V3 P K l0 ca x2 x3 x8 x9 ay aA aP aL i17 fF undef L1 h)):=az (by kernel_rfl)
theorem apu:F9 P K l0 ca x2 x3 x8 x9 ay aA aP aL i17 ka vD By L1 h=
 (OP (bF vD (.bool true) By) λYG=>
 aN YG
 (OP (af true 4 h ka) λYH=>
 OH (aG 4 h aA YH) λ_ z1=>
 C2 P K l0 ca x2 x3 x8 x9 ay aA (.bool true) aL i17 L1 z1)
 (C2 P K l0 ca x2 x3 x8 x9 ay aA aP aL i17 L1 h)):=az (by kernel_rfl)
theorem aGz:V5 P K l0 ca x2 x3 x8 x9 ay aA aP aL i17 ka vD L1 h=
 (ck vD false
 (OP (af true 4 h ka) λaKJ=>
 OP (af true 4 h aA) λNi=>
 ak P 29 [aKJ,Ni] h λYF z1=>
 OP (ai .lss YF (.int .i64 (0))) λBy=>
 F9 P K l0 ca x2 x3 x8 x9 ay aA aP aL i17 ka vD By L1 z1)
 (F9 P K l0 ca x2 x3 x8 x9 ay aA aP aL i17 ka vD undef L1 h)):=az (by kernel_rfl)
theorem aGy:F8 P K l0 ca x2 x3 x8 x9 ay aA aP aL i17 aS aK aU ka L1 h=
 (OP (aZ 1 aS i17) λYB=>
 OH (aG 1 h YB (.int .i64 (-1))) λ_ z1=>
 OP (af true 4 z1 ka) λxp=>
 (True)/\
 OP (af true 4 z1 aK) λaKF=>
 (True)/\
 OP (af true 4 z1 aU) λmM=>
 (True)/\
 ak P 52 [aKF,mM] z1 λxq z2=>
 (af true 4 z2 ka=some xp/\True)/\
 OP (af true 4 z2 aK) λNh=>
 (af true 4 z1 aK=some Nh/\True)/\
 ak P 51 [xq,Nh] z2 λaKG z3=>
 (af true 4 z3 ka=some xp/\True)/\
 ak P 22 [l0,aS,x2,x3] z3 λaKH z4=>
 (af true 4 z4 ka=some xp/\True)/\
 ak P 27 [aKG,aKH] z4 λYC z5=>
 (af true 4 z5 ka=some xp/\True)/\
 ak P 26 [xp,YC] z5 λYD z6=>
 (True)/\
 ak P 25 [YD] z6 λaKI z7=>
 (True)/\
 OH (aG 4 z7 ka aKI) λ_ z8=>
 (True)/\
 OP (gq .not aP) λYE=>
 V5 P K l0 ca x2 x3 x8 x9 ay aA aP aL i17 ka YE L1 z8):=az (by kernel_rfl)
theorem aGA:C2 P K l0 ca x2 x3 x8 x9 ay aA aP aL i17 L1 h=
 (OP (ai .add i17 (.int .i64 (1))) λfw=>
 ([l0,ca,x2,x3,x8,x9,ay,aA,aL]:List Value)=[l0,ca,x2,x3,x8,x9,ay,aA,aL]/\L1 [aP,fw] h):=az (by kernel_rfl)
theorem aGw (l0 ca x2 x3 x8 x9 ay aA aL:Value) (L1:LQ) (aP i17:Value) (h:ae):anb P K l0 ca x2 x3 x8 x9 ay aA aL L1 [aP,i17] h=
 (OP (bk l0) λgP=>
 OP (ai .lss i17 gP) λjd=>
 aN jd
 (OP (aZ 1 ca i17) λiD=>
 OP (af false 1 h iD) λkW=>
 OP (ai .lss kW (.int .i64 (0))) λmi=>
 V1 P K l0 ca x2 x3 x8 x9 ay aA aP aL i17 mi L1 h)
 (anc P K x3 x8 x9 aA h)):=az (by kernel_rfl)
theorem aGB:anc P K x3 x8 x9 aA h=
 (OP (af true 4 h aA) λYI=>
 OH (wV .str h x3 x9 YI) λ_ z1=>
 OP (af true 4 z1 aA) λYJ=>
 OH (aG 4 z1 x8 YJ) λ_ z2=>
 OP (af true 4 z2 x8) λr0=>
 K r0 z2):=az (by kernel_rfl)
theorem aGv:LU P K l0 ca x2 x3 x8 x9 ay aA aP aL h=
 (cO [aP,(.int .i64 (0))] h λL1 xs hx=>
 anb P K l0 ca x2 x3 x8 x9 ay aA aL L1 xs hx):=az (by kernel_rfl)
theorem aGu:VZ P K l0 ca x2 x3 x8 x9 ay h=
 (OP (uR .str true (.agg #[(.bool false),(.slice none 0 0),(.bool false),(.slice none 0 0)]) h x3 x9) λiS=>
 OP (cD 0 iS) λcX=>
 OP (cD 1 iS) λhI=>
 OH (aV 37 [(.bool false),(.slice none 0 0),(.bool false),(.slice none 0 0)] h) λv12 z1=>
 OH (aG 4 z1 v12 cX) λ_ z2=>
 aN hI
 (OP (af true 4 z2 v12) λee=>
 OH (aG 4 z2 x8 ee) λ_ z3=>
 OP (af true 4 z3 x8) λr0=>
 K r0 z3)
 (ak P 20 [(.int .i64 (0))] z2 λfO z3=>
 OH (aV 37 [(.bool false),(.slice none 0 0),(.bool false),(.slice none 0 0)] z3) λaA z4=>
 OH (aG 4 z4 aA fO) λ_ z5=>
 aN x2
 (ak P 42 [l0,ca] z5 λng z6=>
 LU P K l0 ca x2 x3 x8 x9 ay aA (.bool false) ng z6)
 (LU P K l0 ca x2 x3 x8 x9 ay aA (.bool false) (.int .i64 (-1)) z5))):=az (by kernel_rfl)
def Pr:Prop:=
 OH (aV 37 [(.bool false),(.slice none 0 0),(.bool false),(.slice none 0 0)] h) λx8 z1=>
 cO [(.string ⟨#[]⟩),(.int .i64 (0)),(.int .i64 (0))] z1 λL1 xs hx=>
 V6 P K l0 ca x2 x3 x8 L1 xs hx
theorem RT:aj P BY (aT [.cell true 4 8] K) (bw [l0,ca,x2,x3]) h=Pr P K l0 ca x2 x3 h:=by kernel_rfl
theorem f22 {K:VK} {l0 ca x2 x3:Value} {h:ae} (H:Pr prog K l0 ca x2 x3 h):ak prog 22 [l0,ca,x2,x3] h K:=
 bN k22 (bJ rfl) ((RT prog K l0 ca x2 x3 h).mpr H)
end
end
section
def eI (ag:List Int):List Int:=ag++replicate (3-ag.length) (-1)
theorem pM (ag:List Int) (i:Nat):(eI ag).getD i (-1)=ag.getD i (-1):=by
 unfold eI
 rw [List.getD_eq_getElem?_getD,List.getD_eq_getElem?_getD]
 by_cases h:i<ag.length
 ·rw [List.getElem?_append_left h]
 ·rw [List.getElem?_append_right (by omega),List.getElem?_replicate,getElem?_eq_none (show ag.length<=i by omega)]
  split <;> rfl
theorem C3 {ag:List Int} {k:Nat} (hk:k<ag.length) (x:Int):(eI ag).set k x=eI (ag.set k x):=by
 unfold eI
 rw [List.set_append_left _ _ hk,length_set]
theorem aoM (n:Nat):eI (replicate n 0)=qG n:=by
 unfold eI qG
 rw [List.length_replicate]
def fS (ag:List Int):List UInt8:=ag.map λa=>UInt8.ofNat (a+1).toNat
def okB (ag:List Int):Prop:=∀a∈ag,-1<=a/\a<8
theorem ai1:∀{ls bs:List Int},okB ls->okB bs->fS ls=fS bs->ls=bs
 | [],[],_,_,_=>rfl
 | [],b::bs,_,_,h=>by cases h
 | a::ls,[],_,_,h=>by cases h
 | a::ls,b::bs,h1,h2,h=>by
  simp only [fS,List.map_cons] at h
  injection h with e1 e2
  have a1:=h1 a (by simp)
  have b1:=h2 b (by simp)
  have e3:=congrArg UInt8.toNat e1
  simp only [UInt8.toNat_ofNat'] at e3
  have e4:a=b:=by omega
  rw [e4,ai1 (λx hx=>h1 x (by simp [hx])) (λx hx=>h2 x (by simp [hx])) e2]
theorem aDK {ls bs:List Int} (h1:okB ls) (h2:okB bs) (h:mC (S (fS ls)) (S (fS bs))=true):ls=bs:=
 ai1 h1 h2 (by simpa [mC,S] using h)
def mo (cs:List (List (List UInt8)×Int)) (im:Nat) (Y:ae):Prop:=
 ∃gh es,Y[im]?=some (.cw .str gh es)/\∀e∈es,∃ag,okB ag/\e.2.1=S (fS ag)/\QV Y e.2.2 (cn (bf cs) (eI ag))
theorem mo.ch {cs:List (List (List UInt8)×Int)} {im:Nat} {g g':ae} {c:Nat->Prop} (p:mo cs im g) (x:mQ c g g') (hi:¬c im):mo cs im g':=
 let ⟨gh,es,a,b⟩:=p;⟨gh,es,x.get a hi,λe he=>let ⟨ag,o,c,d⟩:=b e he;⟨ag,o,c,d.kp x.kp⟩⟩
theorem mo.ex {cs:List (List (List UInt8)×Int)} {im:Nat} {g g':ae} (p:mo cs im g) (x:EX g g'):mo cs im g':=p.ch (mQ.ex (c:=λ_=>False) x) λh=>h
theorem mo.Rx {cs:List (List (List UInt8)×Int)} {im:Nat} {g g':ae} (m:mo cs im g) (x:XM im g g'):mQ (·=im) g g':=
 let ⟨_,_,a,_⟩:=m;⟨x.1,λd hd hi=>x.2 d hd hi,uX (xt x a)⟩
def xF (cs:List (List (List UInt8)×Int)) (v:Value) (ch:Bool) (im n:Nat) (ag:List Int):Prop:=
 ∀{h:ae} {K:Value->ae->Prop},h[n]?=some (.arr 3 (ag.map I))->im≠n->jU (bS [n] h) v cs->mo cs im (bS [n] h)->
  (∀r h',XM im h h'->mo cs im (bS [n] h')->QV (bS [n] h') r (cn (bf cs) (eI ag))->K r h')->ak prog 22 [v,sl 3 n 0 ag.length,B ch,.map (some im)] h K
theorem jB {P:Program} {F:FuncId} {args:List Value} {ns:List Nat} {g:ae} {K:Value->ae->Prop} {Q:Value->ae->Prop} (gy:∀n∈ns,∃e xs,g[n]?=some (.arr e xs)) (mW:ns.Nodup)
  (hc:∀{K':Value->ae->Prop},(∀r h',EX (bS ns g) h'->Q r h'->K' r h')->ak P F args (bS ns g) K') (hk:∀r g',EX g g'->Q r (bS ns g')->K r g'):ak P F args g K:=
 afJ ns gy mW (hc λr _ x q=>⟨x,λg' xg e=>hk r g' xg (e ▸ q)⟩)
theorem xI.ex {ns:List Nat} {g0 g g':ae} {i:Nat} (s:xI ns g g' i) (x:EX g0 g) (hi:g0.length<=i):EX g0 g':=
 ⟨by rw [s.len];exact x.1,λd hd=>by rw [s.old d (by omega)];exact x.2 d hd⟩
theorem xI.xm {ns:List Nat} {im:Nat} {g0 g g':ae} {i:Nat} (s:xI ns g g' i) (x:XM im g0 g) (hi:g0.length<=i):XM im g0 g':=
 ⟨by rw [s.len];exact x.1,λd hd he=>by rw [s.old d (by omega)];exact x.2 d hd he⟩
theorem aJO {h:ae} {i:Nat} {e:TypeId} {ag:List Int} (hg:h[i]?=some (.arr e (ag.map I))):kF h 1 (sl e i 0 ag.length)=some (ag.map I):=by
 cases ag with
 | nil=>simp [kF,sl]
 | cons a ag=>
  simp [kF,sl,aW,hg]
  exact List.take_of_length_le (by simp)
theorem HT {e:TypeId} {i n k:Nat} (hk:k<n):aZ 1 (sl e i 0 n) (I k)=some (pt i k):=by
 have:(0:Int)<=(k:Int)/\(k:Int)<(n:Int):=by omega
 simp [sl,aZ,this]
theorem ap5 {cs:List (List (List UInt8)×Int)} {v:Value} {ch:Bool} {im n m:Nat} {ag nx:List Int} {g:ae} {K:Value->ae->Prop} (hn:g[n]?=some (.arr 3 (ag.map I))) (hm:g[m]?=some (.arr 3 (nx.map I))) (AA:n≠m) (eZ:im≠m)
  (rec:xF cs v ch im m nx) (hc:jU (bS [n,m] g) v cs) (mp:mo cs im (bS [n,m] g))
  (hk:∀r g',XM im g g'->mo cs im (bS [n,m] g')->QV (bS [n,m] g') r (cn (bf cs) (eI nx))->K r g'):ak prog 22 [v,sl 3 m 0 nx.length,B ch,.map (some im)] g K:=by
 have mX:=(bz hn).1
 refine afH hn ?_
 refine rec (h:=g.set n .dead) (by rw [getElem?_set_ne AA];exact hm) eZ hc mp ?_
 intro r h1 x1 m1 q1
 obtain ⟨gh,es,Tp,_⟩:=id mp
 have aBE:g[im]?=some (.cw .str gh es):=(uL Tp (by simp)).1
 have hx:=aBm hn aBE x1
 have rT:=(bz hx.1).1
 have e:bS [n,m] (h1.set n (.arr 3 (ag.map I)))=bS [m] h1:=by
  show ((h1.set n _).set n .dead).set m .dead=h1.set m .dead
  rw [List.set_set]
  congr 1
  apply List.ext_getElem?
  intro d
  by_cases hd:n=d
  ·subst hd
   rw [getElem?_set_self rT,hx.1]
  ·rw [getElem?_set_ne hd]
 refine ⟨hx,hk r _ ⟨by have:=x1.1;rw [length_set] at this⊢;exact this,λd hd hi=>?_⟩ (by rw [e];exact m1) (by rw [e];exact q1)⟩
 by_cases uG:n=d
 ·subst uG
  rw [getElem?_set_self rT,hn]
 ·rw [getElem?_set_ne uG,x1.2 d (by rw [length_set];exact hd) hi,getElem?_set_ne uG]
theorem aKA {cs:db} {ag:List Int} (h:fT cs ag) (k:Nat) (hk:k<=cs.length):∃z:Int,jL cs ag k=(z:Rat)/\z.natAbs<1000:=by
 obtain ⟨z,e,z0,z1⟩:=Yt h.ok.jI h.ok.ef ag k hk
 have:=h.ok.ef
 exact ⟨z,e,by omega⟩
theorem fe.aBD {ns:List Nat} {g:ae} {i:Nat} {q:Rat} (p:fe (bS ns g) i q):∃v,af true 2 g (pt i 0)=some v/\ZV (bS ns g) v q.num:=by
 obtain ⟨a,b,c,d,e,u,w,he,hu,hw⟩:=p
 have e1:=(uL e (by simp)).1
 simp only [Value.agg.injEq] at he
 have gn:[B a,b,B c,d]=[B (decide (q.num<0)),u,B (decide ((q.den:Int)<0)),w]:=congrArg Array.toList he
 simp only [List.cons.injEq] at gn
 obtain ⟨ea,eb,_⟩:=gn
 refine ⟨.agg #[B a,b],by simp [af,aW,e1,cP],u,?_,hu⟩
 rw [ea,eb]
structure zj (cs:List (List (List UInt8)×Int)) (im n i8 ib:Nat) (h:ae) (qb:Rat) (g:ae):Prop where
 xm:XM im h g
 mp:mo cs im (bS [n] g)
 c8:nO (bS [n] g) i8
 cb:fe (bS [n] g) ib qb
structure pv (cs:List (List (List UInt8)×Int)) (v:Value) (im n:Nat) (ag:List Int) (h:ae):Prop where
 eZ:im<h.length
 hn:h[n]?=some (.arr 3 (ag.map I))
 ne:im≠n
 ch:jU (bS [n] h) v cs
 gm:∃k gh es,h[im]?=some (.cw k gh es)
theorem pv.Va {cs:List (List (List UInt8)×Int)} {v:Value} {im n:Nat} {ag:List Int} {h:ae} (s:pv cs v im n ag h):n<h.length:=(bz s.hn).1
theorem pv.iW {cs:List (List (List UInt8)×Int)} {v:Value} {im n:Nat} {ag:List Int} {h g:ae} (s:pv cs v im n ag h) (x:XM im h g):g[n]?=some (.arr 3 (ag.map I)):=x.get (λe=>s.ne e.symm) s.hn
theorem pv.gmh {cs:List (List (List UInt8)×Int)} {v:Value} {im n:Nat} {ag:List Int} {h:ae} (s:pv cs v im n ag h):∃k gh es,(bS [n] h)[im]?=some (.cw k gh es):=by
 obtain ⟨k,gh,es,e⟩:=s.gm
 exact ⟨k,gh,es,by rw [p5 [n] h (by simp [s.ne])];exact e⟩
theorem pv.Rv {cs:List (List (List UInt8)×Int)} {v:Value} {im n:Nat} {ag:List Int} {h g:ae} (s:pv cs v im n ag h) (x:XM im h g):jU (bS [n] g) v cs:=by
 obtain ⟨k,gh,es,e⟩:=s.gmh
 exact Rz (uX (xt (GZ x [n]) e)) s.ch
theorem pv.ch2 {cs:List (List (List UInt8)×Int)} {v:Value} {im n m:Nat} {ag:List Int} {h g:ae} (s:pv cs v im n ag h) (x:XM im h g) (hm:h.length<=m):jU (bS [n,m] g) v cs:=by
 obtain ⟨k,gh,es,e⟩:=s.gmh
 exact Rz (uX (xt (aKO x hm) e)) s.ch
structure pw (cs:List (List (List UInt8)×Int)) (im n i8 ib m j1 j2:Nat) (nx:List Int) (h:ae) (qb q1 q2:Rat) (g:ae):Prop where
 xm:XM im h g
 hm:g[m]?=some (.arr 3 (nx.map I))
 mp:mo cs im (bS [n,m] g)
 c8:nO (bS [n,m] g) i8
 cb:fe (bS [n,m] g) ib qb
 c1:fe (bS [n,m] g) j1 q1
 c2:fe (bS [n,m] g) j2 q2
section
variable {cs : List (List (List UInt8) × Int)} {im n i8 ib m j1 j2 : Nat} {nx : List Int} {h : ae} {qb q1 q2 : Rat} {g g' : ae}
theorem pw.ex (t:pw cs im n i8 ib m j1 j2 nx h qb q1 q2 g) (x:EX g g'):pw cs im n i8 ib m j1 j2 nx h qb q1 q2 g':=
 let y:=lh x [n,m];let c:=mQ.ex (c:=λ_=>False) y
 ⟨t.xm.trans (XM.ex x),x.get t.hm,t.mp.ex y,t.c8.ch c (λh=>h),t.cb.mono y,t.c1.mono y,t.c2.mono y⟩
theorem pw.X0 {i:Nat} (t:pw cs im n i8 ib m j1 j2 nx h qb q1 q2 g) (s:xI [n,m] g g' i) (hi:h.length<=i/\i≠m/\im≠i/\i8≠i/\ib≠i/\j1≠i/\j2≠i):pw cs im n i8 ib m j1 j2 nx h qb q1 q2 g':=
 ⟨s.xm t.xm hi.1,by rw [s.old m λe=>hi.2.1 e.symm];exact t.hm,t.mp.ch s.ch hi.2.2.1,t.c8.ch s.ch hi.2.2.2.1,t.cb.ch s.ch hi.2.2.2.2.1,t.c1.ch s.ch hi.2.2.2.2.2.1,t.c2.ch s.ch hi.2.2.2.2.2.2⟩
theorem pw.gN {ny:List Int} (t:pw cs im n i8 ib m j1 j2 nx h qb q1 q2 g) (hm:h.length<=m):pw cs im n i8 ib m j1 j2 ny h qb q1 q2 (g.set m (.arr 3 (ny.map I))):=by
 have e:bS [n,m] (g.set m (.arr 3 (ny.map I)))=bS [n,m] g:=ahw (by simp) g
 refine ⟨⟨by rw [length_set];exact t.xm.1,λd hd hi=>by rw [getElem?_set_ne (by omega)];exact t.xm.2 d hd hi⟩,cJ t.hm,?_,?_,?_,?_,?_⟩ <;> rw [e]
 ·exact t.mp
 ·exact t.c8
 ·exact t.cb
 ·exact t.c1
 ·exact t.c2
theorem pw.Gx (t:pw cs im n i8 ib m j1 j2 nx h qb q1 q2 g) (x:XM im g g') (mp:mo cs im (bS [n,m] g')) (hi:m≠im/\i8≠im/\ib≠im/\j1≠im/\j2≠im):pw cs im n i8 ib m j1 j2 nx h qb q1 q2 g':=
 let c:=t.mp.Rx (GZ x [n,m])
 ⟨t.xm.trans x,x.get hi.1 t.hm,mp,t.c8.ch c hi.2.1,t.cb.ch c hi.2.2.1,t.c1.ch c hi.2.2.2.1,t.c2.ch c hi.2.2.2.2⟩
end
end
section
theorem aEo {q:Rat}:jG q.num>0↔0<q:=by
 rw [CU]
 unfold jG
 constructor
 ·intro h
  split at h
  ·omega
  ·split at h <;> omega
 ·intro h
  rw [if_neg (by omega),if_neg (by omega)]
  decide
def Ah (cs:db) (V:List Int->Rat) (ag:List Int) (k a:Nat):Rat:=
 if a+1<(cs.getD k ([],0)).1.length then jL cs ag cs.length+cR ((cs.getD k ([],0)).1.drop (a+1)) / cR ((cs.getD k ([],0)).1.drop a)*V (ag.set k ((a+1:Nat):Int)) else jL cs ag cs.length
structure NN (h:ae) (i8 ib m j1 j2 j3:Nat):Prop where
 g8:h.length<=i8
 gb:i8<ib
 gm:ib<m
 g1:m<j1
 g2:j1<j2
 g3:j2<j3
theorem Qq (g:ae):aV 37 [(.bool false),(.slice none 0 0),(.bool false),(.slice none 0 0)] g=some (pt g.length 0,g++[.arr 37 z4]):=rfl
theorem zP {ns:List Nat} {g:ae} {i:Nat} (hg:g[i]?=some (.arr 37 z4)) (hi:i∉ns):nO (bS ns g) i:=⟨_,_,_,_,by rw [p5 ns g hi];exact hg⟩
section
variable {cs : List (List (List UInt8) × Int)} {v : Value} {ch : Bool} {im n : Nat} {ag : List Int} {h : ae} {K : Value -> ae -> Prop}
theorem ars (s:pv cs v im n ag h) (bc:fT (bf cs) (eI ag)) (jP:ag.length=cs.length) (wF:∀c∈cs,∀t∈c.1,t.length<=700/\jo t=true) {k a:Nat} (hk:k<cs.length) (ea:ag.getD k (-1)=(a:Int))
  (w7:a+1<cs[k].1.length->∀m,xF cs v ch im m (ag.set k ((a+1:Nat):Int))) {i8 ib:Nat} (g8:h.length<=i8) (gb:i8<ib) {qb:Rat} {g:ae} (f:zj cs im n i8 ib h qb g) {fF gG key sm only:Value} (Fb:bF fF (.bool true) gG=some (B false))
  {wz:Int} (hw:jL (bf cs) (eI ag) (bf cs).length=(wz:Rat)) (hwb:wz.natAbs<1000) {L:List Value->ae->Prop}
  (Az:∀g' m j1 j2 j3,NN h i8 ib m j1 j2 j3->pw cs im n i8 ib m j1 j2 (ag.set k ((a+1:Nat):Int)) h qb (cR ((cs[k].1.map bP).drop a)) (cR ((cs[k].1.map bP).drop (a+1))) g'->rE (bS [n,m] g') j3 (Ah (bf cs) (cn (bf cs)) (eI ag) k a) 187->
   F8 prog K v (sl 3 n 0 ag.length) (B ch) (.map (some im)) (pt i8 0) key (I wz) (pt ib 0) sm only (I k) (sl 3 m 0 ag.length) (pt j1 0) (pt j2 0) (pt j3 0) L g'):
  F6 prog K v (sl 3 n 0 ag.length) (B ch) (.map (some im)) (pt i8 0) key (I wz) (pt ib 0) sm only (I k) fF gG L g:=by
 have ef:=bc.ok.ef
 rw [jR] at ef
 have gV:k<(bf cs).length:=by rw [jR];exact hk
 have jh:k<ag.length:=by omega
 have aI:=bc.ok.jI _ (List.getElem_mem gV)
 rw [sr hk] at aI
 have sW:a<cs[k].1.length:=by
  have:=(bc.ok.lU k gV).2
  rw [pM,ea,sr hk,length_map] at this
  omega
 obtain ⟨⟨_,l8⟩,_,pW,_⟩:=oB aI
 rw [length_map] at l8
 have hs4:∀t∈cs[k].1,cd 4 (bP t):=λt ht=>vV pW _ (List.mem_map_of_mem ht)
 have AI:=wF _ (List.getElem_mem hk)
 have iW:=s.iW f.xm
 have rS:=f.xm.1
 have mX:=s.Va
 have eZ:=s.eZ
 have bt:=s.ne
 have lb:=f.cb.d.lt
 rw [lZ] at lb
 rw [Xg,Fb]
 have e0:dN 3 0 [(.int .i64 (0))] g []=some (sl 3 g.length 0 0,g++[.arr 3 []]):=rfl
 simp only [ah,dD,e0,aE]
 have hb:(g++[aq.arr 3 []])[g.length]?=some (.arr 3 []):=br
 have hn1:(g++[aq.arr 3 []])[n]?=some (.arr 3 (ag.map I)):=(EX.append _ _).get iW
 obtain ⟨m,g2,a1,a2,a3,a4⟩:=au2 (bytes:=8) (m:=ag.length) hb (aJO hn1) rfl (λh0=>by rw [List.length_eq_zero_iff.1 h0];rfl) (by omega) (by simp [maxLen];omega)
 have aLn:(g++[aq.arr 3 []]).length=g.length+1:=by simp
 have Cv:g.length<=m:=by omega
 have yQ:EX g g2:=⟨by have:=a3.1;omega,λd hd=>by rw [a3.2 d (by omega) (by omega)];exact List.getElem?_append_left hd⟩
 have w1:IntKind.wrap .i64 ((a:Int)+1)=((a+1:Nat):Int):=by rw [wrap64 (by omega) (by omega)];omega
 simp only [a1,aE,HT jh,ah,su a4 jh,ea,cL,w1]
 rw [GF a4 jh]
 simp only [aE]
 have yR:EX g (g2.set m (.arr 3 ((ag.set k ((a+1:Nat):Int)).map I))):=yQ.set Cv _
 have tq:(g2.set m (.arr 3 ((ag.set k ((a+1:Nat):Int)).map I)))[m]?=some (.arr 3 ((ag.set k ((a+1:Nat):Int)).map I)):=cJ a4
 clear a1 a2 a3 a4
 generalize g2.set m (.arr 3 ((ag.set k ((a+1:Nat):Int)).map I))=g3 at yR tq⊢
 have lm3:=(bz tq).1
 simp only [Qq,aE]
 have y4:EX g3 (g3++[.arr 37 z4]):=EX.append _ _
 have n4:(g3++[aq.arr 37 z4])[g3.length]?=some (.arr 37 z4):=br
 have l4:(g3++[aq.arr 37 z4]).length=g3.length+1:=by simp
 generalize hj1:g3.length=j1 at n4 l4 lm3⊢
 generalize g3++[aq.arr 37 z4]=g4 at y4 n4 l4⊢
 have y5:EX g4 (g4++[.arr 37 z4]):=EX.append _ _
 have n5:(g4++[aq.arr 37 z4])[g4.length]?=some (.arr 37 z4):=br
 have l5:(g4++[aq.arr 37 z4]).length=g4.length+1:=by simp
 rw [l4] at n5 l5⊢
 generalize g4++[aq.arr 37 z4]=g5 at y5 n5 l5⊢
 have y35:=y4.trans y5
 have nf:=yR.trans y35
 have n15:=y5.get n4
 obtain ⟨b,o,vs,u1,u2,u3⟩:=(s.Rv f.xm).get hk
 have Dm:=(RG [n] g).load u2
 have K8:af false 1 g (pt n k)=some (I a):=by rw [su iW jh,ea]
 have nd:n≠m:=by omega
 have Kv:=y35.get tq
 have hn5:=nf.get iW
 simp only [oa n4,oa n15,oa n5,ah,true_and,u1,EX.load nf Dm,EX.load yR Dm,EX.load (yR.trans y4) Dm,EX.load nf K8,EX.load yR K8,EX.load (yR.trans y4) K8]
 refine jB (rI hn5 Kv) (sv nd) (λbD=>DD (u3.mono (Sa nf Cv)) (by omega) AI hs4 (by omega) bD) ?_
 intro r6 g6 x6 q6
 have yT:=nf.trans x6
 have n16:=x6.get n15
 have n26:=x6.get n5
 refine ⟨⟨oa n16,oa n26,trivial⟩,?_⟩
 simp only [EX.load yT Dm,ah,true_and,EX.load yT K8,cL,w1]
 have hm6:=x6.get Kv
 have hn6:=yT.get iW
 refine jB (rI hn6 hm6) (sv nd) (λbD=>DD (u3.mono (Sa yT Cv)) (by omega) AI hs4 (by omega) bD) ?_
 intro r7 g7 x7 q7
 have Yv:=yT.trans x7
 have n17:=x7.get n16
 have n27:=x7.get n26
 refine ⟨⟨oa n17,oa n27,trivial⟩,?_⟩
 have q67:=q6.mono (lh x7 [n,m])
 have aLC:g5.length<=g7.length:=(x6.trans x7).1
 obtain ⟨g8',e8,s8,c8⟩:=wD (ns:=[n,m]) (zP n17 (by simp;omega)) q67
 have hj:h.length<=j1:=by omega
 simp only [e8,aE]
 have x08:=s8.ex Yv (by omega)
 have U7:g8'[j1+1]?=some (.arr 37 z4):=by rw [s8.old _ (by omega)];exact n27
 obtain ⟨g9,e9,s9,c9⟩:=wD (ns:=[n,m]) (zP U7 (by simp;omega)) (q7.kp s8.ch.kp)
 simp only [e9,aE]
 have Yw:=s9.ex x08 (by omega)
 have Q2:=c8.ch s9.ch (show ¬(j1=j1+1) by omega)
 have hm9:g9[m]?=some (.arr 3 ((ag.set k ((a+1:Nat):Int)).map I)):=by rw [s9.old _ (by omega),s8.old _ (by omega)];exact x7.get hm6
 have hn9:=Yw.get iW
 have lt9:j1+2<=g9.length:=by have:=s9.len;have:=s8.len;omega
 have z9:=Sa (n:=n) Yw Cv
 have T9:pw cs im n i8 ib m j1 (j1+1) (ag.set k ((a+1:Nat):Int)) h qb (cR ((cs[k].1.map bP).drop a)) (cR ((cs[k].1.map bP).drop (a+1))) g9:=
  ⟨f.xm.trans (XM.ex Yw),hm9,f.mp.ex z9,f.c8.ch (mQ.ex (c:=λ_=>False) z9) (λh=>h),f.cb.mono z9,Q2,c9⟩
 refine jB (rI hn9 hm9) (sv nd) (λbD=>vF (by omega) bD) ?_
 intro r10 gj ay W5
 have nh:EX gj (gj++[.arr 37 z4]):=EX.append _ _
 have lM:(gj++[aq.arr 37 z4])[gj.length]?=some (.arr 37 z4):=br
 have aD2:=ay.1
 generalize hj3:gj.length=j3 at lM aD2⊢
 generalize gj++[aq.arr 37 z4]=qN at nh lM⊢
 obtain ⟨Cc,e12,s12,Iu⟩:=wD (ns:=[n,m]) (zP lM (by simp;omega)) (W5.mono (lh nh [n,m]))
 simp only [e12,aE]
 have HL:=(T9.ex (ay.trans nh)).X0 s12 ⟨by omega,by omega,by omega,by omega,by omega,by omega,by omega⟩
 have aBG:=s.iW HL.xm
 obtain ⟨vN,lN,zN⟩:=HL.c2.aBD
 simp only [bZ,Nat.add_zero,lN,ah]
 refine jB (Q:=λr _=>r=I (jG (cR ((cs[k].1.map bP).drop (a+1))).num)) (rI aBG HL.hm) (sv nd) (λbD=>G8 zN λh' x=>bD _ h' x rfl) ?_
 rintro r13 nz aB rfl
 have uk:=HL.ex aB
 have xO:=Iu.mono (lh aB [n,m])
 have uS:NN h i8 ib m j1 (j1+1) j3:=⟨g8,gb,by omega,by omega,by omega,by omega⟩
 have aqt:cd 3 (wz:Rat):=by rw [<-hw];exact Nd bc.ok.jI bc.ok.ef _ (le_refl _)
 have az8:(bf cs).getD k ([],0)=(cs[k].1.map bP,cs[k].2):=by rw [jO gV,sr hk]
 have agh:Ah (bf cs) (cn (bf cs)) (eI ag) k a=if a+1<cs[k].1.length then (wz:Rat)+cR ((cs[k].1.map bP).drop (a+1)) / cR ((cs[k].1.map bP).drop a)*cn (bf cs) (eI (ag.set k ((a+1:Nat):Int))) else (wz:Rat):=by
  unfold Ah
  rw [az8,hw,C3 jh]
  simp only [length_map]
 have iN:jG (cR ((cs[k].1.map bP).drop (a+1))).num>0↔a+1<cs[k].1.length:=by
  rw [aEo]
  constructor
  ·intro hp
   apply Classical.byContradiction
   intro hc
   rw [List.drop_eq_nil_of_le (by rw [length_map];omega)] at hp
   exact absurd hp (by decide)
  ·intro hl
   exact xW aI (by rw [length_map];exact hl)
 simp only [fQ,ah,bQ]
 refine ⟨λtg=>?_,λhle=>?_⟩
 rotate_left
 ·refine Az nz m j1 (j1+1) j3 uS uk ?_
  rw [agh,if_neg λhl=>hle (iN.2 hl)]
  exact xO.u (aqt.le (by decide))
 have rT:a+1<cs[k].1.length:=iN.1 tg
 obtain ⟨v13,UQ,aLK⟩:=xO.nD
 obtain ⟨vr,lr,qr⟩:=uk.c2.nD
 obtain ⟨vn,ln,qn⟩:=uk.c1.nD
 simp only [UQ,lr,ln,ah]
 have pos:0<cR ((cs[k].1.map bP).drop a):=xW aI (by rw [length_map];exact sW)
 refine jB (rI (s.iW uk.xm) uk.hm) (sv nd) (λbD=>Nz (qr.un (uA aI _)) (qn.un (uA aI _)) pos (by omega) bD) ?_
 intro r14 py aA Xd
 have BR:=uk.ex aA
 have c14:=xO.mono (lh aA [n,m])
 refine ⟨⟨EX.load aA UQ,trivial⟩,?_⟩
 have Es:ag.length=(ag.set k ((a+1:Nat):Int)).length:=by rw [length_set]
 rw [Es]
 refine ap5 (s.iW BR.xm) BR.hm nd (by omega) (w7 rT m) (s.ch2 BR.xm (by omega)) BR.mp ?_
 intro r15 vW aP aEe Xe
 have zz:=BR.Gx aP aEe ⟨by omega,by omega,by omega,by omega,by omega⟩
 have Zf:=BR.mp.Rx (GZ aP [n,m])
 have sQ:=c14.ch Zf (show ¬(j3=im) by omega)
 obtain ⟨v15,UR,aID⟩:=sQ.nD
 have ev:v15=v13:=by
  have h1:=EX.load aA UQ
  have aF:j3<py.length:=by have:=c14.d.lt;rw [lZ] at this;exact this
  rw [<-La (aP.2 j3 aF (by omega))] at h1
  rw [UR] at h1
  exact Option.some.inj h1
 subst ev
 refine ⟨⟨UR,trivial⟩,?_⟩
 have nU:((a+1:Nat):Int)<((bf cs)[k].1.length:Int):=by rw [sr hk,length_map];omega
 have GH:=Bt (bc.set gV (x:=((a+1:Nat):Int)) ⟨by omega,nU⟩)
 rw [C3 jh] at GH
 refine jB (rI (s.iW zz.xm) zz.hm) (sv nd) (λbD=>Nx (Xd.kp Zf.kp) (Xe.un GH) (by decide) bD) ?_
 intro Xq JW aL Mm
 refine ⟨⟨EX.load aL UR,trivial⟩,?_⟩
 have zA:=zz.ex aL
 refine jB (rI (s.iW zA.xm) zA.hm) (sv nd) (λbD=>DC ((aID.mono (lh aL [n,m])).un aqt) Mm (by decide) bD) ?_
 intro r17 Sv bK q17
 have zM:=sQ.mono (lh (aL.trans bK) [n,m])
 obtain ⟨g18,RQ,s18,IN⟩:=aCj zM.d q17
 simp only [RQ,aE]
 rw [<-Es]
 refine Az g18 m j1 (j1+1) j3 uS ((zA.ex bK).X0 s18 ⟨by omega,by omega,by omega,by omega,by omega,by omega,by omega⟩) ?_
 rw [agh,if_pos rT]
 exact IN
end
end
section
theorem afW (n m:Nat) (g:ae):CX (bS [n,m] g) (bS [n] g):=CX.aJJ (h:=bS [n] g) (n:=m)
theorem fe.Db {n m:Nat} {g:ae} {i:Nat} {q:Rat} (p:fe (bS [n,m] g) i q):fe (bS [n] g) i q:=
 let ⟨a,b,c,d,e,r⟩:=p;⟨a,b,c,d,(uL (ns:=[m]) (g:=bS [n] g) e (by simp)).1,r.kp (uX (afW n m g))⟩
theorem nO.Db {n m:Nat} {g:ae} {i:Nat} (p:nO (bS [n,m] g) i):nO (bS [n] g) i:=
 let ⟨a,b,c,d,e⟩:=p;⟨a,b,c,d,(uL (ns:=[m]) (g:=bS [n] g) e (by simp)).1⟩
theorem mo.Db {cs:List (List (List UInt8)×Int)} {im n m:Nat} {g:ae} (p:mo cs im (bS [n,m] g)):mo cs im (bS [n] g):=
 let ⟨gh,es,e,r⟩:=p;⟨gh,es,(uL (ns:=[m]) (g:=bS [n] g) e (by simp)).1,λx hx=>let ⟨ag,a,b,c⟩:=r x hx;⟨ag,a,b,c.kp (uX (afW n m g))⟩⟩
theorem aJ3 {cs:db} {ag:List Int} (bc:fT cs ag) {k a:Nat} (hk:k<cs.length) (ea:ag.getD k (-1)=(a:Int)) (V:List Int->Rat):
  Ah cs V ag k a+(cR ((cs.getD k ([],0)).1.drop a)-cR ((cs.getD k ([],0)).1.drop (a+1))) / cR ((cs.getD k ([],0)).1.drop a)*V (ag.set k (-1))=jJ cs V ag k:=by
 have aI:=bc.ok.jI _ (List.getElem_mem hk)
 have sW:=(bc.ok.lU k hk).2
 rw [ea] at sW
 have hd:=MY (qs:=cs[k].1) (k:=a) (by omega)
 have hp:=xW aI (k:=a) (by omega)
 have eA:(a:Int)+1=((a+1:Nat):Int):=by omega
 unfold Ah jJ nw
 rw [ea,eA,jO hk,Int.toNat_natCast]
 generalize cs[k].1.getD a 0=q at*
 generalize cR (cs[k].1.drop a)=now at*
 generalize cR (cs[k].1.drop (a+1))=rest at*
 have bt:now≠0:=by intro e;rw [e] at hp;exact absurd hp (by decide)
 have e1:now-rest=q:=by grind
 have e2:rest / now=1-q / now:=by
  have:rest=now-q:=by grind
  rw [this]
  grind
 rw [e1,e2]
 have e3:((a+1:Nat):Int)<((cs[k].1.length:Nat):Int)↔a+1<cs[k].1.length:=by omega
 by_cases hl:a+1<cs[k].1.length
 ·rw [if_pos hl,if_pos (e3.2 hl)];grind
 ·rw [if_neg hl,if_neg λx=>hl (e3.1 x)]
section
variable {cs : List (List (List UInt8) × Int)} {v : Value} {ch : Bool} {im n : Nat} {ag : List Int} {h : ae} {K : Value -> ae -> Prop}
theorem art (s:pv cs v im n ag h) (bc:fT (bf cs) (eI ag)) (jP:ag.length=cs.length) {k a:Nat} (hk:k<cs.length) (ea:ag.getD k (-1)=(a:Int))
  (Bk:∀m,xF cs v ch im m (ag.set k (-1))) {i8 ib m j1 j2 j3:Nat} (uS:NN h i8 ib m j1 j2 j3) {qb:Rat} {g:ae} {sm:Bool} {key only:Value} {wz:Int} {L:List Value->ae->Prop}
  (t:pw cs im n i8 ib m j1 j2 (ag.set k ((a+1:Nat):Int)) h qb (cR ((cs[k].1.map bP).drop a)) (cR ((cs[k].1.map bP).drop (a+1))) g) (c:rE (bS [n,m] g) j3 (Ah (bf cs) (cn (bf cs)) (eI ag) k a) 187)
  (Az:∀g',zj cs im n i8 ib h qb g'->fe (bS [n] g') j3 (jJ (bf cs) (cn (bf cs)) (eI ag) k)->
   V5 prog K v (sl 3 n 0 ag.length) (B ch) (.map (some im)) (pt i8 0) key (I wz) (pt ib 0) (B sm) only (I k) (pt j3 0) (B (!sm)) L g'):
  F8 prog K v (sl 3 n 0 ag.length) (B ch) (.map (some im)) (pt i8 0) key (I wz) (pt ib 0) (B sm) only (I k) (sl 3 m 0 ag.length) (pt j1 0) (pt j2 0) (pt j3 0) L g:=by
 have ef:=bc.ok.ef
 rw [jR] at ef
 have gV:k<(bf cs).length:=by rw [jR];exact hk
 have jh:k<ag.length:=by omega
 have aI:=bc.ok.jI _ (List.getElem_mem gV)
 rw [sr hk] at aI
 have sW:a<cs[k].1.length:=by
  have:=(bc.ok.lU k gV).2
  rw [pM,ea,sr hk,length_map] at this
  omega
 have mX:=s.Va
 have eZ:=s.eZ
 have bt:=s.ne
 obtain ⟨g8,gb,gm,g1,g2,g3⟩:=uS
 have nd:n≠m:=by omega
 have e1:(ag.set k ((a+1:Nat):Int)).set k (-1)=ag.set k (-1):=List.set_set ..
 rw [aGy]
 simp only [HT jh,ah]
 rw [show (Value.int IntKind.i64 (-1))=I (-1) from rfl,GF t.hm (by rw [length_set];exact jh),e1]
 simp only [aE]
 have T1:=t.gN (ny:=ag.set k (-1)) (by omega)
 have c1:rE (bS [n,m] (g.set m (.arr 3 ((ag.set k (-1)).map I)))) j3 (Ah (bf cs) (cn (bf cs)) (eI ag) k a) 187:=by rw [ahw (by simp) g];exact c
 clear t c
 generalize g.set m (.arr 3 ((ag.set k (-1)).map I))=h1 at T1 c1⊢
 obtain ⟨v1,A5,qv1⟩:=c1.nD
 obtain ⟨vn,ln,qn⟩:=T1.c1.nD
 obtain ⟨vr,lr,qr⟩:=T1.c2.nD
 simp only [A5,ln,lr,ah,true_and]
 refine jB (rI (s.iW T1.xm) T1.hm) (sv nd) (λbD=>Zo (qn.un (uA aI _)) (qr.un (uA aI _)) (by decide) bD) ?_
 intro r2 h2 x2 q2
 have T2:=T1.ex x2
 refine ⟨⟨EX.load x2 A5,trivial⟩,?_⟩
 have pos:0<cR ((cs[k].1.map bP).drop a):=xW aI (by rw [length_map];exact sW)
 simp only [EX.load x2 ln,ah,true_and]
 refine jB (rI (s.iW T2.xm) T2.hm) (sv nd) (λbD=>Nz q2 ((qn.mono (lh x2 [n,m])).un (uA aI _)) pos (by decide) bD) ?_
 intro r3 h3 x3 q3
 have T3:=T2.ex x3
 have aB:=x2.trans x3
 have c3:=c1.ch (mQ.ex (c:=λ_=>False) (lh aB [n,m])) (λh=>h)
 refine ⟨⟨EX.load aB A5,trivial⟩,?_⟩
 have Es:ag.length=(ag.set k (-1)).length:=by rw [length_set]
 rw [Es]
 refine ap5 (s.iW T3.xm) T3.hm nd (by omega) (Bk m) (s.ch2 T3.xm (by omega)) T3.mp ?_
 intro r4 h4 x4 A9 q4
 rw [<-Es]
 have T4:=T3.Gx x4 A9 ⟨by omega,by omega,by omega,by omega,by omega⟩
 have Zl:=T3.mp.Rx (GZ x4 [n,m])
 have c4:=c3.ch Zl (show ¬(j3=im) by omega)
 obtain ⟨v4,US,qv4⟩:=c4.nD
 have ev:v4=v1:=by
  have h5:=EX.load aB A5
  have aF:j3<h3.length:=by have:=c3.d.lt;rw [lZ] at this;exact this
  rw [<-La (x4.2 j3 aF (by omega))] at h5
  rw [US] at h5
  exact Option.some.inj h5
 subst ev
 refine ⟨⟨US,trivial⟩,?_⟩
 have GH:=Bt (bc.set gV (x:= -1) ⟨Int.le_refl _,by omega⟩)
 have agl:cn (bf cs) ((eI ag).set k (-1))=cn (bf cs) (eI (ag.set k (-1))):=by rw [C3 jh]
 rw [agl] at GH
 refine jB (rI (s.iW T4.xm) T4.hm) (sv nd) (λbD=>Nx (q3.kp Zl.kp) (q4.un GH) (by decide) bD) ?_
 intro r5 h5 x5 q5
 refine ⟨⟨EX.load x5 US,trivial⟩,?_⟩
 have T5:=T4.ex x5
 have zW:=aJ3 bc gV (by rw [pM];exact ea) (cn (bf cs))
 rw [jO gV,sr hk,agl] at zW
 refine jB (Q:=λr h'=>QU h' r (jJ (bf cs) (cn (bf cs)) (eI ag) k) 413) (rI (s.iW T5.xm) T5.hm) (sv nd) (λbD=>DC (qv4.mono (lh x5 [n,m])) q5 (by decide) λr h' x q=>bD r h' x (by rw [<-zW];exact q)) ?_
 intro r6 h6 x6 q6
 have T6:=T5.ex x6
 refine jB (rI (s.iW T6.xm) T6.hm) (sv nd) (λbD=>DB q6 (by decide) bD) ?_
 intro r7 h7 x7 q7
 have ee:=x5.trans (x6.trans x7)
 have c7:=c4.d.ch (mQ.ex (c:=λ_=>False) (lh ee [n,m])) (λh=>h)
 obtain ⟨h8,e8,s8,c8⟩:=wD c7 q7
 have en:gq .not (B sm)=some (B (!sm)):=rfl
 simp only [e8,aE,en,ah]
 have T8:=(T6.ex x7).X0 s8 ⟨by omega,by omega,by omega,by omega,by omega,by omega,by omega⟩
 exact Az h8 ⟨T8.xm,T8.mp.Db,T8.c8.Db,T8.cb.Db⟩ c8.Db
def rk (cs:db) (ch:Bool) (ag:List Int) (i:Nat):Bool:=if ch then xQ cs ag i else true
theorem arv {eB ca cQ x8 Uy Yq Qw XT:Value} {z x:Int} {k:Nat} {L:List Value->ae->Prop} {g:ae} {may:Bool} (hm:may=if ch then decide (z=(k:Int)) else true)
  (KI:x<0∨may=false->C2 prog K eB ca (B ch) cQ x8 Uy Yq Qw XT (I z) (I k) L g)
  (hgo:0<=x->may=true->∀gG,bF (B false) (.bool true) gG=some (B false)->F6 prog K eB ca (B ch) cQ x8 Uy Yq Qw XT (I z) (I k) (B false) gG L g):
  V1 prog K eB ca (B ch) cQ x8 Uy Yq Qw XT (I z) (I k) (B (decide (x<0))) L g:=by
 rw [aGx]
 by_cases hn:x<0
 ·rw [bj hn]
  simp only [fW]
  rw [apt]
  simp only [xv]
  rw [Xf]
  simp only [fW]
  rw [Xg,(show bF (B true) (.bool true) undef=some (B true) from rfl)]
  simp only [ah,dA]
  exact KI (.inl hn)
 ·rw [aY hn]
  simp only [eL]
  rw [apt]
  cases ch with
  | false=>
   simp only [jV]
   rw [Xf]
   simp only [eL,dQ,ah]
   exact hgo (by omega) hm _ rfl
  | true=>
   rw [if_pos rfl] at hm
   simp only [fP,oA,ah]
   rw [Xf]
   simp only [eL,dY,ah]
   by_cases hz:z=(k:Int)
   ·rw [bj hz.symm]
    exact hgo (by omega) (by rw [hm];exact bj hz) _ rfl
   ·rw [aY λe=>hz e.symm]
    rw [Xg,(show bF (B false) (.bool true) (B (!false))=some (B true) from rfl)]
    simp only [ah,dA]
    exact KI (.inr (by rw [hm];exact aY hz))
theorem ay1 (p q:Rat):decide (lW p q<0)=decide (p<q):=by
 rw [decide_eq_decide]
 unfold lW
 split
 ·rename_i he
  rw [he]
  exact ⟨λh=>by omega,λh=>absurd h (by grind)⟩
 ·split
  ·rename_i h;exact ⟨λ_=>h,λ_=>by decide⟩
  ·rename_i h;exact ⟨λh1=>by omega,λh1=>absurd h1 h⟩
theorem Zi (s:pv cs v im n ag h) (bc:fT (bf cs) (eI ag)) (jP:ag.length=cs.length) (wF:∀c∈cs,∀t∈c.1,t.length<=700/\jo t=true) (Ay:cn (bf cs) (eI ag)=(fm (bf cs) (cn (bf cs)) (rk (bf cs) ch) (eI ag) cs.length).getD 0)
  (Bk:∀k,k<cs.length->0<=ag.getD k (-1)->∀m,xF cs v ch im m (ag.set k (-1))) (w7:∀k (hk:k<cs.length),0<=ag.getD k (-1)->ag.getD k (-1)+1<cs[k].1.length->∀m,xF cs v ch im m (ag.set k (ag.getD k (-1)+1)))
  (E8:okB ag) {i8 ib:Nat} (g8:h.length<=i8) (gb:i8<ib) {g0:ae} (f:zj cs im n i8 ib h 0 g0) {z wz:Int} (hz:ch=true->z=cY (bf cs) (eI ag) cs.length)
  (hw:jL (bf cs) (eI ag) (bf cs).length=(wz:Rat)) (hwb:wz.natAbs<1000)
  (hk:∀r h',XM im h h'->mo cs im (bS [n] h')->QV (bS [n] h') r (cn (bf cs) (eI ag))->K r h'):
  LU prog K v (sl 3 n 0 ag.length) (B ch) (.map (some im)) (pt i8 0) (S (fS ag)) (I wz) (pt ib 0) (.bool false) (I z) g0:=by
 have ef:=bc.ok.ef
 rw [jR] at ef
 have mX:=s.Va
 have eZ:=s.eZ
 have bt:=s.ne
 rw [aGv]
 refine dF (σ:=Nat×ae) (λq=>[B (fm (bf cs) (cn (bf cs)) (rk (bf cs) ch) (eI ag) q.1).isSome,I q.1]) (λq=>q.2) (λq=>q.1<=cs.length/\zj cs im n i8 ib h ((fm (bf cs) (cn (bf cs)) (rk (bf cs) ch) (eI ag) q.1).getD 0) q.2) (λq=>cs.length-q.1) (0,g0) rfl rfl ⟨Nat.zero_le _,f⟩ ?_
 rintro ⟨k,g⟩ ⟨hi,fg⟩ L hL
 simp only at hi fg hL⊢
 rw [aGw]
 have hlen:bk v=some (I cs.length):=s.ch.len
 simp only [hlen,ah,cW,bQ]
 refine ⟨λaF=>?_,λcU=>?_⟩
 rotate_left
 ·have fZ:k=cs.length:=by omega
  subst fZ
  rw [<-Ay] at fg
  rw [aGB]
  obtain ⟨vb,lb,rb⟩:=fg.cb.nD
  obtain ⟨iJ,iK,fq,iM⟩:=id fg.mp
  obtain ⟨yo,_⟩:=uL fq (by simp)
  have up:wV .str g (.map (some im)) (S (fS ag)) vb=some (undef,g.set im (.cw .str (kN iJ (S (fS ag)) iK) (ju iJ (S (fS ag)) vb iK))):=by
   have ht:jq vb=true:=by obtain ⟨_,_,rfl,_,_⟩:=id rb;rfl
   have j5:fy .str (S (fS ag))=true:=rfl
   simp [wV,AQ,yo,j5,ht]
  simp only [lb,ah,up,aE]
  have e4:bS [n] (g.set im (.cw .str (kN iJ (S (fS ag)) iK) (ju iJ (S (fS ag)) vb iK)))=(bS [n] g).set im (.cw .str (kN iJ (S (fS ag)) iK) (ju iJ (S (fS ag)) vb iK)):=Td (by simp [bt]) g
  have cx:CX (bS [n] g) ((bS [n] g).set im (.cw .str (kN iJ (S (fS ag)) iK) (ju iJ (S (fS ag)) vb iK))):=CX.ju fq
  have C1:mQ (·=im) (bS [n] g) (bS [n] (g.set im (.cw .str (kN iJ (S (fS ag)) iK) (ju iJ (S (fS ag)) vb iK)))):=by
   rw [e4]
   exact ⟨by simp,λd _ hd=>getElem?_set_ne λh=>hd h.symm,uX cx⟩
  have A9:mo cs im (bS [n] (g.set im (.cw .str (kN iJ (S (fS ag)) iK) (ju iJ (S (fS ag)) vb iK)))):=by
   refine ⟨_,_,by rw [e4];exact cJ fq,λe he=>?_⟩
   rcases aqp he with he | ⟨e1,e2⟩
   ·obtain ⟨DX,o,a,b⟩:=iM e he
    exact ⟨DX,o,a,b.kp C1.kp⟩
   ·exact ⟨ag,E8,e1,by rw [e2];exact rb.kp C1.kp⟩
  have c4:=fg.cb.ch C1 (show ¬(ib=im) by omega)
  have eB:=fg.c8.ch C1 (show ¬(i8=im) by omega)
  have X4:XM im h (g.set im (.cw .str (kN iJ (S (fS ag)) iK) (ju iJ (S (fS ag)) vb iK))):=fg.xm.set _
  clear e4 cx C1 up
  generalize g.set im (.cw .str (kN iJ (S (fS ag)) iK) (ju iJ (S (fS ag)) vb iK))=g4 at A9 c4 eB X4⊢
  obtain ⟨v4,l4,r4⟩:=c4.nD
  obtain ⟨g5,e5,s5,c5⟩:=wD eB r4
  obtain ⟨v5,l5,r5⟩:=c5.nD
  simp only [l4,ah,e5,aE,l5]
  exact hk v5 g5 (s5.xm X4 g8) (A9.ch s5.ch (show ¬(im=i8) by omega)) r5
 have aF:k<cs.length:=by omega
 have gV:k<(bf cs).length:=by rw [jR];exact aF
 have jh:k<ag.length:=by omega
 have gN:∀{g':ae} (b:Bool),zj cs im n i8 ib h ((fm (bf cs) (cn (bf cs)) (rk (bf cs) ch) (eI ag) (k+1)).getD 0) g'->b=(fm (bf cs) (cn (bf cs)) (rk (bf cs) ch) (eI ag) (k+1)).isSome->
   C2 prog K v (sl 3 n 0 ag.length) (B ch) (.map (some im)) (pt i8 0) (S (fS ag)) (I wz) (pt ib 0) (B b) (I z) (I k) L g':=by
  intro g' b f' jZ
  rw [aGA]
  simp only [cL,ah,ft k (by omega),true_and]
  have:=hL (k+1,g') ⟨by show k+1<=_;omega,f'⟩ (by show cs.length-(k+1)<cs.length-k;omega)
  rw [jZ]
  exact this
 have iW:=s.iW fg.xm
 simp only [HT jh,su iW jh,ah,cW]
 refine arv (may:=rk (bf cs) ch (eI ag) k) ?_ (λhs=>?_) (λh0 Kx gG hp=>?_)
 ·unfold rk
  cases ch with
  | false=>rfl
  | true=>
   rw [if_pos rfl,if_pos rfl,hz rfl]
   unfold xQ
   rw [jR]
 ·refine gN _ ?_ (by rw [JU _ _ _ _ (by rw [pM];exact hs)])
  rw [JU _ _ _ _ (by rw [pM];exact hs)]
  exact fg
 ·obtain ⟨a,ea⟩:∃a:Nat,ag.getD k (-1)=(a:Int):=⟨(ag.getD k (-1)).toNat,by omega⟩
  have en:=agB (bf cs) (cn (bf cs)) (rk (bf cs) ch) (eI ag) (k:=k) (by rw [pM];exact h0) Kx
  refine ars s bc jP wF aF ea (λhl m=>?_) g8 gb fg hp hw hwb ?_
  ·have e0:ag.getD k (-1)+1=((a+1:Nat):Int):=by omega
   rw [<-e0]
   intro hh KK
   exact w7 k aF h0 (by omega) m
  intro g1 m j1 j2 j3 uS t1 c1
  refine art s bc jP aF ea (Bk k aF h0) uS t1 c1 ?_
  intro g2 f2 c2
  have aCl:=XZ bc gV (by rw [pM];exact h0)
  have aCk:=agC bc (rk (bf cs) ch) (k:=k) (by rw [jR];exact hi)
  have h3:j3≠i8/\j3≠ib/\ib≠im/\ib≠i8:=by have:=uS.gm;have:=uS.g1;have:=uS.g2;have:=uS.g3;exact ⟨by omega,by omega,by omega,by omega⟩
  rw [aGz]
  obtain ⟨v9,l9,r9⟩:=c2.nD
  obtain ⟨vb,lb,rb⟩:=f2.cb.nD
  have E5:=s.iW f2.xm
  generalize fm (bf cs) (cn (bf cs)) (rk (bf cs) ch) (eI ag) k=fk at*
  generalize jJ (bf cs) (cn (bf cs)) (eI ag) k=st at*
  have take:∀{g':ae} (t u:Value),EX g2 g'->fm (bf cs) (cn (bf cs)) (rk (bf cs) ch) (eI ag) (k+1)=some st->bF t (.bool true) u=some (B true)->F9 prog K v (sl 3 n 0 ag.length) (B ch) (.map (some im)) (pt i8 0) (S (fS ag)) (I wz) (pt ib 0) (B fk.isSome) (I z) (I k) (pt j3 0) t u L g':=by
   intro g' t u x' he ht
   rw [apu,ht]
   have y:=lh x' [n]
   obtain ⟨gj,vQ,mL,BX⟩:=wD (f2.cb.mono y).d (r9.mono y)
   simp only [ah,dA,EX.load x' l9,vQ,aE]
   refine gN true ?_ (by rw [he];rfl)
   rw [he]
   exact ⟨mL.xm (f2.xm.trans (XM.ex x')) (by omega),(f2.mp.ex y).ch mL.ch (by omega),(f2.c8.ch (mQ.ex (c:=λ_=>False) y) (λh=>h)).ch mL.ch (by omega),BX⟩
  have stay:∀{g':ae} (t u:Value),EX g2 g'->fm (bf cs) (cn (bf cs)) (rk (bf cs) ch) (eI ag) (k+1)=fk->bF t (.bool true) u=some (B false)->F9 prog K v (sl 3 n 0 ag.length) (B ch) (.map (some im)) (pt i8 0) (S (fS ag)) (I wz) (pt ib 0) (B fk.isSome) (I z) (I k) (pt j3 0) t u L g':=by
   intro g' t u x' he ht
   rw [apu,ht]
   simp only [ah,dD]
   have y:=lh x' [n]
   refine gN _ ?_ (by rw [he])
   rw [he]
   exact ⟨f2.xm.trans (XM.ex x'),f2.mp.ex y,f2.c8.ch (mQ.ex (c:=λ_=>False) y) (λh=>h),f2.cb.mono y⟩
  cases hs:fk.isSome with
  | false=>
   rw [hs] at take en
   simp only [Bool.not_false,fW]
   exact take _ _ (EX.refl _) (by rw [en,if_neg (λh=>by cases h.1)]) rfl
  | true=>
   rw [hs] at take stay en
   simp only [Bool.not_true,eL,l9,lb,ah]
   refine jB (ns:=[n]) (Q:=λr _=>r=I (lW st (fk.getD 0))) (Qp E5) (by simp) (λbD=>G7 (r9.un aCl) (rb.un aCk) (by decide) λh' x=>bD _ h' x rfl) ?_
   rintro r10 gj ay rfl
   simp only [cW,ah,ay1]
   by_cases hx:st<fk.getD 0
   ·rw [bj hx]
    exact take _ _ ay (by rw [en,if_neg (λh=>h.2 hx)]) rfl
   ·rw [aY hx]
    exact stay _ _ ay (by rw [en,if_pos ⟨rfl,hx⟩]) rfl
end
end
section
def rB (cs:db) (ag:List Int):Nat->Int
 | 0=>0
 | k+1=>if ag.getD k (-1)<0 then rB cs ag k else rB cs ag k+(cs.getD k ([],0)).2
theorem Nf (cs:db) (ag:List Int):∀k,jL cs ag k=(rB cs ag k:Rat)
 | 0=>rfl
 | k+1=>by
  simp only [jL,rB]
  split
  ·exact Nf cs ag k
  ·rw [Nf cs ag k,Rat.intCast_add]
theorem Yu {cs:db} {ag:List Int} (h:fT cs ag) {k:Nat} (hk:k<=cs.length):(rB cs ag k).natAbs<1000:=by
 obtain ⟨z,e,hz⟩:=aKA h k hk
 rw [Nf] at e
 rw [Rat.intCast_inj.1 e]
 exact hz
theorem aJW {cs:db} {ag:List Int} (h:fT cs (eI ag)):okB ag:=by
 intro x hx
 obtain ⟨i,hi,rfl⟩:=List.getElem_of_mem hx
 have:=h.range i
 rw [pM,jO hi] at this
 exact this
theorem aDJ {ag:List Int} {k:Nat} (hk:k<ag.length):fS (ag.take (k+1))=fS (ag.take k)++[UInt8.ofNat (ag.getD k (-1)+1).toNat]:=by
 unfold fS
 rw [List.take_succ_eq_append_getElem hk,List.map_append,jO hk]
 rfl
section
variable {cs : List (List (List UInt8) × Int)} {v : Value} {ch : Bool} {im n : Nat} {ag : List Int} {h : ae} {K : Value -> ae -> Prop}
theorem aDL {k:Nat} {g:ae} {key:List UInt8} {x:Int} (hx: -1<=x/\x<8) (hl:key.length<=1000) {K2:Value->ae->Prop} (hk:∀g',EX g g'->K2 (S (key++[UInt8.ofNat (x+1).toNat])) g') (_:k=k):
  OP (ai .add (I x) (.int .i64 (1))) λdK=>OP (dG .u8 dK) λcK=>OH (dN 5 1 [(.int .u8 (0))] g [(0,1,cK)]) λdw h_1=>OP (oQ h_1 dw) λdc=>OP (ai .add (S key) dc) λer=>K2 er h_1:=by
 obtain ⟨c,hc⟩:∃c:Nat,x+1=(c:Int):=⟨(x+1).toNat,by omega⟩
 have c9:c<9:=by omega
 rw [hc,Int.toNat_natCast] at hk
 have w1:IntKind.wrap .i64 (x+1)=(c:Int):=by rw [wrap64 (by omega) (by omega)];omega
 have w2:IntKind.wrap .u8 (c:Int)=(c:Int):=by simp [IntKind.wrap,IntKind.signed,IntKind.bits];omega
 simp only [cL,w1,ah,kZ,w2]
 have Kh:(.int .u8 (c:Int):Value)=.int .u8 ((UInt8.ofNat c).toNat:Int):=by
  rw [UInt8.toNat_ofNat',Nat.mod_eq_of_lt (show c<2^8 by omega)]
 rw [Kh]
 generalize UInt8.ofNat c=b at hk⊢
 have e1:dN 5 1 [(.int .u8 (0))] g [(0,1,.int .u8 (b.toNat:Int))]=some (sl 5 g.length 0 1,g++[.arr 5 [.int .u8 (b.toNat:Int)]]):=rfl
 have e2:oQ (g++[.arr 5 [.int .u8 (b.toNat:Int)]]) (sl 5 g.length 0 1)=some (S [b]):=by
  simp [oQ,kF,sl,aW,List.mapM_cons,BW]
 have nU:key.length+[b].length<=maxLen:=by simp [maxLen];omega
 simp only [e1,aE,e2,ah,xM _ _ nU]
 exact hk _ (EX.append _ _)
theorem aru (s:pv cs v im n ag h) (bc:fT (bf cs) (eI ag)) (jP:ag.length=cs.length) {x8:Value} {g0:ae} (x0:EX h g0)
  (hk:∀g,EX g0 g->VZ prog K v (sl 3 n 0 ag.length) (B ch) (.map (some im)) x8 (S (fS ag)) (I (rB (bf cs) (eI ag) cs.length)) g):
  cO [(.string ⟨#[]⟩),(.int .i64 (0)),(.int .i64 (0))] g0 λL1 xs hx=>V6 prog K v (sl 3 n 0 ag.length) (B ch) (.map (some im)) x8 L1 xs hx:=by
 have ef:=bc.ok.ef
 rw [jR] at ef
 refine dF (σ:=Nat×ae) (λq=>[S (fS (ag.take q.1)),I (rB (bf cs) (eI ag) q.1),I q.1]) (λq=>q.2) (λq=>q.1<=cs.length/\EX g0 q.2) (λq=>cs.length-q.1) (0,g0) rfl rfl ⟨Nat.zero_le _,EX.refl _⟩ ?_
 rintro ⟨k,g⟩ ⟨hi,xg⟩ L hL
 simp only at hi xg hL⊢
 rw [aGC]
 have hlen:bk v=some (I cs.length):=s.ch.len
 simp only [hlen,ah,cW,bQ]
 refine ⟨λaF=>?_,λcU=>?_⟩
 ·have tj:k<cs.length:=by omega
  have gV:k<(bf cs).length:=by rw [jR];exact tj
  have jh:k<ag.length:=by omega
  have iW:=s.iW (XM.ex (x0.trans xg))
  have hr:=bc.range k
  rw [pM] at hr
  simp only [HT jh,su iW jh,ah]
  have gp:(fS (ag.take k)).length<=1000:=by unfold fS;rw [length_map,List.length_take];omega
  have Tl:=aDJ jh
  refine aDL (k:=k) hr gp (λg' x'=>?_) rfl
  rw [<-Tl]
  have aBJ:=s.iW (XM.ex (x0.trans (xg.trans x')))
  simp only [su aBJ jh,ah,nv]
  have wb0:=Yu bc (k:=k) (by omega)
  have wb1:=Yu bc (k:=k+1) (by omega)
  have ew:rB (bf cs) (eI ag) (k+1)=if ag.getD k (-1)<0 then rB (bf cs) (eI ag) k else rB (bf cs) (eI ag) k+cs[k].2:=by
   simp only [rB]
   rw [pM,jO gV,sr tj]
  have gN:∀w:Int,w=rB (bf cs) (eI ag) (k+1)->LS prog K v (sl 3 n 0 ag.length) (B ch) (.map (some im)) x8 (S (fS (ag.take (k+1)))) (I w) (I k) L g':=by
   rintro w rfl
   rw [aGt]
   simp only [cL,ah,ft k (by omega),true_and]
   exact hL (k+1,g') ⟨by show k+1<=_;omega,xg.trans x'⟩ (by show cs.length-(k+1)<cs.length-k;omega)
  rw [bQ]
  refine ⟨λh1=>?_,λh1=>?_⟩
  ·obtain ⟨b,o,vs,u1,u2,u3⟩:=(s.Rv (XM.ex (x0.trans (xg.trans x')))).get tj
   have Dm:=(RG [n] g').load u2
   obtain ⟨_,u5⟩:=A1 Dm
   rw [if_neg (by omega)] at ew
   simp only [u1,ah,bZ,u5,cL]
   refine gN _ ?_
   rw [ew,wrap64 (by omega) (by omega)]
  ·rw [if_pos (by omega)] at ew
   exact gN _ ew.symm
 ·have fZ:k=cs.length:=by omega
  subst fZ
  have:=hk g xg
  rw [List.take_of_length_le (by omega)]
  exact this
theorem C22 (wF:∀c∈cs,∀t∈c.1,t.length<=700/\jo t=true) (Ay:∀{ag},fT (bf cs) ag->cn (bf cs) ag=(fm (bf cs) (cn (bf cs)) (rk (bf cs) ch) ag (bf cs).length).getD 0):
  ∀(N:Nat) (ag:List Int),FN (bf cs) (eI ag)<N->fT (bf cs) (eI ag)->ag.length=cs.length->∀n,xF cs v ch im n ag:=by
 intro N
 induction N with
 | zero=>intro ag h;omega
 | succ N ih=>
  intro ag hmu bc jP n h K hn bt Am mp hk
  have ef:=bc.ok.ef
  rw [jR] at ef
  have E8:=aJW bc
  obtain ⟨gh,es,hm,iM⟩:=id mp
  obtain ⟨yo,_⟩:=uL hm (by simp)
  have eZ:=(bz yo).1
  have mX:=(bz hn).1
  have s:pv cs v im n ag h:=⟨eZ,hn,bt,Am,_,gh,es,yo⟩
  refine f22 ?_
  simp only [Pr,Qq,aE]
  have x1:EX h (h++[.arr 37 z4]):=EX.append _ _
  have k1:(h++[aq.arr 37 z4])[h.length]?=some (.arr 37 z4):=br
  generalize h++[aq.arr 37 z4]=g1 at x1 k1⊢
  refine aru s bc jP x1 ?_
  intro g xg
  have GM:=x1.trans xg
  have Cv:=GM.get yo
  rw [aGu]
  have j5:fy .str (S (fS ag))=true:=rfl
  have UP:uR .str true (.agg #[(.bool false),(.slice none 0 0),(.bool false),(.slice none 0 0)]) g (.map (some im)) (S (fS ag))=some (.tuple #[(px (S (fS ag)) es).getD (.agg #[(.bool false),(.slice none 0 0),(.bool false),(.slice none 0 0)]),B (px (S (fS ag)) es).isSome]):=by
   simp [uR,Cv,j5]
  simp only [UP,ah,eR,fv,fz,Qq,aE]
  have kg:=xg.get k1
  have x2:EX g (g++[.arr 37 z4]):=EX.append _ _
  have k2:(g++[aq.arr 37 z4])[g.length]?=some (.arr 37 z4):=br
  have lg:h.length<g.length:=by have:=xg.1;have:=(bz k1).1;omega
  have UY:=mp.ex (lh (GM.trans x2) [n])
  have k8:=x2.get kg
  generalize hj:g.length=j at k2 lg⊢
  generalize g++[aq.arr 37 z4]=g2 at x2 k2 UY k8⊢
  have c8:nO (bS [n] g2) h.length:=zP k8 (by simp;omega)
  cases hf:px (S (fS ag)) es with
  | some val=>
   obtain ⟨e,he,tk,cf⟩:=agw hf
   obtain ⟨DX,o',ek,hr⟩:=iM e he
   rw [ek] at tk
   have:=aDK E8 o' tk
   subst this
   rw [cf] at hr
   obtain ⟨g4,e4,s4,c4⟩:=wD (ns:=[n]) (zP k2 (by simp;omega)) (hr.mono (lh (GM.trans x2) [n]))
   simp only [Option.getD_some,Option.isSome_some,e4,aE,dA]
   obtain ⟨v4,q4,r4⟩:=c4.nD
   obtain ⟨g5,e5,s5,c5⟩:=wD (c8.ch s4.ch (show ¬(h.length=j) by omega)) r4
   obtain ⟨v5,q5,r5⟩:=c5.nD
   simp only [q4,ah,e5,aE,q5]
   refine hk v5 g5 ?_ ?_ r5
   ·exact s5.xm (s4.xm (XM.ex (GM.trans x2)) (by omega)) (le_refl _)
   ·exact (UY.ch s4.ch (show ¬(im=j) by omega)).ch s5.ch (show ¬(im=h.length) by omega)
  | none=>
   simp only [Option.getD_none,Option.isSome_none]
   rw [m8 k2]
   have x4:EX g (g2.set j (.arr 37 [.bool false,.slice none 0 0,.bool false,.slice none 0 0])):=x2.set (by omega) _
   have K0:(g2.set j (.arr 37 [.bool false,.slice none 0 0,.bool false,.slice none 0 0]))[h.length]?=some (.arr 37 z4):=by rw [getElem?_set_ne (by omega)];exact k8
   have lj:j<(g2.set j (.arr 37 [.bool false,.slice none 0 0,.bool false,.slice none 0 0])).length:=by rw [length_set];exact (bz k2).1
   simp only [aE,dD]
   clear UY k8 c8
   generalize g2.set j (.arr 37 [.bool false,.slice none 0 0,.bool false,.slice none 0 0])=g4 at x4 K0 lj⊢
   have yS:=GM.trans x4
   refine jB (ns:=[n]) (Q:=λr h'=>QV h' r 0) (Qp (s.iW (XM.ex yS))) (by simp) (λbD=>vF (z:=0) (by decide) bD) ?_
   intro r5 g5 x5 q5
   have lt5:=x5.1
   have x6:EX g5 (g5++[.arr 37 z4]):=EX.append _ _
   have k6:(g5++[aq.arr 37 z4])[g5.length]?=some (.arr 37 z4):=br
   generalize uJ:g5.length=ib at k6 lt5⊢
   generalize g5++[aq.arr 37 z4]=g6 at x6 k6⊢
   obtain ⟨g7,e7,s7,c7⟩:=wD (ns:=[n]) (zP k6 (by simp;omega)) (q5.mono (lh x6 [n]))
   simp only [e7,aE]
   have yT:=yS.trans (x5.trans x6)
   have y06:=lh yT [n]
   have Yv:EX h g7:=s7.ex yT (by omega)
   have Ux:=(x5.trans x6).get K0
   have F7:zj cs im n h.length ib h 0 g7:=⟨XM.ex Yv,(mp.ex y06).ch s7.ch (show ¬(im=ib) by omega),(zP Ux (by simp;omega)).ch s7.ch (show ¬(h.length=ib) by omega),c7⟩
   have ewz:jL (bf cs) (eI ag) (bf cs).length=(rB (bf cs) (eI ag) cs.length:Rat):=by rw [Nf,jR]
   have wb:=Yu bc (k:=cs.length) (by rw [jR];exact le_refl _)
   have fq:=Ay bc
   rw [jR] at fq
   have r1:∀k,k<cs.length->0<=ag.getD k (-1)->∀m,xF cs v ch im m (ag.set k (-1)):=by
    intro k tj h0 m
    have gV:k<(bf cs).length:=by rw [jR];exact tj
    have mD:0<=(eI ag).getD k (-1):=by rw [pM];exact h0
    have aF:=(bc.ok.lU k gV).2
    have e1:=Lj bc gV mD (.inl rfl)
    have e2:=bc.set gV (x:= -1) ⟨Int.le_refl _,by omega⟩
    rw [C3 (by omega)] at e1 e2
    intro hh KK
    exact ih _ (by omega) e2 (by rw [length_set];exact jP) m
   have r2:∀k (hk:k<cs.length),0<=ag.getD k (-1)->ag.getD k (-1)+1<cs[k].1.length->∀m,xF cs v ch im m (ag.set k (ag.getD k (-1)+1)):=by
    intro k tj h0 hl m
    have gV:k<(bf cs).length:=by rw [jR];exact tj
    have mD:0<=(eI ag).getD k (-1):=by rw [pM];exact h0
    have e1:=Lj bc gV mD (.inr rfl)
    have e2:=bc.set gV (x:=ag.getD k (-1)+1) ⟨by omega,by rw [sr tj,length_map];exact hl⟩
    rw [pM,C3 (by omega)] at e1
    rw [C3 (by omega)] at e2
    intro hh KK
    exact ih _ (by omega) e2 (by rw [length_set];exact jP) m
   have F7':∀{g8:ae},EX g7 g8->zj cs im n h.length ib h 0 g8:=λx=>⟨F7.xm.trans (XM.ex x),F7.mp.ex (lh x [n]),F7.c8.ch (mQ.ex (c:=λ_=>False) (lh x [n])) (λh=>h),F7.cb.mono (lh x [n])⟩
   cases ch with
   | false=>
    simp only [dD]
    exact Zi (ch:=false) s bc jP wF fq r1 r2 E8 (le_refl _) (by omega) F7 (λh=>by cases h) ewz wb hk
   | true=>
    simp only [dA]
    have iW:=s.iW F7.xm
    have wo:NS g7 (sl 3 n 0 ag.length) .i64 ag:=NS.arr (k:=.i64) iW (by simp [maxLen];omega)
    have Ck:BT (bf cs) ag:=⟨bc.ok.jI,bc.ok.ef,λi hi=>by have:=bc.ok.lU i hi;rw [pM] at this;exact this⟩
    refine C42 (Rz (uX (RG [n] g7)) (s.Rv F7.xm)) wo jP (λc hc t ht=>wF c hc t ht) Ck ?_
    intro g8 x8
    exact Zi (ch:=true) s bc jP wF fq r1 r2 E8 (le_refl _) (by omega) (F7' x8) (λ_=>afN _ λi _=>(pM ag i).symm) ewz wb hk
end
end
section
theorem aD4 {h:ae} {n:Nat} (hn:n<=1000):lI 3 8 [(.int .i64 (0))] h (I n) (I n)=some (sl 3 h.length 0 n,h++[.arr 3 ((replicate n (0:Int)).map I)]):=by
 have e:je [.int .i64 0] n=(replicate n (0:Int)).map I:=by
  induction n with
  | zero=>rfl
  | succ n ih=>
   rw [List.replicate_succ,List.map_cons,<-ih (by omega)]
   rfl
 have h1:(0:Int)<=(n:Int)/\(n:Int)<=(n:Int)/\((8:Nat):Int)*(n:Int)<=281474976710656/\(n:Int)<=9223372036854775807:=by omega
 simp only [lI]
 rw [if_pos h1,Int.toNat_natCast,e]
theorem aAI {cs:List (List (List UInt8)×Int)} (h:lB cs=true):∀c∈cs,∀s∈c.1,jo s=true:=by
 intro c hc s hs
 unfold lB at h
 exact List.all_eq_true.1 (List.all_eq_true.1 h c hc) s hs
section
variable {h : ae} {K : Value -> ae -> Prop}
theorem C5 {v:Value} {cs:List (List (List UInt8)×Int)} (Fl:jU h v cs) (hk:∀h',K (.bool true) h'):ak prog 5 [v] h K:=by
 refine f5 ?_
 unfold T5
 refine C11 Fl ?_
 intro vl g1 x1 hv
 have c4:=aza cs
 have cm:=azb (cs:=cs)
 have yn:∀c∈vO cs,c.1.length<=1000/\∀s∈c.1,s.length<=700:=λc hc=>⟨by have:=(cm c hc).1;omega,λs hs=>by have:=(cm c hc).2 s hs;omega⟩
 generalize vO cs=C at*
 refine dF (σ:=Nat×ae) (λq=>[I q.1]) (λq=>q.2) (λq=>q.1<=C.length/\EX g1 q.2) (λq=>C.length-q.1) (0,g1) rfl rfl ⟨Nat.zero_le _,EX.refl _⟩ ?_
 rintro ⟨i,g⟩ ⟨hi,xg⟩ L hL
 simp only at hi xg hL⊢
 rw [aHw]
 have tC:=hv.mono xg
 simp only [tC.len,ah,cW,bQ]
 refine ⟨λaF=>?_,λcU=>?_⟩
 ·have bn:i<C.length:=by omega
  obtain ⟨b,o,vs,u1,u2,u3⟩:=tC.get bn
  obtain ⟨u4,_⟩:=A1 u2
  simp only [u1,ah,bZ,Nat.add_zero,u4,u3.len,fQ]
  have gN:∀{g':ae} (t u:Value),EX g g'->bF t u (.bool false)=some (B false)->Gg prog K vl (I i) t u L g':=by
   intro g' t u x' ht
   rw [apL,ht]
   simp only [ah,dD,cL,ft i (by omega),true_and]
   exact hL (i+1,g') ⟨by show i+1<=_;omega,xg.trans x'⟩ (by show C.length-(i+1)<C.length-i;omega)
  have aAh:∀{g':ae} (t u:Value),bF t u (.bool false)=some (B true)->Gg prog K vl (I i) t u L g':=by
   intro g' t u ht
   rw [apL,ht]
   simp only [ah,dA]
   exact Nw (hk _)
  have go:∀b:Bool,Wm prog K vl (I i) (B b) L g:=by
   intro b
   rw [aHg]
   cases b with
   | false=>
    simp only [jV]
    exact gN _ _ (EX.refl _) rfl
   | true=>
    simp only [fP]
    refine Nv tC yn (by omega) ?_
    intro g2 x2
    simp only [hY,ah]
    by_cases h0:jN C=0
    ·rw [bj h0]
     exact aAh _ _ rfl
    ·rw [aY h0]
     exact gN _ _ x2 rfl
  rw [aHf]
  cases decide ((C[i].1.length:Int)>5) with
  | false=>
   simp only [jV]
   rw [apK]
   simp only [dQ,ah]
   exact go false
  | true=>
   simp only [fP,sP,ah]
   rw [apK]
   simp only [dY,ah]
   exact go _
 ·rw [aHh]
  by_cases h0:jN C=0
  rotate_left
  ·have bad:∀{g':ae},EX g g'->ak prog 13 [vl] g' λfN h_3=>OP (ai .neq fN (.int .i64 (0))) λcg=>aN cg (OP (ai .eql (S []) (.string ⟨#[]⟩)) λiS=>Wn prog K (I (jN C)) (S []) (I (jN C)) fN iS h_3)
     (OP (bk vl) λkW=>OH (lI 3 8 [(.int .i64 (0))] h_3 kW kW) λmi h_4=>OH (tF .str h_4) λil h_5=>ak prog 22 [vl,mi,(.bool false),il] h_5 λfJ h_6=>ak prog 16 [S [],fJ] h_6 λgQ h_7=>Ws prog K vl (I (jN C)) (S []) (I (jN C)) mi gQ h_7):=by
    intro g' x'
    refine Nv (tC.mono x') yn (by omega) ?_
    intro g4 x4
    have e1:ai .eql (S []) (.string ⟨#[]⟩)=some (B true):=rfl
    simp only [oA,ah,aY h0,Bool.not_false,dA,e1]
    rw [aHi]
    simp only [fP,hY,ah,decide_true]
    rw [aHj]
    simp only [dY,ah]
    rw [aHk]
    simp only [fP,e1,ah]
    rw [aHl]
    simp only [dY,ah]
    rw [aHm]
    simp only [fP,hY,ah,decide_true]
    rw [aHn]
    simp only [dY,ah]
    rw [aHo]
    simp only [fP]
    refine Nw ?_
    rw [aHp]
    simp only [dY,ah]
    exact hk _
   refine Zg tC yn (by omega) (λ_ g2 x2=>?_) (λh1=>absurd h1 h0)
   simp only [eR,fv,fz,ah]
   refine Zh (tC.mono x2) yn (by omega) (λ_ g3 x3=>?_) (λh1=>absurd h1 h0)
   simp only [eR,fv,fz,ah]
   exact bad (x2.trans x3)
  ·obtain ⟨qQ,ag5⟩:=aAm h0
   obtain ⟨⟨_,ef⟩,hcj⟩:=HY ag5
   have wF:∀c∈C,∀t∈c.1,t.length<=700/\jo t=true:=λc hc t ht=>⟨(yn c hc).2 t ht,aAI qQ c hc t ht⟩
   have bc:fT (bf C) (eI (replicate C.length 0)):=by
    rw [aoM]
    have:=H4 hcj (by rw [jR];exact ef)
    rw [jR] at this
    exact this
   have eval:cn (bf C) (eI (replicate C.length 0))=oX C:=by rw [aoM];rfl
   have hz:=Yn ag5
   refine Zg tC yn (by omega) (λh1=>absurd h0 h1) (λ_ g2 x2=>?_)
   simp only [eR,fv,fz,ah]
   refine Zh (tC.mono x2) yn (by omega) (λh1=>absurd h0 h1) (λ_ g3 x3=>?_)
   simp only [eR,fv,fz,ah]
   have cB:=x2.trans x3
   refine Nv (tC.mono cB) yn (by omega) ?_
   intro g4 x4
   rw [h0]
   have bL:=cB.trans x4
   have en:ai .neq (I 0) (.int .i64 (0))=some (B false):=rfl
   simp only [en,ah,dD,(tC.mono bL).len,aD4 (show C.length<=1000 by omega),aE]
   have x5:EX g4 (g4++[.arr 3 ((replicate C.length (0:Int)).map I)]):=EX.append _ _
   have k5:(g4++[aq.arr 3 ((replicate C.length (0:Int)).map I)])[g4.length]?=some (.arr 3 ((replicate C.length (0:Int)).map I)):=br
   generalize hn:g4.length=n at k5⊢
   generalize g4++[aq.arr 3 ((replicate C.length (0:Int)).map I)]=g5 at x5 k5⊢
   have Et:∀g:ae,tF .str g=some (.map (some g.length),g++[.cw .str 0 []]):=λ_=>rfl
   have ajf:(replicate C.length (0:Int)).length=C.length:=List.length_replicate ..
   -- gB aK3 answer,with a new aLD
   have ask:∀(ch:Bool) {g6:ae} {K2:Value->ae->Prop},EX g4 g6->g6[n]?=some (.arr 3 ((replicate C.length (0:Int)).map I))->(∀r g7,EX g4 g7->g7[n]?=some (.arr 3 ((replicate C.length (0:Int)).map I))->QV (bS [n] g7) r (oX C)->K2 r g7)->
     OH (tF .str g6) λil h_5=>ak prog 22 [vl,sl 3 n 0 C.length,B ch,il] h_5 K2:=by
    intro ch g6 K2 x6 k6 ti
    simp only [Et,aE]
    have x7:EX g6 (g6++[.cw .str 0 []]):=EX.append _ _
    have k7:(g6++[aq.cw .str 0 []])[g6.length]?=some (.cw .str 0 []):=br
    have ln6:=(bz k6).1
    generalize eZ:g6.length=im at k7 ln6⊢
    generalize g6++[aq.cw .str 0 []]=g7 at x7 k7⊢
    have gO:=x6.trans x7
    have Am:jU (bS [n] g7) vl C:=(tC.mono bL).mono (((EX.refl g4).set (Nat.le_of_eq hn) .dead).trans (lh gO [n]) |>λy=>⟨y.1,y.2⟩)
    have bt:im≠n:=by omega
    have main:=C22 (cs:=C) (v:=vl) (ch:=ch) (im:=im) wF (λ{ag} hs=>by
     cases ch with
     | false=>exact ajB hs
     | true=>exact ajC hs) _ (replicate C.length 0) (Nat.lt_succ_self _) bc ajf n (h:=g7) (K:=K2) (x7.get k6) bt Am ⟨0,[],by rw [p5 [n] g7 (by simp [bt])];exact k7,λe he=>by simp at he⟩
    rw [ajf,eval] at main
    refine main λr h' xh _ hq=>?_
    exact ti r h' ⟨by have:=gO.1;have:=xh.1;omega,λd hd=>by rw [xh.2 d (by have:=gO.1;omega) (by have:=x6.1;omega),gO.2 d hd]⟩ (xh.get (λe=>bt e.symm) (x7.get k6)) hq
   refine ask false x5 k5 λr g7 x7 k7 hq=>?_
   have is_:∀{g8:ae} {r:Value} {K3:Value->ae->Prop},g8[n]?=some (.arr 3 ((replicate C.length (0:Int)).map I))->QV (bS [n] g8) r (oX C)->(∀g9,EX g8 g9->K3 (B true) g9)->ak prog 16 [S (pN (oX C).num ((oX C).den:Int)),r] g8 K3:=by
    intro g8 r K3 k8 hq8 EZ
    refine jB (ns:=[n]) (Q:=λr _=>r=B true) (Qp k8) (by simp) (λbD=>arq (hq8.un hz) (by decide) λh' x=>?_) (λr g9 x9 e=>by subst e;exact EZ g9 x9)
    rw [bj rfl]
    exact bD _ h' x rfl
   refine is_ k7 hq λg8 x8=>?_
   rw [aHq]
   simp only [fP,hY,ah,decide_true]
   rw [aHr]
   simp only [dY,ah]
   rw [aHs]
   simp only [fP]
   refine ask true (x7.trans x8) (x8.get k7) λr9 g9 x9 k9 hq9=>?_
   refine is_ k9 hq9 λgj ay=>?_
   rw [aHt]
   simp only [dY,ah]
   rw [aHu]
   simp only [fP,hY,ah,decide_true]
   rw [aHv]
   simp only [dY,ah]
   rw [aHx]
   simp only [fP]
   refine Nw ?_
   rw [aHy]
   simp only [dY,ah]
   exact hk _
end
end
end Go.Proofs.YtelmdbpaoifmoaaGreat
