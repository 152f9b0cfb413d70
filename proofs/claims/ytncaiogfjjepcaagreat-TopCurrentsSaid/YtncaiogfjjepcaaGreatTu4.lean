/-
  Part 4 of the texts behind a statement of this seat: Ha14, CE, Da1, Gx1, Gx2, Gx3, Da2, Da3, CF, Da4, Da5, Da6, Da7.
-/
import Derived.Test.YtncaiogfjjepcaaGreatProg
import Derived.KernelRfl
import Derived.Test.YtncaiogfjjepcaaGreatTu3
open Go.Proofs.Tryz (prog)
open List (getElem?_set_ne getElem?_set_self getElem_mem length_map map_cons map_map mem_cons_of_mem sum_cons take_length)
open Nat (le_refl zero_add zero_le)
open Option (bind_some)
namespace Go.Proofs.YtncaiogfjjepcaaGreat
section
open Go.Sim Go.Sort
variable {h : ae} {K : Value -> ae -> Prop} {w t : Nat} {l : List T3} {ys : List Nat}
theorem aC6 (e:TypeId) (g:ae):cH e 0 [(.int .i64 (0)),(.int .i64 (0))] g []=some (sl e g.length 0 0,g++[.arr e []]):=by
 simp [cH,jE,bE]
theorem aAi {h:ae} {i:Nat} {e:TypeId} {a b:Value} (hg:h[i]?=some (.arr e [a,b])):af false 1 h (pt i 0)=some a/\af false 1 h (pt i 1)=some b/\af true 2 h (pt i 0)=some (.agg #[a,b]):=by
 simp [af,bw,hg,dS]
theorem aoT {x o vo:Value} {i:Nat} {L1:List Value->ae->Prop} {g0 g:ae} {LL O:List T3} (rx:R3 g0 x LL) (ro:R3 g0 o O) (hi:i<O.length) (hb:∀q∈O,q.1<=10000/\q.2.1<=10000/\q.2.2<=10000) (Qm:LL.length<=900) (x0:EX g0 g)
  (hp:g[g0.length]?=some (.arr 41 [I 0,I 0])) (hk:∀(a b:Nat) g',EX g0 g'->g'[g0.length]?=some (.arr 41 [I a,I b])->TY prog K x o vo (I i) (pt g0.length 0) L1 g'):
  bX [(.int .i64 (0))] g λL2 xs hx=>TX prog K x o vo (I i) (pt g0.length 0) L1 L2 xs hx:=by
 refine cN (σ:=Nat×Nat×Nat×ae) (λq=>[I q.1]) (λq=>q.2.2.2) (λq=>q.1<=LL.length/\EX g0 q.2.2.2/\q.2.2.2[g0.length]?=some (.arr 41 [I q.2.1,I q.2.2.1])) (λq=>LL.length-q.1) (0,0,0,g) rfl rfl ⟨zero_le _,x0,hp⟩ ?_
 rintro ⟨k,a,b,g1⟩ ⟨fD,x1,yM⟩ L2 dP
 simp only at fD x1 yM dP⊢
 rw [aHZ]
 simp only [rx.len,bT,ah,cd]
 refine ⟨λaw=>?_,λcK=>?_⟩
 ·have aw:k<LL.length:=by omega
  obtain ⟨ix,ox,adx,_,lx0,lx1,Bi⟩:=(rx.up x1).get k aw
  obtain ⟨io,oo,ado,_,lo0,IP,IQ⟩:=(ro.up x1).get i hi
  obtain ⟨b1,b2,b3⟩:=hb _ (getElem_mem hi)
  generalize O[i]=q at lo0 IP IQ b1 b2 b3
  generalize LL[k]=z at lx0 lx1 Bi
  have a1:IntKind.wrap .i64 ((q.1:Int)+q.2.2)=((q.1+q.2.2:Nat):Int):=by rw [wrap64 (by omega) (by omega)];omega
  have a2:IntKind.wrap .i64 ((q.2.1:Int)+q.2.2)=((q.2.1+q.2.2:Nat):Int):=by rw [wrap64 (by omega) (by omega)];omega
  have Qp:=(cm yM).1
  have AD:∀(a b:Nat) g2,EX g0 g2->g2[g0.length]?=some (.arr 41 [I a,I b])->Bq prog K x o vo (I i) (pt g0.length 0) (I k) L1 L2 g2:=by
   intro a b g2 x2 h2
   rw [aH1]
   simp only [bZ,ah,true_and]
   rw [dQ k (by simp [maxLen];omega)]
   exact dP (k+1,a,b,g2) ⟨aw,x2,h2⟩ (by show LL.length-(k+1)<LL.length-k;omega)
  have Hz:∀(a b:Nat) g2,EX g0 g2->g2[g0.length]?=some (.arr 41 [I a,I b])->w6 prog K x o vo (I i) (pt g0.length 0) (I k) L1 L2 g2:=by
   intro a b g2 x2 h2
   rw [aH0]
   obtain ⟨ix',ox',aub,_,aCY,_⟩:=(rx.up x2).get k aw
   obtain ⟨io',oo',aua,_,_,aCS,aCT⟩:=(ro.up x2).get i hi
   have dM:=(cm h2).1
   have ao:∀u v:Int,∃n,aj .add (I u) (I v)=some (I n):=λu v=>⟨_,bZ _ _ _⟩
   obtain ⟨n,en⟩:=ao O[i].2.1 O[i].2.2
   simp only [aub,aua,bP,zero_add,Nat.add_zero,ah,aCY,aCS,aCT,true_and,en,jD]
   refine uo (λ_=>?_) (λ_=>AD a b g2 x2 h2)
   have s:=kz h2 (o:=1) (v:=I k) (by simp) rfl rfl
   simp only [s,aL]
   exact AD a k _ (x2.set (le_refl _) _) (by rw [getElem?_set_self dM];rfl)
  have body:(aJ (B (decide ((z.1:Int)=q.2.1))) (OP (aF 0 (pt g0.length 0)) λdj=>OH (aU 1 g1 dj (I k)) λ_ h_1=>w6 prog K x o vo (I i) (pt g0.length 0) (I k) L1 L2 h_1) (w6 prog K x o vo (I i) (pt g0.length 0) (I k) L1 L2 g1)):=by
   refine uo (λ_=>?_) (λ_=>Hz a b g1 x1 yM)
   have s:=kz yM (o:=0) (v:=I k) (by simp) rfl rfl
   simp only [bP,zero_add,ah,s,aL]
   exact Hz k b _ (x1.set (le_refl _) _) (by rw [getElem?_set_self Qp];rfl)
  simp only [adx,ado,bP,zero_add,Nat.add_zero,ah,lx1,lo0,IQ,lx0,IP,Bi,true_and,rS,bZ,a1,a2]
  by_cases h1:(z.2.1:Int)<=q.1
  ·rw [dh h1]
   simp only [gq,fy,ah,jD]
   refine uo (λ_=>?_) (λ_=>AD a b g1 x1 yM)
   simpa only [bP,zero_add,ah] using body
  ·rw [bY h1]
   simp only [jd,dA,ah,dm]
   exact AD a b g1 x1 yM
 ·exact hk a b g1 x1 yM
theorem C5 {v:Value} (c:ez l w t ys) (hw:w<=10000) (ht:t<=10000) (hl:l.length<=100) (r:R3 h v l)
  (hk:∀x g,EX h g->K (.tuple #[I ys.length,x]) g):ay prog 5 [v] h K:=by
 refine f5 ?_
 unfold T5
 refine C20 c hw ht hl r ?_
 intro x g LL xg ji own HX
 have lv:=ez.aCQ c ji
 have ll:LL.length=ys.length:=by rw [<-lv,length_map]
 refine C21 (r.up xg) hl ?_
 intro o g1 O x1 hO kl aDq
 simp only [aC6,aL]
 have bd:∀q∈O,q.1<=10000/\q.2.1<=10000/\q.2.2<=10000:=λq hq=>by
  have:=c.bound q (kl q hq);omega
 have rx:=own.r3.up x1
 have ro:=aDq.r3
 refine cN (σ:=Nat×Value×ae) (λq=>[q.2.1,I q.1]) (λq=>q.2.2) (λq=>q.1<=O.length/\EX g1 q.2.2/\∃cs,fq g1.length q.2.2 41 2 q.2.1 q.1 cs) (λq=>O.length-q.1)
  (0,_,_) rfl rfl ⟨zero_le _,EX.append _ _,[],rfl,.inr ⟨g1.length,le_refl _,rfl,bL⟩⟩ ?_
 rintro ⟨i,vo,g2⟩ ⟨hi,x2,cs,aiK⟩ L1 lD
 simp only at hi x2 aiK lD⊢
 rw [aH5]
 simp only [ro.len,bT,ah,cd]
 refine ⟨λaw=>?_,λcK=>?_⟩
 ·have aw:i<O.length:=by omega
  have b0:eI [(.int .i64 (0)),(.int .i64 (0))] []=some (.agg #[I 0,I 0]):=rfl
  have ea:cF 41 [(.int .i64 (0)),(.int .i64 (0))] g2=some (pt g2.length 0,g2++[.arr 41 [I 0,I 0]]):=rfl
  have es:aU 2 (g2++[az.arr 41 [I 0,I 0]]) (pt g2.length 0) (.agg #[I 0,I 0])=some (undef,g2++[.arr 41 [I 0,I 0]]):=by
   simp [aU,sA,fV,dL,Value.cells,setAt]
  simp only [b0,ea,ah,aL,es]
  refine aoT (rx.up x2) (ro.up x2) aw bd (by omega) (EX.append _ _) bL ?_
  intro a b g3 x3 hp3
  rw [aH2]
  have mk:cH 41 1 [(.int .i64 (0)),(.int .i64 (0))] g3 [(0,2,.agg #[I a,I b])]=some (sl 41 g3.length 0 1,g3++[.arr 41 [I a,I b]]):=agx g3 a b
  simp only [(aAi hp3).2.2,ah,mk,aL]
  have x4:EX g3 (g3++[.arr 41 [I a,I b]]):=EX.append _ _
  refine fq.app (aiK.up (x3.trans x4)) (x2.trans (x3.trans x4)) bL rfl (by omega) (by omega) (by omega) ?_
  intro v5 g5 x5 _ _ R2 _
  rw [aH3]
  simp only [bZ,ah,true_and]
  rw [dQ i (by simp [maxLen];omega)]
  exact lD (i+1,v5,g5) ⟨aw,x5,_,R2⟩ (by show O.length-(i+1)<O.length-i;omega)
 ·rw [aH4]
  simp only [rx.len,ah,ll]
  exact hk vo g2 ((xg.trans x1).trans x2)
theorem C4 {v:Value} (c:ez l w t ys) (hw:w<=10000) (ht:t<=10000) (hl:l.length<=100) (r:R3 h v l)
  (hk:K (.tuple #[I w,I t]) h):ay prog 4 [v] h K:=by
 refine f4 ?_
 unfold T4
 have rc:=c.reach
 refine cN (σ:=Nat) (λq=>[I (wM (l.take q)),I (hM (l.take q)),I q]) (λq=>h) (λq=>q<=l.length) (λq=>l.length-q) 0 (by rfl) rfl (zero_le _) ?_
 intro i hi L hL
 rw [aHh]
 simp only [r.len,bT,ah,cd]
 refine ⟨λaw=>?_,λcK=>?_⟩
 ·have aw:i<l.length:=by omega
  obtain ⟨il,ol,ad,la,l0,l1,l2⟩:=r.get i aw
  have bd:=c.bound _ (getElem_mem aw)
  have a1:IntKind.wrap .i64 ((l[i].1:Int)+l[i].2.2)=((l[i].1+l[i].2.2:Nat):Int):=by rw [wrap64 (by omega) (by omega)];omega
  have a2:IntKind.wrap .i64 ((l[i].2.1:Int)+l[i].2.2)=((l[i].2.1+l[i].2.2:Nat):Int):=by rw [wrap64 (by omega) (by omega)];omega
  have mx:∀a b:Nat,max (a:Int) (b:Int)=((max a b:Nat):Int):=λa b=>by omega
  simp only [ad,bP,zero_add,Nat.add_zero,ah,l0,l1,l2,true_and,bZ,a1,a2,IX,mx]
  rw [dQ i (by simp [maxLen];omega)]
  have:=hL (i+1) aw (by omega)
  have tk:l.take (i+1)=l.take i++[l[i]]:=by rw [List.take_succ_eq_append_getElem aw]
  rw [tk,Kn,HY] at this
  exact this
 ·have:i=l.length:=by omega
  subst this
  rw [aHg,take_length,rc.1,rc.2]
  exact hk
end
section
open Go.Sim
variable (P : Program) (K : VK)
noncomputable section
variable (d0 i3 j4 aS bO : Value) (L1 L2 : LQ) (xs : List Value) (h : ae)
def oc9:=cj prog 9 [[],[],[0],[3],[],[],[0,3,19],[0,3,19,27],[],[],[],[],[0,3],[4],[],[],[],[],[],[0,3],[0],[]]
@[irreducible] def c9:=cD oc9
@[irreducible] def Cc:=c9.r.l.r.l.l
@[irreducible] def ac0:=c9.r.r
@[irreducible] def acZ:=Cc.r.l.l.l.l.r.l
@[irreducible] def ayP:=Cc.r.l.l.l.r
@[irreducible] def acY:=Cc.r.l.l.r
@[irreducible] def ac1:=Cc.r.r
@[irreducible] def ayT:=ac0.l
@[irreducible] def ayQ:=acZ.r.l
@[irreducible] def ayR:=acY.r.l.l
@[irreducible] def ayS:=ac1.l
theorem k9:oc9=some (47,c9,[.tmp 2]):=by kernel_rfl
def LD (_P:Program) (K:VK):ax:=aW [.tmp 2] K
def at5:ax:=aH (au P ac0 (LD P K)) (LD P K)
def at6:ax:=bC 0 (at5 P K)
def Ft:ax:=aH (λf' aQ=>(([0]:List Nat).map f':List Value)=[d0]/\L1 (([3]:List Nat).map f') aQ) (at6 P K)
def at7:ax:=aH (au P ac1 (Ft P K d0 L1)) (Ft P K d0 L1)
def LF:ax:=bC 1 (at7 P K d0 L1)
def X0:ax:=aH (au P acY (LF P K d0 L1)) (LF P K d0 L1)
def X1:ax:=aH (au P ayP (X0 P K d0 L1)) (X0 P K d0 L1)
def at3:ax:=bC 2 (LF P K d0 L1)
def at4:ax:=aH (λf' aQ=>(([0,3]:List Nat).map f':List Value)=[d0,i3]/\L2 (([4]:List Nat).map f') aQ) (at3 P K d0 L1)
def amD:Prop:=aA (au P Cc (Ft P K d0 L1)) ([0]++[3]) ([d0]++xs) h
def amz:Prop:=aA (au P acZ (X1 P K d0 L1)) [0,3,19] [d0,i3,aS] h
def Ul:Prop:=aA (au P ayQ (X1 P K d0 L1)) [0,3,19,27] [d0,i3,aS,bO] h
def amA:Prop:=aA (au P ayR (at4 P K d0 i3 L1 L2)) ([0,3]++[4]) ([d0,i3]++xs) h
def amB:Prop:=aA (au P ayS (Ft P K d0 L1)) [0,3] [d0,i3] h
def amC:Prop:=aA (au P ayT (LD P K)) [0] [d0] h
theorem aI8:Ul P K d0 i3 aS bO L1 h=
 (OP (bu aS (.bool true) bO) λcL=>
 aJ cL
 (K (.bool false) h)
 (bX [(.int .i64 (0))] h λL2 xs hx=>
 amA P K d0 i3 L1 L2 xs hx)):=aB (by kernel_rfl)
theorem aI7:amz P K d0 i3 aS L1 h=
 (bQ aS false
 (OP (aD 1 d0 i3) λbK=>
 OP (af false 1 h bK) λbB=>
 OP (aD 1 bB i3) λbH=>
 OP (af false 1 h bH) λbW=>
 OP (aj .neq bW (.int .i64 (0))) λbO=>
 Ul P K d0 i3 aS bO L1 h)
 (Ul P K d0 i3 aS undef L1 h)):=aB (by kernel_rfl)
theorem aI9 (d0 i3:Value) (L1 L2:LQ) (j4:Value) (h:ae):amA P K d0 i3 L1 L2 [j4] h=
 (OP (aT d0) λbz=>
 OP (aj .lss j4 bz) λdJ=>
 aJ dJ
 (OP (aD 1 d0 i3) λbG=>
 OP (af false 1 h bG) λdH=>
 OP (aD 1 dH j4) λcI=>
 OP (af false 1 h cI) λcU=>
 ay P 27 [cU,(.int .i64 (0)),(.int .i64 (1000))] h λeg z1=>
 OP (gG .not eg) λcO=>
 aJ cO
 (K (.bool false) z1)
 (OP (aj .add j4 (.int .i64 (1))) λcA=>
 ([d0,i3]:List Value)=[d0,i3]/\L2 [cA] z1))
 (amB P K d0 i3 L1 h)):=aB (by kernel_rfl)
theorem aJa:amB P K d0 i3 L1 h=
 (OP (aj .add i3 (.int .i64 (1))) λaE=>
 ([d0]:List Value)=[d0]/\L1 [aE] h):=aB (by kernel_rfl)
theorem aJc (d0:Value) (L1:LQ) (i3:Value) (h:ae):amD P K d0 L1 [i3] h=
 (OP (aT d0) λx7=>
 OP (aj .lss i3 x7) λx8=>
 aJ x8
 (OP (aD 1 d0 i3) λaC=>
 OP (af false 1 h aC) λaP=>
 OP (aT aP) λaX=>
 OP (aT d0) λbM=>
 OP (aj .neq aX bM) λbA=>
 amz P K d0 i3 bA L1 h)
 (amC P K d0 h)):=aB (by kernel_rfl)
theorem aJb:amC P K d0 h=
 (OP (aT d0) λdC=>
 ay P 27 [dC,(.int .i64 (1)),(.int .i64 (8))] h λeT z1=>
 K eT z1):=aB (by kernel_rfl)
def T9:Prop:=
 bX [(.int .i64 (0))] h λL1 xs hx=>
 amD P K d0 L1 xs hx
theorem e9:au P c9 (aW [.tmp 2] K) (cg [d0]) h=T9 P K d0 h:=by kernel_rfl
theorem f9 {K:VK} {d0:Value} {h:ae} (H:T9 prog K d0 h):ay prog 9 [d0] h K:=
 cC k9 (cE rfl) ((e9 prog K d0 h).mpr H)
end
noncomputable section
variable (x0 : Value) (h : ae)
def agL:=cj prog 10 [[],[],[],[],[],[]]
@[irreducible] def FJ:=cD agL
theorem k10:agL=some (21,FJ,[.tmp 2,.tmp 3,.tmp 4]):=by kernel_rfl
def LI:Prop:=
 ay P 28 [x0] h λx8 z1=>
 OP (gG .not x8) λx9=>
 aJ x9
 (K (.tuple #[(.slice none 0 0),(.int .i64 (0)),(.int .i64 (1))]) z1)
 (ay P 29 [x0] z1 λaM z2=>
 OP (cW 0 aM) λaC=>
 OP (cW 1 aM) λaP=>
 ay P 30 [x0] z2 λbM z3=>
 ay P 30 [aC] z3 λaS z4=>
 OP (aj .sub bM aS) λaI=>
 K (.tuple #[aC,aI,(.int .i64 (0))]) z4)
theorem Pl:au P FJ (aW [.tmp 2,.tmp 3,.tmp 4] K) (cg [x0]) h=LI P K x0 h:=by kernel_rfl
theorem f10 {K:VK} {x0:Value} {h:ae} (H:LI prog K x0 h):ay prog 10 [x0] h K:=
 cC k10 (cE rfl) ((Pl prog K x0 h).mpr H)
end
noncomputable section
variable (x0 x1 : Value) (h : ae)
def agN:=cj prog 11 [[],[],[],[],[],[],[]]
@[irreducible] def NR:=cD agN
theorem k11:agN=some (27,NR,[.tmp 4,.tmp 5]):=by kernel_rfl
def LK:Prop:=
 ay P 31 [x0,x1] h λaC z1=>
 OP (cW 0 aC) λaP=>
 OP (cW 1 aC) λaX=>
 OP (gG .not aX) λbM=>
 aJ bM
 (K (.tuple #[(.slice none 0 0),(.int .i64 (1))]) z1)
 (ay P 32 [aP] z1 λaI z2=>
 OP (cW 0 aI) λaR=>
 OP (cW 1 aI) λbK=>
 ay P 33 [bK] z2 λbm z3=>
 OP (cW 0 bm) λbH=>
 OP (cW 1 bm) λbW=>
 K (.tuple #[bH,bW]) z3)
theorem Pm:au P NR (aW [.tmp 4,.tmp 5] K) (cg [x0,x1]) h=LK P K x0 x1 h:=by kernel_rfl
theorem f11 {K:VK} {x0 x1:Value} {h:ae} (H:LK prog K x0 x1 h):ay prog 11 [x0,x1] h K:=
 cC k11 (cE rfl) ((Pm prog K x0 x1 h).mpr H)
end
noncomputable section
variable (x0 x1 m6 x8 x9 aE aG i12 aC aP aV bz cI cU cP dC er iZ dZ dj gA cJ jV : Value) (L1 L2 : LQ) (xs : List Value) (h : ae)
def agT:=cj prog 12 [[],[],[],[],[],[],[],[],[6,9,30],[8,31],[],[],[],[],[],[6,8,9,10,11,30,31,40],[41],[],[],[],[6,8,9,10,11,12,30,31,40,41,44,45,51],[6,8,9,10,11,30,31,40,41,44,45,51,59],[],[6,8,9,11,30,31],[],[],[],[],[],[6,8,9,13,14,30,31,69,70],[71],[],[],[],[],[6,8,9,13,14,30,31],[6,8,9,13,14,30,31,81],[6,8,9,13,14,30,31,81,85],[],[6,8,9,30,31],[8],[]]
@[irreducible] def FP:=cD agT
@[irreducible] def FY:=FP.r.r.r.r.r.l.r.l.l
@[irreducible] def YX:=FP.r.r.r.r.r.r
@[irreducible] def NZ:=FY.r.r.l.l.r.r.l.r.l.l
@[irreducible] def YT:=FY.r.r.l.l.r.r.r
@[irreducible] def YS:=FY.r.r.r
@[irreducible] def avb:=YX.l
@[irreducible] def YU:=NZ.r.r.l.l.r.r.l
@[irreducible] def au5:=NZ.r.r.r
@[irreducible] def N0:=YT.l
@[irreducible] def ava:=YS.l
@[irreducible] def au6:=YU.r.l
@[irreducible] def au7:=N0.r.r.r.l.r.l.l
@[irreducible] def YV:=N0.r.r.r.r
@[irreducible] def N1:=YV.l
@[irreducible] def YW:=N1.l.r.l
@[irreducible] def au8:=N1.r
@[irreducible] def au9:=YW.r.l
theorem k12:agT=some (94,FP,[.tmp 4,.tmp 5]):=by kernel_rfl
def KL (_P:Program) (K:VK):ax:=aW [.tmp 4,.tmp 5] K
def apF:ax:=aH (au P YX (KL P K)) (KL P K)
def apx:ax:=bC 0 (apF P K)
def EN:ax:=aH (λf' aQ=>(([6,9,30]:List Nat).map f':List Value)=[m6,x9,aV]/\L1 (([8,31]:List Nat).map f') aQ) (apx P K)
def apy:ax:=aH (au P YS (EN P K m6 x9 aV L1)) (EN P K m6 x9 aV L1)
def wh:ax:=bC 1 (apy P K m6 x9 aV L1)
def apz:ax:=aH (au P YT (wh P K m6 x9 aV L1)) (wh P K m6 x9 aV L1)
def apA:ax:=bC 2 (apz P K m6 x9 aV L1)
def KM:ax:=aH (λf' aQ=>(([6,8,9,10,11,30,31,40]:List Nat).map f':List Value)=[m6,x8,x9,aE,aG,aV,bz,cI]/\L2 (([41]:List Nat).map f') aQ) (apA P K m6 x9 aV L1)
def apB:ax:=aH (au P au5 (KM P K m6 x8 x9 aE aG aV bz cI L1 L2)) (KM P K m6 x8 x9 aE aG aV bz cI L1 L2)
def WL:ax:=bC 3 (apB P K m6 x8 x9 aE aG aV bz cI L1 L2)
def apC:ax:=aH (au P YV (wh P K m6 x9 aV L1)) (wh P K m6 x9 aV L1)
def apD:ax:=bC 4 (apC P K m6 x9 aV L1)
def apE:ax:=aH (λf' aQ=>(([6,8,9,13,14,30,31,69,70]:List Nat).map f':List Value)=[m6,x8,x9,aC,aP,aV,bz,dZ,dj]/\L2 (([71]:List Nat).map f') aQ) (apD P K m6 x9 aV L1)
def WM:ax:=aH (au P au8 (wh P K m6 x9 aV L1)) (wh P K m6 x9 aV L1)
def ai5:Prop:=aA (au P FY (EN P K m6 x9 aV L1)) ([6,9,30]++[8,31]) ([m6,x9,aV]++xs) h
def Sh:Prop:=aA (au P NZ (KM P K m6 x8 x9 aE aG aV bz cI L1 L2)) ([6,8,9,10,11,30,31,40]++[41]) ([m6,x8,x9,aE,aG,aV,bz,cI]++xs) h
def ai6:Prop:=aA (au P YU (WL P K m6 x8 x9 aE aG aV bz cI L1 L2)) [6,8,9,10,11,12,30,31,40,41,44,45,51] [m6,x8,x9,aE,aG,i12,aV,bz,cI,cU,cP,dC,er] h
def Si:Prop:=aA (au P au6 (WL P K m6 x8 x9 aE aG aV bz cI L1 L2)) [6,8,9,10,11,30,31,40,41,44,45,51,59] [m6,x8,x9,aE,aG,aV,bz,cI,cU,cP,dC,er,iZ] h
def Sj:Prop:=aA (au P N0 (wh P K m6 x9 aV L1)) [6,8,9,11,30,31] [m6,x8,x9,aG,aV,bz] h
def Sk:Prop:=aA (au P au7 (apE P K m6 x8 x9 aC aP aV bz dZ dj L1 L2)) ([6,8,9,13,14,30,31,69,70]++[71]) ([m6,x8,x9,aC,aP,aV,bz,dZ,dj]++xs) h
def Sl:Prop:=aA (au P N1 (wh P K m6 x9 aV L1)) [6,8,9,13,14,30,31] [m6,x8,x9,aC,aP,aV,bz] h
def ai7:Prop:=aA (au P YW (WM P K m6 x9 aV L1)) [6,8,9,13,14,30,31,81] [m6,x8,x9,aC,aP,aV,bz,cJ] h
def Sm:Prop:=aA (au P au9 (WM P K m6 x9 aV L1)) [6,8,9,13,14,30,31,81,85] [m6,x8,x9,aC,aP,aV,bz,cJ,jV] h
def DC:Prop:=aA (au P ava (EN P K m6 x9 aV L1)) [6,8,9,30,31] [m6,x8,x9,aV,bz] h
def ai8:Prop:=aA (au P avb (KL P K)) [8] [x8] h
theorem amQ:Si P K m6 x8 x9 aE aG aV bz cI cU cP dC er iZ L1 L2 h=
 (OP (bu er (.bool true) iZ) λgL=>
 OP (aD 1 cP dC) λfT=>
 OH (aU 1 h fT gL) λ_ z1=>
 OP (aj .add cU (.int .i64 (1))) λiV=>
 ([m6,x8,x9,aE,aG,aV,bz,cI]:List Value)=[m6,x8,x9,aE,aG,aV,bz,cI]/\L2 [iV] z1):=aB (by kernel_rfl)
theorem aEc:ai6 P K m6 x8 x9 aE aG i12 aV bz cI cU cP dC er L1 L2 h=
 (bQ er false
 (OP (eJ m6) λfg=>
 OP (aF 3 fg) λgw=>
 OP (af false 1 h gw) λfJ=>
 OP (aD 1 fJ i12) λfY=>
 OP (af false 1 h fY) λfS=>
 OP (aj .eql fS (.int .i64 (0))) λiZ=>
 Si P K m6 x8 x9 aE aG aV bz cI cU cP dC er iZ L1 L2 h)
 (Si P K m6 x8 x9 aE aG aV bz cI cU cP dC er undef L1 L2 h)):=aB (by kernel_rfl)
theorem aEb (m6 x8 x9 aE aG aV bz cI:Value) (L1 L2:LQ) (cU:Value) (h:ae):Sh P K m6 x8 x9 aE aG aV bz cI L1 L2 [cU] h=
 (OP (aj .lss cU cI) λeg=>
 aJ eg
 (OP (aj .shr aE cU) λfE=>
 OP (aj .and fE (.int .i64 (1))) λfX=>
 OP (aj .eql fX (.int .i64 (1))) λiU=>
 ai6 P K m6 x8 x9 aE aG cU aV bz cI cU aG cU iU L1 L2 h)
 (Sj P K m6 x8 x9 aG aV bz L1 h)):=aB (by kernel_rfl)
theorem aEe (m6 x8 x9 aC aP aV bz dZ dj:Value) (L1 L2:LQ) (gA:Value) (h:ae):Sk P K m6 x8 x9 aC aP aV bz dZ dj L1 L2 [gA] h=
 (OP (aj .lss gA dj) λoh=>
 aJ oh
 (OP (aD 4 dZ gA) λlh=>
 OP (af true 4 h lh) λiW=>
 OH (cF 92 [(.bool false),(.slice none 0 0),(.bool false),(.slice none 0 0)] h) λaZ z1=>
 OH (aU 4 z1 aZ iW) λ_ z2=>
 OP (af true 4 z2 aP) λfF=>
 OP (af true 4 z2 aZ) λiM=>
 ay P 36 [fF,iM] z2 λkO z3=>
 OH (aU 4 z3 aP kO) λ_ z4=>
 OP (aj .add gA (.int .i64 (1))) λie=>
 ([m6,x8,x9,aC,aP,aV,bz,dZ,dj]:List Value)=[m6,x8,x9,aC,aP,aV,bz,dZ,dj]/\L2 [ie] z4)
 (Sl P K m6 x8 x9 aC aP aV bz L1 h)):=aB (by kernel_rfl)
theorem amS:Sm P K m6 x8 x9 aC aP aV bz cJ jV L1 h=
 (OP (bu cJ (.bool true) jV) λjW=>
 aJ jW
 (OP (af true 4 h aP) λeC=>
 (True)/\
 OH (aU 4 h x9 eC) λ_ z1=>
 (True)/\
 DC P K m6 aC x9 aV bz L1 z1)
 (DC P K m6 x8 x9 aV bz L1 h)):=aB (by kernel_rfl)
theorem amR:ai7 P K m6 x8 x9 aC aP aV bz cJ L1 h=
 (bQ cJ false
 (OP (af true 4 h aP) λdB=>
 OP (af true 4 h x9) λgY=>
 ay P 37 [dB,gY] h λgM z1=>
 OP (aj .lss gM (.int .i64 (0))) λjV=>
 Sm P K m6 x8 x9 aC aP aV bz cJ jV L1 z1)
 (Sm P K m6 x8 x9 aC aP aV bz cJ undef L1 h)):=aB (by kernel_rfl)
theorem aEf:Sl P K m6 x8 x9 aC aP aV bz L1 h=
 (OP (oG false x8 (.slice none 0 0)) λjU=>
 ai7 P K m6 x8 x9 aC aP aV bz jU L1 h):=aB (by kernel_rfl)
theorem aEd:Sj P K m6 x8 x9 aG aV bz L1 h=
 (ay P 35 [m6,aG] h λjA z1=>
 OP (oG false jA (.slice none 0 0)) λgy=>
 aJ gy
 (DC P K m6 x8 x9 aV bz L1 z1)
 (ay P 34 [(.int .i64 (0))] z1 λfA z2=>
 OH (cF 92 [(.bool false),(.slice none 0 0),(.bool false),(.slice none 0 0)] z2) λaP z3=>
 OH (aU 4 z3 aP fA) λ_ z4=>
 OP (aT jA) λdj=>
 bX [(.int .i64 (0))] z4 λL2 xs hx=>
 Sk P K m6 x8 x9 jA aP aV bz jA dj L1 L2 xs hx)):=aB (by kernel_rfl)
theorem aEg:DC P K m6 x8 x9 aV bz L1 h=
 (OP (aj .add bz (.int .i64 (1))) λeP=>
 ([m6,x9,aV]:List Value)=[m6,x9,aV]/\L1 [x8,eP] h):=aB (by kernel_rfl)
theorem aEa (m6 x9 aV:Value) (L1:LQ) (x8 bz:Value) (h:ae):ai5 P K m6 x9 aV L1 [x8,bz] h=
 (OP (aj .lss bz aV) λdJ=>
 aJ dJ
 (OP (eJ m6) λcB=>
 OP (aF 0 cB) λaY=>
 OP (af false 1 h aY) λbG=>
 OH (eM 4 1 [(.bool false)] h bG bG) λdH z1=>
 OP (aT dH) λcI=>
 bX [(.int .i64 (0))] z1 λL2 xs hx=>
 Sh P K m6 x8 x9 bz dH aV bz cI L1 L2 xs hx)
 (ai8 P K x8 h)):=aB (by kernel_rfl)
theorem aEh:ai8 P K x8 h=
 (ay P 33 [x8] h λjr z1=>
 OP (cW 0 jr) λlO=>
 OP (cW 1 jr) λeE=>
 K (.tuple #[lO,eE]) z1):=aB (by kernel_rfl)
def LS:Prop:=
 ay P 31 [x0,x1] h λaI z1=>
 OP (cW 0 aI) λaR=>
 OP (cW 1 aI) λbK=>
 OP (gG .not bK) λbm=>
 aJ bm
 (K (.tuple #[(.slice none 0 0),(.int .i64 (1))]) z1)
 (ay P 34 [(.int .i64 (0))] z1 λbH z2=>
 OH (cF 92 [(.bool false),(.slice none 0 0),(.bool false),(.slice none 0 0)] z2) λx9 z3=>
 OH (aU 4 z3 x9 bH) λ_ z4=>
 OP (eJ aR) λbO=>
 OP (aF 0 bO) λcL=>
 OP (af false 1 z4 cL) λca=>
 OP (aj .shl (.int .i64 (1)) ca) λaV=>
 bX [(.slice none 0 0),(.int .i64 (0))] z4 λL1 xs hx=>
 ai5 P K aR x9 aV L1 xs hx)
theorem e12:au P FP (aW [.tmp 4,.tmp 5] K) (cg [x0,x1]) h=LS P K x0 x1 h:=by kernel_rfl
theorem f12 {K:VK} {x0 x1:Value} {h:ae} (H:LS prog K x0 x1 h):ay prog 12 [x0,x1] h K:=
 cC k12 (cE rfl) ((e12 prog K x0 x1 h).mpr H)
end
noncomputable section
variable (x0 x1 m6 x9 aE cL ca : Value) (L1 : LQ) (xs : List Value) (h : ae)
def ag4:=cj prog 13 [[],[],[],[],[],[],[],[],[6,9,28],[10,29],[],[],[],[],[10],[]]
@[irreducible] def FZ:=cD ag4
@[irreducible] def avc:=FZ.r.r.r.r.r.l.r.l.l
@[irreducible] def Y0:=FZ.r.r.r.r.r.r
@[irreducible] def avd:=Y0.l
theorem k13:ag4=some (49,FZ,[.tmp 4,.tmp 5]):=by kernel_rfl
def KN (_P:Program) (K:VK):ax:=aW [.tmp 4,.tmp 5] K
def apI:ax:=aH (au P Y0 (KN P K)) (KN P K)
def apG:ax:=bC 0 (apI P K)
def apH:ax:=aH (λf' aQ=>(([6,9,28]:List Nat).map f':List Value)=[m6,x9,cL]/\L1 (([10,29]:List Nat).map f') aQ) (apG P K)
def ai9:Prop:=aA (au P avc (apH P K m6 x9 cL L1)) ([6,9,28]++[10,29]) ([m6,x9,cL]++xs) h
def aja:Prop:=aA (au P avd (KN P K)) [10] [aE] h
theorem aEi (m6 x9 cL:Value) (L1:LQ) (aE ca:Value) (h:ae):ai9 P K m6 x9 cL L1 [aE,ca] h=
 (OP (aj .lss ca cL) λaV=>
 aJ aV
 (ay P 38 [m6,ca,x9] h λaY z1=>
 (True)/\
 OP (aD 4 x9 ca) λdW=>
 OP (af true 4 z1 dW) λcI=>
 (af true 4 h dW=some cI/\True)/\
 ay P 39 [aY,cI] z1 λcU z2=>
 (True)/\
 OH (cH 92 1 [(.bool false),(.slice none 0 0),(.bool false),(.slice none 0 0)] z2 [(0,4,cU)]) λeg z3=>
 (True)/\
 OH (cT 92 4 64 z3 aE eg) λcO z4=>
 (True)/\
 OP (aj .add ca (.int .i64 (1))) λcP=>
 ([m6,x9,cL]:List Value)=[m6,x9,cL]/\L1 [cO,cP] z4)
 (aja P K aE h)):=aB (by kernel_rfl)
theorem aEj:aja P K aE h=
 (ay P 33 [aE] h λeT z1=>
 OP (cW 0 eT) λgn=>
 OP (cW 1 eT) λfE=>
 K (.tuple #[gn,fE]) z1):=aB (by kernel_rfl)
def L7:Prop:=
 ay P 31 [x0,x1] h λaX z1=>
 OP (cW 0 aX) λaZ=>
 OP (cW 1 aX) λbM=>
 OP (gG .not bM) λaS=>
 aJ aS
 (K (.tuple #[(.slice none 0 0),(.int .i64 (1))]) z1)
 (ay P 32 [aZ] z1 λbK z2=>
 OP (cW 0 bK) λbB=>
 OP (cW 1 bK) λbm=>
 OP (eJ aZ) λbW=>
 OP (aF 0 bW) λbO=>
 OP (af false 1 z2 bO) λcL=>
 bX [(.slice none 0 0),(.int .i64 (0))] z2 λL1 xs hx=>
 ai9 P K aZ bm cL L1 xs hx)
theorem e13:au P FZ (aW [.tmp 4,.tmp 5] K) (cg [x0,x1]) h=L7 P K x0 x1 h:=by kernel_rfl
theorem f13 {K:VK} {x0 x1:Value} {h:ae} (H:L7 prog K x0 x1 h):ay prog 13 [x0,x1] h K:=
 cC k13 (cE rfl) ((e13 prog K x0 x1 h).mpr H)
end
noncomputable section
variable (x0 x1 : Value) (h : ae)
def ag7:=cj prog 14 [[],[],[],[],[],[],[]]
@[irreducible] def Y1:=cD ag7
theorem k14:ag7=some (24,Y1,[.tmp 4,.tmp 5]):=by kernel_rfl
def L9:Prop:=
 ay P 31 [x0,x1] h λaC z1=>
 OP (cW 0 aC) λaP=>
 OP (cW 1 aC) λaX=>
 OP (gG .not aX) λbM=>
 aJ bM
 (K (.tuple #[(.slice none 0 0),(.int .i64 (1))]) z1)
 (ay P 32 [aP] z1 λaI z2=>
 OP (cW 0 aI) λaR=>
 OP (cW 1 aI) λbK=>
 K (.tuple #[aR,(.int .i64 (0))]) z2)
theorem e14:au P Y1 (aW [.tmp 4,.tmp 5] K) (cg [x0,x1]) h=L9 P K x0 x1 h:=by kernel_rfl
theorem f14 {K:VK} {x0 x1:Value} {h:ae} (H:L9 prog K x0 x1 h):ay prog 14 [x0,x1] h K:=
 cC k14 (cE rfl) ((e14 prog K x0 x1 h).mpr H)
end
noncomputable section
variable (d0 x1 i5 : Value) (L1 : LQ) (xs : List Value) (h : ae)
def ahg:=cj prog 15 [[],[],[0,1],[5],[],[],[],[],[],[0,1],[]]
@[irreducible] def cY:=cD ahg
@[irreducible] def avC:=cY.r.l.r.l.l
@[irreducible] def Zm:=cY.r.r
@[irreducible] def avB:=Zm.l
theorem k15:ahg=some (25,cY,[.tmp 4]):=by kernel_rfl
def KT (_P:Program) (K:VK):ax:=aW [.tmp 4] K
def ap9:ax:=aH (au P Zm (KT P K)) (KT P K)
def aqa:ax:=bC 0 (ap9 P K)
def aqb:ax:=aH (λf' aQ=>(([0,1]:List Nat).map f':List Value)=[d0,x1]/\L1 (([5]:List Nat).map f') aQ) (aqa P K)
def ajv:Prop:=aA (au P avC (aqb P K d0 x1 L1)) ([0,1]++[5]) ([d0,x1]++xs) h
def aju:Prop:=aA (au P avB (KT P K)) [0,1] [d0,x1] h
theorem aEJ (d0 x1:Value) (L1:LQ) (i5:Value) (h:ae):ajv P K d0 x1 L1 [i5] h=
 (OP (aT x1) λx8=>
 OP (aj .lss i5 x8) λx9=>
 aJ x9
 (OP (aD 1 x1 i5) λaP=>
 OP (af false 1 h aP) λaX=>
 OP (aT aX) λaZ=>
 OP (aT d0) λbA=>
 OP (aj .neq aZ bA) λaS=>
 aJ aS
 (K (.bool false) h)
 (OP (aj .add i5 (.int .i64 (1))) λaG=>
 ([d0,x1]:List Value)=[d0,x1]/\L1 [aG] h))
 (aju P K d0 x1 h)):=aB (by kernel_rfl)
theorem aEI:aju P K d0 x1 h=
 (OP (aT x1) λaR=>
 OP (aT d0) λbB=>
 OP (aj .eql aR bB) λbm=>
 K bm h):=aB (by kernel_rfl)
def Mi:Prop:=
 bX [(.int .i64 (0))] h λL1 xs hx=>
 ajv P K d0 x1 L1 xs hx
theorem e15:au P cY (aW [.tmp 4] K) (cg [d0,x1]) h=Mi P K d0 x1 h:=by kernel_rfl
theorem f15 {K:VK} {d0 x1:Value} {h:ae} (H:Mi prog K d0 x1 h):ay prog 15 [d0,x1] h K:=
 cC k15 (cE rfl) ((e15 prog K d0 x1 h).mpr H)
end
noncomputable section
variable (d0 x3 i4 : Value) (L1 : LQ) (xs : List Value) (h : ae)
def ahh:=cj prog 16 [[],[],[],[0],[3,4],[],[],[],[3],[]]
@[irreducible] def Gb:=cD ahh
@[irreducible] def avE:=Gb.r.r.l.r.l.l
@[irreducible] def Zn:=Gb.r.r.r
@[irreducible] def avD:=Zn.l
theorem k16:ahh=some (19,Gb,[.tmp 2]):=by kernel_rfl
def KU (_P:Program) (K:VK):ax:=aW [.tmp 2] K
def aqc:ax:=aH (au P Zn (KU P K)) (KU P K)
def aqd:ax:=bC 0 (aqc P K)
def aqe:ax:=aH (λf' aQ=>(([0]:List Nat).map f':List Value)=[d0]/\L1 (([3,4]:List Nat).map f') aQ) (aqd P K)
def ajx:Prop:=aA (au P avE (aqe P K d0 L1)) ([0]++[3,4]) ([d0]++xs) h
def ajw:Prop:=aA (au P avD (KU P K)) [3] [x3] h
theorem aEL (d0:Value) (L1:LQ) (x3 i4:Value) (h:ae):ajx P K d0 L1 [x3,i4] h=
 (OP (aT d0) λx7=>
 OP (aj .lss i4 x7) λx8=>
 aJ x8
 (OP (aD 1 d0 i4) λaP=>
 OP (af false 1 h aP) λaX=>
 ay P 19 [aX] h λaZ z1=>
 OP (aj .add x3 aZ) λbM=>
 OP (aj .add i4 (.int .i64 (1))) λaE=>
 ([d0]:List Value)=[d0]/\L1 [bM,aE] z1)
 (ajw P K x3 h)):=aB (by kernel_rfl)
theorem aEK:ajw P K x3 h=
 (K x3 h):=aB (by kernel_rfl)
def Mj:Prop:=
 bX [(.int .i64 (0)),(.int .i64 (0))] h λL1 xs hx=>
 ajx P K d0 L1 xs hx
theorem Pn:au P Gb (aW [.tmp 2] K) (cg [d0]) h=Mj P K d0 h:=by kernel_rfl
theorem f16 {K:VK} {d0:Value} {h:ae} (H:Mj prog K d0 h):ay prog 16 [d0] h K:=
 cC k16 (cE rfl) ((Pn prog K d0 h).mpr H)
end
noncomputable section
variable (x0 x3 j4 : Value) (L1 : LQ) (xs : List Value) (h : ae)
def ahk:=cj prog 19 [[],[],[],[0],[3,4],[],[],[],[3],[]]
@[irreducible] def Gd:=cD ahk
@[irreducible] def avI:=Gd.r.r.l.r.l.l
@[irreducible] def Zq:=Gd.r.r.r
@[irreducible] def avH:=Zq.l
theorem k19:ahk=some (18,Gd,[.tmp 2]):=by kernel_rfl
def KV (_P:Program) (K:VK):ax:=aW [.tmp 2] K
def aqf:ax:=aH (au P Zq (KV P K)) (KV P K)
def aqg:ax:=bC 0 (aqf P K)
def aqh:ax:=aH (λf' aQ=>(([0]:List Nat).map f':List Value)=[x0]/\L1 (([3,4]:List Nat).map f') aQ) (aqg P K)
def ajA:Prop:=aA (au P avI (aqh P K x0 L1)) ([0]++[3,4]) ([x0]++xs) h
def ajz:Prop:=aA (au P avH (KV P K)) [3] [x3] h
theorem aEP (x0:Value) (L1:LQ) (x3 j4:Value) (h:ae):ajA P K x0 L1 [x3,j4] h=
 (OP (aT x0) λx7=>
 OP (aj .lss j4 x7) λx8=>
 aJ x8
 (OP (aD 1 x0 j4) λaP=>
 OP (af false 1 h aP) λaX=>
 OP (aj .add x3 aX) λaZ=>
 OP (aj .add j4 (.int .i64 (1))) λaE=>
 ([x0]:List Value)=[x0]/\L1 [aZ,aE] h)
 (ajz P K x3 h)):=aB (by kernel_rfl)
theorem aEO:ajz P K x3 h=
 (K x3 h):=aB (by kernel_rfl)
def Mm:Prop:=
 bX [(.int .i64 (0)),(.int .i64 (0))] h λL1 xs hx=>
 ajA P K x0 L1 xs hx
theorem e19:au P Gd (aW [.tmp 2] K) (cg [x0]) h=Mm P K x0 h:=by kernel_rfl
theorem f19 {K:VK} {x0:Value} {h:ae} (H:Mm prog K x0 h):ay prog 19 [x0] h K:=
 cC k19 (cE rfl) ((e19 prog K x0 h).mpr H)
end
noncomputable section
variable (v0 x1 x2 aE aC : Value) (h : ae)
def ahs:=cj prog 27 [[],[0,2,10],[10,13],[]]
@[irreducible] def Gn:=cD ahs
@[irreducible] def ZU:=Gn.r.l.r.l
@[irreducible] def av9:=Gn.r.r
@[irreducible] def awa:=ZU.r.l
theorem k27:ahs=some (15,Gn,[.tmp 6]):=by kernel_rfl
def W4 (_P:Program) (K:VK):ax:=aW [.tmp 6] K
def W5:ax:=aH (au P av9 (W4 P K)) (W4 P K)
def aj4:Prop:=aA (au P ZU (W5 P K)) [0,2,10] [v0,x2,aE] h
def SI:Prop:=aA (au P awa (W5 P K)) [10,13] [aE,aC] h
theorem aFu:SI P K aE aC h=
 (OP (bu aE aC (.bool false)) λaP=>
 K aP h):=aB (by kernel_rfl)
theorem aFt:aj4 P K v0 x2 aE h=
 (bQ aE true
 (OP (aj .leq v0 x2) λaC=>
 SI P K aE aC h)
 (SI P K aE undef h)):=aB (by kernel_rfl)
def Mu:Prop:=
 OP (aj .geq v0 x1) λx9=>
 aj4 P K v0 x2 x9 h
theorem e27:au P Gn (aW [.tmp 6] K) (cg [v0,x1,x2]) h=Mu P K v0 x1 x2 h:=by kernel_rfl
theorem f27 {K:VK} {v0 x1 x2:Value} {h:ae} (H:Mu prog K v0 x1 x2 h):ay prog 27 [v0,x1,x2] h K:=
 cC k27 (cE rfl) ((e27 prog K v0 x1 x2 h).mpr H)
end
noncomputable section
variable (x0 i3 x4 x8 aG aC aP aX bH cL aV cB : Value) (L1 : LQ) (xs : List Value) (h : ae)
def aht:=cj prog 28 [[],[0,8],[0,8,11],[],[],[],[],[0,13,14],[15],[],[],[],[0,3,4,13,14,15,25],[0,3,4,13,14,15,25,28],[0,3,4,13,14,15,30],[0,13,14,15,30,35],[],[],[],[],[]]
@[irreducible] def B5:=cD aht
@[irreducible] def ZZ:=B5.r.l.l.r.l
@[irreducible] def awe:=B5.r.l.r
@[irreducible] def Oc:=B5.r.r
@[irreducible] def awf:=ZZ.r.l
@[irreducible] def Gp:=Oc.l.r.l.l
@[irreducible] def awg:=Oc.r
@[irreducible] def ZW:=Gp.r.r.l.l.r.l.r.l
@[irreducible] def awc:=Gp.r.r.l.l.r.r
@[irreducible] def awb:=Gp.r.r.r
@[irreducible] def ZX:=ZW.r.l
@[irreducible] def ZY:=ZX.r.l
@[irreducible] def awd:=ZY.r.l
theorem k28:aht=some (38,B5,[.tmp 2]):=by kernel_rfl
def EY (_P:Program) (K:VK):ax:=aW [.tmp 2] K
def W7:ax:=aH (au P Oc (EY P K)) (EY P K)
def W8:ax:=aH (au P awe (W7 P K)) (W7 P K)
def aqS:ax:=aH (au P awg (EY P K)) (EY P K)
def aqQ:ax:=bC 0 (aqS P K)
def K1:ax:=aH (λf' aQ=>(([0,13,14]:List Nat).map f':List Value)=[x0,aC,aP]/\L1 (([15]:List Nat).map f') aQ) (aqQ P K)
def aqR:ax:=aH (au P awb (K1 P K x0 aC aP L1)) (K1 P K x0 aC aP L1)
def W6:ax:=bC 1 (aqR P K x0 aC aP L1)
def EZ:ax:=aH (au P awc (W6 P K x0 aC aP L1)) (W6 P K x0 aC aP L1)
def aj8:Prop:=aA (au P ZZ (W8 P K)) [0,8] [x0,x8] h
def SL:Prop:=aA (au P awf (W8 P K)) [0,8,11] [x0,x8,aG] h
def aj5:Prop:=aA (au P Gp (K1 P K x0 aC aP L1)) ([0,13,14]++[15]) ([x0,aC,aP]++xs) h
def aj6:Prop:=aA (au P ZW (EZ P K x0 aC aP L1)) [0,3,4,13,14,15,25] [x0,i3,x4,aC,aP,aX,bH] h
def SJ:Prop:=aA (au P ZX (EZ P K x0 aC aP L1)) [0,3,4,13,14,15,25,28] [x0,i3,x4,aC,aP,aX,bH,cL] h
def aj7:Prop:=aA (au P ZY (EZ P K x0 aC aP L1)) [0,3,4,13,14,15,30] [x0,i3,x4,aC,aP,aX,aV] h
def SK:Prop:=aA (au P awd (EZ P K x0 aC aP L1)) [0,13,14,15,30,35] [x0,aC,aP,aX,aV,cB] h
theorem aFB:SL P K x0 x8 aG h=
 (OP (bu x8 (.bool true) aG) λaM=>
 aJ aM
 (K (.bool false) h)
 (OP (aT x0) λaP=>
 bX [(.int .i64 (0))] h λL1 xs hx=>
 aj5 P K x0 x0 aP L1 xs hx)):=aB (by kernel_rfl)
theorem aFA:aj8 P K x0 x8 h=
 (bQ x8 false
 (OP (aT x0) λaE=>
 OP (aj .gtr aE (.int .i64 (8))) λaG=>
 SL P K x0 x8 aG h)
 (SL P K x0 x8 undef h)):=aB (by kernel_rfl)
theorem aFz:SK P K x0 aC aP aX aV cB L1 h=
 (OP (bu aV (.bool true) cB) λaY=>
 aJ aY
 (K (.bool false) h)
 (OP (aj .add aX (.int .i64 (1))) λbG=>
 ([x0,aC,aP]:List Value)=[x0,aC,aP]/\L1 [bG] h)):=aB (by kernel_rfl)
theorem aFy:aj7 P K x0 i3 x4 aC aP aX aV L1 h=
 (bQ aV false
 (OP (aD 1 x4 i3) λb9=>
 OP (af false 1 h b9) λcA=>
 OP (aj .neq cA (.int .i64 (0))) λcB=>
 SK P K x0 aC aP aX aV cB L1 h)
 (SK P K x0 aC aP aX aV undef L1 h)):=aB (by kernel_rfl)
theorem aFx:SJ P K x0 i3 x4 aC aP aX bH cL L1 h=
 (OP (bu bH (.bool true) cL) λca=>
 aj7 P K x0 i3 x4 aC aP aX ca L1 h):=aB (by kernel_rfl)
theorem aFw:aj6 P K x0 i3 x4 aC aP aX bH L1 h=
 (bQ bH false
 (ay P 50 [x4] h λbO z1=>
 OP (gG .not bO) λcL=>
 SJ P K x0 i3 x4 aC aP aX bH cL L1 z1)
 (SJ P K x0 i3 x4 aC aP aX bH undef L1 h)):=aB (by kernel_rfl)
theorem aFv (x0 aC aP:Value) (L1:LQ) (aX:Value) (h:ae):aj5 P K x0 aC aP L1 [aX] h=
 (OP (aj .lss aX aP) λaZ=>
 aJ aZ
 (OP (aD 1 aC aX) λbA=>
 OP (af false 1 h bA) λaS=>
 OP (aT aS) λaR=>
 OP (aT x0) λbB=>
 OP (aj .neq aR bB) λbm=>
 aj6 P K x0 aX aS aC aP aX bm L1 h)
 (K (.bool true) h)):=aB (by kernel_rfl)
def Mv:Prop:=
 OP (aT x0) λx6=>
 OP (aj .lss x6 (.int .i64 (1))) λx7=>
 aj8 P K x0 x7 h
theorem e28:au P B5 (aW [.tmp 2] K) (cg [x0]) h=Mv P K x0 h:=by kernel_rfl
theorem f28 {K:VK} {x0:Value} {h:ae} (H:Mv prog K x0 h):ay prog 28 [x0] h K:=
 cC k28 (cE rfl) ((e28 prog K x0 h).mpr H)
end
noncomputable section
variable (x0 x4 x6 x7 bz dJ b9 eg cO cP : Value) (L1 L2 : LQ) (xs : List Value) (h : ae)
def ahu:=cj prog 29 [[],[],[0,4],[],[],[],[],[],[],[],[0,4,6,31,32],[7,33],[],[],[],[],[0,4,6,7],[],[0,4,7,42,43],[44],[],[],[],[]]
@[irreducible] def Od:=cD ahu
@[irreducible] def Oe:=Od.r.r.l.l
@[irreducible] def awh:=Oe.l.r.r.r.l.r.l.l
@[irreducible] def Z0:=Oe.l.r.r.r.r
@[irreducible] def Z1:=Z0.l
@[irreducible] def awi:=Z1.r.l.l
theorem k29:ahu=some (59,Od,[.tmp 2,.tmp 3]):=by kernel_rfl
def aqT (_P:Program) (K:VK):ax:=aW [.tmp 2,.tmp 3] K
def aqZ:ax:=bC 0 (aqT P K)
def W9:ax:=aH (λf' aQ=>(([0,4]:List Nat).map f':List Value)=[x0,x4]/\L1 (([]:List Nat).map f') aQ) (aqZ P K)
def E0:ax:=bC 1 (W9 P K x0 x4 L1)
def aqU:ax:=aH (au P Z0 (E0 P K x0 x4 L1)) (E0 P K x0 x4 L1)
def aqV:ax:=bC 2 (aqU P K x0 x4 L1)
def aqW:ax:=aH (λf' aQ=>(([0,4,6,31,32]:List Nat).map f':List Value)=[x0,x4,x6,bz,dJ]/\L2 (([7,33]:List Nat).map f') aQ) (aqV P K x0 x4 L1)
def aqX:ax:=bC 4 (E0 P K x0 x4 L1)
def aqY:ax:=aH (λf' aQ=>(([0,4,7,42,43]:List Nat).map f':List Value)=[x0,x4,x7,eg,cO]/\L2 (([44]:List Nat).map f') aQ) (aqX P K x0 x4 L1)
def akb:Prop:=aA (au P Oe (W9 P K x0 x4 L1)) ([0,4]++[]) ([x0,x4]++xs) h
def aj9:Prop:=aA (au P awh (aqW P K x0 x4 x6 bz dJ L1 L2)) ([0,4,6,31,32]++[7,33]) ([x0,x4,x6,bz,dJ]++xs) h
def SM:Prop:=aA (au P Z1 (E0 P K x0 x4 L1)) [0,4,6,7] [x0,x4,x6,x7] h
def aka:Prop:=aA (au P awi (aqY P K x0 x4 x7 eg cO L1 L2)) ([0,4,7,42,43]++[44]) ([x0,x4,x7,eg,cO]++xs) h
theorem aFC (x0 x4 x6 bz dJ:Value) (L1 L2:LQ) (x7 b9:Value) (h:ae):aj9 P K x0 x4 x6 bz dJ L1 L2 [x7,b9] h=
 (OP (aj .lss b9 dJ) λcA=>
 aJ cA
 (OP (aD 5 bz b9) λcB=>
 OP (af true 5 h cB) λaY=>
 OH (cF 119 [(.int .i64 (0)),(.int .i64 (0)),(.int .i64 (0)),(.int .i64 (0)),(.pointer none)] h) λa9 z1=>
 OH (aU 5 z1 a9 aY) λ_ z2=>
 OP (aF 3 a9) λdH=>
 OP (af false 1 z2 dH) λdW=>
 OP (lI false [x7,dW]) λcI=>
 OP (aj .add b9 (.int .i64 (1))) λcU=>
 ([x0,x4,x6,bz,dJ]:List Value)=[x0,x4,x6,bz,dJ]/\L2 [cI,cU] z2)
 (SM P K x0 x4 x6 x7 L1 h)):=aB (by kernel_rfl)
theorem aFE (x0 x4 x7 eg cO:Value) (L1 L2:LQ) (cP:Value) (h:ae):aka P K x0 x4 x7 eg cO L1 L2 [cP] h=
 (OP (aj .lss cP cO) λdC=>
 aJ dC
 (OP (aD 5 eg cP) λeT=>
 OP (af true 5 h eT) λgn=>
 OH (cF 119 [(.int .i64 (0)),(.int .i64 (0)),(.int .i64 (0)),(.int .i64 (0)),(.pointer none)] h) λNC z1=>
 OH (aU 5 z1 NC gn) λ_ z2=>
 OP (aF 4 NC) λfE=>
 OP (af false 1 z2 fE) λfX=>
 (True)/\
 OP (eJ fX) λiU=>
 OP (af false 1 z2 iU) λer=>
 (True)/\
 OP (aF 2 NC) λfI=>
 OP (af false 1 z2 fI) λfg=>
 (True)/\
 OP (aj .mul fg x7) λfJ=>
 OP (aj .add er fJ) λgX=>
 OP (eJ fX) λfY=>
 OH (aU 1 z2 fY gX) λ_ z3=>
 (True)/\
 OP (aj .add cP (.int .i64 (1))) λfS=>
 ([x0,x4,x7,eg,cO]:List Value)=[x0,x4,x7,eg,cO]/\L2 [fS] z3)
 (([x0,x4]:List Value)=[x0,x4]/\L1 [] h)):=aB (by kernel_rfl)
theorem aFD:SM P K x0 x4 x6 x7 L1 h=
 (OP (aT x6) λcO=>
 bX [(.int .i64 (0))] h λL2 xs hx=>
 aka P K x0 x4 x7 x6 cO L1 L2 xs hx):=aB (by kernel_rfl)
theorem aFF:akb P K x0 x4 L1 [] h=
 (OP (aT x4) λaZ=>
 ay P 53 [x0,x4] h λaS z1=>
 ay P 52 [aZ,aS] z1 λaI z2=>
 OP (cW 0 aI) λaR=>
 OP (cW 1 aI) λbK=>
 OP (oG false bK (.slice none 0 0)) λbm=>
 aJ bm
 (K (.tuple #[x4,aR]) z2)
 (OP (aD 5 bK (.int .i64 (0))) λcL=>
 OP (aF 3 cL) λca=>
 OP (af false 1 z2 ca) λaV=>
 OP (aT bK) λdJ=>
 bX [aV,(.int .i64 (0))] z2 λL2 xs hx=>
 aj9 P K x0 x4 bK bK dJ L1 L2 xs hx)):=aB (by kernel_rfl)
def Mw:Prop:=
 ay P 51 [x0] h λaC z1=>
 bX [] z1 λL1 xs hx=>
 akb P K x0 aC L1 xs hx
theorem e29:au P Od (aW [.tmp 2,.tmp 3] K) (cg [x0]) h=Mw P K x0 h:=by kernel_rfl
theorem f29 {K:VK} {x0:Value} {h:ae} (H:Mw prog K x0 h):ay prog 29 [x0] h K:=
 cC k29 (cE rfl) ((e29 prog K x0 h).mpr H)
end
noncomputable section
variable (a0 x3 x8 x9 aE aP aX aZ : Value) (L1 L2 : LQ) (xs : List Value) (h : ae)
def ahv:=cj prog 30 [[],[],[],[8,9],[3,10],[],[],[],[],[8,9,10,14,15],[3,16],[],[],[],[],[3,8,9,10],[3],[]]
@[irreducible] def Gr:=cD ahv
@[irreducible] def Of:=Gr.r.r.l.r.l.l
@[irreducible] def Z2:=Gr.r.r.r
@[irreducible] def awj:=Of.r.r.l.l.r.r.l.l
@[irreducible] def Z3:=Of.r.r.r
@[irreducible] def awl:=Z2.l
@[irreducible] def awk:=Z3.l
theorem cX:ahv=some (26,Gr,[.tmp 2]):=by kernel_rfl
def K3 (_P:Program) (K:VK):ax:=aW [.tmp 2] K
def aq3:ax:=aH (au P Z2 (K3 P K)) (K3 P K)
def aq4:ax:=bC 0 (aq3 P K)
def E1:ax:=aH (λf' aQ=>(([8,9]:List Nat).map f':List Value)=[x8,x9]/\L1 (([3,10]:List Nat).map f') aQ) (aq4 P K)
def aq5:ax:=aH (au P Z3 (E1 P K x8 x9 L1)) (E1 P K x8 x9 L1)
def aq0:ax:=bC 1 (aq5 P K x8 x9 L1)
def aq1:ax:=bC 2 (aq0 P K x8 x9 L1)
def aq2:ax:=aH (λf' aQ=>(([8,9,10,14,15]:List Nat).map f':List Value)=[x8,x9,aE,aP,aX]/\L2 (([3,16]:List Nat).map f') aQ) (aq1 P K x8 x9 L1)
def akf:Prop:=aA (au P Of (E1 P K x8 x9 L1)) ([8,9]++[3,10]) ([x8,x9]++xs) h
def akc:Prop:=aA (au P awj (aq2 P K x8 x9 aE aP aX L1 L2)) ([8,9,10,14,15]++[3,16]) ([x8,x9,aE,aP,aX]++xs) h
def akd:Prop:=aA (au P awk (E1 P K x8 x9 L1)) [3,8,9,10] [x3,x8,x9,aE] h
def ake:Prop:=aA (au P awl (K3 P K)) [3] [x3] h
theorem aFG (x8 x9 aE aP aX:Value) (L1 L2:LQ) (x3 aZ:Value) (h:ae):akc P K x8 x9 aE aP aX L1 L2 [x3,aZ] h=
 (OP (aj .lss aZ aX) λbM=>
 aJ bM
 (OP (aD 1 aP aZ) λbA=>
 OP (af false 1 h bA) λaS=>
 OP (aj .add x3 aS) λbK=>
 OP (aj .add aZ (.int .i64 (1))) λbB=>
 ([x8,x9,aE,aP,aX]:List Value)=[x8,x9,aE,aP,aX]/\L2 [bK,bB] h)
 (akd P K x3 x8 x9 aE L1 h)):=aB (by kernel_rfl)
theorem aFH:akd P K x3 x8 x9 aE L1 h=
 (OP (aj .add aE (.int .i64 (1))) λbm=>
 ([x8,x9]:List Value)=[x8,x9]/\L1 [x3,bm] h):=aB (by kernel_rfl)
theorem aFJ (x8 x9:Value) (L1:LQ) (x3 aE:Value) (h:ae):akf P K x8 x9 L1 [x3,aE] h=
 (OP (aj .lss aE x9) λaG=>
 aJ aG
 (OP (aD 1 x8 aE) λaM=>
 OP (af false 1 h aM) λaC=>
 OP (aT aC) λaX=>
 bX [x3,(.int .i64 (0))] h λL2 xs hx=>
 akc P K x8 x9 aE aC aX L1 L2 xs hx)
 (ake P K x3 h)):=aB (by kernel_rfl)
theorem aFI:ake P K x3 h=
 (K x3 h):=aB (by kernel_rfl)
def Mx:Prop:=
 OP (aT a0) λx9=>
 bX [(.int .i64 (0)),(.int .i64 (0))] h λL1 xs hx=>
 akf P K a0 x9 L1 xs hx
theorem e30:au P Gr (aW [.tmp 2] K) (cg [a0]) h=Mx P K a0 h:=by kernel_rfl
theorem f30 {K:VK} {a0:Value} {h:ae} (H:Mx prog K a0 h):ay prog 30 [a0] h K:=
 cC cX (cE rfl) ((e30 prog K a0 h).mpr H)
end
noncomputable section
variable (x0 x1 m6 x9 aX aI bK bH b9 cA cB dW cI cU : Value) (L1 L2 : LQ) (xs : List Value) (h : ae)
def ahw:=cj prog 31 [[],[0,1,15],[0,1,15,20],[0,1,22],[0,1,22,25],[],[],[],[],[],[6,33,34],[35],[],[],[],[],[],[6,33,34,35,39,40],[9,41],[],[],[],[],[6,9,33,34,35],[6,33,34,35],[6],[]]
@[irreducible] def B6:=cD ahw
@[irreducible] def Z7:=B6.r.l.l.r.l
@[irreducible] def awo:=B6.r.l.r
@[irreducible] def Og:=B6.r.r
@[irreducible] def Z8:=Z7.r.l
@[irreducible] def Gs:=Og.r.l.r.l.l
@[irreducible] def Z4:=Og.r.r
@[irreducible] def Z9:=Z8.r.l
@[irreducible] def awn:=Gs.r.r.l.l.r.r.l.r.l.l
@[irreducible] def Z6:=Gs.r.r.l.l.r.r.r
@[irreducible] def Z5:=Gs.r.r.r
@[irreducible] def awr:=Z4.l
@[irreducible] def awm:=Z9.r.l
@[irreducible] def awp:=Z6.l
@[irreducible] def awq:=Z5.l
theorem k31:ahw=some (61,B6,[.tmp 4,.tmp 5]):=by kernel_rfl
def BO (_P:Program) (K:VK):ax:=aW [.tmp 4,.tmp 5] K
def Xa:ax:=aH (au P Og (BO P K)) (BO P K)
def E3:ax:=aH (au P awo (Xa P K)) (Xa P K)
def aq6:ax:=aH (au P Z4 (BO P K)) (BO P K)
def aq7:ax:=bC 0 (aq6 P K)
def E2:ax:=aH (λf' aQ=>(([6,33,34]:List Nat).map f':List Value)=[m6,b9,cA]/\L1 (([35]:List Nat).map f') aQ) (aq7 P K)
def aq8:ax:=aH (au P Z5 (E2 P K m6 b9 cA L1)) (E2 P K m6 b9 cA L1)
def K4:ax:=bC 1 (aq8 P K m6 b9 cA L1)
def aq9:ax:=aH (au P Z6 (K4 P K m6 b9 cA L1)) (K4 P K m6 b9 cA L1)
def ara:ax:=bC 2 (aq9 P K m6 b9 cA L1)
def arc:ax:=aH (λf' aQ=>(([6,33,34,35,39,40]:List Nat).map f':List Value)=[m6,b9,cA,cB,dW,cI]/\L2 (([9,41]:List Nat).map f') aQ) (ara P K m6 b9 cA L1)
def akl:Prop:=aA (au P Z7 (E3 P K)) [0,1,15] [x0,x1,aX] h
def SO:Prop:=aA (au P Z8 (E3 P K)) [0,1,15,20] [x0,x1,aX,aI] h
def akm:Prop:=aA (au P Z9 (E3 P K)) [0,1,22] [x0,x1,bK] h
def SN:Prop:=aA (au P awm (E3 P K)) [0,1,22,25] [x0,x1,bK,bH] h
def akg:Prop:=aA (au P Gs (E2 P K m6 b9 cA L1)) ([6,33,34]++[35]) ([m6,b9,cA]++xs) h
def akh:Prop:=aA (au P awn (arc P K m6 b9 cA cB dW cI L1 L2)) ([6,33,34,35,39,40]++[9,41]) ([m6,b9,cA,cB,dW,cI]++xs) h
def aki:Prop:=aA (au P awp (K4 P K m6 b9 cA L1)) [6,9,33,34,35] [m6,x9,b9,cA,cB] h
def akj:Prop:=aA (au P awq (E2 P K m6 b9 cA L1)) [6,33,34,35] [m6,b9,cA,cB] h
def akk:Prop:=aA (au P awr (BO P K)) [6] [m6] h
theorem aFK:SN P K x0 x1 bK bH h=
 (OP (bu bK (.bool true) bH) λbW=>
 aJ bW
 (K (.tuple #[(.pointer none),(.bool false)]) h)
 (OP (aT x0) λcL=>
 OP (eI [(.int .i64 (0)),(.slice none 0 0),(.slice none 0 0),(.slice none 0 0)] [(0,1,cL),(1,1,x0),(2,1,x1)]) λbz=>
 OH (cR 95 h bz) λdJ z1=>
 OP (aT x1) λcA=>
 bX [(.int .i64 (0))] z1 λL1 xs hx=>
 akg P K dJ x1 cA L1 xs hx)):=aB (by kernel_rfl)
theorem aFS:akm P K x0 x1 bK h=
 (bQ bK false
 (ay P 50 [x0] h λbm z1=>
 OP (gG .not bm) λbH=>
 SN P K x0 x1 bK bH z1)
 (SN P K x0 x1 bK undef h)):=aB (by kernel_rfl)
theorem aFR:SO P K x0 x1 aX aI h=
 (OP (bu aX (.bool true) aI) λaR=>
 akm P K x0 x1 aR h):=aB (by kernel_rfl)
theorem aFQ:akl P K x0 x1 aX h=
 (bQ aX false
 (OP (aT x0) λbM=>
 OP (aT x1) λaS=>
 OP (aj .neq bM aS) λaI=>
 SO P K x0 x1 aX aI h)
 (SO P K x0 x1 aX undef h)):=aB (by kernel_rfl)
theorem aFM (m6 b9 cA cB dW cI:Value) (L1 L2:LQ) (x9 cU:Value) (h:ae):akh P K m6 b9 cA cB dW cI L1 L2 [x9,cU] h=
 (OP (aj .lss cU cI) λeg=>
 aJ eg
 (OP (aD 1 dW cU) λcO=>
 OP (af false 1 h cO) λcP=>
 OP (aj .add x9 cP) λgn=>
 OP (aj .add cU (.int .i64 (1))) λfE=>
 ([m6,b9,cA,cB,dW,cI]:List Value)=[m6,b9,cA,cB,dW,cI]/\L2 [gn,fE] h)
 (aki P K m6 x9 b9 cA cB L1 h)):=aB (by kernel_rfl)
theorem aFN:aki P K m6 x9 b9 cA cB L1 h=
 (OP (eJ m6) λer=>
 OP (aF 3 er) λfI=>
 OP (af false 1 h fI) λfg=>
 OH (cH 3 1 [(.int .i64 (0))] h [(0,1,x9)]) λfJ z1=>
 OH (cT 3 1 8 z1 fg fJ) λgX z2=>
 OP (eJ m6) λfY=>
 OP (aF 3 fY) λfS=>
 OH (aU 1 z2 fS gX) λ_ z3=>
 akj P K m6 b9 cA cB L1 z3):=aB (by kernel_rfl)
theorem aFO:akj P K m6 b9 cA cB L1 h=
 (OP (aj .add cB (.int .i64 (1))) λiZ=>
 ([m6,b9,cA]:List Value)=[m6,b9,cA]/\L1 [iZ] h):=aB (by kernel_rfl)
theorem aFL (m6 b9 cA:Value) (L1:LQ) (cB:Value) (h:ae):akg P K m6 b9 cA L1 [cB] h=
 (OP (aj .lss cB cA) λaY=>
 aJ aY
 (OP (aD 1 b9 cB) λbG=>
 OP (af false 1 h bG) λdH=>
 OP (aT dH) λcI=>
 bX [(.int .i64 (0)),(.int .i64 (0))] h λL2 xs hx=>
 akh P K m6 b9 cA cB dH cI L1 L2 xs hx)
 (akk P K m6 h)):=aB (by kernel_rfl)
theorem aFP:akk P K m6 h=
 (K (.tuple #[m6,(.bool true)]) h):=aB (by kernel_rfl)
def My:Prop:=
 ay P 28 [x1] h λaC z1=>
 OP (gG .not aC) λaP=>
 akl P K x0 x1 aP z1
theorem e31:au P B6 (aW [.tmp 4,.tmp 5] K) (cg [x0,x1]) h=My P K x0 x1 h:=by kernel_rfl
theorem f31 {K:VK} {x0 x1:Value} {h:ae} (H:My prog K x0 x1 h):ay prog 31 [x0,x1] h K:=
 cC k31 (cE rfl) ((e31 prog K x0 x1 h).mpr H)
end
noncomputable section
variable (m0 x4 x5 x6 x7 x8 ca aV hZ kf : Value) (L1 L2 : LQ) (xs : List Value) (h : ae)
def ahx:=cj prog 32 [[],[],[],[0,4,5],[6],[],[],[],[0,4,5,6,7,29],[8,30],[],[],[],[],[0,4,5,6,7,8,29,30],[0,4,5,6,7,8],[],[],[],[],[0,4,5,6,8,63,64],[65],[],[],[],[],[0,4,5,6,8]]
@[irreducible] def Oh:=cD ahx
@[irreducible] def Oj:=Oh.r.r.r.l.l
@[irreducible] def aaa:=Oj.l.r.r.l.r.l.l
@[irreducible] def aac:=Oj.l.r.r.r
@[irreducible] def aws:=aaa.r.r.r.l
@[irreducible] def Oi:=aac.l
@[irreducible] def awt:=Oi.r.l.r.l.l
@[irreducible] def aab:=Oi.r.r
@[irreducible] def aMh:=aab.l
theorem k32:ahx=some (77,Oh,[.tmp 2,.tmp 3]):=by kernel_rfl
def ard (_P:Program) (K:VK):ax:=aW [.tmp 2,.tmp 3] K
def ark:ax:=bC 0 (ard P K)
def Xc:ax:=aH (λf' aQ=>(([0,4,5]:List Nat).map f':List Value)=[m0,x4,x5]/\L1 (([6]:List Nat).map f') aQ) (ark P K)
def BP:ax:=bC 1 (Xc P K m0 x4 x5 L1)
def arl:ax:=aH (au P aac (BP P K m0 x4 x5 L1)) (BP P K m0 x4 x5 L1)
def arf:ax:=bC 2 (arl P K m0 x4 x5 L1)
def Xb:ax:=aH (λf' aQ=>(([0,4,5,6,7,29]:List Nat).map f':List Value)=[m0,x4,x5,x6,x7,ca]/\L2 (([8,30]:List Nat).map f') aQ) (arf P K m0 x4 x5 L1)
def arh:ax:=aH (au P aab (BP P K m0 x4 x5 L1)) (BP P K m0 x4 x5 L1)
def ari:ax:=bC 4 (arh P K m0 x4 x5 L1)
def arj:ax:=aH (λf' aQ=>(([0,4,5,6,8,63,64]:List Nat).map f':List Value)=[m0,x4,x5,x6,x8,hZ,kf]/\L2 (([65]:List Nat).map f') aQ) (ari P K m0 x4 x5 L1)
def akp:Prop:=aA (au P Oj (Xc P K m0 x4 x5 L1)) ([0,4,5]++[6]) ([m0,x4,x5]++xs) h
def akn:Prop:=aA (au P aaa (Xb P K m0 x4 x5 x6 x7 ca L1 L2)) ([0,4,5,6,7,29]++[8,30]) ([m0,x4,x5,x6,x7,ca]++xs) h
def DE:Prop:=aA (au P aws (Xb P K m0 x4 x5 x6 x7 ca L1 L2)) [0,4,5,6,7,8,29,30] [m0,x4,x5,x6,x7,x8,ca,aV] h
def ako:Prop:=aA (au P Oi (BP P K m0 x4 x5 L1)) [0,4,5,6,7,8] [m0,x4,x5,x6,x7,x8] h
def aDs:Prop:=aA (au P awt (arj P K m0 x4 x5 x6 x8 hZ kf L1 L2)) ([0,4,5,6,8,63,64]++[65]) ([m0,x4,x5,x6,x8,hZ,kf]++xs) h
theorem aFU:DE P K m0 x4 x5 x6 x7 x8 ca aV L1 L2 h=
 (OP (aj .add aV (.int .i64 (1))) λfS=>
 ([m0,x4,x5,x6,x7,ca]:List Value)=[m0,x4,x5,x6,x7,ca]/\L2 [x8,fS] h):=aB (by kernel_rfl)
theorem aFT (m0 x4 x5 x6 x7 ca:Value) (L1 L2:LQ) (x8 aV:Value) (h:ae):akn P K m0 x4 x5 x6 x7 ca L1 L2 [x8,aV] h=
 (OP (aj .lss aV ca) λbz=>
 aJ bz
 (OP (aD 1 x4 aV) λcB=>
 OP (af false 1 h cB) λaY=>
 (True)/\
 OP (gG .not aY) λbG=>
 bQ bG true
 (ay P 38 [m0,aV,x7] h λeg z1=>
 (True)/\
 OP (eJ m0) λcP=>
 OP (aF 3 cP) λdC=>
 OP (af false 1 z1 dC) λeT=>
 (af false 1 h dC=some eT/\True)/\
 OP (aD 1 eT aV) λfE=>
 OP (af false 1 z1 fE) λfX=>
 (af false 1 h fE=some fX/\True)/\
 ay P 34 [fX] z1 λiU z2=>
 (True)/\
 ay P 37 [eg,iU] z2 λer z3=>
 (True)/\
 OP (aj .lss er (.int .i64 (0))) λfI=>
 OP (bu bG fI (.bool false)) λfg=>
 aJ fg
 (OH (cH 3 1 [(.int .i64 (0))] z3 [(0,1,aV)]) λgX z4=>
 OH (cT 3 1 8 z4 x8 gX) λfY z5=>
 DE P K m0 x4 x5 x6 x7 fY ca aV L1 L2 z5)
 (DE P K m0 x4 x5 x6 x7 x8 ca aV L1 L2 z3))
 ((True)/\
 (True)/\
 (True)/\
 OP (bu bG undef (.bool false)) λfg=>
 aJ fg
 (OH (cH 3 1 [(.int .i64 (0))] h [(0,1,aV)]) λgX z1=>
 OH (cT 3 1 8 z1 x8 gX) λfY z2=>
 DE P K m0 x4 x5 x6 x7 fY ca aV L1 L2 z2)
 (DE P K m0 x4 x5 x6 x7 x8 ca aV L1 L2 h)))
 (ako P K m0 x4 x5 x6 x7 x8 L1 h)):=aB (by kernel_rfl)
theorem aFV:ako P K m0 x4 x5 x6 x7 x8 L1 h=
 (OP (oG false x8 (.slice none 0 0)) λgL=>
 aJ gL
 (K (.tuple #[x6,x7]) h)
 (OP (aT x8) λkf=>
 bX [(.int .i64 (0))] h λL2 xs hx=>
 aDs P K m0 x4 x5 x6 x8 x8 kf L1 L2 xs hx)):=aB (by kernel_rfl)
theorem aFW (m0 x4 x5:Value) (L1:LQ) (x6:Value) (h:ae):akp P K m0 x4 x5 L1 [x6] h=
 (ay P 54 [m0,x4,x5] h λbH z1=>
 OP (eJ m0) λbO=>
 OP (aF 0 bO) λcL=>
 OP (af false 1 z1 cL) λca=>
 bX [(.slice none 0 0),(.int .i64 (0))] z1 λL2 xs hx=>
 akn P K m0 x4 x5 x6 bH ca L1 L2 xs hx):=aB (by kernel_rfl)
def Mz:Prop:=
 OP (eJ m0) λaC=>
 OP (aF 0 aC) λaP=>
 OP (af false 1 h aP) λaX=>
 (True)/\
 OH (eM 4 1 [(.bool false)] h aX aX) λaZ z1=>
 OP (eB z1 aZ) λu=>
 (True)/\
 OP (eJ m0) λbA=>
 OP (aF 0 bA) λaS=>
 OP (af false 1 z1 aS) λaI=>
 (af false 1 h aS=some aI/\True)/\
 OH (eM 4 1 [(.bool false)] z1 aI aI) λaR z2=>
 OP (eB z2 aR) λx1=>
 (af false 1 z2 aP=some aX/\eB z2 aZ=some u/\True)/\
 bX [(.slice none 0 0)] z2 λL1 xs hx=>
 akp P K m0 aZ aR L1 xs hx
theorem e32:au P Oh (aW [.tmp 2,.tmp 3] K) (cg [m0]) h=Mz P K m0 h:=by kernel_rfl
theorem f32 {K:VK} {m0:Value} {h:ae} (H:Mz prog K m0 h):ay prog 32 [m0] h K:=
 cC k32 (cE rfl) ((e32 prog K m0 h).mpr H)
end
noncomputable section
variable (l0 x4 x9 aE aG : Value) (L1 : LQ) (xs : List Value) (h : ae)
def ahy:=cj prog 33 [[],[],[],[9,10],[4,11],[],[],[],[],[],[],[],[],[4],[]]
@[irreducible] def Gt:=cD ahy
@[irreducible] def awv:=Gt.r.r.l.r.l.l
@[irreducible] def aad:=Gt.r.r.r
@[irreducible] def awu:=aad.l
theorem k33:ahy=some (29,Gt,[.tmp 2,.tmp 3]):=by kernel_rfl
def K5 (_P:Program) (K:VK):ax:=aW [.tmp 2,.tmp 3] K
def arn:ax:=aH (au P aad (K5 P K)) (K5 P K)
def aro:ax:=bC 0 (arn P K)
def arp:ax:=aH (λf' aQ=>(([9,10]:List Nat).map f':List Value)=[x9,aE]/\L1 (([4,11]:List Nat).map f') aQ) (aro P K)
def akr:Prop:=aA (au P awv (arp P K x9 aE L1)) ([9,10]++[4,11]) ([x9,aE]++xs) h
def akq:Prop:=aA (au P awu (K5 P K)) [4] [x4] h
theorem aFY (x9 aE:Value) (L1:LQ) (x4 aG:Value) (h:ae):akr P K x9 aE L1 [x4,aG] h=
 (OP (aj .lss aG aE) λaM=>
 aJ aM
 (OP (aD 4 x9 aG) λaC=>
 OP (af true 4 h aC) λaP=>
 OH (cF 92 [(.bool false),(.slice none 0 0),(.bool false),(.slice none 0 0)] h) λx6 z1=>
 OH (aU 4 z1 x6 aP) λ_ z2=>
 OP (af true 4 z2 x6) λaZ=>
 ay P 55 [aZ] z2 λbM z3=>
 OP (cW 0 bM) λbA=>
 OP (cW 1 bM) λaS=>
 OP (aj .neq aS (.int .i64 (0))) λaR=>
 aJ aR
 (K (.tuple #[(.slice none 0 0),aS]) z3)
 (OH (cH 53 1 [(.string ⟨#[]⟩)] z3 [(0,1,bA)]) λbH z4=>
 OH (cT 53 1 16 z4 x4 bH) λbW z5=>
 OP (aj .add aG (.int .i64 (1))) λbO=>
 ([x9,aE]:List Value)=[x9,aE]/\L1 [bW,bO] z5))
 (akq P K x4 h)):=aB (by kernel_rfl)
theorem aFX:akq P K x4 h=
 (K (.tuple #[x4,(.int .i64 (0))]) h):=aB (by kernel_rfl)
def MA:Prop:=
 OP (aT l0) λaE=>
 bX [(.slice none 0 0),(.int .i64 (0))] h λL1 xs hx=>
 akr P K l0 aE L1 xs hx
theorem e33:au P Gt (aW [.tmp 2,.tmp 3] K) (cg [l0]) h=MA P K l0 h:=by kernel_rfl
theorem f33 {K:VK} {l0:Value} {h:ae} (H:MA prog K l0 h):ay prog 33 [l0] h K:=
 cC k33 (cE rfl) ((e33 prog K l0 h).mpr H)
end
noncomputable section
variable (m0 fZ x5 x6 x7 x8 i9 aE i11 nI i13 aY bG cI cU gn er gw fJ fT kZ cJ dB eC eP nL pH fH dV nh mf hT ke mJ gK : Value) (L1 L2 L3 : LQ) (xs : List Value) (h : ae)
def ahA:=cj prog 35 [[],[],[],[],[0,1,5,6,7,8,36],[37],[],[],[],[0,1,5,6,7,8,9,36,37,40,41,47],[0,1,5,6,7,8,9,36,37,40,41,47,51],[],[0,1,5,6,7,8,9,36,37,54,55,61],[0,1,5,6,7,8,9,36,37,54,55,61,66],[],[],[0,6,7,8],[],[0,6,7,8],[10],[],[],[],[],[0,6,7,8,81],[10,82],[],[],[],[],[0,6,7,8,11,81,82,88],[10,89],[],[],[],[0,6,7,8,10,11,12,81,82,88,89,96],[0,6,7,8,10,11,12,81,82,88,89,96,101],[0,6,7,8,10,11,12,81,82,88,89,103],[0,6,7,8,10,11,12,81,82,88,89,103,114],[0,6,7,8,10,11,12,81,82,88,89,116],[0,6,7,8,10,11,81,82,88,89,116,120],[],[0,6,7,8,10,11,81,82,88,89],[0,6,7,8,10,81,82],[0,6,7,8],[],[0,6,7,8,130],[131],[],[],[],[0,6,7,8,13,130,131,138],[0,6,7,8,130,131,138,143],[],[],[],[0,6,7],[],[],[],[],[]]
@[irreducible] def xX:=cD ahA
@[irreducible] def Gw:=xX.r.r.r.l.r.l.l
@[irreducible] def aak:=xX.r.r.r.r
@[irreducible] def aaf:=Gw.r.r.l.l.r.l.r.l
@[irreducible] def Ol:=Gw.r.r.l.l.r.r
@[irreducible] def aww:=Gw.r.r.r
@[irreducible] def Om:=aak.l
@[irreducible] def awx:=aaf.r.l
@[irreducible] def aag:=Ol.l.r.l
@[irreducible] def awy:=Ol.r
@[irreducible] def aai:=Om.l.r.l.l
@[irreducible] def aah:=Om.r
@[irreducible] def awz:=aag.r.l
@[irreducible] def On:=aai.r.l.r.r.l.l
@[irreducible] def Oo:=aah.l
@[irreducible] def Gu:=On.r.r.l.l.r.r.l.l
@[irreducible] def aaj:=On.r.r.r
@[irreducible] def Gv:=Oo.l.r.l.l
@[irreducible] def aar:=Oo.r
@[irreducible] def aam:=Gu.r.r.l.l.r.l.r.l
@[irreducible] def awA:=Gu.r.r.l.l.r.r
@[irreducible] def aal:=Gu.r.r.r
@[irreducible] def awD:=aaj.l
@[irreducible] def aas:=Gv.r.r.l.l.r.l.r.l
@[irreducible] def awF:=Gv.r.r.l.l.r.r
@[irreducible] def awE:=Gv.r.r.r
@[irreducible] def awH:=aar.l
@[irreducible] def aan:=aam.r.l
@[irreducible] def awC:=aal.l
@[irreducible] def awG:=aas.r.l
@[irreducible] def aao:=aan.r.l
@[irreducible] def aap:=aao.r.l
@[irreducible] def aaq:=aap.r.l
@[irreducible] def awB:=aaq.r.l
theorem k35:ahA=some (154,xX,[.tmp 4]):=by kernel_rfl
def uw (_P:Program) (K:VK):ax:=aW [.tmp 4] K
def ary:ax:=aH (au P aak (uw P K)) (uw P K)
def arB:ax:=bC 0 (ary P K)
def K7:ax:=aH (λf' aQ=>(([0,1,5,6,7,8,36]:List Nat).map f':List Value)=[m0,fZ,x5,x6,x7,x8,aY]/\L1 (([37]:List Nat).map f') aQ) (arB P K)
def arq:ax:=aH (au P aww (K7 P K m0 fZ x5 x6 x7 x8 aY L1)) (K7 P K m0 fZ x5 x6 x7 x8 aY L1)
def E4:ax:=bC 1 (arq P K m0 fZ x5 x6 x7 x8 aY L1)
def Xd:ax:=aH (au P Ol (E4 P K m0 fZ x5 x6 x7 x8 aY L1)) (E4 P K m0 fZ x5 x6 x7 x8 aY L1)
def Xe:ax:=aH (au P awy (E4 P K m0 fZ x5 x6 x7 x8 aY L1)) (E4 P K m0 fZ x5 x6 x7 x8 aY L1)
def ars:ax:=aH (au P aah (uw P K)) (uw P K)
def art:ax:=bC 2 (ars P K)
def Xf:ax:=aH (λf' aQ=>(([0,6,7,8]:List Nat).map f':List Value)=[m0,x6,x7,x8]/\L1 (([10]:List Nat).map f') aQ) (art P K)
def aru:ax:=bC 3 (Xf P K m0 x6 x7 x8 L1)
def arv:ax:=bC 4 (aru P K m0 x6 x7 x8 L1)
def E5:ax:=aH (λf' aQ=>(([0,6,7,8,81]:List Nat).map f':List Value)=[m0,x6,x7,x8,cJ]/\L2 (([10,82]:List Nat).map f') aQ) (arv P K m0 x6 x7 x8 L1)
def arw:ax:=aH (au P aaj (E5 P K m0 x6 x7 x8 cJ L1 L2)) (E5 P K m0 x6 x7 x8 cJ L1 L2)
def arx:ax:=bC 5 (arw P K m0 x6 x7 x8 cJ L1 L2)
def arz:ax:=bC 6 (arx P K m0 x6 x7 x8 cJ L1 L2)
def E6:ax:=aH (λf' aQ=>(([0,6,7,8,11,81,82,88]:List Nat).map f':List Value)=[m0,x6,x7,x8,i11,cJ,dB,eC]/\L3 (([10,89]:List Nat).map f') aQ) (arz P K m0 x6 x7 x8 cJ L1 L2)
def arA:ax:=aH (au P aal (E6 P K m0 x6 x7 x8 i11 cJ dB eC L1 L2 L3)) (E6 P K m0 x6 x7 x8 i11 cJ dB eC L1 L2 L3)
def Xg:ax:=bC 7 (arA P K m0 x6 x7 x8 i11 cJ dB eC L1 L2 L3)
def Ai:ax:=aH (au P awA (Xg P K m0 x6 x7 x8 i11 cJ dB eC L1 L2 L3)) (Xg P K m0 x6 x7 x8 i11 cJ dB eC L1 L2 L3)
def arC:ax:=aH (au P aar (uw P K)) (uw P K)
def arD:ax:=bC 8 (arC P K)
def K6:ax:=aH (λf' aQ=>(([0,6,7,8,130]:List Nat).map f':List Value)=[m0,x6,x7,x8,hT]/\L1 (([131]:List Nat).map f') aQ) (arD P K)
def arE:ax:=aH (au P awE (K6 P K m0 x6 x7 x8 hT L1)) (K6 P K m0 x6 x7 x8 hT L1)
def Xh:ax:=bC 9 (arE P K m0 x6 x7 x8 hT L1)
def Xi:ax:=aH (au P awF (Xh P K m0 x6 x7 x8 hT L1)) (Xh P K m0 x6 x7 x8 hT L1)
def akz:Prop:=aA (au P Gw (K7 P K m0 fZ x5 x6 x7 x8 aY L1)) ([0,1,5,6,7,8,36]++[37]) ([m0,fZ,x5,x6,x7,x8,aY]++xs) h
def aks:Prop:=aA (au P aaf (Xd P K m0 fZ x5 x6 x7 x8 aY L1)) [0,1,5,6,7,8,9,36,37,40,41,47] [m0,fZ,x5,x6,x7,x8,i9,aY,bG,cI,cU,gn] h
def SP:Prop:=aA (au P awx (Xd P K m0 fZ x5 x6 x7 x8 aY L1)) [0,1,5,6,7,8,9,36,37,40,41,47,51] [m0,fZ,x5,x6,x7,x8,i9,aY,bG,cI,cU,gn,er] h
def SQ:Prop:=aA (au P aag (Xe P K m0 fZ x5 x6 x7 x8 aY L1)) [0,1,5,6,7,8,9,36,37,54,55,61] [m0,fZ,x5,x6,x7,x8,i9,aY,bG,gw,fJ,fT] h
def DG:Prop:=aA (au P awz (Xe P K m0 fZ x5 x6 x7 x8 aY L1)) [0,1,5,6,7,8,9,36,37,54,55,61,66] [m0,fZ,x5,x6,x7,x8,i9,aY,bG,gw,fJ,fT,kZ] h
def SR:Prop:=aA (au P Om (uw P K)) [0,6,7,8] [m0,x6,x7,x8] h
def akt:Prop:=aA (au P aai (Xf P K m0 x6 x7 x8 L1)) ([0,6,7,8]++[10]) ([m0,x6,x7,x8]++xs) h
def aku:Prop:=aA (au P On (E5 P K m0 x6 x7 x8 cJ L1 L2)) ([0,6,7,8,81]++[10,82]) ([m0,x6,x7,x8,cJ]++xs) h
def akv:Prop:=aA (au P Gu (E6 P K m0 x6 x7 x8 i11 cJ dB eC L1 L2 L3)) ([0,6,7,8,11,81,82,88]++[10,89]) ([m0,x6,x7,x8,i11,cJ,dB,eC]++xs) h
def akw:Prop:=aA (au P aam (Ai P K m0 x6 x7 x8 i11 cJ dB eC L1 L2 L3)) [0,6,7,8,10,11,12,81,82,88,89,96] [m0,x6,x7,x8,aE,i11,nI,cJ,dB,eC,eP,nL] h
def SS:Prop:=aA (au P aan (Ai P K m0 x6 x7 x8 i11 cJ dB eC L1 L2 L3)) [0,6,7,8,10,11,12,81,82,88,89,96,101] [m0,x6,x7,x8,aE,i11,nI,cJ,dB,eC,eP,nL,pH] h
def SU:Prop:=aA (au P aao (Ai P K m0 x6 x7 x8 i11 cJ dB eC L1 L2 L3)) [0,6,7,8,10,11,12,81,82,88,89,103] [m0,x6,x7,x8,aE,i11,nI,cJ,dB,eC,eP,fH] h
def SV:Prop:=aA (au P aap (Ai P K m0 x6 x7 x8 i11 cJ dB eC L1 L2 L3)) [0,6,7,8,10,11,12,81,82,88,89,103,114] [m0,x6,x7,x8,aE,i11,nI,cJ,dB,eC,eP,fH,dV] h
def SX:Prop:=aA (au P aaq (Ai P K m0 x6 x7 x8 i11 cJ dB eC L1 L2 L3)) [0,6,7,8,10,11,12,81,82,88,89,116] [m0,x6,x7,x8,aE,i11,nI,cJ,dB,eC,eP,nh] h
def SY:Prop:=aA (au P awB (Ai P K m0 x6 x7 x8 i11 cJ dB eC L1 L2 L3)) [0,6,7,8,10,11,81,82,88,89,116,120] [m0,x6,x7,x8,aE,i11,cJ,dB,eC,eP,nh,mf] h
def DH:Prop:=aA (au P awC (E6 P K m0 x6 x7 x8 i11 cJ dB eC L1 L2 L3)) [0,6,7,8,10,11,81,82,88,89] [m0,x6,x7,x8,aE,i11,cJ,dB,eC,eP] h
def akx:Prop:=aA (au P awD (E5 P K m0 x6 x7 x8 cJ L1 L2)) [0,6,7,8,10,81,82] [m0,x6,x7,x8,aE,cJ,dB] h
def SZ:Prop:=aA (au P Oo (uw P K)) [0,6,7,8] [m0,x6,x7,x8] h
def aky:Prop:=aA (au P Gv (K6 P K m0 x6 x7 x8 hT L1)) ([0,6,7,8,130]++[131]) ([m0,x6,x7,x8,hT]++xs) h
def akA:Prop:=aA (au P aas (Xi P K m0 x6 x7 x8 hT L1)) [0,6,7,8,13,130,131,138] [m0,x6,x7,x8,i13,hT,ke,mJ] h
def S3:Prop:=aA (au P awG (Xi P K m0 x6 x7 x8 hT L1)) [0,6,7,8,130,131,138,143] [m0,x6,x7,x8,hT,ke,mJ,gK] h
def akB:Prop:=aA (au P awH (uw P K)) [0,6,7] [m0,x6,x7] h
theorem am1:SP P K m0 fZ x5 x6 x7 x8 i9 aY bG cI cU gn er L1 h=
 (OP (bu gn er (.bool false)) λfI=>
 OP (aD 1 cI cU) λfg=>
 OH (aU 1 h fg fI) λ_ z1=>
 OP (aD 1 fZ i9) λfS=>
 OP (af false 1 z1 fS) λiZ=>
 OP (gG .not iZ) λgL=>
 SQ P K m0 fZ x5 x6 x7 x8 i9 aY bG x7 i9 gL L1 z1):=aB (by kernel_rfl)
theorem aFZ:aks P K m0 fZ x5 x6 x7 x8 i9 aY bG cI cU gn L1 h=
 (bQ gn true
 (OP (aD 1 x5 i9) λiU=>
 OP (af false 1 h iU) λer=>
 SP P K m0 fZ x5 x6 x7 x8 i9 aY bG cI cU gn er L1 h)
 (SP P K m0 fZ x5 x6 x7 x8 i9 aY bG cI cU gn undef L1 h)):=aB (by kernel_rfl)
theorem am2:DG P K m0 fZ x5 x6 x7 x8 i9 aY bG gw fJ fT kZ L1 h=
 (OP (bu fT kZ (.bool false)) λgy=>
 OP (aD 1 gw fJ) λfA=>
 OH (aU 1 h fA gy) λ_ z1=>
 OP (aD 1 fZ i9) λlh=>
 OP (af false 1 z1 lh) λiW=>
 OP (aD 1 x8 i9) λfF=>
 OH (aU 1 z1 fF iW) λ_ z2=>
 OP (aj .add bG (.int .i64 (1))) λiM=>
 ([m0,fZ,x5,x6,x7,x8,aY]:List Value)=[m0,fZ,x5,x6,x7,x8,aY]/\L1 [iM] z2):=aB (by kernel_rfl)
theorem aF0:SQ P K m0 fZ x5 x6 x7 x8 i9 aY bG gw fJ fT L1 h=
 (bQ fT true
 (OP (aD 1 x5 i9) λkf=>
 OP (af false 1 h kf) λjA=>
 OP (gG .not jA) λkZ=>
 DG P K m0 fZ x5 x6 x7 x8 i9 aY bG gw fJ fT kZ L1 h)
 (DG P K m0 fZ x5 x6 x7 x8 i9 aY bG gw fJ fT undef L1 h)):=aB (by kernel_rfl)
theorem aGc (m0 fZ x5 x6 x7 x8 aY:Value) (L1:LQ) (bG:Value) (h:ae):akz P K m0 fZ x5 x6 x7 x8 aY L1 [bG] h=
 (OP (aj .lss bG aY) λdH=>
 aJ dH
 (OP (aD 1 fZ bG) λcP=>
 OP (af false 1 h cP) λdC=>
 OP (gG .not dC) λeT=>
 aks P K m0 fZ x5 x6 x7 x8 bG aY bG x6 bG eT L1 h)
 (SR P K m0 x6 x7 x8 h)):=aB (by kernel_rfl)
theorem am5:SY P K m0 x6 x7 x8 aE i11 cJ dB eC eP nh mf L1 L2 L3 h=
 (OP (bu nh mf (.bool false)) λvV=>
 aJ vV
 (OP (aD 1 x8 i11) λqG=>
 OH (aU 1 h qG (.bool true)) λ_ z1=>
 DH P K m0 x6 x7 x8 (.bool true) i11 cJ dB eC eP L1 L2 L3 z1)
 (DH P K m0 x6 x7 x8 aE i11 cJ dB eC eP L1 L2 L3 h)):=aB (by kernel_rfl)
theorem aF7:SX P K m0 x6 x7 x8 aE i11 nI cJ dB eC eP nh L1 L2 L3 h=
 (bQ nh true
 (OP (aD 1 x8 nI) λuj=>
 OP (af false 1 h uj) λmf=>
 SY P K m0 x6 x7 x8 aE i11 cJ dB eC eP nh mf L1 L2 L3 h)
 (SY P K m0 x6 x7 x8 aE i11 cJ dB eC eP nh undef L1 L2 L3 h)):=aB (by kernel_rfl)
theorem am4:SV P K m0 x6 x7 x8 aE i11 nI cJ dB eC eP fH dV L1 L2 L3 h=
 (OP (bu fH dV (.bool false)) λui=>
 SX P K m0 x6 x7 x8 aE i11 nI cJ dB eC eP ui L1 L2 L3 h):=aB (by kernel_rfl)
theorem aF6:SU P K m0 x6 x7 x8 aE i11 nI cJ dB eC eP fH L1 L2 L3 h=
 (bQ fH true
 (OP (eJ m0) λvT=>
 OP (aF 2 vT) λBC=>
 OP (af false 1 h BC) λpI=>
 OP (aD 1 pI i11) λjT=>
 OP (af false 1 h jT) λiT=>
 OP (aD 1 iT nI) λsO=>
 OP (af false 1 h sO) λvU=>
 OP (aj .gtr vU (.int .i64 (0))) λdV=>
 SV P K m0 x6 x7 x8 aE i11 nI cJ dB eC eP fH dV L1 L2 L3 h)
 (SV P K m0 x6 x7 x8 aE i11 nI cJ dB eC eP fH undef L1 L2 L3 h)):=aB (by kernel_rfl)
theorem am3:SS P K m0 x6 x7 x8 aE i11 nI cJ dB eC eP nL pH L1 L2 L3 h=
 (OP (bu nL pH (.bool false)) λgJ=>
 SU P K m0 x6 x7 x8 aE i11 nI cJ dB eC eP gJ L1 L2 L3 h):=aB (by kernel_rfl)
theorem aF5:akw P K m0 x6 x7 x8 aE i11 nI cJ dB eC eP nL L1 L2 L3 h=
 (bQ nL true
 (OP (aD 1 x8 i11) λnM=>
 OP (af false 1 h nM) λpG=>
 OP (gG .not pG) λpH=>
 SS P K m0 x6 x7 x8 aE i11 nI cJ dB eC eP nL pH L1 L2 L3 h)
 (SS P K m0 x6 x7 x8 aE i11 nI cJ dB eC eP nL undef L1 L2 L3 h)):=aB (by kernel_rfl)
theorem aF8:DH P K m0 x6 x7 x8 aE i11 cJ dB eC eP L1 L2 L3 h=
 (OP (aj .add eP (.int .i64 (1))) λzQ=>
 ([m0,x6,x7,x8,i11,cJ,dB,eC]:List Value)=[m0,x6,x7,x8,i11,cJ,dB,eC]/\L3 [aE,zQ] h):=aB (by kernel_rfl)
theorem aF4 (m0 x6 x7 x8 i11 cJ dB eC:Value) (L1 L2 L3:LQ) (aE eP:Value) (h:ae):akv P K m0 x6 x7 x8 i11 cJ dB eC L1 L2 L3 [aE,eP] h=
 (OP (aj .lss eP eC) λkH=>
 aJ kH
 (OP (aD 1 x6 i11) λfc=>
 OP (af false 1 h fc) λfv=>
 akw P K m0 x6 x7 x8 aE i11 eP cJ dB eC eP fv L1 L2 L3 h)
 (akx P K m0 x6 x7 x8 aE cJ dB L1 L2 h)):=aB (by kernel_rfl)
theorem aF9:akx P K m0 x6 x7 x8 aE cJ dB L1 L2 h=
 (OP (aj .add dB (.int .i64 (1))) λoV=>
 ([m0,x6,x7,x8,cJ]:List Value)=[m0,x6,x7,x8,cJ]/\L2 [aE,oV] h):=aB (by kernel_rfl)
theorem aF3 (m0 x6 x7 x8 cJ:Value) (L1 L2:LQ) (aE dB:Value) (h:ae):aku P K m0 x6 x7 x8 cJ L1 L2 [aE,dB] h=
 (OP (aj .lss dB cJ) λgY=>
 aJ gY
 (OP (eJ m0) λjW=>
 OP (aF 0 jW) λkh=>
 OP (af false 1 h kh) λeC=>
 bX [aE,(.int .i64 (0))] h λL3 xs hx=>
 akv P K m0 x6 x7 x8 dB cJ dB eC L1 L2 L3 xs hx)
 (([m0,x6,x7,x8]:List Value)=[m0,x6,x7,x8]/\L1 [aE] h)):=aB (by kernel_rfl)
theorem aF2 (m0 x6 x7 x8:Value) (L1:LQ) (aE:Value) (h:ae):akt P K m0 x6 x7 x8 L1 [aE] h=
 (aJ aE
 (OP (eJ m0) λlN=>
 OP (aF 0 lN) λjU=>
 OP (af false 1 h jU) λcJ=>
 bX [(.bool false),(.int .i64 (0))] h λL2 xs hx=>
 aku P K m0 x6 x7 x8 cJ L1 L2 xs hx)
 (SZ P K m0 x6 x7 x8 h)):=aB (by kernel_rfl)
theorem am6:S3 P K m0 x6 x7 x8 hT ke mJ gK L1 h=
 (OP (bu mJ gK (.bool false)) λeu=>
 aJ eu
 (K (.slice none 0 0) h)
 (OP (aj .add ke (.int .i64 (1))) λEe=>
 ([m0,x6,x7,x8,hT]:List Value)=[m0,x6,x7,x8,hT]/\L1 [Ee] h)):=aB (by kernel_rfl)
theorem aGd:akA P K m0 x6 x7 x8 i13 hT ke mJ L1 h=
 (bQ mJ true
 (OP (aD 1 x8 i13) λqJ=>
 OP (af false 1 h qJ) λmh=>
 OP (gG .not mh) λgK=>
 S3 P K m0 x6 x7 x8 hT ke mJ gK L1 h)
 (S3 P K m0 x6 x7 x8 hT ke mJ undef L1 h)):=aB (by kernel_rfl)
theorem aGb (m0 x6 x7 x8 hT:Value) (L1:LQ) (ke:Value) (h:ae):aky P K m0 x6 x7 x8 hT L1 [ke] h=
 (OP (aj .lss ke hT) λkA=>
 aJ kA
 (OP (aD 1 x6 ke) λpK=>
 OP (af false 1 h pK) λqI=>
 akA P K m0 x6 x7 x8 ke hT ke qI L1 h)
 (akB P K m0 x6 x7 h)):=aB (by kernel_rfl)
theorem aGe:akB P K m0 x6 x7 h=
 (ay P 54 [m0,x6,x7] h λBD z1=>
 ay P 58 [m0,BD] z1 λvY z2=>
 aJ vY
 (K BD z2)
 (K (.slice none 0 0) z2)):=aB (by kernel_rfl)
theorem aGa:SZ P K m0 x6 x7 x8 h=
 (OP (eJ m0) λqH=>
 OP (aF 0 qH) λvX=>
 OP (af false 1 h vX) λhT=>
 bX [(.int .i64 (0))] h λL1 xs hx=>
 aky P K m0 x6 x7 x8 hT L1 xs hx):=aB (by kernel_rfl)
theorem aF1:SR P K m0 x6 x7 x8 h=
 (bX [(.bool true)] h λL1 xs hx=>
 akt P K m0 x6 x7 x8 L1 xs hx):=aB (by kernel_rfl)
def MC:Prop:=
 ay P 57 [m0,fZ] h λbM z1=>
 OP (eJ m0) λaS=>
 OP (aF 0 aS) λaI=>
 OP (af false 1 z1 aI) λaR=>
 (True)/\
 OH (eM 4 1 [(.bool false)] z1 aR aR) λbK z2=>
 OP (eB z2 bK) λu=>
 (True)/\
 OP (eJ m0) λbm=>
 OP (aF 0 bm) λbH=>
 OP (af false 1 z2 bH) λbW=>
 (af false 1 z1 bH=some bW/\True)/\
 OH (eM 4 1 [(.bool false)] z2 bW bW) λbO z3=>
 OP (eB z3 bO) λKi=>
 (af false 1 z3 aI=some aR/\eB z3 bK=some u/\True)/\
 OP (eJ m0) λca=>
 OP (aF 0 ca) λaV=>
 OP (af false 1 z3 aV) λbz=>
 (af false 1 z1 aV=some bz/\af false 1 z2 aV=some bz/\True)/\
 OH (eM 4 1 [(.bool false)] z3 bz bz) λdJ z4=>
 OP (eB z4 dJ) λx2=>
 (af false 1 z4 aI=some aR/\eB z4 bK=some u/\af false 1 z4 bH=some bW/\eB z4 bO=some Ki/\True)/\
 OP (eJ m0) λcA=>
 OP (aF 0 cA) λcB=>
 OP (af false 1 z4 cB) λaY=>
 bX [(.int .i64 (0))] z4 λL1 xs hx=>
 akz P K m0 fZ bM bK bO dJ aY L1 xs hx
theorem e35:au P xX (aW [.tmp 4] K) (cg [m0,fZ]) h=MC P K m0 fZ h:=by kernel_rfl
theorem f35 {K:VK} {m0 fZ:Value} {h:ae} (H:MC prog K m0 fZ h):ay prog 35 [m0,fZ] h K:=
 cC k35 (cE rfl) ((e35 prog K m0 fZ h).mpr H)
end
noncomputable section
variable (m0 i1 x2 x6 x7 aI aR : Value) (L1 : LQ) (xs : List Value) (h : ae)
def ahD:=cj prog 38 [[],[],[],[0,1,2,6,7,20],[21],[],[],[],[],[6,7],[]]
@[irreducible] def Gx:=cD ahD
@[irreducible] def awM:=Gx.r.r.l.r.l.l
@[irreducible] def aav:=Gx.r.r.r
@[irreducible] def awL:=aav.l
theorem k38:ahD=some (37,Gx,[.cell true 4 6]):=by kernel_rfl
def K8 (_P:Program) (K:VK):ax:=aW [.cell true 4 6] K
def arF:ax:=aH (au P aav (K8 P K)) (K8 P K)
def arG:ax:=bC 0 (arF P K)
def arH:ax:=aH (λf' aQ=>(([0,1,2,6,7,20]:List Nat).map f':List Value)=[m0,i1,x2,x6,x7,aI]/\L1 (([21]:List Nat).map f') aQ) (arG P K)
def akE:Prop:=aA (au P awM (arH P K m0 i1 x2 x6 x7 aI L1)) ([0,1,2,6,7,20]++[21]) ([m0,i1,x2,x6,x7,aI]++xs) h
def akD:Prop:=aA (au P awL (K8 P K)) [6,7] [x6,x7] h
theorem aGi (m0 i1 x2 x6 x7 aI:Value) (L1:LQ) (aR:Value) (h:ae):akE P K m0 i1 x2 x6 x7 aI L1 [aR] h=
 (OP (aj .lss aR aI) λbK=>
 aJ bK
 (OP (af true 4 h x7) λbm=>
 (True)/\
 OP (aD 4 x2 aR) λbO=>
 OP (af true 4 h bO) λcL=>
 (True)/\
 ay P 66 [m0,aR,i1] h λdJ z1=>
 (af true 4 z1 x7=some bm/\af true 4 z1 bO=some cL/\True)/\
 ay P 65 [cL,dJ] z1 λb9 z2=>
 (af true 4 z2 x7=some bm/\True)/\
 ay P 36 [bm,b9] z2 λcA z3=>
 (True)/\
 OH (aU 4 z3 x7 cA) λ_ z4=>
 (True)/\
 OP (aj .add aR (.int .i64 (1))) λcB=>
 ([m0,i1,x2,x6,x7,aI]:List Value)=[m0,i1,x2,x6,x7,aI]/\L1 [cB] z4)
 (akD P K x6 x7 h)):=aB (by kernel_rfl)
theorem aGh:akD P K x6 x7 h=
 (OP (af true 4 h x7) λaY=>
 OH (aU 4 h x6 aY) λ_ z1=>
 OP (af true 4 z1 x6) λr0=>
 K r0 z1):=aB (by kernel_rfl)
def MF:Prop:=
 OH (cF 92 [(.bool false),(.slice none 0 0),(.bool false),(.slice none 0 0)] h) λx6 z1=>
 OP (eJ m0) λaE=>
 OP (aF 1 aE) λaG=>
 OP (af false 1 z1 aG) λaM=>
 OP (aD 1 aM i1) λaP=>
 OP (af false 1 z1 aP) λaX=>
 ay P 34 [aX] z1 λaZ z2=>
 OH (cF 92 [(.bool false),(.slice none 0 0),(.bool false),(.slice none 0 0)] z2) λx7 z3=>
 OH (aU 4 z3 x7 aZ) λ_ z4=>
 OP (eJ m0) λbA=>
 OP (aF 0 bA) λaS=>
 OP (af false 1 z4 aS) λaI=>
 bX [(.int .i64 (0))] z4 λL1 xs hx=>
 akE P K m0 i1 x2 x6 x7 aI L1 xs hx
theorem e38:au P Gx (aW [.cell true 4 6] K) (cg [m0,i1,x2]) h=MF P K m0 i1 x2 h:=by kernel_rfl
theorem f38 {K:VK} {m0 i1 x2:Value} {h:ae} (H:MF prog K m0 i1 x2 h):ay prog 38 [m0,i1,x2] h K:=
 cC k38 (cE rfl) ((e38 prog K m0 i1 x2 h).mpr H)
end
noncomputable section
variable (l0 : Value) (h : ae)
def ahP:=cj prog 50 [[],[]]
@[irreducible] def c50:=cD ahP
theorem k50:ahP=some (6,c50,[.tmp 2]):=by kernel_rfl
def MS:Prop:=
 ay P 75 [l0,(.func (.func 76) #[] #[])] h λx4 z1=>
 OP (gG .not x4) λx5=>
 K x5 z1
theorem e50:au P c50 (aW [.tmp 2] K) (cg [l0]) h=MS P K l0 h:=by kernel_rfl
theorem f50 {K:VK} {l0:Value} {h:ae} (H:MS prog K l0 h):ay prog 50 [l0] h K:=
 cC k50 (cE rfl) ((e50 prog K l0 h).mpr H)
end
noncomputable section
variable (a0 x3 x9 aE aG : Value) (L1 : LQ) (xs : List Value) (h : ae)
def ahQ:=cj prog 51 [[],[],[],[3,9,10],[11],[],[],[],[],[],[3],[]]
@[irreducible] def GH:=cD ahQ
@[irreducible] def axi:=GH.r.r.l.r.l.l
@[irreducible] def abw:=GH.r.r.r
@[irreducible] def axh:=abw.l
theorem k51:ahQ=some (30,GH,[.tmp 2]):=by kernel_rfl
def Le (_P:Program) (K:VK):ax:=aW [.tmp 2] K
def ar4:ax:=aH (au P abw (Le P K)) (Le P K)
def ar6:ax:=bC 0 (ar4 P K)
def ar7:ax:=aH (λf' aQ=>(([3,9,10]:List Nat).map f':List Value)=[x3,x9,aE]/\L1 (([11]:List Nat).map f') aQ) (ar6 P K)
def ale:Prop:=aA (au P axi (ar7 P K x3 x9 aE L1)) ([3,9,10]++[11]) ([x3,x9,aE]++xs) h
def ald:Prop:=aA (au P axh (Le P K)) [3] [x3] h
theorem aHj (x3 x9 aE:Value) (L1:LQ) (aG:Value) (h:ae):ale P K x3 x9 aE L1 [aG] h=
 (OP (aj .lss aG aE) λaM=>
 aJ aM
 (OP (aD 1 x9 aG) λaP=>
 OP (af false 1 h aP) λaX=>
 OP (aT aX) λaS=>
 OH (eM 3 8 [(.int .i64 (0))] h aS aS) λaI z1=>
 OP (aD 1 x3 aG) λaR=>
 OH (aU 1 z1 aR aI) λ_ z2=>
 OP (aD 1 x3 aG) λbm=>
 OP (af false 1 z2 bm) λbH=>
 OH (sw z2 bH aX) λbO z3=>
 OP (aj .add aG (.int .i64 (1))) λcL=>
 ([x3,x9,aE]:List Value)=[x3,x9,aE]/\L1 [cL] z3)
 (ald P K x3 h)):=aB (by kernel_rfl)
theorem aHi:ald P K x3 h=
 (K x3 h):=aB (by kernel_rfl)
def MT:Prop:=
 OP (aT a0) λx7=>
 OH (eM 34 24 [(.slice none 0 0)] h x7 x7) λx8 z1=>
 OP (aT a0) λaE=>
 bX [(.int .i64 (0))] z1 λL1 xs hx=>
 ale P K x8 a0 aE L1 xs hx
theorem e51:au P GH (aW [.tmp 2] K) (cg [a0]) h=MT P K a0 h:=by kernel_rfl
theorem f51 {K:VK} {a0:Value} {h:ae} (H:MT prog K a0 h):ay prog 51 [a0] h K:=
 cC k51 (cE rfl) ((e51 prog K a0 h).mpr H)
end
noncomputable section
variable (n0 l1 x6 x7 x8 aG aM aI aR bB bm bH fA dZ : Value) (L1 L2 : LQ) (xs : List Value) (h : ae)
def ahR:=cj prog 52 [[],[],[],[],[0,1,6,7,20],[8,21],[],[],[],[],[0,1,6,7,20,21,23,24],[8,25],[],[],[],[],[0,1,6,7,8,20,21,23,24,25],[0,1,6,7,8,20,21],[],[],[0,1,6,7,8,20,21],[0,1,6,7,8],[],[1,6,7,68],[8,69],[],[],[],[1,6,7,8],[],[],[1,6,7,8],[11,12],[],[],[],[],[]]
@[irreducible] def GI:=cD ahR
@[irreducible] def GJ:=GI.r.r.r.l.r.l.l
@[irreducible] def abC:=GI.r.r.r.r
@[irreducible] def abz:=GJ.r.r.l.l.r.l.r.l.l
@[irreducible] def aby:=GJ.r.r.l.l.r.r
@[irreducible] def abx:=GJ.r.r.r
@[irreducible] def Ow:=abC.l
@[irreducible] def axj:=abz.r.r.r.l
@[irreducible] def axk:=aby.l
@[irreducible] def axl:=abx.l
@[irreducible] def axm:=Ow.l.r.l.l
@[irreducible] def abA:=Ow.r
@[irreducible] def abB:=abA.l
@[irreducible] def axn:=abB.r.r.l.l
theorem k52:ahR=some (99,GI,[.tmp 4,.tmp 5]):=by kernel_rfl
def xL (_P:Program) (K:VK):ax:=aW [.tmp 4,.tmp 5] K
def ase:ax:=aH (au P abC (xL P K)) (xL P K)
def asi:ax:=bC 0 (ase P K)
def E9:ax:=aH (λf' aQ=>(([0,1,6,7,20]:List Nat).map f':List Value)=[n0,l1,x6,x7,aI]/\L1 (([8,21]:List Nat).map f') aQ) (asi P K)
def ar8:ax:=aH (au P abx (E9 P K n0 l1 x6 x7 aI L1)) (E9 P K n0 l1 x6 x7 aI L1)
def Lf:ax:=bC 1 (ar8 P K n0 l1 x6 x7 aI L1)
def ar9:ax:=aH (au P aby (Lf P K n0 l1 x6 x7 aI L1)) (Lf P K n0 l1 x6 x7 aI L1)
def asa:ax:=bC 2 (ar9 P K n0 l1 x6 x7 aI L1)
def Xz:ax:=aH (λf' aQ=>(([0,1,6,7,20,21,23,24]:List Nat).map f':List Value)=[n0,l1,x6,x7,aI,aR,bB,bm]/\L2 (([8,25]:List Nat).map f') aQ) (asa P K n0 l1 x6 x7 aI L1)
def asb:ax:=aH (au P abA (xL P K)) (xL P K)
def asc:ax:=bC 4 (asb P K)
def asd:ax:=aH (λf' aQ=>(([1,6,7,68]:List Nat).map f':List Value)=[l1,x6,x7,fA]/\L1 (([8,69]:List Nat).map f') aQ) (asc P K)
def asf:ax:=bC 6 (xL P K)
def ash:ax:=aH (λf' aQ=>(([1,6,7,8]:List Nat).map f':List Value)=[l1,x6,x7,x8]/\L1 (([11,12]:List Nat).map f') aQ) (asf P K)
def ali:Prop:=aA (au P GJ (E9 P K n0 l1 x6 x7 aI L1)) ([0,1,6,7,20]++[8,21]) ([n0,l1,x6,x7,aI]++xs) h
def TD:Prop:=aA (au P abz (Xz P K n0 l1 x6 x7 aI aR bB bm L1 L2)) ([0,1,6,7,20,21,23,24]++[8,25]) ([n0,l1,x6,x7,aI,aR,bB,bm]++xs) h
def TE:Prop:=aA (au P axj (Xz P K n0 l1 x6 x7 aI aR bB bm L1 L2)) [0,1,6,7,8,20,21,23,24,25] [n0,l1,x6,x7,x8,aI,aR,bB,bm,bH] h
def TF:Prop:=aA (au P axk (Lf P K n0 l1 x6 x7 aI L1)) [0,1,6,7,8,20,21] [n0,l1,x6,x7,x8,aI,aR] h
def alf:Prop:=aA (au P axl (E9 P K n0 l1 x6 x7 aI L1)) [0,1,6,7,8,20,21] [n0,l1,x6,x7,x8,aI,aR] h
def TH:Prop:=aA (au P Ow (xL P K)) [0,1,6,7,8] [n0,l1,x6,x7,x8] h
def alg:Prop:=aA (au P axm (asd P K l1 x6 x7 fA L1)) ([1,6,7,68]++[8,69]) ([l1,x6,x7,fA]++xs) h
def TI:Prop:=aA (au P abB (xL P K)) [1,6,7,8] [l1,x6,x7,x8] h
def alh:Prop:=aA (au P axn (ash P K l1 x6 x7 x8 L1)) ([1,6,7,8]++[11,12]) ([l1,x6,x7,x8]++xs) h
theorem anb:TE P K n0 l1 x6 x7 x8 aI aR bB bm bH L1 L2 h=
 (OP (aj .add bH (.int .i64 (1))) λhZ=>
 ([n0,l1,x6,x7,aI,aR,bB,bm]:List Value)=[n0,l1,x6,x7,aI,aR,bB,bm]/\L2 [x8,hZ] h):=aB (by kernel_rfl)
theorem aHk (n0 l1 x6 x7 aI aR bB bm:Value) (L1 L2:LQ) (x8 bH:Value) (h:ae):TD P K n0 l1 x6 x7 aI aR bB bm L1 L2 [x8,bH] h=
 (OP (aj .lss bH bm) λbW=>
 aJ bW
 (OP (aD 5 bB bH) λcL=>
 OP (af true 5 h cL) λca=>
 OH (cF 119 [(.int .i64 (0)),(.int .i64 (0)),(.int .i64 (0)),(.int .i64 (0)),(.pointer none)] h) λfK z1=>
 OH (aU 5 z1 fK ca) λ_ z2=>
 OP (aF 0 fK) λbz=>
 OP (af false 1 z2 bz) λdJ=>
 (True)/\
 OP (aD 1 x6 dJ) λb9=>
 OP (af false 1 z2 b9) λcA=>
 (True)/\
 OP (aF 2 fK) λcB=>
 OP (af false 1 z2 cB) λaY=>
 (True)/\
 OP (aj .add cA aY) λbG=>
 OP (aF 1 fK) λdW=>
 OP (af false 1 z2 dW) λcI=>
 (True)/\
 OP (aD 1 x6 cI) λcU=>
 OP (af false 1 z2 cU) λeg=>
 (True)/\
 OP (aj .lss bG eg) λcO=>
 aJ cO
 (OP (aF 1 fK) λdC=>
 OP (af false 1 z2 dC) λeT=>
 (True)/\
 OP (aF 1 fK) λfE=>
 OP (af false 1 z2 fE) λfX=>
 (True)/\
 OP (aF 0 fK) λer=>
 OP (af false 1 z2 er) λfI=>
 (True)/\
 OP (aD 1 x6 fI) λfg=>
 OP (af false 1 z2 fg) λgw=>
 (True)/\
 OP (aF 2 fK) λfJ=>
 OP (af false 1 z2 fJ) λgX=>
 (True)/\
 OP (aj .add gw gX) λfY=>
 OP (aF 1 fK) λiZ=>
 OP (af false 1 z2 iZ) λgL=>
 (True)/\
 OP (aD 1 x6 eT) λfT=>
 OH (aU 1 z2 fT fY) λ_ z3=>
 (af false 1 z3 fE=some fX/\af false 1 z3 iZ=some gL/\True)/\
 OP (aD 1 x7 fX) λiV=>
 OH (aU 1 z3 iV bH) λ_ z4=>
 (af false 1 z4 iZ=some gL/\True)/\
 TE P K n0 l1 x6 x7 gL aI aR bB bm bH L1 L2 z4)
 (TE P K n0 l1 x6 x7 x8 aI aR bB bm bH L1 L2 z2))
 (TF P K n0 l1 x6 x7 x8 aI aR L1 h)):=aB (by kernel_rfl)
theorem aHl:TF P K n0 l1 x6 x7 x8 aI aR L1 h=
 (OP (aj .lss x8 (.int .i64 (0))) λjA=>
 aJ jA
 (K (.tuple #[x6,(.slice none 0 0)]) h)
 (alf P K n0 l1 x6 x7 x8 aI aR L1 h)):=aB (by kernel_rfl)
theorem aHm:alf P K n0 l1 x6 x7 x8 aI aR L1 h=
 (OP (aj .add aR (.int .i64 (1))) λgy=>
 ([n0,l1,x6,x7,aI]:List Value)=[n0,l1,x6,x7,aI]/\L1 [x8,gy] h):=aB (by kernel_rfl)
theorem aHr (n0 l1 x6 x7 aI:Value) (L1:LQ) (x8 aR:Value) (h:ae):ali P K n0 l1 x6 x7 aI L1 [x8,aR] h=
 (OP (aj .lss aR aI) λbK=>
 aJ bK
 (OP (aT l1) λbm=>
 bX [(.int .i64 (-1)),(.int .i64 (0))] h λL2 xs hx=>
 TD P K n0 l1 x6 x7 aI aR l1 bm L1 L2 xs hx)
 (TH P K n0 l1 x6 x7 x8 h)):=aB (by kernel_rfl)
theorem aHo (l1 x6 x7 fA:Value) (L1:LQ) (x8 dZ:Value) (h:ae):alg P K l1 x6 x7 fA L1 [x8,dZ] h=
 (OP (aj .lss dZ fA) λdj=>
 aJ dj
 (OP (aD 1 x7 x8) λiW=>
 OP (af false 1 h iW) λfF=>
 OP (aD 5 l1 fF) λiM=>
 OP (aF 0 iM) λkO=>
 OP (af false 1 h kO) λie=>
 OP (aj .add dZ (.int .i64 (1))) λlN=>
 ([l1,x6,x7,fA]:List Value)=[l1,x6,x7,fA]/\L1 [ie,lN] h)
 (TI P K l1 x6 x7 x8 h)):=aB (by kernel_rfl)
theorem aHq (l1 x6 x7 x8:Value) (L1:LQ) (aG aM:Value) (h:ae):alh P K l1 x6 x7 x8 L1 [aG,aM] h=
 (OP (aD 1 x7 aM) λgM=>
 OP (af false 1 h gM) λjV=>
 OP (aD 5 l1 jV) λjW=>
 OP (af true 5 h jW) λkh=>
 OH (cF 119 [(.int .i64 (0)),(.int .i64 (0)),(.int .i64 (0)),(.int .i64 (0)),(.pointer none)] h) λND z1=>
 OH (aU 5 z1 ND kh) λ_ z2=>
 OP (af true 5 z2 ND) λeP=>
 OH (cH 119 1 [(.int .i64 (0)),(.int .i64 (0)),(.int .i64 (0)),(.int .i64 (0)),(.pointer none)] z2 [(0,5,eP)]) λkH z3=>
 OH (cT 119 5 40 z3 aG kH) λjr z4=>
 OP (aF 0 ND) λlO=>
 OP (af false 1 z4 lO) λeE=>
 OP (aj .eql eE x8) λnL=>
 aJ nL
 (K (.tuple #[x6,jr]) z4)
 (([l1,x6,x7,x8]:List Value)=[l1,x6,x7,x8]/\L1 [jr,eE] z4)):=aB (by kernel_rfl)
theorem aHp:TI P K l1 x6 x7 x8 h=
 (bX [(.slice none 0 0),x8] h λL1 xs hx=>
 alh P K l1 x6 x7 x8 L1 xs hx):=aB (by kernel_rfl)
theorem aHn:TH P K n0 l1 x6 x7 x8 h=
 (bX [x8,(.int .i64 (0))] h λL1 xs hx=>
 alg P K l1 x6 x7 n0 L1 xs hx):=aB (by kernel_rfl)
def MU:Prop:=
 OH (eM 3 8 [(.int .i64 (0))] h n0 n0) λaX z1=>
 OP (eB z1 aX) λu=>
 (True)/\
 OH (cH 3 1 [(.int .i64 (0))] z1 [(0,1,(.int .i64 (-1)))]) λaZ z2=>
 OP (eB z2 aZ) λx1=>
 (eB z2 aX=some u/\True)/\
 ay P 77 [aZ,n0] z2 λbA z3=>
 (eB z3 aX=some u/\True)/\
 OP (aj .add n0 (.int .i64 (1))) λaI=>
 bX [(.int .i64 (-1)),(.int .i64 (0))] z3 λL1 xs hx=>
 ali P K n0 l1 aX bA aI L1 xs hx
theorem HB:au P GI (aW [.tmp 4,.tmp 5] K) (cg [n0,l1]) h=MU P K n0 l1 h:=by kernel_rfl
theorem f52 {K:VK} {n0 l1:Value} {h:ae} (H:MU prog K n0 l1 h):ay prog 52 [n0,l1] h K:=
 cC k52 (cE rfl) ((HB prog K n0 l1 h).mpr H)
end
noncomputable section
variable (x0 x1 x5 i6 j7 aG aM aZ bM : Value) (L1 L2 : LQ) (xs : List Value) (h : ae)
def ahS:=cj prog 53 [[],[],[],[0,1,11],[5,12],[],[],[],[],[0,1,6,11,12,16],[5,17],[],[],[],[],[],[0,1,5,6,7,11,12,16,17],[],[],[0,1,5,6,11,12,16,17],[0,1,5,11,12],[5],[]]
@[irreducible] def GK:=cD ahS
@[irreducible] def Oy:=GK.r.r.l.r.l.l
@[irreducible] def abE:=GK.r.r.r
@[irreducible] def Ox:=Oy.r.r.l.l.r.r.l.l
@[irreducible] def abF:=Oy.r.r.r
@[irreducible] def axr:=abE.l
@[irreducible] def axo:=Ox.r.r.l.l.r.r.l
@[irreducible] def abD:=Ox.r.r.r
@[irreducible] def axq:=abF.l
@[irreducible] def axp:=abD.l
theorem k53:ahS=some (78,GK,[.tmp 4]):=by kernel_rfl
def Lg (_P:Program) (K:VK):ax:=aW [.tmp 4] K
def aso:ax:=aH (au P abE (Lg P K)) (Lg P K)
def asp:ax:=bC 0 (aso P K)
def Fb:ax:=aH (λf' aQ=>(([0,1,11]:List Nat).map f':List Value)=[x0,x1,aG]/\L1 (([5,12]:List Nat).map f') aQ) (asp P K)
def asq:ax:=aH (au P abF (Fb P K x0 x1 aG L1)) (Fb P K x0 x1 aG L1)
def asj:ax:=bC 1 (asq P K x0 x1 aG L1)
def asl:ax:=bC 2 (asj P K x0 x1 aG L1)
def Fa:ax:=aH (λf' aQ=>(([0,1,6,11,12,16]:List Nat).map f':List Value)=[x0,x1,i6,aG,aM,aZ]/\L2 (([5,17]:List Nat).map f') aQ) (asl P K x0 x1 aG L1)
def asm:ax:=aH (au P abD (Fa P K x0 x1 i6 aG aM aZ L1 L2)) (Fa P K x0 x1 i6 aG aM aZ L1 L2)
def asn:ax:=bC 3 (asm P K x0 x1 i6 aG aM aZ L1 L2)
def aln:Prop:=aA (au P Oy (Fb P K x0 x1 aG L1)) ([0,1,11]++[5,12]) ([x0,x1,aG]++xs) h
def alj:Prop:=aA (au P Ox (Fa P K x0 x1 i6 aG aM aZ L1 L2)) ([0,1,6,11,12,16]++[5,17]) ([x0,x1,i6,aG,aM,aZ]++xs) h
def Ju:Prop:=aA (au P axo (asn P K x0 x1 i6 aG aM aZ L1 L2)) [0,1,5,6,7,11,12,16,17] [x0,x1,x5,i6,j7,aG,aM,aZ,bM] h
def Jv:Prop:=aA (au P axp (Fa P K x0 x1 i6 aG aM aZ L1 L2)) [0,1,5,6,11,12,16,17] [x0,x1,x5,i6,aG,aM,aZ,bM] h
def alk:Prop:=aA (au P axq (Fb P K x0 x1 aG L1)) [0,1,5,11,12] [x0,x1,x5,aG,aM] h
def alm:Prop:=aA (au P axr (Lg P K)) [5] [x5] h
theorem aHt:Ju P K x0 x1 x5 i6 j7 aG aM aZ bM L1 L2 h=
 (OP (aD 1 x1 i6) λfY=>
 OP (af false 1 h fY) λfS=>
 OP (aD 1 fS j7) λgL=>
 OP (eJ gL) λiV=>
 OP (af false 1 h iV) λhZ=>
 OP (aj .gtr hZ (.int .i64 (0))) λkf=>
 aJ kf
 (OP (eJ gL) λdZ=>
 OP (af false 1 h dZ) λdj=>
 OP (eI [(.int .i64 (0)),(.int .i64 (0)),(.int .i64 (0)),(.int .i64 (0)),(.pointer none)] [(0,1,j7),(1,1,i6),(2,1,(.int .i64 (-1))),(3,1,dj),(4,1,gL)]) λoh=>
 OH (cH 119 1 [(.int .i64 (0)),(.int .i64 (0)),(.int .i64 (0)),(.int .i64 (0)),(.pointer none)] h [(0,5,oh)]) λlh z1=>
 OH (cT 119 5 40 z1 x5 lh) λiW z2=>
 Jv P K x0 x1 iW i6 aG aM aZ bM L1 L2 z2)
 (Jv P K x0 x1 x5 i6 aG aM aZ bM L1 L2 h)):=aB (by kernel_rfl)
theorem aHu:Jv P K x0 x1 x5 i6 aG aM aZ bM L1 L2 h=
 (OP (aj .add bM (.int .i64 (1))) λfF=>
 ([x0,x1,i6,aG,aM,aZ]:List Value)=[x0,x1,i6,aG,aM,aZ]/\L2 [x5,fF] h):=aB (by kernel_rfl)
theorem aHs (x0 x1 i6 aG aM aZ:Value) (L1 L2:LQ) (x5 bM:Value) (h:ae):alj P K x0 x1 i6 aG aM aZ L1 L2 [x5,bM] h=
 (OP (aj .lss bM aZ) λbA=>
 aJ bA
 (OP (aD 1 x1 i6) λbK=>
 OP (af false 1 h bK) λbB=>
 OP (aD 1 bB bM) λbH=>
 OP (eJ bH) λbO=>
 OP (af false 1 h bO) λcL=>
 (True)/\
 OP (aD 1 x0 i6) λbz=>
 OP (af false 1 h bz) λdJ=>
 (True)/\
 OP (aD 1 dJ bM) λcA=>
 OP (af false 1 h cA) λcB=>
 (True)/\
 OP (aj .lss cL cB) λaY=>
 aJ aY
 (OP (aD 1 x0 i6) λeg=>
 OP (af false 1 h eg) λcO=>
 (True)/\
 OP (aD 1 cO bM) λdC=>
 OP (af false 1 h dC) λeT=>
 (True)/\
 OP (eJ bH) λfE=>
 OP (af false 1 h fE) λfX=>
 (True)/\
 OP (aj .sub eT fX) λiU=>
 OP (eI [(.int .i64 (0)),(.int .i64 (0)),(.int .i64 (0)),(.int .i64 (0)),(.pointer none)] [(0,1,i6),(1,1,bM),(2,1,(.int .i64 (1))),(3,1,iU),(4,1,bH)]) λfI=>
 OH (cH 119 1 [(.int .i64 (0)),(.int .i64 (0)),(.int .i64 (0)),(.int .i64 (0)),(.pointer none)] h [(0,5,fI)]) λfg z1=>
 (True)/\
 OH (cT 119 5 40 z1 x5 fg) λgw z2=>
 (True)/\
 Ju P K x0 x1 gw i6 bM aG aM aZ bM L1 L2 z2)
 (Ju P K x0 x1 x5 i6 bM aG aM aZ bM L1 L2 h))
 (alk P K x0 x1 x5 aG aM L1 h)):=aB (by kernel_rfl)
theorem aHv:alk P K x0 x1 x5 aG aM L1 h=
 (OP (aj .add aM (.int .i64 (1))) λiM=>
 ([x0,x1,aG]:List Value)=[x0,x1,aG]/\L1 [x5,iM] h):=aB (by kernel_rfl)
theorem aHx (x0 x1 aG:Value) (L1:LQ) (x5 aM:Value) (h:ae):aln P K x0 x1 aG L1 [x5,aM] h=
 (OP (aj .lss aM aG) λaC=>
 aJ aC
 (OP (aT x1) λaZ=>
 bX [x5,(.int .i64 (0))] h λL2 xs hx=>
 alj P K x0 x1 aM aG aM aZ L1 L2 xs hx)
 (alm P K x5 h)):=aB (by kernel_rfl)
theorem aHw:alm P K x5 h=
 (K x5 h):=aB (by kernel_rfl)
def MV:Prop:=
 OP (aT x1) λaG=>
 bX [(.slice none 0 0),(.int .i64 (0))] h λL1 xs hx=>
 aln P K x0 x1 aG L1 xs hx
theorem e53:au P GK (aW [.tmp 4] K) (cg [x0,x1]) h=MV P K x0 x1 h:=by kernel_rfl
theorem f53 {K:VK} {x0 x1:Value} {h:ae} (H:MV prog K x0 x1 h):ay prog 53 [x0,x1] h K:=
 cC k53 (cE rfl) ((e53 prog K x0 x1 h).mpr H)
end
noncomputable section
variable (m0 x1 x5 x7 i8 j9 aZ bM aY bG cO cP fS hZ gy fA dj fF : Value) (L1 L2 L3 : LQ) (xs : List Value) (h : ae)
def ahW:=cj prog 57 [[],[],[],[0,1,5,16],[17],[],[],[],[],[0,1,5],[],[0,1,5],[7],[],[],[],[],[0,1,5,36],[7,37],[],[],[],[],[0,1,5,8,36,37,43],[7,44],[],[],[],[0,1,5,7,8,9,36,37,43,44,58],[0,1,5,7,8,9,36,37,43,44,58,63],[0,1,5,7,8,9,36,37,43,44,58,63,67],[0,1,5,7,8,9,36,37,43,44,58,68],[0,1,5,7,8,9,36,37,43,44,70],[0,1,5,7,8,9,36,37,43,44,70,75],[],[0,1,5,7,8,36,37,43,44],[0,1,5,7,36,37],[5],[]]
@[irreducible] def GN:=cD ahW
@[irreducible] def axF:=GN.r.r.l.r.l.l
@[irreducible] def abP:=GN.r.r.r
@[irreducible] def OD:=abP.l
@[irreducible] def abN:=OD.l.r.l.l
@[irreducible] def abM:=OD.r
@[irreducible] def OE:=abN.r.l.r.r.l.l
@[irreducible] def axE:=abM.l
@[irreducible] def GO:=OE.r.r.l.l.r.r.l.l
@[irreducible] def abO:=OE.r.r.r
@[irreducible] def abR:=GO.r.r.l.l.r.l.r.l
@[irreducible] def axA:=GO.r.r.l.l.r.r
@[irreducible] def abQ:=GO.r.r.r
@[irreducible] def axD:=abO.l
@[irreducible] def abS:=abR.r.l
@[irreducible] def axC:=abQ.l
@[irreducible] def abT:=abS.r.l
@[irreducible] def abU:=abT.r.l
@[irreducible] def abV:=abU.r.l
@[irreducible] def axB:=abV.r.l
theorem k57:ahW=some (83,GN,[.tmp 4]):=by kernel_rfl
def Am (_P:Program) (K:VK):ax:=aW [.tmp 4] K
def asL:ax:=aH (au P abP (Am P K)) (Am P K)
def asO:ax:=bC 0 (asL P K)
def asP:ax:=aH (λf' aQ=>(([0,1,5,16]:List Nat).map f':List Value)=[m0,x1,x5,aZ]/\L1 (([17]:List Nat).map f') aQ) (asO P K)
def asF:ax:=aH (au P abM (Am P K)) (Am P K)
def asG:ax:=bC 2 (asF P K)
def XB:ax:=aH (λf' aQ=>(([0,1,5]:List Nat).map f':List Value)=[m0,x1,x5]/\L1 (([7]:List Nat).map f') aQ) (asG P K)
def asH:ax:=bC 3 (XB P K m0 x1 x5 L1)
def asI:ax:=bC 4 (asH P K m0 x1 x5 L1)
def Fe:ax:=aH (λf' aQ=>(([0,1,5,36]:List Nat).map f':List Value)=[m0,x1,x5,aY]/\L2 (([7,37]:List Nat).map f') aQ) (asI P K m0 x1 x5 L1)
def asJ:ax:=aH (au P abO (Fe P K m0 x1 x5 aY L1 L2)) (Fe P K m0 x1 x5 aY L1 L2)
def asK:ax:=bC 5 (asJ P K m0 x1 x5 aY L1 L2)
def asM:ax:=bC 6 (asK P K m0 x1 x5 aY L1 L2)
def Ff:ax:=aH (λf' aQ=>(([0,1,5,8,36,37,43]:List Nat).map f':List Value)=[m0,x1,x5,i8,aY,bG,cO]/\L3 (([7,44]:List Nat).map f') aQ) (asM P K m0 x1 x5 aY L1 L2)
def asN:ax:=aH (au P abQ (Ff P K m0 x1 x5 i8 aY bG cO L1 L2 L3)) (Ff P K m0 x1 x5 i8 aY bG cO L1 L2 L3)
def XC:ax:=bC 7 (asN P K m0 x1 x5 i8 aY bG cO L1 L2 L3)
def An:ax:=aH (au P axA (XC P K m0 x1 x5 i8 aY bG cO L1 L2 L3)) (XC P K m0 x1 x5 i8 aY bG cO L1 L2 L3)
def alA:Prop:=aA (au P axF (asP P K m0 x1 x5 aZ L1)) ([0,1,5,16]++[17]) ([m0,x1,x5,aZ]++xs) h
def als:Prop:=aA (au P OD (Am P K)) [0,1,5] [m0,x1,x5] h
def alu:Prop:=aA (au P abN (XB P K m0 x1 x5 L1)) ([0,1,5]++[7]) ([m0,x1,x5]++xs) h
def alv:Prop:=aA (au P OE (Fe P K m0 x1 x5 aY L1 L2)) ([0,1,5,36]++[7,37]) ([m0,x1,x5,aY]++xs) h
def alw:Prop:=aA (au P GO (Ff P K m0 x1 x5 i8 aY bG cO L1 L2 L3)) ([0,1,5,8,36,37,43]++[7,44]) ([m0,x1,x5,i8,aY,bG,cO]++xs) h
def alx:Prop:=aA (au P abR (An P K m0 x1 x5 i8 aY bG cO L1 L2 L3)) [0,1,5,7,8,9,36,37,43,44,58] [m0,x1,x5,x7,i8,j9,aY,bG,cO,cP,fS] h
def TP:Prop:=aA (au P abS (An P K m0 x1 x5 i8 aY bG cO L1 L2 L3)) [0,1,5,7,8,9,36,37,43,44,58,63] [m0,x1,x5,x7,i8,j9,aY,bG,cO,cP,fS,hZ] h
def TQ:Prop:=aA (au P abT (An P K m0 x1 x5 i8 aY bG cO L1 L2 L3)) [0,1,5,7,8,9,36,37,43,44,58,63,67] [m0,x1,x5,x7,i8,j9,aY,bG,cO,cP,fS,hZ,gy] h
def TR:Prop:=aA (au P abU (An P K m0 x1 x5 i8 aY bG cO L1 L2 L3)) [0,1,5,7,8,9,36,37,43,44,58,68] [m0,x1,x5,x7,i8,j9,aY,bG,cO,cP,fS,fA] h
def TS:Prop:=aA (au P abV (An P K m0 x1 x5 i8 aY bG cO L1 L2 L3)) [0,1,5,7,8,9,36,37,43,44,70] [m0,x1,x5,x7,i8,j9,aY,bG,cO,cP,dj] h
def TU:Prop:=aA (au P axB (An P K m0 x1 x5 i8 aY bG cO L1 L2 L3)) [0,1,5,7,8,9,36,37,43,44,70,75] [m0,x1,x5,x7,i8,j9,aY,bG,cO,cP,dj,fF] h
def Jy:Prop:=aA (au P axC (Ff P K m0 x1 x5 i8 aY bG cO L1 L2 L3)) [0,1,5,7,8,36,37,43,44] [m0,x1,x5,x7,i8,aY,bG,cO,cP] h
def aly:Prop:=aA (au P axD (Fe P K m0 x1 x5 aY L1 L2)) [0,1,5,7,36,37] [m0,x1,x5,x7,aY,bG] h
def alz:Prop:=aA (au P axE (Am P K)) [5] [x5] h
theorem aHT (m0 x1 x5 aZ:Value) (L1:LQ) (bM:Value) (h:ae):alA P K m0 x1 x5 aZ L1 [bM] h=
 (OP (aj .lss bM aZ) λbA=>
 aJ bA
 (OP (eJ m0) λbB=>
 OP (aF 1 bB) λbm=>
 OP (af false 1 h bm) λbH=>
 OP (aD 1 bH bM) λbO=>
 OP (af false 1 h bO) λcL=>
 OP (aj .gtr cL (.int .i64 (0))) λca=>
 OP (aD 1 x5 bM) λaV=>
 OH (aU 1 h aV ca) λ_ z1=>
 OP (aj .add bM (.int .i64 (1))) λbz=>
 ([m0,x1,x5,aZ]:List Value)=[m0,x1,x5,aZ]/\L1 [bz] z1)
 (als P K m0 x1 x5 h)):=aB (by kernel_rfl)
theorem ane:TU P K m0 x1 x5 x7 i8 j9 aY bG cO cP dj fF L1 L2 L3 h=
 (OP (bu dj fF (.bool false)) λiM=>
 aJ iM
 (OP (aD 1 x5 j9) λlN=>
 OH (aU 1 h lN (.bool true)) λ_ z1=>
 Jy P K m0 x1 x5 (.bool true) i8 aY bG cO cP L1 L2 L3 z1)
 (Jy P K m0 x1 x5 x7 i8 aY bG cO cP L1 L2 L3 h)):=aB (by kernel_rfl)
theorem aHP:TS P K m0 x1 x5 x7 i8 j9 aY bG cO cP dj L1 L2 L3 h=
 (bQ dj true
 (OP (aD 1 x5 j9) λlh=>
 OP (af false 1 h lh) λiW=>
 OP (gG .not iW) λfF=>
 TU P K m0 x1 x5 x7 i8 j9 aY bG cO cP dj fF L1 L2 L3 h)
 (TU P K m0 x1 x5 x7 i8 j9 aY bG cO cP dj undef L1 L2 L3 h)):=aB (by kernel_rfl)
theorem UB:TR P K m0 x1 x5 x7 i8 j9 aY bG cO cP fS fA L1 L2 L3 h=
 (OP (bu fS fA (.bool false)) λdZ=>
 TS P K m0 x1 x5 x7 i8 j9 aY bG cO cP dZ L1 L2 L3 h):=aB (by kernel_rfl)
theorem UA:TQ P K m0 x1 x5 x7 i8 j9 aY bG cO cP fS hZ gy L1 L2 L3 h=
 (bQ fS true
 (OP (bu hZ (.bool true) gy) λfA=>
 TR P K m0 x1 x5 x7 i8 j9 aY bG cO cP fS fA L1 L2 L3 h)
 (TR P K m0 x1 x5 x7 i8 j9 aY bG cO cP fS undef L1 L2 L3 h)):=aB (by kernel_rfl)
theorem anc:TP P K m0 x1 x5 x7 i8 j9 aY bG cO cP fS hZ L1 L2 L3 h=
 (bQ hZ false
 (OP (aD 1 x5 i8) λkZ=>
 OP (af false 1 h kZ) λgy=>
 TQ P K m0 x1 x5 x7 i8 j9 aY bG cO cP fS hZ gy L1 L2 L3 h)
 (TQ P K m0 x1 x5 x7 i8 j9 aY bG cO cP fS hZ undef L1 L2 L3 h)):=aB (by kernel_rfl)
theorem aHO:alx P K m0 x1 x5 x7 i8 j9 aY bG cO cP fS L1 L2 L3 h=
 (bQ fS true
 (OP (aD 1 x1 i8) λfT=>
 OP (af false 1 h fT) λiV=>
 TP P K m0 x1 x5 x7 i8 j9 aY bG cO cP fS iV L1 L2 L3 h)
 (TP P K m0 x1 x5 x7 i8 j9 aY bG cO cP fS undef L1 L2 L3 h)):=aB (by kernel_rfl)
theorem aHQ:Jy P K m0 x1 x5 x7 i8 aY bG cO cP L1 L2 L3 h=
 (OP (aj .add cP (.int .i64 (1))) λjU=>
 ([m0,x1,x5,i8,aY,bG,cO]:List Value)=[m0,x1,x5,i8,aY,bG,cO]/\L3 [x7,jU] h):=aB (by kernel_rfl)
theorem aHN (m0 x1 x5 i8 aY bG cO:Value) (L1 L2 L3:LQ) (x7 cP:Value) (h:ae):alw P K m0 x1 x5 i8 aY bG cO L1 L2 L3 [x7,cP] h=
 (OP (aj .lss cP cO) λdC=>
 aJ dC
 (OP (eJ m0) λfE=>
 OP (aF 2 fE) λfX=>
 OP (af false 1 h fX) λiU=>
 OP (aD 1 iU i8) λfI=>
 OP (af false 1 h fI) λfg=>
 OP (aD 1 fg cP) λfJ=>
 OP (af false 1 h fJ) λgX=>
 OP (aj .gtr gX (.int .i64 (0))) λfY=>
 alx P K m0 x1 x5 x7 i8 cP aY bG cO cP fY L1 L2 L3 h)
 (aly P K m0 x1 x5 x7 aY bG L1 L2 h)):=aB (by kernel_rfl)
theorem aHR:aly P K m0 x1 x5 x7 aY bG L1 L2 h=
 (OP (aj .add bG (.int .i64 (1))) λcJ=>
 ([m0,x1,x5,aY]:List Value)=[m0,x1,x5,aY]/\L2 [x7,cJ] h):=aB (by kernel_rfl)
theorem aHM (m0 x1 x5 aY:Value) (L1 L2:LQ) (x7 bG:Value) (h:ae):alv P K m0 x1 x5 aY L1 L2 [x7,bG] h=
 (OP (aj .lss bG aY) λdH=>
 aJ dH
 (OP (eJ m0) λcU=>
 OP (aF 0 cU) λeg=>
 OP (af false 1 h eg) λcO=>
 bX [x7,(.int .i64 (0))] h λL3 xs hx=>
 alw P K m0 x1 x5 bG aY bG cO L1 L2 L3 xs hx)
 (([m0,x1,x5]:List Value)=[m0,x1,x5]/\L1 [x7] h)):=aB (by kernel_rfl)
theorem aHL (m0 x1 x5:Value) (L1:LQ) (x7:Value) (h:ae):alu P K m0 x1 x5 L1 [x7] h=
 (aJ x7
 (OP (eJ m0) λcA=>
 OP (aF 0 cA) λcB=>
 OP (af false 1 h cB) λaY=>
 bX [(.bool false),(.int .i64 (0))] h λL2 xs hx=>
 alv P K m0 x1 x5 aY L1 L2 xs hx)
 (alz P K x5 h)):=aB (by kernel_rfl)
theorem aHS:alz P K x5 h=
 (K x5 h):=aB (by kernel_rfl)
theorem aHK:als P K m0 x1 x5 h=
 (bX [(.bool true)] h λL1 xs hx=>
 alu P K m0 x1 x5 L1 xs hx):=aB (by kernel_rfl)
def MZ:Prop:=
 OP (eJ m0) λaG=>
 OP (aF 0 aG) λaM=>
 OP (af false 1 h aM) λaC=>
 OH (eM 4 1 [(.bool false)] h aC aC) λaP z1=>
 OP (aT aP) λaZ=>
 bX [(.int .i64 (0))] z1 λL1 xs hx=>
 alA P K m0 x1 aP aZ L1 xs hx
theorem e57:au P GN (aW [.tmp 4] K) (cg [m0,x1]) h=MZ P K m0 x1 h:=by kernel_rfl
theorem f57 {K:VK} {m0 x1:Value} {h:ae} (H:MZ prog K m0 x1 h):ay prog 57 [m0,x1] h K:=
 cC k57 (cE rfl) ((e57 prog K m0 x1 h).mpr H)
end
noncomputable section
variable (m0 gv x6 x7 x9 aE aG aY cI : Value) (L1 : LQ) (xs : List Value) (h : ae)
def ahX:=cj prog 58 [[],[],[0,1,9,10],[11],[],[],[],[],[],[0,1,6,7,9,10,11],[0,1,6,7,9,10,11,36],[0,1,9,10,11,36,40],[],[],[0,1,9,10,11],[],[]]
@[irreducible] def GP:=cD ahX
@[irreducible] def OG:=GP.r.l.r.l.l
@[irreducible] def axI:=GP.r.r
@[irreducible] def OF:=OG.r.r.l.l.r.r.r.l
@[irreducible] def abX:=OG.r.r.r
@[irreducible] def abW:=OF.l.r.l
@[irreducible] def axG:=OF.r
@[irreducible] def axJ:=abX.l
@[irreducible] def axH:=abW.r.l
theorem k58:ahX=some (43,GP,[.tmp 4]):=by kernel_rfl
def XD (_P:Program) (K:VK):ax:=aW [.tmp 4] K
def asQ:ax:=aH (au P axI (XD P K)) (XD P K)
def asR:ax:=bC 0 (asQ P K)
def Fg:ax:=aH (λf' aQ=>(([0,1,9,10]:List Nat).map f':List Value)=[m0,gv,x9,aE]/\L1 (([11]:List Nat).map f') aQ) (asR P K)
def asS:ax:=aH (au P abX (Fg P K m0 gv x9 aE L1)) (Fg P K m0 gv x9 aE L1)
def Li:ax:=bC 1 (asS P K m0 gv x9 aE L1)
def XE:ax:=aH (au P axG (Li P K m0 gv x9 aE L1)) (Li P K m0 gv x9 aE L1)
def alD:Prop:=aA (au P OG (Fg P K m0 gv x9 aE L1)) ([0,1,9,10]++[11]) ([m0,gv,x9,aE]++xs) h
def Jz:Prop:=aA (au P OF (Li P K m0 gv x9 aE L1)) [0,1,6,7,9,10,11] [m0,gv,x6,x7,x9,aE,aG] h
def alB:Prop:=aA (au P abW (XE P K m0 gv x9 aE L1)) [0,1,6,7,9,10,11,36] [m0,gv,x6,x7,x9,aE,aG,aY] h
def TV:Prop:=aA (au P axH (XE P K m0 gv x9 aE L1)) [0,1,9,10,11,36,40] [m0,gv,x9,aE,aG,aY,cI] h
def alC:Prop:=aA (au P axJ (Fg P K m0 gv x9 aE L1)) [0,1,9,10,11] [m0,gv,x9,aE,aG] h
theorem aHW:TV P K m0 gv x9 aE aG aY cI L1 h=
 (OP (bu aY (.bool true) cI) λcU=>
 aJ cU
 (K (.bool false) h)
 (alC P K m0 gv x9 aE aG L1 h)):=aB (by kernel_rfl)
theorem aHV:alB P K m0 gv x6 x7 x9 aE aG aY L1 h=
 (bQ aY false
 (OP (af true 4 h x6) λbG=>
 OP (af true 4 h x7) λdH=>
 ay P 37 [bG,dH] h λdW z1=>
 OP (aj .neq dW (.int .i64 (0))) λcI=>
 TV P K m0 gv x9 aE aG aY cI L1 z1)
 (TV P K m0 gv x9 aE aG aY undef L1 h)):=aB (by kernel_rfl)
theorem aHU:Jz P K m0 gv x6 x7 x9 aE aG L1 h=
 (OP (af true 4 h x6) λb9=>
 ay P 84 [b9] h λcA z1=>
 OP (aj .lss cA (.int .i64 (0))) λcB=>
 alB P K m0 gv x6 x7 x9 aE aG cB L1 z1):=aB (by kernel_rfl)
theorem aHX:alC P K m0 gv x9 aE aG L1 h=
 (OP (aj .add aG (.int .i64 (1))) λeg=>
 ([m0,gv,x9,aE]:List Value)=[m0,gv,x9,aE]/\L1 [eg] h):=aB (by kernel_rfl)
theorem aHY (m0 gv x9 aE:Value) (L1:LQ) (aG:Value) (h:ae):alD P K m0 gv x9 aE L1 [aG] h=
 (OP (aj .lss aG aE) λaM=>
 aJ aM
 (OP (aD 4 x9 aG) λaP=>
 OP (af true 4 h aP) λaX=>
 OH (cF 92 [(.bool false),(.slice none 0 0),(.bool false),(.slice none 0 0)] h) λx6 z1=>
 OH (aU 4 z1 x6 aX) λ_ z2=>
 OH (cF 92 [(.bool false),(.slice none 0 0),(.bool false),(.slice none 0 0)] z2) λx7 z3=>
 OP (eB z3 x7) λu=>
 (True)/\
 OH (cF 92 [(.bool false),(.slice none 0 0),(.bool false),(.slice none 0 0)] z3) λx8 z4=>
 OP (eB z4 x8) λKi=>
 (eB z4 x7=some u/\True)/\
 ay P 38 [m0,aG,gv] z4 λaS z5=>
 (eB z5 x7=some u/\eB z5 x8=some Ki/\True)/\
 OP (eJ m0) λaR=>
 OP (aF 3 aR) λbK=>
 OP (af false 1 z5 bK) λbB=>
 (af false 1 z2 bK=some bB/\af false 1 z3 bK=some bB/\af false 1 z4 bK=some bB/\True)/\
 OP (aD 1 bB aG) λbH=>
 OP (af false 1 z5 bH) λbW=>
 (af false 1 z2 bH=some bW/\af false 1 z3 bH=some bW/\af false 1 z4 bH=some bW/\True)/\
 ay P 34 [bW] z5 λbO z6=>
 (eB z6 x7=some u/\eB z6 x8=some Ki/\True)/\
 OH (aU 4 z6 x7 aS) λ_ z7=>
 (True)/\
 OH (aU 4 z7 x8 bO) λ_ z8=>
 (True)/\
 OP (af true 4 z8 x7) λcL=>
 OP (af true 4 z8 x8) λca=>
 ay P 37 [cL,ca] z8 λaV z9=>
 OP (aj .gtr aV (.int .i64 (0))) λbz=>
 aJ bz
 (OP (af true 4 z9 x8) λdJ=>
 OH (aU 4 z9 x7 dJ) λ_ qK=>
 Jz P K m0 gv x6 x7 x9 aE aG L1 qK)
 (Jz P K m0 gv x6 x7 x9 aE aG L1 z9))
 (K (.bool true) h)):=aB (by kernel_rfl)
def M0:Prop:=
 OP (aT gv) λaE=>
 bX [(.int .i64 (0))] h λL1 xs hx=>
 alD P K m0 gv gv aE L1 xs hx
theorem HC:au P GP (aW [.tmp 4] K) (cg [m0,gv]) h=M0 P K m0 gv h:=by kernel_rfl
theorem f58 {K:VK} {m0 gv:Value} {h:ae} (H:M0 prog K m0 gv h):ay prog 58 [m0,gv] h K:=
 cC k58 (cE rfl) ((HC prog K m0 gv h).mpr H)
end
noncomputable section
variable (m0 x1 x2 : Value) (h : ae)
def ah6:=cj prog 66 [[],[],[],[],[]]
@[irreducible] def c66:=cD ah6
theorem k66:ah6=some (36,c66,[.cell true 4 6]):=by kernel_rfl
def M8:Prop:=
 OH (cF 92 [(.bool false),(.slice none 0 0),(.bool false),(.slice none 0 0)] h) λx6 z1=>
 OP (eJ m0) λx8=>
 OP (aF 3 x8) λx9=>
 OP (af false 1 z1 x9) λaE=>
 OP (aD 1 aE x1) λaM=>
 OP (af false 1 z1 aM) λaC=>
 OP (aj .eql aC (.int .i64 (0))) λaP=>
 aJ aP
 (ay P 34 [(.int .i64 (0))] z1 λaX z2=>
 OH (aU 4 z2 x6 aX) λ_ z3=>
 OP (af true 4 z3 x6) λr0=>
 K r0 z3)
 (OP (eJ m0) λbM=>
 OP (aF 2 bM) λbA=>
 OP (af false 1 z1 bA) λaS=>
 (True)/\
 OP (aD 1 aS x1) λaR=>
 OP (af false 1 z1 aR) λbK=>
 (True)/\
 OP (aD 1 bK x2) λbm=>
 OP (af false 1 z1 bm) λbH=>
 (True)/\
 ay P 34 [bH] z1 λbW z2=>
 (True)/\
 OP (eJ m0) λcL=>
 OP (aF 3 cL) λca=>
 OP (af false 1 z2 ca) λaV=>
 (af false 1 z1 ca=some aV/\True)/\
 OP (aD 1 aV x1) λdJ=>
 OP (af false 1 z2 dJ) λb9=>
 (af false 1 z1 dJ=some b9/\True)/\
 ay P 34 [b9] z2 λcA z3=>
 (True)/\
 ay P 94 [bW,cA] z3 λcB z4=>
 (True)/\
 OH (aU 4 z4 x6 cB) λ_ z5=>
 (True)/\
 OP (af true 4 z5 x6) λr0=>
 K r0 z5)
theorem e66:au P c66 (aW [.cell true 4 6] K) (cg [m0,x1,x2]) h=M8 P K m0 x1 x2 h:=by kernel_rfl
theorem f66 {K:VK} {m0 x1 x2:Value} {h:ae} (H:M8 prog K m0 x1 x2 h):ay prog 66 [m0,x1,x2] h K:=
 cC k66 (cE rfl) ((e66 prog K m0 x1 x2 h).mpr H)
end
noncomputable section
variable (s0 f1 : Value) (h : ae)
def aid:=cj prog 75 [[],[]]
@[irreducible] def c75:=cD aid
theorem k75:aid=some (9,c75,[.tmp 4]):=by kernel_rfl
def Nf:Prop:=
 ay P 116 [s0,f1] h λx7 z1=>
 OP (aj .geq x7 (.int .i64 (0))) λx8=>
 K x8 z1
theorem e75:au P c75 (aW [.tmp 4] K) (cg [s0,f1]) h=Nf P K s0 f1 h:=by kernel_rfl
theorem f75 {K:VK} {s0 f1:Value} {h:ae} (H:Nf prog K s0 f1 h):ay prog 75 [s0,f1] h K:=
 cC k75 (cE rfl) ((e75 prog K s0 f1 h).mpr H)
end
noncomputable section
variable (x0 x5 x7 : Value) (h : ae)
def aie:=cj prog 76 [[],[0,5],[5,7],[]]
@[irreducible] def GU:=cD aie
@[irreducible] def acj:=GU.r.l.r.l
@[irreducible] def ax0:=GU.r.r
@[irreducible] def ax1:=acj.r.l
theorem k76:aie=some (9,GU,[.tmp 2]):=by kernel_rfl
def XK (_P:Program) (K:VK):ax:=aW [.tmp 2] K
def XL:ax:=aH (au P ax0 (XK P K)) (XK P K)
def alP:Prop:=aA (au P acj (XL P K)) [0,5] [x0,x5] h
def T2:Prop:=aA (au P ax1 (XL P K)) [5,7] [x5,x7] h
theorem aIg:T2 P K x5 x7 h=
 (OP (bu x5 (.bool true) x7) λx8=>
 K x8 h):=aB (by kernel_rfl)
theorem aIf:alP P K x0 x5 h=
 (bQ x5 false
 (OP (aj .gtr x0 (.int .i64 (1000))) λx7=>
 T2 P K x5 x7 h)
 (T2 P K x5 undef h)):=aB (by kernel_rfl)
def Ng:Prop:=
 OP (aj .lss x0 (.int .i64 (0))) λx4=>
 alP P K x0 x4 h
theorem e76:au P GU (aW [.tmp 2] K) (cg [x0]) h=Ng P K x0 h:=by kernel_rfl
theorem f76 {K:VK} {x0:Value} {h:ae} (H:Ng prog K x0 h):ay prog 76 [x0] h K:=
 cC k76 (cE rfl) ((e76 prog K x0 h).mpr H)
end
noncomputable section
variable (s0 f1 x7 x8 : Value) (L1 : LQ) (xs : List Value) (h : ae)
def agP:=cj prog 116 [[],[],[0,1,7],[8],[],[],[],[],[],[],[],[]]
@[irreducible] def FK:=cD agP
@[irreducible] def auE:=FK.r.l.r.l.l
@[irreducible] def auD:=FK.r.r
theorem aCd:agP=some (19,FK,[.tmp 4]):=by kernel_rfl
def WA (_P:Program) (K:VK):ax:=aW [.tmp 4] K
def aoZ:ax:=aH (au P auD (WA P K)) (WA P K)
def ao0:ax:=bC 0 (aoZ P K)
def ao1:ax:=aH (λf' aQ=>(([0,1,7]:List Nat).map f':List Value)=[s0,f1,x7]/\L1 (([8]:List Nat).map f') aQ) (ao0 P K)
def aiL:Prop:=aA (au P auE (ao1 P K s0 f1 x7 L1)) ([0,1,7]++[8]) ([s0,f1,x7]++xs) h
theorem aDF (s0 f1 x7:Value) (L1:LQ) (x8:Value) (h:ae):aiL P K s0 f1 x7 L1 [x8] h=
 (OP (aj .lss x8 x7) λx9=>
 aJ x9
 (OP (aD 1 s0 x8) λaP=>
 OP (af false 1 h aP) λaX=>
 sR P f1 [aX] h λaZ z1=>
 aJ aZ
 (K x8 z1)
 (OP (aj .add x8 (.int .i64 (1))) λbA=>
 ([s0,f1,x7]:List Value)=[s0,f1,x7]/\L1 [bA] z1))
 (K (.int .i64 (-1)) h)):=aB (by kernel_rfl)
def LN:Prop:=
 OP (aT s0) λx7=>
 bX [(.int .i64 (0))] h λL1 xs hx=>
 aiL P K s0 f1 x7 L1 xs hx
theorem azA:au P FK (aW [.tmp 4] K) (cg [s0,f1]) h=LN P K s0 f1 h:=by kernel_rfl
theorem f116 {K:VK} {s0 f1:Value} {h:ae} (H:LN prog K s0 f1 h):ay prog 116 [s0,f1] h K:=
 cC aCd (cE rfl) ((azA prog K s0 f1 h).mpr H)
end
end
section
open Go.Sim Go.Sort
variable {h : ae} {K : Value -> ae -> Prop} {n : Nat} {D : List (List Int)}
structure MI (h:ae) (v:Value) (D:List (List Int)):Prop where
 len:aT v=some (I D.length)
 get:∀i (hi:i<D.length),∃b o rv,aD 1 v (I i)=some (pt b o)/\af false 1 h (pt b o)=some rv/\NS h rv .i64 D[i]
theorem MI.mono {h h':ae} {v:Value} {D:List (List Int)} (p:MI h v D) (x:EX h h'):MI h' v D:=
 ⟨p.len,λi hi=>let ⟨b,o,rv,a,c,d⟩:=p.get i hi;⟨b,o,rv,a,EX.load x c,d.mono x⟩⟩
structure lB (n:Nat) (D:List (List Int)):Prop where
 n1:1<=n
 n8:n<=8
 len:D.length=n
 row:∀r∈D,r.length=n
 ee:∀r∈D,∀x∈r,0<=x/\x<=1000
 diag:∀i (hi:i<D.length) (hj:i<D[i].length),D[i][i]=0
theorem U4 {c:Int} (hc:0<=c):∀{r:List Int} (_:∀x∈r,0<=x/\x<=c),0<=r.sum/\r.sum<=c*r.length
 | [],_=>by simp
 | x::r,hr=>by
  have h1:=hr x (by simp)
  have h2:=U4 hc (r:=r) λy hy=>hr y (mem_cons_of_mem _ hy)
  rw [sum_cons,List.length_cons]
  have:c*((r.length+1:Nat):Int)=c*r.length+c:=by rw [Int.natCast_add,Int.mul_add];simp
  omega
theorem D6 {r:List Int} {j:Nat} (hj:j<r.length):(r.take (j+1)).sum=(r.take j).sum+r[j]:=by
 rw [List.take_succ_eq_append_getElem hj,List.sum_append];simp
def fz (D:List (List Int)):List Int:=D.map List.sum
theorem lB.pX (m:lB n D):∀r∈D,∀j,0<=(r.take j).sum/\(r.take j).sum<=8000:=λr hr j=>by
 have:=U4 (c:=1000) (by omega) (r:=r.take j) λx hx=>m.ee r hr x (List.mem_of_mem_take hx)
 have h1:=m.row r hr
 have h2:(r.take j).length<=8:=by have:=m.n8;rw [List.length_take];omega
 omega
theorem lB.D8 (m:lB n D):∀j,0<=((fz D).take j).sum/\((fz D).take j).sum<=64000:=λj=>by
 have:=U4 (c:=8000) (by omega) (r:=(fz D).take j) λx hx=>by
  obtain ⟨r,hr,rfl⟩:=List.mem_map.1 (List.mem_of_mem_take hx)
  have:=m.pX r hr r.length
  rwa [take_length] at this
 have h2:((fz D).take j).length<=8:=by have:=m.n8;have:=m.len;rw [List.length_take,fz,length_map];omega
 omega
theorem V6 {a lo hi:Int} (h1:lo<=a) (h2:a<=hi) (hk:K (B true) h):ay prog 27 [I a,I lo,I hi] h K:=by
 refine f27 ?_
 unfold Mu
 simp only [om,ah,dh h1]
 rw [aFt]
 simp only [gq,rS,ah,dh h2]
 rw [aFu]
 simp only [fy,ah]
 exact hk
theorem MI.row {v:Value} (p:MI h v D) (m:lB n D) {i:Nat} (hi:i<n):∃(b o:Nat) (rv:Value) (r:List Int),aD 1 v (I i)=some (pt b o)/\af false 1 h (pt b o)=some rv/\NS h rv .i64 r/\r∈D/\D[i]?=some r/\r.length=n:=by
 have hl:=m.len
 obtain ⟨b,o,rv,a,c,d⟩:=p.get i (by omega)
 exact ⟨b,o,rv,_,a,c,d,getElem_mem _,List.getElem?_eq_getElem _,m.row _ (getElem_mem _)⟩
theorem lB.dg (m:lB n D) {i:Nat} {r:List Int} (hr:D[i]?=some r) (hi:i<r.length):r[i]=0:=by
 obtain ⟨h1,rfl⟩:=cm hr
 exact m.diag i h1 hi
theorem C9 {v:Value} (p:MI h v D) (m:lB n D) (hk:K (B true) h):ay prog 9 [v] h K:=by
 refine f9 ?_
 unfold T9
 have hl:=m.len;have n8:=m.n8;have n1:=m.n1
 have pl:=p.len
 rw [hl] at pl
 refine cN (σ:=Nat) (λq=>[I q]) (λq=>h) (λq=>q<=n) (λq=>n-q) 0 rfl rfl (zero_le _) ?_
 intro i hi L hL
 rw [aJc]
 simp only [pl,bT,ah,cd]
 refine ⟨λaw=>?_,λcK=>?_⟩
 ·have aw:i<n:=by omega
  obtain ⟨b,o,rv,r,ad,ld,ns,hr,C1,rl⟩:=p.row m aw
  have nl:=ns.len
  rw [rl] at nl
  obtain ⟨b2,o2,BW,jk⟩:=ns.get i (by omega)
  rw [m.dg C1 (by omega)] at jk
  simp only [ad,ld,nl,ah,iE,decide_true,Bool.not_true]
  rw [aI7]
  simp only [eW,ad,ld,BW,jk,ah,iE,decide_true,Bool.not_true]
  rw [aI8]
  simp only [dA,ah,dm]
  refine cN (σ:=Nat) (λq=>[I q]) (λq=>h) (λq=>q<=n) (λq=>n-q) 0 rfl rfl (zero_le _) ?_
  intro j hj L2 dP
  rw [aI9]
  simp only [pl,bT,ah,cd]
  refine ⟨λdM=>?_,λcK=>?_⟩
  ·have dM:j<n:=by omega
   obtain ⟨b3,o3,uC,rD⟩:=ns.get j (by omega)
   have e:=m.ee r hr _ (getElem_mem (show j<r.length by omega))
   simp only [ad,ld,uC,rD,ah]
   refine V6 e.1 e.2 ?_
   simp only [kW,Bool.not_true,ah,dm,bZ,true_and]
   rw [dQ j (by simp [maxLen];omega)]
   exact dP (j+1) dM (by omega)
  ·rw [aJa]
   simp only [bZ,ah,true_and]
   rw [dQ i (by simp [maxLen];omega)]
   exact hL (i+1) aw (by omega)
 ·rw [aJb]
  simp only [pl,ah]
  exact V6 (by omega) (by omega) hk
theorem C76 {x:Int} (h1:0<=x) (h2:x<=1000) (hk:K (B false) h):ay prog 76 [I x] h K:=by
 refine f76 ?_
 unfold Ng
 simp only [bT,ah,bY (show ¬x<0 by omega)]
 rw [aIf]
 simp only [eW,gC,ah,bY (show ¬(1000:Int)<x by omega)]
 rw [aIg]
 simp only [dA,ah]
 exact hk
theorem aCC:rT prog 76=true:=by kernel_rfl
theorem Wb {v:Value} {r:List Int} (p:NS h v .i64 r) (hr:∀x∈r,0<=x/\x<=1000) (hk:K (B true) h):ay prog 50 [v] h K:=by
 refine f50 ?_
 unfold MS
 refine f75 ?_
 unfold Nf
 refine f116 ?_
 unfold LN
 have le:=p.le
 simp only [p.len,ah]
 refine cN (σ:=Nat) (λq=>[I q]) (λq=>h) (λq=>q<=r.length) (λq=>r.length-q) 0 rfl rfl (zero_le _) ?_
 intro j hj L2 dP
 rw [aDF]
 simp only [bT,ah,cd]
 refine ⟨λdM=>?_,λcK=>?_⟩
 ·have dM:j<r.length:=by omega
  obtain ⟨b3,o3,uC,rD⟩:=p.get j dM
  have e:=hr _ (getElem_mem dM)
  simp only [uC,rD,ah]
  refine Hf aCC (C76 e.1 e.2 ?_)
  simp only [dm,bZ,ah,true_and]
  rw [dQ j (by omega)]
  exact dP (j+1) dM (by omega)
 ·simp only [om,ah,kW]
  exact hk
theorem V7 {v:Value} (p:MI h v D) (m:lB n D) (hk:K (B true) h):ay prog 28 [v] h K:=by
 refine f28 ?_
 unfold Mv
 have hl:=m.len;have n8:=m.n8;have n1:=m.n1
 have pl:=p.len
 rw [hl] at pl
 simp only [pl,bT,ah,bY (show ¬(n:Int)<1 by omega)]
 rw [aFA]
 simp only [eW,pl,gC,ah,bY (show ¬(8:Int)<n by omega)]
 rw [aFB]
 simp only [dA,ah,dm,pl]
 refine cN (σ:=Nat) (λq=>[I q]) (λq=>h) (λq=>q<=n) (λq=>n-q) 0 rfl rfl (zero_le _) ?_
 intro i hi L hL
 rw [aFv]
 simp only [bT,ah,cd]
 refine ⟨λaw=>?_,λcK=>hk⟩
 have aw:i<n:=by omega
 obtain ⟨b,o,rv,r,ad,ld,ns,hr,C1,rl⟩:=p.row m aw
 have nl:=ns.len
 rw [rl] at nl
 obtain ⟨b2,o2,BW,jk⟩:=ns.get i (by omega)
 rw [m.dg C1 (by omega)] at jk
 simp only [ad,ld,nl,pl,ah,iE,decide_true,Bool.not_true]
 rw [aFw]
 simp only [eW]
 refine Wb ns (m.ee r hr) ?_
 simp only [kW,Bool.not_true,ah]
 rw [aFx]
 simp only [dA,ah]
 rw [aFy]
 simp only [eW,BW,jk,ah,iE,decide_true,Bool.not_true]
 rw [aFz]
 simp only [dA,ah,dm,bZ,true_and]
 rw [dQ i (by simp [maxLen];omega)]
 exact hL (i+1) aw (by omega)
theorem V4 {v:Value} {r:List Int} (p:NS h v .i64 r) (hb:∀j,0<=(r.take j).sum/\(r.take j).sum<=100000) (hk:K (I r.sum) h):ay prog 19 [v] h K:=by
 refine f19 ?_
 unfold Mm
 have le:=p.le
 refine cN (σ:=Nat) (λq=>[I (r.take q).sum,I q]) (λq=>h) (λq=>q<=r.length) (λq=>r.length-q) 0 (by simp) rfl (zero_le _) ?_
 intro j hj L2 dP
 rw [aEP]
 simp only [p.len,bT,ah,cd]
 refine ⟨λdM=>?_,λcK=>?_⟩
 ·have dM:j<r.length:=by omega
  obtain ⟨b3,o3,uC,rD⟩:=p.get j dM
  have e1:=hb j
  have e2:=hb (j+1)
  have e3:=D6 dM
  simp only [uC,rD,ah,bZ,true_and]
  rw [dQ j (by omega),wrap64 (by omega) (by omega),<-e3]
  exact dP (j+1) dM (by omega)
 ·have:j=r.length:=by omega
  rw [aEO,this,take_length]
  exact hk
theorem V3 {v:Value} (p:MI h v D) (m:lB n D) (hk:K (I (fz D).sum) h):ay prog 16 [v] h K:=by
 refine f16 ?_
 unfold Mj
 have hl:=m.len;have n8:=m.n8;have n1:=m.n1
 have pl:=p.len
 have rl:(fz D).length=D.length:=length_map _
 refine cN (σ:=Nat) (λq=>[I ((fz D).take q).sum,I q]) (λq=>h) (λq=>q<=D.length) (λq=>D.length-q) 0 (by simp) rfl (zero_le _) ?_
 intro i hi L hL
 rw [aEL]
 simp only [pl,bT,ah,cd]
 refine ⟨λaw=>?_,λcK=>?_⟩
 ·have aw:i<D.length:=by omega
  obtain ⟨b,o,rv,ad,ld,ns⟩:=p.get i aw
  simp only [ad,ld,ah]
  refine V4 ns (λj=>by have:=m.pX _ (getElem_mem aw) j;omega) ?_
  have e1:=m.D8 i
  have e2:=m.D8 (i+1)
  have e3:=D6 (r:=fz D) (show i<(fz D).length by omega)
  have e4:(fz D)[i]'(by omega)=D[i].sum:=by simp [fz]
  rw [e4] at e3
  simp only [bZ,ah,true_and]
  rw [dQ i (by simp [maxLen];omega),wrap64 (by omega) (by omega),<-e3]
  exact hL (i+1) aw (by omega)
 ·have:i=D.length:=by omega
  rw [aEK,this,<-rl,take_length]
  exact hk
theorem V8 {v:Value} (p:MI h v D) (m:lB n D) (hk:K (I (fz D).sum) h):ay prog 30 [v] h K:=by
 refine f30 ?_
 unfold Mx
 have hl:=m.len;have n8:=m.n8;have n1:=m.n1
 have rl:(fz D).length=D.length:=length_map _
 simp only [p.len,ah]
 refine cN (σ:=Nat) (λq=>[I ((fz D).take q).sum,I q]) (λq=>h) (λq=>q<=D.length) (λq=>D.length-q) 0 (by simp) rfl (zero_le _) ?_
 intro i hi L hL
 rw [aFJ]
 simp only [bT,ah,cd]
 refine ⟨λaw=>?_,λcK=>?_⟩
 ·have aw:i<D.length:=by omega
  obtain ⟨b,o,rv,ad,ld,ns⟩:=p.get i aw
  have le:=ns.le
  have e1:=m.D8 i
  have e2:=m.D8 (i+1)
  have e3:=D6 (r:=fz D) (show i<(fz D).length by omega)
  have e4:(fz D)[i]'(by omega)=D[i].sum:=by simp [fz]
  rw [e4] at e3
  have mS:=m.pX _ (getElem_mem aw)
  simp only [ad,ld,ns.len,ah]
  refine cN (σ:=Nat) (λq=>[I (((fz D).take i).sum+(D[i].take q).sum),I q]) (λq=>h) (λq=>q<=D[i].length) (λq=>D[i].length-q) 0 (by simp) rfl (zero_le _) ?_
  intro j hj L2 dP
  rw [aFG]
  simp only [bT,ah,cd]
  refine ⟨λdM=>?_,λcK=>?_⟩
  ·have dM:j<D[i].length:=by omega
   obtain ⟨b3,o3,uC,rD⟩:=ns.get j dM
   have f1:=mS j
   have f2:=mS (j+1)
   have f3:=D6 dM
   simp only [uC,rD,ah,bZ,true_and]
   rw [dQ j (by omega),wrap64 (by omega) (by omega),Int.add_assoc,<-f3]
   exact dP (j+1) dM (by omega)
  ·have:j=D[i].length:=by omega
   rw [aFH,this,take_length,<-e3]
   simp only [bZ,ah,true_and]
   rw [dQ i (by simp [maxLen];omega)]
   exact hL (i+1) aw (by omega)
 ·have:i=D.length:=by omega
  rw [aFI,this,<-rl,take_length]
  exact hk
theorem C15 {v vr:Value} {R:List (List Int)} (p:MI h v D) (pr:MI h vr R) (m:lB n D) (hR:R.length=n) (mS:∀r∈R,r.length=n) (hk:K (B true) h):ay prog 15 [v,vr] h K:=by
 refine f15 ?_
 unfold Mi
 have hl:=m.len;have n8:=m.n8;have n1:=m.n1
 have pl:=p.len
 have Ur:=pr.len
 rw [hl] at pl
 rw [hR] at Ur
 refine cN (σ:=Nat) (λq=>[I q]) (λq=>h) (λq=>q<=n) (λq=>n-q) 0 rfl rfl (zero_le _) ?_
 intro i hi L hL
 rw [aEJ]
 simp only [Ur,bT,ah,cd]
 refine ⟨λaw=>?_,λcK=>?_⟩
 ·have aw:i<n:=by omega
  obtain ⟨b,o,rv,ad,ld,ns⟩:=pr.get i (by omega)
  have nl:=ns.len
  rw [mS _ (getElem_mem _)] at nl
  simp only [ad,ld,nl,pl,ah,iE,decide_true,Bool.not_true,dm,bZ,true_and]
  rw [dQ i (by simp [maxLen];omega)]
  exact hL (i+1) aw (by omega)
 ·rw [aEI]
  simp only [pl,Ur,ah,jD,decide_true]
  exact hk
end
end Go.Proofs.YtncaiogfjjepcaaGreat
namespace Go.Sim
section
def dU {α:Type} (f:Nat->α) (i:Nat) (x:α):Nat->α:=λj=>if j=i then x else f j
theorem fL {α:Type} (f:Nat->α) (i:Nat) (x:α):dU f i x i=x:=if_pos rfl
theorem eA {α:Type} (f:Nat->α) {i j:Nat} (x:α) (h:j≠i):dU f i x j=f j:=if_neg h
structure cQ where
 i:Nat
 j:Nat
 up:Bool
 m:Int
deriving DecidableEq
namespace cQ
def f (a:cQ):Nat:=if a.up then a.i else a.j
def t (a:cQ):Nat:=if a.up then a.j else a.i
def c (a:cQ):Int:=if a.up then 1 else -1
theorem OU (a:cQ):a.c=1∨a.c= -1:=by unfold c;split <;> simp
end cQ
structure RX (l:List cQ) (r cur:Nat) (c:Nat->Int) (b:Nat->Option Nat) (tm rd:Nat->Nat) (T:Nat):Prop where
 tS:∀v,c v<=0
 ge:∀v,-(T:Int)<=c v
 Ke:T<=(r-1)*l.length+cur
 Kf:∀v,tm v<=T
 bs:∀w k,b w=some k->∃hk:k<l.length,l[k].t=w/\(c l[k].f+l[k].c<c w∨(c l[k].f+l[k].c=c w/\tm l[k].f<tm w))/\rd w<=rd l[k].f+1
 br:∀w,b w=none->rd w=0
 rr:∀v,rd v<=r
 dn:∀k (hk:k<l.length),(if k<cur then r else r-1)=0∨c l[k].t<=c l[k].f+l[k].c∨(if k<cur then r else r-1)<=rd l[k].f
namespace RX
variable {l : List cQ} {r cur : Nat} {c : Nat -> Int} {b : Nat -> Option Nat} {tm rd : Nat -> Nat} {T : Nat}
theorem start (l:List cQ):RX l 1 0 (λ_=>0) (λ_=>none) (λ_=>0) (λ_=>0) 0:=
 ⟨λ_=>Int.le_refl _,λ_=>by simp,by simp,λ_=>le_refl _,λ_ _ h=>absurd h (by simp),λ_ _=>rfl,λ_=>zero_le _,λk hk=>.inl (by simp)⟩
theorem stay (x:RX l r cur c b tm rd T) (hc:cur<l.length) (h:¬c l[cur].f+l[cur].c<c l[cur].t):RX l r (cur+1) c b tm rd T:=by
 refine ⟨x.tS,x.ge,by have:=x.Ke;omega,x.Kf,x.bs,x.br,x.rr,λk hk=>?_⟩
 by_cases e:k=cur
 ·subst e
  exact .inr (.inl (by omega))
 ·have:=x.dn k hk
  by_cases h1:k<cur
  ·rw [if_pos (by omega)];rwa [if_pos h1] at this
  ·rw [if_neg (by omega)];rwa [if_neg h1] at this
theorem step (x:RX l r cur c b tm rd T) (hc:cur<l.length) (b7:l[cur].f≠l[cur].t) (h:c l[cur].f+l[cur].c<c l[cur].t):
  RX l r (cur+1) (dU c l[cur].t (c l[cur].f+l[cur].c)) (dU b l[cur].t (some cur)) (dU tm l[cur].t (T+1)) (dU rd l[cur].t r) (T+1):=by
 have cb:=l[cur].OU
 have dec:∀v,dU c l[cur].t (c l[cur].f+l[cur].c) v<=c v:=λv=>by
  by_cases e:v=l[cur].t
  ·rw [e,fL];omega
  ·rw [eA _ _ e];exact Int.le_refl _
 have rdg:∀v,rd v<=dU rd l[cur].t r v:=λv=>by
  by_cases e:v=l[cur].t
  ·rw [e,fL];exact x.rr _
  ·rw [eA _ _ e];exact le_refl _
 refine ⟨λv=>Int.le_trans (dec v) (x.tS v),λv=>?_,by have:=x.Ke;omega,λv=>?_,λw k hw=>?_,λw hw=>?_,λv=>?_,λk hk=>?_⟩
 ·by_cases e:v=l[cur].t
  ·rw [e,fL];have:=x.ge l[cur].f;omega
  ·rw [eA _ _ e];have:=x.ge v;omega
 ·by_cases e:v=l[cur].t
  ·rw [e,fL];exact le_refl _
  ·rw [eA _ _ e];have:=x.Kf v;omega
 ·by_cases e:w=l[cur].t
  ·rw [e,fL] at hw
   cases hw
   refine ⟨hc,e.symm,.inr ⟨?_,?_⟩,?_⟩
   ·rw [e,fL,eA _ _ b7]
   ·rw [e,fL,eA _ _ b7];have:=x.Kf l[cur].f;omega
   ·rw [e,fL,eA _ _ b7]
    have:=x.dn cur hc
    rw [if_neg (by omega)] at this
    rcases this with h1 | h1 | h1 <;> omega
  ·rw [eA _ _ e] at hw
   obtain ⟨hk,h1,h2,h3⟩:=x.bs w k hw
   refine ⟨hk,h1,?_,?_⟩
   ·rw [eA c _ e]
    by_cases e2:l[k].f=l[cur].t
    ·rw [e2,fL]
     rw [e2] at h2
     rcases h2 with h2 | h2 <;> exact .inl (by omega)
    ·rw [eA c _ e2,eA tm _ e2,eA tm _ e]
     exact h2
   ·rw [eA rd _ e]
    have:=rdg l[k].f
    omega
 ·by_cases e:w=l[cur].t
  ·rw [e,fL] at hw;cases hw
  ·rw [eA _ _ e] at hw;rw [eA _ _ e];exact x.br w hw
 ·by_cases e:v=l[cur].t
  ·rw [e,fL];exact le_refl _
  ·rw [eA _ _ e];exact x.rr v
 ·by_cases ek:k=cur
  ·subst ek
   refine .inr (.inl ?_)
   rw [fL,eA _ _ b7]
   exact Int.le_refl _
  ·have old:=x.dn k hk
   have ei:(if k<cur+1 then r else r-1)=if k<cur then r else r-1:=by
    by_cases h1:k<cur
    ·rw [if_pos h1,if_pos (by omega)]
    ·rw [if_neg h1,if_neg (by omega)]
   rw [ei]
   rcases old with h1 | h1 | h1
   ·exact .inl h1
   ·by_cases e2:l[k].f=l[cur].t
    ·refine .inr (.inr ?_)
     rw [e2,fL]
     split <;> omega
    ·refine .inr (.inl ?_)
     rw [eA c _ e2]
     exact Int.le_trans (dec _) h1
   ·exact .inr (.inr (Nat.le_trans h1 (rdg _)))
theorem next (x:RX l r cur c b tm rd T) (hr:1<=r) (hc:cur=l.length):RX l (r+1) 0 c b tm rd T:=by
 subst hc
 refine ⟨x.tS,x.ge,?_,x.Kf,x.bs,x.br,λv=>by have:=x.rr v;omega,λk hk=>?_⟩
 ·have:=x.Ke
  obtain ⟨r,rfl⟩:∃q,r=q+1:=⟨r-1,by omega⟩
  simp only [Nat.add_sub_cancel] at this⊢
  rw [Nat.add_mul];omega
 ·have:=x.dn k hk
  rw [if_pos hk] at this
  rw [if_neg (by omega)]
  simpa using this
def Bt (l:List cQ) (b:Nat->Option Nat) (v:Nat):Nat:=
 match b v with
 | some k=>match l[k]? with | some a=>a.f | none=>v
 | none=>v
def walk (l:List cQ) (b:Nat->Option Nat) (v:Nat):Nat->Nat
 | 0=>v
 | s+1=>Bt l b (walk l b v s)
theorem Us {v k:Nat} (h:b v=some k) (hk:k<l.length):Bt l b v=l[k].f:=by
 unfold Bt;rw [h];simp [hk]
theorem vR (v s t:Nat):walk l b v (s+t)=walk l b (walk l b v s) t:=by
 induction t with
 | zero=>rfl
 | succ t ih=>rw [<-Nat.add_assoc];show Bt l b _=Bt l b _;rw [ih]
theorem auq (x:RX l r cur c b tm rd T) {v:Nat} {s:Nat} (hs:s<rd v):rd v<=rd (walk l b v s)+s/\∀q≤s,∃k,b (walk l b v q)=some k/\k<l.length:=by
 have anO:∀u,0<rd u->∃k,b u=some k/\k<l.length:=λu hu=>by
  cases hb:b u with
  | none=>have:=x.br u hb;omega
  | some k=>exact ⟨k,rfl,(x.bs u k hb).1⟩
 induction s with
 | zero=>
  refine ⟨by simp [walk],λq hq=>?_⟩
  obtain rfl:q=0:=by omega
  exact anO v hs
 | succ s ih=>
  obtain ⟨h1,h2⟩:=ih (by omega)
  obtain ⟨k,hk,iO⟩:=h2 s (le_refl _)
  obtain ⟨_,h3,_,h4⟩:=x.bs _ k hk
  have e:walk l b v (s+1)=l[k].f:=Us hk iO
  refine ⟨by rw [e];omega,λq hq=>?_⟩
  by_cases Ir:q<=s
  ·exact h2 q Ir
  ·obtain rfl:q=s+1:=by omega
   exact anO _ (by rw [e];omega)
theorem Uq:∀(n:Nat) (u:Nat->Nat),(∀s≤n,u s<n)->∃a b,a<b/\b<=n/\u a=u b
 | 0,u,h=>absurd (h 0 (le_refl _)) (Nat.not_lt_zero _)
 | n+1,u,h=>by
  by_cases e:∃s,s<=n/\u s=u (n+1)
  ·obtain ⟨s,h1,h2⟩:=e
   exact ⟨s,n+1,by omega,le_refl _,h2⟩
  ·have ne:∀s,s<=n->u s≠u (n+1):=λs hs h'=>e ⟨s,hs,h'⟩
   obtain ⟨a,b,h1,h2,h3⟩:=Uq n (λs=>if u s=n then u (n+1) else u s) λs hs=>by
    have h1:=h s (by omega)
    have h2:=h (n+1) (le_refl _)
    have h3:=ne s hs
    show (if u s=n then u (n+1) else u s)<n
    split <;> omega
   have h3:(if u a=n then u (n+1) else u a)=if u b=n then u (n+1) else u b:=h3
   refine ⟨a,b,h1,by omega,?_⟩
   have na:=ne a (by omega)
   have nb:=ne b (by omega)
   split at h3 <;> split at h3 <;> omega
theorem aCJ {p:Nat->Prop}:∀n,p n->∃m,p m/\∀q<m,¬p q:=by
 intro n
 induction n using Nat.strongRecOn with
 | _ n ih=>
  intro h
  by_cases e:∃q,q<n/\p q
  ·obtain ⟨q,h1,h2⟩:=e
   exact ih q h1 h2
  ·exact ⟨n,h,λq hq hp=>e ⟨q,hq,hp⟩⟩
end RX
end
section
namespace RX
variable {l : List cQ} {r cur n : Nat} {c : Nat -> Int} {b : Nat -> Option Nat} {tm rd : Nat -> Nat} {T : Nat}
def uF (l:List cQ) (b:Nat->Option Nat) (v:Nat):cQ:=((b v).bind λk=>l[k]?).getD ⟨0,0,true,0⟩
theorem NM {v k:Nat} (h:b v=some k) (hk:k<l.length):uF l b v=l[k]:=by
 simp [uF,h,hk]
def ky (l:List cQ) (b:Nat->Option Nat) (u p:Nat):List cQ:=(List.range p).map λs=>uF l b (walk l b u s)
theorem anl (u p:Nat):ky l b u (p+1)=ky l b u p++[uF l b (walk l b u p)]:=by
 simp [ky,List.range_succ]
/-- From a firm of the last round one comes to a ring. -/
theorem ring (x:RX l r cur c b tm rd T) (P5:∀a∈l,a.f<n) {v:Nat} (hv:v<n) (AX:rd v=n+1):
  (∀s,∃k,b (walk l b v s)=some k/\k<l.length)/\(∀s,walk l b v s<n)/\
   ∃p,1<=p/\walk l b (walk l b v n) p=walk l b v n/\∀q,1<=q->q<p->walk l b (walk l b v n) q≠walk l b v n:=by
 obtain ⟨_,anN⟩:=x.auq (v:=v) (s:=n) (by omega)
 have ltn:∀s≤n,walk l b v s<n:=by
  intro s
  induction s with
  | zero=>intro _;exact hv
  | succ s ih=>
   intro hs
   obtain ⟨k,hk,iO⟩:=anN s (by omega)
   show Bt l b (walk l b v s)<n
   rw [Us hk iO]
   exact P5 _ (getElem_mem iO)
 obtain ⟨a,d,had,hd,e⟩:=Uq n (walk l b v) ltn
 have step:∀t,a<=t->walk l b v (t+(d-a))=walk l b v t:=by
  intro t ht
  obtain ⟨q,rfl⟩:∃q,t=a+q:=⟨t-a,by omega⟩
  rw [show a+q+(d-a)=d+q by omega,vR,vR,e]
 have agI:∀t,∃t'≤n,walk l b v t=walk l b v t':=by
  intro t
  induction t using Nat.strongRecOn with
  | _ t ih=>
   by_cases ht:t<=n
   ·exact ⟨t,ht,rfl⟩
   ·obtain ⟨t',h1,h2⟩:=ih (t-(d-a)) (by omega)
    refine ⟨t',h1,?_⟩
    rw [<-h2]
    have:=step (t-(d-a)) (by omega)
    rwa [show t-(d-a)+(d-a)=t by omega] at this
 refine ⟨λs=>?_,λs=>?_,?_⟩
 ·obtain ⟨t',h1,h2⟩:=agI s
  rw [h2];exact anN t' h1
 ·obtain ⟨t',h1,h2⟩:=agI s
  rw [h2];exact ltn t' h1
 ·obtain ⟨p,⟨h1,h2⟩,h3⟩:=aCJ (p:=λp=>1<=p/\walk l b (walk l b v n) p=walk l b v n) (d-a) ⟨by omega,by rw [<-vR];exact step n (by omega)⟩
  exact ⟨p,h1,h2,λq Iq hq2 vm=>h3 q hq2 ⟨Iq,vm⟩⟩
theorem Bx (x:RX l r cur c b tm rd T) {u:Nat} (so:∀s,∃k,b (walk l b u s)=some k/\k<l.length) (s:Nat):
  uF l b (walk l b u s)∈l/\(uF l b (walk l b u s)).f=walk l b u (s+1)/\(uF l b (walk l b u s)).t=walk l b u s/\
   (c (walk l b u (s+1))+(uF l b (walk l b u s)).c<c (walk l b u s)∨(c (walk l b u (s+1))+(uF l b (walk l b u s)).c=c (walk l b u s)/\tm (walk l b u (s+1))<tm (walk l b u s))):=by
 obtain ⟨k,hk,iO⟩:=so s
 obtain ⟨_,h1,h2,_⟩:=x.bs _ k hk
 have e:walk l b u (s+1)=l[k].f:=Us hk iO
 rw [NM hk iO,e]
 exact ⟨getElem_mem iO,rfl,h1,h2⟩
theorem anm (x:RX l r cur c b tm rd T) {u:Nat} (so:∀s,∃k,b (walk l b u s)=some k/\k<l.length):
  ∀p,((ky l b u p).map cQ.c).sum+c (walk l b u p)<=c u/\(((ky l b u p).map cQ.c).sum+c (walk l b u p)=c u->p=0∨tm (walk l b u p)<tm u)
 | 0=>⟨by simp [ky,walk],λ_=>.inl rfl⟩
 | p+1=>by
  obtain ⟨h1,h2⟩:=anm x so p
  obtain ⟨_,_,_,h3⟩:=x.Bx so p
  rw [anl,List.map_append,List.sum_append]
  simp only [map_cons,List.map_nil,sum_cons,List.sum_nil]
  refine ⟨by omega,λe=>.inr ?_⟩
  rcases h3 with h3 | ⟨h3,h4⟩
  ·omega
  ·rcases h2 (by omega) with h5 | h5
   ·subst h5;simpa [walk] using h4
   ·omega
theorem aJo (x:RX l r cur c b tm rd T) {u p:Nat} (so:∀s,∃k,b (walk l b u s)=some k/\k<l.length) (hp:1<=p) (hu:walk l b u p=u):((ky l b u p).map cQ.c).sum<0:=by
 obtain ⟨h1,h2⟩:=x.anm so p
 rw [hu] at h1 h2
 by_cases e:((ky l b u p).map cQ.c).sum=0
 ·rcases h2 (by omega) with h | h <;> omega
 ·omega
theorem ann (x:RX l r cur c b tm rd T) {u:Nat} (so:∀s,∃k,b (walk l b u s)=some k/\k<l.length) (p:Nat):(ky l b u p).map cQ.t=(List.range p).map (walk l b u):=by
 rw [ky,map_map]
 exact List.map_congr_left λs _=>(x.Bx so s).2.2.1
theorem aJm (x:RX l r cur c b tm rd T) {u:Nat} (so:∀s,∃k,b (walk l b u s)=some k/\k<l.length) (p:Nat):(ky l b u p).map cQ.f=(List.range p).map λs=>walk l b u (s+1):=by
 rw [ky,map_map]
 exact List.map_congr_left λs _=>(x.Bx so s).2.1
theorem aJq (x:RX l r cur c b tm rd T) {u p:Nat} (so:∀s,∃k,b (walk l b u s)=some k/\k<l.length) (hp:1<=p) (hu:walk l b u p=u):((ky l b u p).map cQ.f).Perm ((ky l b u p).map cQ.t):=by
 rw [x.ann so,x.aJm so]
 obtain ⟨q,rfl⟩:∃q,p=q+1:=⟨p-1,by omega⟩
 have e1:(List.range (q+1)).map (λs=>walk l b u (s+1))=(List.range q).map (λs=>walk l b u (s+1))++[u]:=by
  rw [List.range_succ,List.map_append];simp [hu]
 have e2:(List.range (q+1)).map (walk l b u)=u::(List.range q).map λs=>walk l b u (s+1):=by
  rw [List.range_succ_eq_map,map_cons,map_map]
  rfl
 rw [e1,e2]
 exact List.perm_append_singleton _ _
theorem aJn {u p:Nat} (wn:∀s,walk l b u s<n) (hu:walk l b u p=u) (hm:∀q,1<=q->q<p->walk l b u q≠u):p<=n:=by
 refine Nat.le_of_not_lt λaw=>?_
 obtain ⟨s,s',h1,h2,h3⟩:=Uq n (walk l b u) λs _=>wn s
 refine hm (s+(p-s')) (by omega) (by omega) ?_
 rw [vR,h3,<-vR,show s'+(p-s')=p by omega,hu]
theorem aJp (x:RX l r cur c b tm rd T) {u p:Nat} (so:∀s,∃k,b (walk l b u s)=some k/\k<l.length) (hu:walk l b u p=u) (hm:∀q,1<=q->q<p->walk l b u q≠u):(ky l b u p).Nodup:=by
 have inj:∀s s',s<s'->s'<p->walk l b u s≠walk l b u s':=by
  intro s s' h1 h2 h3
  refine hm (s+(p-s')) (by omega) (by omega) ?_
  rw [vR,h3,<-vR,show s'+(p-s')=p by omega,hu]
 have:((ky l b u p).map cQ.t).Nodup:=by
  rw [x.ann so]
  rw [List.Nodup,List.pairwise_map]
  exact List.pairwise_lt_range.imp_of_mem λ{a b'} ha hb gT=>inj a b' gT (List.mem_range.1 hb)
 exact (List.pairwise_map.1 this).imp λ{a b'} gT he=>gT (by rw [he])
end RX
end
section
def sg (n:Nat) (f:Nat->Int):Int:=((List.range n).map f).sum
theorem UZ (f:Nat->Int):sg 0 f=0:=rfl
theorem kG (n:Nat) (f:Nat->Int):sg (n+1) f=sg n f+f n:=by
 simp [sg,List.range_succ]
theorem gp {n:Nat} {f g:Nat->Int} (h:∀i<n,f i=g i):sg n f=sg n g:=by
 induction n with
 | zero=>rfl
 | succ n ih=>rw [kG,kG,ih λi hi=>h i (by omega),h n (by omega)]
theorem oR (n:Nat) (f g:Nat->Int):sg n (λi=>f i+g i)=sg n f+sg n g:=by
 induction n with
 | zero=>rfl
 | succ n ih=>rw [kG,kG,kG,ih];omega
theorem xj (n:Nat) (f g:Nat->Int):sg n (λi=>f i-g i)=sg n f-sg n g:=by
 induction n with
 | zero=>rfl
 | succ n ih=>rw [kG,kG,kG,ih];omega
theorem vM (n:Nat) (c:Int) (f:Nat->Int):sg n (λi=>c*f i)=c*sg n f:=by
 induction n with
 | zero=>simp [UZ]
 | succ n ih=>rw [kG,kG,ih,Int.mul_add]
theorem sK {n:Nat} {f g:Nat->Int} (h:∀i<n,f i<=g i):sg n f<=sg n g:=by
 induction n with
 | zero=>exact Int.le_refl _
 | succ n ih=>rw [kG,kG];have:=ih λi hi=>h i (by omega);have:=h n (by omega);omega
theorem mY (n:Nat):sg n (λ_=>0)=0:=by
 induction n with
 | zero=>rfl
 | succ n ih=>rw [kG,ih];rfl
theorem vN {n:Nat} {f:Nat->Int} (h:∀i<n,0<=f i):0<=sg n f:=by
 have:=sK (f:=λ_=>0) (g:=f) h
 rwa [mY] at this
theorem anI (n m:Nat) (f:Nat->Nat->Int):sg n (λi=>sg m λj=>f i j)=sg m λj=>sg n λi=>f i j:=by
 induction n with
 | zero=>simp [UZ,mY]
 | succ n ih=>rw [kG,ih,<-oR];exact gp λi _=>(kG n _).symm
theorem sL {n k:Nat} (hk:k<n) (x:Int):sg n (λi=>if i=k then x else 0)=x:=by
 induction n with
 | zero=>omega
 | succ n ih=>
  rw [kG]
  by_cases e:k=n
  ·subst e
   rw [if_pos rfl,gp (g:=λ_=>0) λi hi=>if_neg (by omega),mY];omega
  ·rw [ih (by omega),if_neg (by omega)];omega
theorem DX {n:Nat} {f:Nat->Int} (h:∀i<n,0<=f i) (hs:sg n f<=0):∀i<n,f i=0:=by
 induction n with
 | zero=>intro i hi;omega
 | succ n ih=>
  have h1:=vN λi (hi:i<n)=>h i (by omega)
  have h2:=h n (by omega)
  rw [kG] at hs
  intro i hi
  by_cases e:i=n
  ·subst e;omega
  ·exact ih (λi hi=>h i (by omega)) (by omega) i (by omega)
theorem amH {a b:List Int} (h:a.Perm b):a.sum=b.sum:=by
 induction h with
 | nil=>rfl
 | cons x _ ih=>rw [sum_cons,sum_cons,ih]
 | swap x y l=>simp only [sum_cons];omega
 | trans _ _ h1 h2=>exact h1.trans h2
def di (n:Nat) (R:Nat->Nat->Int) (i:Nat):Int:=sg n λj=>R i j
def nR (n:Nat) (R:Nat->Nat->Int) (j:Nat):Int:=sg n λi=>R i j
def pF (n:Nat) (R:Nat->Nat->Int):Int:=sg n λi=>di n R i
def ch (ring:List cQ) (x y:Nat):Int:=(ring.map λa=>if x=a.i/\y=a.j then a.c else 0).sum
theorem Cf (x y:Nat):ch [] x y=0:=rfl
theorem Aw (a:cQ) (ring:List cQ) (x y:Nat):ch (a::ring) x y=(if x=a.i/\y=a.j then a.c else 0)+ch ring x y:=by simp [ch]
theorem adb (a b:List cQ) (x y:Nat):ch (a++b) x y=ch a x y+ch b x y:=by simp [ch]
theorem row_one {n:Nat} {a:cQ} (hj:a.j<n) (x:Nat):sg n (λy=>if x=a.i/\y=a.j then a.c else 0)=if x=a.i then a.c else 0:=by
 by_cases e:x=a.i
 ·rw [if_pos e]
  exact (gp λy _=>by simp [e]).trans (sL hj a.c)
 ·rw [if_neg e]
  exact (gp λy _=>by simp [e]).trans (mY n)
theorem ay7 {n:Nat} {a:cQ} (hi:a.i<n) (y:Nat):sg n (λx=>if x=a.i/\y=a.j then a.c else 0)=if y=a.j then a.c else 0:=by
 by_cases e:y=a.j
 ·rw [if_pos e]
  exact (gp λx _=>by simp [e]).trans (sL hi a.c)
 ·rw [if_neg e]
  exact (gp λx _=>by simp [e]).trans (mY n)
theorem adf {n:Nat}:∀{ring:List cQ} (_:∀a∈ring,a.i<n/\a.j<n) (x:Nat),di n (ch ring) x=(ring.map λa=>if x=a.i then a.c else 0).sum
 | [],_,x=>mY n
 | a::ring,h,x=>by
  have:=adf (λb hb=>h b (mem_cons_of_mem _ hb)) x
  have e:di n (ch (a::ring)) x=sg n (λy=>(if x=a.i/\y=a.j then a.c else 0)+ch ring x y):=gp λy _=>Aw a ring x y
  rw [e,oR,row_one (h a (by simp)).2,map_cons,sum_cons,<-this]
  rfl
theorem ade {n:Nat}:∀{ring:List cQ} (_:∀a∈ring,a.i<n/\a.j<n) (y:Nat),nR n (ch ring) y=(ring.map λa=>if y=a.j then a.c else 0).sum
 | [],_,y=>mY n
 | a::ring,h,y=>by
  have:=ade (λb hb=>h b (mem_cons_of_mem _ hb)) y
  have e:nR n (ch (a::ring)) y=sg n (λx=>(if x=a.i/\y=a.j then a.c else 0)+ch ring x y):=gp λx _=>Aw a ring x y
  rw [e,oR,ay7 (h a (by simp)).1,map_cons,sum_cons,<-this]
  rfl
theorem adg {n:Nat}:∀{ring:List cQ} (_:∀a∈ring,a.i<n/\a.j<n),pF n (ch ring)=(ring.map cQ.c).sum
 | [],_=>by
  have:pF n (ch [])=sg n λ_=>0:=gp λi _=>mY n
  rw [this,mY];rfl
 | a::ring,h=>by
  have ih:=adg λb hb=>h b (mem_cons_of_mem _ hb)
  have e:pF n (ch (a::ring))=sg n (λx=>(if x=a.i then a.c else 0)+di n (ch ring) x):=gp λx _=>by
   show sg n _=_
   rw [gp (λy _=>Aw a ring x y),oR,row_one (h a (by simp)).2];rfl
  rw [e,oR,sL (h a (by simp)).1,map_cons,sum_cons,<-ih]
  rfl
theorem ay1 {n:Nat} {ring:List cQ} (h:∀a∈ring,a.i<n/\a.j<n) (hp:(ring.map cQ.f).Perm (ring.map cQ.t)) (v:Nat):di n (ch ring) v=nR n (ch ring) v:=by
 rw [adf h,ade h]
 have e1:∀r:List cQ,(r.map λa=>if v=a.i then a.c else 0).sum-(r.map λa=>if v=a.j then a.c else 0).sum=(r.map λa=>if v=a.f then (1:Int) else 0).sum-(r.map λa=>if v=a.t then (1:Int) else 0).sum:=by
  intro r
  induction r with
  | nil=>rfl
  | cons a r ih=>
   simp only [map_cons,sum_cons]
   have:(if v=a.i then a.c else 0)-(if v=a.j then a.c else 0)=(if v=a.f then (1:Int) else 0)-(if v=a.t then (1:Int) else 0):=by
    unfold cQ.c cQ.f cQ.t
    by_cases hu:a.up=true
    ·simp [hu]
    ·simp [hu];split <;> split <;> omega
   omega
 have e2:(ring.map λa=>if v=a.f then (1:Int) else 0).sum=(ring.map λa=>if v=a.t then (1:Int) else 0).sum:=by
  have:=amH (hp.map λx=>if v=x then (1:Int) else 0)
  rwa [map_map,map_map] at this
 have:=e1 ring
 omega
theorem adh:∀{ring:List cQ} (_:ring.Nodup) (m:Bool->Nat->Nat->Int) (_:∀a∈ring,a.m=m a.up a.i a.j) (x y:Nat),
  (ch ring x y<=if (⟨x,y,true,m true x y⟩:cQ)∈ring then 1 else 0)/\(if (⟨x,y,false,m false x y⟩:cQ)∈ring then -1 else 0)<=ch ring x y
 | [],_,m,_,x,y=>by simp [Cf]
 | a::ring,nd,m,hm,x,y=>by
  obtain ⟨h1,h2⟩:=adh (List.nodup_cons.1 nd).2 m (λb hb=>hm b (mem_cons_of_mem _ hb)) x y
  have hn:=(List.nodup_cons.1 nd).1
  have ha:=hm a (by simp)
  rw [Aw]
  by_cases e:x=a.i/\y=a.j
  ·rw [if_pos e]
   obtain ⟨rfl,rfl⟩:=e
   obtain ⟨i,j,up,am⟩:=a
   simp only at ha h1 h2 hn⊢
   cases up
   ·subst ha
    rw [if_neg hn] at h2
    have ec:(⟨i,j,false,m false i j⟩:cQ).c= -1:=rfl
    rw [ec,if_pos (List.mem_cons_self)]
    refine ⟨?_,by omega⟩
    split <;> split at h1 <;> omega
   ·subst ha
    rw [if_neg hn] at h1
    have ec:(⟨i,j,true,m true i j⟩:cQ).c=1:=rfl
    rw [ec,if_pos (List.mem_cons_self)]
    refine ⟨by omega,?_⟩
    split <;> split at h2 <;> omega
  ·rw [if_neg e]
   have n1:∀up,(⟨x,y,up,m up x y⟩:cQ)≠a:=λup h=>e (by rw [<-h];exact ⟨rfl,rfl⟩)
   have f1:∀up,((⟨x,y,up,m up x y⟩:cQ)∈a::ring)=((⟨x,y,up,m up x y⟩:cQ)∈ring):=λup=>by
    simp only [List.mem_cons,n1 up,false_or]
   simp only [f1]
   omega
structure xP (n:Nat) (D R:Nat->Nat->Int):Prop where
 bd:∀i<n,∀j<n,0<=R i j/\R i j<=D i j
 wq:∀v<n,di n R v=nR n R v
def zt (D R:Nat->Nat->Int) (up:Bool) (i j:Nat):Int:=if up then D i j-R i j else R i j
theorem xP.step {n:Nat} {D R:Nat->Nat->Int} (x:xP n D R) {ring:List cQ} (nd:ring.Nodup) (fB:∀a∈ring,a.i<n/\a.j<n) (hm:∀a∈ring,a.m=zt D R a.up a.i a.j) (hp:(ring.map cQ.f).Perm (ring.map cQ.t))
  (km:(ring.map cQ.c).sum<0) {eR:Int} (h1:1<=eR) (h2:∀a∈ring,eR<=a.m):xP n D (λi j=>R i j+eR*ch ring i j)/\pF n (λi j=>R i j+eR*ch ring i j)<pF n R:=by
 refine ⟨⟨λi hi j hj=>?_,λv hv=>?_⟩,?_⟩
 ·have b:=x.bd i hi j hj
  obtain ⟨u1,u2⟩:=adh nd (zt D R) hm i j
  have hc:ch ring i j= -1∨ch ring i j=0∨ch ring i j=1:=by split at u1 <;> split at u2 <;> omega
  rcases hc with hc | hc | hc
  ·rw [hc] at u2⊢
   by_cases e:(⟨i,j,false,zt D R false i j⟩:cQ)∈ring
   ·have:=h2 _ e
    have this:eR<=R i j:=this
    show 0<=R i j+eR* -1/\R i j+eR* -1<=D i j
    omega
   ·rw [if_neg e] at u2;omega
  ·rw [hc];show 0<=R i j+eR*0/\R i j+eR*0<=D i j;omega
  ·rw [hc] at u1⊢
   by_cases e:(⟨i,j,true,zt D R true i j⟩:cQ)∈ring
   ·have:=h2 _ e
    have this:eR<=D i j-R i j:=this
    show 0<=R i j+eR*1/\R i j+eR*1<=D i j
    omega
   ·rw [if_neg e] at u1;omega
 ·have e1:di n (λi j=>R i j+eR*ch ring i j) v=di n R v+eR*di n (ch ring) v:=by
   show sg n _=_
   rw [oR,vM];rfl
  have e2:nR n (λi j=>R i j+eR*ch ring i j) v=nR n R v+eR*nR n (ch ring) v:=by
   show sg n _=_
   rw [oR,vM];rfl
  rw [e1,e2,x.wq v hv,ay1 fB hp]
 ·have e:pF n (λi j=>R i j+eR*ch ring i j)=pF n R+eR*pF n (ch ring):=by
   have:pF n (λi j=>R i j+eR*ch ring i j)=sg n λi=>di n R i+eR*di n (ch ring) i:=gp λi _=>by
    show sg n _=_
    rw [oR,vM];rfl
   rw [this,oR,vM];rfl
  rw [e,adg fB]
  have:eR*(ring.map cQ.c).sum<=eR* -1:=Int.mul_le_mul_of_nonneg_left (by omega) (by omega)
  omega
theorem xP.zero {n:Nat} {D R:Nat->Nat->Int} (x:xP n D R) (c:Nat->Int) (hc:∀i<n,∀j<n,0<R i j->c i<=c j-1):∀i<n,∀j<n,R i j=0:=by
 have le:pF n R<=sg n λi=>sg n λj=>R i j*(c j-c i):=sK λi hi=>sK λj hj=>by
  have b:=(x.bd i hi j hj).1
  by_cases e:R i j=0
  ·rw [e];simp
  ·have:=hc i hi j hj (by omega)
   have h3:R i j*1<=R i j*(c j-c i):=Int.mul_le_mul_of_nonneg_left (by omega) b
   omega
 have e1:(sg n λi=>sg n λj=>R i j*(c j-c i))=(sg n λi=>sg n λj=>c j*R i j)-sg n λi=>c i*di n R i:=by
  rw [<-xj]
  refine gp λi _=>?_
  rw [show c i*di n R i=sg n λj=>c i*R i j from (vM n (c i) _).symm,<-xj]
  refine gp λj _=>?_
  rw [Int.mul_sub,Int.mul_comm (R i j) (c j),Int.mul_comm (R i j) (c i)]
 have e2:(sg n λi=>sg n λj=>c j*R i j)=sg n λj=>c j*nR n R j:=by
  rw [anI]
  exact gp λj _=>vM n (c j) _
 have e3:(sg n λj=>c j*nR n R j)=sg n λi=>c i*di n R i:=gp λv hv=>by rw [x.wq v hv]
 have zM:pF n R<=0:=by rw [e1,e2,e3] at le;omega
 intro i hi j hj
 have h1:=DX (f:=di n R) (λi hi=>vN λj hj=>(x.bd i hi j hj).1) zM i hi
 exact DX (λj hj=>(x.bd i hi j hj).1) (by show di n R i<=0;omega) j hj
end
end Go.Sim
namespace Go.Proofs.YtncaiogfjjepcaaGreat
section
open Go.Sim Go.Sort
variable {h : ae} {K : Value -> ae -> Prop} {n : Nat}
def fQ (n:Nat) (R:Nat->Nat->Int):List (List Int):=(List.range n).map λi=>(List.range n).map (R i)
def iL (n:Nat) (R:Nat->Nat->Int) (i:Nat):List Value:=(List.range n).map λj=>I (R i j)
structure MR (g:ae) (im:Nat) (ids:Nat->Nat) (n:Nat) (R:Nat->Nat->Int):Prop where
 ho:g[im]?=some (.arr 34 ((List.range n).map λi=>sl 3 (ids i) 0 n))
 hr:∀i<n,g[ids i]?=some (.arr 3 (iL n R i))
 inj:∀i<n,∀j<n,ids i=ids j->i=j
 nm:∀i<n,ids i≠im
 n8:n<=8
namespace MR
variable {g : ae} {im : Nat} {ids : Nat -> Nat} {R : Nat -> Nat -> Int}
theorem up {g':ae} (m:MR g im ids n R) (x:EX g g'):MR g' im ids n R:=⟨x.get m.ho,λi hi=>x.get (m.hr i hi),m.inj,m.nm,m.n8⟩
theorem dX {i:Nat} (hi:i<n):aD 1 (sl 34 im 0 n) (I i)=some (pt im i):=jL hi
theorem NG {i j:Nat} (hj:j<n):aD 1 (sl 3 (ids i) 0 n) (I j)=some (pt (ids i) j):=jL hj
theorem ld (m:MR g im ids n R) {i:Nat} (hi:i<n):af false 1 g (pt im i)=some (sl 3 (ids i) 0 n):=by
 simp [af,bw,m.ho,dS,hi]
theorem jk (m:MR g im ids n R) {i j:Nat} (hi:i<n) (hj:j<n):af false 1 g (pt (ids i) j)=some (I (R i j)):=by
 simp [af,bw,m.hr i hi,dS,hj,iL]
theorem cells (m:MR g im ids n R) {i:Nat} (hi:i<n):fx g 1 (sl 3 (ids i) 0 n)=some (iL n R i):=by
 simp only [fx,sl,bw,m.hr i hi,bind_some]
 rw [if_neg (by omega),if_pos (by simp [iL]),List.drop_zero,List.take_of_length_le (by simp [iL])]
theorem mi (m:MR g im ids n R):MI g (sl 34 im 0 n) (fQ n R):=by
 have n8:=m.n8
 refine ⟨by simp [fQ];rfl,λi hi=>?_⟩
 have iN:i<n:=by simpa [fQ] using hi
 refine ⟨im,i,sl 3 (ids i) 0 n,dX iN,m.ld iN,?_⟩
 have e:(fQ n R)[i]=(List.range n).map (R i):=by simp [fQ]
 rw [e]
 have:=NS.arr (k:=.i64) (ns:=(List.range n).map (R i)) (h:=g) (e:=3) (i:=ids i) (by rw [m.hr i iN,iL,map_map];rfl) (by simp [maxLen];omega)
 simpa using this
end MR
theorem C51 {eY:Nat} {iQ:Nat->Nat} {D:Nat->Nat->Int} (m:MR h eY iQ n D) (hn:1<=n)
  (hk:∀g im ids,EX h g->h.length<=im->(∀i<n,h.length<=ids i)->MR g im ids n D->K (sl 34 im 0 n) g):ay prog 51 [sl 34 eY 0 n] h K:=by
 have n8:=m.n8
 refine f51 ?_
 unfold MT
 have l0:aT (sl 34 eY 0 n)=some (I n):=rfl
 have mk:eM 34 24 [(.slice none 0 0)] h (I n) (I n)=some (sl 34 h.length 0 n,h++[.arr 34 (bE [.slice none 0 0] n)]):=by
  simp only [eM]
  rw [if_pos (by omega)]
  simp
 simp only [l0,ah,mk,aL]
 have zr:bE [(.slice none 0 0)] n=(List.range n).map λi=>if i<0 then sl 3 0 0 n else (Value.slice none 0 0):=by
  simp [bE]
  rw [List.map_const'];simp
 have x1:EX h (h++[.arr 34 (bE [.slice none 0 0] n)]):=EX.append _ _
 have c1:(h++[az.arr 34 (bE [.slice none 0 0] n)])[h.length]?=some (.arr 34 (bE [.slice none 0 0] n)):=bL
 generalize uY:h++[az.arr 34 (bE [.slice none 0 0] n)]=g1 at x1 c1⊢
 have gl1:g1.length=h.length+1:=by rw [<-uY];simp
 refine cN (σ:=Nat×(Nat->Nat)×ae) (λq=>[I q.1]) (λq=>q.2.2) (λq=>q.1<=n/\EX h q.2.2/\q.2.2[h.length]?=some (.arr 34 ((List.range n).map λi=>if i<q.1 then sl 3 (q.2.1 i) 0 n else .slice none 0 0))/\
   (∀i<q.1,h.length<q.2.1 i/\q.2.2[q.2.1 i]?=some (.arr 3 (iL n D i)))/\∀i<q.1,∀j<q.1,q.2.1 i=q.2.1 j->i=j) (λq=>n-q.1)
  (0,λ_=>0,g1) rfl rfl ⟨zero_le _,x1,by rw [c1,zr],λi hi=>absurd hi (Nat.not_lt_zero _),λi hi=>absurd hi (Nat.not_lt_zero _)⟩ ?_
 rintro ⟨i,ids,g⟩ ⟨hi,xg,hc,mS,inj⟩ L hL
 simp only at hi xg hc mS inj hL⊢
 rw [aHj]
 simp only [bT,ah,cd]
 refine ⟨λaw=>?_,λcK=>?_⟩
 ·have aw:i<n:=by omega
  have mg:=m.up xg
  have l2:aT (sl 3 (iQ i) 0 n)=some (I n):=rfl
  have sG:eM 3 8 [(.int .i64 (0))] g (I n) (I n)=some (sl 3 g.length 0 n,g++[.arr 3 (bE [.int .i64 (0)] n)]):=by
   simp only [eM]
   rw [if_pos (by omega)]
   simp
  have x2:EX g (g++[.arr 3 (bE [.int .i64 (0)] n)]):=EX.append _ _
  have c2:(g++[az.arr 3 (bE [.int .i64 (0)] n)])[g.length]?=some (.arr 3 (bE [.int .i64 (0)] n)):=bL
  have AN:=x2.get hc
  have hlen:=(cm hc).1
  have st:=kz AN (o:=i) (v:=sl 3 g.length 0 n) (by simpa using aw) rfl rfl
  simp only [MR.dX aw,mg.ld aw,l2,ah,sG,aL,st]
  have e3:((List.range n).map λk=>if k<i then sl 3 (ids k) 0 n else (Value.slice none 0 0)).set i (sl 3 g.length 0 n)=(List.range n).map λk=>if k<i+1 then sl 3 (dU ids i g.length k) 0 n else .slice none 0 0:=by
   refine List.ext_getElem (by simp) λk h1 h2=>?_
   rw [List.getElem_set]
   simp only [List.getElem_map,List.getElem_range]
   by_cases e:i=k
   ·subst e;rw [if_pos rfl,if_pos (by omega),fL]
   ·rw [if_neg e,eA _ _ (Ne.symm e)]
    by_cases h3:k<i
    ·rw [if_pos h3,if_pos (by omega)]
    ·rw [if_neg h3,if_neg (by omega)]
  rw [e3]
  have hz:(bE [(.int .i64 (0))] n:List Value).length=n:=by simp [bE]
  have x3:EX h ((g++[az.arr 3 (bE [.int .i64 (0)] n)]).set h.length (.arr 34 ((List.range n).map λk=>if k<i+1 then sl 3 (dU ids i g.length k) 0 n else .slice none 0 0))):=(xg.trans x2).set (le_refl _) _
  have c3:((g++[az.arr 3 (bE [.int .i64 (0)] n)]).set h.length (.arr 34 ((List.range n).map λk=>if k<i+1 then sl 3 (dU ids i g.length k) 0 n else .slice none 0 0)))[h.length]?=some (.arr 34 ((List.range n).map λk=>if k<i+1 then sl 3 (dU ids i g.length k) 0 n else .slice none 0 0)):=by
   rw [getElem?_set_self (by simp;omega)]
  have d3:((g++[az.arr 3 (bE [.int .i64 (0)] n)]).set h.length (.arr 34 ((List.range n).map λk=>if k<i+1 then sl 3 (dU ids i g.length k) 0 n else .slice none 0 0)))[g.length]?=some (.arr 3 (bE [.int .i64 (0)] n)):=by
   rw [getElem?_set_ne (by omega)];exact c2
  have o3:∀d,d<g.length->d≠h.length->((g++[az.arr 3 (bE [.int .i64 (0)] n)]).set h.length (.arr 34 ((List.range n).map λk=>if k<i+1 then sl 3 (dU ids i g.length k) 0 n else .slice none 0 0)))[d]?=g[d]?:=λd h1 h2=>by
   rw [getElem?_set_ne (Ne.symm h2),List.getElem?_append_left h1]
  have l3:((g++[az.arr 3 (bE [.int .i64 (0)] n)]).set h.length (.arr 34 ((List.range n).map λk=>if k<i+1 then sl 3 (dU ids i g.length k) 0 n else .slice none 0 0))).length=g.length+1:=by simp
  generalize (g++[az.arr 3 (bE [.int .i64 (0)] n)]).set h.length (.arr 34 ((List.range n).map λk=>if k<i+1 then sl 3 (dU ids i g.length k) 0 n else .slice none 0 0))=g3 at x3 c3 d3 o3 l3⊢
  have rD:af false 1 g3 (pt h.length i)=some (sl 3 g.length 0 n):=by
   simp [af,bw,c3,dS,aw,fL]
  have cp:sw g3 (sl 3 g.length 0 n) (sl 3 (iQ i) 0 n)=some (I n,g3.set g.length (.arr 3 (iL n D i))):=by
   have sc:=(m.up x3).cells aw
   simp only [sw,sc]
   simp only [iY,sl,d3]
   rw [if_neg (by simp;omega),if_pos (by rw [hz];simp)]
   have e1:(iL n D i).take (Nat.min n n)=iL n D i:=List.take_of_length_le (by simp [iL])
   have e2:setAt (bE [(.int .i64 (0))] n:List Value) 0 (iL n D i)=iL n D i:=by
    unfold setAt
    have:(iL n D i).length=n:=by simp [iL]
    rw [List.take_zero,this,List.nil_append,List.drop_of_length_le (by omega),List.append_nil]
   rw [e1,e2]
   simp
  simp only [rD,cp,ah,aL,bZ,true_and]
  rw [dQ i (by simp [maxLen];omega)]
  have old:∀k<i,ids k<g.length:=λk hk=>(cm (mS k hk).2).1
  refine hL (i+1,dU ids i g.length,g3.set g.length (.arr 3 (iL n D i))) ⟨aw,x3.set (by omega) _,?_,λk hk=>?_,λk hk j hj e=>?_⟩ (by show n-(i+1)<n-i;omega)
  ·show (g3.set g.length _)[h.length]?=_
   rw [getElem?_set_ne (by omega)];exact c3
  ·show h.length<dU ids i g.length k/\(g3.set g.length (az.arr 3 (iL n D i)))[dU ids i g.length k]?=some (.arr 3 (iL n D k))
   by_cases e:k=i
   ·subst e
    rw [fL,getElem?_set_self (by omega)]
    exact ⟨hlen,rfl⟩
   ·have mD:k<i:=by have:k<i+1:=hk;omega
    have:=old k mD
    rw [eA _ _ e,getElem?_set_ne (by omega),o3 _ this (by have:=(mS k mD).1;omega)]
    exact mS k mD
  ·have hk:k<i+1:=hk
   have hj:j<i+1:=hj
   have e:dU ids i g.length k=dU ids i g.length j:=e
   by_cases e1:k=i <;> by_cases e2:j=i
   ·omega
   ·subst e1
    rw [fL,eA _ _ e2] at e
    have:=old j (by omega);omega
   ·subst e2
    rw [fL,eA _ _ e1] at e
    have:=old k (by omega);omega
   ·rw [eA _ _ e1,eA _ _ e2] at e
    exact inj k (by omega) j (by omega) e
 ·have fB:i=n:=by omega
  subst fB
  rw [aHi]
  refine hk g h.length ids xg (le_refl _) (λk hk=>Nat.le_of_lt (mS k hk).1) ⟨?_,λk hk=>(mS k hk).2,inj,λk hk=>by have:=(mS k hk).1;omega,n8⟩
  rw [hc]
  congr 2
  exact List.map_congr_left λk hk=>if_pos (List.mem_range.1 hk)
end
section
open Go.Sim Go.Sort
variable {h : ae} {K : Value -> ae -> Prop} {n : Nat}
def iu (ids:Nat->Nat) (a:cQ):List Value:=[I a.f,I a.t,I a.c,I a.m,pt (ids a.i) a.j]
def kK (ids:Nat->Nat) (l:List cQ):List Value:=(l.map (iu ids)).flatten
theorem X8 (ids:Nat->Nat) (a b:List cQ):kK ids (a++b)=kK ids a++kK ids b:=by simp [kK]
theorem Ya (ids:Nat->Nat) (a:cQ):kK ids [a]=iu ids a:=by simp [kK]
def PO (n:Nat) (D R:Nat->Nat->Int) (a:cQ):Prop:=a.i<n/\a.j<n/\a.m=zt D R a.up a.i a.j/\0<a.m
structure AL (n:Nat) (D R:Nat->Nat->Int) (l:List cQ) (i j:Nat):Prop where
 gd:∀a∈l,PO n D R a
 yc:∀x<n,∀y<n,(x<i∨(x=i/\y<j))->0<R x y->(⟨x,y,false,R x y⟩:cQ)∈l
 le:l.length<=2*(n*i+j)
theorem ar5 (x:Value) (a b c d:Int) (hx:fV x=true) (hv:dL x=[x]):eI [(.int .i64 (0)),(.int .i64 (0)),(.int .i64 (0)),(.int .i64 (0)),(.pointer none)] [(0,1,I a),(1,1,I b),(2,1,I c),(3,1,I d),(4,1,x)]=some (.agg #[I a,I b,I c,I d,x]):=by
 simp [eI,jE,setAt,hx,hv]
 simp [fV,dL,Value.cells]
theorem aC7 (g:ae) (cs:List Value) (a b c d e:Value) (he:cs=[a,b,c,d,e]) (hn:fV (.agg cs.toArray)=true):cH 119 1 [(.int .i64 (0)),(.int .i64 (0)),(.int .i64 (0)),(.int .i64 (0)),(.pointer none)] g [(0,5,.agg cs.toArray)]=some (sl 119 g.length 0 1,g++[.arr 119 cs]):=by
 subst he
 simp [cH,jE,bE,setAt,hn,dL,Value.cells]
theorem Yk (ids:Nat->Nat) (a:cQ):eI [(.int .i64 (0)),(.int .i64 (0)),(.int .i64 (0)),(.int .i64 (0)),(.pointer none)] [(0,1,I a.f),(1,1,I a.t),(2,1,I a.c),(3,1,I a.m),(4,1,pt (ids a.i) a.j)]=some (.agg (iu ids a).toArray):=
 ar5 _ _ _ _ _ rfl rfl
theorem agl (ids:Nat->Nat) (a:cQ) (g:ae):cH 119 1 [(.int .i64 (0)),(.int .i64 (0)),(.int .i64 (0)),(.int .i64 (0)),(.pointer none)] g [(0,5,.agg (iu ids a).toArray)]=some (sl 119 g.length 0 1,g++[.arr 119 (iu ids a)]):=
 aC7 g (iu ids a) _ _ _ _ _ rfl (by simp [fV])
theorem C53 {eY oI:Nat} {iQ iR:Nat->Nat} {D R:Nat->Nat->Int} (md:MR h eY iQ n D) (mr:MR h oI iR n R) (hn:1<=n) (hD:∀i<n,∀j<n,0<=R i j/\R i j<=D i j/\D i j<=1000)
  (hk:∀v g l,EX h g->AL n D R l n 0->fq h.length g 119 5 v l.length (kK iR l)->K v g):ay prog 53 [sl 34 eY 0 n,sl 34 oI 0 n] h K:=by
 have n8:=md.n8
 refine f53 ?_
 unfold MV
 have l0:aT (sl 34 oI 0 n)=some (I n):=rfl
 simp only [l0,ah]
 refine cN (σ:=Nat×Value×List cQ×ae) (λq=>[q.2.1,I q.1]) (λq=>q.2.2.2) (λq=>q.1<=n/\EX h q.2.2.2/\AL n D R q.2.2.1 q.1 0/\fq h.length q.2.2.2 119 5 q.2.1 q.2.2.1.length (kK iR q.2.2.1)) (λq=>n-q.1)
  (0,.slice none 0 0,[],h) rfl rfl ⟨zero_le _,EX.refl _,⟨λa ha=>absurd ha (by simp),λx hx y hy hh=>by omega,by simp⟩,fq.nil _ _ _ _⟩ ?_
 rintro ⟨i,vo,l,g⟩ ⟨hi,xg,al,own⟩ L1 lD
 simp only at hi xg al own lD⊢
 rw [aHx]
 simp only [bT,ah,cd]
 refine ⟨λaw=>?_,λcK=>?_⟩
 ·have aw:i<n:=by omega
  simp only [l0,ah]
  refine cN (σ:=Nat×Value×List cQ×ae) (λq=>[q.2.1,I q.1]) (λq=>q.2.2.2) (λq=>q.1<=n/\EX h q.2.2.2/\AL n D R q.2.2.1 i q.1/\fq h.length q.2.2.2 119 5 q.2.1 q.2.2.1.length (kK iR q.2.2.1)) (λq=>n-q.1)
   (0,vo,l,g) rfl rfl ⟨zero_le _,xg,al,own⟩ ?_
  rintro ⟨j,vo,l,g⟩ ⟨hj,xg,al,own⟩ L2 dP
  simp only at hj xg al own dP⊢
  rw [aHs]
  simp only [bT,ah,cd]
  refine ⟨λdM=>?_,λcK=>?_⟩
  ·have dM:j<n:=by omega
   have b:=hD i aw j dM
   have nn:n*i+n<=n*n:=by have:=Nat.mul_le_mul_left n (show i+1<=n by omega);rw [Nat.mul_add] at this;omega
   have n64:n*n<=64:=Nat.mul_le_mul (show n<=8 by omega) (show n<=8 by omega)
   have one:∀(a:cQ) (vo:Value) (l:List cQ) (g:ae) (K':Value->ae->Prop),EX h g->fq h.length g 119 5 vo l.length (kK iR l)->l.length<=200->(∀v' g',EX h g'->fq h.length g' 119 5 v' (l++[a]).length (kK iR (l++[a]))->K' v' g')->
     OH (cH 119 1 [(.int .i64 (0)),(.int .i64 (0)),(.int .i64 (0)),(.int .i64 (0)),(.pointer none)] g [(0,5,.agg (iu iR a).toArray)]) λx h1=>OH (cT 119 5 40 h1 vo x) K':=by
    intro a vo l g K' xg own hl fN
    simp only [agl,aL]
    have x2:EX g (g++[.arr 119 (iu iR a)]):=EX.append _ _
    refine fq.app (own.up x2) (xg.trans x2) bL rfl (by omega) (by omega) (by omega) ?_
    intro v' g' x' _ _ qA _
    refine fN v' g' x' ?_
    rw [X8,Ya,List.length_append]
    exact qA
   have fin:∀(vo:Value) (l:List cQ) (g:ae),EX h g->AL n D R l i (j+1)->fq h.length g 119 5 vo l.length (kK iR l)->Jv prog K (sl 34 eY 0 n) (sl 34 oI 0 n) vo (I i) (I n) (I i) (I n) (I j) L1 L2 g:=by
    intro vo l g xg al own
    rw [aHu]
    simp only [bZ,ah,true_and]
    rw [dQ j (by simp [maxLen];omega)]
    exact dP (j+1,vo,l,g) ⟨dM,xg,al,own⟩ (by show n-(j+1)<n-j;omega)
   have two:∀(vo:Value) (l:List cQ) (g:ae),EX h g->(∀a∈l,PO n D R a)->(∀x<n,∀y<n,(x<i∨(x=i/\y<j))->0<R x y->(⟨x,y,false,R x y⟩:cQ)∈l)->l.length<=2*(n*i+j)+1->fq h.length g 119 5 vo l.length (kK iR l)->
     Ju prog K (sl 34 eY 0 n) (sl 34 oI 0 n) vo (I i) (I j) (I n) (I i) (I n) (I j) L1 L2 g:=by
    intro vo l g xg gd yc le own
    rw [aHt]
    simp only [MR.dX aw,(mr.up xg).ld aw,MR.NG dM,(mr.up xg).jk aw dM,ah,gH,gC]
    by_cases h1:0<R i j
    ·rw [dh h1]
     simp only [gf,(mr.up xg).jk aw dM,ah]
     have ba:=Yk iR ⟨i,j,false,R i j⟩
     simp only [cQ.f,cQ.t,cQ.c,Bool.false_eq_true,if_false] at ba
     simp only [ba,ah]
     refine one ⟨i,j,false,R i j⟩ vo l g _ xg own (by omega) λv' g' x' qA=>?_
     refine fin v' _ g' x' ⟨λa ha=>?_,λx hx y hy hh hp=>?_,by simp;omega⟩ qA
     ·rcases List.mem_append.1 ha with ha | ha
      ·exact gd a ha
      ·rw [List.mem_singleton.1 ha];exact ⟨aw,dM,rfl,h1⟩
     ·by_cases e:x=i/\y=j
      ·obtain ⟨rfl,rfl⟩:=e;simp
      ·exact List.mem_append_left _ (yc x hx y hy (by omega) hp)
    ·rw [bY h1]
     simp only [dm]
     refine fin vo l g xg ⟨gd,λx hx y hy hh hp=>?_,by omega⟩ own
     by_cases e:x=i/\y=j
     ·obtain ⟨rfl,rfl⟩:=e;exact absurd hp h1
     ·exact yc x hx y hy (by omega) hp
   simp only [MR.dX aw,(mr.up xg).ld aw,MR.NG dM,(mr.up xg).jk aw dM,(md.up xg).ld aw,(md.up xg).jk aw dM,ah,gH,bT,true_and]
   by_cases h1:R i j<D i j
   ·rw [dh h1]
    have sb:IntKind.wrap .i64 (D i j-R i j)=D i j-R i j:=wrap64 (by omega) (by omega)
    simp only [gf,(mr.up xg).jk aw dM,ah,gO,sb]
    have ba:=Yk iR ⟨i,j,true,D i j-R i j⟩
    simp only [cQ.f,cQ.t,cQ.c,if_true] at ba
    simp only [ba,ah]
    refine one ⟨i,j,true,D i j-R i j⟩ vo l g _ xg own (by have:=al.le;omega) λv' g' x' qA=>?_
    refine two v' _ g' x' (λa ha=>?_) (λx hx y hy hh hp=>List.mem_append_left _ (al.yc x hx y hy hh hp)) (by have:=al.le;simp;omega) qA
    rcases List.mem_append.1 ha with ha | ha
    ·exact al.gd a ha
    ·rw [List.mem_singleton.1 ha];exact ⟨aw,dM,rfl,by show 0<D i j-R i j;omega⟩
   ·rw [bY h1]
    simp only [dm]
    exact two vo l g xg al.gd al.yc (by have:=al.le;omega) own
  ·have kQ:j=n:=by omega
   subst kQ
   rw [aHv]
   simp only [bZ,ah,true_and]
   rw [dQ i (by simp [maxLen];omega)]
   refine lD (i+1,vo,l,g) ⟨aw,xg,⟨al.gd,λx hx y hy hh hp=>al.yc x hx y hy (by omega) hp,?_⟩,own⟩ (by show j-(i+1)<j-i;omega)
   have:=al.le
   show l.length<=2*(j*(i+1)+0)
   rw [Nat.mul_add];omega
 ·have fB:i=n:=by omega
  subst fB
  rw [aHw]
  exact hk vo g l xg al own
end
section
open Go.Sim
variable (P : Program) (K : VK)
noncomputable section
variable (m0 x1 x2 x7 x8 fK lR xb i13 bW bO dZ dj gA cJ dB gY kc jT iT : Value) (L1 L2 : LQ) (xs : List Value) (h : ae)
def ahT:=cj prog 54 [[],[],[],[],[0,1,2,7,26],[8,27],[],[],[],[],[],[],[0,1,2,7,8,26,27],[0,7,8],[],[],[],[0,7,8,10,69,70],[11,71],[],[],[],[],[],[0,7,8,10,11,12,13,69,70,71,81,82],[83],[],[],[],[],[0,7,8,10,11,13,69,70,71],[0,7,8,10,11,69,70,71],[7,8,10,11],[],[7,8,108,109],[110],[],[],[],[],[7],[]]
@[irreducible] def GL:=cD ahT
@[irreducible] def abL:=GL.r.r.r.l.r.l.l
@[irreducible] def abJ:=GL.r.r.r.r
@[irreducible] def axs:=abL.r.r.r.l
@[irreducible] def Oz:=abJ.l
@[irreducible] def GM:=Oz.r.r.l.r.l.l
@[irreducible] def abG:=Oz.r.r.r
@[irreducible] def axt:=GM.r.r.l.l.r.r.l.r.l.l
@[irreducible] def abI:=GM.r.r.l.l.r.r.r
@[irreducible] def abH:=GM.r.r.r
@[irreducible] def OA:=abG.l
@[irreducible] def axu:=abI.l
@[irreducible] def axv:=abH.l
@[irreducible] def axw:=OA.l.r.l.l
@[irreducible] def abK:=OA.r
@[irreducible] def axx:=abK.l
theorem k54:ahT=some (124,GL,[.tmp 6]):=by kernel_rfl
def uz (_P:Program) (K:VK):ax:=aW [.tmp 6] K
def asx:ax:=aH (au P abJ (uz P K)) (uz P K)
def asC:ax:=bC 0 (asx P K)
def XA:ax:=aH (λf' aQ=>(([0,1,2,7,26]:List Nat).map f':List Value)=[m0,x1,x2,x7,bW]/\L1 (([8,27]:List Nat).map f') aQ) (asC P K)
def asr:ax:=aH (au P abG (uz P K)) (uz P K)
def ass:ax:=bC 3 (asr P K)
def Fc:ax:=aH (λf' aQ=>(([0,7,8,10,69,70]:List Nat).map f':List Value)=[m0,x7,x8,fK,dZ,dj]/\L1 (([11,71]:List Nat).map f') aQ) (ass P K)
def ast:ax:=aH (au P abH (Fc P K m0 x7 x8 fK dZ dj L1)) (Fc P K m0 x7 x8 fK dZ dj L1)
def Lh:ax:=bC 4 (ast P K m0 x7 x8 fK dZ dj L1)
def asu:ax:=aH (au P abI (Lh P K m0 x7 x8 fK dZ dj L1)) (Lh P K m0 x7 x8 fK dZ dj L1)
def asv:ax:=bC 5 (asu P K m0 x7 x8 fK dZ dj L1)
def asw:ax:=aH (λf' aQ=>(([0,7,8,10,11,12,13,69,70,71,81,82]:List Nat).map f':List Value)=[m0,x7,x8,fK,lR,xb,i13,dZ,dj,gA,cJ,dB]/\L2 (([83]:List Nat).map f') aQ) (asv P K m0 x7 x8 fK dZ dj L1)
def asy:ax:=aH (au P abK (uz P K)) (uz P K)
def asA:ax:=bC 7 (asy P K)
def asB:ax:=aH (λf' aQ=>(([7,8,108,109]:List Nat).map f':List Value)=[x7,x8,kc,jT]/\L1 (([110]:List Nat).map f') aQ) (asA P K)
def alr:Prop:=aA (au P abL (XA P K m0 x1 x2 x7 bW L1)) ([0,1,2,7,26]++[8,27]) ([m0,x1,x2,x7,bW]++xs) h
def DJ:Prop:=aA (au P axs (XA P K m0 x1 x2 x7 bW L1)) [0,1,2,7,8,26,27] [m0,x1,x2,x7,x8,bW,bO] h
def TJ:Prop:=aA (au P Oz (uz P K)) [0,7,8] [m0,x7,x8] h
def alo:Prop:=aA (au P GM (Fc P K m0 x7 x8 fK dZ dj L1)) ([0,7,8,10,69,70]++[11,71]) ([m0,x7,x8,fK,dZ,dj]++xs) h
def TK:Prop:=aA (au P axt (asw P K m0 x7 x8 fK lR xb i13 dZ dj gA cJ dB L1 L2)) ([0,7,8,10,11,12,13,69,70,71,81,82]++[83]) ([m0,x7,x8,fK,lR,xb,i13,dZ,dj,gA,cJ,dB]++xs) h
def TM:Prop:=aA (au P axu (Lh P K m0 x7 x8 fK dZ dj L1)) [0,7,8,10,11,13,69,70,71] [m0,x7,x8,fK,lR,i13,dZ,dj,gA] h
def TN:Prop:=aA (au P axv (Fc P K m0 x7 x8 fK dZ dj L1)) [0,7,8,10,11,69,70,71] [m0,x7,x8,fK,lR,dZ,dj,gA] h
def alp:Prop:=aA (au P OA (uz P K)) [7,8,10,11] [x7,x8,fK,lR] h
def TO:Prop:=aA (au P axw (asB P K x7 x8 kc jT L1)) ([7,8,108,109]++[110]) ([x7,x8,kc,jT]++xs) h
def alq:Prop:=aA (au P axx (uz P K)) [7] [x7] h
theorem aHy:DJ P K m0 x1 x2 x7 x8 bW bO L1 h=
 (OP (aj .add bO (.int .i64 (1))) λhZ=>
 ([m0,x1,x2,x7,bW]:List Value)=[m0,x1,x2,x7,bW]/\L1 [x8,hZ] h):=aB (by kernel_rfl)
theorem aHH (m0 x1 x2 x7 bW:Value) (L1:LQ) (x8 bO:Value) (h:ae):alr P K m0 x1 x2 x7 bW L1 [x8,bO] h=
 (OP (aj .lss bO bW) λcL=>
 aJ cL
 (OP (aD 1 x1 bO) λcP=>
 OP (af false 1 h cP) λdC=>
 aJ dC
 (OH (cH 3 1 [(.int .i64 (0))] h [(0,1,bO)]) λfE z1=>
 OH (cT 3 1 8 z1 x8 fE) λfX z2=>
 ay P 34 [(.int .i64 (0))] z2 λfI z3=>
 OP (aD 4 x7 bO) λfg=>
 OH (aU 4 z3 fg fI) λ_ z4=>
 DJ P K m0 x1 x2 x7 fX bW bO L1 z4)
 (OP (aD 1 x2 bO) λfY=>
 OP (af false 1 h fY) λfS=>
 aJ fS
 (ay P 34 [(.int .i64 (0))] h λfT z1=>
 OP (aD 4 x7 bO) λiV=>
 OH (aU 4 z1 iV fT) λ_ z2=>
 DJ P K m0 x1 x2 x7 x8 bW bO L1 z2)
 (OP (eJ m0) λb9=>
 OP (aF 3 b9) λcA=>
 OP (af false 1 h cA) λcB=>
 OP (aD 1 cB bO) λbG=>
 OP (af false 1 h bG) λdH=>
 ay P 34 [dH] h λdW z1=>
 OP (aD 4 x7 bO) λcI=>
 OH (aU 4 z1 cI dW) λ_ z2=>
 DJ P K m0 x1 x2 x7 x8 bW bO L1 z2)))
 (TJ P K m0 x7 x8 h)):=aB (by kernel_rfl)
theorem aHB (m0 x7 x8 fK lR xb i13 dZ dj gA cJ dB:Value) (L1 L2:LQ) (gY:Value) (h:ae):TK P K m0 x7 x8 fK lR xb i13 dZ dj gA cJ dB L1 L2 [gY] h=
 (OP (aj .lss gY dB) λgM=>
 aJ gM
 (OP (aD 1 cJ gY) λjW=>
 OP (af false 1 h jW) λkh=>
 ay P 66 [m0,kh,i13] h λfc z1=>
 ay P 67 [fc] z1 λfv z2=>
 ay P 79 [fK,xb,gY,fv] z2 λnL z3=>
 OP (aj .add gY (.int .i64 (1))) λEw=>
 ([m0,x7,x8,fK,lR,xb,i13,dZ,dj,gA,cJ,dB]:List Value)=[m0,x7,x8,fK,lR,xb,i13,dZ,dj,gA,cJ,dB]/\L2 [Ew] z3)
 (TM P K m0 x7 x8 fK lR i13 dZ dj gA L1 h)):=aB (by kernel_rfl)
theorem aHC:TM P K m0 x7 x8 fK lR i13 dZ dj gA L1 h=
 (ay P 38 [m0,i13,x7] h λgJ z1=>
 OH (cH 92 1 [(.bool false),(.slice none 0 0),(.bool false),(.slice none 0 0)] z1 [(0,4,gJ)]) λfH z2=>
 OH (cT 92 4 64 z2 lR fH) λlM z3=>
 TN P K m0 x7 x8 fK lM dZ dj gA L1 z3):=aB (by kernel_rfl)
theorem aHD:TN P K m0 x7 x8 fK lR dZ dj gA L1 h=
 (OP (aj .add gA (.int .i64 (1))) λvT=>
 ([m0,x7,x8,fK,dZ,dj]:List Value)=[m0,x7,x8,fK,dZ,dj]/\L1 [lR,vT] h):=aB (by kernel_rfl)
theorem aHA (m0 x7 x8 fK dZ dj:Value) (L1:LQ) (lR gA:Value) (h:ae):alo P K m0 x7 x8 fK dZ dj L1 [lR,gA] h=
 (OP (aj .lss gA dj) λoh=>
 aJ oh
 (OP (aD 1 dZ gA) λiW=>
 OP (af false 1 h iW) λfF=>
 ay P 34 [(.int .i64 (1))] h λlN z1=>
 ay P 79 [fK,gA,gA,lN] z1 λjU z2=>
 OP (aT x8) λdB=>
 bX [(.int .i64 (0))] z2 λL2 xs hx=>
 TK P K m0 x7 x8 fK lR gA fF dZ dj gA x8 dB L1 L2 xs hx)
 (alp P K x7 x8 fK lR h)):=aB (by kernel_rfl)
theorem aHF (x7 x8 kc jT:Value) (L1:LQ) (iT:Value) (h:ae):TO P K x7 x8 kc jT L1 [iT] h=
 (OP (aj .lss iT jT) λoU=>
 aJ oU
 (OP (aD 4 kc iT) λvU=>
 OP (af true 4 h vU) λdV=>
 OH (cF 92 [(.bool false),(.slice none 0 0),(.bool false),(.slice none 0 0)] h) λbM z1=>
 OH (aU 4 z1 bM dV) λ_ z2=>
 OP (aD 1 x8 iT) λni=>
 OP (af false 1 z2 ni) λuj=>
 (True)/\
 OP (af true 4 z2 bM) λmf=>
 (True)/\
 OP (aD 4 x7 uj) λvV=>
 OH (aU 4 z2 vV mf) λ_ z3=>
 (True)/\
 OP (aj .add iT (.int .i64 (1))) λrN=>
 ([x7,x8,kc,jT]:List Value)=[x7,x8,kc,jT]/\L1 [rN] z3)
 (alq P K x7 h)):=aB (by kernel_rfl)
theorem aHG:alq P K x7 h=
 (K x7 h):=aB (by kernel_rfl)
theorem aHE:alp P K x7 x8 fK lR h=
 (ay P 80 [fK,lR] h λkc z1=>
 OP (aT kc) λjT=>
 bX [(.int .i64 (0))] z1 λL1 xs hx=>
 TO P K x7 x8 kc jT L1 xs hx):=aB (by kernel_rfl)
theorem aHz:TJ P K m0 x7 x8 h=
 (OP (aT x8) λjA=>
 OP (aT x8) λgy=>
 ay P 78 [jA,gy] h λfA z1=>
 OP (aT x8) λdj=>
 bX [(.slice none 0 0),(.int .i64 (0))] z1 λL1 xs hx=>
 alo P K m0 x7 x8 fA x8 dj L1 xs hx):=aB (by kernel_rfl)
def MW:Prop:=
 OP (eJ m0) λaS=>
 OP (aF 0 aS) λaI=>
 OP (af false 1 h aI) λaR=>
 OH (eM 92 64 [(.bool false),(.slice none 0 0),(.bool false),(.slice none 0 0)] h aR aR) λbK z1=>
 OP (eJ m0) λbm=>
 OP (aF 0 bm) λbH=>
 OP (af false 1 z1 bH) λbW=>
 bX [(.slice none 0 0),(.int .i64 (0))] z1 λL1 xs hx=>
 alr P K m0 x1 x2 bK bW L1 xs hx
theorem e54:au P GL (aW [.tmp 6] K) (cg [m0,x1,x2]) h=MW P K m0 x1 x2 h:=by kernel_rfl
theorem f54 {K:VK} {m0 x1 x2:Value} {h:ae} (H:MW prog K m0 x1 x2 h):ay prog 54 [m0,x1,x2] h K:=
 cC k54 (cE rfl) ((e54 prog K m0 x1 x2 h).mpr H)
end
noncomputable section
variable (x0 x1 x6 x7 n8 bB bH : Value) (L1 : LQ) (xs : List Value) (h : ae)
def aif:=cj prog 77 [[],[],[0,1],[],[0,6,23],[0,6,23,25],[],[0,6],[],[],[7],[8],[],[],[7],[]]
@[irreducible] def OL:=cD aif
@[irreducible] def GV:=OL.r.r.l
@[irreducible] def acn:=GV.r.l.l.r.l
@[irreducible] def ax5:=GV.r.l.r
@[irreducible] def acm:=GV.r.r
@[irreducible] def ax2:=acn.r.l
@[irreducible] def OM:=acm.l
@[irreducible] def ax3:=OM.r.r.l.l.l
@[irreducible] def ack:=OM.r.r.r
@[irreducible] def ax4:=ack.l
theorem k77:aif=some (48,OL,[.tmp 4]):=by kernel_rfl
def xM (_P:Program) (K:VK):ax:=aW [.tmp 4] K
def XN:ax:=aH (au P acm (xM P K)) (xM P K)
def XO:ax:=aH (au P ax5 (XN P K)) (XN P K)
def ata:ax:=aH (au P ack (xM P K)) (xM P K)
def atb:ax:=bC 0 (ata P K)
def atc:ax:=aH (λf' aQ=>(([7]:List Nat).map f':List Value)=[x7]/\L1 (([8]:List Nat).map f') aQ) (atb P K)
def Uc:Prop:=aA (au P GV (xM P K)) [0,1] [x0,x1] h
def alS:Prop:=aA (au P acn (XO P K)) [0,6,23] [x0,x6,bB] h
def Ua:Prop:=aA (au P ax2 (XO P K)) [0,6,23,25] [x0,x6,bB,bH] h
def Ub:Prop:=aA (au P OM (xM P K)) [0,6] [x0,x6] h
def alQ:Prop:=aA (au P ax3 (atc P K x7 L1)) ([7]++[8]) ([x7]++xs) h
def alR:Prop:=aA (au P ax4 (xM P K)) [7] [x7] h
theorem aIh:Ua P K x0 x6 bB bH h=
 (OP (bu bB (.bool true) bH) λbW=>
 aJ bW
 (OH none λbO z1=>
 OH none λ_ z2=>
 Ub P K x0 x6 z2)
 (Ub P K x0 x6 h)):=aB (by kernel_rfl)
theorem aIm:alS P K x0 x6 bB h=
 (bQ bB false
 (OP (aj .gtr x6 (.int .u64 (9223372036854775807))) λbH=>
 Ua P K x0 x6 bB bH h)
 (Ua P K x0 x6 bB undef h)):=aB (by kernel_rfl)
theorem aIj (x7:Value) (L1:LQ) (n8:Value) (h:ae):alQ P K x7 L1 [n8] h=
 (OP (aT x7) λaY=>
 OP (aj .lss n8 aY) λbG=>
 aJ bG
 (OP (fP 3 1 x7 (some n8) none) λcU=>
 OP (fP 3 1 x7 none (some n8)) λcP=>
 OH (sw h cU cP) λdC z1=>
 (True)/\
 OP (aj .add n8 dC) λeT=>
 ([x7]:List Value)=[x7]/\L1 [eT] z1)
 (alR P K x7 h)):=aB (by kernel_rfl)
theorem aIk:alR P K x7 h=
 (K x7 h):=aB (by kernel_rfl)
theorem aIi:Ub P K x0 x6 h=
 (OP (dI .i64 x6) λca=>
 OH (eM 3 8 [(.int .i64 (0))] h ca ca) λaV z1=>
 OH (sw z1 aV x0) λb9 z2=>
 bX [b9] z2 λL1 xs hx=>
 alQ P K aV L1 xs hx):=aB (by kernel_rfl)
theorem aIl:Uc P K x0 x1 h=
 (OP (aT x0) λaP=>
 OP (dI .u64 aP) λaX=>
 OP (dI .u64 x1) λbM=>
 ay P 117 [aX,bM] h λbA z1=>
 OP (cW 0 bA) λaS=>
 OP (cW 1 bA) λaI=>
 OP (aj .gtr aS (.int .u64 (0))) λbK=>
 alS P K x0 aI bK z1):=aB (by kernel_rfl)
def Nh:Prop:=
 OP (aj .lss x1 (.int .i64 (0))) λaE=>
 aJ aE
 (OH none λaG z1=>
 OH none λ_ z2=>
 Uc P K x0 x1 z2)
 (Uc P K x0 x1 h)
theorem e77:au P OL (aW [.tmp 4] K) (cg [x0,x1]) h=Nh P K x0 x1 h:=by kernel_rfl
theorem f77 {K:VK} {x0 x1:Value} {h:ae} (H:Nh prog K x0 x1 h):ay prog 77 [x0,x1] h K:=
 cC k77 (cE rfl) ((e77 prog K x0 x1 h).mpr H)
end
noncomputable section
variable (x0 x1 x5 aE aG : Value) (L1 : LQ) (xs : List Value) (h : ae)
def aih:=cj prog 78 [[],[],[],[1,5,10],[11],[],[],[],[],[5],[]]
@[irreducible] def GW:=cD aih
@[irreducible] def ax7:=GW.r.r.l.r.l.l
@[irreducible] def aco:=GW.r.r.r
@[irreducible] def ax6:=aco.l
theorem k78:aih=some (23,GW,[.tmp 4]):=by kernel_rfl
def Lo (_P:Program) (K:VK):ax:=aW [.tmp 4] K
def atd:ax:=aH (au P aco (Lo P K)) (Lo P K)
def ate:ax:=bC 0 (atd P K)
def atf:ax:=aH (λf' aQ=>(([1,5,10]:List Nat).map f':List Value)=[x1,x5,aE]/\L1 (([11]:List Nat).map f') aQ) (ate P K)
def alU:Prop:=aA (au P ax7 (atf P K x1 x5 aE L1)) ([1,5,10]++[11]) ([x1,x5,aE]++xs) h
def alT:Prop:=aA (au P ax6 (Lo P K)) [5] [x5] h
theorem aIo (x1 x5 aE:Value) (L1:LQ) (aG:Value) (h:ae):alU P K x1 x5 aE L1 [aG] h=
 (OP (aj .lss aG aE) λaM=>
 aJ aM
 (ay P 34 [(.int .i64 (0))] h λaZ z1=>
 OH (cH 92 1 [(.bool false),(.slice none 0 0),(.bool false),(.slice none 0 0)] z1 [(0,4,aZ)]) λbM z2=>
 ay P 118 [bM,x1] z2 λaS z3=>
 OP (aD 1 x5 aG) λaI=>
 OH (aU 1 z3 aI aS) λ_ z4=>
 OP (aj .add aG (.int .i64 (1))) λaR=>
 ([x1,x5,aE]:List Value)=[x1,x5,aE]/\L1 [aR] z4)
 (alT P K x5 h)):=aB (by kernel_rfl)
theorem aIn:alT P K x5 h=
 (K x5 h):=aB (by kernel_rfl)
def Ni:Prop:=
 OH (eM 84 24 [(.slice none 0 0)] h x0 x0) λx8 z1=>
 OP (aT x8) λaE=>
 bX [(.int .i64 (0))] z1 λL1 xs hx=>
 alU P K x1 x8 aE L1 xs hx
theorem e78:au P GW (aW [.tmp 4] K) (cg [x0,x1]) h=Ni P K x0 x1 h:=by kernel_rfl
theorem f78 {K:VK} {x0 x1:Value} {h:ae} (H:Ni prog K x0 x1 h):ay prog 78 [x0,x1] h K:=
 cC k78 (cE rfl) ((e78 prog K x0 x1 h).mpr H)
end
noncomputable section
variable (a0 i1 j2 x3 : Value) (h : ae)
def aii:=cj prog 79 [[]]
@[irreducible] def c79:=cD aii
theorem k79:aii=some (23,c79,[]):=by kernel_rfl
def Nj:Prop:=
 OH (cR 92 h x3) λx7 z1=>
 OP (aD 1 a0 i1) λaE=>
 OP (af false 1 z1 aE) λaG=>
 (True)/\
 OP (aD 1 a0 i1) λaX=>
 OP (af false 1 z1 aX) λaZ=>
 (True)/\
 OP (aD 4 aZ j2) λbA=>
 OP (af true 4 z1 bA) λaS=>
 (True)/\
 OP (af true 4 z1 x7) λaI=>
 (True)/\
 ay P 36 [aS,aI] z1 λaR z2=>
 (af false 1 z2 aE=some aG/\True)/\
 OP (aD 4 aG j2) λbK=>
 OH (aU 4 z2 bK aR) λ_ z3=>
 (True)/\
 K (.tuple #[]) z3
theorem e79:au P c79 (aW [] K) (cg [a0,i1,j2,x3]) h=Nj P K a0 i1 j2 x3 h:=by kernel_rfl
theorem f79 {K:VK} {a0 i1 j2 x3:Value} {h:ae} (H:Nj prog K a0 i1 j2 x3 h):ay prog 79 [a0,i1,j2,x3] h K:=
 cC k79 (cE rfl) ((e79 prog K a0 i1 j2 x3 h).mpr H)
end
noncomputable section
variable (a0 b1 n6 x7 i8 s9 Bb aM aC : Value) (L1 L2 : LQ) (xs : List Value) (h : ae)
def aik:=cj prog 80 [[],[],[0,1,12],[13],[],[],[],[],[0],[],[],[],[],[0,6,7],[8],[],[],[],[],[0,6,7,8,9],[10],[],[],[],[0,6,7,8,9],[0,6,7,8],[7],[]]
@[irreducible] def GX:=cD aik
@[irreducible] def aye:=GX.r.l.r.l.l
@[irreducible] def acs:=GX.r.r
@[irreducible] def ON:=acs.l
@[irreducible] def GY:=ON.r.r.r.l.r.l.l
@[irreducible] def acr:=ON.r.r.r.r
@[irreducible] def aya:=GY.r.l.l.r.l.r.l.l
@[irreducible] def acv:=GY.r.l.l.r.r
@[irreducible] def acu:=GY.r.r
@[irreducible] def ayd:=acr.l
@[irreducible] def ayb:=acv.l
@[irreducible] def ayc:=acu.l
theorem k80:aik=some (83,GX,[.tmp 4]):=by kernel_rfl
def Ap (_P:Program) (K:VK):ax:=aW [.tmp 4] K
def atl:ax:=aH (au P acs (Ap P K)) (Ap P K)
def atq:ax:=bC 0 (atl P K)
def atr:ax:=aH (λf' aQ=>(([0,1,12]:List Nat).map f':List Value)=[a0,b1,aM]/\L1 (([13]:List Nat).map f') aQ) (atq P K)
def atj:ax:=aH (au P acr (Ap P K)) (Ap P K)
def atk:ax:=bC 2 (atj P K)
def Fj:ax:=aH (λf' aQ=>(([0,6,7]:List Nat).map f':List Value)=[a0,n6,x7]/\L1 (([8]:List Nat).map f') aQ) (atk P K)
def atm:ax:=aH (au P acu (Fj P K a0 n6 x7 L1)) (Fj P K a0 n6 x7 L1)
def Lq:ax:=bC 3 (atm P K a0 n6 x7 L1)
def atn:ax:=aH (au P acv (Lq P K a0 n6 x7 L1)) (Lq P K a0 n6 x7 L1)
def ato:ax:=bC 4 (atn P K a0 n6 x7 L1)
def atp:ax:=aH (λf' aQ=>(([0,6,7,8,9]:List Nat).map f':List Value)=[a0,n6,x7,i8,s9]/\L2 (([10]:List Nat).map f') aQ) (ato P K a0 n6 x7 L1)
def al2:Prop:=aA (au P aye (atr P K a0 b1 aM L1)) ([0,1,12]++[13]) ([a0,b1,aM]++xs) h
def alX:Prop:=aA (au P ON (Ap P K)) [0] [a0] h
def Ud:Prop:=aA (au P GY (Fj P K a0 n6 x7 L1)) ([0,6,7]++[8]) ([a0,n6,x7]++xs) h
def alY:Prop:=aA (au P aya (atp P K a0 n6 x7 i8 s9 L1 L2)) ([0,6,7,8,9]++[10]) ([a0,n6,x7,i8,s9]++xs) h
def alZ:Prop:=aA (au P ayb (Lq P K a0 n6 x7 L1)) [0,6,7,8,9] [a0,n6,x7,i8,s9] h
def al0:Prop:=aA (au P ayc (Fj P K a0 n6 x7 L1)) [0,6,7,8] [a0,n6,x7,i8] h
def al1:Prop:=aA (au P ayd (Ap P K)) [7] [x7] h
theorem aIx (a0 b1 aM:Value) (L1:LQ) (aC:Value) (h:ae):al2 P K a0 b1 aM L1 [aC] h=
 (OP (aj .lss aC aM) λaP=>
 aJ aP
 (OP (aD 1 a0 aC) λaI=>
 OP (af false 1 h aI) λaR=>
 (True)/\
 OP (aD 4 b1 aC) λbm=>
 OP (af true 4 h bm) λbH=>
 (True)/\
 OH (cH 92 1 [(.bool false),(.slice none 0 0),(.bool false),(.slice none 0 0)] h [(0,4,bH)]) λbW z1=>
 (af false 1 z1 aI=some aR/\True)/\
 OH (cT 92 4 64 z1 aR bW) λbO z2=>
 (True)/\
 OP (aD 1 a0 aC) λcL=>
 OH (aU 1 z2 cL bO) λ_ z3=>
 (True)/\
 OP (aj .add aC (.int .i64 (1))) λca=>
 ([a0,b1,aM]:List Value)=[a0,b1,aM]/\L1 [ca] z3)
 (alX P K a0 h)):=aB (by kernel_rfl)
theorem aIt (a0 n6 x7 i8 s9:Value) (L1 L2:LQ) (Bb:Value) (h:ae):alY P K a0 n6 x7 i8 s9 L1 L2 [Bb] h=
 (OP (aj .lss Bb n6) λfg=>
 aJ fg
 (OP (af true 4 h s9) λgX=>
 (True)/\
 OP (aD 1 a0 i8) λiZ=>
 OP (af false 1 h iZ) λgL=>
 (True)/\
 OP (aD 4 gL Bb) λiV=>
 OP (af true 4 h iV) λhZ=>
 (True)/\
 OP (aD 4 x7 Bb) λkZ=>
 OP (af true 4 h kZ) λgy=>
 (True)/\
 ay P 65 [hZ,gy] h λfA z1=>
 (af true 4 z1 s9=some gX/\True)/\
 ay P 39 [gX,fA] z1 λdZ z2=>
 (True)/\
 OH (aU 4 z2 s9 dZ) λ_ z3=>
 (True)/\
 OP (aj .add Bb (.int .i64 (1))) λfJ=>
 ([a0,n6,x7,i8,s9]:List Value)=[a0,n6,x7,i8,s9]/\L2 [fJ] z3)
 (alZ P K a0 n6 x7 i8 s9 L1 h)):=aB (by kernel_rfl)
theorem aIu:alZ P K a0 n6 x7 i8 s9 L1 h=
 (OP (af true 4 h s9) λoh=>
 (True)/\
 OP (aD 1 a0 i8) λfF=>
 OP (af false 1 h fF) λiM=>
 (True)/\
 OP (aD 4 iM i8) λie=>
 OP (af true 4 h ie) λlN=>
 (True)/\
 ay P 94 [oh,lN] h λjU z1=>
 (True)/\
 OP (aD 4 x7 i8) λcJ=>
 OH (aU 4 z1 cJ jU) λ_ z2=>
 (True)/\
 al0 P K a0 n6 x7 i8 L1 z2):=aB (by kernel_rfl)
theorem aIv:al0 P K a0 n6 x7 i8 L1 h=
 (OP (aj .sub i8 (.int .i64 (1))) λcU=>
 ([a0,n6,x7]:List Value)=[a0,n6,x7]/\L1 [cU] h):=aB (by kernel_rfl)
theorem aIs (a0 n6 x7:Value) (L1:LQ) (i8:Value) (h:ae):Ud P K a0 n6 x7 L1 [i8] h=
 (OP (aj .geq i8 (.int .i64 (0))) λdW=>
 aJ dW
 (OP (aD 1 a0 i8) λcP=>
 OP (af false 1 h cP) λdC=>
 OP (aD 4 dC n6) λgn=>
 OP (af true 4 h gn) λfE=>
 OH (cF 92 [(.bool false),(.slice none 0 0),(.bool false),(.slice none 0 0)] h) λs9 z1=>
 OH (aU 4 z1 s9 fE) λ_ z2=>
 OP (aj .add i8 (.int .i64 (1))) λiU=>
 bX [iU] z2 λL2 xs hx=>
 alY P K a0 n6 x7 i8 s9 L1 L2 xs hx)
 (al1 P K x7 h)):=aB (by kernel_rfl)
theorem aIw:al1 P K x7 h=
 (K x7 h):=aB (by kernel_rfl)
theorem aIr:alX P K a0 h=
 (ay P 119 [a0] h λbz z1=>
 OP (aT a0) λb9=>
 OH (eM 92 64 [(.bool false),(.slice none 0 0),(.bool false),(.slice none 0 0)] z1 b9 b9) λcB z2=>
 OP (aj .sub b9 (.int .i64 (1))) λbG=>
 bX [bG] z2 λL1 xs hx=>
 Ud P K a0 b9 cB L1 xs hx):=aB (by kernel_rfl)
def Nk:Prop:=
 OP (aT a0) λaM=>
 bX [(.int .i64 (0))] h λL1 xs hx=>
 al2 P K a0 b1 aM L1 xs hx
theorem e80:au P GX (aW [.tmp 4] K) (cg [a0,b1]) h=Nk P K a0 b1 h:=by kernel_rfl
theorem f80 {K:VK} {a0 b1:Value} {h:ae} (H:Nk prog K a0 b1 h):ay prog 80 [a0,b1] h K:=
 cC k80 (cE rfl) ((e80 prog K a0 b1 h).mpr H)
end
noncomputable section
variable (x0 y1 : Value) (h : ae)
def agQ:=cj prog 117 [[],[],[],[],[],[]]
@[irreducible] def Yv:=cD agQ
theorem aCe:agQ=some (30,Yv,[.tmp 4,.tmp 5]):=by kernel_rfl
def LO:Prop:=
 aJ (.bool false)
 (OP (dI .u32 x0) λaM=>
 OP (dI .u32 y1) λaP=>
 ay P 138 [aM,aP] h λaX z1=>
 OP (cW 0 aX) λaZ=>
 OP (cW 1 aX) λbM=>
 OP (dI .u64 aZ) λaS=>
 OP (dI .u64 bM) λaR=>
 K (.tuple #[aS,aR]) z1)
 (ay P 139 [x0,y1] h λbH z1=>
 OP (cW 0 bH) λbW=>
 OP (cW 1 bH) λbO=>
 K (.tuple #[bW,bO]) z1)
theorem azB:au P Yv (aW [.tmp 4,.tmp 5] K) (cg [x0,y1]) h=LO P K x0 y1 h:=by kernel_rfl
theorem f117 {K:VK} {x0 y1:Value} {h:ae} (H:LO prog K x0 y1 h):ay prog 117 [x0,y1] h K:=
 cC aCe (cE rfl) ((azB prog K x0 y1 h).mpr H)
end
noncomputable section
variable (x0 x1 x6 x7 n8 bB bH : Value) (L1 : LQ) (xs : List Value) (h : ae)
def agR:=cj prog 118 [[],[],[0,1],[],[0,6,23],[0,6,23,25],[],[0,6],[],[],[7],[8],[],[],[7],[]]
@[irreducible] def NT:=cD agR
@[irreducible] def FL:=NT.r.r.l
@[irreducible] def Yy:=FL.r.l.l.r.l
@[irreducible] def auI:=FL.r.l.r
@[irreducible] def Yx:=FL.r.r
@[irreducible] def auF:=Yy.r.l
@[irreducible] def NU:=Yx.l
@[irreducible] def auG:=NU.r.r.l.l.l
@[irreducible] def Yw:=NU.r.r.r
@[irreducible] def auH:=Yw.l
theorem aCf:agR=some (48,NT,[.tmp 4]):=by kernel_rfl
def xK (_P:Program) (K:VK):ax:=aW [.tmp 4] K
def WB:ax:=aH (au P Yx (xK P K)) (xK P K)
def WC:ax:=aH (au P auI (WB P K)) (WB P K)
def ao2:ax:=aH (au P Yw (xK P K)) (xK P K)
def ao3:ax:=bC 0 (ao2 P K)
def ao4:ax:=aH (λf' aQ=>(([7]:List Nat).map f':List Value)=[x7]/\L1 (([8]:List Nat).map f') aQ) (ao3 P K)
def R7:Prop:=aA (au P FL (xK P K)) [0,1] [x0,x1] h
def aiO:Prop:=aA (au P Yy (WC P K)) [0,6,23] [x0,x6,bB] h
def R5:Prop:=aA (au P auF (WC P K)) [0,6,23,25] [x0,x6,bB,bH] h
def R6:Prop:=aA (au P NU (xK P K)) [0,6] [x0,x6] h
def aiM:Prop:=aA (au P auG (ao4 P K x7 L1)) ([7]++[8]) ([x7]++xs) h
def aiN:Prop:=aA (au P auH (xK P K)) [7] [x7] h
theorem aDG:R5 P K x0 x6 bB bH h=
 (OP (bu bB (.bool true) bH) λbW=>
 aJ bW
 (OH none λbO z1=>
 OH none λ_ z2=>
 R6 P K x0 x6 z2)
 (R6 P K x0 x6 h)):=aB (by kernel_rfl)
theorem aDL:aiO P K x0 x6 bB h=
 (bQ bB false
 (OP (aj .gtr x6 (.int .u64 (9223372036854775807))) λbH=>
 R5 P K x0 x6 bB bH h)
 (R5 P K x0 x6 bB undef h)):=aB (by kernel_rfl)
theorem aDI (x7:Value) (L1:LQ) (n8:Value) (h:ae):aiM P K x7 L1 [n8] h=
 (OP (aT x7) λaY=>
 OP (aj .lss n8 aY) λbG=>
 aJ bG
 (OP (fP 92 4 x7 (some n8) none) λcU=>
 OP (fP 92 4 x7 none (some n8)) λcP=>
 OH (rA 4 h cU cP) λdC z1=>
 (True)/\
 OP (aj .add n8 dC) λeT=>
 ([x7]:List Value)=[x7]/\L1 [eT] z1)
 (aiN P K x7 h)):=aB (by kernel_rfl)
theorem aDJ:aiN P K x7 h=
 (K x7 h):=aB (by kernel_rfl)
theorem aDH:R6 P K x0 x6 h=
 (OP (dI .i64 x6) λca=>
 OH (eM 92 64 [(.bool false),(.slice none 0 0),(.bool false),(.slice none 0 0)] h ca ca) λaV z1=>
 OH (rA 4 z1 aV x0) λb9 z2=>
 bX [b9] z2 λL1 xs hx=>
 aiM P K aV L1 xs hx):=aB (by kernel_rfl)
theorem aDK:R7 P K x0 x1 h=
 (OP (aT x0) λaP=>
 OP (dI .u64 aP) λaX=>
 OP (dI .u64 x1) λbM=>
 ay P 117 [aX,bM] h λbA z1=>
 OP (cW 0 bA) λaS=>
 OP (cW 1 bA) λaI=>
 OP (aj .gtr aS (.int .u64 (0))) λbK=>
 aiO P K x0 aI bK z1):=aB (by kernel_rfl)
def LP:Prop:=
 OP (aj .lss x1 (.int .i64 (0))) λaE=>
 aJ aE
 (OH none λaG z1=>
 OH none λ_ z2=>
 R7 P K x0 x1 z2)
 (R7 P K x0 x1 h)
theorem azC:au P NT (aW [.tmp 4] K) (cg [x0,x1]) h=LP P K x0 x1 h:=by kernel_rfl
theorem f118 {K:VK} {x0 x1:Value} {h:ae} (H:LP prog K x0 x1 h):ay prog 118 [x0,x1] h K:=
 cC aCf (cE rfl) ((azC prog K x0 x1 h).mpr H)
end
noncomputable section
variable (a0 x2 x3 x4 x5 i6 q7 j8 aG aM aI ca : Value) (L1 L2 L3 : LQ) (xs : List Value) (h : ae)
def agS:=cj prog 119 [[],[],[],[0,2,3,11],[12],[],[],[],[],[0,2,3,4,11,12],[5],[0,2,3,4,5,11,12,20],[0,2,3,4,5,11,12,20,29],[],[],[0,2,3,4,5,11,12],[],[],[],[],[],[0,2,3,4,11,12],[],[],[0,2,3,4,11,12],[6],[],[],[],[],[],[],[0,2,3,4,6,7,11,12],[8],[],[],[],[0,2,3,4,6,11,12],[0,2,3,11,12],[2,3],[]]
@[irreducible] def FM:=cD agS
@[irreducible] def FO:=FM.r.r.l.r.l.l
@[irreducible] def YC:=FM.r.r.r
@[irreducible] def FN:=FO.r.r.l.l.r.r.l.l.l
@[irreducible] def Yz:=FO.r.r.l.l.r.r.r
@[irreducible] def YF:=FO.r.r.r
@[irreducible] def auP:=YC.l
@[irreducible] def YA:=FN.l.l.r.l
@[irreducible] def auK:=FN.l.r
@[irreducible] def auJ:=FN.r
@[irreducible] def YB:=Yz.l
@[irreducible] def auO:=YF.l
@[irreducible] def auL:=YA.r.l
@[irreducible] def YD:=YB.r.r.l
@[irreducible] def NV:=YD.r.r.l.l
@[irreducible] def auM:=NV.r.l.l.r.r.r.l.l
@[irreducible] def YE:=NV.r.r
@[irreducible] def auN:=YE.l
theorem aCg:agS=some (133,FM,[.cell true 4 2]):=by kernel_rfl
def KF (_P:Program) (K:VK):ax:=aW [.cell true 4 2] K
def ao7:ax:=aH (au P YC (KF P K)) (KF P K)
def apd:ax:=bC 0 (ao7 P K)
def EL:ax:=aH (λf' aQ=>(([0,2,3,11]:List Nat).map f':List Value)=[a0,x2,x3,aG]/\L1 (([12]:List Nat).map f') aQ) (apd P K)
def ape:ax:=aH (au P YF (EL P K a0 x2 x3 aG L1)) (EL P K a0 x2 x3 aG L1)
def BM:ax:=bC 1 (ape P K a0 x2 x3 aG L1)
def ao5:ax:=aH (au P Yz (BM P K a0 x2 x3 aG L1)) (BM P K a0 x2 x3 aG L1)
def ao6:ax:=bC 2 (ao5 P K a0 x2 x3 aG L1)
def KG:ax:=aH (λf' aQ=>(([0,2,3,4,11,12]:List Nat).map f':List Value)=[a0,x2,x3,x4,aG,aM]/\L2 (([5]:List Nat).map f') aQ) (ao6 P K a0 x2 x3 aG L1)
def WD:ax:=aH (au P auJ (KG P K a0 x2 x3 x4 aG aM L1 L2)) (KG P K a0 x2 x3 x4 aG aM L1 L2)
def WE:ax:=aH (au P auK (WD P K a0 x2 x3 x4 aG aM L1 L2)) (WD P K a0 x2 x3 x4 aG aM L1 L2)
def ao8:ax:=bC 4 (BM P K a0 x2 x3 aG L1)
def EK:ax:=aH (λf' aQ=>(([0,2,3,4,11,12]:List Nat).map f':List Value)=[a0,x2,x3,x4,aG,aM]/\L2 (([6]:List Nat).map f') aQ) (ao8 P K a0 x2 x3 aG L1)
def ao9:ax:=aH (au P YE (EK P K a0 x2 x3 x4 aG aM L1 L2)) (EK P K a0 x2 x3 x4 aG aM L1 L2)
def apa:ax:=bC 5 (ao9 P K a0 x2 x3 x4 aG aM L1 L2)
def apb:ax:=bC 6 (apa P K a0 x2 x3 x4 aG aM L1 L2)
def apc:ax:=aH (λf' aQ=>(([0,2,3,4,6,7,11,12]:List Nat).map f':List Value)=[a0,x2,x3,x4,i6,q7,aG,aM]/\L3 (([8]:List Nat).map f') aQ) (apb P K a0 x2 x3 x4 aG aM L1 L2)
def aiT:Prop:=aA (au P FO (EL P K a0 x2 x3 aG L1)) ([0,2,3,11]++[12]) ([a0,x2,x3,aG]++xs) h
def aiP:Prop:=aA (au P FN (KG P K a0 x2 x3 x4 aG aM L1 L2)) ([0,2,3,4,11,12]++[5]) ([a0,x2,x3,x4,aG,aM]++xs) h
def aiQ:Prop:=aA (au P YA (WE P K a0 x2 x3 x4 aG aM L1 L2)) [0,2,3,4,5,11,12,20] [a0,x2,x3,x4,x5,aG,aM,aI] h
def R8:Prop:=aA (au P auL (WE P K a0 x2 x3 x4 aG aM L1 L2)) [0,2,3,4,5,11,12,20,29] [a0,x2,x3,x4,x5,aG,aM,aI,ca] h
def aiR:Prop:=aA (au P YB (BM P K a0 x2 x3 aG L1)) [0,2,3,4,5,11,12] [a0,x2,x3,x4,x5,aG,aM] h
def R9:Prop:=aA (au P YD (BM P K a0 x2 x3 aG L1)) [0,2,3,4,11,12] [a0,x2,x3,x4,aG,aM] h
def Sa:Prop:=aA (au P NV (EK P K a0 x2 x3 x4 aG aM L1 L2)) ([0,2,3,4,11,12]++[6]) ([a0,x2,x3,x4,aG,aM]++xs) h
def Sb:Prop:=aA (au P auM (apc P K a0 x2 x3 x4 i6 q7 aG aM L1 L2 L3)) ([0,2,3,4,6,7,11,12]++[8]) ([a0,x2,x3,x4,i6,q7,aG,aM]++xs) h
def DB:Prop:=aA (au P auN (EK P K a0 x2 x3 x4 aG aM L1 L2)) [0,2,3,4,6,11,12] [a0,x2,x3,x4,i6,aG,aM] h
def Sc:Prop:=aA (au P auO (EL P K a0 x2 x3 aG L1)) [0,2,3,11,12] [a0,x2,x3,aG,aM] h
def aiS:Prop:=aA (au P auP (KF P K)) [2,3] [x2,x3] h
theorem aDO:R8 P K a0 x2 x3 x4 x5 aG aM aI ca L1 L2 h=
 (OP (bu aI ca (.bool false)) λaV=>
 aJ aV
 (OP (aj .add x5 (.int .i64 (1))) λdJ=>
 ([a0,x2,x3,x4,aG,aM]:List Value)=[a0,x2,x3,x4,aG,aM]/\L2 [dJ] h)
 (aiR P K a0 x2 x3 x4 x5 aG aM L1 h)):=aB (by kernel_rfl)
theorem aDN:aiQ P K a0 x2 x3 x4 x5 aG aM aI L1 L2 h=
 (bQ aI true
 (OP (aD 1 a0 x5) λbB=>
 OP (af false 1 h bB) λbm=>
 OP (aD 4 bm x4) λbW=>
 OP (af true 4 h bW) λbO=>
 ay P 84 [bO] h λcL z1=>
 OP (aj .eql cL (.int .i64 (0))) λca=>
 R8 P K a0 x2 x3 x4 x5 aG aM aI ca L1 L2 z1)
 (R8 P K a0 x2 x3 x4 x5 aG aM aI undef L1 L2 h)):=aB (by kernel_rfl)
theorem aDM (a0 x2 x3 x4 aG aM:Value) (L1 L2:LQ) (x5:Value) (h:ae):aiP P K a0 x2 x3 x4 aG aM L1 L2 [x5] h=
 (OP (aT a0) λbA=>
 OP (aj .lss x5 bA) λaS=>
 aiQ P K a0 x2 x3 x4 x5 aG aM aS L1 L2 h):=aB (by kernel_rfl)
theorem aDS (a0 x2 x3 x4 i6 q7 aG aM:Value) (L1 L2 L3:LQ) (j8:Value) (h:ae):Sb P K a0 x2 x3 x4 i6 q7 aG aM L1 L2 L3 [j8] h=
 (OP (aD 1 a0 i6) λgJ=>
 OP (af false 1 h gJ) λfH=>
 OP (aT fH) λlM=>
 OP (aj .lss j8 lM) λvT=>
 aJ vT
 (OP (aD 1 a0 i6) λiT=>
 OP (af false 1 h iT) λoU=>
 (True)/\
 OP (aD 1 a0 i6) λui=>
 OP (af false 1 h ui) λnh=>
 (True)/\
 OP (aD 4 nh j8) λni=>
 OP (af true 4 h ni) λuj=>
 (True)/\
 OP (af true 4 h q7) λmf=>
 (True)/\
 OP (aD 1 a0 x4) λnK=>
 OP (af false 1 h nK) λqG=>
 (True)/\
 OP (aD 4 qG j8) λoV=>
 OP (af true 4 h oV) λEd=>
 (True)/\
 ay P 65 [mf,Ed] h λqH z1=>
 (af false 1 z1 iT=some oU/\af false 1 z1 ui=some nh/\af true 4 z1 ni=some uj/\True)/\
 ay P 39 [uj,qH] z1 λvX z2=>
 (af false 1 z2 iT=some oU/\True)/\
 OP (aD 4 oU j8) λhT=>
 OH (aU 4 z2 hT vX) λ_ z3=>
 (True)/\
 OP (aj .add j8 (.int .i64 (1))) λpI=>
 ([a0,x2,x3,x4,i6,q7,aG,aM]:List Value)=[a0,x2,x3,x4,i6,q7,aG,aM]/\L3 [pI] z3)
 (DB P K a0 x2 x3 x4 i6 aG aM L1 L2 h)):=aB (by kernel_rfl)
theorem aDT:DB P K a0 x2 x3 x4 i6 aG aM L1 L2 h=
 (OP (aj .add i6 (.int .i64 (1))) λlh=>
 ([a0,x2,x3,x4,aG,aM]:List Value)=[a0,x2,x3,x4,aG,aM]/\L2 [lh] h):=aB (by kernel_rfl)
theorem aDR (a0 x2 x3 x4 aG aM:Value) (L1 L2:LQ) (i6:Value) (h:ae):Sa P K a0 x2 x3 x4 aG aM L1 L2 [i6] h=
 (OP (aT a0) λdj=>
 OP (aj .lss i6 dj) λgA=>
 aJ gA
 (OP (aD 1 a0 i6) λiM=>
 OP (af false 1 h iM) λkO=>
 OP (aD 4 kO x4) λlN=>
 OP (af true 4 h lN) λjU=>
 ay P 84 [jU] h λcJ z1=>
 OP (aj .eql cJ (.int .i64 (0))) λdB=>
 aJ dB
 (DB P K a0 x2 x3 x4 i6 aG aM L1 L2 z1)
 (OH (cF 92 [(.bool false),(.slice none 0 0),(.bool false),(.slice none 0 0)] z1) λq7 z2=>
 OP (eB z2 q7) λu=>
 (True)/\
 OP (aD 1 a0 i6) λjV=>
 OP (af false 1 z2 jV) λjW=>
 (af false 1 z1 jV=some jW/\True)/\
 OP (aD 4 jW x4) λeC=>
 OP (af true 4 z2 eC) λeP=>
 (af true 4 z1 eC=some eP/\True)/\
 OP (aD 1 a0 x4) λlO=>
 OP (af false 1 z2 lO) λeE=>
 (af false 1 z1 lO=some eE/\True)/\
 OP (aD 4 eE x4) λfv=>
 OP (af true 4 z2 fv) λnL=>
 (af true 4 z1 fv=some nL/\True)/\
 ay P 94 [eP,nL] z2 λEw z3=>
 (eB z3 q7=some u/\True)/\
 OH (aU 4 z3 q7 Ew) λ_ z4=>
 (True)/\
 bX [x4] z4 λL3 xs hx=>
 Sb P K a0 x2 x3 x4 i6 q7 aG aM L1 L2 L3 xs hx))
 (Sc P K a0 x2 x3 aG aM L1 h)):=aB (by kernel_rfl)
theorem aDQ:R9 P K a0 x2 x3 x4 aG aM L1 h=
 (OP (af true 4 h x3) λfY=>
 (True)/\
 OP (aD 1 a0 x4) λgL=>
 OP (af false 1 h gL) λfT=>
 (True)/\
 OP (aD 4 fT x4) λhZ=>
 OP (af true 4 h hZ) λkf=>
 (True)/\
 ay P 65 [fY,kf] h λjA z1=>
 (True)/\
 OH (aU 4 z1 x3 jA) λ_ z2=>
 (True)/\
 OP (aj .add x4 (.int .i64 (1))) λgy=>
 bX [gy] z2 λL2 xs hx=>
 Sa P K a0 x2 x3 x4 aG aM L1 L2 xs hx):=aB (by kernel_rfl)
theorem aDP:aiR P K a0 x2 x3 x4 x5 aG aM L1 h=
 (OP (aT a0) λcB=>
 OP (aj .eql x5 cB) λaY=>
 aJ aY
 (ay P 34 [(.int .i64 (0))] h λbG z1=>
 OH (aU 4 z1 x2 bG) λ_ z2=>
 OP (af true 4 z2 x2) λr0=>
 K r0 z2)
 (OP (aj .neq x5 x4) λcI=>
 aJ cI
 (OP (aD 1 a0 x4) λgn=>
 OP (af false 1 h gn) λfE=>
 (True)/\
 OP (aD 1 a0 x5) λer=>
 OP (af false 1 h er) λfI=>
 (True)/\
 OP (aD 1 a0 x5) λfg=>
 OH (aU 1 h fg fE) λ_ z1=>
 (True)/\
 OP (aD 1 a0 x4) λgw=>
 OH (aU 1 z1 gw fI) λ_ z2=>
 (True)/\
 OP (af true 4 z2 x3) λfJ=>
 ay P 67 [fJ] z2 λgX z3=>
 OH (aU 4 z3 x3 gX) λ_ z4=>
 R9 P K a0 x2 x3 x4 aG aM L1 z4)
 (R9 P K a0 x2 x3 x4 aG aM L1 h))):=aB (by kernel_rfl)
theorem aDU:Sc P K a0 x2 x3 aG aM L1 h=
 (OP (aj .add aM (.int .i64 (1))) λke=>
 ([a0,x2,x3,aG]:List Value)=[a0,x2,x3,aG]/\L1 [ke] h):=aB (by kernel_rfl)
theorem aDW (a0 x2 x3 aG:Value) (L1:LQ) (aM:Value) (h:ae):aiT P K a0 x2 x3 aG L1 [aM] h=
 (OP (aj .lss aM aG) λaC=>
 aJ aC
 (bX [aM] h λL2 xs hx=>
 aiP P K a0 x2 x3 aM aG aM L1 L2 xs hx)
 (aiS P K x2 x3 h)):=aB (by kernel_rfl)
theorem aDV:aiS P K x2 x3 h=
 (OP (af true 4 h x3) λkA=>
 OH (aU 4 h x2 kA) λ_ z1=>
 OP (af true 4 z1 x2) λr0=>
 K r0 z1):=aB (by kernel_rfl)
def LR:Prop:=
 OH (cF 92 [(.bool false),(.slice none 0 0),(.bool false),(.slice none 0 0)] h) λx2 z1=>
 ay P 34 [(.int .i64 (1))] z1 λx9 z2=>
 OH (cF 92 [(.bool false),(.slice none 0 0),(.bool false),(.slice none 0 0)] z2) λx3 z3=>
 OH (aU 4 z3 x3 x9) λ_ z4=>
 OP (aT a0) λaG=>
 bX [(.int .i64 (0))] z4 λL1 xs hx=>
 aiT P K a0 x2 x3 aG L1 xs hx
theorem azD:au P FM (aW [.cell true 4 2] K) (cg [a0]) h=LR P K a0 h:=by kernel_rfl
theorem f119 {K:VK} {a0:Value} {h:ae} (H:LR prog K a0 h):ay prog 119 [a0] h K:=
 cC aCg (cE rfl) ((azD prog K a0 h).mpr H)
end
noncomputable section
variable (x0 y1 : Value) (h : ae)
def ag6:=cj prog 139 [[],[],[],[],[],[],[],[],[],[],[],[]]
@[irreducible] def YZ:=cD ag6
theorem aCs:ag6=some (51,YZ,[.tmp 4,.tmp 5]):=by kernel_rfl
def L8 (_P:Program) (K:VK) (x0 y1:Value) (h:ae):Prop:=
 OP (aj .and x0 (.int .u64 (4294967295))) λaX=>
 OP (aj .shr x0 (.int .u64 (32))) λbM=>
 OP (aj .and y1 (.int .u64 (4294967295))) λaS=>
 OP (aj .shr y1 (.int .u64 (32))) λaR=>
 OP (aj .mul aX aS) λbm=>
 OP (aj .mul bM aS) λbO=>
 OP (aj .shr bm (.int .u64 (32))) λca=>
 OP (aj .add bO ca) λaV=>
 OP (aj .and aV (.int .u64 (4294967295))) λdJ=>
 OP (aj .shr aV (.int .u64 (32))) λcA=>
 OP (aj .mul aX aR) λdH=>
 OP (aj .add dJ dH) λdW=>
 OP (aj .mul bM aR) λeg=>
 OP (aj .add eg cA) λcP=>
 OP (aj .shr dW (.int .u64 (32))) λeT=>
 OP (aj .add cP eT) λgn=>
 OP (aj .mul x0 y1) λiU=>
 K (.tuple #[gn,iU]) h
theorem azP:au P YZ (aW [.tmp 4,.tmp 5] K) (cg [x0,y1]) h=L8 P K x0 y1 h:=by kernel_rfl
theorem f139 {K:VK} {x0 y1:Value} {h:ae} (H:L8 prog K x0 y1 h):ay prog 139 [x0,y1] h K:=
 cC aCs (cE rfl) ((azP prog K x0 y1 h).mpr H)
end
end
section
open Go.Sim Go.Sort
variable {h : ae} {K : Value -> ae -> Prop} {n : Nat}
def U (n:Int):Value:=.int .u64 n
theorem aox {y:Nat} (hy:y<=8) (hk:K (.tuple #[U 0,U y]) h):ay prog 139 [U 1,U y] h K:=by
 refine f139 ?_
 unfold L8
 have:y=0∨y=1∨y=2∨y=3∨y=4∨y=5∨y=6∨y=7∨y=8:=by omega
 rcases this with rfl | rfl | rfl | rfl | rfl | rfl | rfl | rfl | rfl <;>
 ·refine nQ (v:=U 1) rfl ?_
  refine nQ (v:=U 0) rfl ?_
  refine nQ (v:=U _) rfl ?_
  refine nQ (v:=U 0) rfl ?_
  refine nQ (v:=U _) rfl ?_
  refine nQ (v:=U 0) rfl ?_
  refine nQ (v:=U 0) rfl ?_
  refine nQ (v:=U 0) rfl ?_
  refine nQ (v:=U 0) rfl ?_
  refine nQ (v:=U 0) rfl ?_
  refine nQ (v:=U 0) rfl ?_
  refine nQ (v:=U 0) rfl ?_
  refine nQ (v:=U 0) rfl ?_
  refine nQ (v:=U 0) rfl ?_
  refine nQ (v:=U 0) rfl ?_
  refine nQ (v:=U 0) rfl ?_
  refine nQ (v:=U _) rfl ?_
  exact hk
theorem VP {y:Nat} (hy:y<=8) (hk:K (.tuple #[U 0,U y]) h):ay prog 117 [U 1,U y] h K:=by
 refine f117 ?_
 unfold LO
 simp only [dm]
 refine aox hy ?_
 simp only [fM,gi,gj,ah]
 exact hk
theorem afx (g:ae) (d s:Value):sw g d s=rA 1 g d s:=by
 simp [sw,rA]
theorem xI (r:List Value) (k:Nat):(bE r k).length=k*r.length:=by simp [bE]
theorem VJ (r:List Value) (a b:Nat):bE r (a+b)=bE r a++bE r b:=by
 simp [bE,<-List.replicate_append_replicate]
theorem amL {r z:List Value} (hz:z.length=r.length) {k m q:Nat} (hq:q<=m):setAt (bE r k++bE z m) (k*r.length) (bE r q)=bE r (k+q)++bE z (m-q):=by
 have e:bE z m=bE z q++bE z (m-q):=by rw [<-VJ,show q+(m-q)=m by omega]
 unfold setAt
 rw [List.take_left' (xI r k),xI,e,<-List.append_assoc,List.drop_left' (by rw [List.length_append,xI,xI,hz]),VJ]
theorem dbl {g:ae} {i esz n k c:Nat} {e:TypeId} {r z:List Value} (hr:r.length=esz) (hz:z.length=esz) (hk:0<k) (eX:k<n) (hg:g[i]?=some (.arr e (bE r k++bE z (n-k)))):
  rA esz g (sl e i (k*esz) (n-k)) (.slice (some ⟨i,0,some e⟩) k c)=some (I (Nat.min k (n-k):Nat),g.set i (.arr e (bE r (k+Nat.min k (n-k))++bE z (n-k-Nat.min k (n-k))))):=by
 have l1:(bE r k).length=k*esz:=by rw [xI,hr]
 have l2:(bE z (n-k)).length=(n-k)*esz:=by rw [xI,hz]
 have sc:fx g esz (.slice (some ⟨i,0,some e⟩) k c)=some (bE r k):=by
  simp only [fx,bw,hg,bind_some]
  rw [if_neg (by omega),if_pos (by rw [List.length_append,l1,l2];omega),List.drop_zero,List.take_left' l1]
 have aA9:Nat.min k (n-k)<=k:=Nat.min_le_left _ _
 have Qq:Nat.min k (n-k)<=n-k:=Nat.min_le_right _ _
 have iP:0<Nat.min k (n-k):=Nat.lt_min.2 ⟨hk,by omega⟩
 simp only [rA,sc]
 simp only [iY,sl,hg]
 generalize Nat.min k (n-k)=q at aA9 Qq iP
 rw [if_neg (by omega),if_pos (by
  rw [List.length_append,l1,l2]
  have:=Nat.mul_le_mul_right esz Qq
  omega)]
 have t:(bE r k).take (q*esz)=bE r q:=by
  have:bE r k=bE r q++bE r (k-q):=by rw [<-VJ,show q+(k-q)=k by omega]
  rw [this,List.take_left' (by rw [xI,hr])]
 subst hr
 rw [t,amL hz Qq]
theorem ady {g:ae} {i j esz n c:Nat} {e e':TypeId} {r z:List Value} (hr:r.length=esz) (hz:z.length=esz) (hn:0<n) (hg:g[i]?=some (.arr e (bE z n))) (hj:g[j]?=some (.arr e' r)):
  rA esz g (sl e i 0 n) (.slice (some ⟨j,0,some e'⟩) 1 c)=some (I 1,g.set i (.arr e (bE r 1++bE z (n-1)))):=by
 have sc:fx g esz (.slice (some ⟨j,0,some e'⟩) 1 c)=some r:=by
  simp only [fx,bw,hj,bind_some]
  rw [if_neg (by omega),if_pos (by omega),List.drop_zero,List.take_of_length_le (by omega)]
 have m1:Nat.min 1 n=1:=Nat.min_eq_left hn
 simp only [rA,sc]
 simp only [iY,sl,hg,m1]
 have:esz<=n*esz:=by have:=Nat.mul_le_mul_right esz hn;omega
 rw [if_neg (by omega),if_pos (by rw [xI,hz];omega)]
 have t:r.take (1*esz)=r:=List.take_of_length_le (by omega)
 have p:=amL (r:=r) (z:=z) (by omega) (k:=0) (m:=n) (q:=1) hn
 have z0:bE r 0=[]:=rfl
 have z1:bE r 1=r:=by simp [bE]
 rw [z0,z1,List.nil_append,Nat.zero_mul] at p
 rw [t,p,z1]
 rfl
theorem C77 {j:Nat} (hn:1<=n) (n8:n<=8) (hj:h[j]?=some (.arr 3 [I (-1)])) (hk:∀g i,EX h g->h.length<=i->g[i]?=some (.arr 3 (List.replicate n (I (-1))))->K (sl 3 i 0 n) g):ay prog 77 [sl 3 j 0 1,I n] h K:=by
 refine f77 ?_
 unfold Nh
 simp only [bT,ah,bY (show ¬(n:Int)<0 by omega),dm]
 rw [aIl]
 have l1:aT (sl 3 j 0 1)=some (I 1):=rfl
 have c1:dI .u64 (I 1)=some (U 1):=rfl
 have c2:dI .u64 (I n)=some (U n):=by
  have:n=1∨n=2∨n=3∨n=4∨n=5∨n=6∨n=7∨n=8:=by omega
  rcases this with rfl | rfl | rfl | rfl | rfl | rfl | rfl | rfl <;> rfl
 have c3:dI .i64 (U n)=some (I n):=by
  have:n=1∨n=2∨n=3∨n=4∨n=5∨n=6∨n=7∨n=8:=by omega
  rcases this with rfl | rfl | rfl | rfl | rfl | rfl | rfl | rfl <;> rfl
 have g1:aj .gtr (U 0) (.int .u64 (0))=some (.bool false):=rfl
 have g2:aj .gtr (U n) (.int .u64 (9223372036854775807))=some (.bool false):=by
  simp [U];omega
 simp only [l1,c1,c2,ah]
 refine VP n8 ?_
 simp only [fM,gi,gj,ah,g1]
 rw [aIm]
 simp only [eW,g2,ah]
 rw [aIh]
 simp only [dA,ah,dm]
 rw [aIi]
 have sG:eM 3 8 [(.int .i64 (0))] h (I n) (I n)=some (sl 3 h.length 0 n,h++[.arr 3 (bE [.int .i64 (0)] n)]):=by
  simp only [eM]
  rw [if_pos (by omega)]
  simp
 simp only [c3,ah,sG,aL]
 have x2:EX h (h++[.arr 3 (bE [.int .i64 (0)] n)]):=EX.append _ _
 have e2:(h++[az.arr 3 (bE [.int .i64 (0)] n)])[h.length]?=some (.arr 3 (bE [.int .i64 (0)] n)):=bL
 have cp:=ady (g:=h++[az.arr 3 (bE [.int .i64 (0)] n)]) (c:=1) (esz:=1) (r:=[I (-1)]) rfl rfl hn e2 (x2.get hj)
 have CQ:(h++[az.arr 3 (bE [.int .i64 (0)] n)]).length=h.length+1:=by simp
 have O9:sw (h++[az.arr 3 (bE [.int .i64 (0)] n)]) (sl 3 h.length 0 n) (sl 3 j 0 1)=_:=(afx _ _ _).trans cp
 simp only [O9,aL]
 have x3:EX h ((h++[az.arr 3 (bE [.int .i64 (0)] n)]).set h.length (.arr 3 (bE [I (-1)] 1++bE [.int .i64 (0)] (n-1)))):=x2.set (le_refl _) _
 have e3:((h++[az.arr 3 (bE [.int .i64 (0)] n)]).set h.length (.arr 3 (bE [I (-1)] 1++bE [.int .i64 (0)] (n-1))))[h.length]?=some (.arr 3 (bE [I (-1)] 1++bE [.int .i64 (0)] (n-1))):=by
  rw [getElem?_set_self (by omega)]
 refine cN (σ:=Nat×ae) (λq=>[I q.1]) (λq=>q.2) (λq=>0<q.1/\q.1<=n/\EX h q.2/\q.2[h.length]?=some (.arr 3 (bE [I (-1)] q.1++bE [.int .i64 (0)] (n-q.1)))) (λq=>n-q.1)
  (1,_) rfl rfl ⟨by omega,hn,x3,e3⟩ ?_
 rintro ⟨k,g⟩ ⟨se,eX,xg,hg⟩ L hL
 simp only at se eX xg hg hL⊢
 rw [aIj]
 have ln:aT (sl 3 h.length 0 n)=some (I n):=rfl
 simp only [ln,bT,ah,cd]
 refine ⟨λaw=>?_,λcK=>?_⟩
 ·have aw:k<n:=by omega
  have s1:fP 3 1 (sl 3 h.length 0 n) (some (I k)) none=some (sl 3 h.length (k*1) (n-k)):=by
   have e1:(0:Int)<=(k:Int):=by omega
   simp [fP,sl,mE,og,e1,eX]
  have s2:fP 3 1 (sl 3 h.length 0 n) none (some (I k))=some (.slice (some ⟨h.length,0,some 3⟩) k (pc 1 none k n)):=by
   have e1:(0:Int)<=(k:Int):=by omega
   simp [fP,sl,mE,og,e1,eX]
  have d:=dbl (c:=pc 1 none k n) (esz:=1) (r:=[I (-1)]) (z:=[.int .i64 (0)]) rfl rfl se aw hg
  have d':=(afx g (sl 3 h.length (k*1) (n-k)) (.slice (some ⟨h.length,0,some 3⟩) k (pc 1 none k n))).trans d
  have m1:Nat.min k (n-k)<=n-k:=Nat.min_le_right _ _
  have m2:0<Nat.min k (n-k):=Nat.lt_min.2 ⟨se,by omega⟩
  simp only [s1,s2,ah,d',aL,bZ,true_and]
  generalize Nat.min k (n-k)=q at m1 m2 d d'
  have w:IntKind.wrap .i64 ((k:Int)+q)=((k+q:Nat):Int):=by rw [wrap64 (by omega) (by omega)];omega
  rw [w]
  refine hL (k+q,_) ⟨by omega,by omega,xg.set (le_refl _) _,?_⟩ (by show n-(k+q)<n-k;omega)
  show (g.set h.length _)[h.length]?=_
  rw [getElem?_set_self (cm hg).1,show n-(k+q)=n-k-q by omega]
 ·have eX:k=n:=by omega
  subst eX
  rw [aIk]
  refine hk g h.length xg (le_refl _) ?_
  rw [hg,Nat.sub_self]
  have:bE [(.int .i64 (0):Value)] 0=[]:=rfl
  rw [this,List.append_nil]
  congr 2
  simp [bE]
end
section
open Go.Sim Go.Sort
variable {h : ae} {K : Value -> ae -> Prop} {n : Nat}
structure AV (h:ae) (v:Value) (ids:Nat->Nat) (l:List cQ):Prop where
 len:aT v=some (I l.length)
 get:∀k (hk:k<l.length),∃i o,aD 5 v (I k)=some (pt i o)/\af true 5 h (pt i o)=some (.agg (iu ids l[k]).toArray)/\af false 1 h (pt i o)=some (I l[k].f)/\af false 1 h (pt i (o+3))=some (I l[k].m)
theorem AV.up {h h':ae} {v:Value} {ids:Nat->Nat} {l:List cQ} (r:AV h v ids l) (x:EX h h'):AV h' v ids l:=
 ⟨r.len,λk hk=>let ⟨i,o,a,b,c,d⟩:=r.get k hk;⟨i,o,a,EX.load x b,EX.load x c,EX.load x d⟩⟩
theorem Yb (ids:Nat->Nat) (l:List cQ):∀r∈l.map (iu ids),r.length=5:=λr hr=>by
 obtain ⟨q,_,rfl⟩:=List.mem_map.1 hr
 rfl
theorem X9 (ids:Nat->Nat) (l:List cQ):(kK ids l).length=l.length*5:=by
 have:=Cv (Yb ids l)
 rwa [length_map] at this
theorem fq.av {b:Nat} {g:ae} {v:Value} {ids:Nat->Nat} {l:List cQ} (o:fq b g 119 5 v l.length (kK ids l)):AV g v ids l:=by
 rcases o.2 with ⟨rfl,h0⟩ | ⟨i,_,rfl,hg⟩
 ·exact ⟨by rw [h0];rfl,λk hk=>by omega⟩
 ·refine ⟨rfl,λk hk=>?_⟩
  have hc:bw g i=some (kK ids l):=by simp [bw,hg]
  have hl:=X9 ids l
  have ha:=Cu (Yb ids l) k (by simpa using hk)
  rw [List.getElem_map] at ha
  refine ⟨i,k*5,?_,UN hc (by omega) ha,?_,DU (j:=3) hc ha rfl⟩
  ·simp [aD,sl,hk]
  ·have:=DU (j:=0) hc ha (x:=I l[k].f) rfl
   simpa using this
theorem yi {h:ae} {i:Nat} {e:TypeId} {ids:Nat->Nat} {a:cQ} (hg:h[i]?=some (.arr e (iu ids a))):
  af false 1 h (pt i 0)=some (I a.f)/\af false 1 h (pt i 1)=some (I a.t)/\af false 1 h (pt i 2)=some (I a.c)/\af false 1 h (pt i 3)=some (I a.m)/\af false 1 h (pt i 4)=some (pt (ids a.i) a.j)/\af true 5 h (pt i 0)=some (.agg (iu ids a).toArray):=by
 simp [af,bw,hg,dS,iu]
theorem FD (g:ae):cF 119 [(.int .i64 (0)),(.int .i64 (0)),(.int .i64 (0)),(.int .i64 (0)),(.pointer none)] g=some (pt g.length 0,g++[.arr 119 [I 0,I 0,I 0,I 0,.pointer none]]):=rfl
theorem J6 (g:ae) (ids:Nat->Nat) (a:cQ):aU 5 (g++[az.arr 119 [I 0,I 0,I 0,I 0,.pointer none]]) (pt g.length 0) (.agg (iu ids a).toArray)=some (undef,g++[.arr 119 (iu ids a)]):=by
 simp [aU,sA,fV,dL,Value.cells,setAt,iu]
def bI:Option Nat->Int
 | none=> -1
 | some k=>k
def cV (n:Nat) (c:Nat->Int):List Value:=(List.range n).map λv=>I (c v)
def bV (n:Nat) (b:Nat->Option Nat):List Value:=(List.range n).map λv=>I (bI (b v))
theorem ayU {c:Nat->Int} {v:Nat} (x:Int):(cV n c).set v (I x)=cV n (dU c v x):=by
 refine List.ext_getElem (by simp [cV]) λk h1 h2=>?_
 rw [List.getElem_set]
 simp only [cV,List.getElem_map,List.getElem_range]
 by_cases e:v=k
 ·subst e;rw [if_pos rfl,fL]
 ·rw [if_neg e,eA _ _ (Ne.symm e)]
theorem aup {b:Nat->Option Nat} {v:Nat} (k:Nat):(bV n b).set v (I k)=bV n (dU b v (some k)):=by
 refine List.ext_getElem (by simp [bV]) λj h1 h2=>?_
 rw [List.getElem_set]
 simp only [bV,List.getElem_map,List.getElem_range]
 by_cases e:v=j
 ·subst e;rw [if_pos rfl,fL];rfl
 ·rw [if_neg e,eA _ _ (Ne.symm e)]
structure CM (h0:ae) (ic ib n:Nat) (c:Nat->Int) (b:Nat->Option Nat) (g:ae):Prop where
 ex:EX h0 g
 c0:h0.length<=ic
 b0:h0.length<=ib
 ne:ic≠ib
 hc:g[ic]?=some (.arr 3 (cV n c))
 hb:g[ib]?=some (.arr 3 (bV n b))
theorem CM.up {h0 g g':ae} {ic ib:Nat} {c:Nat->Int} {b:Nat->Option Nat} (m:CM h0 ic ib n c b g) (x:EX g g'):CM h0 ic ib n c b g':=⟨m.ex.trans x,m.c0,m.b0,m.ne,x.get m.hc,x.get m.hb⟩
theorem CM.Ru {h0 g:ae} {ic ib:Nat} {c:Nat->Int} {b:Nat->Option Nat} (m:CM h0 ic ib n c b g) {v:Nat} (hv:v<n):af false 1 g (pt ic v)=some (I (c v)):=by
 simp [af,bw,m.hc,dS,cV,hv]
theorem CM.Bg {h0 g:ae} {ic ib:Nat} {c:Nat->Int} {b:Nat->Option Nat} (m:CM h0 ic ib n c b g) {v:Nat} (hv:v<n):af false 1 g (pt ib v)=some (I (bI (b v))):=by
 simp [af,bw,m.hb,dS,bV,hv]
end
section
open Go.Sim Go.Sort
variable {h : ae} {K : Value -> ae -> Prop} {n : Nat}
structure EJ (n:Nat) (l:List cQ):Prop where
 f:∀a∈l,a.f<n
 t:∀a∈l,a.t<n
 ne:∀a∈l,a.f≠a.t
 le:l.length<=128
 n1:1<=n
 n8:n<=8
theorem aoQ {ic ib r:Nat} {lv aI aR:Value} {ids:Nat->Nat} {l:List cQ} {L1:List Value->ae->Prop} {g:ae} {c:Nat->Int} {b:Nat->Option Nat} {tm rd:Nat->Nat} {T:Nat} (gr:EJ n l) (av:AV h lv ids l) (kR:1<=r) (hr:r<=9)
  (x:RX l r 0 c b tm rd T) (m:CM h ic ib n c b g)
  (hk:∀last g' c b tm rd T,RX l r l.length c b tm rd T->CM h ic ib n c b g'->((last=I (-1)/\∀k (hk:k<l.length),c l[k].t<=c l[k].f+l[k].c)∨∃v,v<n/\last=I v/\rd v=r)->TF prog K (I n) lv (sl 3 ic 0 n) (sl 3 ib 0 n) last aI aR L1 g'):
  bX [(.int .i64 (-1)),(.int .i64 (0))] g λL2 xs hx=>TD prog K (I n) lv (sl 3 ic 0 n) (sl 3 ib 0 n) aI aR lv (I l.length) L1 L2 xs hx:=by
 have n8:=gr.n8;have aCE:=gr.le
 refine cN (σ:=Nat×Value×(Nat->Int)×(Nat->Option Nat)×(Nat->Nat)×(Nat->Nat)×Nat×ae) (λq=>[q.2.1,I q.1]) (λq=>q.2.2.2.2.2.2.2)
  (λq=>q.1<=l.length/\RX l r q.1 q.2.2.1 q.2.2.2.1 q.2.2.2.2.1 q.2.2.2.2.2.1 q.2.2.2.2.2.2.1/\CM h ic ib n q.2.2.1 q.2.2.2.1 q.2.2.2.2.2.2.2/\((q.2.1=I (-1)/\∀k (hk:k<l.length),k<q.1->q.2.2.1 l[k].t<=q.2.2.1 l[k].f+l[k].c)∨∃v,v<n/\q.2.1=I v/\q.2.2.2.2.2.1 v=r)) (λq=>l.length-q.1)
  (0,I (-1),c,b,tm,rd,T,g) rfl rfl ⟨zero_le _,x,m,.inl ⟨rfl,λk hk h=>absurd h (Nat.not_lt_zero _)⟩⟩ ?_
 rintro ⟨k,last,c,b,tm,rd,T,g⟩ ⟨fD,x,m,tK⟩ L hL
 simp only at fD x m tK hL⊢
 rw [aHk]
 simp only [bT,ah,cd]
 refine ⟨λaw=>?_,λcK=>?_⟩
 ·have aw:k<l.length:=by omega
  obtain ⟨ai,ao,ad,la,_⟩:=(av.up m.ex).get k aw
  have am:=getElem_mem aw
  have hf:=gr.f _ am;have ht:=gr.t _ am;have b7:=gr.ne _ am
  have cb:=l[k].OU
  simp only [ad,la,ah,FD,aL,J6]
  have x2:EX g (g++[.arr 119 (iu ids l[k])]):=EX.append _ _
  have c2:(g++[az.arr 119 (iu ids l[k])])[g.length]?=some (.arr 119 (iu ids l[k])):=bL
  have m2:=m.up x2
  have nc:ic≠g.length:=by have:=(cm m.hc).1;omega
  have nb:ib≠g.length:=by have:=(cm m.hb).1;omega
  generalize g.length=ia at c2 nc nb⊢
  generalize g++[az.arr 119 (iu ids l[k])]=g2 at x2 c2 m2⊢
  obtain ⟨p0,p1,p2,p3,p4,p5⟩:=yi c2
  have bf:=x.ge l[k].f;have bt:=x.ge l[k].t
  have bf0:=x.tS l[k].f;have bt0:=x.tS l[k].t
  have tl:=x.Ke
  have tl2:(r-1)*l.length<=8*128:=Nat.mul_le_mul (by omega) aCE
  have w:IntKind.wrap .i64 (c l[k].f+l[k].c)=c l[k].f+l[k].c:=wrap64 (by omega) (by omega)
  have ac:aD 1 (sl 3 ic 0 n) (I l[k].f)=some (pt ic l[k].f):=jL hf
  have X7:aD 1 (sl 3 ic 0 n) (I l[k].t)=some (pt ic l[k].t):=jL ht
  have ab2:aD 1 (sl 3 ib 0 n) (I l[k].t)=some (pt ib l[k].t):=jL ht
  simp only [bP,zero_add,ah,p0,p1,p2,true_and,ac,X7,m2.Ru hf,m2.Ru ht,bZ,w,bT]
  by_cases hc:c l[k].f+l[k].c<c l[k].t
  ·rw [dh hc]
   have s1:=kz m2.hc (o:=l[k].t) (v:=I (c l[k].f+l[k].c)) (by simpa [cV] using ht) rfl rfl
   rw [ayU] at s1
   have gP:=(cm m2.hc).1
   have CF:=(cm m2.hb).1
   have c3:(g2.set ic (.arr 3 (cV n (dU c l[k].t (c l[k].f+l[k].c)))))[ia]?=some (.arr 119 (iu ids l[k])):=by rw [getElem?_set_ne nc];exact c2
   have b3:(g2.set ic (.arr 3 (cV n (dU c l[k].t (c l[k].f+l[k].c)))))[ib]?=some (.arr 3 (bV n b)):=by rw [getElem?_set_ne m.ne];exact m2.hb
   have s2:=kz b3 (o:=l[k].t) (v:=I k) (by simpa [bV] using ht) rfl rfl
   rw [aup] at s2
   have q1:=(yi c3).2.1
   have c4:((g2.set ic (.arr 3 (cV n (dU c l[k].t (c l[k].f+l[k].c))))).set ib (.arr 3 (bV n (dU b l[k].t (some k)))))[ia]?=some (.arr 119 (iu ids l[k])):=by rw [getElem?_set_ne nb];exact c3
   have q2:=(yi c4).2.1
   simp only [gf,bP,zero_add,ah,p0,p1,p2,true_and,and_true,ac,X7,ab2,m2.Ru hf,bZ,w,s1,aL,q1,s2,q2]
   rw [anb]
   simp only [bZ,ah,true_and]
   rw [dQ k (by simp [maxLen];omega)]
   refine hL (k+1,I l[k].t,_,_,_,_,T+1,_) ⟨aw,x.step aw b7 hc,⟨(m2.ex.set m.c0 _).set m.b0 _,m.c0,m.b0,m.ne,?_,?_⟩,.inr ⟨l[k].t,ht,rfl,fL _ _ _⟩⟩ (by show l.length-(k+1)<l.length-k;omega)
   ·exact (getElem?_set_ne (Ne.symm m.ne)).trans (getElem?_set_self gP)
   ·exact getElem?_set_self (by simpa using CF)
  ·rw [bY hc]
   simp only [dm]
   rw [anb]
   simp only [bZ,ah,true_and]
   rw [dQ k (by simp [maxLen];omega)]
   refine hL (k+1,last,c,b,tm,rd,T,g2) ⟨aw,x.stay aw hc,m2,tK.imp (λh=>⟨h.1,λj hj hjk=>?_⟩) id⟩ (by show l.length-(k+1)<l.length-k;omega)
   have hjk:j<k+1:=hjk
   by_cases e:j=k
   ·subst e;show c _<=c _+_;omega
   ·exact h.2 j hj (by omega)
 ·have iO:k=l.length:=by omega
  subst iO
  exact hk last g c b tm rd T x m (tK.imp (λh=>⟨h.1,λj hj=>h.2 j hj hj⟩) id)
end
section
open Go.Sim Go.Sort
variable {h : ae} {K : Value -> ae -> Prop} {n : Nat}
theorem aoP {h0:ae} {ic ib r cur u p:Nat} {lv:Value} {ids:Nat->Nat} {l:List cQ} {c:Nat->Int} {b:Nat->Option Nat} {tm rd:Nat->Nat} {T:Nat} (av:AV h0 lv ids l)
  (x:RX l r cur c b tm rd T) (m:CM h0 ic ib n c b h) (so:∀s,∃k,b (RX.walk l b u s)=some k/\k<l.length) (wn:∀s,RX.walk l b u s<n) (hp:1<=p) (hu:RX.walk l b u p=u) (hm:∀q,1<=q->q<p->RX.walk l b u q≠u) (hpn:p<=1000)
  (hk:∀vr g,EX h0 g->fq h0.length g 119 5 vr (RX.ky l b u p).length (kK ids (RX.ky l b u p))->K (.tuple #[sl 3 ic 0 n,vr]) g):TI prog K lv (sl 3 ic 0 n) (sl 3 ib 0 n) (I u) h:=by
 rw [aHp]
 have rl:∀s,(RX.ky l b u s).length=s:=λs=>by simp [RX.ky]
 refine cN (σ:=Nat×Value×ae) (λq=>[q.2.1,I (RX.walk l b u q.1)]) (λq=>q.2.2) (λq=>q.1<p/\EX h q.2.2/\fq h.length q.2.2 119 5 q.2.1 q.1 (kK ids (RX.ky l b u q.1))) (λq=>p-q.1)
  (0,.slice none 0 0,h) rfl rfl ⟨hp,EX.refl _,fq.nil _ _ _ _⟩ ?_
 rintro ⟨s,vr,g⟩ ⟨hs,xg,own⟩ L hL
 simp only at hs xg own hL⊢
 rw [aHq]
 obtain ⟨k,fD,iO⟩:=so s
 have hw:=wn s
 obtain ⟨_,ef,_,_⟩:=x.Bx so s
 have ea:=RX.NM fD iO
 rw [ea] at ef
 have mg:=m.up xg
 have lb:=mg.Bg hw
 rw [fD] at lb
 obtain ⟨ai,ao,ad,la,_⟩:=(av.up mg.ex).get k iO
 have ab:aD 1 (sl 3 ib 0 n) (I (RX.walk l b u s))=some (pt ib (RX.walk l b u s)):=jL hw
 have lb:af false 1 g (pt ib (RX.walk l b u s))=some (I k):=lb
 have x2:EX g (g++[.arr 119 (iu ids l[k])]):=EX.append _ _
 have c2:(g++[az.arr 119 (iu ids l[k])])[g.length]?=some (.arr 119 (iu ids l[k])):=bL
 simp only [ab,lb,ad,la,ah,FD,aL,J6,(yi c2).2.2.2.2.2,agl]
 have oP:=own.up x2
 have fr:∀q,vr≠sl 119 g.length 0 q:=λq e=>by have:=(own.lt e).2;omega
 generalize g.length=ia at c2 fr⊢
 generalize g++[az.arr 119 (iu ids l[k])]=g2 at x2 c2 oP⊢
 have x3:EX g2 (g2++[.arr 119 (iu ids l[k])]):=EX.append _ _
 have ial:=(cm c2).1
 refine fq.app (oP.up x3) (xg.trans (x2.trans x3)) bL rfl (by omega) (by omega) (by omega) ?_
 intro v' g' x' iA gl qA _
 have c4:g'[ia]?=some (.arr 119 (iu ids l[k])):=by
  rw [iA ia (by simp;omega) fr];exact x3.get c2
 have rs:RX.ky l b u (s+1)=RX.ky l b u s++[l[k]]:=by rw [RX.anl,ea]
 have qA:fq h.length g' 119 5 v' (s+1) (kK ids (RX.ky l b u (s+1))):=by
  rw [rs,X8,Ya];exact qA
 simp only [bP,zero_add,ah,(yi c4).1,ef,jD]
 by_cases e:s+1=p
 ·subst e
  rw [dh (show ((RX.walk l b u (s+1):Nat):Int)=u by rw [hu])]
  simp only [gf]
  refine hk v' g' (m.ex.trans x') ?_
  rw [rl]
  exact ⟨qA.1,qA.2.imp id λ⟨i,h1,h2⟩=>⟨i,Nat.le_trans m.ex.1 h1,h2⟩⟩
 ·have:=hm (s+1) (by omega) (by omega)
  rw [bY (show ¬((RX.walk l b u (s+1):Nat):Int)=u by omega)]
  simp only [dm,true_and]
  exact hL (s+1,v',g') ⟨by omega,x',qA⟩ (by show p-(s+1)<p-s;omega)
theorem aoO {h0:ae} {ic ib r cur v:Nat} {lv:Value} {ids:Nat->Nat} {l:List cQ} {c:Nat->Int} {b:Nat->Option Nat} {tm rd:Nat->Nat} {T:Nat} (gr:EJ n l) (av:AV h0 lv ids l)
  (x:RX l r cur c b tm rd T) (m:CM h0 ic ib n c b h) (hv:v<n) (AX:rd v=n+1)
  (hk:∀vr g ring,EX h0 g->ring≠[]->(∀a∈ring,a∈l)->ring.Nodup->(ring.map cQ.f).Perm (ring.map cQ.t)->(ring.map cQ.c).sum<0->fq h0.length g 119 5 vr ring.length (kK ids ring)->K (.tuple #[sl 3 ic 0 n,vr]) g):
  TH prog K (I n) lv (sl 3 ic 0 n) (sl 3 ib 0 n) (I v) h:=by
 have n8:=gr.n8
 obtain ⟨so,wn,p,hp,hu,hm⟩:=x.ring gr.f hv AX
 rw [aHn]
 refine cN (σ:=Nat) (λs=>[I (RX.walk l b v s),I s]) (λ_=>h) (λs=>s<=n) (λs=>n-s) 0 rfl rfl (zero_le _) ?_
 intro s hs L hL
 rw [aHo]
 simp only [bT,ah,cd]
 refine ⟨λaw=>?_,λcK=>?_⟩
 ·obtain ⟨k,fD,iO⟩:=so s
  have hw:=wn s
  obtain ⟨_,ef,_,_⟩:=x.Bx so s
  rw [RX.NM fD iO] at ef
  have lb:=m.Bg hw
  rw [fD] at lb
  obtain ⟨ai,ao,ad,_,lf,_⟩:=(av.up m.ex).get k iO
  have ab:aD 1 (sl 3 ib 0 n) (I (RX.walk l b v s))=some (pt ib (RX.walk l b v s)):=jL hw
  have lb:af false 1 h (pt ib (RX.walk l b v s))=some (I k):=lb
  simp only [ab,lb,ad,bP,Nat.add_zero,lf,ef,ah,bZ,true_and]
  rw [dQ s (by simp [maxLen];omega)]
  exact hL (s+1) (by omega) (by omega)
 ·have e:s=n:=by omega
  subst e
  have D3:∀q,∃k,b (RX.walk l b (RX.walk l b v s) q)=some k/\k<l.length:=λq=>by rw [<-RX.vR];exact so _
  have wn':∀q,RX.walk l b (RX.walk l b v s) q<s:=λq=>by rw [<-RX.vR];exact wn _
  have nd:=x.aJp D3 hu hm
  have mem:∀a∈RX.ky l b (RX.walk l b v s) p,a∈l:=λa ha=>by
   obtain ⟨q,_,rfl⟩:=List.mem_map.1 ha
   exact (x.Bx D3 q).1
  have pl:=RX.aJn wn' hu hm
  refine aoP av x m D3 wn' hp hu hm (by omega) λvr g xg own=>?_
  refine hk vr g _ xg (λe=>?_) mem nd (x.aJq D3 hp hu) (x.aJo D3 hp hu) own
  have:=congrArg List.length e
  simp [RX.ky] at this;omega
end
end Go.Proofs.YtncaiogfjjepcaaGreat
