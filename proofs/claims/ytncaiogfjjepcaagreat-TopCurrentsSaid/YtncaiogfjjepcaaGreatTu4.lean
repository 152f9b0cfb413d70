/-
  Part 4 of the texts behind a statement of this seat: Ha14, CE, Da1, Gx1, Gx2, Gx3, Da2, Da3, CF, Da4, Da5, Da6, Da7.
-/
import Derived.Test.YtncaiogfjjepcaaGreatProg
import Derived.KernelRfl
import Derived.Test.YtncaiogfjjepcaaGreatTu3
open Go.Proofs.Tryz (prog)
open List (getElem?_set_ne getElem?_set_self getElem_mem length_map map_cons map_map mem_cons_of_mem sum_cons take_length)
open Nat (le_refl zero_add zero_le)
open Option (bind_some)
namespace Go.Proofs.YtncaiogfjjepcaaGreat
section
open Go.Sim Go.Sort
variable {h : ae} {K : Value -> ae -> Prop} {w t : Nat} {l : List T3} {ys : List Nat}
theorem aC9 (e:TypeId) (g:ae):cH e 0 [(.int .i64 (0)),(.int .i64 (0))] g []=some (sl e g.length 0 0,g++[.arr e []]):=by
 simp [cH,jC,bE]
theorem aAl {h:ae} {i:Nat} {e:TypeId} {a b:Value} (hg:h[i]?=some (.arr e [a,b])):af false 1 h (pt i 0)=some a/\af false 1 h (pt i 1)=some b/\af true 2 h (pt i 0)=some (.agg #[a,b]):=by
 simp [af,bw,hg,dS]
theorem aoU {x o vo:Value} {i:Nat} {L1:List Value->ae->Prop} {g0 g:ae} {LL O:List T3} (rx:R3 g0 x LL) (ro:R3 g0 o O) (hi:i<O.length) (hb:∀q∈O,q.1<=10000/\q.2.1<=10000/\q.2.2<=10000) (Qk:LL.length<=900) (x0:EX g0 g)
  (hp:g[g0.length]?=some (.arr 41 [I 0,I 0])) (hk:∀(a b:Nat) g',EX g0 g'->g'[g0.length]?=some (.arr 41 [I a,I b])->TV prog K x o vo (I i) (pt g0.length 0) L1 g'):
  bT [(.int .i64 (0))] g λL2 xs hx=>TU prog K x o vo (I i) (pt g0.length 0) L1 L2 xs hx:=by
 refine cN (σ:=Nat×Nat×Nat×ae) (λq=>[I q.1]) (λq=>q.2.2.2) (λq=>q.1<=LL.length/\EX g0 q.2.2.2/\q.2.2.2[g0.length]?=some (.arr 41 [I q.2.1,I q.2.2.1])) (λq=>LL.length-q.1) (0,0,0,g) rfl rfl ⟨zero_le _,x0,hp⟩ ?_
 rintro ⟨k,a,b,g1⟩ ⟨fC,x1,yL⟩ L2 dO
 simp only at fC x1 yL dO⊢
 rw [aH3]
 simp only [rx.len,bW,ah,ca]
 refine ⟨λaw=>?_,λcJ=>?_⟩
 ·have aw:k<LL.length:=by omega
  obtain ⟨ix,ox,adx,_,lx0,lx1,Bh⟩:=(rx.up x1).get k aw
  obtain ⟨io,oo,ado,_,lo0,IN,IP⟩:=(ro.up x1).get i hi
  obtain ⟨b1,b2,b3⟩:=hb _ (getElem_mem hi)
  generalize O[i]=q at lo0 IN IP b1 b2 b3
  generalize LL[k]=z at lx0 lx1 Bh
  have a1:IntKind.wrap .i64 ((q.1:Int)+q.2.2)=((q.1+q.2.2:Nat):Int):=by rw [wrap64 (by omega) (by omega)];omega
  have a2:IntKind.wrap .i64 ((q.2.1:Int)+q.2.2)=((q.2.1+q.2.2:Nat):Int):=by rw [wrap64 (by omega) (by omega)];omega
  have Qn:=(cm yL).1
  have AB:∀(a b:Nat) g2,EX g0 g2->g2[g0.length]?=some (.arr 41 [I a,I b])->Bp prog K x o vo (I i) (pt g0.length 0) (I k) L1 L2 g2:=by
   intro a b g2 x2 h2
   rw [aH5]
   simp only [b7,ah,true_and]
   rw [dP k (by simp [maxLen];omega)]
   exact dO (k+1,a,b,g2) ⟨aw,x2,h2⟩ (by show LL.length-(k+1)<LL.length-k;omega)
  have Hy:∀(a b:Nat) g2,EX g0 g2->g2[g0.length]?=some (.arr 41 [I a,I b])->w5 prog K x o vo (I i) (pt g0.length 0) (I k) L1 L2 g2:=by
   intro a b g2 x2 h2
   rw [aH4]
   obtain ⟨ix',ox',auc,_,aC1,_⟩:=(rx.up x2).get k aw
   obtain ⟨io',oo',aub,_,_,aCV,aCW⟩:=(ro.up x2).get i hi
   have dR:=(cm h2).1
   have ao:∀u v:Int,∃n,aj .add (I u) (I v)=some (I n):=λu v=>⟨_,b7 _ _ _⟩
   obtain ⟨n,en⟩:=ao O[i].2.1 O[i].2.2
   simp only [auc,aub,cj,zero_add,Nat.add_zero,ah,aC1,aCV,aCW,true_and,en,jB]
   refine um (λ_=>?_) (λ_=>AB a b g2 x2 h2)
   have s:=kz h2 (o:=1) (v:=I k) (by simp) rfl rfl
   simp only [s,aL]
   exact AB a k _ (x2.set (le_refl _) _) (by rw [getElem?_set_self dR];rfl)
  have body:(aJ (B (decide ((z.1:Int)=q.2.1))) (OP (aF 0 (pt g0.length 0)) λdj=>OH (aU 1 g1 dj (I k)) λ_ h_1=>w5 prog K x o vo (I i) (pt g0.length 0) (I k) L1 L2 h_1) (w5 prog K x o vo (I i) (pt g0.length 0) (I k) L1 L2 g1)):=by
   refine um (λ_=>?_) (λ_=>Hy a b g1 x1 yL)
   have s:=kz yL (o:=0) (v:=I k) (by simp) rfl rfl
   simp only [cj,zero_add,ah,s,aL]
   exact Hy k b _ (x1.set (le_refl _) _) (by rw [getElem?_set_self Qn];rfl)
  simp only [adx,ado,cj,Nat.add_zero,ah,lx1,lo0,IP,lx0,IN,Bh,true_and,rR,b7,a1]
  by_cases h1:(z.2.1:Int)<=q.1
  ·rw [dh h1]
   simp only [gK,fy,ah,jB]
   refine um (λ_=>?_) (λ_=>AB a b g1 x1 yL)
   simpa only [cj,zero_add,ah] using body
  ·rw [bX h1]
   simp only [jd,dA,ah,dm]
   exact AB a b g1 x1 yL
 ·exact hk a b g1 x1 yL
theorem C5 {v:Value} (c:eu l w t ys) (hw:w<=10000) (ht:t<=10000) (hl:l.length<=100) (r:R3 h v l)
  (hk:∀x g,EX h g->K (.tuple #[I ys.length,x]) g):ay prog 5 [v] h K:=by
 refine f5 ?_
 unfold T5
 refine C20 c hw ht hl r ?_
 intro x g LL xg ji own HW
 have lv:=eu.aCT c ji
 have ll:LL.length=ys.length:=by rw [<-lv,length_map]
 refine C21 (r.up xg) hl ?_
 intro o g1 O x1 hO kl aDu
 simp only [aC9,aL]
 have bd:∀q∈O,q.1<=10000/\q.2.1<=10000/\q.2.2<=10000:=λq hq=>by
  have:=c.bound q (kl q hq);omega
 have rx:=own.r3.up x1
 have ro:=aDu.r3
 refine cN (σ:=Nat×Value×ae) (λq=>[q.2.1,I q.1]) (λq=>q.2.2) (λq=>q.1<=O.length/\EX g1 q.2.2/\∃cs,fq g1.length q.2.2 41 2 q.2.1 q.1 cs) (λq=>O.length-q.1)
  (0,_,_) rfl rfl ⟨zero_le _,EX.append _ _,[],rfl,.inr ⟨g1.length,le_refl _,rfl,bK⟩⟩ ?_
 rintro ⟨i,vo,g2⟩ ⟨hi,x2,cs,aiK⟩ L1 lD
 simp only at hi x2 aiK lD⊢
 rw [aH9]
 simp only [ro.len,bW,ah,ca]
 refine ⟨λaw=>?_,λcJ=>?_⟩
 ·have aw:i<O.length:=by omega
  have b0:eG [(.int .i64 (0)),(.int .i64 (0))] []=some (.agg #[I 0,I 0]):=rfl
  have ea:cF 41 [(.int .i64 (0)),(.int .i64 (0))] g2=some (pt g2.length 0,g2++[.arr 41 [I 0,I 0]]):=rfl
  have es:aU 2 (g2++[az.arr 41 [I 0,I 0]]) (pt g2.length 0) (.agg #[I 0,I 0])=some (undef,g2++[.arr 41 [I 0,I 0]]):=by
   simp [aU,sw,fV,dL,Value.cells,setAt]
  simp only [b0,ea,ah,aL,es]
  refine aoU (rx.up x2) (ro.up x2) aw bd (by omega) (EX.append _ _) bK ?_
  intro a b g3 x3 hp3
  rw [aH6]
  have mk:cH 41 1 [(.int .i64 (0)),(.int .i64 (0))] g3 [(0,2,.agg #[I a,I b])]=some (sl 41 g3.length 0 1,g3++[.arr 41 [I a,I b]]):=agv g3 a b
  simp only [(aAl hp3).2.2,ah,mk,aL]
  have x4:EX g3 (g3++[.arr 41 [I a,I b]]):=EX.append _ _
  refine fq.app (aiK.up (x3.trans x4)) (x2.trans (x3.trans x4)) bK rfl (by omega) (by omega) (by omega) ?_
  intro v5 g5 x5 _ _ RW _
  rw [aH7]
  simp only [b7,ah,true_and]
  rw [dP i (by simp [maxLen];omega)]
  exact lD (i+1,v5,g5) ⟨aw,x5,_,RW⟩ (by show O.length-(i+1)<O.length-i;omega)
 ·rw [aH8]
  simp only [rx.len,ah,ll]
  exact hk vo g2 ((xg.trans x1).trans x2)
theorem C4 {v:Value} (c:eu l w t ys) (hw:w<=10000) (ht:t<=10000) (hl:l.length<=100) (r:R3 h v l)
  (hk:K (.tuple #[I w,I t]) h):ay prog 4 [v] h K:=by
 refine f4 ?_
 unfold T4
 have rc:=c.reach
 refine cN (σ:=Nat) (λq=>[I (wM (l.take q)),I (hM (l.take q)),I q]) (λq=>h) (λq=>q<=l.length) (λq=>l.length-q) 0 (by rfl) rfl (zero_le _) ?_
 intro i hi L hL
 rw [aHl]
 simp only [r.len,bW,ah,ca]
 refine ⟨λaw=>?_,λcJ=>?_⟩
 ·have aw:i<l.length:=by omega
  obtain ⟨il,ol,ad,la,l0,l1,l2⟩:=r.get i aw
  have bd:=c.bound _ (getElem_mem aw)
  have a1:IntKind.wrap .i64 ((l[i].1:Int)+l[i].2.2)=((l[i].1+l[i].2.2:Nat):Int):=by rw [wrap64 (by omega) (by omega)];omega
  have a2:IntKind.wrap .i64 ((l[i].2.1:Int)+l[i].2.2)=((l[i].2.1+l[i].2.2:Nat):Int):=by rw [wrap64 (by omega) (by omega)];omega
  have mx:∀a b:Nat,max (a:Int) (b:Int)=((max a b:Nat):Int):=λa b=>by omega
  simp only [ad,cj,Nat.add_zero,ah,l0,l1,l2,true_and,b7,a1,a2,IW,mx]
  rw [dP i (by simp [maxLen];omega)]
  have:=hL (i+1) aw (by omega)
  have tk:l.take (i+1)=l.take i++[l[i]]:=by rw [List.take_succ_eq_append_getElem aw]
  rw [tk,Km,HX] at this
  exact this
 ·have:i=l.length:=by omega
  subst this
  rw [aHk,take_length,rc.1,rc.2]
  exact hk
end
section
open Go.Sim
variable (P : Program) (K : VK)
noncomputable section
variable (d0 i3 j4 aR bQ : Value) (L1 L2 : LQ) (xs : List Value) (h : ae)
def oc9:=cg prog 9 [[],[],[0],[3],[],[],[0,3,19],[0,3,19,27],[],[],[],[],[0,3],[4],[],[],[],[],[],[0,3],[0],[]]
@[irreducible] def c9:=cD oc9
@[irreducible] def Ca:=c9.r.l.r.l.l
@[irreducible] def acX:=c9.r.r
@[irreducible] def acW:=Ca.r.l.l.l.l.r.l
@[irreducible] def ayR:=Ca.r.l.l.l.r
@[irreducible] def acV:=Ca.r.l.l.r
@[irreducible] def acY:=Ca.r.r
@[irreducible] def ayV:=acX.l
@[irreducible] def ayS:=acW.r.l
@[irreducible] def ayT:=acV.r.l.l
@[irreducible] def ayU:=acY.l
theorem k9:oc9=some (47,c9,[.tmp 2]):=by kernel_rfl
def LC (_P:Program) (K:VK):ax:=aW [.tmp 2] K
def at6:ax:=aH (au P acX (LC P K)) (LC P K)
def at7:ax:=bC 0 (at6 P K)
def Fs:ax:=aH (λf' aQ=>(([0]:List Nat).map f':List Value)=[d0]/\L1 (([3]:List Nat).map f') aQ) (at7 P K)
def at8:ax:=aH (au P acY (Fs P K d0 L1)) (Fs P K d0 L1)
def LD:ax:=bC 1 (at8 P K d0 L1)
def XY:ax:=aH (au P acV (LD P K d0 L1)) (LD P K d0 L1)
def XZ:ax:=aH (au P ayR (XY P K d0 L1)) (XY P K d0 L1)
def at4:ax:=bC 2 (LD P K d0 L1)
def at5:ax:=aH (λf' aQ=>(([0,3]:List Nat).map f':List Value)=[d0,i3]/\L2 (([4]:List Nat).map f') aQ) (at4 P K d0 L1)
def amD:Prop:=aA (au P Ca (Fs P K d0 L1)) ([0]++[3]) ([d0]++xs) h
def amz:Prop:=aA (au P acW (XZ P K d0 L1)) [0,3,19] [d0,i3,aR] h
def Ui:Prop:=aA (au P ayS (XZ P K d0 L1)) [0,3,19,27] [d0,i3,aR,bQ] h
def amA:Prop:=aA (au P ayT (at5 P K d0 i3 L1 L2)) ([0,3]++[4]) ([d0,i3]++xs) h
def amB:Prop:=aA (au P ayU (Fs P K d0 L1)) [0,3] [d0,i3] h
def amC:Prop:=aA (au P ayV (LC P K)) [0] [d0] h
theorem aJc:Ui P K d0 i3 aR bQ L1 h=
 (OP (bu aR (.bool true) bQ) λcL=>
 aJ cL
 (K (.bool false) h)
 (bT [(.int .i64 (0))] h λL2 xs hx=>
 amA P K d0 i3 L1 L2 xs hx)):=aB (by kernel_rfl)
theorem aJb:amz P K d0 i3 aR L1 h=
 (bO aR false
 (OP (aD 1 d0 i3) λbL=>
 OP (af false 1 h bL) λbB=>
 OP (aD 1 bB i3) λbH=>
 OP (af false 1 h bH) λbP=>
 OP (aj .neq bP (.int .i64 (0))) λbQ=>
 Ui P K d0 i3 aR bQ L1 h)
 (Ui P K d0 i3 aR undef L1 h)):=aB (by kernel_rfl)
theorem aJd (d0 i3:Value) (L1 L2:LQ) (j4:Value) (h:ae):amA P K d0 i3 L1 L2 [j4] h=
 (OP (aT d0) λbz=>
 OP (aj .lss j4 bz) λdJ=>
 aJ dJ
 (OP (aD 1 d0 i3) λbG=>
 OP (af false 1 h bG) λdH=>
 OP (aD 1 dH j4) λcI=>
 OP (af false 1 h cI) λcU=>
 ay P 27 [cU,(.int .i64 (0)),(.int .i64 (1000))] h λer z1=>
 OP (gE .not er) λcO=>
 aJ cO
 (K (.bool false) z1)
 (OP (aj .add j4 (.int .i64 (1))) λcA=>
 ([d0,i3]:List Value)=[d0,i3]/\L2 [cA] z1))
 (amB P K d0 i3 L1 h)):=aB (by kernel_rfl)
theorem aJe:amB P K d0 i3 L1 h=
 (OP (aj .add i3 (.int .i64 (1))) λaE=>
 ([d0]:List Value)=[d0]/\L1 [aE] h):=aB (by kernel_rfl)
theorem aJg (d0:Value) (L1:LQ) (i3:Value) (h:ae):amD P K d0 L1 [i3] h=
 (OP (aT d0) λx7=>
 OP (aj .lss i3 x7) λx8=>
 aJ x8
 (OP (aD 1 d0 i3) λaC=>
 OP (af false 1 h aC) λaP=>
 OP (aT aP) λaX=>
 OP (aT d0) λbM=>
 OP (aj .neq aX bM) λbA=>
 amz P K d0 i3 bA L1 h)
 (amC P K d0 h)):=aB (by kernel_rfl)
theorem aJf:amC P K d0 h=
 (OP (aT d0) λdC=>
 ay P 27 [dC,(.int .i64 (1)),(.int .i64 (8))] h λeT z1=>
 K eT z1):=aB (by kernel_rfl)
def T9:Prop:=
 bT [(.int .i64 (0))] h λL1 xs hx=>
 amD P K d0 L1 xs hx
theorem e9:au P c9 (aW [.tmp 2] K) (cd [d0]) h=T9 P K d0 h:=by kernel_rfl
theorem f9 {K:VK} {d0:Value} {h:ae} (H:T9 prog K d0 h):ay prog 9 [d0] h K:=
 cC k9 (cE rfl) ((e9 prog K d0 h).mpr H)
end
noncomputable section
variable (x0 : Value) (h : ae)
def agL:=cg prog 10 [[],[],[],[],[],[]]
@[irreducible] def FI:=cD agL
theorem k10:agL=some (21,FI,[.tmp 2,.tmp 3,.tmp 4]):=by kernel_rfl
def LH:Prop:=
 ay P 28 [x0] h λx8 z1=>
 OP (gE .not x8) λx9=>
 aJ x9
 (K (.tuple #[(.slice none 0 0),(.int .i64 (0)),(.int .i64 (1))]) z1)
 (ay P 29 [x0] z1 λaM z2=>
 OP (cW 0 aM) λaC=>
 OP (cW 1 aM) λ_=>
 ay P 30 [x0] z2 λbM z3=>
 ay P 30 [aC] z3 λaR z4=>
 OP (aj .sub bM aR) λaI=>
 K (.tuple #[aC,aI,(.int .i64 (0))]) z4)
theorem Pj:au P FI (aW [.tmp 2,.tmp 3,.tmp 4] K) (cd [x0]) h=LH P K x0 h:=by kernel_rfl
theorem f10 {K:VK} {x0:Value} {h:ae} (H:LH prog K x0 h):ay prog 10 [x0] h K:=
 cC k10 (cE rfl) ((Pj prog K x0 h).mpr H)
end
noncomputable section
variable (x0 x1 : Value) (h : ae)
def agN:=cg prog 11 [[],[],[],[],[],[],[]]
@[irreducible] def NQ:=cD agN
theorem k11:agN=some (27,NQ,[.tmp 4,.tmp 5]):=by kernel_rfl
def LJ:Prop:=
 ay P 31 [x0,x1] h λaC z1=>
 OP (cW 0 aC) λaP=>
 OP (cW 1 aC) λaX=>
 OP (gE .not aX) λbM=>
 aJ bM
 (K (.tuple #[(.slice none 0 0),(.int .i64 (1))]) z1)
 (ay P 32 [aP] z1 λaI z2=>
 OP (cW 0 aI) λ_=>
 OP (cW 1 aI) λbL=>
 ay P 33 [bL] z2 λbm z3=>
 OP (cW 0 bm) λbH=>
 OP (cW 1 bm) λbP=>
 K (.tuple #[bH,bP]) z3)
theorem Pk:au P NQ (aW [.tmp 4,.tmp 5] K) (cd [x0,x1]) h=LJ P K x0 x1 h:=by kernel_rfl
theorem f11 {K:VK} {x0 x1:Value} {h:ae} (H:LJ prog K x0 x1 h):ay prog 11 [x0,x1] h K:=
 cC k11 (cE rfl) ((Pk prog K x0 x1 h).mpr H)
end
noncomputable section
variable (x0 x1 m6 x8 x9 aE aG i12 aC aP aV bz cI cU cP dC ee iZ dY dj gy cK jU : Value) (L1 L2 : LQ) (xs : List Value) (h : ae)
def agT:=cg prog 12 [[],[],[],[],[],[],[],[],[6,9,30],[8,31],[],[],[],[],[],[6,8,9,10,11,30,31,40],[41],[],[],[],[6,8,9,10,11,12,30,31,40,41,44,45,51],[6,8,9,10,11,30,31,40,41,44,45,51,59],[],[6,8,9,11,30,31],[],[],[],[],[],[6,8,9,13,14,30,31,69,70],[71],[],[],[],[],[6,8,9,13,14,30,31],[6,8,9,13,14,30,31,81],[6,8,9,13,14,30,31,81,85],[],[6,8,9,30,31],[8],[]]
@[irreducible] def FO:=cD agT
@[irreducible] def FX:=FO.r.r.r.r.r.l.r.l.l
@[irreducible] def YU:=FO.r.r.r.r.r.r
@[irreducible] def NY:=FX.r.r.l.l.r.r.l.r.l.l
@[irreducible] def YQ:=FX.r.r.l.l.r.r.r
@[irreducible] def YP:=FX.r.r.r
@[irreducible] def avd:=YU.l
@[irreducible] def YR:=NY.r.r.l.l.r.r.l
@[irreducible] def au7:=NY.r.r.r
@[irreducible] def NZ:=YQ.l
@[irreducible] def avc:=YP.l
@[irreducible] def au8:=YR.r.l
@[irreducible] def au9:=NZ.r.r.r.l.r.l.l
@[irreducible] def YS:=NZ.r.r.r.r
@[irreducible] def N0:=YS.l
@[irreducible] def YT:=N0.l.r.l
@[irreducible] def ava:=N0.r
@[irreducible] def avb:=YT.r.l
theorem k12:agT=some (94,FO,[.tmp 4,.tmp 5]):=by kernel_rfl
def KK (_P:Program) (K:VK):ax:=aW [.tmp 4,.tmp 5] K
def apG:ax:=aH (au P YU (KK P K)) (KK P K)
def apy:ax:=bC 0 (apG P K)
def EM:ax:=aH (λf' aQ=>(([6,9,30]:List Nat).map f':List Value)=[m6,x9,aV]/\L1 (([8,31]:List Nat).map f') aQ) (apy P K)
def apz:ax:=aH (au P YP (EM P K m6 x9 aV L1)) (EM P K m6 x9 aV L1)
def wg:ax:=bC 1 (apz P K m6 x9 aV L1)
def apA:ax:=aH (au P YQ (wg P K m6 x9 aV L1)) (wg P K m6 x9 aV L1)
def apB:ax:=bC 2 (apA P K m6 x9 aV L1)
def KL:ax:=aH (λf' aQ=>(([6,8,9,10,11,30,31,40]:List Nat).map f':List Value)=[m6,x8,x9,aE,aG,aV,bz,cI]/\L2 (([41]:List Nat).map f') aQ) (apB P K m6 x9 aV L1)
def apC:ax:=aH (au P au7 (KL P K m6 x8 x9 aE aG aV bz cI L1 L2)) (KL P K m6 x8 x9 aE aG aV bz cI L1 L2)
def WJ:ax:=bC 3 (apC P K m6 x8 x9 aE aG aV bz cI L1 L2)
def apD:ax:=aH (au P YS (wg P K m6 x9 aV L1)) (wg P K m6 x9 aV L1)
def apE:ax:=bC 4 (apD P K m6 x9 aV L1)
def apF:ax:=aH (λf' aQ=>(([6,8,9,13,14,30,31,69,70]:List Nat).map f':List Value)=[m6,x8,x9,aC,aP,aV,bz,dY,dj]/\L2 (([71]:List Nat).map f') aQ) (apE P K m6 x9 aV L1)
def WK:ax:=aH (au P ava (wg P K m6 x9 aV L1)) (wg P K m6 x9 aV L1)
def ai5:Prop:=aA (au P FX (EM P K m6 x9 aV L1)) ([6,9,30]++[8,31]) ([m6,x9,aV]++xs) h
def Se:Prop:=aA (au P NY (KL P K m6 x8 x9 aE aG aV bz cI L1 L2)) ([6,8,9,10,11,30,31,40]++[41]) ([m6,x8,x9,aE,aG,aV,bz,cI]++xs) h
def ai6:Prop:=aA (au P YR (WJ P K m6 x8 x9 aE aG aV bz cI L1 L2)) [6,8,9,10,11,12,30,31,40,41,44,45,51] [m6,x8,x9,aE,aG,i12,aV,bz,cI,cU,cP,dC,ee] h
def Sf:Prop:=aA (au P au8 (WJ P K m6 x8 x9 aE aG aV bz cI L1 L2)) [6,8,9,10,11,30,31,40,41,44,45,51,59] [m6,x8,x9,aE,aG,aV,bz,cI,cU,cP,dC,ee,iZ] h
def Sg:Prop:=aA (au P NZ (wg P K m6 x9 aV L1)) [6,8,9,11,30,31] [m6,x8,x9,aG,aV,bz] h
def Sh:Prop:=aA (au P au9 (apF P K m6 x8 x9 aC aP aV bz dY dj L1 L2)) ([6,8,9,13,14,30,31,69,70]++[71]) ([m6,x8,x9,aC,aP,aV,bz,dY,dj]++xs) h
def Si:Prop:=aA (au P N0 (wg P K m6 x9 aV L1)) [6,8,9,13,14,30,31] [m6,x8,x9,aC,aP,aV,bz] h
def ai7:Prop:=aA (au P YT (WK P K m6 x9 aV L1)) [6,8,9,13,14,30,31,81] [m6,x8,x9,aC,aP,aV,bz,cK] h
def Sj:Prop:=aA (au P avb (WK P K m6 x9 aV L1)) [6,8,9,13,14,30,31,81,85] [m6,x8,x9,aC,aP,aV,bz,cK,jU] h
def Dz:Prop:=aA (au P avc (EM P K m6 x9 aV L1)) [6,8,9,30,31] [m6,x8,x9,aV,bz] h
def ai8:Prop:=aA (au P avd (KK P K)) [8] [x8] h
theorem amQ:Sf P K m6 x8 x9 aE aG aV bz cI cU cP dC ee iZ L1 L2 h=
 (OP (bu ee (.bool true) iZ) λgI=>
 OP (aD 1 cP dC) λfT=>
 OH (aU 1 h fT gI) λ_ z1=>
 OP (aj .add cU (.int .i64 (1))) λiV=>
 ([m6,x8,x9,aE,aG,aV,bz,cI]:List Value)=[m6,x8,x9,aE,aG,aV,bz,cI]/\L2 [iV] z1):=aB (by kernel_rfl)
theorem aEg:ai6 P K m6 x8 x9 aE aG i12 aV bz cI cU cP dC ee L1 L2 h=
 (bO ee false
 (OP (eI m6) λfg=>
 OP (aF 3 fg) λgv=>
 OP (af false 1 h gv) λfJ=>
 OP (aD 1 fJ i12) λfY=>
 OP (af false 1 h fY) λfS=>
 OP (aj .eql fS (.int .i64 (0))) λiZ=>
 Sf P K m6 x8 x9 aE aG aV bz cI cU cP dC ee iZ L1 L2 h)
 (Sf P K m6 x8 x9 aE aG aV bz cI cU cP dC ee undef L1 L2 h)):=aB (by kernel_rfl)
theorem aEf (m6 x8 x9 aE aG aV bz cI:Value) (L1 L2:LQ) (cU:Value) (h:ae):Se P K m6 x8 x9 aE aG aV bz cI L1 L2 [cU] h=
 (OP (aj .lss cU cI) λer=>
 aJ er
 (OP (aj .shr aE cU) λfD=>
 OP (aj .and fD (.int .i64 (1))) λfX=>
 OP (aj .eql fX (.int .i64 (1))) λiU=>
 ai6 P K m6 x8 x9 aE aG cU aV bz cI cU aG cU iU L1 L2 h)
 (Sg P K m6 x8 x9 aG aV bz L1 h)):=aB (by kernel_rfl)
theorem aEi (m6 x8 x9 aC aP aV bz dY dj:Value) (L1 L2:LQ) (gy:Value) (h:ae):Sh P K m6 x8 x9 aC aP aV bz dY dj L1 L2 [gy] h=
 (OP (aj .lss gy dj) λog=>
 aJ og
 (OP (aD 4 dY gy) λlh=>
 OP (af true 4 h lh) λiW=>
 OH (cF 92 [(.bool false),(.slice none 0 0),(.bool false),(.slice none 0 0)] h) λaZ z1=>
 OH (aU 4 z1 aZ iW) λ_ z2=>
 OP (af true 4 z2 aP) λfE=>
 OP (af true 4 z2 aZ) λiL=>
 ay P 36 [fE,iL] z2 λkO z3=>
 OH (aU 4 z3 aP kO) λ_ z4=>
 OP (aj .add gy (.int .i64 (1))) λhT=>
 ([m6,x8,x9,aC,aP,aV,bz,dY,dj]:List Value)=[m6,x8,x9,aC,aP,aV,bz,dY,dj]/\L2 [hT] z4)
 (Si P K m6 x8 x9 aC aP aV bz L1 h)):=aB (by kernel_rfl)
theorem amS:Sj P K m6 x8 x9 aC aP aV bz cK jU L1 h=
 (OP (bu cK (.bool true) jU) λjV=>
 aJ jV
 (OP (af true 4 h aP) λeB=>
 (True)/\
 OH (aU 4 h x9 eB) λ_ z1=>
 (True)/\
 Dz P K m6 aC x9 aV bz L1 z1)
 (Dz P K m6 x8 x9 aV bz L1 h)):=aB (by kernel_rfl)
theorem amR:ai7 P K m6 x8 x9 aC aP aV bz cK L1 h=
 (bO cK false
 (OP (af true 4 h aP) λdB=>
 OP (af true 4 h x9) λgW=>
 ay P 37 [dB,gW] h λgJ z1=>
 OP (aj .lss gJ (.int .i64 (0))) λjU=>
 Sj P K m6 x8 x9 aC aP aV bz cK jU L1 z1)
 (Sj P K m6 x8 x9 aC aP aV bz cK undef L1 h)):=aB (by kernel_rfl)
theorem aEj:Si P K m6 x8 x9 aC aP aV bz L1 h=
 (OP (oG false x8 (.slice none 0 0)) λkf=>
 ai7 P K m6 x8 x9 aC aP aV bz kf L1 h):=aB (by kernel_rfl)
theorem aEh:Sg P K m6 x8 x9 aG aV bz L1 h=
 (ay P 35 [m6,aG] h λjy z1=>
 OP (oG false jy (.slice none 0 0)) λgw=>
 aJ gw
 (Dz P K m6 x8 x9 aV bz L1 z1)
 (ay P 34 [(.int .i64 (0))] z1 λfA z2=>
 OH (cF 92 [(.bool false),(.slice none 0 0),(.bool false),(.slice none 0 0)] z2) λaP z3=>
 OH (aU 4 z3 aP fA) λ_ z4=>
 OP (aT jy) λdj=>
 bT [(.int .i64 (0))] z4 λL2 xs hx=>
 Sh P K m6 x8 x9 jy aP aV bz jy dj L1 L2 xs hx)):=aB (by kernel_rfl)
theorem aEk:Dz P K m6 x8 x9 aV bz L1 h=
 (OP (aj .add bz (.int .i64 (1))) λeP=>
 ([m6,x9,aV]:List Value)=[m6,x9,aV]/\L1 [x8,eP] h):=aB (by kernel_rfl)
theorem aEe (m6 x9 aV:Value) (L1:LQ) (x8 bz:Value) (h:ae):ai5 P K m6 x9 aV L1 [x8,bz] h=
 (OP (aj .lss bz aV) λdJ=>
 aJ dJ
 (OP (eI m6) λcB=>
 OP (aF 0 cB) λaY=>
 OP (af false 1 h aY) λbG=>
 OH (eM 4 1 [(.bool false)] h bG bG) λdH z1=>
 OP (aT dH) λcI=>
 bT [(.int .i64 (0))] z1 λL2 xs hx=>
 Se P K m6 x8 x9 bz dH aV bz cI L1 L2 xs hx)
 (ai8 P K x8 h)):=aB (by kernel_rfl)
theorem aEl:ai8 P K x8 h=
 (ay P 33 [x8] h λjq z1=>
 OP (cW 0 jq) λlO=>
 OP (cW 1 jq) λeD=>
 K (.tuple #[lO,eD]) z1):=aB (by kernel_rfl)
def LR:Prop:=
 ay P 31 [x0,x1] h λaI z1=>
 OP (cW 0 aI) λaS=>
 OP (cW 1 aI) λbL=>
 OP (gE .not bL) λbm=>
 aJ bm
 (K (.tuple #[(.slice none 0 0),(.int .i64 (1))]) z1)
 (ay P 34 [(.int .i64 (0))] z1 λbH z2=>
 OH (cF 92 [(.bool false),(.slice none 0 0),(.bool false),(.slice none 0 0)] z2) λx9 z3=>
 OH (aU 4 z3 x9 bH) λ_ z4=>
 OP (eI aS) λbQ=>
 OP (aF 0 bQ) λcL=>
 OP (af false 1 z4 cL) λb9=>
 OP (aj .shl (.int .i64 (1)) b9) λaV=>
 bT [(.slice none 0 0),(.int .i64 (0))] z4 λL1 xs hx=>
 ai5 P K aS x9 aV L1 xs hx)
theorem e12:au P FO (aW [.tmp 4,.tmp 5] K) (cd [x0,x1]) h=LR P K x0 x1 h:=by kernel_rfl
theorem f12 {K:VK} {x0 x1:Value} {h:ae} (H:LR prog K x0 x1 h):ay prog 12 [x0,x1] h K:=
 cC k12 (cE rfl) ((e12 prog K x0 x1 h).mpr H)
end
noncomputable section
variable (x0 x1 m6 x9 aE cL b9 : Value) (L1 : LQ) (xs : List Value) (h : ae)
def ag4:=cg prog 13 [[],[],[],[],[],[],[],[],[6,9,28],[10,29],[],[],[],[],[10],[]]
@[irreducible] def FY:=cD ag4
@[irreducible] def ave:=FY.r.r.r.r.r.l.r.l.l
@[irreducible] def YX:=FY.r.r.r.r.r.r
@[irreducible] def avf:=YX.l
theorem k13:ag4=some (49,FY,[.tmp 4,.tmp 5]):=by kernel_rfl
def KM (_P:Program) (K:VK):ax:=aW [.tmp 4,.tmp 5] K
def apJ:ax:=aH (au P YX (KM P K)) (KM P K)
def apH:ax:=bC 0 (apJ P K)
def apI:ax:=aH (λf' aQ=>(([6,9,28]:List Nat).map f':List Value)=[m6,x9,cL]/\L1 (([10,29]:List Nat).map f') aQ) (apH P K)
def ai9:Prop:=aA (au P ave (apI P K m6 x9 cL L1)) ([6,9,28]++[10,29]) ([m6,x9,cL]++xs) h
def aja:Prop:=aA (au P avf (KM P K)) [10] [aE] h
theorem aEm (m6 x9 cL:Value) (L1:LQ) (aE b9:Value) (h:ae):ai9 P K m6 x9 cL L1 [aE,b9] h=
 (OP (aj .lss b9 cL) λaV=>
 aJ aV
 (ay P 38 [m6,b9,x9] h λaY z1=>
 (True)/\
 OP (aD 4 x9 b9) λdW=>
 OP (af true 4 z1 dW) λcI=>
 (af true 4 h dW=some cI/\True)/\
 ay P 39 [aY,cI] z1 λcU z2=>
 (True)/\
 OH (cH 92 1 [(.bool false),(.slice none 0 0),(.bool false),(.slice none 0 0)] z2 [(0,4,cU)]) λer z3=>
 (True)/\
 OH (cT 92 4 64 z3 aE er) λcO z4=>
 (True)/\
 OP (aj .add b9 (.int .i64 (1))) λcP=>
 ([m6,x9,cL]:List Value)=[m6,x9,cL]/\L1 [cO,cP] z4)
 (aja P K aE h)):=aB (by kernel_rfl)
theorem aEn:aja P K aE h=
 (ay P 33 [aE] h λeT z1=>
 OP (cW 0 eT) λgp=>
 OP (cW 1 eT) λfD=>
 K (.tuple #[gp,fD]) z1):=aB (by kernel_rfl)
def L6:Prop:=
 ay P 31 [x0,x1] h λaX z1=>
 OP (cW 0 aX) λaZ=>
 OP (cW 1 aX) λbM=>
 OP (gE .not bM) λaR=>
 aJ aR
 (K (.tuple #[(.slice none 0 0),(.int .i64 (1))]) z1)
 (ay P 32 [aZ] z1 λbL z2=>
 OP (cW 0 bL) λ_=>
 OP (cW 1 bL) λbm=>
 OP (eI aZ) λbP=>
 OP (aF 0 bP) λbQ=>
 OP (af false 1 z2 bQ) λcL=>
 bT [(.slice none 0 0),(.int .i64 (0))] z2 λL1 xs hx=>
 ai9 P K aZ bm cL L1 xs hx)
theorem e13:au P FY (aW [.tmp 4,.tmp 5] K) (cd [x0,x1]) h=L6 P K x0 x1 h:=by kernel_rfl
theorem f13 {K:VK} {x0 x1:Value} {h:ae} (H:L6 prog K x0 x1 h):ay prog 13 [x0,x1] h K:=
 cC k13 (cE rfl) ((e13 prog K x0 x1 h).mpr H)
end
noncomputable section
variable (x0 x1 : Value) (h : ae)
def ag7:=cg prog 14 [[],[],[],[],[],[],[]]
@[irreducible] def YY:=cD ag7
theorem k14:ag7=some (24,YY,[.tmp 4,.tmp 5]):=by kernel_rfl
def L8:Prop:=
 ay P 31 [x0,x1] h λaC z1=>
 OP (cW 0 aC) λaP=>
 OP (cW 1 aC) λaX=>
 OP (gE .not aX) λbM=>
 aJ bM
 (K (.tuple #[(.slice none 0 0),(.int .i64 (1))]) z1)
 (ay P 32 [aP] z1 λaI z2=>
 OP (cW 0 aI) λaS=>
 OP (cW 1 aI) λ_=>
 K (.tuple #[aS,(.int .i64 (0))]) z2)
theorem e14:au P YY (aW [.tmp 4,.tmp 5] K) (cd [x0,x1]) h=L8 P K x0 x1 h:=by kernel_rfl
theorem f14 {K:VK} {x0 x1:Value} {h:ae} (H:L8 prog K x0 x1 h):ay prog 14 [x0,x1] h K:=
 cC k14 (cE rfl) ((e14 prog K x0 x1 h).mpr H)
end
noncomputable section
variable (d0 x1 i5 : Value) (L1 : LQ) (xs : List Value) (h : ae)
def ahg:=cg prog 15 [[],[],[0,1],[5],[],[],[],[],[],[0,1],[]]
@[irreducible] def cY:=cD ahg
@[irreducible] def avE:=cY.r.l.r.l.l
@[irreducible] def Zj:=cY.r.r
@[irreducible] def avD:=Zj.l
theorem k15:ahg=some (25,cY,[.tmp 4]):=by kernel_rfl
def KS (_P:Program) (K:VK):ax:=aW [.tmp 4] K
def aqa:ax:=aH (au P Zj (KS P K)) (KS P K)
def aqb:ax:=bC 0 (aqa P K)
def aqc:ax:=aH (λf' aQ=>(([0,1]:List Nat).map f':List Value)=[d0,x1]/\L1 (([5]:List Nat).map f') aQ) (aqb P K)
def ajv:Prop:=aA (au P avE (aqc P K d0 x1 L1)) ([0,1]++[5]) ([d0,x1]++xs) h
def aju:Prop:=aA (au P avD (KS P K)) [0,1] [d0,x1] h
theorem aEN (d0 x1:Value) (L1:LQ) (i5:Value) (h:ae):ajv P K d0 x1 L1 [i5] h=
 (OP (aT x1) λx8=>
 OP (aj .lss i5 x8) λx9=>
 aJ x9
 (OP (aD 1 x1 i5) λaP=>
 OP (af false 1 h aP) λaX=>
 OP (aT aX) λaZ=>
 OP (aT d0) λbA=>
 OP (aj .neq aZ bA) λaR=>
 aJ aR
 (K (.bool false) h)
 (OP (aj .add i5 (.int .i64 (1))) λaG=>
 ([d0,x1]:List Value)=[d0,x1]/\L1 [aG] h))
 (aju P K d0 x1 h)):=aB (by kernel_rfl)
theorem aEM:aju P K d0 x1 h=
 (OP (aT x1) λaS=>
 OP (aT d0) λbB=>
 OP (aj .eql aS bB) λbm=>
 K bm h):=aB (by kernel_rfl)
def Mh:Prop:=
 bT [(.int .i64 (0))] h λL1 xs hx=>
 ajv P K d0 x1 L1 xs hx
theorem e15:au P cY (aW [.tmp 4] K) (cd [d0,x1]) h=Mh P K d0 x1 h:=by kernel_rfl
theorem f15 {K:VK} {d0 x1:Value} {h:ae} (H:Mh prog K d0 x1 h):ay prog 15 [d0,x1] h K:=
 cC k15 (cE rfl) ((e15 prog K d0 x1 h).mpr H)
end
noncomputable section
variable (d0 x3 i4 : Value) (L1 : LQ) (xs : List Value) (h : ae)
def ahh:=cg prog 16 [[],[],[],[0],[3,4],[],[],[],[3],[]]
@[irreducible] def Ga:=cD ahh
@[irreducible] def avG:=Ga.r.r.l.r.l.l
@[irreducible] def Zk:=Ga.r.r.r
@[irreducible] def avF:=Zk.l
theorem k16:ahh=some (19,Ga,[.tmp 2]):=by kernel_rfl
def KT (_P:Program) (K:VK):ax:=aW [.tmp 2] K
def aqd:ax:=aH (au P Zk (KT P K)) (KT P K)
def aqe:ax:=bC 0 (aqd P K)
def aqf:ax:=aH (λf' aQ=>(([0]:List Nat).map f':List Value)=[d0]/\L1 (([3,4]:List Nat).map f') aQ) (aqe P K)
def ajx:Prop:=aA (au P avG (aqf P K d0 L1)) ([0]++[3,4]) ([d0]++xs) h
def ajw:Prop:=aA (au P avF (KT P K)) [3] [x3] h
theorem aEP (d0:Value) (L1:LQ) (x3 i4:Value) (h:ae):ajx P K d0 L1 [x3,i4] h=
 (OP (aT d0) λx7=>
 OP (aj .lss i4 x7) λx8=>
 aJ x8
 (OP (aD 1 d0 i4) λaP=>
 OP (af false 1 h aP) λaX=>
 ay P 19 [aX] h λaZ z1=>
 OP (aj .add x3 aZ) λbM=>
 OP (aj .add i4 (.int .i64 (1))) λaE=>
 ([d0]:List Value)=[d0]/\L1 [bM,aE] z1)
 (ajw P K x3 h)):=aB (by kernel_rfl)
theorem aEO:ajw P K x3 h=
 (K x3 h):=aB (by kernel_rfl)
def Mi:Prop:=
 bT [(.int .i64 (0)),(.int .i64 (0))] h λL1 xs hx=>
 ajx P K d0 L1 xs hx
theorem Pl:au P Ga (aW [.tmp 2] K) (cd [d0]) h=Mi P K d0 h:=by kernel_rfl
theorem f16 {K:VK} {d0:Value} {h:ae} (H:Mi prog K d0 h):ay prog 16 [d0] h K:=
 cC k16 (cE rfl) ((Pl prog K d0 h).mpr H)
end
noncomputable section
variable (x0 x3 j4 : Value) (L1 : LQ) (xs : List Value) (h : ae)
def ahk:=cg prog 19 [[],[],[],[0],[3,4],[],[],[],[3],[]]
@[irreducible] def Gc:=cD ahk
@[irreducible] def avK:=Gc.r.r.l.r.l.l
@[irreducible] def Zn:=Gc.r.r.r
@[irreducible] def avJ:=Zn.l
theorem k19:ahk=some (18,Gc,[.tmp 2]):=by kernel_rfl
def KU (_P:Program) (K:VK):ax:=aW [.tmp 2] K
def aqg:ax:=aH (au P Zn (KU P K)) (KU P K)
def aqh:ax:=bC 0 (aqg P K)
def aqi:ax:=aH (λf' aQ=>(([0]:List Nat).map f':List Value)=[x0]/\L1 (([3,4]:List Nat).map f') aQ) (aqh P K)
def ajA:Prop:=aA (au P avK (aqi P K x0 L1)) ([0]++[3,4]) ([x0]++xs) h
def ajz:Prop:=aA (au P avJ (KU P K)) [3] [x3] h
theorem aET (x0:Value) (L1:LQ) (x3 j4:Value) (h:ae):ajA P K x0 L1 [x3,j4] h=
 (OP (aT x0) λx7=>
 OP (aj .lss j4 x7) λx8=>
 aJ x8
 (OP (aD 1 x0 j4) λaP=>
 OP (af false 1 h aP) λaX=>
 OP (aj .add x3 aX) λaZ=>
 OP (aj .add j4 (.int .i64 (1))) λaE=>
 ([x0]:List Value)=[x0]/\L1 [aZ,aE] h)
 (ajz P K x3 h)):=aB (by kernel_rfl)
theorem aES:ajz P K x3 h=
 (K x3 h):=aB (by kernel_rfl)
def Ml:Prop:=
 bT [(.int .i64 (0)),(.int .i64 (0))] h λL1 xs hx=>
 ajA P K x0 L1 xs hx
theorem e19:au P Gc (aW [.tmp 2] K) (cd [x0]) h=Ml P K x0 h:=by kernel_rfl
theorem f19 {K:VK} {x0:Value} {h:ae} (H:Ml prog K x0 h):ay prog 19 [x0] h K:=
 cC k19 (cE rfl) ((e19 prog K x0 h).mpr H)
end
noncomputable section
variable (v0 x1 x2 aE aC : Value) (h : ae)
def ahs:=cg prog 27 [[],[0,2,10],[10,13],[]]
@[irreducible] def Gm:=cD ahs
@[irreducible] def ZR:=Gm.r.l.r.l
@[irreducible] def awb:=Gm.r.r
@[irreducible] def awc:=ZR.r.l
theorem k27:ahs=some (15,Gm,[.tmp 6]):=by kernel_rfl
def W2 (_P:Program) (K:VK):ax:=aW [.tmp 6] K
def W3:ax:=aH (au P awb (W2 P K)) (W2 P K)
def aj4:Prop:=aA (au P ZR (W3 P K)) [0,2,10] [v0,x2,aE] h
def SF:Prop:=aA (au P awc (W3 P K)) [10,13] [aE,aC] h
theorem aFy:SF P K aE aC h=
 (OP (bu aE aC (.bool false)) λaP=>
 K aP h):=aB (by kernel_rfl)
theorem aFx:aj4 P K v0 x2 aE h=
 (bO aE true
 (OP (aj .leq v0 x2) λaC=>
 SF P K aE aC h)
 (SF P K aE undef h)):=aB (by kernel_rfl)
def Mt:Prop:=
 OP (aj .geq v0 x1) λx9=>
 aj4 P K v0 x2 x9 h
theorem e27:au P Gm (aW [.tmp 6] K) (cd [v0,x1,x2]) h=Mt P K v0 x1 x2 h:=by kernel_rfl
theorem f27 {K:VK} {v0 x1 x2:Value} {h:ae} (H:Mt prog K v0 x1 x2 h):ay prog 27 [v0,x1,x2] h K:=
 cC k27 (cE rfl) ((e27 prog K v0 x1 x2 h).mpr H)
end
noncomputable section
variable (x0 i3 x4 x8 aG aC aP aX bH cL aV cB : Value) (L1 : LQ) (xs : List Value) (h : ae)
def aht:=cg prog 28 [[],[0,8],[0,8,11],[],[],[],[],[0,13,14],[15],[],[],[],[0,3,4,13,14,15,25],[0,3,4,13,14,15,25,28],[0,3,4,13,14,15,30],[0,13,14,15,30,35],[],[],[],[],[]]
@[irreducible] def B3:=cD aht
@[irreducible] def ZW:=B3.r.l.l.r.l
@[irreducible] def awg:=B3.r.l.r
@[irreducible] def Ob:=B3.r.r
@[irreducible] def awh:=ZW.r.l
@[irreducible] def Gn:=Ob.l.r.l.l
@[irreducible] def awi:=Ob.r
@[irreducible] def ZS:=Gn.r.r.l.l.r.l.r.l
@[irreducible] def awe:=Gn.r.r.l.l.r.r
@[irreducible] def awd:=Gn.r.r.r
@[irreducible] def ZT:=ZS.r.l
@[irreducible] def ZU:=ZT.r.l
@[irreducible] def awf:=ZU.r.l
theorem k28:aht=some (38,B3,[.tmp 2]):=by kernel_rfl
def EW (_P:Program) (K:VK):ax:=aW [.tmp 2] K
def W5:ax:=aH (au P Ob (EW P K)) (EW P K)
def W6:ax:=aH (au P awg (W5 P K)) (W5 P K)
def aqT:ax:=aH (au P awi (EW P K)) (EW P K)
def aqR:ax:=bC 0 (aqT P K)
def K0:ax:=aH (λf' aQ=>(([0,13,14]:List Nat).map f':List Value)=[x0,aC,aP]/\L1 (([15]:List Nat).map f') aQ) (aqR P K)
def aqS:ax:=aH (au P awd (K0 P K x0 aC aP L1)) (K0 P K x0 aC aP L1)
def W4:ax:=bC 1 (aqS P K x0 aC aP L1)
def EY:ax:=aH (au P awe (W4 P K x0 aC aP L1)) (W4 P K x0 aC aP L1)
def aj8:Prop:=aA (au P ZW (W6 P K)) [0,8] [x0,x8] h
def SI:Prop:=aA (au P awh (W6 P K)) [0,8,11] [x0,x8,aG] h
def aj5:Prop:=aA (au P Gn (K0 P K x0 aC aP L1)) ([0,13,14]++[15]) ([x0,aC,aP]++xs) h
def aj6:Prop:=aA (au P ZS (EY P K x0 aC aP L1)) [0,3,4,13,14,15,25] [x0,i3,x4,aC,aP,aX,bH] h
def SG:Prop:=aA (au P ZT (EY P K x0 aC aP L1)) [0,3,4,13,14,15,25,28] [x0,i3,x4,aC,aP,aX,bH,cL] h
def aj7:Prop:=aA (au P ZU (EY P K x0 aC aP L1)) [0,3,4,13,14,15,30] [x0,i3,x4,aC,aP,aX,aV] h
def SH:Prop:=aA (au P awf (EY P K x0 aC aP L1)) [0,13,14,15,30,35] [x0,aC,aP,aX,aV,cB] h
theorem aFF:SI P K x0 x8 aG h=
 (OP (bu x8 (.bool true) aG) λaM=>
 aJ aM
 (K (.bool false) h)
 (OP (aT x0) λaP=>
 bT [(.int .i64 (0))] h λL1 xs hx=>
 aj5 P K x0 x0 aP L1 xs hx)):=aB (by kernel_rfl)
theorem aFE:aj8 P K x0 x8 h=
 (bO x8 false
 (OP (aT x0) λaE=>
 OP (aj .gtr aE (.int .i64 (8))) λaG=>
 SI P K x0 x8 aG h)
 (SI P K x0 x8 undef h)):=aB (by kernel_rfl)
theorem aFD:SH P K x0 aC aP aX aV cB L1 h=
 (OP (bu aV (.bool true) cB) λaY=>
 aJ aY
 (K (.bool false) h)
 (OP (aj .add aX (.int .i64 (1))) λbG=>
 ([x0,aC,aP]:List Value)=[x0,aC,aP]/\L1 [bG] h)):=aB (by kernel_rfl)
theorem aFC:aj7 P K x0 i3 x4 aC aP aX aV L1 h=
 (bO aV false
 (OP (aD 1 x4 i3) λbZ=>
 OP (af false 1 h bZ) λcA=>
 OP (aj .neq cA (.int .i64 (0))) λcB=>
 SH P K x0 aC aP aX aV cB L1 h)
 (SH P K x0 aC aP aX aV undef L1 h)):=aB (by kernel_rfl)
theorem aFB:SG P K x0 i3 x4 aC aP aX bH cL L1 h=
 (OP (bu bH (.bool true) cL) λb9=>
 aj7 P K x0 i3 x4 aC aP aX b9 L1 h):=aB (by kernel_rfl)
theorem aFA:aj6 P K x0 i3 x4 aC aP aX bH L1 h=
 (bO bH false
 (ay P 50 [x4] h λbQ z1=>
 OP (gE .not bQ) λcL=>
 SG P K x0 i3 x4 aC aP aX bH cL L1 z1)
 (SG P K x0 i3 x4 aC aP aX bH undef L1 h)):=aB (by kernel_rfl)
theorem aFz (x0 aC aP:Value) (L1:LQ) (aX:Value) (h:ae):aj5 P K x0 aC aP L1 [aX] h=
 (OP (aj .lss aX aP) λaZ=>
 aJ aZ
 (OP (aD 1 aC aX) λbA=>
 OP (af false 1 h bA) λaR=>
 OP (aT aR) λaS=>
 OP (aT x0) λbB=>
 OP (aj .neq aS bB) λbm=>
 aj6 P K x0 aX aR aC aP aX bm L1 h)
 (K (.bool true) h)):=aB (by kernel_rfl)
def Mu:Prop:=
 OP (aT x0) λx6=>
 OP (aj .lss x6 (.int .i64 (1))) λx7=>
 aj8 P K x0 x7 h
theorem e28:au P B3 (aW [.tmp 2] K) (cd [x0]) h=Mu P K x0 h:=by kernel_rfl
theorem f28 {K:VK} {x0:Value} {h:ae} (H:Mu prog K x0 h):ay prog 28 [x0] h K:=
 cC k28 (cE rfl) ((e28 prog K x0 h).mpr H)
end
noncomputable section
variable (x0 x4 x6 x7 bz dJ bZ er cO cP : Value) (L1 L2 : LQ) (xs : List Value) (h : ae)
def ahu:=cg prog 29 [[],[],[0,4],[],[],[],[],[],[],[],[0,4,6,31,32],[7,33],[],[],[],[],[0,4,6,7],[],[0,4,7,42,43],[44],[],[],[],[]]
@[irreducible] def Oc:=cD ahu
@[irreducible] def Od:=Oc.r.r.l.l
@[irreducible] def awj:=Od.l.r.r.r.l.r.l.l
@[irreducible] def ZX:=Od.l.r.r.r.r
@[irreducible] def ZY:=ZX.l
@[irreducible] def awk:=ZY.r.l.l
theorem k29:ahu=some (59,Oc,[.tmp 2,.tmp 3]):=by kernel_rfl
def aqU (_P:Program) (K:VK):ax:=aW [.tmp 2,.tmp 3] K
def aq0:ax:=bC 0 (aqU P K)
def W7:ax:=aH (λf' aQ=>(([0,4]:List Nat).map f':List Value)=[x0,x4]/\L1 (([]:List Nat).map f') aQ) (aq0 P K)
def EZ:ax:=bC 1 (W7 P K x0 x4 L1)
def aqV:ax:=aH (au P ZX (EZ P K x0 x4 L1)) (EZ P K x0 x4 L1)
def aqW:ax:=bC 2 (aqV P K x0 x4 L1)
def aqX:ax:=aH (λf' aQ=>(([0,4,6,31,32]:List Nat).map f':List Value)=[x0,x4,x6,bz,dJ]/\L2 (([7,33]:List Nat).map f') aQ) (aqW P K x0 x4 L1)
def aqY:ax:=bC 4 (EZ P K x0 x4 L1)
def aqZ:ax:=aH (λf' aQ=>(([0,4,7,42,43]:List Nat).map f':List Value)=[x0,x4,x7,er,cO]/\L2 (([44]:List Nat).map f') aQ) (aqY P K x0 x4 L1)
def akb:Prop:=aA (au P Od (W7 P K x0 x4 L1)) ([0,4]++[]) ([x0,x4]++xs) h
def aj9:Prop:=aA (au P awj (aqX P K x0 x4 x6 bz dJ L1 L2)) ([0,4,6,31,32]++[7,33]) ([x0,x4,x6,bz,dJ]++xs) h
def SJ:Prop:=aA (au P ZY (EZ P K x0 x4 L1)) [0,4,6,7] [x0,x4,x6,x7] h
def aka:Prop:=aA (au P awk (aqZ P K x0 x4 x7 er cO L1 L2)) ([0,4,7,42,43]++[44]) ([x0,x4,x7,er,cO]++xs) h
theorem aFG (x0 x4 x6 bz dJ:Value) (L1 L2:LQ) (x7 bZ:Value) (h:ae):aj9 P K x0 x4 x6 bz dJ L1 L2 [x7,bZ] h=
 (OP (aj .lss bZ dJ) λcA=>
 aJ cA
 (OP (aD 5 bz bZ) λcB=>
 OP (af true 5 h cB) λaY=>
 OH (cF 119 [(.int .i64 (0)),(.int .i64 (0)),(.int .i64 (0)),(.int .i64 (0)),(.pointer none)] h) λa9 z1=>
 OH (aU 5 z1 a9 aY) λ_ z2=>
 OP (aF 3 a9) λdH=>
 OP (af false 1 z2 dH) λdW=>
 OP (lI false [x7,dW]) λcI=>
 OP (aj .add bZ (.int .i64 (1))) λcU=>
 ([x0,x4,x6,bz,dJ]:List Value)=[x0,x4,x6,bz,dJ]/\L2 [cI,cU] z2)
 (SJ P K x0 x4 x6 x7 L1 h)):=aB (by kernel_rfl)
theorem aFI (x0 x4 x7 er cO:Value) (L1 L2:LQ) (cP:Value) (h:ae):aka P K x0 x4 x7 er cO L1 L2 [cP] h=
 (OP (aj .lss cP cO) λdC=>
 aJ dC
 (OP (aD 5 er cP) λeT=>
 OP (af true 5 h eT) λgp=>
 OH (cF 119 [(.int .i64 (0)),(.int .i64 (0)),(.int .i64 (0)),(.int .i64 (0)),(.pointer none)] h) λNB z1=>
 OH (aU 5 z1 NB gp) λ_ z2=>
 OP (aF 4 NB) λfD=>
 OP (af false 1 z2 fD) λfX=>
 (True)/\
 OP (eI fX) λiU=>
 OP (af false 1 z2 iU) λee=>
 (True)/\
 OP (aF 2 NB) λfI=>
 OP (af false 1 z2 fI) λfg=>
 (True)/\
 OP (aj .mul fg x7) λfJ=>
 OP (aj .add ee fJ) λgV=>
 OP (eI fX) λfY=>
 OH (aU 1 z2 fY gV) λ_ z3=>
 (True)/\
 OP (aj .add cP (.int .i64 (1))) λfS=>
 ([x0,x4,x7,er,cO]:List Value)=[x0,x4,x7,er,cO]/\L2 [fS] z3)
 (([x0,x4]:List Value)=[x0,x4]/\L1 [] h)):=aB (by kernel_rfl)
theorem aFH:SJ P K x0 x4 x6 x7 L1 h=
 (OP (aT x6) λcO=>
 bT [(.int .i64 (0))] h λL2 xs hx=>
 aka P K x0 x4 x7 x6 cO L1 L2 xs hx):=aB (by kernel_rfl)
theorem aFJ:akb P K x0 x4 L1 [] h=
 (OP (aT x4) λaZ=>
 ay P 53 [x0,x4] h λaR z1=>
 ay P 52 [aZ,aR] z1 λaI z2=>
 OP (cW 0 aI) λaS=>
 OP (cW 1 aI) λbL=>
 OP (oG false bL (.slice none 0 0)) λbm=>
 aJ bm
 (K (.tuple #[x4,aS]) z2)
 (OP (aD 5 bL (.int .i64 (0))) λcL=>
 OP (aF 3 cL) λb9=>
 OP (af false 1 z2 b9) λaV=>
 OP (aT bL) λdJ=>
 bT [aV,(.int .i64 (0))] z2 λL2 xs hx=>
 aj9 P K x0 x4 bL bL dJ L1 L2 xs hx)):=aB (by kernel_rfl)
def Mv:Prop:=
 ay P 51 [x0] h λaC z1=>
 bT [] z1 λL1 xs hx=>
 akb P K x0 aC L1 xs hx
theorem e29:au P Oc (aW [.tmp 2,.tmp 3] K) (cd [x0]) h=Mv P K x0 h:=by kernel_rfl
theorem f29 {K:VK} {x0:Value} {h:ae} (H:Mv prog K x0 h):ay prog 29 [x0] h K:=
 cC k29 (cE rfl) ((e29 prog K x0 h).mpr H)
end
noncomputable section
variable (a0 x3 x8 x9 aE aP aX aZ : Value) (L1 L2 : LQ) (xs : List Value) (h : ae)
def ahv:=cg prog 30 [[],[],[],[8,9],[3,10],[],[],[],[],[8,9,10,14,15],[3,16],[],[],[],[],[3,8,9,10],[3],[]]
@[irreducible] def Gq:=cD ahv
@[irreducible] def Oe:=Gq.r.r.l.r.l.l
@[irreducible] def ZZ:=Gq.r.r.r
@[irreducible] def awl:=Oe.r.r.l.l.r.r.l.l
@[irreducible] def Z0:=Oe.r.r.r
@[irreducible] def awn:=ZZ.l
@[irreducible] def awm:=Z0.l
theorem cX:ahv=some (26,Gq,[.tmp 2]):=by kernel_rfl
def K1 (_P:Program) (K:VK):ax:=aW [.tmp 2] K
def aq4:ax:=aH (au P ZZ (K1 P K)) (K1 P K)
def aq5:ax:=bC 0 (aq4 P K)
def E0:ax:=aH (λf' aQ=>(([8,9]:List Nat).map f':List Value)=[x8,x9]/\L1 (([3,10]:List Nat).map f') aQ) (aq5 P K)
def aq6:ax:=aH (au P Z0 (E0 P K x8 x9 L1)) (E0 P K x8 x9 L1)
def aq1:ax:=bC 1 (aq6 P K x8 x9 L1)
def aq2:ax:=bC 2 (aq1 P K x8 x9 L1)
def aq3:ax:=aH (λf' aQ=>(([8,9,10,14,15]:List Nat).map f':List Value)=[x8,x9,aE,aP,aX]/\L2 (([3,16]:List Nat).map f') aQ) (aq2 P K x8 x9 L1)
def akf:Prop:=aA (au P Oe (E0 P K x8 x9 L1)) ([8,9]++[3,10]) ([x8,x9]++xs) h
def akc:Prop:=aA (au P awl (aq3 P K x8 x9 aE aP aX L1 L2)) ([8,9,10,14,15]++[3,16]) ([x8,x9,aE,aP,aX]++xs) h
def akd:Prop:=aA (au P awm (E0 P K x8 x9 L1)) [3,8,9,10] [x3,x8,x9,aE] h
def ake:Prop:=aA (au P awn (K1 P K)) [3] [x3] h
theorem aFK (x8 x9 aE aP aX:Value) (L1 L2:LQ) (x3 aZ:Value) (h:ae):akc P K x8 x9 aE aP aX L1 L2 [x3,aZ] h=
 (OP (aj .lss aZ aX) λbM=>
 aJ bM
 (OP (aD 1 aP aZ) λbA=>
 OP (af false 1 h bA) λaR=>
 OP (aj .add x3 aR) λbL=>
 OP (aj .add aZ (.int .i64 (1))) λbB=>
 ([x8,x9,aE,aP,aX]:List Value)=[x8,x9,aE,aP,aX]/\L2 [bL,bB] h)
 (akd P K x3 x8 x9 aE L1 h)):=aB (by kernel_rfl)
theorem aFL:akd P K x3 x8 x9 aE L1 h=
 (OP (aj .add aE (.int .i64 (1))) λbm=>
 ([x8,x9]:List Value)=[x8,x9]/\L1 [x3,bm] h):=aB (by kernel_rfl)
theorem aFN (x8 x9:Value) (L1:LQ) (x3 aE:Value) (h:ae):akf P K x8 x9 L1 [x3,aE] h=
 (OP (aj .lss aE x9) λaG=>
 aJ aG
 (OP (aD 1 x8 aE) λaM=>
 OP (af false 1 h aM) λaC=>
 OP (aT aC) λaX=>
 bT [x3,(.int .i64 (0))] h λL2 xs hx=>
 akc P K x8 x9 aE aC aX L1 L2 xs hx)
 (ake P K x3 h)):=aB (by kernel_rfl)
theorem aFM:ake P K x3 h=
 (K x3 h):=aB (by kernel_rfl)
def Mw:Prop:=
 OP (aT a0) λx9=>
 bT [(.int .i64 (0)),(.int .i64 (0))] h λL1 xs hx=>
 akf P K a0 x9 L1 xs hx
theorem e30:au P Gq (aW [.tmp 2] K) (cd [a0]) h=Mw P K a0 h:=by kernel_rfl
theorem f30 {K:VK} {a0:Value} {h:ae} (H:Mw prog K a0 h):ay prog 30 [a0] h K:=
 cC cX (cE rfl) ((e30 prog K a0 h).mpr H)
end
noncomputable section
variable (x0 x1 m6 x9 aX aI bL bH bZ cA cB dW cI cU : Value) (L1 L2 : LQ) (xs : List Value) (h : ae)
def ahw:=cg prog 31 [[],[0,1,15],[0,1,15,20],[0,1,22],[0,1,22,25],[],[],[],[],[],[6,33,34],[35],[],[],[],[],[],[6,33,34,35,39,40],[9,41],[],[],[],[],[6,9,33,34,35],[6,33,34,35],[6],[]]
@[irreducible] def B4:=cD ahw
@[irreducible] def Z4:=B4.r.l.l.r.l
@[irreducible] def awq:=B4.r.l.r
@[irreducible] def Of:=B4.r.r
@[irreducible] def Z5:=Z4.r.l
@[irreducible] def Gr:=Of.r.l.r.l.l
@[irreducible] def Z1:=Of.r.r
@[irreducible] def Z6:=Z5.r.l
@[irreducible] def awp:=Gr.r.r.l.l.r.r.l.r.l.l
@[irreducible] def Z3:=Gr.r.r.l.l.r.r.r
@[irreducible] def Z2:=Gr.r.r.r
@[irreducible] def awt:=Z1.l
@[irreducible] def awo:=Z6.r.l
@[irreducible] def awr:=Z3.l
@[irreducible] def aws:=Z2.l
theorem k31:ahw=some (61,B4,[.tmp 4,.tmp 5]):=by kernel_rfl
def BM (_P:Program) (K:VK):ax:=aW [.tmp 4,.tmp 5] K
def W8:ax:=aH (au P Of (BM P K)) (BM P K)
def E2:ax:=aH (au P awq (W8 P K)) (W8 P K)
def aq7:ax:=aH (au P Z1 (BM P K)) (BM P K)
def aq8:ax:=bC 0 (aq7 P K)
def E1:ax:=aH (λf' aQ=>(([6,33,34]:List Nat).map f':List Value)=[m6,bZ,cA]/\L1 (([35]:List Nat).map f') aQ) (aq8 P K)
def aq9:ax:=aH (au P Z2 (E1 P K m6 bZ cA L1)) (E1 P K m6 bZ cA L1)
def K3:ax:=bC 1 (aq9 P K m6 bZ cA L1)
def ara:ax:=aH (au P Z3 (K3 P K m6 bZ cA L1)) (K3 P K m6 bZ cA L1)
def arc:ax:=bC 2 (ara P K m6 bZ cA L1)
def ard:ax:=aH (λf' aQ=>(([6,33,34,35,39,40]:List Nat).map f':List Value)=[m6,bZ,cA,cB,dW,cI]/\L2 (([9,41]:List Nat).map f') aQ) (arc P K m6 bZ cA L1)
def akl:Prop:=aA (au P Z4 (E2 P K)) [0,1,15] [x0,x1,aX] h
def SL:Prop:=aA (au P Z5 (E2 P K)) [0,1,15,20] [x0,x1,aX,aI] h
def akm:Prop:=aA (au P Z6 (E2 P K)) [0,1,22] [x0,x1,bL] h
def SK:Prop:=aA (au P awo (E2 P K)) [0,1,22,25] [x0,x1,bL,bH] h
def akg:Prop:=aA (au P Gr (E1 P K m6 bZ cA L1)) ([6,33,34]++[35]) ([m6,bZ,cA]++xs) h
def akh:Prop:=aA (au P awp (ard P K m6 bZ cA cB dW cI L1 L2)) ([6,33,34,35,39,40]++[9,41]) ([m6,bZ,cA,cB,dW,cI]++xs) h
def aki:Prop:=aA (au P awr (K3 P K m6 bZ cA L1)) [6,9,33,34,35] [m6,x9,bZ,cA,cB] h
def akj:Prop:=aA (au P aws (E1 P K m6 bZ cA L1)) [6,33,34,35] [m6,bZ,cA,cB] h
def akk:Prop:=aA (au P awt (BM P K)) [6] [m6] h
theorem aFO:SK P K x0 x1 bL bH h=
 (OP (bu bL (.bool true) bH) λbP=>
 aJ bP
 (K (.tuple #[(.pointer none),(.bool false)]) h)
 (OP (aT x0) λcL=>
 OP (eG [(.int .i64 (0)),(.slice none 0 0),(.slice none 0 0),(.slice none 0 0)] [(0,1,cL),(1,1,x0),(2,1,x1)]) λbz=>
 OH (cR 95 h bz) λdJ z1=>
 OP (aT x1) λcA=>
 bT [(.int .i64 (0))] z1 λL1 xs hx=>
 akg P K dJ x1 cA L1 xs hx)):=aB (by kernel_rfl)
theorem aFW:akm P K x0 x1 bL h=
 (bO bL false
 (ay P 50 [x0] h λbm z1=>
 OP (gE .not bm) λbH=>
 SK P K x0 x1 bL bH z1)
 (SK P K x0 x1 bL undef h)):=aB (by kernel_rfl)
theorem aFV:SL P K x0 x1 aX aI h=
 (OP (bu aX (.bool true) aI) λaS=>
 akm P K x0 x1 aS h):=aB (by kernel_rfl)
theorem aFU:akl P K x0 x1 aX h=
 (bO aX false
 (OP (aT x0) λbM=>
 OP (aT x1) λaR=>
 OP (aj .neq bM aR) λaI=>
 SL P K x0 x1 aX aI h)
 (SL P K x0 x1 aX undef h)):=aB (by kernel_rfl)
theorem aFQ (m6 bZ cA cB dW cI:Value) (L1 L2:LQ) (x9 cU:Value) (h:ae):akh P K m6 bZ cA cB dW cI L1 L2 [x9,cU] h=
 (OP (aj .lss cU cI) λer=>
 aJ er
 (OP (aD 1 dW cU) λcO=>
 OP (af false 1 h cO) λcP=>
 OP (aj .add x9 cP) λgp=>
 OP (aj .add cU (.int .i64 (1))) λfD=>
 ([m6,bZ,cA,cB,dW,cI]:List Value)=[m6,bZ,cA,cB,dW,cI]/\L2 [gp,fD] h)
 (aki P K m6 x9 bZ cA cB L1 h)):=aB (by kernel_rfl)
theorem aFR:aki P K m6 x9 bZ cA cB L1 h=
 (OP (eI m6) λee=>
 OP (aF 3 ee) λfI=>
 OP (af false 1 h fI) λfg=>
 OH (cH 3 1 [(.int .i64 (0))] h [(0,1,x9)]) λfJ z1=>
 OH (cT 3 1 8 z1 fg fJ) λgV z2=>
 OP (eI m6) λfY=>
 OP (aF 3 fY) λfS=>
 OH (aU 1 z2 fS gV) λ_ z3=>
 akj P K m6 bZ cA cB L1 z3):=aB (by kernel_rfl)
theorem aFS:akj P K m6 bZ cA cB L1 h=
 (OP (aj .add cB (.int .i64 (1))) λiZ=>
 ([m6,bZ,cA]:List Value)=[m6,bZ,cA]/\L1 [iZ] h):=aB (by kernel_rfl)
theorem aFP (m6 bZ cA:Value) (L1:LQ) (cB:Value) (h:ae):akg P K m6 bZ cA L1 [cB] h=
 (OP (aj .lss cB cA) λaY=>
 aJ aY
 (OP (aD 1 bZ cB) λbG=>
 OP (af false 1 h bG) λdH=>
 OP (aT dH) λcI=>
 bT [(.int .i64 (0)),(.int .i64 (0))] h λL2 xs hx=>
 akh P K m6 bZ cA cB dH cI L1 L2 xs hx)
 (akk P K m6 h)):=aB (by kernel_rfl)
theorem aFT:akk P K m6 h=
 (K (.tuple #[m6,(.bool true)]) h):=aB (by kernel_rfl)
def Mx:Prop:=
 ay P 28 [x1] h λaC z1=>
 OP (gE .not aC) λaP=>
 akl P K x0 x1 aP z1
theorem e31:au P B4 (aW [.tmp 4,.tmp 5] K) (cd [x0,x1]) h=Mx P K x0 x1 h:=by kernel_rfl
theorem f31 {K:VK} {x0 x1:Value} {h:ae} (H:Mx prog K x0 x1 h):ay prog 31 [x0,x1] h K:=
 cC k31 (cE rfl) ((e31 prog K x0 x1 h).mpr H)
end
noncomputable section
variable (m0 x4 x5 x6 x7 x8 b9 aV hI ke : Value) (L1 L2 : LQ) (xs : List Value) (h : ae)
def ahx:=cg prog 32 [[],[],[],[0,4,5],[6],[],[],[],[0,4,5,6,7,29],[8,30],[],[],[],[],[0,4,5,6,7,8,29,30],[0,4,5,6,7,8],[],[],[],[],[0,4,5,6,8,63,64],[65],[],[],[],[],[0,4,5,6,8]]
@[irreducible] def Og:=cD ahx
@[irreducible] def Oi:=Og.r.r.r.l.l
@[irreducible] def Z7:=Oi.l.r.r.l.r.l.l
@[irreducible] def Z9:=Oi.l.r.r.r
@[irreducible] def awu:=Z7.r.r.r.l
@[irreducible] def Oh:=Z9.l
@[irreducible] def awv:=Oh.r.l.r.l.l
@[irreducible] def Z8:=Oh.r.r
@[irreducible] def aMl:=Z8.l
theorem k32:ahx=some (77,Og,[.tmp 2,.tmp 3]):=by kernel_rfl
def arf (_P:Program) (K:VK):ax:=aW [.tmp 2,.tmp 3] K
def arl:ax:=bC 0 (arf P K)
def Xa:ax:=aH (λf' aQ=>(([0,4,5]:List Nat).map f':List Value)=[m0,x4,x5]/\L1 (([6]:List Nat).map f') aQ) (arl P K)
def BN:ax:=bC 1 (Xa P K m0 x4 x5 L1)
def arn:ax:=aH (au P Z9 (BN P K m0 x4 x5 L1)) (BN P K m0 x4 x5 L1)
def arh:ax:=bC 2 (arn P K m0 x4 x5 L1)
def W9:ax:=aH (λf' aQ=>(([0,4,5,6,7,29]:List Nat).map f':List Value)=[m0,x4,x5,x6,x7,b9]/\L2 (([8,30]:List Nat).map f') aQ) (arh P K m0 x4 x5 L1)
def ari:ax:=aH (au P Z8 (BN P K m0 x4 x5 L1)) (BN P K m0 x4 x5 L1)
def arj:ax:=bC 4 (ari P K m0 x4 x5 L1)
def ark:ax:=aH (λf' aQ=>(([0,4,5,6,8,63,64]:List Nat).map f':List Value)=[m0,x4,x5,x6,x8,hI,ke]/\L2 (([65]:List Nat).map f') aQ) (arj P K m0 x4 x5 L1)
def akp:Prop:=aA (au P Oi (Xa P K m0 x4 x5 L1)) ([0,4,5]++[6]) ([m0,x4,x5]++xs) h
def akn:Prop:=aA (au P Z7 (W9 P K m0 x4 x5 x6 x7 b9 L1 L2)) ([0,4,5,6,7,29]++[8,30]) ([m0,x4,x5,x6,x7,b9]++xs) h
def DB:Prop:=aA (au P awu (W9 P K m0 x4 x5 x6 x7 b9 L1 L2)) [0,4,5,6,7,8,29,30] [m0,x4,x5,x6,x7,x8,b9,aV] h
def ako:Prop:=aA (au P Oh (BN P K m0 x4 x5 L1)) [0,4,5,6,7,8] [m0,x4,x5,x6,x7,x8] h
def aDw:Prop:=aA (au P awv (ark P K m0 x4 x5 x6 x8 hI ke L1 L2)) ([0,4,5,6,8,63,64]++[65]) ([m0,x4,x5,x6,x8,hI,ke]++xs) h
theorem aFY:DB P K m0 x4 x5 x6 x7 x8 b9 aV L1 L2 h=
 (OP (aj .add aV (.int .i64 (1))) λfS=>
 ([m0,x4,x5,x6,x7,b9]:List Value)=[m0,x4,x5,x6,x7,b9]/\L2 [x8,fS] h):=aB (by kernel_rfl)
theorem aFX (m0 x4 x5 x6 x7 b9:Value) (L1 L2:LQ) (x8 aV:Value) (h:ae):akn P K m0 x4 x5 x6 x7 b9 L1 L2 [x8,aV] h=
 (OP (aj .lss aV b9) λbz=>
 aJ bz
 (OP (aD 1 x4 aV) λcB=>
 OP (af false 1 h cB) λaY=>
 (True)/\
 OP (gE .not aY) λbG=>
 bO bG true
 (ay P 38 [m0,aV,x7] h λer z1=>
 (True)/\
 OP (eI m0) λcP=>
 OP (aF 3 cP) λdC=>
 OP (af false 1 z1 dC) λeT=>
 (af false 1 h dC=some eT/\True)/\
 OP (aD 1 eT aV) λfD=>
 OP (af false 1 z1 fD) λfX=>
 (af false 1 h fD=some fX/\True)/\
 ay P 34 [fX] z1 λiU z2=>
 (True)/\
 ay P 37 [er,iU] z2 λee z3=>
 (True)/\
 OP (aj .lss ee (.int .i64 (0))) λfI=>
 OP (bu bG fI (.bool false)) λfg=>
 aJ fg
 (OH (cH 3 1 [(.int .i64 (0))] z3 [(0,1,aV)]) λgV z4=>
 OH (cT 3 1 8 z4 x8 gV) λfY z5=>
 DB P K m0 x4 x5 x6 x7 fY b9 aV L1 L2 z5)
 (DB P K m0 x4 x5 x6 x7 x8 b9 aV L1 L2 z3))
 ((True)/\
 (True)/\
 (True)/\
 OP (bu bG undef (.bool false)) λfg=>
 aJ fg
 (OH (cH 3 1 [(.int .i64 (0))] h [(0,1,aV)]) λgV z1=>
 OH (cT 3 1 8 z1 x8 gV) λfY z2=>
 DB P K m0 x4 x5 x6 x7 fY b9 aV L1 L2 z2)
 (DB P K m0 x4 x5 x6 x7 x8 b9 aV L1 L2 h)))
 (ako P K m0 x4 x5 x6 x7 x8 L1 h)):=aB (by kernel_rfl)
theorem aFZ:ako P K m0 x4 x5 x6 x7 x8 L1 h=
 (OP (oG false x8 (.slice none 0 0)) λgI=>
 aJ gI
 (K (.tuple #[x6,x7]) h)
 (OP (aT x8) λke=>
 bT [(.int .i64 (0))] h λL2 xs hx=>
 aDw P K m0 x4 x5 x6 x8 x8 ke L1 L2 xs hx)):=aB (by kernel_rfl)
theorem aF0 (m0 x4 x5:Value) (L1:LQ) (x6:Value) (h:ae):akp P K m0 x4 x5 L1 [x6] h=
 (ay P 54 [m0,x4,x5] h λbH z1=>
 OP (eI m0) λbQ=>
 OP (aF 0 bQ) λcL=>
 OP (af false 1 z1 cL) λb9=>
 bT [(.slice none 0 0),(.int .i64 (0))] z1 λL2 xs hx=>
 akn P K m0 x4 x5 x6 bH b9 L1 L2 xs hx):=aB (by kernel_rfl)
def My:Prop:=
 OP (eI m0) λaC=>
 OP (aF 0 aC) λaP=>
 OP (af false 1 h aP) λaX=>
 (True)/\
 OH (eM 4 1 [(.bool false)] h aX aX) λaZ z1=>
 OP (eA z1 aZ) λu=>
 (True)/\
 OP (eI m0) λbA=>
 OP (aF 0 bA) λaR=>
 OP (af false 1 z1 aR) λaI=>
 (af false 1 h aR=some aI/\True)/\
 OH (eM 4 1 [(.bool false)] z1 aI aI) λaS z2=>
 OP (eA z2 aS) λ_=>
 (af false 1 z2 aP=some aX/\eA z2 aZ=some u/\True)/\
 bT [(.slice none 0 0)] z2 λL1 xs hx=>
 akp P K m0 aZ aS L1 xs hx
theorem e32:au P Og (aW [.tmp 2,.tmp 3] K) (cd [m0]) h=My P K m0 h:=by kernel_rfl
theorem f32 {K:VK} {m0:Value} {h:ae} (H:My prog K m0 h):ay prog 32 [m0] h K:=
 cC k32 (cE rfl) ((e32 prog K m0 h).mpr H)
end
noncomputable section
variable (l0 x4 x9 aE aG : Value) (L1 : LQ) (xs : List Value) (h : ae)
def ahy:=cg prog 33 [[],[],[],[9,10],[4,11],[],[],[],[],[],[],[],[],[4],[]]
@[irreducible] def Gs:=cD ahy
@[irreducible] def awx:=Gs.r.r.l.r.l.l
@[irreducible] def aaa:=Gs.r.r.r
@[irreducible] def aww:=aaa.l
theorem k33:ahy=some (29,Gs,[.tmp 2,.tmp 3]):=by kernel_rfl
def K4 (_P:Program) (K:VK):ax:=aW [.tmp 2,.tmp 3] K
def aro:ax:=aH (au P aaa (K4 P K)) (K4 P K)
def arp:ax:=bC 0 (aro P K)
def arq:ax:=aH (λf' aQ=>(([9,10]:List Nat).map f':List Value)=[x9,aE]/\L1 (([4,11]:List Nat).map f') aQ) (arp P K)
def akr:Prop:=aA (au P awx (arq P K x9 aE L1)) ([9,10]++[4,11]) ([x9,aE]++xs) h
def akq:Prop:=aA (au P aww (K4 P K)) [4] [x4] h
theorem aF2 (x9 aE:Value) (L1:LQ) (x4 aG:Value) (h:ae):akr P K x9 aE L1 [x4,aG] h=
 (OP (aj .lss aG aE) λaM=>
 aJ aM
 (OP (aD 4 x9 aG) λaC=>
 OP (af true 4 h aC) λaP=>
 OH (cF 92 [(.bool false),(.slice none 0 0),(.bool false),(.slice none 0 0)] h) λx6 z1=>
 OH (aU 4 z1 x6 aP) λ_ z2=>
 OP (af true 4 z2 x6) λaZ=>
 ay P 55 [aZ] z2 λbM z3=>
 OP (cW 0 bM) λbA=>
 OP (cW 1 bM) λaR=>
 OP (aj .neq aR (.int .i64 (0))) λaS=>
 aJ aS
 (K (.tuple #[(.slice none 0 0),aR]) z3)
 (OH (cH 53 1 [(.string ⟨#[]⟩)] z3 [(0,1,bA)]) λbH z4=>
 OH (cT 53 1 16 z4 x4 bH) λbP z5=>
 OP (aj .add aG (.int .i64 (1))) λbQ=>
 ([x9,aE]:List Value)=[x9,aE]/\L1 [bP,bQ] z5))
 (akq P K x4 h)):=aB (by kernel_rfl)
theorem aF1:akq P K x4 h=
 (K (.tuple #[x4,(.int .i64 (0))]) h):=aB (by kernel_rfl)
def Mz:Prop:=
 OP (aT l0) λaE=>
 bT [(.slice none 0 0),(.int .i64 (0))] h λL1 xs hx=>
 akr P K l0 aE L1 xs hx
theorem e33:au P Gs (aW [.tmp 2,.tmp 3] K) (cd [l0]) h=Mz P K l0 h:=by kernel_rfl
theorem f33 {K:VK} {l0:Value} {h:ae} (H:Mz prog K l0 h):ay prog 33 [l0] h K:=
 cC k33 (cE rfl) ((e33 prog K l0 h).mpr H)
end
noncomputable section
variable (m0 fZ x5 x6 x7 x8 i9 aE i11 nH i13 aY bG cI cU gp ee gv fJ fT kZ cK dB eB eP oh pH fH dV mZ mf hG kc nK gH : Value) (L1 L2 L3 : LQ) (xs : List Value) (h : ae)
def ahA:=cg prog 35 [[],[],[],[],[0,1,5,6,7,8,36],[37],[],[],[],[0,1,5,6,7,8,9,36,37,40,41,47],[0,1,5,6,7,8,9,36,37,40,41,47,51],[],[0,1,5,6,7,8,9,36,37,54,55,61],[0,1,5,6,7,8,9,36,37,54,55,61,66],[],[],[0,6,7,8],[],[0,6,7,8],[10],[],[],[],[],[0,6,7,8,81],[10,82],[],[],[],[],[0,6,7,8,11,81,82,88],[10,89],[],[],[],[0,6,7,8,10,11,12,81,82,88,89,96],[0,6,7,8,10,11,12,81,82,88,89,96,101],[0,6,7,8,10,11,12,81,82,88,89,103],[0,6,7,8,10,11,12,81,82,88,89,103,114],[0,6,7,8,10,11,12,81,82,88,89,116],[0,6,7,8,10,11,81,82,88,89,116,120],[],[0,6,7,8,10,11,81,82,88,89],[0,6,7,8,10,81,82],[0,6,7,8],[],[0,6,7,8,130],[131],[],[],[],[0,6,7,8,13,130,131,138],[0,6,7,8,130,131,138,143],[],[],[],[0,6,7],[],[],[],[],[]]
@[irreducible] def xW:=cD ahA
@[irreducible] def Gv:=xW.r.r.r.l.r.l.l
@[irreducible] def aah:=xW.r.r.r.r
@[irreducible] def aac:=Gv.r.r.l.l.r.l.r.l
@[irreducible] def Oj:=Gv.r.r.l.l.r.r
@[irreducible] def awy:=Gv.r.r.r
@[irreducible] def Ol:=aah.l
@[irreducible] def awz:=aac.r.l
@[irreducible] def aad:=Oj.l.r.l
@[irreducible] def awA:=Oj.r
@[irreducible] def aaf:=Ol.l.r.l.l
@[irreducible] def aae:=Ol.r
@[irreducible] def awB:=aad.r.l
@[irreducible] def Om:=aaf.r.l.r.r.l.l
@[irreducible] def On:=aae.l
@[irreducible] def Gt:=Om.r.r.l.l.r.r.l.l
@[irreducible] def aag:=Om.r.r.r
@[irreducible] def Gu:=On.l.r.l.l
@[irreducible] def aao:=On.r
@[irreducible] def aaj:=Gt.r.r.l.l.r.l.r.l
@[irreducible] def awC:=Gt.r.r.l.l.r.r
@[irreducible] def aai:=Gt.r.r.r
@[irreducible] def awF:=aag.l
@[irreducible] def aap:=Gu.r.r.l.l.r.l.r.l
@[irreducible] def awH:=Gu.r.r.l.l.r.r
@[irreducible] def awG:=Gu.r.r.r
@[irreducible] def awJ:=aao.l
@[irreducible] def aak:=aaj.r.l
@[irreducible] def awE:=aai.l
@[irreducible] def awI:=aap.r.l
@[irreducible] def aal:=aak.r.l
@[irreducible] def aam:=aal.r.l
@[irreducible] def aan:=aam.r.l
@[irreducible] def awD:=aan.r.l
theorem k35:ahA=some (154,xW,[.tmp 4]):=by kernel_rfl
def uv (_P:Program) (K:VK):ax:=aW [.tmp 4] K
def arz:ax:=aH (au P aah (uv P K)) (uv P K)
def arC:ax:=bC 0 (arz P K)
def K6:ax:=aH (λf' aQ=>(([0,1,5,6,7,8,36]:List Nat).map f':List Value)=[m0,fZ,x5,x6,x7,x8,aY]/\L1 (([37]:List Nat).map f') aQ) (arC P K)
def ars:ax:=aH (au P awy (K6 P K m0 fZ x5 x6 x7 x8 aY L1)) (K6 P K m0 fZ x5 x6 x7 x8 aY L1)
def E3:ax:=bC 1 (ars P K m0 fZ x5 x6 x7 x8 aY L1)
def Xb:ax:=aH (au P Oj (E3 P K m0 fZ x5 x6 x7 x8 aY L1)) (E3 P K m0 fZ x5 x6 x7 x8 aY L1)
def Xc:ax:=aH (au P awA (E3 P K m0 fZ x5 x6 x7 x8 aY L1)) (E3 P K m0 fZ x5 x6 x7 x8 aY L1)
def art:ax:=aH (au P aae (uv P K)) (uv P K)
def aru:ax:=bC 2 (art P K)
def Xd:ax:=aH (λf' aQ=>(([0,6,7,8]:List Nat).map f':List Value)=[m0,x6,x7,x8]/\L1 (([10]:List Nat).map f') aQ) (aru P K)
def arv:ax:=bC 3 (Xd P K m0 x6 x7 x8 L1)
def arw:ax:=bC 4 (arv P K m0 x6 x7 x8 L1)
def E4:ax:=aH (λf' aQ=>(([0,6,7,8,81]:List Nat).map f':List Value)=[m0,x6,x7,x8,cK]/\L2 (([10,82]:List Nat).map f') aQ) (arw P K m0 x6 x7 x8 L1)
def arx:ax:=aH (au P aag (E4 P K m0 x6 x7 x8 cK L1 L2)) (E4 P K m0 x6 x7 x8 cK L1 L2)
def ary:ax:=bC 5 (arx P K m0 x6 x7 x8 cK L1 L2)
def arA:ax:=bC 6 (ary P K m0 x6 x7 x8 cK L1 L2)
def E5:ax:=aH (λf' aQ=>(([0,6,7,8,11,81,82,88]:List Nat).map f':List Value)=[m0,x6,x7,x8,i11,cK,dB,eB]/\L3 (([10,89]:List Nat).map f') aQ) (arA P K m0 x6 x7 x8 cK L1 L2)
def arB:ax:=aH (au P aai (E5 P K m0 x6 x7 x8 i11 cK dB eB L1 L2 L3)) (E5 P K m0 x6 x7 x8 i11 cK dB eB L1 L2 L3)
def Xe:ax:=bC 7 (arB P K m0 x6 x7 x8 i11 cK dB eB L1 L2 L3)
def Ah:ax:=aH (au P awC (Xe P K m0 x6 x7 x8 i11 cK dB eB L1 L2 L3)) (Xe P K m0 x6 x7 x8 i11 cK dB eB L1 L2 L3)
def arD:ax:=aH (au P aao (uv P K)) (uv P K)
def arE:ax:=bC 8 (arD P K)
def K5:ax:=aH (λf' aQ=>(([0,6,7,8,130]:List Nat).map f':List Value)=[m0,x6,x7,x8,hG]/\L1 (([131]:List Nat).map f') aQ) (arE P K)
def arF:ax:=aH (au P awG (K5 P K m0 x6 x7 x8 hG L1)) (K5 P K m0 x6 x7 x8 hG L1)
def Xf:ax:=bC 9 (arF P K m0 x6 x7 x8 hG L1)
def Xg:ax:=aH (au P awH (Xf P K m0 x6 x7 x8 hG L1)) (Xf P K m0 x6 x7 x8 hG L1)
def akz:Prop:=aA (au P Gv (K6 P K m0 fZ x5 x6 x7 x8 aY L1)) ([0,1,5,6,7,8,36]++[37]) ([m0,fZ,x5,x6,x7,x8,aY]++xs) h
def aks:Prop:=aA (au P aac (Xb P K m0 fZ x5 x6 x7 x8 aY L1)) [0,1,5,6,7,8,9,36,37,40,41,47] [m0,fZ,x5,x6,x7,x8,i9,aY,bG,cI,cU,gp] h
def SM:Prop:=aA (au P awz (Xb P K m0 fZ x5 x6 x7 x8 aY L1)) [0,1,5,6,7,8,9,36,37,40,41,47,51] [m0,fZ,x5,x6,x7,x8,i9,aY,bG,cI,cU,gp,ee] h
def SN:Prop:=aA (au P aad (Xc P K m0 fZ x5 x6 x7 x8 aY L1)) [0,1,5,6,7,8,9,36,37,54,55,61] [m0,fZ,x5,x6,x7,x8,i9,aY,bG,gv,fJ,fT] h
def DC:Prop:=aA (au P awB (Xc P K m0 fZ x5 x6 x7 x8 aY L1)) [0,1,5,6,7,8,9,36,37,54,55,61,66] [m0,fZ,x5,x6,x7,x8,i9,aY,bG,gv,fJ,fT,kZ] h
def SO:Prop:=aA (au P Ol (uv P K)) [0,6,7,8] [m0,x6,x7,x8] h
def akt:Prop:=aA (au P aaf (Xd P K m0 x6 x7 x8 L1)) ([0,6,7,8]++[10]) ([m0,x6,x7,x8]++xs) h
def aku:Prop:=aA (au P Om (E4 P K m0 x6 x7 x8 cK L1 L2)) ([0,6,7,8,81]++[10,82]) ([m0,x6,x7,x8,cK]++xs) h
def akv:Prop:=aA (au P Gt (E5 P K m0 x6 x7 x8 i11 cK dB eB L1 L2 L3)) ([0,6,7,8,11,81,82,88]++[10,89]) ([m0,x6,x7,x8,i11,cK,dB,eB]++xs) h
def akw:Prop:=aA (au P aaj (Ah P K m0 x6 x7 x8 i11 cK dB eB L1 L2 L3)) [0,6,7,8,10,11,12,81,82,88,89,96] [m0,x6,x7,x8,aE,i11,nH,cK,dB,eB,eP,oh] h
def SP:Prop:=aA (au P aak (Ah P K m0 x6 x7 x8 i11 cK dB eB L1 L2 L3)) [0,6,7,8,10,11,12,81,82,88,89,96,101] [m0,x6,x7,x8,aE,i11,nH,cK,dB,eB,eP,oh,pH] h
def SQ:Prop:=aA (au P aal (Ah P K m0 x6 x7 x8 i11 cK dB eB L1 L2 L3)) [0,6,7,8,10,11,12,81,82,88,89,103] [m0,x6,x7,x8,aE,i11,nH,cK,dB,eB,eP,fH] h
def SR:Prop:=aA (au P aam (Ah P K m0 x6 x7 x8 i11 cK dB eB L1 L2 L3)) [0,6,7,8,10,11,12,81,82,88,89,103,114] [m0,x6,x7,x8,aE,i11,nH,cK,dB,eB,eP,fH,dV] h
def SS:Prop:=aA (au P aan (Ah P K m0 x6 x7 x8 i11 cK dB eB L1 L2 L3)) [0,6,7,8,10,11,12,81,82,88,89,116] [m0,x6,x7,x8,aE,i11,nH,cK,dB,eB,eP,mZ] h
def SU:Prop:=aA (au P awD (Ah P K m0 x6 x7 x8 i11 cK dB eB L1 L2 L3)) [0,6,7,8,10,11,81,82,88,89,116,120] [m0,x6,x7,x8,aE,i11,cK,dB,eB,eP,mZ,mf] h
def DD:Prop:=aA (au P awE (E5 P K m0 x6 x7 x8 i11 cK dB eB L1 L2 L3)) [0,6,7,8,10,11,81,82,88,89] [m0,x6,x7,x8,aE,i11,cK,dB,eB,eP] h
def akx:Prop:=aA (au P awF (E4 P K m0 x6 x7 x8 cK L1 L2)) [0,6,7,8,10,81,82] [m0,x6,x7,x8,aE,cK,dB] h
def SV:Prop:=aA (au P On (uv P K)) [0,6,7,8] [m0,x6,x7,x8] h
def aky:Prop:=aA (au P Gu (K5 P K m0 x6 x7 x8 hG L1)) ([0,6,7,8,130]++[131]) ([m0,x6,x7,x8,hG]++xs) h
def akA:Prop:=aA (au P aap (Xg P K m0 x6 x7 x8 hG L1)) [0,6,7,8,13,130,131,138] [m0,x6,x7,x8,i13,hG,kc,nK] h
def SX:Prop:=aA (au P awI (Xg P K m0 x6 x7 x8 hG L1)) [0,6,7,8,130,131,138,143] [m0,x6,x7,x8,hG,kc,nK,gH] h
def akB:Prop:=aA (au P awJ (uv P K)) [0,6,7] [m0,x6,x7] h
theorem am1:SM P K m0 fZ x5 x6 x7 x8 i9 aY bG cI cU gp ee L1 h=
 (OP (bu gp ee (.bool false)) λfI=>
 OP (aD 1 cI cU) λfg=>
 OH (aU 1 h fg fI) λ_ z1=>
 OP (aD 1 fZ i9) λfS=>
 OP (af false 1 z1 fS) λiZ=>
 OP (gE .not iZ) λgI=>
 SN P K m0 fZ x5 x6 x7 x8 i9 aY bG x7 i9 gI L1 z1):=aB (by kernel_rfl)
theorem aF3:aks P K m0 fZ x5 x6 x7 x8 i9 aY bG cI cU gp L1 h=
 (bO gp true
 (OP (aD 1 x5 i9) λiU=>
 OP (af false 1 h iU) λee=>
 SM P K m0 fZ x5 x6 x7 x8 i9 aY bG cI cU gp ee L1 h)
 (SM P K m0 fZ x5 x6 x7 x8 i9 aY bG cI cU gp undef L1 h)):=aB (by kernel_rfl)
theorem am2:DC P K m0 fZ x5 x6 x7 x8 i9 aY bG gv fJ fT kZ L1 h=
 (OP (bu fT kZ (.bool false)) λgw=>
 OP (aD 1 gv fJ) λfA=>
 OH (aU 1 h fA gw) λ_ z1=>
 OP (aD 1 fZ i9) λlh=>
 OP (af false 1 z1 lh) λiW=>
 OP (aD 1 x8 i9) λfE=>
 OH (aU 1 z1 fE iW) λ_ z2=>
 OP (aj .add bG (.int .i64 (1))) λiL=>
 ([m0,fZ,x5,x6,x7,x8,aY]:List Value)=[m0,fZ,x5,x6,x7,x8,aY]/\L1 [iL] z2):=aB (by kernel_rfl)
theorem aF4:SN P K m0 fZ x5 x6 x7 x8 i9 aY bG gv fJ fT L1 h=
 (bO fT true
 (OP (aD 1 x5 i9) λke=>
 OP (af false 1 h ke) λjy=>
 OP (gE .not jy) λkZ=>
 DC P K m0 fZ x5 x6 x7 x8 i9 aY bG gv fJ fT kZ L1 h)
 (DC P K m0 fZ x5 x6 x7 x8 i9 aY bG gv fJ fT undef L1 h)):=aB (by kernel_rfl)
theorem aGg (m0 fZ x5 x6 x7 x8 aY:Value) (L1:LQ) (bG:Value) (h:ae):akz P K m0 fZ x5 x6 x7 x8 aY L1 [bG] h=
 (OP (aj .lss bG aY) λdH=>
 aJ dH
 (OP (aD 1 fZ bG) λcP=>
 OP (af false 1 h cP) λdC=>
 OP (gE .not dC) λeT=>
 aks P K m0 fZ x5 x6 x7 x8 bG aY bG x6 bG eT L1 h)
 (SO P K m0 x6 x7 x8 h)):=aB (by kernel_rfl)
theorem am5:SU P K m0 x6 x7 x8 aE i11 cK dB eB eP mZ mf L1 L2 L3 h=
 (OP (bu mZ mf (.bool false)) λvU=>
 aJ vU
 (OP (aD 1 x8 i11) λqG=>
 OH (aU 1 h qG (.bool true)) λ_ z1=>
 DD P K m0 x6 x7 x8 (.bool true) i11 cK dB eB eP L1 L2 L3 z1)
 (DD P K m0 x6 x7 x8 aE i11 cK dB eB eP L1 L2 L3 h)):=aB (by kernel_rfl)
theorem aGb:SS P K m0 x6 x7 x8 aE i11 nH cK dB eB eP mZ L1 L2 L3 h=
 (bO mZ true
 (OP (aD 1 x8 nH) λui=>
 OP (af false 1 h ui) λmf=>
 SU P K m0 x6 x7 x8 aE i11 cK dB eB eP mZ mf L1 L2 L3 h)
 (SU P K m0 x6 x7 x8 aE i11 cK dB eB eP mZ undef L1 L2 L3 h)):=aB (by kernel_rfl)
theorem am4:SR P K m0 x6 x7 x8 aE i11 nH cK dB eB eP fH dV L1 L2 L3 h=
 (OP (bu fH dV (.bool false)) λuh=>
 SS P K m0 x6 x7 x8 aE i11 nH cK dB eB eP uh L1 L2 L3 h):=aB (by kernel_rfl)
theorem aGa:SQ P K m0 x6 x7 x8 aE i11 nH cK dB eB eP fH L1 L2 L3 h=
 (bO fH true
 (OP (eI m0) λvS=>
 OP (aF 2 vS) λEb=>
 OP (af false 1 h Eb) λpI=>
 OP (aD 1 pI i11) λjT=>
 OP (af false 1 h jT) λiT=>
 OP (aD 1 iT nH) λsO=>
 OP (af false 1 h sO) λvT=>
 OP (aj .gtr vT (.int .i64 (0))) λdV=>
 SR P K m0 x6 x7 x8 aE i11 nH cK dB eB eP fH dV L1 L2 L3 h)
 (SR P K m0 x6 x7 x8 aE i11 nH cK dB eB eP fH undef L1 L2 L3 h)):=aB (by kernel_rfl)
theorem am3:SP P K m0 x6 x7 x8 aE i11 nH cK dB eB eP oh pH L1 L2 L3 h=
 (OP (bu oh pH (.bool false)) λgG=>
 SQ P K m0 x6 x7 x8 aE i11 nH cK dB eB eP gG L1 L2 L3 h):=aB (by kernel_rfl)
theorem aF9:akw P K m0 x6 x7 x8 aE i11 nH cK dB eB eP oh L1 L2 L3 h=
 (bO oh true
 (OP (aD 1 x8 i11) λnL=>
 OP (af false 1 h nL) λpG=>
 OP (gE .not pG) λpH=>
 SP P K m0 x6 x7 x8 aE i11 nH cK dB eB eP oh pH L1 L2 L3 h)
 (SP P K m0 x6 x7 x8 aE i11 nH cK dB eB eP oh undef L1 L2 L3 h)):=aB (by kernel_rfl)
theorem aGc:DD P K m0 x6 x7 x8 aE i11 cK dB eB eP L1 L2 L3 h=
 (OP (aj .add eP (.int .i64 (1))) λzP=>
 ([m0,x6,x7,x8,i11,cK,dB,eB]:List Value)=[m0,x6,x7,x8,i11,cK,dB,eB]/\L3 [aE,zP] h):=aB (by kernel_rfl)
theorem aF8 (m0 x6 x7 x8 i11 cK dB eB:Value) (L1 L2 L3:LQ) (aE eP:Value) (h:ae):akv P K m0 x6 x7 x8 i11 cK dB eB L1 L2 L3 [aE,eP] h=
 (OP (aj .lss eP eB) λkH=>
 aJ kH
 (OP (aD 1 x6 i11) λeZ=>
 OP (af false 1 h eZ) λfv=>
 akw P K m0 x6 x7 x8 aE i11 eP cK dB eB eP fv L1 L2 L3 h)
 (akx P K m0 x6 x7 x8 aE cK dB L1 L2 h)):=aB (by kernel_rfl)
theorem aGd:akx P K m0 x6 x7 x8 aE cK dB L1 L2 h=
 (OP (aj .add dB (.int .i64 (1))) λoV=>
 ([m0,x6,x7,x8,cK]:List Value)=[m0,x6,x7,x8,cK]/\L2 [aE,oV] h):=aB (by kernel_rfl)
theorem aF7 (m0 x6 x7 x8 cK:Value) (L1 L2:LQ) (aE dB:Value) (h:ae):aku P K m0 x6 x7 x8 cK L1 L2 [aE,dB] h=
 (OP (aj .lss dB cK) λgW=>
 aJ gW
 (OP (eI m0) λjV=>
 OP (aF 0 jV) λkh=>
 OP (af false 1 h kh) λeB=>
 bT [aE,(.int .i64 (0))] h λL3 xs hx=>
 akv P K m0 x6 x7 x8 dB cK dB eB L1 L2 L3 xs hx)
 (([m0,x6,x7,x8]:List Value)=[m0,x6,x7,x8]/\L1 [aE] h)):=aB (by kernel_rfl)
theorem aF6 (m0 x6 x7 x8:Value) (L1:LQ) (aE:Value) (h:ae):akt P K m0 x6 x7 x8 L1 [aE] h=
 (aJ aE
 (OP (eI m0) λlN=>
 OP (aF 0 lN) λkf=>
 OP (af false 1 h kf) λcK=>
 bT [(.bool false),(.int .i64 (0))] h λL2 xs hx=>
 aku P K m0 x6 x7 x8 cK L1 L2 xs hx)
 (SV P K m0 x6 x7 x8 h)):=aB (by kernel_rfl)
theorem am6:SX P K m0 x6 x7 x8 hG kc nK gH L1 h=
 (OP (bu nK gH (.bool false)) λeg=>
 aJ eg
 (K (.slice none 0 0) h)
 (OP (aj .add kc (.int .i64 (1))) λEd=>
 ([m0,x6,x7,x8,hG]:List Value)=[m0,x6,x7,x8,hG]/\L1 [Ed] h)):=aB (by kernel_rfl)
theorem aGh:akA P K m0 x6 x7 x8 i13 hG kc nK L1 h=
 (bO nK true
 (OP (aD 1 x8 i13) λqJ=>
 OP (af false 1 h qJ) λmh=>
 OP (gE .not mh) λgH=>
 SX P K m0 x6 x7 x8 hG kc nK gH L1 h)
 (SX P K m0 x6 x7 x8 hG kc nK undef L1 h)):=aB (by kernel_rfl)
theorem aGf (m0 x6 x7 x8 hG:Value) (L1:LQ) (kc:Value) (h:ae):aky P K m0 x6 x7 x8 hG L1 [kc] h=
 (OP (aj .lss kc hG) λkA=>
 aJ kA
 (OP (aD 1 x6 kc) λpK=>
 OP (af false 1 h pK) λqI=>
 akA P K m0 x6 x7 x8 kc hG kc qI L1 h)
 (akB P K m0 x6 x7 h)):=aB (by kernel_rfl)
theorem aGi:akB P K m0 x6 x7 h=
 (ay P 54 [m0,x6,x7] h λBB z1=>
 ay P 58 [m0,BB] z1 λvX z2=>
 aJ vX
 (K BB z2)
 (K (.slice none 0 0) z2)):=aB (by kernel_rfl)
theorem aGe:SV P K m0 x6 x7 x8 h=
 (OP (eI m0) λqH=>
 OP (aF 0 qH) λvV=>
 OP (af false 1 h vV) λhG=>
 bT [(.int .i64 (0))] h λL1 xs hx=>
 aky P K m0 x6 x7 x8 hG L1 xs hx):=aB (by kernel_rfl)
theorem aF5:SO P K m0 x6 x7 x8 h=
 (bT [(.bool true)] h λL1 xs hx=>
 akt P K m0 x6 x7 x8 L1 xs hx):=aB (by kernel_rfl)
def MB:Prop:=
 ay P 57 [m0,fZ] h λbM z1=>
 OP (eI m0) λaR=>
 OP (aF 0 aR) λaI=>
 OP (af false 1 z1 aI) λaS=>
 (True)/\
 OH (eM 4 1 [(.bool false)] z1 aS aS) λbL z2=>
 OP (eA z2 bL) λu=>
 (True)/\
 OP (eI m0) λbm=>
 OP (aF 0 bm) λbH=>
 OP (af false 1 z2 bH) λbP=>
 (af false 1 z1 bH=some bP/\True)/\
 OH (eM 4 1 [(.bool false)] z2 bP bP) λbQ z3=>
 OP (eA z3 bQ) λKh=>
 (af false 1 z3 aI=some aS/\eA z3 bL=some u/\True)/\
 OP (eI m0) λb9=>
 OP (aF 0 b9) λaV=>
 OP (af false 1 z3 aV) λbz=>
 (af false 1 z1 aV=some bz/\af false 1 z2 aV=some bz/\True)/\
 OH (eM 4 1 [(.bool false)] z3 bz bz) λdJ z4=>
 OP (eA z4 dJ) λ_=>
 (af false 1 z4 aI=some aS/\eA z4 bL=some u/\af false 1 z4 bH=some bP/\eA z4 bQ=some Kh/\True)/\
 OP (eI m0) λcA=>
 OP (aF 0 cA) λcB=>
 OP (af false 1 z4 cB) λaY=>
 bT [(.int .i64 (0))] z4 λL1 xs hx=>
 akz P K m0 fZ bM bL bQ dJ aY L1 xs hx
theorem e35:au P xW (aW [.tmp 4] K) (cd [m0,fZ]) h=MB P K m0 fZ h:=by kernel_rfl
theorem f35 {K:VK} {m0 fZ:Value} {h:ae} (H:MB prog K m0 fZ h):ay prog 35 [m0,fZ] h K:=
 cC k35 (cE rfl) ((e35 prog K m0 fZ h).mpr H)
end
noncomputable section
variable (m0 i1 x2 x6 x7 aI aS : Value) (L1 : LQ) (xs : List Value) (h : ae)
def ahD:=cg prog 38 [[],[],[],[0,1,2,6,7,20],[21],[],[],[],[],[6,7],[]]
@[irreducible] def Gw:=cD ahD
@[irreducible] def awO:=Gw.r.r.l.r.l.l
@[irreducible] def aas:=Gw.r.r.r
@[irreducible] def awN:=aas.l
theorem k38:ahD=some (37,Gw,[.cell true 4 6]):=by kernel_rfl
def K7 (_P:Program) (K:VK):ax:=aW [.cell true 4 6] K
def arG:ax:=aH (au P aas (K7 P K)) (K7 P K)
def arH:ax:=bC 0 (arG P K)
def arI:ax:=aH (λf' aQ=>(([0,1,2,6,7,20]:List Nat).map f':List Value)=[m0,i1,x2,x6,x7,aI]/\L1 (([21]:List Nat).map f') aQ) (arH P K)
def akE:Prop:=aA (au P awO (arI P K m0 i1 x2 x6 x7 aI L1)) ([0,1,2,6,7,20]++[21]) ([m0,i1,x2,x6,x7,aI]++xs) h
def akD:Prop:=aA (au P awN (K7 P K)) [6,7] [x6,x7] h
theorem aGm (m0 i1 x2 x6 x7 aI:Value) (L1:LQ) (aS:Value) (h:ae):akE P K m0 i1 x2 x6 x7 aI L1 [aS] h=
 (OP (aj .lss aS aI) λbL=>
 aJ bL
 (OP (af true 4 h x7) λbm=>
 (True)/\
 OP (aD 4 x2 aS) λbQ=>
 OP (af true 4 h bQ) λcL=>
 (True)/\
 ay P 66 [m0,aS,i1] h λdJ z1=>
 (af true 4 z1 x7=some bm/\af true 4 z1 bQ=some cL/\True)/\
 ay P 65 [cL,dJ] z1 λbZ z2=>
 (af true 4 z2 x7=some bm/\True)/\
 ay P 36 [bm,bZ] z2 λcA z3=>
 (True)/\
 OH (aU 4 z3 x7 cA) λ_ z4=>
 (True)/\
 OP (aj .add aS (.int .i64 (1))) λcB=>
 ([m0,i1,x2,x6,x7,aI]:List Value)=[m0,i1,x2,x6,x7,aI]/\L1 [cB] z4)
 (akD P K x6 x7 h)):=aB (by kernel_rfl)
theorem aGl:akD P K x6 x7 h=
 (OP (af true 4 h x7) λaY=>
 OH (aU 4 h x6 aY) λ_ z1=>
 OP (af true 4 z1 x6) λr0=>
 K r0 z1):=aB (by kernel_rfl)
def ME:Prop:=
 OH (cF 92 [(.bool false),(.slice none 0 0),(.bool false),(.slice none 0 0)] h) λx6 z1=>
 OP (eI m0) λaE=>
 OP (aF 1 aE) λaG=>
 OP (af false 1 z1 aG) λaM=>
 OP (aD 1 aM i1) λaP=>
 OP (af false 1 z1 aP) λaX=>
 ay P 34 [aX] z1 λaZ z2=>
 OH (cF 92 [(.bool false),(.slice none 0 0),(.bool false),(.slice none 0 0)] z2) λx7 z3=>
 OH (aU 4 z3 x7 aZ) λ_ z4=>
 OP (eI m0) λbA=>
 OP (aF 0 bA) λaR=>
 OP (af false 1 z4 aR) λaI=>
 bT [(.int .i64 (0))] z4 λL1 xs hx=>
 akE P K m0 i1 x2 x6 x7 aI L1 xs hx
theorem e38:au P Gw (aW [.cell true 4 6] K) (cd [m0,i1,x2]) h=ME P K m0 i1 x2 h:=by kernel_rfl
theorem f38 {K:VK} {m0 i1 x2:Value} {h:ae} (H:ME prog K m0 i1 x2 h):ay prog 38 [m0,i1,x2] h K:=
 cC k38 (cE rfl) ((e38 prog K m0 i1 x2 h).mpr H)
end
noncomputable section
variable (l0 : Value) (h : ae)
def ahP:=cg prog 50 [[],[]]
@[irreducible] def c50:=cD ahP
theorem k50:ahP=some (6,c50,[.tmp 2]):=by kernel_rfl
def MP:Prop:=
 ay P 75 [l0,(.func (.func 76) #[] #[])] h λx4 z1=>
 OP (gE .not x4) λx5=>
 K x5 z1
theorem e50:au P c50 (aW [.tmp 2] K) (cd [l0]) h=MP P K l0 h:=by kernel_rfl
theorem f50 {K:VK} {l0:Value} {h:ae} (H:MP prog K l0 h):ay prog 50 [l0] h K:=
 cC k50 (cE rfl) ((e50 prog K l0 h).mpr H)
end
noncomputable section
variable (a0 x3 x9 aE aG : Value) (L1 : LQ) (xs : List Value) (h : ae)
def ahQ:=cg prog 51 [[],[],[],[3,9,10],[11],[],[],[],[],[],[3],[]]
@[irreducible] def GG:=cD ahQ
@[irreducible] def axk:=GG.r.r.l.r.l.l
@[irreducible] def abt:=GG.r.r.r
@[irreducible] def axj:=abt.l
theorem k51:ahQ=some (30,GG,[.tmp 2]):=by kernel_rfl
def Ld (_P:Program) (K:VK):ax:=aW [.tmp 2] K
def ar6:ax:=aH (au P abt (Ld P K)) (Ld P K)
def ar7:ax:=bC 0 (ar6 P K)
def ar8:ax:=aH (λf' aQ=>(([3,9,10]:List Nat).map f':List Value)=[x3,x9,aE]/\L1 (([11]:List Nat).map f') aQ) (ar7 P K)
def ale:Prop:=aA (au P axk (ar8 P K x3 x9 aE L1)) ([3,9,10]++[11]) ([x3,x9,aE]++xs) h
def ald:Prop:=aA (au P axj (Ld P K)) [3] [x3] h
theorem aHn (x3 x9 aE:Value) (L1:LQ) (aG:Value) (h:ae):ale P K x3 x9 aE L1 [aG] h=
 (OP (aj .lss aG aE) λaM=>
 aJ aM
 (OP (aD 1 x9 aG) λaP=>
 OP (af false 1 h aP) λaX=>
 OP (aT aX) λaR=>
 OH (eM 3 8 [(.int .i64 (0))] h aR aR) λaI z1=>
 OP (aD 1 x3 aG) λaS=>
 OH (aU 1 z1 aS aI) λ_ z2=>
 OP (aD 1 x3 aG) λbm=>
 OP (af false 1 z2 bm) λbH=>
 OH (sv z2 bH aX) λ_ z3=>
 OP (aj .add aG (.int .i64 (1))) λcL=>
 ([x3,x9,aE]:List Value)=[x3,x9,aE]/\L1 [cL] z3)
 (ald P K x3 h)):=aB (by kernel_rfl)
theorem aHm:ald P K x3 h=
 (K x3 h):=aB (by kernel_rfl)
def MS:Prop:=
 OP (aT a0) λx7=>
 OH (eM 34 24 [(.slice none 0 0)] h x7 x7) λx8 z1=>
 OP (aT a0) λaE=>
 bT [(.int .i64 (0))] z1 λL1 xs hx=>
 ale P K x8 a0 aE L1 xs hx
theorem e51:au P GG (aW [.tmp 2] K) (cd [a0]) h=MS P K a0 h:=by kernel_rfl
theorem f51 {K:VK} {a0:Value} {h:ae} (H:MS prog K a0 h):ay prog 51 [a0] h K:=
 cC k51 (cE rfl) ((e51 prog K a0 h).mpr H)
end
noncomputable section
variable (n0 l1 x6 x7 x8 aG aM aI aS bB bm bH fA dY : Value) (L1 L2 : LQ) (xs : List Value) (h : ae)
def ahR:=cg prog 52 [[],[],[],[],[0,1,6,7,20],[8,21],[],[],[],[],[0,1,6,7,20,21,23,24],[8,25],[],[],[],[],[0,1,6,7,8,20,21,23,24,25],[0,1,6,7,8,20,21],[],[],[0,1,6,7,8,20,21],[0,1,6,7,8],[],[1,6,7,68],[8,69],[],[],[],[1,6,7,8],[],[],[1,6,7,8],[11,12],[],[],[],[],[]]
@[irreducible] def GH:=cD ahR
@[irreducible] def GI:=GH.r.r.r.l.r.l.l
@[irreducible] def abz:=GH.r.r.r.r
@[irreducible] def abw:=GI.r.r.l.l.r.l.r.l.l
@[irreducible] def abv:=GI.r.r.l.l.r.r
@[irreducible] def abu:=GI.r.r.r
@[irreducible] def Ov:=abz.l
@[irreducible] def axl:=abw.r.r.r.l
@[irreducible] def axm:=abv.l
@[irreducible] def axn:=abu.l
@[irreducible] def axo:=Ov.l.r.l.l
@[irreducible] def abx:=Ov.r
@[irreducible] def aby:=abx.l
@[irreducible] def axp:=aby.r.r.l.l
theorem k52:ahR=some (99,GH,[.tmp 4,.tmp 5]):=by kernel_rfl
def xK (_P:Program) (K:VK):ax:=aW [.tmp 4,.tmp 5] K
def asf:ax:=aH (au P abz (xK P K)) (xK P K)
def asj:ax:=bC 0 (asf P K)
def E8:ax:=aH (λf' aQ=>(([0,1,6,7,20]:List Nat).map f':List Value)=[n0,l1,x6,x7,aI]/\L1 (([8,21]:List Nat).map f') aQ) (asj P K)
def ar9:ax:=aH (au P abu (E8 P K n0 l1 x6 x7 aI L1)) (E8 P K n0 l1 x6 x7 aI L1)
def Le:ax:=bC 1 (ar9 P K n0 l1 x6 x7 aI L1)
def asa:ax:=aH (au P abv (Le P K n0 l1 x6 x7 aI L1)) (Le P K n0 l1 x6 x7 aI L1)
def asb:ax:=bC 2 (asa P K n0 l1 x6 x7 aI L1)
def Xx:ax:=aH (λf' aQ=>(([0,1,6,7,20,21,23,24]:List Nat).map f':List Value)=[n0,l1,x6,x7,aI,aS,bB,bm]/\L2 (([8,25]:List Nat).map f') aQ) (asb P K n0 l1 x6 x7 aI L1)
def asc:ax:=aH (au P abx (xK P K)) (xK P K)
def asd:ax:=bC 4 (asc P K)
def ase:ax:=aH (λf' aQ=>(([1,6,7,68]:List Nat).map f':List Value)=[l1,x6,x7,fA]/\L1 (([8,69]:List Nat).map f') aQ) (asd P K)
def ash:ax:=bC 6 (xK P K)
def asi:ax:=aH (λf' aQ=>(([1,6,7,8]:List Nat).map f':List Value)=[l1,x6,x7,x8]/\L1 (([11,12]:List Nat).map f') aQ) (ash P K)
def ali:Prop:=aA (au P GI (E8 P K n0 l1 x6 x7 aI L1)) ([0,1,6,7,20]++[8,21]) ([n0,l1,x6,x7,aI]++xs) h
def Tz:Prop:=aA (au P abw (Xx P K n0 l1 x6 x7 aI aS bB bm L1 L2)) ([0,1,6,7,20,21,23,24]++[8,25]) ([n0,l1,x6,x7,aI,aS,bB,bm]++xs) h
def TA:Prop:=aA (au P axl (Xx P K n0 l1 x6 x7 aI aS bB bm L1 L2)) [0,1,6,7,8,20,21,23,24,25] [n0,l1,x6,x7,x8,aI,aS,bB,bm,bH] h
def TC:Prop:=aA (au P axm (Le P K n0 l1 x6 x7 aI L1)) [0,1,6,7,8,20,21] [n0,l1,x6,x7,x8,aI,aS] h
def alf:Prop:=aA (au P axn (E8 P K n0 l1 x6 x7 aI L1)) [0,1,6,7,8,20,21] [n0,l1,x6,x7,x8,aI,aS] h
def TD:Prop:=aA (au P Ov (xK P K)) [0,1,6,7,8] [n0,l1,x6,x7,x8] h
def alg:Prop:=aA (au P axo (ase P K l1 x6 x7 fA L1)) ([1,6,7,68]++[8,69]) ([l1,x6,x7,fA]++xs) h
def TE:Prop:=aA (au P aby (xK P K)) [1,6,7,8] [l1,x6,x7,x8] h
def alh:Prop:=aA (au P axp (asi P K l1 x6 x7 x8 L1)) ([1,6,7,8]++[11,12]) ([l1,x6,x7,x8]++xs) h
theorem anb:TA P K n0 l1 x6 x7 x8 aI aS bB bm bH L1 L2 h=
 (OP (aj .add bH (.int .i64 (1))) λhI=>
 ([n0,l1,x6,x7,aI,aS,bB,bm]:List Value)=[n0,l1,x6,x7,aI,aS,bB,bm]/\L2 [x8,hI] h):=aB (by kernel_rfl)
theorem aHo (n0 l1 x6 x7 aI aS bB bm:Value) (L1 L2:LQ) (x8 bH:Value) (h:ae):Tz P K n0 l1 x6 x7 aI aS bB bm L1 L2 [x8,bH] h=
 (OP (aj .lss bH bm) λbP=>
 aJ bP
 (OP (aD 5 bB bH) λcL=>
 OP (af true 5 h cL) λb9=>
 OH (cF 119 [(.int .i64 (0)),(.int .i64 (0)),(.int .i64 (0)),(.int .i64 (0)),(.pointer none)] h) λfK z1=>
 OH (aU 5 z1 fK b9) λ_ z2=>
 OP (aF 0 fK) λbz=>
 OP (af false 1 z2 bz) λdJ=>
 (True)/\
 OP (aD 1 x6 dJ) λbZ=>
 OP (af false 1 z2 bZ) λcA=>
 (True)/\
 OP (aF 2 fK) λcB=>
 OP (af false 1 z2 cB) λaY=>
 (True)/\
 OP (aj .add cA aY) λbG=>
 OP (aF 1 fK) λdW=>
 OP (af false 1 z2 dW) λcI=>
 (True)/\
 OP (aD 1 x6 cI) λcU=>
 OP (af false 1 z2 cU) λer=>
 (True)/\
 OP (aj .lss bG er) λcO=>
 aJ cO
 (OP (aF 1 fK) λdC=>
 OP (af false 1 z2 dC) λeT=>
 (True)/\
 OP (aF 1 fK) λfD=>
 OP (af false 1 z2 fD) λfX=>
 (True)/\
 OP (aF 0 fK) λee=>
 OP (af false 1 z2 ee) λfI=>
 (True)/\
 OP (aD 1 x6 fI) λfg=>
 OP (af false 1 z2 fg) λgv=>
 (True)/\
 OP (aF 2 fK) λfJ=>
 OP (af false 1 z2 fJ) λgV=>
 (True)/\
 OP (aj .add gv gV) λfY=>
 OP (aF 1 fK) λiZ=>
 OP (af false 1 z2 iZ) λgI=>
 (True)/\
 OP (aD 1 x6 eT) λfT=>
 OH (aU 1 z2 fT fY) λ_ z3=>
 (af false 1 z3 fD=some fX/\af false 1 z3 iZ=some gI/\True)/\
 OP (aD 1 x7 fX) λiV=>
 OH (aU 1 z3 iV bH) λ_ z4=>
 (af false 1 z4 iZ=some gI/\True)/\
 TA P K n0 l1 x6 x7 gI aI aS bB bm bH L1 L2 z4)
 (TA P K n0 l1 x6 x7 x8 aI aS bB bm bH L1 L2 z2))
 (TC P K n0 l1 x6 x7 x8 aI aS L1 h)):=aB (by kernel_rfl)
theorem aHp:TC P K n0 l1 x6 x7 x8 aI aS L1 h=
 (OP (aj .lss x8 (.int .i64 (0))) λjy=>
 aJ jy
 (K (.tuple #[x6,(.slice none 0 0)]) h)
 (alf P K n0 l1 x6 x7 x8 aI aS L1 h)):=aB (by kernel_rfl)
theorem aHq:alf P K n0 l1 x6 x7 x8 aI aS L1 h=
 (OP (aj .add aS (.int .i64 (1))) λgw=>
 ([n0,l1,x6,x7,aI]:List Value)=[n0,l1,x6,x7,aI]/\L1 [x8,gw] h):=aB (by kernel_rfl)
theorem aHv (n0 l1 x6 x7 aI:Value) (L1:LQ) (x8 aS:Value) (h:ae):ali P K n0 l1 x6 x7 aI L1 [x8,aS] h=
 (OP (aj .lss aS aI) λbL=>
 aJ bL
 (OP (aT l1) λbm=>
 bT [(.int .i64 (-1)),(.int .i64 (0))] h λL2 xs hx=>
 Tz P K n0 l1 x6 x7 aI aS l1 bm L1 L2 xs hx)
 (TD P K n0 l1 x6 x7 x8 h)):=aB (by kernel_rfl)
theorem aHs (l1 x6 x7 fA:Value) (L1:LQ) (x8 dY:Value) (h:ae):alg P K l1 x6 x7 fA L1 [x8,dY] h=
 (OP (aj .lss dY fA) λdj=>
 aJ dj
 (OP (aD 1 x7 x8) λiW=>
 OP (af false 1 h iW) λfE=>
 OP (aD 5 l1 fE) λiL=>
 OP (aF 0 iL) λkO=>
 OP (af false 1 h kO) λhT=>
 OP (aj .add dY (.int .i64 (1))) λlN=>
 ([l1,x6,x7,fA]:List Value)=[l1,x6,x7,fA]/\L1 [hT,lN] h)
 (TE P K l1 x6 x7 x8 h)):=aB (by kernel_rfl)
theorem aHu (l1 x6 x7 x8:Value) (L1:LQ) (aG aM:Value) (h:ae):alh P K l1 x6 x7 x8 L1 [aG,aM] h=
 (OP (aD 1 x7 aM) λgJ=>
 OP (af false 1 h gJ) λjU=>
 OP (aD 5 l1 jU) λjV=>
 OP (af true 5 h jV) λkh=>
 OH (cF 119 [(.int .i64 (0)),(.int .i64 (0)),(.int .i64 (0)),(.int .i64 (0)),(.pointer none)] h) λNC z1=>
 OH (aU 5 z1 NC kh) λ_ z2=>
 OP (af true 5 z2 NC) λeP=>
 OH (cH 119 1 [(.int .i64 (0)),(.int .i64 (0)),(.int .i64 (0)),(.int .i64 (0)),(.pointer none)] z2 [(0,5,eP)]) λkH z3=>
 OH (cT 119 5 40 z3 aG kH) λjq z4=>
 OP (aF 0 NC) λlO=>
 OP (af false 1 z4 lO) λeD=>
 OP (aj .eql eD x8) λoh=>
 aJ oh
 (K (.tuple #[x6,jq]) z4)
 (([l1,x6,x7,x8]:List Value)=[l1,x6,x7,x8]/\L1 [jq,eD] z4)):=aB (by kernel_rfl)
theorem aHt:TE P K l1 x6 x7 x8 h=
 (bT [(.slice none 0 0),x8] h λL1 xs hx=>
 alh P K l1 x6 x7 x8 L1 xs hx):=aB (by kernel_rfl)
theorem aHr:TD P K n0 l1 x6 x7 x8 h=
 (bT [x8,(.int .i64 (0))] h λL1 xs hx=>
 alg P K l1 x6 x7 n0 L1 xs hx):=aB (by kernel_rfl)
def MT:Prop:=
 OH (eM 3 8 [(.int .i64 (0))] h n0 n0) λaX z1=>
 OP (eA z1 aX) λu=>
 (True)/\
 OH (cH 3 1 [(.int .i64 (0))] z1 [(0,1,(.int .i64 (-1)))]) λaZ z2=>
 OP (eA z2 aZ) λ_=>
 (eA z2 aX=some u/\True)/\
 ay P 77 [aZ,n0] z2 λbA z3=>
 (eA z3 aX=some u/\True)/\
 OP (aj .add n0 (.int .i64 (1))) λaI=>
 bT [(.int .i64 (-1)),(.int .i64 (0))] z3 λL1 xs hx=>
 ali P K n0 l1 aX bA aI L1 xs hx
theorem HA:au P GH (aW [.tmp 4,.tmp 5] K) (cd [n0,l1]) h=MT P K n0 l1 h:=by kernel_rfl
theorem f52 {K:VK} {n0 l1:Value} {h:ae} (H:MT prog K n0 l1 h):ay prog 52 [n0,l1] h K:=
 cC k52 (cE rfl) ((HA prog K n0 l1 h).mpr H)
end
noncomputable section
variable (x0 x1 x5 i6 j7 aG aM aZ bM : Value) (L1 L2 : LQ) (xs : List Value) (h : ae)
def ahS:=cg prog 53 [[],[],[],[0,1,11],[5,12],[],[],[],[],[0,1,6,11,12,16],[5,17],[],[],[],[],[],[0,1,5,6,7,11,12,16,17],[],[],[0,1,5,6,11,12,16,17],[0,1,5,11,12],[5],[]]
@[irreducible] def GJ:=cD ahS
@[irreducible] def Ox:=GJ.r.r.l.r.l.l
@[irreducible] def abB:=GJ.r.r.r
@[irreducible] def Ow:=Ox.r.r.l.l.r.r.l.l
@[irreducible] def abC:=Ox.r.r.r
@[irreducible] def axt:=abB.l
@[irreducible] def axq:=Ow.r.r.l.l.r.r.l
@[irreducible] def abA:=Ow.r.r.r
@[irreducible] def axs:=abC.l
@[irreducible] def axr:=abA.l
theorem k53:ahS=some (78,GJ,[.tmp 4]):=by kernel_rfl
def Lf (_P:Program) (K:VK):ax:=aW [.tmp 4] K
def asp:ax:=aH (au P abB (Lf P K)) (Lf P K)
def asq:ax:=bC 0 (asp P K)
def Fa:ax:=aH (λf' aQ=>(([0,1,11]:List Nat).map f':List Value)=[x0,x1,aG]/\L1 (([5,12]:List Nat).map f') aQ) (asq P K)
def asr:ax:=aH (au P abC (Fa P K x0 x1 aG L1)) (Fa P K x0 x1 aG L1)
def asl:ax:=bC 1 (asr P K x0 x1 aG L1)
def asm:ax:=bC 2 (asl P K x0 x1 aG L1)
def E9:ax:=aH (λf' aQ=>(([0,1,6,11,12,16]:List Nat).map f':List Value)=[x0,x1,i6,aG,aM,aZ]/\L2 (([5,17]:List Nat).map f') aQ) (asm P K x0 x1 aG L1)
def asn:ax:=aH (au P abA (E9 P K x0 x1 i6 aG aM aZ L1 L2)) (E9 P K x0 x1 i6 aG aM aZ L1 L2)
def aso:ax:=bC 3 (asn P K x0 x1 i6 aG aM aZ L1 L2)
def aln:Prop:=aA (au P Ox (Fa P K x0 x1 aG L1)) ([0,1,11]++[5,12]) ([x0,x1,aG]++xs) h
def alj:Prop:=aA (au P Ow (E9 P K x0 x1 i6 aG aM aZ L1 L2)) ([0,1,6,11,12,16]++[5,17]) ([x0,x1,i6,aG,aM,aZ]++xs) h
def Jt:Prop:=aA (au P axq (aso P K x0 x1 i6 aG aM aZ L1 L2)) [0,1,5,6,7,11,12,16,17] [x0,x1,x5,i6,j7,aG,aM,aZ,bM] h
def Ju:Prop:=aA (au P axr (E9 P K x0 x1 i6 aG aM aZ L1 L2)) [0,1,5,6,11,12,16,17] [x0,x1,x5,i6,aG,aM,aZ,bM] h
def alk:Prop:=aA (au P axs (Fa P K x0 x1 aG L1)) [0,1,5,11,12] [x0,x1,x5,aG,aM] h
def alm:Prop:=aA (au P axt (Lf P K)) [5] [x5] h
theorem aHx:Jt P K x0 x1 x5 i6 j7 aG aM aZ bM L1 L2 h=
 (OP (aD 1 x1 i6) λfY=>
 OP (af false 1 h fY) λfS=>
 OP (aD 1 fS j7) λgI=>
 OP (eI gI) λiV=>
 OP (af false 1 h iV) λhI=>
 OP (aj .gtr hI (.int .i64 (0))) λke=>
 aJ ke
 (OP (eI gI) λdY=>
 OP (af false 1 h dY) λdj=>
 OP (eG [(.int .i64 (0)),(.int .i64 (0)),(.int .i64 (0)),(.int .i64 (0)),(.pointer none)] [(0,1,j7),(1,1,i6),(2,1,(.int .i64 (-1))),(3,1,dj),(4,1,gI)]) λog=>
 OH (cH 119 1 [(.int .i64 (0)),(.int .i64 (0)),(.int .i64 (0)),(.int .i64 (0)),(.pointer none)] h [(0,5,og)]) λlh z1=>
 OH (cT 119 5 40 z1 x5 lh) λiW z2=>
 Ju P K x0 x1 iW i6 aG aM aZ bM L1 L2 z2)
 (Ju P K x0 x1 x5 i6 aG aM aZ bM L1 L2 h)):=aB (by kernel_rfl)
theorem aHy:Ju P K x0 x1 x5 i6 aG aM aZ bM L1 L2 h=
 (OP (aj .add bM (.int .i64 (1))) λfE=>
 ([x0,x1,i6,aG,aM,aZ]:List Value)=[x0,x1,i6,aG,aM,aZ]/\L2 [x5,fE] h):=aB (by kernel_rfl)
theorem aHw (x0 x1 i6 aG aM aZ:Value) (L1 L2:LQ) (x5 bM:Value) (h:ae):alj P K x0 x1 i6 aG aM aZ L1 L2 [x5,bM] h=
 (OP (aj .lss bM aZ) λbA=>
 aJ bA
 (OP (aD 1 x1 i6) λbL=>
 OP (af false 1 h bL) λbB=>
 OP (aD 1 bB bM) λbH=>
 OP (eI bH) λbQ=>
 OP (af false 1 h bQ) λcL=>
 (True)/\
 OP (aD 1 x0 i6) λbz=>
 OP (af false 1 h bz) λdJ=>
 (True)/\
 OP (aD 1 dJ bM) λcA=>
 OP (af false 1 h cA) λcB=>
 (True)/\
 OP (aj .lss cL cB) λaY=>
 aJ aY
 (OP (aD 1 x0 i6) λer=>
 OP (af false 1 h er) λcO=>
 (True)/\
 OP (aD 1 cO bM) λdC=>
 OP (af false 1 h dC) λeT=>
 (True)/\
 OP (eI bH) λfD=>
 OP (af false 1 h fD) λfX=>
 (True)/\
 OP (aj .sub eT fX) λiU=>
 OP (eG [(.int .i64 (0)),(.int .i64 (0)),(.int .i64 (0)),(.int .i64 (0)),(.pointer none)] [(0,1,i6),(1,1,bM),(2,1,(.int .i64 (1))),(3,1,iU),(4,1,bH)]) λfI=>
 OH (cH 119 1 [(.int .i64 (0)),(.int .i64 (0)),(.int .i64 (0)),(.int .i64 (0)),(.pointer none)] h [(0,5,fI)]) λfg z1=>
 (True)/\
 OH (cT 119 5 40 z1 x5 fg) λgv z2=>
 (True)/\
 Jt P K x0 x1 gv i6 bM aG aM aZ bM L1 L2 z2)
 (Jt P K x0 x1 x5 i6 bM aG aM aZ bM L1 L2 h))
 (alk P K x0 x1 x5 aG aM L1 h)):=aB (by kernel_rfl)
theorem aHz:alk P K x0 x1 x5 aG aM L1 h=
 (OP (aj .add aM (.int .i64 (1))) λiL=>
 ([x0,x1,aG]:List Value)=[x0,x1,aG]/\L1 [x5,iL] h):=aB (by kernel_rfl)
theorem aHB (x0 x1 aG:Value) (L1:LQ) (x5 aM:Value) (h:ae):aln P K x0 x1 aG L1 [x5,aM] h=
 (OP (aj .lss aM aG) λaC=>
 aJ aC
 (OP (aT x1) λaZ=>
 bT [x5,(.int .i64 (0))] h λL2 xs hx=>
 alj P K x0 x1 aM aG aM aZ L1 L2 xs hx)
 (alm P K x5 h)):=aB (by kernel_rfl)
theorem aHA:alm P K x5 h=
 (K x5 h):=aB (by kernel_rfl)
def MU:Prop:=
 OP (aT x1) λaG=>
 bT [(.slice none 0 0),(.int .i64 (0))] h λL1 xs hx=>
 aln P K x0 x1 aG L1 xs hx
theorem e53:au P GJ (aW [.tmp 4] K) (cd [x0,x1]) h=MU P K x0 x1 h:=by kernel_rfl
theorem f53 {K:VK} {x0 x1:Value} {h:ae} (H:MU prog K x0 x1 h):ay prog 53 [x0,x1] h K:=
 cC k53 (cE rfl) ((e53 prog K x0 x1 h).mpr H)
end
noncomputable section
variable (m0 x1 x5 x7 i8 j9 aZ bM aY bG cO cP fS hI gw fA dj fE : Value) (L1 L2 L3 : LQ) (xs : List Value) (h : ae)
def ahW:=cg prog 57 [[],[],[],[0,1,5,16],[17],[],[],[],[],[0,1,5],[],[0,1,5],[7],[],[],[],[],[0,1,5,36],[7,37],[],[],[],[],[0,1,5,8,36,37,43],[7,44],[],[],[],[0,1,5,7,8,9,36,37,43,44,58],[0,1,5,7,8,9,36,37,43,44,58,63],[0,1,5,7,8,9,36,37,43,44,58,63,67],[0,1,5,7,8,9,36,37,43,44,58,68],[0,1,5,7,8,9,36,37,43,44,70],[0,1,5,7,8,9,36,37,43,44,70,75],[],[0,1,5,7,8,36,37,43,44],[0,1,5,7,36,37],[5],[]]
@[irreducible] def GM:=cD ahW
@[irreducible] def axH:=GM.r.r.l.r.l.l
@[irreducible] def abM:=GM.r.r.r
@[irreducible] def OC:=abM.l
@[irreducible] def abK:=OC.l.r.l.l
@[irreducible] def abJ:=OC.r
@[irreducible] def OD:=abK.r.l.r.r.l.l
@[irreducible] def axG:=abJ.l
@[irreducible] def GN:=OD.r.r.l.l.r.r.l.l
@[irreducible] def abL:=OD.r.r.r
@[irreducible] def abO:=GN.r.r.l.l.r.l.r.l
@[irreducible] def axC:=GN.r.r.l.l.r.r
@[irreducible] def abN:=GN.r.r.r
@[irreducible] def axF:=abL.l
@[irreducible] def abP:=abO.r.l
@[irreducible] def axE:=abN.l
@[irreducible] def abQ:=abP.r.l
@[irreducible] def abR:=abQ.r.l
@[irreducible] def abS:=abR.r.l
@[irreducible] def axD:=abS.r.l
theorem k57:ahW=some (83,GM,[.tmp 4]):=by kernel_rfl
def Al (_P:Program) (K:VK):ax:=aW [.tmp 4] K
def asM:ax:=aH (au P abM (Al P K)) (Al P K)
def asP:ax:=bC 0 (asM P K)
def asQ:ax:=aH (λf' aQ=>(([0,1,5,16]:List Nat).map f':List Value)=[m0,x1,x5,aZ]/\L1 (([17]:List Nat).map f') aQ) (asP P K)
def asG:ax:=aH (au P abJ (Al P K)) (Al P K)
def asH:ax:=bC 2 (asG P K)
def Xz:ax:=aH (λf' aQ=>(([0,1,5]:List Nat).map f':List Value)=[m0,x1,x5]/\L1 (([7]:List Nat).map f') aQ) (asH P K)
def asI:ax:=bC 3 (Xz P K m0 x1 x5 L1)
def asJ:ax:=bC 4 (asI P K m0 x1 x5 L1)
def Fc:ax:=aH (λf' aQ=>(([0,1,5,36]:List Nat).map f':List Value)=[m0,x1,x5,aY]/\L2 (([7,37]:List Nat).map f') aQ) (asJ P K m0 x1 x5 L1)
def asK:ax:=aH (au P abL (Fc P K m0 x1 x5 aY L1 L2)) (Fc P K m0 x1 x5 aY L1 L2)
def asL:ax:=bC 5 (asK P K m0 x1 x5 aY L1 L2)
def asN:ax:=bC 6 (asL P K m0 x1 x5 aY L1 L2)
def Fe:ax:=aH (λf' aQ=>(([0,1,5,8,36,37,43]:List Nat).map f':List Value)=[m0,x1,x5,i8,aY,bG,cO]/\L3 (([7,44]:List Nat).map f') aQ) (asN P K m0 x1 x5 aY L1 L2)
def asO:ax:=aH (au P abN (Fe P K m0 x1 x5 i8 aY bG cO L1 L2 L3)) (Fe P K m0 x1 x5 i8 aY bG cO L1 L2 L3)
def XA:ax:=bC 7 (asO P K m0 x1 x5 i8 aY bG cO L1 L2 L3)
def Am:ax:=aH (au P axC (XA P K m0 x1 x5 i8 aY bG cO L1 L2 L3)) (XA P K m0 x1 x5 i8 aY bG cO L1 L2 L3)
def alA:Prop:=aA (au P axH (asQ P K m0 x1 x5 aZ L1)) ([0,1,5,16]++[17]) ([m0,x1,x5,aZ]++xs) h
def als:Prop:=aA (au P OC (Al P K)) [0,1,5] [m0,x1,x5] h
def alu:Prop:=aA (au P abK (Xz P K m0 x1 x5 L1)) ([0,1,5]++[7]) ([m0,x1,x5]++xs) h
def alv:Prop:=aA (au P OD (Fc P K m0 x1 x5 aY L1 L2)) ([0,1,5,36]++[7,37]) ([m0,x1,x5,aY]++xs) h
def alw:Prop:=aA (au P GN (Fe P K m0 x1 x5 i8 aY bG cO L1 L2 L3)) ([0,1,5,8,36,37,43]++[7,44]) ([m0,x1,x5,i8,aY,bG,cO]++xs) h
def alx:Prop:=aA (au P abO (Am P K m0 x1 x5 i8 aY bG cO L1 L2 L3)) [0,1,5,7,8,9,36,37,43,44,58] [m0,x1,x5,x7,i8,j9,aY,bG,cO,cP,fS] h
def TM:Prop:=aA (au P abP (Am P K m0 x1 x5 i8 aY bG cO L1 L2 L3)) [0,1,5,7,8,9,36,37,43,44,58,63] [m0,x1,x5,x7,i8,j9,aY,bG,cO,cP,fS,hI] h
def TN:Prop:=aA (au P abQ (Am P K m0 x1 x5 i8 aY bG cO L1 L2 L3)) [0,1,5,7,8,9,36,37,43,44,58,63,67] [m0,x1,x5,x7,i8,j9,aY,bG,cO,cP,fS,hI,gw] h
def TO:Prop:=aA (au P abR (Am P K m0 x1 x5 i8 aY bG cO L1 L2 L3)) [0,1,5,7,8,9,36,37,43,44,58,68] [m0,x1,x5,x7,i8,j9,aY,bG,cO,cP,fS,fA] h
def TP:Prop:=aA (au P abS (Am P K m0 x1 x5 i8 aY bG cO L1 L2 L3)) [0,1,5,7,8,9,36,37,43,44,70] [m0,x1,x5,x7,i8,j9,aY,bG,cO,cP,dj] h
def TQ:Prop:=aA (au P axD (Am P K m0 x1 x5 i8 aY bG cO L1 L2 L3)) [0,1,5,7,8,9,36,37,43,44,70,75] [m0,x1,x5,x7,i8,j9,aY,bG,cO,cP,dj,fE] h
def Jx:Prop:=aA (au P axE (Fe P K m0 x1 x5 i8 aY bG cO L1 L2 L3)) [0,1,5,7,8,36,37,43,44] [m0,x1,x5,x7,i8,aY,bG,cO,cP] h
def aly:Prop:=aA (au P axF (Fc P K m0 x1 x5 aY L1 L2)) [0,1,5,7,36,37] [m0,x1,x5,x7,aY,bG] h
def alz:Prop:=aA (au P axG (Al P K)) [5] [x5] h
theorem aHX (m0 x1 x5 aZ:Value) (L1:LQ) (bM:Value) (h:ae):alA P K m0 x1 x5 aZ L1 [bM] h=
 (OP (aj .lss bM aZ) λbA=>
 aJ bA
 (OP (eI m0) λbB=>
 OP (aF 1 bB) λbm=>
 OP (af false 1 h bm) λbH=>
 OP (aD 1 bH bM) λbQ=>
 OP (af false 1 h bQ) λcL=>
 OP (aj .gtr cL (.int .i64 (0))) λb9=>
 OP (aD 1 x5 bM) λaV=>
 OH (aU 1 h aV b9) λ_ z1=>
 OP (aj .add bM (.int .i64 (1))) λbz=>
 ([m0,x1,x5,aZ]:List Value)=[m0,x1,x5,aZ]/\L1 [bz] z1)
 (als P K m0 x1 x5 h)):=aB (by kernel_rfl)
theorem ane:TQ P K m0 x1 x5 x7 i8 j9 aY bG cO cP dj fE L1 L2 L3 h=
 (OP (bu dj fE (.bool false)) λiL=>
 aJ iL
 (OP (aD 1 x5 j9) λlN=>
 OH (aU 1 h lN (.bool true)) λ_ z1=>
 Jx P K m0 x1 x5 (.bool true) i8 aY bG cO cP L1 L2 L3 z1)
 (Jx P K m0 x1 x5 x7 i8 aY bG cO cP L1 L2 L3 h)):=aB (by kernel_rfl)
theorem aHT:TP P K m0 x1 x5 x7 i8 j9 aY bG cO cP dj L1 L2 L3 h=
 (bO dj true
 (OP (aD 1 x5 j9) λlh=>
 OP (af false 1 h lh) λiW=>
 OP (gE .not iW) λfE=>
 TQ P K m0 x1 x5 x7 i8 j9 aY bG cO cP dj fE L1 L2 L3 h)
 (TQ P K m0 x1 x5 x7 i8 j9 aY bG cO cP dj undef L1 L2 L3 h)):=aB (by kernel_rfl)
theorem Uy:TO P K m0 x1 x5 x7 i8 j9 aY bG cO cP fS fA L1 L2 L3 h=
 (OP (bu fS fA (.bool false)) λdY=>
 TP P K m0 x1 x5 x7 i8 j9 aY bG cO cP dY L1 L2 L3 h):=aB (by kernel_rfl)
theorem Ux:TN P K m0 x1 x5 x7 i8 j9 aY bG cO cP fS hI gw L1 L2 L3 h=
 (bO fS true
 (OP (bu hI (.bool true) gw) λfA=>
 TO P K m0 x1 x5 x7 i8 j9 aY bG cO cP fS fA L1 L2 L3 h)
 (TO P K m0 x1 x5 x7 i8 j9 aY bG cO cP fS undef L1 L2 L3 h)):=aB (by kernel_rfl)
theorem anc:TM P K m0 x1 x5 x7 i8 j9 aY bG cO cP fS hI L1 L2 L3 h=
 (bO hI false
 (OP (aD 1 x5 i8) λkZ=>
 OP (af false 1 h kZ) λgw=>
 TN P K m0 x1 x5 x7 i8 j9 aY bG cO cP fS hI gw L1 L2 L3 h)
 (TN P K m0 x1 x5 x7 i8 j9 aY bG cO cP fS hI undef L1 L2 L3 h)):=aB (by kernel_rfl)
theorem aHS:alx P K m0 x1 x5 x7 i8 j9 aY bG cO cP fS L1 L2 L3 h=
 (bO fS true
 (OP (aD 1 x1 i8) λfT=>
 OP (af false 1 h fT) λiV=>
 TM P K m0 x1 x5 x7 i8 j9 aY bG cO cP fS iV L1 L2 L3 h)
 (TM P K m0 x1 x5 x7 i8 j9 aY bG cO cP fS undef L1 L2 L3 h)):=aB (by kernel_rfl)
theorem aHU:Jx P K m0 x1 x5 x7 i8 aY bG cO cP L1 L2 L3 h=
 (OP (aj .add cP (.int .i64 (1))) λkf=>
 ([m0,x1,x5,i8,aY,bG,cO]:List Value)=[m0,x1,x5,i8,aY,bG,cO]/\L3 [x7,kf] h):=aB (by kernel_rfl)
theorem aHR (m0 x1 x5 i8 aY bG cO:Value) (L1 L2 L3:LQ) (x7 cP:Value) (h:ae):alw P K m0 x1 x5 i8 aY bG cO L1 L2 L3 [x7,cP] h=
 (OP (aj .lss cP cO) λdC=>
 aJ dC
 (OP (eI m0) λfD=>
 OP (aF 2 fD) λfX=>
 OP (af false 1 h fX) λiU=>
 OP (aD 1 iU i8) λfI=>
 OP (af false 1 h fI) λfg=>
 OP (aD 1 fg cP) λfJ=>
 OP (af false 1 h fJ) λgV=>
 OP (aj .gtr gV (.int .i64 (0))) λfY=>
 alx P K m0 x1 x5 x7 i8 cP aY bG cO cP fY L1 L2 L3 h)
 (aly P K m0 x1 x5 x7 aY bG L1 L2 h)):=aB (by kernel_rfl)
theorem aHV:aly P K m0 x1 x5 x7 aY bG L1 L2 h=
 (OP (aj .add bG (.int .i64 (1))) λcK=>
 ([m0,x1,x5,aY]:List Value)=[m0,x1,x5,aY]/\L2 [x7,cK] h):=aB (by kernel_rfl)
theorem aHQ (m0 x1 x5 aY:Value) (L1 L2:LQ) (x7 bG:Value) (h:ae):alv P K m0 x1 x5 aY L1 L2 [x7,bG] h=
 (OP (aj .lss bG aY) λdH=>
 aJ dH
 (OP (eI m0) λcU=>
 OP (aF 0 cU) λer=>
 OP (af false 1 h er) λcO=>
 bT [x7,(.int .i64 (0))] h λL3 xs hx=>
 alw P K m0 x1 x5 bG aY bG cO L1 L2 L3 xs hx)
 (([m0,x1,x5]:List Value)=[m0,x1,x5]/\L1 [x7] h)):=aB (by kernel_rfl)
theorem aHP (m0 x1 x5:Value) (L1:LQ) (x7:Value) (h:ae):alu P K m0 x1 x5 L1 [x7] h=
 (aJ x7
 (OP (eI m0) λcA=>
 OP (aF 0 cA) λcB=>
 OP (af false 1 h cB) λaY=>
 bT [(.bool false),(.int .i64 (0))] h λL2 xs hx=>
 alv P K m0 x1 x5 aY L1 L2 xs hx)
 (alz P K x5 h)):=aB (by kernel_rfl)
theorem aHW:alz P K x5 h=
 (K x5 h):=aB (by kernel_rfl)
theorem aHO:als P K m0 x1 x5 h=
 (bT [(.bool true)] h λL1 xs hx=>
 alu P K m0 x1 x5 L1 xs hx):=aB (by kernel_rfl)
def MY:Prop:=
 OP (eI m0) λaG=>
 OP (aF 0 aG) λaM=>
 OP (af false 1 h aM) λaC=>
 OH (eM 4 1 [(.bool false)] h aC aC) λaP z1=>
 OP (aT aP) λaZ=>
 bT [(.int .i64 (0))] z1 λL1 xs hx=>
 alA P K m0 x1 aP aZ L1 xs hx
theorem e57:au P GM (aW [.tmp 4] K) (cd [m0,x1]) h=MY P K m0 x1 h:=by kernel_rfl
theorem f57 {K:VK} {m0 x1:Value} {h:ae} (H:MY prog K m0 x1 h):ay prog 57 [m0,x1] h K:=
 cC k57 (cE rfl) ((e57 prog K m0 x1 h).mpr H)
end
noncomputable section
variable (m0 gu x6 x7 x9 aE aG aY cI : Value) (L1 : LQ) (xs : List Value) (h : ae)
def ahX:=cg prog 58 [[],[],[0,1,9,10],[11],[],[],[],[],[],[0,1,6,7,9,10,11],[0,1,6,7,9,10,11,36],[0,1,9,10,11,36,40],[],[],[0,1,9,10,11],[],[]]
@[irreducible] def GO:=cD ahX
@[irreducible] def OF:=GO.r.l.r.l.l
@[irreducible] def axK:=GO.r.r
@[irreducible] def OE:=OF.r.r.l.l.r.r.r.l
@[irreducible] def abU:=OF.r.r.r
@[irreducible] def abT:=OE.l.r.l
@[irreducible] def axI:=OE.r
@[irreducible] def axL:=abU.l
@[irreducible] def axJ:=abT.r.l
theorem k58:ahX=some (43,GO,[.tmp 4]):=by kernel_rfl
def XB (_P:Program) (K:VK):ax:=aW [.tmp 4] K
def asR:ax:=aH (au P axK (XB P K)) (XB P K)
def asS:ax:=bC 0 (asR P K)
def Ff:ax:=aH (λf' aQ=>(([0,1,9,10]:List Nat).map f':List Value)=[m0,gu,x9,aE]/\L1 (([11]:List Nat).map f') aQ) (asS P K)
def asT:ax:=aH (au P abU (Ff P K m0 gu x9 aE L1)) (Ff P K m0 gu x9 aE L1)
def Lh:ax:=bC 1 (asT P K m0 gu x9 aE L1)
def XC:ax:=aH (au P axI (Lh P K m0 gu x9 aE L1)) (Lh P K m0 gu x9 aE L1)
def alD:Prop:=aA (au P OF (Ff P K m0 gu x9 aE L1)) ([0,1,9,10]++[11]) ([m0,gu,x9,aE]++xs) h
def Jy:Prop:=aA (au P OE (Lh P K m0 gu x9 aE L1)) [0,1,6,7,9,10,11] [m0,gu,x6,x7,x9,aE,aG] h
def alB:Prop:=aA (au P abT (XC P K m0 gu x9 aE L1)) [0,1,6,7,9,10,11,36] [m0,gu,x6,x7,x9,aE,aG,aY] h
def TR:Prop:=aA (au P axJ (XC P K m0 gu x9 aE L1)) [0,1,9,10,11,36,40] [m0,gu,x9,aE,aG,aY,cI] h
def alC:Prop:=aA (au P axL (Ff P K m0 gu x9 aE L1)) [0,1,9,10,11] [m0,gu,x9,aE,aG] h
theorem aH0:TR P K m0 gu x9 aE aG aY cI L1 h=
 (OP (bu aY (.bool true) cI) λcU=>
 aJ cU
 (K (.bool false) h)
 (alC P K m0 gu x9 aE aG L1 h)):=aB (by kernel_rfl)
theorem aHZ:alB P K m0 gu x6 x7 x9 aE aG aY L1 h=
 (bO aY false
 (OP (af true 4 h x6) λbG=>
 OP (af true 4 h x7) λdH=>
 ay P 37 [bG,dH] h λdW z1=>
 OP (aj .neq dW (.int .i64 (0))) λcI=>
 TR P K m0 gu x9 aE aG aY cI L1 z1)
 (TR P K m0 gu x9 aE aG aY undef L1 h)):=aB (by kernel_rfl)
theorem aHY:Jy P K m0 gu x6 x7 x9 aE aG L1 h=
 (OP (af true 4 h x6) λbZ=>
 ay P 84 [bZ] h λcA z1=>
 OP (aj .lss cA (.int .i64 (0))) λcB=>
 alB P K m0 gu x6 x7 x9 aE aG cB L1 z1):=aB (by kernel_rfl)
theorem aH1:alC P K m0 gu x9 aE aG L1 h=
 (OP (aj .add aG (.int .i64 (1))) λer=>
 ([m0,gu,x9,aE]:List Value)=[m0,gu,x9,aE]/\L1 [er] h):=aB (by kernel_rfl)
theorem aH2 (m0 gu x9 aE:Value) (L1:LQ) (aG:Value) (h:ae):alD P K m0 gu x9 aE L1 [aG] h=
 (OP (aj .lss aG aE) λaM=>
 aJ aM
 (OP (aD 4 x9 aG) λaP=>
 OP (af true 4 h aP) λaX=>
 OH (cF 92 [(.bool false),(.slice none 0 0),(.bool false),(.slice none 0 0)] h) λx6 z1=>
 OH (aU 4 z1 x6 aX) λ_ z2=>
 OH (cF 92 [(.bool false),(.slice none 0 0),(.bool false),(.slice none 0 0)] z2) λx7 z3=>
 OP (eA z3 x7) λu=>
 (True)/\
 OH (cF 92 [(.bool false),(.slice none 0 0),(.bool false),(.slice none 0 0)] z3) λx8 z4=>
 OP (eA z4 x8) λKh=>
 (eA z4 x7=some u/\True)/\
 ay P 38 [m0,aG,gu] z4 λaR z5=>
 (eA z5 x7=some u/\eA z5 x8=some Kh/\True)/\
 OP (eI m0) λaS=>
 OP (aF 3 aS) λbL=>
 OP (af false 1 z5 bL) λbB=>
 (af false 1 z2 bL=some bB/\af false 1 z3 bL=some bB/\af false 1 z4 bL=some bB/\True)/\
 OP (aD 1 bB aG) λbH=>
 OP (af false 1 z5 bH) λbP=>
 (af false 1 z2 bH=some bP/\af false 1 z3 bH=some bP/\af false 1 z4 bH=some bP/\True)/\
 ay P 34 [bP] z5 λbQ z6=>
 (eA z6 x7=some u/\eA z6 x8=some Kh/\True)/\
 OH (aU 4 z6 x7 aR) λ_ z7=>
 (True)/\
 OH (aU 4 z7 x8 bQ) λ_ z8=>
 (True)/\
 OP (af true 4 z8 x7) λcL=>
 OP (af true 4 z8 x8) λb9=>
 ay P 37 [cL,b9] z8 λaV z9=>
 OP (aj .gtr aV (.int .i64 (0))) λbz=>
 aJ bz
 (OP (af true 4 z9 x8) λdJ=>
 OH (aU 4 z9 x7 dJ) λ_ qK=>
 Jy P K m0 gu x6 x7 x9 aE aG L1 qK)
 (Jy P K m0 gu x6 x7 x9 aE aG L1 z9))
 (K (.bool true) h)):=aB (by kernel_rfl)
def MZ:Prop:=
 OP (aT gu) λaE=>
 bT [(.int .i64 (0))] h λL1 xs hx=>
 alD P K m0 gu gu aE L1 xs hx
theorem HB:au P GO (aW [.tmp 4] K) (cd [m0,gu]) h=MZ P K m0 gu h:=by kernel_rfl
theorem f58 {K:VK} {m0 gu:Value} {h:ae} (H:MZ prog K m0 gu h):ay prog 58 [m0,gu] h K:=
 cC k58 (cE rfl) ((HB prog K m0 gu h).mpr H)
end
noncomputable section
variable (m0 x1 x2 : Value) (h : ae)
def ah6:=cg prog 66 [[],[],[],[],[]]
@[irreducible] def c66:=cD ah6
theorem k66:ah6=some (36,c66,[.cell true 4 6]):=by kernel_rfl
def M7:Prop:=
 OH (cF 92 [(.bool false),(.slice none 0 0),(.bool false),(.slice none 0 0)] h) λx6 z1=>
 OP (eI m0) λx8=>
 OP (aF 3 x8) λx9=>
 OP (af false 1 z1 x9) λaE=>
 OP (aD 1 aE x1) λaM=>
 OP (af false 1 z1 aM) λaC=>
 OP (aj .eql aC (.int .i64 (0))) λaP=>
 aJ aP
 (ay P 34 [(.int .i64 (0))] z1 λaX z2=>
 OH (aU 4 z2 x6 aX) λ_ z3=>
 OP (af true 4 z3 x6) λr0=>
 K r0 z3)
 (OP (eI m0) λbM=>
 OP (aF 2 bM) λbA=>
 OP (af false 1 z1 bA) λaR=>
 (True)/\
 OP (aD 1 aR x1) λaS=>
 OP (af false 1 z1 aS) λbL=>
 (True)/\
 OP (aD 1 bL x2) λbm=>
 OP (af false 1 z1 bm) λbH=>
 (True)/\
 ay P 34 [bH] z1 λbP z2=>
 (True)/\
 OP (eI m0) λcL=>
 OP (aF 3 cL) λb9=>
 OP (af false 1 z2 b9) λaV=>
 (af false 1 z1 b9=some aV/\True)/\
 OP (aD 1 aV x1) λdJ=>
 OP (af false 1 z2 dJ) λbZ=>
 (af false 1 z1 dJ=some bZ/\True)/\
 ay P 34 [bZ] z2 λcA z3=>
 (True)/\
 ay P 94 [bP,cA] z3 λcB z4=>
 (True)/\
 OH (aU 4 z4 x6 cB) λ_ z5=>
 (True)/\
 OP (af true 4 z5 x6) λr0=>
 K r0 z5)
theorem e66:au P c66 (aW [.cell true 4 6] K) (cd [m0,x1,x2]) h=M7 P K m0 x1 x2 h:=by kernel_rfl
theorem f66 {K:VK} {m0 x1 x2:Value} {h:ae} (H:M7 prog K m0 x1 x2 h):ay prog 66 [m0,x1,x2] h K:=
 cC k66 (cE rfl) ((e66 prog K m0 x1 x2 h).mpr H)
end
noncomputable section
variable (s0 f1 : Value) (h : ae)
def aid:=cg prog 75 [[],[]]
@[irreducible] def c75:=cD aid
theorem k75:aid=some (9,c75,[.tmp 4]):=by kernel_rfl
def Nd:Prop:=
 ay P 116 [s0,f1] h λx7 z1=>
 OP (aj .geq x7 (.int .i64 (0))) λx8=>
 K x8 z1
theorem e75:au P c75 (aW [.tmp 4] K) (cd [s0,f1]) h=Nd P K s0 f1 h:=by kernel_rfl
theorem f75 {K:VK} {s0 f1:Value} {h:ae} (H:Nd prog K s0 f1 h):ay prog 75 [s0,f1] h K:=
 cC k75 (cE rfl) ((e75 prog K s0 f1 h).mpr H)
end
noncomputable section
variable (x0 x5 x7 : Value) (h : ae)
def aie:=cg prog 76 [[],[0,5],[5,7],[]]
@[irreducible] def GS:=cD aie
@[irreducible] def acg:=GS.r.l.r.l
@[irreducible] def ax2:=GS.r.r
@[irreducible] def ax3:=acg.r.l
theorem k76:aie=some (9,GS,[.tmp 2]):=by kernel_rfl
def XI (_P:Program) (K:VK):ax:=aW [.tmp 2] K
def XJ:ax:=aH (au P ax2 (XI P K)) (XI P K)
def alP:Prop:=aA (au P acg (XJ P K)) [0,5] [x0,x5] h
def TX:Prop:=aA (au P ax3 (XJ P K)) [5,7] [x5,x7] h
theorem aIk:TX P K x5 x7 h=
 (OP (bu x5 (.bool true) x7) λx8=>
 K x8 h):=aB (by kernel_rfl)
theorem aIj:alP P K x0 x5 h=
 (bO x5 false
 (OP (aj .gtr x0 (.int .i64 (1000))) λx7=>
 TX P K x5 x7 h)
 (TX P K x5 undef h)):=aB (by kernel_rfl)
def Nf:Prop:=
 OP (aj .lss x0 (.int .i64 (0))) λx4=>
 alP P K x0 x4 h
theorem e76:au P GS (aW [.tmp 2] K) (cd [x0]) h=Nf P K x0 h:=by kernel_rfl
theorem f76 {K:VK} {x0:Value} {h:ae} (H:Nf prog K x0 h):ay prog 76 [x0] h K:=
 cC k76 (cE rfl) ((e76 prog K x0 h).mpr H)
end
noncomputable section
variable (s0 f1 x7 x8 : Value) (L1 : LQ) (xs : List Value) (h : ae)
def agP:=cg prog 116 [[],[],[0,1,7],[8],[],[],[],[],[],[],[],[]]
@[irreducible] def FJ:=cD agP
@[irreducible] def auG:=FJ.r.l.r.l.l
@[irreducible] def auF:=FJ.r.r
theorem aCg:agP=some (19,FJ,[.tmp 4]):=by kernel_rfl
def Wy (_P:Program) (K:VK):ax:=aW [.tmp 4] K
def ao0:ax:=aH (au P auF (Wy P K)) (Wy P K)
def ao1:ax:=bC 0 (ao0 P K)
def ao2:ax:=aH (λf' aQ=>(([0,1,7]:List Nat).map f':List Value)=[s0,f1,x7]/\L1 (([8]:List Nat).map f') aQ) (ao1 P K)
def aiL:Prop:=aA (au P auG (ao2 P K s0 f1 x7 L1)) ([0,1,7]++[8]) ([s0,f1,x7]++xs) h
theorem aDJ (s0 f1 x7:Value) (L1:LQ) (x8:Value) (h:ae):aiL P K s0 f1 x7 L1 [x8] h=
 (OP (aj .lss x8 x7) λx9=>
 aJ x9
 (OP (aD 1 s0 x8) λaP=>
 OP (af false 1 h aP) λaX=>
 sR P f1 [aX] h λaZ z1=>
 aJ aZ
 (K x8 z1)
 (OP (aj .add x8 (.int .i64 (1))) λbA=>
 ([s0,f1,x7]:List Value)=[s0,f1,x7]/\L1 [bA] z1))
 (K (.int .i64 (-1)) h)):=aB (by kernel_rfl)
def LM:Prop:=
 OP (aT s0) λx7=>
 bT [(.int .i64 (0))] h λL1 xs hx=>
 aiL P K s0 f1 x7 L1 xs hx
theorem azD:au P FJ (aW [.tmp 4] K) (cd [s0,f1]) h=LM P K s0 f1 h:=by kernel_rfl
theorem f116 {K:VK} {s0 f1:Value} {h:ae} (H:LM prog K s0 f1 h):ay prog 116 [s0,f1] h K:=
 cC aCg (cE rfl) ((azD prog K s0 f1 h).mpr H)
end
end
section
open Go.Sim Go.Sort
variable {h : ae} {K : Value -> ae -> Prop} {n : Nat} {D : List (List Int)}
structure MI (h:ae) (v:Value) (D:List (List Int)):Prop where
 len:aT v=some (I D.length)
 get:∀i (hi:i<D.length),∃b o rv,aD 1 v (I i)=some (pt b o)/\af false 1 h (pt b o)=some rv/\NS h rv .i64 D[i]
theorem MI.mono {h h':ae} {v:Value} {D:List (List Int)} (p:MI h v D) (x:EX h h'):MI h' v D:=
 ⟨p.len,λi hi=>let ⟨b,o,rv,a,c,d⟩:=p.get i hi;⟨b,o,rv,a,EX.load x c,d.mono x⟩⟩
structure lB (n:Nat) (D:List (List Int)):Prop where
 n1:1<=n
 n8:n<=8
 len:D.length=n
 row:∀r∈D,r.length=n
 dZ:∀r∈D,∀x∈r,0<=x/\x<=1000
 diag:∀i (hi:i<D.length) (hj:i<D[i].length),D[i][i]=0
theorem U1 {c:Int} (hc:0<=c):∀{r:List Int} (_:∀x∈r,0<=x/\x<=c),0<=r.sum/\r.sum<=c*r.length
 | [],_=>by simp
 | x::r,hr=>by
  have h1:=hr x (by simp)
  have h2:=U1 hc (r:=r) λy hy=>hr y (mem_cons_of_mem _ hy)
  rw [sum_cons,List.length_cons]
  have:c*((r.length+1:Nat):Int)=c*r.length+c:=by rw [Int.natCast_add,Int.mul_add];simp
  omega
theorem D3 {r:List Int} {j:Nat} (hj:j<r.length):(r.take (j+1)).sum=(r.take j).sum+r[j]:=by
 rw [List.take_succ_eq_append_getElem hj,List.sum_append];simp
def fz (D:List (List Int)):List Int:=D.map List.sum
theorem lB.pX (m:lB n D):∀r∈D,∀j,0<=(r.take j).sum/\(r.take j).sum<=8000:=λr hr j=>by
 have:=U1 (c:=1000) (by omega) (r:=r.take j) λx hx=>m.dZ r hr x (List.mem_of_mem_take hx)
 have h1:=m.row r hr
 have h2:(r.take j).length<=8:=by have:=m.n8;rw [List.length_take];omega
 omega
theorem lB.D6 (m:lB n D):∀j,0<=((fz D).take j).sum/\((fz D).take j).sum<=64000:=λj=>by
 have:=U1 (c:=8000) (by omega) (r:=(fz D).take j) λx hx=>by
  obtain ⟨r,hr,rfl⟩:=List.mem_map.1 (List.mem_of_mem_take hx)
  have:=m.pX r hr r.length
  rwa [take_length] at this
 have h2:((fz D).take j).length<=8:=by have:=m.n8;have:=m.len;rw [List.length_take,fz,length_map];omega
 omega
theorem V3 {a lo hi:Int} (h1:lo<=a) (h2:a<=hi) (hk:K (B true) h):ay prog 27 [I a,I lo,I hi] h K:=by
 refine f27 ?_
 unfold Mt
 simp only [om,ah,dh h1]
 rw [aFx]
 simp only [gK,rR,ah,dh h2]
 rw [aFy]
 simp only [fy,ah]
 exact hk
theorem MI.row {v:Value} (p:MI h v D) (m:lB n D) {i:Nat} (hi:i<n):∃(b o:Nat) (rv:Value) (r:List Int),aD 1 v (I i)=some (pt b o)/\af false 1 h (pt b o)=some rv/\NS h rv .i64 r/\r∈D/\D[i]?=some r/\r.length=n:=by
 have hl:=m.len
 obtain ⟨b,o,rv,a,c,d⟩:=p.get i (by omega)
 exact ⟨b,o,rv,_,a,c,d,getElem_mem _,List.getElem?_eq_getElem _,m.row _ (getElem_mem _)⟩
theorem lB.dg (m:lB n D) {i:Nat} {r:List Int} (hr:D[i]?=some r) (hi:i<r.length):r[i]=0:=by
 obtain ⟨h1,rfl⟩:=cm hr
 exact m.diag i h1 hi
theorem C9 {v:Value} (p:MI h v D) (m:lB n D) (hk:K (B true) h):ay prog 9 [v] h K:=by
 refine f9 ?_
 unfold T9
 have hl:=m.len;have n8:=m.n8;have n1:=m.n1
 have pl:=p.len
 rw [hl] at pl
 refine cN (σ:=Nat) (λq=>[I q]) (λq=>h) (λq=>q<=n) (λq=>n-q) 0 rfl rfl (zero_le _) ?_
 intro i hi L hL
 rw [aJg]
 simp only [pl,bW,ah,ca]
 refine ⟨λaw=>?_,λcJ=>?_⟩
 ·have aw:i<n:=by omega
  obtain ⟨b,o,rv,r,ad,ld,ns,hr,CZ,rl⟩:=p.row m aw
  have nl:=ns.len
  rw [rl] at nl
  obtain ⟨b2,o2,BU,jI⟩:=ns.get i (by omega)
  rw [m.dg CZ (by omega)] at jI
  simp only [ad,ld,nl,ah,iC,decide_true,Bool.not_true]
  rw [aJb]
  simp only [fc,ad,ld,BU,jI,ah,iC,decide_true,Bool.not_true]
  rw [aJc]
  simp only [dA,ah,dm]
  refine cN (σ:=Nat) (λq=>[I q]) (λq=>h) (λq=>q<=n) (λq=>n-q) 0 rfl rfl (zero_le _) ?_
  intro j hj L2 dO
  rw [aJd]
  simp only [pl,bW,ah,ca]
  refine ⟨λdR=>?_,λcJ=>?_⟩
  ·have dR:j<n:=by omega
   obtain ⟨b3,o3,uB,rD⟩:=ns.get j (by omega)
   have e:=m.dZ r hr _ (getElem_mem (show j<r.length by omega))
   simp only [ad,ld,uB,rD,ah]
   refine V3 e.1 e.2 ?_
   simp only [kW,Bool.not_true,ah,dm,b7,true_and]
   rw [dP j (by simp [maxLen];omega)]
   exact dO (j+1) dR (by omega)
  ·rw [aJe]
   simp only [b7,ah,true_and]
   rw [dP i (by simp [maxLen];omega)]
   exact hL (i+1) aw (by omega)
 ·rw [aJf]
  simp only [pl,ah]
  exact V3 (by omega) (by omega) hk
theorem C76 {x:Int} (h1:0<=x) (h2:x<=1000) (hk:K (B false) h):ay prog 76 [I x] h K:=by
 refine f76 ?_
 unfold Nf
 simp only [bW,ah,bX (show ¬x<0 by omega)]
 rw [aIj]
 simp only [fc,gY,ah,bX (show ¬(1000:Int)<x by omega)]
 rw [aIk]
 simp only [dA,ah]
 exact hk
theorem aCF:rS prog 76=true:=by kernel_rfl
theorem V8 {v:Value} {r:List Int} (p:NS h v .i64 r) (hr:∀x∈r,0<=x/\x<=1000) (hk:K (B true) h):ay prog 50 [v] h K:=by
 refine f50 ?_
 unfold MP
 refine f75 ?_
 unfold Nd
 refine f116 ?_
 unfold LM
 have le:=p.le
 simp only [p.len,ah]
 refine cN (σ:=Nat) (λq=>[I q]) (λq=>h) (λq=>q<=r.length) (λq=>r.length-q) 0 rfl rfl (zero_le _) ?_
 intro j hj L2 dO
 rw [aDJ]
 simp only [bW,ah,ca]
 refine ⟨λdR=>?_,λcJ=>?_⟩
 ·have dR:j<r.length:=by omega
  obtain ⟨b3,o3,uB,rD⟩:=p.get j dR
  have e:=hr _ (getElem_mem dR)
  simp only [uB,rD,ah]
  refine He aCF (C76 e.1 e.2 ?_)
  simp only [dm,b7,ah,true_and]
  rw [dP j (by omega)]
  exact dO (j+1) dR (by omega)
 ·simp only [om,ah,kW]
  exact hk
theorem V4 {v:Value} (p:MI h v D) (m:lB n D) (hk:K (B true) h):ay prog 28 [v] h K:=by
 refine f28 ?_
 unfold Mu
 have hl:=m.len;have n8:=m.n8;have n1:=m.n1
 have pl:=p.len
 rw [hl] at pl
 simp only [pl,bW,ah,bX (show ¬(n:Int)<1 by omega)]
 rw [aFE]
 simp only [fc,pl,gY,ah,bX (show ¬(8:Int)<n by omega)]
 rw [aFF]
 simp only [dA,ah,dm,pl]
 refine cN (σ:=Nat) (λq=>[I q]) (λq=>h) (λq=>q<=n) (λq=>n-q) 0 rfl rfl (zero_le _) ?_
 intro i hi L hL
 rw [aFz]
 simp only [bW,ah,ca]
 refine ⟨λaw=>?_,λcJ=>hk⟩
 have aw:i<n:=by omega
 obtain ⟨b,o,rv,r,ad,ld,ns,hr,CZ,rl⟩:=p.row m aw
 have nl:=ns.len
 rw [rl] at nl
 obtain ⟨b2,o2,BU,jI⟩:=ns.get i (by omega)
 rw [m.dg CZ (by omega)] at jI
 simp only [ad,ld,nl,pl,ah,iC,decide_true,Bool.not_true]
 rw [aFA]
 simp only [fc]
 refine V8 ns (m.dZ r hr) ?_
 simp only [kW,Bool.not_true,ah]
 rw [aFB]
 simp only [dA,ah]
 rw [aFC]
 simp only [fc,BU,jI,ah,iC,decide_true,Bool.not_true]
 rw [aFD]
 simp only [dA,ah,dm,b7,true_and]
 rw [dP i (by simp [maxLen];omega)]
 exact hL (i+1) aw (by omega)
theorem VZ {v:Value} {r:List Int} (p:NS h v .i64 r) (hb:∀j,0<=(r.take j).sum/\(r.take j).sum<=100000) (hk:K (I r.sum) h):ay prog 19 [v] h K:=by
 refine f19 ?_
 unfold Ml
 have le:=p.le
 refine cN (σ:=Nat) (λq=>[I (r.take q).sum,I q]) (λq=>h) (λq=>q<=r.length) (λq=>r.length-q) 0 (by simp) rfl (zero_le _) ?_
 intro j hj L2 dO
 rw [aET]
 simp only [p.len,bW,ah,ca]
 refine ⟨λdR=>?_,λcJ=>?_⟩
 ·have dR:j<r.length:=by omega
  obtain ⟨b3,o3,uB,rD⟩:=p.get j dR
  have e1:=hb j
  have e2:=hb (j+1)
  have e3:=D3 dR
  simp only [uB,rD,ah,b7,true_and]
  rw [dP j (by omega),wrap64 (by omega) (by omega),<-e3]
  exact dO (j+1) dR (by omega)
 ·have:j=r.length:=by omega
  rw [aES,this,take_length]
  exact hk
theorem VY {v:Value} (p:MI h v D) (m:lB n D) (hk:K (I (fz D).sum) h):ay prog 16 [v] h K:=by
 refine f16 ?_
 unfold Mi
 have hl:=m.len;have n8:=m.n8;have n1:=m.n1
 have pl:=p.len
 have rl:(fz D).length=D.length:=length_map _
 refine cN (σ:=Nat) (λq=>[I ((fz D).take q).sum,I q]) (λq=>h) (λq=>q<=D.length) (λq=>D.length-q) 0 (by simp) rfl (zero_le _) ?_
 intro i hi L hL
 rw [aEP]
 simp only [pl,bW,ah,ca]
 refine ⟨λaw=>?_,λcJ=>?_⟩
 ·have aw:i<D.length:=by omega
  obtain ⟨b,o,rv,ad,ld,ns⟩:=p.get i aw
  simp only [ad,ld,ah]
  refine VZ ns (λj=>by have:=m.pX _ (getElem_mem aw) j;omega) ?_
  have e1:=m.D6 i
  have e2:=m.D6 (i+1)
  have e3:=D3 (r:=fz D) (show i<(fz D).length by omega)
  have e4:(fz D)[i]'(by omega)=D[i].sum:=by simp [fz]
  rw [e4] at e3
  simp only [b7,ah,true_and]
  rw [dP i (by simp [maxLen];omega),wrap64 (by omega) (by omega),<-e3]
  exact hL (i+1) aw (by omega)
 ·have:i=D.length:=by omega
  rw [aEO,this,<-rl,take_length]
  exact hk
theorem V5 {v:Value} (p:MI h v D) (m:lB n D) (hk:K (I (fz D).sum) h):ay prog 30 [v] h K:=by
 refine f30 ?_
 unfold Mw
 have hl:=m.len;have n8:=m.n8;have n1:=m.n1
 have rl:(fz D).length=D.length:=length_map _
 simp only [p.len,ah]
 refine cN (σ:=Nat) (λq=>[I ((fz D).take q).sum,I q]) (λq=>h) (λq=>q<=D.length) (λq=>D.length-q) 0 (by simp) rfl (zero_le _) ?_
 intro i hi L hL
 rw [aFN]
 simp only [bW,ah,ca]
 refine ⟨λaw=>?_,λcJ=>?_⟩
 ·have aw:i<D.length:=by omega
  obtain ⟨b,o,rv,ad,ld,ns⟩:=p.get i aw
  have le:=ns.le
  have e1:=m.D6 i
  have e2:=m.D6 (i+1)
  have e3:=D3 (r:=fz D) (show i<(fz D).length by omega)
  have e4:(fz D)[i]'(by omega)=D[i].sum:=by simp [fz]
  rw [e4] at e3
  have mR:=m.pX _ (getElem_mem aw)
  simp only [ad,ld,ns.len,ah]
  refine cN (σ:=Nat) (λq=>[I (((fz D).take i).sum+(D[i].take q).sum),I q]) (λq=>h) (λq=>q<=D[i].length) (λq=>D[i].length-q) 0 (by simp) rfl (zero_le _) ?_
  intro j hj L2 dO
  rw [aFK]
  simp only [bW,ah,ca]
  refine ⟨λdR=>?_,λcJ=>?_⟩
  ·have dR:j<D[i].length:=by omega
   obtain ⟨b3,o3,uB,rD⟩:=ns.get j dR
   have f1:=mR j
   have f2:=mR (j+1)
   have f3:=D3 dR
   simp only [uB,rD,ah,b7,true_and]
   rw [dP j (by omega),wrap64 (by omega) (by omega),Int.add_assoc,<-f3]
   exact dO (j+1) dR (by omega)
  ·have:j=D[i].length:=by omega
   rw [aFL,this,take_length,<-e3]
   simp only [b7,ah,true_and]
   rw [dP i (by simp [maxLen];omega)]
   exact hL (i+1) aw (by omega)
 ·have:i=D.length:=by omega
  rw [aFM,this,<-rl,take_length]
  exact hk
theorem C15 {v vr:Value} {R:List (List Int)} (p:MI h v D) (pr:MI h vr R) (m:lB n D) (hR:R.length=n) (mR:∀r∈R,r.length=n) (hk:K (B true) h):ay prog 15 [v,vr] h K:=by
 refine f15 ?_
 unfold Mh
 have hl:=m.len;have n8:=m.n8;have n1:=m.n1
 have pl:=p.len
 have Uo:=pr.len
 rw [hl] at pl
 rw [hR] at Uo
 refine cN (σ:=Nat) (λq=>[I q]) (λq=>h) (λq=>q<=n) (λq=>n-q) 0 rfl rfl (zero_le _) ?_
 intro i hi L hL
 rw [aEN]
 simp only [Uo,bW,ah,ca]
 refine ⟨λaw=>?_,λcJ=>?_⟩
 ·have aw:i<n:=by omega
  obtain ⟨b,o,rv,ad,ld,ns⟩:=pr.get i (by omega)
  have nl:=ns.len
  rw [mR _ (getElem_mem _)] at nl
  simp only [ad,ld,nl,pl,ah,iC,decide_true,Bool.not_true,dm,b7,true_and]
  rw [dP i (by simp [maxLen];omega)]
  exact hL (i+1) aw (by omega)
 ·rw [aEM]
  simp only [pl,Uo,ah,jB,decide_true]
  exact hk
end
end Go.Proofs.YtncaiogfjjepcaaGreat
namespace Go.Sim
section
def dU {α:Type} (f:Nat->α) (i:Nat) (x:α):Nat->α:=λj=>if j=i then x else f j
theorem fL {α:Type} (f:Nat->α) (i:Nat) (x:α):dU f i x i=x:=if_pos rfl
theorem ez {α:Type} (f:Nat->α) {i j:Nat} (x:α) (h:j≠i):dU f i x j=f j:=if_neg h
structure cQ where
 i:Nat
 j:Nat
 up:Bool
 m:Int
deriving DecidableEq
namespace cQ
def f (a:cQ):Nat:=if a.up then a.i else a.j
def t (a:cQ):Nat:=if a.up then a.j else a.i
def c (a:cQ):Int:=if a.up then 1 else -1
theorem OT (a:cQ):a.c=1∨a.c= -1:=by unfold c;split <;> simp
end cQ
structure RX (l:List cQ) (r cur:Nat) (c:Nat->Int) (b:Nat->Option Nat) (tm rd:Nat->Nat) (T:Nat):Prop where
 tS:∀v,c v<=0
 ge:∀v,-(T:Int)<=c v
 Kd:T<=(r-1)*l.length+cur
 Ke:∀v,tm v<=T
 bs:∀w k,b w=some k->∃hk:k<l.length,l[k].t=w/\(c l[k].f+l[k].c<c w∨(c l[k].f+l[k].c=c w/\tm l[k].f<tm w))/\rd w<=rd l[k].f+1
 br:∀w,b w=none->rd w=0
 rr:∀v,rd v<=r
 dn:∀k (hk:k<l.length),(if k<cur then r else r-1)=0∨c l[k].t<=c l[k].f+l[k].c∨(if k<cur then r else r-1)<=rd l[k].f
namespace RX
variable {l : List cQ} {r cur : Nat} {c : Nat -> Int} {b : Nat -> Option Nat} {tm rd : Nat -> Nat} {T : Nat}
theorem start (l:List cQ):RX l 1 0 (λ_=>0) (λ_=>none) (λ_=>0) (λ_=>0) 0:=
 ⟨λ_=>Int.le_refl _,λ_=>by simp,by simp,λ_=>le_refl _,λ_ _ h=>absurd h (by simp),λ_ _=>rfl,λ_=>zero_le _,λk hk=>.inl (by simp)⟩
theorem stay (x:RX l r cur c b tm rd T) (hc:cur<l.length) (h:¬c l[cur].f+l[cur].c<c l[cur].t):RX l r (cur+1) c b tm rd T:=by
 refine ⟨x.tS,x.ge,by have:=x.Kd;omega,x.Ke,x.bs,x.br,x.rr,λk hk=>?_⟩
 by_cases e:k=cur
 ·subst e
  exact .inr (.inl (by omega))
 ·have:=x.dn k hk
  by_cases h1:k<cur
  ·rw [if_pos (by omega)];rwa [if_pos h1] at this
  ·rw [if_neg (by omega)];rwa [if_neg h1] at this
theorem step (x:RX l r cur c b tm rd T) (hc:cur<l.length) (bY:l[cur].f≠l[cur].t) (h:c l[cur].f+l[cur].c<c l[cur].t):
  RX l r (cur+1) (dU c l[cur].t (c l[cur].f+l[cur].c)) (dU b l[cur].t (some cur)) (dU tm l[cur].t (T+1)) (dU rd l[cur].t r) (T+1):=by
 have cb:=l[cur].OT
 have dec:∀v,dU c l[cur].t (c l[cur].f+l[cur].c) v<=c v:=λv=>by
  by_cases e:v=l[cur].t
  ·rw [e,fL];omega
  ·rw [ez _ _ e];exact Int.le_refl _
 have rdg:∀v,rd v<=dU rd l[cur].t r v:=λv=>by
  by_cases e:v=l[cur].t
  ·rw [e,fL];exact x.rr _
  ·rw [ez _ _ e];exact le_refl _
 refine ⟨λv=>Int.le_trans (dec v) (x.tS v),λv=>?_,by have:=x.Kd;omega,λv=>?_,λw k hw=>?_,λw hw=>?_,λv=>?_,λk hk=>?_⟩
 ·by_cases e:v=l[cur].t
  ·rw [e,fL];have:=x.ge l[cur].f;omega
  ·rw [ez _ _ e];have:=x.ge v;omega
 ·by_cases e:v=l[cur].t
  ·rw [e,fL];exact le_refl _
  ·rw [ez _ _ e];have:=x.Ke v;omega
 ·by_cases e:w=l[cur].t
  ·rw [e,fL] at hw
   cases hw
   refine ⟨hc,e.symm,.inr ⟨?_,?_⟩,?_⟩
   ·rw [e,fL,ez _ _ bY]
   ·rw [e,fL,ez _ _ bY];have:=x.Ke l[cur].f;omega
   ·rw [e,fL,ez _ _ bY]
    have:=x.dn cur hc
    rw [if_neg (by omega)] at this
    rcases this with h1 | h1 | h1 <;> omega
  ·rw [ez _ _ e] at hw
   obtain ⟨hk,h1,h2,h3⟩:=x.bs w k hw
   refine ⟨hk,h1,?_,?_⟩
   ·rw [ez c _ e]
    by_cases e2:l[k].f=l[cur].t
    ·rw [e2,fL]
     rw [e2] at h2
     rcases h2 with h2 | h2 <;> exact .inl (by omega)
    ·rw [ez c _ e2,ez tm _ e2,ez tm _ e]
     exact h2
   ·rw [ez rd _ e]
    have:=rdg l[k].f
    omega
 ·by_cases e:w=l[cur].t
  ·rw [e,fL] at hw;cases hw
  ·rw [ez _ _ e] at hw;rw [ez _ _ e];exact x.br w hw
 ·by_cases e:v=l[cur].t
  ·rw [e,fL];exact le_refl _
  ·rw [ez _ _ e];exact x.rr v
 ·by_cases ek:k=cur
  ·subst ek
   refine .inr (.inl ?_)
   rw [fL,ez _ _ bY]
   exact Int.le_refl _
  ·have old:=x.dn k hk
   have ei:(if k<cur+1 then r else r-1)=if k<cur then r else r-1:=by
    by_cases h1:k<cur
    ·rw [if_pos h1,if_pos (by omega)]
    ·rw [if_neg h1,if_neg (by omega)]
   rw [ei]
   rcases old with h1 | h1 | h1
   ·exact .inl h1
   ·by_cases e2:l[k].f=l[cur].t
    ·refine .inr (.inr ?_)
     rw [e2,fL]
     split <;> omega
    ·refine .inr (.inl ?_)
     rw [ez c _ e2]
     exact Int.le_trans (dec _) h1
   ·exact .inr (.inr (Nat.le_trans h1 (rdg _)))
theorem next (x:RX l r cur c b tm rd T) (hr:1<=r) (hc:cur=l.length):RX l (r+1) 0 c b tm rd T:=by
 subst hc
 refine ⟨x.tS,x.ge,?_,x.Ke,x.bs,x.br,λv=>by have:=x.rr v;omega,λk hk=>?_⟩
 ·have:=x.Kd
  obtain ⟨r,rfl⟩:∃q,r=q+1:=⟨r-1,by omega⟩
  simp only [Nat.add_sub_cancel] at this⊢
  rw [Nat.add_mul];omega
 ·have:=x.dn k hk
  rw [if_pos hk] at this
  rw [if_neg (by omega)]
  simpa using this
def Bs (l:List cQ) (b:Nat->Option Nat) (v:Nat):Nat:=
 match b v with
 | some k=>match l[k]? with | some a=>a.f | none=>v
 | none=>v
def walk (l:List cQ) (b:Nat->Option Nat) (v:Nat):Nat->Nat
 | 0=>v
 | s+1=>Bs l b (walk l b v s)
theorem Up {v k:Nat} (h:b v=some k) (hk:k<l.length):Bs l b v=l[k].f:=by
 unfold Bs;rw [h];simp [hk]
theorem vQ (v s t:Nat):walk l b v (s+t)=walk l b (walk l b v s) t:=by
 induction t with
 | zero=>rfl
 | succ t ih=>rw [<-Nat.add_assoc];show Bs l b _=Bs l b _;rw [ih]
theorem aur (x:RX l r cur c b tm rd T) {v:Nat} {s:Nat} (hs:s<rd v):rd v<=rd (walk l b v s)+s/\∀q≤s,∃k,b (walk l b v q)=some k/\k<l.length:=by
 have anO:∀u,0<rd u->∃k,b u=some k/\k<l.length:=λu hu=>by
  cases hb:b u with
  | none=>have:=x.br u hb;omega
  | some k=>exact ⟨k,rfl,(x.bs u k hb).1⟩
 induction s with
 | zero=>
  refine ⟨by simp [walk],λq hq=>?_⟩
  obtain rfl:q=0:=by omega
  exact anO v hs
 | succ s ih=>
  obtain ⟨h1,h2⟩:=ih (by omega)
  obtain ⟨k,hk,iN⟩:=h2 s (le_refl _)
  obtain ⟨_,h3,_,h4⟩:=x.bs _ k hk
  have e:walk l b v (s+1)=l[k].f:=Up hk iN
  refine ⟨by rw [e];omega,λq hq=>?_⟩
  by_cases Iq:q<=s
  ·exact h2 q Iq
  ·obtain rfl:q=s+1:=by omega
   exact anO _ (by rw [e];omega)
theorem Un:∀(n:Nat) (u:Nat->Nat),(∀s≤n,u s<n)->∃a b,a<b/\b<=n/\u a=u b
 | 0,u,h=>absurd (h 0 (le_refl _)) (Nat.not_lt_zero _)
 | n+1,u,h=>by
  by_cases e:∃s,s<=n/\u s=u (n+1)
  ·obtain ⟨s,h1,h2⟩:=e
   exact ⟨s,n+1,by omega,le_refl _,h2⟩
  ·have ne:∀s,s<=n->u s≠u (n+1):=λs hs h'=>e ⟨s,hs,h'⟩
   obtain ⟨a,b,h1,h2,h3⟩:=Un n (λs=>if u s=n then u (n+1) else u s) λs hs=>by
    have h1:=h s (by omega)
    have h2:=h (n+1) (le_refl _)
    have h3:=ne s hs
    show (if u s=n then u (n+1) else u s)<n
    split <;> omega
   have h3:(if u a=n then u (n+1) else u a)=if u b=n then u (n+1) else u b:=h3
   refine ⟨a,b,h1,by omega,?_⟩
   have na:=ne a (by omega)
   have nb:=ne b (by omega)
   split at h3 <;> split at h3 <;> omega
theorem aCM {p:Nat->Prop}:∀n,p n->∃m,p m/\∀q<m,¬p q:=by
 intro n
 induction n using Nat.strongRecOn with
 | _ n ih=>
  intro h
  by_cases e:∃q,q<n/\p q
  ·obtain ⟨q,h1,h2⟩:=e
   exact ih q h1 h2
  ·exact ⟨n,h,λq hq hp=>e ⟨q,hq,hp⟩⟩
end RX
end
section
namespace RX
variable {l : List cQ} {r cur n : Nat} {c : Nat -> Int} {b : Nat -> Option Nat} {tm rd : Nat -> Nat} {T : Nat}
def uE (l:List cQ) (b:Nat->Option Nat) (v:Nat):cQ:=((b v).bind λk=>l[k]?).getD ⟨0,0,true,0⟩
theorem NL {v k:Nat} (h:b v=some k) (hk:k<l.length):uE l b v=l[k]:=by
 simp [uE,h,hk]
def ky (l:List cQ) (b:Nat->Option Nat) (u p:Nat):List cQ:=(List.range p).map λs=>uE l b (walk l b u s)
theorem anl (u p:Nat):ky l b u (p+1)=ky l b u p++[uE l b (walk l b u p)]:=by
 simp [ky,List.range_succ]
/-- From a firm of the last round one comes to a ring. -/
theorem ring (x:RX l r cur c b tm rd T) (P3:∀a∈l,a.f<n) {v:Nat} (hv:v<n) (AW:rd v=n+1):
  (∀s,∃k,b (walk l b v s)=some k/\k<l.length)/\(∀s,walk l b v s<n)/\
   ∃p,1<=p/\walk l b (walk l b v n) p=walk l b v n/\∀q,1<=q->q<p->walk l b (walk l b v n) q≠walk l b v n:=by
 obtain ⟨_,anN⟩:=x.aur (v:=v) (s:=n) (by omega)
 have ltn:∀s≤n,walk l b v s<n:=by
  intro s
  induction s with
  | zero=>intro _;exact hv
  | succ s ih=>
   intro hs
   obtain ⟨k,hk,iN⟩:=anN s (by omega)
   show Bs l b (walk l b v s)<n
   rw [Up hk iN]
   exact P3 _ (getElem_mem iN)
 obtain ⟨a,d,had,hd,e⟩:=Un n (walk l b v) ltn
 have step:∀t,a<=t->walk l b v (t+(d-a))=walk l b v t:=by
  intro t ht
  obtain ⟨q,rfl⟩:∃q,t=a+q:=⟨t-a,by omega⟩
  rw [show a+q+(d-a)=d+q by omega,vQ,vQ,e]
 have agI:∀t,∃t'≤n,walk l b v t=walk l b v t':=by
  intro t
  induction t using Nat.strongRecOn with
  | _ t ih=>
   by_cases ht:t<=n
   ·exact ⟨t,ht,rfl⟩
   ·obtain ⟨t',h1,h2⟩:=ih (t-(d-a)) (by omega)
    refine ⟨t',h1,?_⟩
    rw [<-h2]
    have:=step (t-(d-a)) (by omega)
    rwa [show t-(d-a)+(d-a)=t by omega] at this
 refine ⟨λs=>?_,λs=>?_,?_⟩
 ·obtain ⟨t',h1,h2⟩:=agI s
  rw [h2];exact anN t' h1
 ·obtain ⟨t',h1,h2⟩:=agI s
  rw [h2];exact ltn t' h1
 ·obtain ⟨p,⟨h1,h2⟩,h3⟩:=aCM (p:=λp=>1<=p/\walk l b (walk l b v n) p=walk l b v n) (d-a) ⟨by omega,by rw [<-vQ];exact step n (by omega)⟩
  exact ⟨p,h1,h2,λq Ip hq2 vh=>h3 q hq2 ⟨Ip,vh⟩⟩
theorem Bw (x:RX l r cur c b tm rd T) {u:Nat} (so:∀s,∃k,b (walk l b u s)=some k/\k<l.length) (s:Nat):
  uE l b (walk l b u s)∈l/\(uE l b (walk l b u s)).f=walk l b u (s+1)/\(uE l b (walk l b u s)).t=walk l b u s/\
   (c (walk l b u (s+1))+(uE l b (walk l b u s)).c<c (walk l b u s)∨(c (walk l b u (s+1))+(uE l b (walk l b u s)).c=c (walk l b u s)/\tm (walk l b u (s+1))<tm (walk l b u s))):=by
 obtain ⟨k,hk,iN⟩:=so s
 obtain ⟨_,h1,h2,_⟩:=x.bs _ k hk
 have e:walk l b u (s+1)=l[k].f:=Up hk iN
 rw [NL hk iN,e]
 exact ⟨getElem_mem iN,rfl,h1,h2⟩
theorem anm (x:RX l r cur c b tm rd T) {u:Nat} (so:∀s,∃k,b (walk l b u s)=some k/\k<l.length):
  ∀p,((ky l b u p).map cQ.c).sum+c (walk l b u p)<=c u/\(((ky l b u p).map cQ.c).sum+c (walk l b u p)=c u->p=0∨tm (walk l b u p)<tm u)
 | 0=>⟨by simp [ky,walk],λ_=>.inl rfl⟩
 | p+1=>by
  obtain ⟨h1,h2⟩:=anm x so p
  obtain ⟨_,_,_,h3⟩:=x.Bw so p
  rw [anl,List.map_append,List.sum_append]
  simp only [map_cons,List.map_nil,sum_cons,List.sum_nil]
  refine ⟨by omega,λe=>.inr ?_⟩
  rcases h3 with h3 | ⟨h3,h4⟩
  ·omega
  ·rcases h2 (by omega) with h5 | h5
   ·subst h5;simpa [walk] using h4
   ·omega
theorem aJs (x:RX l r cur c b tm rd T) {u p:Nat} (so:∀s,∃k,b (walk l b u s)=some k/\k<l.length) (hp:1<=p) (hu:walk l b u p=u):((ky l b u p).map cQ.c).sum<0:=by
 obtain ⟨h1,h2⟩:=x.anm so p
 rw [hu] at h1 h2
 by_cases e:((ky l b u p).map cQ.c).sum=0
 ·rcases h2 (by omega) with h | h <;> omega
 ·omega
theorem ann (x:RX l r cur c b tm rd T) {u:Nat} (so:∀s,∃k,b (walk l b u s)=some k/\k<l.length) (p:Nat):(ky l b u p).map cQ.t=(List.range p).map (walk l b u):=by
 rw [ky,map_map]
 exact List.map_congr_left λs _=>(x.Bw so s).2.2.1
theorem aJq (x:RX l r cur c b tm rd T) {u:Nat} (so:∀s,∃k,b (walk l b u s)=some k/\k<l.length) (p:Nat):(ky l b u p).map cQ.f=(List.range p).map λs=>walk l b u (s+1):=by
 rw [ky,map_map]
 exact List.map_congr_left λs _=>(x.Bw so s).2.1
theorem aJu (x:RX l r cur c b tm rd T) {u p:Nat} (so:∀s,∃k,b (walk l b u s)=some k/\k<l.length) (hp:1<=p) (hu:walk l b u p=u):((ky l b u p).map cQ.f).Perm ((ky l b u p).map cQ.t):=by
 rw [x.ann so,x.aJq so]
 obtain ⟨q,rfl⟩:∃q,p=q+1:=⟨p-1,by omega⟩
 have e1:(List.range (q+1)).map (λs=>walk l b u (s+1))=(List.range q).map (λs=>walk l b u (s+1))++[u]:=by
  rw [List.range_succ,List.map_append];simp [hu]
 have e2:(List.range (q+1)).map (walk l b u)=u::(List.range q).map λs=>walk l b u (s+1):=by
  rw [List.range_succ_eq_map,map_cons,map_map]
  rfl
 rw [e1,e2]
 exact List.perm_append_singleton _ _
theorem aJr {u p:Nat} (wn:∀s,walk l b u s<n) (hu:walk l b u p=u) (hm:∀q,1<=q->q<p->walk l b u q≠u):p<=n:=by
 refine Nat.le_of_not_lt λaw=>?_
 obtain ⟨s,s',h1,h2,h3⟩:=Un n (walk l b u) λs _=>wn s
 refine hm (s+(p-s')) (by omega) (by omega) ?_
 rw [vQ,h3,<-vQ,show s'+(p-s')=p by omega,hu]
theorem aJt (x:RX l r cur c b tm rd T) {u p:Nat} (so:∀s,∃k,b (walk l b u s)=some k/\k<l.length) (hu:walk l b u p=u) (hm:∀q,1<=q->q<p->walk l b u q≠u):(ky l b u p).Nodup:=by
 have inj:∀s s',s<s'->s'<p->walk l b u s≠walk l b u s':=by
  intro s s' h1 h2 h3
  refine hm (s+(p-s')) (by omega) (by omega) ?_
  rw [vQ,h3,<-vQ,show s'+(p-s')=p by omega,hu]
 have:((ky l b u p).map cQ.t).Nodup:=by
  rw [x.ann so]
  rw [List.Nodup,List.pairwise_map]
  exact List.pairwise_lt_range.imp_of_mem λ{a b'} ha hb gQ=>inj a b' gQ (List.mem_range.1 hb)
 exact (List.pairwise_map.1 this).imp λ{a b'} gQ he=>gQ (by rw [he])
end RX
end
section
def sg (n:Nat) (f:Nat->Int):Int:=((List.range n).map f).sum
theorem UW (f:Nat->Int):sg 0 f=0:=rfl
theorem kG (n:Nat) (f:Nat->Int):sg (n+1) f=sg n f+f n:=by
 simp [sg,List.range_succ]
theorem gn {n:Nat} {f g:Nat->Int} (h:∀i<n,f i=g i):sg n f=sg n g:=by
 induction n with
 | zero=>rfl
 | succ n ih=>rw [kG,kG,ih λi hi=>h i (by omega),h n (by omega)]
theorem oR (n:Nat) (f g:Nat->Int):sg n (λi=>f i+g i)=sg n f+sg n g:=by
 induction n with
 | zero=>rfl
 | succ n ih=>rw [kG,kG,kG,ih];omega
theorem xi (n:Nat) (f g:Nat->Int):sg n (λi=>f i-g i)=sg n f-sg n g:=by
 induction n with
 | zero=>rfl
 | succ n ih=>rw [kG,kG,kG,ih];omega
theorem vL (n:Nat) (c:Int) (f:Nat->Int):sg n (λi=>c*f i)=c*sg n f:=by
 induction n with
 | zero=>simp [UW]
 | succ n ih=>rw [kG,kG,ih,Int.mul_add]
theorem sK {n:Nat} {f g:Nat->Int} (h:∀i<n,f i<=g i):sg n f<=sg n g:=by
 induction n with
 | zero=>exact Int.le_refl _
 | succ n ih=>rw [kG,kG];have:=ih λi hi=>h i (by omega);have:=h n (by omega);omega
theorem mX (n:Nat):sg n (λ_=>0)=0:=by
 induction n with
 | zero=>rfl
 | succ n ih=>rw [kG,ih];rfl
theorem vM {n:Nat} {f:Nat->Int} (h:∀i<n,0<=f i):0<=sg n f:=by
 have:=sK (f:=λ_=>0) (g:=f) h
 rwa [mX] at this
theorem anI (n m:Nat) (f:Nat->Nat->Int):sg n (λi=>sg m λj=>f i j)=sg m λj=>sg n λi=>f i j:=by
 induction n with
 | zero=>simp [UW,mX]
 | succ n ih=>rw [kG,ih,<-oR];exact gn λi _=>(kG n _).symm
theorem sL {n k:Nat} (hk:k<n) (x:Int):sg n (λi=>if i=k then x else 0)=x:=by
 induction n with
 | zero=>omega
 | succ n ih=>
  rw [kG]
  by_cases e:k=n
  ·subst e
   rw [if_pos rfl,gn (g:=λ_=>0) λi hi=>if_neg (by omega),mX];omega
  ·rw [ih (by omega),if_neg (by omega)];omega
theorem DU {n:Nat} {f:Nat->Int} (h:∀i<n,0<=f i) (hs:sg n f<=0):∀i<n,f i=0:=by
 induction n with
 | zero=>intro i hi;omega
 | succ n ih=>
  have h1:=vM λi (hi:i<n)=>h i (by omega)
  have h2:=h n (by omega)
  rw [kG] at hs
  intro i hi
  by_cases e:i=n
  ·subst e;omega
  ·exact ih (λi hi=>h i (by omega)) (by omega) i (by omega)
theorem amH {a b:List Int} (h:a.Perm b):a.sum=b.sum:=by
 induction h with
 | nil=>rfl
 | cons x _ ih=>rw [sum_cons,sum_cons,ih]
 | swap x y l=>simp only [sum_cons];omega
 | trans _ _ h1 h2=>exact h1.trans h2
def di (n:Nat) (R:Nat->Nat->Int) (i:Nat):Int:=sg n λj=>R i j
def nQ (n:Nat) (R:Nat->Nat->Int) (j:Nat):Int:=sg n λi=>R i j
def pF (n:Nat) (R:Nat->Nat->Int):Int:=sg n λi=>di n R i
def ch (ring:List cQ) (x y:Nat):Int:=(ring.map λa=>if x=a.i/\y=a.j then a.c else 0).sum
theorem Cd (x y:Nat):ch [] x y=0:=rfl
theorem Av (a:cQ) (ring:List cQ) (x y:Nat):ch (a::ring) x y=(if x=a.i/\y=a.j then a.c else 0)+ch ring x y:=by simp [ch]
theorem ac8 (a b:List cQ) (x y:Nat):ch (a++b) x y=ch a x y+ch b x y:=by simp [ch]
theorem row_one {n:Nat} {a:cQ} (hj:a.j<n) (x:Nat):sg n (λy=>if x=a.i/\y=a.j then a.c else 0)=if x=a.i then a.c else 0:=by
 by_cases e:x=a.i
 ·rw [if_pos e]
  exact (gn λy _=>by simp [e]).trans (sL hj a.c)
 ·rw [if_neg e]
  exact (gn λy _=>by simp [e]).trans (mX n)
theorem aza {n:Nat} {a:cQ} (hi:a.i<n) (y:Nat):sg n (λx=>if x=a.i/\y=a.j then a.c else 0)=if y=a.j then a.c else 0:=by
 by_cases e:y=a.j
 ·rw [if_pos e]
  exact (gn λx _=>by simp [e]).trans (sL hi a.c)
 ·rw [if_neg e]
  exact (gn λx _=>by simp [e]).trans (mX n)
theorem ada {n:Nat}:∀{ring:List cQ} (_:∀a∈ring,a.i<n/\a.j<n) (x:Nat),di n (ch ring) x=(ring.map λa=>if x=a.i then a.c else 0).sum
 | [],_,x=>mX n
 | a::ring,h,x=>by
  have:=ada (λb hb=>h b (mem_cons_of_mem _ hb)) x
  have e:di n (ch (a::ring)) x=sg n (λy=>(if x=a.i/\y=a.j then a.c else 0)+ch ring x y):=gn λy _=>Av a ring x y
  rw [e,oR,row_one (h a (by simp)).2,map_cons,sum_cons,<-this]
  rfl
theorem ac9 {n:Nat}:∀{ring:List cQ} (_:∀a∈ring,a.i<n/\a.j<n) (y:Nat),nQ n (ch ring) y=(ring.map λa=>if y=a.j then a.c else 0).sum
 | [],_,y=>mX n
 | a::ring,h,y=>by
  have:=ac9 (λb hb=>h b (mem_cons_of_mem _ hb)) y
  have e:nQ n (ch (a::ring)) y=sg n (λx=>(if x=a.i/\y=a.j then a.c else 0)+ch ring x y):=gn λx _=>Av a ring x y
  rw [e,oR,aza (h a (by simp)).1,map_cons,sum_cons,<-this]
  rfl
theorem adb {n:Nat}:∀{ring:List cQ} (_:∀a∈ring,a.i<n/\a.j<n),pF n (ch ring)=(ring.map cQ.c).sum
 | [],_=>by
  have:pF n (ch [])=sg n λ_=>0:=gn λi _=>mX n
  rw [this,mX];rfl
 | a::ring,h=>by
  have ih:=adb λb hb=>h b (mem_cons_of_mem _ hb)
  have e:pF n (ch (a::ring))=sg n (λx=>(if x=a.i then a.c else 0)+di n (ch ring) x):=gn λx _=>by
   show sg n _=_
   rw [gn (λy _=>Av a ring x y),oR,row_one (h a (by simp)).2];rfl
  rw [e,oR,sL (h a (by simp)).1,map_cons,sum_cons,<-ih]
  rfl
theorem ay3 {n:Nat} {ring:List cQ} (h:∀a∈ring,a.i<n/\a.j<n) (hp:(ring.map cQ.f).Perm (ring.map cQ.t)) (v:Nat):di n (ch ring) v=nQ n (ch ring) v:=by
 rw [ada h,ac9 h]
 have e1:∀r:List cQ,(r.map λa=>if v=a.i then a.c else 0).sum-(r.map λa=>if v=a.j then a.c else 0).sum=(r.map λa=>if v=a.f then (1:Int) else 0).sum-(r.map λa=>if v=a.t then (1:Int) else 0).sum:=by
  intro r
  induction r with
  | nil=>rfl
  | cons a r ih=>
   simp only [map_cons,sum_cons]
   have:(if v=a.i then a.c else 0)-(if v=a.j then a.c else 0)=(if v=a.f then (1:Int) else 0)-(if v=a.t then (1:Int) else 0):=by
    unfold cQ.c cQ.f cQ.t
    by_cases hu:a.up=true
    ·simp [hu]
    ·simp [hu];split <;> split <;> omega
   omega
 have e2:(ring.map λa=>if v=a.f then (1:Int) else 0).sum=(ring.map λa=>if v=a.t then (1:Int) else 0).sum:=by
  have:=amH (hp.map λx=>if v=x then (1:Int) else 0)
  rwa [map_map,map_map] at this
 have:=e1 ring
 omega
theorem ade:∀{ring:List cQ} (_:ring.Nodup) (m:Bool->Nat->Nat->Int) (_:∀a∈ring,a.m=m a.up a.i a.j) (x y:Nat),
  (ch ring x y<=if (⟨x,y,true,m true x y⟩:cQ)∈ring then 1 else 0)/\(if (⟨x,y,false,m false x y⟩:cQ)∈ring then -1 else 0)<=ch ring x y
 | [],_,m,_,x,y=>by simp [Cd]
 | a::ring,nd,m,hm,x,y=>by
  obtain ⟨h1,h2⟩:=ade (List.nodup_cons.1 nd).2 m (λb hb=>hm b (mem_cons_of_mem _ hb)) x y
  have hn:=(List.nodup_cons.1 nd).1
  have ha:=hm a (by simp)
  rw [Av]
  by_cases e:x=a.i/\y=a.j
  ·rw [if_pos e]
   obtain ⟨rfl,rfl⟩:=e
   obtain ⟨i,j,up,am⟩:=a
   simp only at ha h1 h2 hn⊢
   cases up
   ·subst ha
    rw [if_neg hn] at h2
    have ec:(⟨i,j,false,m false i j⟩:cQ).c= -1:=rfl
    rw [ec,if_pos (List.mem_cons_self)]
    refine ⟨?_,by omega⟩
    split <;> split at h1 <;> omega
   ·subst ha
    rw [if_neg hn] at h1
    have ec:(⟨i,j,true,m true i j⟩:cQ).c=1:=rfl
    rw [ec,if_pos (List.mem_cons_self)]
    refine ⟨by omega,?_⟩
    split <;> split at h2 <;> omega
  ·rw [if_neg e]
   have n1:∀up,(⟨x,y,up,m up x y⟩:cQ)≠a:=λup h=>e (by rw [<-h];exact ⟨rfl,rfl⟩)
   have f1:∀up,((⟨x,y,up,m up x y⟩:cQ)∈a::ring)=((⟨x,y,up,m up x y⟩:cQ)∈ring):=λup=>by
    simp only [List.mem_cons,n1 up,false_or]
   simp only [f1]
   omega
structure xO (n:Nat) (D R:Nat->Nat->Int):Prop where
 bd:∀i<n,∀j<n,0<=R i j/\R i j<=D i j
 wo:∀v<n,di n R v=nQ n R v
def zp (D R:Nat->Nat->Int) (up:Bool) (i j:Nat):Int:=if up then D i j-R i j else R i j
theorem xO.step {n:Nat} {D R:Nat->Nat->Int} (x:xO n D R) {ring:List cQ} (nd:ring.Nodup) (fG:∀a∈ring,a.i<n/\a.j<n) (hm:∀a∈ring,a.m=zp D R a.up a.i a.j) (hp:(ring.map cQ.f).Perm (ring.map cQ.t))
  (km:(ring.map cQ.c).sum<0) {eR:Int} (h1:1<=eR) (h2:∀a∈ring,eR<=a.m):xO n D (λi j=>R i j+eR*ch ring i j)/\pF n (λi j=>R i j+eR*ch ring i j)<pF n R:=by
 refine ⟨⟨λi hi j hj=>?_,λv hv=>?_⟩,?_⟩
 ·have b:=x.bd i hi j hj
  obtain ⟨u1,u2⟩:=ade nd (zp D R) hm i j
  have hc:ch ring i j= -1∨ch ring i j=0∨ch ring i j=1:=by split at u1 <;> split at u2 <;> omega
  rcases hc with hc | hc | hc
  ·rw [hc] at u2⊢
   by_cases e:(⟨i,j,false,zp D R false i j⟩:cQ)∈ring
   ·have:=h2 _ e
    have this:eR<=R i j:=this
    show 0<=R i j+eR* -1/\R i j+eR* -1<=D i j
    omega
   ·rw [if_neg e] at u2;omega
  ·rw [hc];show 0<=R i j+eR*0/\R i j+eR*0<=D i j;omega
  ·rw [hc] at u1⊢
   by_cases e:(⟨i,j,true,zp D R true i j⟩:cQ)∈ring
   ·have:=h2 _ e
    have this:eR<=D i j-R i j:=this
    show 0<=R i j+eR*1/\R i j+eR*1<=D i j
    omega
   ·rw [if_neg e] at u1;omega
 ·have e1:di n (λi j=>R i j+eR*ch ring i j) v=di n R v+eR*di n (ch ring) v:=by
   show sg n _=_
   rw [oR,vL];rfl
  have e2:nQ n (λi j=>R i j+eR*ch ring i j) v=nQ n R v+eR*nQ n (ch ring) v:=by
   show sg n _=_
   rw [oR,vL];rfl
  rw [e1,e2,x.wo v hv,ay3 fG hp]
 ·have e:pF n (λi j=>R i j+eR*ch ring i j)=pF n R+eR*pF n (ch ring):=by
   have:pF n (λi j=>R i j+eR*ch ring i j)=sg n λi=>di n R i+eR*di n (ch ring) i:=gn λi _=>by
    show sg n _=_
    rw [oR,vL];rfl
   rw [this,oR,vL];rfl
  rw [e,adb fG]
  have:eR*(ring.map cQ.c).sum<=eR* -1:=Int.mul_le_mul_of_nonneg_left (by omega) (by omega)
  omega
theorem xO.zero {n:Nat} {D R:Nat->Nat->Int} (x:xO n D R) (c:Nat->Int) (hc:∀i<n,∀j<n,0<R i j->c i<=c j-1):∀i<n,∀j<n,R i j=0:=by
 have le:pF n R<=sg n λi=>sg n λj=>R i j*(c j-c i):=sK λi hi=>sK λj hj=>by
  have b:=(x.bd i hi j hj).1
  by_cases e:R i j=0
  ·rw [e];simp
  ·have:=hc i hi j hj (by omega)
   have h3:R i j*1<=R i j*(c j-c i):=Int.mul_le_mul_of_nonneg_left (by omega) b
   omega
 have e1:(sg n λi=>sg n λj=>R i j*(c j-c i))=(sg n λi=>sg n λj=>c j*R i j)-sg n λi=>c i*di n R i:=by
  rw [<-xi]
  refine gn λi _=>?_
  rw [show c i*di n R i=sg n λj=>c i*R i j from (vL n (c i) _).symm,<-xi]
  refine gn λj _=>?_
  rw [Int.mul_sub,Int.mul_comm (R i j) (c j),Int.mul_comm (R i j) (c i)]
 have e2:(sg n λi=>sg n λj=>c j*R i j)=sg n λj=>c j*nQ n R j:=by
  rw [anI]
  exact gn λj _=>vL n (c j) _
 have e3:(sg n λj=>c j*nQ n R j)=sg n λi=>c i*di n R i:=gn λv hv=>by rw [x.wo v hv]
 have zL:pF n R<=0:=by rw [e1,e2,e3] at le;omega
 intro i hi j hj
 have h1:=DU (f:=di n R) (λi hi=>vM λj hj=>(x.bd i hi j hj).1) zL i hi
 exact DU (λj hj=>(x.bd i hi j hj).1) (by show di n R i<=0;omega) j hj
end
end Go.Sim
namespace Go.Proofs.YtncaiogfjjepcaaGreat
section
open Go.Sim Go.Sort
variable {h : ae} {K : Value -> ae -> Prop} {n : Nat}
def fQ (n:Nat) (R:Nat->Nat->Int):List (List Int):=(List.range n).map λi=>(List.range n).map (R i)
def iK (n:Nat) (R:Nat->Nat->Int) (i:Nat):List Value:=(List.range n).map λj=>I (R i j)
structure MR (g:ae) (im:Nat) (ids:Nat->Nat) (n:Nat) (R:Nat->Nat->Int):Prop where
 ho:g[im]?=some (.arr 34 ((List.range n).map λi=>sl 3 (ids i) 0 n))
 hr:∀i<n,g[ids i]?=some (.arr 3 (iK n R i))
 inj:∀i<n,∀j<n,ids i=ids j->i=j
 nm:∀i<n,ids i≠im
 n8:n<=8
namespace MR
variable {g : ae} {im : Nat} {ids : Nat -> Nat} {R : Nat -> Nat -> Int}
theorem up {g':ae} (m:MR g im ids n R) (x:EX g g'):MR g' im ids n R:=⟨x.get m.ho,λi hi=>x.get (m.hr i hi),m.inj,m.nm,m.n8⟩
theorem eK {i:Nat} (hi:i<n):aD 1 (sl 34 im 0 n) (I i)=some (pt im i):=jL hi
theorem ND {i j:Nat} (hj:j<n):aD 1 (sl 3 (ids i) 0 n) (I j)=some (pt (ids i) j):=jL hj
theorem ld (m:MR g im ids n R) {i:Nat} (hi:i<n):af false 1 g (pt im i)=some (sl 3 (ids i) 0 n):=by
 simp [af,bw,m.ho,dS,hi]
theorem jI (m:MR g im ids n R) {i j:Nat} (hi:i<n) (hj:j<n):af false 1 g (pt (ids i) j)=some (I (R i j)):=by
 simp [af,bw,m.hr i hi,dS,hj,iK]
theorem cells (m:MR g im ids n R) {i:Nat} (hi:i<n):fx g 1 (sl 3 (ids i) 0 n)=some (iK n R i):=by
 simp only [fx,sl,bw,m.hr i hi,bind_some]
 rw [if_neg (by omega),if_pos (by simp [iK]),List.drop_zero,List.take_of_length_le (by simp [iK])]
theorem mi (m:MR g im ids n R):MI g (sl 34 im 0 n) (fQ n R):=by
 have n8:=m.n8
 refine ⟨by simp [fQ];rfl,λi hi=>?_⟩
 have iM:i<n:=by simpa [fQ] using hi
 refine ⟨im,i,sl 3 (ids i) 0 n,eK iM,m.ld iM,?_⟩
 have e:(fQ n R)[i]=(List.range n).map (R i):=by simp [fQ]
 rw [e]
 have:=NS.arr (k:=.i64) (ns:=(List.range n).map (R i)) (h:=g) (e:=3) (i:=ids i) (by rw [m.hr i iM,iK,map_map];rfl) (by simp [maxLen];omega)
 simpa using this
end MR
theorem C51 {eX:Nat} {iP:Nat->Nat} {D:Nat->Nat->Int} (m:MR h eX iP n D) (hn:1<=n)
  (hk:∀g im ids,EX h g->h.length<=im->(∀i<n,h.length<=ids i)->MR g im ids n D->K (sl 34 im 0 n) g):ay prog 51 [sl 34 eX 0 n] h K:=by
 have n8:=m.n8
 refine f51 ?_
 unfold MS
 have l0:aT (sl 34 eX 0 n)=some (I n):=rfl
 have mk:eM 34 24 [(.slice none 0 0)] h (I n) (I n)=some (sl 34 h.length 0 n,h++[.arr 34 (bE [.slice none 0 0] n)]):=by
  simp only [eM]
  rw [if_pos (by omega)]
  simp
 simp only [l0,ah,mk,aL]
 have zr:bE [(.slice none 0 0)] n=(List.range n).map λi=>if i<0 then sl 3 0 0 n else (Value.slice none 0 0):=by
  simp [bE]
  rw [List.map_const'];simp
 have x1:EX h (h++[.arr 34 (bE [.slice none 0 0] n)]):=EX.append _ _
 have c1:(h++[az.arr 34 (bE [.slice none 0 0] n)])[h.length]?=some (.arr 34 (bE [.slice none 0 0] n)):=bK
 generalize uX:h++[az.arr 34 (bE [.slice none 0 0] n)]=g1 at x1 c1⊢
 have gl1:g1.length=h.length+1:=by rw [<-uX];simp
 refine cN (σ:=Nat×(Nat->Nat)×ae) (λq=>[I q.1]) (λq=>q.2.2) (λq=>q.1<=n/\EX h q.2.2/\q.2.2[h.length]?=some (.arr 34 ((List.range n).map λi=>if i<q.1 then sl 3 (q.2.1 i) 0 n else .slice none 0 0))/\
   (∀i<q.1,h.length<q.2.1 i/\q.2.2[q.2.1 i]?=some (.arr 3 (iK n D i)))/\∀i<q.1,∀j<q.1,q.2.1 i=q.2.1 j->i=j) (λq=>n-q.1)
  (0,λ_=>0,g1) rfl rfl ⟨zero_le _,x1,by rw [c1,zr],λi hi=>absurd hi (Nat.not_lt_zero _),λi hi=>absurd hi (Nat.not_lt_zero _)⟩ ?_
 rintro ⟨i,ids,g⟩ ⟨hi,xg,hc,mR,inj⟩ L hL
 simp only at hi xg hc mR inj hL⊢
 rw [aHn]
 simp only [bW,ah,ca]
 refine ⟨λaw=>?_,λcJ=>?_⟩
 ·have aw:i<n:=by omega
  have mg:=m.up xg
  have l2:aT (sl 3 (iP i) 0 n)=some (I n):=rfl
  have sF:eM 3 8 [(.int .i64 (0))] g (I n) (I n)=some (sl 3 g.length 0 n,g++[.arr 3 (bE [.int .i64 (0)] n)]):=by
   simp only [eM]
   rw [if_pos (by omega)]
   simp
  have x2:EX g (g++[.arr 3 (bE [.int .i64 (0)] n)]):=EX.append _ _
  have c2:(g++[az.arr 3 (bE [.int .i64 (0)] n)])[g.length]?=some (.arr 3 (bE [.int .i64 (0)] n)):=bK
  have AM:=x2.get hc
  have hlen:=(cm hc).1
  have st:=kz AM (o:=i) (v:=sl 3 g.length 0 n) (by simpa using aw) rfl rfl
  simp only [MR.eK aw,mg.ld aw,l2,ah,sF,aL,st]
  have e3:((List.range n).map λk=>if k<i then sl 3 (ids k) 0 n else (Value.slice none 0 0)).set i (sl 3 g.length 0 n)=(List.range n).map λk=>if k<i+1 then sl 3 (dU ids i g.length k) 0 n else .slice none 0 0:=by
   refine List.ext_getElem (by simp) λk h1 h2=>?_
   rw [List.getElem_set]
   simp only [List.getElem_map,List.getElem_range]
   by_cases e:i=k
   ·subst e;rw [if_pos rfl,if_pos (by omega),fL]
   ·rw [if_neg e,ez _ _ (Ne.symm e)]
    by_cases h3:k<i
    ·rw [if_pos h3,if_pos (by omega)]
    ·rw [if_neg h3,if_neg (by omega)]
  rw [e3]
  have hz:(bE [(.int .i64 (0))] n:List Value).length=n:=by simp [bE]
  have x3:EX h ((g++[az.arr 3 (bE [.int .i64 (0)] n)]).set h.length (.arr 34 ((List.range n).map λk=>if k<i+1 then sl 3 (dU ids i g.length k) 0 n else .slice none 0 0))):=(xg.trans x2).set (le_refl _) _
  have c3:((g++[az.arr 3 (bE [.int .i64 (0)] n)]).set h.length (.arr 34 ((List.range n).map λk=>if k<i+1 then sl 3 (dU ids i g.length k) 0 n else .slice none 0 0)))[h.length]?=some (.arr 34 ((List.range n).map λk=>if k<i+1 then sl 3 (dU ids i g.length k) 0 n else .slice none 0 0)):=by
   rw [getElem?_set_self (by simp;omega)]
  have d3:((g++[az.arr 3 (bE [.int .i64 (0)] n)]).set h.length (.arr 34 ((List.range n).map λk=>if k<i+1 then sl 3 (dU ids i g.length k) 0 n else .slice none 0 0)))[g.length]?=some (.arr 3 (bE [.int .i64 (0)] n)):=by
   rw [getElem?_set_ne (by omega)];exact c2
  have o3:∀d,d<g.length->d≠h.length->((g++[az.arr 3 (bE [.int .i64 (0)] n)]).set h.length (.arr 34 ((List.range n).map λk=>if k<i+1 then sl 3 (dU ids i g.length k) 0 n else .slice none 0 0)))[d]?=g[d]?:=λd h1 h2=>by
   rw [getElem?_set_ne (Ne.symm h2),List.getElem?_append_left h1]
  have l3:((g++[az.arr 3 (bE [.int .i64 (0)] n)]).set h.length (.arr 34 ((List.range n).map λk=>if k<i+1 then sl 3 (dU ids i g.length k) 0 n else .slice none 0 0))).length=g.length+1:=by simp
  generalize (g++[az.arr 3 (bE [.int .i64 (0)] n)]).set h.length (.arr 34 ((List.range n).map λk=>if k<i+1 then sl 3 (dU ids i g.length k) 0 n else .slice none 0 0))=g3 at x3 c3 d3 o3 l3⊢
  have rD:af false 1 g3 (pt h.length i)=some (sl 3 g.length 0 n):=by
   simp [af,bw,c3,dS,aw,fL]
  have cp:sv g3 (sl 3 g.length 0 n) (sl 3 (iP i) 0 n)=some (I n,g3.set g.length (.arr 3 (iK n D i))):=by
   have sc:=(m.up x3).cells aw
   simp only [sv,sc]
   simp only [iY,sl,d3]
   rw [if_neg (by simp;omega),if_pos (by rw [hz];simp)]
   have e1:(iK n D i).take (Nat.min n n)=iK n D i:=List.take_of_length_le (by simp [iK])
   have e2:setAt (bE [(.int .i64 (0))] n:List Value) 0 (iK n D i)=iK n D i:=by
    unfold setAt
    have:(iK n D i).length=n:=by simp [iK]
    rw [List.take_zero,this,List.nil_append,List.drop_of_length_le (by omega),List.append_nil]
   rw [e1,e2]
   simp
  simp only [rD,cp,ah,aL,b7,true_and]
  rw [dP i (by simp [maxLen];omega)]
  have old:∀k<i,ids k<g.length:=λk hk=>(cm (mR k hk).2).1
  refine hL (i+1,dU ids i g.length,g3.set g.length (.arr 3 (iK n D i))) ⟨aw,x3.set (by omega) _,?_,λk hk=>?_,λk hk j hj e=>?_⟩ (by show n-(i+1)<n-i;omega)
  ·show (g3.set g.length _)[h.length]?=_
   rw [getElem?_set_ne (by omega)];exact c3
  ·show h.length<dU ids i g.length k/\(g3.set g.length (az.arr 3 (iK n D i)))[dU ids i g.length k]?=some (.arr 3 (iK n D k))
   by_cases e:k=i
   ·subst e
    rw [fL,getElem?_set_self (by omega)]
    exact ⟨hlen,rfl⟩
   ·have mD:k<i:=by have:k<i+1:=hk;omega
    have:=old k mD
    rw [ez _ _ e,getElem?_set_ne (by omega),o3 _ this (by have:=(mR k mD).1;omega)]
    exact mR k mD
  ·have hk:k<i+1:=hk
   have hj:j<i+1:=hj
   have e:dU ids i g.length k=dU ids i g.length j:=e
   by_cases e1:k=i <;> by_cases e2:j=i
   ·omega
   ·subst e1
    rw [fL,ez _ _ e2] at e
    have:=old j (by omega);omega
   ·subst e2
    rw [fL,ez _ _ e1] at e
    have:=old k (by omega);omega
   ·rw [ez _ _ e1,ez _ _ e2] at e
    exact inj k (by omega) j (by omega) e
 ·have fG:i=n:=by omega
  subst fG
  rw [aHm]
  refine hk g h.length ids xg (le_refl _) (λk hk=>Nat.le_of_lt (mR k hk).1) ⟨?_,λk hk=>(mR k hk).2,inj,λk hk=>by have:=(mR k hk).1;omega,n8⟩
  rw [hc]
  congr 2
  exact List.map_congr_left λk hk=>if_pos (List.mem_range.1 hk)
end
section
open Go.Sim Go.Sort
variable {h : ae} {K : Value -> ae -> Prop} {n : Nat}
def hZ (ids:Nat->Nat) (a:cQ):List Value:=[I a.f,I a.t,I a.c,I a.m,pt (ids a.i) a.j]
def kK (ids:Nat->Nat) (l:List cQ):List Value:=(l.map (hZ ids)).flatten
theorem X5 (ids:Nat->Nat) (a b:List cQ):kK ids (a++b)=kK ids a++kK ids b:=by simp [kK]
theorem X7 (ids:Nat->Nat) (a:cQ):kK ids [a]=hZ ids a:=by simp [kK]
def PM (n:Nat) (D R:Nat->Nat->Int) (a:cQ):Prop:=a.i<n/\a.j<n/\a.m=zp D R a.up a.i a.j/\0<a.m
structure AL (n:Nat) (D R:Nat->Nat->Int) (l:List cQ) (i j:Nat):Prop where
 gd:∀a∈l,PM n D R a
 yb:∀x<n,∀y<n,(x<i∨(x=i/\y<j))->0<R x y->(⟨x,y,false,R x y⟩:cQ)∈l
 le:l.length<=2*(n*i+j)
theorem ar5 (x:Value) (a b c d:Int) (hx:fV x=true) (hv:dL x=[x]):eG [(.int .i64 (0)),(.int .i64 (0)),(.int .i64 (0)),(.int .i64 (0)),(.pointer none)] [(0,1,I a),(1,1,I b),(2,1,I c),(3,1,I d),(4,1,x)]=some (.agg #[I a,I b,I c,I d,x]):=by
 simp [eG,jC,setAt,hx,hv]
 simp [fV,dL,Value.cells]
theorem aDa (g:ae) (cs:List Value) (a b c d e:Value) (he:cs=[a,b,c,d,e]) (hn:fV (.agg cs.toArray)=true):cH 119 1 [(.int .i64 (0)),(.int .i64 (0)),(.int .i64 (0)),(.int .i64 (0)),(.pointer none)] g [(0,5,.agg cs.toArray)]=some (sl 119 g.length 0 1,g++[.arr 119 cs]):=by
 subst he
 simp [cH,jC,bE,setAt,hn,dL,Value.cells]
theorem Yh (ids:Nat->Nat) (a:cQ):eG [(.int .i64 (0)),(.int .i64 (0)),(.int .i64 (0)),(.int .i64 (0)),(.pointer none)] [(0,1,I a.f),(1,1,I a.t),(2,1,I a.c),(3,1,I a.m),(4,1,pt (ids a.i) a.j)]=some (.agg (hZ ids a).toArray):=
 ar5 _ _ _ _ _ rfl rfl
theorem agj (ids:Nat->Nat) (a:cQ) (g:ae):cH 119 1 [(.int .i64 (0)),(.int .i64 (0)),(.int .i64 (0)),(.int .i64 (0)),(.pointer none)] g [(0,5,.agg (hZ ids a).toArray)]=some (sl 119 g.length 0 1,g++[.arr 119 (hZ ids a)]):=
 aDa g (hZ ids a) _ _ _ _ _ rfl (by simp [fV])
theorem C53 {eX oI:Nat} {iP iQ:Nat->Nat} {D R:Nat->Nat->Int} (md:MR h eX iP n D) (mr:MR h oI iQ n R) (hn:1<=n) (hD:∀i<n,∀j<n,0<=R i j/\R i j<=D i j/\D i j<=1000)
  (hk:∀v g l,EX h g->AL n D R l n 0->fq h.length g 119 5 v l.length (kK iQ l)->K v g):ay prog 53 [sl 34 eX 0 n,sl 34 oI 0 n] h K:=by
 have n8:=md.n8
 refine f53 ?_
 unfold MU
 have l0:aT (sl 34 oI 0 n)=some (I n):=rfl
 simp only [l0,ah]
 refine cN (σ:=Nat×Value×List cQ×ae) (λq=>[q.2.1,I q.1]) (λq=>q.2.2.2) (λq=>q.1<=n/\EX h q.2.2.2/\AL n D R q.2.2.1 q.1 0/\fq h.length q.2.2.2 119 5 q.2.1 q.2.2.1.length (kK iQ q.2.2.1)) (λq=>n-q.1)
  (0,.slice none 0 0,[],h) rfl rfl ⟨zero_le _,EX.refl _,⟨λa ha=>absurd ha (by simp),λx hx y hy hh=>by omega,by simp⟩,fq.nil _ _ _ _⟩ ?_
 rintro ⟨i,vo,l,g⟩ ⟨hi,xg,al,own⟩ L1 lD
 simp only at hi xg al own lD⊢
 rw [aHB]
 simp only [bW,ah,ca]
 refine ⟨λaw=>?_,λcJ=>?_⟩
 ·have aw:i<n:=by omega
  simp only [l0,ah]
  refine cN (σ:=Nat×Value×List cQ×ae) (λq=>[q.2.1,I q.1]) (λq=>q.2.2.2) (λq=>q.1<=n/\EX h q.2.2.2/\AL n D R q.2.2.1 i q.1/\fq h.length q.2.2.2 119 5 q.2.1 q.2.2.1.length (kK iQ q.2.2.1)) (λq=>n-q.1)
   (0,vo,l,g) rfl rfl ⟨zero_le _,xg,al,own⟩ ?_
  rintro ⟨j,vo,l,g⟩ ⟨hj,xg,al,own⟩ L2 dO
  simp only at hj xg al own dO⊢
  rw [aHw]
  simp only [bW,ah,ca]
  refine ⟨λdR=>?_,λcJ=>?_⟩
  ·have dR:j<n:=by omega
   have b:=hD i aw j dR
   have nn:n*i+n<=n*n:=by have:=Nat.mul_le_mul_left n (show i+1<=n by omega);rw [Nat.mul_add] at this;omega
   have n64:n*n<=64:=Nat.mul_le_mul (show n<=8 by omega) (show n<=8 by omega)
   have one:∀(a:cQ) (vo:Value) (l:List cQ) (g:ae) (K':Value->ae->Prop),EX h g->fq h.length g 119 5 vo l.length (kK iQ l)->l.length<=200->(∀v' g',EX h g'->fq h.length g' 119 5 v' (l++[a]).length (kK iQ (l++[a]))->K' v' g')->
     OH (cH 119 1 [(.int .i64 (0)),(.int .i64 (0)),(.int .i64 (0)),(.int .i64 (0)),(.pointer none)] g [(0,5,.agg (hZ iQ a).toArray)]) λx h1=>OH (cT 119 5 40 h1 vo x) K':=by
    intro a vo l g K' xg own hl fN
    simp only [agj,aL]
    have x2:EX g (g++[.arr 119 (hZ iQ a)]):=EX.append _ _
    refine fq.app (own.up x2) (xg.trans x2) bK rfl (by omega) (by omega) (by omega) ?_
    intro v' g' x' _ _ qA _
    refine fN v' g' x' ?_
    rw [X5,X7,List.length_append]
    exact qA
   have fin:∀(vo:Value) (l:List cQ) (g:ae),EX h g->AL n D R l i (j+1)->fq h.length g 119 5 vo l.length (kK iQ l)->Ju prog K (sl 34 eX 0 n) (sl 34 oI 0 n) vo (I i) (I n) (I i) (I n) (I j) L1 L2 g:=by
    intro vo l g xg al own
    rw [aHy]
    simp only [b7,ah,true_and]
    rw [dP j (by simp [maxLen];omega)]
    exact dO (j+1,vo,l,g) ⟨dR,xg,al,own⟩ (by show n-(j+1)<n-j;omega)
   have two:∀(vo:Value) (l:List cQ) (g:ae),EX h g->(∀a∈l,PM n D R a)->(∀x<n,∀y<n,(x<i∨(x=i/\y<j))->0<R x y->(⟨x,y,false,R x y⟩:cQ)∈l)->l.length<=2*(n*i+j)+1->fq h.length g 119 5 vo l.length (kK iQ l)->
     Jt prog K (sl 34 eX 0 n) (sl 34 oI 0 n) vo (I i) (I j) (I n) (I i) (I n) (I j) L1 L2 g:=by
    intro vo l g xg gd yb le own
    rw [aHx]
    simp only [MR.eK aw,(mr.up xg).ld aw,MR.ND dR,(mr.up xg).jI aw dR,ah,iS,gY]
    by_cases h1:0<R i j
    ·rw [dh h1]
     simp only [gf]
     have ba:=Yh iQ ⟨i,j,false,R i j⟩
     simp only [cQ.f,cQ.t,cQ.c,Bool.false_eq_true,if_false] at ba
     simp only [ba,ah]
     refine one ⟨i,j,false,R i j⟩ vo l g _ xg own (by omega) λv' g' x' qA=>?_
     refine fin v' _ g' x' ⟨λa ha=>?_,λx hx y hy hh hp=>?_,by simp;omega⟩ qA
     ·rcases List.mem_append.1 ha with ha | ha
      ·exact gd a ha
      ·rw [List.mem_singleton.1 ha];exact ⟨aw,dR,rfl,h1⟩
     ·by_cases e:x=i/\y=j
      ·obtain ⟨rfl,rfl⟩:=e;simp
      ·exact List.mem_append_left _ (yb x hx y hy (by omega) hp)
    ·rw [bX h1]
     simp only [dm]
     refine fin vo l g xg ⟨gd,λx hx y hy hh hp=>?_,by omega⟩ own
     by_cases e:x=i/\y=j
     ·obtain ⟨rfl,rfl⟩:=e;exact absurd hp h1
     ·exact yb x hx y hy (by omega) hp
   simp only [MR.eK aw,(mr.up xg).ld aw,MR.ND dR,(mr.up xg).jI aw dR,(md.up xg).ld aw,(md.up xg).jI aw dR,ah,iS,bW,true_and]
   by_cases h1:R i j<D i j
   ·rw [dh h1]
    have sb:IntKind.wrap .i64 (D i j-R i j)=D i j-R i j:=wrap64 (by omega) (by omega)
    simp only [gf,ah,iD,sb]
    have ba:=Yh iQ ⟨i,j,true,D i j-R i j⟩
    simp only [cQ.f,cQ.t,cQ.c,if_true] at ba
    simp only [ba,ah]
    refine one ⟨i,j,true,D i j-R i j⟩ vo l g _ xg own (by have:=al.le;omega) λv' g' x' qA=>?_
    refine two v' _ g' x' (λa ha=>?_) (λx hx y hy hh hp=>List.mem_append_left _ (al.yb x hx y hy hh hp)) (by have:=al.le;simp;omega) qA
    rcases List.mem_append.1 ha with ha | ha
    ·exact al.gd a ha
    ·rw [List.mem_singleton.1 ha];exact ⟨aw,dR,rfl,by show 0<D i j-R i j;omega⟩
   ·rw [bX h1]
    simp only [dm]
    exact two vo l g xg al.gd al.yb (by have:=al.le;omega) own
  ·have kQ:j=n:=by omega
   subst kQ
   rw [aHz]
   simp only [b7,ah,true_and]
   rw [dP i (by simp [maxLen];omega)]
   refine lD (i+1,vo,l,g) ⟨aw,xg,⟨al.gd,λx hx y hy hh hp=>al.yb x hx y hy (by omega) hp,?_⟩,own⟩ (by show j-(i+1)<j-i;omega)
   have:=al.le
   show l.length<=2*(j*(i+1)+0)
   rw [Nat.mul_add];omega
 ·have fG:i=n:=by omega
  subst fG
  rw [aHA]
  exact hk vo g l xg al own
end
section
open Go.Sim
variable (P : Program) (K : VK)
noncomputable section
variable (m0 x1 x2 x7 x8 fK lR w9 i13 bP bQ dY dj gy cK dB gW ka jT iT : Value) (L1 L2 : LQ) (xs : List Value) (h : ae)
def ahT:=cg prog 54 [[],[],[],[],[0,1,2,7,26],[8,27],[],[],[],[],[],[],[0,1,2,7,8,26,27],[0,7,8],[],[],[],[0,7,8,10,69,70],[11,71],[],[],[],[],[],[0,7,8,10,11,12,13,69,70,71,81,82],[83],[],[],[],[],[0,7,8,10,11,13,69,70,71],[0,7,8,10,11,69,70,71],[7,8,10,11],[],[7,8,108,109],[110],[],[],[],[],[7],[]]
@[irreducible] def GK:=cD ahT
@[irreducible] def abI:=GK.r.r.r.l.r.l.l
@[irreducible] def abG:=GK.r.r.r.r
@[irreducible] def axu:=abI.r.r.r.l
@[irreducible] def Oy:=abG.l
@[irreducible] def GL:=Oy.r.r.l.r.l.l
@[irreducible] def abD:=Oy.r.r.r
@[irreducible] def axv:=GL.r.r.l.l.r.r.l.r.l.l
@[irreducible] def abF:=GL.r.r.l.l.r.r.r
@[irreducible] def abE:=GL.r.r.r
@[irreducible] def Oz:=abD.l
@[irreducible] def axw:=abF.l
@[irreducible] def axx:=abE.l
@[irreducible] def axy:=Oz.l.r.l.l
@[irreducible] def abH:=Oz.r
@[irreducible] def axz:=abH.l
theorem k54:ahT=some (124,GK,[.tmp 6]):=by kernel_rfl
def uw (_P:Program) (K:VK):ax:=aW [.tmp 6] K
def asy:ax:=aH (au P abG (uw P K)) (uw P K)
def asD:ax:=bC 0 (asy P K)
def Xy:ax:=aH (λf' aQ=>(([0,1,2,7,26]:List Nat).map f':List Value)=[m0,x1,x2,x7,bP]/\L1 (([8,27]:List Nat).map f') aQ) (asD P K)
def ass:ax:=aH (au P abD (uw P K)) (uw P K)
def ast:ax:=bC 3 (ass P K)
def Fb:ax:=aH (λf' aQ=>(([0,7,8,10,69,70]:List Nat).map f':List Value)=[m0,x7,x8,fK,dY,dj]/\L1 (([11,71]:List Nat).map f') aQ) (ast P K)
def asu:ax:=aH (au P abE (Fb P K m0 x7 x8 fK dY dj L1)) (Fb P K m0 x7 x8 fK dY dj L1)
def Lg:ax:=bC 4 (asu P K m0 x7 x8 fK dY dj L1)
def asv:ax:=aH (au P abF (Lg P K m0 x7 x8 fK dY dj L1)) (Lg P K m0 x7 x8 fK dY dj L1)
def asw:ax:=bC 5 (asv P K m0 x7 x8 fK dY dj L1)
def asx:ax:=aH (λf' aQ=>(([0,7,8,10,11,12,13,69,70,71,81,82]:List Nat).map f':List Value)=[m0,x7,x8,fK,lR,w9,i13,dY,dj,gy,cK,dB]/\L2 (([83]:List Nat).map f') aQ) (asw P K m0 x7 x8 fK dY dj L1)
def asA:ax:=aH (au P abH (uw P K)) (uw P K)
def asB:ax:=bC 7 (asA P K)
def asC:ax:=aH (λf' aQ=>(([7,8,108,109]:List Nat).map f':List Value)=[x7,x8,ka,jT]/\L1 (([110]:List Nat).map f') aQ) (asB P K)
def alr:Prop:=aA (au P abI (Xy P K m0 x1 x2 x7 bP L1)) ([0,1,2,7,26]++[8,27]) ([m0,x1,x2,x7,bP]++xs) h
def DG:Prop:=aA (au P axu (Xy P K m0 x1 x2 x7 bP L1)) [0,1,2,7,8,26,27] [m0,x1,x2,x7,x8,bP,bQ] h
def TF:Prop:=aA (au P Oy (uw P K)) [0,7,8] [m0,x7,x8] h
def alo:Prop:=aA (au P GL (Fb P K m0 x7 x8 fK dY dj L1)) ([0,7,8,10,69,70]++[11,71]) ([m0,x7,x8,fK,dY,dj]++xs) h
def TH:Prop:=aA (au P axv (asx P K m0 x7 x8 fK lR w9 i13 dY dj gy cK dB L1 L2)) ([0,7,8,10,11,12,13,69,70,71,81,82]++[83]) ([m0,x7,x8,fK,lR,w9,i13,dY,dj,gy,cK,dB]++xs) h
def TI:Prop:=aA (au P axw (Lg P K m0 x7 x8 fK dY dj L1)) [0,7,8,10,11,13,69,70,71] [m0,x7,x8,fK,lR,i13,dY,dj,gy] h
def TJ:Prop:=aA (au P axx (Fb P K m0 x7 x8 fK dY dj L1)) [0,7,8,10,11,69,70,71] [m0,x7,x8,fK,lR,dY,dj,gy] h
def alp:Prop:=aA (au P Oz (uw P K)) [7,8,10,11] [x7,x8,fK,lR] h
def TK:Prop:=aA (au P axy (asC P K x7 x8 ka jT L1)) ([7,8,108,109]++[110]) ([x7,x8,ka,jT]++xs) h
def alq:Prop:=aA (au P axz (uw P K)) [7] [x7] h
theorem aHC:DG P K m0 x1 x2 x7 x8 bP bQ L1 h=
 (OP (aj .add bQ (.int .i64 (1))) λhI=>
 ([m0,x1,x2,x7,bP]:List Value)=[m0,x1,x2,x7,bP]/\L1 [x8,hI] h):=aB (by kernel_rfl)
theorem aHL (m0 x1 x2 x7 bP:Value) (L1:LQ) (x8 bQ:Value) (h:ae):alr P K m0 x1 x2 x7 bP L1 [x8,bQ] h=
 (OP (aj .lss bQ bP) λcL=>
 aJ cL
 (OP (aD 1 x1 bQ) λcP=>
 OP (af false 1 h cP) λdC=>
 aJ dC
 (OH (cH 3 1 [(.int .i64 (0))] h [(0,1,bQ)]) λfD z1=>
 OH (cT 3 1 8 z1 x8 fD) λfX z2=>
 ay P 34 [(.int .i64 (0))] z2 λfI z3=>
 OP (aD 4 x7 bQ) λfg=>
 OH (aU 4 z3 fg fI) λ_ z4=>
 DG P K m0 x1 x2 x7 fX bP bQ L1 z4)
 (OP (aD 1 x2 bQ) λfY=>
 OP (af false 1 h fY) λfS=>
 aJ fS
 (ay P 34 [(.int .i64 (0))] h λfT z1=>
 OP (aD 4 x7 bQ) λiV=>
 OH (aU 4 z1 iV fT) λ_ z2=>
 DG P K m0 x1 x2 x7 x8 bP bQ L1 z2)
 (OP (eI m0) λbZ=>
 OP (aF 3 bZ) λcA=>
 OP (af false 1 h cA) λcB=>
 OP (aD 1 cB bQ) λbG=>
 OP (af false 1 h bG) λdH=>
 ay P 34 [dH] h λdW z1=>
 OP (aD 4 x7 bQ) λcI=>
 OH (aU 4 z1 cI dW) λ_ z2=>
 DG P K m0 x1 x2 x7 x8 bP bQ L1 z2)))
 (TF P K m0 x7 x8 h)):=aB (by kernel_rfl)
theorem aHF (m0 x7 x8 fK lR w9 i13 dY dj gy cK dB:Value) (L1 L2:LQ) (gW:Value) (h:ae):TH P K m0 x7 x8 fK lR w9 i13 dY dj gy cK dB L1 L2 [gW] h=
 (OP (aj .lss gW dB) λgJ=>
 aJ gJ
 (OP (aD 1 cK gW) λjV=>
 OP (af false 1 h jV) λkh=>
 ay P 66 [m0,kh,i13] h λeZ z1=>
 ay P 67 [eZ] z1 λfv z2=>
 ay P 79 [fK,w9,gW,fv] z2 λ_ z3=>
 OP (aj .add gW (.int .i64 (1))) λEv=>
 ([m0,x7,x8,fK,lR,w9,i13,dY,dj,gy,cK,dB]:List Value)=[m0,x7,x8,fK,lR,w9,i13,dY,dj,gy,cK,dB]/\L2 [Ev] z3)
 (TI P K m0 x7 x8 fK lR i13 dY dj gy L1 h)):=aB (by kernel_rfl)
theorem aHG:TI P K m0 x7 x8 fK lR i13 dY dj gy L1 h=
 (ay P 38 [m0,i13,x7] h λgG z1=>
 OH (cH 92 1 [(.bool false),(.slice none 0 0),(.bool false),(.slice none 0 0)] z1 [(0,4,gG)]) λfH z2=>
 OH (cT 92 4 64 z2 lR fH) λlM z3=>
 TJ P K m0 x7 x8 fK lM dY dj gy L1 z3):=aB (by kernel_rfl)
theorem aHH:TJ P K m0 x7 x8 fK lR dY dj gy L1 h=
 (OP (aj .add gy (.int .i64 (1))) λvS=>
 ([m0,x7,x8,fK,dY,dj]:List Value)=[m0,x7,x8,fK,dY,dj]/\L1 [lR,vS] h):=aB (by kernel_rfl)
theorem aHE (m0 x7 x8 fK dY dj:Value) (L1:LQ) (lR gy:Value) (h:ae):alo P K m0 x7 x8 fK dY dj L1 [lR,gy] h=
 (OP (aj .lss gy dj) λog=>
 aJ og
 (OP (aD 1 dY gy) λiW=>
 OP (af false 1 h iW) λfE=>
 ay P 34 [(.int .i64 (1))] h λlN z1=>
 ay P 79 [fK,gy,gy,lN] z1 λ_ z2=>
 OP (aT x8) λdB=>
 bT [(.int .i64 (0))] z2 λL2 xs hx=>
 TH P K m0 x7 x8 fK lR gy fE dY dj gy x8 dB L1 L2 xs hx)
 (alp P K x7 x8 fK lR h)):=aB (by kernel_rfl)
theorem aHJ (x7 x8 ka jT:Value) (L1:LQ) (iT:Value) (h:ae):TK P K x7 x8 ka jT L1 [iT] h=
 (OP (aj .lss iT jT) λoU=>
 aJ oU
 (OP (aD 4 ka iT) λvT=>
 OP (af true 4 h vT) λdV=>
 OH (cF 92 [(.bool false),(.slice none 0 0),(.bool false),(.slice none 0 0)] h) λbM z1=>
 OH (aU 4 z1 bM dV) λ_ z2=>
 OP (aD 1 x8 iT) λnh=>
 OP (af false 1 z2 nh) λui=>
 (True)/\
 OP (af true 4 z2 bM) λmf=>
 (True)/\
 OP (aD 4 x7 ui) λvU=>
 OH (aU 4 z2 vU mf) λ_ z3=>
 (True)/\
 OP (aj .add iT (.int .i64 (1))) λrM=>
 ([x7,x8,ka,jT]:List Value)=[x7,x8,ka,jT]/\L1 [rM] z3)
 (alq P K x7 h)):=aB (by kernel_rfl)
theorem aHK:alq P K x7 h=
 (K x7 h):=aB (by kernel_rfl)
theorem aHI:alp P K x7 x8 fK lR h=
 (ay P 80 [fK,lR] h λka z1=>
 OP (aT ka) λjT=>
 bT [(.int .i64 (0))] z1 λL1 xs hx=>
 TK P K x7 x8 ka jT L1 xs hx):=aB (by kernel_rfl)
theorem aHD:TF P K m0 x7 x8 h=
 (OP (aT x8) λjy=>
 OP (aT x8) λgw=>
 ay P 78 [jy,gw] h λfA z1=>
 OP (aT x8) λdj=>
 bT [(.slice none 0 0),(.int .i64 (0))] z1 λL1 xs hx=>
 alo P K m0 x7 x8 fA x8 dj L1 xs hx):=aB (by kernel_rfl)
def MV:Prop:=
 OP (eI m0) λaR=>
 OP (aF 0 aR) λaI=>
 OP (af false 1 h aI) λaS=>
 OH (eM 92 64 [(.bool false),(.slice none 0 0),(.bool false),(.slice none 0 0)] h aS aS) λbL z1=>
 OP (eI m0) λbm=>
 OP (aF 0 bm) λbH=>
 OP (af false 1 z1 bH) λbP=>
 bT [(.slice none 0 0),(.int .i64 (0))] z1 λL1 xs hx=>
 alr P K m0 x1 x2 bL bP L1 xs hx
theorem e54:au P GK (aW [.tmp 6] K) (cd [m0,x1,x2]) h=MV P K m0 x1 x2 h:=by kernel_rfl
theorem f54 {K:VK} {m0 x1 x2:Value} {h:ae} (H:MV prog K m0 x1 x2 h):ay prog 54 [m0,x1,x2] h K:=
 cC k54 (cE rfl) ((e54 prog K m0 x1 x2 h).mpr H)
end
noncomputable section
variable (x0 x1 x6 x7 n8 bB bH : Value) (L1 : LQ) (xs : List Value) (h : ae)
def aif:=cg prog 77 [[],[],[0,1],[],[0,6,23],[0,6,23,25],[],[0,6],[],[],[7],[8],[],[],[7],[]]
@[irreducible] def OK:=cD aif
@[irreducible] def GU:=OK.r.r.l
@[irreducible] def acj:=GU.r.l.l.r.l
@[irreducible] def ax7:=GU.r.l.r
@[irreducible] def aci:=GU.r.r
@[irreducible] def ax4:=acj.r.l
@[irreducible] def OL:=aci.l
@[irreducible] def ax5:=OL.r.r.l.l.l
@[irreducible] def ach:=OL.r.r.r
@[irreducible] def ax6:=ach.l
theorem k77:aif=some (48,OK,[.tmp 4]):=by kernel_rfl
def xL (_P:Program) (K:VK):ax:=aW [.tmp 4] K
def XK:ax:=aH (au P aci (xL P K)) (xL P K)
def XL:ax:=aH (au P ax7 (XK P K)) (XK P K)
def atb:ax:=aH (au P ach (xL P K)) (xL P K)
def atc:ax:=bC 0 (atb P K)
def atd:ax:=aH (λf' aQ=>(([7]:List Nat).map f':List Value)=[x7]/\L1 (([8]:List Nat).map f') aQ) (atc P K)
def T2:Prop:=aA (au P GU (xL P K)) [0,1] [x0,x1] h
def alS:Prop:=aA (au P acj (XL P K)) [0,6,23] [x0,x6,bB] h
def TY:Prop:=aA (au P ax4 (XL P K)) [0,6,23,25] [x0,x6,bB,bH] h
def TZ:Prop:=aA (au P OL (xL P K)) [0,6] [x0,x6] h
def alQ:Prop:=aA (au P ax5 (atd P K x7 L1)) ([7]++[8]) ([x7]++xs) h
def alR:Prop:=aA (au P ax6 (xL P K)) [7] [x7] h
theorem aIl:TY P K x0 x6 bB bH h=
 (OP (bu bB (.bool true) bH) λbP=>
 aJ bP
 (OH none λ_ _=>
 OH none λ_ z2=>
 TZ P K x0 x6 z2)
 (TZ P K x0 x6 h)):=aB (by kernel_rfl)
theorem aIq:alS P K x0 x6 bB h=
 (bO bB false
 (OP (aj .gtr x6 (.int .u64 (9223372036854775807))) λbH=>
 TY P K x0 x6 bB bH h)
 (TY P K x0 x6 bB undef h)):=aB (by kernel_rfl)
theorem aIn (x7:Value) (L1:LQ) (n8:Value) (h:ae):alQ P K x7 L1 [n8] h=
 (OP (aT x7) λaY=>
 OP (aj .lss n8 aY) λbG=>
 aJ bG
 (OP (fP 3 1 x7 (some n8) none) λcU=>
 OP (fP 3 1 x7 none (some n8)) λcP=>
 OH (sv h cU cP) λdC z1=>
 (True)/\
 OP (aj .add n8 dC) λeT=>
 ([x7]:List Value)=[x7]/\L1 [eT] z1)
 (alR P K x7 h)):=aB (by kernel_rfl)
theorem aIo:alR P K x7 h=
 (K x7 h):=aB (by kernel_rfl)
theorem aIm:TZ P K x0 x6 h=
 (OP (dI .i64 x6) λb9=>
 OH (eM 3 8 [(.int .i64 (0))] h b9 b9) λaV z1=>
 OH (sv z1 aV x0) λbZ z2=>
 bT [bZ] z2 λL1 xs hx=>
 alQ P K aV L1 xs hx):=aB (by kernel_rfl)
theorem aIp:T2 P K x0 x1 h=
 (OP (aT x0) λaP=>
 OP (dI .u64 aP) λaX=>
 OP (dI .u64 x1) λbM=>
 ay P 117 [aX,bM] h λbA z1=>
 OP (cW 0 bA) λaR=>
 OP (cW 1 bA) λaI=>
 OP (aj .gtr aR (.int .u64 (0))) λbL=>
 alS P K x0 aI bL z1):=aB (by kernel_rfl)
def Ng:Prop:=
 OP (aj .lss x1 (.int .i64 (0))) λaE=>
 aJ aE
 (OH none λ_ _=>
 OH none λ_ z2=>
 T2 P K x0 x1 z2)
 (T2 P K x0 x1 h)
theorem e77:au P OK (aW [.tmp 4] K) (cd [x0,x1]) h=Ng P K x0 x1 h:=by kernel_rfl
theorem f77 {K:VK} {x0 x1:Value} {h:ae} (H:Ng prog K x0 x1 h):ay prog 77 [x0,x1] h K:=
 cC k77 (cE rfl) ((e77 prog K x0 x1 h).mpr H)
end
noncomputable section
variable (x0 x1 x5 aE aG : Value) (L1 : LQ) (xs : List Value) (h : ae)
def aih:=cg prog 78 [[],[],[],[1,5,10],[11],[],[],[],[],[5],[]]
@[irreducible] def GV:=cD aih
@[irreducible] def ax9:=GV.r.r.l.r.l.l
@[irreducible] def ack:=GV.r.r.r
@[irreducible] def ax8:=ack.l
theorem k78:aih=some (23,GV,[.tmp 4]):=by kernel_rfl
def Lm (_P:Program) (K:VK):ax:=aW [.tmp 4] K
def ate:ax:=aH (au P ack (Lm P K)) (Lm P K)
def atf:ax:=bC 0 (ate P K)
def atg:ax:=aH (λf' aQ=>(([1,5,10]:List Nat).map f':List Value)=[x1,x5,aE]/\L1 (([11]:List Nat).map f') aQ) (atf P K)
def alU:Prop:=aA (au P ax9 (atg P K x1 x5 aE L1)) ([1,5,10]++[11]) ([x1,x5,aE]++xs) h
def alT:Prop:=aA (au P ax8 (Lm P K)) [5] [x5] h
theorem aIs (x1 x5 aE:Value) (L1:LQ) (aG:Value) (h:ae):alU P K x1 x5 aE L1 [aG] h=
 (OP (aj .lss aG aE) λaM=>
 aJ aM
 (ay P 34 [(.int .i64 (0))] h λaZ z1=>
 OH (cH 92 1 [(.bool false),(.slice none 0 0),(.bool false),(.slice none 0 0)] z1 [(0,4,aZ)]) λbM z2=>
 ay P 118 [bM,x1] z2 λaR z3=>
 OP (aD 1 x5 aG) λaI=>
 OH (aU 1 z3 aI aR) λ_ z4=>
 OP (aj .add aG (.int .i64 (1))) λaS=>
 ([x1,x5,aE]:List Value)=[x1,x5,aE]/\L1 [aS] z4)
 (alT P K x5 h)):=aB (by kernel_rfl)
theorem aIr:alT P K x5 h=
 (K x5 h):=aB (by kernel_rfl)
def Nh:Prop:=
 OH (eM 84 24 [(.slice none 0 0)] h x0 x0) λx8 z1=>
 OP (aT x8) λaE=>
 bT [(.int .i64 (0))] z1 λL1 xs hx=>
 alU P K x1 x8 aE L1 xs hx
theorem e78:au P GV (aW [.tmp 4] K) (cd [x0,x1]) h=Nh P K x0 x1 h:=by kernel_rfl
theorem f78 {K:VK} {x0 x1:Value} {h:ae} (H:Nh prog K x0 x1 h):ay prog 78 [x0,x1] h K:=
 cC k78 (cE rfl) ((e78 prog K x0 x1 h).mpr H)
end
noncomputable section
variable (a0 i1 j2 x3 : Value) (h : ae)
def aii:=cg prog 79 [[]]
@[irreducible] def c79:=cD aii
theorem k79:aii=some (23,c79,[]):=by kernel_rfl
def Ni:Prop:=
 OH (cR 92 h x3) λx7 z1=>
 OP (aD 1 a0 i1) λaE=>
 OP (af false 1 z1 aE) λaG=>
 (True)/\
 OP (aD 1 a0 i1) λaX=>
 OP (af false 1 z1 aX) λaZ=>
 (True)/\
 OP (aD 4 aZ j2) λbA=>
 OP (af true 4 z1 bA) λaR=>
 (True)/\
 OP (af true 4 z1 x7) λaI=>
 (True)/\
 ay P 36 [aR,aI] z1 λaS z2=>
 (af false 1 z2 aE=some aG/\True)/\
 OP (aD 4 aG j2) λbL=>
 OH (aU 4 z2 bL aS) λ_ z3=>
 (True)/\
 K (.tuple #[]) z3
theorem e79:au P c79 (aW [] K) (cd [a0,i1,j2,x3]) h=Ni P K a0 i1 j2 x3 h:=by kernel_rfl
theorem f79 {K:VK} {a0 i1 j2 x3:Value} {h:ae} (H:Ni prog K a0 i1 j2 x3 h):ay prog 79 [a0,i1,j2,x3] h K:=
 cC k79 (cE rfl) ((e79 prog K a0 i1 j2 x3 h).mpr H)
end
noncomputable section
variable (a0 b1 n6 x7 i8 s9 Ba aM aC : Value) (L1 L2 : LQ) (xs : List Value) (h : ae)
def aik:=cg prog 80 [[],[],[0,1,12],[13],[],[],[],[],[0],[],[],[],[],[0,6,7],[8],[],[],[],[],[0,6,7,8,9],[10],[],[],[],[0,6,7,8,9],[0,6,7,8],[7],[]]
@[irreducible] def GW:=cD aik
@[irreducible] def ayg:=GW.r.l.r.l.l
@[irreducible] def acp:=GW.r.r
@[irreducible] def OM:=acp.l
@[irreducible] def GX:=OM.r.r.r.l.r.l.l
@[irreducible] def aco:=OM.r.r.r.r
@[irreducible] def ayc:=GX.r.l.l.r.l.r.l.l
@[irreducible] def acr:=GX.r.l.l.r.r
@[irreducible] def acq:=GX.r.r
@[irreducible] def ayf:=aco.l
@[irreducible] def ayd:=acr.l
@[irreducible] def aye:=acq.l
theorem k80:aik=some (83,GW,[.tmp 4]):=by kernel_rfl
def Ao (_P:Program) (K:VK):ax:=aW [.tmp 4] K
def atm:ax:=aH (au P acp (Ao P K)) (Ao P K)
def atr:ax:=bC 0 (atm P K)
def ats:ax:=aH (λf' aQ=>(([0,1,12]:List Nat).map f':List Value)=[a0,b1,aM]/\L1 (([13]:List Nat).map f') aQ) (atr P K)
def atk:ax:=aH (au P aco (Ao P K)) (Ao P K)
def atl:ax:=bC 2 (atk P K)
def Fi:ax:=aH (λf' aQ=>(([0,6,7]:List Nat).map f':List Value)=[a0,n6,x7]/\L1 (([8]:List Nat).map f') aQ) (atl P K)
def atn:ax:=aH (au P acq (Fi P K a0 n6 x7 L1)) (Fi P K a0 n6 x7 L1)
def Lp:ax:=bC 3 (atn P K a0 n6 x7 L1)
def ato:ax:=aH (au P acr (Lp P K a0 n6 x7 L1)) (Lp P K a0 n6 x7 L1)
def atp:ax:=bC 4 (ato P K a0 n6 x7 L1)
def atq:ax:=aH (λf' aQ=>(([0,6,7,8,9]:List Nat).map f':List Value)=[a0,n6,x7,i8,s9]/\L2 (([10]:List Nat).map f') aQ) (atp P K a0 n6 x7 L1)
def al2:Prop:=aA (au P ayg (ats P K a0 b1 aM L1)) ([0,1,12]++[13]) ([a0,b1,aM]++xs) h
def alX:Prop:=aA (au P OM (Ao P K)) [0] [a0] h
def Ua:Prop:=aA (au P GX (Fi P K a0 n6 x7 L1)) ([0,6,7]++[8]) ([a0,n6,x7]++xs) h
def alY:Prop:=aA (au P ayc (atq P K a0 n6 x7 i8 s9 L1 L2)) ([0,6,7,8,9]++[10]) ([a0,n6,x7,i8,s9]++xs) h
def alZ:Prop:=aA (au P ayd (Lp P K a0 n6 x7 L1)) [0,6,7,8,9] [a0,n6,x7,i8,s9] h
def al0:Prop:=aA (au P aye (Fi P K a0 n6 x7 L1)) [0,6,7,8] [a0,n6,x7,i8] h
def al1:Prop:=aA (au P ayf (Ao P K)) [7] [x7] h
theorem aIB (a0 b1 aM:Value) (L1:LQ) (aC:Value) (h:ae):al2 P K a0 b1 aM L1 [aC] h=
 (OP (aj .lss aC aM) λaP=>
 aJ aP
 (OP (aD 1 a0 aC) λaI=>
 OP (af false 1 h aI) λaS=>
 (True)/\
 OP (aD 4 b1 aC) λbm=>
 OP (af true 4 h bm) λbH=>
 (True)/\
 OH (cH 92 1 [(.bool false),(.slice none 0 0),(.bool false),(.slice none 0 0)] h [(0,4,bH)]) λbP z1=>
 (af false 1 z1 aI=some aS/\True)/\
 OH (cT 92 4 64 z1 aS bP) λbQ z2=>
 (True)/\
 OP (aD 1 a0 aC) λcL=>
 OH (aU 1 z2 cL bQ) λ_ z3=>
 (True)/\
 OP (aj .add aC (.int .i64 (1))) λb9=>
 ([a0,b1,aM]:List Value)=[a0,b1,aM]/\L1 [b9] z3)
 (alX P K a0 h)):=aB (by kernel_rfl)
theorem aIx (a0 n6 x7 i8 s9:Value) (L1 L2:LQ) (Ba:Value) (h:ae):alY P K a0 n6 x7 i8 s9 L1 L2 [Ba] h=
 (OP (aj .lss Ba n6) λfg=>
 aJ fg
 (OP (af true 4 h s9) λgV=>
 (True)/\
 OP (aD 1 a0 i8) λiZ=>
 OP (af false 1 h iZ) λgI=>
 (True)/\
 OP (aD 4 gI Ba) λiV=>
 OP (af true 4 h iV) λhI=>
 (True)/\
 OP (aD 4 x7 Ba) λkZ=>
 OP (af true 4 h kZ) λgw=>
 (True)/\
 ay P 65 [hI,gw] h λfA z1=>
 (af true 4 z1 s9=some gV/\True)/\
 ay P 39 [gV,fA] z1 λdY z2=>
 (True)/\
 OH (aU 4 z2 s9 dY) λ_ z3=>
 (True)/\
 OP (aj .add Ba (.int .i64 (1))) λfJ=>
 ([a0,n6,x7,i8,s9]:List Value)=[a0,n6,x7,i8,s9]/\L2 [fJ] z3)
 (alZ P K a0 n6 x7 i8 s9 L1 h)):=aB (by kernel_rfl)
theorem aIy:alZ P K a0 n6 x7 i8 s9 L1 h=
 (OP (af true 4 h s9) λog=>
 (True)/\
 OP (aD 1 a0 i8) λfE=>
 OP (af false 1 h fE) λiL=>
 (True)/\
 OP (aD 4 iL i8) λhT=>
 OP (af true 4 h hT) λlN=>
 (True)/\
 ay P 94 [og,lN] h λkf z1=>
 (True)/\
 OP (aD 4 x7 i8) λcK=>
 OH (aU 4 z1 cK kf) λ_ z2=>
 (True)/\
 al0 P K a0 n6 x7 i8 L1 z2):=aB (by kernel_rfl)
theorem aIz:al0 P K a0 n6 x7 i8 L1 h=
 (OP (aj .sub i8 (.int .i64 (1))) λcU=>
 ([a0,n6,x7]:List Value)=[a0,n6,x7]/\L1 [cU] h):=aB (by kernel_rfl)
theorem aIw (a0 n6 x7:Value) (L1:LQ) (i8:Value) (h:ae):Ua P K a0 n6 x7 L1 [i8] h=
 (OP (aj .geq i8 (.int .i64 (0))) λdW=>
 aJ dW
 (OP (aD 1 a0 i8) λcP=>
 OP (af false 1 h cP) λdC=>
 OP (aD 4 dC n6) λgp=>
 OP (af true 4 h gp) λfD=>
 OH (cF 92 [(.bool false),(.slice none 0 0),(.bool false),(.slice none 0 0)] h) λs9 z1=>
 OH (aU 4 z1 s9 fD) λ_ z2=>
 OP (aj .add i8 (.int .i64 (1))) λiU=>
 bT [iU] z2 λL2 xs hx=>
 alY P K a0 n6 x7 i8 s9 L1 L2 xs hx)
 (al1 P K x7 h)):=aB (by kernel_rfl)
theorem aIA:al1 P K x7 h=
 (K x7 h):=aB (by kernel_rfl)
theorem aIv:alX P K a0 h=
 (ay P 119 [a0] h λ_ z1=>
 OP (aT a0) λbZ=>
 OH (eM 92 64 [(.bool false),(.slice none 0 0),(.bool false),(.slice none 0 0)] z1 bZ bZ) λcB z2=>
 OP (aj .sub bZ (.int .i64 (1))) λbG=>
 bT [bG] z2 λL1 xs hx=>
 Ua P K a0 bZ cB L1 xs hx):=aB (by kernel_rfl)
def Nj:Prop:=
 OP (aT a0) λaM=>
 bT [(.int .i64 (0))] h λL1 xs hx=>
 al2 P K a0 b1 aM L1 xs hx
theorem e80:au P GW (aW [.tmp 4] K) (cd [a0,b1]) h=Nj P K a0 b1 h:=by kernel_rfl
theorem f80 {K:VK} {a0 b1:Value} {h:ae} (H:Nj prog K a0 b1 h):ay prog 80 [a0,b1] h K:=
 cC k80 (cE rfl) ((e80 prog K a0 b1 h).mpr H)
end
noncomputable section
variable (x0 y1 : Value) (h : ae)
def agQ:=cg prog 117 [[],[],[],[],[],[]]
@[irreducible] def Ys:=cD agQ
theorem aCh:agQ=some (30,Ys,[.tmp 4,.tmp 5]):=by kernel_rfl
def LN:Prop:=
 aJ (.bool false)
 (OP (dI .u32 x0) λaM=>
 OP (dI .u32 y1) λaP=>
 ay P 138 [aM,aP] h λaX z1=>
 OP (cW 0 aX) λaZ=>
 OP (cW 1 aX) λbM=>
 OP (dI .u64 aZ) λaR=>
 OP (dI .u64 bM) λaS=>
 K (.tuple #[aR,aS]) z1)
 (ay P 139 [x0,y1] h λbH z1=>
 OP (cW 0 bH) λbP=>
 OP (cW 1 bH) λbQ=>
 K (.tuple #[bP,bQ]) z1)
theorem azE:au P Ys (aW [.tmp 4,.tmp 5] K) (cd [x0,y1]) h=LN P K x0 y1 h:=by kernel_rfl
theorem f117 {K:VK} {x0 y1:Value} {h:ae} (H:LN prog K x0 y1 h):ay prog 117 [x0,y1] h K:=
 cC aCh (cE rfl) ((azE prog K x0 y1 h).mpr H)
end
noncomputable section
variable (x0 x1 x6 x7 n8 bB bH : Value) (L1 : LQ) (xs : List Value) (h : ae)
def agR:=cg prog 118 [[],[],[0,1],[],[0,6,23],[0,6,23,25],[],[0,6],[],[],[7],[8],[],[],[7],[]]
@[irreducible] def NR:=cD agR
@[irreducible] def FK:=NR.r.r.l
@[irreducible] def Yv:=FK.r.l.l.r.l
@[irreducible] def auK:=FK.r.l.r
@[irreducible] def Yu:=FK.r.r
@[irreducible] def auH:=Yv.r.l
@[irreducible] def NT:=Yu.l
@[irreducible] def auI:=NT.r.r.l.l.l
@[irreducible] def Yt:=NT.r.r.r
@[irreducible] def auJ:=Yt.l
theorem aCi:agR=some (48,NR,[.tmp 4]):=by kernel_rfl
def xJ (_P:Program) (K:VK):ax:=aW [.tmp 4] K
def Wz:ax:=aH (au P Yu (xJ P K)) (xJ P K)
def WA:ax:=aH (au P auK (Wz P K)) (Wz P K)
def ao3:ax:=aH (au P Yt (xJ P K)) (xJ P K)
def ao4:ax:=bC 0 (ao3 P K)
def ao5:ax:=aH (λf' aQ=>(([7]:List Nat).map f':List Value)=[x7]/\L1 (([8]:List Nat).map f') aQ) (ao4 P K)
def R4:Prop:=aA (au P FK (xJ P K)) [0,1] [x0,x1] h
def aiO:Prop:=aA (au P Yv (WA P K)) [0,6,23] [x0,x6,bB] h
def RZ:Prop:=aA (au P auH (WA P K)) [0,6,23,25] [x0,x6,bB,bH] h
def R2:Prop:=aA (au P NT (xJ P K)) [0,6] [x0,x6] h
def aiM:Prop:=aA (au P auI (ao5 P K x7 L1)) ([7]++[8]) ([x7]++xs) h
def aiN:Prop:=aA (au P auJ (xJ P K)) [7] [x7] h
theorem aDK:RZ P K x0 x6 bB bH h=
 (OP (bu bB (.bool true) bH) λbP=>
 aJ bP
 (OH none λ_ _=>
 OH none λ_ z2=>
 R2 P K x0 x6 z2)
 (R2 P K x0 x6 h)):=aB (by kernel_rfl)
theorem aDP:aiO P K x0 x6 bB h=
 (bO bB false
 (OP (aj .gtr x6 (.int .u64 (9223372036854775807))) λbH=>
 RZ P K x0 x6 bB bH h)
 (RZ P K x0 x6 bB undef h)):=aB (by kernel_rfl)
theorem aDM (x7:Value) (L1:LQ) (n8:Value) (h:ae):aiM P K x7 L1 [n8] h=
 (OP (aT x7) λaY=>
 OP (aj .lss n8 aY) λbG=>
 aJ bG
 (OP (fP 92 4 x7 (some n8) none) λcU=>
 OP (fP 92 4 x7 none (some n8)) λcP=>
 OH (rA 4 h cU cP) λdC z1=>
 (True)/\
 OP (aj .add n8 dC) λeT=>
 ([x7]:List Value)=[x7]/\L1 [eT] z1)
 (aiN P K x7 h)):=aB (by kernel_rfl)
theorem aDN:aiN P K x7 h=
 (K x7 h):=aB (by kernel_rfl)
theorem aDL:R2 P K x0 x6 h=
 (OP (dI .i64 x6) λb9=>
 OH (eM 92 64 [(.bool false),(.slice none 0 0),(.bool false),(.slice none 0 0)] h b9 b9) λaV z1=>
 OH (rA 4 z1 aV x0) λbZ z2=>
 bT [bZ] z2 λL1 xs hx=>
 aiM P K aV L1 xs hx):=aB (by kernel_rfl)
theorem aDO:R4 P K x0 x1 h=
 (OP (aT x0) λaP=>
 OP (dI .u64 aP) λaX=>
 OP (dI .u64 x1) λbM=>
 ay P 117 [aX,bM] h λbA z1=>
 OP (cW 0 bA) λaR=>
 OP (cW 1 bA) λaI=>
 OP (aj .gtr aR (.int .u64 (0))) λbL=>
 aiO P K x0 aI bL z1):=aB (by kernel_rfl)
def LO:Prop:=
 OP (aj .lss x1 (.int .i64 (0))) λaE=>
 aJ aE
 (OH none λ_ _=>
 OH none λ_ z2=>
 R4 P K x0 x1 z2)
 (R4 P K x0 x1 h)
theorem azF:au P NR (aW [.tmp 4] K) (cd [x0,x1]) h=LO P K x0 x1 h:=by kernel_rfl
theorem f118 {K:VK} {x0 x1:Value} {h:ae} (H:LO prog K x0 x1 h):ay prog 118 [x0,x1] h K:=
 cC aCi (cE rfl) ((azF prog K x0 x1 h).mpr H)
end
noncomputable section
variable (a0 x2 x3 x4 x5 i6 q7 j8 aG aM aI b9 : Value) (L1 L2 L3 : LQ) (xs : List Value) (h : ae)
def agS:=cg prog 119 [[],[],[],[0,2,3,11],[12],[],[],[],[],[0,2,3,4,11,12],[5],[0,2,3,4,5,11,12,20],[0,2,3,4,5,11,12,20,29],[],[],[0,2,3,4,5,11,12],[],[],[],[],[],[0,2,3,4,11,12],[],[],[0,2,3,4,11,12],[6],[],[],[],[],[],[],[0,2,3,4,6,7,11,12],[8],[],[],[],[0,2,3,4,6,11,12],[0,2,3,11,12],[2,3],[]]
@[irreducible] def FL:=cD agS
@[irreducible] def FN:=FL.r.r.l.r.l.l
@[irreducible] def Yz:=FL.r.r.r
@[irreducible] def FM:=FN.r.r.l.l.r.r.l.l.l
@[irreducible] def Yw:=FN.r.r.l.l.r.r.r
@[irreducible] def YC:=FN.r.r.r
@[irreducible] def auR:=Yz.l
@[irreducible] def Yx:=FM.l.l.r.l
@[irreducible] def auM:=FM.l.r
@[irreducible] def auL:=FM.r
@[irreducible] def Yy:=Yw.l
@[irreducible] def auQ:=YC.l
@[irreducible] def auN:=Yx.r.l
@[irreducible] def YA:=Yy.r.r.l
@[irreducible] def NU:=YA.r.r.l.l
@[irreducible] def auO:=NU.r.l.l.r.r.r.l.l
@[irreducible] def YB:=NU.r.r
@[irreducible] def auP:=YB.l
theorem aCj:agS=some (133,FL,[.cell true 4 2]):=by kernel_rfl
def KE (_P:Program) (K:VK):ax:=aW [.cell true 4 2] K
def ao8:ax:=aH (au P Yz (KE P K)) (KE P K)
def ape:ax:=bC 0 (ao8 P K)
def EK:ax:=aH (λf' aQ=>(([0,2,3,11]:List Nat).map f':List Value)=[a0,x2,x3,aG]/\L1 (([12]:List Nat).map f') aQ) (ape P K)
def apf:ax:=aH (au P YC (EK P K a0 x2 x3 aG L1)) (EK P K a0 x2 x3 aG L1)
def BK:ax:=bC 1 (apf P K a0 x2 x3 aG L1)
def ao6:ax:=aH (au P Yw (BK P K a0 x2 x3 aG L1)) (BK P K a0 x2 x3 aG L1)
def ao7:ax:=bC 2 (ao6 P K a0 x2 x3 aG L1)
def KF:ax:=aH (λf' aQ=>(([0,2,3,4,11,12]:List Nat).map f':List Value)=[a0,x2,x3,x4,aG,aM]/\L2 (([5]:List Nat).map f') aQ) (ao7 P K a0 x2 x3 aG L1)
def WB:ax:=aH (au P auL (KF P K a0 x2 x3 x4 aG aM L1 L2)) (KF P K a0 x2 x3 x4 aG aM L1 L2)
def WC:ax:=aH (au P auM (WB P K a0 x2 x3 x4 aG aM L1 L2)) (WB P K a0 x2 x3 x4 aG aM L1 L2)
def ao9:ax:=bC 4 (BK P K a0 x2 x3 aG L1)
def EJ:ax:=aH (λf' aQ=>(([0,2,3,4,11,12]:List Nat).map f':List Value)=[a0,x2,x3,x4,aG,aM]/\L2 (([6]:List Nat).map f') aQ) (ao9 P K a0 x2 x3 aG L1)
def apa:ax:=aH (au P YB (EJ P K a0 x2 x3 x4 aG aM L1 L2)) (EJ P K a0 x2 x3 x4 aG aM L1 L2)
def apb:ax:=bC 5 (apa P K a0 x2 x3 x4 aG aM L1 L2)
def apc:ax:=bC 6 (apb P K a0 x2 x3 x4 aG aM L1 L2)
def apd:ax:=aH (λf' aQ=>(([0,2,3,4,6,7,11,12]:List Nat).map f':List Value)=[a0,x2,x3,x4,i6,q7,aG,aM]/\L3 (([8]:List Nat).map f') aQ) (apc P K a0 x2 x3 x4 aG aM L1 L2)
def aiT:Prop:=aA (au P FN (EK P K a0 x2 x3 aG L1)) ([0,2,3,11]++[12]) ([a0,x2,x3,aG]++xs) h
def aiP:Prop:=aA (au P FM (KF P K a0 x2 x3 x4 aG aM L1 L2)) ([0,2,3,4,11,12]++[5]) ([a0,x2,x3,x4,aG,aM]++xs) h
def aiQ:Prop:=aA (au P Yx (WC P K a0 x2 x3 x4 aG aM L1 L2)) [0,2,3,4,5,11,12,20] [a0,x2,x3,x4,x5,aG,aM,aI] h
def R5:Prop:=aA (au P auN (WC P K a0 x2 x3 x4 aG aM L1 L2)) [0,2,3,4,5,11,12,20,29] [a0,x2,x3,x4,x5,aG,aM,aI,b9] h
def aiR:Prop:=aA (au P Yy (BK P K a0 x2 x3 aG L1)) [0,2,3,4,5,11,12] [a0,x2,x3,x4,x5,aG,aM] h
def R6:Prop:=aA (au P YA (BK P K a0 x2 x3 aG L1)) [0,2,3,4,11,12] [a0,x2,x3,x4,aG,aM] h
def R7:Prop:=aA (au P NU (EJ P K a0 x2 x3 x4 aG aM L1 L2)) ([0,2,3,4,11,12]++[6]) ([a0,x2,x3,x4,aG,aM]++xs) h
def R8:Prop:=aA (au P auO (apd P K a0 x2 x3 x4 i6 q7 aG aM L1 L2 L3)) ([0,2,3,4,6,7,11,12]++[8]) ([a0,x2,x3,x4,i6,q7,aG,aM]++xs) h
def Dy:Prop:=aA (au P auP (EJ P K a0 x2 x3 x4 aG aM L1 L2)) [0,2,3,4,6,11,12] [a0,x2,x3,x4,i6,aG,aM] h
def R9:Prop:=aA (au P auQ (EK P K a0 x2 x3 aG L1)) [0,2,3,11,12] [a0,x2,x3,aG,aM] h
def aiS:Prop:=aA (au P auR (KE P K)) [2,3] [x2,x3] h
theorem aDS:R5 P K a0 x2 x3 x4 x5 aG aM aI b9 L1 L2 h=
 (OP (bu aI b9 (.bool false)) λaV=>
 aJ aV
 (OP (aj .add x5 (.int .i64 (1))) λdJ=>
 ([a0,x2,x3,x4,aG,aM]:List Value)=[a0,x2,x3,x4,aG,aM]/\L2 [dJ] h)
 (aiR P K a0 x2 x3 x4 x5 aG aM L1 h)):=aB (by kernel_rfl)
theorem aDR:aiQ P K a0 x2 x3 x4 x5 aG aM aI L1 L2 h=
 (bO aI true
 (OP (aD 1 a0 x5) λbB=>
 OP (af false 1 h bB) λbm=>
 OP (aD 4 bm x4) λbP=>
 OP (af true 4 h bP) λbQ=>
 ay P 84 [bQ] h λcL z1=>
 OP (aj .eql cL (.int .i64 (0))) λb9=>
 R5 P K a0 x2 x3 x4 x5 aG aM aI b9 L1 L2 z1)
 (R5 P K a0 x2 x3 x4 x5 aG aM aI undef L1 L2 h)):=aB (by kernel_rfl)
theorem aDQ (a0 x2 x3 x4 aG aM:Value) (L1 L2:LQ) (x5:Value) (h:ae):aiP P K a0 x2 x3 x4 aG aM L1 L2 [x5] h=
 (OP (aT a0) λbA=>
 OP (aj .lss x5 bA) λaR=>
 aiQ P K a0 x2 x3 x4 x5 aG aM aR L1 L2 h):=aB (by kernel_rfl)
theorem aDW (a0 x2 x3 x4 i6 q7 aG aM:Value) (L1 L2 L3:LQ) (j8:Value) (h:ae):R8 P K a0 x2 x3 x4 i6 q7 aG aM L1 L2 L3 [j8] h=
 (OP (aD 1 a0 i6) λgG=>
 OP (af false 1 h gG) λfH=>
 OP (aT fH) λlM=>
 OP (aj .lss j8 lM) λvS=>
 aJ vS
 (OP (aD 1 a0 i6) λiT=>
 OP (af false 1 h iT) λoU=>
 (True)/\
 OP (aD 1 a0 i6) λuh=>
 OP (af false 1 h uh) λmZ=>
 (True)/\
 OP (aD 4 mZ j8) λnh=>
 OP (af true 4 h nh) λui=>
 (True)/\
 OP (af true 4 h q7) λmf=>
 (True)/\
 OP (aD 1 a0 x4) λnJ=>
 OP (af false 1 h nJ) λqG=>
 (True)/\
 OP (aD 4 qG j8) λoV=>
 OP (af true 4 h oV) λEc=>
 (True)/\
 ay P 65 [mf,Ec] h λqH z1=>
 (af false 1 z1 iT=some oU/\af false 1 z1 uh=some mZ/\af true 4 z1 nh=some ui/\True)/\
 ay P 39 [ui,qH] z1 λvV z2=>
 (af false 1 z2 iT=some oU/\True)/\
 OP (aD 4 oU j8) λhG=>
 OH (aU 4 z2 hG vV) λ_ z3=>
 (True)/\
 OP (aj .add j8 (.int .i64 (1))) λpI=>
 ([a0,x2,x3,x4,i6,q7,aG,aM]:List Value)=[a0,x2,x3,x4,i6,q7,aG,aM]/\L3 [pI] z3)
 (Dy P K a0 x2 x3 x4 i6 aG aM L1 L2 h)):=aB (by kernel_rfl)
theorem aDX:Dy P K a0 x2 x3 x4 i6 aG aM L1 L2 h=
 (OP (aj .add i6 (.int .i64 (1))) λlh=>
 ([a0,x2,x3,x4,aG,aM]:List Value)=[a0,x2,x3,x4,aG,aM]/\L2 [lh] h):=aB (by kernel_rfl)
theorem aDV (a0 x2 x3 x4 aG aM:Value) (L1 L2:LQ) (i6:Value) (h:ae):R7 P K a0 x2 x3 x4 aG aM L1 L2 [i6] h=
 (OP (aT a0) λdj=>
 OP (aj .lss i6 dj) λgy=>
 aJ gy
 (OP (aD 1 a0 i6) λiL=>
 OP (af false 1 h iL) λkO=>
 OP (aD 4 kO x4) λlN=>
 OP (af true 4 h lN) λkf=>
 ay P 84 [kf] h λcK z1=>
 OP (aj .eql cK (.int .i64 (0))) λdB=>
 aJ dB
 (Dy P K a0 x2 x3 x4 i6 aG aM L1 L2 z1)
 (OH (cF 92 [(.bool false),(.slice none 0 0),(.bool false),(.slice none 0 0)] z1) λq7 z2=>
 OP (eA z2 q7) λu=>
 (True)/\
 OP (aD 1 a0 i6) λjU=>
 OP (af false 1 z2 jU) λjV=>
 (af false 1 z1 jU=some jV/\True)/\
 OP (aD 4 jV x4) λeB=>
 OP (af true 4 z2 eB) λeP=>
 (af true 4 z1 eB=some eP/\True)/\
 OP (aD 1 a0 x4) λlO=>
 OP (af false 1 z2 lO) λeD=>
 (af false 1 z1 lO=some eD/\True)/\
 OP (aD 4 eD x4) λfv=>
 OP (af true 4 z2 fv) λoh=>
 (af true 4 z1 fv=some oh/\True)/\
 ay P 94 [eP,oh] z2 λEv z3=>
 (eA z3 q7=some u/\True)/\
 OH (aU 4 z3 q7 Ev) λ_ z4=>
 (True)/\
 bT [x4] z4 λL3 xs hx=>
 R8 P K a0 x2 x3 x4 i6 q7 aG aM L1 L2 L3 xs hx))
 (R9 P K a0 x2 x3 aG aM L1 h)):=aB (by kernel_rfl)
theorem aDU:R6 P K a0 x2 x3 x4 aG aM L1 h=
 (OP (af true 4 h x3) λfY=>
 (True)/\
 OP (aD 1 a0 x4) λgI=>
 OP (af false 1 h gI) λfT=>
 (True)/\
 OP (aD 4 fT x4) λhI=>
 OP (af true 4 h hI) λke=>
 (True)/\
 ay P 65 [fY,ke] h λjy z1=>
 (True)/\
 OH (aU 4 z1 x3 jy) λ_ z2=>
 (True)/\
 OP (aj .add x4 (.int .i64 (1))) λgw=>
 bT [gw] z2 λL2 xs hx=>
 R7 P K a0 x2 x3 x4 aG aM L1 L2 xs hx):=aB (by kernel_rfl)
theorem aDT:aiR P K a0 x2 x3 x4 x5 aG aM L1 h=
 (OP (aT a0) λcB=>
 OP (aj .eql x5 cB) λaY=>
 aJ aY
 (ay P 34 [(.int .i64 (0))] h λbG z1=>
 OH (aU 4 z1 x2 bG) λ_ z2=>
 OP (af true 4 z2 x2) λr0=>
 K r0 z2)
 (OP (aj .neq x5 x4) λcI=>
 aJ cI
 (OP (aD 1 a0 x4) λgp=>
 OP (af false 1 h gp) λfD=>
 (True)/\
 OP (aD 1 a0 x5) λee=>
 OP (af false 1 h ee) λfI=>
 (True)/\
 OP (aD 1 a0 x5) λfg=>
 OH (aU 1 h fg fD) λ_ z1=>
 (True)/\
 OP (aD 1 a0 x4) λgv=>
 OH (aU 1 z1 gv fI) λ_ z2=>
 (True)/\
 OP (af true 4 z2 x3) λfJ=>
 ay P 67 [fJ] z2 λgV z3=>
 OH (aU 4 z3 x3 gV) λ_ z4=>
 R6 P K a0 x2 x3 x4 aG aM L1 z4)
 (R6 P K a0 x2 x3 x4 aG aM L1 h))):=aB (by kernel_rfl)
theorem aDY:R9 P K a0 x2 x3 aG aM L1 h=
 (OP (aj .add aM (.int .i64 (1))) λkc=>
 ([a0,x2,x3,aG]:List Value)=[a0,x2,x3,aG]/\L1 [kc] h):=aB (by kernel_rfl)
theorem aD0 (a0 x2 x3 aG:Value) (L1:LQ) (aM:Value) (h:ae):aiT P K a0 x2 x3 aG L1 [aM] h=
 (OP (aj .lss aM aG) λaC=>
 aJ aC
 (bT [aM] h λL2 xs hx=>
 aiP P K a0 x2 x3 aM aG aM L1 L2 xs hx)
 (aiS P K x2 x3 h)):=aB (by kernel_rfl)
theorem aDZ:aiS P K x2 x3 h=
 (OP (af true 4 h x3) λkA=>
 OH (aU 4 h x2 kA) λ_ z1=>
 OP (af true 4 z1 x2) λr0=>
 K r0 z1):=aB (by kernel_rfl)
def LP:Prop:=
 OH (cF 92 [(.bool false),(.slice none 0 0),(.bool false),(.slice none 0 0)] h) λx2 z1=>
 ay P 34 [(.int .i64 (1))] z1 λx9 z2=>
 OH (cF 92 [(.bool false),(.slice none 0 0),(.bool false),(.slice none 0 0)] z2) λx3 z3=>
 OH (aU 4 z3 x3 x9) λ_ z4=>
 OP (aT a0) λaG=>
 bT [(.int .i64 (0))] z4 λL1 xs hx=>
 aiT P K a0 x2 x3 aG L1 xs hx
theorem azG:au P FL (aW [.cell true 4 2] K) (cd [a0]) h=LP P K a0 h:=by kernel_rfl
theorem f119 {K:VK} {a0:Value} {h:ae} (H:LP prog K a0 h):ay prog 119 [a0] h K:=
 cC aCj (cE rfl) ((azG prog K a0 h).mpr H)
end
noncomputable section
variable (x0 y1 : Value) (h : ae)
def ag6:=cg prog 139 [[],[],[],[],[],[],[],[],[],[],[],[]]
@[irreducible] def YW:=cD ag6
theorem aCv:ag6=some (51,YW,[.tmp 4,.tmp 5]):=by kernel_rfl
def L7 (_:Program) (K:VK) (x0 y1:Value) (h:ae):Prop:=
 OP (aj .and x0 (.int .u64 (4294967295))) λaX=>
 OP (aj .shr x0 (.int .u64 (32))) λbM=>
 OP (aj .and y1 (.int .u64 (4294967295))) λaR=>
 OP (aj .shr y1 (.int .u64 (32))) λaS=>
 OP (aj .mul aX aR) λbm=>
 OP (aj .mul bM aR) λbQ=>
 OP (aj .shr bm (.int .u64 (32))) λb9=>
 OP (aj .add bQ b9) λaV=>
 OP (aj .and aV (.int .u64 (4294967295))) λdJ=>
 OP (aj .shr aV (.int .u64 (32))) λcA=>
 OP (aj .mul aX aS) λdH=>
 OP (aj .add dJ dH) λdW=>
 OP (aj .mul bM aS) λer=>
 OP (aj .add er cA) λcP=>
 OP (aj .shr dW (.int .u64 (32))) λeT=>
 OP (aj .add cP eT) λgp=>
 OP (aj .mul x0 y1) λiU=>
 K (.tuple #[gp,iU]) h
theorem azS:au P YW (aW [.tmp 4,.tmp 5] K) (cd [x0,y1]) h=L7 P K x0 y1 h:=by kernel_rfl
theorem f139 {K:VK} {x0 y1:Value} {h:ae} (H:L7 prog K x0 y1 h):ay prog 139 [x0,y1] h K:=
 cC aCv (cE rfl) ((azS prog K x0 y1 h).mpr H)
end
end
section
open Go.Sim Go.Sort
variable {h : ae} {K : Value -> ae -> Prop} {n : Nat}
def U (n:Int):Value:=.int .u64 n
theorem aoy {y:Nat} (hy:y<=8) (hk:K (.tuple #[U 0,U y]) h):ay prog 139 [U 1,U y] h K:=by
 refine f139 ?_
 unfold L7
 have:y=0∨y=1∨y=2∨y=3∨y=4∨y=5∨y=6∨y=7∨y=8:=by omega
 rcases this with rfl | rfl | rfl | rfl | rfl | rfl | rfl | rfl | rfl <;>
 ·refine nP (v:=U 1) rfl ?_
  refine nP (v:=U 0) rfl ?_
  refine nP (v:=U _) rfl ?_
  refine nP (v:=U 0) rfl ?_
  refine nP (v:=U _) rfl ?_
  refine nP (v:=U 0) rfl ?_
  refine nP (v:=U 0) rfl ?_
  refine nP (v:=U 0) rfl ?_
  refine nP (v:=U 0) rfl ?_
  refine nP (v:=U 0) rfl ?_
  refine nP (v:=U 0) rfl ?_
  refine nP (v:=U 0) rfl ?_
  refine nP (v:=U 0) rfl ?_
  refine nP (v:=U 0) rfl ?_
  refine nP (v:=U 0) rfl ?_
  refine nP (v:=U 0) rfl ?_
  refine nP (v:=U _) rfl ?_
  exact hk
theorem VM {y:Nat} (hy:y<=8) (hk:K (.tuple #[U 0,U y]) h):ay prog 117 [U 1,U y] h K:=by
 refine f117 ?_
 unfold LN
 simp only [dm]
 refine aoy hy ?_
 simp only [fM,gi,gj,ah]
 exact hk
theorem afu (g:ae) (d s:Value):sv g d s=rA 1 g d s:=by
 simp [sv,rA]
theorem xH (r:List Value) (k:Nat):(bE r k).length=k*r.length:=by simp [bE]
theorem VG (r:List Value) (a b:Nat):bE r (a+b)=bE r a++bE r b:=by
 simp [bE,<-List.replicate_append_replicate]
theorem amL {r z:List Value} (hz:z.length=r.length) {k m q:Nat} (hq:q<=m):setAt (bE r k++bE z m) (k*r.length) (bE r q)=bE r (k+q)++bE z (m-q):=by
 have e:bE z m=bE z q++bE z (m-q):=by rw [<-VG,show q+(m-q)=m by omega]
 unfold setAt
 rw [List.take_left' (xH r k),xH,e,<-List.append_assoc,List.drop_left' (by rw [List.length_append,xH,xH,hz]),VG]
theorem dbl {g:ae} {i esz n k c:Nat} {e:TypeId} {r z:List Value} (hr:r.length=esz) (hz:z.length=esz) (hk:0<k) (eW:k<n) (hg:g[i]?=some (.arr e (bE r k++bE z (n-k)))):
  rA esz g (sl e i (k*esz) (n-k)) (.slice (some ⟨i,0,some e⟩) k c)=some (I (Nat.min k (n-k):Nat),g.set i (.arr e (bE r (k+Nat.min k (n-k))++bE z (n-k-Nat.min k (n-k))))):=by
 have l1:(bE r k).length=k*esz:=by rw [xH,hr]
 have l2:(bE z (n-k)).length=(n-k)*esz:=by rw [xH,hz]
 have sc:fx g esz (.slice (some ⟨i,0,some e⟩) k c)=some (bE r k):=by
  simp only [fx,bw,hg,bind_some]
  rw [if_neg (by omega),if_pos (by rw [List.length_append,l1,l2];omega),List.drop_zero,List.take_left' l1]
 have aBc:Nat.min k (n-k)<=k:=Nat.min_le_left _ _
 have Qo:Nat.min k (n-k)<=n-k:=Nat.min_le_right _ _
 have iO:0<Nat.min k (n-k):=Nat.lt_min.2 ⟨hk,by omega⟩
 simp only [rA,sc]
 simp only [iY,sl,hg]
 generalize Nat.min k (n-k)=q at aBc Qo iO
 rw [if_neg (by omega),if_pos (by
  rw [List.length_append,l1,l2]
  have:=Nat.mul_le_mul_right esz Qo
  omega)]
 have t:(bE r k).take (q*esz)=bE r q:=by
  have:bE r k=bE r q++bE r (k-q):=by rw [<-VG,show q+(k-q)=k by omega]
  rw [this,List.take_left' (by rw [xH,hr])]
 subst hr
 rw [t,amL hz Qo]
theorem adu {g:ae} {i j esz n c:Nat} {e e':TypeId} {r z:List Value} (hr:r.length=esz) (hz:z.length=esz) (hn:0<n) (hg:g[i]?=some (.arr e (bE z n))) (hj:g[j]?=some (.arr e' r)):
  rA esz g (sl e i 0 n) (.slice (some ⟨j,0,some e'⟩) 1 c)=some (I 1,g.set i (.arr e (bE r 1++bE z (n-1)))):=by
 have sc:fx g esz (.slice (some ⟨j,0,some e'⟩) 1 c)=some r:=by
  simp only [fx,bw,hj,bind_some]
  rw [if_neg (by omega),if_pos (by omega),List.drop_zero,List.take_of_length_le (by omega)]
 have m1:Nat.min 1 n=1:=Nat.min_eq_left hn
 simp only [rA,sc]
 simp only [iY,sl,hg,m1]
 have:esz<=n*esz:=by have:=Nat.mul_le_mul_right esz hn;omega
 rw [if_neg (by omega),if_pos (by rw [xH,hz];omega)]
 have t:r.take (1*esz)=r:=List.take_of_length_le (by omega)
 have p:=amL (r:=r) (z:=z) (by omega) (k:=0) (m:=n) (q:=1) hn
 have z0:bE r 0=[]:=rfl
 have z1:bE r 1=r:=by simp [bE]
 rw [z0,z1,List.nil_append,Nat.zero_mul] at p
 rw [t,p,z1]
 rfl
theorem C77 {j:Nat} (hn:1<=n) (n8:n<=8) (hj:h[j]?=some (.arr 3 [I (-1)])) (hk:∀g i,EX h g->h.length<=i->g[i]?=some (.arr 3 (List.replicate n (I (-1))))->K (sl 3 i 0 n) g):ay prog 77 [sl 3 j 0 1,I n] h K:=by
 refine f77 ?_
 unfold Ng
 simp only [bW,ah,bX (show ¬(n:Int)<0 by omega),dm]
 rw [aIp]
 have l1:aT (sl 3 j 0 1)=some (I 1):=rfl
 have c1:dI .u64 (I 1)=some (U 1):=rfl
 have c2:dI .u64 (I n)=some (U n):=by
  have:n=1∨n=2∨n=3∨n=4∨n=5∨n=6∨n=7∨n=8:=by omega
  rcases this with rfl | rfl | rfl | rfl | rfl | rfl | rfl | rfl <;> rfl
 have c3:dI .i64 (U n)=some (I n):=by
  have:n=1∨n=2∨n=3∨n=4∨n=5∨n=6∨n=7∨n=8:=by omega
  rcases this with rfl | rfl | rfl | rfl | rfl | rfl | rfl | rfl <;> rfl
 have g1:aj .gtr (U 0) (.int .u64 (0))=some (.bool false):=rfl
 have g2:aj .gtr (U n) (.int .u64 (9223372036854775807))=some (.bool false):=by
  simp [U];omega
 simp only [l1,c1,c2,ah]
 refine VM n8 ?_
 simp only [fM,gi,gj,ah,g1]
 rw [aIq]
 simp only [fc,g2,ah]
 rw [aIl]
 simp only [dA,ah,dm]
 rw [aIm]
 have sF:eM 3 8 [(.int .i64 (0))] h (I n) (I n)=some (sl 3 h.length 0 n,h++[.arr 3 (bE [.int .i64 (0)] n)]):=by
  simp only [eM]
  rw [if_pos (by omega)]
  simp
 simp only [c3,ah,sF,aL]
 have x2:EX h (h++[.arr 3 (bE [.int .i64 (0)] n)]):=EX.append _ _
 have e2:(h++[az.arr 3 (bE [.int .i64 (0)] n)])[h.length]?=some (.arr 3 (bE [.int .i64 (0)] n)):=bK
 have cp:=adu (g:=h++[az.arr 3 (bE [.int .i64 (0)] n)]) (c:=1) (esz:=1) (r:=[I (-1)]) rfl rfl hn e2 (x2.get hj)
 have CO:(h++[az.arr 3 (bE [.int .i64 (0)] n)]).length=h.length+1:=by simp
 have O7:sv (h++[az.arr 3 (bE [.int .i64 (0)] n)]) (sl 3 h.length 0 n) (sl 3 j 0 1)=_:=(afu _ _ _).trans cp
 simp only [O7,aL]
 have x3:EX h ((h++[az.arr 3 (bE [.int .i64 (0)] n)]).set h.length (.arr 3 (bE [I (-1)] 1++bE [.int .i64 (0)] (n-1)))):=x2.set (le_refl _) _
 have e3:((h++[az.arr 3 (bE [.int .i64 (0)] n)]).set h.length (.arr 3 (bE [I (-1)] 1++bE [.int .i64 (0)] (n-1))))[h.length]?=some (.arr 3 (bE [I (-1)] 1++bE [.int .i64 (0)] (n-1))):=by
  rw [getElem?_set_self (by omega)]
 refine cN (σ:=Nat×ae) (λq=>[I q.1]) (λq=>q.2) (λq=>0<q.1/\q.1<=n/\EX h q.2/\q.2[h.length]?=some (.arr 3 (bE [I (-1)] q.1++bE [.int .i64 (0)] (n-q.1)))) (λq=>n-q.1)
  (1,_) rfl rfl ⟨by omega,hn,x3,e3⟩ ?_
 rintro ⟨k,g⟩ ⟨rZ,eW,xg,hg⟩ L hL
 simp only at rZ eW xg hg hL⊢
 rw [aIn]
 have ln:aT (sl 3 h.length 0 n)=some (I n):=rfl
 simp only [ln,bW,ah,ca]
 refine ⟨λaw=>?_,λcJ=>?_⟩
 ·have aw:k<n:=by omega
  have s1:fP 3 1 (sl 3 h.length 0 n) (some (I k)) none=some (sl 3 h.length (k*1) (n-k)):=by
   have e1:(0:Int)<=(k:Int):=by omega
   simp [fP,sl,mE,od,e1,eW]
  have s2:fP 3 1 (sl 3 h.length 0 n) none (some (I k))=some (.slice (some ⟨h.length,0,some 3⟩) k (pc 1 none k n)):=by
   have e1:(0:Int)<=(k:Int):=by omega
   simp [fP,sl,mE,od,e1,eW]
  have d:=dbl (c:=pc 1 none k n) (esz:=1) (r:=[I (-1)]) (z:=[.int .i64 (0)]) rfl rfl rZ aw hg
  have d':=(afu g (sl 3 h.length (k*1) (n-k)) (.slice (some ⟨h.length,0,some 3⟩) k (pc 1 none k n))).trans d
  have m1:Nat.min k (n-k)<=n-k:=Nat.min_le_right _ _
  have m2:0<Nat.min k (n-k):=Nat.lt_min.2 ⟨rZ,by omega⟩
  simp only [s1,s2,ah,d',aL,b7,true_and]
  generalize Nat.min k (n-k)=q at m1 m2 d d'
  have w:IntKind.wrap .i64 ((k:Int)+q)=((k+q:Nat):Int):=by rw [wrap64 (by omega) (by omega)];omega
  rw [w]
  refine hL (k+q,_) ⟨by omega,by omega,xg.set (le_refl _) _,?_⟩ (by show n-(k+q)<n-k;omega)
  show (g.set h.length _)[h.length]?=_
  rw [getElem?_set_self (cm hg).1,show n-(k+q)=n-k-q by omega]
 ·have eW:k=n:=by omega
  subst eW
  rw [aIo]
  refine hk g h.length xg (le_refl _) ?_
  rw [hg,Nat.sub_self]
  have:bE [(.int .i64 (0):Value)] 0=[]:=rfl
  rw [this,List.append_nil]
  congr 2
  simp [bE]
end
section
open Go.Sim Go.Sort
variable {h : ae} {K : Value -> ae -> Prop} {n : Nat}
structure AV (h:ae) (v:Value) (ids:Nat->Nat) (l:List cQ):Prop where
 len:aT v=some (I l.length)
 get:∀k (hk:k<l.length),∃i o,aD 5 v (I k)=some (pt i o)/\af true 5 h (pt i o)=some (.agg (hZ ids l[k]).toArray)/\af false 1 h (pt i o)=some (I l[k].f)/\af false 1 h (pt i (o+3))=some (I l[k].m)
theorem AV.up {h h':ae} {v:Value} {ids:Nat->Nat} {l:List cQ} (r:AV h v ids l) (x:EX h h'):AV h' v ids l:=
 ⟨r.len,λk hk=>let ⟨i,o,a,b,c,d⟩:=r.get k hk;⟨i,o,a,EX.load x b,EX.load x c,EX.load x d⟩⟩
theorem X8 (ids:Nat->Nat) (l:List cQ):∀r∈l.map (hZ ids),r.length=5:=λr hr=>by
 obtain ⟨q,_,rfl⟩:=List.mem_map.1 hr
 rfl
theorem X6 (ids:Nat->Nat) (l:List cQ):(kK ids l).length=l.length*5:=by
 have:=Ct (X8 ids l)
 rwa [length_map] at this
theorem fq.av {b:Nat} {g:ae} {v:Value} {ids:Nat->Nat} {l:List cQ} (o:fq b g 119 5 v l.length (kK ids l)):AV g v ids l:=by
 rcases o.2 with ⟨rfl,h0⟩ | ⟨i,_,rfl,hg⟩
 ·exact ⟨by rw [h0];rfl,λk hk=>by omega⟩
 ·refine ⟨rfl,λk hk=>?_⟩
  have hc:bw g i=some (kK ids l):=by simp [bw,hg]
  have hl:=X6 ids l
  have ha:=Cs (X8 ids l) k (by simpa using hk)
  rw [List.getElem_map] at ha
  refine ⟨i,k*5,?_,UK hc (by omega) ha,?_,DQ (j:=3) hc ha rfl⟩
  ·simp [aD,sl,hk]
  ·have:=DQ (j:=0) hc ha (x:=I l[k].f) rfl
   simpa using this
theorem yh {h:ae} {i:Nat} {e:TypeId} {ids:Nat->Nat} {a:cQ} (hg:h[i]?=some (.arr e (hZ ids a))):
  af false 1 h (pt i 0)=some (I a.f)/\af false 1 h (pt i 1)=some (I a.t)/\af false 1 h (pt i 2)=some (I a.c)/\af false 1 h (pt i 3)=some (I a.m)/\af false 1 h (pt i 4)=some (pt (ids a.i) a.j)/\af true 5 h (pt i 0)=some (.agg (hZ ids a).toArray):=by
 simp [af,bw,hg,dS,hZ]
theorem FC (g:ae):cF 119 [(.int .i64 (0)),(.int .i64 (0)),(.int .i64 (0)),(.int .i64 (0)),(.pointer none)] g=some (pt g.length 0,g++[.arr 119 [I 0,I 0,I 0,I 0,.pointer none]]):=rfl
theorem J5 (g:ae) (ids:Nat->Nat) (a:cQ):aU 5 (g++[az.arr 119 [I 0,I 0,I 0,I 0,.pointer none]]) (pt g.length 0) (.agg (hZ ids a).toArray)=some (undef,g++[.arr 119 (hZ ids a)]):=by
 simp [aU,sw,fV,dL,Value.cells,setAt,hZ]
def bI:Option Nat->Int
 | none=> -1
 | some k=>k
def cV (n:Nat) (c:Nat->Int):List Value:=(List.range n).map λv=>I (c v)
def bV (n:Nat) (b:Nat->Option Nat):List Value:=(List.range n).map λv=>I (bI (b v))
theorem ayW {c:Nat->Int} {v:Nat} (x:Int):(cV n c).set v (I x)=cV n (dU c v x):=by
 refine List.ext_getElem (by simp [cV]) λk h1 h2=>?_
 rw [List.getElem_set]
 simp only [cV,List.getElem_map,List.getElem_range]
 by_cases e:v=k
 ·subst e;rw [if_pos rfl,fL]
 ·rw [if_neg e,ez _ _ (Ne.symm e)]
theorem auq {b:Nat->Option Nat} {v:Nat} (k:Nat):(bV n b).set v (I k)=bV n (dU b v (some k)):=by
 refine List.ext_getElem (by simp [bV]) λj h1 h2=>?_
 rw [List.getElem_set]
 simp only [bV,List.getElem_map,List.getElem_range]
 by_cases e:v=j
 ·subst e;rw [if_pos rfl,fL];rfl
 ·rw [if_neg e,ez _ _ (Ne.symm e)]
structure CM (h0:ae) (ic ib n:Nat) (c:Nat->Int) (b:Nat->Option Nat) (g:ae):Prop where
 ex:EX h0 g
 c0:h0.length<=ic
 b0:h0.length<=ib
 ne:ic≠ib
 hc:g[ic]?=some (.arr 3 (cV n c))
 hb:g[ib]?=some (.arr 3 (bV n b))
theorem CM.up {h0 g g':ae} {ic ib:Nat} {c:Nat->Int} {b:Nat->Option Nat} (m:CM h0 ic ib n c b g) (x:EX g g'):CM h0 ic ib n c b g':=⟨m.ex.trans x,m.c0,m.b0,m.ne,x.get m.hc,x.get m.hb⟩
theorem CM.ldc {h0 g:ae} {ic ib:Nat} {c:Nat->Int} {b:Nat->Option Nat} (m:CM h0 ic ib n c b g) {v:Nat} (hv:v<n):af false 1 g (pt ic v)=some (I (c v)):=by
 simp [af,bw,m.hc,dS,cV,hv]
theorem CM.Bf {h0 g:ae} {ic ib:Nat} {c:Nat->Int} {b:Nat->Option Nat} (m:CM h0 ic ib n c b g) {v:Nat} (hv:v<n):af false 1 g (pt ib v)=some (I (bI (b v))):=by
 simp [af,bw,m.hb,dS,bV,hv]
end
section
open Go.Sim Go.Sort
variable {h : ae} {K : Value -> ae -> Prop} {n : Nat}
structure EI (n:Nat) (l:List cQ):Prop where
 f:∀a∈l,a.f<n
 t:∀a∈l,a.t<n
 ne:∀a∈l,a.f≠a.t
 le:l.length<=128
 n1:1<=n
 n8:n<=8
theorem aoR {ic ib r:Nat} {lv aI aS:Value} {ids:Nat->Nat} {l:List cQ} {L1:List Value->ae->Prop} {g:ae} {c:Nat->Int} {b:Nat->Option Nat} {tm rd:Nat->Nat} {T:Nat} (gr:EI n l) (av:AV h lv ids l) (kR:1<=r) (hr:r<=9)
  (x:RX l r 0 c b tm rd T) (m:CM h ic ib n c b g)
  (hk:∀last g' c b tm rd T,RX l r l.length c b tm rd T->CM h ic ib n c b g'->((last=I (-1)/\∀k (hk:k<l.length),c l[k].t<=c l[k].f+l[k].c)∨∃v,v<n/\last=I v/\rd v=r)->TC prog K (I n) lv (sl 3 ic 0 n) (sl 3 ib 0 n) last aI aS L1 g'):
  bT [(.int .i64 (-1)),(.int .i64 (0))] g λL2 xs hx=>Tz prog K (I n) lv (sl 3 ic 0 n) (sl 3 ib 0 n) aI aS lv (I l.length) L1 L2 xs hx:=by
 have n8:=gr.n8;have aCH:=gr.le
 refine cN (σ:=Nat×Value×(Nat->Int)×(Nat->Option Nat)×(Nat->Nat)×(Nat->Nat)×Nat×ae) (λq=>[q.2.1,I q.1]) (λq=>q.2.2.2.2.2.2.2)
  (λq=>q.1<=l.length/\RX l r q.1 q.2.2.1 q.2.2.2.1 q.2.2.2.2.1 q.2.2.2.2.2.1 q.2.2.2.2.2.2.1/\CM h ic ib n q.2.2.1 q.2.2.2.1 q.2.2.2.2.2.2.2/\((q.2.1=I (-1)/\∀k (hk:k<l.length),k<q.1->q.2.2.1 l[k].t<=q.2.2.1 l[k].f+l[k].c)∨∃v,v<n/\q.2.1=I v/\q.2.2.2.2.2.1 v=r)) (λq=>l.length-q.1)
  (0,I (-1),c,b,tm,rd,T,g) rfl rfl ⟨zero_le _,x,m,.inl ⟨rfl,λk hk h=>absurd h (Nat.not_lt_zero _)⟩⟩ ?_
 rintro ⟨k,last,c,b,tm,rd,T,g⟩ ⟨fC,x,m,tK⟩ L hL
 simp only at fC x m tK hL⊢
 rw [aHo]
 simp only [bW,ah,ca]
 refine ⟨λaw=>?_,λcJ=>?_⟩
 ·have aw:k<l.length:=by omega
  obtain ⟨ai,ao,ad,la,_⟩:=(av.up m.ex).get k aw
  have am:=getElem_mem aw
  have hf:=gr.f _ am;have ht:=gr.t _ am;have bY:=gr.ne _ am
  have cb:=l[k].OT
  simp only [ad,la,ah,FC,aL,J5]
  have x2:EX g (g++[.arr 119 (hZ ids l[k])]):=EX.append _ _
  have c2:(g++[az.arr 119 (hZ ids l[k])])[g.length]?=some (.arr 119 (hZ ids l[k])):=bK
  have m2:=m.up x2
  have nc:ic≠g.length:=by have:=(cm m.hc).1;omega
  have nb:ib≠g.length:=by have:=(cm m.hb).1;omega
  generalize g.length=ia at c2 nc nb⊢
  generalize g++[az.arr 119 (hZ ids l[k])]=g2 at x2 c2 m2⊢
  obtain ⟨p0,p1,p2,p3,p4,p5⟩:=yh c2
  have bf:=x.ge l[k].f;have bt:=x.ge l[k].t
  have bf0:=x.tS l[k].f;have bt0:=x.tS l[k].t
  have tl:=x.Kd
  have tl2:(r-1)*l.length<=8*128:=Nat.mul_le_mul (by omega) aCH
  have w:IntKind.wrap .i64 (c l[k].f+l[k].c)=c l[k].f+l[k].c:=wrap64 (by omega) (by omega)
  have ac:aD 1 (sl 3 ic 0 n) (I l[k].f)=some (pt ic l[k].f):=jL hf
  have ac2:aD 1 (sl 3 ic 0 n) (I l[k].t)=some (pt ic l[k].t):=jL ht
  have ab2:aD 1 (sl 3 ib 0 n) (I l[k].t)=some (pt ib l[k].t):=jL ht
  simp only [cj,zero_add,ah,p0,p1,p2,true_and,ac,ac2,m2.ldc hf,m2.ldc ht,b7,w,bW]
  by_cases hc:c l[k].f+l[k].c<c l[k].t
  ·rw [dh hc]
   have s1:=kz m2.hc (o:=l[k].t) (v:=I (c l[k].f+l[k].c)) (by simpa [cV] using ht) rfl rfl
   rw [ayW] at s1
   have gM:=(cm m2.hc).1
   have CD:=(cm m2.hb).1
   have c3:(g2.set ic (.arr 3 (cV n (dU c l[k].t (c l[k].f+l[k].c)))))[ia]?=some (.arr 119 (hZ ids l[k])):=by rw [getElem?_set_ne nc];exact c2
   have b3:(g2.set ic (.arr 3 (cV n (dU c l[k].t (c l[k].f+l[k].c)))))[ib]?=some (.arr 3 (bV n b)):=by rw [getElem?_set_ne m.ne];exact m2.hb
   have s2:=kz b3 (o:=l[k].t) (v:=I k) (by simpa [bV] using ht) rfl rfl
   rw [auq] at s2
   have q1:=(yh c3).2.1
   have c4:((g2.set ic (.arr 3 (cV n (dU c l[k].t (c l[k].f+l[k].c))))).set ib (.arr 3 (bV n (dU b l[k].t (some k)))))[ia]?=some (.arr 119 (hZ ids l[k])):=by rw [getElem?_set_ne nb];exact c3
   have q2:=(yh c4).2.1
   simp only [gf,ah,true_and,and_true,ab2,s1,aL,q1,s2,q2]
   rw [anb]
   simp only [b7,ah,true_and]
   rw [dP k (by simp [maxLen];omega)]
   refine hL (k+1,I l[k].t,_,_,_,_,T+1,_) ⟨aw,x.step aw bY hc,⟨(m2.ex.set m.c0 _).set m.b0 _,m.c0,m.b0,m.ne,?_,?_⟩,.inr ⟨l[k].t,ht,rfl,fL _ _ _⟩⟩ (by show l.length-(k+1)<l.length-k;omega)
   ·exact (getElem?_set_ne (Ne.symm m.ne)).trans (getElem?_set_self gM)
   ·exact getElem?_set_self (by simpa using CD)
  ·rw [bX hc]
   simp only [dm]
   rw [anb]
   simp only [b7,ah,true_and]
   rw [dP k (by simp [maxLen];omega)]
   refine hL (k+1,last,c,b,tm,rd,T,g2) ⟨aw,x.stay aw hc,m2,tK.imp (λh=>⟨h.1,λj hj hjk=>?_⟩) id⟩ (by show l.length-(k+1)<l.length-k;omega)
   have hjk:j<k+1:=hjk
   by_cases e:j=k
   ·subst e;show c _<=c _+_;omega
   ·exact h.2 j hj (by omega)
 ·have iN:k=l.length:=by omega
  subst iN
  exact hk last g c b tm rd T x m (tK.imp (λh=>⟨h.1,λj hj=>h.2 j hj hj⟩) id)
end
section
open Go.Sim Go.Sort
variable {h : ae} {K : Value -> ae -> Prop} {n : Nat}
theorem aoQ {h0:ae} {ic ib r cur u p:Nat} {lv:Value} {ids:Nat->Nat} {l:List cQ} {c:Nat->Int} {b:Nat->Option Nat} {tm rd:Nat->Nat} {T:Nat} (av:AV h0 lv ids l)
  (x:RX l r cur c b tm rd T) (m:CM h0 ic ib n c b h) (so:∀s,∃k,b (RX.walk l b u s)=some k/\k<l.length) (wn:∀s,RX.walk l b u s<n) (hp:1<=p) (hu:RX.walk l b u p=u) (hm:∀q,1<=q->q<p->RX.walk l b u q≠u) (hpn:p<=1000)
  (hk:∀vr g,EX h0 g->fq h0.length g 119 5 vr (RX.ky l b u p).length (kK ids (RX.ky l b u p))->K (.tuple #[sl 3 ic 0 n,vr]) g):TE prog K lv (sl 3 ic 0 n) (sl 3 ib 0 n) (I u) h:=by
 rw [aHt]
 have rl:∀s,(RX.ky l b u s).length=s:=λs=>by simp [RX.ky]
 refine cN (σ:=Nat×Value×ae) (λq=>[q.2.1,I (RX.walk l b u q.1)]) (λq=>q.2.2) (λq=>q.1<p/\EX h q.2.2/\fq h.length q.2.2 119 5 q.2.1 q.1 (kK ids (RX.ky l b u q.1))) (λq=>p-q.1)
  (0,.slice none 0 0,h) rfl rfl ⟨hp,EX.refl _,fq.nil _ _ _ _⟩ ?_
 rintro ⟨s,vr,g⟩ ⟨hs,xg,own⟩ L hL
 simp only at hs xg own hL⊢
 rw [aHu]
 obtain ⟨k,fC,iN⟩:=so s
 have hw:=wn s
 obtain ⟨_,ef,_,_⟩:=x.Bw so s
 have ea:=RX.NL fC iN
 rw [ea] at ef
 have mg:=m.up xg
 have lb:=mg.Bf hw
 rw [fC] at lb
 obtain ⟨ai,ao,ad,la,_⟩:=(av.up mg.ex).get k iN
 have ab:aD 1 (sl 3 ib 0 n) (I (RX.walk l b u s))=some (pt ib (RX.walk l b u s)):=jL hw
 have lb:af false 1 g (pt ib (RX.walk l b u s))=some (I k):=lb
 have x2:EX g (g++[.arr 119 (hZ ids l[k])]):=EX.append _ _
 have c2:(g++[az.arr 119 (hZ ids l[k])])[g.length]?=some (.arr 119 (hZ ids l[k])):=bK
 simp only [ab,lb,ad,la,ah,FC,aL,J5,(yh c2).2.2.2.2.2,agj]
 have oP:=own.up x2
 have fr:∀q,vr≠sl 119 g.length 0 q:=λq e=>by have:=(own.lt e).2;omega
 generalize g.length=ia at c2 fr⊢
 generalize g++[az.arr 119 (hZ ids l[k])]=g2 at x2 c2 oP⊢
 have x3:EX g2 (g2++[.arr 119 (hZ ids l[k])]):=EX.append _ _
 have ial:=(cm c2).1
 refine fq.app (oP.up x3) (xg.trans (x2.trans x3)) bK rfl (by omega) (by omega) (by omega) ?_
 intro v' g' x' iu gl qA _
 have c4:g'[ia]?=some (.arr 119 (hZ ids l[k])):=by
  rw [iu ia (by simp;omega) fr];exact x3.get c2
 have rs:RX.ky l b u (s+1)=RX.ky l b u s++[l[k]]:=by rw [RX.anl,ea]
 have qA:fq h.length g' 119 5 v' (s+1) (kK ids (RX.ky l b u (s+1))):=by
  rw [rs,X5,X7];exact qA
 simp only [cj,zero_add,ah,(yh c4).1,ef,jB]
 by_cases e:s+1=p
 ·subst e
  rw [dh (show ((RX.walk l b u (s+1):Nat):Int)=u by rw [hu])]
  simp only [gf]
  refine hk v' g' (m.ex.trans x') ?_
  rw [rl]
  exact ⟨qA.1,qA.2.imp id λ⟨i,h1,h2⟩=>⟨i,Nat.le_trans m.ex.1 h1,h2⟩⟩
 ·have:=hm (s+1) (by omega) (by omega)
  rw [bX (show ¬((RX.walk l b u (s+1):Nat):Int)=u by omega)]
  simp only [dm,true_and]
  exact hL (s+1,v',g') ⟨by omega,x',qA⟩ (by show p-(s+1)<p-s;omega)
theorem aoP {h0:ae} {ic ib r cur v:Nat} {lv:Value} {ids:Nat->Nat} {l:List cQ} {c:Nat->Int} {b:Nat->Option Nat} {tm rd:Nat->Nat} {T:Nat} (gr:EI n l) (av:AV h0 lv ids l)
  (x:RX l r cur c b tm rd T) (m:CM h0 ic ib n c b h) (hv:v<n) (AW:rd v=n+1)
  (hk:∀vr g ring,EX h0 g->ring≠[]->(∀a∈ring,a∈l)->ring.Nodup->(ring.map cQ.f).Perm (ring.map cQ.t)->(ring.map cQ.c).sum<0->fq h0.length g 119 5 vr ring.length (kK ids ring)->K (.tuple #[sl 3 ic 0 n,vr]) g):
  TD prog K (I n) lv (sl 3 ic 0 n) (sl 3 ib 0 n) (I v) h:=by
 have n8:=gr.n8
 obtain ⟨so,wn,p,hp,hu,hm⟩:=x.ring gr.f hv AW
 rw [aHr]
 refine cN (σ:=Nat) (λs=>[I (RX.walk l b v s),I s]) (λ_=>h) (λs=>s<=n) (λs=>n-s) 0 rfl rfl (zero_le _) ?_
 intro s hs L hL
 rw [aHs]
 simp only [bW,ah,ca]
 refine ⟨λaw=>?_,λcJ=>?_⟩
 ·obtain ⟨k,fC,iN⟩:=so s
  have hw:=wn s
  obtain ⟨_,ef,_,_⟩:=x.Bw so s
  rw [RX.NL fC iN] at ef
  have lb:=m.Bf hw
  rw [fC] at lb
  obtain ⟨ai,ao,ad,_,lf,_⟩:=(av.up m.ex).get k iN
  have ab:aD 1 (sl 3 ib 0 n) (I (RX.walk l b v s))=some (pt ib (RX.walk l b v s)):=jL hw
  have lb:af false 1 h (pt ib (RX.walk l b v s))=some (I k):=lb
  simp only [ab,lb,ad,cj,Nat.add_zero,lf,ef,ah,b7,true_and]
  rw [dP s (by simp [maxLen];omega)]
  exact hL (s+1) (by omega) (by omega)
 ·have e:s=n:=by omega
  subst e
  have DZ:∀q,∃k,b (RX.walk l b (RX.walk l b v s) q)=some k/\k<l.length:=λq=>by rw [<-RX.vQ];exact so _
  have wn':∀q,RX.walk l b (RX.walk l b v s) q<s:=λq=>by rw [<-RX.vQ];exact wn _
  have nd:=x.aJt DZ hu hm
  have mem:∀a∈RX.ky l b (RX.walk l b v s) p,a∈l:=λa ha=>by
   obtain ⟨q,_,rfl⟩:=List.mem_map.1 ha
   exact (x.Bw DZ q).1
  have pl:=RX.aJr wn' hu hm
  refine aoQ av x m DZ wn' hp hu hm (by omega) λvr g xg own=>?_
  refine hk vr g _ xg (λe=>?_) mem nd (x.aJu DZ hp hu) (x.aJs DZ hp hu) own
  have:=congrArg List.length e
  simp [RX.ky] at this;omega
end
end Go.Proofs.YtncaiogfjjepcaaGreat
