/-
  Part 5 of the texts behind a statement of this seat: Da8, Da9, Da10, UZU, Sp6, CA, UCt28, UCt29, UCt30, UCt31, UCt32, UCt33, CB.
-/
import Derived.Test.YtncaiogfjjepcaaGreatProg
import Derived.KernelRfl
import Derived.Test.YtncaiogfjjepcaaGreatTu4
open Classical (byContradiction)
open Go.Proofs.Tryz (prog)
open List (drop_eq_getElem_cons drop_zero getElem?_set_ne getElem_mem getElem_set_ne length_set length_take map_const' mem_map replicate take_length take_of_length_le)
open Nat (add_zero le_refl mod_eq_of_lt mod_lt pow_succ zero_add zero_le)
namespace Go.Proofs.YtncaiogfjjepcaaGreat
section
open Go.Sim Go.Sort
variable {h : ae} {K : Value -> ae -> Prop} {n : Nat}
theorem encI (i:Nat) (e:TypeId) (ns:List Int):∃u,mO i (.arr e (ns.map I))=some u:=by
 have:(ns.map I).all (qz i)=true:=by
  rw [List.all_eq_true];intro x hx
  obtain ⟨z,_,rfl⟩:=mem_map.1 hx
  rfl
 simp [mO]
theorem obI {g:ae} {i m:Nat} {e:TypeId} {ns:List Int} (hg:g[i]?=some (.arr e (ns.map I))):∃u,∀g':ae,g'[i]?=g[i]?->eB g' (sl e i 0 m)=some u:=by
 obtain ⟨u,hu⟩:=encI i e ns
 refine ⟨u,λg' h'=>?_⟩
 simp only [eB,vB,sl,Option.bind_some,h',hg]
 exact hu
theorem C52 {lv:Value} {ids:Nat->Nat} {l:List cQ} (gr:EJ n l) (av:AV h lv ids l)
  (hA:∀vc g (c:Nat->Int),EX h g->(∀k (hk:k<l.length),c l[k].t<=c l[k].f+l[k].c)->K (.tuple #[vc,.slice none 0 0]) g)
  (hB:∀vc vr g ring,EX h g->ring≠[]->(∀a∈ring,a∈l)->ring.Nodup->(ring.map cQ.f).Perm (ring.map cQ.t)->(ring.map cQ.c).sum<0->fq h.length g 119 5 vr ring.length (kK ids ring)->K (.tuple #[vc,vr]) g):
  ay prog 52 [I n,lv] h K:=by
 have n1:=gr.n1;have n8:=gr.n8
 refine f52 ?_
 unfold MU
 have sG:eM 3 8 [(.int .i64 (0))] h (I n) (I n)=some (sl 3 h.length 0 n,h++[.arr 3 (bE [.int .i64 (0)] n)]):=by
  simp only [eM]
  rw [if_pos (by omega)]
  simp
 have z0:bE [(.int .i64 (0))] n=cV n λ_=>0:=by
  simp [bE,cV]
  rw [map_const'];simp
 have zc:cV n (λ_=>0)=(replicate n (0:Int)).map I:=by
  simp [cV]
  rw [map_const'];simp
 have x1:EX h (h++[.arr 3 (cV n λ_=>0)]):=EX.append _ _
 have c1:(h++[az.arr 3 (cV n λ_=>0)])[h.length]?=some (.arr 3 (cV n λ_=>0)):=bL
 have l1:(h++[az.arr 3 (cV n λ_=>0)]).length=h.length+1:=by simp
 have sW:=c1
 rw [zc] at sW
 obtain ⟨u,hu⟩:=obI (m:=n) sW
 rw [<-zc] at hu
 simp only [sG,z0,aL]
 generalize h++[az.arr 3 (cV n λ_=>0)]=g1 at x1 c1 l1 hu⊢
 have Pn:cH 3 1 [(.int .i64 (0))] g1 [(0,1,(.int .i64 (-1)))]=some (sl 3 g1.length 0 1,g1++[.arr 3 [I (-1)]]):=by
  simp [cH,jE,bE,setAt,fV,dL,Value.cells]
 have x2:EX g1 (g1++[.arr 3 [I (-1)]]):=EX.append _ _
 have c2:(g1++[az.arr 3 [I (-1)]])[g1.length]?=some (.arr 3 ([(-1:Int)].map I)):=bL
 obtain ⟨u1,re⟩:=obI (m:=1) c2
 have hc:h.length<g1.length:=by omega
 simp only [hu g1 rfl,ah,true_and,Pn,aL,re _ rfl,hu _ (x2.2 _ hc),and_true]
 generalize g1.length=ij at c2 hc re⊢
 generalize g1++[az.arr 3 [I (-1)]]=g2 at x2 c2 re⊢
 refine C77 n1 n8 c2 λg3 ib x3 Ig hg3=>?_
 have c3:g3[h.length]?=some (.arr 3 (cV n λ_=>0)):=(x2.trans x3).get c1
 have Po:IntKind.wrap .i64 ((n:Int)+1)=((n+1:Nat):Int):=dQ n (by simp [maxLen];omega)
 have rb:replicate n (I (-1))=bV n λ_=>none:=by
  simp [bV,bI]
  rw [map_const'];simp
 rw [rb] at hg3
 have lt2:h.length<g2.length:=by
  have:=(cm c1).1;have:=x2.1;omega
 simp only [hu g3 (by rw [c3,c1]),true_and,bZ,ah,Po]
 have m0:CM h h.length ib n (λ_=>0) (λ_=>none) g3:=⟨(x1.trans x2).trans x3,le_refl _,by omega,by omega,c3,hg3⟩
 refine cN (σ:=Nat×Value×(Nat->Int)×(Nat->Option Nat)×(Nat->Nat)×(Nat->Nat)×Nat×ae) (λq=>[q.2.1,I q.1]) (λq=>q.2.2.2.2.2.2.2)
  (λq=>q.1<=n+1/\RX l (q.1+1) 0 q.2.2.1 q.2.2.2.1 q.2.2.2.2.1 q.2.2.2.2.2.1 q.2.2.2.2.2.2.1/\CM h h.length ib n q.2.2.1 q.2.2.2.1 q.2.2.2.2.2.2.2/\(q.1=0∨∃v,v<n/\q.2.1=I v/\q.2.2.2.2.2.1 v=q.1)) (λq=>n+1-q.1)
  (0,I (-1),λ_=>0,λ_=>none,λ_=>0,λ_=>0,0,g3) rfl rfl ⟨zero_le _,RX.start l,m0,.inl rfl⟩ ?_
 rintro ⟨q,last,c,b,tm,rd,T,g⟩ ⟨hq,x,m,hl⟩ L hL
 simp only at hq x m hl hL⊢
 rw [aHr]
 simp only [bT,ah,cd]
 refine ⟨λaw=>?_,λcK=>?_⟩
 ·have aw:q<n+1:=by omega
  simp only [av.len,ah]
  refine aoQ gr av (by omega) (by omega) x m ?_
  intro last g' c b tm rd T x m tK
  rw [aHl]
  rcases tK with ⟨rfl,hp⟩ | ⟨v,hv,rfl,AX⟩
  ·simp only [bT,ah]
   exact uo (λ_=>hA _ g' c m.ex hp) (λe=>absurd e (by decide))
  ·simp only [bT,ah,bY (show ¬(v:Int)<0 by omega),dm]
   rw [aHm]
   simp only [bZ,ah,true_and]
   rw [dQ q (by simp [maxLen];omega)]
   exact hL (q+1,I v,c,b,tm,rd,T,g') ⟨aw,x.next (by omega) rfl,m,.inr ⟨v,hv,rfl,AX⟩⟩ (by show n+1-(q+1)<n+1-q;omega)
 ·have e:q=n+1:=by omega
  subst e
  obtain ⟨v,hv,rfl,AX⟩:=hl.resolve_left (by omega)
  exact aoO gr av x m hv AX λvr g ring=>hB _ vr g ring
end
section
open Go.Sim Go.Sort
variable {h : ae} {K : Value -> ae -> Prop} {n : Nat}
structure nO (n:Nat) (D:Nat->Nat->Int):Prop where
 n1:1<=n
 n8:n<=8
 ee:∀i<n,∀j<n,0<=D i j/\D i j<=1000
 diag:∀i<n,D i i=0
 wq:∀v<n,di n D v=nR n D v
theorem MR.set {g:ae} {im:Nat} {ids:Nat->Nat} {R:Nat->Nat->Int} (m:MR g im ids n R) {i j:Nat} (hi:i<n) (hj:j<n) (x:Int):
  ∃g',aU 1 g (pt (ids i) j) (I x)=some (undef,g')/\g'=g.set (ids i) (.arr 3 ((iL n R i).set j (I x)))/\MR g' im ids n (λa b=>if a=i/\b=j then x else R a b):=by
 have st:=kz (m.hr i hi) (o:=j) (v:=I x) (by simpa [iL] using hj) rfl rfl
 refine ⟨_,st,rfl,?_,λk hk=>?_,m.inj,m.nm,m.n8⟩
 ·rw [getElem?_set_ne (m.nm i hi)];exact m.ho
 ·by_cases e:k=i
  ·subst e
   rw [List.getElem?_set_self (cm (m.hr k hk)).1]
   congr 2
   refine List.ext_getElem (by simp [iL]) λq h1 h2=>?_
   rw [List.getElem_set]
   simp only [iL,List.getElem_map,List.getElem_range]
   by_cases e2:j=q
   ·subst e2;simp
   ·simp [e2,Ne.symm e2]
  ·rw [getElem?_set_ne λh=>e (m.inj k hk i hi h.symm),m.hr k hk]
   congr 2
   refine List.map_congr_left λq _=>?_
   simp [e]
theorem aoH {g0 g:ae} {eY oI ir:Nat} {iR:Nat->Nat} {R:Nat->Nat->Int} {ring:List cQ} {eR:Int} {L1:List Value->ae->Prop} (kR:∀a∈ring,a.i<n/\a.j<n) (rl:ring.length<=128) (hm1:1<=eR) (hm2:eR<=1000)
  (hR:∀i<n,∀j<n,0<=R i j/\R i j<=1000) (hb:∀i<n,g0.length<=iR i) (xg:EX g0 g) (m:MR g oI iR n R) (hg:g[ir]?=some (.arr 119 (kK iR ring)))
  (hk:∀g',EX g0 g'->MR g' oI iR n (λi j=>R i j+eR*ch ring i j)->L1 [] g'):
  SM prog K (sl 34 eY 0 n) (sl 34 oI 0 n) (sl 119 ir 0 ring.length) (I eR) L1 g:=by
 rw [aFD]
 have ln:aT (sl 119 ir 0 ring.length)=some (I ring.length):=rfl
 simp only [ln,ah]
 refine cN (σ:=Nat×ae) (λq=>[I q.1]) (λq=>q.2) (λq=>q.1<=ring.length/\EX g0 q.2/\MR q.2 oI iR n (λi j=>R i j+eR*ch (ring.take q.1) i j)/\q.2[ir]?=some (.arr 119 (kK iR ring))/\
   ∀i j,-(1000*(q.1:Int))<=eR*ch (ring.take q.1) i j/\eR*ch (ring.take q.1) i j<=1000*q.1) (λq=>ring.length-q.1)
  (0,g) rfl rfl ⟨zero_le _,xg,by simpa [Cf] using m,hg,λi j=>by simp [Cf]⟩ ?_
 rintro ⟨t,g⟩ ⟨ht,xg,m,hg,bd⟩ L hL
 simp only at ht xg m hg bd hL⊢
 rw [aFE]
 simp only [bT,ah,cd]
 refine ⟨λaw=>?_,λcK=>?_⟩
 ·have aw:t<ring.length:=by omega
  have own:fq 0 g 119 5 (sl 119 ir 0 ring.length) ring.length (kK iR ring):=⟨X9 _ _,.inr ⟨ir,zero_le _,rfl,hg⟩⟩
  obtain ⟨ai,ao,ad,la,_⟩:=own.av.get t aw
  obtain ⟨hi,hj⟩:=kR _ (getElem_mem aw)
  have tk:ring.take (t+1)=ring.take t++[ring[t]]:=by rw [List.take_succ_eq_append_getElem aw]
  have cb:=ring[t].OU
  have b0:=hR _ hi _ hj
  have b1:=bd ring[t].i ring[t].j
  generalize ring[t]=a at la hi hj tk cb b0 b1
  have x2:EX g (g++[.arr 119 (iu iR a)]):=EX.append _ _
  have c2:(g++[az.arr 119 (iu iR a)])[g.length]?=some (.arr 119 (iu iR a)):=bL
  simp only [ad,la,ah,FD,aL,J6]
  have m2:=m.up x2
  have CK:=x2.get hg
  have nj:=xg.trans x2
  generalize g.length=ia at c2⊢
  generalize g++[az.arr 119 (iu iR a)]=g2 at c2 m2 CK nj⊢
  obtain ⟨p0,p1,p2,p3,p4,p5⟩:=yi c2
  have mc:a.c*eR=eR∨a.c*eR= -eR:=by rcases cb with h | h <;> rw [h] <;> simp
  have w1:IntKind.wrap .i64 (a.c*eR)=a.c*eR:=wrap64 (by omega) (by omega)
  have w2:IntKind.wrap .i64 (R a.i a.j+eR*ch (ring.take t) a.i a.j+a.c*eR)=R a.i a.j+eR*ch (ring.take t) a.i a.j+a.c*eR:=wrap64 (by omega) (by omega)
  obtain ⟨g3,s1,e3,m3⟩:=m2.set hi hj (R a.i a.j+eR*ch (ring.take t) a.i a.j+a.c*eR)
  simp only [bP,zero_add,ah,p2,p4,gH,m2.jk hi hj,true_and,xU,w1,bZ,w2,s1,aL]
  rw [dQ t (by simp [maxLen];omega)]
  have ne:iR a.i≠ir:=λe=>by
   have h1:=m2.hr _ hi
   rw [e,CK] at h1;cases h1
  refine hL (t+1,g3) ⟨aw,by rw [e3];exact nj.set (hb _ hi) _,?_,?_,λi j=>?_⟩ (by show ring.length-(t+1)<ring.length-t;omega)
  ·show MR g3 oI iR n λi j=>R i j+eR*ch (ring.take (t+1)) i j
   have:(λi j=>R i j+eR*ch (ring.take (t+1)) i j)=λx y=>if x=a.i/\y=a.j then R a.i a.j+eR*ch (ring.take t) a.i a.j+a.c*eR else R x y+eR*ch (ring.take t) x y:=by
    funext x y
    rw [tk,adb,Aw,Cf]
    by_cases e:x=a.i/\y=a.j
    ·rw [if_pos e,if_pos e,e.1,e.2,Int.add_zero,Int.mul_add,Int.mul_comm a.c];omega
    ·rw [if_neg e,if_neg e];simp
   rw [this];exact m3
  ·show g3[ir]?=_
   rw [e3,getElem?_set_ne ne];exact CK
  ·show -(1000*((t+1:Nat):Int))<=eR*ch (ring.take (t+1)) i j/\eR*ch (ring.take (t+1)) i j<=1000*((t+1:Nat):Int)
   have b:=bd i j
   rw [tk,adb,Aw,Cf]
   split
   ·rw [Int.mul_add,Int.add_zero,Int.mul_comm eR a.c];omega
   ·simp;omega
 ·have e:t=ring.length:=by omega
  subst e
  rw [take_length] at m
  exact ⟨trivial,hk g xg m⟩
end
section
open Go.Sim Go.Sort
variable {h : ae} {K : Value -> ae -> Prop} {n : Nat}
theorem aAw {D R:Nat->Nat->Int} {a:cQ} (hD:∀i<n,D i i=0) (hR:∀i<n,∀j<n,0<=R i j/\R i j<=D i j) (g:PO n D R a):a.f<n/\a.t<n/\a.f≠a.t:=by
 obtain ⟨h1,h2,h3,h4⟩:=g
 have ne:a.i≠a.j:=λe=>by
  have d:=hD a.i h1
  have r:=hR a.i h1 a.i h1
  rw [h3,<-e] at h4
  unfold zt at h4
  split at h4 <;> omega
 unfold cQ.f cQ.t
 split
 ·exact ⟨h1,h2,ne⟩
 ·exact ⟨h2,h1,Ne.symm ne⟩
theorem C29 {eY:Nat} {iQ:Nat->Nat} {D:Nat->Nat->Int} (bl:nO n D) (md:MR h eY iQ n D)
  (hk:∀vc g im ids,EX h g->MR g im ids n (λ_ _=>0)->K (.tuple #[sl 34 im 0 n,vc]) g):ay prog 29 [sl 34 eY 0 n] h K:=by
 have n8:=bl.n8;have n1:=bl.n1
 refine f29 ?_
 unfold Mw
 refine C51 md n1 λg0 oI iR x0 AS iH m0=>?_
 have r0:xP n D D:=⟨λi hi j hj=>by have:=bl.ee i hi j hj;omega,bl.wq⟩
 refine cN (σ:=(Nat->Nat->Int)×ae) (λ_=>[]) (λq=>q.2) (λq=>EX h q.2/\MR q.2 oI iR n q.1/\xP n D q.1) (λq=>(pF n q.1).toNat) (D,g0) rfl rfl ⟨x0,m0,r0⟩ ?_
 rintro ⟨R,g⟩ ⟨xg,mr,rs⟩ L hL
 simp only at xg mr rs hL⊢
 rw [aFF]
 have ln:aT (sl 34 oI 0 n)=some (I n):=rfl
 have n64:n*n<=64:=Nat.mul_le_mul n8 n8
 simp only [ln,ah]
 refine C53 (md.up xg) mr n1 (λi hi j hj=>by have:=rs.bd i hi j hj;have:=bl.ee i hi j hj;omega) ?_
 intro v g1 l x1 al own
 have ga:=λa ha=>aAw bl.diag rs.bd (al.gd a ha)
 have gr:EJ n l:=⟨λa ha=>(ga a ha).1,λa ha=>(ga a ha).2.1,λa ha=>(ga a ha).2.2,by have:=al.le;omega,n1,n8⟩
 refine C52 gr own.av ?_ ?_
 ·intro vc g2 c x2 hc
  have en:oG false (.slice none 0 0) (.slice none 0 0)=some (B true):=rfl
  simp only [fM,gi,gj,ah,en,gf]
  have z:=rs.zero c λi hi j hj hp=>by
   have:=al.yc i hi j hj (.inl hi) hp
   obtain ⟨k,fD,qV⟩:=List.getElem_of_mem this
   have:=hc k fD
   rw [qV] at this
   exact this
  have m2:=mr.up (x1.trans x2)
  refine hk vc g2 oI iR (xg.trans (x1.trans x2)) ⟨m2.ho,λi hi=>?_,m2.inj,m2.nm,n8⟩
  rw [m2.hr i hi]
  congr 2
  exact List.map_congr_left λj hj=>by rw [z i hi j (List.mem_range.1 hj)]
 ·intro vc vr g2 ring x2 b7 kl oC CX km R4
  have anq:0<ring.length:=List.length_pos_iff.2 b7
  obtain ⟨ir,Qf,rfl,tH⟩:=R4.at anq
  have en:oG false (sl 119 ir 0 ring.length) (.slice none 0 0)=some (B false):=rfl
  have rl:ring.length<=128:=Nat.le_trans (by
   have:∀{a b:List cQ},a.Nodup->(∀x∈a,x∈b)->a.length<=b.length:=by
    intro a
    induction a with
    | nil=>intro b _ _;simp
    | cons x a ih=>
     intro b h1 h2
     have hx:=h2 x (by simp)
     have:=ih (b:=b.erase x) (List.nodup_cons.1 h1).2 λy hy=>by
      have:y≠x:=λe=>(List.nodup_cons.1 h1).1 (e ▸ hy)
      exact (List.mem_erase_of_ne this).2 (h2 y (by simp [hy]))
     rw [List.length_erase_of_mem hx] at this
     have:=List.length_pos_of_mem hx
     simp;omega
   exact this oC kl) gr.le
  obtain ⟨ai,ao,ad,_,_,lm⟩:=R4.av.get 0 anq
  have ad:aD 5 (sl 119 ir 0 ring.length) (.int .i64 (0))=some (pt ai ao):=ad
  have ln2:aT (sl 119 ir 0 ring.length)=some (I ring.length):=rfl
  simp only [fM,gi,gj,ah,en,dm,ad,bP,lm,ln2]
  have gm:∀a∈ring,1<=a.m/\a.m<=1000:=λa ha=>by
   obtain ⟨h1,h2,h3,h4⟩:=al.gd a (kl a ha)
   have:=rs.bd _ h1 _ h2
   have:=bl.ee _ h1 _ h2
   refine ⟨by omega,?_⟩
   rw [h3];unfold zt;split <;> omega
  refine cN (σ:=Nat×Int×ae) (λq=>[I q.2.1,I q.1]) (λq=>q.2.2) (λq=>q.1<=ring.length/\EX g2 q.2.2/\1<=q.2.1/\q.2.1<=1000/\∀a∈ring.take q.1,q.2.1<=a.m) (λq=>ring.length-q.1)
   (0,ring[0].m,g2) rfl rfl ⟨zero_le _,EX.refl _,(gm _ (getElem_mem _)).1,(gm _ (getElem_mem _)).2,λa ha=>absurd ha (by simp)⟩ ?_
  rintro ⟨t,eR,g3⟩ ⟨ht,x3,m1,m2,mm⟩ L2 dP
  simp only at ht x3 m1 m2 mm dP⊢
  rw [aFC]
  simp only [bT,ah,cd]
  refine ⟨λaw=>?_,λcK=>?_⟩
  ·have aw:t<ring.length:=by omega
   obtain ⟨ai,ao,ad,la,_⟩:=(R4.av.up x3).get t aw
   have x4:EX g3 (g3++[.arr 119 (iu iR ring[t])]):=EX.append _ _
   have c4:(g3++[az.arr 119 (iu iR ring[t])])[g3.length]?=some (.arr 119 (iu iR ring[t])):=bL
   have tk:ring.take (t+1)=ring.take t++[ring[t]]:=by rw [List.take_succ_eq_append_getElem aw]
   have gmt:=gm _ (getElem_mem aw)
   simp only [ad,la,ah,FD,aL,J6,bP,zero_add,(yi c4).2.2.2.1,min2,bZ,true_and]
   rw [dQ t (by simp [maxLen];omega)]
   refine dP (t+1,min eR ring[t].m,_) ⟨aw,x3.trans x4,by show 1<=min eR ring[t].m;omega,by show min eR ring[t].m<=1000;omega,λa ha=>?_⟩ (by show ring.length-(t+1)<ring.length-t;omega)
   have ha:a∈ring.take (t+1):=ha
   rw [tk] at ha
   show min eR ring[t].m<=a.m
   rcases List.mem_append.1 ha with ha | ha
   ·have:=mm a ha;omega
   ·rw [List.mem_singleton.1 ha];omega
  ·have e:t=ring.length:=by omega
   subst e
   rw [take_length] at mm
   have inn:∀a∈ring,a.i<n/\a.j<n:=λa ha=>let ⟨h1,h2,_⟩:=al.gd a (kl a ha);⟨h1,h2⟩
   obtain ⟨s1,s2⟩:=rs.step oC inn (λa ha=>(al.gd a (kl a ha)).2.2.1) CX km m1 mm
   refine aoH (g0:=h) inn rl m1 m2 (λi hi j hj=>by have:=rs.bd i hi j hj;have:=bl.ee i hi j hj;omega) iH (xg.trans (x1.trans (x2.trans x3))) (mr.up (x1.trans (x2.trans x3))) (x3.get tH) ?_
   intro g' x' m'
   refine hL (_,g') ⟨x',m',s1⟩ ?_
   have n0:0<=pF n (λi j=>R i j+eR*ch ring i j):=vN λi hi=>vN λj hj=>(s1.bd i hi j hj).1
   show (pF n (λi j=>R i j+eR*ch ring i j)).toNat<(pF n R).toNat
   omega
theorem lB.of {D:Nat->Nat->Int} (n1:1<=n) (n8:n<=8) (ee:∀i<n,∀j<n,0<=D i j/\D i j<=1000) (diag:∀i<n,D i i=0):lB n (fQ n D):=by
 refine ⟨n1,n8,by simp [fQ],λr hr=>?_,λr hr x hx=>?_,λi hi hj=>?_⟩
 ·obtain ⟨i,_,rfl⟩:=mem_map.1 hr;simp
 ·obtain ⟨i,hi,rfl⟩:=mem_map.1 hr
  obtain ⟨j,hj,rfl⟩:=mem_map.1 hx
  exact ee i (List.mem_range.1 hi) j (List.mem_range.1 hj)
 ·have iN:i<n:=by simpa [fQ] using hi
  simp [fQ,diag i iN]
theorem C10 {eY:Nat} {iQ:Nat->Nat} {D:Nat->Nat->Int} (bl:nO n D) (md:MR h eY iQ n D)
  (hk:∀g im ids,EX h g->MR g im ids n (λ_ _=>0)->K (.tuple #[sl 34 im 0 n,I (fz (fQ n D)).sum,I 0]) g):ay prog 10 [sl 34 eY 0 n] h K:=by
 have mk:=lB.of bl.n1 bl.n8 bl.ee bl.diag
 have mz:lB n (fQ n λ_ _=>0):=lB.of bl.n1 bl.n8 (λ_ _ _ _=>by omega) λ_ _=>rfl
 refine f10 ?_
 unfold LI
 refine V7 md.mi mk ?_
 simp only [kW,Bool.not_true,ah,dm]
 refine C29 bl md λvc g im ids x m=>?_
 simp only [fM,gi,gj,ah]
 refine V8 (md.up x).mi mk ?_
 refine V8 m.mi mz ?_
 have z:(fz (fQ n λ_ _=>0)).sum=0:=by
  have:∀r∈fz (fQ n λ_ _=>(0:Int)),r=0:=by
   intro r hr
   obtain ⟨q,hq,rfl⟩:=mem_map.1 hr
   obtain ⟨i,_,rfl⟩:=mem_map.1 hq
   have:(List.range n).map (λ_=>(0:Int))=replicate n 0:=by rw [map_const'];simp
   rw [this];simp
  have e:fz (fQ n λ_ _=>(0:Int))=replicate (fz (fQ n λ_ _=>(0:Int))).length 0:=List.eq_replicate_iff.2 ⟨rfl,this⟩
  rw [e];simp
 have tb:=mk.D8 (fz (fQ n D)).length
 rw [take_length] at tb
 have w:IntKind.wrap .i64 ((fz (fQ n D)).sum-0)=(fz (fQ n D)).sum:=by rw [wrap64 (by omega) (by omega)];omega
 simp only [z,gO,w,ah]
 exact hk g im ids x m
end
section
open Go.Sim
section
variable {h : ae} {id : Nat}
abbrev hb (h:ae) (id:Nat) (xs:List UInt8):ae:=h.set id (.arr 5 (xs.map cv))
theorem H5 (iH:id<h.length) (xs:List UInt8):(hb h id xs)[id]?=some (.arr 5 (xs.map cv)):=by simp [hb,iH]
theorem aej (iH:id<h.length) {xs:List UInt8} {j:Nat} {c:UInt8} (hj:xs[j]?=some c):af false 1 (hb h id xs) (pt id j)=some (cv c):=by
 simp [af,bw,H5 iH,dS,hj]
theorem aek (iH:id<h.length) {xs:List UInt8} {j:Nat} (c:UInt8) (hj:j<xs.length):aU 1 (hb h id xs) (pt id j) (cv c)=some (undef,hb h id (xs.set j c)):=by
 rw [kz (H5 iH xs) (by simpa using hj) rfl rfl]
 simp [hb,List.map_set]
end
end
end Go.Proofs.YtncaiogfjjepcaaGreat
namespace Go.Sim
section
def val (B:Nat):List Nat->Nat
 | []=>0
 | d::ds=>d+B*val B ds
def dF (B:Nat) (xs:List Nat):Prop:=∀x∈xs,x<B
def eL (B:Nat) (xs:List Nat):Prop:=dF B xs/\xs.getLast?≠some 0
theorem oT (B:Nat):∀xs ys:List Nat,val B (xs++ys)=val B xs+B^xs.length*val B ys
 | [],ys=>by simp [val]
 | x::xs,ys=>by
  simp only [List.cons_append,val,oT B xs ys,List.length_cons,pow_succ]
  grind
theorem xo (B:Nat):∀n,val B (replicate n 0)=0
 | 0=>rfl
 | n+1=>by rw [List.replicate_succ];simp [val,xo B n]
theorem sM (B:Nat):∀(xs:List Nat) (i d:Nat) (hi:i<xs.length),val B (xs.set i d)+B^i*xs[i]=val B xs+B^i*d
 | [],i,d,hi=>by simp at hi
 | x::xs,0,d,hi=>by simp [val];omega
 | x::xs,i+1,d,hi=>by
  have ih:=sM B xs i d (by simpa using hi)
  simp only [List.set_cons_succ,val,List.getElem_cons_succ,pow_succ]
  grind
theorem jS (B:Nat) (xs:List Nat) {i:Nat} (hi:i<xs.length):val B (xs.take (i+1))=val B (xs.take i)+B^i*xs[i]:=by
 rw [List.take_succ_eq_append_getElem hi,oT]
 simp [val,Nat.min_eq_left (Nat.le_of_lt hi)]
theorem dF.mono {B:Nat} {xs ys:List Nat} (h:dF B xs) (hs:∀y∈ys,y∈xs):dF B ys:=λy hy=>h y (hs y hy)
theorem dF.append {B:Nat} {xs ys:List Nat} (h:dF B xs) (k:dF B ys):dF B (xs++ys):=λy hy=>(List.mem_append.1 hy).elim (h y) (k y)
theorem dF.set {B:Nat} {xs:List Nat} (h:dF B xs) {d:Nat} (hd:d<B) (i:Nat):dF B (xs.set i d):=λy hy=>by
 rcases List.mem_or_eq_of_mem_set hy with h1 | h1
 ·exact h y h1
 ·rw [h1];exact hd
theorem dF.we {B:Nat} (hB:0<B) (n:Nat):dF B (replicate n 0):=λy hy=>by
 rw [(List.mem_replicate.1 hy).2];exact hB
theorem nJ {B:Nat}:∀{xs:List Nat},dF B xs->val B xs<B^xs.length
 | [],_=>by simp [val]
 | x::xs,h=>by
  have h1:=h x (by simp)
  have ih:=nJ (xs:=xs) λy hy=>h y (by simp [hy])
  simp only [val,List.length_cons,pow_succ]
  have:B*(val B xs+1)<=B*B^xs.length:=Nat.mul_le_mul_left _ ih
  rw [Nat.mul_comm (B^xs.length)]
  grind
theorem eL.cons {B:Nat} {x:Nat} {xs:List Nat} (h:eL B (x::xs)):x<B/\eL B xs/\(xs=[]->x≠0):=by
 refine ⟨h.1 x (by simp),⟨λy hy=>h.1 y (by simp [hy]),?_⟩,?_⟩
 ·intro hl
  apply h.2
  cases xs with
  | nil=>simp at hl
  | cons y ys=>simpa [List.getLast?_cons_cons] using hl
 ·rintro rfl rfl
  exact h.2 rfl
theorem eL.zero {B:Nat} (hB:0<B):∀{xs:List Nat},eL B xs->val B xs=0->xs=[]
 | [],_,_=>rfl
 | x::xs,h,h0=>by
  obtain ⟨_,h2,h3⟩:=h.cons
  simp only [val] at h0
  have hx:x=0:=by omega
  have hv:B*val B xs=0:=by omega
  have:val B xs=0:=by
   rcases Nat.mul_eq_zero.1 hv with h | h
   ·omega
   ·exact h
  exact absurd hx (h3 (eL.zero hB h2 this))
theorem eL.unique {B:Nat} (hB:0<B):∀{xs ys:List Nat},eL B xs->eL B ys->val B xs=val B ys->xs=ys
 | [],ys,_,hy,h=>(eL.zero hB hy (by simpa [val] using h.symm)).symm
 | x::xs,[],hx,_,h=>eL.zero hB hx (by simpa [val] using h)
 | x::xs,y::ys,hx,hy,h=>by
  obtain ⟨a1,a2,_⟩:=hx.cons
  obtain ⟨b1,b2,_⟩:=hy.cons
  simp only [val] at h
  have e1:x=y:=by
   have:=congrArg (·%B) h
   simpa [Nat.add_mul_mod_self_left,mod_eq_of_lt a1,mod_eq_of_lt b1] using this
  subst e1
  have e2:val B xs=val B ys:=Nat.eq_of_mul_eq_mul_left hB (by omega)
  rw [eL.unique hB a2 b2 e2]
theorem eL.low {B:Nat} (hB:0<B):∀{xs:List Nat},eL B xs->xs≠[]->B^(xs.length-1)<=val B xs
 | [x],h,_=>by
  have:=h.cons.2.2 rfl
  simp [val]
  omega
 | x::y::xs,h,_=>by
  have ih:=eL.low hB h.cons.2.1 (by simp)
  simp only [List.length_cons,Nat.add_sub_cancel] at ih⊢
  rw [show val B (x::y::xs)=x+B*val B (y::xs) from rfl,pow_succ]
  have:B*B^xs.length<=B*val B (y::xs):=Nat.mul_le_mul_left _ ih
  rw [Nat.mul_comm (B^xs.length)]
  omega
theorem eL.len {B k:Nat} (hB:1<B) {xs:List Nat} (h:eL B xs) (hv:val B xs<B^k):xs.length<=k:=by
 by_cases hx:xs=[]
 ·subst hx;simp
 ·have h1:=eL.low (by omega) h hx
  have h2:B^(xs.length-1)<B^k:=Nat.lt_of_le_of_lt h1 hv
  have:=(Nat.pow_lt_pow_iff_right hB).1 h2
  have:0<xs.length:=List.length_pos_iff.2 hx
  omega
theorem eL.nil (B:Nat):eL B []:=⟨λx hx=>by simp at hx,by simp⟩
theorem eL.zm {B:Nat} (hB:1<B) {xs ys:List Nat} (hx:eL B xs) (hy:eL B ys) (h:xs.length<ys.length):val B xs<val B ys:=by
 have h1:=nJ hx.1
 have h2:=eL.low (by omega) hy (by rintro rfl;simp at h)
 have h3:B^xs.length<=B^(ys.length-1):=Nat.pow_le_pow_right (by omega) (by omega)
 omega
theorem Hg {B:Nat} {xs:List Nat} (h:dF B xs) (hl:∀h0:0<xs.length,xs[xs.length-1]≠0):eL B xs:=by
 refine ⟨h,λh0=>?_⟩
 rw [List.getLast?_eq_getElem?] at h0
 obtain ⟨h1,h2⟩:=cm h0
 exact hl (by omega) h2
end
end Go.Sim
namespace Go.Proofs.YtncaiogfjjepcaaGreat
open Go.Sim
section
variable (P : Program) (K : VK)
noncomputable section
variable (n0 : Value) (h : ae)
def ahz:=cj prog 34 [[],[]]
@[irreducible] def c34:=cD ahz
theorem k34:ahz=some (7,c34,[.cell true 4 2]):=by kernel_rfl
def MB:Prop:=
 OH (cF 92 [(.bool false),(.slice none 0 0),(.bool false),(.slice none 0 0)] h) λx2 z1=>
 ay P 56 [n0] z1 λx4 z2=>
 ay P 56 [(.int .i64 (1))] z2 λx5 z3=>
 OP (eI [(.bool false),(.slice none 0 0),(.bool false),(.slice none 0 0)] [(0,2,x4),(2,2,x5)]) λx6=>
 OH (aU 4 z3 x2 x6) λ_ z4=>
 OP (af true 4 z4 x2) λr0=>
 K r0 z4
theorem e34:au P c34 (aW [.cell true 4 2] K) (cg [n0]) h=MB P K n0 h:=by kernel_rfl
theorem f34 {K:VK} {n0:Value} {h:ae} (H:MB prog K n0 h):ay prog 34 [n0] h K:=
 cC k34 (cE rfl) ((e34 prog K n0 h).mpr H)
end
noncomputable section
variable (a0 b1 a2 b3 x4 x7 x9 : Value) (h : ae)
def ahB:=cj prog 36 [[],[2,3,4,7],[2,3,4,7,9],[],[],[],[]]
@[irreducible] def B7:=cD ahB
@[irreducible] def aat:=B7.r.l.l.r.l
@[irreducible] def awJ:=B7.r.l.r
@[irreducible] def awI:=B7.r.r
@[irreducible] def awK:=aat.r.l
theorem k36:ahB=some (34,B7,[.cell true 4 4]):=by kernel_rfl
def Xj (_P:Program) (K:VK):ax:=aW [.cell true 4 4] K
def Xk:ax:=aH (au P awI (Xj P K)) (Xj P K)
def Xl:ax:=aH (au P awJ (Xk P K)) (Xk P K)
def akC:Prop:=aA (au P aat (Xl P K)) [2,3,4,7] [a2,b3,x4,x7] h
def Jp:Prop:=aA (au P awK (Xl P K)) [2,3,4,7,9] [a2,b3,x4,x7,x9] h
theorem aGg:Jp P K a2 b3 x4 x7 x9 h=
 (OP (bu x7 x9 (.bool false)) λaE=>
 aJ aE
 (OP (aF 0 a2) λaG=>
 OP (af true 2 h aG) λaM=>
 OP (aF 0 b3) λaC=>
 OP (af true 2 h aC) λaP=>
 ay P 61 [aM,aP] h λaX z1=>
 ay P 60 [aX] z1 λaZ z2=>
 OH (aU 4 z2 x4 aZ) λ_ z3=>
 OP (af true 4 z3 x4) λr0=>
 K r0 z3)
 (OP (aF 0 a2) λbM=>
 OP (af true 2 h bM) λbA=>
 (True)/\
 OP (aF 2 b3) λaS=>
 OP (af true 2 h aS) λaI=>
 (True)/\
 ay P 63 [bA,aI] h λaR z1=>
 (True)/\
 OP (aF 0 b3) λbK=>
 OP (af true 2 z1 bK) λbB=>
 (af true 2 h bK=some bB/\True)/\
 OP (aF 2 a2) λbm=>
 OP (af true 2 z1 bm) λbH=>
 (af true 2 h bm=some bH/\True)/\
 ay P 63 [bB,bH] z1 λbW z2=>
 (True)/\
 ay P 61 [aR,bW] z2 λbO z3=>
 (True)/\
 OP (aF 2 a2) λcL=>
 OP (af true 2 z3 cL) λca=>
 (af true 2 h cL=some ca/\af true 2 z1 cL=some ca/\af true 2 z2 cL=some ca/\True)/\
 OP (aF 2 b3) λaV=>
 OP (af true 2 z3 aV) λbz=>
 (af true 2 h aV=some bz/\af true 2 z1 aV=some bz/\af true 2 z2 aV=some bz/\True)/\
 ay P 63 [ca,bz] z3 λdJ z4=>
 (True)/\
 ay P 62 [bO,dJ] z4 λb9 z5=>
 (True)/\
 OH (aU 4 z5 x4 b9) λ_ z6=>
 (True)/\
 OP (af true 4 z6 x4) λr0=>
 K r0 z6)):=aB (by kernel_rfl)
theorem aGf:akC P K a2 b3 x4 x7 h=
 (bQ x7 true
 (OP (af true 4 h b3) λx8=>
 ay P 59 [x8] h λx9 z1=>
 Jp P K a2 b3 x4 x7 x9 z1)
 (Jp P K a2 b3 x4 x7 undef h)):=aB (by kernel_rfl)
def MD:Prop:=
 OH (cR 92 h a0) λa2 z1=>
 OH (cR 92 z1 b1) λb3 z2=>
 OH (cF 92 [(.bool false),(.slice none 0 0),(.bool false),(.slice none 0 0)] z2) λx4 z3=>
 OP (af true 4 z3 a2) λx5=>
 ay P 59 [x5] z3 λx6 z4=>
 akC P K a2 b3 x4 x6 z4
theorem e36:au P B7 (aW [.cell true 4 4] K) (cg [a0,b1]) h=MD P K a0 b1 h:=by kernel_rfl
theorem f36 {K:VK} {a0 b1:Value} {h:ae} (H:MD prog K a0 b1 h):ay prog 36 [a0,b1] h K:=
 cC k36 (cE rfl) ((e36 prog K a0 b1 h).mpr H)
end
noncomputable section
variable (a0 b1 : Value) (h : ae)
def ahC:=cj prog 37 [[],[]]
@[irreducible] def c37:=cD ahC
theorem k37:ahC=some (16,c37,[.tmp 4]):=by kernel_rfl
def ME:Prop:=
 OH (cR 92 h a0) λa2 z1=>
 OH (cR 92 z1 b1) λb3 z2=>
 OP (aF 0 a2) λx5=>
 OP (af true 2 z2 x5) λx6=>
 (True)/\
 OP (aF 2 b3) λx7=>
 OP (af true 2 z2 x7) λx8=>
 (True)/\
 ay P 63 [x6,x8] z2 λx9 z3=>
 (True)/\
 OP (aF 0 b3) λaE=>
 OP (af true 2 z3 aE) λaG=>
 (af true 2 z2 aE=some aG/\True)/\
 OP (aF 2 a2) λaM=>
 OP (af true 2 z3 aM) λaC=>
 (af true 2 z2 aM=some aC/\True)/\
 ay P 63 [aG,aC] z3 λaP z4=>
 (True)/\
 ay P 64 [x9,aP] z4 λaX z5=>
 (True)/\
 K aX z5
theorem e37:au P c37 (aW [.tmp 4] K) (cg [a0,b1]) h=ME P K a0 b1 h:=by kernel_rfl
theorem f37 {K:VK} {a0 b1:Value} {h:ae} (H:ME prog K a0 b1 h):ay prog 37 [a0,b1] h K:=
 cC k37 (cE rfl) ((e37 prog K a0 b1 h).mpr H)
end
noncomputable section
variable (a0 b1 : Value) (h : ae)
def ahE:=cj prog 39 [[],[]]
@[irreducible] def c39:=cD ahE
theorem k39:ahE=some (9,c39,[.cell true 4 4]):=by kernel_rfl
def MG:Prop:=
 OH (cR 92 h a0) λa2 z1=>
 OH (cR 92 z1 b1) λb3 z2=>
 OH (cF 92 [(.bool false),(.slice none 0 0),(.bool false),(.slice none 0 0)] z2) λx4 z3=>
 OP (af true 4 z3 a2) λx5=>
 (True)/\
 OP (af true 4 z3 b3) λx6=>
 (True)/\
 ay P 67 [x6] z3 λx7 z4=>
 (af true 4 z4 a2=some x5/\True)/\
 ay P 36 [x5,x7] z4 λx8 z5=>
 (True)/\
 OH (aU 4 z5 x4 x8) λ_ z6=>
 (True)/\
 OP (af true 4 z6 x4) λr0=>
 K r0 z6
theorem e39:au P c39 (aW [.cell true 4 4] K) (cg [a0,b1]) h=MG P K a0 b1 h:=by kernel_rfl
theorem f39 {K:VK} {a0 b1:Value} {h:ae} (H:MG prog K a0 b1 h):ay prog 39 [a0,b1] h K:=
 cC k39 (cE rfl) ((e39 prog K a0 b1 h).mpr H)
end
noncomputable section
variable (a0 a1 s4 : Value) (h : ae)
def ahU:=cj prog 55 [[],[],[],[],[],[],[1,4],[],[],[],[],[],[],[],[]]
@[irreducible] def OB:=cD ahU
@[irreducible] def axy:=OB.r.r.r.r.l
theorem k55:ahU=some (32,OB,[.tmp 2,.tmp 3]):=by kernel_rfl
def asD (_P:Program) (K:VK):ax:=aW [.tmp 2,.tmp 3] K
def Jw:Prop:=aA (au P axy (asD P K)) [1,4] [a1,s4] h
theorem aHI:Jw P K a1 s4 h=
 (OP (af true 4 h a1) λbA=>
 ay P 59 [bA] h λaS z1=>
 aJ aS
 (K (.tuple #[s4,(.int .i64 (0))]) z1)
 (OP (aF 2 a1) λaR=>
 OP (aF 1 aR) λbK=>
 OP (af false 1 z1 bK) λbB=>
 ay P 81 [bB] z1 λbm z2=>
 OP (wV bm) λbW=>
 OP (aj .gtr bW (.int .i64 (4000))) λbO=>
 aJ bO
 (K (.tuple #[(.string ⟨#[]⟩),(.int .i64 (4))]) z2)
 (OP (aj .add s4 (.string ⟨#[47]⟩)) λca=>
 OP (aj .add ca bm) λbz=>
 K (.tuple #[bz,(.int .i64 (0))]) z2))):=aB (by kernel_rfl)
def MX:Prop:=
 OH (cR 92 h a0) λa1 z1=>
 OP (aF 0 a1) λx6=>
 OP (aF 1 x6) λx7=>
 OP (af false 1 z1 x7) λx8=>
 ay P 81 [x8] z1 λx9 z2=>
 OP (wV x9) λaG=>
 OP (aj .gtr aG (.int .i64 (4000))) λaM=>
 aJ aM
 (K (.tuple #[(.string ⟨#[]⟩),(.int .i64 (4))]) z2)
 (OP (aF 0 a1) λaC=>
 OP (aF 0 aC) λaP=>
 OP (af false 1 z2 aP) λaX=>
 aJ aX
 (OP (aj .add (.string ⟨#[45]⟩) x9) λbM=>
 Jw P K a1 bM z2)
 (Jw P K a1 x9 z2))
theorem e55:au P OB (aW [.tmp 2,.tmp 3] K) (cg [a0]) h=MX P K a0 h:=by kernel_rfl
theorem f55 {K:VK} {a0:Value} {h:ae} (H:MX prog K a0 h):ay prog 55 [a0] h K:=
 cC k55 (cE rfl) ((e55 prog K a0 h).mpr H)
end
noncomputable section
variable (n0 x2 u3 : Value) (h : ae)
def ahV:=cj prog 56 [[],[],[],[0,2,3],[]]
@[irreducible] def OC:=cD ahV
@[irreducible] def axz:=OC.r.r.r.l
theorem k56:ahV=some (20,OC,[.cell true 2 2]):=by kernel_rfl
def asE (_P:Program) (K:VK):ax:=aW [.cell true 2 2] K
def Jx:Prop:=aA (au P axz (asE P K)) [0,2,3] [n0,x2,u3] h
theorem aHJ:Jx P K n0 x2 u3 h=
 (OP (aj .lss n0 (.int .i64 (0))) λaG=>
 OP (dI .u32 u3) λaC=>
 OP (aj .shr u3 (.int .u64 (32))) λaX=>
 OP (dI .u32 aX) λaZ=>
 OH (cH 152 2 [(.int .u32 (0))] h [(0,1,aC),(1,1,aZ)]) λbM z1=>
 ay P 83 [bM] z1 λbA z2=>
 ay P 82 [aG,bA] z2 λaS z3=>
 OH (aU 2 z3 x2 aS) λ_ z4=>
 OP (af true 2 z4 x2) λr0=>
 K r0 z4):=aB (by kernel_rfl)
def MY:Prop:=
 OH (cF 90 [(.bool false),(.slice none 0 0)] h) λx2 z1=>
 OP (dI .u64 n0) λx5=>
 OP (aj .lss n0 (.int .i64 (0))) λx7=>
 aJ x7
 (OP (gG .neg x5) λx9=>
 Jx P K n0 x2 x9 z1)
 (Jx P K n0 x2 x5 z1)
theorem e56:au P OC (aW [.cell true 2 2] K) (cg [n0]) h=MY P K n0 h:=by kernel_rfl
theorem f56 {K:VK} {n0:Value} {h:ae} (H:MY prog K n0 h):ay prog 56 [n0] h K:=
 cC k56 (cE rfl) ((e56 prog K n0 h).mpr H)
end
noncomputable section
variable (a0 a1 x8 aP : Value) (h : ae)
def ahY:=cj prog 59 [[],[1,8],[8,14],[]]
@[irreducible] def GQ:=cD ahY
@[irreducible] def abY:=GQ.r.l.r.l
@[irreducible] def axK:=GQ.r.r
@[irreducible] def axL:=abY.r.l
theorem k59:ahY=some (16,GQ,[.tmp 2]):=by kernel_rfl
def XF (_P:Program) (K:VK):ax:=aW [.tmp 2] K
def XG:ax:=aH (au P axK (XF P K)) (XF P K)
def alE:Prop:=aA (au P abY (XG P K)) [1,8] [a1,x8] h
def TW:Prop:=aA (au P axL (XG P K)) [8,14] [x8,aP] h
theorem UD:TW P K x8 aP h=
 (OP (bu x8 aP (.bool false)) λaX=>
 K aX h):=aB (by kernel_rfl)
theorem UC:alE P K a1 x8 h=
 (bQ x8 true
 (OP (aF 2 a1) λx9=>
 OP (aF 1 x9) λaE=>
 OP (af false 1 h aE) λaG=>
 OP (aD 1 aG (.int .i64 (0))) λaM=>
 OP (af false 1 h aM) λaC=>
 OP (aj .eql aC (.int .u32 (1))) λaP=>
 TW P K x8 aP h)
 (TW P K x8 undef h)):=aB (by kernel_rfl)
def FA:Prop:=
 OH (cR 92 h a0) λa1 z1=>
 OP (aF 2 a1) λx3=>
 OP (aF 1 x3) λx4=>
 OP (af false 1 z1 x4) λx5=>
 OP (aT x5) λx6=>
 OP (aj .eql x6 (.int .i64 (1))) λx7=>
 alE P K a1 x7 z1
theorem e59:au P GQ (aW [.tmp 2] K) (cg [a0]) h=FA P K a0 h:=by kernel_rfl
theorem f59 {K:VK} {a0:Value} {h:ae} (H:FA prog K a0 h):ay prog 59 [a0] h K:=
 cC k59 (cE rfl) ((e59 prog K a0 h).mpr H)
end
noncomputable section
variable (n0 : Value) (h : ae)
def ah0:=cj prog 60 [[],[]]
@[irreducible] def c60:=cD ah0
theorem k60:ah0=some (6,c60,[.cell true 4 2]):=by kernel_rfl
def M1:Prop:=
 OH (cR 90 h n0) λn1 z1=>
 OH (cF 92 [(.bool false),(.slice none 0 0),(.bool false),(.slice none 0 0)] z1) λx2 z2=>
 OP (af true 2 z2 n1) λx3=>
 (True)/\
 ay P 56 [(.int .i64 (1))] z2 λx4 z3=>
 (af true 2 z3 n1=some x3/\True)/\
 OP (eI [(.bool false),(.slice none 0 0),(.bool false),(.slice none 0 0)] [(0,2,x3),(2,2,x4)]) λx5=>
 OH (aU 4 z3 x2 x5) λ_ z4=>
 (True)/\
 OP (af true 4 z4 x2) λr0=>
 K r0 z4
theorem e60:au P c60 (aW [.cell true 4 2] K) (cg [n0]) h=M1 P K n0 h:=by kernel_rfl
theorem f60 {K:VK} {n0:Value} {h:ae} (H:M1 prog K n0 h):ay prog 60 [n0] h K:=
 cC k60 (cE rfl) ((e60 prog K n0 h).mpr H)
end
noncomputable section
variable (a0 b1 : Value) (h : ae)
def ah1:=cj prog 61 [[],[],[],[],[],[],[]]
@[irreducible] def c61:=cD ah1
theorem k61:ah1=some (42,c61,[.cell true 2 4]):=by kernel_rfl
def M3:Prop:=
 OH (cR 90 h a0) λa2 z1=>
 OH (cR 90 z1 b1) λb3 z2=>
 OH (cF 90 [(.bool false),(.slice none 0 0)] z2) λx4 z3=>
 OP (aF 0 a2) λx6=>
 OP (af false 1 z3 x6) λx7=>
 OP (aF 0 b3) λx8=>
 OP (af false 1 z3 x8) λx9=>
 OP (tP false x7 x9) λaE=>
 aJ aE
 (OP (aF 0 a2) λaG=>
 OP (af false 1 z3 aG) λaM=>
 (True)/\
 OP (aF 1 a2) λaC=>
 OP (af false 1 z3 aC) λaP=>
 (True)/\
 OP (aF 1 b3) λaX=>
 OP (af false 1 z3 aX) λaZ=>
 (True)/\
 ay P 85 [aP,aZ] z3 λbM z4=>
 (af false 1 z4 aG=some aM/\True)/\
 ay P 82 [aM,bM] z4 λbA z5=>
 (True)/\
 OH (aU 2 z5 x4 bA) λ_ z6=>
 (True)/\
 OP (af true 2 z6 x4) λr0=>
 K r0 z6)
 (OP (aF 1 a2) λaI=>
 OP (af false 1 z3 aI) λaR=>
 OP (aF 1 b3) λbK=>
 OP (af false 1 z3 bK) λbB=>
 ay P 86 [aR,bB] z3 λbm z4=>
 OP (aj .geq bm (.int .i64 (0))) λbH=>
 aJ bH
 (OP (aF 0 a2) λbW=>
 OP (af false 1 z4 bW) λbO=>
 (True)/\
 OP (aF 1 a2) λcL=>
 OP (af false 1 z4 cL) λca=>
 (True)/\
 OP (aF 1 b3) λaV=>
 OP (af false 1 z4 aV) λbz=>
 (True)/\
 ay P 87 [ca,bz] z4 λdJ z5=>
 (af false 1 z5 bW=some bO/\True)/\
 ay P 82 [bO,dJ] z5 λb9 z6=>
 (True)/\
 OH (aU 2 z6 x4 b9) λ_ z7=>
 (True)/\
 OP (af true 2 z7 x4) λr0=>
 K r0 z7)
 (OP (aF 0 b3) λcA=>
 OP (af false 1 z4 cA) λcB=>
 (True)/\
 OP (aF 1 b3) λaY=>
 OP (af false 1 z4 aY) λbG=>
 (True)/\
 OP (aF 1 a2) λdH=>
 OP (af false 1 z4 dH) λdW=>
 (True)/\
 ay P 87 [bG,dW] z4 λcI z5=>
 (af false 1 z5 cA=some cB/\True)/\
 ay P 82 [cB,cI] z5 λcU z6=>
 (True)/\
 OH (aU 2 z6 x4 cU) λ_ z7=>
 (True)/\
 OP (af true 2 z7 x4) λr0=>
 K r0 z7))
theorem e61:au P c61 (aW [.cell true 2 4] K) (cg [a0,b1]) h=M3 P K a0 b1 h:=by kernel_rfl
theorem f61 {K:VK} {a0 b1:Value} {h:ae} (H:M3 prog K a0 b1 h):ay prog 61 [a0,b1] h K:=
 cC k61 (cE rfl) ((e61 prog K a0 b1 h).mpr H)
end
noncomputable section
variable (x0 x1 x2 x3 x4 : Value) (h : ae)
def ah2:=cj prog 62 [[],[],[2,3,4],[],[],[],[],[],[],[]]
@[irreducible] def OJ:=cD ah2
@[irreducible] def axR:=OJ.r.r.l
theorem k62:ah2=some (41,OJ,[.cell true 4 4]):=by kernel_rfl
def as0 (_P:Program) (K:VK):ax:=aW [.cell true 4 4] K
def TZ:Prop:=aA (au P axR (as0 P K)) [2,3,4] [x2,x3,x4] h
theorem aH6:TZ P K x2 x3 x4 h=
 (OP (af true 2 h x2) λaZ=>
 OP (af true 2 h x3) λbM=>
 ay P 89 [aZ,bM] h λbA z1=>
 OH (cF 90 [(.bool false),(.slice none 0 0)] z1) λg5 z2=>
 OH (aU 2 z2 g5 bA) λ_ z3=>
 OP (af true 2 z3 g5) λaS=>
 (True)/\
 ay P 56 [(.int .i64 (1))] z3 λaI z4=>
 (af true 2 z4 g5=some aS/\True)/\
 ay P 64 [aS,aI] z4 λaR z5=>
 (True)/\
 OP (aj .eql aR (.int .i64 (0))) λbK=>
 aJ bK
 (OP (af true 2 z5 x2) λbB=>
 OP (af true 2 z5 x3) λbm=>
 OP (eI [(.bool false),(.slice none 0 0),(.bool false),(.slice none 0 0)] [(0,2,bB),(2,2,bm)]) λbH=>
 OH (aU 4 z5 x4 bH) λ_ z6=>
 OP (af true 4 z6 x4) λr0=>
 K r0 z6)
 (OP (af true 2 z5 x2) λbO=>
 OP (af true 2 z5 g5) λcL=>
 ay P 90 [bO,cL] z5 λca z6=>
 OP (cW 0 ca) λaV=>
 OP (cW 1 ca) λbz=>
 OH (cF 90 [(.bool false),(.slice none 0 0)] z6) λn6 z7=>
 OH (cF 90 [(.bool false),(.slice none 0 0)] z7) λx7 z8=>
 OH (aU 2 z8 n6 aV) λ_ z9=>
 OH (aU 2 z9 x7 bz) λ_ qK=>
 OP (af true 2 qK x3) λb9=>
 OP (af true 2 qK g5) λcA=>
 ay P 90 [b9,cA] qK λcB zX=>
 OP (cW 0 cB) λaY=>
 OP (cW 1 cB) λbG=>
 OH (cF 90 [(.bool false),(.slice none 0 0)] zX) λd8 z12=>
 OH (cF 90 [(.bool false),(.slice none 0 0)] z12) λx9 VG=>
 OH (aU 2 VG d8 aY) λ_ VH=>
 OH (aU 2 VH x9 bG) λ_ zY=>
 OP (af true 2 zY n6) λdH=>
 OP (af true 2 zY d8) λdW=>
 OP (eI [(.bool false),(.slice none 0 0),(.bool false),(.slice none 0 0)] [(0,2,dH),(2,2,dW)]) λcI=>
 OH (aU 4 zY x4 cI) λ_ Ey=>
 OP (af true 4 Ey x4) λr0=>
 K r0 Ey)):=aB (by kernel_rfl)
def M4:Prop:=
 OH (cR 90 h x0) λx2 z1=>
 OH (cR 90 z1 x1) λx3 z2=>
 OH (cF 92 [(.bool false),(.slice none 0 0),(.bool false),(.slice none 0 0)] z2) λx4 z3=>
 OP (aF 0 x3) λaE=>
 OP (af false 1 z3 aE) λaG=>
 aJ aG
 (OP (af true 2 z3 x2) λaM=>
 (True)/\
 ay P 88 [aM] z3 λaC z4=>
 (True)/\
 OP (af true 2 z4 x3) λaP=>
 (af true 2 z3 x3=some aP/\True)/\
 ay P 88 [aP] z4 λaX z5=>
 (True)/\
 OH (aU 2 z5 x2 aC) λ_ z6=>
 (True)/\
 OH (aU 2 z6 x3 aX) λ_ z7=>
 (True)/\
 TZ P K x2 x3 x4 z7)
 (TZ P K x2 x3 x4 z3)
theorem e62:au P OJ (aW [.cell true 4 4] K) (cg [x0,x1]) h=M4 P K x0 x1 h:=by kernel_rfl
theorem f62 {K:VK} {x0 x1:Value} {h:ae} (H:M4 prog K x0 x1 h):ay prog 62 [x0,x1] h K:=
 cC k62 (cE rfl) ((e62 prog K x0 x1 h).mpr H)
end
noncomputable section
variable (a0 b1 : Value) (h : ae)
def ah3:=cj prog 63 [[],[]]
@[irreducible] def c63:=cD ah3
theorem k63:ah3=some (16,c63,[.cell true 2 4]):=by kernel_rfl
def M5:Prop:=
 OH (cR 90 h a0) λa2 z1=>
 OH (cR 90 z1 b1) λb3 z2=>
 OH (cF 90 [(.bool false),(.slice none 0 0)] z2) λx4 z3=>
 OP (aF 0 a2) λx5=>
 OP (af false 1 z3 x5) λx6=>
 (True)/\
 OP (aF 0 b3) λx7=>
 OP (af false 1 z3 x7) λx8=>
 (True)/\
 OP (tP true x6 x8) λx9=>
 OP (aF 1 a2) λaE=>
 OP (af false 1 z3 aE) λaG=>
 (True)/\
 OP (aF 1 b3) λaM=>
 OP (af false 1 z3 aM) λaC=>
 (True)/\
 ay P 91 [aG,aC] z3 λaP z4=>
 (af false 1 z4 x5=some x6/\af false 1 z4 x7=some x8/\True)/\
 ay P 82 [x9,aP] z4 λaX z5=>
 (True)/\
 OH (aU 2 z5 x4 aX) λ_ z6=>
 (True)/\
 OP (af true 2 z6 x4) λr0=>
 K r0 z6
theorem e63:au P c63 (aW [.cell true 2 4] K) (cg [a0,b1]) h=M5 P K a0 b1 h:=by kernel_rfl
theorem f63 {K:VK} {a0 b1:Value} {h:ae} (H:M5 prog K a0 b1 h):ay prog 63 [a0,b1] h K:=
 cC k63 (cE rfl) ((e63 prog K a0 b1 h).mpr H)
end
noncomputable section
variable (a0 b1 : Value) (h : ae)
def ah4:=cj prog 64 [[],[]]
@[irreducible] def c64:=cD ah4
theorem k64:ah4=some (9,c64,[.tmp 4]):=by kernel_rfl
def M6:Prop:=
 OH (cR 90 h a0) λa2 z1=>
 OH (cR 90 z1 b1) λb3 z2=>
 OP (af true 2 z2 a2) λx5=>
 OP (af true 2 z2 b3) λx6=>
 ay P 92 [x5,x6] z2 λx7 z3=>
 ay P 93 [x7] z3 λx8 z4=>
 K x8 z4
theorem e64:au P c64 (aW [.tmp 4] K) (cg [a0,b1]) h=M6 P K a0 b1 h:=by kernel_rfl
theorem f64 {K:VK} {a0 b1:Value} {h:ae} (H:M6 prog K a0 b1 h):ay prog 64 [a0,b1] h K:=
 cC k64 (cE rfl) ((e64 prog K a0 b1 h).mpr H)
end
noncomputable section
variable (a0 b1 a2 b3 x4 x7 x9 : Value) (h : ae)
def ah5:=cj prog 65 [[],[2,3,4,7],[2,3,4,7,9],[],[],[],[]]
@[irreducible] def Ca:=cD ah5
@[irreducible] def ab8:=Ca.r.l.l.r.l
@[irreducible] def axT:=Ca.r.l.r
@[irreducible] def axS:=Ca.r.r
@[irreducible] def axU:=ab8.r.l
theorem k65:ah5=some (28,Ca,[.cell true 4 4]):=by kernel_rfl
def XH (_P:Program) (K:VK):ax:=aW [.cell true 4 4] K
def XI:ax:=aH (au P axS (XH P K)) (XH P K)
def XJ:ax:=aH (au P axT (XI P K)) (XI P K)
def alI:Prop:=aA (au P ab8 (XJ P K)) [2,3,4,7] [a2,b3,x4,x7] h
def JA:Prop:=aA (au P axU (XJ P K)) [2,3,4,7,9] [a2,b3,x4,x7,x9] h
theorem aH8:JA P K a2 b3 x4 x7 x9 h=
 (OP (bu x7 x9 (.bool false)) λaE=>
 aJ aE
 (OP (aF 0 a2) λaG=>
 OP (af true 2 h aG) λaM=>
 OP (aF 0 b3) λaC=>
 OP (af true 2 h aC) λaP=>
 ay P 63 [aM,aP] h λaX z1=>
 ay P 60 [aX] z1 λaZ z2=>
 OH (aU 4 z2 x4 aZ) λ_ z3=>
 OP (af true 4 z3 x4) λr0=>
 K r0 z3)
 (OP (aF 0 a2) λbM=>
 OP (af true 2 h bM) λbA=>
 (True)/\
 OP (aF 0 b3) λaS=>
 OP (af true 2 h aS) λaI=>
 (True)/\
 ay P 63 [bA,aI] h λaR z1=>
 (True)/\
 OP (aF 2 a2) λbK=>
 OP (af true 2 z1 bK) λbB=>
 (af true 2 h bK=some bB/\True)/\
 OP (aF 2 b3) λbm=>
 OP (af true 2 z1 bm) λbH=>
 (af true 2 h bm=some bH/\True)/\
 ay P 63 [bB,bH] z1 λbW z2=>
 (True)/\
 ay P 62 [aR,bW] z2 λbO z3=>
 (True)/\
 OH (aU 4 z3 x4 bO) λ_ z4=>
 (True)/\
 OP (af true 4 z4 x4) λr0=>
 K r0 z4)):=aB (by kernel_rfl)
theorem aH7:alI P K a2 b3 x4 x7 h=
 (bQ x7 true
 (OP (af true 4 h b3) λx8=>
 ay P 59 [x8] h λx9 z1=>
 JA P K a2 b3 x4 x7 x9 z1)
 (JA P K a2 b3 x4 x7 undef h)):=aB (by kernel_rfl)
def M7:Prop:=
 OH (cR 92 h a0) λa2 z1=>
 OH (cR 92 z1 b1) λb3 z2=>
 OH (cF 92 [(.bool false),(.slice none 0 0),(.bool false),(.slice none 0 0)] z2) λx4 z3=>
 OP (af true 4 z3 a2) λx5=>
 ay P 59 [x5] z3 λx6 z4=>
 alI P K a2 b3 x4 x6 z4
theorem e65:au P Ca (aW [.cell true 4 4] K) (cg [a0,b1]) h=M7 P K a0 b1 h:=by kernel_rfl
theorem f65 {K:VK} {a0 b1:Value} {h:ae} (H:M7 prog K a0 b1 h):ay prog 65 [a0,b1] h K:=
 cC k65 (cE rfl) ((e65 prog K a0 b1 h).mpr H)
end
noncomputable section
variable (a0 : Value) (h : ae)
def ah7:=cj prog 67 [[],[]]
@[irreducible] def c67:=cD ah7
theorem k67:ah7=some (9,c67,[.cell true 4 2]):=by kernel_rfl
def M9:Prop:=
 OH (cR 92 h a0) λa1 z1=>
 OH (cF 92 [(.bool false),(.slice none 0 0),(.bool false),(.slice none 0 0)] z1) λx2 z2=>
 OP (aF 0 a1) λx3=>
 OP (af true 2 z2 x3) λx4=>
 (True)/\
 ay P 88 [x4] z2 λx5 z3=>
 (True)/\
 OP (aF 2 a1) λx6=>
 OP (af true 2 z3 x6) λx7=>
 (af true 2 z2 x6=some x7/\True)/\
 OP (eI [(.bool false),(.slice none 0 0),(.bool false),(.slice none 0 0)] [(0,2,x5),(2,2,x7)]) λx8=>
 OH (aU 4 z3 x2 x8) λ_ z4=>
 (True)/\
 OP (af true 4 z4 x2) λr0=>
 K r0 z4
theorem e67:au P c67 (aW [.cell true 4 2] K) (cg [a0]) h=M9 P K a0 h:=by kernel_rfl
theorem f67 {K:VK} {a0:Value} {h:ae} (H:M9 prog K a0 h):ay prog 67 [a0] h K:=
 cC k67 (cE rfl) ((e67 prog K a0 h).mpr H)
end
noncomputable section
variable (x0 b3 q4 r5 i6 aI bm bW bO : Value) (L1 L2 : LQ) (xs : List Value) (h : ae)
def ail:=cj prog 81 [[],[],[],[],[],[],[0,3],[],[],[],[],[4],[3,5,6],[3,4,5,6,20],[3,4,5,6,20,24],[3,4,5,6,20,24,26],[3,4,5,6,20,27],[],[],[],[],[3,4],[3],[],[]]
@[irreducible] def GZ:=cD ail
@[irreducible] def OO:=GZ.r.r.r.l.l.l
@[irreducible] def acA:=GZ.r.r.r.r
@[irreducible] def G0:=OO.r.l.r.l.r.l.l
@[irreducible] def acw:=OO.r.l.r.r
@[irreducible] def ayj:=acA.l
@[irreducible] def acx:=G0.l.l.r.l
@[irreducible] def ayg:=G0.l.r
@[irreducible] def ayf:=G0.r
@[irreducible] def ayi:=acw.l
@[irreducible] def acy:=acx.r.l
@[irreducible] def acz:=acy.r.l
@[irreducible] def ayh:=acz.r.l
theorem k81:ail=some (45,GZ,[.tmp 2]):=by kernel_rfl
def Lr (_P:Program) (K:VK):ax:=aW [.tmp 2] K
def atu:ax:=aH (au P acA (Lr P K)) (Lr P K)
def atv:ax:=bC 0 (atu P K)
def XQ:ax:=aH (λf' aQ=>(([]:List Nat).map f':List Value)=[]/\L1 (([0,3]:List Nat).map f') aQ) (atv P K)
def Ls:ax:=bC 1 (XQ P K L1)
def ats:ax:=aH (au P acw (Ls P K L1)) (Ls P K L1)
def att:ax:=bC 2 (ats P K L1)
def Lt:ax:=aH (λf' aQ=>(([4]:List Nat).map f':List Value)=[q4]/\L2 (([3,5,6]:List Nat).map f') aQ) (att P K L1)
def XP:ax:=aH (au P ayf (Lt P K q4 L1 L2)) (Lt P K q4 L1 L2)
def Fk:ax:=aH (au P ayg (XP P K q4 L1 L2)) (XP P K q4 L1 L2)
def al8:Prop:=aA (au P OO (XQ P K L1)) ([]++[0,3]) ([]++xs) h
def al3:Prop:=aA (au P G0 (Lt P K q4 L1 L2)) ([4]++[3,5,6]) ([q4]++xs) h
def al6:Prop:=aA (au P acx (Fk P K q4 L1 L2)) [3,4,5,6,20] [b3,q4,r5,i6,aI] h
def Ue:Prop:=aA (au P acy (Fk P K q4 L1 L2)) [3,4,5,6,20,24] [b3,q4,r5,i6,aI,bm] h
def Uf:Prop:=aA (au P acz (Fk P K q4 L1 L2)) [3,4,5,6,20,24,26] [b3,q4,r5,i6,aI,bm,bW] h
def Ug:Prop:=aA (au P ayh (Fk P K q4 L1 L2)) [3,4,5,6,20,27] [b3,q4,r5,i6,aI,bO] h
def JB:Prop:=aA (au P ayi (Ls P K L1)) [3,4] [b3,q4] h
def al7:Prop:=aA (au P ayj (Lr P K)) [3] [b3] h
theorem JS:Ug P K b3 q4 r5 i6 aI bO L1 L2 h=
 (OP (bu aI bO (.bool false)) λcL=>
 aJ cL
 (OP (aj .rem r5 (.int .u32 (10))) λb9=>
 OP (aj .add (.int .u32 (48)) b9) λcA=>
 OP (dI .u8 cA) λcB=>
 OH (cH 5 1 [(.int .u8 (0))] h [(0,1,cB)]) λaY z1=>
 OH (cT 5 1 1 z1 b3 aY) λbG z2=>
 OP (aj .quo r5 (.int .u32 (10))) λdW=>
 OP (aj .add i6 (.int .i64 (1))) λaV=>
 ([q4]:List Value)=[q4]/\L2 [bG,dW,aV] z2)
 (JB P K b3 q4 L1 h)):=aB (by kernel_rfl)
theorem JR:Uf P K b3 q4 r5 i6 aI bm bW L1 L2 h=
 (bQ aI true
 (OP (bu bm (.bool true) bW) λbO=>
 Ug P K b3 q4 r5 i6 aI bO L1 L2 h)
 (Ug P K b3 q4 r5 i6 aI undef L1 L2 h)):=aB (by kernel_rfl)
theorem UE:Ue P K b3 q4 r5 i6 aI bm L1 L2 h=
 (bQ bm false
 (OP (aj .gtr r5 (.int .u32 (0))) λbW=>
 Uf P K b3 q4 r5 i6 aI bm bW L1 L2 h)
 (Uf P K b3 q4 r5 i6 aI bm undef L1 L2 h)):=aB (by kernel_rfl)
theorem anf:al6 P K b3 q4 r5 i6 aI L1 L2 h=
 (bQ aI true
 (OP (aT q4) λbK=>
 OP (aj .gtr bK (.int .i64 (0))) λbB=>
 Ue P K b3 q4 r5 i6 aI bB L1 L2 h)
 (Ue P K b3 q4 r5 i6 aI undef L1 L2 h)):=aB (by kernel_rfl)
theorem aIy (q4:Value) (L1 L2:LQ) (b3 r5 i6:Value) (h:ae):al3 P K q4 L1 L2 [b3,r5,i6] h=
 (OP (aj .lss i6 (.int .i64 (9))) λaS=>
 al6 P K b3 q4 r5 i6 aS L1 L2 h):=aB (by kernel_rfl)
theorem aIz:JB P K b3 q4 L1 h=
 (([]:List Value)=[]/\L1 [q4,b3] h):=aB (by kernel_rfl)
theorem aIB (L1:LQ) (x0 b3:Value) (h:ae):al8 P K L1 [x0,b3] h=
 (OP (aT x0) λaG=>
 OP (aj .gtr aG (.int .i64 (0))) λaM=>
 aJ aM
 (ay P 120 [x0,(.int .u32 (1000000000))] h λaX z1=>
 OP (cW 0 aX) λaZ=>
 OP (cW 1 aX) λbM=>
 bX [b3,bM,(.int .i64 (0))] z1 λL2 xs hx=>
 al3 P K aZ L1 L2 xs hx)
 (al7 P K b3 h)):=aB (by kernel_rfl)
theorem aIA:al7 P K b3 h=
 (ay P 121 [b3] h λeg z1=>
 OP (ry z1 b3) λcP=>
 K cP z1):=aB (by kernel_rfl)
def Nl:Prop:=
 OP (aT x0) λx8=>
 OP (aj .eql x8 (.int .i64 (0))) λx9=>
 aJ x9
 (K (.string ⟨#[48]⟩) h)
 (bX [x0,(.slice none 0 0)] h λL1 xs hx=>
 al8 P K L1 xs hx)
theorem e81:au P GZ (aW [.tmp 2] K) (cg [x0]) h=Nl P K x0 h:=by kernel_rfl
theorem f81 {K:VK} {x0:Value} {h:ae} (H:Nl prog K x0 h):ay prog 81 [x0] h K:=
 cC k81 (cE rfl) ((e81 prog K x0 h).mpr H)
end
noncomputable section
variable (x0 x1 x4 x6 x9 : Value) (h : ae)
def aim:=cj prog 82 [[],[1,4,6],[1,4,6,9],[]]
@[irreducible] def G1:=cD aim
@[irreducible] def acB:=G1.r.l.r.l
@[irreducible] def ayk:=G1.r.r
@[irreducible] def ayl:=acB.r.l
theorem k82:aim=some (13,G1,[.cell true 2 4]):=by kernel_rfl
def XR (_P:Program) (K:VK):ax:=aW [.cell true 2 4] K
def XS:ax:=aH (au P ayk (XR P K)) (XR P K)
def al9:Prop:=aA (au P acB (XS P K)) [1,4,6] [x1,x4,x6] h
def DK:Prop:=aA (au P ayl (XS P K)) [1,4,6,9] [x1,x4,x6,x9] h
theorem ang:DK P K x1 x4 x6 x9 h=
 (OP (bu x6 x9 (.bool false)) λaE=>
 OP (eI [(.bool false),(.slice none 0 0)] [(0,1,aE),(1,1,x1)]) λaM=>
 OH (aU 2 h x4 aM) λ_ z1=>
 OP (af true 2 z1 x4) λr0=>
 K r0 z1):=aB (by kernel_rfl)
theorem aIC:al9 P K x1 x4 x6 h=
 (bQ x6 true
 (OP (aT x1) λx8=>
 OP (aj .gtr x8 (.int .i64 (0))) λx9=>
 DK P K x1 x4 x6 x9 h)
 (DK P K x1 x4 x6 undef h)):=aB (by kernel_rfl)
def Nn:Prop:=
 OH (cF 90 [(.bool false),(.slice none 0 0)] h) λx4 z1=>
 al9 P K x1 x4 x0 z1
theorem e82:au P G1 (aW [.cell true 2 4] K) (cg [x0,x1]) h=Nn P K x0 x1 h:=by kernel_rfl
theorem f82 {K:VK} {x0 x1:Value} {h:ae} (H:Nn prog K x0 x1 h):ay prog 82 [x0,x1] h K:=
 cC k82 (cE rfl) ((e82 prog K x0 x1 h).mpr H)
end
noncomputable section
variable (x0 x6 aC : Value) (L1 : LQ) (xs : List Value) (h : ae)
def ain:=cj prog 83 [[],[],[0],[0,6],[0,6,13],[],[],[0],[]]
@[irreducible] def G3:=cD ain
@[irreducible] def G4:=G3.r.l.l.l
@[irreducible] def acC:=G3.r.r
@[irreducible] def acD:=G4.l.l.r.l
@[irreducible] def ayp:=G4.l.r
@[irreducible] def ayo:=G4.r
@[irreducible] def ayn:=acC.l
@[irreducible] def aym:=acD.r.l
theorem k83:ain=some (21,G3,[.tmp 2]):=by kernel_rfl
def Lu (_P:Program) (K:VK):ax:=aW [.tmp 2] K
def atw:ax:=aH (au P acC (Lu P K)) (Lu P K)
def atx:ax:=bC 0 (atw P K)
def Lv:ax:=aH (λf' aQ=>(([]:List Nat).map f':List Value)=[]/\L1 (([0]:List Nat).map f') aQ) (atx P K)
def XT:ax:=aH (au P ayo (Lv P K L1)) (Lv P K L1)
def XU:ax:=aH (au P ayp (XT P K L1)) (XT P K L1)
def ama:Prop:=aA (au P G4 (Lv P K L1)) ([]++[0]) ([]++xs) h
def amb:Prop:=aA (au P acD (XU P K L1)) [0,6] [x0,x6] h
def Uh:Prop:=aA (au P aym (XU P K L1)) [0,6,13] [x0,x6,aC] h
def Ui:Prop:=aA (au P ayn (Lu P K)) [0] [x0] h
theorem anh:Uh P K x0 x6 aC L1 h=
 (OP (bu x6 aC (.bool false)) λaP=>
 aJ aP
 (OP (aT x0) λbM=>
 OP (aj .sub bM (.int .i64 (1))) λbA=>
 OP (fP 152 1 x0 none (some bA)) λaS=>
 ([]:List Value)=[]/\L1 [aS] h)
 (Ui P K x0 h)):=aB (by kernel_rfl)
theorem ani:amb P K x0 x6 L1 h=
 (bQ x6 true
 (OP (aT x0) λx9=>
 OP (aj .sub x9 (.int .i64 (1))) λaE=>
 OP (aD 1 x0 aE) λaG=>
 OP (af false 1 h aG) λaM=>
 OP (aj .eql aM (.int .u32 (0))) λaC=>
 Uh P K x0 x6 aC L1 h)
 (Uh P K x0 x6 undef L1 h)):=aB (by kernel_rfl)
theorem aIE (L1:LQ) (x0:Value) (h:ae):ama P K L1 [x0] h=
 (OP (aT x0) λx4=>
 OP (aj .gtr x4 (.int .i64 (0))) λx5=>
 amb P K x0 x5 L1 h):=aB (by kernel_rfl)
theorem aID:Ui P K x0 h=
 (K x0 h):=aB (by kernel_rfl)
def X5:Prop:=
 bX [x0] h λL1 xs hx=>
 ama P K L1 xs hx
theorem e83:au P G3 (aW [.tmp 2] K) (cg [x0]) h=X5 P K x0 h:=by kernel_rfl
theorem f83 {K:VK} {x0:Value} {h:ae} (H:X5 prog K x0 h):ay prog 83 [x0] h K:=
 cC k83 (cE rfl) ((e83 prog K x0 h).mpr H)
end
noncomputable section
variable (a0 : Value) (h : ae)
def aio:=cj prog 84 [[],[]]
@[irreducible] def c84:=cD aio
theorem k84:aio=some (6,c84,[.tmp 2]):=by kernel_rfl
def No:Prop:=
 OH (cR 92 h a0) λa1 z1=>
 OP (aF 0 a1) λx3=>
 OP (af true 2 z1 x3) λx4=>
 ay P 93 [x4] z1 λx5 z2=>
 K x5 z2
theorem e84:au P c84 (aW [.tmp 2] K) (cg [a0]) h=No P K a0 h:=by kernel_rfl
theorem f84 {K:VK} {a0:Value} {h:ae} (H:No prog K a0 h):ay prog 84 [a0] h K:=
 cC k84 (cE rfl) ((e84 prog K a0 h).mpr H)
end
noncomputable section
variable (a0 b1 x5 x6 i7 y8 aR bK : Value) (L1 : LQ) (xs : List Value) (h : ae)
def aip:=cj prog 85 [[],[],[0,1],[],[],[],[0,1,5,21],[6,22],[],[],[],[],[],[0,1,5,6,7,8,21,22],[0,1,5,6,21,22],[0,5,6],[],[]]
@[irreducible] def OQ:=cD aip
@[irreducible] def OS:=OQ.r.r.l
@[irreducible] def OR:=OS.r.r.l.r.l.l
@[irreducible] def acG:=OS.r.r.r
@[irreducible] def ayq:=OR.r.r.l.l.r.r.r.l
@[irreducible] def acF:=OR.r.r.r
@[irreducible] def ays:=acG.l
@[irreducible] def ayr:=acF.l
theorem k85:aip=some (54,OQ,[.tmp 4]):=by kernel_rfl
def Fm (_P:Program) (K:VK):ax:=aW [.tmp 4] K
def atA:ax:=aH (au P acG (Fm P K)) (Fm P K)
def atB:ax:=bC 0 (atA P K)
def Fo:ax:=aH (λf' aQ=>(([0,1,5,21]:List Nat).map f':List Value)=[a0,b1,x5,aR]/\L1 (([6,22]:List Nat).map f') aQ) (atB P K)
def aty:ax:=aH (au P acF (Fo P K a0 b1 x5 aR L1)) (Fo P K a0 b1 x5 aR L1)
def atz:ax:=bC 1 (aty P K a0 b1 x5 aR L1)
def JD:Prop:=aA (au P OS (Fm P K)) [0,1] [a0,b1] h
def amc:Prop:=aA (au P OR (Fo P K a0 b1 x5 aR L1)) ([0,1,5,21]++[6,22]) ([a0,b1,x5,aR]++xs) h
def JC:Prop:=aA (au P ayq (atz P K a0 b1 x5 aR L1)) [0,1,5,6,7,8,21,22] [a0,b1,x5,x6,i7,y8,aR,bK] h
def amd:Prop:=aA (au P ayr (Fo P K a0 b1 x5 aR L1)) [0,1,5,6,21,22] [a0,b1,x5,x6,aR,bK] h
def ame:Prop:=aA (au P ays (Fm P K)) [0,5,6] [a0,x5,x6] h
theorem aIG:JC P K a0 b1 x5 x6 i7 y8 aR bK L1 h=
 (OP (aD 1 a0 i7) λdH=>
 OP (af false 1 h dH) λdW=>
 ay P 122 [dW,y8,x6] h λeg z1=>
 OP (cW 0 eg) λcO=>
 OP (cW 1 eg) λcP=>
 OP (aD 1 x5 i7) λdC=>
 OH (aU 1 z1 dC cO) λ_ z2=>
 amd P K a0 b1 x5 cP aR bK L1 z2):=aB (by kernel_rfl)
theorem aIH:amd P K a0 b1 x5 x6 aR bK L1 h=
 (OP (aj .add bK (.int .i64 (1))) λeT=>
 ([a0,b1,x5,aR]:List Value)=[a0,b1,x5,aR]/\L1 [x6,eT] h):=aB (by kernel_rfl)
theorem aIF (a0 b1 x5 aR:Value) (L1:LQ) (x6 bK:Value) (h:ae):amc P K a0 b1 x5 aR L1 [x6,bK] h=
 (OP (aj .lss bK aR) λbB=>
 aJ bB
 (OP (aT b1) λbO=>
 OP (aj .lss bK bO) λcL=>
 aJ cL
 (OP (aD 1 b1 bK) λbz=>
 OP (af false 1 h bz) λdJ=>
 JC P K a0 b1 x5 x6 bK dJ aR bK L1 h)
 (JC P K a0 b1 x5 x6 bK (.int .u32 (0)) aR bK L1 h))
 (ame P K a0 x5 x6 h)):=aB (by kernel_rfl)
theorem aII:ame P K a0 x5 x6 h=
 (OP (aT a0) λfX=>
 OP (aD 1 x5 fX) λer=>
 OH (aU 1 h er x6) λ_ z1=>
 ay P 83 [x5] z1 λfg z2=>
 K fg z2):=aB (by kernel_rfl)
theorem aIJ:JD P K a0 b1 h=
 (OP (aT a0) λbM=>
 OP (aj .add bM (.int .i64 (1))) λbA=>
 OH (eM 152 4 [(.int .u32 (0))] h bA bA) λaS z1=>
 OP (aT a0) λaR=>
 bX [(.int .u32 (0)),(.int .i64 (0))] z1 λL1 xs hx=>
 amc P K a0 b1 aS aR L1 xs hx):=aB (by kernel_rfl)
def Np:Prop:=
 OP (aT a0) λaE=>
 OP (aT b1) λaM=>
 OP (aj .lss aE aM) λaC=>
 aJ aC
 (JD P K b1 a0 h)
 (JD P K a0 b1 h)
theorem e85:au P OQ (aW [.tmp 4] K) (cg [a0,b1]) h=Np P K a0 b1 h:=by kernel_rfl
theorem f85 {K:VK} {a0 b1:Value} {h:ae} (H:Np prog K a0 b1 h):ay prog 85 [a0,b1] h K:=
 cC k85 (cE rfl) ((e85 prog K a0 b1 h).mpr H)
end
noncomputable section
variable (a0 b1 i5 : Value) (L1 : LQ) (xs : List Value) (h : ae)
def aiq:=cj prog 86 [[],[],[],[],[],[],[],[],[0,1],[5],[],[],[],[],[],[],[],[],[],[]]
@[irreducible] def G5:=cD aiq
@[irreducible] def ayt:=G5.r.r.l.r.l.l
@[irreducible] def ayu:=G5.r.r.r
theorem k86:aiq=some (41,G5,[.tmp 4]):=by kernel_rfl
def XV (_P:Program) (K:VK):ax:=aW [.tmp 4] K
def atE:ax:=aH (au P ayu (XV P K)) (XV P K)
def atC:ax:=bC 0 (atE P K)
def atD:ax:=aH (λf' aQ=>(([0,1]:List Nat).map f':List Value)=[a0,b1]/\L1 (([5]:List Nat).map f') aQ) (atC P K)
def amf:Prop:=aA (au P ayt (atD P K a0 b1 L1)) ([0,1]++[5]) ([a0,b1]++xs) h
theorem aIK (a0 b1:Value) (L1:LQ) (i5:Value) (h:ae):amf P K a0 b1 L1 [i5] h=
 (OP (aj .geq i5 (.int .i64 (0))) λaI=>
 aJ aI
 (OP (aD 1 a0 i5) λbH=>
 OP (af false 1 h bH) λbW=>
 (True)/\
 OP (aD 1 b1 i5) λca=>
 OP (af false 1 h ca) λaV=>
 (True)/\
 OP (aj .neq bW aV) λbz=>
 aJ bz
 (OP (aD 1 a0 i5) λcA=>
 OP (af false 1 h cA) λcB=>
 (True)/\
 OP (aD 1 b1 i5) λdH=>
 OP (af false 1 h dH) λdW=>
 (True)/\
 OP (aj .lss cB dW) λcI=>
 aJ cI
 (K (.int .i64 (-1)) h)
 (K (.int .i64 (1)) h))
 (OP (aj .sub i5 (.int .i64 (1))) λbK=>
 ([a0,b1]:List Value)=[a0,b1]/\L1 [bK] h))
 (K (.int .i64 (0)) h)):=aB (by kernel_rfl)
def Nq:Prop:=
 OP (aT a0) λx7=>
 OP (aT b1) λx9=>
 OP (aj .neq x7 x9) λaE=>
 aJ aE
 (OP (aT a0) λaM=>
 OP (aT b1) λaP=>
 OP (aj .lss aM aP) λaX=>
 aJ aX
 (K (.int .i64 (-1)) h)
 (K (.int .i64 (1)) h))
 (OP (aT a0) λbM=>
 OP (aj .sub bM (.int .i64 (1))) λbA=>
 bX [bA] h λL1 xs hx=>
 amf P K a0 b1 L1 xs hx)
theorem e86:au P G5 (aW [.tmp 4] K) (cg [a0,b1]) h=Nq P K a0 b1 h:=by kernel_rfl
theorem f86 {K:VK} {a0 b1:Value} {h:ae} (H:Nq prog K a0 b1 h):ay prog 86 [a0,b1] h K:=
 cC k86 (cE rfl) ((e86 prog K a0 b1 h).mpr H)
end
noncomputable section
variable (a0 b1 x5 x6 i7 y8 aC aP : Value) (L1 : LQ) (xs : List Value) (h : ae)
def air:=cj prog 87 [[],[],[],[],[0,1,5,13],[6,14],[],[],[],[],[],[0,1,5,6,7,8,13,14],[0,1,5,6,13,14],[5],[]]
@[irreducible] def G6:=cD air
@[irreducible] def OT:=G6.r.r.r.l.r.l.l
@[irreducible] def acI:=G6.r.r.r.r
@[irreducible] def ayv:=OT.r.r.l.l.r.r.r.l
@[irreducible] def acH:=OT.r.r.r
@[irreducible] def ayx:=acI.l
@[irreducible] def ayw:=acH.l
theorem k87:air=some (41,G6,[.tmp 4]):=by kernel_rfl
def Lw (_P:Program) (K:VK):ax:=aW [.tmp 4] K
def atH:ax:=aH (au P acI (Lw P K)) (Lw P K)
def atI:ax:=bC 0 (atH P K)
def Fp:ax:=aH (λf' aQ=>(([0,1,5,13]:List Nat).map f':List Value)=[a0,b1,x5,aC]/\L1 (([6,14]:List Nat).map f') aQ) (atI P K)
def atF:ax:=aH (au P acH (Fp P K a0 b1 x5 aC L1)) (Fp P K a0 b1 x5 aC L1)
def atG:ax:=bC 1 (atF P K a0 b1 x5 aC L1)
def ami:Prop:=aA (au P OT (Fp P K a0 b1 x5 aC L1)) ([0,1,5,13]++[6,14]) ([a0,b1,x5,aC]++xs) h
def JE:Prop:=aA (au P ayv (atG P K a0 b1 x5 aC L1)) [0,1,5,6,7,8,13,14] [a0,b1,x5,x6,i7,y8,aC,aP] h
def amg:Prop:=aA (au P ayw (Fp P K a0 b1 x5 aC L1)) [0,1,5,6,13,14] [a0,b1,x5,x6,aC,aP] h
def amh:Prop:=aA (au P ayx (Lw P K)) [5] [x5] h
theorem aIL:JE P K a0 b1 x5 x6 i7 y8 aC aP L1 h=
 (OP (aD 1 a0 i7) λaV=>
 OP (af false 1 h aV) λbz=>
 ay P 123 [bz,y8,x6] h λcA z1=>
 OP (cW 0 cA) λcB=>
 OP (cW 1 cA) λaY=>
 OP (aD 1 x5 i7) λbG=>
 OH (aU 1 z1 bG cB) λ_ z2=>
 amg P K a0 b1 x5 aY aC aP L1 z2):=aB (by kernel_rfl)
theorem aIM:amg P K a0 b1 x5 x6 aC aP L1 h=
 (OP (aj .add aP (.int .i64 (1))) λdH=>
 ([a0,b1,x5,aC]:List Value)=[a0,b1,x5,aC]/\L1 [x6,dH] h):=aB (by kernel_rfl)
theorem aIO (a0 b1 x5 aC:Value) (L1:LQ) (x6 aP:Value) (h:ae):ami P K a0 b1 x5 aC L1 [x6,aP] h=
 (OP (aj .lss aP aC) λaX=>
 aJ aX
 (OP (aT b1) λaS=>
 OP (aj .lss aP aS) λaI=>
 aJ aI
 (OP (aD 1 b1 aP) λbB=>
 OP (af false 1 h bB) λbm=>
 JE P K a0 b1 x5 x6 aP bm aC aP L1 h)
 (JE P K a0 b1 x5 x6 aP (.int .u32 (0)) aC aP L1 h))
 (amh P K x5 h)):=aB (by kernel_rfl)
theorem aIN:amh P K x5 h=
 (ay P 83 [x5] h λcI z1=>
 K cI z1):=aB (by kernel_rfl)
def Nr:Prop:=
 OP (aT a0) λaE=>
 OH (eM 152 4 [(.int .u32 (0))] h aE aE) λaG z1=>
 OP (aT a0) λaC=>
 bX [(.int .u32 (0)),(.int .i64 (0))] z1 λL1 xs hx=>
 ami P K a0 b1 aG aC L1 xs hx
theorem e87:au P G6 (aW [.tmp 4] K) (cg [a0,b1]) h=Nr P K a0 b1 h:=by kernel_rfl
theorem f87 {K:VK} {a0 b1:Value} {h:ae} (H:Nr prog K a0 b1 h):ay prog 87 [a0,b1] h K:=
 cC k87 (cE rfl) ((e87 prog K a0 b1 h).mpr H)
end
noncomputable section
variable (a0 : Value) (h : ae)
def ais:=cj prog 88 [[],[]]
@[irreducible] def c88:=cD ais
theorem k88:ais=some (9,c88,[.cell true 2 2]):=by kernel_rfl
def Ns:Prop:=
 OH (cR 90 h a0) λa1 z1=>
 OH (cF 90 [(.bool false),(.slice none 0 0)] z1) λx2 z2=>
 OP (aF 0 a1) λx3=>
 OP (af false 1 z2 x3) λx4=>
 OP (gG .not x4) λx5=>
 OP (aF 1 a1) λx6=>
 OP (af false 1 z2 x6) λx7=>
 ay P 82 [x5,x7] z2 λx8 z3=>
 OH (aU 2 z3 x2 x8) λ_ z4=>
 OP (af true 2 z4 x2) λr0=>
 K r0 z4
theorem e88:au P c88 (aW [.cell true 2 2] K) (cg [a0]) h=Ns P K a0 h:=by kernel_rfl
theorem f88 {K:VK} {a0:Value} {h:ae} (H:Ns prog K a0 h):ay prog 88 [a0] h K:=
 cC k88 (cE rfl) ((e88 prog K a0 h).mpr H)
end
noncomputable section
variable (a0 b1 x4 x5 y6 : Value) (L1 : LQ) (xs : List Value) (h : ae)
def ait:=cj prog 89 [[],[],[4],[5,6],[],[],[],[4,5],[]]
@[irreducible] def G7:=cD ait
@[irreducible] def ayz:=G7.r.r.l.l.l
@[irreducible] def acK:=G7.r.r.r
@[irreducible] def ayy:=acK.l
theorem k89:ait=some (26,G7,[.cell true 2 4]):=by kernel_rfl
def Lx (_P:Program) (K:VK):ax:=aW [.cell true 2 4] K
def atJ:ax:=aH (au P acK (Lx P K)) (Lx P K)
def atK:ax:=bC 0 (atJ P K)
def atL:ax:=aH (λf' aQ=>(([4]:List Nat).map f':List Value)=[x4]/\L1 (([5,6]:List Nat).map f') aQ) (atK P K)
def amk:Prop:=aA (au P ayz (atL P K x4 L1)) ([4]++[5,6]) ([x4]++xs) h
def amj:Prop:=aA (au P ayy (Lx P K)) [4,5] [x4,x5] h
theorem aIQ (x4:Value) (L1:LQ) (x5 y6:Value) (h:ae):amk P K x4 L1 [x5,y6] h=
 (OP (aT y6) λaP=>
 OP (aj .gtr aP (.int .i64 (0))) λaX=>
 aJ aX
 (ay P 124 [x5,y6] h λaS z1=>
 OP (cW 0 aS) λaI=>
 OP (cW 1 aS) λaR=>
 ([x4]:List Value)=[x4]/\L1 [y6,aR] z1)
 (amj P K x4 x5 h)):=aB (by kernel_rfl)
theorem aIP:amj P K x4 x5 h=
 (ay P 82 [(.bool false),x5] h λbH z1=>
 OH (aU 2 z1 x4 bH) λ_ z2=>
 OP (af true 2 z2 x4) λr0=>
 K r0 z2):=aB (by kernel_rfl)
def Nt:Prop:=
 OH (cR 90 h a0) λa2 z1=>
 OH (cR 90 z1 b1) λb3 z2=>
 OH (cF 90 [(.bool false),(.slice none 0 0)] z2) λx4 z3=>
 OP (aF 1 a2) λx9=>
 OP (af false 1 z3 x9) λaE=>
 (True)/\
 OP (aF 1 b3) λaG=>
 OP (af false 1 z3 aG) λaM=>
 (True)/\
 bX [aE,aM] z3 λL1 xs hx=>
 amk P K x4 L1 xs hx
theorem e89:au P G7 (aW [.cell true 2 4] K) (cg [a0,b1]) h=Nt P K a0 b1 h:=by kernel_rfl
theorem f89 {K:VK} {a0 b1:Value} {h:ae} (H:Nt prog K a0 b1 h):ay prog 89 [a0,b1] h K:=
 cC k89 (cE rfl) ((e89 prog K a0 b1 h).mpr H)
end
noncomputable section
variable (a0 b1 a2 b3 x4 x5 x8 y9 dJ bG : Value) (h : ae)
def aiv:=cj prog 90 [[],[],[],[2,3,4,5,8,9,32],[3,4,5,8,9,32,37],[],[4,5,8,9],[]]
@[irreducible] def Cb:=cD aiv
@[irreducible] def acM:=Cb.r.r.r.l.l.r.l
@[irreducible] def ayB:=Cb.r.r.r.l.r
@[irreducible] def acL:=Cb.r.r.r.r
@[irreducible] def ayC:=acM.r.l
@[irreducible] def ayA:=acL.l
theorem k90:aiv=some (47,Cb,[.cell true 2 4,.cell true 2 5]):=by kernel_rfl
def Ly (_P:Program) (K:VK):ax:=aW [.cell true 2 4,.cell true 2 5] K
def XW:ax:=aH (au P acL (Ly P K)) (Ly P K)
def XX:ax:=aH (au P ayB (XW P K)) (XW P K)
def aml:Prop:=aA (au P acM (XX P K)) [2,3,4,5,8,9,32] [a2,b3,x4,x5,x8,y9,dJ] h
def Uk:Prop:=aA (au P ayC (XX P K)) [3,4,5,8,9,32,37] [b3,x4,x5,x8,y9,dJ,bG] h
def Uj:Prop:=aA (au P ayA (Ly P K)) [4,5,8,9] [x4,x5,x8,y9] h
theorem aIT:Uk P K b3 x4 x5 x8 y9 dJ bG h=
 (OP (bu dJ bG (.bool false)) λdH=>
 aJ dH
 (OP (af true 2 h x8) λdW=>
 (True)/\
 ay P 56 [(.int .i64 (1))] h λcI z1=>
 (af true 2 z1 x8=some dW/\True)/\
 ay P 92 [dW,cI] z1 λcU z2=>
 (True)/\
 OP (af true 2 z2 y9) λeg=>
 (af true 2 h y9=some eg/\af true 2 z1 y9=some eg/\True)/\
 OP (af true 2 z2 b3) λcO=>
 (af true 2 h b3=some cO/\af true 2 z1 b3=some cO/\True)/\
 ay P 61 [eg,cO] z2 λcP z3=>
 (True)/\
 OH (aU 2 z3 x8 cU) λ_ z4=>
 (True)/\
 OH (aU 2 z4 y9 cP) λ_ z5=>
 (True)/\
 Uj P K x4 x5 x8 y9 z5)
 (Uj P K x4 x5 x8 y9 h)):=aB (by kernel_rfl)
theorem aIS:aml P K a2 b3 x4 x5 x8 y9 dJ h=
 (bQ dJ true
 (OP (aF 0 a2) λb9=>
 OP (af false 1 h b9) λcA=>
 OP (aF 0 b3) λcB=>
 OP (af false 1 h cB) λaY=>
 OP (tP true cA aY) λbG=>
 Uk P K b3 x4 x5 x8 y9 dJ bG h)
 (Uk P K b3 x4 x5 x8 y9 dJ undef h)):=aB (by kernel_rfl)
theorem aIR:Uj P K x4 x5 x8 y9 h=
 (OP (af true 2 h x8) λdC=>
 (True)/\
 OP (af true 2 h y9) λeT=>
 (True)/\
 OH (aU 2 h x4 dC) λ_ z1=>
 (af true 2 z1 y9=some eT/\True)/\
 OH (aU 2 z1 x5 eT) λ_ z2=>
 (True)/\
 OP (af true 2 z2 x4) λr0=>
 OP (af true 2 z2 x5) λr1=>
 K (.tuple #[r0,r1]) z2):=aB (by kernel_rfl)
def Nu:Prop:=
 OH (cR 90 h a0) λa2 z1=>
 OH (cR 90 z1 b1) λb3 z2=>
 OH (cF 90 [(.bool false),(.slice none 0 0)] z2) λx4 z3=>
 OH (cF 90 [(.bool false),(.slice none 0 0)] z3) λx5 z4=>
 OP (aF 1 a2) λaG=>
 OP (af false 1 z4 aG) λaM=>
 OP (aF 1 b3) λaC=>
 OP (af false 1 z4 aC) λaP=>
 ay P 124 [aM,aP] z4 λaX z5=>
 OP (cW 0 aX) λaZ=>
 OP (cW 1 aX) λbM=>
 OH (cF 90 [(.bool false),(.slice none 0 0)] z5) λx8 z6=>
 OP (eB z6 x8) λu=>
 (True)/\
 OH (cF 90 [(.bool false),(.slice none 0 0)] z6) λy9 z7=>
 OP (eB z7 y9) λx1=>
 (eB z7 x8=some u/\True)/\
 OP (aF 0 a2) λbA=>
 OP (af false 1 z7 bA) λaS=>
 (af false 1 z5 bA=some aS/\af false 1 z6 bA=some aS/\True)/\
 OP (aF 0 b3) λaI=>
 OP (af false 1 z7 aI) λaR=>
 (af false 1 z5 aI=some aR/\af false 1 z6 aI=some aR/\True)/\
 OP (tP true aS aR) λbK=>
 ay P 82 [bK,aZ] z7 λbm z8=>
 (eB z8 x8=some u/\eB z8 y9=some x1/\True)/\
 OP (aF 0 a2) λbH=>
 OP (af false 1 z8 bH) λbW=>
 (af false 1 z5 bH=some bW/\af false 1 z6 bH=some bW/\af false 1 z7 bH=some bW/\True)/\
 ay P 82 [bW,bM] z8 λcL z9=>
 (eB z9 x8=some u/\eB z9 y9=some x1/\True)/\
 OH (aU 2 z9 x8 bm) λ_ qK=>
 (True)/\
 OH (aU 2 qK y9 cL) λ_ zX=>
 (True)/\
 OP (aT bM) λaV=>
 OP (aj .gtr aV (.int .i64 (0))) λbz=>
 aml P K a2 b3 x4 x5 x8 y9 bz zX
theorem e90:au P Cb (aW [.cell true 2 4,.cell true 2 5] K) (cg [a0,b1]) h=Nu P K a0 b1 h:=by kernel_rfl
theorem f90 {K:VK} {a0 b1:Value} {h:ae} (H:Nu prog K a0 b1 h):ay prog 90 [a0,b1] h K:=
 cC k90 (cE rfl) ((e90 prog K a0 b1 h).mpr H)
end
noncomputable section
variable (a0 b1 x5 i6 x7 x8 bA aS aI bH bW bO : Value) (L1 L2 : LQ) (xs : List Value) (h : ae)
def aiw:=cj prog 91 [[],[],[],[1,5,18,19],[20],[],[],[],[],[],[1,5,6,7,18,19,20,25,26],[8,27],[],[],[],[],[],[1,5,6,8,18,19,20],[1,5,18,19,20],[5],[]]
@[irreducible] def G8:=cD aiw
@[irreducible] def G9:=G8.r.r.l.r.l.l
@[irreducible] def acO:=G8.r.r.r
@[irreducible] def ayD:=G9.r.r.l.l.r.r.l.r.l.l
@[irreducible] def acN:=G9.r.r.l.l.r.r.r
@[irreducible] def acP:=G9.r.r.r
@[irreducible] def ayG:=acO.l
@[irreducible] def ayE:=acN.l
@[irreducible] def ayF:=acP.l
theorem k91:aiw=some (68,G8,[.tmp 4]):=by kernel_rfl
def Lz (_P:Program) (K:VK):ax:=aW [.tmp 4] K
def atP:ax:=aH (au P acO (Lz P K)) (Lz P K)
def atQ:ax:=bC 0 (atP P K)
def Fq:ax:=aH (λf' aQ=>(([1,5,18,19]:List Nat).map f':List Value)=[b1,x5,bA,aS]/\L1 (([20]:List Nat).map f') aQ) (atQ P K)
def atS:ax:=aH (au P acP (Fq P K b1 x5 bA aS L1)) (Fq P K b1 x5 bA aS L1)
def LA:ax:=bC 1 (atS P K b1 x5 bA aS L1)
def atM:ax:=aH (au P acN (LA P K b1 x5 bA aS L1)) (LA P K b1 x5 bA aS L1)
def atN:ax:=bC 2 (atM P K b1 x5 bA aS L1)
def atO:ax:=aH (λf' aQ=>(([1,5,6,7,18,19,20,25,26]:List Nat).map f':List Value)=[b1,x5,i6,x7,bA,aS,aI,bH,bW]/\L2 (([8,27]:List Nat).map f') aQ) (atN P K b1 x5 bA aS L1)
def amq:Prop:=aA (au P G9 (Fq P K b1 x5 bA aS L1)) ([1,5,18,19]++[20]) ([b1,x5,bA,aS]++xs) h
def amm:Prop:=aA (au P ayD (atO P K b1 x5 i6 x7 bA aS aI bH bW L1 L2)) ([1,5,6,7,18,19,20,25,26]++[8,27]) ([b1,x5,i6,x7,bA,aS,aI,bH,bW]++xs) h
def amn:Prop:=aA (au P ayE (LA P K b1 x5 bA aS L1)) [1,5,6,8,18,19,20] [b1,x5,i6,x8,bA,aS,aI] h
def amo:Prop:=aA (au P ayF (Fq P K b1 x5 bA aS L1)) [1,5,18,19,20] [b1,x5,bA,aS,aI] h
def amp:Prop:=aA (au P ayG (Lz P K)) [5] [x5] h
theorem aIU (b1 x5 i6 x7 bA aS aI bH bW:Value) (L1 L2:LQ) (x8 bO:Value) (h:ae):amm P K b1 x5 i6 x7 bA aS aI bH bW L1 L2 [x8,bO] h=
 (OP (aj .lss bO bW) λcL=>
 aJ cL
 (OP (aD 1 bH bO) λaV=>
 OP (af false 1 h aV) λbz=>
 OP (dI .u64 x7) λb9=>
 OP (dI .u64 bz) λcB=>
 OP (aj .mul b9 cB) λaY=>
 OP (aj .add i6 bO) λcI=>
 OP (aD 1 x5 cI) λcU=>
 OP (af false 1 h cU) λeg=>
 OP (dI .u64 eg) λcO=>
 OP (aj .add aY cO) λcP=>
 OP (aj .add cP x8) λeT=>
 OP (aj .add i6 bO) λiU=>
 OP (dI .u32 eT) λfI=>
 OP (aj .shr eT (.int .u64 (32))) λgw=>
 OP (aD 1 x5 iU) λfJ=>
 OH (aU 1 h fJ fI) λ_ z1=>
 OP (aj .add bO (.int .i64 (1))) λgX=>
 ([b1,x5,i6,x7,bA,aS,aI,bH,bW]:List Value)=[b1,x5,i6,x7,bA,aS,aI,bH,bW]/\L2 [gw,gX] z1)
 (amn P K b1 x5 i6 x8 bA aS aI L1 h)):=aB (by kernel_rfl)
theorem aIV:amn P K b1 x5 i6 x8 bA aS aI L1 h=
 (OP (aT b1) λgL=>
 OP (aj .add i6 gL) λfT=>
 OP (dI .u32 x8) λhZ=>
 OP (aD 1 x5 fT) λkf=>
 OH (aU 1 h kf hZ) λ_ z1=>
 amo P K b1 x5 bA aS aI L1 z1):=aB (by kernel_rfl)
theorem aIW:amo P K b1 x5 bA aS aI L1 h=
 (OP (aj .add aI (.int .i64 (1))) λjA=>
 ([b1,x5,bA,aS]:List Value)=[b1,x5,bA,aS]/\L1 [jA] h):=aB (by kernel_rfl)
theorem aIY (b1 x5 bA aS:Value) (L1:LQ) (aI:Value) (h:ae):amq P K b1 x5 bA aS L1 [aI] h=
 (OP (aj .lss aI aS) λaR=>
 aJ aR
 (OP (aD 1 bA aI) λbB=>
 OP (af false 1 h bB) λbm=>
 OP (aT b1) λbW=>
 bX [(.int .u64 (0)),(.int .i64 (0))] h λL2 xs hx=>
 amm P K b1 x5 aI bm bA aS aI b1 bW L1 L2 xs hx)
 (amp P K x5 h)):=aB (by kernel_rfl)
theorem aIX:amp P K x5 h=
 (ay P 83 [x5] h λgy z1=>
 K gy z1):=aB (by kernel_rfl)
def Nv:Prop:=
 OP (aT a0) λaC=>
 OP (aT b1) λaX=>
 OP (aj .add aC aX) λaZ=>
 OH (eM 152 4 [(.int .u32 (0))] h aZ aZ) λbM z1=>
 OP (aT a0) λaS=>
 bX [(.int .i64 (0))] z1 λL1 xs hx=>
 amq P K b1 bM a0 aS L1 xs hx
theorem e91:au P G8 (aW [.tmp 4] K) (cg [a0,b1]) h=Nv P K a0 b1 h:=by kernel_rfl
theorem f91 {K:VK} {a0 b1:Value} {h:ae} (H:Nv prog K a0 b1 h):ay prog 91 [a0,b1] h K:=
 cC k91 (cE rfl) ((e91 prog K a0 b1 h).mpr H)
end
noncomputable section
variable (a0 b1 : Value) (h : ae)
def aix:=cj prog 92 [[],[]]
@[irreducible] def c92:=cD aix
theorem k92:aix=some (9,c92,[.cell true 2 4]):=by kernel_rfl
def Nw:Prop:=
 OH (cR 90 h a0) λa2 z1=>
 OH (cR 90 z1 b1) λb3 z2=>
 OH (cF 90 [(.bool false),(.slice none 0 0)] z2) λx4 z3=>
 OP (af true 2 z3 a2) λx5=>
 (True)/\
 OP (af true 2 z3 b3) λx6=>
 (True)/\
 ay P 88 [x6] z3 λx7 z4=>
 (af true 2 z4 a2=some x5/\True)/\
 ay P 61 [x5,x7] z4 λx8 z5=>
 (True)/\
 OH (aU 2 z5 x4 x8) λ_ z6=>
 (True)/\
 OP (af true 2 z6 x4) λr0=>
 K r0 z6
theorem e92:au P c92 (aW [.cell true 2 4] K) (cg [a0,b1]) h=Nw P K a0 b1 h:=by kernel_rfl
theorem f92 {K:VK} {a0 b1:Value} {h:ae} (H:Nw prog K a0 b1 h):ay prog 92 [a0,b1] h K:=
 cC k92 (cE rfl) ((e92 prog K a0 b1 h).mpr H)
end
noncomputable section
variable (a0 : Value) (h : ae)
def aiy:=cj prog 93 [[],[],[],[],[],[],[]]
@[irreducible] def c93:=cD aiy
theorem k93:aiy=some (11,c93,[.tmp 2]):=by kernel_rfl
def Nx (_P:Program) (K:VK) (a0:Value) (h:ae):Prop:=
 OH (cR 90 h a0) λa1 z1=>
 OP (aF 1 a1) λx4=>
 OP (af false 1 z1 x4) λx5=>
 OP (aT x5) λx6=>
 OP (aj .eql x6 (.int .i64 (0))) λx7=>
 aJ x7
 (K (.int .i64 (0)) z1)
 (OP (aF 0 a1) λx9=>
 OP (af false 1 z1 x9) λaE=>
 aJ aE
 (K (.int .i64 (-1)) z1)
 (K (.int .i64 (1)) z1))
theorem e93:au P c93 (aW [.tmp 2] K) (cg [a0]) h=Nx P K a0 h:=by kernel_rfl
theorem f93 {K:VK} {a0:Value} {h:ae} (H:Nx prog K a0 h):ay prog 93 [a0] h K:=
 cC k93 (cE rfl) ((e93 prog K a0 h).mpr H)
end
noncomputable section
variable (a0 b1 : Value) (h : ae)
def aiz:=cj prog 94 [[],[]]
@[irreducible] def c94:=cD aiz
theorem k94:aiz=some (16,c94,[.cell true 4 4]):=by kernel_rfl
def Ny:Prop:=
 OH (cR 92 h a0) λa2 z1=>
 OH (cR 92 z1 b1) λb3 z2=>
 OH (cF 92 [(.bool false),(.slice none 0 0),(.bool false),(.slice none 0 0)] z2) λx4 z3=>
 OP (aF 0 a2) λx5=>
 OP (af true 2 z3 x5) λx6=>
 (True)/\
 OP (aF 2 b3) λx7=>
 OP (af true 2 z3 x7) λx8=>
 (True)/\
 ay P 63 [x6,x8] z3 λx9 z4=>
 (True)/\
 OP (aF 2 a2) λaE=>
 OP (af true 2 z4 aE) λaG=>
 (af true 2 z3 aE=some aG/\True)/\
 OP (aF 0 b3) λaM=>
 OP (af true 2 z4 aM) λaC=>
 (af true 2 z3 aM=some aC/\True)/\
 ay P 63 [aG,aC] z4 λaP z5=>
 (True)/\
 ay P 62 [x9,aP] z5 λaX z6=>
 (True)/\
 OH (aU 4 z6 x4 aX) λ_ z7=>
 (True)/\
 OP (af true 4 z7 x4) λr0=>
 K r0 z7
theorem e94:au P c94 (aW [.cell true 4 4] K) (cg [a0,b1]) h=Ny P K a0 b1 h:=by kernel_rfl
theorem f94 {K:VK} {a0 b1:Value} {h:ae} (H:Ny prog K a0 b1 h):ay prog 94 [a0,b1] h K:=
 cC k94 (cE rfl) ((e94 prog K a0 b1 h).mpr H)
end
noncomputable section
variable (x0 n2 : Value) (h : ae)
def agM:=cj prog 105 [[],[],[],[0,2],[],[],[0,2],[]]
@[irreducible] def NQ:=cD agM
@[irreducible] def Yt:=NQ.r.r.l
@[irreducible] def auC:=Yt.r.l
theorem aCb:agM=some (19,NQ,[.tmp 2]):=by kernel_rfl
def Wz (_P:Program) (K:VK):ax:=aW [.tmp 2] K
def Jh:Prop:=aA (au P Yt (Wz P K)) [0,2] [x0,n2] h
def Ji:Prop:=aA (au P auC (Wz P K)) [0,2] [x0,n2] h
theorem aDE:Ji P K x0 n2 h=
 (OP (dI .u8 x0) λaX=>
 OP (tQ (.string ⟨#[0,1,2,2,3,3,3,3,4,4,4,4,4,4,4,4,5,5,5,5,5,5,5,5,5,5,5,5,5,5,5,5,6,6,6,6,6,6,6,6,6,6,6,6,6,6,6,6,6,6,6,6,6,6,6,6,6,6,6,6,6,6,6,6,7,7,7,7,7,7,7,7,7,7,7,7,7,7,7,7,7,7,7,7,7,7,7,7,7,7,7,7,7,7,7,7,7,7,7,7,7,7,7,7,7,7,7,7,7,7,7,7,7,7,7,7,7,7,7,7,7,7,7,7,7,7,7,7,8,8,8,8,8,8,8,8,8,8,8,8,8,8,8,8,8,8,8,8,8,8,8,8,8,8,8,8,8,8,8,8,8,8,8,8,8,8,8,8,8,8,8,8,8,8,8,8,8,8,8,8,8,8,8,8,8,8,8,8,8,8,8,8,8,8,8,8,8,8,8,8,8,8,8,8,8,8,8,8,8,8,8,8,8,8,8,8,8,8,8,8,8,8,8,8,8,8,8,8,8,8,8,8,8,8,8,8,8,8,8,8,8,8,8,8,8,8,8,8,8,8,8,8,8,8,8,8]⟩) aX) λaZ=>
 OP (dI .i64 aZ) λbM=>
 OP (aj .add n2 bM) λbA=>
 K bA h):=aB (by kernel_rfl)
theorem aDD:Jh P K x0 n2 h=
 (OP (aj .geq x0 (.int .u32 (256))) λx8=>
 aJ x8
 (OP (aj .shr x0 (.int .u64 (8))) λaE=>
 OP (aj .add n2 (.int .i64 (8))) λaM=>
 Ji P K aE aM h)
 (Ji P K x0 n2 h)):=aB (by kernel_rfl)
def LJ:Prop:=
 OP (aj .geq x0 (.int .u32 (65536))) λx4=>
 aJ x4
 (OP (aj .shr x0 (.int .u64 (16))) λx6=>
 Jh P K x6 (.int .i64 (16)) h)
 (Jh P K x0 (.int .i64 (0)) h)
theorem azy:au P NQ (aW [.tmp 2] K) (cg [x0]) h=LJ P K x0 h:=by kernel_rfl
theorem f105 {K:VK} {x0:Value} {h:ae} (H:LJ prog K x0 h):ay prog 105 [x0] h K:=
 cC aCb (cE rfl) ((azy prog K x0 h).mpr H)
end
noncomputable section
variable (a0 w1 x6 x7 i8 : Value) (L1 : LQ) (xs : List Value) (h : ae)
def agU:=cj prog 120 [[],[],[],[],[0,1,6],[7,8],[],[],[],[],[6,7],[]]
@[irreducible] def FQ:=cD agU
@[irreducible] def auR:=FQ.r.r.r.l.r.l.l
@[irreducible] def YG:=FQ.r.r.r.r
@[irreducible] def auQ:=YG.l
theorem aCh:agU=some (44,FQ,[.tmp 4,.tmp 5]):=by kernel_rfl
def KH (_P:Program) (K:VK):ax:=aW [.tmp 4,.tmp 5] K
def apf:ax:=aH (au P YG (KH P K)) (KH P K)
def apg:ax:=bC 0 (apf P K)
def aph:ax:=aH (λf' aQ=>(([0,1,6]:List Nat).map f':List Value)=[a0,w1,x6]/\L1 (([7,8]:List Nat).map f') aQ) (apg P K)
def aiV:Prop:=aA (au P auR (aph P K a0 w1 x6 L1)) ([0,1,6]++[7,8]) ([a0,w1,x6]++xs) h
def aiU:Prop:=aA (au P auQ (KH P K)) [6,7] [x6,x7] h
theorem aDY (a0 w1 x6:Value) (L1:LQ) (x7 i8:Value) (h:ae):aiV P K a0 w1 x6 L1 [x7,i8] h=
 (OP (aj .geq i8 (.int .i64 (0))) λbM=>
 aJ bM
 (OP (aj .shl x7 (.int .u64 (32))) λaR=>
 OP (aD 1 a0 i8) λbm=>
 OP (af false 1 h bm) λbH=>
 OP (dI .u64 bH) λbW=>
 OP (aj .or aR bW) λbO=>
 OP (dI .u64 w1) λdJ=>
 OP (aj .quo bO dJ) λb9=>
 OP (dI .u32 b9) λcA=>
 OP (dI .u64 w1) λbG=>
 OP (aj .rem bO bG) λdH=>
 OP (aD 1 x6 i8) λdW=>
 OH (aU 1 h dW cA) λ_ z1=>
 (True)/\
 OP (aj .sub i8 (.int .i64 (1))) λaS=>
 ([a0,w1,x6]:List Value)=[a0,w1,x6]/\L1 [dH,aS] z1)
 (aiU P K x6 x7 h)):=aB (by kernel_rfl)
theorem aDX:aiU P K x6 x7 h=
 (ay P 83 [x6] h λcU z1=>
 OP (dI .u32 x7) λcO=>
 K (.tuple #[cU,cO]) z1):=aB (by kernel_rfl)
def LU:Prop:=
 OP (aT a0) λaG=>
 OH (eM 152 4 [(.int .u32 (0))] h aG aG) λaM z1=>
 OP (aT a0) λaP=>
 OP (aj .sub aP (.int .i64 (1))) λaX=>
 bX [(.int .u64 (0)),aX] z1 λL1 xs hx=>
 aiV P K a0 w1 aM L1 xs hx
theorem azE:au P FQ (aW [.tmp 4,.tmp 5] K) (cg [a0,w1]) h=LU P K a0 w1 h:=by kernel_rfl
theorem f120 {K:VK} {a0 w1:Value} {h:ae} (H:LU prog K a0 w1 h):ay prog 120 [a0,w1] h K:=
 cC aCh (cE rfl) ((azE prog K a0 w1 h).mpr H)
end
noncomputable section
variable (s0 i2 j3 : Value) (L1 : LQ) (xs : List Value) (h : ae)
def agV:=cj prog 121 [[],[0],[2,3],[],[],[]]
@[irreducible] def NW:=cD agV
@[irreducible] def auS:=NW.r.l.l
theorem aCi:agV=some (28,NW,[]):=by kernel_rfl
def api (_P:Program) (K:VK):ax:=aW [] K
def apj:ax:=bC 0 (api P K)
def apk:ax:=aH (λf' aQ=>(([0]:List Nat).map f':List Value)=[s0]/\L1 (([2,3]:List Nat).map f') aQ) (apj P K)
def aiW:Prop:=aA (au P auS (apk P K s0 L1)) ([0]++[2,3]) ([s0]++xs) h
theorem aDZ (s0:Value) (L1:LQ) (i2 j3:Value) (h:ae):aiW P K s0 L1 [i2,j3] h=
 (OP (aj .lss i2 j3) λx9=>
 aJ x9
 (OP (aD 1 s0 j3) λaI=>
 OP (af false 1 h aI) λaR=>
 (True)/\
 OP (aD 1 s0 i2) λbm=>
 OP (af false 1 h bm) λbH=>
 (True)/\
 OP (aD 1 s0 i2) λbW=>
 OH (aU 1 h bW aR) λ_ z1=>
 (True)/\
 OP (aD 1 s0 j3) λbO=>
 OH (aU 1 z1 bO bH) λ_ z2=>
 (True)/\
 OP (aj .add i2 (.int .i64 (1))) λaG=>
 OP (aj .sub j3 (.int .i64 (1))) λaC=>
 ([s0]:List Value)=[s0]/\L1 [aG,aC] z2)
 (K (.tuple #[]) h)):=aB (by kernel_rfl)
def LV:Prop:=
 OP (aT s0) λx5=>
 OP (aj .sub x5 (.int .i64 (1))) λx6=>
 bX [(.int .i64 (0)),x6] h λL1 xs hx=>
 aiW P K s0 L1 xs hx
theorem azF:au P NW (aW [] K) (cg [s0]) h=LV P K s0 h:=by kernel_rfl
theorem f121 {K:VK} {s0:Value} {h:ae} (H:LV prog K s0 h):ay prog 121 [s0] h K:=
 cC aCi (cE rfl) ((azF prog K s0 h).mpr H)
end
noncomputable section
variable (x0 y1 x2 : Value) (h : ae)
def agW:=cj prog 122 [[],[],[],[]]
@[irreducible] def YH:=cD agW
theorem aCj:agW=some (22,YH,[.tmp 6,.tmp 7]):=by kernel_rfl
def LW (_P:Program) (K:VK) (x0 y1 x2:Value) (h:ae):Prop:=
 OP (dI .u64 x0) λaE=>
 OP (dI .u64 y1) λaM=>
 OP (aj .add aE aM) λaC=>
 OP (dI .u64 x2) λaX=>
 OP (aj .add aC aX) λaZ=>
 OP (dI .u32 aZ) λbA=>
 OP (aj .shr aZ (.int .u64 (32))) λaI=>
 OP (dI .u32 aI) λaR=>
 K (.tuple #[bA,aR]) h
theorem azG:au P YH (aW [.tmp 6,.tmp 7] K) (cg [x0,y1,x2]) h=LW P K x0 y1 x2 h:=by kernel_rfl
theorem f122 {K:VK} {x0 y1 x2:Value} {h:ae} (H:LW prog K x0 y1 x2 h):ay prog 122 [x0,y1,x2] h K:=
 cC aCj (cE rfl) ((azG prog K x0 y1 x2 h).mpr H)
end
noncomputable section
variable (x0 y1 x2 : Value) (h : ae)
def agX:=cj prog 123 [[],[],[]]
@[irreducible] def YI:=cD agX
theorem aCk:agX=some (25,YI,[.tmp 6,.tmp 7]):=by kernel_rfl
def LX (_P:Program) (K:VK) (x0 y1 x2:Value) (h:ae):Prop:=
 OP (aj .sub x0 y1) λaE=>
 OP (aj .sub aE x2) λaM=>
 OP (gG .xor x0) λaP=>
 OP (aj .and aP y1) λaZ=>
 OP (aj .xor x0 y1) λaS=>
 OP (gG .xor aS) λaI=>
 OP (aj .and aI aM) λbK=>
 OP (aj .or aZ bK) λbB=>
 OP (aj .shr bB (.int .u64 (31))) λbm=>
 K (.tuple #[aM,bm]) h
theorem azH:au P YI (aW [.tmp 6,.tmp 7] K) (cg [x0,y1,x2]) h=LX P K x0 y1 x2 h:=by kernel_rfl
theorem f123 {K:VK} {x0 y1 x2:Value} {h:ae} (H:LX prog K x0 y1 x2 h):ay prog 123 [x0,y1,x2] h K:=
 cC aCk (cE rfl) ((azH prog K x0 y1 x2 h).mpr H)
end
noncomputable section
variable (a0 b1 x8 v9 rK n11 rJ zj : Value) (L1 : LQ) (xs : List Value) (h : ae)
def agY:=cj prog 124 [[],[],[],[],[],[],[],[],[],[],[],[],[],[8,9,10,11,12],[13],[],[],[],[8,10,11,12],[]]
@[irreducible] def FT:=cD agY
@[irreducible] def auT:=FT.r.r.r.r.r.r.r.l.r.l.l
@[irreducible] def YJ:=FT.r.r.r.r.r.r.r.r
@[irreducible] def auU:=YJ.l
theorem aCl:agY=some (85,FT,[.tmp 4,.tmp 5]):=by kernel_rfl
def KI (_P:Program) (K:VK):ax:=aW [.tmp 4,.tmp 5] K
def apl:ax:=aH (au P YJ (KI P K)) (KI P K)
def apm:ax:=bC 0 (apl P K)
def apn:ax:=aH (λf' aQ=>(([8,9,10,11,12]:List Nat).map f':List Value)=[x8,v9,rK,n11,rJ]/\L1 (([13]:List Nat).map f') aQ) (apm P K)
def Sd:Prop:=aA (au P auT (apn P K x8 v9 rK n11 rJ L1)) ([8,9,10,11,12]++[13]) ([x8,v9,rK,n11,rJ]++xs) h
def aiX:Prop:=aA (au P auU (KI P K)) [8,10,11,12] [x8,rK,n11,rJ] h
theorem aD0 (x8 v9 rK n11 rJ:Value) (L1:LQ) (zj:Value) (h:ae):Sd P K x8 v9 rK n11 rJ L1 [zj] h=
 (OP (aj .geq zj (.int .i64 (0))) λiV=>
 aJ iV
 (OP (aj .add zj n11) λgA=>
 OP (aj .add gA (.int .i64 (1))) λoh=>
 OP (fP 152 1 rK (some zj) (some oh)) λlh=>
 ay P 142 [lh,v9] h λfF z1=>
 OP (aD 1 rJ zj) λiM=>
 OH (aU 1 z1 iM fF) λ_ z2=>
 OP (aj .sub zj (.int .i64 (1))) λkf=>
 ([x8,v9,rK,n11,rJ]:List Value)=[x8,v9,rK,n11,rJ]/\L1 [kf] z2)
 (aiX P K x8 rK n11 rJ h)):=aB (by kernel_rfl)
theorem aD1:aiX P K x8 rK n11 rJ h=
 (ay P 83 [rJ] h λie z1=>
 (True)/\
 OP (fP 152 1 rK none (some n11)) λcJ=>
 ay P 83 [cJ] z1 λdB z2=>
 (True)/\
 ay P 143 [dB,x8] z2 λgM z3=>
 (True)/\
 K (.tuple #[ie,gM]) z3):=aB (by kernel_rfl)
def Fz:Prop:=
 ay P 86 [a0,b1] h λaZ z1=>
 OP (aj .lss aZ (.int .i64 (0))) λbM=>
 aJ bM
 (OH (cT 152 1 4 z1 (.slice none 0 0) a0) λaS z2=>
 K (.tuple #[(.slice none 0 0),aS]) z2)
 (OP (aT b1) λaR=>
 OP (aj .eql aR (.int .i64 (1))) λbK=>
 aJ bK
 (OP (aD 1 b1 (.int .i64 (0))) λbW=>
 OP (af false 1 z1 bW) λbO=>
 ay P 120 [a0,bO] z1 λcL z2=>
 OP (cW 0 cL) λca=>
 OP (cW 1 cL) λaV=>
 OH (cH 152 1 [(.int .u32 (0))] z2 [(0,1,aV)]) λb9 z3=>
 ay P 83 [b9] z3 λcA z4=>
 K (.tuple #[ca,cA]) z4)
 (OP (aT b1) λbG=>
 OP (aj .sub bG (.int .i64 (1))) λdH=>
 OP (aD 1 b1 dH) λdW=>
 OP (af false 1 z1 dW) λcI=>
 ay P 140 [cI] z1 λcU z2=>
 ay P 141 [b1,cU] z2 λcP z3=>
 ay P 83 [cP] z3 λdC z4=>
 ay P 141 [a0,cU] z4 λfE z5=>
 OP (aT dC) λiU=>
 OP (aT a0) λfI=>
 OP (aj .sub fI iU) λgw=>
 OP (aj .add gw (.int .i64 (1))) λfJ=>
 OH (eM 152 4 [(.int .u32 (0))] z5 fJ fJ) λgX z6=>
 OP (aT a0) λfS=>
 OP (aj .sub fS iU) λgL=>
 bX [gL] z6 λL1 xs hx=>
 Sd P K cU dC fE iU gX L1 xs hx))
theorem azI:au P FT (aW [.tmp 4,.tmp 5] K) (cg [a0,b1]) h=Fz P K a0 b1 h:=by kernel_rfl
theorem f124 {K:VK} {a0 b1:Value} {h:ae} (H:Fz prog K a0 b1 h):ay prog 124 [a0,b1] h K:=
 cC aCl (cE rfl) ((azI prog K a0 b1 h).mpr H)
end
noncomputable section
variable (x0 y1 : Value) (h : ae)
def ag5:=cj prog 138 [[],[],[]]
@[irreducible] def YY:=cD ag5
theorem aCr:ag5=some (17,YY,[.tmp 4,.tmp 5]):=by kernel_rfl
def X4 (_P:Program) (K:VK) (x0 y1:Value) (h:ae):Prop:=
 OP (dI .u64 x0) λx8=>
 OP (dI .u64 y1) λaE=>
 OP (aj .mul x8 aE) λaG=>
 OP (aj .shr aG (.int .u64 (32))) λaC=>
 OP (dI .u32 aC) λaP=>
 OP (dI .u32 aG) λaZ=>
 K (.tuple #[aP,aZ]) h
theorem azO:au P YY (aW [.tmp 4,.tmp 5] K) (cg [x0,y1]) h=X4 P K x0 y1 h:=by kernel_rfl
theorem f138 {K:VK} {x0 y1:Value} {h:ae} (H:X4 prog K x0 y1 h):ay prog 138 [x0,y1] h K:=
 cC aCr (cE rfl) ((azO prog K x0 y1 h).mpr H)
end
noncomputable section
variable (x0 : Value) (h : ae)
def ag8:=cj prog 140 [[],[]]
@[irreducible] def Y2:=cD ag8
theorem aCt:ag8=some (6,Y2,[.tmp 2]):=by kernel_rfl
def Ma:Prop:=
 ay P 105 [x0] h λx4 z1=>
 OP (aj .sub (.int .i64 (32)) x4) λx5=>
 K x5 z1
theorem azQ:au P Y2 (aW [.tmp 2] K) (cg [x0]) h=Ma P K x0 h:=by kernel_rfl
theorem f140 {K:VK} {x0:Value} {h:ae} (H:Ma prog K x0 h):ay prog 140 [x0] h K:=
 cC aCt (cE rfl) ((azQ prog K x0 h).mpr H)
end
noncomputable section
variable (x0 n1 x5 aC aP aX : Value) (L1 : LQ) (xs : List Value) (h : ae)
def ag9:=cj prog 141 [[],[],[],[1,5,13,14],[15],[],[],[],[],[],[],[5],[]]
@[irreducible] def F1:=cD ag9
@[irreducible] def avf:=F1.r.r.l.r.l.l
@[irreducible] def Y3:=F1.r.r.r
@[irreducible] def ave:=Y3.l
theorem aCu:ag9=some (41,F1,[.tmp 4]):=by kernel_rfl
def KO (_P:Program) (K:VK):ax:=aW [.tmp 4] K
def apJ:ax:=aH (au P Y3 (KO P K)) (KO P K)
def apK:ax:=bC 0 (apJ P K)
def apL:ax:=aH (λf' aQ=>(([1,5,13,14]:List Nat).map f':List Value)=[n1,x5,aC,aP]/\L1 (([15]:List Nat).map f') aQ) (apK P K)
def ajc:Prop:=aA (au P avf (apL P K n1 x5 aC aP L1)) ([1,5,13,14]++[15]) ([n1,x5,aC,aP]++xs) h
def ajb:Prop:=aA (au P ave (KO P K)) [5] [x5] h
theorem aEl (n1 x5 aC aP:Value) (L1:LQ) (aX:Value) (h:ae):ajc P K n1 x5 aC aP L1 [aX] h=
 (OP (aj .lss aX aP) λaZ=>
 aJ aZ
 (OP (aD 1 aC aX) λbA=>
 OP (af false 1 h bA) λaS=>
 OP (dI .u64 aS) λaR=>
 OP (aj .shl aR n1) λbB=>
 OP (aD 1 x5 aX) λbW=>
 OP (af false 1 h bW) λbO=>
 OP (dI .u32 bB) λca=>
 OP (aj .or bO ca) λaV=>
 OP (aD 1 x5 aX) λbz=>
 OH (aU 1 h bz aV) λ_ z1=>
 OP (aj .add aX (.int .i64 (1))) λcA=>
 OP (aj .shr bB (.int .u64 (32))) λaY=>
 OP (dI .u32 aY) λbG=>
 OP (aD 1 x5 cA) λdH=>
 OH (aU 1 z1 dH bG) λ_ z2=>
 OP (aj .add aX (.int .i64 (1))) λdW=>
 ([n1,x5,aC,aP]:List Value)=[n1,x5,aC,aP]/\L1 [dW] z2)
 (ajb P K x5 h)):=aB (by kernel_rfl)
theorem aEk:ajb P K x5 h=
 (K x5 h):=aB (by kernel_rfl)
def Mb:Prop:=
 OP (aT x0) λaE=>
 OP (aj .add aE (.int .i64 (1))) λaG=>
 OH (eM 152 4 [(.int .u32 (0))] h aG aG) λaM z1=>
 OP (aT x0) λaP=>
 bX [(.int .i64 (0))] z1 λL1 xs hx=>
 ajc P K n1 aM x0 aP L1 xs hx
theorem azR:au P F1 (aW [.tmp 4] K) (cg [x0,n1]) h=Mb P K x0 n1 h:=by kernel_rfl
theorem f141 {K:VK} {x0 n1:Value} {h:ae} (H:Mb prog K x0 n1 h):ay prog 141 [x0,n1] h K:=
 cC aCu (cE rfl) ((azR prog K x0 n1 h).mpr H)
end
noncomputable section
variable (u0 v1 n5 x7 x8 x9 aE aC gY gM kA pJ : Value) (L1 : LQ) (xs : List Value) (h : ae)
def aha:=cj prog 142 [[],[],[],[],[0,1,5],[7,8],[],[],[],[],[],[0,1,5,7],[],[],[0,1,5,7,83],[9,10,84],[],[],[],[],[],[],[0,1,5,7,9,10],[],[],[],[],[],[0,1,5,7,132],[13,133],[],[],[],[],[0,5,7,13],[7],[]]
@[irreducible] def F3:=cD aha
@[irreducible] def avk:=F3.r.r.r.r.l.l.l
@[irreducible] def Y7:=F3.r.r.r.r.r
@[irreducible] def N2:=Y7.l
@[irreducible] def avg:=N2.r.l.r.l.l
@[irreducible] def Y4:=N2.r.r
@[irreducible] def F4:=Y4.l
@[irreducible] def avh:=F4.r.l.r.l.r.r.l.r.l.l
@[irreducible] def Y6:=F4.r.l.r.l.r.r.r
@[irreducible] def Y5:=F4.r.r
@[irreducible] def avi:=Y6.l
@[irreducible] def avj:=Y5.l
theorem aCv:aha=some (162,F3,[.tmp 4]):=by kernel_rfl
def uv (_P:Program) (K:VK):ax:=aW [.tmp 4] K
def apS:ax:=aH (au P Y7 (uv P K)) (uv P K)
def apT:ax:=bC 0 (apS P K)
def apU:ax:=aH (λf' aQ=>(([0,1,5]:List Nat).map f':List Value)=[u0,v1,n5]/\L1 (([7,8]:List Nat).map f') aQ) (apT P K)
def apM:ax:=aH (au P Y4 (uv P K)) (uv P K)
def apN:ax:=bC 2 (apM P K)
def apO:ax:=aH (λf' aQ=>(([0,1,5,7,83]:List Nat).map f':List Value)=[u0,v1,n5,x7,gY]/\L1 (([9,10,84]:List Nat).map f') aQ) (apN P K)
def KP:ax:=aH (au P Y5 (uv P K)) (uv P K)
def apP:ax:=aH (au P Y6 (KP P K)) (KP P K)
def apQ:ax:=bC 4 (apP P K)
def apR:ax:=aH (λf' aQ=>(([0,1,5,7,132]:List Nat).map f':List Value)=[u0,v1,n5,x7,kA]/\L1 (([13,133]:List Nat).map f') aQ) (apQ P K)
def ajg:Prop:=aA (au P avk (apU P K u0 v1 n5 L1)) ([0,1,5]++[7,8]) ([u0,v1,n5]++xs) h
def wZ:Prop:=aA (au P N2 (uv P K)) [0,1,5,7] [u0,v1,n5,x7] h
def ajd:Prop:=aA (au P avg (apO P K u0 v1 n5 x7 gY L1)) ([0,1,5,7,83]++[9,10,84]) ([u0,v1,n5,x7,gY]++xs) h
def aje:Prop:=aA (au P F4 (uv P K)) [0,1,5,7,9,10] [u0,v1,n5,x7,x9,aE] h
def Sn:Prop:=aA (au P avh (apR P K u0 v1 n5 x7 kA L1)) ([0,1,5,7,132]++[13,133]) ([u0,v1,n5,x7,kA]++xs) h
def ajf:Prop:=aA (au P avi (KP P K)) [0,5,7,13] [u0,n5,x7,aC] h
def DD:Prop:=aA (au P avj (uv P K)) [7] [x7] h
theorem aEs (u0 v1 n5:Value) (L1:LQ) (x7 x8:Value) (h:ae):ajg P K u0 v1 n5 L1 [x7,x8] h=
 (OP (aj .shr x7 (.int .u64 (32))) λgn=>
 OP (aj .gtr gn (.int .u64 (0))) λfE=>
 bQ fE false
 (OP (aj .sub n5 (.int .i64 (2))) λfg=>
 OP (aD 1 v1 fg) λgw=>
 OP (af false 1 h gw) λfJ=>
 (True)/\
 OP (dI .u64 fJ) λgX=>
 OP (aj .mul x7 gX) λfY=>
 OP (aj .shl x8 (.int .u64 (32))) λiZ=>
 OP (aj .sub n5 (.int .i64 (2))) λiV=>
 OP (aD 1 u0 iV) λhZ=>
 OP (af false 1 h hZ) λkf=>
 (True)/\
 OP (dI .u64 kf) λjA=>
 OP (aj .or iZ jA) λkZ=>
 OP (aj .gtr fY kZ) λgy=>
 OP (bu fE (.bool true) gy) λfA=>
 aJ fA
 (OP (aj .sub x7 (.int .u64 (1))) λdj=>
 OP (aj .sub n5 (.int .i64 (1))) λiW=>
 OP (aD 1 v1 iW) λfF=>
 OP (af false 1 h fF) λiM=>
 OP (dI .u64 iM) λkO=>
 OP (aj .add x8 kO) λie=>
 OP (aj .shr ie (.int .u64 (32))) λjU=>
 OP (aj .gtr jU (.int .u64 (0))) λcJ=>
 aJ cJ
 (wZ P K u0 v1 n5 dj h)
 (([u0,v1,n5]:List Value)=[u0,v1,n5]/\L1 [dj,ie] h))
 (wZ P K u0 v1 n5 x7 h))
 (OP (bu fE (.bool true) undef) λfA=>
 aJ fA
 (OP (aj .sub x7 (.int .u64 (1))) λdj=>
 OP (aj .sub n5 (.int .i64 (1))) λiW=>
 OP (aD 1 v1 iW) λfF=>
 OP (af false 1 h fF) λiM=>
 OP (dI .u64 iM) λkO=>
 OP (aj .add x8 kO) λie=>
 OP (aj .shr ie (.int .u64 (32))) λjU=>
 OP (aj .gtr jU (.int .u64 (0))) λcJ=>
 aJ cJ
 (wZ P K u0 v1 n5 dj h)
 (([u0,v1,n5]:List Value)=[u0,v1,n5]/\L1 [dj,ie] h))
 (wZ P K u0 v1 n5 x7 h))):=aB (by kernel_rfl)
theorem aEn (u0 v1 n5 x7 gY:Value) (L1:LQ) (x9 aE gM:Value) (h:ae):ajd P K u0 v1 n5 x7 gY L1 [x9,aE,gM] h=
 (OP (aj .lss gM gY) λjV=>
 aJ jV
 (OP (aD 1 v1 gM) λkH=>
 OP (af false 1 h kH) λjr=>
 OP (dI .u64 jr) λlO=>
 OP (aj .mul x7 lO) λeE=>
 OP (aj .add eE x9) λfv=>
 OP (aj .shr fv (.int .u64 (32))) λEw=>
 OP (aD 1 u0 gM) λfH=>
 OP (af false 1 h fH) λlM=>
 OP (dI .u32 fv) λBC=>
 ay P 123 [lM,BC,aE] h λkc z1=>
 OP (cW 0 kc) λjT=>
 OP (cW 1 kc) λiT=>
 OP (aD 1 u0 gM) λoU=>
 OH (aU 1 z1 oU jT) λ_ z2=>
 OP (aj .add gM (.int .i64 (1))) λsO=>
 ([u0,v1,n5,x7,gY]:List Value)=[u0,v1,n5,x7,gY]/\L1 [Ew,iT,sO] z2)
 (aje P K u0 v1 n5 x7 x9 aE h)):=aB (by kernel_rfl)
theorem aEp (u0 v1 n5 x7 kA:Value) (L1:LQ) (aC pJ:Value) (h:ae):Sn P K u0 v1 n5 x7 kA L1 [aC,pJ] h=
 (OP (aj .lss pJ kA) λaK0=>
 aJ aK0
 (OP (aD 1 u0 pJ) λqJ=>
 OP (af false 1 h qJ) λmh=>
 (True)/\
 OP (aD 1 v1 pJ) λEe=>
 OP (af false 1 h Ee) λdY=>
 (True)/\
 ay P 122 [mh,dY,aC] h λan6 z1=>
 (True)/\
 OP (cW 0 an6) λBD=>
 OP (cW 1 an6) λVm=>
 OP (aD 1 u0 pJ) λVo=>
 OH (aU 1 z1 Vo BD) λ_ z2=>
 (True)/\
 OP (aj .add pJ (.int .i64 (1))) λvY=>
 ([u0,v1,n5,x7,kA]:List Value)=[u0,v1,n5,x7,kA]/\L1 [Vm,vY] z2)
 (ajf P K u0 n5 x7 aC h)):=aB (by kernel_rfl)
theorem aEq:ajf P K u0 n5 x7 aC h=
 (OP (aD 1 u0 n5) λVq=>
 OP (af false 1 h Vq) λuk=>
 OP (aj .add uk aC) λVr=>
 OP (aD 1 u0 n5) λVs=>
 OH (aU 1 h Vs Vr) λ_ z1=>
 DD P K x7 z1):=aB (by kernel_rfl)
theorem aEr:DD P K x7 h=
 (OP (dI .u32 x7) λVt=>
 K Vt h):=aB (by kernel_rfl)
theorem aEo:aje P K u0 v1 n5 x7 x9 aE h=
 (OP (aD 1 u0 n5) λni=>
 OP (af false 1 h ni) λuj=>
 OP (dI .u32 x9) λvV=>
 ay P 123 [uj,vV,aE] h λnK z1=>
 OP (cW 0 nK) λqG=>
 OP (cW 1 nK) λzQ=>
 OP (aD 1 u0 n5) λoV=>
 OH (aU 1 z1 oV qG) λ_ z2=>
 OP (aj .gtr zQ (.int .u32 (0))) λqH=>
 aJ qH
 (OP (aj .sub x7 (.int .u64 (1))) λhT=>
 OP (aT v1) λkA=>
 bX [(.int .u32 (0)),(.int .i64 (0))] z2 λL1 xs hx=>
 Sn P K u0 v1 n5 hT kA L1 xs hx)
 (DD P K x7 z2)):=aB (by kernel_rfl)
theorem aEm:wZ P K u0 v1 n5 x7 h=
 (OP (aT v1) λgY=>
 bX [(.int .u64 (0)),(.int .u32 (0)),(.int .i64 (0))] h λL1 xs hx=>
 ajd P K u0 v1 n5 x7 gY L1 xs hx):=aB (by kernel_rfl)
def Mc:Prop:=
 OP (aT v1) λaZ=>
 OP (aD 1 u0 aZ) λaS=>
 OP (af false 1 h aS) λaI=>
 (True)/\
 OP (dI .u64 aI) λaR=>
 OP (aj .shl aR (.int .u64 (32))) λbK=>
 OP (aj .sub aZ (.int .i64 (1))) λbH=>
 OP (aD 1 u0 bH) λbW=>
 OP (af false 1 h bW) λbO=>
 (True)/\
 OP (dI .u64 bO) λcL=>
 OP (aj .or bK cL) λca=>
 OP (aj .sub aZ (.int .i64 (1))) λb9=>
 OP (aD 1 v1 b9) λcA=>
 OP (af false 1 h cA) λcB=>
 (True)/\
 OP (dI .u64 cB) λaY=>
 OP (aj .quo ca aY) λbG=>
 OP (aj .sub aZ (.int .i64 (1))) λcU=>
 OP (aD 1 v1 cU) λeg=>
 OP (af false 1 h eg) λcO=>
 (True)/\
 OP (dI .u64 cO) λcP=>
 OP (aj .rem ca cP) λdC=>
 bX [bG,dC] h λL1 xs hx=>
 ajg P K u0 v1 aZ L1 xs hx
theorem azS:au P F3 (aW [.tmp 4] K) (cg [u0,v1]) h=Mc P K u0 v1 h:=by kernel_rfl
theorem f142 {K:VK} {u0 v1:Value} {h:ae} (H:Mc prog K u0 v1 h):ay prog 142 [u0,v1] h K:=
 cC aCv (cE rfl) ((azS prog K u0 v1 h).mpr H)
end
noncomputable section
variable (x0 n1 x5 i6 t7 aM aC : Value) (L1 : LQ) (xs : List Value) (h : ae)
def ahb:=cj prog 143 [[],[],[],[0,1,5,12],[13],[],[],[],[],[],[0,1,5,6,7,12,13],[0,1,5,12,13],[5],[]]
@[irreducible] def F5:=cD ahb
@[irreducible] def N3:=F5.r.r.l.r.l.l
@[irreducible] def Y8:=F5.r.r.r
@[irreducible] def avl:=N3.r.r.l.l.r.r.r.l
@[irreducible] def Y9:=N3.r.r.r
@[irreducible] def avn:=Y8.l
@[irreducible] def avm:=Y9.l
theorem aCw:ahb=some (45,F5,[.tmp 4]):=by kernel_rfl
def KQ (_P:Program) (K:VK):ax:=aW [.tmp 4] K
def apW:ax:=aH (au P Y8 (KQ P K)) (KQ P K)
def apX:ax:=bC 0 (apW P K)
def EO:ax:=aH (λf' aQ=>(([0,1,5,12]:List Nat).map f':List Value)=[x0,n1,x5,aM]/\L1 (([13]:List Nat).map f') aQ) (apX P K)
def apY:ax:=aH (au P Y9 (EO P K x0 n1 x5 aM L1)) (EO P K x0 n1 x5 aM L1)
def apV:ax:=bC 1 (apY P K x0 n1 x5 aM L1)
def ajj:Prop:=aA (au P N3 (EO P K x0 n1 x5 aM L1)) ([0,1,5,12]++[13]) ([x0,n1,x5,aM]++xs) h
def Jl:Prop:=aA (au P avl (apV P K x0 n1 x5 aM L1)) [0,1,5,6,7,12,13] [x0,n1,x5,i6,t7,aM,aC] h
def ajh:Prop:=aA (au P avm (EO P K x0 n1 x5 aM L1)) [0,1,5,12,13] [x0,n1,x5,aM,aC] h
def aji:Prop:=aA (au P avn (KQ P K)) [5] [x5] h
theorem aEt:Jl P K x0 n1 x5 i6 t7 aM aC L1 h=
 (OP (aj .shr t7 n1) λdW=>
 OP (dI .u32 dW) λcI=>
 OP (aD 1 x5 i6) λcU=>
 OH (aU 1 h cU cI) λ_ z1=>
 ajh P K x0 n1 x5 aM aC L1 z1):=aB (by kernel_rfl)
theorem aEu:ajh P K x0 n1 x5 aM aC L1 h=
 (OP (aj .add aC (.int .i64 (1))) λeg=>
 ([x0,n1,x5,aM]:List Value)=[x0,n1,x5,aM]/\L1 [eg] h):=aB (by kernel_rfl)
theorem aEw (x0 n1 x5 aM:Value) (L1:LQ) (aC:Value) (h:ae):ajj P K x0 n1 x5 aM L1 [aC] h=
 (OP (aj .lss aC aM) λaP=>
 aJ aP
 (OP (aD 1 x0 aC) λbA=>
 OP (af false 1 h bA) λaS=>
 OP (dI .u64 aS) λaI=>
 OP (aj .add aC (.int .i64 (1))) λbK=>
 OP (aT x0) λbm=>
 OP (aj .lss bK bm) λbH=>
 aJ bH
 (OP (aj .add aC (.int .i64 (1))) λca=>
 OP (aD 1 x0 ca) λaV=>
 OP (af false 1 h aV) λbz=>
 OP (dI .u64 bz) λdJ=>
 OP (aj .shl dJ (.int .u64 (32))) λb9=>
 OP (aj .or aI b9) λcA=>
 Jl P K x0 n1 x5 aC cA aM aC L1 h)
 (Jl P K x0 n1 x5 aC aI aM aC L1 h))
 (aji P K x5 h)):=aB (by kernel_rfl)
theorem aEv:aji P K x5 h=
 (ay P 83 [x5] h λcP z1=>
 K cP z1):=aB (by kernel_rfl)
def Md:Prop:=
 OP (aT x0) λx9=>
 OH (eM 152 4 [(.int .u32 (0))] h x9 x9) λaE z1=>
 OP (aT x0) λaM=>
 bX [(.int .i64 (0))] z1 λL1 xs hx=>
 ajj P K x0 n1 aE aM L1 xs hx
theorem azT:au P F5 (aW [.tmp 4] K) (cg [x0,n1]) h=Md P K x0 n1 h:=by kernel_rfl
theorem f143 {K:VK} {x0 n1:Value} {h:ae} (H:Md prog K x0 n1 h):ay prog 143 [x0,n1] h K:=
 cC aCw (cE rfl) ((azT prog K x0 n1 h).mpr H)
end
end
section
def dO:Nat:=4294967296^100
theorem RG {n:Nat} (h:n<4294967296^20):n<dO:=Nat.lt_of_lt_of_le h (Nat.pow_le_pow_right (by decide) (by decide))
theorem qc {xs:List Nat} (h:eL 4294967296 xs) (hv:val 4294967296 xs<dO):xs.length<=100:=h.len (by decide) hv
def DS (e:TypeId) (k:IntKind) (h:ae) (v:Value) (xs:List Nat):Prop:=
 (v=.slice none 0 0/\xs=[])∨∃i,v=sl e i 0 xs.length/\(xs=[]∨∃rest,bw h i=some (xs.map (λd:Nat=>Value.int k (d:Int))++rest))
theorem DS.mono {e:TypeId} {k:IntKind} {h h':ae} {v:Value} {xs:List Nat} (x:EX h h') (p:DS e k h v xs):DS e k h' v xs:=
 p.imp id λ⟨i,a,b⟩=>⟨i,a,b.imp id λ⟨r,c⟩=>⟨r,x.cells c⟩⟩
theorem DS.len {e:TypeId} {k:IntKind} {h:ae} {v:Value} {xs:List Nat} (p:DS e k h v xs):aT v=some (I xs.length):=by
 rcases p with ⟨rfl,rfl⟩ | ⟨i,rfl,_⟩ <;> rfl
theorem DS.get {e:TypeId} {k:IntKind} {h:ae} {v:Value} {xs:List Nat} (p:DS e k h v xs) {j:Nat} (hj:j<xs.length):∃i,aD 1 v (I j)=some (pt i j)/\af false 1 h (pt i j)=some (.int k (xs[j]:Int)):=by
 rcases p with ⟨_,rfl⟩ | ⟨i,rfl,hc⟩
 ·simp at hj
 ·obtain ⟨r,hc⟩:=hc.resolve_left (by rintro rfl;simp at hj)
  refine ⟨i,jL hj,?_⟩
  have:(xs.map (λd:Nat=>Value.int k (d:Int))++r)[j]?=some (.int k (xs[j]:Int)):=by rw [List.getElem?_append_left (by simpa using hj)];simp [hj]
  simp [af,hc,dS,this]
theorem DS.nil (e:TypeId) (k:IntKind) (h:ae):DS e k h (.slice none 0 0) []:=.inl ⟨rfl,rfl⟩
theorem DS.one {e:TypeId} {k:IntKind} {h:ae} {v:Value} {xs:List Nat} (p:DS e k h v xs):fV v=true/\dL v=[v]:=by
 rcases p with ⟨rfl,_⟩ | ⟨i,rfl,_⟩ <;> exact ⟨rfl,rfl⟩
theorem DS.pop {e:TypeId} {k:IntKind} {h:ae} {v:Value} {xs:List Nat} (p:DS e k h v xs) {n:Nat} (hn:n<=xs.length):∃v',fP e 1 v none (some (I n))=some v'/\DS e k h v' (xs.take n):=by
 rcases p with ⟨rfl,rfl⟩ | ⟨i,rfl,hc⟩
 ·simp at hn;subst hn
  exact ⟨_,rfl,.inl ⟨rfl,rfl⟩⟩
 ·refine ⟨sl e i 0 n,?_,.inr ⟨i,by rw [length_take,Nat.min_eq_left hn],?_⟩⟩
  ·simp [fP,sl,mE,og,hn]
  ·rcases hc with rfl | ⟨r,hc⟩
   ·left;simp
   ·right
    refine ⟨(xs.drop n).map (λd:Nat=>Value.int k (d:Int))++r,?_⟩
    rw [hc,<-List.append_assoc,<-List.map_append,List.take_append_drop]
def fm (h:ae) (v:Value) (n:Nat):Prop:=∃xs,DS 152 .u32 h v xs/\eL 4294967296 xs/\val 4294967296 xs=n
theorem fm.mono {h h':ae} {v:Value} {n:Nat} (x:EX h h') (p:fm h v n):fm h' v n:=let ⟨xs,a,b,c⟩:=p;⟨xs,a.mono x,b,c⟩
theorem sQ {h:ae} {K:Value->ae->Prop} {v:Value} {xs:List Nat} (p:DS 152 .u32 h v xs) (hl:dF 4294967296 xs) (hs:xs.length<=1000) (hk:∀v',fm h v' (val 4294967296 xs)->K v' h):ay prog 83 [v] h K:=by
 refine f83 ?_
 refine cN (σ:=Value×List Nat) (λp=>[p.1]) (λ_=>h) (λq=>DS 152 .u32 h q.1 q.2/\dF 4294967296 q.2/\val 4294967296 q.2=val 4294967296 xs/\q.2.length<=1000) (λq=>q.2.length) (v,xs) rfl rfl ⟨p,hl,rfl,hs⟩ ?_
 rintro ⟨v,ys⟩ ⟨p,hl,hv,hs⟩ L hL
 simp only at p hl hv hs hL⊢
 rw [aIE]
 have done:eL 4294967296 ys->Ui prog K v h:=by
  intro hc
  rw [aID]
  exact hk v ⟨ys,p,hc,hv⟩
 simp only [p.len,ah,gC]
 by_cases h0:ys.length=0
 ·have:ys=[]:=List.length_eq_zero_iff.1 h0
  rw [bY (show ¬(0:Int)<(ys.length:Int) by omega)]
  simp only [ani,jd,anh,dA,ah,dm]
  exact done (by rw [this];exact eL.nil 4294967296)
 ·rw [dh (show (0:Int)<(ys.length:Int) by omega)]
  have e1:IntKind.wrap .i64 ((ys.length:Int)-1)=((ys.length-1:Nat):Int):=by rw [wrap64 (by omega) (by omega)];omega
  obtain ⟨i,g1,g2⟩:=p.get (j:=ys.length-1) (by omega)
  simp only [ani,gq,p.len,ah,gO,e1,g1,g2,jD,anh,fy,cd]
  refine ⟨λhz=>?_,λhz=>?_⟩
  ·obtain ⟨v',h1,h2⟩:=p.pop (n:=ys.length-1) (by omega)
   simp only [h1,ah,true_and]
   have aBy:ys=ys.take (ys.length-1)++[0]:=by
    have:=List.take_succ_eq_append_getElem (l:=ys) (i:=ys.length-1) (by omega)
    rw [show ys.length-1+1=ys.length by omega,take_length] at this
    have yW:ys[ys.length-1]=0:=by omega
    rw [yW] at this
    exact this
   refine hL (v',ys.take (ys.length-1)) ⟨h2,hl.mono λy hy=>List.mem_of_mem_take hy,?_,by rw [length_take];omega⟩ (by simp;omega)
   rw [<-hv]
   conv=>rhs;rw [aBy]
   rw [oT]
   simp [val]
  ·exact done (Hg hl λh1 hc=>hz (by rw [hc];rfl))
/-- Fresh digits at the end of the heap. -/
abbrev hd (h:ae) (os:List Nat):ae:=h++[.arr 152 (os.map λd:Nat=>Value.int .u32 (d:Int))]
theorem zo {h:ae} {n:Nat} (hn:n<=1000):eM 152 4 [.int .u32 0] h (I n) (I n)=some (sl 152 h.length 0 n,hd h (replicate n 0)):=by
 have hz:∀m,bE [Value.int .u32 0] m=(replicate m 0).map λd:Nat=>Value.int .u32 (d:Int):=by
  intro m
  induction m with
  | zero=>rfl
  | succ m ih=>
   have:bE [Value.int .u32 0] (m+1)=Value.int .u32 0::bE [Value.int .u32 0] m:=by simp [bE,List.replicate_succ]
   rw [this,ih,List.replicate_succ];rfl
 simp only [eM]
 rw [if_pos ⟨by omega,by omega,by omega,by omega⟩,Int.toNat_natCast,hz]
theorem P3 (h:ae) (os:List Nat):(hd h os)[h.length]?=some (.arr 152 (os.map λd:Nat=>Value.int .u32 (d:Int))):=by simp [hd]
theorem uU {h:ae} {os:List Nat} {j:Nat} (d:Nat) (hj:j<os.length):aU 1 (hd h os) (pt h.length j) (.int .u32 (d:Int))=some (undef,hd h (os.set j d)):=by
 rw [kz (P3 h os) (by simpa using hj) rfl rfl]
 simp [hd,List.map_set]
theorem aew {h:ae} {os:List Nat} {j:Nat} (hj:j<os.length):af false 1 (hd h os) (pt h.length j)=some (.int .u32 (os[j]:Int)):=by
 simp [af,bw,dS,hj]
theorem yA (h:ae) (os:List Nat):DS 152 .u32 (hd h os) (sl 152 h.length 0 os.length) os:=.inr ⟨h.length,rfl,.inr ⟨[],by simp [bw,hd]⟩⟩
theorem lE (h:ae) (os:List Nat):EX h (hd h os):=EX.append _ _
theorem lL {n:Int} (h1:0<=n) (h2:n<18446744073709551616):IntKind.wrap .u64 n=n:=by
 have e:IntKind.wrap .u64 n=n%18446744073709551616:=by simp [IntKind.wrap,IntKind.bits,IntKind.signed]
 rw [e];omega
theorem xq (n:Int):IntKind.wrap .u32 n=n%4294967296:=by simp [IntKind.wrap,IntKind.bits,IntKind.signed]
theorem rM {n:Int} (h1:0<=n) (h2:n<4294967296):IntKind.wrap .u32 n=n:=by rw [xq];omega
theorem zI (s:Nat):aj .shr (.int .u64 (s:Int)) (.int .u64 32)=some (.int .u64 ((s / 4294967296:Nat):Int)):=by
 simp only [aj,rB]
 rw [if_neg (by omega)]
 have:(min (32:Int).toNat IntKind.u64.bits)=32:=rfl
 rw [this]
 have e2:(2:Int)^32=4294967296:=by decide
 rw [e2,Int.fdiv_eq_ediv_of_nonneg _ (by omega)]
 congr 2
theorem VR {x y c:Nat} {h:ae} {K:Value->ae->Prop} (hx:x<4294967296) (hy:y<4294967296) (hc:c<=1) (hk:K (.tuple #[.int .u32 (((x+y+c)%4294967296:Nat):Int),.int .u32 (((x+y+c) / 4294967296:Nat):Int)]) h):
  ay prog 122 [.int .u32 (x:Int),.int .u32 (y:Int),.int .u32 (c:Int)] h K:=by
 refine f122 ?_
 have e1:IntKind.wrap .u64 ((x:Int)+(y:Int))=((x+y:Nat):Int):=by rw [lL (by omega) (by omega)];omega
 have e2:IntKind.wrap .u64 (((x+y:Nat):Int)+(c:Int))=((x+y+c:Nat):Int):=by rw [lL (by omega) (by omega)];omega
 have e3:IntKind.wrap .u32 ((x+y+c:Nat):Int)=(((x+y+c)%4294967296:Nat):Int):=by rw [xq];omega
 simp only [LW,nV,ah,bZ]
 rw [lL (n:=(x:Int)) (by omega) (by omega),lL (n:=(y:Int)) (by omega) (by omega),e1,lL (n:=(c:Int)) (by omega) (by omega),e2]
 simp only [zI,ah,nV,e3]
 rw [rM (by omega) (by omega)]
 exact hk
theorem Wm {va vb:Value} {xs ys:List Nat} {h:ae} {K:Value->ae->Prop} (hx:DS 152 .u32 h va xs) (hy:DS 152 .u32 h vb ys) (lx:dF 4294967296 xs) (ly:dF 4294967296 ys) (hle:ys.length<=xs.length) (hlen:xs.length<=200)
  (hk:∀v h',EX h h'->fm h' v (val 4294967296 xs+val 4294967296 ys)->K v h'):JD prog K va vb h:=by
 rw [aIJ]
 simp only [hx.len,ah,bZ,inc xs.length (by omega),zo (show xs.length+1<=1000 by omega),aL]
 have hW:0<4294967296:=by decide
 refine cN (σ:=Nat×Nat×List Nat) (λp=>[.int .u32 (p.1:Int),I p.2.1]) (λp=>hd h p.2.2)
  (λp=>p.2.1<=xs.length/\p.1<=1/\p.2.2.length=xs.length+1/\dF 4294967296 p.2.2/\(∀j (hj:j<p.2.2.length),p.2.1<=j->p.2.2[j]=0)/\val 4294967296 p.2.2+4294967296^p.2.1*p.1=val 4294967296 (xs.take p.2.1)+val 4294967296 (ys.take p.2.1)) (λp=>xs.length-p.2.1)
  (0,0,replicate (xs.length+1) 0) rfl rfl ⟨by simp,by simp,by simp,dF.we hW _,by simp,by simp [xo,val]⟩ ?_
 rintro ⟨c,i,os⟩ ⟨hi,hc,ju,gF,hz,dD⟩ L hL
 simp only at hi hc ju gF hz dD hL⊢
 rw [aIF]
 have dN:=hx.mono (lE h os)
 have vz:=hy.mono (lE h os)
 simp only [bT,ah,cd]
 refine ⟨λaw=>?_,λcK=>?_⟩
 ·have gV:i<xs.length:=by omega
  obtain ⟨ia,a1,a2⟩:=dN.get gV
  have iI:xs[i]<4294967296:=lx _ (getElem_mem gV)
  have go:∀y:Nat,y<4294967296->val 4294967296 (ys.take (i+1))=val 4294967296 (ys.take i)+4294967296^i*y->JC prog K va vb (sl 152 h.length 0 (xs.length+1)) (.int .u32 (c:Int)) (I i) (.int .u32 (y:Int)) (I xs.length) (I i) L (hd h os):=by
   intro y kS yV
   rw [aIG]
   simp only [a1,ah,a2]
   refine VR iI kS hc ?_
   simp only [fM,gi,gj,ah,jL (show i<xs.length+1 by omega)]
   rw [uU _ (by omega)]
   simp only [aL,aIH,bZ,ah,inc i (by omega),true_and]
   have py:(xs[i]+y+c)%4294967296<4294967296:=mod_lt _ hW
   have uV:(xs[i]+y+c) / 4294967296<=1:=by omega
   refine hL ((xs[i]+y+c) / 4294967296,i+1,os.set i ((xs[i]+y+c)%4294967296)) ⟨by show i+1<=xs.length;omega,uV,by show (os.set i _).length=_;rw [length_set];exact ju,gF.set py i,?_,?_⟩ (by show xs.length-(i+1)<xs.length-i;omega)
   ·intro j hj gE
    show (os.set i _)[j]=0
    have Qc:i≠j:=by have:i+1<=j:=gE;omega
    rw [getElem_set_ne Qc]
    exact hz j (by simpa using hj) (by have:i+1<=j:=gE;omega)
   ·show val 4294967296 (os.set i _)+4294967296^(i+1)*_=val 4294967296 (xs.take (i+1))+val 4294967296 (ys.take (i+1))
    have h1:=sM 4294967296 os i ((xs[i]+y+c)%4294967296) (by omega)
    rw [hz i (by omega) (le_refl _)] at h1
    rw [jS 4294967296 xs gV,yV,pow_succ]
    have h2:=Nat.mod_add_div (xs[i]+y+c) 4294967296
    generalize (xs[i]+y+c)%4294967296=m at*
    generalize (xs[i]+y+c) / 4294967296=q at*
    generalize 4294967296^i=P at*
    generalize hWW:4294967296=w at*
    grind
  simp only [vz.len,ah,bT,cd]
  refine ⟨λhly=>?_,λhgy=>?_⟩
  ·have yI:i<ys.length:=by omega
   obtain ⟨ib,b1,b2⟩:=vz.get yI
   simp only [b1,ah,b2]
   exact go _ (ly _ (getElem_mem yI)) (jS 4294967296 ys yI)
  ·have:=go 0 (by decide) (by rw [take_of_length_le (by omega),take_of_length_le (by omega)];simp)
   simpa using this
 ·have:i=xs.length:=by omega
  subst this
  rw [aII]
  simp only [dN.len,ah,jL (show xs.length<xs.length+1 by omega)]
  rw [uU _ (by omega)]
  simp only [aL]
  have h1:=sM 4294967296 os xs.length c (by omega)
  rw [hz xs.length (by omega) (le_refl _)] at h1
  have hv:val 4294967296 (os.set xs.length c)=val 4294967296 xs+val 4294967296 ys:=by
   rw [take_length,take_of_length_le hle] at dD
   omega
  have hcW:c<4294967296:=Nat.lt_of_le_of_lt hc (by decide)
  have e:sl 152 h.length 0 (xs.length+1)=sl 152 h.length 0 (os.set xs.length c).length:=by rw [length_set,ju]
  rw [e]
  refine sQ (yA h _) (gF.set hcW _) (by rw [length_set];omega) ?_
  intro v' hm
  rw [hv] at hm
  exact hk v' _ (lE h _) hm
theorem C85 {va vb:Value} {a b:Nat} {h:ae} {K:Value->ae->Prop} (ha:fm h va a) (hb:fm h vb b) (la:a<dO) (lb:b<dO) (hk:∀v h',EX h h'->fm h' v (a+b)->K v h'):ay prog 85 [va,vb] h K:=by
 obtain ⟨xs,dx,cx,rfl⟩:=ha
 obtain ⟨ys,dy,cy,rfl⟩:=hb
 have l1:=qc cx la
 have l2:=qc cy lb
 refine f85 ?_
 simp only [Np,dx.len,dy.len,ah,bT,cd]
 refine ⟨λaw=>?_,λcK=>?_⟩
 ·refine Wm dy dx cy.1 cx.1 (by omega) (by omega) ?_
  rw [Nat.add_comm (val 4294967296 ys)]
  exact hk
 ·exact Wm dx dy cx.1 cy.1 (by omega) (by omega) hk
end
section
theorem xV (X:BitVec 32):BitVec.ofInt IntKind.u32.bits (X.toNat:Int)=X:=by
 show BitVec.ofInt 32 (X.toNat:Int)=X
 rw [BitVec.ofInt_natCast,BitVec.ofNat_toNat,BitVec.setWidth_eq]
theorem B2 (X:BitVec 32):X.toNat<4294967296:=X.isLt
theorem aue (X Y:BitVec 32):aj .and (.int .u32 (X.toNat:Int)) (.int .u32 (Y.toNat:Int))=some (.int .u32 ((X &&& Y).toNat:Int)):=by
 have h:=B2 (X &&& Y)
 have e:(BitVec.ofInt IntKind.u32.bits (X.toNat:Int) &&& BitVec.ofInt IntKind.u32.bits (Y.toNat:Int)).toNat=(X &&& Y).toNat:=by rw [xV,xV];rfl
 simp only [aj,jw,if_true]
 rw [e,rM (by omega) (by omega)]
theorem aDn (X Y:BitVec 32):aj .or (.int .u32 (X.toNat:Int)) (.int .u32 (Y.toNat:Int))=some (.int .u32 ((X ||| Y).toNat:Int)):=by
 have h:=B2 (X ||| Y)
 have e:(BitVec.ofInt IntKind.u32.bits (X.toNat:Int) ||| BitVec.ofInt IntKind.u32.bits (Y.toNat:Int)).toNat=(X ||| Y).toNat:=by rw [xV,xV];rfl
 simp only [aj,jw,if_true]
 rw [e,rM (by omega) (by omega)]
theorem aMd (X Y:BitVec 32):aj .xor (.int .u32 (X.toNat:Int)) (.int .u32 (Y.toNat:Int))=some (.int .u32 ((X^^^Y).toNat:Int)):=by
 have h:=B2 (X^^^Y)
 have e:(BitVec.ofInt IntKind.u32.bits (X.toNat:Int)^^^BitVec.ofInt IntKind.u32.bits (Y.toNat:Int)).toNat=(X^^^Y).toNat:=by rw [xV,xV];rfl
 simp only [aj,jw,if_true]
 rw [e,rM (by omega) (by omega)]
theorem aDg (X:BitVec 32):gG .xor (.int .u32 (X.toNat:Int))=some (.int .u32 ((~~~X).toNat:Int)):=by
 have h:=B2 (~~~X)
 have e:(BitVec.ofInt IntKind.u32.bits (if IntKind.u32.signed=true then -1 else IntKind.u32.max)^^^BitVec.ofInt IntKind.u32.bits (X.toNat:Int)).toNat=(~~~X).toNat:=by
  rw [xV]
  show (BitVec.ofInt 32 4294967295^^^X).toNat=_
  rw [show BitVec.ofInt 32 4294967295=BitVec.allOnes 32 from by decide,BitVec.allOnes_xor]
 simp only [gG]
 rw [e,rM (by omega) (by omega)]
theorem aKH (Z:BitVec 32):aj .shr (.int .u32 (Z.toNat:Int)) (.int .u64 31)=some (.int .u32 ((if Z.msb then 1 else 0:Nat):Int)):=by
 have h:=B2 Z
 simp only [aj,rB]
 rw [if_neg (by omega)]
 have:(min (31:Int).toNat IntKind.u32.bits)=31:=rfl
 rw [this]
 have e2:(2:Int)^31=2147483648:=by decide
 rw [e2,Int.fdiv_eq_ediv_of_nonneg _ (by omega),BitVec.msb_eq_decide]
 congr 2
 by_cases hz:2^31<=Z.toNat
 ·simp [hz];omega
 ·simp [hz];omega
theorem VS {x y b:Nat} {h:ae} {K:Value->ae->Prop} (hx:x<4294967296) (hy:y<4294967296) (hb:b<=1) (hk:K (.tuple #[.int .u32 (((x+4294967296+4294967296-y-b)%4294967296:Nat):Int),.int .u32 ((if x<y+b then 1 else 0:Nat):Int)]) h):
  ay prog 123 [.int .u32 (x:Int),.int .u32 (y:Int),.int .u32 (b:Int)] h K:=by
 refine f123 ?_
 obtain ⟨X,rfl⟩:∃X:BitVec 32,x=X.toNat:=⟨BitVec.ofNat 32 x,by rw [BitVec.toNat_ofNat];exact (mod_eq_of_lt hx).symm⟩
 obtain ⟨Y,rfl⟩:∃Y:BitVec 32,y=Y.toNat:=⟨BitVec.ofNat 32 y,by rw [BitVec.toNat_ofNat];exact (mod_eq_of_lt hy).symm⟩
 obtain ⟨D,hD⟩:∃D:BitVec 32,D.toNat=(X.toNat+4294967296+4294967296-Y.toNat-b)%4294967296:=⟨BitVec.ofNat 32 _,by rw [BitVec.toNat_ofNat]⟩
 have e1:IntKind.wrap .u32 (IntKind.wrap .u32 ((X.toNat:Int)-(Y.toNat:Int))-(b:Int))=(D.toNat:Int):=by
  rw [xq,xq,hD];omega
 simp only [LX,gO,ah,e1,aDg,aue,aMd,aDn,aKH]
 rw [<-hD] at hk
 have e2:(if (~~~X &&& Y ||| ~~~(X^^^Y) &&& D).msb then 1 else 0:Nat)=if X.toNat<Y.toNat+b then 1 else 0:=by
  rw [BitVec.msb_or,BitVec.msb_and,BitVec.msb_and,BitVec.msb_not,BitVec.msb_not,BitVec.msb_xor,BitVec.msb_eq_decide X,BitVec.msb_eq_decide Y,BitVec.msb_eq_decide D]
  by_cases c1:2^(32-1)<=X.toNat <;> by_cases c2:2^(32-1)<=Y.toNat <;> by_cases c3:2^(32-1)<=D.toNat <;> simp [c1,c2,c3] <;> omega
 rw [e2]
 exact hk
theorem Wn {va vb:Value} {a b:Nat} {h:ae} {K:Value->ae->Prop} (ha:fm h va a) (hb:fm h vb b) (la:a<dO) (gT:b<=a) (hk:∀v h',EX h h'->fm h' v (a-b)->K v h'):ay prog 87 [va,vb] h K:=by
 obtain ⟨xs,hx,cx,rfl⟩:=ha
 obtain ⟨ys,hy,cy,rfl⟩:=hb
 have l1:=qc cx la
 have l2:=qc cy (Nat.lt_of_le_of_lt gT la)
 have hle:ys.length<=xs.length:=by
  apply byContradiction
  intro hc
  have:=eL.zm (by decide) cx cy (by omega)
  omega
 refine f87 ?_
 simp only [Nr,hx.len,ah,zo (show xs.length<=1000 by omega),aL]
 have hW:(0:Nat)<4294967296:=by decide
 refine cN (σ:=Nat×Nat×List Nat) (λp=>[.int .u32 (p.1:Int),I p.2.1]) (λp=>hd h p.2.2)
  (λp=>p.2.1<=xs.length/\p.1<=1/\p.2.2.length=xs.length/\dF 4294967296 p.2.2/\(∀j (hj:j<p.2.2.length),p.2.1<=j->p.2.2[j]=0)/\val 4294967296 p.2.2+val 4294967296 (ys.take p.2.1)=val 4294967296 (xs.take p.2.1)+4294967296^p.2.1*p.1) (λp=>xs.length-p.2.1)
  (0,0,replicate xs.length 0) rfl rfl ⟨by simp,by simp,by simp,dF.we hW _,by simp,by simp [xo,val]⟩ ?_
 rintro ⟨c,i,os⟩ ⟨hi,hc,ju,gF,hz,dD⟩ L hL
 simp only at hi hc ju gF hz dD hL⊢
 rw [aIO]
 have dN:=hx.mono (lE h os)
 have vz:=hy.mono (lE h os)
 simp only [bT,ah,cd]
 refine ⟨λaw=>?_,λcK=>?_⟩
 ·have gV:i<xs.length:=by omega
  obtain ⟨ia,a1,a2⟩:=dN.get gV
  have iI:xs[i]<4294967296:=cx.1 _ (getElem_mem gV)
  have go:∀y:Nat,y<4294967296->val 4294967296 (ys.take (i+1))=val 4294967296 (ys.take i)+4294967296^i*y->JE prog K va vb (sl 152 h.length 0 xs.length) (.int .u32 (c:Int)) (I i) (.int .u32 (y:Int)) (I xs.length) (I i) L (hd h os):=by
   intro y kS yV
   rw [aIL]
   simp only [a1,ah,a2]
   refine VS iI kS hc ?_
   simp only [fM,gi,gj,ah,jL gV]
   rw [uU _ (by omega)]
   simp only [aL,aIM,bZ,ah,inc i (by omega),true_and]
   have py:(xs[i]+4294967296+4294967296-y-c)%4294967296<4294967296:=mod_lt _ hW
   have pO:(if xs[i]<y+c then 1 else 0)<=1:=by split <;> omega
   have hs:(xs[i]+4294967296+4294967296-y-c)%4294967296+y+c=xs[i]+4294967296*(if xs[i]<y+c then 1 else 0):=by
    split <;> omega
   refine hL ((if xs[i]<y+c then 1 else 0),i+1,os.set i ((xs[i]+4294967296+4294967296-y-c)%4294967296)) ⟨by show i+1<=xs.length;omega,pO,by show (os.set i _).length=_;rw [length_set];exact ju,gF.set py i,?_,?_⟩ (by show xs.length-(i+1)<xs.length-i;omega)
   ·intro j hj gE
    show (os.set i _)[j]=0
    have Qc:i≠j:=by have:i+1<=j:=gE;omega
    rw [getElem_set_ne Qc]
    exact hz j (by simpa using hj) (by have:i+1<=j:=gE;omega)
   ·show val 4294967296 (os.set i _)+val 4294967296 (ys.take (i+1))=val 4294967296 (xs.take (i+1))+4294967296^(i+1)*_
    have h1:=sM 4294967296 os i ((xs[i]+4294967296+4294967296-y-c)%4294967296) (by omega)
    rw [hz i (by omega) (le_refl _)] at h1
    rw [jS 4294967296 xs gV,yV,pow_succ]
    generalize (xs[i]+4294967296+4294967296-y-c)%4294967296=m at*
    generalize (if xs[i]<y+c then 1 else 0)=q at*
    generalize 4294967296^i=P at*
    generalize (4294967296:Nat)=w at*
    grind
  simp only [vz.len,ah,bT,cd]
  refine ⟨λhly=>?_,λhgy=>?_⟩
  ·have yI:i<ys.length:=by omega
   obtain ⟨ib,b1,b2⟩:=vz.get yI
   simp only [b1,ah,b2]
   exact go _ (cy.1 _ (getElem_mem yI)) (jS 4294967296 ys yI)
  ·have:=go 0 (by decide) (by rw [take_of_length_le (by omega),take_of_length_le (by omega)];simp)
   simpa using this
 ·have:i=xs.length:=by omega
  subst this
  rw [aIN]
  rw [take_length,take_of_length_le hle] at dD
  have aw:=nJ gF
  rw [ju] at aw
  have yv:c=0:=by
   apply byContradiction
   intro b7
   have:c=1:=by omega
   subst this
   omega
  subst yv
  have hv:val 4294967296 os=val 4294967296 xs-val 4294967296 ys:=by omega
  have e:sl 152 h.length 0 xs.length=sl 152 h.length 0 os.length:=by rw [ju]
  rw [e]
  refine sQ (yA h _) gF (by omega) ?_
  intro v' hm
  rw [hv] at hm
  exact hk v' _ (lE h _) hm
def oS (a b:Nat):Int:=if a<b then -1 else if b<a then 1 else 0
theorem Kk {B:Nat} {xs ys:List Nat} (lx:dF B xs) (_:dF B ys) (hl:xs.length=ys.length) {i:Nat} (hi:i<xs.length) (hd:xs.drop (i+1)=ys.drop (i+1)) (h:xs[i]<ys[i]'(by omega)):val B xs<val B ys:=by
 have e1:xs=xs.take i++xs[i]::xs.drop (i+1):=by rw [<-drop_eq_getElem_cons hi,List.take_append_drop]
 have e2:ys=ys.take i++ys[i]'(by omega)::ys.drop (i+1):=by rw [<-drop_eq_getElem_cons (by omega),List.take_append_drop]
 have v1:val B xs=val B (xs.take i)+B^i*(xs[i]+B*val B (xs.drop (i+1))):=by
  conv=>lhs;rw [e1]
  rw [oT,length_take,Nat.min_eq_left (by omega)];rfl
 have v2:val B ys=val B (ys.take i)+B^i*(ys[i]'(by omega)+B*val B (ys.drop (i+1))):=by
  conv=>lhs;rw [e2]
  rw [oT,length_take,Nat.min_eq_left (by omega)];rfl
 rw [v1,v2,hd]
 have h1:=nJ (lx.mono (ys:=xs.take i) λy hy=>List.mem_of_mem_take hy)
 rw [length_take,Nat.min_eq_left (by omega)] at h1
 have h2:B^i*(xs[i]+1+B*val B (ys.drop (i+1)))<=B^i*(ys[i]'(by omega)+B*val B (ys.drop (i+1))):=Nat.mul_le_mul_left _ (by omega)
 generalize B^i=P at*
 generalize B*val B (ys.drop (i+1))=Q at*
 generalize val B (xs.take i)=u at*
 generalize val B (ys.take i)=v at*
 have h3:P*(xs[i]+1+Q)=P*(xs[i]+Q)+P:=by grind
 omega
theorem KA {va vb:Value} {a b:Nat} {h:ae} {K:Value->ae->Prop} (ha:fm h va a) (hb:fm h vb b) (la:a<dO) (lb:b<dO) (hk:K (I (oS a b)) h):ay prog 86 [va,vb] h K:=by
 obtain ⟨xs,hx,cx,rfl⟩:=ha
 obtain ⟨ys,hy,cy,rfl⟩:=hb
 have l1:=qc cx la
 have l2:=qc cy lb
 have less:val 4294967296 xs<val 4294967296 ys->K (.int .i64 (-1)) h:=λh1=>by unfold oS at hk;rw [if_pos h1] at hk;exact hk
 have more:val 4294967296 ys<val 4294967296 xs->K (.int .i64 1) h:=λh1=>by unfold oS at hk;rw [if_neg (by omega),if_pos h1] at hk;exact hk
 have same:val 4294967296 xs=val 4294967296 ys->K (.int .i64 0) h:=λh1=>by unfold oS at hk;rw [if_neg (by omega),if_neg (by omega)] at hk;exact hk
 refine f86 ?_
 simp only [Nq,hx.len,hy.len,ah,iE,BL,bT,cd]
 refine ⟨λb7=>⟨λaw=>less (eL.zm (by decide) cx cy (by omega)),λcK=>more (eL.zm (by decide) cy cx (by omega))⟩,λhe=>?_⟩
 have qg:xs.length=ys.length:=by omega
 simp only [gO,ah]
 have e1:IntKind.wrap .i64 ((xs.length:Int)-1)=(xs.length:Int)-1:=by rw [wrap64 (by omega) (by omega)]
 rw [e1]
 refine cN (σ:=Nat) (λi=>[I ((i:Int)-1)]) (λ_=>h) (λi=>i<=xs.length/\xs.drop i=ys.drop i) (λi=>i) xs.length rfl rfl ⟨le_refl _,by rw [List.drop_length,qg,List.drop_length]⟩ ?_
 rintro i ⟨hi,rY⟩ L hL
 rw [aIK]
 simp only [om,ah,cd]
 refine ⟨λcK=>?_,λaw=>?_⟩
 ·obtain ⟨j,rfl⟩:∃j,i=j+1:=⟨i-1,by omega⟩
  have ej:(((j+1:Nat):Int)-1)=(j:Int):=by omega
  rw [ej]
  obtain ⟨ia,a1,a2⟩:=hx.get (j:=j) (by omega)
  obtain ⟨ib,b1,b2⟩:=hy.get (j:=j) (by omega)
  simp only [a1,a2,b1,b2,ah,true_and,iE,BL,bT,cd]
  refine ⟨λb7=>⟨λaw=>less (Kk cx.1 cy.1 qg (i:=j) (by omega) rY (by omega)),λcK=>more (Kk cy.1 cx.1 qg.symm (i:=j) (by omega) rY.symm (by omega))⟩,λheq=>?_⟩
  simp only [gO,ah]
  rw [wrap64 (by omega) (by omega)]
  refine hL j ⟨by omega,?_⟩ (by omega)
  rw [drop_eq_getElem_cons (by omega),drop_eq_getElem_cons (show j<ys.length by omega),rY]
  congr 1
  omega
 ·have:i=0:=by omega
  subst this
  rw [drop_zero,drop_zero] at rY
  exact same (by rw [rY])
end
section
theorem I2 {x y:Nat} (hx:x<4294967296) (hy:y<4294967296):x*y<=18446744065119617025:=by
 have:=Nat.mul_le_mul (show x<=4294967295 by omega) (show y<=4294967295 by omega)
 omega
theorem C91 {va vb:Value} {a b:Nat} {h:ae} {K:Value->ae->Prop} (ha:fm h va a) (hb:fm h vb b) (la:a<dO) (lb:b<dO) (hk:∀v h',EX h h'->fm h' v (a*b)->K v h'):ay prog 91 [va,vb] h K:=by
 obtain ⟨xs,hx,cx,rfl⟩:=ha
 obtain ⟨ys,hy,cy,rfl⟩:=hb
 have l1:=qc cx la
 have l2:=qc cy lb
 have hW:(0:Nat)<4294967296:=by decide
 refine f91 ?_
 have e0:IntKind.wrap .i64 ((xs.length:Int)+(ys.length:Int))=((xs.length+ys.length:Nat):Int):=by rw [wrap64 (by omega) (by omega)];omega
 simp only [Nv,hx.len,hy.len,ah,bZ,e0,zo (show xs.length+ys.length<=1000 by omega),aL]
 refine cN (σ:=Nat×List Nat) (λp=>[I p.1]) (λp=>hd h p.2)
  (λp=>p.1<=xs.length/\p.2.length=xs.length+ys.length/\dF 4294967296 p.2/\(∀j (hj:j<p.2.length),p.1+ys.length<=j->p.2[j]=0)/\val 4294967296 p.2=val 4294967296 (xs.take p.1)*val 4294967296 ys) (λp=>xs.length-p.1)
  (0,replicate (xs.length+ys.length) 0) rfl rfl ⟨by simp,by simp,dF.we hW _,by simp,by simp [xo,val]⟩ ?_
 rintro ⟨i,os⟩ ⟨hi,ju,gF,hz,dD⟩ L hL
 simp only at hi ju gF hz dD hL⊢
 rw [aIY]
 have dN:=hx.mono (lE h os)
 simp only [bT,ah,cd]
 refine ⟨λaw=>?_,λcK=>?_⟩
 ·have gV:i<xs.length:=by omega
  obtain ⟨ia,a1,a2⟩:=dN.get gV
  have iI:xs[i]<4294967296:=cx.1 _ (getElem_mem gV)
  simp only [a1,ah,a2,(hy.mono (lE h os)).len]
  have tO:=jS 4294967296 xs gV
  generalize xs[i]=x at iI tO
  refine cN (σ:=Nat×Nat×List Nat) (λp=>[.int .u64 (p.1:Int),I p.2.1]) (λp=>hd h p.2.2)
   (λp=>p.2.1<=ys.length/\p.1<4294967296/\p.2.2.length=xs.length+ys.length/\dF 4294967296 p.2.2/\(∀j (hj:j<p.2.2.length),i+ys.length<=j->p.2.2[j]=0)/\val 4294967296 p.2.2+4294967296^(i+p.2.1)*p.1=val 4294967296 os+4294967296^i*(x*val 4294967296 (ys.take p.2.1))) (λp=>ys.length-p.2.1)
   (0,0,os) rfl rfl ⟨by simp,hW,ju,gF,hz,by simp [val]⟩ ?_
  rintro ⟨c,j,ps⟩ ⟨hj,hc,oD,vh,wR,wQ⟩ L2 dP
  simp only at hj hc oD vh wR wQ dP⊢
  rw [aIU]
  have vz:=hy.mono (lE h ps)
  simp only [bT,ah,cd]
  refine ⟨λdM=>?_,λaeF=>?_⟩
  ·have mC:j<ys.length:=by omega
   obtain ⟨ib,b1,b2⟩:=vz.get mC
   have kS:ys[j]<4294967296:=cy.1 _ (getElem_mem mC)
   have hyt:=jS 4294967296 ys mC
   generalize ys[j]=y at b2 kS hyt
   have pT:i+j<ps.length:=by omega
   have aBd:ps[i+j]<4294967296:=vh _ (getElem_mem pT)
   have Di:=I2 iI kS
   have nG:=sM 4294967296 ps (i+j) ((x*y+ps[i+j]+c)%4294967296) pT
   have ei:IntKind.wrap .i64 ((i:Int)+(j:Int))=((i+j:Nat):Int):=by rw [wrap64 (by omega) (by omega)];omega
   have Pa:((x:Int)*(y:Int))=((x*y:Nat):Int):=by simp
   simp only [b1,ah,b2,nV]
   rw [lL (n:=(x:Int)) (by omega) (by omega),lL (n:=(y:Int)) (by omega) (by omega)]
   simp only [xU,ah,Pa,bZ,ei]
   rw [lL (n:=((x*y:Nat):Int)) (by omega) (by omega)]
   rw [jL (show i+j<xs.length+ys.length by omega)]
   simp only [ah,aew pT,nV]
   rw [lL (n:=(ps[i+j]:Int)) (by omega) (by omega)]
   have e1:IntKind.wrap .u64 (((x*y:Nat):Int)+(ps[i+j]:Int))=((x*y+ps[i+j]:Nat):Int):=by rw [lL (by omega) (by omega)];omega
   have e2:IntKind.wrap .u64 (((x*y+ps[i+j]:Nat):Int)+(c:Int))=((x*y+ps[i+j]+c:Nat):Int):=by rw [lL (by omega) (by omega)];omega
   have e3:IntKind.wrap .u32 ((x*y+ps[i+j]+c:Nat):Int)=(((x*y+ps[i+j]+c)%4294967296:Nat):Int):=by rw [xq];omega
   simp only [bZ,ah,e1,e2,nV,e3,zI]
   rw [uU _ pT]
   simp only [aL,inc j (by omega),true_and]
   have py:(x*y+ps[i+j]+c)%4294967296<4294967296:=mod_lt _ hW
   have mB:=Nat.mod_add_div (x*y+ps[i+j]+c) 4294967296
   have uV:(x*y+ps[i+j]+c) / 4294967296<4294967296:=by omega
   refine dP ((x*y+ps[i+j]+c) / 4294967296,j+1,ps.set (i+j) ((x*y+ps[i+j]+c)%4294967296)) ⟨by show j+1<=ys.length;omega,uV,by show (ps.set _ _).length=_;rw [length_set];exact oD,vh.set py _,?_,?_⟩ (by show ys.length-(j+1)<ys.length-j;omega)
   ·intro k qV AR
    show (ps.set (i+j) _)[k]=0
    have b7:i+j≠k:=by omega
    rw [getElem_set_ne b7]
    exact wR k (by simpa using qV) AR
   ·show val 4294967296 (ps.set (i+j) _)+4294967296^(i+(j+1))*_=val 4294967296 os+4294967296^i*(x*val 4294967296 (ys.take (j+1)))
    rw [hyt,<-Nat.add_assoc,pow_succ]
    rw [Nat.pow_add] at nG wQ⊢
    generalize ps[i+j]=o at*
    generalize (x*y+o+c)%4294967296=m at*
    generalize (x*y+o+c) / 4294967296=q at*
    generalize val 4294967296 (ys.take j)=v at*
    generalize val 4294967296 (ps.set (i+j) m)=s1 at*
    generalize val 4294967296 ps=s0 at*
    generalize val 4294967296 os=s2 at*
    generalize 4294967296^i=P at*
    generalize 4294967296^j=Q at*
    generalize (4294967296:Nat)=w at*
    clear dP hL hx hy dN vz b1 b2
    have h1:P*Q*(m+w*q)=P*Q*(x*y+o+c):=by rw [mB]
    grind
  ·have:j=ys.length:=by omega
   subst this
   rw [aIV]
   have ei:IntKind.wrap .i64 ((i:Int)+(ys.length:Int))=((i+ys.length:Nat):Int):=by rw [wrap64 (by omega) (by omega)];omega
   simp only [vz.len,ah,bZ,ei,nV]
   rw [rM (n:=(c:Int)) (by omega) (by omega),jL (show i+ys.length<xs.length+ys.length by omega)]
   simp only [ah]
   have pT:i+ys.length<ps.length:=by omega
   rw [uU _ pT]
   simp only [aL,aIW,bZ,ah,inc i (by omega),true_and]
   have nG:=sM 4294967296 ps (i+ys.length) c pT
   rw [wR _ pT (le_refl _)] at nG
   rw [take_length] at wQ
   refine hL (i+1,ps.set (i+ys.length) c) ⟨by show i+1<=xs.length;omega,by show (ps.set _ _).length=_;rw [length_set];exact oD,vh.set hc _,?_,?_⟩ (by show xs.length-(i+1)<xs.length-i;omega)
   ·intro k qV AR
    show (ps.set (i+ys.length) _)[k]=0
    have aMA:i+1+ys.length<=k:=AR
    have b7:i+ys.length≠k:=by omega
    rw [getElem_set_ne b7]
    exact wR k (by simpa using qV) (by omega)
   ·show val 4294967296 (ps.set (i+ys.length) c)=val 4294967296 (xs.take (i+1))*val 4294967296 ys
    rw [tO,Nat.add_mul,<-dD,Nat.mul_assoc,<-wQ]
    omega
 ·have:i=xs.length:=by omega
  subst this
  rw [aIX]
  rw [take_length] at dD
  have e:sl 152 h.length 0 (xs.length+ys.length)=sl 152 h.length 0 os.length:=by rw [ju]
  rw [e]
  refine sQ (yA h _) gF (by omega) ?_
  intro v' hm
  rw [dD] at hm
  exact hk v' _ (lE h _) hm
def fh (h:ae) (val:Value) (z:Int):Prop:=∃v,val=.agg #[B (decide (z<0)),v]/\fm h v z.natAbs
theorem fh.mono {h h':ae} {v:Value} {z:Int} (x:EX h h') (p:fh h v z):fh h' v z:=let ⟨w,a,b⟩:=p;⟨w,a,b.mono x⟩
theorem fm.sD {h:ae} {v:Value} {n:Nat} (p:fm h v n):∃l:Nat,aT v=some (I l)/\(0<l↔0<n):=by
 obtain ⟨xs,d,c,rfl⟩:=p
 refine ⟨xs.length,d.len,?_⟩
 constructor
 ·intro h0
  have:=eL.low (by decide) c (by rintro rfl;simp at h0)
  have:0<4294967296^(xs.length-1):=Nat.pow_pos (by decide)
  omega
 ·intro h0
  cases xs with
  | nil=>simp [val] at h0
  | cons x xs=>simp
theorem fm.dK {h:ae} {v:Value} {n j:Nat} {e:TypeId} {b:Bool} {r:List Value} (p:fm h v n) (hj:h[j]?=some (.arr e (.bool b::r))) (o:az):fm (h.set j o) v n:=by
 obtain ⟨xs,d,c,hv⟩:=p
 refine ⟨xs,?_,c,hv⟩
 rcases d with d | ⟨i,h1,h2⟩
 ·exact .inl d
 ·refine .inr ⟨i,h1,?_⟩
  rcases h2 with h2 | ⟨rest,h2⟩
  ·exact .inl h2
  ·cases xs with
   | nil=>exact .inl rfl
   | cons x xs=>
    right
    refine ⟨rest,?_⟩
    have b7:j≠i:=by
     rintro rfl
     unfold bw at h2
     rw [hj] at h2
     simp at h2
    unfold bw at h2⊢
    rw [getElem?_set_ne b7]
    exact h2
theorem fh.dK {h:ae} {v:Value} {z:Int} {j:Nat} {e:TypeId} {b:Bool} {r:List Value} (p:fh h v z) (hj:h[j]?=some (.arr e (.bool b::r))) (o:az):fh (h.set j o) v z:=
 let ⟨w,a,q⟩:=p;⟨w,a,q.dK hj o⟩
theorem jq {h:ae} {i:Nat} {e:TypeId} {a b x y:Value} (hg:h[i]?=some (.arr e [a,b])):aU 2 h (pt i 0) (.agg #[x,y])=some (undef,h.set i (.arr e [x,y])):=by
 simp [aU,sA,hg,fV,dL,Value.cells,setAt]
theorem fu {h:ae} {i:Nat} {e:TypeId} {a b:Value} (hg:h[i]?=some (.arr e [a,b])):af true 2 h (pt i 0)=some (.agg #[a,b]):=by
 simp [af,bw,hg,dS]
theorem gI {h:ae} {i:Nat} {o o':az} (hg:h[i]?=some o'):(h.set i o)[i]?=some o:=by
 rw [List.getElem?_set_self (cm hg).1]
theorem um {v:Value} {n:Nat} {b:Bool} {h:ae} {K:Value->ae->Prop} (hm:fm h v n) (hk:∀h',EX h h'->K (.agg #[B (b&&decide (0<n)),v]) h'):ay prog 82 [B b,v] h K:=by
 refine f82 ?_
 have al:cF 90 [(.bool false),(.slice none 0 0)] h=some (pt h.length 0,h++[.arr 90 [(.bool false),(.slice none 0 0)]]):=rfl
 simp only [Nn,al,aL]
 obtain ⟨l,h1,h2⟩:=hm.sD
 have hg:(h++[az.arr 90 [(.bool false),(.slice none 0 0)]])[h.length]?=some (.arr 90 [(.bool false),(.slice none 0 0)]):=bL
 have hx:EX h (h++[az.arr 90 [(.bool false),(.slice none 0 0)]]):=EX.append _ _
 have fin:DK prog K v (pt h.length 0) (B b) (B (decide (0<l))) (h++[az.arr 90 [(.bool false),(.slice none 0 0)]])/\(b=false->DK prog K v (pt h.length 0) (B b) undef (h++[az.arr 90 [(.bool false),(.slice none 0 0)]])):=by
  have one:∀c:Bool,c=(b&&decide (0<n))->OP (eI [(.bool false),(.slice none 0 0)] [(0,1,B c),(1,1,v)]) λaM=>OH (aU 2 (h++[az.arr 90 [(.bool false),(.slice none 0 0)]]) (pt h.length 0) aM) λ_ h_1=>OP (af true 2 h_1 (pt h.length 0)) λr0=>K r0 h_1:=by
   rintro c rfl
   have eb:eI [(.bool false),(.slice none 0 0)] [(0,1,B (b&&decide (0<n))),(1,1,v)]=some (.agg #[B (b&&decide (0<n)),v]):=by
    obtain ⟨xs,d,_,_⟩:=hm
    rcases d with ⟨rfl,_⟩ | ⟨i,rfl,_⟩ <;> rfl
   simp only [eb,ah]
   rw [jq hg]
   simp only [aL]
   rw [fu (gI hg)]
   simp only [ah]
   exact hk _ (hx.set (le_refl _) _)
  constructor
  ·rw [ang]
   cases b with
   | true=>simp only [fy,ah];exact one _ (by simp [h2])
   | false=>simp only [dA,ah];exact one _ (by simp)
  ·rintro rfl
   rw [ang]
   simp only [dA,ah]
   exact one _ (by simp)
 rw [aIC]
 have e0:decide ((0:Int)<(l:Int))=decide (0<l):=by
  by_cases h0:0<l
  ·simp [h0]
  ·simp [h0]
 cases b with
 | true=>
  simp only [gq,h1,ah,gC,e0]
  exact fin.1
 | false=>
  simp only [jd]
  exact fin.2 rfl
end
section
theorem wB {h':ae} {j:Nat} {b0 v0 b v:Value} {K:Value->ae->Prop} (hg:h'[j]?=some (.arr 90 [b0,v0])) (hk:K (.agg #[b,v]) (h'.set j (.arr 90 [b,v]))):
  OH (aU 2 h' (pt j 0) (.agg #[b,v])) λ_ h6=>OP (af true 2 h6 (pt j 0)) λr0=>K r0 h6:=by
 rw [jq hg]
 simp only [aL]
 rw [fu (gI hg)]
 exact ah.2 hk
structure aok (h:ae) (va vb:Value) (sa sb:Bool) (h3:ae):Prop where
 ex:EX h h3
 a0:af false 1 h3 (pt h.length 0)=some (B sa)
 a1:af false 1 h3 (pt h.length 1)=some va
 b0:af false 1 h3 (pt (h.length+1) 0)=some (B sb)
 b1:af false 1 h3 (pt (h.length+1) 1)=some vb
 a2:af true 2 h3 (pt h.length 0)=some (.agg #[B sa,va])
 b2:af true 2 h3 (pt (h.length+1) 0)=some (.agg #[B sb,vb])
 out:h3[h.length+2]?=some (.arr 90 [.bool false,.slice none 0 0])
theorem FG {h:ae} {va vb:Value} {sa sb:Bool} {K:Value->Value->Value->ae->Prop} (hk:∀h3,aok h va vb sa sb h3->K (pt h.length 0) (pt (h.length+1) 0) (pt (h.length+2) 0) h3):
  OH (cR 90 h (.agg #[B sa,va])) λa2 h_1=>OH (cR 90 h_1 (.agg #[B sb,vb])) λb3 h_2=>OH (cF 90 [(.bool false),(.slice none 0 0)] h_2) λx4 h_3=>K a2 b3 x4 h_3:=by
 have e1:∀(g:ae) (s:Bool) (v:Value),cR 90 g (.agg #[B s,v])=some (pt g.length 0,g++[.arr 90 [B s,v]]):=λ_ _ _=>rfl
 have e2:∀(g:ae),cF 90 [(.bool false),(.slice none 0 0)] g=some (pt g.length 0,g++[.arr 90 [(.bool false),(.slice none 0 0)]]):=λ_=>rfl
 simp only [e1,e2,aL,List.length_append,List.length_cons,List.length_nil]
 have g0:(h++[az.arr 90 [B sa,va]]++[az.arr 90 [B sb,vb]]++[az.arr 90 [(.bool false),(.slice none 0 0)]])[h.length]?=some (.arr 90 [B sa,va]):=by simp
 have g1:(h++[az.arr 90 [B sa,va]]++[az.arr 90 [B sb,vb]]++[az.arr 90 [(.bool false),(.slice none 0 0)]])[h.length+1]?=some (.arr 90 [B sb,vb]):=by simp
 have g2:(h++[az.arr 90 [B sa,va]]++[az.arr 90 [B sb,vb]]++[az.arr 90 [(.bool false),(.slice none 0 0)]])[h.length+2]?=some (.arr 90 [(.bool false),(.slice none 0 0)]):=by simp
 refine hk _ ⟨((EX.append _ _).push _).push _,?_,?_,?_,?_,fu g0,fu g1,g2⟩
 ·simp [af,bw,dS]
 ·simp [af,bw,dS]
 ·simp [af,bw,dS]
 ·simp [af,bw,dS]
theorem EF {n:Int} {h:ae} {K:Value->ae->Prop} (h1: -9223372036854775808<=n) (h2:n<9223372036854775808) (hk:∀r h',EX h h'->fh h' r n->K r h'):ay prog 56 [I n] h K:=by
 refine f56 ?_
 have e2:cF 90 [(.bool false),(.slice none 0 0)] h=some (pt h.length 0,h++[.arr 90 [(.bool false),(.slice none 0 0)]]):=rfl
 simp only [MY,e2,aL]
 have x1:EX h (h++[az.arr 90 [(.bool false),(.slice none 0 0)]]):=EX.append _ _
 have g1:(h++[az.arr 90 [(.bool false),(.slice none 0 0)]])[h.length]?=some (.arr 90 [(.bool false),(.slice none 0 0)]):=bL
 generalize h++[az.arr 90 [(.bool false),(.slice none 0 0)]]=hA at x1 g1⊢
 have go:∀u:Nat,u=n.natAbs->Jx prog K (I n) (pt h.length 0) (.int .u64 (u:Int)) hA:=by
  intro u hu
  rw [aHJ]
  have ew:IntKind.wrap .u32 (u:Int)=((u%4294967296:Nat):Int):=by rw [xq];omega
  simp only [bT,ah,nV,zI,ew]
  rw [rM (n:=((u / 4294967296:Nat):Int)) (by omega) (by omega)]
  have mk:cH 152 2 [.int .u32 0] hA [(0,1,.int .u32 ((u%4294967296:Nat):Int)),(1,1,.int .u32 ((u / 4294967296:Nat):Int))]=some (sl 152 hA.length 0 2,hd hA [u%4294967296,u / 4294967296]):=rfl
  simp only [mk,aL]
  have hl:dF 4294967296 [u%4294967296,u / 4294967296]:=by
   intro x hx
   simp at hx
   rcases hx with rfl | rfl <;> omega
  refine sQ (yA hA [u%4294967296,u / 4294967296]) hl (by simp) ?_
  intro v hv
  have dD:val 4294967296 [u%4294967296,u / 4294967296]=n.natAbs:=by simp [val];omega
  rw [dD] at hv
  refine um hv ?_
  intro h' x'
  have xx:=(lE hA [u%4294967296,u / 4294967296]).trans x'
  have g':=xx.get g1
  refine wB g' (hk _ _ ((x1.trans xx).set (le_refl _) _) ⟨v,?_,(hv.mono x').dK g' _⟩)
  have:(decide (n<0)&&decide (0<n.natAbs))=decide (n<0):=by
   by_cases hn:n<0
   ·simp [hn];omega
   ·simp [hn]
  rw [this]
 simp only [nV,ah,bT,cd]
 refine ⟨λhn=>?_,λhn=>?_⟩
 ·have e3:gG .neg (.int .u64 (IntKind.wrap .u64 n))=some (.int .u64 ((n.natAbs:Nat):Int)):=by
   have e:∀m:Int,IntKind.wrap .u64 m=m%18446744073709551616:=λm=>by simp [IntKind.wrap,IntKind.bits,IntKind.signed]
   simp only [gG]
   rw [e,e]
   congr 2
   omega
  simp only [e3,ah]
  exact go _ rfl
 ·have:IntKind.wrap .u64 n=((n.natAbs:Nat):Int):=by rw [lL (by omega) (by omega)];omega
  rw [this]
  exact go _ rfl
theorem Wo {va:Value} {a:Int} {h:ae} {K:Value->ae->Prop} (ha:fh h va a) (hk:∀r h',EX h h'->fh h' r (-a)->K r h'):ay prog 88 [va] h K:=by
 obtain ⟨v,rfl,hv⟩:=ha
 refine f88 ?_
 have e1:cR 90 h (.agg #[B (decide (a<0)),v])=some (pt h.length 0,h++[.arr 90 [B (decide (a<0)),v]]):=rfl
 simp only [Ns,e1,aL]
 have l0:af false 1 (h++[.arr 90 [B (decide (a<0)),v]]) (pt h.length 0)=some (B (decide (a<0))):=sE rfl
 have l1:af false 1 (h++[.arr 90 [B (decide (a<0)),v]]) (pt h.length 1)=some v:=sE rfl
 have x1:EX h (h++[.arr 90 [B (decide (a<0)),v]]):=EX.append _ _
 generalize h++[az.arr 90 [B (decide (a<0)),v]]=h1 at l0 l1 x1⊢
 have e2:cF 90 [(.bool false),(.slice none 0 0)] h1=some (pt h1.length 0,h1++[.arr 90 [(.bool false),(.slice none 0 0)]]):=rfl
 have x2:EX h1 (h1++[az.arr 90 [(.bool false),(.slice none 0 0)]]):=EX.append _ _
 have g1:(h1++[az.arr 90 [(.bool false),(.slice none 0 0)]])[h1.length]?=some (.arr 90 [(.bool false),(.slice none 0 0)]):=bL
 simp only [e2,aL]
 generalize h1++[az.arr 90 [(.bool false),(.slice none 0 0)]]=h2 at x2 g1⊢
 simp only [bP,add_zero,zero_add,ah,EX.load x2 l0,EX.load x2 l1,kW]
 have pB:=hv.mono (x1.trans x2)
 refine um pB ?_
 intro h' x'
 have g':=x'.get g1
 refine wB g' (hk _ _ (((x1.trans x2).trans x').set x1.1 _) ⟨v,?_,?_⟩)
 ·have:(!decide (a<0)&&decide (0<a.natAbs))=decide (-a<0):=by
   by_cases h0:a<0
   ·rw [dh h0,bY (show ¬-a<0 by omega)];rfl
   ·by_cases h3:a=0
    ·subst h3;rfl
    ·rw [bY h0,dh (show 0<a.natAbs by omega),dh (show -a<0 by omega)];rfl
  rw [this]
 ·have:(-a).natAbs=a.natAbs:=by omega
  rw [this]
  exact (pB.mono x').dK g' _
theorem Kx {va vb:Value} {a b:Int} {h:ae} {K:Value->ae->Prop} (ha:fh h va a) (hb:fh h vb b) (la:a.natAbs<dO) (lb:b.natAbs<dO) (hk:∀r h',EX h h'->fh h' r (a+b)->K r h'):ay prog 61 [va,vb] h K:=by
 obtain ⟨v,rfl,hv⟩:=ha
 obtain ⟨w,rfl,hw⟩:=hb
 refine f61 ?_
 unfold M3
 refine FG ?_
 intro h3 x
 have su:=hv.mono x.ex
 have ru:=hw.mono x.ex
 simp only [bP,add_zero,zero_add,ah,x.a0,x.a1,x.b0,x.b1,Cs,Bool.false_eq_true,if_false]
 refine uo (λhe=>?_) λb7=>?_
 ·have hs:decide (a<0)=decide (b<0):=by simpa using he
  have mT:(a<0↔b<0):=by simpa using hs
  simp only [true_and]
  refine C85 su ru la lb ?_
  intro u h4 x4 hu
  refine ⟨⟨EX.load x4 x.a0,trivial⟩,?_⟩
  refine um hu ?_
  intro h5 x5
  have g':=(x4.trans x5).get x.out
  refine wB g' (hk _ _ (((x.ex.trans x4).trans x5).set (by omega) _) ⟨u,?_,?_⟩)
  ·have:(decide (a<0)&&decide (0<a.natAbs+b.natAbs))=decide (a+b<0):=by
    by_cases h0:a<0
    ·rw [dh h0,dh (show 0<a.natAbs+b.natAbs by omega),dh (show a+b<0 by omega)];rfl
    ·rw [bY h0,bY (show ¬a+b<0 by omega)];rfl
   rw [this]
  ·have:(a+b).natAbs=a.natAbs+b.natAbs:=by omega
   rw [this]
   exact (hu.mono x5).dK g' _
 ·have hs:decide (a<0)≠decide (b<0):=by simpa using b7
  have mT:¬(a<0↔b<0):=λh=>hs (decide_eq_decide.2 h)
  refine KA su ru la lb ?_
  simp only [om,ah,cd]
  refine ⟨λcK=>?_,λaw=>?_⟩
  ·have hle:b.natAbs<=a.natAbs:=by
    apply byContradiction
    intro hc
    unfold oS at cK
    rw [if_pos (by omega)] at cK
    omega
   simp only [x.a0,x.a1,x.b1,ah,true_and]
   refine Wn su ru la hle ?_
   intro u h4 x4 hu
   refine ⟨⟨EX.load x4 x.a0,trivial⟩,?_⟩
   refine um hu ?_
   intro h5 x5
   have g':=(x4.trans x5).get x.out
   refine wB g' (hk _ _ (((x.ex.trans x4).trans x5).set (by omega) _) ⟨u,?_,?_⟩)
   ·have:(decide (a<0)&&decide (0<a.natAbs-b.natAbs))=decide (a+b<0):=by
     by_cases h0:a<0
     ·by_cases h6:0<a.natAbs-b.natAbs
      ·rw [dh h0,dh h6,dh (show a+b<0 by omega)];rfl
      ·rw [dh h0,bY h6,bY (show ¬a+b<0 by omega)];rfl
     ·rw [bY h0,bY (show ¬a+b<0 by omega)];rfl
    rw [this]
   ·have:(a+b).natAbs=a.natAbs-b.natAbs:=by omega
    rw [this]
    exact (hu.mono x5).dK g' _
  ·have hle:a.natAbs<=b.natAbs:=by
    apply byContradiction
    intro hc
    unfold oS at aw
    rw [if_neg (by omega),if_pos (by omega)] at aw
    omega
   simp only [x.b0,x.a1,x.b1,ah,true_and]
   refine Wn ru su lb hle ?_
   intro u h4 x4 hu
   refine ⟨⟨EX.load x4 x.b0,trivial⟩,?_⟩
   refine um hu ?_
   intro h5 x5
   have g':=(x4.trans x5).get x.out
   refine wB g' (hk _ _ (((x.ex.trans x4).trans x5).set (by omega) _) ⟨u,?_,?_⟩)
   ·have:(decide (b<0)&&decide (0<b.natAbs-a.natAbs))=decide (a+b<0):=by
     by_cases h0:b<0
     ·by_cases h6:0<b.natAbs-a.natAbs
      ·rw [dh h0,dh h6,dh (show a+b<0 by omega)];rfl
      ·rw [dh h0,bY h6,bY (show ¬a+b<0 by omega)];rfl
     ·rw [bY h0,bY (show ¬a+b<0 by omega)];rfl
    rw [this]
   ·have:(a+b).natAbs=b.natAbs-a.natAbs:=by omega
    rw [this]
    exact (hu.mono x5).dK g' _
theorem C92 {va vb:Value} {a b:Int} {h:ae} {K:Value->ae->Prop} (ha:fh h va a) (hb:fh h vb b) (la:a.natAbs<dO) (lb:b.natAbs<dO) (hk:∀r h',EX h h'->fh h' r (a-b)->K r h'):ay prog 92 [va,vb] h K:=by
 have ov:=ha
 have qf:=hb
 obtain ⟨v,rfl,hv⟩:=ha
 obtain ⟨w,rfl,hw⟩:=hb
 refine f92 ?_
 unfold Nw
 refine FG ?_
 intro h3 x
 simp only [ah,x.a2,x.b2,true_and]
 refine Wo (qf.mono x.ex) ?_
 intro r1 h4 x4 i1
 refine ⟨⟨EX.load x4 x.a2,trivial⟩,?_⟩
 refine Kx (ov.mono (x.ex.trans x4)) i1 la (by rw [Int.natAbs_neg];exact lb) ?_
 intro r2 h5 x5 i2
 have g':=(x4.trans x5).get x.out
 obtain ⟨u,rfl,hu⟩:=id i2
 refine wB g' (hk _ _ (((x.ex.trans x4).trans x5).set (by omega) _) ?_)
 rw [Int.sub_eq_add_neg]
 exact i2.dK g' _
theorem sP {va vb:Value} {a b:Int} {h:ae} {K:Value->ae->Prop} (ha:fh h va a) (hb:fh h vb b) (la:a.natAbs<dO) (lb:b.natAbs<dO) (hk:∀r h',EX h h'->fh h' r (a*b)->K r h'):ay prog 63 [va,vb] h K:=by
 obtain ⟨v,rfl,hv⟩:=ha
 obtain ⟨w,rfl,hw⟩:=hb
 refine f63 ?_
 unfold M5
 refine FG ?_
 intro h3 x
 have su:=hv.mono x.ex
 have ru:=hw.mono x.ex
 simp only [bP,add_zero,zero_add,ah,x.a0,x.a1,x.b0,x.b1,Cs,if_true,true_and]
 refine C91 su ru la lb ?_
 intro u h4 x4 hu
 refine ⟨⟨EX.load x4 x.a0,EX.load x4 x.b0,trivial⟩,?_⟩
 refine um hu ?_
 intro h5 x5
 have g':=(x4.trans x5).get x.out
 refine wB g' (hk _ _ (((x.ex.trans x4).trans x5).set (by omega) _) ⟨u,?_,?_⟩)
 ·have:((!(decide (a<0)==decide (b<0)))&&decide (0<a.natAbs*b.natAbs))=decide (a*b<0):=by
   rcases Int.lt_trichotomy a 0 with h1 | h1 | h1
   ·rcases Int.lt_trichotomy b 0 with h2 | h2 | h2
    ·have:=Int.mul_pos_of_neg_of_neg h1 h2
     rw [dh h1,dh h2,bY (show ¬a*b<0 by omega)];rfl
    ·subst h2;simp
    ·have:=Int.mul_neg_of_neg_of_pos h1 h2
     have h3:0<a.natAbs*b.natAbs:=Nat.mul_pos (by omega) (by omega)
     rw [dh h1,bY (show ¬b<0 by omega),dh h3,dh this];rfl
   ·subst h1;simp
   ·rcases Int.lt_trichotomy b 0 with h2 | h2 | h2
    ·have:=Int.mul_neg_of_pos_of_neg h1 h2
     have h3:0<a.natAbs*b.natAbs:=Nat.mul_pos (by omega) (by omega)
     rw [bY (show ¬a<0 by omega),dh h2,dh h3,dh this];rfl
    ·subst h2;simp
    ·have:=Int.mul_pos h1 h2
     rw [bY (show ¬a<0 by omega),bY (show ¬b<0 by omega),bY (show ¬a*b<0 by omega)];rfl
  rw [this]
 ·rw [Int.natAbs_mul]
  exact (hu.mono x5).dK g' _
end
section
theorem J0 {r:Nat} (hr:r<4294967296):aj .shl (.int .u64 (r:Int)) (.int .u64 32)=some (.int .u64 ((r*4294967296:Nat):Int)):=by
 simp only [aj,rB]
 rw [if_neg (by omega)]
 have:(min (32:Int).toNat IntKind.u64.bits)=32:=rfl
 rw [this]
 have e2:(2:Int)^32=4294967296:=by decide
 rw [e2,lL (by omega) (by omega)]
 congr 2
theorem Jg {r x:Nat} (hr:r<4294967296) (hx:x<4294967296):aj .or (.int .u64 ((r*4294967296:Nat):Int)) (.int .u64 (x:Int))=some (.int .u64 ((r*4294967296+x:Nat):Int)):=by
 have e:(BitVec.ofInt IntKind.u64.bits ((r*4294967296:Nat):Int) ||| BitVec.ofInt IntKind.u64.bits (x:Int)).toNat=r*4294967296+x:=by
  show (BitVec.ofInt 64 ((r*4294967296:Nat):Int) ||| BitVec.ofInt 64 (x:Int)).toNat=_
  rw [BitVec.ofInt_natCast,BitVec.ofInt_natCast,BitVec.toNat_or,BitVec.toNat_ofNat,BitVec.toNat_ofNat,mod_eq_of_lt (by omega),mod_eq_of_lt (by omega)]
  have:=Nat.two_pow_add_eq_or_of_lt (i:=32) (b:=x) (by omega) r
  rw [Nat.mul_comm r]
  exact this.symm
 simp only [aj,jw,if_true]
 rw [e,lL (by omega) (by omega)]
theorem anj {a b:Nat} (hb:b≠0) (ha:a<18446744073709551616):aj .quo (.int .u64 (a:Int)) (.int .u64 (b:Int))=some (.int .u64 ((a / b:Nat):Int)):=by
 have h:¬((b:Int)=0):=by omega
 have h2:a / b<=a:=Nat.div_le_self _ _
 simp only [aj,jw,if_true,if_neg h]
 have e:(a:Int).tdiv (b:Int)=((a / b:Nat):Int):=rfl
 rw [e]
 generalize a / b=q at*
 rw [lL (by omega) (by omega)]
theorem VQ {va:Value} {a w:Nat} {h:ae} {K:Value->ae->Prop} (ha:fm h va a) (la:a<dO) (w0:0<w) (wW:w<4294967296) (hk:∀v h',EX h h'->fm h' v (a / w)->K (.tuple #[v,.int .u32 ((a%w:Nat):Int)]) h'):
  ay prog 120 [va,.int .u32 (w:Int)] h K:=by
 obtain ⟨xs,hx,cx,rfl⟩:=ha
 have l1:=qc cx la
 have hW:(0:Nat)<4294967296:=by decide
 refine f120 ?_
 have e1:IntKind.wrap .i64 ((xs.length:Int)-1)=(xs.length:Int)-1:=by rw [wrap64 (by omega) (by omega)]
 simp only [LU,hx.len,ah,zo (show xs.length<=1000 by omega),aL,gO,e1]
 refine cN (σ:=Nat×Nat×List Nat) (λp=>[.int .u64 (p.1:Int),I ((p.2.1:Int)-1)]) (λp=>hd h p.2.2)
  (λp=>p.2.1<=xs.length/\p.1<w/\p.2.2.length=xs.length/\dF 4294967296 p.2.2/\val 4294967296 (xs.drop p.2.1)=w*val 4294967296 (p.2.2.drop p.2.1)+p.1) (λp=>p.2.1)
  (0,xs.length,replicate xs.length 0) rfl rfl ⟨le_refl _,w0,by simp,dF.we hW _,by simp [val]⟩ ?_
 rintro ⟨r,i,os⟩ ⟨hi,hr,ju,gF,dD⟩ L hL
 simp only at hi hr ju gF dD hL⊢
 rw [aDY]
 have dN:=hx.mono (lE h os)
 simp only [om,ah,cd]
 refine ⟨λcK=>?_,λaw=>?_⟩
 ·obtain ⟨j,rfl⟩:∃j,i=j+1:=⟨i-1,by omega⟩
  have ej:(((j+1:Nat):Int)-1)=(j:Int):=by omega
  rw [ej]
  obtain ⟨ia,a1,a2⟩:=dN.get (j:=j) (by omega)
  have iI:xs[j]'(by omega)<4294967296:=cx.1 _ (getElem_mem _)
  have hdx:xs.drop j=xs[j]'(by omega)::xs.drop (j+1):=drop_eq_getElem_cons (by omega)
  generalize xs[j]'(by omega)=x at a2 iI hdx
  simp only [J0 (show r<4294967296 by omega),ah,a1,a2,nV]
  rw [lL (n:=(x:Int)) (by omega) (by omega)]
  simp only [Jg (show r<4294967296 by omega) iI,ah]
  rw [lL (n:=(w:Int)) (by omega) (by omega)]
  have ht:r*4294967296+x<w*4294967296:=by omega
  have hq:(r*4294967296+x) / w<4294967296:=(Nat.div_lt_iff_lt_mul w0).2 (by omega)
  have hm:=mod_lt (r*4294967296+x) w0
  have mB:=Nat.div_add_mod (r*4294967296+x) w
  rw [anj (by omega) (by omega),zC _ _ _ (by omega)]
  generalize (r*4294967296+x) / w=q at*
  generalize (r*4294967296+x)%w=m at*
  simp only [ah,nV]
  rw [rM (n:=(q:Int)) (by omega) (by omega),jL (show j<xs.length by omega)]
  simp only [ah]
  rw [uU _ (by omega)]
  simp only [aL,gO,ah,true_and]
  rw [wrap64 (n:=(j:Int)-1) (by omega) (by omega)]
  refine hL (m,j,os.set j q) ⟨by show j<=xs.length;omega,hm,by show (os.set _ _).length=_;rw [length_set];exact ju,gF.set hq _,?_⟩ (by show j<j+1;omega)
  show val 4294967296 (xs.drop j)=w*val 4294967296 ((os.set j q).drop j)+m
  have hdo:(os.set j q).drop j=q::os.drop (j+1):=by
   rw [drop_eq_getElem_cons (by rw [length_set];omega),List.getElem_set_self,List.drop_set_of_lt (by omega)]
  rw [hdx,hdo]
  simp only [val]
  rw [dD]
  generalize val 4294967296 (os.drop (j+1))=Q at*
  generalize (4294967296:Nat)=W at*
  clear hL hx dN a1 a2 dD
  grind
 ·have:i=0:=by omega
  subst this
  rw [drop_zero,drop_zero] at dD
  rw [aDX]
  have e:sl 152 h.length 0 xs.length=sl 152 h.length 0 os.length:=by rw [ju]
  rw [e]
  refine sQ (yA h _) gF (by omega) ?_
  intro v' hm
  simp only [nV,ah]
  rw [rM (n:=(r:Int)) (by omega) (by omega)]
  have h1:val 4294967296 xs / w=val 4294967296 os:=by
   rw [dD,Nat.mul_add_div w0,Nat.div_eq_of_lt hr,add_zero]
  have h2:val 4294967296 xs%w=r:=by
   rw [dD,Nat.mul_add_mod,mod_eq_of_lt hr]
  have:=hk v' _ (lE h os) (by rw [h1];exact hm)
  rw [h2] at this
  exact this
theorem aor {h:ae} {id:Nat} {xs:List UInt8} {K:Value->ae->Prop} (dE:h[id]?=some (.arr 5 (xs.map cv))) (hn:xs.length<=100000) (hk:K (.tuple #[]) (hb h id xs.reverse)):ay prog 121 [sl 5 id 0 xs.length] h K:=by
 have iH:=(cm dE).1
 have e0:h=hb h id xs:=by
  apply List.ext_getElem?
  intro j
  by_cases hj:id=j
  ·subst hj;rw [H5 iH,dE]
  ·rw [getElem?_set_ne hj]
 refine f121 ?_
 have e1:aT (sl 5 id 0 xs.length)=some (I xs.length):=rfl
 have e2:IntKind.wrap .i64 ((xs.length:Int)-1)=(xs.length:Int)-1:=by rw [wrap64 (by omega) (by omega)]
 simp only [LV,e1,ah,gO,e2]
 refine cN (σ:=Nat×List UInt8) (λp=>[I p.1,I ((xs.length:Int)-1-p.1)]) (λp=>hb h id p.2) (λp=>p.1<=xs.length/\p.2.length=xs.length/\∀k (hk:k<p.2.length) (qV:k<xs.length),p.2[k]=if k<p.1∨xs.length-p.1<=k then xs[xs.length-1-k]'(by omega) else xs[k]) (λp=>xs.length-p.1)
  (0,xs) (by simp) e0.symm ⟨by simp,rfl,λk h1 h2=>by simp;intro h3;omega⟩ ?_
 rintro ⟨i,ys⟩ ⟨hi,hl,hy⟩ L hL
 simp only at hi hl hy hL⊢
 rw [aDZ]
 simp only [bT,ah,cd]
 refine ⟨λaw=>?_,λcK=>?_⟩
 ·obtain ⟨j,hj⟩:∃j:Nat,(xs.length:Int)-1-i=j:=⟨xs.length-1-i,by omega⟩
  rw [hj]
  have kQ:j=xs.length-1-i:=by omega
  have a1:=jL (id:=id) (e:=5) (n:=xs.length) (j:=j) (by omega)
  have a2:=jL (id:=id) (e:=5) (n:=xs.length) (j:=i) (by omega)
  have g1:ys[j]?=some (ys[j]'(by omega)):=List.getElem?_eq_getElem (by omega)
  have g2:ys[i]?=some (ys[i]'(by omega)):=List.getElem?_eq_getElem (by omega)
  simp only [a1,a2,ah,aej iH g1,aej iH g2,true_and]
  rw [aek iH _ (by omega)]
  simp only [aL]
  rw [aek iH _ (by rw [length_set];omega)]
  simp only [aL,bZ,gO,ah,inc i (by omega)]
  have ej:IntKind.wrap .i64 ((j:Int)-1)=(xs.length:Int)-1-((i+1:Nat):Int):=by rw [wrap64 (by omega) (by omega)];omega
  rw [ej]
  refine hL (i+1,(ys.set i (ys[j]'(by omega))).set j (ys[i]'(by omega))) ⟨by show i+1<=xs.length;omega,by simp [hl],?_⟩ (by show xs.length-(i+1)<xs.length-i;omega)
  intro k fD qV
  show ((ys.set i (ys[j]'(by omega))).set j (ys[i]'(by omega)))[k]=if k<i+1∨xs.length-(i+1)<=k then xs[xs.length-1-k]'(by omega) else xs[k]
  have hyi:=hy i (by omega) (by omega)
  have hyj:=hy j (by omega) (by omega)
  rw [if_neg (by omega)] at hyi hyj
  by_cases lT:j=k
  ·subst lT
   rw [List.getElem_set_self,if_pos (by omega),hyi]
   congr 1;omega
  ·rw [getElem_set_ne lT]
   by_cases mD:i=k
   ·subst mD
    rw [List.getElem_set_self,if_pos (by omega),hyj]
    congr 1
   ·rw [getElem_set_ne mD,hy k (by omega) qV]
    by_cases hc:k<i∨xs.length-i<=k
    ·rw [if_pos hc,if_pos (by omega)]
    ·rw [if_neg hc,if_neg (by omega)]
 ·have:ys=xs.reverse:=by
   apply List.ext_getElem (by simp [hl])
   intro k h1 h2
   rw [hy k h1 (by omega),List.getElem_reverse]
   split
   ·rfl
   ·congr 1;omega
  rw [this]
  exact hk
def tf (n:Nat):List Nat:=if h:n=0 then [] else n%10::tf (n / 10)
termination_by n
decreasing_by omega
theorem Hv (n:Nat):eL 10 (tf n)/\val 10 (tf n)=n:=by
 induction n using Nat.strongRecOn with
 | ind n ih=>
  rw [tf]
  by_cases h:n=0
  ·subst h;exact ⟨eL.nil 10,rfl⟩
  ·rw [dif_neg h]
   obtain ⟨h1,h2⟩:=ih (n / 10) (by omega)
   refine ⟨⟨?_,?_⟩,?_⟩
   ·intro x hx
    rcases List.mem_cons.1 hx with rfl | hx
    ·omega
    ·exact h1.1 x hx
   ·cases hd:tf (n / 10) with
    | nil=>
     rw [hd] at h2
     simp [val] at h2
     simp
     omega
    | cons y ys=>
     rw [List.getLast?_cons_cons,<-hd]
     exact h1.2
   ·simp only [val,h2];omega
def jN (d:Nat):UInt8:=UInt8.ofNat (48+d)
theorem uK {d:Nat} (h:d<10):(jN d).toNat=48+d:=by simp [jN,UInt8.toNat_ofNat'];omega
def jO (n:Nat):List UInt8:=if n=0 then [48] else ((tf n).map jN).reverse
def IH:Nat:=1000
theorem Yl:dO<=10^IH:=by decide+kernel
end
section
theorem Cn {d:Nat} (h:d<10):(.int .u8 ((48+d:Nat):Int):Value)=cv (jN d):=by rw [cv,uK h]
theorem aDy (k:Nat):0<10^k:=Nat.pow_pos (by decide)
theorem af6 {b n m:Nat} (hm:0<m) (h:10^b*m<=n) (hn:n<dO):b<1000:=by
 have h1:10^b<=10^b*m:=Nat.le_mul_of_pos_right _ hm
 show b<IH
 have h2:10^b<10^IH:=Nat.lt_of_le_of_lt (Nat.le_trans h1 h) (Nat.lt_of_lt_of_le hn Yl)
 exact (Nat.pow_lt_pow_iff_right (by decide)).1 h2
theorem auf {h0 hx:ae} {v z:Value} {x:UInt8} {bs:List UInt8} {K:Value->ae->Prop} (o:gB h0.length hx 5 v (bs.map cv)) (hex:EX h0 hx) (hl:bs.length<=100000)
  (hk:∀v' dN,EX h0 dN->gB h0.length dN 5 v' ((bs++[x]).map cv)->(∀q n,fm hx q n->fm dN q n)->K v' dN):
  OH (cH 5 1 [z] hx [(0,1,cv x)]) λa h2=>OH (cT 5 1 1 h2 v a) K:=by
 refine BX o (by simp;omega) (by simp [maxLen];omega) rfl rfl ?_
 intro hA dN _ hlen Ik kL
 simp only [aL]
 refine hk _ _ ⟨by have:=hex.1;omega,λj hj=>?_⟩ (.inr ⟨hx.length+1,by have:=hex.1;omega,by simp,by simpa using kL⟩) ?_
 ·rw [Ik j (by have:=hex.1;omega) λn hv=>?_]
  ·exact hex.2 j hj
  ·have:=(o.lt hv).1;omega
 ·rintro q n ⟨xs,d,c,hv⟩
  refine ⟨xs,?_,c,hv⟩
  rcases d with d | ⟨i,h1,h2⟩
  ·exact .inl d
  ·refine .inr ⟨i,h1,?_⟩
   rcases h2 with h2 | ⟨r,h2⟩
   ·exact .inl h2
   ·cases xs with
    | nil=>exact .inl rfl
    | cons y ys=>
     right
     refine ⟨r,?_⟩
     have gV:i<hx.length:=by
      apply byContradiction
      intro hc
      unfold bw at h2
      rw [List.getElem?_eq_none (by omega)] at h2
      simp at h2
     unfold bw at h2⊢
     rw [Ik i gV λn yS=>?_]
     ·exact h2
     ·have hg:=(o.lt yS).2.2
      rw [hg] at h2
      cases bs with
      | nil=>simp at h2
      | cons b bs=>simp [cv] at h2
theorem C81 {va:Value} {n:Nat} {h:ae} {K:Value->ae->Prop} (ha:fm h va n) (la:n<dO) (hk:∀h',EX h h'->K (S (jO n)) h'):ay prog 81 [va] h K:=by
 refine f81 ?_
 obtain ⟨l0,e0,e1⟩:=ha.sD
 simp only [Nl,e0,ah,jD,cd]
 refine ⟨λhz=>?_,λhnz=>?_⟩
 ·have:n=0:=by omega
  subst this
  exact hk h (EX.refl h)
 ·have oB:0<n:=by omega
  refine cN (σ:=Value×Nat×Value×List Nat×ae) (λp=>[p.1,p.2.2.1]) (λp=>p.2.2.2.2)
   (λp=>EX h p.2.2.2.2/\fm p.2.2.2.2 p.1 p.2.1/\gB h.length p.2.2.2.2 5 p.2.2.1 ((p.2.2.2.1.map jN).map cv)/\dF 10 p.2.2.2.1/\val 10 p.2.2.2.1+10^p.2.2.2.1.length*p.2.1=n/\(p.2.1=0->eL 10 p.2.2.2.1)) (λp=>p.2.1)
   (va,n,.slice none 0 0,[],h) rfl rfl ⟨EX.refl h,ha,.inl ⟨rfl,rfl⟩,λx hx=>by simp at hx,by simp [val],λh0=>by have h0:n=0:=h0;omega⟩ ?_
  rintro ⟨v,m,bv,b,hx⟩ ⟨hex,hm,nF,gF,dD,yx⟩ L hL
  simp only at hex hm nF gF dD yx hL⊢
  rw [aIB]
  obtain ⟨l,f0,f1⟩:=hm.sD
  simp only [f0,ah,gC,cd]
  refine ⟨λaw=>?_,λcK=>?_⟩
  ·have nD:0<m:=by omega
   have hmb:m<dO:=by
    refine Nat.lt_of_le_of_lt ?_ la
    have:m<=10^b.length*m:=Nat.le_mul_of_pos_left _ (aDy _)
    omega
   have CF:=af6 (b:=b.length) nD (by omega) la
   refine VQ hm hmb (w:=1000000000) (by decide) (by decide) ?_
   intro q h1 x1 hq
   simp only [fM,gi,gj,ah]
   have aBh:gB h.length h1 5 bv ((b.map jN).map cv):=nF.iA λd k hv hd=>by
    have:=(nF.lt hv).2.1
    exact x1.2 d this
   have aBm:m / 1000000000<m:=Nat.div_lt_self nD (by decide)
   have mB:=Nat.div_add_mod m 1000000000
   have hr9:=mod_lt m (show 1000000000>0 by decide)
   generalize m / 1000000000=qn at*
   generalize m%1000000000=r0 at*
   have hqq:=hq
   refine cN (σ:=Value×List Nat×Nat×Nat×ae) (λp=>[p.1,.int .u32 (p.2.2.1:Int),I p.2.2.2.1]) (λp=>p.2.2.2.2)
    (λp=>EX h p.2.2.2.2/\fm p.2.2.2.2 q qn/\gB h.length p.2.2.2.2 5 p.1 ((p.2.1.map jN).map cv)/\dF 10 p.2.1/\p.2.2.2.1<=9/\p.2.2.1<10^(9-p.2.2.2.1)/\p.2.1.length<=b.length+p.2.2.2.1/\val 10 p.2.1+10^p.2.1.length*(p.2.2.1+10^(9-p.2.2.2.1)*qn)=n/\(qn=0->p.2.2.1=0->eL 10 p.2.1)) (λp=>9-p.2.2.2.1)
    (bv,b,r0,0,h1) rfl rfl ⟨hex.trans x1,hq,aBh,gF,by simp,by simpa using hr9,by simp,?_,?_⟩ ?_
   ·show val 10 b+10^b.length*(r0+10^(9-0)*qn)=n
    have:r0+10^(9-0)*qn=m:=by
     show r0+1000000000*qn=m
     omega
    rw [this];exact dD
   ·intro h1 h2
    have h1:qn=0:=h1
    have h2:r0=0:=h2
    subst h1;subst h2
    omega
   rintro ⟨Ht,c,r,i,hy⟩ ⟨P4,Is,Qu,Il,hi,hr,gP,Df,PZ⟩ L2 dP
   simp only at P4 Is Qu Il hi hr gP Df PZ dP⊢
   rw [aIy]
   -- leaving
   have stop:r=0->(i=9∨qn=0)->JB prog K Ht q L hy:=by
    intro sm tM
    rw [aIz]
    refine ⟨rfl,hL (q,qn,Ht,c,hy) ⟨P4,Is,Qu,Il,?_,λh0=>PZ h0 sm⟩ aBm⟩
    show val 10 c+10^c.length*qn=n
    rw [sm,zero_add] at Df
    rcases tM with h9 | h0
    ·subst h9;simpa using Df
    ·subst h0;simpa using Df
   simp only [bT,ah]
   by_cases hi9:i<9
   ·rw [dh (show (i:Int)<9 by omega)]
    simp only [anf,gq]
    obtain ⟨l2,g0,g1⟩:=Is.sD
    simp only [g0,ah,gC]
    -- one Hw more
    have step:(0<qn∨0<r)->aJ (B true)
      (OP (aj .rem (.int .u32 (r:Int)) (.int .u32 (10))) λb9=>
      OP (aj .add (.int .u32 (48)) b9) λcA=>
      OP (dI .u8 cA) λcB=>
      OH (cH 5 1 [(.int .u8 (0))] hy [(0,1,cB)]) λaY h_1=>
      OH (cT 5 1 1 h_1 Ht aY) λbG h_2=>
      OP (aj .quo (.int .u32 (r:Int)) (.int .u32 (10))) λdW=>
      OP (aj .add (I i) (.int .i64 (1))) λaV=>
      True/\L2 [bG,dW,aV] h_2)
      (JB prog K Ht q L hy):=by
     intro tM
     have hrW:r<4294967296:=Nat.lt_of_lt_of_le hr (Nat.le_trans (Nat.pow_le_pow_right (by decide) (show 9-i<=9 by omega)) (by decide))
     have ed:IntKind.wrap .u32 ((48:Int)+((r%10:Nat):Int))=((48+r%10:Nat):Int):=by rw [rM (by omega) (by omega)];omega
     have az6:aj .quo (.int .u32 (r:Int)) (.int .u32 10)=some (.int .u32 ((r / 10:Nat):Int)):=by
      have h10:¬((10:Int)=0):=by omega
      simp only [aj,jw,if_true,if_neg h10]
      have e:(r:Int).tdiv 10=((r / 10:Nat):Int):=rfl
      rw [e,rM (by omega) (by omega)]
     simp only [gf]
     rw [show (.int .u32 10:Value)=.int .u32 ((10:Nat):Int) from rfl,zC _ _ _ (by decide)]
     simp only [ah,bZ,ed,nV]
     rw [an2 (by omega) (by omega),Cn (show r%10<10 by omega)]
     refine auf (x:=jN (r%10)) Qu P4 (by simp;omega) ?_
     intro v' dN aAP CW Ik
     rw [show (.int .u32 ((10:Nat):Int):Value)=.int .u32 10 from rfl,az6]
     simp only [ah,inc i (by omega),true_and]
     have jY:fm dN q qn:=Ik q qn Is
     refine dP (v',c++[r%10],r / 10,i+1,dN) ⟨aAP,jY,by simpa using CW,Il.append (λx hx=>by simp at hx;omega),by show i+1<=9;omega,?_,by show (c++[r%10]).length<=b.length+(i+1);simp;omega,?_,?_⟩ (by show 9-(i+1)<9-i;omega)
     ·show r / 10<10^(9-(i+1))
      rw [show 9-i=(9-(i+1))+1 by omega,pow_succ] at hr
      exact (Nat.div_lt_iff_lt_mul (by decide)).2 hr
     ·show val 10 (c++[r%10])+10^(c++[r%10]).length*(r / 10+10^(9-(i+1))*qn)=n
      rw [oT,List.length_append,List.length_singleton,pow_succ]
      rw [show 9-i=(9-(i+1))+1 by omega,pow_succ] at Df
      have mB:=Nat.div_add_mod r 10
      simp only [val,Nat.mul_zero,add_zero]
      generalize r / 10=r1 at*
      generalize r%10=d at*
      generalize 10^c.length=P at*
      generalize 10^(9-(i+1))=Q at*
      generalize val 10 c=V at*
      clear hL dP hr PZ dD stop
      subst mB
      grind
     ·intro h1 h2
      have h2:r / 10=0:=h2
      refine Hg (Il.append (λx hx=>by simp at hx;omega)) ?_
      intro _
      have:0<r:=by rcases tM with h | h;omega;exact h
      simp
      omega
    by_cases Qz:0<qn
    ·rw [dh (show (0:Int)<(l2:Int) by omega)]
     simp only [UE,o0,JR,fy,ah,gq,JS]
     exact step (.inl Qz)
    ·rw [bY (show ¬(0:Int)<(l2:Int) by omega)]
     simp only [UE,eW,gC,ah]
     by_cases sm:0<r
     ·rw [dh (show (0:Int)<(r:Int) by omega)]
      simp only [JR,gq,dA,ah,JS,fy]
      exact step (.inr sm)
     ·rw [bY (show ¬(0:Int)<(r:Int) by omega)]
      simp only [JR,gq,dA,ah,JS,fy,dm]
      exact stop (by omega) (.inr (by omega))
   ·have:i=9:=by omega
    subst this
    rw [bY (show ¬((9:Nat):Int)<9 by omega)]
    simp only [anf,jd,UE,BK,JR,JS,dA,ah,dm]
    exact stop (by simpa using hr) (.inl rfl)
  ·have nD:m=0:=by omega
   subst nD
   have hc:=yx rfl
   rw [Nat.mul_zero,add_zero] at dD
   have hb:b=tf n:=eL.unique (by decide) hc (Hv n).1 (by rw [dD,(Hv n).2])
   have aen:b≠[]:=by rintro rfl;simp [val] at dD;omega
   have CF:b.length<=2000:=by
    have h1:=eL.low (by decide) hc aen
    have h2:=af6 (b:=b.length-1) (m:=1) (n:=n) (by decide) (by omega) la
    omega
   rw [aIA]
   obtain ⟨id,iH,hv,hg⟩:∃id,h.length<=id/\bv=sl 5 id 0 (b.map jN).length/\hx[id]?=some (.arr 5 ((b.map jN).map cv)):=by
    rcases nF with ⟨_,h0⟩ | ⟨id,h1,h2,h3⟩
    ·exact absurd (by simpa using h0) aen
    ·exact ⟨id,h1,by simpa using h2,h3⟩
   rw [hv]
   refine aor hg (by simp;omega) ?_
   have aA0:=(cm hg).1
   have b2:ry (Go.Proofs.YtncaiogfjjepcaaGreat.hb hx id (b.map jN).reverse) (sl 5 id 0 (b.map jN).length)=some (S (b.map jN).reverse):=by
    refine xS (b:=0) (e:=5) (l:=(b.map jN).reverse) (.inr ⟨id,zero_le _,by simp,?_⟩)
    rw [H5 aA0]
   simp only [b2,ah]
   have:(b.map jN).reverse=jO n:=by unfold jO;rw [if_neg (by omega),hb]
   rw [this]
   exact hk _ (hex.set iH _)
end
section
variable (P : Program) (K : VK)
noncomputable section
variable (x0 q1 y5 aC aZ : Value) (h : ae)
def ahi:=cj prog 17 [[],[],[0,5,13],[13,16],[]]
@[irreducible] def Gc:=cD ahi
@[irreducible] def Zo:=Gc.r.r.l.r.l
@[irreducible] def avF:=Gc.r.r.r
@[irreducible] def avG:=Zo.r.l
theorem k17:ahi=some (18,Gc,[.tmp 4]):=by kernel_rfl
def WU (_P:Program) (K:VK):ax:=aW [.tmp 4] K
def WV:ax:=aH (au P avF (WU P K)) (WU P K)
def ajy:Prop:=aA (au P Zo (WV P K)) [0,5,13] [x0,y5,aC] h
def Sw:Prop:=aA (au P avG (WV P K)) [13,16] [aC,aZ] h
theorem aEN:Sw P K aC aZ h=
 (OP (bu aC aZ (.bool false)) λbM=>
 K bM h):=aB (by kernel_rfl)
theorem aEM:ajy P K x0 y5 aC h=
 (bQ aC true
 (OP (aj .eql x0 y5) λaZ=>
 Sw P K aC aZ h)
 (Sw P K aC undef h)):=aB (by kernel_rfl)
def Mk:Prop:=
 OH (cR 57 h q1) λq3 z1=>
 OP (af true 4 z1 q3) λx8=>
 ay P 40 [x8] z1 λx9 z2=>
 OP (cW 0 x9) λaE=>
 OP (cW 1 x9) λaG=>
 ajy P K x0 aE aG z2
theorem e17:au P Gc (aW [.tmp 4] K) (cg [x0,q1]) h=Mk P K x0 q1 h:=by kernel_rfl
theorem f17 {K:VK} {x0 q1:Value} {h:ae} (H:Mk prog K x0 q1 h):ay prog 17 [x0,q1] h K:=
 cC k17 (cE rfl) ((e17 prog K x0 q1 h).mpr H)
end
noncomputable section
variable (v0 : Value) (h : ae)
def ahj:=cj prog 18 [[],[]]
@[irreducible] def Zp:=cD ahj
theorem k18:ahj=some (7,Zp,[.cell true 4 2]):=by kernel_rfl
def Ml:Prop:=
 OH (cF 57 [(.bool false),(.slice none 0 0),(.bool false),(.slice none 0 0)] h) λx2 z1=>
 ay P 41 [v0] z1 λx4 z2=>
 ay P 41 [(.int .i64 (1))] z2 λx5 z3=>
 OP (eI [(.bool false),(.slice none 0 0),(.bool false),(.slice none 0 0)] [(0,2,x4),(2,2,x5)]) λx6=>
 OH (aU 4 z3 x2 x6) λ_ z4=>
 OP (af true 4 z4 x2) λr0=>
 K r0 z4
theorem e18:au P Zp (aW [.cell true 4 2] K) (cg [v0]) h=Ml P K v0 h:=by kernel_rfl
theorem f18 {K:VK} {v0:Value} {h:ae} (H:Ml prog K v0 h):ay prog 18 [v0] h K:=
 cC k18 (cE rfl) ((e18 prog K v0 h).mpr H)
end
noncomputable section
variable (q0 q1 s4 d5 bA aR : Value) (h : ae)
def ahG:=cj prog 40 [[],[],[],[1,4,5,18],[1,4,5,18,21],[],[],[],[],[4,5],[],[4],[]]
@[irreducible] def B9:=cD ahG
@[irreducible] def abe:=B9.r.r.r.l.l.r.l
@[irreducible] def aw5:=B9.r.r.r.l.r
@[irreducible] def abd:=B9.r.r.r.r
@[irreducible] def aw6:=abe.r.l
@[irreducible] def abc:=abd.r.l
@[irreducible] def aw4:=abc.r.l
theorem k40:ahG=some (35,B9,[.tmp 2,.tmp 3]):=by kernel_rfl
def E7 (_P:Program) (K:VK):ax:=aW [.tmp 2,.tmp 3] K
def Xu:ax:=aH (au P abd (E7 P K)) (E7 P K)
def Xv:ax:=aH (au P aw5 (Xu P K)) (Xu P K)
def ak2:Prop:=aA (au P abe (Xv P K)) [1,4,5,18] [q1,s4,d5,bA] h
def Tu:Prop:=aA (au P aw6 (Xv P K)) [1,4,5,18,21] [q1,s4,d5,bA,aR] h
def Js:Prop:=aA (au P abc (E7 P K)) [4,5] [s4,d5] h
def Tt:Prop:=aA (au P aw4 (E7 P K)) [4] [s4] h
theorem aG9:Tu P K q1 s4 d5 bA aR h=
 (OP (bu bA (.bool true) aR) λbK=>
 aJ bK
 (K (.tuple #[(.string ⟨#[]⟩),(.bool false)]) h)
 (OP (aF 0 q1) λbB=>
 OP (aF 0 bB) λbm=>
 OP (af false 1 h bm) λbH=>
 aJ bH
 (OP (aj .add (.string ⟨#[45]⟩) s4) λbO=>
 Js P K bO d5 h)
 (Js P K s4 d5 h))):=aB (by kernel_rfl)
theorem aG8:ak2 P K q1 s4 d5 bA h=
 (bQ bA false
 (OP (wV d5) λaI=>
 OP (aj .gtr aI (.int .i64 (4000))) λaR=>
 Tu P K q1 s4 d5 bA aR h)
 (Tu P K q1 s4 d5 bA undef h)):=aB (by kernel_rfl)
theorem aG7:Tt P K s4 h=
 (K (.tuple #[s4,(.bool true)]) h):=aB (by kernel_rfl)
theorem aG6:Js P K s4 d5 h=
 (OP (aj .neq d5 (.string ⟨#[49]⟩)) λca=>
 aJ ca
 (OP (aj .add (.string ⟨#[47]⟩) d5) λdJ=>
 OP (aj .add s4 dJ) λb9=>
 Tt P K b9 h)
 (Tt P K s4 h)):=aB (by kernel_rfl)
def MH:Prop:=
 OH (cR 57 h q0) λq1 z1=>
 OP (af true 4 z1 q1) λx6=>
 ay P 68 [x6] z1 λx7 z2=>
 OH (aU 4 z2 q1 x7) λ_ z3=>
 OP (aF 0 q1) λx8=>
 OP (af true 2 z3 x8) λx9=>
 (True)/\
 ay P 70 [x9] z3 λaE z4=>
 (True)/\
 ay P 69 [aE] z4 λaG z5=>
 (True)/\
 OP (aF 2 q1) λaM=>
 OP (af true 2 z5 aM) λaC=>
 (af true 2 z3 aM=some aC/\af true 2 z4 aM=some aC/\True)/\
 ay P 69 [aC] z5 λaP z6=>
 (True)/\
 OP (wV aG) λaZ=>
 OP (aj .gtr aZ (.int .i64 (4000))) λbM=>
 ak2 P K q1 aG aP bM z6
theorem e40:au P B9 (aW [.tmp 2,.tmp 3] K) (cg [q0]) h=MH P K q0 h:=by kernel_rfl
theorem f40 {K:VK} {q0:Value} {h:ae} (H:MH prog K q0 h):ay prog 40 [q0] h K:=
 cC k40 (cE rfl) ((e40 prog K q0 h).mpr H)
end
noncomputable section
variable (v0 x2 z3 d4 : Value) (L1 : LQ) (xs : List Value) (h : ae)
def ahH:=cj prog 41 [[],[],[2,3],[0],[],[],[],[],[0,2,3,4],[],[2,3],[]]
@[irreducible] def GC:=cD ahH
@[irreducible] def abg:=GC.r.r.l.l.l
@[irreducible] def abf:=GC.r.r.r
@[irreducible] def aw7:=abg.r.l.r.r.l
@[irreducible] def aw8:=abf.l
theorem k41:ahH=some (25,GC,[.cell true 2 2]):=by kernel_rfl
def Lb (_P:Program) (K:VK):ax:=aW [.cell true 2 2] K
def arV:ax:=aH (au P abf (Lb P K)) (Lb P K)
def arW:ax:=bC 0 (arV P K)
def Xw:ax:=aH (λf' aQ=>(([2,3]:List Nat).map f':List Value)=[x2,z3]/\L1 (([0]:List Nat).map f') aQ) (arW P K)
def arX:ax:=bC 1 (Xw P K x2 z3 L1)
def ak4:Prop:=aA (au P abg (Xw P K x2 z3 L1)) ([2,3]++[0]) ([x2,z3]++xs) h
def Jt:Prop:=aA (au P aw7 (arX P K x2 z3 L1)) [0,2,3,4] [v0,x2,z3,d4] h
def ak3:Prop:=aA (au P aw8 (Lb P K)) [2,3] [x2,z3] h
theorem aHa:Jt P K v0 x2 z3 d4 L1 h=
 (OP (aF 1 z3) λaZ=>
 OP (af false 1 h aZ) λbM=>
 OH (cH 3 1 [(.int .i64 (0))] h [(0,1,d4)]) λaS h_1=>
 OH (cT 3 1 8 h_1 bM aS) λaI h_2=>
 OP (aF 1 z3) λaR=>
 OH (aU 1 h_2 aR aI) λ_ h_3=>
 OP (aj .quo v0 (.int .i64 (10000))) λbB=>
 ([x2,z3]:List Value)=[x2,z3]/\L1 [bB] h_3):=aB (by kernel_rfl)
theorem aHc (x2 z3:Value) (L1:LQ) (v0:Value) (h:ae):ak4 P K x2 z3 L1 [v0] h=
 (OP (aj .neq v0 (.int .i64 (0))) λx9=>
 aJ x9
 (OP (aj .rem v0 (.int .i64 (10000))) λaG=>
 OP (aj .lss aG (.int .i64 (0))) λaC=>
 aJ aC
 (OP (gG .neg aG) λaX=>
 Jt P K v0 x2 z3 aX L1 h)
 (Jt P K v0 x2 z3 aG L1 h))
 (ak3 P K x2 z3 h)):=aB (by kernel_rfl)
theorem aHb:ak3 P K x2 z3 h=
 (OP (af true 2 h z3) λbm=>
 OH (aU 2 h x2 bm) λ_ h_1=>
 OP (af true 2 h_1 x2) λr0=>
 K r0 h_1):=aB (by kernel_rfl)
def MJ:Prop:=
 OH (cF 55 [(.bool false),(.slice none 0 0)] h) λx2 h_1=>
 OP (aj .lss v0 (.int .i64 (0))) λx6=>
 OP (eI [(.bool false),(.slice none 0 0)] [(0,1,x6)]) λx7=>
 OH (cF 55 [(.bool false),(.slice none 0 0)] h_1) λz3 h_2=>
 OH (aU 2 h_2 z3 x7) λ_ h_3=>
 bX [v0] h_3 λL1 xs hx=>
 ak4 P K x2 z3 L1 xs hx
theorem e41:au P GC (aW [.cell true 2 2] K) (cg [v0]) h=MJ P K v0 h:=by kernel_rfl
theorem f41 {K:VK} {v0:Value} {h:ae} (H:MJ prog K v0 h):ay prog 41 [v0] h K:=
 cC k41 (cE rfl) ((e41 prog K v0 h).mpr H)
end
noncomputable section
variable (q0 : Value) (h : ae)
def ah8:=cj prog 68 [[],[],[],[],[]]
@[irreducible] def c68:=cD ah8
theorem k68:ah8=some (30,c68,[.cell true 4 2]):=by kernel_rfl
def Na:Prop:=
 OH (cR 57 h q0) λq1 z1=>
 OH (cF 57 [(.bool false),(.slice none 0 0),(.bool false),(.slice none 0 0)] z1) λx2 z2=>
 OP (aF 0 q1) λx8=>
 OP (af true 2 z2 x8) λx9=>
 OP (aF 2 q1) λaE=>
 OP (af true 2 z2 aE) λaG=>
 ay P 95 [x9,aG] z2 λaM z3=>
 OH (cF 55 [(.bool false),(.slice none 0 0)] z3) λg3 z4=>
 OH (aU 2 z4 g3 aM) λ_ z5=>
 OP (aF 0 q1) λaP=>
 OP (af true 2 z5 aP) λaX=>
 OP (af true 2 z5 g3) λaZ=>
 ay P 96 [aX,aZ] z5 λbM z6=>
 OP (cW 0 bM) λbA=>
 OP (cW 1 bM) λaS=>
 OH (cF 55 [(.bool false),(.slice none 0 0)] z6) λn4 z7=>
 OH (cF 55 [(.bool false),(.slice none 0 0)] z7) λx5 z8=>
 OH (aU 2 z8 n4 bA) λ_ z9=>
 OH (aU 2 z9 x5 aS) λ_ qK=>
 OP (aF 2 q1) λaR=>
 OP (af true 2 qK aR) λbK=>
 OP (af true 2 qK g3) λbB=>
 ay P 96 [bK,bB] qK λbm zX=>
 OP (cW 0 bm) λbH=>
 OP (cW 1 bm) λbW=>
 OH (cF 55 [(.bool false),(.slice none 0 0)] zX) λd6 z12=>
 OH (cF 55 [(.bool false),(.slice none 0 0)] z12) λx7 VG=>
 OH (aU 2 VG d6 bH) λ_ VH=>
 OH (aU 2 VH x7 bW) λ_ zY=>
 OP (af true 2 zY n4) λbO=>
 OP (af true 2 zY d6) λcL=>
 OP (eI [(.bool false),(.slice none 0 0),(.bool false),(.slice none 0 0)] [(0,2,bO),(2,2,cL)]) λca=>
 OH (aU 4 zY x2 ca) λ_ Ey=>
 OP (af true 4 Ey x2) λr0=>
 K r0 Ey
theorem e68:au P c68 (aW [.cell true 4 2] K) (cg [q0]) h=Na P K q0 h:=by kernel_rfl
theorem f68 {K:VK} {q0:Value} {h:ae} (H:Na prog K q0 h):ay prog 68 [q0] h K:=
 cC k68 (cE rfl) ((e68 prog K q0 h).mpr H)
end
noncomputable section
variable (z0 z1 s3 i4 : Value) (L1 : LQ) (xs : List Value) (h : ae)
def ah9:=cj prog 69 [[],[],[],[],[],[],[1],[3,4],[],[],[],[],[],[3],[],[3],[],[],[3],[]]
@[irreducible] def GS:=cD ah9
@[irreducible] def axX:=GS.r.r.r.l.r.l.l
@[irreducible] def ace:=GS.r.r.r.r
@[irreducible] def OK:=ace.l
@[irreducible] def axV:=OK.l.l.l
@[irreducible] def acd:=OK.r
@[irreducible] def axW:=acd.l
theorem k69:ah9=some (53,GS,[.tmp 2]):=by kernel_rfl
def Ao (_P:Program) (K:VK):ax:=aW [.tmp 2] K
def as4:ax:=aH (au P ace (Ao P K)) (Ao P K)
def as5:ax:=bC 0 (as4 P K)
def as6:ax:=aH (λf' aQ=>(([1]:List Nat).map f':List Value)=[z1]/\L1 (([3,4]:List Nat).map f') aQ) (as5 P K)
def as1:ax:=aH (au P acd (Ao P K)) (Ao P K)
def as2:ax:=bC 2 (as1 P K)
def as3:ax:=aH (λf' aQ=>(([]:List Nat).map f':List Value)=[]/\L1 (([3]:List Nat).map f') aQ) (as2 P K)
def alM:Prop:=aA (au P axX (as6 P K z1 L1)) ([1]++[3,4]) ([z1]++xs) h
def alJ:Prop:=aA (au P OK (Ao P K)) [3] [s3] h
def alK:Prop:=aA (au P axV (as3 P K L1)) ([]++[3]) ([]++xs) h
def alL:Prop:=aA (au P axW (Ao P K)) [3] [s3] h
theorem aIc (z1:Value) (L1:LQ) (s3 i4:Value) (h:ae):alM P K z1 L1 [s3,i4] h=
 (OP (aj .geq i4 (.int .i64 (0))) λaZ=>
 aJ aZ
 (OP (aF 1 z1) λaS=>
 OP (af false 1 h aS) λaI=>
 OP (aD 1 aI i4) λbK=>
 OP (af false 1 h bK) λbB=>
 OP (aj .quo bB (.int .i64 (1000))) λbH=>
 OP (aj .add (.int .i64 (48)) bH) λbW=>
 OP (dI .u8 bW) λbO=>
 OP (aj .quo bB (.int .i64 (100))) λca=>
 OP (aj .rem ca (.int .i64 (10))) λaV=>
 OP (aj .add (.int .i64 (48)) aV) λbz=>
 OP (dI .u8 bz) λdJ=>
 OP (aj .quo bB (.int .i64 (10))) λcA=>
 OP (aj .rem cA (.int .i64 (10))) λcB=>
 OP (aj .add (.int .i64 (48)) cB) λaY=>
 OP (dI .u8 aY) λbG=>
 OP (aj .rem bB (.int .i64 (10))) λdW=>
 OP (aj .add (.int .i64 (48)) dW) λcI=>
 OP (dI .u8 cI) λcU=>
 OH (cH 5 4 [(.int .u8 (0))] h [(0,1,bO),(1,1,dJ),(2,1,bG),(3,1,cU)]) λeg h_1=>
 OP (ry h_1 eg) λcO=>
 OP (aj .add s3 cO) λeT=>
 OP (aj .sub i4 (.int .i64 (1))) λbA=>
 ([z1]:List Value)=[z1]/\L1 [eT,bA] h_1)
 (alJ P K s3 h)):=aB (by kernel_rfl)
theorem aIa (L1:LQ) (s3:Value) (h:ae):alK P K L1 [s3] h=
 (OP (tQ s3 (.int .i64 (0))) λfE=>
 OP (aj .eql fE (.int .u8 (48))) λfX=>
 aJ fX
 (OP (yY s3 (some (.int .i64 (1))) none) λer=>
 ([]:List Value)=[]/\L1 [er] h)
 (alL P K s3 h)):=aB (by kernel_rfl)
theorem aIb:alL P K s3 h=
 (K s3 h):=aB (by kernel_rfl)
theorem aH9:alJ P K s3 h=
 (bX [s3] h λL1 xs hx=>
 alK P K L1 xs hx):=aB (by kernel_rfl)
def Nb:Prop:=
 OH (cR 55 h z0) λz1 h_1=>
 OP (aF 1 z1) λx7=>
 OP (af false 1 h_1 x7) λx8=>
 OP (aT x8) λx9=>
 OP (aj .eql x9 (.int .i64 (0))) λaE=>
 aJ aE
 (K (.string ⟨#[48]⟩) h_1)
 (OP (aF 1 z1) λaG=>
 OP (af false 1 h_1 aG) λaM=>
 OP (aT aM) λaC=>
 OP (aj .sub aC (.int .i64 (1))) λaP=>
 bX [(.string ⟨#[]⟩),aP] h_1 λL1 xs hx=>
 alM P K z1 L1 xs hx)
theorem e69:au P GS (aW [.tmp 2] K) (cg [z0]) h=Nb P K z0 h:=by kernel_rfl
theorem f69 {K:VK} {z0:Value} {h:ae} (H:Nb prog K z0 h):ay prog 69 [z0] h K:=
 cC k69 (cE rfl) ((e69 prog K z0 h).mpr H)
end
noncomputable section
variable (a0 : Value) (h : ae)
def aib:=cj prog 70 [[],[],[]]
@[irreducible] def c70:=cD aib
theorem k70:aib=some (5,c70,[.cell true 2 2]):=by kernel_rfl
def Nc (_P:Program) (K:VK) (a0:Value) (h:ae):Prop:=
 OH (cR 55 h a0) λa1 z1=>
 OH (cF 55 [(.bool false),(.slice none 0 0)] z1) λx2 z2=>
 OP (aF 0 a1) λx3=>
 OH (aU 1 z2 x3 (.bool false)) λ_ z3=>
 OP (af true 2 z3 a1) λx4=>
 OH (aU 2 z3 x2 x4) λ_ z4=>
 OP (af true 2 z4 x2) λr0=>
 K r0 z4
theorem e70:au P c70 (aW [.cell true 2 2] K) (cg [a0]) h=Nc P K a0 h:=by kernel_rfl
theorem f70 {K:VK} {a0:Value} {h:ae} (H:Nc prog K a0 h):ay prog 70 [a0] h K:=
 cC k70 (cE rfl) ((e70 prog K a0 h).mpr H)
end
noncomputable section
variable (a0 b1 a2 b3 x4 : Value) (L1 : LQ) (xs : List Value) (h : ae)
def aiA:=cj prog 95 [[],[],[2,3,4],[],[],[],[],[2,4],[]]
@[irreducible] def Ha:=cD aiA
@[irreducible] def ayI:=Ha.r.r.l.l.l
@[irreducible] def acT:=Ha.r.r.r
@[irreducible] def ayH:=acT.l
theorem k95:aiA=some (24,Ha,[.cell true 2 4]):=by kernel_rfl
def LB (_P:Program) (K:VK):ax:=aW [.cell true 2 4] K
def atT:ax:=aH (au P acT (LB P K)) (LB P K)
def atU:ax:=bC 0 (atT P K)
def atV:ax:=aH (λf' aQ=>(([2,3,4]:List Nat).map f':List Value)=[a2,b3,x4]/\L1 (([]:List Nat).map f') aQ) (atU P K)
def ams:Prop:=aA (au P ayI (atV P K a2 b3 x4 L1)) ([2,3,4]++[]) ([a2,b3,x4]++xs) h
def amr:Prop:=aA (au P ayH (LB P K)) [2,4] [a2,x4] h
theorem aI0:ams P K a2 b3 x4 L1 [] h=
 (OP (aF 1 b3) λaG=>
 OP (af false 1 h aG) λaM=>
 OP (aT aM) λaC=>
 OP (aj .gtr aC (.int .i64 (0))) λaP=>
 aJ aP
 (OP (af true 2 h a2) λaZ=>
 OP (af true 2 h b3) λbM=>
 ay P 96 [aZ,bM] h λbA z1=>
 OP (cW 0 bA) λaS=>
 OP (cW 1 bA) λaI=>
 OH (cF 55 [(.bool false),(.slice none 0 0)] z1) λx5 z2=>
 OH (cF 55 [(.bool false),(.slice none 0 0)] z2) λx6 z3=>
 OH (aU 2 z3 x5 aS) λ_ z4=>
 OH (aU 2 z4 x6 aI) λ_ z5=>
 OP (af true 2 z5 b3) λaR=>
 (True)/\
 OP (af true 2 z5 x6) λbK=>
 (True)/\
 OH (aU 2 z5 a2 aR) λ_ z6=>
 (af true 2 z6 x6=some bK/\True)/\
 OH (aU 2 z6 b3 bK) λ_ z7=>
 (True)/\
 ([a2,b3,x4]:List Value)=[a2,b3,x4]/\L1 [] z7)
 (amr P K a2 x4 h)):=aB (by kernel_rfl)
theorem aIZ:amr P K a2 x4 h=
 (OP (af true 2 h a2) λbB=>
 OH (aU 2 h x4 bB) λ_ z1=>
 OP (af true 2 z1 x4) λr0=>
 K r0 z1):=aB (by kernel_rfl)
def Nz:Prop:=
 OH (cR 55 h a0) λa2 z1=>
 OH (cR 55 z1 b1) λb3 z2=>
 OH (cF 55 [(.bool false),(.slice none 0 0)] z2) λx4 z3=>
 OP (af true 2 z3 a2) λx7=>
 (True)/\
 ay P 70 [x7] z3 λx8 z4=>
 (True)/\
 OP (af true 2 z4 b3) λx9=>
 (af true 2 z3 b3=some x9/\True)/\
 ay P 70 [x9] z4 λaE z5=>
 (True)/\
 OH (aU 2 z5 a2 x8) λ_ z6=>
 (True)/\
 OH (aU 2 z6 b3 aE) λ_ z7=>
 (True)/\
 bX [] z7 λL1 xs hx=>
 ams P K a2 b3 x4 L1 xs hx
theorem e95:au P Ha (aW [.cell true 2 4] K) (cg [a0,b1]) h=Nz P K a0 b1 h:=by kernel_rfl
theorem f95 {K:VK} {a0 b1:Value} {h:ae} (H:Nz prog K a0 b1 h):ay prog 95 [a0,b1] h K:=
 cC k95 (cE rfl) ((e95 prog K a0 b1 h).mpr H)
end
noncomputable section
variable (a0 b1 a2 b3 x4 x5 q6 x7 i8 x9 aE aM aC ie dB : Value) (L1 L2 : LQ) (xs : List Value) (h : ae)
def aiB:=cj prog 96 [[],[],[],[2,3,4,5,6],[7,8],[],[],[],[],[2,3,4,5,6,7,8],[9,10],[],[],[],[],[2,3,4,5,6,7,8,9],[],[2,3,4,5,6,7,8],[2,3,4,5,6,7],[],[3,4,5,12,13,78],[3,4,5,12,13,78,82],[],[],[],[]]
@[irreducible] def Hb:=cD aiB
@[irreducible] def Hd:=Hb.r.r.l.r.l.l
@[irreducible] def acW:=Hb.r.r.r
@[irreducible] def ayJ:=Hd.r.l.l.r.r.l.l.l
@[irreducible] def acU:=Hd.r.l.l.r.r.r
@[irreducible] def acX:=Hd.r.r
@[irreducible] def Hc:=acW.l
@[irreducible] def ayK:=acU.l
@[irreducible] def ayL:=acX.l
@[irreducible] def acV:=Hc.r.l.l.r.l
@[irreducible] def ayN:=Hc.r.l.r
@[irreducible] def ayM:=Hc.r.r
@[irreducible] def ayO:=acV.r.l
theorem k96:aiB=some (92,Hb,[.cell true 2 4,.cell true 2 5]):=by kernel_rfl
def BR (_P:Program) (K:VK):ax:=aW [.cell true 2 4,.cell true 2 5] K
def atZ:ax:=aH (au P acW (BR P K)) (BR P K)
def at0:ax:=bC 0 (atZ P K)
def Fs:ax:=aH (λf' aQ=>(([2,3,4,5,6]:List Nat).map f':List Value)=[a2,b3,x4,x5,q6]/\L1 (([7,8]:List Nat).map f') aQ) (at0 P K)
def at2:ax:=aH (au P acX (Fs P K a2 b3 x4 x5 q6 L1)) (Fs P K a2 b3 x4 x5 q6 L1)
def LC:ax:=bC 1 (at2 P K a2 b3 x4 x5 q6 L1)
def atW:ax:=aH (au P acU (LC P K a2 b3 x4 x5 q6 L1)) (LC P K a2 b3 x4 x5 q6 L1)
def atX:ax:=bC 2 (atW P K a2 b3 x4 x5 q6 L1)
def atY:ax:=aH (λf' aQ=>(([2,3,4,5,6,7,8]:List Nat).map f':List Value)=[a2,b3,x4,x5,q6,x7,i8]/\L2 (([9,10]:List Nat).map f') aQ) (atX P K a2 b3 x4 x5 q6 L1)
def XY:ax:=aH (au P ayM (BR P K)) (BR P K)
def XZ:ax:=aH (au P ayN (XY P K)) (XY P K)
def amy:Prop:=aA (au P Hd (Fs P K a2 b3 x4 x5 q6 L1)) ([2,3,4,5,6]++[7,8]) ([a2,b3,x4,x5,q6]++xs) h
def amt:Prop:=aA (au P ayJ (atY P K a2 b3 x4 x5 q6 x7 i8 L1 L2)) ([2,3,4,5,6,7,8]++[9,10]) ([a2,b3,x4,x5,q6,x7,i8]++xs) h
def amu:Prop:=aA (au P ayK (LC P K a2 b3 x4 x5 q6 L1)) [2,3,4,5,6,7,8,9] [a2,b3,x4,x5,q6,x7,i8,x9] h
def amv:Prop:=aA (au P ayL (Fs P K a2 b3 x4 x5 q6 L1)) [2,3,4,5,6,7,8] [a2,b3,x4,x5,q6,x7,i8] h
def amw:Prop:=aA (au P Hc (BR P K)) [2,3,4,5,6,7] [a2,b3,x4,x5,q6,x7] h
def amx:Prop:=aA (au P acV (XZ P K)) [3,4,5,12,13,78] [b3,x4,x5,aM,aC,ie] h
def DL:Prop:=aA (au P ayO (XZ P K)) [3,4,5,12,13,78,82] [b3,x4,x5,aM,aC,ie,dB] h
theorem aI1 (a2 b3 x4 x5 q6 x7 i8:Value) (L1 L2:LQ) (x9 aE:Value) (h:ae):amt P K a2 b3 x4 x5 q6 x7 i8 L1 L2 [x9,aE] h=
 (OP (aj .sub aE x9) λcI=>
 OP (aj .gtr cI (.int .i64 (1))) λcU=>
 aJ cU
 (OP (aj .add x9 aE) λcP=>
 OP (aj .quo cP (.int .i64 (2))) λdC=>
 OP (aF 1 b3) λeT=>
 OP (af false 1 h eT) λgn=>
 ay P 127 [gn,dC] h λfX z1=>
 ay P 126 [fX,x7] z1 λer z2=>
 OP (aj .leq er (.int .i64 (0))) λfI=>
 aJ fI
 (([a2,b3,x4,x5,q6,x7,i8]:List Value)=[a2,b3,x4,x5,q6,x7,i8]/\L2 [dC,aE] z2)
 (([a2,b3,x4,x5,q6,x7,i8]:List Value)=[a2,b3,x4,x5,q6,x7,i8]/\L2 [x9,dC] z2))
 (amu P K a2 b3 x4 x5 q6 x7 i8 x9 L1 h)):=aB (by kernel_rfl)
theorem aI2:amu P K a2 b3 x4 x5 q6 x7 i8 x9 L1 h=
 (OP (aD 1 q6 i8) λfS=>
 OH (aU 1 h fS x9) λ_ z1=>
 OP (aF 1 b3) λgL=>
 OP (af false 1 z1 gL) λfT=>
 ay P 127 [fT,x9] z1 λhZ z2=>
 ay P 128 [x7,hZ] z2 λkf z3=>
 OP (eI [(.bool false),(.slice none 0 0)] [(1,1,kf)]) λjA=>
 ay P 125 [jA] z3 λkZ z4=>
 OP (yX false 1 1 kZ) λgy=>
 amv P K a2 b3 x4 x5 q6 gy i8 L1 z4):=aB (by kernel_rfl)
theorem aI3:amv P K a2 b3 x4 x5 q6 x7 i8 L1 h=
 (OP (aj .sub i8 (.int .i64 (1))) λbW=>
 ([a2,b3,x4,x5,q6]:List Value)=[a2,b3,x4,x5,q6]/\L1 [x7,bW] h):=aB (by kernel_rfl)
theorem aI6 (a2 b3 x4 x5 q6:Value) (L1:LQ) (x7 i8:Value) (h:ae):amy P K a2 b3 x4 x5 q6 L1 [x7,i8] h=
 (OP (aj .geq i8 (.int .i64 (0))) λbm=>
 aJ bm
 (OP (aF 1 a2) λbO=>
 OP (af false 1 h bO) λcL=>
 OP (aD 1 cL i8) λaV=>
 OP (af false 1 h aV) λbz=>
 OH (cH 3 1 [(.int .i64 (0))] h [(0,1,bz)]) λdJ z1=>
 OH (cT 3 1 8 z1 dJ x7) λcA z2=>
 OP (eI [(.bool false),(.slice none 0 0)] [(1,1,cA)]) λcB=>
 ay P 125 [cB] z2 λaY z3=>
 OP (yX false 1 1 aY) λbG=>
 bX [(.int .i64 (0)),(.int .i64 (10000))] z3 λL2 xs hx=>
 amt P K a2 b3 x4 x5 q6 bG i8 L1 L2 xs hx)
 (amw P K a2 b3 x4 x5 q6 x7 h)):=aB (by kernel_rfl)
theorem UF:DL P K b3 x4 x5 aM aC ie dB h=
 (OP (bu ie dB (.bool false)) λgY=>
 aJ gY
 (OP (af true 2 h aM) λgM=>
 (True)/\
 ay P 41 [(.int .i64 (1))] h λjV z1=>
 (af true 2 z1 aM=some gM/\True)/\
 ay P 129 [gM,jV] z1 λjW z2=>
 (True)/\
 OP (af true 2 z2 b3) λkh=>
 (af true 2 h b3=some kh/\af true 2 z1 b3=some kh/\True)/\
 OP (af true 2 z2 aC) λeC=>
 (af true 2 h aC=some eC/\af true 2 z1 aC=some eC/\True)/\
 ay P 129 [kh,eC] z2 λeP z3=>
 (True)/\
 OH (aU 2 z3 x4 jW) λ_ z4=>
 (True)/\
 OH (aU 2 z4 x5 eP) λ_ z5=>
 (True)/\
 OP (af true 2 z5 x4) λr0=>
 OP (af true 2 z5 x5) λr1=>
 K (.tuple #[r0,r1]) z5)
 (OP (af true 2 h aM) λkH=>
 (True)/\
 OP (af true 2 h aC) λjr=>
 (True)/\
 OH (aU 2 h x4 kH) λ_ z1=>
 (af true 2 z1 aC=some jr/\True)/\
 OH (aU 2 z1 x5 jr) λ_ z2=>
 (True)/\
 OP (af true 2 z2 x4) λr0=>
 OP (af true 2 z2 x5) λr1=>
 K (.tuple #[r0,r1]) z2)):=aB (by kernel_rfl)
theorem aI5:amx P K b3 x4 x5 aM aC ie h=
 (bQ ie true
 (OP (aF 1 aC) λlN=>
 OP (af false 1 h lN) λjU=>
 OP (aT jU) λcJ=>
 OP (aj .gtr cJ (.int .i64 (0))) λdB=>
 DL P K b3 x4 x5 aM aC ie dB h)
 (DL P K b3 x4 x5 aM aC ie undef h)):=aB (by kernel_rfl)
theorem aI4:amw P K a2 b3 x4 x5 q6 x7 h=
 (OP (aF 0 a2) λfA=>
 OP (af false 1 h fA) λdZ=>
 OP (eI [(.bool false),(.slice none 0 0)] [(0,1,dZ),(1,1,q6)]) λgA=>
 ay P 125 [gA] h λoh z1=>
 OP (eI [(.bool false),(.slice none 0 0)] [(1,1,x7)]) λiW=>
 ay P 125 [iW] z1 λfF z2=>
 OH (cF 55 [(.bool false),(.slice none 0 0)] z2) λaM z3=>
 OH (cF 55 [(.bool false),(.slice none 0 0)] z3) λaC z4=>
 OH (aU 2 z4 aM oh) λ_ z5=>
 OH (aU 2 z5 aC fF) λ_ z6=>
 OP (aF 0 a2) λiM=>
 OP (af false 1 z6 iM) λkO=>
 amx P K b3 x4 x5 aM aC kO z6):=aB (by kernel_rfl)
def NA:Prop:=
 OH (cR 55 h a0) λa2 z1=>
 OH (cR 55 z1 b1) λb3 z2=>
 OH (cF 55 [(.bool false),(.slice none 0 0)] z2) λx4 z3=>
 OH (cF 55 [(.bool false),(.slice none 0 0)] z3) λx5 z4=>
 OP (aF 1 a2) λaP=>
 OP (af false 1 z4 aP) λaX=>
 OP (aT aX) λaZ=>
 OH (eM 3 8 [(.int .i64 (0))] z4 aZ aZ) λbM z5=>
 OH (cH 3 0 [(.int .i64 (0))] z5 []) λbA z6=>
 OP (aF 1 a2) λaS=>
 OP (af false 1 z6 aS) λaI=>
 OP (aT aI) λaR=>
 OP (aj .sub aR (.int .i64 (1))) λbK=>
 bX [bA,bK] z6 λL1 xs hx=>
 amy P K a2 b3 x4 x5 bM L1 xs hx
theorem e96:au P Hb (aW [.cell true 2 4,.cell true 2 5] K) (cg [a0,b1]) h=NA P K a0 b1 h:=by kernel_rfl
theorem f96 {K:VK} {a0 b1:Value} {h:ae} (H:NA prog K a0 b1 h):ay prog 96 [a0,b1] h K:=
 cC k96 (cE rfl) ((e96 prog K a0 b1 h).mpr H)
end
noncomputable section
variable (z0 z1 x2 n3 x9 aZ ca bz : Value) (L1 : LQ) (xs : List Value) (h : ae)
def agZ:=cj prog 125 [[],[],[1,2],[3],[1,2,3,9],[1,2,3,9,16],[],[],[1,2,3],[],[1,2,3,29],[1,2,29,31],[],[]]
@[irreducible] def FU:=cD agZ
@[irreducible] def FV:=FU.r.r.l.l.l
@[irreducible] def YL:=FU.r.r.r
@[irreducible] def YM:=FV.l.l.r.l
@[irreducible] def auZ:=FV.l.r
@[irreducible] def auY:=FV.r
@[irreducible] def NX:=YL.l
@[irreducible] def auV:=YM.r.l
@[irreducible] def YK:=NX.r.l.r.l
@[irreducible] def auW:=NX.r.r
@[irreducible] def auX:=YK.r.l
theorem aCm:agZ=some (35,FU,[.cell true 2 2]):=by kernel_rfl
def BN (_P:Program) (K:VK):ax:=aW [.cell true 2 2] K
def apo:ax:=aH (au P YL (BN P K)) (BN P K)
def apq:ax:=bC 0 (apo P K)
def KJ:ax:=aH (λf' aQ=>(([1,2]:List Nat).map f':List Value)=[z1,x2]/\L1 (([3]:List Nat).map f') aQ) (apq P K)
def WH:ax:=aH (au P auY (KJ P K z1 x2 L1)) (KJ P K z1 x2 L1)
def WI:ax:=aH (au P auZ (WH P K z1 x2 L1)) (WH P K z1 x2 L1)
def WG:ax:=aH (au P auW (BN P K)) (BN P K)
def aiZ:Prop:=aA (au P FV (KJ P K z1 x2 L1)) ([1,2]++[3]) ([z1,x2]++xs) h
def ai0:Prop:=aA (au P YM (WI P K z1 x2 L1)) [1,2,3,9] [z1,x2,n3,x9] h
def Se:Prop:=aA (au P auV (WI P K z1 x2 L1)) [1,2,3,9,16] [z1,x2,n3,x9,aZ] h
def Sf:Prop:=aA (au P NX (BN P K)) [1,2,3] [z1,x2,n3] h
def aiY:Prop:=aA (au P YK (WG P K)) [1,2,3,29] [z1,x2,n3,ca] h
def Sg:Prop:=aA (au P auX (WG P K)) [1,2,29,31] [z1,x2,ca,bz] h
theorem amM:Se P K z1 x2 n3 x9 aZ L1 h=
 (OP (bu x9 aZ (.bool false)) λbM=>
 aJ bM
 (OP (aj .sub n3 (.int .i64 (1))) λaS=>
 ([z1,x2]:List Value)=[z1,x2]/\L1 [aS] h)
 (Sf P K z1 x2 n3 h)):=aB (by kernel_rfl)
theorem amP:ai0 P K z1 x2 n3 x9 L1 h=
 (bQ x9 true
 (OP (aF 1 z1) λaE=>
 OP (af false 1 h aE) λaG=>
 OP (aj .sub n3 (.int .i64 (1))) λaC=>
 OP (aD 1 aG aC) λaP=>
 OP (af false 1 h aP) λaX=>
 OP (aj .eql aX (.int .i64 (0))) λaZ=>
 Se P K z1 x2 n3 x9 aZ L1 h)
 (Se P K z1 x2 n3 x9 undef L1 h)):=aB (by kernel_rfl)
theorem aD3 (z1 x2:Value) (L1:LQ) (n3:Value) (h:ae):aiZ P K z1 x2 L1 [n3] h=
 (OP (aj .gtr n3 (.int .i64 (0))) λx8=>
 ai0 P K z1 x2 n3 x8 L1 h):=aB (by kernel_rfl)
theorem amO:Sg P K z1 x2 ca bz h=
 (OP (bu ca bz (.bool false)) λdJ=>
 OP (aF 0 z1) λb9=>
 OH (aU 1 h b9 dJ) λ_ h_1=>
 OP (af true 2 h_1 z1) λcA=>
 OH (aU 2 h_1 x2 cA) λ_ h_2=>
 OP (af true 2 h_2 x2) λr0=>
 K r0 h_2):=aB (by kernel_rfl)
theorem amN:aiY P K z1 x2 n3 ca h=
 (bQ ca true
 (OP (aj .gtr n3 (.int .i64 (0))) λbz=>
 Sg P K z1 x2 ca bz h)
 (Sg P K z1 x2 ca undef h)):=aB (by kernel_rfl)
theorem aD2:Sf P K z1 x2 n3 h=
 (OH (cH 3 0 [(.int .i64 (0))] h []) λaI h_1=>
 OP (aF 1 z1) λaR=>
 OP (af false 1 h_1 aR) λbK=>
 OP (fP 3 1 bK none (some n3)) λbm=>
 OH (cT 3 1 8 h_1 aI bm) λbH h_2=>
 OP (aF 1 z1) λbW=>
 OH (aU 1 h_2 bW bH) λ_ h_3=>
 OP (aF 0 z1) λbO=>
 OP (af false 1 h_3 bO) λcL=>
 aiY P K z1 x2 n3 cL h_3):=aB (by kernel_rfl)
def LY:Prop:=
 OH (cR 55 h z0) λz1 h_1=>
 OH (cF 55 [(.bool false),(.slice none 0 0)] h_1) λx2 h_2=>
 OP (aF 1 z1) λx4=>
 OP (af false 1 h_2 x4) λx5=>
 OP (aT x5) λx6=>
 bX [x6] h_2 λL1 xs hx=>
 aiZ P K z1 x2 L1 xs hx
theorem azJ:au P FU (aW [.cell true 2 2] K) (cg [z0]) h=LY P K z0 h:=by kernel_rfl
theorem f125 {K:VK} {z0:Value} {h:ae} (H:LY prog K z0 h):ay prog 125 [z0] h K:=
 cC aCm (cE rfl) ((azJ prog K z0 h).mpr H)
end
noncomputable section
variable (a0 b1 i5 : Value) (L1 : LQ) (xs : List Value) (h : ae)
def ag0:=cj prog 126 [[],[],[],[],[],[],[],[],[0,1],[5],[],[],[],[],[],[],[],[],[],[]]
@[irreducible] def FW:=cD ag0
@[irreducible] def au0:=FW.r.r.l.r.l.l
@[irreducible] def au1:=FW.r.r.r
theorem aCn:ag0=some (41,FW,[.tmp 4]):=by kernel_rfl
def WJ (_P:Program) (K:VK):ax:=aW [.tmp 4] K
def apt:ax:=aH (au P au1 (WJ P K)) (WJ P K)
def apr:ax:=bC 0 (apt P K)
def aps:ax:=aH (λf' aQ=>(([0,1]:List Nat).map f':List Value)=[a0,b1]/\L1 (([5]:List Nat).map f') aQ) (apr P K)
def ai1:Prop:=aA (au P au0 (aps P K a0 b1 L1)) ([0,1]++[5]) ([a0,b1]++xs) h
theorem aD4 (a0 b1:Value) (L1:LQ) (i5:Value) (h:ae):ai1 P K a0 b1 L1 [i5] h=
 (OP (aj .geq i5 (.int .i64 (0))) λaI=>
 aJ aI
 (OP (aD 1 a0 i5) λbH=>
 OP (af false 1 h bH) λbW=>
 (True)/\
 OP (aD 1 b1 i5) λca=>
 OP (af false 1 h ca) λaV=>
 (True)/\
 OP (aj .lss bW aV) λbz=>
 aJ bz
 (K (.int .i64 (-1)) h)
 (OP (aD 1 a0 i5) λcA=>
 OP (af false 1 h cA) λcB=>
 (True)/\
 OP (aD 1 b1 i5) λdH=>
 OP (af false 1 h dH) λdW=>
 (True)/\
 OP (aj .gtr cB dW) λcI=>
 aJ cI
 (K (.int .i64 (1)) h)
 (OP (aj .sub i5 (.int .i64 (1))) λbK=>
 ([a0,b1]:List Value)=[a0,b1]/\L1 [bK] h)))
 (K (.int .i64 (0)) h)):=aB (by kernel_rfl)
def LZ:Prop:=
 OP (aT a0) λx7=>
 OP (aT b1) λx9=>
 OP (aj .neq x7 x9) λaE=>
 aJ aE
 (OP (aT a0) λaM=>
 OP (aT b1) λaP=>
 OP (aj .lss aM aP) λaX=>
 aJ aX
 (K (.int .i64 (-1)) h)
 (K (.int .i64 (1)) h))
 (OP (aT a0) λbM=>
 OP (aj .sub bM (.int .i64 (1))) λbA=>
 bX [bA] h λL1 xs hx=>
 ai1 P K a0 b1 L1 xs hx)
theorem azK:au P FW (aW [.tmp 4] K) (cg [a0,b1]) h=LZ P K a0 b1 h:=by kernel_rfl
theorem f126 {K:VK} {a0 b1:Value} {h:ae} (H:LZ prog K a0 b1 h):ay prog 126 [a0,b1] h K:=
 cC aCn (cE rfl) ((azK prog K a0 b1 h).mpr H)
end
noncomputable section
variable (a0 d1 : Value) (h : ae)
def ag1:=cj prog 127 [[],[]]
@[irreducible] def YN:=cD ag1
theorem aCo:ag1=some (12,YN,[.tmp 4]):=by kernel_rfl
def L4:Prop:=
 OP (eI [(.bool false),(.slice none 0 0)] [(1,1,a0)]) λx6=>
 ay P 41 [d1] h λx8 z1=>
 ay P 144 [x6,x8] z1 λx9 z2=>
 ay P 125 [x9] z2 λaE z3=>
 OP (yX false 1 1 aE) λaG=>
 K aG z3
theorem azL:au P YN (aW [.tmp 4] K) (cg [a0,d1]) h=L4 P K a0 d1 h:=by kernel_rfl
theorem f127 {K:VK} {a0 d1:Value} {h:ae} (H:L4 prog K a0 d1 h):ay prog 127 [a0,d1] h K:=
 cC aCo (cE rfl) ((azL prog K a0 d1 h).mpr H)
end
noncomputable section
variable (a0 b1 x5 x6 i7 s8 : Value) (L1 : LQ) (xs : List Value) (h : ae)
def ag2:=cj prog 128 [[],[],[],[0,1],[5,6,7],[],[],[],[],[0,1,5,7,8],[],[],[0,1,5,6,7,8],[0,1,5,6,7],[5],[]]
@[irreducible] def FX:=cD ag2
@[irreducible] def NY:=FX.r.r.l.r.l.l
@[irreducible] def YP:=FX.r.r.r
@[irreducible] def YO:=NY.r.l.l.r.r.l
@[irreducible] def YQ:=NY.r.r
@[irreducible] def au4:=YP.l
@[irreducible] def au2:=YO.r.r.l
@[irreducible] def au3:=YQ.l
theorem aCp:ag2=some (41,FX,[.tmp 4]):=by kernel_rfl
def KK (_P:Program) (K:VK):ax:=aW [.tmp 4] K
def apu:ax:=aH (au P YP (KK P K)) (KK P K)
def apv:ax:=bC 0 (apu P K)
def EM:ax:=aH (λf' aQ=>(([0,1]:List Nat).map f':List Value)=[a0,b1]/\L1 (([5,6,7]:List Nat).map f') aQ) (apv P K)
def apw:ax:=aH (au P YQ (EM P K a0 b1 L1)) (EM P K a0 b1 L1)
def WK:ax:=bC 1 (apw P K a0 b1 L1)
def ai4:Prop:=aA (au P NY (EM P K a0 b1 L1)) ([0,1]++[5,6,7]) ([a0,b1]++xs) h
def Jj:Prop:=aA (au P YO (WK P K a0 b1 L1)) [0,1,5,7,8] [a0,b1,x5,i7,s8] h
def Jk:Prop:=aA (au P au2 (WK P K a0 b1 L1)) [0,1,5,6,7,8] [a0,b1,x5,x6,i7,s8] h
def ai2:Prop:=aA (au P au3 (EM P K a0 b1 L1)) [0,1,5,6,7] [a0,b1,x5,x6,i7] h
def ai3:Prop:=aA (au P au4 (KK P K)) [5] [x5] h
theorem aD6:Jk P K a0 b1 x5 x6 i7 s8 L1 h=
 (OH (cH 3 1 [(.int .i64 (0))] h [(0,1,s8)]) λdH z1=>
 OH (cT 3 1 8 z1 x5 dH) λdW z2=>
 ai2 P K a0 b1 dW x6 i7 L1 z2):=aB (by kernel_rfl)
theorem aD5:Jj P K a0 b1 x5 i7 s8 L1 h=
 (OP (aj .lss s8 (.int .i64 (0))) λb9=>
 aJ b9
 (OP (aj .add s8 (.int .i64 (10000))) λcB=>
 Jk P K a0 b1 x5 (.int .i64 (1)) i7 cB L1 h)
 (Jk P K a0 b1 x5 (.int .i64 (0)) i7 s8 L1 h)):=aB (by kernel_rfl)
theorem aD7:ai2 P K a0 b1 x5 x6 i7 L1 h=
 (OP (aj .add i7 (.int .i64 (1))) λaX=>
 ([a0,b1]:List Value)=[a0,b1]/\L1 [x5,x6,aX] h):=aB (by kernel_rfl)
theorem aD9 (a0 b1:Value) (L1:LQ) (x5 x6 i7:Value) (h:ae):ai4 P K a0 b1 L1 [x5,x6,i7] h=
 (OP (aT a0) λaM=>
 OP (aj .lss i7 aM) λaC=>
 aJ aC
 (OP (aD 1 a0 i7) λbA=>
 OP (af false 1 h bA) λaS=>
 OP (aj .sub aS x6) λaR=>
 OP (aT b1) λbm=>
 OP (aj .lss i7 bm) λbH=>
 aJ bH
 (OP (aD 1 b1 i7) λca=>
 OP (af false 1 h ca) λaV=>
 OP (aj .sub aR aV) λbz=>
 Jj P K a0 b1 x5 i7 bz L1 h)
 (Jj P K a0 b1 x5 i7 aR L1 h))
 (ai3 P K x5 h)):=aB (by kernel_rfl)
theorem aD8:ai3 P K x5 h=
 (K x5 h):=aB (by kernel_rfl)
def L5:Prop:=
 OH (cH 3 0 [(.int .i64 (0))] h []) λx9 z1=>
 bX [x9,(.int .i64 (0)),(.int .i64 (0))] z1 λL1 xs hx=>
 ai4 P K a0 b1 L1 xs hx
theorem azM:au P FX (aW [.tmp 4] K) (cg [a0,b1]) h=L5 P K a0 b1 h:=by kernel_rfl
theorem f128 {K:VK} {a0 b1:Value} {h:ae} (H:L5 prog K a0 b1 h):ay prog 128 [a0,b1] h K:=
 cC aCp (cE rfl) ((azM prog K a0 b1 h).mpr H)
end
noncomputable section
variable (a0 b1 : Value) (h : ae)
def ag3:=cj prog 129 [[],[]]
@[irreducible] def YR:=cD ag3
theorem aCq:ag3=some (9,YR,[.cell true 2 4]):=by kernel_rfl
def L6:Prop:=
 OH (cR 55 h a0) λa2 z1=>
 OH (cR 55 z1 b1) λb3 z2=>
 OH (cF 55 [(.bool false),(.slice none 0 0)] z2) λx4 z3=>
 OP (af true 2 z3 a2) λx5=>
 (True)/\
 OP (af true 2 z3 b3) λx6=>
 (True)/\
 ay P 146 [x6] z3 λx7 z4=>
 (af true 2 z4 a2=some x5/\True)/\
 ay P 145 [x5,x7] z4 λx8 z5=>
 (True)/\
 OH (aU 2 z5 x4 x8) λ_ z6=>
 (True)/\
 OP (af true 2 z6 x4) λr0=>
 K r0 z6
theorem azN:au P YR (aW [.cell true 2 4] K) (cg [a0,b1]) h=L6 P K a0 b1 h:=by kernel_rfl
theorem f129 {K:VK} {a0 b1:Value} {h:ae} (H:L6 prog K a0 b1 h):ay prog 129 [a0,b1] h K:=
 cC aCq (cE rfl) ((azN prog K a0 b1 h).mpr H)
end
noncomputable section
variable (a0 b1 a2 b3 x4 x5 i6 x7 k8 s9 bz b9 : Value) (L1 L2 : LQ) (xs : List Value) (h : ae)
def ahc:=cj prog 144 [[],[],[],[2,3,4,5],[6],[],[],[],[],[2,3,4,5,6],[7,8],[2,3,4,5,6,7,8,31],[2,3,4,5,6,7,8,31,33],[],[],[],[],[2,3,4,5,6,8,9],[2,3,4,5,6,7,8],[2,3,4,5,6],[2,3,4,5],[]]
@[irreducible] def F6:=cD ahc
@[irreducible] def N5:=F6.r.r.l.r.l.l
@[irreducible] def Zc:=F6.r.r.r
@[irreducible] def F7:=N5.r.l.l.r.r.l.l
@[irreducible] def Zd:=N5.r.r
@[irreducible] def avt:=Zc.l
@[irreducible] def Za:=F7.l.l.r.l
@[irreducible] def avo:=F7.l.r
@[irreducible] def N4:=F7.r
@[irreducible] def avs:=Zd.l
@[irreducible] def avp:=Za.r.l
@[irreducible] def avq:=N4.l.l.r.r.l
@[irreducible] def Zb:=N4.r
@[irreducible] def avr:=Zb.l
theorem aCx:ahc=some (80,F6,[.cell true 2 4]):=by kernel_rfl
def KR (_P:Program) (K:VK):ax:=aW [.cell true 2 4] K
def ap3:ax:=aH (au P Zc (KR P K)) (KR P K)
def ap4:ax:=bC 0 (ap3 P K)
def EP:ax:=aH (λf' aQ=>(([2,3,4,5]:List Nat).map f':List Value)=[a2,b3,x4,x5]/\L1 (([6]:List Nat).map f') aQ) (ap4 P K)
def ap5:ax:=aH (au P Zd (EP P K a2 b3 x4 x5 L1)) (EP P K a2 b3 x4 x5 L1)
def apZ:ax:=bC 1 (ap5 P K a2 b3 x4 x5 L1)
def ap0:ax:=bC 2 (apZ P K a2 b3 x4 x5 L1)
def Ad:ax:=aH (λf' aQ=>(([2,3,4,5,6]:List Nat).map f':List Value)=[a2,b3,x4,x5,i6]/\L2 (([7,8]:List Nat).map f') aQ) (ap0 P K a2 b3 x4 x5 L1)
def WN:ax:=aH (au P N4 (Ad P K a2 b3 x4 x5 i6 L1 L2)) (Ad P K a2 b3 x4 x5 i6 L1 L2)
def WO:ax:=aH (au P avo (WN P K a2 b3 x4 x5 i6 L1 L2)) (WN P K a2 b3 x4 x5 i6 L1 L2)
def ap1:ax:=aH (au P Zb (Ad P K a2 b3 x4 x5 i6 L1 L2)) (Ad P K a2 b3 x4 x5 i6 L1 L2)
def ap2:ax:=bC 3 (ap1 P K a2 b3 x4 x5 i6 L1 L2)
def ajo:Prop:=aA (au P N5 (EP P K a2 b3 x4 x5 L1)) ([2,3,4,5]++[6]) ([a2,b3,x4,x5]++xs) h
def ajk:Prop:=aA (au P F7 (Ad P K a2 b3 x4 x5 i6 L1 L2)) ([2,3,4,5,6]++[7,8]) ([a2,b3,x4,x5,i6]++xs) h
def ajl:Prop:=aA (au P Za (WO P K a2 b3 x4 x5 i6 L1 L2)) [2,3,4,5,6,7,8,31] [a2,b3,x4,x5,i6,x7,k8,bz] h
def Sq:Prop:=aA (au P avp (WO P K a2 b3 x4 x5 i6 L1 L2)) [2,3,4,5,6,7,8,31,33] [a2,b3,x4,x5,i6,x7,k8,bz,b9] h
def w5:Prop:=aA (au P avq (ap2 P K a2 b3 x4 x5 i6 L1 L2)) [2,3,4,5,6,8,9] [a2,b3,x4,x5,i6,k8,s9] h
def ajm:Prop:=aA (au P avr (Ad P K a2 b3 x4 x5 i6 L1 L2)) [2,3,4,5,6,7,8] [a2,b3,x4,x5,i6,x7,k8] h
def Sr:Prop:=aA (au P avs (EP P K a2 b3 x4 x5 L1)) [2,3,4,5,6] [a2,b3,x4,x5,i6] h
def ajn:Prop:=aA (au P avt (KR P K)) [2,3,4,5] [a2,b3,x4,x5] h
theorem amU:Sq P K a2 b3 x4 x5 i6 x7 k8 bz b9 L1 L2 h=
 (OP (bu bz (.bool true) b9) λcA=>
 aJ cA
 (OP (aj .add i6 k8) λcI=>
 OP (aD 1 x5 cI) λcU=>
 OP (af false 1 h cU) λeg=>
 OP (aj .add eg x7) λcP=>
 OP (aF 1 b3) λeT=>
 OP (af false 1 h eT) λgn=>
 OP (aT gn) λfE=>
 OP (aj .lss k8 fE) λfX=>
 aJ fX
 (OP (aF 1 a2) λer=>
 OP (af false 1 h er) λfI=>
 (True)/\
 OP (aD 1 fI i6) λgw=>
 OP (af false 1 h gw) λfJ=>
 (True)/\
 OP (aF 1 b3) λgX=>
 OP (af false 1 h gX) λfY=>
 (True)/\
 OP (aD 1 fY k8) λiZ=>
 OP (af false 1 h iZ) λgL=>
 (True)/\
 OP (aj .mul fJ gL) λfT=>
 OP (aj .add cP fT) λiV=>
 w5 P K a2 b3 x4 x5 i6 k8 iV L1 L2 h)
 (w5 P K a2 b3 x4 x5 i6 k8 cP L1 L2 h))
 (Sr P K a2 b3 x4 x5 i6 L1 h)):=aB (by kernel_rfl)
theorem amT:ajl P K a2 b3 x4 x5 i6 x7 k8 bz L1 L2 h=
 (bQ bz false
 (OP (aj .gtr x7 (.int .i64 (0))) λb9=>
 Sq P K a2 b3 x4 x5 i6 x7 k8 bz b9 L1 L2 h)
 (Sq P K a2 b3 x4 x5 i6 x7 k8 bz undef L1 L2 h)):=aB (by kernel_rfl)
theorem aEy:w5 P K a2 b3 x4 x5 i6 k8 s9 L1 L2 h=
 (OP (aj .add i6 k8) λkZ=>
 OP (aj .rem s9 (.int .i64 (10000))) λfA=>
 OP (aj .quo s9 (.int .i64 (10000))) λdj=>
 OP (aD 1 x5 kZ) λgA=>
 OH (aU 1 h gA fA) λ_ z1=>
 ajm P K a2 b3 x4 x5 i6 dj k8 L1 L2 z1):=aB (by kernel_rfl)
theorem aEz:ajm P K a2 b3 x4 x5 i6 x7 k8 L1 L2 h=
 (OP (aj .add k8 (.int .i64 (1))) λaY=>
 ([a2,b3,x4,x5,i6]:List Value)=[a2,b3,x4,x5,i6]/\L2 [x7,aY] h):=aB (by kernel_rfl)
theorem aEx (a2 b3 x4 x5 i6:Value) (L1 L2:LQ) (x7 k8:Value) (h:ae):ajk P K a2 b3 x4 x5 i6 L1 L2 [x7,k8] h=
 (OP (aF 1 b3) λbO=>
 OP (af false 1 h bO) λcL=>
 OP (aT cL) λca=>
 OP (aj .lss k8 ca) λaV=>
 ajl P K a2 b3 x4 x5 i6 x7 k8 aV L1 L2 h):=aB (by kernel_rfl)
theorem aEA:Sr P K a2 b3 x4 x5 i6 L1 h=
 (OP (aj .add i6 (.int .i64 (1))) λbH=>
 ([a2,b3,x4,x5]:List Value)=[a2,b3,x4,x5]/\L1 [bH] h):=aB (by kernel_rfl)
theorem aEC (a2 b3 x4 x5:Value) (L1:LQ) (i6:Value) (h:ae):ajo P K a2 b3 x4 x5 L1 [i6] h=
 (OP (aF 1 a2) λaI=>
 OP (af false 1 h aI) λaR=>
 OP (aT aR) λbK=>
 OP (aj .lss i6 bK) λbB=>
 aJ bB
 (bX [(.int .i64 (0)),(.int .i64 (0))] h λL2 xs hx=>
 ajk P K a2 b3 x4 x5 i6 L1 L2 xs hx)
 (ajn P K a2 b3 x4 x5 h)):=aB (by kernel_rfl)
theorem aEB:ajn P K a2 b3 x4 x5 h=
 (OP (aF 0 a2) λoh=>
 OP (af false 1 h oh) λlh=>
 OP (aF 0 b3) λiW=>
 OP (af false 1 h iW) λfF=>
 OP (tP true lh fF) λiM=>
 OP (eI [(.bool false),(.slice none 0 0)] [(0,1,iM),(1,1,x5)]) λie=>
 ay P 125 [ie] h λlN z1=>
 OH (aU 2 z1 x4 lN) λ_ z2=>
 OP (af true 2 z2 x4) λr0=>
 K r0 z2):=aB (by kernel_rfl)
def Me:Prop:=
 OH (cR 55 h a0) λa2 z1=>
 OH (cR 55 z1 b1) λb3 z2=>
 OH (cF 55 [(.bool false),(.slice none 0 0)] z2) λx4 z3=>
 OP (aF 1 a2) λaE=>
 OP (af false 1 z3 aE) λaG=>
 OP (aT aG) λaM=>
 OP (aF 1 b3) λaC=>
 OP (af false 1 z3 aC) λaP=>
 OP (aT aP) λaX=>
 OP (aj .add aM aX) λaZ=>
 OP (aj .add aZ (.int .i64 (1))) λbM=>
 OH (eM 3 8 [(.int .i64 (0))] z3 bM bM) λbA z4=>
 bX [(.int .i64 (0))] z4 λL1 xs hx=>
 ajo P K a2 b3 x4 bA L1 xs hx
theorem azU:au P F6 (aW [.cell true 2 4] K) (cg [a0,b1]) h=Me P K a0 b1 h:=by kernel_rfl
theorem f144 {K:VK} {a0 b1:Value} {h:ae} (H:Me prog K a0 b1 h):ay prog 144 [a0,b1] h K:=
 cC aCx (cE rfl) ((azU prog K a0 b1 h).mpr H)
end
noncomputable section
variable (a0 b1 : Value) (h : ae)
def ahd:=cj prog 145 [[],[],[],[],[],[],[],[]]
@[irreducible] def Ze:=cD ahd
theorem aCy:ahd=some (43,Ze,[.cell true 2 4]):=by kernel_rfl
def Mf:Prop:=
 OH (cR 55 h a0) λa2 z1=>
 OH (cR 55 z1 b1) λb3 z2=>
 OH (cF 55 [(.bool false),(.slice none 0 0)] z2) λx4 z3=>
 OP (aF 0 a2) λx5=>
 OP (af false 1 z3 x5) λx6=>
 OP (aF 0 b3) λx7=>
 OP (af false 1 z3 x7) λx8=>
 OP (tP false x6 x8) λx9=>
 aJ x9
 (OP (aF 0 a2) λaE=>
 OP (af false 1 z3 aE) λaG=>
 (True)/\
 OP (aF 1 a2) λaM=>
 OP (af false 1 z3 aM) λaC=>
 (True)/\
 OP (aF 1 b3) λaP=>
 OP (af false 1 z3 aP) λaX=>
 (True)/\
 ay P 149 [aC,aX] z3 λaZ z4=>
 (af false 1 z4 aE=some aG/\True)/\
 OP (eI [(.bool false),(.slice none 0 0)] [(0,1,aG),(1,1,aZ)]) λbM=>
 ay P 125 [bM] z4 λbA z5=>
 (True)/\
 OH (aU 2 z5 x4 bA) λ_ z6=>
 (True)/\
 OP (af true 2 z6 x4) λr0=>
 K r0 z6)
 (OP (aF 1 a2) λaS=>
 OP (af false 1 z3 aS) λaI=>
 OP (aF 1 b3) λaR=>
 OP (af false 1 z3 aR) λbK=>
 ay P 126 [aI,bK] z3 λbB z4=>
 OP (aj .geq bB (.int .i64 (0))) λbm=>
 aJ bm
 (OP (aF 0 a2) λbH=>
 OP (af false 1 z4 bH) λbW=>
 (True)/\
 OP (aF 1 a2) λbO=>
 OP (af false 1 z4 bO) λcL=>
 (True)/\
 OP (aF 1 b3) λca=>
 OP (af false 1 z4 ca) λaV=>
 (True)/\
 ay P 128 [cL,aV] z4 λbz z5=>
 (af false 1 z5 bH=some bW/\True)/\
 OP (eI [(.bool false),(.slice none 0 0)] [(0,1,bW),(1,1,bz)]) λdJ=>
 ay P 125 [dJ] z5 λb9 z6=>
 (True)/\
 OH (aU 2 z6 x4 b9) λ_ z7=>
 (True)/\
 OP (af true 2 z7 x4) λr0=>
 K r0 z7)
 (OP (aF 0 b3) λcA=>
 OP (af false 1 z4 cA) λcB=>
 (True)/\
 OP (aF 1 b3) λaY=>
 OP (af false 1 z4 aY) λbG=>
 (True)/\
 OP (aF 1 a2) λdH=>
 OP (af false 1 z4 dH) λdW=>
 (True)/\
 ay P 128 [bG,dW] z4 λcI z5=>
 (af false 1 z5 cA=some cB/\True)/\
 OP (eI [(.bool false),(.slice none 0 0)] [(0,1,cB),(1,1,cI)]) λcU=>
 ay P 125 [cU] z5 λeg z6=>
 (True)/\
 OH (aU 2 z6 x4 eg) λ_ z7=>
 (True)/\
 OP (af true 2 z7 x4) λr0=>
 K r0 z7))
theorem azV:au P Ze (aW [.cell true 2 4] K) (cg [a0,b1]) h=Mf P K a0 b1 h:=by kernel_rfl
theorem f145 {K:VK} {a0 b1:Value} {h:ae} (H:Mf prog K a0 b1 h):ay prog 145 [a0,b1] h K:=
 cC aCy (cE rfl) ((azV prog K a0 b1 h).mpr H)
end
noncomputable section
variable (a0 a1 x2 x6 aE : Value) (h : ae)
def ahe:=cj prog 146 [[],[1,2,6],[1,2,6,10],[],[]]
@[irreducible] def F8:=cD ahe
@[irreducible] def Zf:=F8.r.l.r.l
@[irreducible] def avu:=F8.r.r
@[irreducible] def avv:=Zf.r.l
theorem aCz:ahe=some (14,F8,[.cell true 2 2]):=by kernel_rfl
def WQ (_P:Program) (K:VK):ax:=aW [.cell true 2 2] K
def WR:ax:=aH (au P avu (WQ P K)) (WQ P K)
def ajp:Prop:=aA (au P Zf (WR P K)) [1,2,6] [a1,x2,x6] h
def Ss:Prop:=aA (au P avv (WR P K)) [1,2,6,10] [a1,x2,x6,aE] h
theorem amW:Ss P K a1 x2 x6 aE h=
 (OP (bu x6 aE (.bool false)) λaG=>
 OP (aF 0 a1) λaM=>
 OH (aU 1 h aM aG) λ_ z1=>
 OP (af true 2 z1 a1) λaC=>
 OH (aU 2 z1 x2 aC) λ_ z2=>
 OP (af true 2 z2 x2) λr0=>
 K r0 z2):=aB (by kernel_rfl)
theorem amV:ajp P K a1 x2 x6 h=
 (bQ x6 true
 (OP (aF 1 a1) λx7=>
 OP (af false 1 h x7) λx8=>
 OP (aT x8) λx9=>
 OP (aj .gtr x9 (.int .i64 (0))) λaE=>
 Ss P K a1 x2 x6 aE h)
 (Ss P K a1 x2 x6 undef h)):=aB (by kernel_rfl)
def Mg:Prop:=
 OH (cR 55 h a0) λa1 z1=>
 OH (cF 55 [(.bool false),(.slice none 0 0)] z1) λx2 z2=>
 OP (aF 0 a1) λx3=>
 OP (af false 1 z2 x3) λx4=>
 OP (gG .not x4) λx5=>
 ajp P K a1 x2 x5 z2
theorem azW:au P F8 (aW [.cell true 2 2] K) (cg [a0]) h=Mg P K a0 h:=by kernel_rfl
theorem f146 {K:VK} {a0:Value} {h:ae} (H:Mg prog K a0 h):ay prog 146 [a0] h K:=
 cC aCz (cE rfl) ((azW prog K a0 h).mpr H)
end
noncomputable section
variable (a0 b1 x5 x6 i7 s8 aP bA aI bK : Value) (L1 : LQ) (xs : List Value) (h : ae)
def ahf:=cj prog 149 [[],[],[],[0,1],[5,6,7],[0,1,5,6,7,14],[0,1,5,6,7,14,18],[0,1,5,6,7,20],[0,1,5,6,7,20,22],[],[],[],[],[0,1,5,7,8],[],[0,1,5,7,8],[0,1,5,6,7],[5],[]]
@[irreducible] def F9:=cD ahf
@[irreducible] def Ga:=F9.r.r.l.r.l.l
@[irreducible] def Zl:=F9.r.r.r
@[irreducible] def Zg:=Ga.l.l.r.l
@[irreducible] def avA:=Ga.l.r
@[irreducible] def N6:=Ga.r
@[irreducible] def avz:=Zl.l
@[irreducible] def Zh:=Zg.r.l
@[irreducible] def Zk:=N6.l.l.r.r.l
@[irreducible] def Zj:=N6.r
@[irreducible] def Zi:=Zh.r.l
@[irreducible] def avx:=Zk.r.l
@[irreducible] def avy:=Zj.l
@[irreducible] def avw:=Zi.r.l
theorem aCA:ahf=some (55,F9,[.tmp 4]):=by kernel_rfl
def KS (_P:Program) (K:VK):ax:=aW [.tmp 4] K
def ap7:ax:=aH (au P Zl (KS P K)) (KS P K)
def ap8:ax:=bC 0 (ap7 P K)
def Ae:ax:=aH (λf' aQ=>(([0,1]:List Nat).map f':List Value)=[a0,b1]/\L1 (([5,6,7]:List Nat).map f') aQ) (ap8 P K)
def WT:ax:=aH (au P N6 (Ae P K a0 b1 L1)) (Ae P K a0 b1 L1)
def ER:ax:=aH (au P avA (WT P K a0 b1 L1)) (WT P K a0 b1 L1)
def ap6:ax:=aH (au P Zj (Ae P K a0 b1 L1)) (Ae P K a0 b1 L1)
def WS:ax:=bC 1 (ap6 P K a0 b1 L1)
def ajt:Prop:=aA (au P Ga (Ae P K a0 b1 L1)) ([0,1]++[5,6,7]) ([a0,b1]++xs) h
def ajq:Prop:=aA (au P Zg (ER P K a0 b1 L1)) [0,1,5,6,7,14] [a0,b1,x5,x6,i7,aP] h
def St:Prop:=aA (au P Zh (ER P K a0 b1 L1)) [0,1,5,6,7,14,18] [a0,b1,x5,x6,i7,aP,bA] h
def ajr:Prop:=aA (au P Zi (ER P K a0 b1 L1)) [0,1,5,6,7,20] [a0,b1,x5,x6,i7,aI] h
def Su:Prop:=aA (au P avw (ER P K a0 b1 L1)) [0,1,5,6,7,20,22] [a0,b1,x5,x6,i7,aI,bK] h
def Bo:Prop:=aA (au P Zk (WS P K a0 b1 L1)) [0,1,5,7,8] [a0,b1,x5,i7,s8] h
def Jm:Prop:=aA (au P avx (WS P K a0 b1 L1)) [0,1,5,7,8] [a0,b1,x5,i7,s8] h
def ajs:Prop:=aA (au P avy (Ae P K a0 b1 L1)) [0,1,5,6,7] [a0,b1,x5,x6,i7] h
def Sv:Prop:=aA (au P avz (KS P K)) [5] [x5] h
theorem JN:Su P K a0 b1 x5 x6 i7 aI bK L1 h=
 (OP (bu aI (.bool true) bK) λbB=>
 aJ bB
 (OP (aT a0) λca=>
 OP (aj .lss i7 ca) λaV=>
 aJ aV
 (OP (aD 1 a0 i7) λcA=>
 OP (af false 1 h cA) λcB=>
 OP (aj .add x6 cB) λaY=>
 Bo P K a0 b1 x5 i7 aY L1 h)
 (Bo P K a0 b1 x5 i7 x6 L1 h))
 (Sv P K x5 h)):=aB (by kernel_rfl)
theorem Uu:ajr P K a0 b1 x5 x6 i7 aI L1 h=
 (bQ aI false
 (OP (aj .gtr x6 (.int .i64 (0))) λbK=>
 Su P K a0 b1 x5 x6 i7 aI bK L1 h)
 (Su P K a0 b1 x5 x6 i7 aI undef L1 h)):=aB (by kernel_rfl)
theorem Ut:St P K a0 b1 x5 x6 i7 aP bA L1 h=
 (OP (bu aP (.bool true) bA) λaS=>
 ajr P K a0 b1 x5 x6 i7 aS L1 h):=aB (by kernel_rfl)
theorem amX:ajq P K a0 b1 x5 x6 i7 aP L1 h=
 (bQ aP false
 (OP (aT b1) λbM=>
 OP (aj .lss i7 bM) λbA=>
 St P K a0 b1 x5 x6 i7 aP bA L1 h)
 (St P K a0 b1 x5 x6 i7 aP undef L1 h)):=aB (by kernel_rfl)
theorem aEE:Jm P K a0 b1 x5 i7 s8 L1 h=
 (OP (aj .rem s8 (.int .i64 (10000))) λfX=>
 OH (cH 3 1 [(.int .i64 (0))] h [(0,1,fX)]) λiU z1=>
 OH (cT 3 1 8 z1 x5 iU) λer z2=>
 OP (aj .quo s8 (.int .i64 (10000))) λfg=>
 ajs P K a0 b1 er fg i7 L1 z2):=aB (by kernel_rfl)
theorem aED:Bo P K a0 b1 x5 i7 s8 L1 h=
 (OP (aT b1) λdW=>
 OP (aj .lss i7 dW) λcI=>
 aJ cI
 (OP (aD 1 b1 i7) λcP=>
 OP (af false 1 h cP) λdC=>
 OP (aj .add s8 dC) λeT=>
 Jm P K a0 b1 x5 i7 eT L1 h)
 (Jm P K a0 b1 x5 i7 s8 L1 h)):=aB (by kernel_rfl)
theorem aEF:ajs P K a0 b1 x5 x6 i7 L1 h=
 (OP (aj .add i7 (.int .i64 (1))) λbH=>
 ([a0,b1]:List Value)=[a0,b1]/\L1 [x5,x6,bH] h):=aB (by kernel_rfl)
theorem aEH (a0 b1:Value) (L1:LQ) (x5 x6 i7:Value) (h:ae):ajt P K a0 b1 L1 [x5,x6,i7] h=
 (OP (aT a0) λaM=>
 OP (aj .lss i7 aM) λaC=>
 ajq P K a0 b1 x5 x6 i7 aC L1 h):=aB (by kernel_rfl)
theorem aEG:Sv P K x5 h=
 (K x5 h):=aB (by kernel_rfl)
def Mh:Prop:=
 OH (cH 3 0 [(.int .i64 (0))] h []) λx9 z1=>
 bX [x9,(.int .i64 (0)),(.int .i64 (0))] z1 λL1 xs hx=>
 ajt P K a0 b1 L1 xs hx
theorem azX:au P F9 (aW [.tmp 4] K) (cg [a0,b1]) h=Mh P K a0 b1 h:=by kernel_rfl
theorem f149 {K:VK} {a0 b1:Value} {h:ae} (H:Mh prog K a0 b1 h):ay prog 149 [a0,b1] h K:=
 cC aCA (cE rfl) ((azX prog K a0 b1 h).mpr H)
end
end
end Go.Proofs.YtncaiogfjjepcaaGreat
