/-
  Part 5 of the texts behind a statement of this seat: Da8, Da9, Da10, UZU, Sp6, CA, UCt28, UCt29, UCt30, UCt31, UCt32, UCt33, CB.
-/
import Derived.Test.YtncaiogfjjepcaaGreatProg
import Derived.KernelRfl
import Derived.Test.YtncaiogfjjepcaaGreatTu4
open Classical (byContradiction)
open Go.Proofs.Tryz (prog)
open List (drop_eq_getElem_cons drop_zero getElem?_set_ne getElem_mem getElem_set_ne length_set length_take map_const' mem_map replicate take_length take_of_length_le)
open Nat (add_zero le_refl mod_eq_of_lt mod_lt pow_succ zero_add zero_le)
namespace Go.Proofs.YtncaiogfjjepcaaGreat
section
open Go.Sim Go.Sort
variable {h : ae} {K : Value -> ae -> Prop} {n : Nat}
theorem encI (i:Nat) (e:TypeId) (ns:List Int):∃u,mN i (.arr e (ns.map I))=some u:=by
 have:(ns.map I).all (qz i)=true:=by
  rw [List.all_eq_true];intro x hx
  obtain ⟨z,_,rfl⟩:=mem_map.1 hx
  rfl
 simp [mN]
theorem obI {g:ae} {i m:Nat} {e:TypeId} {ns:List Int} (hg:g[i]?=some (.arr e (ns.map I))):∃u,∀g':ae,g'[i]?=g[i]?->eA g' (sl e i 0 m)=some u:=by
 obtain ⟨u,hu⟩:=encI i e ns
 refine ⟨u,λg' h'=>?_⟩
 simp only [eA,vA,sl,Option.bind_some,h',hg]
 exact hu
theorem C52 {lv:Value} {ids:Nat->Nat} {l:List cQ} (gr:EI n l) (av:AV h lv ids l)
  (hA:∀vc g (c:Nat->Int),EX h g->(∀k (hk:k<l.length),c l[k].t<=c l[k].f+l[k].c)->K (.tuple #[vc,.slice none 0 0]) g)
  (hB:∀vc vr g ring,EX h g->ring≠[]->(∀a∈ring,a∈l)->ring.Nodup->(ring.map cQ.f).Perm (ring.map cQ.t)->(ring.map cQ.c).sum<0->fq h.length g 119 5 vr ring.length (kK ids ring)->K (.tuple #[vc,vr]) g):
  ay prog 52 [I n,lv] h K:=by
 have n1:=gr.n1;have n8:=gr.n8
 refine f52 ?_
 unfold MT
 have sF:eM 3 8 [(.int .i64 (0))] h (I n) (I n)=some (sl 3 h.length 0 n,h++[.arr 3 (bE [.int .i64 (0)] n)]):=by
  simp only [eM]
  rw [if_pos (by omega)]
  simp
 have z0:bE [(.int .i64 (0))] n=cV n λ_=>0:=by
  simp [bE,cV]
  rw [map_const'];simp
 have zc:cV n (λ_=>0)=(replicate n (0:Int)).map I:=by
  simp [cV]
  rw [map_const'];simp
 have x1:EX h (h++[.arr 3 (cV n λ_=>0)]):=EX.append _ _
 have c1:(h++[az.arr 3 (cV n λ_=>0)])[h.length]?=some (.arr 3 (cV n λ_=>0)):=bK
 have l1:(h++[az.arr 3 (cV n λ_=>0)]).length=h.length+1:=by simp
 have sW:=c1
 rw [zc] at sW
 obtain ⟨u,hu⟩:=obI (m:=n) sW
 rw [<-zc] at hu
 simp only [sF,z0,aL]
 generalize h++[az.arr 3 (cV n λ_=>0)]=g1 at x1 c1 l1 hu⊢
 have Pl:cH 3 1 [(.int .i64 (0))] g1 [(0,1,(.int .i64 (-1)))]=some (sl 3 g1.length 0 1,g1++[.arr 3 [I (-1)]]):=by
  simp [cH,jC,bE,setAt,fV,dL,Value.cells]
 have x2:EX g1 (g1++[.arr 3 [I (-1)]]):=EX.append _ _
 have c2:(g1++[az.arr 3 [I (-1)]])[g1.length]?=some (.arr 3 ([(-1:Int)].map I)):=bK
 obtain ⟨u1,re⟩:=obI (m:=1) c2
 have hc:h.length<g1.length:=by omega
 simp only [hu g1 rfl,ah,true_and,Pl,aL,re _ rfl,hu _ (x2.2 _ hc),and_true]
 generalize g1.length=ij at c2 hc re⊢
 generalize g1++[az.arr 3 [I (-1)]]=g2 at x2 c2 re⊢
 refine C77 n1 n8 c2 λg3 ib x3 Ie hg3=>?_
 have c3:g3[h.length]?=some (.arr 3 (cV n λ_=>0)):=(x2.trans x3).get c1
 have Pm:IntKind.wrap .i64 ((n:Int)+1)=((n+1:Nat):Int):=dP n (by simp [maxLen];omega)
 have rb:replicate n (I (-1))=bV n λ_=>none:=by
  simp [bV,bI]
  rw [map_const'];simp
 rw [rb] at hg3
 have lt2:h.length<g2.length:=by
  have:=(cm c1).1;have:=x2.1;omega
 simp only [hu g3 (by rw [c3,c1]),true_and,b7,ah,Pm]
 have m0:CM h h.length ib n (λ_=>0) (λ_=>none) g3:=⟨(x1.trans x2).trans x3,le_refl _,by omega,by omega,c3,hg3⟩
 refine cN (σ:=Nat×Value×(Nat->Int)×(Nat->Option Nat)×(Nat->Nat)×(Nat->Nat)×Nat×ae) (λq=>[q.2.1,I q.1]) (λq=>q.2.2.2.2.2.2.2)
  (λq=>q.1<=n+1/\RX l (q.1+1) 0 q.2.2.1 q.2.2.2.1 q.2.2.2.2.1 q.2.2.2.2.2.1 q.2.2.2.2.2.2.1/\CM h h.length ib n q.2.2.1 q.2.2.2.1 q.2.2.2.2.2.2.2/\(q.1=0∨∃v,v<n/\q.2.1=I v/\q.2.2.2.2.2.1 v=q.1)) (λq=>n+1-q.1)
  (0,I (-1),λ_=>0,λ_=>none,λ_=>0,λ_=>0,0,g3) rfl rfl ⟨zero_le _,RX.start l,m0,.inl rfl⟩ ?_
 rintro ⟨q,last,c,b,tm,rd,T,g⟩ ⟨hq,x,m,hl⟩ L hL
 simp only at hq x m hl hL⊢
 rw [aHv]
 simp only [bW,ah,ca]
 refine ⟨λaw=>?_,λcJ=>?_⟩
 ·have aw:q<n+1:=by omega
  simp only [av.len,ah]
  refine aoR gr av (by omega) (by omega) x m ?_
  intro last g' c b tm rd T x m tK
  rw [aHp]
  rcases tK with ⟨rfl,hp⟩ | ⟨v,hv,rfl,AW⟩
  ·simp only [bW,ah]
   exact um (λ_=>hA _ g' c m.ex hp) (λe=>absurd e (by decide))
  ·simp only [bW,ah,bX (show ¬(v:Int)<0 by omega),dm]
   rw [aHq]
   simp only [b7,ah,true_and]
   rw [dP q (by simp [maxLen];omega)]
   exact hL (q+1,I v,c,b,tm,rd,T,g') ⟨aw,x.next (by omega) rfl,m,.inr ⟨v,hv,rfl,AW⟩⟩ (by show n+1-(q+1)<n+1-q;omega)
 ·have e:q=n+1:=by omega
  subst e
  obtain ⟨v,hv,rfl,AW⟩:=hl.resolve_left (by omega)
  exact aoP gr av x m hv AW λvr g ring=>hB _ vr g ring
end
section
open Go.Sim Go.Sort
variable {h : ae} {K : Value -> ae -> Prop} {n : Nat}
structure nN (n:Nat) (D:Nat->Nat->Int):Prop where
 n1:1<=n
 n8:n<=8
 dZ:∀i<n,∀j<n,0<=D i j/\D i j<=1000
 diag:∀i<n,D i i=0
 wo:∀v<n,di n D v=nQ n D v
theorem MR.set {g:ae} {im:Nat} {ids:Nat->Nat} {R:Nat->Nat->Int} (m:MR g im ids n R) {i j:Nat} (hi:i<n) (hj:j<n) (x:Int):
  ∃g',aU 1 g (pt (ids i) j) (I x)=some (undef,g')/\g'=g.set (ids i) (.arr 3 ((iK n R i).set j (I x)))/\MR g' im ids n (λa b=>if a=i/\b=j then x else R a b):=by
 have st:=kz (m.hr i hi) (o:=j) (v:=I x) (by simpa [iK] using hj) rfl rfl
 refine ⟨_,st,rfl,?_,λk hk=>?_,m.inj,m.nm,m.n8⟩
 ·rw [getElem?_set_ne (m.nm i hi)];exact m.ho
 ·by_cases e:k=i
  ·subst e
   rw [List.getElem?_set_self (cm (m.hr k hk)).1]
   congr 2
   refine List.ext_getElem (by simp [iK]) λq h1 h2=>?_
   rw [List.getElem_set]
   simp only [iK,List.getElem_map,List.getElem_range]
   by_cases e2:j=q
   ·subst e2;simp
   ·simp [e2,Ne.symm e2]
  ·rw [getElem?_set_ne λh=>e (m.inj k hk i hi h.symm),m.hr k hk]
   congr 2
   refine List.map_congr_left λq _=>?_
   simp [e]
theorem aoI {g0 g:ae} {eX oI ir:Nat} {iQ:Nat->Nat} {R:Nat->Nat->Int} {ring:List cQ} {eR:Int} {L1:List Value->ae->Prop} (kR:∀a∈ring,a.i<n/\a.j<n) (rl:ring.length<=128) (hm1:1<=eR) (hm2:eR<=1000)
  (hR:∀i<n,∀j<n,0<=R i j/\R i j<=1000) (hb:∀i<n,g0.length<=iQ i) (xg:EX g0 g) (m:MR g oI iQ n R) (hg:g[ir]?=some (.arr 119 (kK iQ ring)))
  (hk:∀g',EX g0 g'->MR g' oI iQ n (λi j=>R i j+eR*ch ring i j)->L1 [] g'):
  SJ prog K (sl 34 eX 0 n) (sl 34 oI 0 n) (sl 119 ir 0 ring.length) (I eR) L1 g:=by
 rw [aFH]
 have ln:aT (sl 119 ir 0 ring.length)=some (I ring.length):=rfl
 simp only [ln,ah]
 refine cN (σ:=Nat×ae) (λq=>[I q.1]) (λq=>q.2) (λq=>q.1<=ring.length/\EX g0 q.2/\MR q.2 oI iQ n (λi j=>R i j+eR*ch (ring.take q.1) i j)/\q.2[ir]?=some (.arr 119 (kK iQ ring))/\
   ∀i j,-(1000*(q.1:Int))<=eR*ch (ring.take q.1) i j/\eR*ch (ring.take q.1) i j<=1000*q.1) (λq=>ring.length-q.1)
  (0,g) rfl rfl ⟨zero_le _,xg,by simpa [Cd] using m,hg,λi j=>by simp [Cd]⟩ ?_
 rintro ⟨t,g⟩ ⟨ht,xg,m,hg,bd⟩ L hL
 simp only at ht xg m hg bd hL⊢
 rw [aFI]
 simp only [bW,ah,ca]
 refine ⟨λaw=>?_,λcJ=>?_⟩
 ·have aw:t<ring.length:=by omega
  have own:fq 0 g 119 5 (sl 119 ir 0 ring.length) ring.length (kK iQ ring):=⟨X6 _ _,.inr ⟨ir,zero_le _,rfl,hg⟩⟩
  obtain ⟨ai,ao,ad,la,_⟩:=own.av.get t aw
  obtain ⟨hi,hj⟩:=kR _ (getElem_mem aw)
  have tk:ring.take (t+1)=ring.take t++[ring[t]]:=by rw [List.take_succ_eq_append_getElem aw]
  have cb:=ring[t].OT
  have b0:=hR _ hi _ hj
  have b1:=bd ring[t].i ring[t].j
  generalize ring[t]=a at la hi hj tk cb b0 b1
  have x2:EX g (g++[.arr 119 (hZ iQ a)]):=EX.append _ _
  have c2:(g++[az.arr 119 (hZ iQ a)])[g.length]?=some (.arr 119 (hZ iQ a)):=bK
  simp only [ad,la,ah,FC,aL,J5]
  have m2:=m.up x2
  have CI:=x2.get hg
  have ni:=xg.trans x2
  generalize g.length=ia at c2⊢
  generalize g++[az.arr 119 (hZ iQ a)]=g2 at c2 m2 CI ni⊢
  obtain ⟨p0,p1,p2,p3,p4,p5⟩:=yh c2
  have mc:a.c*eR=eR∨a.c*eR= -eR:=by rcases cb with h | h <;> rw [h] <;> simp
  have w1:IntKind.wrap .i64 (a.c*eR)=a.c*eR:=wrap64 (by omega) (by omega)
  have w2:IntKind.wrap .i64 (R a.i a.j+eR*ch (ring.take t) a.i a.j+a.c*eR)=R a.i a.j+eR*ch (ring.take t) a.i a.j+a.c*eR:=wrap64 (by omega) (by omega)
  obtain ⟨g3,s1,e3,m3⟩:=m2.set hi hj (R a.i a.j+eR*ch (ring.take t) a.i a.j+a.c*eR)
  simp only [cj,zero_add,ah,p2,p4,iS,m2.jI hi hj,true_and,xT,w1,b7,w2,s1,aL]
  rw [dP t (by simp [maxLen];omega)]
  have ne:iQ a.i≠ir:=λe=>by
   have h1:=m2.hr _ hi
   rw [e,CI] at h1;cases h1
  refine hL (t+1,g3) ⟨aw,by rw [e3];exact ni.set (hb _ hi) _,?_,?_,λi j=>?_⟩ (by show ring.length-(t+1)<ring.length-t;omega)
  ·show MR g3 oI iQ n λi j=>R i j+eR*ch (ring.take (t+1)) i j
   have:(λi j=>R i j+eR*ch (ring.take (t+1)) i j)=λx y=>if x=a.i/\y=a.j then R a.i a.j+eR*ch (ring.take t) a.i a.j+a.c*eR else R x y+eR*ch (ring.take t) x y:=by
    funext x y
    rw [tk,ac8,Av,Cd]
    by_cases e:x=a.i/\y=a.j
    ·rw [if_pos e,if_pos e,e.1,e.2,Int.add_zero,Int.mul_add,Int.mul_comm a.c];omega
    ·rw [if_neg e,if_neg e];simp
   rw [this];exact m3
  ·show g3[ir]?=_
   rw [e3,getElem?_set_ne ne];exact CI
  ·show -(1000*((t+1:Nat):Int))<=eR*ch (ring.take (t+1)) i j/\eR*ch (ring.take (t+1)) i j<=1000*((t+1:Nat):Int)
   have b:=bd i j
   rw [tk,ac8,Av,Cd]
   split
   ·rw [Int.mul_add,Int.add_zero,Int.mul_comm eR a.c];omega
   ·simp;omega
 ·have e:t=ring.length:=by omega
  subst e
  rw [take_length] at m
  exact ⟨trivial,hk g xg m⟩
end
section
open Go.Sim Go.Sort
variable {h : ae} {K : Value -> ae -> Prop} {n : Nat}
theorem aAz {D R:Nat->Nat->Int} {a:cQ} (hD:∀i<n,D i i=0) (hR:∀i<n,∀j<n,0<=R i j/\R i j<=D i j) (g:PM n D R a):a.f<n/\a.t<n/\a.f≠a.t:=by
 obtain ⟨h1,h2,h3,h4⟩:=g
 have ne:a.i≠a.j:=λe=>by
  have d:=hD a.i h1
  have r:=hR a.i h1 a.i h1
  rw [h3,<-e] at h4
  unfold zp at h4
  split at h4 <;> omega
 unfold cQ.f cQ.t
 split
 ·exact ⟨h1,h2,ne⟩
 ·exact ⟨h2,h1,Ne.symm ne⟩
theorem C29 {eX:Nat} {iP:Nat->Nat} {D:Nat->Nat->Int} (bl:nN n D) (md:MR h eX iP n D)
  (hk:∀vc g im ids,EX h g->MR g im ids n (λ_ _=>0)->K (.tuple #[sl 34 im 0 n,vc]) g):ay prog 29 [sl 34 eX 0 n] h K:=by
 have n8:=bl.n8;have n1:=bl.n1
 refine f29 ?_
 unfold Mv
 refine C51 md n1 λg0 oI iQ x0 AR iG m0=>?_
 have r0:xO n D D:=⟨λi hi j hj=>by have:=bl.dZ i hi j hj;omega,bl.wo⟩
 refine cN (σ:=(Nat->Nat->Int)×ae) (λ_=>[]) (λq=>q.2) (λq=>EX h q.2/\MR q.2 oI iQ n q.1/\xO n D q.1) (λq=>(pF n q.1).toNat) (D,g0) rfl rfl ⟨x0,m0,r0⟩ ?_
 rintro ⟨R,g⟩ ⟨xg,mr,rs⟩ L hL
 simp only at xg mr rs hL⊢
 rw [aFJ]
 have ln:aT (sl 34 oI 0 n)=some (I n):=rfl
 have n64:n*n<=64:=Nat.mul_le_mul n8 n8
 simp only [ln,ah]
 refine C53 (md.up xg) mr n1 (λi hi j hj=>by have:=rs.bd i hi j hj;have:=bl.dZ i hi j hj;omega) ?_
 intro v g1 l x1 al own
 have ga:=λa ha=>aAz bl.diag rs.bd (al.gd a ha)
 have gr:EI n l:=⟨λa ha=>(ga a ha).1,λa ha=>(ga a ha).2.1,λa ha=>(ga a ha).2.2,by have:=al.le;omega,n1,n8⟩
 refine C52 gr own.av ?_ ?_
 ·intro vc g2 c x2 hc
  have en:oG false (.slice none 0 0) (.slice none 0 0)=some (B true):=rfl
  simp only [fM,gi,gj,ah,en,gf]
  have z:=rs.zero c λi hi j hj hp=>by
   have:=al.yb i hi j hj (.inl hi) hp
   obtain ⟨k,fC,qV⟩:=List.getElem_of_mem this
   have:=hc k fC
   rw [qV] at this
   exact this
  have m2:=mr.up (x1.trans x2)
  refine hk vc g2 oI iQ (xg.trans (x1.trans x2)) ⟨m2.ho,λi hi=>?_,m2.inj,m2.nm,n8⟩
  rw [m2.hr i hi]
  congr 2
  exact List.map_congr_left λj hj=>by rw [z i hi j (List.mem_range.1 hj)]
 ·intro vc vr g2 ring x2 bY kl oC CV km RY
  have anq:0<ring.length:=List.length_pos_iff.2 bY
  obtain ⟨ir,Qd,rfl,tH⟩:=RY.at anq
  have en:oG false (sl 119 ir 0 ring.length) (.slice none 0 0)=some (B false):=rfl
  have rl:ring.length<=128:=Nat.le_trans (by
   have:∀{a b:List cQ},a.Nodup->(∀x∈a,x∈b)->a.length<=b.length:=by
    intro a
    induction a with
    | nil=>intro b _ _;simp
    | cons x a ih=>
     intro b h1 h2
     have hx:=h2 x (by simp)
     have:=ih (b:=b.erase x) (List.nodup_cons.1 h1).2 λy hy=>by
      have:y≠x:=λe=>(List.nodup_cons.1 h1).1 (e ▸ hy)
      exact (List.mem_erase_of_ne this).2 (h2 y (by simp [hy]))
     rw [List.length_erase_of_mem hx] at this
     have:=List.length_pos_of_mem hx
     simp;omega
   exact this oC kl) gr.le
  obtain ⟨ai,ao,ad,_,_,lm⟩:=RY.av.get 0 anq
  have ad:aD 5 (sl 119 ir 0 ring.length) (.int .i64 (0))=some (pt ai ao):=ad
  have ln2:aT (sl 119 ir 0 ring.length)=some (I ring.length):=rfl
  simp only [fM,gi,gj,ah,en,dm,ad,cj,lm,ln2]
  have gm:∀a∈ring,1<=a.m/\a.m<=1000:=λa ha=>by
   obtain ⟨h1,h2,h3,h4⟩:=al.gd a (kl a ha)
   have:=rs.bd _ h1 _ h2
   have:=bl.dZ _ h1 _ h2
   refine ⟨by omega,?_⟩
   rw [h3];unfold zp;split <;> omega
  refine cN (σ:=Nat×Int×ae) (λq=>[I q.2.1,I q.1]) (λq=>q.2.2) (λq=>q.1<=ring.length/\EX g2 q.2.2/\1<=q.2.1/\q.2.1<=1000/\∀a∈ring.take q.1,q.2.1<=a.m) (λq=>ring.length-q.1)
   (0,ring[0].m,g2) rfl rfl ⟨zero_le _,EX.refl _,(gm _ (getElem_mem _)).1,(gm _ (getElem_mem _)).2,λa ha=>absurd ha (by simp)⟩ ?_
  rintro ⟨t,eR,g3⟩ ⟨ht,x3,m1,m2,mm⟩ L2 dO
  simp only at ht x3 m1 m2 mm dO⊢
  rw [aFG]
  simp only [bW,ah,ca]
  refine ⟨λaw=>?_,λcJ=>?_⟩
  ·have aw:t<ring.length:=by omega
   obtain ⟨ai,ao,ad,la,_⟩:=(RY.av.up x3).get t aw
   have x4:EX g3 (g3++[.arr 119 (hZ iQ ring[t])]):=EX.append _ _
   have c4:(g3++[az.arr 119 (hZ iQ ring[t])])[g3.length]?=some (.arr 119 (hZ iQ ring[t])):=bK
   have tk:ring.take (t+1)=ring.take t++[ring[t]]:=by rw [List.take_succ_eq_append_getElem aw]
   have gmt:=gm _ (getElem_mem aw)
   simp only [ad,la,ah,FC,aL,J5,cj,zero_add,(yh c4).2.2.2.1,min2,b7,true_and]
   rw [dP t (by simp [maxLen];omega)]
   refine dO (t+1,min eR ring[t].m,_) ⟨aw,x3.trans x4,by show 1<=min eR ring[t].m;omega,by show min eR ring[t].m<=1000;omega,λa ha=>?_⟩ (by show ring.length-(t+1)<ring.length-t;omega)
   have ha:a∈ring.take (t+1):=ha
   rw [tk] at ha
   show min eR ring[t].m<=a.m
   rcases List.mem_append.1 ha with ha | ha
   ·have:=mm a ha;omega
   ·rw [List.mem_singleton.1 ha];omega
  ·have e:t=ring.length:=by omega
   subst e
   rw [take_length] at mm
   have inn:∀a∈ring,a.i<n/\a.j<n:=λa ha=>let ⟨h1,h2,_⟩:=al.gd a (kl a ha);⟨h1,h2⟩
   obtain ⟨s1,s2⟩:=rs.step oC inn (λa ha=>(al.gd a (kl a ha)).2.2.1) CV km m1 mm
   refine aoI (g0:=h) inn rl m1 m2 (λi hi j hj=>by have:=rs.bd i hi j hj;have:=bl.dZ i hi j hj;omega) iG (xg.trans (x1.trans (x2.trans x3))) (mr.up (x1.trans (x2.trans x3))) (x3.get tH) ?_
   intro g' x' m'
   refine hL (_,g') ⟨x',m',s1⟩ ?_
   have n0:0<=pF n (λi j=>R i j+eR*ch ring i j):=vM λi hi=>vM λj hj=>(s1.bd i hi j hj).1
   show (pF n (λi j=>R i j+eR*ch ring i j)).toNat<(pF n R).toNat
   omega
theorem lB.of {D:Nat->Nat->Int} (n1:1<=n) (n8:n<=8) (dZ:∀i<n,∀j<n,0<=D i j/\D i j<=1000) (diag:∀i<n,D i i=0):lB n (fQ n D):=by
 refine ⟨n1,n8,by simp [fQ],λr hr=>?_,λr hr x hx=>?_,λi hi hj=>?_⟩
 ·obtain ⟨i,_,rfl⟩:=mem_map.1 hr;simp
 ·obtain ⟨i,hi,rfl⟩:=mem_map.1 hr
  obtain ⟨j,hj,rfl⟩:=mem_map.1 hx
  exact dZ i (List.mem_range.1 hi) j (List.mem_range.1 hj)
 ·have iM:i<n:=by simpa [fQ] using hi
  simp [fQ,diag i iM]
theorem C10 {eX:Nat} {iP:Nat->Nat} {D:Nat->Nat->Int} (bl:nN n D) (md:MR h eX iP n D)
  (hk:∀g im ids,EX h g->MR g im ids n (λ_ _=>0)->K (.tuple #[sl 34 im 0 n,I (fz (fQ n D)).sum,I 0]) g):ay prog 10 [sl 34 eX 0 n] h K:=by
 have mk:=lB.of bl.n1 bl.n8 bl.dZ bl.diag
 have mz:lB n (fQ n λ_ _=>0):=lB.of bl.n1 bl.n8 (λ_ _ _ _=>by omega) λ_ _=>rfl
 refine f10 ?_
 unfold LH
 refine V4 md.mi mk ?_
 simp only [kW,Bool.not_true,ah,dm]
 refine C29 bl md λvc g im ids x m=>?_
 simp only [fM,gi,gj,ah]
 refine V5 (md.up x).mi mk ?_
 refine V5 m.mi mz ?_
 have z:(fz (fQ n λ_ _=>0)).sum=0:=by
  have:∀r∈fz (fQ n λ_ _=>(0:Int)),r=0:=by
   intro r hr
   obtain ⟨q,hq,rfl⟩:=mem_map.1 hr
   obtain ⟨i,_,rfl⟩:=mem_map.1 hq
   have:(List.range n).map (λ_=>(0:Int))=replicate n 0:=by rw [map_const'];simp
   rw [this];simp
  have e:fz (fQ n λ_ _=>(0:Int))=replicate (fz (fQ n λ_ _=>(0:Int))).length 0:=List.eq_replicate_iff.2 ⟨rfl,this⟩
  rw [e];simp
 have tb:=mk.D6 (fz (fQ n D)).length
 rw [take_length] at tb
 have w:IntKind.wrap .i64 ((fz (fQ n D)).sum-0)=(fz (fQ n D)).sum:=by rw [wrap64 (by omega) (by omega)];omega
 simp only [z,iD,w,ah]
 exact hk g im ids x m
end
section
open Go.Sim
section
variable {h : ae} {id : Nat}
abbrev hb (h:ae) (id:Nat) (xs:List UInt8):ae:=h.set id (.arr 5 (xs.map cv))
theorem H4 (iG:id<h.length) (xs:List UInt8):(hb h id xs)[id]?=some (.arr 5 (xs.map cv)):=by simp [hb,iG]
theorem aeg (iG:id<h.length) {xs:List UInt8} {j:Nat} {c:UInt8} (hj:xs[j]?=some c):af false 1 (hb h id xs) (pt id j)=some (cv c):=by
 simp [af,bw,H4 iG,dS,hj]
theorem aeh (iG:id<h.length) {xs:List UInt8} {j:Nat} (c:UInt8) (hj:j<xs.length):aU 1 (hb h id xs) (pt id j) (cv c)=some (undef,hb h id (xs.set j c)):=by
 rw [kz (H4 iG xs) (by simpa using hj) rfl rfl]
 simp [hb,List.map_set]
end
end
end Go.Proofs.YtncaiogfjjepcaaGreat
namespace Go.Sim
section
def val (B:Nat):List Nat->Nat
 | []=>0
 | d::ds=>d+B*val B ds
def dF (B:Nat) (xs:List Nat):Prop:=∀x∈xs,x<B
def eL (B:Nat) (xs:List Nat):Prop:=dF B xs/\xs.getLast?≠some 0
theorem oT (B:Nat):∀xs ys:List Nat,val B (xs++ys)=val B xs+B^xs.length*val B ys
 | [],ys=>by simp [val]
 | x::xs,ys=>by
  simp only [List.cons_append,val,oT B xs ys,List.length_cons,pow_succ]
  grind
theorem xk (B:Nat):∀n,val B (replicate n 0)=0
 | 0=>rfl
 | n+1=>by rw [List.replicate_succ];simp [val,xk B n]
theorem sM (B:Nat):∀(xs:List Nat) (i d:Nat) (hi:i<xs.length),val B (xs.set i d)+B^i*xs[i]=val B xs+B^i*d
 | [],i,d,hi=>by simp at hi
 | x::xs,0,d,hi=>by simp [val];omega
 | x::xs,i+1,d,hi=>by
  have ih:=sM B xs i d (by simpa using hi)
  simp only [List.set_cons_succ,val,List.getElem_cons_succ,pow_succ]
  grind
theorem jS (B:Nat) (xs:List Nat) {i:Nat} (hi:i<xs.length):val B (xs.take (i+1))=val B (xs.take i)+B^i*xs[i]:=by
 rw [List.take_succ_eq_append_getElem hi,oT]
 simp [val,Nat.min_eq_left (Nat.le_of_lt hi)]
theorem dF.mono {B:Nat} {xs ys:List Nat} (h:dF B xs) (hs:∀y∈ys,y∈xs):dF B ys:=λy hy=>h y (hs y hy)
theorem dF.append {B:Nat} {xs ys:List Nat} (h:dF B xs) (k:dF B ys):dF B (xs++ys):=λy hy=>(List.mem_append.1 hy).elim (h y) (k y)
theorem dF.set {B:Nat} {xs:List Nat} (h:dF B xs) {d:Nat} (hd:d<B) (i:Nat):dF B (xs.set i d):=λy hy=>by
 rcases List.mem_or_eq_of_mem_set hy with h1 | h1
 ·exact h y h1
 ·rw [h1];exact hd
theorem dF.wc {B:Nat} (hB:0<B) (n:Nat):dF B (replicate n 0):=λy hy=>by
 rw [(List.mem_replicate.1 hy).2];exact hB
theorem nI {B:Nat}:∀{xs:List Nat},dF B xs->val B xs<B^xs.length
 | [],_=>by simp [val]
 | x::xs,h=>by
  have h1:=h x (by simp)
  have ih:=nI (xs:=xs) λy hy=>h y (by simp [hy])
  simp only [val,List.length_cons,pow_succ]
  have:B*(val B xs+1)<=B*B^xs.length:=Nat.mul_le_mul_left _ ih
  rw [Nat.mul_comm (B^xs.length)]
  grind
theorem eL.cons {B:Nat} {x:Nat} {xs:List Nat} (h:eL B (x::xs)):x<B/\eL B xs/\(xs=[]->x≠0):=by
 refine ⟨h.1 x (by simp),⟨λy hy=>h.1 y (by simp [hy]),?_⟩,?_⟩
 ·intro hl
  apply h.2
  cases xs with
  | nil=>simp at hl
  | cons y ys=>simpa [List.getLast?_cons_cons] using hl
 ·rintro rfl rfl
  exact h.2 rfl
theorem eL.zero {B:Nat} (hB:0<B):∀{xs:List Nat},eL B xs->val B xs=0->xs=[]
 | [],_,_=>rfl
 | x::xs,h,h0=>by
  obtain ⟨_,h2,h3⟩:=h.cons
  simp only [val] at h0
  have hx:x=0:=by omega
  have hv:B*val B xs=0:=by omega
  have:val B xs=0:=by
   rcases Nat.mul_eq_zero.1 hv with h | h
   ·omega
   ·exact h
  exact absurd hx (h3 (eL.zero hB h2 this))
theorem eL.unique {B:Nat} (hB:0<B):∀{xs ys:List Nat},eL B xs->eL B ys->val B xs=val B ys->xs=ys
 | [],ys,_,hy,h=>(eL.zero hB hy (by simpa [val] using h.symm)).symm
 | x::xs,[],hx,_,h=>eL.zero hB hx (by simpa [val] using h)
 | x::xs,y::ys,hx,hy,h=>by
  obtain ⟨a1,a2,_⟩:=hx.cons
  obtain ⟨b1,b2,_⟩:=hy.cons
  simp only [val] at h
  have e1:x=y:=by
   have:=congrArg (·%B) h
   simpa [Nat.add_mul_mod_self_left,mod_eq_of_lt a1,mod_eq_of_lt b1] using this
  subst e1
  have e2:val B xs=val B ys:=Nat.eq_of_mul_eq_mul_left hB (by omega)
  rw [eL.unique hB a2 b2 e2]
theorem eL.low {B:Nat} (hB:0<B):∀{xs:List Nat},eL B xs->xs≠[]->B^(xs.length-1)<=val B xs
 | [x],h,_=>by
  have:=h.cons.2.2 rfl
  simp [val]
  omega
 | x::y::xs,h,_=>by
  have ih:=eL.low hB h.cons.2.1 (by simp)
  simp only [List.length_cons,Nat.add_sub_cancel] at ih⊢
  rw [show val B (x::y::xs)=x+B*val B (y::xs) from rfl,pow_succ]
  have:B*B^xs.length<=B*val B (y::xs):=Nat.mul_le_mul_left _ ih
  rw [Nat.mul_comm (B^xs.length)]
  omega
theorem eL.len {B k:Nat} (hB:1<B) {xs:List Nat} (h:eL B xs) (hv:val B xs<B^k):xs.length<=k:=by
 by_cases hx:xs=[]
 ·subst hx;simp
 ·have h1:=eL.low (by omega) h hx
  have h2:B^(xs.length-1)<B^k:=Nat.lt_of_le_of_lt h1 hv
  have:=(Nat.pow_lt_pow_iff_right hB).1 h2
  have:0<xs.length:=List.length_pos_iff.2 hx
  omega
theorem eL.nil (B:Nat):eL B []:=⟨λx hx=>by simp at hx,by simp⟩
theorem eL.zl {B:Nat} (hB:1<B) {xs ys:List Nat} (hx:eL B xs) (hy:eL B ys) (h:xs.length<ys.length):val B xs<val B ys:=by
 have h1:=nI hx.1
 have h2:=eL.low (by omega) hy (by rintro rfl;simp at h)
 have h3:B^xs.length<=B^(ys.length-1):=Nat.pow_le_pow_right (by omega) (by omega)
 omega
theorem Hf {B:Nat} {xs:List Nat} (h:dF B xs) (hl:∀h0:0<xs.length,xs[xs.length-1]≠0):eL B xs:=by
 refine ⟨h,λh0=>?_⟩
 rw [List.getLast?_eq_getElem?] at h0
 obtain ⟨h1,h2⟩:=cm h0
 exact hl (by omega) h2
end
end Go.Sim
namespace Go.Proofs.YtncaiogfjjepcaaGreat
open Go.Sim
section
variable (P : Program) (K : VK)
noncomputable section
variable (n0 : Value) (h : ae)
def ahz:=cg prog 34 [[],[]]
@[irreducible] def c34:=cD ahz
theorem k34:ahz=some (7,c34,[.cell true 4 2]):=by kernel_rfl
def MA:Prop:=
 OH (cF 92 [(.bool false),(.slice none 0 0),(.bool false),(.slice none 0 0)] h) λx2 z1=>
 ay P 56 [n0] z1 λx4 z2=>
 ay P 56 [(.int .i64 (1))] z2 λx5 z3=>
 OP (eG [(.bool false),(.slice none 0 0),(.bool false),(.slice none 0 0)] [(0,2,x4),(2,2,x5)]) λx6=>
 OH (aU 4 z3 x2 x6) λ_ z4=>
 OP (af true 4 z4 x2) λr0=>
 K r0 z4
theorem e34:au P c34 (aW [.cell true 4 2] K) (cd [n0]) h=MA P K n0 h:=by kernel_rfl
theorem f34 {K:VK} {n0:Value} {h:ae} (H:MA prog K n0 h):ay prog 34 [n0] h K:=
 cC k34 (cE rfl) ((e34 prog K n0 h).mpr H)
end
noncomputable section
variable (a0 b1 a2 b3 x4 x7 x9 : Value) (h : ae)
def ahB:=cg prog 36 [[],[2,3,4,7],[2,3,4,7,9],[],[],[],[]]
@[irreducible] def B5:=cD ahB
@[irreducible] def aaq:=B5.r.l.l.r.l
@[irreducible] def awL:=B5.r.l.r
@[irreducible] def awK:=B5.r.r
@[irreducible] def awM:=aaq.r.l
theorem k36:ahB=some (34,B5,[.cell true 4 4]):=by kernel_rfl
def Xh (_P:Program) (K:VK):ax:=aW [.cell true 4 4] K
def Xi:ax:=aH (au P awK (Xh P K)) (Xh P K)
def Xj:ax:=aH (au P awL (Xi P K)) (Xi P K)
def akC:Prop:=aA (au P aaq (Xj P K)) [2,3,4,7] [a2,b3,x4,x7] h
def Jo:Prop:=aA (au P awM (Xj P K)) [2,3,4,7,9] [a2,b3,x4,x7,x9] h
theorem aGk:Jo P K a2 b3 x4 x7 x9 h=
 (OP (bu x7 x9 (.bool false)) λaE=>
 aJ aE
 (OP (aF 0 a2) λaG=>
 OP (af true 2 h aG) λaM=>
 OP (aF 0 b3) λaC=>
 OP (af true 2 h aC) λaP=>
 ay P 61 [aM,aP] h λaX z1=>
 ay P 60 [aX] z1 λaZ z2=>
 OH (aU 4 z2 x4 aZ) λ_ z3=>
 OP (af true 4 z3 x4) λr0=>
 K r0 z3)
 (OP (aF 0 a2) λbM=>
 OP (af true 2 h bM) λbA=>
 (True)/\
 OP (aF 2 b3) λaR=>
 OP (af true 2 h aR) λaI=>
 (True)/\
 ay P 63 [bA,aI] h λaS z1=>
 (True)/\
 OP (aF 0 b3) λbL=>
 OP (af true 2 z1 bL) λbB=>
 (af true 2 h bL=some bB/\True)/\
 OP (aF 2 a2) λbm=>
 OP (af true 2 z1 bm) λbH=>
 (af true 2 h bm=some bH/\True)/\
 ay P 63 [bB,bH] z1 λbP z2=>
 (True)/\
 ay P 61 [aS,bP] z2 λbQ z3=>
 (True)/\
 OP (aF 2 a2) λcL=>
 OP (af true 2 z3 cL) λb9=>
 (af true 2 h cL=some b9/\af true 2 z1 cL=some b9/\af true 2 z2 cL=some b9/\True)/\
 OP (aF 2 b3) λaV=>
 OP (af true 2 z3 aV) λbz=>
 (af true 2 h aV=some bz/\af true 2 z1 aV=some bz/\af true 2 z2 aV=some bz/\True)/\
 ay P 63 [b9,bz] z3 λdJ z4=>
 (True)/\
 ay P 62 [bQ,dJ] z4 λbZ z5=>
 (True)/\
 OH (aU 4 z5 x4 bZ) λ_ z6=>
 (True)/\
 OP (af true 4 z6 x4) λr0=>
 K r0 z6)):=aB (by kernel_rfl)
theorem aGj:akC P K a2 b3 x4 x7 h=
 (bO x7 true
 (OP (af true 4 h b3) λx8=>
 ay P 59 [x8] h λx9 z1=>
 Jo P K a2 b3 x4 x7 x9 z1)
 (Jo P K a2 b3 x4 x7 undef h)):=aB (by kernel_rfl)
def MC:Prop:=
 OH (cR 92 h a0) λa2 z1=>
 OH (cR 92 z1 b1) λb3 z2=>
 OH (cF 92 [(.bool false),(.slice none 0 0),(.bool false),(.slice none 0 0)] z2) λx4 z3=>
 OP (af true 4 z3 a2) λx5=>
 ay P 59 [x5] z3 λx6 z4=>
 akC P K a2 b3 x4 x6 z4
theorem e36:au P B5 (aW [.cell true 4 4] K) (cd [a0,b1]) h=MC P K a0 b1 h:=by kernel_rfl
theorem f36 {K:VK} {a0 b1:Value} {h:ae} (H:MC prog K a0 b1 h):ay prog 36 [a0,b1] h K:=
 cC k36 (cE rfl) ((e36 prog K a0 b1 h).mpr H)
end
noncomputable section
variable (a0 b1 : Value) (h : ae)
def ahC:=cg prog 37 [[],[]]
@[irreducible] def c37:=cD ahC
theorem k37:ahC=some (16,c37,[.tmp 4]):=by kernel_rfl
def MD:Prop:=
 OH (cR 92 h a0) λa2 z1=>
 OH (cR 92 z1 b1) λb3 z2=>
 OP (aF 0 a2) λx5=>
 OP (af true 2 z2 x5) λx6=>
 (True)/\
 OP (aF 2 b3) λx7=>
 OP (af true 2 z2 x7) λx8=>
 (True)/\
 ay P 63 [x6,x8] z2 λx9 z3=>
 (True)/\
 OP (aF 0 b3) λaE=>
 OP (af true 2 z3 aE) λaG=>
 (af true 2 z2 aE=some aG/\True)/\
 OP (aF 2 a2) λaM=>
 OP (af true 2 z3 aM) λaC=>
 (af true 2 z2 aM=some aC/\True)/\
 ay P 63 [aG,aC] z3 λaP z4=>
 (True)/\
 ay P 64 [x9,aP] z4 λaX z5=>
 (True)/\
 K aX z5
theorem e37:au P c37 (aW [.tmp 4] K) (cd [a0,b1]) h=MD P K a0 b1 h:=by kernel_rfl
theorem f37 {K:VK} {a0 b1:Value} {h:ae} (H:MD prog K a0 b1 h):ay prog 37 [a0,b1] h K:=
 cC k37 (cE rfl) ((e37 prog K a0 b1 h).mpr H)
end
noncomputable section
variable (a0 b1 : Value) (h : ae)
def ahE:=cg prog 39 [[],[]]
@[irreducible] def c39:=cD ahE
theorem k39:ahE=some (9,c39,[.cell true 4 4]):=by kernel_rfl
def MF:Prop:=
 OH (cR 92 h a0) λa2 z1=>
 OH (cR 92 z1 b1) λb3 z2=>
 OH (cF 92 [(.bool false),(.slice none 0 0),(.bool false),(.slice none 0 0)] z2) λx4 z3=>
 OP (af true 4 z3 a2) λx5=>
 (True)/\
 OP (af true 4 z3 b3) λx6=>
 (True)/\
 ay P 67 [x6] z3 λx7 z4=>
 (af true 4 z4 a2=some x5/\True)/\
 ay P 36 [x5,x7] z4 λx8 z5=>
 (True)/\
 OH (aU 4 z5 x4 x8) λ_ z6=>
 (True)/\
 OP (af true 4 z6 x4) λr0=>
 K r0 z6
theorem e39:au P c39 (aW [.cell true 4 4] K) (cd [a0,b1]) h=MF P K a0 b1 h:=by kernel_rfl
theorem f39 {K:VK} {a0 b1:Value} {h:ae} (H:MF prog K a0 b1 h):ay prog 39 [a0,b1] h K:=
 cC k39 (cE rfl) ((e39 prog K a0 b1 h).mpr H)
end
noncomputable section
variable (a0 a1 s4 : Value) (h : ae)
def ahU:=cg prog 55 [[],[],[],[],[],[],[1,4],[],[],[],[],[],[],[],[]]
@[irreducible] def OA:=cD ahU
@[irreducible] def axA:=OA.r.r.r.r.l
theorem k55:ahU=some (32,OA,[.tmp 2,.tmp 3]):=by kernel_rfl
def asE (_P:Program) (K:VK):ax:=aW [.tmp 2,.tmp 3] K
def Jv:Prop:=aA (au P axA (asE P K)) [1,4] [a1,s4] h
theorem aHM:Jv P K a1 s4 h=
 (OP (af true 4 h a1) λbA=>
 ay P 59 [bA] h λaR z1=>
 aJ aR
 (K (.tuple #[s4,(.int .i64 (0))]) z1)
 (OP (aF 2 a1) λaS=>
 OP (aF 1 aS) λbL=>
 OP (af false 1 z1 bL) λbB=>
 ay P 81 [bB] z1 λbm z2=>
 OP (wU bm) λbP=>
 OP (aj .gtr bP (.int .i64 (4000))) λbQ=>
 aJ bQ
 (K (.tuple #[(.string ⟨#[]⟩),(.int .i64 (4))]) z2)
 (OP (aj .add s4 (.string ⟨#[47]⟩)) λb9=>
 OP (aj .add b9 bm) λbz=>
 K (.tuple #[bz,(.int .i64 (0))]) z2))):=aB (by kernel_rfl)
def MW:Prop:=
 OH (cR 92 h a0) λa1 z1=>
 OP (aF 0 a1) λx6=>
 OP (aF 1 x6) λx7=>
 OP (af false 1 z1 x7) λx8=>
 ay P 81 [x8] z1 λx9 z2=>
 OP (wU x9) λaG=>
 OP (aj .gtr aG (.int .i64 (4000))) λaM=>
 aJ aM
 (K (.tuple #[(.string ⟨#[]⟩),(.int .i64 (4))]) z2)
 (OP (aF 0 a1) λaC=>
 OP (aF 0 aC) λaP=>
 OP (af false 1 z2 aP) λaX=>
 aJ aX
 (OP (aj .add (.string ⟨#[45]⟩) x9) λbM=>
 Jv P K a1 bM z2)
 (Jv P K a1 x9 z2))
theorem e55:au P OA (aW [.tmp 2,.tmp 3] K) (cd [a0]) h=MW P K a0 h:=by kernel_rfl
theorem f55 {K:VK} {a0:Value} {h:ae} (H:MW prog K a0 h):ay prog 55 [a0] h K:=
 cC k55 (cE rfl) ((e55 prog K a0 h).mpr H)
end
noncomputable section
variable (n0 x2 u3 : Value) (h : ae)
def ahV:=cg prog 56 [[],[],[],[0,2,3],[]]
@[irreducible] def OB:=cD ahV
@[irreducible] def axB:=OB.r.r.r.l
theorem k56:ahV=some (20,OB,[.cell true 2 2]):=by kernel_rfl
def asF (_P:Program) (K:VK):ax:=aW [.cell true 2 2] K
def Jw:Prop:=aA (au P axB (asF P K)) [0,2,3] [n0,x2,u3] h
theorem aHN:Jw P K n0 x2 u3 h=
 (OP (aj .lss n0 (.int .i64 (0))) λaG=>
 OP (dI .u32 u3) λaC=>
 OP (aj .shr u3 (.int .u64 (32))) λaX=>
 OP (dI .u32 aX) λaZ=>
 OH (cH 152 2 [(.int .u32 (0))] h [(0,1,aC),(1,1,aZ)]) λbM z1=>
 ay P 83 [bM] z1 λbA z2=>
 ay P 82 [aG,bA] z2 λaR z3=>
 OH (aU 2 z3 x2 aR) λ_ z4=>
 OP (af true 2 z4 x2) λr0=>
 K r0 z4):=aB (by kernel_rfl)
def MX:Prop:=
 OH (cF 90 [(.bool false),(.slice none 0 0)] h) λx2 z1=>
 OP (dI .u64 n0) λx5=>
 OP (aj .lss n0 (.int .i64 (0))) λx7=>
 aJ x7
 (OP (gE .neg x5) λx9=>
 Jw P K n0 x2 x9 z1)
 (Jw P K n0 x2 x5 z1)
theorem e56:au P OB (aW [.cell true 2 2] K) (cd [n0]) h=MX P K n0 h:=by kernel_rfl
theorem f56 {K:VK} {n0:Value} {h:ae} (H:MX prog K n0 h):ay prog 56 [n0] h K:=
 cC k56 (cE rfl) ((e56 prog K n0 h).mpr H)
end
noncomputable section
variable (a0 a1 x8 aP : Value) (h : ae)
def ahY:=cg prog 59 [[],[1,8],[8,14],[]]
@[irreducible] def GP:=cD ahY
@[irreducible] def abV:=GP.r.l.r.l
@[irreducible] def axM:=GP.r.r
@[irreducible] def axN:=abV.r.l
theorem k59:ahY=some (16,GP,[.tmp 2]):=by kernel_rfl
def XD (_P:Program) (K:VK):ax:=aW [.tmp 2] K
def XE:ax:=aH (au P axM (XD P K)) (XD P K)
def alE:Prop:=aA (au P abV (XE P K)) [1,8] [a1,x8] h
def TS:Prop:=aA (au P axN (XE P K)) [8,14] [x8,aP] h
theorem UA:TS P K x8 aP h=
 (OP (bu x8 aP (.bool false)) λaX=>
 K aX h):=aB (by kernel_rfl)
theorem Uz:alE P K a1 x8 h=
 (bO x8 true
 (OP (aF 2 a1) λx9=>
 OP (aF 1 x9) λaE=>
 OP (af false 1 h aE) λaG=>
 OP (aD 1 aG (.int .i64 (0))) λaM=>
 OP (af false 1 h aM) λaC=>
 OP (aj .eql aC (.int .u32 (1))) λaP=>
 TS P K x8 aP h)
 (TS P K x8 undef h)):=aB (by kernel_rfl)
def Fz:Prop:=
 OH (cR 92 h a0) λa1 z1=>
 OP (aF 2 a1) λx3=>
 OP (aF 1 x3) λx4=>
 OP (af false 1 z1 x4) λx5=>
 OP (aT x5) λx6=>
 OP (aj .eql x6 (.int .i64 (1))) λx7=>
 alE P K a1 x7 z1
theorem e59:au P GP (aW [.tmp 2] K) (cd [a0]) h=Fz P K a0 h:=by kernel_rfl
theorem f59 {K:VK} {a0:Value} {h:ae} (H:Fz prog K a0 h):ay prog 59 [a0] h K:=
 cC k59 (cE rfl) ((e59 prog K a0 h).mpr H)
end
noncomputable section
variable (n0 : Value) (h : ae)
def ah0:=cg prog 60 [[],[]]
@[irreducible] def c60:=cD ah0
theorem k60:ah0=some (6,c60,[.cell true 4 2]):=by kernel_rfl
def M0:Prop:=
 OH (cR 90 h n0) λn1 z1=>
 OH (cF 92 [(.bool false),(.slice none 0 0),(.bool false),(.slice none 0 0)] z1) λx2 z2=>
 OP (af true 2 z2 n1) λx3=>
 (True)/\
 ay P 56 [(.int .i64 (1))] z2 λx4 z3=>
 (af true 2 z3 n1=some x3/\True)/\
 OP (eG [(.bool false),(.slice none 0 0),(.bool false),(.slice none 0 0)] [(0,2,x3),(2,2,x4)]) λx5=>
 OH (aU 4 z3 x2 x5) λ_ z4=>
 (True)/\
 OP (af true 4 z4 x2) λr0=>
 K r0 z4
theorem e60:au P c60 (aW [.cell true 4 2] K) (cd [n0]) h=M0 P K n0 h:=by kernel_rfl
theorem f60 {K:VK} {n0:Value} {h:ae} (H:M0 prog K n0 h):ay prog 60 [n0] h K:=
 cC k60 (cE rfl) ((e60 prog K n0 h).mpr H)
end
noncomputable section
variable (a0 b1 : Value) (h : ae)
def ah1:=cg prog 61 [[],[],[],[],[],[],[]]
@[irreducible] def c61:=cD ah1
theorem k61:ah1=some (42,c61,[.cell true 2 4]):=by kernel_rfl
def M1:Prop:=
 OH (cR 90 h a0) λa2 z1=>
 OH (cR 90 z1 b1) λb3 z2=>
 OH (cF 90 [(.bool false),(.slice none 0 0)] z2) λx4 z3=>
 OP (aF 0 a2) λx6=>
 OP (af false 1 z3 x6) λx7=>
 OP (aF 0 b3) λx8=>
 OP (af false 1 z3 x8) λx9=>
 OP (tP false x7 x9) λaE=>
 aJ aE
 (OP (aF 0 a2) λaG=>
 OP (af false 1 z3 aG) λaM=>
 (True)/\
 OP (aF 1 a2) λaC=>
 OP (af false 1 z3 aC) λaP=>
 (True)/\
 OP (aF 1 b3) λaX=>
 OP (af false 1 z3 aX) λaZ=>
 (True)/\
 ay P 85 [aP,aZ] z3 λbM z4=>
 (af false 1 z4 aG=some aM/\True)/\
 ay P 82 [aM,bM] z4 λbA z5=>
 (True)/\
 OH (aU 2 z5 x4 bA) λ_ z6=>
 (True)/\
 OP (af true 2 z6 x4) λr0=>
 K r0 z6)
 (OP (aF 1 a2) λaI=>
 OP (af false 1 z3 aI) λaS=>
 OP (aF 1 b3) λbL=>
 OP (af false 1 z3 bL) λbB=>
 ay P 86 [aS,bB] z3 λbm z4=>
 OP (aj .geq bm (.int .i64 (0))) λbH=>
 aJ bH
 (OP (aF 0 a2) λbP=>
 OP (af false 1 z4 bP) λbQ=>
 (True)/\
 OP (aF 1 a2) λcL=>
 OP (af false 1 z4 cL) λb9=>
 (True)/\
 OP (aF 1 b3) λaV=>
 OP (af false 1 z4 aV) λbz=>
 (True)/\
 ay P 87 [b9,bz] z4 λdJ z5=>
 (af false 1 z5 bP=some bQ/\True)/\
 ay P 82 [bQ,dJ] z5 λbZ z6=>
 (True)/\
 OH (aU 2 z6 x4 bZ) λ_ z7=>
 (True)/\
 OP (af true 2 z7 x4) λr0=>
 K r0 z7)
 (OP (aF 0 b3) λcA=>
 OP (af false 1 z4 cA) λcB=>
 (True)/\
 OP (aF 1 b3) λaY=>
 OP (af false 1 z4 aY) λbG=>
 (True)/\
 OP (aF 1 a2) λdH=>
 OP (af false 1 z4 dH) λdW=>
 (True)/\
 ay P 87 [bG,dW] z4 λcI z5=>
 (af false 1 z5 cA=some cB/\True)/\
 ay P 82 [cB,cI] z5 λcU z6=>
 (True)/\
 OH (aU 2 z6 x4 cU) λ_ z7=>
 (True)/\
 OP (af true 2 z7 x4) λr0=>
 K r0 z7))
theorem e61:au P c61 (aW [.cell true 2 4] K) (cd [a0,b1]) h=M1 P K a0 b1 h:=by kernel_rfl
theorem f61 {K:VK} {a0 b1:Value} {h:ae} (H:M1 prog K a0 b1 h):ay prog 61 [a0,b1] h K:=
 cC k61 (cE rfl) ((e61 prog K a0 b1 h).mpr H)
end
noncomputable section
variable (x0 x1 x2 x3 x4 : Value) (h : ae)
def ah2:=cg prog 62 [[],[],[2,3,4],[],[],[],[],[],[],[]]
@[irreducible] def OI:=cD ah2
@[irreducible] def axT:=OI.r.r.l
theorem k62:ah2=some (41,OI,[.cell true 4 4]):=by kernel_rfl
def as1 (_P:Program) (K:VK):ax:=aW [.cell true 4 4] K
def TW:Prop:=aA (au P axT (as1 P K)) [2,3,4] [x2,x3,x4] h
theorem aIa:TW P K x2 x3 x4 h=
 (OP (af true 2 h x2) λaZ=>
 OP (af true 2 h x3) λbM=>
 ay P 89 [aZ,bM] h λbA z1=>
 OH (cF 90 [(.bool false),(.slice none 0 0)] z1) λg5 z2=>
 OH (aU 2 z2 g5 bA) λ_ z3=>
 OP (af true 2 z3 g5) λaR=>
 (True)/\
 ay P 56 [(.int .i64 (1))] z3 λaI z4=>
 (af true 2 z4 g5=some aR/\True)/\
 ay P 64 [aR,aI] z4 λaS z5=>
 (True)/\
 OP (aj .eql aS (.int .i64 (0))) λbL=>
 aJ bL
 (OP (af true 2 z5 x2) λbB=>
 OP (af true 2 z5 x3) λbm=>
 OP (eG [(.bool false),(.slice none 0 0),(.bool false),(.slice none 0 0)] [(0,2,bB),(2,2,bm)]) λbH=>
 OH (aU 4 z5 x4 bH) λ_ z6=>
 OP (af true 4 z6 x4) λr0=>
 K r0 z6)
 (OP (af true 2 z5 x2) λbQ=>
 OP (af true 2 z5 g5) λcL=>
 ay P 90 [bQ,cL] z5 λb9 z6=>
 OP (cW 0 b9) λaV=>
 OP (cW 1 b9) λbz=>
 OH (cF 90 [(.bool false),(.slice none 0 0)] z6) λn6 z7=>
 OH (cF 90 [(.bool false),(.slice none 0 0)] z7) λx7 z8=>
 OH (aU 2 z8 n6 aV) λ_ z9=>
 OH (aU 2 z9 x7 bz) λ_ qK=>
 OP (af true 2 qK x3) λbZ=>
 OP (af true 2 qK g5) λcA=>
 ay P 90 [bZ,cA] qK λcB zW=>
 OP (cW 0 cB) λaY=>
 OP (cW 1 cB) λbG=>
 OH (cF 90 [(.bool false),(.slice none 0 0)] zW) λd8 z12=>
 OH (cF 90 [(.bool false),(.slice none 0 0)] z12) λx9 VD=>
 OH (aU 2 VD d8 aY) λ_ VE=>
 OH (aU 2 VE x9 bG) λ_ zX=>
 OP (af true 2 zX n6) λdH=>
 OP (af true 2 zX d8) λdW=>
 OP (eG [(.bool false),(.slice none 0 0),(.bool false),(.slice none 0 0)] [(0,2,dH),(2,2,dW)]) λcI=>
 OH (aU 4 zX x4 cI) λ_ Ex=>
 OP (af true 4 Ex x4) λr0=>
 K r0 Ex)):=aB (by kernel_rfl)
def M3:Prop:=
 OH (cR 90 h x0) λx2 z1=>
 OH (cR 90 z1 x1) λx3 z2=>
 OH (cF 92 [(.bool false),(.slice none 0 0),(.bool false),(.slice none 0 0)] z2) λx4 z3=>
 OP (aF 0 x3) λaE=>
 OP (af false 1 z3 aE) λaG=>
 aJ aG
 (OP (af true 2 z3 x2) λaM=>
 (True)/\
 ay P 88 [aM] z3 λaC z4=>
 (True)/\
 OP (af true 2 z4 x3) λaP=>
 (af true 2 z3 x3=some aP/\True)/\
 ay P 88 [aP] z4 λaX z5=>
 (True)/\
 OH (aU 2 z5 x2 aC) λ_ z6=>
 (True)/\
 OH (aU 2 z6 x3 aX) λ_ z7=>
 (True)/\
 TW P K x2 x3 x4 z7)
 (TW P K x2 x3 x4 z3)
theorem e62:au P OI (aW [.cell true 4 4] K) (cd [x0,x1]) h=M3 P K x0 x1 h:=by kernel_rfl
theorem f62 {K:VK} {x0 x1:Value} {h:ae} (H:M3 prog K x0 x1 h):ay prog 62 [x0,x1] h K:=
 cC k62 (cE rfl) ((e62 prog K x0 x1 h).mpr H)
end
noncomputable section
variable (a0 b1 : Value) (h : ae)
def ah3:=cg prog 63 [[],[]]
@[irreducible] def c63:=cD ah3
theorem k63:ah3=some (16,c63,[.cell true 2 4]):=by kernel_rfl
def M4:Prop:=
 OH (cR 90 h a0) λa2 z1=>
 OH (cR 90 z1 b1) λb3 z2=>
 OH (cF 90 [(.bool false),(.slice none 0 0)] z2) λx4 z3=>
 OP (aF 0 a2) λx5=>
 OP (af false 1 z3 x5) λx6=>
 (True)/\
 OP (aF 0 b3) λx7=>
 OP (af false 1 z3 x7) λx8=>
 (True)/\
 OP (tP true x6 x8) λx9=>
 OP (aF 1 a2) λaE=>
 OP (af false 1 z3 aE) λaG=>
 (True)/\
 OP (aF 1 b3) λaM=>
 OP (af false 1 z3 aM) λaC=>
 (True)/\
 ay P 91 [aG,aC] z3 λaP z4=>
 (af false 1 z4 x5=some x6/\af false 1 z4 x7=some x8/\True)/\
 ay P 82 [x9,aP] z4 λaX z5=>
 (True)/\
 OH (aU 2 z5 x4 aX) λ_ z6=>
 (True)/\
 OP (af true 2 z6 x4) λr0=>
 K r0 z6
theorem e63:au P c63 (aW [.cell true 2 4] K) (cd [a0,b1]) h=M4 P K a0 b1 h:=by kernel_rfl
theorem f63 {K:VK} {a0 b1:Value} {h:ae} (H:M4 prog K a0 b1 h):ay prog 63 [a0,b1] h K:=
 cC k63 (cE rfl) ((e63 prog K a0 b1 h).mpr H)
end
noncomputable section
variable (a0 b1 : Value) (h : ae)
def ah4:=cg prog 64 [[],[]]
@[irreducible] def c64:=cD ah4
theorem k64:ah4=some (9,c64,[.tmp 4]):=by kernel_rfl
def M5:Prop:=
 OH (cR 90 h a0) λa2 z1=>
 OH (cR 90 z1 b1) λb3 z2=>
 OP (af true 2 z2 a2) λx5=>
 OP (af true 2 z2 b3) λx6=>
 ay P 92 [x5,x6] z2 λx7 z3=>
 ay P 93 [x7] z3 λx8 z4=>
 K x8 z4
theorem e64:au P c64 (aW [.tmp 4] K) (cd [a0,b1]) h=M5 P K a0 b1 h:=by kernel_rfl
theorem f64 {K:VK} {a0 b1:Value} {h:ae} (H:M5 prog K a0 b1 h):ay prog 64 [a0,b1] h K:=
 cC k64 (cE rfl) ((e64 prog K a0 b1 h).mpr H)
end
noncomputable section
variable (a0 b1 a2 b3 x4 x7 x9 : Value) (h : ae)
def ah5:=cg prog 65 [[],[2,3,4,7],[2,3,4,7,9],[],[],[],[]]
@[irreducible] def B8:=cD ah5
@[irreducible] def ab5:=B8.r.l.l.r.l
@[irreducible] def axV:=B8.r.l.r
@[irreducible] def axU:=B8.r.r
@[irreducible] def axW:=ab5.r.l
theorem k65:ah5=some (28,B8,[.cell true 4 4]):=by kernel_rfl
def XF (_P:Program) (K:VK):ax:=aW [.cell true 4 4] K
def XG:ax:=aH (au P axU (XF P K)) (XF P K)
def XH:ax:=aH (au P axV (XG P K)) (XG P K)
def alI:Prop:=aA (au P ab5 (XH P K)) [2,3,4,7] [a2,b3,x4,x7] h
def Jz:Prop:=aA (au P axW (XH P K)) [2,3,4,7,9] [a2,b3,x4,x7,x9] h
theorem aIc:Jz P K a2 b3 x4 x7 x9 h=
 (OP (bu x7 x9 (.bool false)) λaE=>
 aJ aE
 (OP (aF 0 a2) λaG=>
 OP (af true 2 h aG) λaM=>
 OP (aF 0 b3) λaC=>
 OP (af true 2 h aC) λaP=>
 ay P 63 [aM,aP] h λaX z1=>
 ay P 60 [aX] z1 λaZ z2=>
 OH (aU 4 z2 x4 aZ) λ_ z3=>
 OP (af true 4 z3 x4) λr0=>
 K r0 z3)
 (OP (aF 0 a2) λbM=>
 OP (af true 2 h bM) λbA=>
 (True)/\
 OP (aF 0 b3) λaR=>
 OP (af true 2 h aR) λaI=>
 (True)/\
 ay P 63 [bA,aI] h λaS z1=>
 (True)/\
 OP (aF 2 a2) λbL=>
 OP (af true 2 z1 bL) λbB=>
 (af true 2 h bL=some bB/\True)/\
 OP (aF 2 b3) λbm=>
 OP (af true 2 z1 bm) λbH=>
 (af true 2 h bm=some bH/\True)/\
 ay P 63 [bB,bH] z1 λbP z2=>
 (True)/\
 ay P 62 [aS,bP] z2 λbQ z3=>
 (True)/\
 OH (aU 4 z3 x4 bQ) λ_ z4=>
 (True)/\
 OP (af true 4 z4 x4) λr0=>
 K r0 z4)):=aB (by kernel_rfl)
theorem aIb:alI P K a2 b3 x4 x7 h=
 (bO x7 true
 (OP (af true 4 h b3) λx8=>
 ay P 59 [x8] h λx9 z1=>
 Jz P K a2 b3 x4 x7 x9 z1)
 (Jz P K a2 b3 x4 x7 undef h)):=aB (by kernel_rfl)
def M6:Prop:=
 OH (cR 92 h a0) λa2 z1=>
 OH (cR 92 z1 b1) λb3 z2=>
 OH (cF 92 [(.bool false),(.slice none 0 0),(.bool false),(.slice none 0 0)] z2) λx4 z3=>
 OP (af true 4 z3 a2) λx5=>
 ay P 59 [x5] z3 λx6 z4=>
 alI P K a2 b3 x4 x6 z4
theorem e65:au P B8 (aW [.cell true 4 4] K) (cd [a0,b1]) h=M6 P K a0 b1 h:=by kernel_rfl
theorem f65 {K:VK} {a0 b1:Value} {h:ae} (H:M6 prog K a0 b1 h):ay prog 65 [a0,b1] h K:=
 cC k65 (cE rfl) ((e65 prog K a0 b1 h).mpr H)
end
noncomputable section
variable (a0 : Value) (h : ae)
def ah7:=cg prog 67 [[],[]]
@[irreducible] def c67:=cD ah7
theorem k67:ah7=some (9,c67,[.cell true 4 2]):=by kernel_rfl
def M8:Prop:=
 OH (cR 92 h a0) λa1 z1=>
 OH (cF 92 [(.bool false),(.slice none 0 0),(.bool false),(.slice none 0 0)] z1) λx2 z2=>
 OP (aF 0 a1) λx3=>
 OP (af true 2 z2 x3) λx4=>
 (True)/\
 ay P 88 [x4] z2 λx5 z3=>
 (True)/\
 OP (aF 2 a1) λx6=>
 OP (af true 2 z3 x6) λx7=>
 (af true 2 z2 x6=some x7/\True)/\
 OP (eG [(.bool false),(.slice none 0 0),(.bool false),(.slice none 0 0)] [(0,2,x5),(2,2,x7)]) λx8=>
 OH (aU 4 z3 x2 x8) λ_ z4=>
 (True)/\
 OP (af true 4 z4 x2) λr0=>
 K r0 z4
theorem e67:au P c67 (aW [.cell true 4 2] K) (cd [a0]) h=M8 P K a0 h:=by kernel_rfl
theorem f67 {K:VK} {a0:Value} {h:ae} (H:M8 prog K a0 h):ay prog 67 [a0] h K:=
 cC k67 (cE rfl) ((e67 prog K a0 h).mpr H)
end
noncomputable section
variable (x0 b3 q4 r5 i6 aI bm bP bQ : Value) (L1 L2 : LQ) (xs : List Value) (h : ae)
def ail:=cg prog 81 [[],[],[],[],[],[],[0,3],[],[],[],[],[4],[3,5,6],[3,4,5,6,20],[3,4,5,6,20,24],[3,4,5,6,20,24,26],[3,4,5,6,20,27],[],[],[],[],[3,4],[3],[],[]]
@[irreducible] def GY:=cD ail
@[irreducible] def ON:=GY.r.r.r.l.l.l
@[irreducible] def acx:=GY.r.r.r.r
@[irreducible] def GZ:=ON.r.l.r.l.r.l.l
@[irreducible] def acs:=ON.r.l.r.r
@[irreducible] def ayl:=acx.l
@[irreducible] def acu:=GZ.l.l.r.l
@[irreducible] def ayi:=GZ.l.r
@[irreducible] def ayh:=GZ.r
@[irreducible] def ayk:=acs.l
@[irreducible] def acv:=acu.r.l
@[irreducible] def acw:=acv.r.l
@[irreducible] def ayj:=acw.r.l
theorem k81:ail=some (45,GY,[.tmp 2]):=by kernel_rfl
def Lq (_P:Program) (K:VK):ax:=aW [.tmp 2] K
def atv:ax:=aH (au P acx (Lq P K)) (Lq P K)
def atw:ax:=bC 0 (atv P K)
def XO:ax:=aH (λf' aQ=>(([]:List Nat).map f':List Value)=[]/\L1 (([0,3]:List Nat).map f') aQ) (atw P K)
def Lr:ax:=bC 1 (XO P K L1)
def att:ax:=aH (au P acs (Lr P K L1)) (Lr P K L1)
def atu:ax:=bC 2 (att P K L1)
def Ls:ax:=aH (λf' aQ=>(([4]:List Nat).map f':List Value)=[q4]/\L2 (([3,5,6]:List Nat).map f') aQ) (atu P K L1)
def XN:ax:=aH (au P ayh (Ls P K q4 L1 L2)) (Ls P K q4 L1 L2)
def Fj:ax:=aH (au P ayi (XN P K q4 L1 L2)) (XN P K q4 L1 L2)
def al8:Prop:=aA (au P ON (XO P K L1)) ([]++[0,3]) ([]++xs) h
def al3:Prop:=aA (au P GZ (Ls P K q4 L1 L2)) ([4]++[3,5,6]) ([q4]++xs) h
def al6:Prop:=aA (au P acu (Fj P K q4 L1 L2)) [3,4,5,6,20] [b3,q4,r5,i6,aI] h
def Ub:Prop:=aA (au P acv (Fj P K q4 L1 L2)) [3,4,5,6,20,24] [b3,q4,r5,i6,aI,bm] h
def Uc:Prop:=aA (au P acw (Fj P K q4 L1 L2)) [3,4,5,6,20,24,26] [b3,q4,r5,i6,aI,bm,bP] h
def Ud:Prop:=aA (au P ayj (Fj P K q4 L1 L2)) [3,4,5,6,20,27] [b3,q4,r5,i6,aI,bQ] h
def JA:Prop:=aA (au P ayk (Lr P K L1)) [3,4] [b3,q4] h
def al7:Prop:=aA (au P ayl (Lq P K)) [3] [b3] h
theorem JR:Ud P K b3 q4 r5 i6 aI bQ L1 L2 h=
 (OP (bu aI bQ (.bool false)) λcL=>
 aJ cL
 (OP (aj .rem r5 (.int .u32 (10))) λbZ=>
 OP (aj .add (.int .u32 (48)) bZ) λcA=>
 OP (dI .u8 cA) λcB=>
 OH (cH 5 1 [(.int .u8 (0))] h [(0,1,cB)]) λaY z1=>
 OH (cT 5 1 1 z1 b3 aY) λbG z2=>
 OP (aj .quo r5 (.int .u32 (10))) λdW=>
 OP (aj .add i6 (.int .i64 (1))) λaV=>
 ([q4]:List Value)=[q4]/\L2 [bG,dW,aV] z2)
 (JA P K b3 q4 L1 h)):=aB (by kernel_rfl)
theorem JQ:Uc P K b3 q4 r5 i6 aI bm bP L1 L2 h=
 (bO aI true
 (OP (bu bm (.bool true) bP) λbQ=>
 Ud P K b3 q4 r5 i6 aI bQ L1 L2 h)
 (Ud P K b3 q4 r5 i6 aI undef L1 L2 h)):=aB (by kernel_rfl)
theorem UB:Ub P K b3 q4 r5 i6 aI bm L1 L2 h=
 (bO bm false
 (OP (aj .gtr r5 (.int .u32 (0))) λbP=>
 Uc P K b3 q4 r5 i6 aI bm bP L1 L2 h)
 (Uc P K b3 q4 r5 i6 aI bm undef L1 L2 h)):=aB (by kernel_rfl)
theorem anf:al6 P K b3 q4 r5 i6 aI L1 L2 h=
 (bO aI true
 (OP (aT q4) λbL=>
 OP (aj .gtr bL (.int .i64 (0))) λbB=>
 Ub P K b3 q4 r5 i6 aI bB L1 L2 h)
 (Ub P K b3 q4 r5 i6 aI undef L1 L2 h)):=aB (by kernel_rfl)
theorem aIC (q4:Value) (L1 L2:LQ) (b3 r5 i6:Value) (h:ae):al3 P K q4 L1 L2 [b3,r5,i6] h=
 (OP (aj .lss i6 (.int .i64 (9))) λaR=>
 al6 P K b3 q4 r5 i6 aR L1 L2 h):=aB (by kernel_rfl)
theorem aID:JA P K b3 q4 L1 h=
 (([]:List Value)=[]/\L1 [q4,b3] h):=aB (by kernel_rfl)
theorem aIF (L1:LQ) (x0 b3:Value) (h:ae):al8 P K L1 [x0,b3] h=
 (OP (aT x0) λaG=>
 OP (aj .gtr aG (.int .i64 (0))) λaM=>
 aJ aM
 (ay P 120 [x0,(.int .u32 (1000000000))] h λaX z1=>
 OP (cW 0 aX) λaZ=>
 OP (cW 1 aX) λbM=>
 bT [b3,bM,(.int .i64 (0))] z1 λL2 xs hx=>
 al3 P K aZ L1 L2 xs hx)
 (al7 P K b3 h)):=aB (by kernel_rfl)
theorem aIE:al7 P K b3 h=
 (ay P 121 [b3] h λ_ z1=>
 OP (ry z1 b3) λcP=>
 K cP z1):=aB (by kernel_rfl)
def Nk:Prop:=
 OP (aT x0) λx8=>
 OP (aj .eql x8 (.int .i64 (0))) λx9=>
 aJ x9
 (K (.string ⟨#[48]⟩) h)
 (bT [x0,(.slice none 0 0)] h λL1 xs hx=>
 al8 P K L1 xs hx)
theorem e81:au P GY (aW [.tmp 2] K) (cd [x0]) h=Nk P K x0 h:=by kernel_rfl
theorem f81 {K:VK} {x0:Value} {h:ae} (H:Nk prog K x0 h):ay prog 81 [x0] h K:=
 cC k81 (cE rfl) ((e81 prog K x0 h).mpr H)
end
noncomputable section
variable (x0 x1 x4 x6 x9 : Value) (h : ae)
def aim:=cg prog 82 [[],[1,4,6],[1,4,6,9],[]]
@[irreducible] def G0:=cD aim
@[irreducible] def acy:=G0.r.l.r.l
@[irreducible] def aym:=G0.r.r
@[irreducible] def ayn:=acy.r.l
theorem k82:aim=some (13,G0,[.cell true 2 4]):=by kernel_rfl
def XP (_P:Program) (K:VK):ax:=aW [.cell true 2 4] K
def XQ:ax:=aH (au P aym (XP P K)) (XP P K)
def al9:Prop:=aA (au P acy (XQ P K)) [1,4,6] [x1,x4,x6] h
def DH:Prop:=aA (au P ayn (XQ P K)) [1,4,6,9] [x1,x4,x6,x9] h
theorem ang:DH P K x1 x4 x6 x9 h=
 (OP (bu x6 x9 (.bool false)) λaE=>
 OP (eG [(.bool false),(.slice none 0 0)] [(0,1,aE),(1,1,x1)]) λaM=>
 OH (aU 2 h x4 aM) λ_ z1=>
 OP (af true 2 z1 x4) λr0=>
 K r0 z1):=aB (by kernel_rfl)
theorem aIG:al9 P K x1 x4 x6 h=
 (bO x6 true
 (OP (aT x1) λx8=>
 OP (aj .gtr x8 (.int .i64 (0))) λx9=>
 DH P K x1 x4 x6 x9 h)
 (DH P K x1 x4 x6 undef h)):=aB (by kernel_rfl)
def Nl:Prop:=
 OH (cF 90 [(.bool false),(.slice none 0 0)] h) λx4 z1=>
 al9 P K x1 x4 x0 z1
theorem e82:au P G0 (aW [.cell true 2 4] K) (cd [x0,x1]) h=Nl P K x0 x1 h:=by kernel_rfl
theorem f82 {K:VK} {x0 x1:Value} {h:ae} (H:Nl prog K x0 x1 h):ay prog 82 [x0,x1] h K:=
 cC k82 (cE rfl) ((e82 prog K x0 x1 h).mpr H)
end
noncomputable section
variable (x0 x6 aC : Value) (L1 : LQ) (xs : List Value) (h : ae)
def ain:=cg prog 83 [[],[],[0],[0,6],[0,6,13],[],[],[0],[]]
@[irreducible] def G1:=cD ain
@[irreducible] def G3:=G1.r.l.l.l
@[irreducible] def acz:=G1.r.r
@[irreducible] def acA:=G3.l.l.r.l
@[irreducible] def ayr:=G3.l.r
@[irreducible] def ayq:=G3.r
@[irreducible] def ayp:=acz.l
@[irreducible] def ayo:=acA.r.l
theorem k83:ain=some (21,G1,[.tmp 2]):=by kernel_rfl
def Lt (_P:Program) (K:VK):ax:=aW [.tmp 2] K
def atx:ax:=aH (au P acz (Lt P K)) (Lt P K)
def aty:ax:=bC 0 (atx P K)
def Lu:ax:=aH (λf' aQ=>(([]:List Nat).map f':List Value)=[]/\L1 (([0]:List Nat).map f') aQ) (aty P K)
def XR:ax:=aH (au P ayq (Lu P K L1)) (Lu P K L1)
def XS:ax:=aH (au P ayr (XR P K L1)) (XR P K L1)
def ama:Prop:=aA (au P G3 (Lu P K L1)) ([]++[0]) ([]++xs) h
def amb:Prop:=aA (au P acA (XS P K L1)) [0,6] [x0,x6] h
def Ue:Prop:=aA (au P ayo (XS P K L1)) [0,6,13] [x0,x6,aC] h
def Uf:Prop:=aA (au P ayp (Lt P K)) [0] [x0] h
theorem anh:Ue P K x0 x6 aC L1 h=
 (OP (bu x6 aC (.bool false)) λaP=>
 aJ aP
 (OP (aT x0) λbM=>
 OP (aj .sub bM (.int .i64 (1))) λbA=>
 OP (fP 152 1 x0 none (some bA)) λaR=>
 ([]:List Value)=[]/\L1 [aR] h)
 (Uf P K x0 h)):=aB (by kernel_rfl)
theorem ani:amb P K x0 x6 L1 h=
 (bO x6 true
 (OP (aT x0) λx9=>
 OP (aj .sub x9 (.int .i64 (1))) λaE=>
 OP (aD 1 x0 aE) λaG=>
 OP (af false 1 h aG) λaM=>
 OP (aj .eql aM (.int .u32 (0))) λaC=>
 Ue P K x0 x6 aC L1 h)
 (Ue P K x0 x6 undef L1 h)):=aB (by kernel_rfl)
theorem aII (L1:LQ) (x0:Value) (h:ae):ama P K L1 [x0] h=
 (OP (aT x0) λx4=>
 OP (aj .gtr x4 (.int .i64 (0))) λx5=>
 amb P K x0 x5 L1 h):=aB (by kernel_rfl)
theorem aIH:Uf P K x0 h=
 (K x0 h):=aB (by kernel_rfl)
def X3:Prop:=
 bT [x0] h λL1 xs hx=>
 ama P K L1 xs hx
theorem e83:au P G1 (aW [.tmp 2] K) (cd [x0]) h=X3 P K x0 h:=by kernel_rfl
theorem f83 {K:VK} {x0:Value} {h:ae} (H:X3 prog K x0 h):ay prog 83 [x0] h K:=
 cC k83 (cE rfl) ((e83 prog K x0 h).mpr H)
end
noncomputable section
variable (a0 : Value) (h : ae)
def aio:=cg prog 84 [[],[]]
@[irreducible] def c84:=cD aio
theorem k84:aio=some (6,c84,[.tmp 2]):=by kernel_rfl
def Nn:Prop:=
 OH (cR 92 h a0) λa1 z1=>
 OP (aF 0 a1) λx3=>
 OP (af true 2 z1 x3) λx4=>
 ay P 93 [x4] z1 λx5 z2=>
 K x5 z2
theorem e84:au P c84 (aW [.tmp 2] K) (cd [a0]) h=Nn P K a0 h:=by kernel_rfl
theorem f84 {K:VK} {a0:Value} {h:ae} (H:Nn prog K a0 h):ay prog 84 [a0] h K:=
 cC k84 (cE rfl) ((e84 prog K a0 h).mpr H)
end
noncomputable section
variable (a0 b1 x5 x6 i7 y8 aS bL : Value) (L1 : LQ) (xs : List Value) (h : ae)
def aip:=cg prog 85 [[],[],[0,1],[],[],[],[0,1,5,21],[6,22],[],[],[],[],[],[0,1,5,6,7,8,21,22],[0,1,5,6,21,22],[0,5,6],[],[]]
@[irreducible] def OO:=cD aip
@[irreducible] def OR:=OO.r.r.l
@[irreducible] def OQ:=OR.r.r.l.r.l.l
@[irreducible] def acD:=OR.r.r.r
@[irreducible] def ays:=OQ.r.r.l.l.r.r.r.l
@[irreducible] def acC:=OQ.r.r.r
@[irreducible] def ayu:=acD.l
@[irreducible] def ayt:=acC.l
theorem k85:aip=some (54,OO,[.tmp 4]):=by kernel_rfl
def Fk (_P:Program) (K:VK):ax:=aW [.tmp 4] K
def atB:ax:=aH (au P acD (Fk P K)) (Fk P K)
def atC:ax:=bC 0 (atB P K)
def Fm:ax:=aH (λf' aQ=>(([0,1,5,21]:List Nat).map f':List Value)=[a0,b1,x5,aS]/\L1 (([6,22]:List Nat).map f') aQ) (atC P K)
def atz:ax:=aH (au P acC (Fm P K a0 b1 x5 aS L1)) (Fm P K a0 b1 x5 aS L1)
def atA:ax:=bC 1 (atz P K a0 b1 x5 aS L1)
def JC:Prop:=aA (au P OR (Fk P K)) [0,1] [a0,b1] h
def amc:Prop:=aA (au P OQ (Fm P K a0 b1 x5 aS L1)) ([0,1,5,21]++[6,22]) ([a0,b1,x5,aS]++xs) h
def JB:Prop:=aA (au P ays (atA P K a0 b1 x5 aS L1)) [0,1,5,6,7,8,21,22] [a0,b1,x5,x6,i7,y8,aS,bL] h
def amd:Prop:=aA (au P ayt (Fm P K a0 b1 x5 aS L1)) [0,1,5,6,21,22] [a0,b1,x5,x6,aS,bL] h
def ame:Prop:=aA (au P ayu (Fk P K)) [0,5,6] [a0,x5,x6] h
theorem aIK:JB P K a0 b1 x5 x6 i7 y8 aS bL L1 h=
 (OP (aD 1 a0 i7) λdH=>
 OP (af false 1 h dH) λdW=>
 ay P 122 [dW,y8,x6] h λer z1=>
 OP (cW 0 er) λcO=>
 OP (cW 1 er) λcP=>
 OP (aD 1 x5 i7) λdC=>
 OH (aU 1 z1 dC cO) λ_ z2=>
 amd P K a0 b1 x5 cP aS bL L1 z2):=aB (by kernel_rfl)
theorem aIL:amd P K a0 b1 x5 x6 aS bL L1 h=
 (OP (aj .add bL (.int .i64 (1))) λeT=>
 ([a0,b1,x5,aS]:List Value)=[a0,b1,x5,aS]/\L1 [x6,eT] h):=aB (by kernel_rfl)
theorem aIJ (a0 b1 x5 aS:Value) (L1:LQ) (x6 bL:Value) (h:ae):amc P K a0 b1 x5 aS L1 [x6,bL] h=
 (OP (aj .lss bL aS) λbB=>
 aJ bB
 (OP (aT b1) λbQ=>
 OP (aj .lss bL bQ) λcL=>
 aJ cL
 (OP (aD 1 b1 bL) λbz=>
 OP (af false 1 h bz) λdJ=>
 JB P K a0 b1 x5 x6 bL dJ aS bL L1 h)
 (JB P K a0 b1 x5 x6 bL (.int .u32 (0)) aS bL L1 h))
 (ame P K a0 x5 x6 h)):=aB (by kernel_rfl)
theorem aIM:ame P K a0 x5 x6 h=
 (OP (aT a0) λfX=>
 OP (aD 1 x5 fX) λee=>
 OH (aU 1 h ee x6) λ_ z1=>
 ay P 83 [x5] z1 λfg z2=>
 K fg z2):=aB (by kernel_rfl)
theorem aIN:JC P K a0 b1 h=
 (OP (aT a0) λbM=>
 OP (aj .add bM (.int .i64 (1))) λbA=>
 OH (eM 152 4 [(.int .u32 (0))] h bA bA) λaR z1=>
 OP (aT a0) λaS=>
 bT [(.int .u32 (0)),(.int .i64 (0))] z1 λL1 xs hx=>
 amc P K a0 b1 aR aS L1 xs hx):=aB (by kernel_rfl)
def No:Prop:=
 OP (aT a0) λaE=>
 OP (aT b1) λaM=>
 OP (aj .lss aE aM) λaC=>
 aJ aC
 (JC P K b1 a0 h)
 (JC P K a0 b1 h)
theorem e85:au P OO (aW [.tmp 4] K) (cd [a0,b1]) h=No P K a0 b1 h:=by kernel_rfl
theorem f85 {K:VK} {a0 b1:Value} {h:ae} (H:No prog K a0 b1 h):ay prog 85 [a0,b1] h K:=
 cC k85 (cE rfl) ((e85 prog K a0 b1 h).mpr H)
end
noncomputable section
variable (a0 b1 i5 : Value) (L1 : LQ) (xs : List Value) (h : ae)
def aiq:=cg prog 86 [[],[],[],[],[],[],[],[],[0,1],[5],[],[],[],[],[],[],[],[],[],[]]
@[irreducible] def G4:=cD aiq
@[irreducible] def ayv:=G4.r.r.l.r.l.l
@[irreducible] def ayw:=G4.r.r.r
theorem k86:aiq=some (41,G4,[.tmp 4]):=by kernel_rfl
def XT (_P:Program) (K:VK):ax:=aW [.tmp 4] K
def atF:ax:=aH (au P ayw (XT P K)) (XT P K)
def atD:ax:=bC 0 (atF P K)
def atE:ax:=aH (λf' aQ=>(([0,1]:List Nat).map f':List Value)=[a0,b1]/\L1 (([5]:List Nat).map f') aQ) (atD P K)
def amf:Prop:=aA (au P ayv (atE P K a0 b1 L1)) ([0,1]++[5]) ([a0,b1]++xs) h
theorem aIO (a0 b1:Value) (L1:LQ) (i5:Value) (h:ae):amf P K a0 b1 L1 [i5] h=
 (OP (aj .geq i5 (.int .i64 (0))) λaI=>
 aJ aI
 (OP (aD 1 a0 i5) λbH=>
 OP (af false 1 h bH) λbP=>
 (True)/\
 OP (aD 1 b1 i5) λb9=>
 OP (af false 1 h b9) λaV=>
 (True)/\
 OP (aj .neq bP aV) λbz=>
 aJ bz
 (OP (aD 1 a0 i5) λcA=>
 OP (af false 1 h cA) λcB=>
 (True)/\
 OP (aD 1 b1 i5) λdH=>
 OP (af false 1 h dH) λdW=>
 (True)/\
 OP (aj .lss cB dW) λcI=>
 aJ cI
 (K (.int .i64 (-1)) h)
 (K (.int .i64 (1)) h))
 (OP (aj .sub i5 (.int .i64 (1))) λbL=>
 ([a0,b1]:List Value)=[a0,b1]/\L1 [bL] h))
 (K (.int .i64 (0)) h)):=aB (by kernel_rfl)
def Np:Prop:=
 OP (aT a0) λx7=>
 OP (aT b1) λx9=>
 OP (aj .neq x7 x9) λaE=>
 aJ aE
 (OP (aT a0) λaM=>
 OP (aT b1) λaP=>
 OP (aj .lss aM aP) λaX=>
 aJ aX
 (K (.int .i64 (-1)) h)
 (K (.int .i64 (1)) h))
 (OP (aT a0) λbM=>
 OP (aj .sub bM (.int .i64 (1))) λbA=>
 bT [bA] h λL1 xs hx=>
 amf P K a0 b1 L1 xs hx)
theorem e86:au P G4 (aW [.tmp 4] K) (cd [a0,b1]) h=Np P K a0 b1 h:=by kernel_rfl
theorem f86 {K:VK} {a0 b1:Value} {h:ae} (H:Np prog K a0 b1 h):ay prog 86 [a0,b1] h K:=
 cC k86 (cE rfl) ((e86 prog K a0 b1 h).mpr H)
end
noncomputable section
variable (a0 b1 x5 x6 i7 y8 aC aP : Value) (L1 : LQ) (xs : List Value) (h : ae)
def air:=cg prog 87 [[],[],[],[],[0,1,5,13],[6,14],[],[],[],[],[],[0,1,5,6,7,8,13,14],[0,1,5,6,13,14],[5],[]]
@[irreducible] def G5:=cD air
@[irreducible] def OS:=G5.r.r.r.l.r.l.l
@[irreducible] def acF:=G5.r.r.r.r
@[irreducible] def ayx:=OS.r.r.l.l.r.r.r.l
@[irreducible] def acE:=OS.r.r.r
@[irreducible] def ayz:=acF.l
@[irreducible] def ayy:=acE.l
theorem k87:air=some (41,G5,[.tmp 4]):=by kernel_rfl
def Lv (_P:Program) (K:VK):ax:=aW [.tmp 4] K
def atI:ax:=aH (au P acF (Lv P K)) (Lv P K)
def atJ:ax:=bC 0 (atI P K)
def Fo:ax:=aH (λf' aQ=>(([0,1,5,13]:List Nat).map f':List Value)=[a0,b1,x5,aC]/\L1 (([6,14]:List Nat).map f') aQ) (atJ P K)
def atG:ax:=aH (au P acE (Fo P K a0 b1 x5 aC L1)) (Fo P K a0 b1 x5 aC L1)
def atH:ax:=bC 1 (atG P K a0 b1 x5 aC L1)
def ami:Prop:=aA (au P OS (Fo P K a0 b1 x5 aC L1)) ([0,1,5,13]++[6,14]) ([a0,b1,x5,aC]++xs) h
def JD:Prop:=aA (au P ayx (atH P K a0 b1 x5 aC L1)) [0,1,5,6,7,8,13,14] [a0,b1,x5,x6,i7,y8,aC,aP] h
def amg:Prop:=aA (au P ayy (Fo P K a0 b1 x5 aC L1)) [0,1,5,6,13,14] [a0,b1,x5,x6,aC,aP] h
def amh:Prop:=aA (au P ayz (Lv P K)) [5] [x5] h
theorem aIP:JD P K a0 b1 x5 x6 i7 y8 aC aP L1 h=
 (OP (aD 1 a0 i7) λaV=>
 OP (af false 1 h aV) λbz=>
 ay P 123 [bz,y8,x6] h λcA z1=>
 OP (cW 0 cA) λcB=>
 OP (cW 1 cA) λaY=>
 OP (aD 1 x5 i7) λbG=>
 OH (aU 1 z1 bG cB) λ_ z2=>
 amg P K a0 b1 x5 aY aC aP L1 z2):=aB (by kernel_rfl)
theorem aIQ:amg P K a0 b1 x5 x6 aC aP L1 h=
 (OP (aj .add aP (.int .i64 (1))) λdH=>
 ([a0,b1,x5,aC]:List Value)=[a0,b1,x5,aC]/\L1 [x6,dH] h):=aB (by kernel_rfl)
theorem aIS (a0 b1 x5 aC:Value) (L1:LQ) (x6 aP:Value) (h:ae):ami P K a0 b1 x5 aC L1 [x6,aP] h=
 (OP (aj .lss aP aC) λaX=>
 aJ aX
 (OP (aT b1) λaR=>
 OP (aj .lss aP aR) λaI=>
 aJ aI
 (OP (aD 1 b1 aP) λbB=>
 OP (af false 1 h bB) λbm=>
 JD P K a0 b1 x5 x6 aP bm aC aP L1 h)
 (JD P K a0 b1 x5 x6 aP (.int .u32 (0)) aC aP L1 h))
 (amh P K x5 h)):=aB (by kernel_rfl)
theorem aIR:amh P K x5 h=
 (ay P 83 [x5] h λcI z1=>
 K cI z1):=aB (by kernel_rfl)
def Nq:Prop:=
 OP (aT a0) λaE=>
 OH (eM 152 4 [(.int .u32 (0))] h aE aE) λaG z1=>
 OP (aT a0) λaC=>
 bT [(.int .u32 (0)),(.int .i64 (0))] z1 λL1 xs hx=>
 ami P K a0 b1 aG aC L1 xs hx
theorem e87:au P G5 (aW [.tmp 4] K) (cd [a0,b1]) h=Nq P K a0 b1 h:=by kernel_rfl
theorem f87 {K:VK} {a0 b1:Value} {h:ae} (H:Nq prog K a0 b1 h):ay prog 87 [a0,b1] h K:=
 cC k87 (cE rfl) ((e87 prog K a0 b1 h).mpr H)
end
noncomputable section
variable (a0 : Value) (h : ae)
def ais:=cg prog 88 [[],[]]
@[irreducible] def c88:=cD ais
theorem k88:ais=some (9,c88,[.cell true 2 2]):=by kernel_rfl
def Nr:Prop:=
 OH (cR 90 h a0) λa1 z1=>
 OH (cF 90 [(.bool false),(.slice none 0 0)] z1) λx2 z2=>
 OP (aF 0 a1) λx3=>
 OP (af false 1 z2 x3) λx4=>
 OP (gE .not x4) λx5=>
 OP (aF 1 a1) λx6=>
 OP (af false 1 z2 x6) λx7=>
 ay P 82 [x5,x7] z2 λx8 z3=>
 OH (aU 2 z3 x2 x8) λ_ z4=>
 OP (af true 2 z4 x2) λr0=>
 K r0 z4
theorem e88:au P c88 (aW [.cell true 2 2] K) (cd [a0]) h=Nr P K a0 h:=by kernel_rfl
theorem f88 {K:VK} {a0:Value} {h:ae} (H:Nr prog K a0 h):ay prog 88 [a0] h K:=
 cC k88 (cE rfl) ((e88 prog K a0 h).mpr H)
end
noncomputable section
variable (a0 b1 x4 x5 y6 : Value) (L1 : LQ) (xs : List Value) (h : ae)
def ait:=cg prog 89 [[],[],[4],[5,6],[],[],[],[4,5],[]]
@[irreducible] def G6:=cD ait
@[irreducible] def ayB:=G6.r.r.l.l.l
@[irreducible] def acH:=G6.r.r.r
@[irreducible] def ayA:=acH.l
theorem k89:ait=some (26,G6,[.cell true 2 4]):=by kernel_rfl
def Lw (_P:Program) (K:VK):ax:=aW [.cell true 2 4] K
def atK:ax:=aH (au P acH (Lw P K)) (Lw P K)
def atL:ax:=bC 0 (atK P K)
def atM:ax:=aH (λf' aQ=>(([4]:List Nat).map f':List Value)=[x4]/\L1 (([5,6]:List Nat).map f') aQ) (atL P K)
def amk:Prop:=aA (au P ayB (atM P K x4 L1)) ([4]++[5,6]) ([x4]++xs) h
def amj:Prop:=aA (au P ayA (Lw P K)) [4,5] [x4,x5] h
theorem aIU (x4:Value) (L1:LQ) (x5 y6:Value) (h:ae):amk P K x4 L1 [x5,y6] h=
 (OP (aT y6) λaP=>
 OP (aj .gtr aP (.int .i64 (0))) λaX=>
 aJ aX
 (ay P 124 [x5,y6] h λaR z1=>
 OP (cW 0 aR) λ_=>
 OP (cW 1 aR) λaS=>
 ([x4]:List Value)=[x4]/\L1 [y6,aS] z1)
 (amj P K x4 x5 h)):=aB (by kernel_rfl)
theorem aIT:amj P K x4 x5 h=
 (ay P 82 [(.bool false),x5] h λbH z1=>
 OH (aU 2 z1 x4 bH) λ_ z2=>
 OP (af true 2 z2 x4) λr0=>
 K r0 z2):=aB (by kernel_rfl)
def Ns:Prop:=
 OH (cR 90 h a0) λa2 z1=>
 OH (cR 90 z1 b1) λb3 z2=>
 OH (cF 90 [(.bool false),(.slice none 0 0)] z2) λx4 z3=>
 OP (aF 1 a2) λx9=>
 OP (af false 1 z3 x9) λaE=>
 (True)/\
 OP (aF 1 b3) λaG=>
 OP (af false 1 z3 aG) λaM=>
 (True)/\
 bT [aE,aM] z3 λL1 xs hx=>
 amk P K x4 L1 xs hx
theorem e89:au P G6 (aW [.cell true 2 4] K) (cd [a0,b1]) h=Ns P K a0 b1 h:=by kernel_rfl
theorem f89 {K:VK} {a0 b1:Value} {h:ae} (H:Ns prog K a0 b1 h):ay prog 89 [a0,b1] h K:=
 cC k89 (cE rfl) ((e89 prog K a0 b1 h).mpr H)
end
noncomputable section
variable (a0 b1 a2 b3 x4 x5 x8 y9 dJ bG : Value) (h : ae)
def aiv:=cg prog 90 [[],[],[],[2,3,4,5,8,9,32],[3,4,5,8,9,32,37],[],[4,5,8,9],[]]
@[irreducible] def B9:=cD aiv
@[irreducible] def acJ:=B9.r.r.r.l.l.r.l
@[irreducible] def ayD:=B9.r.r.r.l.r
@[irreducible] def acI:=B9.r.r.r.r
@[irreducible] def ayE:=acJ.r.l
@[irreducible] def ayC:=acI.l
theorem k90:aiv=some (47,B9,[.cell true 2 4,.cell true 2 5]):=by kernel_rfl
def Lx (_P:Program) (K:VK):ax:=aW [.cell true 2 4,.cell true 2 5] K
def XU:ax:=aH (au P acI (Lx P K)) (Lx P K)
def XV:ax:=aH (au P ayD (XU P K)) (XU P K)
def aml:Prop:=aA (au P acJ (XV P K)) [2,3,4,5,8,9,32] [a2,b3,x4,x5,x8,y9,dJ] h
def Uh:Prop:=aA (au P ayE (XV P K)) [3,4,5,8,9,32,37] [b3,x4,x5,x8,y9,dJ,bG] h
def Ug:Prop:=aA (au P ayC (Lx P K)) [4,5,8,9] [x4,x5,x8,y9] h
theorem aIX:Uh P K b3 x4 x5 x8 y9 dJ bG h=
 (OP (bu dJ bG (.bool false)) λdH=>
 aJ dH
 (OP (af true 2 h x8) λdW=>
 (True)/\
 ay P 56 [(.int .i64 (1))] h λcI z1=>
 (af true 2 z1 x8=some dW/\True)/\
 ay P 92 [dW,cI] z1 λcU z2=>
 (True)/\
 OP (af true 2 z2 y9) λer=>
 (af true 2 h y9=some er/\af true 2 z1 y9=some er/\True)/\
 OP (af true 2 z2 b3) λcO=>
 (af true 2 h b3=some cO/\af true 2 z1 b3=some cO/\True)/\
 ay P 61 [er,cO] z2 λcP z3=>
 (True)/\
 OH (aU 2 z3 x8 cU) λ_ z4=>
 (True)/\
 OH (aU 2 z4 y9 cP) λ_ z5=>
 (True)/\
 Ug P K x4 x5 x8 y9 z5)
 (Ug P K x4 x5 x8 y9 h)):=aB (by kernel_rfl)
theorem aIW:aml P K a2 b3 x4 x5 x8 y9 dJ h=
 (bO dJ true
 (OP (aF 0 a2) λbZ=>
 OP (af false 1 h bZ) λcA=>
 OP (aF 0 b3) λcB=>
 OP (af false 1 h cB) λaY=>
 OP (tP true cA aY) λbG=>
 Uh P K b3 x4 x5 x8 y9 dJ bG h)
 (Uh P K b3 x4 x5 x8 y9 dJ undef h)):=aB (by kernel_rfl)
theorem aIV:Ug P K x4 x5 x8 y9 h=
 (OP (af true 2 h x8) λdC=>
 (True)/\
 OP (af true 2 h y9) λeT=>
 (True)/\
 OH (aU 2 h x4 dC) λ_ z1=>
 (af true 2 z1 y9=some eT/\True)/\
 OH (aU 2 z1 x5 eT) λ_ z2=>
 (True)/\
 OP (af true 2 z2 x4) λr0=>
 OP (af true 2 z2 x5) λr1=>
 K (.tuple #[r0,r1]) z2):=aB (by kernel_rfl)
def Nt:Prop:=
 OH (cR 90 h a0) λa2 z1=>
 OH (cR 90 z1 b1) λb3 z2=>
 OH (cF 90 [(.bool false),(.slice none 0 0)] z2) λx4 z3=>
 OH (cF 90 [(.bool false),(.slice none 0 0)] z3) λx5 z4=>
 OP (aF 1 a2) λaG=>
 OP (af false 1 z4 aG) λaM=>
 OP (aF 1 b3) λaC=>
 OP (af false 1 z4 aC) λaP=>
 ay P 124 [aM,aP] z4 λaX z5=>
 OP (cW 0 aX) λaZ=>
 OP (cW 1 aX) λbM=>
 OH (cF 90 [(.bool false),(.slice none 0 0)] z5) λx8 z6=>
 OP (eA z6 x8) λu=>
 (True)/\
 OH (cF 90 [(.bool false),(.slice none 0 0)] z6) λy9 z7=>
 OP (eA z7 y9) λx1=>
 (eA z7 x8=some u/\True)/\
 OP (aF 0 a2) λbA=>
 OP (af false 1 z7 bA) λaR=>
 (af false 1 z5 bA=some aR/\af false 1 z6 bA=some aR/\True)/\
 OP (aF 0 b3) λaI=>
 OP (af false 1 z7 aI) λaS=>
 (af false 1 z5 aI=some aS/\af false 1 z6 aI=some aS/\True)/\
 OP (tP true aR aS) λbL=>
 ay P 82 [bL,aZ] z7 λbm z8=>
 (eA z8 x8=some u/\eA z8 y9=some x1/\True)/\
 OP (aF 0 a2) λbH=>
 OP (af false 1 z8 bH) λbP=>
 (af false 1 z5 bH=some bP/\af false 1 z6 bH=some bP/\af false 1 z7 bH=some bP/\True)/\
 ay P 82 [bP,bM] z8 λcL z9=>
 (eA z9 x8=some u/\eA z9 y9=some x1/\True)/\
 OH (aU 2 z9 x8 bm) λ_ qK=>
 (True)/\
 OH (aU 2 qK y9 cL) λ_ zW=>
 (True)/\
 OP (aT bM) λaV=>
 OP (aj .gtr aV (.int .i64 (0))) λbz=>
 aml P K a2 b3 x4 x5 x8 y9 bz zW
theorem e90:au P B9 (aW [.cell true 2 4,.cell true 2 5] K) (cd [a0,b1]) h=Nt P K a0 b1 h:=by kernel_rfl
theorem f90 {K:VK} {a0 b1:Value} {h:ae} (H:Nt prog K a0 b1 h):ay prog 90 [a0,b1] h K:=
 cC k90 (cE rfl) ((e90 prog K a0 b1 h).mpr H)
end
noncomputable section
variable (a0 b1 x5 i6 x7 x8 bA aR aI bH bP bQ : Value) (L1 L2 : LQ) (xs : List Value) (h : ae)
def aiw:=cg prog 91 [[],[],[],[1,5,18,19],[20],[],[],[],[],[],[1,5,6,7,18,19,20,25,26],[8,27],[],[],[],[],[],[1,5,6,8,18,19,20],[1,5,18,19,20],[5],[]]
@[irreducible] def G7:=cD aiw
@[irreducible] def G8:=G7.r.r.l.r.l.l
@[irreducible] def acL:=G7.r.r.r
@[irreducible] def ayF:=G8.r.r.l.l.r.r.l.r.l.l
@[irreducible] def acK:=G8.r.r.l.l.r.r.r
@[irreducible] def acM:=G8.r.r.r
@[irreducible] def ayI:=acL.l
@[irreducible] def ayG:=acK.l
@[irreducible] def ayH:=acM.l
theorem k91:aiw=some (68,G7,[.tmp 4]):=by kernel_rfl
def Ly (_P:Program) (K:VK):ax:=aW [.tmp 4] K
def atQ:ax:=aH (au P acL (Ly P K)) (Ly P K)
def atS:ax:=bC 0 (atQ P K)
def Fp:ax:=aH (λf' aQ=>(([1,5,18,19]:List Nat).map f':List Value)=[b1,x5,bA,aR]/\L1 (([20]:List Nat).map f') aQ) (atS P K)
def atT:ax:=aH (au P acM (Fp P K b1 x5 bA aR L1)) (Fp P K b1 x5 bA aR L1)
def Lz:ax:=bC 1 (atT P K b1 x5 bA aR L1)
def atN:ax:=aH (au P acK (Lz P K b1 x5 bA aR L1)) (Lz P K b1 x5 bA aR L1)
def atO:ax:=bC 2 (atN P K b1 x5 bA aR L1)
def atP:ax:=aH (λf' aQ=>(([1,5,6,7,18,19,20,25,26]:List Nat).map f':List Value)=[b1,x5,i6,x7,bA,aR,aI,bH,bP]/\L2 (([8,27]:List Nat).map f') aQ) (atO P K b1 x5 bA aR L1)
def amq:Prop:=aA (au P G8 (Fp P K b1 x5 bA aR L1)) ([1,5,18,19]++[20]) ([b1,x5,bA,aR]++xs) h
def amm:Prop:=aA (au P ayF (atP P K b1 x5 i6 x7 bA aR aI bH bP L1 L2)) ([1,5,6,7,18,19,20,25,26]++[8,27]) ([b1,x5,i6,x7,bA,aR,aI,bH,bP]++xs) h
def amn:Prop:=aA (au P ayG (Lz P K b1 x5 bA aR L1)) [1,5,6,8,18,19,20] [b1,x5,i6,x8,bA,aR,aI] h
def amo:Prop:=aA (au P ayH (Fp P K b1 x5 bA aR L1)) [1,5,18,19,20] [b1,x5,bA,aR,aI] h
def amp:Prop:=aA (au P ayI (Ly P K)) [5] [x5] h
theorem aIY (b1 x5 i6 x7 bA aR aI bH bP:Value) (L1 L2:LQ) (x8 bQ:Value) (h:ae):amm P K b1 x5 i6 x7 bA aR aI bH bP L1 L2 [x8,bQ] h=
 (OP (aj .lss bQ bP) λcL=>
 aJ cL
 (OP (aD 1 bH bQ) λaV=>
 OP (af false 1 h aV) λbz=>
 OP (dI .u64 x7) λbZ=>
 OP (dI .u64 bz) λcB=>
 OP (aj .mul bZ cB) λaY=>
 OP (aj .add i6 bQ) λcI=>
 OP (aD 1 x5 cI) λcU=>
 OP (af false 1 h cU) λer=>
 OP (dI .u64 er) λcO=>
 OP (aj .add aY cO) λcP=>
 OP (aj .add cP x8) λeT=>
 OP (aj .add i6 bQ) λiU=>
 OP (dI .u32 eT) λfI=>
 OP (aj .shr eT (.int .u64 (32))) λgv=>
 OP (aD 1 x5 iU) λfJ=>
 OH (aU 1 h fJ fI) λ_ z1=>
 OP (aj .add bQ (.int .i64 (1))) λgV=>
 ([b1,x5,i6,x7,bA,aR,aI,bH,bP]:List Value)=[b1,x5,i6,x7,bA,aR,aI,bH,bP]/\L2 [gv,gV] z1)
 (amn P K b1 x5 i6 x8 bA aR aI L1 h)):=aB (by kernel_rfl)
theorem aIZ:amn P K b1 x5 i6 x8 bA aR aI L1 h=
 (OP (aT b1) λgI=>
 OP (aj .add i6 gI) λfT=>
 OP (dI .u32 x8) λhI=>
 OP (aD 1 x5 fT) λke=>
 OH (aU 1 h ke hI) λ_ z1=>
 amo P K b1 x5 bA aR aI L1 z1):=aB (by kernel_rfl)
theorem aI0:amo P K b1 x5 bA aR aI L1 h=
 (OP (aj .add aI (.int .i64 (1))) λjy=>
 ([b1,x5,bA,aR]:List Value)=[b1,x5,bA,aR]/\L1 [jy] h):=aB (by kernel_rfl)
theorem aI2 (b1 x5 bA aR:Value) (L1:LQ) (aI:Value) (h:ae):amq P K b1 x5 bA aR L1 [aI] h=
 (OP (aj .lss aI aR) λaS=>
 aJ aS
 (OP (aD 1 bA aI) λbB=>
 OP (af false 1 h bB) λbm=>
 OP (aT b1) λbP=>
 bT [(.int .u64 (0)),(.int .i64 (0))] h λL2 xs hx=>
 amm P K b1 x5 aI bm bA aR aI b1 bP L1 L2 xs hx)
 (amp P K x5 h)):=aB (by kernel_rfl)
theorem aI1:amp P K x5 h=
 (ay P 83 [x5] h λgw z1=>
 K gw z1):=aB (by kernel_rfl)
def Nu:Prop:=
 OP (aT a0) λaC=>
 OP (aT b1) λaX=>
 OP (aj .add aC aX) λaZ=>
 OH (eM 152 4 [(.int .u32 (0))] h aZ aZ) λbM z1=>
 OP (aT a0) λaR=>
 bT [(.int .i64 (0))] z1 λL1 xs hx=>
 amq P K b1 bM a0 aR L1 xs hx
theorem e91:au P G7 (aW [.tmp 4] K) (cd [a0,b1]) h=Nu P K a0 b1 h:=by kernel_rfl
theorem f91 {K:VK} {a0 b1:Value} {h:ae} (H:Nu prog K a0 b1 h):ay prog 91 [a0,b1] h K:=
 cC k91 (cE rfl) ((e91 prog K a0 b1 h).mpr H)
end
noncomputable section
variable (a0 b1 : Value) (h : ae)
def aix:=cg prog 92 [[],[]]
@[irreducible] def c92:=cD aix
theorem k92:aix=some (9,c92,[.cell true 2 4]):=by kernel_rfl
def Nv:Prop:=
 OH (cR 90 h a0) λa2 z1=>
 OH (cR 90 z1 b1) λb3 z2=>
 OH (cF 90 [(.bool false),(.slice none 0 0)] z2) λx4 z3=>
 OP (af true 2 z3 a2) λx5=>
 (True)/\
 OP (af true 2 z3 b3) λx6=>
 (True)/\
 ay P 88 [x6] z3 λx7 z4=>
 (af true 2 z4 a2=some x5/\True)/\
 ay P 61 [x5,x7] z4 λx8 z5=>
 (True)/\
 OH (aU 2 z5 x4 x8) λ_ z6=>
 (True)/\
 OP (af true 2 z6 x4) λr0=>
 K r0 z6
theorem e92:au P c92 (aW [.cell true 2 4] K) (cd [a0,b1]) h=Nv P K a0 b1 h:=by kernel_rfl
theorem f92 {K:VK} {a0 b1:Value} {h:ae} (H:Nv prog K a0 b1 h):ay prog 92 [a0,b1] h K:=
 cC k92 (cE rfl) ((e92 prog K a0 b1 h).mpr H)
end
noncomputable section
variable (a0 : Value) (h : ae)
def aiy:=cg prog 93 [[],[],[],[],[],[],[]]
@[irreducible] def c93:=cD aiy
theorem k93:aiy=some (11,c93,[.tmp 2]):=by kernel_rfl
def Nw (_:Program) (K:VK) (a0:Value) (h:ae):Prop:=
 OH (cR 90 h a0) λa1 z1=>
 OP (aF 1 a1) λx4=>
 OP (af false 1 z1 x4) λx5=>
 OP (aT x5) λx6=>
 OP (aj .eql x6 (.int .i64 (0))) λx7=>
 aJ x7
 (K (.int .i64 (0)) z1)
 (OP (aF 0 a1) λx9=>
 OP (af false 1 z1 x9) λaE=>
 aJ aE
 (K (.int .i64 (-1)) z1)
 (K (.int .i64 (1)) z1))
theorem e93:au P c93 (aW [.tmp 2] K) (cd [a0]) h=Nw P K a0 h:=by kernel_rfl
theorem f93 {K:VK} {a0:Value} {h:ae} (H:Nw prog K a0 h):ay prog 93 [a0] h K:=
 cC k93 (cE rfl) ((e93 prog K a0 h).mpr H)
end
noncomputable section
variable (a0 b1 : Value) (h : ae)
def aiz:=cg prog 94 [[],[]]
@[irreducible] def c94:=cD aiz
theorem k94:aiz=some (16,c94,[.cell true 4 4]):=by kernel_rfl
def Nx:Prop:=
 OH (cR 92 h a0) λa2 z1=>
 OH (cR 92 z1 b1) λb3 z2=>
 OH (cF 92 [(.bool false),(.slice none 0 0),(.bool false),(.slice none 0 0)] z2) λx4 z3=>
 OP (aF 0 a2) λx5=>
 OP (af true 2 z3 x5) λx6=>
 (True)/\
 OP (aF 2 b3) λx7=>
 OP (af true 2 z3 x7) λx8=>
 (True)/\
 ay P 63 [x6,x8] z3 λx9 z4=>
 (True)/\
 OP (aF 2 a2) λaE=>
 OP (af true 2 z4 aE) λaG=>
 (af true 2 z3 aE=some aG/\True)/\
 OP (aF 0 b3) λaM=>
 OP (af true 2 z4 aM) λaC=>
 (af true 2 z3 aM=some aC/\True)/\
 ay P 63 [aG,aC] z4 λaP z5=>
 (True)/\
 ay P 62 [x9,aP] z5 λaX z6=>
 (True)/\
 OH (aU 4 z6 x4 aX) λ_ z7=>
 (True)/\
 OP (af true 4 z7 x4) λr0=>
 K r0 z7
theorem e94:au P c94 (aW [.cell true 4 4] K) (cd [a0,b1]) h=Nx P K a0 b1 h:=by kernel_rfl
theorem f94 {K:VK} {a0 b1:Value} {h:ae} (H:Nx prog K a0 b1 h):ay prog 94 [a0,b1] h K:=
 cC k94 (cE rfl) ((e94 prog K a0 b1 h).mpr H)
end
noncomputable section
variable (x0 n2 : Value) (h : ae)
def agM:=cg prog 105 [[],[],[],[0,2],[],[],[0,2],[]]
@[irreducible] def NP:=cD agM
@[irreducible] def Yq:=NP.r.r.l
@[irreducible] def auE:=Yq.r.l
theorem aCe:agM=some (19,NP,[.tmp 2]):=by kernel_rfl
def Wx (_P:Program) (K:VK):ax:=aW [.tmp 2] K
def Jg:Prop:=aA (au P Yq (Wx P K)) [0,2] [x0,n2] h
def Jh:Prop:=aA (au P auE (Wx P K)) [0,2] [x0,n2] h
theorem aDI:Jh P K x0 n2 h=
 (OP (dI .u8 x0) λaX=>
 OP (tQ (.string ⟨#[0,1,2,2,3,3,3,3,4,4,4,4,4,4,4,4,5,5,5,5,5,5,5,5,5,5,5,5,5,5,5,5,6,6,6,6,6,6,6,6,6,6,6,6,6,6,6,6,6,6,6,6,6,6,6,6,6,6,6,6,6,6,6,6,7,7,7,7,7,7,7,7,7,7,7,7,7,7,7,7,7,7,7,7,7,7,7,7,7,7,7,7,7,7,7,7,7,7,7,7,7,7,7,7,7,7,7,7,7,7,7,7,7,7,7,7,7,7,7,7,7,7,7,7,7,7,7,7,8,8,8,8,8,8,8,8,8,8,8,8,8,8,8,8,8,8,8,8,8,8,8,8,8,8,8,8,8,8,8,8,8,8,8,8,8,8,8,8,8,8,8,8,8,8,8,8,8,8,8,8,8,8,8,8,8,8,8,8,8,8,8,8,8,8,8,8,8,8,8,8,8,8,8,8,8,8,8,8,8,8,8,8,8,8,8,8,8,8,8,8,8,8,8,8,8,8,8,8,8,8,8,8,8,8,8,8,8,8,8,8,8,8,8,8,8,8,8,8,8,8,8,8,8,8,8,8]⟩) aX) λaZ=>
 OP (dI .i64 aZ) λbM=>
 OP (aj .add n2 bM) λbA=>
 K bA h):=aB (by kernel_rfl)
theorem aDH:Jg P K x0 n2 h=
 (OP (aj .geq x0 (.int .u32 (256))) λx8=>
 aJ x8
 (OP (aj .shr x0 (.int .u64 (8))) λaE=>
 OP (aj .add n2 (.int .i64 (8))) λaM=>
 Jh P K aE aM h)
 (Jh P K x0 n2 h)):=aB (by kernel_rfl)
def LI:Prop:=
 OP (aj .geq x0 (.int .u32 (65536))) λx4=>
 aJ x4
 (OP (aj .shr x0 (.int .u64 (16))) λx6=>
 Jg P K x6 (.int .i64 (16)) h)
 (Jg P K x0 (.int .i64 (0)) h)
theorem azB:au P NP (aW [.tmp 2] K) (cd [x0]) h=LI P K x0 h:=by kernel_rfl
theorem f105 {K:VK} {x0:Value} {h:ae} (H:LI prog K x0 h):ay prog 105 [x0] h K:=
 cC aCe (cE rfl) ((azB prog K x0 h).mpr H)
end
noncomputable section
variable (a0 w1 x6 x7 i8 : Value) (L1 : LQ) (xs : List Value) (h : ae)
def agU:=cg prog 120 [[],[],[],[],[0,1,6],[7,8],[],[],[],[],[6,7],[]]
@[irreducible] def FP:=cD agU
@[irreducible] def auT:=FP.r.r.r.l.r.l.l
@[irreducible] def YD:=FP.r.r.r.r
@[irreducible] def auS:=YD.l
theorem aCk:agU=some (44,FP,[.tmp 4,.tmp 5]):=by kernel_rfl
def KG (_P:Program) (K:VK):ax:=aW [.tmp 4,.tmp 5] K
def apg:ax:=aH (au P YD (KG P K)) (KG P K)
def aph:ax:=bC 0 (apg P K)
def api:ax:=aH (λf' aQ=>(([0,1,6]:List Nat).map f':List Value)=[a0,w1,x6]/\L1 (([7,8]:List Nat).map f') aQ) (aph P K)
def aiV:Prop:=aA (au P auT (api P K a0 w1 x6 L1)) ([0,1,6]++[7,8]) ([a0,w1,x6]++xs) h
def aiU:Prop:=aA (au P auS (KG P K)) [6,7] [x6,x7] h
theorem aD2 (a0 w1 x6:Value) (L1:LQ) (x7 i8:Value) (h:ae):aiV P K a0 w1 x6 L1 [x7,i8] h=
 (OP (aj .geq i8 (.int .i64 (0))) λbM=>
 aJ bM
 (OP (aj .shl x7 (.int .u64 (32))) λaS=>
 OP (aD 1 a0 i8) λbm=>
 OP (af false 1 h bm) λbH=>
 OP (dI .u64 bH) λbP=>
 OP (aj .or aS bP) λbQ=>
 OP (dI .u64 w1) λdJ=>
 OP (aj .quo bQ dJ) λbZ=>
 OP (dI .u32 bZ) λcA=>
 OP (dI .u64 w1) λbG=>
 OP (aj .rem bQ bG) λdH=>
 OP (aD 1 x6 i8) λdW=>
 OH (aU 1 h dW cA) λ_ z1=>
 (True)/\
 OP (aj .sub i8 (.int .i64 (1))) λaR=>
 ([a0,w1,x6]:List Value)=[a0,w1,x6]/\L1 [dH,aR] z1)
 (aiU P K x6 x7 h)):=aB (by kernel_rfl)
theorem aD1:aiU P K x6 x7 h=
 (ay P 83 [x6] h λcU z1=>
 OP (dI .u32 x7) λcO=>
 K (.tuple #[cU,cO]) z1):=aB (by kernel_rfl)
def LS:Prop:=
 OP (aT a0) λaG=>
 OH (eM 152 4 [(.int .u32 (0))] h aG aG) λaM z1=>
 OP (aT a0) λaP=>
 OP (aj .sub aP (.int .i64 (1))) λaX=>
 bT [(.int .u64 (0)),aX] z1 λL1 xs hx=>
 aiV P K a0 w1 aM L1 xs hx
theorem azH:au P FP (aW [.tmp 4,.tmp 5] K) (cd [a0,w1]) h=LS P K a0 w1 h:=by kernel_rfl
theorem f120 {K:VK} {a0 w1:Value} {h:ae} (H:LS prog K a0 w1 h):ay prog 120 [a0,w1] h K:=
 cC aCk (cE rfl) ((azH prog K a0 w1 h).mpr H)
end
noncomputable section
variable (s0 i2 j3 : Value) (L1 : LQ) (xs : List Value) (h : ae)
def agV:=cg prog 121 [[],[0],[2,3],[],[],[]]
@[irreducible] def NV:=cD agV
@[irreducible] def auU:=NV.r.l.l
theorem aCl:agV=some (28,NV,[]):=by kernel_rfl
def apj (_P:Program) (K:VK):ax:=aW [] K
def apk:ax:=bC 0 (apj P K)
def apl:ax:=aH (λf' aQ=>(([0]:List Nat).map f':List Value)=[s0]/\L1 (([2,3]:List Nat).map f') aQ) (apk P K)
def aiW:Prop:=aA (au P auU (apl P K s0 L1)) ([0]++[2,3]) ([s0]++xs) h
theorem aD3 (s0:Value) (L1:LQ) (i2 j3:Value) (h:ae):aiW P K s0 L1 [i2,j3] h=
 (OP (aj .lss i2 j3) λx9=>
 aJ x9
 (OP (aD 1 s0 j3) λaI=>
 OP (af false 1 h aI) λaS=>
 (True)/\
 OP (aD 1 s0 i2) λbm=>
 OP (af false 1 h bm) λbH=>
 (True)/\
 OP (aD 1 s0 i2) λbP=>
 OH (aU 1 h bP aS) λ_ z1=>
 (True)/\
 OP (aD 1 s0 j3) λbQ=>
 OH (aU 1 z1 bQ bH) λ_ z2=>
 (True)/\
 OP (aj .add i2 (.int .i64 (1))) λaG=>
 OP (aj .sub j3 (.int .i64 (1))) λaC=>
 ([s0]:List Value)=[s0]/\L1 [aG,aC] z2)
 (K (.tuple #[]) h)):=aB (by kernel_rfl)
def LU:Prop:=
 OP (aT s0) λx5=>
 OP (aj .sub x5 (.int .i64 (1))) λx6=>
 bT [(.int .i64 (0)),x6] h λL1 xs hx=>
 aiW P K s0 L1 xs hx
theorem azI:au P NV (aW [] K) (cd [s0]) h=LU P K s0 h:=by kernel_rfl
theorem f121 {K:VK} {s0:Value} {h:ae} (H:LU prog K s0 h):ay prog 121 [s0] h K:=
 cC aCl (cE rfl) ((azI prog K s0 h).mpr H)
end
noncomputable section
variable (x0 y1 x2 : Value) (h : ae)
def agW:=cg prog 122 [[],[],[],[]]
@[irreducible] def YE:=cD agW
theorem aCm:agW=some (22,YE,[.tmp 6,.tmp 7]):=by kernel_rfl
def LV (_:Program) (K:VK) (x0 y1 x2:Value) (h:ae):Prop:=
 OP (dI .u64 x0) λaE=>
 OP (dI .u64 y1) λaM=>
 OP (aj .add aE aM) λaC=>
 OP (dI .u64 x2) λaX=>
 OP (aj .add aC aX) λaZ=>
 OP (dI .u32 aZ) λbA=>
 OP (aj .shr aZ (.int .u64 (32))) λaI=>
 OP (dI .u32 aI) λaS=>
 K (.tuple #[bA,aS]) h
theorem azJ:au P YE (aW [.tmp 6,.tmp 7] K) (cd [x0,y1,x2]) h=LV P K x0 y1 x2 h:=by kernel_rfl
theorem f122 {K:VK} {x0 y1 x2:Value} {h:ae} (H:LV prog K x0 y1 x2 h):ay prog 122 [x0,y1,x2] h K:=
 cC aCm (cE rfl) ((azJ prog K x0 y1 x2 h).mpr H)
end
noncomputable section
variable (x0 y1 x2 : Value) (h : ae)
def agX:=cg prog 123 [[],[],[]]
@[irreducible] def YF:=cD agX
theorem aCn:agX=some (25,YF,[.tmp 6,.tmp 7]):=by kernel_rfl
def LW (_:Program) (K:VK) (x0 y1 x2:Value) (h:ae):Prop:=
 OP (aj .sub x0 y1) λaE=>
 OP (aj .sub aE x2) λaM=>
 OP (gE .xor x0) λaP=>
 OP (aj .and aP y1) λaZ=>
 OP (aj .xor x0 y1) λaR=>
 OP (gE .xor aR) λaI=>
 OP (aj .and aI aM) λbL=>
 OP (aj .or aZ bL) λbB=>
 OP (aj .shr bB (.int .u64 (31))) λbm=>
 K (.tuple #[aM,bm]) h
theorem azK:au P YF (aW [.tmp 6,.tmp 7] K) (cd [x0,y1,x2]) h=LW P K x0 y1 x2 h:=by kernel_rfl
theorem f123 {K:VK} {x0 y1 x2:Value} {h:ae} (H:LW prog K x0 y1 x2 h):ay prog 123 [x0,y1,x2] h K:=
 cC aCn (cE rfl) ((azK prog K x0 y1 x2 h).mpr H)
end
noncomputable section
variable (a0 b1 x8 v9 rJ n11 rI zh : Value) (L1 : LQ) (xs : List Value) (h : ae)
def agY:=cg prog 124 [[],[],[],[],[],[],[],[],[],[],[],[],[],[8,9,10,11,12],[13],[],[],[],[8,10,11,12],[]]
@[irreducible] def FQ:=cD agY
@[irreducible] def auV:=FQ.r.r.r.r.r.r.r.l.r.l.l
@[irreducible] def YG:=FQ.r.r.r.r.r.r.r.r
@[irreducible] def auW:=YG.l
theorem aCo:agY=some (85,FQ,[.tmp 4,.tmp 5]):=by kernel_rfl
def KH (_P:Program) (K:VK):ax:=aW [.tmp 4,.tmp 5] K
def apm:ax:=aH (au P YG (KH P K)) (KH P K)
def apn:ax:=bC 0 (apm P K)
def apo:ax:=aH (λf' aQ=>(([8,9,10,11,12]:List Nat).map f':List Value)=[x8,v9,rJ,n11,rI]/\L1 (([13]:List Nat).map f') aQ) (apn P K)
def Sa:Prop:=aA (au P auV (apo P K x8 v9 rJ n11 rI L1)) ([8,9,10,11,12]++[13]) ([x8,v9,rJ,n11,rI]++xs) h
def aiX:Prop:=aA (au P auW (KH P K)) [8,10,11,12] [x8,rJ,n11,rI] h
theorem aD4 (x8 v9 rJ n11 rI:Value) (L1:LQ) (zh:Value) (h:ae):Sa P K x8 v9 rJ n11 rI L1 [zh] h=
 (OP (aj .geq zh (.int .i64 (0))) λiV=>
 aJ iV
 (OP (aj .add zh n11) λgy=>
 OP (aj .add gy (.int .i64 (1))) λog=>
 OP (fP 152 1 rJ (some zh) (some og)) λlh=>
 ay P 142 [lh,v9] h λfE z1=>
 OP (aD 1 rI zh) λiL=>
 OH (aU 1 z1 iL fE) λ_ z2=>
 OP (aj .sub zh (.int .i64 (1))) λke=>
 ([x8,v9,rJ,n11,rI]:List Value)=[x8,v9,rJ,n11,rI]/\L1 [ke] z2)
 (aiX P K x8 rJ n11 rI h)):=aB (by kernel_rfl)
theorem aD5:aiX P K x8 rJ n11 rI h=
 (ay P 83 [rI] h λhT z1=>
 (True)/\
 OP (fP 152 1 rJ none (some n11)) λcK=>
 ay P 83 [cK] z1 λdB z2=>
 (True)/\
 ay P 143 [dB,x8] z2 λgJ z3=>
 (True)/\
 K (.tuple #[hT,gJ]) z3):=aB (by kernel_rfl)
def Fy:Prop:=
 ay P 86 [a0,b1] h λaZ z1=>
 OP (aj .lss aZ (.int .i64 (0))) λbM=>
 aJ bM
 (OH (cT 152 1 4 z1 (.slice none 0 0) a0) λaR z2=>
 K (.tuple #[(.slice none 0 0),aR]) z2)
 (OP (aT b1) λaS=>
 OP (aj .eql aS (.int .i64 (1))) λbL=>
 aJ bL
 (OP (aD 1 b1 (.int .i64 (0))) λbP=>
 OP (af false 1 z1 bP) λbQ=>
 ay P 120 [a0,bQ] z1 λcL z2=>
 OP (cW 0 cL) λb9=>
 OP (cW 1 cL) λaV=>
 OH (cH 152 1 [(.int .u32 (0))] z2 [(0,1,aV)]) λbZ z3=>
 ay P 83 [bZ] z3 λcA z4=>
 K (.tuple #[b9,cA]) z4)
 (OP (aT b1) λbG=>
 OP (aj .sub bG (.int .i64 (1))) λdH=>
 OP (aD 1 b1 dH) λdW=>
 OP (af false 1 z1 dW) λcI=>
 ay P 140 [cI] z1 λcU z2=>
 ay P 141 [b1,cU] z2 λcP z3=>
 ay P 83 [cP] z3 λdC z4=>
 ay P 141 [a0,cU] z4 λfD z5=>
 OP (aT dC) λiU=>
 OP (aT a0) λfI=>
 OP (aj .sub fI iU) λgv=>
 OP (aj .add gv (.int .i64 (1))) λfJ=>
 OH (eM 152 4 [(.int .u32 (0))] z5 fJ fJ) λgV z6=>
 OP (aT a0) λfS=>
 OP (aj .sub fS iU) λgI=>
 bT [gI] z6 λL1 xs hx=>
 Sa P K cU dC fD iU gV L1 xs hx))
theorem azL:au P FQ (aW [.tmp 4,.tmp 5] K) (cd [a0,b1]) h=Fy P K a0 b1 h:=by kernel_rfl
theorem f124 {K:VK} {a0 b1:Value} {h:ae} (H:Fy prog K a0 b1 h):ay prog 124 [a0,b1] h K:=
 cC aCo (cE rfl) ((azL prog K a0 b1 h).mpr H)
end
noncomputable section
variable (x0 y1 : Value) (h : ae)
def ag5:=cg prog 138 [[],[],[]]
@[irreducible] def YV:=cD ag5
theorem aCu:ag5=some (17,YV,[.tmp 4,.tmp 5]):=by kernel_rfl
def X2 (_:Program) (K:VK) (x0 y1:Value) (h:ae):Prop:=
 OP (dI .u64 x0) λx8=>
 OP (dI .u64 y1) λaE=>
 OP (aj .mul x8 aE) λaG=>
 OP (aj .shr aG (.int .u64 (32))) λaC=>
 OP (dI .u32 aC) λaP=>
 OP (dI .u32 aG) λaZ=>
 K (.tuple #[aP,aZ]) h
theorem azR:au P YV (aW [.tmp 4,.tmp 5] K) (cd [x0,y1]) h=X2 P K x0 y1 h:=by kernel_rfl
theorem f138 {K:VK} {x0 y1:Value} {h:ae} (H:X2 prog K x0 y1 h):ay prog 138 [x0,y1] h K:=
 cC aCu (cE rfl) ((azR prog K x0 y1 h).mpr H)
end
noncomputable section
variable (x0 : Value) (h : ae)
def ag8:=cg prog 140 [[],[]]
@[irreducible] def YZ:=cD ag8
theorem aCw:ag8=some (6,YZ,[.tmp 2]):=by kernel_rfl
def L9:Prop:=
 ay P 105 [x0] h λx4 z1=>
 OP (aj .sub (.int .i64 (32)) x4) λx5=>
 K x5 z1
theorem azT:au P YZ (aW [.tmp 2] K) (cd [x0]) h=L9 P K x0 h:=by kernel_rfl
theorem f140 {K:VK} {x0:Value} {h:ae} (H:L9 prog K x0 h):ay prog 140 [x0] h K:=
 cC aCw (cE rfl) ((azT prog K x0 h).mpr H)
end
noncomputable section
variable (x0 n1 x5 aC aP aX : Value) (L1 : LQ) (xs : List Value) (h : ae)
def ag9:=cg prog 141 [[],[],[],[1,5,13,14],[15],[],[],[],[],[],[],[5],[]]
@[irreducible] def FZ:=cD ag9
@[irreducible] def avh:=FZ.r.r.l.r.l.l
@[irreducible] def Y0:=FZ.r.r.r
@[irreducible] def avg:=Y0.l
theorem aCx:ag9=some (41,FZ,[.tmp 4]):=by kernel_rfl
def KN (_P:Program) (K:VK):ax:=aW [.tmp 4] K
def apK:ax:=aH (au P Y0 (KN P K)) (KN P K)
def apL:ax:=bC 0 (apK P K)
def apM:ax:=aH (λf' aQ=>(([1,5,13,14]:List Nat).map f':List Value)=[n1,x5,aC,aP]/\L1 (([15]:List Nat).map f') aQ) (apL P K)
def ajc:Prop:=aA (au P avh (apM P K n1 x5 aC aP L1)) ([1,5,13,14]++[15]) ([n1,x5,aC,aP]++xs) h
def ajb:Prop:=aA (au P avg (KN P K)) [5] [x5] h
theorem aEp (n1 x5 aC aP:Value) (L1:LQ) (aX:Value) (h:ae):ajc P K n1 x5 aC aP L1 [aX] h=
 (OP (aj .lss aX aP) λaZ=>
 aJ aZ
 (OP (aD 1 aC aX) λbA=>
 OP (af false 1 h bA) λaR=>
 OP (dI .u64 aR) λaS=>
 OP (aj .shl aS n1) λbB=>
 OP (aD 1 x5 aX) λbP=>
 OP (af false 1 h bP) λbQ=>
 OP (dI .u32 bB) λb9=>
 OP (aj .or bQ b9) λaV=>
 OP (aD 1 x5 aX) λbz=>
 OH (aU 1 h bz aV) λ_ z1=>
 OP (aj .add aX (.int .i64 (1))) λcA=>
 OP (aj .shr bB (.int .u64 (32))) λaY=>
 OP (dI .u32 aY) λbG=>
 OP (aD 1 x5 cA) λdH=>
 OH (aU 1 z1 dH bG) λ_ z2=>
 OP (aj .add aX (.int .i64 (1))) λdW=>
 ([n1,x5,aC,aP]:List Value)=[n1,x5,aC,aP]/\L1 [dW] z2)
 (ajb P K x5 h)):=aB (by kernel_rfl)
theorem aEo:ajb P K x5 h=
 (K x5 h):=aB (by kernel_rfl)
def Ma:Prop:=
 OP (aT x0) λaE=>
 OP (aj .add aE (.int .i64 (1))) λaG=>
 OH (eM 152 4 [(.int .u32 (0))] h aG aG) λaM z1=>
 OP (aT x0) λaP=>
 bT [(.int .i64 (0))] z1 λL1 xs hx=>
 ajc P K n1 aM x0 aP L1 xs hx
theorem azU:au P FZ (aW [.tmp 4] K) (cd [x0,n1]) h=Ma P K x0 n1 h:=by kernel_rfl
theorem f141 {K:VK} {x0 n1:Value} {h:ae} (H:Ma prog K x0 n1 h):ay prog 141 [x0,n1] h K:=
 cC aCx (cE rfl) ((azU prog K x0 n1 h).mpr H)
end
noncomputable section
variable (u0 v1 n5 x7 x8 x9 aE aC gW gJ kA pJ : Value) (L1 : LQ) (xs : List Value) (h : ae)
def aha:=cg prog 142 [[],[],[],[],[0,1,5],[7,8],[],[],[],[],[],[0,1,5,7],[],[],[0,1,5,7,83],[9,10,84],[],[],[],[],[],[],[0,1,5,7,9,10],[],[],[],[],[],[0,1,5,7,132],[13,133],[],[],[],[],[0,5,7,13],[7],[]]
@[irreducible] def F1:=cD aha
@[irreducible] def avm:=F1.r.r.r.r.l.l.l
@[irreducible] def Y4:=F1.r.r.r.r.r
@[irreducible] def N1:=Y4.l
@[irreducible] def avi:=N1.r.l.r.l.l
@[irreducible] def Y1:=N1.r.r
@[irreducible] def F3:=Y1.l
@[irreducible] def avj:=F3.r.l.r.l.r.r.l.r.l.l
@[irreducible] def Y3:=F3.r.l.r.l.r.r.r
@[irreducible] def Y2:=F3.r.r
@[irreducible] def avk:=Y3.l
@[irreducible] def avl:=Y2.l
theorem aCy:aha=some (162,F1,[.tmp 4]):=by kernel_rfl
def uu (_P:Program) (K:VK):ax:=aW [.tmp 4] K
def apT:ax:=aH (au P Y4 (uu P K)) (uu P K)
def apU:ax:=bC 0 (apT P K)
def apV:ax:=aH (λf' aQ=>(([0,1,5]:List Nat).map f':List Value)=[u0,v1,n5]/\L1 (([7,8]:List Nat).map f') aQ) (apU P K)
def apN:ax:=aH (au P Y1 (uu P K)) (uu P K)
def apO:ax:=bC 2 (apN P K)
def apP:ax:=aH (λf' aQ=>(([0,1,5,7,83]:List Nat).map f':List Value)=[u0,v1,n5,x7,gW]/\L1 (([9,10,84]:List Nat).map f') aQ) (apO P K)
def KO:ax:=aH (au P Y2 (uu P K)) (uu P K)
def apQ:ax:=aH (au P Y3 (KO P K)) (KO P K)
def apR:ax:=bC 4 (apQ P K)
def apS:ax:=aH (λf' aQ=>(([0,1,5,7,132]:List Nat).map f':List Value)=[u0,v1,n5,x7,kA]/\L1 (([13,133]:List Nat).map f') aQ) (apR P K)
def ajg:Prop:=aA (au P avm (apV P K u0 v1 n5 L1)) ([0,1,5]++[7,8]) ([u0,v1,n5]++xs) h
def wY:Prop:=aA (au P N1 (uu P K)) [0,1,5,7] [u0,v1,n5,x7] h
def ajd:Prop:=aA (au P avi (apP P K u0 v1 n5 x7 gW L1)) ([0,1,5,7,83]++[9,10,84]) ([u0,v1,n5,x7,gW]++xs) h
def aje:Prop:=aA (au P F3 (uu P K)) [0,1,5,7,9,10] [u0,v1,n5,x7,x9,aE] h
def Sk:Prop:=aA (au P avj (apS P K u0 v1 n5 x7 kA L1)) ([0,1,5,7,132]++[13,133]) ([u0,v1,n5,x7,kA]++xs) h
def ajf:Prop:=aA (au P avk (KO P K)) [0,5,7,13] [u0,n5,x7,aC] h
def DA:Prop:=aA (au P avl (uu P K)) [7] [x7] h
theorem aEw (u0 v1 n5:Value) (L1:LQ) (x7 x8:Value) (h:ae):ajg P K u0 v1 n5 L1 [x7,x8] h=
 (OP (aj .shr x7 (.int .u64 (32))) λgp=>
 OP (aj .gtr gp (.int .u64 (0))) λfD=>
 bO fD false
 (OP (aj .sub n5 (.int .i64 (2))) λfg=>
 OP (aD 1 v1 fg) λgv=>
 OP (af false 1 h gv) λfJ=>
 (True)/\
 OP (dI .u64 fJ) λgV=>
 OP (aj .mul x7 gV) λfY=>
 OP (aj .shl x8 (.int .u64 (32))) λiZ=>
 OP (aj .sub n5 (.int .i64 (2))) λiV=>
 OP (aD 1 u0 iV) λhI=>
 OP (af false 1 h hI) λke=>
 (True)/\
 OP (dI .u64 ke) λjy=>
 OP (aj .or iZ jy) λkZ=>
 OP (aj .gtr fY kZ) λgw=>
 OP (bu fD (.bool true) gw) λfA=>
 aJ fA
 (OP (aj .sub x7 (.int .u64 (1))) λdj=>
 OP (aj .sub n5 (.int .i64 (1))) λiW=>
 OP (aD 1 v1 iW) λfE=>
 OP (af false 1 h fE) λiL=>
 OP (dI .u64 iL) λkO=>
 OP (aj .add x8 kO) λhT=>
 OP (aj .shr hT (.int .u64 (32))) λkf=>
 OP (aj .gtr kf (.int .u64 (0))) λcK=>
 aJ cK
 (wY P K u0 v1 n5 dj h)
 (([u0,v1,n5]:List Value)=[u0,v1,n5]/\L1 [dj,hT] h))
 (wY P K u0 v1 n5 x7 h))
 (OP (bu fD (.bool true) undef) λfA=>
 aJ fA
 (OP (aj .sub x7 (.int .u64 (1))) λdj=>
 OP (aj .sub n5 (.int .i64 (1))) λiW=>
 OP (aD 1 v1 iW) λfE=>
 OP (af false 1 h fE) λiL=>
 OP (dI .u64 iL) λkO=>
 OP (aj .add x8 kO) λhT=>
 OP (aj .shr hT (.int .u64 (32))) λkf=>
 OP (aj .gtr kf (.int .u64 (0))) λcK=>
 aJ cK
 (wY P K u0 v1 n5 dj h)
 (([u0,v1,n5]:List Value)=[u0,v1,n5]/\L1 [dj,hT] h))
 (wY P K u0 v1 n5 x7 h))):=aB (by kernel_rfl)
theorem aEr (u0 v1 n5 x7 gW:Value) (L1:LQ) (x9 aE gJ:Value) (h:ae):ajd P K u0 v1 n5 x7 gW L1 [x9,aE,gJ] h=
 (OP (aj .lss gJ gW) λjU=>
 aJ jU
 (OP (aD 1 v1 gJ) λkH=>
 OP (af false 1 h kH) λjq=>
 OP (dI .u64 jq) λlO=>
 OP (aj .mul x7 lO) λeD=>
 OP (aj .add eD x9) λfv=>
 OP (aj .shr fv (.int .u64 (32))) λEv=>
 OP (aD 1 u0 gJ) λfH=>
 OP (af false 1 h fH) λlM=>
 OP (dI .u32 fv) λEb=>
 ay P 123 [lM,Eb,aE] h λka z1=>
 OP (cW 0 ka) λjT=>
 OP (cW 1 ka) λiT=>
 OP (aD 1 u0 gJ) λoU=>
 OH (aU 1 z1 oU jT) λ_ z2=>
 OP (aj .add gJ (.int .i64 (1))) λsO=>
 ([u0,v1,n5,x7,gW]:List Value)=[u0,v1,n5,x7,gW]/\L1 [Ev,iT,sO] z2)
 (aje P K u0 v1 n5 x7 x9 aE h)):=aB (by kernel_rfl)
theorem aEt (u0 v1 n5 x7 kA:Value) (L1:LQ) (aC pJ:Value) (h:ae):Sk P K u0 v1 n5 x7 kA L1 [aC,pJ] h=
 (OP (aj .lss pJ kA) λaK4=>
 aJ aK4
 (OP (aD 1 u0 pJ) λqJ=>
 OP (af false 1 h qJ) λmh=>
 (True)/\
 OP (aD 1 v1 pJ) λEd=>
 OP (af false 1 h Ed) λdX=>
 (True)/\
 ay P 122 [mh,dX,aC] h λan7 z1=>
 (True)/\
 OP (cW 0 an7) λBB=>
 OP (cW 1 an7) λVj=>
 OP (aD 1 u0 pJ) λVk=>
 OH (aU 1 z1 Vk BB) λ_ z2=>
 (True)/\
 OP (aj .add pJ (.int .i64 (1))) λvX=>
 ([u0,v1,n5,x7,kA]:List Value)=[u0,v1,n5,x7,kA]/\L1 [Vj,vX] z2)
 (ajf P K u0 n5 x7 aC h)):=aB (by kernel_rfl)
theorem aEu:ajf P K u0 n5 x7 aC h=
 (OP (aD 1 u0 n5) λVm=>
 OP (af false 1 h Vm) λuj=>
 OP (aj .add uj aC) λVo=>
 OP (aD 1 u0 n5) λVp=>
 OH (aU 1 h Vp Vo) λ_ z1=>
 DA P K x7 z1):=aB (by kernel_rfl)
theorem aEv:DA P K x7 h=
 (OP (dI .u32 x7) λVq=>
 K Vq h):=aB (by kernel_rfl)
theorem aEs:aje P K u0 v1 n5 x7 x9 aE h=
 (OP (aD 1 u0 n5) λnh=>
 OP (af false 1 h nh) λui=>
 OP (dI .u32 x9) λvU=>
 ay P 123 [ui,vU,aE] h λnJ z1=>
 OP (cW 0 nJ) λqG=>
 OP (cW 1 nJ) λzP=>
 OP (aD 1 u0 n5) λoV=>
 OH (aU 1 z1 oV qG) λ_ z2=>
 OP (aj .gtr zP (.int .u32 (0))) λqH=>
 aJ qH
 (OP (aj .sub x7 (.int .u64 (1))) λhG=>
 OP (aT v1) λkA=>
 bT [(.int .u32 (0)),(.int .i64 (0))] z2 λL1 xs hx=>
 Sk P K u0 v1 n5 hG kA L1 xs hx)
 (DA P K x7 z2)):=aB (by kernel_rfl)
theorem aEq:wY P K u0 v1 n5 x7 h=
 (OP (aT v1) λgW=>
 bT [(.int .u64 (0)),(.int .u32 (0)),(.int .i64 (0))] h λL1 xs hx=>
 ajd P K u0 v1 n5 x7 gW L1 xs hx):=aB (by kernel_rfl)
def Mb:Prop:=
 OP (aT v1) λaZ=>
 OP (aD 1 u0 aZ) λaR=>
 OP (af false 1 h aR) λaI=>
 (True)/\
 OP (dI .u64 aI) λaS=>
 OP (aj .shl aS (.int .u64 (32))) λbL=>
 OP (aj .sub aZ (.int .i64 (1))) λbH=>
 OP (aD 1 u0 bH) λbP=>
 OP (af false 1 h bP) λbQ=>
 (True)/\
 OP (dI .u64 bQ) λcL=>
 OP (aj .or bL cL) λb9=>
 OP (aj .sub aZ (.int .i64 (1))) λbZ=>
 OP (aD 1 v1 bZ) λcA=>
 OP (af false 1 h cA) λcB=>
 (True)/\
 OP (dI .u64 cB) λaY=>
 OP (aj .quo b9 aY) λbG=>
 OP (aj .sub aZ (.int .i64 (1))) λcU=>
 OP (aD 1 v1 cU) λer=>
 OP (af false 1 h er) λcO=>
 (True)/\
 OP (dI .u64 cO) λcP=>
 OP (aj .rem b9 cP) λdC=>
 bT [bG,dC] h λL1 xs hx=>
 ajg P K u0 v1 aZ L1 xs hx
theorem azV:au P F1 (aW [.tmp 4] K) (cd [u0,v1]) h=Mb P K u0 v1 h:=by kernel_rfl
theorem f142 {K:VK} {u0 v1:Value} {h:ae} (H:Mb prog K u0 v1 h):ay prog 142 [u0,v1] h K:=
 cC aCy (cE rfl) ((azV prog K u0 v1 h).mpr H)
end
noncomputable section
variable (x0 n1 x5 i6 t7 aM aC : Value) (L1 : LQ) (xs : List Value) (h : ae)
def ahb:=cg prog 143 [[],[],[],[0,1,5,12],[13],[],[],[],[],[],[0,1,5,6,7,12,13],[0,1,5,12,13],[5],[]]
@[irreducible] def F4:=cD ahb
@[irreducible] def N2:=F4.r.r.l.r.l.l
@[irreducible] def Y5:=F4.r.r.r
@[irreducible] def avn:=N2.r.r.l.l.r.r.r.l
@[irreducible] def Y6:=N2.r.r.r
@[irreducible] def avp:=Y5.l
@[irreducible] def avo:=Y6.l
theorem aCz:ahb=some (45,F4,[.tmp 4]):=by kernel_rfl
def KP (_P:Program) (K:VK):ax:=aW [.tmp 4] K
def apX:ax:=aH (au P Y5 (KP P K)) (KP P K)
def apY:ax:=bC 0 (apX P K)
def EN:ax:=aH (λf' aQ=>(([0,1,5,12]:List Nat).map f':List Value)=[x0,n1,x5,aM]/\L1 (([13]:List Nat).map f') aQ) (apY P K)
def apZ:ax:=aH (au P Y6 (EN P K x0 n1 x5 aM L1)) (EN P K x0 n1 x5 aM L1)
def apW:ax:=bC 1 (apZ P K x0 n1 x5 aM L1)
def ajj:Prop:=aA (au P N2 (EN P K x0 n1 x5 aM L1)) ([0,1,5,12]++[13]) ([x0,n1,x5,aM]++xs) h
def Jk:Prop:=aA (au P avn (apW P K x0 n1 x5 aM L1)) [0,1,5,6,7,12,13] [x0,n1,x5,i6,t7,aM,aC] h
def ajh:Prop:=aA (au P avo (EN P K x0 n1 x5 aM L1)) [0,1,5,12,13] [x0,n1,x5,aM,aC] h
def aji:Prop:=aA (au P avp (KP P K)) [5] [x5] h
theorem aEx:Jk P K x0 n1 x5 i6 t7 aM aC L1 h=
 (OP (aj .shr t7 n1) λdW=>
 OP (dI .u32 dW) λcI=>
 OP (aD 1 x5 i6) λcU=>
 OH (aU 1 h cU cI) λ_ z1=>
 ajh P K x0 n1 x5 aM aC L1 z1):=aB (by kernel_rfl)
theorem aEy:ajh P K x0 n1 x5 aM aC L1 h=
 (OP (aj .add aC (.int .i64 (1))) λer=>
 ([x0,n1,x5,aM]:List Value)=[x0,n1,x5,aM]/\L1 [er] h):=aB (by kernel_rfl)
theorem aEA (x0 n1 x5 aM:Value) (L1:LQ) (aC:Value) (h:ae):ajj P K x0 n1 x5 aM L1 [aC] h=
 (OP (aj .lss aC aM) λaP=>
 aJ aP
 (OP (aD 1 x0 aC) λbA=>
 OP (af false 1 h bA) λaR=>
 OP (dI .u64 aR) λaI=>
 OP (aj .add aC (.int .i64 (1))) λbL=>
 OP (aT x0) λbm=>
 OP (aj .lss bL bm) λbH=>
 aJ bH
 (OP (aj .add aC (.int .i64 (1))) λb9=>
 OP (aD 1 x0 b9) λaV=>
 OP (af false 1 h aV) λbz=>
 OP (dI .u64 bz) λdJ=>
 OP (aj .shl dJ (.int .u64 (32))) λbZ=>
 OP (aj .or aI bZ) λcA=>
 Jk P K x0 n1 x5 aC cA aM aC L1 h)
 (Jk P K x0 n1 x5 aC aI aM aC L1 h))
 (aji P K x5 h)):=aB (by kernel_rfl)
theorem aEz:aji P K x5 h=
 (ay P 83 [x5] h λcP z1=>
 K cP z1):=aB (by kernel_rfl)
def Mc:Prop:=
 OP (aT x0) λx9=>
 OH (eM 152 4 [(.int .u32 (0))] h x9 x9) λaE z1=>
 OP (aT x0) λaM=>
 bT [(.int .i64 (0))] z1 λL1 xs hx=>
 ajj P K x0 n1 aE aM L1 xs hx
theorem azW:au P F4 (aW [.tmp 4] K) (cd [x0,n1]) h=Mc P K x0 n1 h:=by kernel_rfl
theorem f143 {K:VK} {x0 n1:Value} {h:ae} (H:Mc prog K x0 n1 h):ay prog 143 [x0,n1] h K:=
 cC aCz (cE rfl) ((azW prog K x0 n1 h).mpr H)
end
end
section
def dN:Nat:=4294967296^100
theorem RD {n:Nat} (h:n<4294967296^20):n<dN:=Nat.lt_of_lt_of_le h (Nat.pow_le_pow_right (by decide) (by decide))
theorem qc {xs:List Nat} (h:eL 4294967296 xs) (hv:val 4294967296 xs<dN):xs.length<=100:=h.len (by decide) hv
def DS (e:TypeId) (k:IntKind) (h:ae) (v:Value) (xs:List Nat):Prop:=
 (v=.slice none 0 0/\xs=[])∨∃i,v=sl e i 0 xs.length/\(xs=[]∨∃rest,bw h i=some (xs.map (λd:Nat=>Value.int k (d:Int))++rest))
theorem DS.mono {e:TypeId} {k:IntKind} {h h':ae} {v:Value} {xs:List Nat} (x:EX h h') (p:DS e k h v xs):DS e k h' v xs:=
 p.imp id λ⟨i,a,b⟩=>⟨i,a,b.imp id λ⟨r,c⟩=>⟨r,x.cells c⟩⟩
theorem DS.len {e:TypeId} {k:IntKind} {h:ae} {v:Value} {xs:List Nat} (p:DS e k h v xs):aT v=some (I xs.length):=by
 rcases p with ⟨rfl,rfl⟩ | ⟨i,rfl,_⟩ <;> rfl
theorem DS.get {e:TypeId} {k:IntKind} {h:ae} {v:Value} {xs:List Nat} (p:DS e k h v xs) {j:Nat} (hj:j<xs.length):∃i,aD 1 v (I j)=some (pt i j)/\af false 1 h (pt i j)=some (.int k (xs[j]:Int)):=by
 rcases p with ⟨_,rfl⟩ | ⟨i,rfl,hc⟩
 ·simp at hj
 ·obtain ⟨r,hc⟩:=hc.resolve_left (by rintro rfl;simp at hj)
  refine ⟨i,jL hj,?_⟩
  have:(xs.map (λd:Nat=>Value.int k (d:Int))++r)[j]?=some (.int k (xs[j]:Int)):=by rw [List.getElem?_append_left (by simpa using hj)];simp [hj]
  simp [af,hc,dS,this]
theorem DS.nil (e:TypeId) (k:IntKind) (h:ae):DS e k h (.slice none 0 0) []:=.inl ⟨rfl,rfl⟩
theorem DS.one {e:TypeId} {k:IntKind} {h:ae} {v:Value} {xs:List Nat} (p:DS e k h v xs):fV v=true/\dL v=[v]:=by
 rcases p with ⟨rfl,_⟩ | ⟨i,rfl,_⟩ <;> exact ⟨rfl,rfl⟩
theorem DS.pop {e:TypeId} {k:IntKind} {h:ae} {v:Value} {xs:List Nat} (p:DS e k h v xs) {n:Nat} (hn:n<=xs.length):∃v',fP e 1 v none (some (I n))=some v'/\DS e k h v' (xs.take n):=by
 rcases p with ⟨rfl,rfl⟩ | ⟨i,rfl,hc⟩
 ·simp at hn;subst hn
  exact ⟨_,rfl,.inl ⟨rfl,rfl⟩⟩
 ·refine ⟨sl e i 0 n,?_,.inr ⟨i,by rw [length_take,Nat.min_eq_left hn],?_⟩⟩
  ·simp [fP,sl,mE,od,hn]
  ·rcases hc with rfl | ⟨r,hc⟩
   ·left;simp
   ·right
    refine ⟨(xs.drop n).map (λd:Nat=>Value.int k (d:Int))++r,?_⟩
    rw [hc,<-List.append_assoc,<-List.map_append,List.take_append_drop]
def fm (h:ae) (v:Value) (n:Nat):Prop:=∃xs,DS 152 .u32 h v xs/\eL 4294967296 xs/\val 4294967296 xs=n
theorem fm.mono {h h':ae} {v:Value} {n:Nat} (x:EX h h') (p:fm h v n):fm h' v n:=let ⟨xs,a,b,c⟩:=p;⟨xs,a.mono x,b,c⟩
theorem sQ {h:ae} {K:Value->ae->Prop} {v:Value} {xs:List Nat} (p:DS 152 .u32 h v xs) (hl:dF 4294967296 xs) (hs:xs.length<=1000) (hk:∀v',fm h v' (val 4294967296 xs)->K v' h):ay prog 83 [v] h K:=by
 refine f83 ?_
 refine cN (σ:=Value×List Nat) (λp=>[p.1]) (λ_=>h) (λq=>DS 152 .u32 h q.1 q.2/\dF 4294967296 q.2/\val 4294967296 q.2=val 4294967296 xs/\q.2.length<=1000) (λq=>q.2.length) (v,xs) rfl rfl ⟨p,hl,rfl,hs⟩ ?_
 rintro ⟨v,ys⟩ ⟨p,hl,hv,hs⟩ L hL
 simp only at p hl hv hs hL⊢
 rw [aII]
 have done:eL 4294967296 ys->Uf prog K v h:=by
  intro hc
  rw [aIH]
  exact hk v ⟨ys,p,hc,hv⟩
 simp only [p.len,ah,gY]
 by_cases h0:ys.length=0
 ·have:ys=[]:=List.length_eq_zero_iff.1 h0
  rw [bX (show ¬(0:Int)<(ys.length:Int) by omega)]
  simp only [ani,jd,anh,dA,ah,dm]
  exact done (by rw [this];exact eL.nil 4294967296)
 ·rw [dh (show (0:Int)<(ys.length:Int) by omega)]
  have e1:IntKind.wrap .i64 ((ys.length:Int)-1)=((ys.length-1:Nat):Int):=by rw [wrap64 (by omega) (by omega)];omega
  obtain ⟨i,g1,g2⟩:=p.get (j:=ys.length-1) (by omega)
  simp only [ani,gK,p.len,ah,iD,e1,g1,g2,jB,anh,fy,ca]
  refine ⟨λhz=>?_,λhz=>?_⟩
  ·obtain ⟨v',h1,h2⟩:=p.pop (n:=ys.length-1) (by omega)
   simp only [h1,ah,true_and]
   have aBB:ys=ys.take (ys.length-1)++[0]:=by
    have:=List.take_succ_eq_append_getElem (l:=ys) (i:=ys.length-1) (by omega)
    rw [show ys.length-1+1=ys.length by omega,take_length] at this
    have yV:ys[ys.length-1]=0:=by omega
    rw [yV] at this
    exact this
   refine hL (v',ys.take (ys.length-1)) ⟨h2,hl.mono λy hy=>List.mem_of_mem_take hy,?_,by rw [length_take];omega⟩ (by simp;omega)
   rw [<-hv]
   conv=>rhs;rw [aBB]
   rw [oT]
   simp [val]
  ·exact done (Hf hl λh1 hc=>hz (by rw [hc];rfl))
/-- Fresh digits at the end of the heap. -/
abbrev hd (h:ae) (os:List Nat):ae:=h++[.arr 152 (os.map λd:Nat=>Value.int .u32 (d:Int))]
theorem zm {h:ae} {n:Nat} (hn:n<=1000):eM 152 4 [.int .u32 0] h (I n) (I n)=some (sl 152 h.length 0 n,hd h (replicate n 0)):=by
 have hz:∀m,bE [Value.int .u32 0] m=(replicate m 0).map λd:Nat=>Value.int .u32 (d:Int):=by
  intro m
  induction m with
  | zero=>rfl
  | succ m ih=>
   have:bE [Value.int .u32 0] (m+1)=Value.int .u32 0::bE [Value.int .u32 0] m:=by simp [bE,List.replicate_succ]
   rw [this,ih,List.replicate_succ];rfl
 simp only [eM]
 rw [if_pos ⟨by omega,by omega,by omega,by omega⟩,Int.toNat_natCast,hz]
theorem P1 (h:ae) (os:List Nat):(hd h os)[h.length]?=some (.arr 152 (os.map λd:Nat=>Value.int .u32 (d:Int))):=by simp [hd]
theorem uT {h:ae} {os:List Nat} {j:Nat} (d:Nat) (hj:j<os.length):aU 1 (hd h os) (pt h.length j) (.int .u32 (d:Int))=some (undef,hd h (os.set j d)):=by
 rw [kz (P1 h os) (by simpa using hj) rfl rfl]
 simp [hd,List.map_set]
theorem aet {h:ae} {os:List Nat} {j:Nat} (hj:j<os.length):af false 1 (hd h os) (pt h.length j)=some (.int .u32 (os[j]:Int)):=by
 simp [af,bw,dS,hj]
theorem yz (h:ae) (os:List Nat):DS 152 .u32 (hd h os) (sl 152 h.length 0 os.length) os:=.inr ⟨h.length,rfl,.inr ⟨[],by simp [bw,hd]⟩⟩
theorem lE (h:ae) (os:List Nat):EX h (hd h os):=EX.append _ _
theorem lL {n:Int} (h1:0<=n) (h2:n<18446744073709551616):IntKind.wrap .u64 n=n:=by
 have e:IntKind.wrap .u64 n=n%18446744073709551616:=by simp [IntKind.wrap,IntKind.bits,IntKind.signed]
 rw [e];omega
theorem xp (n:Int):IntKind.wrap .u32 n=n%4294967296:=by simp [IntKind.wrap,IntKind.bits,IntKind.signed]
theorem rL {n:Int} (h1:0<=n) (h2:n<4294967296):IntKind.wrap .u32 n=n:=by rw [xp];omega
theorem zH (s:Nat):aj .shr (.int .u64 (s:Int)) (.int .u64 32)=some (.int .u64 ((s / 4294967296:Nat):Int)):=by
 simp only [aj,rB]
 rw [if_neg (by omega)]
 have:(min (32:Int).toNat IntKind.u64.bits)=32:=rfl
 rw [this]
 have e2:(2:Int)^32=4294967296:=by decide
 rw [e2,Int.fdiv_eq_ediv_of_nonneg _ (by omega)]
 congr 2
theorem VO {x y c:Nat} {h:ae} {K:Value->ae->Prop} (hx:x<4294967296) (hy:y<4294967296) (hc:c<=1) (hk:K (.tuple #[.int .u32 (((x+y+c)%4294967296:Nat):Int),.int .u32 (((x+y+c) / 4294967296:Nat):Int)]) h):
  ay prog 122 [.int .u32 (x:Int),.int .u32 (y:Int),.int .u32 (c:Int)] h K:=by
 refine f122 ?_
 have e1:IntKind.wrap .u64 ((x:Int)+(y:Int))=((x+y:Nat):Int):=by rw [lL (by omega) (by omega)];omega
 have e2:IntKind.wrap .u64 (((x+y:Nat):Int)+(c:Int))=((x+y+c:Nat):Int):=by rw [lL (by omega) (by omega)];omega
 have e3:IntKind.wrap .u32 ((x+y+c:Nat):Int)=(((x+y+c)%4294967296:Nat):Int):=by rw [xp];omega
 simp only [LV,nU,ah,b7]
 rw [lL (n:=(x:Int)) (by omega) (by omega),lL (n:=(y:Int)) (by omega) (by omega),e1,lL (n:=(c:Int)) (by omega) (by omega),e2]
 simp only [zH,ah,nU,e3]
 rw [rL (by omega) (by omega)]
 exact hk
theorem Wk {va vb:Value} {xs ys:List Nat} {h:ae} {K:Value->ae->Prop} (hx:DS 152 .u32 h va xs) (hy:DS 152 .u32 h vb ys) (lx:dF 4294967296 xs) (ly:dF 4294967296 ys) (hle:ys.length<=xs.length) (hlen:xs.length<=200)
  (hk:∀v h',EX h h'->fm h' v (val 4294967296 xs+val 4294967296 ys)->K v h'):JC prog K va vb h:=by
 rw [aIN]
 simp only [hx.len,ah,b7,inc xs.length (by omega),zm (show xs.length+1<=1000 by omega),aL]
 have hW:0<4294967296:=by decide
 refine cN (σ:=Nat×Nat×List Nat) (λp=>[.int .u32 (p.1:Int),I p.2.1]) (λp=>hd h p.2.2)
  (λp=>p.2.1<=xs.length/\p.1<=1/\p.2.2.length=xs.length+1/\dF 4294967296 p.2.2/\(∀j (hj:j<p.2.2.length),p.2.1<=j->p.2.2[j]=0)/\val 4294967296 p.2.2+4294967296^p.2.1*p.1=val 4294967296 (xs.take p.2.1)+val 4294967296 (ys.take p.2.1)) (λp=>xs.length-p.2.1)
  (0,0,replicate (xs.length+1) 0) rfl rfl ⟨by simp,by simp,by simp,dF.wc hW _,by simp,by simp [xk,val]⟩ ?_
 rintro ⟨c,i,os⟩ ⟨hi,hc,jt,gD,hz,dD⟩ L hL
 simp only at hi hc jt gD hz dD hL⊢
 rw [aIJ]
 have dM:=hx.mono (lE h os)
 have vv:=hy.mono (lE h os)
 simp only [bW,ah,ca]
 refine ⟨λaw=>?_,λcJ=>?_⟩
 ·have gS:i<xs.length:=by omega
  obtain ⟨ia,a1,a2⟩:=dM.get gS
  have iH:xs[i]<4294967296:=lx _ (getElem_mem gS)
  have go:∀y:Nat,y<4294967296->val 4294967296 (ys.take (i+1))=val 4294967296 (ys.take i)+4294967296^i*y->JB prog K va vb (sl 152 h.length 0 (xs.length+1)) (.int .u32 (c:Int)) (I i) (.int .u32 (y:Int)) (I xs.length) (I i) L (hd h os):=by
   intro y kS yU
   rw [aIK]
   simp only [a1,ah,a2]
   refine VO iH kS hc ?_
   simp only [fM,gi,gj,ah,jL (show i<xs.length+1 by omega)]
   rw [uT _ (by omega)]
   simp only [aL,aIL,b7,ah,inc i (by omega),true_and]
   have py:(xs[i]+y+c)%4294967296<4294967296:=mod_lt _ hW
   have uU:(xs[i]+y+c) / 4294967296<=1:=by omega
   refine hL ((xs[i]+y+c) / 4294967296,i+1,os.set i ((xs[i]+y+c)%4294967296)) ⟨by show i+1<=xs.length;omega,uU,by show (os.set i _).length=_;rw [length_set];exact jt,gD.set py i,?_,?_⟩ (by show xs.length-(i+1)<xs.length-i;omega)
   ·intro j hj gC
    show (os.set i _)[j]=0
    have Qa:i≠j:=by have:i+1<=j:=gC;omega
    rw [getElem_set_ne Qa]
    exact hz j (by simpa using hj) (by have:i+1<=j:=gC;omega)
   ·show val 4294967296 (os.set i _)+4294967296^(i+1)*_=val 4294967296 (xs.take (i+1))+val 4294967296 (ys.take (i+1))
    have h1:=sM 4294967296 os i ((xs[i]+y+c)%4294967296) (by omega)
    rw [hz i (by omega) (le_refl _)] at h1
    rw [jS 4294967296 xs gS,yU,pow_succ]
    have h2:=Nat.mod_add_div (xs[i]+y+c) 4294967296
    generalize (xs[i]+y+c)%4294967296=m at*
    generalize (xs[i]+y+c) / 4294967296=q at*
    generalize 4294967296^i=P at*
    generalize hWW:4294967296=w at*
    grind
  simp only [vv.len,ah,bW,ca]
  refine ⟨λhly=>?_,λhgy=>?_⟩
  ·have yH:i<ys.length:=by omega
   obtain ⟨ib,b1,b2⟩:=vv.get yH
   simp only [b1,ah,b2]
   exact go _ (ly _ (getElem_mem yH)) (jS 4294967296 ys yH)
  ·have:=go 0 (by decide) (by rw [take_of_length_le (by omega),take_of_length_le (by omega)];simp)
   simpa using this
 ·have:i=xs.length:=by omega
  subst this
  rw [aIM]
  simp only [dM.len,ah,jL (show xs.length<xs.length+1 by omega)]
  rw [uT _ (by omega)]
  simp only [aL]
  have h1:=sM 4294967296 os xs.length c (by omega)
  rw [hz xs.length (by omega) (le_refl _)] at h1
  have hv:val 4294967296 (os.set xs.length c)=val 4294967296 xs+val 4294967296 ys:=by
   rw [take_length,take_of_length_le hle] at dD
   omega
  have hcW:c<4294967296:=Nat.lt_of_le_of_lt hc (by decide)
  have e:sl 152 h.length 0 (xs.length+1)=sl 152 h.length 0 (os.set xs.length c).length:=by rw [length_set,jt]
  rw [e]
  refine sQ (yz h _) (gD.set hcW _) (by rw [length_set];omega) ?_
  intro v' hm
  rw [hv] at hm
  exact hk v' _ (lE h _) hm
theorem C85 {va vb:Value} {a b:Nat} {h:ae} {K:Value->ae->Prop} (ha:fm h va a) (hb:fm h vb b) (la:a<dN) (lb:b<dN) (hk:∀v h',EX h h'->fm h' v (a+b)->K v h'):ay prog 85 [va,vb] h K:=by
 obtain ⟨xs,dx,cx,rfl⟩:=ha
 obtain ⟨ys,dy,cy,rfl⟩:=hb
 have l1:=qc cx la
 have l2:=qc cy lb
 refine f85 ?_
 simp only [No,dx.len,dy.len,ah,bW,ca]
 refine ⟨λaw=>?_,λcJ=>?_⟩
 ·refine Wk dy dx cy.1 cx.1 (by omega) (by omega) ?_
  rw [Nat.add_comm (val 4294967296 ys)]
  exact hk
 ·exact Wk dx dy cx.1 cy.1 (by omega) (by omega) hk
end
section
theorem xU (X:BitVec 32):BitVec.ofInt IntKind.u32.bits (X.toNat:Int)=X:=by
 show BitVec.ofInt 32 (X.toNat:Int)=X
 rw [BitVec.ofInt_natCast,BitVec.ofNat_toNat,BitVec.setWidth_eq]
theorem B0 (X:BitVec 32):X.toNat<4294967296:=X.isLt
theorem auf (X Y:BitVec 32):aj .and (.int .u32 (X.toNat:Int)) (.int .u32 (Y.toNat:Int))=some (.int .u32 ((X &&& Y).toNat:Int)):=by
 have h:=B0 (X &&& Y)
 have e:(BitVec.ofInt IntKind.u32.bits (X.toNat:Int) &&& BitVec.ofInt IntKind.u32.bits (Y.toNat:Int)).toNat=(X &&& Y).toNat:=by rw [xU,xU];rfl
 simp only [aj,jE,if_true]
 rw [e,rL (by omega) (by omega)]
theorem aDr (X Y:BitVec 32):aj .or (.int .u32 (X.toNat:Int)) (.int .u32 (Y.toNat:Int))=some (.int .u32 ((X ||| Y).toNat:Int)):=by
 have h:=B0 (X ||| Y)
 have e:(BitVec.ofInt IntKind.u32.bits (X.toNat:Int) ||| BitVec.ofInt IntKind.u32.bits (Y.toNat:Int)).toNat=(X ||| Y).toNat:=by rw [xU,xU];rfl
 simp only [aj,jE,if_true]
 rw [e,rL (by omega) (by omega)]
theorem aMh (X Y:BitVec 32):aj .xor (.int .u32 (X.toNat:Int)) (.int .u32 (Y.toNat:Int))=some (.int .u32 ((X^^^Y).toNat:Int)):=by
 have h:=B0 (X^^^Y)
 have e:(BitVec.ofInt IntKind.u32.bits (X.toNat:Int)^^^BitVec.ofInt IntKind.u32.bits (Y.toNat:Int)).toNat=(X^^^Y).toNat:=by rw [xU,xU];rfl
 simp only [aj,jE,if_true]
 rw [e,rL (by omega) (by omega)]
theorem aDj (X:BitVec 32):gE .xor (.int .u32 (X.toNat:Int))=some (.int .u32 ((~~~X).toNat:Int)):=by
 have h:=B0 (~~~X)
 have e:(BitVec.ofInt IntKind.u32.bits (if IntKind.u32.signed=true then -1 else IntKind.u32.max)^^^BitVec.ofInt IntKind.u32.bits (X.toNat:Int)).toNat=(~~~X).toNat:=by
  rw [xU]
  show (BitVec.ofInt 32 4294967295^^^X).toNat=_
  rw [show BitVec.ofInt 32 4294967295=BitVec.allOnes 32 from by decide,BitVec.allOnes_xor]
 simp only [gE]
 rw [e,rL (by omega) (by omega)]
theorem aKL (Z:BitVec 32):aj .shr (.int .u32 (Z.toNat:Int)) (.int .u64 31)=some (.int .u32 ((if Z.msb then 1 else 0:Nat):Int)):=by
 have h:=B0 Z
 simp only [aj,rB]
 rw [if_neg (by omega)]
 have:(min (31:Int).toNat IntKind.u32.bits)=31:=rfl
 rw [this]
 have e2:(2:Int)^31=2147483648:=by decide
 rw [e2,Int.fdiv_eq_ediv_of_nonneg _ (by omega),BitVec.msb_eq_decide]
 congr 2
 by_cases hz:2^31<=Z.toNat
 ·simp [hz];omega
 ·simp [hz];omega
theorem VP {x y b:Nat} {h:ae} {K:Value->ae->Prop} (hx:x<4294967296) (hy:y<4294967296) (hb:b<=1) (hk:K (.tuple #[.int .u32 (((x+4294967296+4294967296-y-b)%4294967296:Nat):Int),.int .u32 ((if x<y+b then 1 else 0:Nat):Int)]) h):
  ay prog 123 [.int .u32 (x:Int),.int .u32 (y:Int),.int .u32 (b:Int)] h K:=by
 refine f123 ?_
 obtain ⟨X,rfl⟩:∃X:BitVec 32,x=X.toNat:=⟨BitVec.ofNat 32 x,by rw [BitVec.toNat_ofNat];exact (mod_eq_of_lt hx).symm⟩
 obtain ⟨Y,rfl⟩:∃Y:BitVec 32,y=Y.toNat:=⟨BitVec.ofNat 32 y,by rw [BitVec.toNat_ofNat];exact (mod_eq_of_lt hy).symm⟩
 obtain ⟨D,hD⟩:∃D:BitVec 32,D.toNat=(X.toNat+4294967296+4294967296-Y.toNat-b)%4294967296:=⟨BitVec.ofNat 32 _,by rw [BitVec.toNat_ofNat]⟩
 have e1:IntKind.wrap .u32 (IntKind.wrap .u32 ((X.toNat:Int)-(Y.toNat:Int))-(b:Int))=(D.toNat:Int):=by
  rw [xp,xp,hD];omega
 simp only [LW,iD,ah,e1,aDj,auf,aMh,aDr,aKL]
 rw [<-hD] at hk
 have e2:(if (~~~X &&& Y ||| ~~~(X^^^Y) &&& D).msb then 1 else 0:Nat)=if X.toNat<Y.toNat+b then 1 else 0:=by
  rw [BitVec.msb_or,BitVec.msb_and,BitVec.msb_and,BitVec.msb_not,BitVec.msb_not,BitVec.msb_xor,BitVec.msb_eq_decide X,BitVec.msb_eq_decide Y,BitVec.msb_eq_decide D]
  by_cases c1:2^(32-1)<=X.toNat <;> by_cases c2:2^(32-1)<=Y.toNat <;> by_cases c3:2^(32-1)<=D.toNat <;> simp [c1,c2,c3] <;> omega
 rw [e2]
 exact hk
theorem Wl {va vb:Value} {a b:Nat} {h:ae} {K:Value->ae->Prop} (ha:fm h va a) (hb:fm h vb b) (la:a<dN) (gQ:b<=a) (hk:∀v h',EX h h'->fm h' v (a-b)->K v h'):ay prog 87 [va,vb] h K:=by
 obtain ⟨xs,hx,cx,rfl⟩:=ha
 obtain ⟨ys,hy,cy,rfl⟩:=hb
 have l1:=qc cx la
 have l2:=qc cy (Nat.lt_of_le_of_lt gQ la)
 have hle:ys.length<=xs.length:=by
  apply byContradiction
  intro hc
  have:=eL.zl (by decide) cx cy (by omega)
  omega
 refine f87 ?_
 simp only [Nq,hx.len,ah,zm (show xs.length<=1000 by omega),aL]
 have hW:(0:Nat)<4294967296:=by decide
 refine cN (σ:=Nat×Nat×List Nat) (λp=>[.int .u32 (p.1:Int),I p.2.1]) (λp=>hd h p.2.2)
  (λp=>p.2.1<=xs.length/\p.1<=1/\p.2.2.length=xs.length/\dF 4294967296 p.2.2/\(∀j (hj:j<p.2.2.length),p.2.1<=j->p.2.2[j]=0)/\val 4294967296 p.2.2+val 4294967296 (ys.take p.2.1)=val 4294967296 (xs.take p.2.1)+4294967296^p.2.1*p.1) (λp=>xs.length-p.2.1)
  (0,0,replicate xs.length 0) rfl rfl ⟨by simp,by simp,by simp,dF.wc hW _,by simp,by simp [xk,val]⟩ ?_
 rintro ⟨c,i,os⟩ ⟨hi,hc,jt,gD,hz,dD⟩ L hL
 simp only at hi hc jt gD hz dD hL⊢
 rw [aIS]
 have dM:=hx.mono (lE h os)
 have vv:=hy.mono (lE h os)
 simp only [bW,ah,ca]
 refine ⟨λaw=>?_,λcJ=>?_⟩
 ·have gS:i<xs.length:=by omega
  obtain ⟨ia,a1,a2⟩:=dM.get gS
  have iH:xs[i]<4294967296:=cx.1 _ (getElem_mem gS)
  have go:∀y:Nat,y<4294967296->val 4294967296 (ys.take (i+1))=val 4294967296 (ys.take i)+4294967296^i*y->JD prog K va vb (sl 152 h.length 0 xs.length) (.int .u32 (c:Int)) (I i) (.int .u32 (y:Int)) (I xs.length) (I i) L (hd h os):=by
   intro y kS yU
   rw [aIP]
   simp only [a1,ah,a2]
   refine VP iH kS hc ?_
   simp only [fM,gi,gj,ah,jL gS]
   rw [uT _ (by omega)]
   simp only [aL,aIQ,b7,ah,inc i (by omega),true_and]
   have py:(xs[i]+4294967296+4294967296-y-c)%4294967296<4294967296:=mod_lt _ hW
   have pO:(if xs[i]<y+c then 1 else 0)<=1:=by split <;> omega
   have hs:(xs[i]+4294967296+4294967296-y-c)%4294967296+y+c=xs[i]+4294967296*(if xs[i]<y+c then 1 else 0):=by
    split <;> omega
   refine hL ((if xs[i]<y+c then 1 else 0),i+1,os.set i ((xs[i]+4294967296+4294967296-y-c)%4294967296)) ⟨by show i+1<=xs.length;omega,pO,by show (os.set i _).length=_;rw [length_set];exact jt,gD.set py i,?_,?_⟩ (by show xs.length-(i+1)<xs.length-i;omega)
   ·intro j hj gC
    show (os.set i _)[j]=0
    have Qa:i≠j:=by have:i+1<=j:=gC;omega
    rw [getElem_set_ne Qa]
    exact hz j (by simpa using hj) (by have:i+1<=j:=gC;omega)
   ·show val 4294967296 (os.set i _)+val 4294967296 (ys.take (i+1))=val 4294967296 (xs.take (i+1))+4294967296^(i+1)*_
    have h1:=sM 4294967296 os i ((xs[i]+4294967296+4294967296-y-c)%4294967296) (by omega)
    rw [hz i (by omega) (le_refl _)] at h1
    rw [jS 4294967296 xs gS,yU,pow_succ]
    generalize (xs[i]+4294967296+4294967296-y-c)%4294967296=m at*
    generalize (if xs[i]<y+c then 1 else 0)=q at*
    generalize 4294967296^i=P at*
    generalize (4294967296:Nat)=w at*
    grind
  simp only [vv.len,ah,bW,ca]
  refine ⟨λhly=>?_,λhgy=>?_⟩
  ·have yH:i<ys.length:=by omega
   obtain ⟨ib,b1,b2⟩:=vv.get yH
   simp only [b1,ah,b2]
   exact go _ (cy.1 _ (getElem_mem yH)) (jS 4294967296 ys yH)
  ·have:=go 0 (by decide) (by rw [take_of_length_le (by omega),take_of_length_le (by omega)];simp)
   simpa using this
 ·have:i=xs.length:=by omega
  subst this
  rw [aIR]
  rw [take_length,take_of_length_le hle] at dD
  have aw:=nI gD
  rw [jt] at aw
  have yu:c=0:=by
   apply byContradiction
   intro bY
   have:c=1:=by omega
   subst this
   omega
  subst yu
  have hv:val 4294967296 os=val 4294967296 xs-val 4294967296 ys:=by omega
  have e:sl 152 h.length 0 xs.length=sl 152 h.length 0 os.length:=by rw [jt]
  rw [e]
  refine sQ (yz h _) gD (by omega) ?_
  intro v' hm
  rw [hv] at hm
  exact hk v' _ (lE h _) hm
def oS (a b:Nat):Int:=if a<b then -1 else if b<a then 1 else 0
theorem Kj {B:Nat} {xs ys:List Nat} (lx:dF B xs) (_:dF B ys) (hl:xs.length=ys.length) {i:Nat} (hi:i<xs.length) (hd:xs.drop (i+1)=ys.drop (i+1)) (h:xs[i]<ys[i]'(by omega)):val B xs<val B ys:=by
 have e1:xs=xs.take i++xs[i]::xs.drop (i+1):=by rw [<-drop_eq_getElem_cons hi,List.take_append_drop]
 have e2:ys=ys.take i++ys[i]'(by omega)::ys.drop (i+1):=by rw [<-drop_eq_getElem_cons (by omega),List.take_append_drop]
 have v1:val B xs=val B (xs.take i)+B^i*(xs[i]+B*val B (xs.drop (i+1))):=by
  conv=>lhs;rw [e1]
  rw [oT,length_take,Nat.min_eq_left (by omega)];rfl
 have v2:val B ys=val B (ys.take i)+B^i*(ys[i]'(by omega)+B*val B (ys.drop (i+1))):=by
  conv=>lhs;rw [e2]
  rw [oT,length_take,Nat.min_eq_left (by omega)];rfl
 rw [v1,v2,hd]
 have h1:=nI (lx.mono (ys:=xs.take i) λy hy=>List.mem_of_mem_take hy)
 rw [length_take,Nat.min_eq_left (by omega)] at h1
 have h2:B^i*(xs[i]+1+B*val B (ys.drop (i+1)))<=B^i*(ys[i]'(by omega)+B*val B (ys.drop (i+1))):=Nat.mul_le_mul_left _ (by omega)
 generalize B^i=P at*
 generalize B*val B (ys.drop (i+1))=Q at*
 generalize val B (xs.take i)=u at*
 generalize val B (ys.take i)=v at*
 have h3:P*(xs[i]+1+Q)=P*(xs[i]+Q)+P:=by grind
 omega
theorem Kz {va vb:Value} {a b:Nat} {h:ae} {K:Value->ae->Prop} (ha:fm h va a) (hb:fm h vb b) (la:a<dN) (lb:b<dN) (hk:K (I (oS a b)) h):ay prog 86 [va,vb] h K:=by
 obtain ⟨xs,hx,cx,rfl⟩:=ha
 obtain ⟨ys,hy,cy,rfl⟩:=hb
 have l1:=qc cx la
 have l2:=qc cy lb
 have less:val 4294967296 xs<val 4294967296 ys->K (.int .i64 (-1)) h:=λh1=>by unfold oS at hk;rw [if_pos h1] at hk;exact hk
 have more:val 4294967296 ys<val 4294967296 xs->K (.int .i64 1) h:=λh1=>by unfold oS at hk;rw [if_neg (by omega),if_pos h1] at hk;exact hk
 have same:val 4294967296 xs=val 4294967296 ys->K (.int .i64 0) h:=λh1=>by unfold oS at hk;rw [if_neg (by omega),if_neg (by omega)] at hk;exact hk
 refine f86 ?_
 simp only [Np,hx.len,hy.len,ah,iC,BJ,bW,ca]
 refine ⟨λbY=>⟨λaw=>less (eL.zl (by decide) cx cy (by omega)),λcJ=>more (eL.zl (by decide) cy cx (by omega))⟩,λhe=>?_⟩
 have qg:xs.length=ys.length:=by omega
 simp only [iD,ah]
 have e1:IntKind.wrap .i64 ((xs.length:Int)-1)=(xs.length:Int)-1:=by rw [wrap64 (by omega) (by omega)]
 rw [e1]
 refine cN (σ:=Nat) (λi=>[I ((i:Int)-1)]) (λ_=>h) (λi=>i<=xs.length/\xs.drop i=ys.drop i) (λi=>i) xs.length rfl rfl ⟨le_refl _,by rw [List.drop_length,qg,List.drop_length]⟩ ?_
 rintro i ⟨hi,rX⟩ L hL
 rw [aIO]
 simp only [om,ah,ca]
 refine ⟨λcJ=>?_,λaw=>?_⟩
 ·obtain ⟨j,rfl⟩:∃j,i=j+1:=⟨i-1,by omega⟩
  have ej:(((j+1:Nat):Int)-1)=(j:Int):=by omega
  rw [ej]
  obtain ⟨ia,a1,a2⟩:=hx.get (j:=j) (by omega)
  obtain ⟨ib,b1,b2⟩:=hy.get (j:=j) (by omega)
  simp only [a1,a2,b1,b2,ah,true_and,iC,BJ,bW,ca]
  refine ⟨λbY=>⟨λaw=>less (Kj cx.1 cy.1 qg (i:=j) (by omega) rX (by omega)),λcJ=>more (Kj cy.1 cx.1 qg.symm (i:=j) (by omega) rX.symm (by omega))⟩,λheq=>?_⟩
  simp only [iD,ah]
  rw [wrap64 (by omega) (by omega)]
  refine hL j ⟨by omega,?_⟩ (by omega)
  rw [drop_eq_getElem_cons (by omega),drop_eq_getElem_cons (show j<ys.length by omega),rX]
  congr 1
  omega
 ·have:i=0:=by omega
  subst this
  rw [drop_zero,drop_zero] at rX
  exact same (by rw [rX])
end
section
theorem I1 {x y:Nat} (hx:x<4294967296) (hy:y<4294967296):x*y<=18446744065119617025:=by
 have:=Nat.mul_le_mul (show x<=4294967295 by omega) (show y<=4294967295 by omega)
 omega
theorem C91 {va vb:Value} {a b:Nat} {h:ae} {K:Value->ae->Prop} (ha:fm h va a) (hb:fm h vb b) (la:a<dN) (lb:b<dN) (hk:∀v h',EX h h'->fm h' v (a*b)->K v h'):ay prog 91 [va,vb] h K:=by
 obtain ⟨xs,hx,cx,rfl⟩:=ha
 obtain ⟨ys,hy,cy,rfl⟩:=hb
 have l1:=qc cx la
 have l2:=qc cy lb
 have hW:(0:Nat)<4294967296:=by decide
 refine f91 ?_
 have e0:IntKind.wrap .i64 ((xs.length:Int)+(ys.length:Int))=((xs.length+ys.length:Nat):Int):=by rw [wrap64 (by omega) (by omega)];omega
 simp only [Nu,hx.len,hy.len,ah,b7,e0,zm (show xs.length+ys.length<=1000 by omega),aL]
 refine cN (σ:=Nat×List Nat) (λp=>[I p.1]) (λp=>hd h p.2)
  (λp=>p.1<=xs.length/\p.2.length=xs.length+ys.length/\dF 4294967296 p.2/\(∀j (hj:j<p.2.length),p.1+ys.length<=j->p.2[j]=0)/\val 4294967296 p.2=val 4294967296 (xs.take p.1)*val 4294967296 ys) (λp=>xs.length-p.1)
  (0,replicate (xs.length+ys.length) 0) rfl rfl ⟨by simp,by simp,dF.wc hW _,by simp,by simp [xk,val]⟩ ?_
 rintro ⟨i,os⟩ ⟨hi,jt,gD,hz,dD⟩ L hL
 simp only at hi jt gD hz dD hL⊢
 rw [aI2]
 have dM:=hx.mono (lE h os)
 simp only [bW,ah,ca]
 refine ⟨λaw=>?_,λcJ=>?_⟩
 ·have gS:i<xs.length:=by omega
  obtain ⟨ia,a1,a2⟩:=dM.get gS
  have iH:xs[i]<4294967296:=cx.1 _ (getElem_mem gS)
  simp only [a1,ah,a2,(hy.mono (lE h os)).len]
  have tO:=jS 4294967296 xs gS
  generalize xs[i]=x at iH tO
  refine cN (σ:=Nat×Nat×List Nat) (λp=>[.int .u64 (p.1:Int),I p.2.1]) (λp=>hd h p.2.2)
   (λp=>p.2.1<=ys.length/\p.1<4294967296/\p.2.2.length=xs.length+ys.length/\dF 4294967296 p.2.2/\(∀j (hj:j<p.2.2.length),i+ys.length<=j->p.2.2[j]=0)/\val 4294967296 p.2.2+4294967296^(i+p.2.1)*p.1=val 4294967296 os+4294967296^i*(x*val 4294967296 (ys.take p.2.1))) (λp=>ys.length-p.2.1)
   (0,0,os) rfl rfl ⟨by simp,hW,jt,gD,hz,by simp [val]⟩ ?_
  rintro ⟨c,j,ps⟩ ⟨hj,hc,oD,vg,wQ,wP⟩ L2 dO
  simp only at hj hc oD vg wQ wP dO⊢
  rw [aIY]
  have vv:=hy.mono (lE h ps)
  simp only [bW,ah,ca]
  refine ⟨λdR=>?_,λaeC=>?_⟩
  ·have mC:j<ys.length:=by omega
   obtain ⟨ib,b1,b2⟩:=vv.get mC
   have kS:ys[j]<4294967296:=cy.1 _ (getElem_mem mC)
   have hyt:=jS 4294967296 ys mC
   generalize ys[j]=y at b2 kS hyt
   have pT:i+j<ps.length:=by omega
   have aBg:ps[i+j]<4294967296:=vg _ (getElem_mem pT)
   have Dg:=I1 iH kS
   have nF:=sM 4294967296 ps (i+j) ((x*y+ps[i+j]+c)%4294967296) pT
   have ei:IntKind.wrap .i64 ((i:Int)+(j:Int))=((i+j:Nat):Int):=by rw [wrap64 (by omega) (by omega)];omega
   have O8:((x:Int)*(y:Int))=((x*y:Nat):Int):=by simp
   simp only [b1,ah,b2,nU]
   rw [lL (n:=(x:Int)) (by omega) (by omega),lL (n:=(y:Int)) (by omega) (by omega)]
   simp only [xT,ah,O8,b7,ei]
   rw [lL (n:=((x*y:Nat):Int)) (by omega) (by omega)]
   rw [jL (show i+j<xs.length+ys.length by omega)]
   simp only [ah,aet pT,nU]
   rw [lL (n:=(ps[i+j]:Int)) (by omega) (by omega)]
   have e1:IntKind.wrap .u64 (((x*y:Nat):Int)+(ps[i+j]:Int))=((x*y+ps[i+j]:Nat):Int):=by rw [lL (by omega) (by omega)];omega
   have e2:IntKind.wrap .u64 (((x*y+ps[i+j]:Nat):Int)+(c:Int))=((x*y+ps[i+j]+c:Nat):Int):=by rw [lL (by omega) (by omega)];omega
   have e3:IntKind.wrap .u32 ((x*y+ps[i+j]+c:Nat):Int)=(((x*y+ps[i+j]+c)%4294967296:Nat):Int):=by rw [xp];omega
   simp only [b7,ah,e1,e2,nU,e3,zH]
   rw [uT _ pT]
   simp only [aL,inc j (by omega),true_and]
   have py:(x*y+ps[i+j]+c)%4294967296<4294967296:=mod_lt _ hW
   have mB:=Nat.mod_add_div (x*y+ps[i+j]+c) 4294967296
   have uU:(x*y+ps[i+j]+c) / 4294967296<4294967296:=by omega
   refine dO ((x*y+ps[i+j]+c) / 4294967296,j+1,ps.set (i+j) ((x*y+ps[i+j]+c)%4294967296)) ⟨by show j+1<=ys.length;omega,uU,by show (ps.set _ _).length=_;rw [length_set];exact oD,vg.set py _,?_,?_⟩ (by show ys.length-(j+1)<ys.length-j;omega)
   ·intro k qV AQ
    show (ps.set (i+j) _)[k]=0
    have bY:i+j≠k:=by omega
    rw [getElem_set_ne bY]
    exact wQ k (by simpa using qV) AQ
   ·show val 4294967296 (ps.set (i+j) _)+4294967296^(i+(j+1))*_=val 4294967296 os+4294967296^i*(x*val 4294967296 (ys.take (j+1)))
    rw [hyt,<-Nat.add_assoc,pow_succ]
    rw [Nat.pow_add] at nF wP⊢
    generalize ps[i+j]=o at*
    generalize (x*y+o+c)%4294967296=m at*
    generalize (x*y+o+c) / 4294967296=q at*
    generalize val 4294967296 (ys.take j)=v at*
    generalize val 4294967296 (ps.set (i+j) m)=s1 at*
    generalize val 4294967296 ps=s0 at*
    generalize val 4294967296 os=s2 at*
    generalize 4294967296^i=P at*
    generalize 4294967296^j=Q at*
    generalize (4294967296:Nat)=w at*
    clear dO hL hx hy dM vv b1 b2
    have h1:P*Q*(m+w*q)=P*Q*(x*y+o+c):=by rw [mB]
    grind
  ·have:j=ys.length:=by omega
   subst this
   rw [aIZ]
   have ei:IntKind.wrap .i64 ((i:Int)+(ys.length:Int))=((i+ys.length:Nat):Int):=by rw [wrap64 (by omega) (by omega)];omega
   simp only [vv.len,ah,b7,ei,nU]
   rw [rL (n:=(c:Int)) (by omega) (by omega),jL (show i+ys.length<xs.length+ys.length by omega)]
   simp only [ah]
   have pT:i+ys.length<ps.length:=by omega
   rw [uT _ pT]
   simp only [aL,aI0,b7,ah,inc i (by omega),true_and]
   have nF:=sM 4294967296 ps (i+ys.length) c pT
   rw [wQ _ pT (le_refl _)] at nF
   rw [take_length] at wP
   refine hL (i+1,ps.set (i+ys.length) c) ⟨by show i+1<=xs.length;omega,by show (ps.set _ _).length=_;rw [length_set];exact oD,vg.set hc _,?_,?_⟩ (by show xs.length-(i+1)<xs.length-i;omega)
   ·intro k qV AQ
    show (ps.set (i+ys.length) _)[k]=0
    have aME:i+1+ys.length<=k:=AQ
    have bY:i+ys.length≠k:=by omega
    rw [getElem_set_ne bY]
    exact wQ k (by simpa using qV) (by omega)
   ·show val 4294967296 (ps.set (i+ys.length) c)=val 4294967296 (xs.take (i+1))*val 4294967296 ys
    rw [tO,Nat.add_mul,<-dD,Nat.mul_assoc,<-wP]
    omega
 ·have:i=xs.length:=by omega
  subst this
  rw [aI1]
  rw [take_length] at dD
  have e:sl 152 h.length 0 (xs.length+ys.length)=sl 152 h.length 0 os.length:=by rw [jt]
  rw [e]
  refine sQ (yz h _) gD (by omega) ?_
  intro v' hm
  rw [dD] at hm
  exact hk v' _ (lE h _) hm
def fh (h:ae) (val:Value) (z:Int):Prop:=∃v,val=.agg #[B (decide (z<0)),v]/\fm h v z.natAbs
theorem fh.mono {h h':ae} {v:Value} {z:Int} (x:EX h h') (p:fh h v z):fh h' v z:=let ⟨w,a,b⟩:=p;⟨w,a,b.mono x⟩
theorem fm.sC {h:ae} {v:Value} {n:Nat} (p:fm h v n):∃l:Nat,aT v=some (I l)/\(0<l↔0<n):=by
 obtain ⟨xs,d,c,rfl⟩:=p
 refine ⟨xs.length,d.len,?_⟩
 constructor
 ·intro h0
  have:=eL.low (by decide) c (by rintro rfl;simp at h0)
  have:0<4294967296^(xs.length-1):=Nat.pow_pos (by decide)
  omega
 ·intro h0
  cases xs with
  | nil=>simp [val] at h0
  | cons x xs=>simp
theorem fm.dK {h:ae} {v:Value} {n j:Nat} {e:TypeId} {b:Bool} {r:List Value} (p:fm h v n) (hj:h[j]?=some (.arr e (.bool b::r))) (o:az):fm (h.set j o) v n:=by
 obtain ⟨xs,d,c,hv⟩:=p
 refine ⟨xs,?_,c,hv⟩
 rcases d with d | ⟨i,h1,h2⟩
 ·exact .inl d
 ·refine .inr ⟨i,h1,?_⟩
  rcases h2 with h2 | ⟨rest,h2⟩
  ·exact .inl h2
  ·cases xs with
   | nil=>exact .inl rfl
   | cons x xs=>
    right
    refine ⟨rest,?_⟩
    have bY:j≠i:=by
     rintro rfl
     unfold bw at h2
     rw [hj] at h2
     simp at h2
    unfold bw at h2⊢
    rw [getElem?_set_ne bY]
    exact h2
theorem fh.dK {h:ae} {v:Value} {z:Int} {j:Nat} {e:TypeId} {b:Bool} {r:List Value} (p:fh h v z) (hj:h[j]?=some (.arr e (.bool b::r))) (o:az):fh (h.set j o) v z:=
 let ⟨w,a,q⟩:=p;⟨w,a,q.dK hj o⟩
theorem jm {h:ae} {i:Nat} {e:TypeId} {a b x y:Value} (hg:h[i]?=some (.arr e [a,b])):aU 2 h (pt i 0) (.agg #[x,y])=some (undef,h.set i (.arr e [x,y])):=by
 simp [aU,sw,hg,fV,dL,Value.cells,setAt]
theorem fu {h:ae} {i:Nat} {e:TypeId} {a b:Value} (hg:h[i]?=some (.arr e [a,b])):af true 2 h (pt i 0)=some (.agg #[a,b]):=by
 simp [af,bw,hg,dS]
theorem gF {h:ae} {i:Nat} {o o':az} (hg:h[i]?=some o'):(h.set i o)[i]?=some o:=by
 rw [List.getElem?_set_self (cm hg).1]
theorem uk {v:Value} {n:Nat} {b:Bool} {h:ae} {K:Value->ae->Prop} (hm:fm h v n) (hk:∀h',EX h h'->K (.agg #[B (b&&decide (0<n)),v]) h'):ay prog 82 [B b,v] h K:=by
 refine f82 ?_
 have al:cF 90 [(.bool false),(.slice none 0 0)] h=some (pt h.length 0,h++[.arr 90 [(.bool false),(.slice none 0 0)]]):=rfl
 simp only [Nl,al,aL]
 obtain ⟨l,h1,h2⟩:=hm.sC
 have hg:(h++[az.arr 90 [(.bool false),(.slice none 0 0)]])[h.length]?=some (.arr 90 [(.bool false),(.slice none 0 0)]):=bK
 have hx:EX h (h++[az.arr 90 [(.bool false),(.slice none 0 0)]]):=EX.append _ _
 have fin:DH prog K v (pt h.length 0) (B b) (B (decide (0<l))) (h++[az.arr 90 [(.bool false),(.slice none 0 0)]])/\(b=false->DH prog K v (pt h.length 0) (B b) undef (h++[az.arr 90 [(.bool false),(.slice none 0 0)]])):=by
  have one:∀c:Bool,c=(b&&decide (0<n))->OP (eG [(.bool false),(.slice none 0 0)] [(0,1,B c),(1,1,v)]) λaM=>OH (aU 2 (h++[az.arr 90 [(.bool false),(.slice none 0 0)]]) (pt h.length 0) aM) λ_ h_1=>OP (af true 2 h_1 (pt h.length 0)) λr0=>K r0 h_1:=by
   rintro c rfl
   have eb:eG [(.bool false),(.slice none 0 0)] [(0,1,B (b&&decide (0<n))),(1,1,v)]=some (.agg #[B (b&&decide (0<n)),v]):=by
    obtain ⟨xs,d,_,_⟩:=hm
    rcases d with ⟨rfl,_⟩ | ⟨i,rfl,_⟩ <;> rfl
   simp only [eb,ah]
   rw [jm hg]
   simp only [aL]
   rw [fu (gF hg)]
   simp only [ah]
   exact hk _ (hx.set (le_refl _) _)
  constructor
  ·rw [ang]
   cases b with
   | true=>simp only [fy,ah];exact one _ (by simp [h2])
   | false=>simp only [dA,ah];exact one _ (by simp)
  ·rintro rfl
   rw [ang]
   simp only [dA,ah]
   exact one _ (by simp)
 rw [aIG]
 have e0:decide ((0:Int)<(l:Int))=decide (0<l):=by
  by_cases h0:0<l
  ·simp [h0]
  ·simp [h0]
 cases b with
 | true=>
  simp only [gK,h1,ah,gY,e0]
  exact fin.1
 | false=>
  simp only [jd]
  exact fin.2 rfl
end
section
theorem wA {h':ae} {j:Nat} {b0 v0 b v:Value} {K:Value->ae->Prop} (hg:h'[j]?=some (.arr 90 [b0,v0])) (hk:K (.agg #[b,v]) (h'.set j (.arr 90 [b,v]))):
  OH (aU 2 h' (pt j 0) (.agg #[b,v])) λ_ h6=>OP (af true 2 h6 (pt j 0)) λr0=>K r0 h6:=by
 rw [jm hg]
 simp only [aL]
 rw [fu (gF hg)]
 exact ah.2 hk
structure aol (h:ae) (va vb:Value) (sa sb:Bool) (h3:ae):Prop where
 ex:EX h h3
 a0:af false 1 h3 (pt h.length 0)=some (B sa)
 a1:af false 1 h3 (pt h.length 1)=some va
 b0:af false 1 h3 (pt (h.length+1) 0)=some (B sb)
 b1:af false 1 h3 (pt (h.length+1) 1)=some vb
 a2:af true 2 h3 (pt h.length 0)=some (.agg #[B sa,va])
 b2:af true 2 h3 (pt (h.length+1) 0)=some (.agg #[B sb,vb])
 out:h3[h.length+2]?=some (.arr 90 [.bool false,.slice none 0 0])
theorem FF {h:ae} {va vb:Value} {sa sb:Bool} {K:Value->Value->Value->ae->Prop} (hk:∀h3,aol h va vb sa sb h3->K (pt h.length 0) (pt (h.length+1) 0) (pt (h.length+2) 0) h3):
  OH (cR 90 h (.agg #[B sa,va])) λa2 h_1=>OH (cR 90 h_1 (.agg #[B sb,vb])) λb3 h_2=>OH (cF 90 [(.bool false),(.slice none 0 0)] h_2) λx4 h_3=>K a2 b3 x4 h_3:=by
 have e1:∀(g:ae) (s:Bool) (v:Value),cR 90 g (.agg #[B s,v])=some (pt g.length 0,g++[.arr 90 [B s,v]]):=λ_ _ _=>rfl
 have e2:∀(g:ae),cF 90 [(.bool false),(.slice none 0 0)] g=some (pt g.length 0,g++[.arr 90 [(.bool false),(.slice none 0 0)]]):=λ_=>rfl
 simp only [e1,e2,aL,List.length_append,List.length_cons,List.length_nil]
 have g0:(h++[az.arr 90 [B sa,va]]++[az.arr 90 [B sb,vb]]++[az.arr 90 [(.bool false),(.slice none 0 0)]])[h.length]?=some (.arr 90 [B sa,va]):=by simp
 have g1:(h++[az.arr 90 [B sa,va]]++[az.arr 90 [B sb,vb]]++[az.arr 90 [(.bool false),(.slice none 0 0)]])[h.length+1]?=some (.arr 90 [B sb,vb]):=by simp
 have g2:(h++[az.arr 90 [B sa,va]]++[az.arr 90 [B sb,vb]]++[az.arr 90 [(.bool false),(.slice none 0 0)]])[h.length+2]?=some (.arr 90 [(.bool false),(.slice none 0 0)]):=by simp
 refine hk _ ⟨((EX.append _ _).push _).push _,?_,?_,?_,?_,fu g0,fu g1,g2⟩
 ·simp [af,bw,dS]
 ·simp [af,bw,dS]
 ·simp [af,bw,dS]
 ·simp [af,bw,dS]
theorem EE {n:Int} {h:ae} {K:Value->ae->Prop} (h1: -9223372036854775808<=n) (h2:n<9223372036854775808) (hk:∀r h',EX h h'->fh h' r n->K r h'):ay prog 56 [I n] h K:=by
 refine f56 ?_
 have e2:cF 90 [(.bool false),(.slice none 0 0)] h=some (pt h.length 0,h++[.arr 90 [(.bool false),(.slice none 0 0)]]):=rfl
 simp only [MX,e2,aL]
 have x1:EX h (h++[az.arr 90 [(.bool false),(.slice none 0 0)]]):=EX.append _ _
 have g1:(h++[az.arr 90 [(.bool false),(.slice none 0 0)]])[h.length]?=some (.arr 90 [(.bool false),(.slice none 0 0)]):=bK
 generalize h++[az.arr 90 [(.bool false),(.slice none 0 0)]]=hA at x1 g1⊢
 have go:∀u:Nat,u=n.natAbs->Jw prog K (I n) (pt h.length 0) (.int .u64 (u:Int)) hA:=by
  intro u hu
  rw [aHN]
  have ew:IntKind.wrap .u32 (u:Int)=((u%4294967296:Nat):Int):=by rw [xp];omega
  simp only [bW,ah,nU,zH,ew]
  rw [rL (n:=((u / 4294967296:Nat):Int)) (by omega) (by omega)]
  have mk:cH 152 2 [.int .u32 0] hA [(0,1,.int .u32 ((u%4294967296:Nat):Int)),(1,1,.int .u32 ((u / 4294967296:Nat):Int))]=some (sl 152 hA.length 0 2,hd hA [u%4294967296,u / 4294967296]):=rfl
  simp only [mk,aL]
  have hl:dF 4294967296 [u%4294967296,u / 4294967296]:=by
   intro x hx
   simp at hx
   rcases hx with rfl | rfl <;> omega
  refine sQ (yz hA [u%4294967296,u / 4294967296]) hl (by simp) ?_
  intro v hv
  have dD:val 4294967296 [u%4294967296,u / 4294967296]=n.natAbs:=by simp [val];omega
  rw [dD] at hv
  refine uk hv ?_
  intro h' x'
  have xx:=(lE hA [u%4294967296,u / 4294967296]).trans x'
  have g':=xx.get g1
  refine wA g' (hk _ _ ((x1.trans xx).set (le_refl _) _) ⟨v,?_,(hv.mono x').dK g' _⟩)
  have:(decide (n<0)&&decide (0<n.natAbs))=decide (n<0):=by
   by_cases hn:n<0
   ·simp [hn];omega
   ·simp [hn]
  rw [this]
 simp only [nU,ah,bW,ca]
 refine ⟨λhn=>?_,λhn=>?_⟩
 ·have e3:gE .neg (.int .u64 (IntKind.wrap .u64 n))=some (.int .u64 ((n.natAbs:Nat):Int)):=by
   have e:∀m:Int,IntKind.wrap .u64 m=m%18446744073709551616:=λm=>by simp [IntKind.wrap,IntKind.bits,IntKind.signed]
   simp only [gE]
   rw [e,e]
   congr 2
   omega
  simp only [e3,ah]
  exact go _ rfl
 ·have:IntKind.wrap .u64 n=((n.natAbs:Nat):Int):=by rw [lL (by omega) (by omega)];omega
  rw [this]
  exact go _ rfl
theorem Wm {va:Value} {a:Int} {h:ae} {K:Value->ae->Prop} (ha:fh h va a) (hk:∀r h',EX h h'->fh h' r (-a)->K r h'):ay prog 88 [va] h K:=by
 obtain ⟨v,rfl,hv⟩:=ha
 refine f88 ?_
 have e1:cR 90 h (.agg #[B (decide (a<0)),v])=some (pt h.length 0,h++[.arr 90 [B (decide (a<0)),v]]):=rfl
 simp only [Nr,e1,aL]
 have l0:af false 1 (h++[.arr 90 [B (decide (a<0)),v]]) (pt h.length 0)=some (B (decide (a<0))):=sD rfl
 have l1:af false 1 (h++[.arr 90 [B (decide (a<0)),v]]) (pt h.length 1)=some v:=sD rfl
 have x1:EX h (h++[.arr 90 [B (decide (a<0)),v]]):=EX.append _ _
 generalize h++[az.arr 90 [B (decide (a<0)),v]]=h1 at l0 l1 x1⊢
 have e2:cF 90 [(.bool false),(.slice none 0 0)] h1=some (pt h1.length 0,h1++[.arr 90 [(.bool false),(.slice none 0 0)]]):=rfl
 have x2:EX h1 (h1++[az.arr 90 [(.bool false),(.slice none 0 0)]]):=EX.append _ _
 have g1:(h1++[az.arr 90 [(.bool false),(.slice none 0 0)]])[h1.length]?=some (.arr 90 [(.bool false),(.slice none 0 0)]):=bK
 simp only [e2,aL]
 generalize h1++[az.arr 90 [(.bool false),(.slice none 0 0)]]=h2 at x2 g1⊢
 simp only [cj,add_zero,zero_add,ah,EX.load x2 l0,EX.load x2 l1,kW]
 have pB:=hv.mono (x1.trans x2)
 refine uk pB ?_
 intro h' x'
 have g':=x'.get g1
 refine wA g' (hk _ _ (((x1.trans x2).trans x').set x1.1 _) ⟨v,?_,?_⟩)
 ·have:(!decide (a<0)&&decide (0<a.natAbs))=decide (-a<0):=by
   by_cases h0:a<0
   ·rw [dh h0,bX (show ¬-a<0 by omega)];rfl
   ·by_cases h3:a=0
    ·subst h3;rfl
    ·rw [bX h0,dh (show 0<a.natAbs by omega),dh (show -a<0 by omega)];rfl
  rw [this]
 ·have:(-a).natAbs=a.natAbs:=by omega
  rw [this]
  exact (pB.mono x').dK g' _
theorem Kw {va vb:Value} {a b:Int} {h:ae} {K:Value->ae->Prop} (ha:fh h va a) (hb:fh h vb b) (la:a.natAbs<dN) (lb:b.natAbs<dN) (hk:∀r h',EX h h'->fh h' r (a+b)->K r h'):ay prog 61 [va,vb] h K:=by
 obtain ⟨v,rfl,hv⟩:=ha
 obtain ⟨w,rfl,hw⟩:=hb
 refine f61 ?_
 unfold M1
 refine FF ?_
 intro h3 x
 have ss:=hv.mono x.ex
 have ru:=hw.mono x.ex
 simp only [cj,add_zero,zero_add,ah,x.a0,x.a1,x.b0,x.b1,Cq,Bool.false_eq_true,if_false]
 refine um (λhe=>?_) λbY=>?_
 ·have hs:decide (a<0)=decide (b<0):=by simpa using he
  have mS:(a<0↔b<0):=by simpa using hs
  simp only [true_and]
  refine C85 ss ru la lb ?_
  intro u h4 x4 hu
  refine ⟨⟨EX.load x4 x.a0,trivial⟩,?_⟩
  refine uk hu ?_
  intro h5 x5
  have g':=(x4.trans x5).get x.out
  refine wA g' (hk _ _ (((x.ex.trans x4).trans x5).set (by omega) _) ⟨u,?_,?_⟩)
  ·have:(decide (a<0)&&decide (0<a.natAbs+b.natAbs))=decide (a+b<0):=by
    by_cases h0:a<0
    ·rw [dh h0,dh (show 0<a.natAbs+b.natAbs by omega),dh (show a+b<0 by omega)];rfl
    ·rw [bX h0,bX (show ¬a+b<0 by omega)];rfl
   rw [this]
  ·have:(a+b).natAbs=a.natAbs+b.natAbs:=by omega
   rw [this]
   exact (hu.mono x5).dK g' _
 ·have hs:decide (a<0)≠decide (b<0):=by simpa using bY
  have mS:¬(a<0↔b<0):=λh=>hs (decide_eq_decide.2 h)
  refine Kz ss ru la lb ?_
  simp only [om,ah,ca]
  refine ⟨λcJ=>?_,λaw=>?_⟩
  ·have hle:b.natAbs<=a.natAbs:=by
    apply byContradiction
    intro hc
    unfold oS at cJ
    rw [if_pos (by omega)] at cJ
    omega
   simp only [x.a0,x.a1,x.b1,ah,true_and]
   refine Wl ss ru la hle ?_
   intro u h4 x4 hu
   refine ⟨⟨EX.load x4 x.a0,trivial⟩,?_⟩
   refine uk hu ?_
   intro h5 x5
   have g':=(x4.trans x5).get x.out
   refine wA g' (hk _ _ (((x.ex.trans x4).trans x5).set (by omega) _) ⟨u,?_,?_⟩)
   ·have:(decide (a<0)&&decide (0<a.natAbs-b.natAbs))=decide (a+b<0):=by
     by_cases h0:a<0
     ·by_cases h6:0<a.natAbs-b.natAbs
      ·rw [dh h0,dh h6,dh (show a+b<0 by omega)];rfl
      ·rw [dh h0,bX h6,bX (show ¬a+b<0 by omega)];rfl
     ·rw [bX h0,bX (show ¬a+b<0 by omega)];rfl
    rw [this]
   ·have:(a+b).natAbs=a.natAbs-b.natAbs:=by omega
    rw [this]
    exact (hu.mono x5).dK g' _
  ·have hle:a.natAbs<=b.natAbs:=by
    apply byContradiction
    intro hc
    unfold oS at aw
    rw [if_neg (by omega),if_pos (by omega)] at aw
    omega
   simp only [x.b0,x.a1,x.b1,ah,true_and]
   refine Wl ru ss lb hle ?_
   intro u h4 x4 hu
   refine ⟨⟨EX.load x4 x.b0,trivial⟩,?_⟩
   refine uk hu ?_
   intro h5 x5
   have g':=(x4.trans x5).get x.out
   refine wA g' (hk _ _ (((x.ex.trans x4).trans x5).set (by omega) _) ⟨u,?_,?_⟩)
   ·have:(decide (b<0)&&decide (0<b.natAbs-a.natAbs))=decide (a+b<0):=by
     by_cases h0:b<0
     ·by_cases h6:0<b.natAbs-a.natAbs
      ·rw [dh h0,dh h6,dh (show a+b<0 by omega)];rfl
      ·rw [dh h0,bX h6,bX (show ¬a+b<0 by omega)];rfl
     ·rw [bX h0,bX (show ¬a+b<0 by omega)];rfl
    rw [this]
   ·have:(a+b).natAbs=b.natAbs-a.natAbs:=by omega
    rw [this]
    exact (hu.mono x5).dK g' _
theorem C92 {va vb:Value} {a b:Int} {h:ae} {K:Value->ae->Prop} (ha:fh h va a) (hb:fh h vb b) (la:a.natAbs<dN) (lb:b.natAbs<dN) (hk:∀r h',EX h h'->fh h' r (a-b)->K r h'):ay prog 92 [va,vb] h K:=by
 have ov:=ha
 have qf:=hb
 obtain ⟨v,rfl,hv⟩:=ha
 obtain ⟨w,rfl,hw⟩:=hb
 refine f92 ?_
 unfold Nv
 refine FF ?_
 intro h3 x
 simp only [ah,x.a2,x.b2,true_and]
 refine Wm (qf.mono x.ex) ?_
 intro r1 h4 x4 i1
 refine ⟨⟨EX.load x4 x.a2,trivial⟩,?_⟩
 refine Kw (ov.mono (x.ex.trans x4)) i1 la (by rw [Int.natAbs_neg];exact lb) ?_
 intro r2 h5 x5 i2
 have g':=(x4.trans x5).get x.out
 obtain ⟨u,rfl,hu⟩:=id i2
 refine wA g' (hk _ _ (((x.ex.trans x4).trans x5).set (by omega) _) ?_)
 rw [Int.sub_eq_add_neg]
 exact i2.dK g' _
theorem sP {va vb:Value} {a b:Int} {h:ae} {K:Value->ae->Prop} (ha:fh h va a) (hb:fh h vb b) (la:a.natAbs<dN) (lb:b.natAbs<dN) (hk:∀r h',EX h h'->fh h' r (a*b)->K r h'):ay prog 63 [va,vb] h K:=by
 obtain ⟨v,rfl,hv⟩:=ha
 obtain ⟨w,rfl,hw⟩:=hb
 refine f63 ?_
 unfold M4
 refine FF ?_
 intro h3 x
 have ss:=hv.mono x.ex
 have ru:=hw.mono x.ex
 simp only [cj,add_zero,zero_add,ah,x.a0,x.a1,x.b0,x.b1,Cq,if_true,true_and]
 refine C91 ss ru la lb ?_
 intro u h4 x4 hu
 refine ⟨⟨EX.load x4 x.a0,EX.load x4 x.b0,trivial⟩,?_⟩
 refine uk hu ?_
 intro h5 x5
 have g':=(x4.trans x5).get x.out
 refine wA g' (hk _ _ (((x.ex.trans x4).trans x5).set (by omega) _) ⟨u,?_,?_⟩)
 ·have:((!(decide (a<0)==decide (b<0)))&&decide (0<a.natAbs*b.natAbs))=decide (a*b<0):=by
   rcases Int.lt_trichotomy a 0 with h1 | h1 | h1
   ·rcases Int.lt_trichotomy b 0 with h2 | h2 | h2
    ·have:=Int.mul_pos_of_neg_of_neg h1 h2
     rw [dh h1,dh h2,bX (show ¬a*b<0 by omega)];rfl
    ·subst h2;simp
    ·have:=Int.mul_neg_of_neg_of_pos h1 h2
     have h3:0<a.natAbs*b.natAbs:=Nat.mul_pos (by omega) (by omega)
     rw [dh h1,bX (show ¬b<0 by omega),dh h3,dh this];rfl
   ·subst h1;simp
   ·rcases Int.lt_trichotomy b 0 with h2 | h2 | h2
    ·have:=Int.mul_neg_of_pos_of_neg h1 h2
     have h3:0<a.natAbs*b.natAbs:=Nat.mul_pos (by omega) (by omega)
     rw [bX (show ¬a<0 by omega),dh h2,dh h3,dh this];rfl
    ·subst h2;simp
    ·have:=Int.mul_pos h1 h2
     rw [bX (show ¬a<0 by omega),bX (show ¬b<0 by omega),bX (show ¬a*b<0 by omega)];rfl
  rw [this]
 ·rw [Int.natAbs_mul]
  exact (hu.mono x5).dK g' _
end
section
theorem JZ {r:Nat} (hr:r<4294967296):aj .shl (.int .u64 (r:Int)) (.int .u64 32)=some (.int .u64 ((r*4294967296:Nat):Int)):=by
 simp only [aj,rB]
 rw [if_neg (by omega)]
 have:(min (32:Int).toNat IntKind.u64.bits)=32:=rfl
 rw [this]
 have e2:(2:Int)^32=4294967296:=by decide
 rw [e2,lL (by omega) (by omega)]
 congr 2
theorem Jf {r x:Nat} (hr:r<4294967296) (hx:x<4294967296):aj .or (.int .u64 ((r*4294967296:Nat):Int)) (.int .u64 (x:Int))=some (.int .u64 ((r*4294967296+x:Nat):Int)):=by
 have e:(BitVec.ofInt IntKind.u64.bits ((r*4294967296:Nat):Int) ||| BitVec.ofInt IntKind.u64.bits (x:Int)).toNat=r*4294967296+x:=by
  show (BitVec.ofInt 64 ((r*4294967296:Nat):Int) ||| BitVec.ofInt 64 (x:Int)).toNat=_
  rw [BitVec.ofInt_natCast,BitVec.ofInt_natCast,BitVec.toNat_or,BitVec.toNat_ofNat,BitVec.toNat_ofNat,mod_eq_of_lt (by omega),mod_eq_of_lt (by omega)]
  have:=Nat.two_pow_add_eq_or_of_lt (i:=32) (b:=x) (by omega) r
  rw [Nat.mul_comm r]
  exact this.symm
 simp only [aj,jE,if_true]
 rw [e,lL (by omega) (by omega)]
theorem anj {a b:Nat} (hb:b≠0) (ha:a<18446744073709551616):aj .quo (.int .u64 (a:Int)) (.int .u64 (b:Int))=some (.int .u64 ((a / b:Nat):Int)):=by
 have h:¬((b:Int)=0):=by omega
 have h2:a / b<=a:=Nat.div_le_self _ _
 simp only [aj,jE,if_true,if_neg h]
 have e:(a:Int).tdiv (b:Int)=((a / b:Nat):Int):=rfl
 rw [e]
 generalize a / b=q at*
 rw [lL (by omega) (by omega)]
theorem VN {va:Value} {a w:Nat} {h:ae} {K:Value->ae->Prop} (ha:fm h va a) (la:a<dN) (w0:0<w) (wW:w<4294967296) (hk:∀v h',EX h h'->fm h' v (a / w)->K (.tuple #[v,.int .u32 ((a%w:Nat):Int)]) h'):
  ay prog 120 [va,.int .u32 (w:Int)] h K:=by
 obtain ⟨xs,hx,cx,rfl⟩:=ha
 have l1:=qc cx la
 have hW:(0:Nat)<4294967296:=by decide
 refine f120 ?_
 have e1:IntKind.wrap .i64 ((xs.length:Int)-1)=(xs.length:Int)-1:=by rw [wrap64 (by omega) (by omega)]
 simp only [LS,hx.len,ah,zm (show xs.length<=1000 by omega),aL,iD,e1]
 refine cN (σ:=Nat×Nat×List Nat) (λp=>[.int .u64 (p.1:Int),I ((p.2.1:Int)-1)]) (λp=>hd h p.2.2)
  (λp=>p.2.1<=xs.length/\p.1<w/\p.2.2.length=xs.length/\dF 4294967296 p.2.2/\val 4294967296 (xs.drop p.2.1)=w*val 4294967296 (p.2.2.drop p.2.1)+p.1) (λp=>p.2.1)
  (0,xs.length,replicate xs.length 0) rfl rfl ⟨le_refl _,w0,by simp,dF.wc hW _,by simp [val]⟩ ?_
 rintro ⟨r,i,os⟩ ⟨hi,hr,jt,gD,dD⟩ L hL
 simp only at hi hr jt gD dD hL⊢
 rw [aD2]
 have dM:=hx.mono (lE h os)
 simp only [om,ah,ca]
 refine ⟨λcJ=>?_,λaw=>?_⟩
 ·obtain ⟨j,rfl⟩:∃j,i=j+1:=⟨i-1,by omega⟩
  have ej:(((j+1:Nat):Int)-1)=(j:Int):=by omega
  rw [ej]
  obtain ⟨ia,a1,a2⟩:=dM.get (j:=j) (by omega)
  have iH:xs[j]'(by omega)<4294967296:=cx.1 _ (getElem_mem _)
  have hdx:xs.drop j=xs[j]'(by omega)::xs.drop (j+1):=drop_eq_getElem_cons (by omega)
  generalize xs[j]'(by omega)=x at a2 iH hdx
  simp only [JZ (show r<4294967296 by omega),ah,a1,a2,nU]
  rw [lL (n:=(x:Int)) (by omega) (by omega)]
  simp only [Jf (show r<4294967296 by omega) iH,ah]
  rw [lL (n:=(w:Int)) (by omega) (by omega)]
  have ht:r*4294967296+x<w*4294967296:=by omega
  have hq:(r*4294967296+x) / w<4294967296:=(Nat.div_lt_iff_lt_mul w0).2 (by omega)
  have hm:=mod_lt (r*4294967296+x) w0
  have mB:=Nat.div_add_mod (r*4294967296+x) w
  rw [anj (by omega) (by omega),zB _ _ _ (by omega)]
  generalize (r*4294967296+x) / w=q at*
  generalize (r*4294967296+x)%w=m at*
  simp only [ah,nU]
  rw [rL (n:=(q:Int)) (by omega) (by omega),jL (show j<xs.length by omega)]
  simp only [ah]
  rw [uT _ (by omega)]
  simp only [aL,iD,ah,true_and]
  rw [wrap64 (n:=(j:Int)-1) (by omega) (by omega)]
  refine hL (m,j,os.set j q) ⟨by show j<=xs.length;omega,hm,by show (os.set _ _).length=_;rw [length_set];exact jt,gD.set hq _,?_⟩ (by show j<j+1;omega)
  show val 4294967296 (xs.drop j)=w*val 4294967296 ((os.set j q).drop j)+m
  have hdo:(os.set j q).drop j=q::os.drop (j+1):=by
   rw [drop_eq_getElem_cons (by rw [length_set];omega),List.getElem_set_self,List.drop_set_of_lt (by omega)]
  rw [hdx,hdo]
  simp only [val]
  rw [dD]
  generalize val 4294967296 (os.drop (j+1))=Q at*
  generalize (4294967296:Nat)=W at*
  clear hL hx dM a1 a2 dD
  grind
 ·have:i=0:=by omega
  subst this
  rw [drop_zero,drop_zero] at dD
  rw [aD1]
  have e:sl 152 h.length 0 xs.length=sl 152 h.length 0 os.length:=by rw [jt]
  rw [e]
  refine sQ (yz h _) gD (by omega) ?_
  intro v' hm
  simp only [nU,ah]
  rw [rL (n:=(r:Int)) (by omega) (by omega)]
  have h1:val 4294967296 xs / w=val 4294967296 os:=by
   rw [dD,Nat.mul_add_div w0,Nat.div_eq_of_lt hr,add_zero]
  have h2:val 4294967296 xs%w=r:=by
   rw [dD,Nat.mul_add_mod,mod_eq_of_lt hr]
  have:=hk v' _ (lE h os) (by rw [h1];exact hm)
  rw [h2] at this
  exact this
theorem aos {h:ae} {id:Nat} {xs:List UInt8} {K:Value->ae->Prop} (dE:h[id]?=some (.arr 5 (xs.map cv))) (hn:xs.length<=100000) (hk:K (.tuple #[]) (hb h id xs.reverse)):ay prog 121 [sl 5 id 0 xs.length] h K:=by
 have iG:=(cm dE).1
 have e0:h=hb h id xs:=by
  apply List.ext_getElem?
  intro j
  by_cases hj:id=j
  ·subst hj;rw [H4 iG,dE]
  ·rw [getElem?_set_ne hj]
 refine f121 ?_
 have e1:aT (sl 5 id 0 xs.length)=some (I xs.length):=rfl
 have e2:IntKind.wrap .i64 ((xs.length:Int)-1)=(xs.length:Int)-1:=by rw [wrap64 (by omega) (by omega)]
 simp only [LU,e1,ah,iD,e2]
 refine cN (σ:=Nat×List UInt8) (λp=>[I p.1,I ((xs.length:Int)-1-p.1)]) (λp=>hb h id p.2) (λp=>p.1<=xs.length/\p.2.length=xs.length/\∀k (hk:k<p.2.length) (qV:k<xs.length),p.2[k]=if k<p.1∨xs.length-p.1<=k then xs[xs.length-1-k]'(by omega) else xs[k]) (λp=>xs.length-p.1)
  (0,xs) (by simp) e0.symm ⟨by simp,rfl,λk h1 h2=>by simp;intro h3;omega⟩ ?_
 rintro ⟨i,ys⟩ ⟨hi,hl,hy⟩ L hL
 simp only at hi hl hy hL⊢
 rw [aD3]
 simp only [bW,ah,ca]
 refine ⟨λaw=>?_,λcJ=>?_⟩
 ·obtain ⟨j,hj⟩:∃j:Nat,(xs.length:Int)-1-i=j:=⟨xs.length-1-i,by omega⟩
  rw [hj]
  have kQ:j=xs.length-1-i:=by omega
  have a1:=jL (id:=id) (e:=5) (n:=xs.length) (j:=j) (by omega)
  have a2:=jL (id:=id) (e:=5) (n:=xs.length) (j:=i) (by omega)
  have g1:ys[j]?=some (ys[j]'(by omega)):=List.getElem?_eq_getElem (by omega)
  have g2:ys[i]?=some (ys[i]'(by omega)):=List.getElem?_eq_getElem (by omega)
  simp only [a1,a2,ah,aeg iG g1,aeg iG g2,true_and]
  rw [aeh iG _ (by omega)]
  simp only [aL]
  rw [aeh iG _ (by rw [length_set];omega)]
  simp only [aL,b7,iD,ah,inc i (by omega)]
  have ej:IntKind.wrap .i64 ((j:Int)-1)=(xs.length:Int)-1-((i+1:Nat):Int):=by rw [wrap64 (by omega) (by omega)];omega
  rw [ej]
  refine hL (i+1,(ys.set i (ys[j]'(by omega))).set j (ys[i]'(by omega))) ⟨by show i+1<=xs.length;omega,by simp [hl],?_⟩ (by show xs.length-(i+1)<xs.length-i;omega)
  intro k fC qV
  show ((ys.set i (ys[j]'(by omega))).set j (ys[i]'(by omega)))[k]=if k<i+1∨xs.length-(i+1)<=k then xs[xs.length-1-k]'(by omega) else xs[k]
  have hyi:=hy i (by omega) (by omega)
  have hyj:=hy j (by omega) (by omega)
  rw [if_neg (by omega)] at hyi hyj
  by_cases lT:j=k
  ·subst lT
   rw [List.getElem_set_self,if_pos (by omega),hyi]
   congr 1;omega
  ·rw [getElem_set_ne lT]
   by_cases mD:i=k
   ·subst mD
    rw [List.getElem_set_self,if_pos (by omega),hyj]
    congr 1
   ·rw [getElem_set_ne mD,hy k (by omega) qV]
    by_cases hc:k<i∨xs.length-i<=k
    ·rw [if_pos hc,if_pos (by omega)]
    ·rw [if_neg hc,if_neg (by omega)]
 ·have:ys=xs.reverse:=by
   apply List.ext_getElem (by simp [hl])
   intro k h1 h2
   rw [hy k h1 (by omega),List.getElem_reverse]
   split
   ·rfl
   ·congr 1;omega
  rw [this]
  exact hk
def tf (n:Nat):List Nat:=if h:n=0 then [] else n%10::tf (n / 10)
termination_by n
decreasing_by omega
theorem Hu (n:Nat):eL 10 (tf n)/\val 10 (tf n)=n:=by
 induction n using Nat.strongRecOn with
 | ind n ih=>
  rw [tf]
  by_cases h:n=0
  ·subst h;exact ⟨eL.nil 10,rfl⟩
  ·rw [dif_neg h]
   obtain ⟨h1,h2⟩:=ih (n / 10) (by omega)
   refine ⟨⟨?_,?_⟩,?_⟩
   ·intro x hx
    rcases List.mem_cons.1 hx with rfl | hx
    ·omega
    ·exact h1.1 x hx
   ·cases hd:tf (n / 10) with
    | nil=>
     rw [hd] at h2
     simp [val] at h2
     simp
     omega
    | cons y ys=>
     rw [List.getLast?_cons_cons,<-hd]
     exact h1.2
   ·simp only [val,h2];omega
def jN (d:Nat):UInt8:=UInt8.ofNat (48+d)
theorem uJ {d:Nat} (h:d<10):(jN d).toNat=48+d:=by simp [jN,UInt8.toNat_ofNat'];omega
def jO (n:Nat):List UInt8:=if n=0 then [48] else ((tf n).map jN).reverse
def IG:Nat:=1000
theorem Yi:dN<=10^IG:=by decide+kernel
end
section
theorem Ck {d:Nat} (h:d<10):(.int .u8 ((48+d:Nat):Int):Value)=cv (jN d):=by rw [cv,uJ h]
theorem aDC (k:Nat):0<10^k:=Nat.pow_pos (by decide)
theorem af4 {b n m:Nat} (hm:0<m) (h:10^b*m<=n) (hn:n<dN):b<1000:=by
 have h1:10^b<=10^b*m:=Nat.le_mul_of_pos_right _ hm
 show b<IG
 have h2:10^b<10^IG:=Nat.lt_of_le_of_lt (Nat.le_trans h1 h) (Nat.lt_of_lt_of_le hn Yi)
 exact (Nat.pow_lt_pow_iff_right (by decide)).1 h2
theorem aug {h0 hx:ae} {v z:Value} {x:UInt8} {bs:List UInt8} {K:Value->ae->Prop} (o:gA h0.length hx 5 v (bs.map cv)) (hex:EX h0 hx) (hl:bs.length<=100000)
  (hk:∀v' dM,EX h0 dM->gA h0.length dM 5 v' ((bs++[x]).map cv)->(∀q n,fm hx q n->fm dM q n)->K v' dM):
  OH (cH 5 1 [z] hx [(0,1,cv x)]) λa h2=>OH (cT 5 1 1 h2 v a) K:=by
 refine BV o (by simp;omega) (by simp [maxLen];omega) rfl rfl ?_
 intro hA dM _ hlen Ij kL
 simp only [aL]
 refine hk _ _ ⟨by have:=hex.1;omega,λj hj=>?_⟩ (.inr ⟨hx.length+1,by have:=hex.1;omega,by simp,by simpa using kL⟩) ?_
 ·rw [Ij j (by have:=hex.1;omega) λn hv=>?_]
  ·exact hex.2 j hj
  ·have:=(o.lt hv).1;omega
 ·rintro q n ⟨xs,d,c,hv⟩
  refine ⟨xs,?_,c,hv⟩
  rcases d with d | ⟨i,h1,h2⟩
  ·exact .inl d
  ·refine .inr ⟨i,h1,?_⟩
   rcases h2 with h2 | ⟨r,h2⟩
   ·exact .inl h2
   ·cases xs with
    | nil=>exact .inl rfl
    | cons y ys=>
     right
     refine ⟨r,?_⟩
     have gS:i<hx.length:=by
      apply byContradiction
      intro hc
      unfold bw at h2
      rw [List.getElem?_eq_none (by omega)] at h2
      simp at h2
     unfold bw at h2⊢
     rw [Ij i gS λn yR=>?_]
     ·exact h2
     ·have hg:=(o.lt yR).2.2
      rw [hg] at h2
      cases bs with
      | nil=>simp at h2
      | cons b bs=>simp [cv] at h2
theorem C81 {va:Value} {n:Nat} {h:ae} {K:Value->ae->Prop} (ha:fm h va n) (la:n<dN) (hk:∀h',EX h h'->K (S (jO n)) h'):ay prog 81 [va] h K:=by
 refine f81 ?_
 obtain ⟨l0,e0,e1⟩:=ha.sC
 simp only [Nk,e0,ah,jB,ca]
 refine ⟨λhz=>?_,λhnz=>?_⟩
 ·have:n=0:=by omega
  subst this
  exact hk h (EX.refl h)
 ·have oB:0<n:=by omega
  refine cN (σ:=Value×Nat×Value×List Nat×ae) (λp=>[p.1,p.2.2.1]) (λp=>p.2.2.2.2)
   (λp=>EX h p.2.2.2.2/\fm p.2.2.2.2 p.1 p.2.1/\gA h.length p.2.2.2.2 5 p.2.2.1 ((p.2.2.2.1.map jN).map cv)/\dF 10 p.2.2.2.1/\val 10 p.2.2.2.1+10^p.2.2.2.1.length*p.2.1=n/\(p.2.1=0->eL 10 p.2.2.2.1)) (λp=>p.2.1)
   (va,n,.slice none 0 0,[],h) rfl rfl ⟨EX.refl h,ha,.inl ⟨rfl,rfl⟩,λx hx=>by simp at hx,by simp [val],λh0=>by have h0:n=0:=h0;omega⟩ ?_
  rintro ⟨v,m,bv,b,hx⟩ ⟨hex,hm,nE,gD,dD,yw⟩ L hL
  simp only at hex hm nE gD dD yw hL⊢
  rw [aIF]
  obtain ⟨l,f0,f1⟩:=hm.sC
  simp only [f0,ah,gY,ca]
  refine ⟨λaw=>?_,λcJ=>?_⟩
  ·have nC:0<m:=by omega
   have hmb:m<dN:=by
    refine Nat.lt_of_le_of_lt ?_ la
    have:m<=10^b.length*m:=Nat.le_mul_of_pos_left _ (aDC _)
    omega
   have CD:=af4 (b:=b.length) nC (by omega) la
   refine VN hm hmb (w:=1000000000) (by decide) (by decide) ?_
   intro q h1 x1 hq
   simp only [fM,gi,gj,ah]
   have aBk:gA h.length h1 5 bv ((b.map jN).map cv):=nE.iu λd k hv hd=>by
    have:=(nE.lt hv).2.1
    exact x1.2 d this
   have aBp:m / 1000000000<m:=Nat.div_lt_self nC (by decide)
   have mB:=Nat.div_add_mod m 1000000000
   have hr9:=mod_lt m (show 1000000000>0 by decide)
   generalize m / 1000000000=qn at*
   generalize m%1000000000=r0 at*
   have hqq:=hq
   refine cN (σ:=Value×List Nat×Nat×Nat×ae) (λp=>[p.1,.int .u32 (p.2.2.1:Int),I p.2.2.2.1]) (λp=>p.2.2.2.2)
    (λp=>EX h p.2.2.2.2/\fm p.2.2.2.2 q qn/\gA h.length p.2.2.2.2 5 p.1 ((p.2.1.map jN).map cv)/\dF 10 p.2.1/\p.2.2.2.1<=9/\p.2.2.1<10^(9-p.2.2.2.1)/\p.2.1.length<=b.length+p.2.2.2.1/\val 10 p.2.1+10^p.2.1.length*(p.2.2.1+10^(9-p.2.2.2.1)*qn)=n/\(qn=0->p.2.2.1=0->eL 10 p.2.1)) (λp=>9-p.2.2.2.1)
    (bv,b,r0,0,h1) rfl rfl ⟨hex.trans x1,hq,aBk,gD,by simp,by simpa using hr9,by simp,?_,?_⟩ ?_
   ·show val 10 b+10^b.length*(r0+10^(9-0)*qn)=n
    have:r0+10^(9-0)*qn=m:=by
     show r0+1000000000*qn=m
     omega
    rw [this];exact dD
   ·intro h1 h2
    have h1:qn=0:=h1
    have h2:r0=0:=h2
    subst h1;subst h2
    omega
   rintro ⟨Hs,c,r,i,hy⟩ ⟨P2,Ir,Qs,Ik,hi,hr,gM,Dd,PX⟩ L2 dO
   simp only at P2 Ir Qs Ik hi hr gM Dd PX dO⊢
   rw [aIC]
   -- leaving
   have stop:r=0->(i=9∨qn=0)->JA prog K Hs q L hy:=by
    intro sk tM
    rw [aID]
    refine ⟨rfl,hL (q,qn,Hs,c,hy) ⟨P2,Ir,Qs,Ik,?_,λh0=>PX h0 sk⟩ aBp⟩
    show val 10 c+10^c.length*qn=n
    rw [sk,zero_add] at Dd
    rcases tM with h9 | h0
    ·subst h9;simpa using Dd
    ·subst h0;simpa using Dd
   simp only [bW,ah]
   by_cases hi9:i<9
   ·rw [dh (show (i:Int)<9 by omega)]
    simp only [anf,gK]
    obtain ⟨l2,g0,g1⟩:=Ir.sC
    simp only [g0,ah,gY]
    -- one Hv more
    have step:(0<qn∨0<r)->aJ (B true)
      (OP (aj .rem (.int .u32 (r:Int)) (.int .u32 (10))) λbZ=>
      OP (aj .add (.int .u32 (48)) bZ) λcA=>
      OP (dI .u8 cA) λcB=>
      OH (cH 5 1 [(.int .u8 (0))] hy [(0,1,cB)]) λaY h_1=>
      OH (cT 5 1 1 h_1 Hs aY) λbG h_2=>
      OP (aj .quo (.int .u32 (r:Int)) (.int .u32 (10))) λdW=>
      OP (aj .add (I i) (.int .i64 (1))) λaV=>
      True/\L2 [bG,dW,aV] h_2)
      (JA prog K Hs q L hy):=by
     intro tM
     have hrW:r<4294967296:=Nat.lt_of_lt_of_le hr (Nat.le_trans (Nat.pow_le_pow_right (by decide) (show 9-i<=9 by omega)) (by decide))
     have ed:IntKind.wrap .u32 ((48:Int)+((r%10:Nat):Int))=((48+r%10:Nat):Int):=by rw [rL (by omega) (by omega)];omega
     have az9:aj .quo (.int .u32 (r:Int)) (.int .u32 10)=some (.int .u32 ((r / 10:Nat):Int)):=by
      have h10:¬((10:Int)=0):=by omega
      simp only [aj,jE,if_true,if_neg h10]
      have e:(r:Int).tdiv 10=((r / 10:Nat):Int):=rfl
      rw [e,rL (by omega) (by omega)]
     simp only [gf]
     rw [show (.int .u32 10:Value)=.int .u32 ((10:Nat):Int) from rfl,zB _ _ _ (by decide)]
     simp only [ah,b7,ed,nU]
     rw [an2 (by omega) (by omega),Ck (show r%10<10 by omega)]
     refine aug (x:=jN (r%10)) Qs P2 (by simp;omega) ?_
     intro v' dM aAS CU Ij
     rw [show (.int .u32 ((10:Nat):Int):Value)=.int .u32 10 from rfl,az9]
     simp only [ah,inc i (by omega),true_and]
     have jX:fm dM q qn:=Ij q qn Ir
     refine dO (v',c++[r%10],r / 10,i+1,dM) ⟨aAS,jX,by simpa using CU,Ik.append (λx hx=>by simp at hx;omega),by show i+1<=9;omega,?_,by show (c++[r%10]).length<=b.length+(i+1);simp;omega,?_,?_⟩ (by show 9-(i+1)<9-i;omega)
     ·show r / 10<10^(9-(i+1))
      rw [show 9-i=(9-(i+1))+1 by omega,pow_succ] at hr
      exact (Nat.div_lt_iff_lt_mul (by decide)).2 hr
     ·show val 10 (c++[r%10])+10^(c++[r%10]).length*(r / 10+10^(9-(i+1))*qn)=n
      rw [oT,List.length_append,List.length_singleton,pow_succ]
      rw [show 9-i=(9-(i+1))+1 by omega,pow_succ] at Dd
      have mB:=Nat.div_add_mod r 10
      simp only [val,Nat.mul_zero,add_zero]
      generalize r / 10=r1 at*
      generalize r%10=d at*
      generalize 10^c.length=P at*
      generalize 10^(9-(i+1))=Q at*
      generalize val 10 c=V at*
      clear hL dO hr PX dD stop
      subst mB
      grind
     ·intro h1 h2
      have h2:r / 10=0:=h2
      refine Hf (Ik.append (λx hx=>by simp at hx;omega)) ?_
      intro _
      have:0<r:=by rcases tM with h | h;omega;exact h
      simp
      omega
    by_cases Qx:0<qn
    ·rw [dh (show (0:Int)<(l2:Int) by omega)]
     simp only [UB,o0,JQ,fy,ah,gK,JR]
     exact step (.inl Qx)
    ·rw [bX (show ¬(0:Int)<(l2:Int) by omega)]
     simp only [UB,fc,gY,ah]
     by_cases sk:0<r
     ·rw [dh (show (0:Int)<(r:Int) by omega)]
      simp only [JQ,gK,dA,ah,JR,fy]
      exact step (.inr sk)
     ·rw [bX (show ¬(0:Int)<(r:Int) by omega)]
      simp only [JQ,gK,dA,ah,JR,fy,dm]
      exact stop (by omega) (.inr (by omega))
   ·have:i=9:=by omega
    subst this
    rw [bX (show ¬((9:Nat):Int)<9 by omega)]
    simp only [anf,jd,UB,BI,JQ,JR,dA,ah,dm]
    exact stop (by simpa using hr) (.inl rfl)
  ·have nC:m=0:=by omega
   subst nC
   have hc:=yw rfl
   rw [Nat.mul_zero,add_zero] at dD
   have hb:b=tf n:=eL.unique (by decide) hc (Hu n).1 (by rw [dD,(Hu n).2])
   have aek:b≠[]:=by rintro rfl;simp [val] at dD;omega
   have CD:b.length<=2000:=by
    have h1:=eL.low (by decide) hc aek
    have h2:=af4 (b:=b.length-1) (m:=1) (n:=n) (by decide) (by omega) la
    omega
   rw [aIE]
   obtain ⟨id,iG,hv,hg⟩:∃id,h.length<=id/\bv=sl 5 id 0 (b.map jN).length/\hx[id]?=some (.arr 5 ((b.map jN).map cv)):=by
    rcases nE with ⟨_,h0⟩ | ⟨id,h1,h2,h3⟩
    ·exact absurd (by simpa using h0) aek
    ·exact ⟨id,h1,by simpa using h2,h3⟩
   rw [hv]
   refine aos hg (by simp;omega) ?_
   have aA3:=(cm hg).1
   have b2:ry (Go.Proofs.YtncaiogfjjepcaaGreat.hb hx id (b.map jN).reverse) (sl 5 id 0 (b.map jN).length)=some (S (b.map jN).reverse):=by
    refine xR (b:=0) (e:=5) (l:=(b.map jN).reverse) (.inr ⟨id,zero_le _,by simp,?_⟩)
    rw [H4 aA3]
   simp only [b2,ah]
   have:(b.map jN).reverse=jO n:=by unfold jO;rw [if_neg (by omega),hb]
   rw [this]
   exact hk _ (hex.set iG _)
end
section
variable (P : Program) (K : VK)
noncomputable section
variable (x0 q1 y5 aC aZ : Value) (h : ae)
def ahi:=cg prog 17 [[],[],[0,5,13],[13,16],[]]
@[irreducible] def Gb:=cD ahi
@[irreducible] def Zl:=Gb.r.r.l.r.l
@[irreducible] def avH:=Gb.r.r.r
@[irreducible] def avI:=Zl.r.l
theorem k17:ahi=some (18,Gb,[.tmp 4]):=by kernel_rfl
def WS (_P:Program) (K:VK):ax:=aW [.tmp 4] K
def WT:ax:=aH (au P avH (WS P K)) (WS P K)
def ajy:Prop:=aA (au P Zl (WT P K)) [0,5,13] [x0,y5,aC] h
def St:Prop:=aA (au P avI (WT P K)) [13,16] [aC,aZ] h
theorem aER:St P K aC aZ h=
 (OP (bu aC aZ (.bool false)) λbM=>
 K bM h):=aB (by kernel_rfl)
theorem aEQ:ajy P K x0 y5 aC h=
 (bO aC true
 (OP (aj .eql x0 y5) λaZ=>
 St P K aC aZ h)
 (St P K aC undef h)):=aB (by kernel_rfl)
def Mj:Prop:=
 OH (cR 57 h q1) λq3 z1=>
 OP (af true 4 z1 q3) λx8=>
 ay P 40 [x8] z1 λx9 z2=>
 OP (cW 0 x9) λaE=>
 OP (cW 1 x9) λaG=>
 ajy P K x0 aE aG z2
theorem e17:au P Gb (aW [.tmp 4] K) (cd [x0,q1]) h=Mj P K x0 q1 h:=by kernel_rfl
theorem f17 {K:VK} {x0 q1:Value} {h:ae} (H:Mj prog K x0 q1 h):ay prog 17 [x0,q1] h K:=
 cC k17 (cE rfl) ((e17 prog K x0 q1 h).mpr H)
end
noncomputable section
variable (v0 : Value) (h : ae)
def ahj:=cg prog 18 [[],[]]
@[irreducible] def Zm:=cD ahj
theorem k18:ahj=some (7,Zm,[.cell true 4 2]):=by kernel_rfl
def Mk:Prop:=
 OH (cF 57 [(.bool false),(.slice none 0 0),(.bool false),(.slice none 0 0)] h) λx2 z1=>
 ay P 41 [v0] z1 λx4 z2=>
 ay P 41 [(.int .i64 (1))] z2 λx5 z3=>
 OP (eG [(.bool false),(.slice none 0 0),(.bool false),(.slice none 0 0)] [(0,2,x4),(2,2,x5)]) λx6=>
 OH (aU 4 z3 x2 x6) λ_ z4=>
 OP (af true 4 z4 x2) λr0=>
 K r0 z4
theorem e18:au P Zm (aW [.cell true 4 2] K) (cd [v0]) h=Mk P K v0 h:=by kernel_rfl
theorem f18 {K:VK} {v0:Value} {h:ae} (H:Mk prog K v0 h):ay prog 18 [v0] h K:=
 cC k18 (cE rfl) ((e18 prog K v0 h).mpr H)
end
noncomputable section
variable (q0 q1 s4 d5 bA aS : Value) (h : ae)
def ahG:=cg prog 40 [[],[],[],[1,4,5,18],[1,4,5,18,21],[],[],[],[],[4,5],[],[4],[]]
@[irreducible] def B7:=cD ahG
@[irreducible] def abb:=B7.r.r.r.l.l.r.l
@[irreducible] def aw7:=B7.r.r.r.l.r
@[irreducible] def aba:=B7.r.r.r.r
@[irreducible] def aw8:=abb.r.l
@[irreducible] def aa9:=aba.r.l
@[irreducible] def aw6:=aa9.r.l
theorem k40:ahG=some (35,B7,[.tmp 2,.tmp 3]):=by kernel_rfl
def E6 (_P:Program) (K:VK):ax:=aW [.tmp 2,.tmp 3] K
def Xs:ax:=aH (au P aba (E6 P K)) (E6 P K)
def Xt:ax:=aH (au P aw7 (Xs P K)) (Xs P K)
def ak2:Prop:=aA (au P abb (Xt P K)) [1,4,5,18] [q1,s4,d5,bA] h
def Tq:Prop:=aA (au P aw8 (Xt P K)) [1,4,5,18,21] [q1,s4,d5,bA,aS] h
def Jr:Prop:=aA (au P aa9 (E6 P K)) [4,5] [s4,d5] h
def Tp:Prop:=aA (au P aw6 (E6 P K)) [4] [s4] h
theorem aHd:Tq P K q1 s4 d5 bA aS h=
 (OP (bu bA (.bool true) aS) λbL=>
 aJ bL
 (K (.tuple #[(.string ⟨#[]⟩),(.bool false)]) h)
 (OP (aF 0 q1) λbB=>
 OP (aF 0 bB) λbm=>
 OP (af false 1 h bm) λbH=>
 aJ bH
 (OP (aj .add (.string ⟨#[45]⟩) s4) λbQ=>
 Jr P K bQ d5 h)
 (Jr P K s4 d5 h))):=aB (by kernel_rfl)
theorem aHc:ak2 P K q1 s4 d5 bA h=
 (bO bA false
 (OP (wU d5) λaI=>
 OP (aj .gtr aI (.int .i64 (4000))) λaS=>
 Tq P K q1 s4 d5 bA aS h)
 (Tq P K q1 s4 d5 bA undef h)):=aB (by kernel_rfl)
theorem aHb:Tp P K s4 h=
 (K (.tuple #[s4,(.bool true)]) h):=aB (by kernel_rfl)
theorem aHa:Jr P K s4 d5 h=
 (OP (aj .neq d5 (.string ⟨#[49]⟩)) λb9=>
 aJ b9
 (OP (aj .add (.string ⟨#[47]⟩) d5) λdJ=>
 OP (aj .add s4 dJ) λbZ=>
 Tp P K bZ h)
 (Tp P K s4 h)):=aB (by kernel_rfl)
def MG:Prop:=
 OH (cR 57 h q0) λq1 z1=>
 OP (af true 4 z1 q1) λx6=>
 ay P 68 [x6] z1 λx7 z2=>
 OH (aU 4 z2 q1 x7) λ_ z3=>
 OP (aF 0 q1) λx8=>
 OP (af true 2 z3 x8) λx9=>
 (True)/\
 ay P 70 [x9] z3 λaE z4=>
 (True)/\
 ay P 69 [aE] z4 λaG z5=>
 (True)/\
 OP (aF 2 q1) λaM=>
 OP (af true 2 z5 aM) λaC=>
 (af true 2 z3 aM=some aC/\af true 2 z4 aM=some aC/\True)/\
 ay P 69 [aC] z5 λaP z6=>
 (True)/\
 OP (wU aG) λaZ=>
 OP (aj .gtr aZ (.int .i64 (4000))) λbM=>
 ak2 P K q1 aG aP bM z6
theorem e40:au P B7 (aW [.tmp 2,.tmp 3] K) (cd [q0]) h=MG P K q0 h:=by kernel_rfl
theorem f40 {K:VK} {q0:Value} {h:ae} (H:MG prog K q0 h):ay prog 40 [q0] h K:=
 cC k40 (cE rfl) ((e40 prog K q0 h).mpr H)
end
noncomputable section
variable (v0 x2 z3 d4 : Value) (L1 : LQ) (xs : List Value) (h : ae)
def ahH:=cg prog 41 [[],[],[2,3],[0],[],[],[],[],[0,2,3,4],[],[2,3],[]]
@[irreducible] def GB:=cD ahH
@[irreducible] def abd:=GB.r.r.l.l.l
@[irreducible] def abc:=GB.r.r.r
@[irreducible] def aw9:=abd.r.l.r.r.l
@[irreducible] def axa:=abc.l
theorem k41:ahH=some (25,GB,[.cell true 2 2]):=by kernel_rfl
def La (_P:Program) (K:VK):ax:=aW [.cell true 2 2] K
def arW:ax:=aH (au P abc (La P K)) (La P K)
def arX:ax:=bC 0 (arW P K)
def Xu:ax:=aH (λf' aQ=>(([2,3]:List Nat).map f':List Value)=[x2,z3]/\L1 (([0]:List Nat).map f') aQ) (arX P K)
def arY:ax:=bC 1 (Xu P K x2 z3 L1)
def ak4:Prop:=aA (au P abd (Xu P K x2 z3 L1)) ([2,3]++[0]) ([x2,z3]++xs) h
def Js:Prop:=aA (au P aw9 (arY P K x2 z3 L1)) [0,2,3,4] [v0,x2,z3,d4] h
def ak3:Prop:=aA (au P axa (La P K)) [2,3] [x2,z3] h
theorem aHe:Js P K v0 x2 z3 d4 L1 h=
 (OP (aF 1 z3) λaZ=>
 OP (af false 1 h aZ) λbM=>
 OH (cH 3 1 [(.int .i64 (0))] h [(0,1,d4)]) λaR h_1=>
 OH (cT 3 1 8 h_1 bM aR) λaI h_2=>
 OP (aF 1 z3) λaS=>
 OH (aU 1 h_2 aS aI) λ_ h_3=>
 OP (aj .quo v0 (.int .i64 (10000))) λbB=>
 ([x2,z3]:List Value)=[x2,z3]/\L1 [bB] h_3):=aB (by kernel_rfl)
theorem aHg (x2 z3:Value) (L1:LQ) (v0:Value) (h:ae):ak4 P K x2 z3 L1 [v0] h=
 (OP (aj .neq v0 (.int .i64 (0))) λx9=>
 aJ x9
 (OP (aj .rem v0 (.int .i64 (10000))) λaG=>
 OP (aj .lss aG (.int .i64 (0))) λaC=>
 aJ aC
 (OP (gE .neg aG) λaX=>
 Js P K v0 x2 z3 aX L1 h)
 (Js P K v0 x2 z3 aG L1 h))
 (ak3 P K x2 z3 h)):=aB (by kernel_rfl)
theorem aHf:ak3 P K x2 z3 h=
 (OP (af true 2 h z3) λbm=>
 OH (aU 2 h x2 bm) λ_ h_1=>
 OP (af true 2 h_1 x2) λr0=>
 K r0 h_1):=aB (by kernel_rfl)
def MH:Prop:=
 OH (cF 55 [(.bool false),(.slice none 0 0)] h) λx2 h_1=>
 OP (aj .lss v0 (.int .i64 (0))) λx6=>
 OP (eG [(.bool false),(.slice none 0 0)] [(0,1,x6)]) λx7=>
 OH (cF 55 [(.bool false),(.slice none 0 0)] h_1) λz3 h_2=>
 OH (aU 2 h_2 z3 x7) λ_ h_3=>
 bT [v0] h_3 λL1 xs hx=>
 ak4 P K x2 z3 L1 xs hx
theorem e41:au P GB (aW [.cell true 2 2] K) (cd [v0]) h=MH P K v0 h:=by kernel_rfl
theorem f41 {K:VK} {v0:Value} {h:ae} (H:MH prog K v0 h):ay prog 41 [v0] h K:=
 cC k41 (cE rfl) ((e41 prog K v0 h).mpr H)
end
noncomputable section
variable (q0 : Value) (h : ae)
def ah8:=cg prog 68 [[],[],[],[],[]]
@[irreducible] def c68:=cD ah8
theorem k68:ah8=some (30,c68,[.cell true 4 2]):=by kernel_rfl
def M9:Prop:=
 OH (cR 57 h q0) λq1 z1=>
 OH (cF 57 [(.bool false),(.slice none 0 0),(.bool false),(.slice none 0 0)] z1) λx2 z2=>
 OP (aF 0 q1) λx8=>
 OP (af true 2 z2 x8) λx9=>
 OP (aF 2 q1) λaE=>
 OP (af true 2 z2 aE) λaG=>
 ay P 95 [x9,aG] z2 λaM z3=>
 OH (cF 55 [(.bool false),(.slice none 0 0)] z3) λg3 z4=>
 OH (aU 2 z4 g3 aM) λ_ z5=>
 OP (aF 0 q1) λaP=>
 OP (af true 2 z5 aP) λaX=>
 OP (af true 2 z5 g3) λaZ=>
 ay P 96 [aX,aZ] z5 λbM z6=>
 OP (cW 0 bM) λbA=>
 OP (cW 1 bM) λaR=>
 OH (cF 55 [(.bool false),(.slice none 0 0)] z6) λn4 z7=>
 OH (cF 55 [(.bool false),(.slice none 0 0)] z7) λx5 z8=>
 OH (aU 2 z8 n4 bA) λ_ z9=>
 OH (aU 2 z9 x5 aR) λ_ qK=>
 OP (aF 2 q1) λaS=>
 OP (af true 2 qK aS) λbL=>
 OP (af true 2 qK g3) λbB=>
 ay P 96 [bL,bB] qK λbm zW=>
 OP (cW 0 bm) λbH=>
 OP (cW 1 bm) λbP=>
 OH (cF 55 [(.bool false),(.slice none 0 0)] zW) λd6 z12=>
 OH (cF 55 [(.bool false),(.slice none 0 0)] z12) λx7 VD=>
 OH (aU 2 VD d6 bH) λ_ VE=>
 OH (aU 2 VE x7 bP) λ_ zX=>
 OP (af true 2 zX n4) λbQ=>
 OP (af true 2 zX d6) λcL=>
 OP (eG [(.bool false),(.slice none 0 0),(.bool false),(.slice none 0 0)] [(0,2,bQ),(2,2,cL)]) λb9=>
 OH (aU 4 zX x2 b9) λ_ Ex=>
 OP (af true 4 Ex x2) λr0=>
 K r0 Ex
theorem e68:au P c68 (aW [.cell true 4 2] K) (cd [q0]) h=M9 P K q0 h:=by kernel_rfl
theorem f68 {K:VK} {q0:Value} {h:ae} (H:M9 prog K q0 h):ay prog 68 [q0] h K:=
 cC k68 (cE rfl) ((e68 prog K q0 h).mpr H)
end
noncomputable section
variable (z0 z1 s3 i4 : Value) (L1 : LQ) (xs : List Value) (h : ae)
def ah9:=cg prog 69 [[],[],[],[],[],[],[1],[3,4],[],[],[],[],[],[3],[],[3],[],[],[3],[]]
@[irreducible] def GR:=cD ah9
@[irreducible] def axZ:=GR.r.r.r.l.r.l.l
@[irreducible] def aca:=GR.r.r.r.r
@[irreducible] def OJ:=aca.l
@[irreducible] def axX:=OJ.l.l.l
@[irreducible] def ab9:=OJ.r
@[irreducible] def axY:=ab9.l
theorem k69:ah9=some (53,GR,[.tmp 2]):=by kernel_rfl
def An (_P:Program) (K:VK):ax:=aW [.tmp 2] K
def as5:ax:=aH (au P aca (An P K)) (An P K)
def as6:ax:=bC 0 (as5 P K)
def as7:ax:=aH (λf' aQ=>(([1]:List Nat).map f':List Value)=[z1]/\L1 (([3,4]:List Nat).map f') aQ) (as6 P K)
def as2:ax:=aH (au P ab9 (An P K)) (An P K)
def as3:ax:=bC 2 (as2 P K)
def as4:ax:=aH (λf' aQ=>(([]:List Nat).map f':List Value)=[]/\L1 (([3]:List Nat).map f') aQ) (as3 P K)
def alM:Prop:=aA (au P axZ (as7 P K z1 L1)) ([1]++[3,4]) ([z1]++xs) h
def alJ:Prop:=aA (au P OJ (An P K)) [3] [s3] h
def alK:Prop:=aA (au P axX (as4 P K L1)) ([]++[3]) ([]++xs) h
def alL:Prop:=aA (au P axY (An P K)) [3] [s3] h
theorem aIg (z1:Value) (L1:LQ) (s3 i4:Value) (h:ae):alM P K z1 L1 [s3,i4] h=
 (OP (aj .geq i4 (.int .i64 (0))) λaZ=>
 aJ aZ
 (OP (aF 1 z1) λaR=>
 OP (af false 1 h aR) λaI=>
 OP (aD 1 aI i4) λbL=>
 OP (af false 1 h bL) λbB=>
 OP (aj .quo bB (.int .i64 (1000))) λbH=>
 OP (aj .add (.int .i64 (48)) bH) λbP=>
 OP (dI .u8 bP) λbQ=>
 OP (aj .quo bB (.int .i64 (100))) λb9=>
 OP (aj .rem b9 (.int .i64 (10))) λaV=>
 OP (aj .add (.int .i64 (48)) aV) λbz=>
 OP (dI .u8 bz) λdJ=>
 OP (aj .quo bB (.int .i64 (10))) λcA=>
 OP (aj .rem cA (.int .i64 (10))) λcB=>
 OP (aj .add (.int .i64 (48)) cB) λaY=>
 OP (dI .u8 aY) λbG=>
 OP (aj .rem bB (.int .i64 (10))) λdW=>
 OP (aj .add (.int .i64 (48)) dW) λcI=>
 OP (dI .u8 cI) λcU=>
 OH (cH 5 4 [(.int .u8 (0))] h [(0,1,bQ),(1,1,dJ),(2,1,bG),(3,1,cU)]) λer h_1=>
 OP (ry h_1 er) λcO=>
 OP (aj .add s3 cO) λeT=>
 OP (aj .sub i4 (.int .i64 (1))) λbA=>
 ([z1]:List Value)=[z1]/\L1 [eT,bA] h_1)
 (alJ P K s3 h)):=aB (by kernel_rfl)
theorem aIe (L1:LQ) (s3:Value) (h:ae):alK P K L1 [s3] h=
 (OP (tQ s3 (.int .i64 (0))) λfD=>
 OP (aj .eql fD (.int .u8 (48))) λfX=>
 aJ fX
 (OP (yX s3 (some (.int .i64 (1))) none) λee=>
 ([]:List Value)=[]/\L1 [ee] h)
 (alL P K s3 h)):=aB (by kernel_rfl)
theorem aIf:alL P K s3 h=
 (K s3 h):=aB (by kernel_rfl)
theorem aId:alJ P K s3 h=
 (bT [s3] h λL1 xs hx=>
 alK P K L1 xs hx):=aB (by kernel_rfl)
def Na:Prop:=
 OH (cR 55 h z0) λz1 h_1=>
 OP (aF 1 z1) λx7=>
 OP (af false 1 h_1 x7) λx8=>
 OP (aT x8) λx9=>
 OP (aj .eql x9 (.int .i64 (0))) λaE=>
 aJ aE
 (K (.string ⟨#[48]⟩) h_1)
 (OP (aF 1 z1) λaG=>
 OP (af false 1 h_1 aG) λaM=>
 OP (aT aM) λaC=>
 OP (aj .sub aC (.int .i64 (1))) λaP=>
 bT [(.string ⟨#[]⟩),aP] h_1 λL1 xs hx=>
 alM P K z1 L1 xs hx)
theorem e69:au P GR (aW [.tmp 2] K) (cd [z0]) h=Na P K z0 h:=by kernel_rfl
theorem f69 {K:VK} {z0:Value} {h:ae} (H:Na prog K z0 h):ay prog 69 [z0] h K:=
 cC k69 (cE rfl) ((e69 prog K z0 h).mpr H)
end
noncomputable section
variable (a0 : Value) (h : ae)
def aib:=cg prog 70 [[],[],[]]
@[irreducible] def c70:=cD aib
theorem k70:aib=some (5,c70,[.cell true 2 2]):=by kernel_rfl
def Nb (_:Program) (K:VK) (a0:Value) (h:ae):Prop:=
 OH (cR 55 h a0) λa1 z1=>
 OH (cF 55 [(.bool false),(.slice none 0 0)] z1) λx2 z2=>
 OP (aF 0 a1) λx3=>
 OH (aU 1 z2 x3 (.bool false)) λ_ z3=>
 OP (af true 2 z3 a1) λx4=>
 OH (aU 2 z3 x2 x4) λ_ z4=>
 OP (af true 2 z4 x2) λr0=>
 K r0 z4
theorem e70:au P c70 (aW [.cell true 2 2] K) (cd [a0]) h=Nb P K a0 h:=by kernel_rfl
theorem f70 {K:VK} {a0:Value} {h:ae} (H:Nb prog K a0 h):ay prog 70 [a0] h K:=
 cC k70 (cE rfl) ((e70 prog K a0 h).mpr H)
end
noncomputable section
variable (a0 b1 a2 b3 x4 : Value) (L1 : LQ) (xs : List Value) (h : ae)
def aiA:=cg prog 95 [[],[],[2,3,4],[],[],[],[],[2,4],[]]
@[irreducible] def G9:=cD aiA
@[irreducible] def ayK:=G9.r.r.l.l.l
@[irreducible] def acQ:=G9.r.r.r
@[irreducible] def ayJ:=acQ.l
theorem k95:aiA=some (24,G9,[.cell true 2 4]):=by kernel_rfl
def LA (_P:Program) (K:VK):ax:=aW [.cell true 2 4] K
def atU:ax:=aH (au P acQ (LA P K)) (LA P K)
def atV:ax:=bC 0 (atU P K)
def atW:ax:=aH (λf' aQ=>(([2,3,4]:List Nat).map f':List Value)=[a2,b3,x4]/\L1 (([]:List Nat).map f') aQ) (atV P K)
def ams:Prop:=aA (au P ayK (atW P K a2 b3 x4 L1)) ([2,3,4]++[]) ([a2,b3,x4]++xs) h
def amr:Prop:=aA (au P ayJ (LA P K)) [2,4] [a2,x4] h
theorem aI4:ams P K a2 b3 x4 L1 [] h=
 (OP (aF 1 b3) λaG=>
 OP (af false 1 h aG) λaM=>
 OP (aT aM) λaC=>
 OP (aj .gtr aC (.int .i64 (0))) λaP=>
 aJ aP
 (OP (af true 2 h a2) λaZ=>
 OP (af true 2 h b3) λbM=>
 ay P 96 [aZ,bM] h λbA z1=>
 OP (cW 0 bA) λaR=>
 OP (cW 1 bA) λaI=>
 OH (cF 55 [(.bool false),(.slice none 0 0)] z1) λx5 z2=>
 OH (cF 55 [(.bool false),(.slice none 0 0)] z2) λx6 z3=>
 OH (aU 2 z3 x5 aR) λ_ z4=>
 OH (aU 2 z4 x6 aI) λ_ z5=>
 OP (af true 2 z5 b3) λaS=>
 (True)/\
 OP (af true 2 z5 x6) λbL=>
 (True)/\
 OH (aU 2 z5 a2 aS) λ_ z6=>
 (af true 2 z6 x6=some bL/\True)/\
 OH (aU 2 z6 b3 bL) λ_ z7=>
 (True)/\
 ([a2,b3,x4]:List Value)=[a2,b3,x4]/\L1 [] z7)
 (amr P K a2 x4 h)):=aB (by kernel_rfl)
theorem aI3:amr P K a2 x4 h=
 (OP (af true 2 h a2) λbB=>
 OH (aU 2 h x4 bB) λ_ z1=>
 OP (af true 2 z1 x4) λr0=>
 K r0 z1):=aB (by kernel_rfl)
def Ny:Prop:=
 OH (cR 55 h a0) λa2 z1=>
 OH (cR 55 z1 b1) λb3 z2=>
 OH (cF 55 [(.bool false),(.slice none 0 0)] z2) λx4 z3=>
 OP (af true 2 z3 a2) λx7=>
 (True)/\
 ay P 70 [x7] z3 λx8 z4=>
 (True)/\
 OP (af true 2 z4 b3) λx9=>
 (af true 2 z3 b3=some x9/\True)/\
 ay P 70 [x9] z4 λaE z5=>
 (True)/\
 OH (aU 2 z5 a2 x8) λ_ z6=>
 (True)/\
 OH (aU 2 z6 b3 aE) λ_ z7=>
 (True)/\
 bT [] z7 λL1 xs hx=>
 ams P K a2 b3 x4 L1 xs hx
theorem e95:au P G9 (aW [.cell true 2 4] K) (cd [a0,b1]) h=Ny P K a0 b1 h:=by kernel_rfl
theorem f95 {K:VK} {a0 b1:Value} {h:ae} (H:Ny prog K a0 b1 h):ay prog 95 [a0,b1] h K:=
 cC k95 (cE rfl) ((e95 prog K a0 b1 h).mpr H)
end
noncomputable section
variable (a0 b1 a2 b3 x4 x5 q6 x7 i8 x9 aE aM aC hT dB : Value) (L1 L2 : LQ) (xs : List Value) (h : ae)
def aiB:=cg prog 96 [[],[],[],[2,3,4,5,6],[7,8],[],[],[],[],[2,3,4,5,6,7,8],[9,10],[],[],[],[],[2,3,4,5,6,7,8,9],[],[2,3,4,5,6,7,8],[2,3,4,5,6,7],[],[3,4,5,12,13,78],[3,4,5,12,13,78,82],[],[],[],[]]
@[irreducible] def Ha:=cD aiB
@[irreducible] def Hc:=Ha.r.r.l.r.l.l
@[irreducible] def acT:=Ha.r.r.r
@[irreducible] def ayL:=Hc.r.l.l.r.r.l.l.l
@[irreducible] def acR:=Hc.r.l.l.r.r.r
@[irreducible] def acU:=Hc.r.r
@[irreducible] def Hb:=acT.l
@[irreducible] def ayM:=acR.l
@[irreducible] def ayN:=acU.l
@[irreducible] def acS:=Hb.r.l.l.r.l
@[irreducible] def ayP:=Hb.r.l.r
@[irreducible] def ayO:=Hb.r.r
@[irreducible] def ayQ:=acS.r.l
theorem k96:aiB=some (92,Ha,[.cell true 2 4,.cell true 2 5]):=by kernel_rfl
def BO (_P:Program) (K:VK):ax:=aW [.cell true 2 4,.cell true 2 5] K
def at0:ax:=aH (au P acT (BO P K)) (BO P K)
def at2:ax:=bC 0 (at0 P K)
def Fq:ax:=aH (λf' aQ=>(([2,3,4,5,6]:List Nat).map f':List Value)=[a2,b3,x4,x5,q6]/\L1 (([7,8]:List Nat).map f') aQ) (at2 P K)
def at3:ax:=aH (au P acU (Fq P K a2 b3 x4 x5 q6 L1)) (Fq P K a2 b3 x4 x5 q6 L1)
def LB:ax:=bC 1 (at3 P K a2 b3 x4 x5 q6 L1)
def atX:ax:=aH (au P acR (LB P K a2 b3 x4 x5 q6 L1)) (LB P K a2 b3 x4 x5 q6 L1)
def atY:ax:=bC 2 (atX P K a2 b3 x4 x5 q6 L1)
def atZ:ax:=aH (λf' aQ=>(([2,3,4,5,6,7,8]:List Nat).map f':List Value)=[a2,b3,x4,x5,q6,x7,i8]/\L2 (([9,10]:List Nat).map f') aQ) (atY P K a2 b3 x4 x5 q6 L1)
def XW:ax:=aH (au P ayO (BO P K)) (BO P K)
def XX:ax:=aH (au P ayP (XW P K)) (XW P K)
def amy:Prop:=aA (au P Hc (Fq P K a2 b3 x4 x5 q6 L1)) ([2,3,4,5,6]++[7,8]) ([a2,b3,x4,x5,q6]++xs) h
def amt:Prop:=aA (au P ayL (atZ P K a2 b3 x4 x5 q6 x7 i8 L1 L2)) ([2,3,4,5,6,7,8]++[9,10]) ([a2,b3,x4,x5,q6,x7,i8]++xs) h
def amu:Prop:=aA (au P ayM (LB P K a2 b3 x4 x5 q6 L1)) [2,3,4,5,6,7,8,9] [a2,b3,x4,x5,q6,x7,i8,x9] h
def amv:Prop:=aA (au P ayN (Fq P K a2 b3 x4 x5 q6 L1)) [2,3,4,5,6,7,8] [a2,b3,x4,x5,q6,x7,i8] h
def amw:Prop:=aA (au P Hb (BO P K)) [2,3,4,5,6,7] [a2,b3,x4,x5,q6,x7] h
def amx:Prop:=aA (au P acS (XX P K)) [3,4,5,12,13,78] [b3,x4,x5,aM,aC,hT] h
def DI:Prop:=aA (au P ayQ (XX P K)) [3,4,5,12,13,78,82] [b3,x4,x5,aM,aC,hT,dB] h
theorem aI5 (a2 b3 x4 x5 q6 x7 i8:Value) (L1 L2:LQ) (x9 aE:Value) (h:ae):amt P K a2 b3 x4 x5 q6 x7 i8 L1 L2 [x9,aE] h=
 (OP (aj .sub aE x9) λcI=>
 OP (aj .gtr cI (.int .i64 (1))) λcU=>
 aJ cU
 (OP (aj .add x9 aE) λcP=>
 OP (aj .quo cP (.int .i64 (2))) λdC=>
 OP (aF 1 b3) λeT=>
 OP (af false 1 h eT) λgp=>
 ay P 127 [gp,dC] h λfX z1=>
 ay P 126 [fX,x7] z1 λee z2=>
 OP (aj .leq ee (.int .i64 (0))) λfI=>
 aJ fI
 (([a2,b3,x4,x5,q6,x7,i8]:List Value)=[a2,b3,x4,x5,q6,x7,i8]/\L2 [dC,aE] z2)
 (([a2,b3,x4,x5,q6,x7,i8]:List Value)=[a2,b3,x4,x5,q6,x7,i8]/\L2 [x9,dC] z2))
 (amu P K a2 b3 x4 x5 q6 x7 i8 x9 L1 h)):=aB (by kernel_rfl)
theorem aI6:amu P K a2 b3 x4 x5 q6 x7 i8 x9 L1 h=
 (OP (aD 1 q6 i8) λfS=>
 OH (aU 1 h fS x9) λ_ z1=>
 OP (aF 1 b3) λgI=>
 OP (af false 1 z1 gI) λfT=>
 ay P 127 [fT,x9] z1 λhI z2=>
 ay P 128 [x7,hI] z2 λke z3=>
 OP (eG [(.bool false),(.slice none 0 0)] [(1,1,ke)]) λjy=>
 ay P 125 [jy] z3 λkZ z4=>
 OP (yW false 1 1 kZ) λgw=>
 amv P K a2 b3 x4 x5 q6 gw i8 L1 z4):=aB (by kernel_rfl)
theorem aI7:amv P K a2 b3 x4 x5 q6 x7 i8 L1 h=
 (OP (aj .sub i8 (.int .i64 (1))) λbP=>
 ([a2,b3,x4,x5,q6]:List Value)=[a2,b3,x4,x5,q6]/\L1 [x7,bP] h):=aB (by kernel_rfl)
theorem aJa (a2 b3 x4 x5 q6:Value) (L1:LQ) (x7 i8:Value) (h:ae):amy P K a2 b3 x4 x5 q6 L1 [x7,i8] h=
 (OP (aj .geq i8 (.int .i64 (0))) λbm=>
 aJ bm
 (OP (aF 1 a2) λbQ=>
 OP (af false 1 h bQ) λcL=>
 OP (aD 1 cL i8) λaV=>
 OP (af false 1 h aV) λbz=>
 OH (cH 3 1 [(.int .i64 (0))] h [(0,1,bz)]) λdJ z1=>
 OH (cT 3 1 8 z1 dJ x7) λcA z2=>
 OP (eG [(.bool false),(.slice none 0 0)] [(1,1,cA)]) λcB=>
 ay P 125 [cB] z2 λaY z3=>
 OP (yW false 1 1 aY) λbG=>
 bT [(.int .i64 (0)),(.int .i64 (10000))] z3 λL2 xs hx=>
 amt P K a2 b3 x4 x5 q6 bG i8 L1 L2 xs hx)
 (amw P K a2 b3 x4 x5 q6 x7 h)):=aB (by kernel_rfl)
theorem UC:DI P K b3 x4 x5 aM aC hT dB h=
 (OP (bu hT dB (.bool false)) λgW=>
 aJ gW
 (OP (af true 2 h aM) λgJ=>
 (True)/\
 ay P 41 [(.int .i64 (1))] h λjU z1=>
 (af true 2 z1 aM=some gJ/\True)/\
 ay P 129 [gJ,jU] z1 λjV z2=>
 (True)/\
 OP (af true 2 z2 b3) λkh=>
 (af true 2 h b3=some kh/\af true 2 z1 b3=some kh/\True)/\
 OP (af true 2 z2 aC) λeB=>
 (af true 2 h aC=some eB/\af true 2 z1 aC=some eB/\True)/\
 ay P 129 [kh,eB] z2 λeP z3=>
 (True)/\
 OH (aU 2 z3 x4 jV) λ_ z4=>
 (True)/\
 OH (aU 2 z4 x5 eP) λ_ z5=>
 (True)/\
 OP (af true 2 z5 x4) λr0=>
 OP (af true 2 z5 x5) λr1=>
 K (.tuple #[r0,r1]) z5)
 (OP (af true 2 h aM) λkH=>
 (True)/\
 OP (af true 2 h aC) λjq=>
 (True)/\
 OH (aU 2 h x4 kH) λ_ z1=>
 (af true 2 z1 aC=some jq/\True)/\
 OH (aU 2 z1 x5 jq) λ_ z2=>
 (True)/\
 OP (af true 2 z2 x4) λr0=>
 OP (af true 2 z2 x5) λr1=>
 K (.tuple #[r0,r1]) z2)):=aB (by kernel_rfl)
theorem aI9:amx P K b3 x4 x5 aM aC hT h=
 (bO hT true
 (OP (aF 1 aC) λlN=>
 OP (af false 1 h lN) λkf=>
 OP (aT kf) λcK=>
 OP (aj .gtr cK (.int .i64 (0))) λdB=>
 DI P K b3 x4 x5 aM aC hT dB h)
 (DI P K b3 x4 x5 aM aC hT undef h)):=aB (by kernel_rfl)
theorem aI8:amw P K a2 b3 x4 x5 q6 x7 h=
 (OP (aF 0 a2) λfA=>
 OP (af false 1 h fA) λdY=>
 OP (eG [(.bool false),(.slice none 0 0)] [(0,1,dY),(1,1,q6)]) λgy=>
 ay P 125 [gy] h λog z1=>
 OP (eG [(.bool false),(.slice none 0 0)] [(1,1,x7)]) λiW=>
 ay P 125 [iW] z1 λfE z2=>
 OH (cF 55 [(.bool false),(.slice none 0 0)] z2) λaM z3=>
 OH (cF 55 [(.bool false),(.slice none 0 0)] z3) λaC z4=>
 OH (aU 2 z4 aM og) λ_ z5=>
 OH (aU 2 z5 aC fE) λ_ z6=>
 OP (aF 0 a2) λiL=>
 OP (af false 1 z6 iL) λkO=>
 amx P K b3 x4 x5 aM aC kO z6):=aB (by kernel_rfl)
def Nz:Prop:=
 OH (cR 55 h a0) λa2 z1=>
 OH (cR 55 z1 b1) λb3 z2=>
 OH (cF 55 [(.bool false),(.slice none 0 0)] z2) λx4 z3=>
 OH (cF 55 [(.bool false),(.slice none 0 0)] z3) λx5 z4=>
 OP (aF 1 a2) λaP=>
 OP (af false 1 z4 aP) λaX=>
 OP (aT aX) λaZ=>
 OH (eM 3 8 [(.int .i64 (0))] z4 aZ aZ) λbM z5=>
 OH (cH 3 0 [(.int .i64 (0))] z5 []) λbA z6=>
 OP (aF 1 a2) λaR=>
 OP (af false 1 z6 aR) λaI=>
 OP (aT aI) λaS=>
 OP (aj .sub aS (.int .i64 (1))) λbL=>
 bT [bA,bL] z6 λL1 xs hx=>
 amy P K a2 b3 x4 x5 bM L1 xs hx
theorem e96:au P Ha (aW [.cell true 2 4,.cell true 2 5] K) (cd [a0,b1]) h=Nz P K a0 b1 h:=by kernel_rfl
theorem f96 {K:VK} {a0 b1:Value} {h:ae} (H:Nz prog K a0 b1 h):ay prog 96 [a0,b1] h K:=
 cC k96 (cE rfl) ((e96 prog K a0 b1 h).mpr H)
end
noncomputable section
variable (z0 z1 x2 n3 x9 aZ b9 bz : Value) (L1 : LQ) (xs : List Value) (h : ae)
def agZ:=cg prog 125 [[],[],[1,2],[3],[1,2,3,9],[1,2,3,9,16],[],[],[1,2,3],[],[1,2,3,29],[1,2,29,31],[],[]]
@[irreducible] def FT:=cD agZ
@[irreducible] def FU:=FT.r.r.l.l.l
@[irreducible] def YI:=FT.r.r.r
@[irreducible] def YJ:=FU.l.l.r.l
@[irreducible] def au1:=FU.l.r
@[irreducible] def au0:=FU.r
@[irreducible] def NW:=YI.l
@[irreducible] def auX:=YJ.r.l
@[irreducible] def YH:=NW.r.l.r.l
@[irreducible] def auY:=NW.r.r
@[irreducible] def auZ:=YH.r.l
theorem aCp:agZ=some (35,FT,[.cell true 2 2]):=by kernel_rfl
def BL (_P:Program) (K:VK):ax:=aW [.cell true 2 2] K
def apq:ax:=aH (au P YI (BL P K)) (BL P K)
def apr:ax:=bC 0 (apq P K)
def KI:ax:=aH (λf' aQ=>(([1,2]:List Nat).map f':List Value)=[z1,x2]/\L1 (([3]:List Nat).map f') aQ) (apr P K)
def WE:ax:=aH (au P au0 (KI P K z1 x2 L1)) (KI P K z1 x2 L1)
def WG:ax:=aH (au P au1 (WE P K z1 x2 L1)) (WE P K z1 x2 L1)
def WD:ax:=aH (au P auY (BL P K)) (BL P K)
def aiZ:Prop:=aA (au P FU (KI P K z1 x2 L1)) ([1,2]++[3]) ([z1,x2]++xs) h
def ai0:Prop:=aA (au P YJ (WG P K z1 x2 L1)) [1,2,3,9] [z1,x2,n3,x9] h
def Sb:Prop:=aA (au P auX (WG P K z1 x2 L1)) [1,2,3,9,16] [z1,x2,n3,x9,aZ] h
def Sc:Prop:=aA (au P NW (BL P K)) [1,2,3] [z1,x2,n3] h
def aiY:Prop:=aA (au P YH (WD P K)) [1,2,3,29] [z1,x2,n3,b9] h
def Sd:Prop:=aA (au P auZ (WD P K)) [1,2,29,31] [z1,x2,b9,bz] h
theorem amM:Sb P K z1 x2 n3 x9 aZ L1 h=
 (OP (bu x9 aZ (.bool false)) λbM=>
 aJ bM
 (OP (aj .sub n3 (.int .i64 (1))) λaR=>
 ([z1,x2]:List Value)=[z1,x2]/\L1 [aR] h)
 (Sc P K z1 x2 n3 h)):=aB (by kernel_rfl)
theorem amP:ai0 P K z1 x2 n3 x9 L1 h=
 (bO x9 true
 (OP (aF 1 z1) λaE=>
 OP (af false 1 h aE) λaG=>
 OP (aj .sub n3 (.int .i64 (1))) λaC=>
 OP (aD 1 aG aC) λaP=>
 OP (af false 1 h aP) λaX=>
 OP (aj .eql aX (.int .i64 (0))) λaZ=>
 Sb P K z1 x2 n3 x9 aZ L1 h)
 (Sb P K z1 x2 n3 x9 undef L1 h)):=aB (by kernel_rfl)
theorem aD7 (z1 x2:Value) (L1:LQ) (n3:Value) (h:ae):aiZ P K z1 x2 L1 [n3] h=
 (OP (aj .gtr n3 (.int .i64 (0))) λx8=>
 ai0 P K z1 x2 n3 x8 L1 h):=aB (by kernel_rfl)
theorem amO:Sd P K z1 x2 b9 bz h=
 (OP (bu b9 bz (.bool false)) λdJ=>
 OP (aF 0 z1) λbZ=>
 OH (aU 1 h bZ dJ) λ_ h_1=>
 OP (af true 2 h_1 z1) λcA=>
 OH (aU 2 h_1 x2 cA) λ_ h_2=>
 OP (af true 2 h_2 x2) λr0=>
 K r0 h_2):=aB (by kernel_rfl)
theorem amN:aiY P K z1 x2 n3 b9 h=
 (bO b9 true
 (OP (aj .gtr n3 (.int .i64 (0))) λbz=>
 Sd P K z1 x2 b9 bz h)
 (Sd P K z1 x2 b9 undef h)):=aB (by kernel_rfl)
theorem aD6:Sc P K z1 x2 n3 h=
 (OH (cH 3 0 [(.int .i64 (0))] h []) λaI h_1=>
 OP (aF 1 z1) λaS=>
 OP (af false 1 h_1 aS) λbL=>
 OP (fP 3 1 bL none (some n3)) λbm=>
 OH (cT 3 1 8 h_1 aI bm) λbH h_2=>
 OP (aF 1 z1) λbP=>
 OH (aU 1 h_2 bP bH) λ_ h_3=>
 OP (aF 0 z1) λbQ=>
 OP (af false 1 h_3 bQ) λcL=>
 aiY P K z1 x2 n3 cL h_3):=aB (by kernel_rfl)
def LX:Prop:=
 OH (cR 55 h z0) λz1 h_1=>
 OH (cF 55 [(.bool false),(.slice none 0 0)] h_1) λx2 h_2=>
 OP (aF 1 z1) λx4=>
 OP (af false 1 h_2 x4) λx5=>
 OP (aT x5) λx6=>
 bT [x6] h_2 λL1 xs hx=>
 aiZ P K z1 x2 L1 xs hx
theorem azM:au P FT (aW [.cell true 2 2] K) (cd [z0]) h=LX P K z0 h:=by kernel_rfl
theorem f125 {K:VK} {z0:Value} {h:ae} (H:LX prog K z0 h):ay prog 125 [z0] h K:=
 cC aCp (cE rfl) ((azM prog K z0 h).mpr H)
end
noncomputable section
variable (a0 b1 i5 : Value) (L1 : LQ) (xs : List Value) (h : ae)
def ag0:=cg prog 126 [[],[],[],[],[],[],[],[],[0,1],[5],[],[],[],[],[],[],[],[],[],[]]
@[irreducible] def FV:=cD ag0
@[irreducible] def au2:=FV.r.r.l.r.l.l
@[irreducible] def au3:=FV.r.r.r
theorem aCq:ag0=some (41,FV,[.tmp 4]):=by kernel_rfl
def WH (_P:Program) (K:VK):ax:=aW [.tmp 4] K
def apu:ax:=aH (au P au3 (WH P K)) (WH P K)
def aps:ax:=bC 0 (apu P K)
def apt:ax:=aH (λf' aQ=>(([0,1]:List Nat).map f':List Value)=[a0,b1]/\L1 (([5]:List Nat).map f') aQ) (aps P K)
def ai1:Prop:=aA (au P au2 (apt P K a0 b1 L1)) ([0,1]++[5]) ([a0,b1]++xs) h
theorem aD8 (a0 b1:Value) (L1:LQ) (i5:Value) (h:ae):ai1 P K a0 b1 L1 [i5] h=
 (OP (aj .geq i5 (.int .i64 (0))) λaI=>
 aJ aI
 (OP (aD 1 a0 i5) λbH=>
 OP (af false 1 h bH) λbP=>
 (True)/\
 OP (aD 1 b1 i5) λb9=>
 OP (af false 1 h b9) λaV=>
 (True)/\
 OP (aj .lss bP aV) λbz=>
 aJ bz
 (K (.int .i64 (-1)) h)
 (OP (aD 1 a0 i5) λcA=>
 OP (af false 1 h cA) λcB=>
 (True)/\
 OP (aD 1 b1 i5) λdH=>
 OP (af false 1 h dH) λdW=>
 (True)/\
 OP (aj .gtr cB dW) λcI=>
 aJ cI
 (K (.int .i64 (1)) h)
 (OP (aj .sub i5 (.int .i64 (1))) λbL=>
 ([a0,b1]:List Value)=[a0,b1]/\L1 [bL] h)))
 (K (.int .i64 (0)) h)):=aB (by kernel_rfl)
def LY:Prop:=
 OP (aT a0) λx7=>
 OP (aT b1) λx9=>
 OP (aj .neq x7 x9) λaE=>
 aJ aE
 (OP (aT a0) λaM=>
 OP (aT b1) λaP=>
 OP (aj .lss aM aP) λaX=>
 aJ aX
 (K (.int .i64 (-1)) h)
 (K (.int .i64 (1)) h))
 (OP (aT a0) λbM=>
 OP (aj .sub bM (.int .i64 (1))) λbA=>
 bT [bA] h λL1 xs hx=>
 ai1 P K a0 b1 L1 xs hx)
theorem azN:au P FV (aW [.tmp 4] K) (cd [a0,b1]) h=LY P K a0 b1 h:=by kernel_rfl
theorem f126 {K:VK} {a0 b1:Value} {h:ae} (H:LY prog K a0 b1 h):ay prog 126 [a0,b1] h K:=
 cC aCq (cE rfl) ((azN prog K a0 b1 h).mpr H)
end
noncomputable section
variable (a0 d1 : Value) (h : ae)
def ag1:=cg prog 127 [[],[]]
@[irreducible] def YK:=cD ag1
theorem aCr:ag1=some (12,YK,[.tmp 4]):=by kernel_rfl
def LZ:Prop:=
 OP (eG [(.bool false),(.slice none 0 0)] [(1,1,a0)]) λx6=>
 ay P 41 [d1] h λx8 z1=>
 ay P 144 [x6,x8] z1 λx9 z2=>
 ay P 125 [x9] z2 λaE z3=>
 OP (yW false 1 1 aE) λaG=>
 K aG z3
theorem azO:au P YK (aW [.tmp 4] K) (cd [a0,d1]) h=LZ P K a0 d1 h:=by kernel_rfl
theorem f127 {K:VK} {a0 d1:Value} {h:ae} (H:LZ prog K a0 d1 h):ay prog 127 [a0,d1] h K:=
 cC aCr (cE rfl) ((azO prog K a0 d1 h).mpr H)
end
noncomputable section
variable (a0 b1 x5 x6 i7 s8 : Value) (L1 : LQ) (xs : List Value) (h : ae)
def ag2:=cg prog 128 [[],[],[],[0,1],[5,6,7],[],[],[],[],[0,1,5,7,8],[],[],[0,1,5,6,7,8],[0,1,5,6,7],[5],[]]
@[irreducible] def FW:=cD ag2
@[irreducible] def NX:=FW.r.r.l.r.l.l
@[irreducible] def YM:=FW.r.r.r
@[irreducible] def YL:=NX.r.l.l.r.r.l
@[irreducible] def YN:=NX.r.r
@[irreducible] def au6:=YM.l
@[irreducible] def au4:=YL.r.r.l
@[irreducible] def au5:=YN.l
theorem aCs:ag2=some (41,FW,[.tmp 4]):=by kernel_rfl
def KJ (_P:Program) (K:VK):ax:=aW [.tmp 4] K
def apv:ax:=aH (au P YM (KJ P K)) (KJ P K)
def apw:ax:=bC 0 (apv P K)
def EL:ax:=aH (λf' aQ=>(([0,1]:List Nat).map f':List Value)=[a0,b1]/\L1 (([5,6,7]:List Nat).map f') aQ) (apw P K)
def apx:ax:=aH (au P YN (EL P K a0 b1 L1)) (EL P K a0 b1 L1)
def WI:ax:=bC 1 (apx P K a0 b1 L1)
def ai4:Prop:=aA (au P NX (EL P K a0 b1 L1)) ([0,1]++[5,6,7]) ([a0,b1]++xs) h
def Ji:Prop:=aA (au P YL (WI P K a0 b1 L1)) [0,1,5,7,8] [a0,b1,x5,i7,s8] h
def Jj:Prop:=aA (au P au4 (WI P K a0 b1 L1)) [0,1,5,6,7,8] [a0,b1,x5,x6,i7,s8] h
def ai2:Prop:=aA (au P au5 (EL P K a0 b1 L1)) [0,1,5,6,7] [a0,b1,x5,x6,i7] h
def ai3:Prop:=aA (au P au6 (KJ P K)) [5] [x5] h
theorem aEa:Jj P K a0 b1 x5 x6 i7 s8 L1 h=
 (OH (cH 3 1 [(.int .i64 (0))] h [(0,1,s8)]) λdH z1=>
 OH (cT 3 1 8 z1 x5 dH) λdW z2=>
 ai2 P K a0 b1 dW x6 i7 L1 z2):=aB (by kernel_rfl)
theorem aD9:Ji P K a0 b1 x5 i7 s8 L1 h=
 (OP (aj .lss s8 (.int .i64 (0))) λbZ=>
 aJ bZ
 (OP (aj .add s8 (.int .i64 (10000))) λcB=>
 Jj P K a0 b1 x5 (.int .i64 (1)) i7 cB L1 h)
 (Jj P K a0 b1 x5 (.int .i64 (0)) i7 s8 L1 h)):=aB (by kernel_rfl)
theorem aEb:ai2 P K a0 b1 x5 x6 i7 L1 h=
 (OP (aj .add i7 (.int .i64 (1))) λaX=>
 ([a0,b1]:List Value)=[a0,b1]/\L1 [x5,x6,aX] h):=aB (by kernel_rfl)
theorem aEd (a0 b1:Value) (L1:LQ) (x5 x6 i7:Value) (h:ae):ai4 P K a0 b1 L1 [x5,x6,i7] h=
 (OP (aT a0) λaM=>
 OP (aj .lss i7 aM) λaC=>
 aJ aC
 (OP (aD 1 a0 i7) λbA=>
 OP (af false 1 h bA) λaR=>
 OP (aj .sub aR x6) λaS=>
 OP (aT b1) λbm=>
 OP (aj .lss i7 bm) λbH=>
 aJ bH
 (OP (aD 1 b1 i7) λb9=>
 OP (af false 1 h b9) λaV=>
 OP (aj .sub aS aV) λbz=>
 Ji P K a0 b1 x5 i7 bz L1 h)
 (Ji P K a0 b1 x5 i7 aS L1 h))
 (ai3 P K x5 h)):=aB (by kernel_rfl)
theorem aEc:ai3 P K x5 h=
 (K x5 h):=aB (by kernel_rfl)
def L4:Prop:=
 OH (cH 3 0 [(.int .i64 (0))] h []) λx9 z1=>
 bT [x9,(.int .i64 (0)),(.int .i64 (0))] z1 λL1 xs hx=>
 ai4 P K a0 b1 L1 xs hx
theorem azP:au P FW (aW [.tmp 4] K) (cd [a0,b1]) h=L4 P K a0 b1 h:=by kernel_rfl
theorem f128 {K:VK} {a0 b1:Value} {h:ae} (H:L4 prog K a0 b1 h):ay prog 128 [a0,b1] h K:=
 cC aCs (cE rfl) ((azP prog K a0 b1 h).mpr H)
end
noncomputable section
variable (a0 b1 : Value) (h : ae)
def ag3:=cg prog 129 [[],[]]
@[irreducible] def YO:=cD ag3
theorem aCt:ag3=some (9,YO,[.cell true 2 4]):=by kernel_rfl
def L5:Prop:=
 OH (cR 55 h a0) λa2 z1=>
 OH (cR 55 z1 b1) λb3 z2=>
 OH (cF 55 [(.bool false),(.slice none 0 0)] z2) λx4 z3=>
 OP (af true 2 z3 a2) λx5=>
 (True)/\
 OP (af true 2 z3 b3) λx6=>
 (True)/\
 ay P 146 [x6] z3 λx7 z4=>
 (af true 2 z4 a2=some x5/\True)/\
 ay P 145 [x5,x7] z4 λx8 z5=>
 (True)/\
 OH (aU 2 z5 x4 x8) λ_ z6=>
 (True)/\
 OP (af true 2 z6 x4) λr0=>
 K r0 z6
theorem azQ:au P YO (aW [.cell true 2 4] K) (cd [a0,b1]) h=L5 P K a0 b1 h:=by kernel_rfl
theorem f129 {K:VK} {a0 b1:Value} {h:ae} (H:L5 prog K a0 b1 h):ay prog 129 [a0,b1] h K:=
 cC aCt (cE rfl) ((azQ prog K a0 b1 h).mpr H)
end
noncomputable section
variable (a0 b1 a2 b3 x4 x5 i6 x7 k8 s9 bz bZ : Value) (L1 L2 : LQ) (xs : List Value) (h : ae)
def ahc:=cg prog 144 [[],[],[],[2,3,4,5],[6],[],[],[],[],[2,3,4,5,6],[7,8],[2,3,4,5,6,7,8,31],[2,3,4,5,6,7,8,31,33],[],[],[],[],[2,3,4,5,6,8,9],[2,3,4,5,6,7,8],[2,3,4,5,6],[2,3,4,5],[]]
@[irreducible] def F5:=cD ahc
@[irreducible] def N4:=F5.r.r.l.r.l.l
@[irreducible] def Y9:=F5.r.r.r
@[irreducible] def F6:=N4.r.l.l.r.r.l.l
@[irreducible] def Za:=N4.r.r
@[irreducible] def avv:=Y9.l
@[irreducible] def Y7:=F6.l.l.r.l
@[irreducible] def avq:=F6.l.r
@[irreducible] def N3:=F6.r
@[irreducible] def avu:=Za.l
@[irreducible] def avr:=Y7.r.l
@[irreducible] def avs:=N3.l.l.r.r.l
@[irreducible] def Y8:=N3.r
@[irreducible] def avt:=Y8.l
theorem aCA:ahc=some (80,F5,[.cell true 2 4]):=by kernel_rfl
def KQ (_P:Program) (K:VK):ax:=aW [.cell true 2 4] K
def ap4:ax:=aH (au P Y9 (KQ P K)) (KQ P K)
def ap5:ax:=bC 0 (ap4 P K)
def EO:ax:=aH (λf' aQ=>(([2,3,4,5]:List Nat).map f':List Value)=[a2,b3,x4,x5]/\L1 (([6]:List Nat).map f') aQ) (ap5 P K)
def ap6:ax:=aH (au P Za (EO P K a2 b3 x4 x5 L1)) (EO P K a2 b3 x4 x5 L1)
def ap0:ax:=bC 1 (ap6 P K a2 b3 x4 x5 L1)
def ap1:ax:=bC 2 (ap0 P K a2 b3 x4 x5 L1)
def Ac:ax:=aH (λf' aQ=>(([2,3,4,5,6]:List Nat).map f':List Value)=[a2,b3,x4,x5,i6]/\L2 (([7,8]:List Nat).map f') aQ) (ap1 P K a2 b3 x4 x5 L1)
def WL:ax:=aH (au P N3 (Ac P K a2 b3 x4 x5 i6 L1 L2)) (Ac P K a2 b3 x4 x5 i6 L1 L2)
def WM:ax:=aH (au P avq (WL P K a2 b3 x4 x5 i6 L1 L2)) (WL P K a2 b3 x4 x5 i6 L1 L2)
def ap2:ax:=aH (au P Y8 (Ac P K a2 b3 x4 x5 i6 L1 L2)) (Ac P K a2 b3 x4 x5 i6 L1 L2)
def ap3:ax:=bC 3 (ap2 P K a2 b3 x4 x5 i6 L1 L2)
def ajo:Prop:=aA (au P N4 (EO P K a2 b3 x4 x5 L1)) ([2,3,4,5]++[6]) ([a2,b3,x4,x5]++xs) h
def ajk:Prop:=aA (au P F6 (Ac P K a2 b3 x4 x5 i6 L1 L2)) ([2,3,4,5,6]++[7,8]) ([a2,b3,x4,x5,i6]++xs) h
def ajl:Prop:=aA (au P Y7 (WM P K a2 b3 x4 x5 i6 L1 L2)) [2,3,4,5,6,7,8,31] [a2,b3,x4,x5,i6,x7,k8,bz] h
def Sl:Prop:=aA (au P avr (WM P K a2 b3 x4 x5 i6 L1 L2)) [2,3,4,5,6,7,8,31,33] [a2,b3,x4,x5,i6,x7,k8,bz,bZ] h
def wZ:Prop:=aA (au P avs (ap3 P K a2 b3 x4 x5 i6 L1 L2)) [2,3,4,5,6,8,9] [a2,b3,x4,x5,i6,k8,s9] h
def ajm:Prop:=aA (au P avt (Ac P K a2 b3 x4 x5 i6 L1 L2)) [2,3,4,5,6,7,8] [a2,b3,x4,x5,i6,x7,k8] h
def Sm:Prop:=aA (au P avu (EO P K a2 b3 x4 x5 L1)) [2,3,4,5,6] [a2,b3,x4,x5,i6] h
def ajn:Prop:=aA (au P avv (KQ P K)) [2,3,4,5] [a2,b3,x4,x5] h
theorem amU:Sl P K a2 b3 x4 x5 i6 x7 k8 bz bZ L1 L2 h=
 (OP (bu bz (.bool true) bZ) λcA=>
 aJ cA
 (OP (aj .add i6 k8) λcI=>
 OP (aD 1 x5 cI) λcU=>
 OP (af false 1 h cU) λer=>
 OP (aj .add er x7) λcP=>
 OP (aF 1 b3) λeT=>
 OP (af false 1 h eT) λgp=>
 OP (aT gp) λfD=>
 OP (aj .lss k8 fD) λfX=>
 aJ fX
 (OP (aF 1 a2) λee=>
 OP (af false 1 h ee) λfI=>
 (True)/\
 OP (aD 1 fI i6) λgv=>
 OP (af false 1 h gv) λfJ=>
 (True)/\
 OP (aF 1 b3) λgV=>
 OP (af false 1 h gV) λfY=>
 (True)/\
 OP (aD 1 fY k8) λiZ=>
 OP (af false 1 h iZ) λgI=>
 (True)/\
 OP (aj .mul fJ gI) λfT=>
 OP (aj .add cP fT) λiV=>
 wZ P K a2 b3 x4 x5 i6 k8 iV L1 L2 h)
 (wZ P K a2 b3 x4 x5 i6 k8 cP L1 L2 h))
 (Sm P K a2 b3 x4 x5 i6 L1 h)):=aB (by kernel_rfl)
theorem amT:ajl P K a2 b3 x4 x5 i6 x7 k8 bz L1 L2 h=
 (bO bz false
 (OP (aj .gtr x7 (.int .i64 (0))) λbZ=>
 Sl P K a2 b3 x4 x5 i6 x7 k8 bz bZ L1 L2 h)
 (Sl P K a2 b3 x4 x5 i6 x7 k8 bz undef L1 L2 h)):=aB (by kernel_rfl)
theorem aEC:wZ P K a2 b3 x4 x5 i6 k8 s9 L1 L2 h=
 (OP (aj .add i6 k8) λkZ=>
 OP (aj .rem s9 (.int .i64 (10000))) λfA=>
 OP (aj .quo s9 (.int .i64 (10000))) λdj=>
 OP (aD 1 x5 kZ) λgy=>
 OH (aU 1 h gy fA) λ_ z1=>
 ajm P K a2 b3 x4 x5 i6 dj k8 L1 L2 z1):=aB (by kernel_rfl)
theorem aED:ajm P K a2 b3 x4 x5 i6 x7 k8 L1 L2 h=
 (OP (aj .add k8 (.int .i64 (1))) λaY=>
 ([a2,b3,x4,x5,i6]:List Value)=[a2,b3,x4,x5,i6]/\L2 [x7,aY] h):=aB (by kernel_rfl)
theorem aEB (a2 b3 x4 x5 i6:Value) (L1 L2:LQ) (x7 k8:Value) (h:ae):ajk P K a2 b3 x4 x5 i6 L1 L2 [x7,k8] h=
 (OP (aF 1 b3) λbQ=>
 OP (af false 1 h bQ) λcL=>
 OP (aT cL) λb9=>
 OP (aj .lss k8 b9) λaV=>
 ajl P K a2 b3 x4 x5 i6 x7 k8 aV L1 L2 h):=aB (by kernel_rfl)
theorem aEE:Sm P K a2 b3 x4 x5 i6 L1 h=
 (OP (aj .add i6 (.int .i64 (1))) λbH=>
 ([a2,b3,x4,x5]:List Value)=[a2,b3,x4,x5]/\L1 [bH] h):=aB (by kernel_rfl)
theorem aEG (a2 b3 x4 x5:Value) (L1:LQ) (i6:Value) (h:ae):ajo P K a2 b3 x4 x5 L1 [i6] h=
 (OP (aF 1 a2) λaI=>
 OP (af false 1 h aI) λaS=>
 OP (aT aS) λbL=>
 OP (aj .lss i6 bL) λbB=>
 aJ bB
 (bT [(.int .i64 (0)),(.int .i64 (0))] h λL2 xs hx=>
 ajk P K a2 b3 x4 x5 i6 L1 L2 xs hx)
 (ajn P K a2 b3 x4 x5 h)):=aB (by kernel_rfl)
theorem aEF:ajn P K a2 b3 x4 x5 h=
 (OP (aF 0 a2) λog=>
 OP (af false 1 h og) λlh=>
 OP (aF 0 b3) λiW=>
 OP (af false 1 h iW) λfE=>
 OP (tP true lh fE) λiL=>
 OP (eG [(.bool false),(.slice none 0 0)] [(0,1,iL),(1,1,x5)]) λhT=>
 ay P 125 [hT] h λlN z1=>
 OH (aU 2 z1 x4 lN) λ_ z2=>
 OP (af true 2 z2 x4) λr0=>
 K r0 z2):=aB (by kernel_rfl)
def Md:Prop:=
 OH (cR 55 h a0) λa2 z1=>
 OH (cR 55 z1 b1) λb3 z2=>
 OH (cF 55 [(.bool false),(.slice none 0 0)] z2) λx4 z3=>
 OP (aF 1 a2) λaE=>
 OP (af false 1 z3 aE) λaG=>
 OP (aT aG) λaM=>
 OP (aF 1 b3) λaC=>
 OP (af false 1 z3 aC) λaP=>
 OP (aT aP) λaX=>
 OP (aj .add aM aX) λaZ=>
 OP (aj .add aZ (.int .i64 (1))) λbM=>
 OH (eM 3 8 [(.int .i64 (0))] z3 bM bM) λbA z4=>
 bT [(.int .i64 (0))] z4 λL1 xs hx=>
 ajo P K a2 b3 x4 bA L1 xs hx
theorem azX:au P F5 (aW [.cell true 2 4] K) (cd [a0,b1]) h=Md P K a0 b1 h:=by kernel_rfl
theorem f144 {K:VK} {a0 b1:Value} {h:ae} (H:Md prog K a0 b1 h):ay prog 144 [a0,b1] h K:=
 cC aCA (cE rfl) ((azX prog K a0 b1 h).mpr H)
end
noncomputable section
variable (a0 b1 : Value) (h : ae)
def ahd:=cg prog 145 [[],[],[],[],[],[],[],[]]
@[irreducible] def Zb:=cD ahd
theorem aCB:ahd=some (43,Zb,[.cell true 2 4]):=by kernel_rfl
def Me:Prop:=
 OH (cR 55 h a0) λa2 z1=>
 OH (cR 55 z1 b1) λb3 z2=>
 OH (cF 55 [(.bool false),(.slice none 0 0)] z2) λx4 z3=>
 OP (aF 0 a2) λx5=>
 OP (af false 1 z3 x5) λx6=>
 OP (aF 0 b3) λx7=>
 OP (af false 1 z3 x7) λx8=>
 OP (tP false x6 x8) λx9=>
 aJ x9
 (OP (aF 0 a2) λaE=>
 OP (af false 1 z3 aE) λaG=>
 (True)/\
 OP (aF 1 a2) λaM=>
 OP (af false 1 z3 aM) λaC=>
 (True)/\
 OP (aF 1 b3) λaP=>
 OP (af false 1 z3 aP) λaX=>
 (True)/\
 ay P 149 [aC,aX] z3 λaZ z4=>
 (af false 1 z4 aE=some aG/\True)/\
 OP (eG [(.bool false),(.slice none 0 0)] [(0,1,aG),(1,1,aZ)]) λbM=>
 ay P 125 [bM] z4 λbA z5=>
 (True)/\
 OH (aU 2 z5 x4 bA) λ_ z6=>
 (True)/\
 OP (af true 2 z6 x4) λr0=>
 K r0 z6)
 (OP (aF 1 a2) λaR=>
 OP (af false 1 z3 aR) λaI=>
 OP (aF 1 b3) λaS=>
 OP (af false 1 z3 aS) λbL=>
 ay P 126 [aI,bL] z3 λbB z4=>
 OP (aj .geq bB (.int .i64 (0))) λbm=>
 aJ bm
 (OP (aF 0 a2) λbH=>
 OP (af false 1 z4 bH) λbP=>
 (True)/\
 OP (aF 1 a2) λbQ=>
 OP (af false 1 z4 bQ) λcL=>
 (True)/\
 OP (aF 1 b3) λb9=>
 OP (af false 1 z4 b9) λaV=>
 (True)/\
 ay P 128 [cL,aV] z4 λbz z5=>
 (af false 1 z5 bH=some bP/\True)/\
 OP (eG [(.bool false),(.slice none 0 0)] [(0,1,bP),(1,1,bz)]) λdJ=>
 ay P 125 [dJ] z5 λbZ z6=>
 (True)/\
 OH (aU 2 z6 x4 bZ) λ_ z7=>
 (True)/\
 OP (af true 2 z7 x4) λr0=>
 K r0 z7)
 (OP (aF 0 b3) λcA=>
 OP (af false 1 z4 cA) λcB=>
 (True)/\
 OP (aF 1 b3) λaY=>
 OP (af false 1 z4 aY) λbG=>
 (True)/\
 OP (aF 1 a2) λdH=>
 OP (af false 1 z4 dH) λdW=>
 (True)/\
 ay P 128 [bG,dW] z4 λcI z5=>
 (af false 1 z5 cA=some cB/\True)/\
 OP (eG [(.bool false),(.slice none 0 0)] [(0,1,cB),(1,1,cI)]) λcU=>
 ay P 125 [cU] z5 λer z6=>
 (True)/\
 OH (aU 2 z6 x4 er) λ_ z7=>
 (True)/\
 OP (af true 2 z7 x4) λr0=>
 K r0 z7))
theorem azY:au P Zb (aW [.cell true 2 4] K) (cd [a0,b1]) h=Me P K a0 b1 h:=by kernel_rfl
theorem f145 {K:VK} {a0 b1:Value} {h:ae} (H:Me prog K a0 b1 h):ay prog 145 [a0,b1] h K:=
 cC aCB (cE rfl) ((azY prog K a0 b1 h).mpr H)
end
noncomputable section
variable (a0 a1 x2 x6 aE : Value) (h : ae)
def ahe:=cg prog 146 [[],[1,2,6],[1,2,6,10],[],[]]
@[irreducible] def F7:=cD ahe
@[irreducible] def Zc:=F7.r.l.r.l
@[irreducible] def avw:=F7.r.r
@[irreducible] def avx:=Zc.r.l
theorem aCC:ahe=some (14,F7,[.cell true 2 2]):=by kernel_rfl
def WN (_P:Program) (K:VK):ax:=aW [.cell true 2 2] K
def WO:ax:=aH (au P avw (WN P K)) (WN P K)
def ajp:Prop:=aA (au P Zc (WO P K)) [1,2,6] [a1,x2,x6] h
def Sn:Prop:=aA (au P avx (WO P K)) [1,2,6,10] [a1,x2,x6,aE] h
theorem amW:Sn P K a1 x2 x6 aE h=
 (OP (bu x6 aE (.bool false)) λaG=>
 OP (aF 0 a1) λaM=>
 OH (aU 1 h aM aG) λ_ z1=>
 OP (af true 2 z1 a1) λaC=>
 OH (aU 2 z1 x2 aC) λ_ z2=>
 OP (af true 2 z2 x2) λr0=>
 K r0 z2):=aB (by kernel_rfl)
theorem amV:ajp P K a1 x2 x6 h=
 (bO x6 true
 (OP (aF 1 a1) λx7=>
 OP (af false 1 h x7) λx8=>
 OP (aT x8) λx9=>
 OP (aj .gtr x9 (.int .i64 (0))) λaE=>
 Sn P K a1 x2 x6 aE h)
 (Sn P K a1 x2 x6 undef h)):=aB (by kernel_rfl)
def Mf:Prop:=
 OH (cR 55 h a0) λa1 z1=>
 OH (cF 55 [(.bool false),(.slice none 0 0)] z1) λx2 z2=>
 OP (aF 0 a1) λx3=>
 OP (af false 1 z2 x3) λx4=>
 OP (gE .not x4) λx5=>
 ajp P K a1 x2 x5 z2
theorem azZ:au P F7 (aW [.cell true 2 2] K) (cd [a0]) h=Mf P K a0 h:=by kernel_rfl
theorem f146 {K:VK} {a0:Value} {h:ae} (H:Mf prog K a0 h):ay prog 146 [a0] h K:=
 cC aCC (cE rfl) ((azZ prog K a0 h).mpr H)
end
noncomputable section
variable (a0 b1 x5 x6 i7 s8 aP bA aI bL : Value) (L1 : LQ) (xs : List Value) (h : ae)
def ahf:=cg prog 149 [[],[],[],[0,1],[5,6,7],[0,1,5,6,7,14],[0,1,5,6,7,14,18],[0,1,5,6,7,20],[0,1,5,6,7,20,22],[],[],[],[],[0,1,5,7,8],[],[0,1,5,7,8],[0,1,5,6,7],[5],[]]
@[irreducible] def F8:=cD ahf
@[irreducible] def F9:=F8.r.r.l.r.l.l
@[irreducible] def Zi:=F8.r.r.r
@[irreducible] def Zd:=F9.l.l.r.l
@[irreducible] def avC:=F9.l.r
@[irreducible] def N5:=F9.r
@[irreducible] def avB:=Zi.l
@[irreducible] def Ze:=Zd.r.l
@[irreducible] def Zh:=N5.l.l.r.r.l
@[irreducible] def Zg:=N5.r
@[irreducible] def Zf:=Ze.r.l
@[irreducible] def avz:=Zh.r.l
@[irreducible] def avA:=Zg.l
@[irreducible] def avy:=Zf.r.l
theorem aCD:ahf=some (55,F8,[.tmp 4]):=by kernel_rfl
def KR (_P:Program) (K:VK):ax:=aW [.tmp 4] K
def ap8:ax:=aH (au P Zi (KR P K)) (KR P K)
def ap9:ax:=bC 0 (ap8 P K)
def Ad:ax:=aH (λf' aQ=>(([0,1]:List Nat).map f':List Value)=[a0,b1]/\L1 (([5,6,7]:List Nat).map f') aQ) (ap9 P K)
def WR:ax:=aH (au P N5 (Ad P K a0 b1 L1)) (Ad P K a0 b1 L1)
def EP:ax:=aH (au P avC (WR P K a0 b1 L1)) (WR P K a0 b1 L1)
def ap7:ax:=aH (au P Zg (Ad P K a0 b1 L1)) (Ad P K a0 b1 L1)
def WQ:ax:=bC 1 (ap7 P K a0 b1 L1)
def ajt:Prop:=aA (au P F9 (Ad P K a0 b1 L1)) ([0,1]++[5,6,7]) ([a0,b1]++xs) h
def ajq:Prop:=aA (au P Zd (EP P K a0 b1 L1)) [0,1,5,6,7,14] [a0,b1,x5,x6,i7,aP] h
def Sq:Prop:=aA (au P Ze (EP P K a0 b1 L1)) [0,1,5,6,7,14,18] [a0,b1,x5,x6,i7,aP,bA] h
def ajr:Prop:=aA (au P Zf (EP P K a0 b1 L1)) [0,1,5,6,7,20] [a0,b1,x5,x6,i7,aI] h
def Sr:Prop:=aA (au P avy (EP P K a0 b1 L1)) [0,1,5,6,7,20,22] [a0,b1,x5,x6,i7,aI,bL] h
def Bn:Prop:=aA (au P Zh (WQ P K a0 b1 L1)) [0,1,5,7,8] [a0,b1,x5,i7,s8] h
def Jl:Prop:=aA (au P avz (WQ P K a0 b1 L1)) [0,1,5,7,8] [a0,b1,x5,i7,s8] h
def ajs:Prop:=aA (au P avA (Ad P K a0 b1 L1)) [0,1,5,6,7] [a0,b1,x5,x6,i7] h
def Ss:Prop:=aA (au P avB (KR P K)) [5] [x5] h
theorem JM:Sr P K a0 b1 x5 x6 i7 aI bL L1 h=
 (OP (bu aI (.bool true) bL) λbB=>
 aJ bB
 (OP (aT a0) λb9=>
 OP (aj .lss i7 b9) λaV=>
 aJ aV
 (OP (aD 1 a0 i7) λcA=>
 OP (af false 1 h cA) λcB=>
 OP (aj .add x6 cB) λaY=>
 Bn P K a0 b1 x5 i7 aY L1 h)
 (Bn P K a0 b1 x5 i7 x6 L1 h))
 (Ss P K x5 h)):=aB (by kernel_rfl)
theorem Ur:ajr P K a0 b1 x5 x6 i7 aI L1 h=
 (bO aI false
 (OP (aj .gtr x6 (.int .i64 (0))) λbL=>
 Sr P K a0 b1 x5 x6 i7 aI bL L1 h)
 (Sr P K a0 b1 x5 x6 i7 aI undef L1 h)):=aB (by kernel_rfl)
theorem Uq:Sq P K a0 b1 x5 x6 i7 aP bA L1 h=
 (OP (bu aP (.bool true) bA) λaR=>
 ajr P K a0 b1 x5 x6 i7 aR L1 h):=aB (by kernel_rfl)
theorem amX:ajq P K a0 b1 x5 x6 i7 aP L1 h=
 (bO aP false
 (OP (aT b1) λbM=>
 OP (aj .lss i7 bM) λbA=>
 Sq P K a0 b1 x5 x6 i7 aP bA L1 h)
 (Sq P K a0 b1 x5 x6 i7 aP undef L1 h)):=aB (by kernel_rfl)
theorem aEI:Jl P K a0 b1 x5 i7 s8 L1 h=
 (OP (aj .rem s8 (.int .i64 (10000))) λfX=>
 OH (cH 3 1 [(.int .i64 (0))] h [(0,1,fX)]) λiU z1=>
 OH (cT 3 1 8 z1 x5 iU) λee z2=>
 OP (aj .quo s8 (.int .i64 (10000))) λfg=>
 ajs P K a0 b1 ee fg i7 L1 z2):=aB (by kernel_rfl)
theorem aEH:Bn P K a0 b1 x5 i7 s8 L1 h=
 (OP (aT b1) λdW=>
 OP (aj .lss i7 dW) λcI=>
 aJ cI
 (OP (aD 1 b1 i7) λcP=>
 OP (af false 1 h cP) λdC=>
 OP (aj .add s8 dC) λeT=>
 Jl P K a0 b1 x5 i7 eT L1 h)
 (Jl P K a0 b1 x5 i7 s8 L1 h)):=aB (by kernel_rfl)
theorem aEJ:ajs P K a0 b1 x5 x6 i7 L1 h=
 (OP (aj .add i7 (.int .i64 (1))) λbH=>
 ([a0,b1]:List Value)=[a0,b1]/\L1 [x5,x6,bH] h):=aB (by kernel_rfl)
theorem aEL (a0 b1:Value) (L1:LQ) (x5 x6 i7:Value) (h:ae):ajt P K a0 b1 L1 [x5,x6,i7] h=
 (OP (aT a0) λaM=>
 OP (aj .lss i7 aM) λaC=>
 ajq P K a0 b1 x5 x6 i7 aC L1 h):=aB (by kernel_rfl)
theorem aEK:Ss P K x5 h=
 (K x5 h):=aB (by kernel_rfl)
def Mg:Prop:=
 OH (cH 3 0 [(.int .i64 (0))] h []) λx9 z1=>
 bT [x9,(.int .i64 (0)),(.int .i64 (0))] z1 λL1 xs hx=>
 ajt P K a0 b1 L1 xs hx
theorem az0:au P F8 (aW [.tmp 4] K) (cd [a0,b1]) h=Mg P K a0 b1 h:=by kernel_rfl
theorem f149 {K:VK} {a0 b1:Value} {h:ae} (H:Mg prog K a0 b1 h):ay prog 149 [a0,b1] h K:=
 cC aCD (cE rfl) ((az0 prog K a0 b1 h).mpr H)
end
end
end Go.Proofs.YtncaiogfjjepcaaGreat
