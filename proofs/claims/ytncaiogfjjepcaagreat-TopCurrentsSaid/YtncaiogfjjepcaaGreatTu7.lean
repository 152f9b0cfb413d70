/-
  Part 7 of the texts behind a statement of this seat: UKd10, Ea1, Rq1, Ea2, Ea3, Ea4, Rq2, Fa1, Fa2, Fa3, Fa4, Fa5, Fa6, Fa7, Ga1, Ga2, Ga3, Ga4, Ga5, Ga6, Ga7, Gp1, Gp2, Ga8, Ga9, Ga10, Ga11, La1, CG, La2, La3.
-/
import Derived.Test.YtncaiogfjjepcaaGreatProg
import Derived.KernelRfl
import Derived.Test.YtncaiogfjjepcaaGreatTu6
open Bool (false_eq_true)
open Go.Proofs.Tryz (prog)
open Int (gcd mul_comm mul_pos natAbs_mul one_mul)
open List (getD_eq_getElem?_getD getElem?_eq_getElem getElem?_set_self getElem_map length_map map_append map_cons map_const' mem_map mem_range range_succ replicate)
open Nat (le_refl le_trans lt_of_lt_of_le not_lt_zero zero_add zero_le)
open Option (bind_some)
open Rat (divInt)
namespace Go.Proofs.YtncaiogfjjepcaaGreat
open Go.Sim
section
section
variable {va vb : Value} {p q : Rat} {i j : Nat} {h : ae} {K : Value -> ae -> Prop}
theorem hI.neg {k:Nat} {q:Rat} (h:hI k q):hI k (-q):=by
 unfold hI at*
 rw [Rat.neg_num,Rat.neg_den,Int.natAbs_neg]
 exact h
theorem Wj (ha:RV h va p) (hk:∀r h',EX h h'->RV h' r (-p)->K r h'):ay prog 67 [va] h K:=by
 obtain ⟨u,w,rfl,hu,hw⟩:=ha
 have pA:decide ((p.den:Int)<0)=false:=bY (by omega)
 rw [Int.natAbs_natCast] at hw
 rw [pA]
 refine f67 ?_
 have e1:∀(g:ae) (s t:Bool) (v w:Value),cR 92 g (.agg #[B s,v,B t,w])=some (pt g.length 0,g++[.arr 92 [B s,v,B t,w]]):=λ_ _ _ _ _=>rfl
 have e3:∀(g:ae),cF 92 [(.bool false),(.slice none 0 0),(.bool false),(.slice none 0 0)] g=some (pt g.length 0,g++[.arr 92 z4]):=λ_=>rfl
 simp only [M9,e1,e3,aL]
 have q0:EX h (h++[.arr 92 [B (decide (p.num<0)),u,B false,w]]):=EX.append _ _
 have p0:(h++[az.arr 92 [B (decide (p.num<0)),u,B false,w]])[h.length]?=some (.arr 92 [B (decide (p.num<0)),u,B false,w]):=bL
 generalize h++[az.arr 92 [B (decide (p.num<0)),u,B false,w]]=ga at q0 p0⊢
 have q2:EX ga (ga++[.arr 92 z4]):=EX.append _ _
 have p2:(ga++[az.arr 92 z4])[ga.length]?=some (.arr 92 z4):=bL
 generalize ga++[az.arr 92 z4]=gc at q2 p2⊢
 have k0:=q2.get p0
 have x0:=q0.trans q2
 simp only [bP,zero_add,ah,mW k0,true_and]
 refine Wo (a:=p.num) ⟨u,rfl,hu.mono x0⟩ ?_
 intro r1 g6 x6 i1
 simp only [n9 (x6.get k0),n9 k0,ah,true_and]
 have iw:fh g6 (.agg #[B false,w]) (p.den:Int):=fh.nat ((hw.mono x0).mono x6)
 refine HF i1 iw (x0.trans x6) (by have:=q0.1;omega) (x6.get p2) ?_
 intro r h' x hr
 refine hk r h' x ?_
 unfold RV
 rw [Rat.neg_num,Rat.neg_den]
 exact hr
theorem Kw (ha:RV h va p) (hb:RV h vb q) (sp:hI i p) (sq:hI j q) (gE:i+j<=800) (hk:∀r h',EX h h'->RV h' r (p-q)->K r h'):ay prog 39 [va,vb] h K:=by
 have ov:=ha
 have qf:=hb
 obtain ⟨u,w,rfl,hu,hw⟩:=ha
 obtain ⟨u2,w2,rfl,lV,qo⟩:=hb
 refine f39 ?_
 have e1:∀(g:ae) (s t:Bool) (v w:Value),cR 92 g (.agg #[B s,v,B t,w])=some (pt g.length 0,g++[.arr 92 [B s,v,B t,w]]):=λ_ _ _ _ _=>rfl
 have e3:∀(g:ae),cF 92 [(.bool false),(.slice none 0 0),(.bool false),(.slice none 0 0)] g=some (pt g.length 0,g++[.arr 92 z4]):=λ_=>rfl
 simp only [MG,e1,e3,aL]
 generalize decide ((p.den:Int)<0)=t1 at*
 generalize decide ((q.den:Int)<0)=t2 at*
 have q0:EX h (h++[.arr 92 [B (decide (p.num<0)),u,B t1,w]]):=EX.append _ _
 have p0:(h++[az.arr 92 [B (decide (p.num<0)),u,B t1,w]])[h.length]?=some (.arr 92 [B (decide (p.num<0)),u,B t1,w]):=bL
 generalize h++[az.arr 92 [B (decide (p.num<0)),u,B t1,w]]=ga at q0 p0⊢
 have q1:EX ga (ga++[.arr 92 [B (decide (q.num<0)),u2,B t2,w2]]):=EX.append _ _
 have p1:(ga++[az.arr 92 [B (decide (q.num<0)),u2,B t2,w2]])[ga.length]?=some (.arr 92 [B (decide (q.num<0)),u2,B t2,w2]):=bL
 generalize ga++[az.arr 92 [B (decide (q.num<0)),u2,B t2,w2]]=gb at q1 p1⊢
 have q2:EX gb (gb++[.arr 92 z4]):=EX.append _ _
 have p2:(gb++[az.arr 92 z4])[gb.length]?=some (.arr 92 z4):=bL
 generalize gb++[az.arr 92 z4]=gc at q2 p2⊢
 have k0:=(q1.trans q2).get p0
 have k1:=q2.get p1
 have x0:=q0.trans (q1.trans q2)
 have nC:h.length<=gb.length:=(q0.trans q1).1
 simp only [ko k0,ko k1,ah,true_and]
 refine Wj (qf.mono x0) ?_
 intro r1 g6 x6 i1
 simp only [ko (x6.get k0),true_and]
 refine EB ((ov.mono x0).mono x6) i1 sp sq.neg gE ?_
 intro r g7 x7 ir
 rw [<-Rat.sub_eq_add_neg] at ir
 have gy:=x6.trans x7
 have g2:=gy.get p2
 obtain ⟨y,z,rfl,hy,hz⟩:=ir
 exact tp g2 (hk _ _ ((x0.trans gy).set nC _) ⟨y,z,rfl,hy.dK g2 _,hz.dK g2 _⟩)
theorem Kz (ha:RV h va p) (hk:∀h',EX h h'->K (I (zh p.num)) h'):ay prog 84 [va] h K:=by
 obtain ⟨u,w,rfl,hu,hw⟩:=ha
 refine f84 ?_
 have e1:∀(g:ae) (s t:Bool) (v w:Value),cR 92 g (.agg #[B s,v,B t,w])=some (pt g.length 0,g++[.arr 92 [B s,v,B t,w]]):=λ_ _ _ _ _=>rfl
 simp only [No,e1,aL]
 generalize decide ((p.den:Int)<0)=t1 at*
 have q0:EX h (h++[.arr 92 [B (decide (p.num<0)),u,B t1,w]]):=EX.append _ _
 have p0:(h++[az.arr 92 [B (decide (p.num<0)),u,B t1,w]])[h.length]?=some (.arr 92 [B (decide (p.num<0)),u,B t1,w]):=bL
 generalize h++[az.arr 92 [B (decide (p.num<0)),u,B t1,w]]=ga at q0 p0⊢
 simp only [bP,zero_add,ah,mW p0]
 refine Wq (a:=p.num) ⟨u,rfl,hu.mono q0⟩ ?_
 intro h' x'
 exact hk h' (q0.trans x')
end
end
section
open Go.Sim Go.Sort
variable {h : ae} {K : Value -> ae -> Prop} {n : Nat}
theorem RV.dK {h:ae} {v:Value} {q:Rat} {j:Nat} {e:TypeId} {s:Bool} {r:List Value} (p:RV h v q) (hj:h[j]?=some (.arr e (.bool s::r))) (o:az):RV (h.set j o) v q:=nt.dK p hj o
structure FR (S:Nat->Prop) (g g':ae):Prop where
 len:g.length<=g'.length
 iA:∀d<g.length,¬S d->g'[d]?=g[d]?
 rv:∀v q,RV g v q->RV g' v q
namespace FR
variable {S S' : Nat -> Prop} {g g' g2 : ae}
theorem refl (S:Nat->Prop) (g:ae):FR S g g:=⟨le_refl _,λ_ _ _=>rfl,λ_ _ h=>h⟩
theorem trans (a:FR S g g') (b:FR S g' g2):FR S g g2:=⟨le_trans a.len b.len,λd h1 h2=>(b.iA d (lt_of_lt_of_le h1 a.len) h2).trans (a.iA d h1 h2),λv q h=>b.rv v q (a.rv v q h)⟩
theorem ex (x:EX g g'):FR S g g':=⟨x.1,λd h1 _=>x.2 d h1,λ_ _ h=>h.mono x⟩
theorem Vh (a:FR S g g') (h:∀d,S d->S' d):FR S' g g':=⟨a.len,λd h1 h2=>a.iA d h1 λh3=>h2 (h d h3),a.rv⟩
theorem iB {h0:ae} (x:EX h0 g) (a:FR S g g') (hs:∀d,S d->h0.length<=d):EX h0 g':=
 ⟨le_trans x.1 a.len,λd hd=>by rw [a.iA d (lt_of_lt_of_le hd x.1) λh=>by have:=hs d h;omega];exact x.2 d hd⟩
theorem get (a:FR S g g') {d:Nat} {o:az} (hd:¬S d) (hg:g[d]?=some o):g'[d]?=some o:=by
 rw [a.iA d (cm hg).1 hd];exact hg
theorem set {j:Nat} {e:TypeId} {s:Bool} {r:List Value} (hj:g[j]?=some (.arr e (.bool s::r))) (o:az):FR (λd=>d=j) g (g.set j o):=
 ⟨by simp,λd _ h2=>by rw [List.getElem?_set_ne (Ne.symm h2)],λv q p=>p.dK hj o⟩
end FR
abbrev Cl:=Bool×Value×Bool×Value
def cG (c:Cl):List Value:=[B c.1,c.2.1,B c.2.2.1,c.2.2.2]
def lS (n:Nat) (cs:Nat->Cl):List Value:=((List.range n).map λj=>cG (cs j)).flatten
theorem RV.cl {h:ae} {v:Value} {q:Rat} (p:RV h v q):∃c:Cl,v=.agg (cG c).toArray:=by
 obtain ⟨u,w,rfl,_,_⟩:=p
 exact ⟨(_,u,_,w),rfl⟩
structure QL (g:ae) (id n:Nat) (q:Nat->Option Rat):Prop where
 ob:∃cs:Nat->Cl,g[id]?=some (.arr 92 (lS n cs))/\∀j<n,∀r,q j=some r->RV g (.agg (cG (cs j)).toArray) r
theorem ac5 (n:Nat) (cs:Nat->Cl):∀r∈(List.range n).map λj=>cG (cs j),r.length=4:=λr hr=>by
 obtain ⟨j,_,rfl⟩:=mem_map.1 hr
 rfl
theorem xY (n:Nat) (cs:Nat->Cl):(lS n cs).length=n*4:=by
 have:=Cv (ac5 n cs)
 rw [length_map,List.length_range] at this
 exact this
theorem xZ (n:Nat) (cs:Nat->Cl):lS (n+1) cs=lS n cs++cG (cs n):=by
 simp [lS,range_succ]
theorem Hi {n:Nat} {cs ds:Nat->Cl} (h:∀j<n,cs j=ds j):lS n cs=lS n ds:=by
 unfold lS
 congr 1
 exact List.map_congr_left λj hj=>by rw [h j (mem_range.1 hj)]
theorem Hj {n:Nat} (hn:0<n) (cs:Nat->Cl):∃s r,lS n cs=.bool s::r:=by
 obtain ⟨m,rfl⟩:∃m,n=m+1:=⟨n-1,by omega⟩
 unfold lS
 rw [List.range_succ_eq_map]
 exact ⟨(cs 0).1,_,rfl⟩
theorem ayX {n:Nat} (cs:Nat->Cl) {j:Nat} (hj:j<n) (c:Cl):setAt (lS n cs) (j*4) (cG c)=lS n (dU cs j c):=by
 induction n with
 | zero=>omega
 | succ n ih=>
  have l4:(cG c).length=4:=rfl
  have ln:=xY n cs
  by_cases e:j=n
  ·subst e
   rw [xZ,xZ,fL,Hi (ds:=cs) λk hk=>eA _ _ (by omega)]
   unfold setAt
   rw [List.take_left' ln,List.drop_of_length_le (by rw [List.length_append,ln,l4];show j*4+4<=_;omega),List.append_nil]
  ·have Qh:j<n:=by omega
   rw [xZ,xZ,eA _ _ (Ne.symm e),<-ih Qh]
   unfold setAt
   rw [List.take_append_of_le_length (by omega),List.drop_append_of_le_length (by rw [l4];omega),List.append_assoc,List.append_assoc,List.append_assoc]
namespace QL
variable {g g' : ae} {id : Nat} {q : Nat -> Option Rat}
theorem fr {S:Nat->Prop} (p:QL g id n q) (f:FR S g g') (hs:¬S id):QL g' id n q:=
 let ⟨cs,h1,h2⟩:=p.ob
 ⟨cs,f.get hs h1,λj hj r hr=>f.rv _ _ (h2 j hj r hr)⟩
theorem up (p:QL g id n q) (x:EX g g'):QL g' id n q:=p.fr (S:=λ_=>False) (FR.ex x) (λh=>h)
theorem congr {q':Nat->Option Rat} (p:QL g id n q) (h:∀j<n,q' j=q j):QL g id n q':=
 let ⟨cs,h1,h2⟩:=p.ob
 ⟨cs,h1,λj hj r hr=>h2 j hj r (by rw [<-h j hj];exact hr)⟩
theorem lt (p:QL g id n q):id<g.length:=let ⟨_,h1,_⟩:=p.ob;(cm h1).1
theorem dX {j:Nat} (hj:j<n):aD 4 (sl 92 id 0 n) (I j)=some (pt id (j*4)):=by simp [aD,sl,hj]
theorem get (p:QL g id n q) {j:Nat} (hj:j<n) {r:Rat} (hr:q j=some r):∃v,af true 4 g (pt id (j*4))=some v/\RV g v r:=by
 obtain ⟨cs,h1,h2⟩:=p.ob
 have hc:bw g id=some (lS n cs):=by simp [bw,h1]
 have ha:=Cu (ac5 n cs) j (by simpa using hj)
 simp only [getElem_map,List.getElem_range] at ha
 exact ⟨_,UN hc (by rw [xY];omega) ha,h2 j hj r hr⟩
theorem set (p:QL g id n q) {j:Nat} (hj:j<n) {v:Value} {r:Rat} (hv:RV g v r):∃g',aU 4 g (pt id (j*4)) v=some (undef,g')/\FR (λd=>d=id) g g'/\QL g' id n (dU q j (some r)):=by
 obtain ⟨cs,h1,h2⟩:=p.ob
 obtain ⟨c,rfl⟩:=hv.cl
 obtain ⟨s,rr,hh⟩:=Hj (by omega:0<n) cs
 have st:aU 4 g (pt id (j*4)) (.agg (cG c).toArray)=some (undef,g.set id (.arr 92 (lS n (dU cs j c)))):=by
  have hl:=xY n cs
  have l4:(cG c).length=4:=rfl
  rw [<-ayX cs hj c]
  simp only [aU,sA,h1,fV,dL,Value.cells]
  simp [l4,hl]
  omega
 have f:=FR.set (by rw [h1,hh]) (.arr 92 (lS n (dU cs j c)))
 refine ⟨_,st,f,dU cs j c,by rw [getElem?_set_self (cm h1).1],λk hk r' sk=>?_⟩
 by_cases e:k=j
 ·subst e
  rw [fL] at sk⊢
  cases sk
  exact f.rv _ _ hv
 ·rw [eA _ _ e] at sk⊢
  exact f.rv _ _ (h2 k hk r' sk)
end QL
end
end Go.Proofs.YtncaiogfjjepcaaGreat
namespace Go.Sim
section
open Rat
theorem Co (n:Int):((n:Int):Rat)=n /. 1:=by
 rw [Rat.divInt_eq_div]
 have:((1:Int):Rat)=1:=rfl
 rw [this,Rat.div_def]
 have:(1:Rat)⁻¹=1:=by
  have h:=Rat.mul_inv_cancel (1:Rat) (by decide)
  rw [Rat.one_mul] at h
  exact h
 rw [this,Rat.mul_one]
theorem azm {a b d:Int} (hd:d≠0):(a /. d) / (b /. d)=a /. b:=by
 rw [Rat.div_def,Rat.inv_divInt,Rat.divInt_mul_divInt,mul_comm d b,Rat.divInt_mul_right hd]
theorem adv {a b d:Int} (hd:d≠0):(a /. d)-(b /. d)=(a-b) /. d:=by
 rw [Rat.divInt_sub_divInt _ _ hd hd,<-Int.sub_mul,Rat.divInt_mul_right hd]
theorem adu {a b d:Int} (hd:d≠0):(a /. d)+(b /. d)=(a+b) /. d:=by
 rw [Rat.divInt_add_divInt _ _ hd hd,<-Int.add_mul,Rat.divInt_mul_right hd]
theorem azn {x y b m:Int} (hm:m≠0) (hb:b≠0):(x /. m)-(y /. (b*m))=(x*b-y) /. (b*m):=by
 rw [<-Rat.divInt_mul_left (n:=x) (d:=m) hb,adv (Int.mul_ne_zero hb hm),mul_comm b x]
theorem Pd {a b:Int} (hb:b≠0):(a*b) /. b=(a:Rat):=by
 have:=Rat.divInt_mul_right (n:=a) (d:=1) hb
 rw [one_mul] at this
 rw [this,<-Co]
theorem azp (d:Int):(0:Int) /. d=0:=by simp
theorem azk {n d:Int} (hd:0<d):(n /. d).num.natAbs<=n.natAbs/\(n /. d).den<=d.natAbs:=by
 rw [Rat.num_divInt,Rat.den_divInt,if_neg (by omega)]
 have e:d.sign=1:=Int.sign_eq_one_of_pos hd
 rw [e,one_mul]
 constructor
 ·rw [Int.natAbs_ediv_of_dvd (Int.gcd_dvd_right ..)]
  exact Nat.div_le_self _ _
 ·exact Nat.div_le_self _ _
theorem Hu {n d:Int} (hd:0<d) (hn:0<n):0<(n /. d).num:=by
 rw [Rat.num_divInt,Int.sign_eq_one_of_pos hd,one_mul]
 have h1:((gcd d n:Nat):Int) ∣ n:=Int.gcd_dvd_right ..
 have h2:0<((gcd d n:Nat):Int):=by
  have:=Int.gcd_pos_of_ne_zero_right d (show n≠0 by omega)
  omega
 obtain ⟨q,hq⟩:=h1
 rw [hq] at hn
 have:0<q:=by
  rcases Int.lt_trichotomy 0 q with h | h | h
  ·exact h
  ·rw [<-h] at hn;simp at hn
  ·have:=Int.mul_neg_of_pos_of_neg h2 h;omega
 have e:n / ((gcd d n:Nat):Int)=q:=by
  have:n=((gcd d n:Nat):Int)*q:=hq
  exact Int.ediv_eq_of_eq_mul_right (by omega) this
 rw [e];exact this
theorem azl {n d:Int} (hd:0<d):(n /. d).num=0↔n=0:=by
 constructor
 ·intro h
  rcases Int.lt_trichotomy n 0 with c | c | c
  ·have:=Hu hd (show 0< -n by omega)
   rw [<-Rat.neg_divInt,Rat.neg_num] at this
   omega
  ·exact c
  ·have:=Hu hd c;omega
 ·rintro rfl;simp
end
end Go.Sim
namespace Go.Proofs.YtncaiogfjjepcaaGreat
section
open Go.Sim Go.Sort
variable {h : ae} {K : Value -> ae -> Prop} {n : Nat}
theorem mZ {k:Nat} {z:Int} (hz:z.natAbs<10^k) (hk:1<=k):hI k (z:Rat):=by
 refine ⟨by rw [Rat.num_intCast];exact hz,?_⟩
 rw [Rat.den_intCast]
 exact Nat.one_lt_pow (by omega) (by decide)
theorem uc {k:Nat} {a d:Int} (hd:0<d) (ha:a.natAbs<10^k) (hb:d.natAbs<10^k):hI k (divInt a d):=by
 obtain ⟨h1,h2⟩:=azk (n:=a) hd
 exact ⟨Nat.lt_of_le_of_lt h1 ha,Nat.lt_of_le_of_lt h2 hb⟩
theorem mX {z:Int} (h1: -100000<z) (h2:z<100000):z.natAbs<10^5:=by
 show z.natAbs<100000;omega
structure ki (g:ae) (ik n:Nat) (D:Nat->Nat->Int):Prop where
 k:∃cv dv tv,g[ik]?=some (.arr 95 [I n,cv,dv,tv])/\NS g cv .i64 (replicate n 0)/\MI g dv (fQ n D)/\NS g tv .i64 (fz (fQ n D))
 n8:n<=8
 ee:∀i<n,∀j<n,0<=D i j/\D i j<=1000
namespace ki
variable {g g' : ae} {ik : Nat} {D : Nat -> Nat -> Int}
theorem up (m:ki g ik n D) (x:EX g g'):ki g' ik n D:=
 let ⟨cv,dv,tv,a,b,c,d⟩:=m.k
 ⟨⟨cv,dv,tv,x.get a,b.mono x,c.mono x,d.mono x⟩,m.n8,m.ee⟩
theorem lJ (m:ki g ik n D):af false 1 g (pt ik 0)=some (I n):=by
 obtain ⟨cv,dv,tv,a,_⟩:=m.k
 simp [af,bw,a,dS]
theorem OX (m:ki g ik n D) {i:Nat} (hi:i<n):∃v b o,af false 1 g (pt ik 1)=some v/\aD 1 v (I i)=some (pt b o)/\af false 1 g (pt b o)=some (I 0):=by
 obtain ⟨cv,dv,tv,a,c,_⟩:=m.k
 obtain ⟨b,o,e1,e2⟩:=c.get i (by simpa using hi)
 rw [List.getElem_replicate] at e2
 exact ⟨cv,b,o,by simp [af,bw,a,dS],e1,e2⟩
theorem zM (m:ki g ik n D) {i:Nat} (hi:i<n):∃v b o,af false 1 g (pt ik 3)=some v/\aD 1 v (I i)=some (pt b o)/\af false 1 g (pt b o)=some (I (di n D i)):=by
 obtain ⟨cv,dv,tv,a,_,_,c⟩:=m.k
 obtain ⟨b,o,e1,e2⟩:=c.get i (by simpa [fz,fQ] using hi)
 refine ⟨tv,b,o,by simp [af,bw,a,dS],e1,?_⟩
 rw [e2]
 simp [fz,fQ,di,sg]
theorem Pe (m:ki g ik n D) {i j:Nat} (hi:i<n) (hj:j<n):∃v b o w b' o',af false 1 g (pt ik 2)=some v/\aD 1 v (I i)=some (pt b o)/\af false 1 g (pt b o)=some w/\aD 1 w (I j)=some (pt b' o')/\af false 1 g (pt b' o')=some (I (D i j)):=by
 obtain ⟨cv,dv,tv,a,_,c,_⟩:=m.k
 obtain ⟨b,o,rv,e1,e2,e3⟩:=c.get i (by simpa [fQ] using hi)
 obtain ⟨b',o',f1,f2⟩:=e3.get j (by simpa [fQ] using hj)
 refine ⟨dv,b,o,rv,b',o',by simp [af,bw,a,dS],e1,e2,f1,?_⟩
 rw [f2]
 simp [fQ]
theorem pX (m:ki g ik n D) {i:Nat} (hi:i<n):0<=di n D i/\di n D i<=8000:=by
 have h1:=vN λj hj=>(m.ee i hi j hj).1
 have h2:di n D i<=sg n λ_=>1000:=sK λj hj=>(m.ee i hi j hj).2
 have h3:∀n:Nat,sg n (λ_=>1000)=1000*n:=λn=>by
  induction n with
  | zero=>rfl
  | succ n ih=>rw [kG,ih];omega
 rw [h3] at h2
 have:=m.n8
 exact ⟨h1,by omega⟩
end ki
theorem rR (g:ae):cF 92 [(.bool false),(.slice none 0 0),(.bool false),(.slice none 0 0)] g=some (pt g.length 0,g++[.arr 92 z4]):=rfl
theorem RV.put {h0 g:ae} {j:Nat} {s:Bool} {x y z:Value} {v:Value} {q:Rat} (p:RV g v q) (x0:EX h0 g) (hj:h0.length<=j) (hg:g[j]?=some (.arr 92 [.bool s,x,y,z])):
  ∃g',aU 4 g (pt j 0) v=some (undef,g')/\EX h0 g'/\af true 4 g' (pt j 0)=some v/\RV g' v q/\FR (λd=>d=j) g g'/\∃c:Cl,g'[j]?=some (.arr 92 (cG c))/\v=.agg (cG c).toArray:=by
 obtain ⟨c,rfl⟩:=p.cl
 have st:=J9 (x:=B c.1) (y:=c.2.1) (z:=B c.2.2.1) (w:=c.2.2.2) hg
 have f:=FR.set (g:=g) (j:=j) hg (.arr 92 (cG c))
 have hl:=(cm hg).1
 have g2:(g.set j (.arr 92 (cG c)))[j]?=some (.arr 92 (cG c)):=by rw [getElem?_set_self hl]
 exact ⟨_,st,x0.set hj _,ko g2,f.rv _ _ p,f,c,g2,rfl⟩
def qE (n:Nat) (D:Nat->Nat->Int) (j i:Nat):Rat:=divInt (D j i) (di n D j)
theorem ki.HG {g:ae} {ik:Nat} {D:Nat->Nat->Int} (m:ki g ik n D) {i j:Nat} (hi:i<n) (hj:j<n):D i j<=di n D i:=by
 have h1:(sg n λq=>if q=j then D i j else 0)<=di n D i:=sK λq hq=>by
  have:=(m.ee i hi q hq).1
  by_cases e:q=j
  ·subst e;rw [if_pos rfl];exact Int.le_refl _
  ·rw [if_neg e];exact this
 rwa [sL hj] at h1
theorem Wi {ik j i:Nat} {D:Nat->Nat->Int} (m:ki h ik n D) (hj:j<n) (hi:i<n) (hk:∀r g,EX h g->RV g r (qE n D j i)->K r g):ay prog 66 [pt ik 0,I j,I i] h K:=by
 refine f66 ?_
 unfold M8
 have x1:EX h (h++[.arr 92 z4]):=EX.append _ _
 have c1:(h++[az.arr 92 z4])[h.length]?=some (.arr 92 z4):=bL
 simp only [rR,aL]
 have m1:=m.up x1
 have hl:h.length<=h.length:=le_refl _
 generalize h++[az.arr 92 z4]=g1 at x1 c1 m1⊢
 obtain ⟨tv,tb,to,l1,l2,l3⟩:=m1.zM hj
 have rb:=m.pX hj
 have de:=m.ee j hj i hi
 have dl:=m.HG hj hi
 simp only [gH,bP,zero_add,ah,l1,l2,l3,jD]
 by_cases h0:di n D j=0
 ·rw [dh h0]
  simp only [gf]
  refine pL (by omega) (by omega) λr g2 x2 hr=>?_
  obtain ⟨g3,s1,x3,ld,r3,_⟩:=hr.put (x1.trans x2) hl (x2.get c1)
  simp only [s1,aL,ld,ah]
  refine hk r g3 x3 ?_
  have:qE n D j i=((0:Int):Rat):=by unfold qE;rw [h0];simp
  rw [this];exact r3
 ·rw [bY h0]
  obtain ⟨dv,b,o,w,b',o',e1,e2,e3,e4,e5⟩:=m1.Pe hj hi
  simp only [dm,gH,bP,zero_add,ah,e1,e2,e3,e4,e5,true_and]
  refine pL (by omega) (by omega) λr g2 x2 hr=>?_
  have k1:=EX.load x2 l1
  have k3:=EX.load x2 l3
  simp only [gH,bP,zero_add,ah,k1,l1,l2,k3,l3,true_and,and_true]
  refine pL (by omega) (by omega) λr2 g3 x3 CZ=>?_
  refine KB (i:=5) (j:=5) (hr.mono x3) CZ (by rw [Rat.num_intCast];omega) (mZ (mX (by omega) (by omega)) (by omega)) (mZ (mX (by omega) (by omega)) (by omega)) (by omega) λr4 g4 x4 yN=>?_
  obtain ⟨g5,s1,x5,ld,r5,_⟩:=yN.put (((x1.trans x2).trans x3).trans x4) hl (((x2.trans x3).trans x4).get c1)
  simp only [true_and,s1,aL,ld,ah]
  refine hk r4 g5 x5 ?_
  have:qE n D j i=(D j i:Rat) / (di n D j:Rat):=Rat.divInt_eq_div _ _
  rw [this];exact r5
end
section
open Go.Sim Go.Sort
variable {h : ae} {K : Value -> ae -> Prop} {n : Nat}
def mw (n:Nat) (D:Nat->Nat->Int) (P:Nat->Int) (i:Nat):Int:=sg n λj=>if P j=0 then 0 else D j i
theorem aDu {D:Nat->Nat->Int} {j i:Nat} {P:Int} (hP:P=0∨P=di n D j):(P:Rat)*qE n D j i=((if P=0 then 0 else D j i:Int):Rat):=by
 unfold qE
 rw [Co P,Rat.divInt_mul_divInt,one_mul]
 by_cases h0:P=0
 ·rw [if_pos h0,h0];simp
 ·rw [if_neg h0,<-hP.resolve_left h0,mul_comm,Pd h0]
theorem PV {ik:Nat} {D:Nat->Nat->Int} (m:ki h ik n D) (P:Nat->Int) {i:Nat} (hi:i<n) {k:Nat} (hk:k<=n):0<=mw k D P i/\mw k D P i<=8000:=by
 have h1:0<=mw k D P i:=vN λj hj=>by
  have:=(m.ee j (by omega) i hi).1
  split <;> omega
 have h2:mw k D P i<=sg k λ_=>1000:=sK λj hj=>by
  have:=(m.ee j (by omega) i hi).2
  split <;> omega
 have h3:∀n:Nat,sg n (λ_=>1000)=1000*n:=λn=>by
  induction n with
  | zero=>rfl
  | succ n ih=>rw [kG,ih];omega
 rw [h3] at h2
 have:=m.n8
 exact ⟨h1,by omega⟩
theorem ED {ik ip i:Nat} {D:Nat->Nat->Int} {P:Nat->Int} {q:Nat->Option Rat} (m:ki h ik n D) (hi:i<n) (pq:QL h ip n q) (hq:∀j<n,q j=some (P j:Rat)) (hP:∀j<n,P j=0∨P j=di n D j)
  (hk:∀r g,EX h g->RV g r (mw n D P i:Rat)->K r g):ay prog 38 [pt ik 0,I i,sl 92 ip 0 n] h K:=by
 have n8:=m.n8
 refine f38 ?_
 unfold MF
 have x1:EX h (h++[.arr 92 z4]):=EX.append _ _
 have c1:(h++[az.arr 92 z4])[h.length]?=some (.arr 92 z4):=bL
 simp only [rR,aL]
 have m1:=m.up x1
 have Rp:h.length<(h++[az.arr 92 z4]).length:=by simp
 generalize hx:h.length=ix at c1 Rp⊢
 have hl:h.length<=ix:=by omega
 generalize h++[az.arr 92 z4]=g1 at x1 c1 m1 Rp⊢
 obtain ⟨cv,cb,co,l1,l2,l3⟩:=m1.OX hi
 simp only [gH,bP,zero_add,ah,l1,l2,l3]
 refine pL (by omega) (by omega) λr g2 x2 hr=>?_
 have x3:EX g2 (g2++[.arr 92 z4]):=EX.append _ _
 have c3:(g2++[az.arr 92 z4])[g2.length]?=some (.arr 92 z4):=bL
 have nix:ix≠g2.length:=by have:=x2.1;omega
 have Rm:h.length<=g2.length:=(x1.trans x2).1
 generalize g2.length=is at c3 nix Rm⊢
 obtain ⟨g4,s1,x4,ld,r4,_,c,hc,rfl⟩:=(hr.mono x3).put ((x1.trans x2).trans x3) Rm c3
 have sW:g4[ix]?=some (.arr 92 z4):=by
  have f:=FR.set (g:=g2++[az.arr 92 z4]) (j:=is) c3 (.arr 92 (cG c))
  have e:g4=(g2++[az.arr 92 z4]).set is (.arr 92 (cG c)):=by
   have:=J9 (x:=B c.1) (y:=c.2.1) (z:=B c.2.2.1) (w:=c.2.2.2) c3
   have e1:aU 4 (g2++[az.arr 92 z4]) (pt is 0) (.agg (cG c).toArray)=some (undef,(g2++[az.arr 92 z4]).set is (.arr 92 (cG c))):=this
   rw [s1] at e1
   cases e1;rfl
  rw [e]
  exact f.get (by omega) ((x2.trans x3).get c1)
 have m4:=m.up x4
 simp only [s1,aL,gH,bP,zero_add,ah,m4.lJ]
 refine cN (σ:=Nat×Cl×ae) (λq=>[I q.1]) (λq=>q.2.2) (λq=>q.1<=n/\EX h q.2.2/\q.2.2[is]?=some (.arr 92 (cG q.2.1))/\q.2.2[ix]?=some (.arr 92 z4)/\RV q.2.2 (.agg (cG q.2.1).toArray) (mw q.1 D P i:Rat)) (λq=>n-q.1)
  (0,c,g4) rfl rfl ⟨zero_le _,x4,hc,sW,r4⟩ ?_
 rintro ⟨k,c,g⟩ ⟨fD,xg,hc,yU,hr⟩ L hL
 simp only at fD xg hc yU hr hL⊢
 rw [aGi]
 simp only [bT,ah,cd]
 refine ⟨λaw=>?_,λcK=>?_⟩
 ·have aw:k<n:=by omega
  have lc:af true 4 g (pt is 0)=some (.agg (cG c).toArray):=ko hc
  obtain ⟨vp,lp,rp⟩:=(pq.up xg).get aw (hq k aw)
  simp only [lc,ah,true_and,QL.dX aw,lp]
  refine Wi (m.up xg) aw hi λr5 g5 x5 lH=>?_
  have IK:=EX.load x5 lc
  have lp5:=EX.load x5 lp
  have b1:=m.ee k aw i hi
  have b2:=m.pX aw
  have b3:=m.HG aw hi
  have sh:hI 5 (qE n D k i):=by
   by_cases h0:di n D k=0
   ·unfold qE
    rw [h0]
    exact ⟨by simp,by simp⟩
   ·exact uc (by omega) (mX (by omega) (by omega)) (mX (by omega) (by omega))
  have bp:hI 5 (P k:Rat):=mZ (mX (by have:=hP k aw;omega) (by have:=hP k aw;omega)) (by omega)
  simp only [IK,lp5,true_and,and_true]
  refine EH (rp.mono x5) lH bp sh (by omega) λr6 g6 x6 yO=>?_
  have lc6:=EX.load x6 IK
  rw [aDu (hP k aw)] at yO
  have hb:=PV m P hi (k:=k) (by omega)
  have AK:=PV m P hi (k:=k+1) (by omega)
  have hs:mw (k+1) D P i=mw k D P i+(if P k=0 then 0 else D k i):=kG _ _
  simp only [lc6,true_and,and_true]
  refine EB (hr.mono (x5.trans x6)) yO (mZ (mX (by omega) (by omega)) (by omega)) (mZ (mX (by split <;> omega) (by split <;> omega)) (by omega)) (by omega) λr7 g7 x7 It=>?_
  rw [<-Rat.intCast_add,<-hs] at It
  have fY:=(x5.trans x6).trans x7
  obtain ⟨g8,s8,x8,ld8,r8,f8,c8,hc8,rfl⟩:=It.put (xg.trans fY) Rm (fY.get hc)
  simp only [s8,aL,true_and,bZ,ah]
  rw [dQ k (by simp [maxLen];omega)]
  exact hL (k+1,c8,g8) ⟨aw,x8,hc8,f8.get (by omega) (fY.get yU),r8⟩ (by show n-(k+1)<n-k;omega)
 ·have eX:k=n:=by omega
  subst eX
  rw [aGh]
  have lc:af true 4 g (pt is 0)=some (.agg (cG c).toArray):=ko hc
  obtain ⟨g9,s9,x9,ld9,r9,_⟩:=hr.put xg hl yU
  simp only [lc,ah,s9,aL,ld9]
  exact hk _ g9 x9 r9
end
section
open Go.Sim Go.Sort
variable {h : ae} {K : Value -> ae -> Prop} {n : Nat}
theorem EA {eY:Nat} {iQ:Nat->Nat} {D:Nat->Nat->Int} {cv:Value} (n1:1<=n) (ee:∀i<n,∀j<n,0<=D i j/\D i j<=1000) (diag:∀i<n,D i i=0) (md:MR h eY iQ n D) (nc:NS h cv .i64 (replicate n 0))
  (hk:∀g ik,EX h g->ki g ik n D->K (.tuple #[pt ik 0,B true]) g):ay prog 31 [cv,sl 34 eY 0 n] h K:=by
 have n8:=md.n8
 have mk:=lB.of n1 n8 ee diag
 refine f31 ?_
 unfold My
 refine V7 md.mi mk ?_
 simp only [kW,Bool.not_true,ah]
 rw [aFQ]
 have lc:=nc.len
 rw [List.length_replicate] at lc
 have ld:aT (sl 34 eY 0 n)=some (I n):=rfl
 simp only [eW,lc,ld,ah,iE,decide_true,Bool.not_true]
 rw [aFR]
 simp only [dA,ah]
 rw [aFS]
 simp only [eW]
 refine Wb nc (λx hx=>by rw [List.eq_of_mem_replicate hx];omega) ?_
 simp only [kW,Bool.not_true,ah]
 rw [aFK]
 obtain ⟨ct1,ct2⟩:=aKp lc
 have bl:eI [(.int .i64 (0)),(.slice none 0 0),(.slice none 0 0),(.slice none 0 0)] [(0,1,I n),(1,1,cv),(2,1,sl 34 eY 0 n)]=some (.agg #[I n,cv,sl 34 eY 0 n,.slice none 0 0]):=by
  simp [eI,jE,setAt,ct1,ct2]
  simp [fV,dL,Value.cells,sl]
 have bx:cR 95 h (.agg #[I n,cv,sl 34 eY 0 n,.slice none 0 0])=some (pt h.length 0,h++[.arr 95 [I n,cv,sl 34 eY 0 n,.slice none 0 0]]):=rfl
 simp only [dA,ah,dm,lc,bl,bx,aL,ld]
 have x1:EX h (h++[.arr 95 [I n,cv,sl 34 eY 0 n,.slice none 0 0]]):=EX.append _ _
 have c1:(h++[az.arr 95 [I n,cv,sl 34 eY 0 n,.slice none 0 0]])[h.length]?=some (.arr 95 [I n,cv,sl 34 eY 0 n,.slice none 0 0]):=bL
 have rl:(fz (fQ n D)).length=n:=by simp [fz,fQ]
 refine cN (σ:=Nat×Value×ae) (λq=>[I q.1]) (λq=>q.2.2) (λq=>q.1<=n/\EX h q.2.2/\q.2.2[h.length]?=some (.arr 95 [I n,cv,sl 34 eY 0 n,q.2.1])/\gB (h.length+1) q.2.2 3 q.2.1 (((fz (fQ n D)).take q.1).map I)) (λq=>n-q.1)
  (0,.slice none 0 0,_) rfl rfl ⟨zero_le _,x1,c1,.inl ⟨rfl,by simp⟩⟩ ?_
 rintro ⟨k,tv,g⟩ ⟨fD,xg,hg,own⟩ L hL
 simp only at fD xg hg own hL⊢
 rw [aFL]
 simp only [bT,ah,cd]
 refine ⟨λaw=>?_,λcK=>?_⟩
 ·have aw:k<n:=by omega
  obtain ⟨b,o,rv,r,ad,lr,ns,hr,C1,rl2⟩:=(md.up xg).mi.row mk aw
  have rb:=mk.pX r hr
  have le:=ns.le
  simp only [ad,lr,ah,ns.len]
  refine cN (σ:=Nat) (λq=>[I (r.take q).sum,I q]) (λq=>g) (λq=>q<=r.length) (λq=>r.length-q) 0 (by simp) rfl (zero_le _) ?_
  intro j hj L2 dP
  rw [aFM]
  simp only [bT,ah,cd]
  refine ⟨λdM=>?_,λcK=>?_⟩
  ·have dM:j<r.length:=by omega
   obtain ⟨b3,o3,uC,rD⟩:=ns.get j dM
   have f1:=rb j
   have f2:=rb (j+1)
   have f3:=D6 dM
   simp only [uC,rD,ah,bZ,true_and]
   rw [dQ j (by omega),wrap64 (by omega) (by omega),<-f3]
   exact dP (j+1) dM (by omega)
  ·have hjr:j=r.length:=by omega
   have ltv:af false 1 g (pt h.length 3)=some tv:=by simp [af,bw,hg,dS]
   rw [aFN,hjr,List.take_length]
   simp only [gH,bP,zero_add,ah,ltv]
   have uZ:=(cm hg).1
   have tl:(((fz (fQ n D)).take k).map I).length=k:=by rw [length_map,List.length_take];omega
   refine BX own (by rw [tl];omega) (by rw [tl];simp [maxLen];omega) rfl rfl ?_
   intro h1 g2 _ PM iA kL
   have kp:∀d,d<g.length->d<=h.length->g2[d]?=g[d]?:=λd h1 h2=>iA d h1 λq hv=>by have:=(own.lt hv).1;omega
   have CK:g2[h.length]?=some (.arr 95 [I n,cv,sl 34 eY 0 n,tv]):=by rw [kp _ uZ (le_refl _)];exact hg
   have x2:EX h g2:=⟨by have:=xg.1;omega,λd hd=>by rw [kp d (lt_of_lt_of_le hd xg.1) (by omega)];exact xg.2 d hd⟩
   have st:=kz CK (o:=3) (v:=sl 3 (g.length+1) 0 ((((fz (fQ n D)).take k).map I).length+1)) (by simp) rfl rfl
   simp only [aL,gH,bP,zero_add,ah,st]
   rw [aFO]
   simp only [bZ,ah,true_and]
   rw [dQ k (by simp [maxLen];omega)]
   refine hL (k+1,sl 3 (g.length+1) 0 ((((fz (fQ n D)).take k).map I).length+1),_) ⟨aw,x2.set (le_refl _) _,?_,.inr ⟨g.length+1,by omega,?_,?_⟩⟩ (by show n-(k+1)<n-k;omega)
   ·exact getElem?_set_self (by omega)
   ·have e:(((fz (fQ n D)).take (k+1)).map I).length=(((fz (fQ n D)).take k).map I).length+1:=by rw [tl,length_map,List.length_take];omega
    show sl 3 _ 0 _=sl 3 _ 0 (((fz (fQ n D)).take (k+1)).map I).length
    rw [e]
   ·have e:((fz (fQ n D)).take (k+1)).map I=((fz (fQ n D)).take k).map I++[I r.sum]:=by
     rw [List.take_succ_eq_append_getElem (by omega),map_append]
     have:(fz (fQ n D))[k]'(by omega)=r.sum:=by
      have h2:=cm C1
      obtain ⟨h3,h4⟩:=h2
      simp only [fz,getElem_map,h4]
     simp [this]
    show (g2.set h.length _)[g.length+1]?=_
    rw [e,List.getElem?_set_ne (by omega)]
    exact kL
 ·have eX:k=n:=by omega
  subst eX
  have e:((fz (fQ k D)).take k)=fz (fQ k D):=List.take_of_length_le (by omega)
  rw [e] at own
  rw [aFP]
  refine hk g h.length xg ⟨⟨cv,sl 34 eY 0 k,tv,hg,nc.mono xg,(md.up xg).mi,?_⟩,n8,ee⟩
  rcases own with ⟨_,h2⟩ | ⟨i,_,rfl,h3⟩
  ·have:=congrArg List.length h2
   rw [length_map,rl] at this
   simp at this;omega
  ·rw [length_map]
   exact NS.arr h3 (by rw [rl];simp [maxLen];omega)
theorem Kv {ip:Nat} {q:Nat->Option Rat} {P:Nat->Int} (n8:n<=8) (pq:QL h ip n q) (hq:∀j<n,q j=some (P j:Rat)) (hP:∀j<n,0<=P j/\P j<=8000)
  (hk:∀v g,EX h g->gB h.length g 53 v ((List.range n).map λj=>S (kr (P j)))->K (.tuple #[v,I 0]) g):ay prog 33 [sl 92 ip 0 n] h K:=by
 refine f33 ?_
 unfold MA
 have ld:aT (sl 92 ip 0 n)=some (I n):=rfl
 simp only [ld,ah]
 refine cN (σ:=Nat×Value×ae) (λq=>[q.2.1,I q.1]) (λq=>q.2.2) (λq=>q.1<=n/\EX h q.2.2/\gB h.length q.2.2 53 q.2.1 ((List.range q.1).map λj=>S (kr (P j)))) (λq=>n-q.1)
  (0,.slice none 0 0,h) rfl rfl ⟨zero_le _,EX.refl _,.inl ⟨rfl,rfl⟩⟩ ?_
 rintro ⟨k,vo,g⟩ ⟨fD,xg,own⟩ L hL
 simp only at fD xg own hL⊢
 rw [aFY]
 simp only [bT,ah,cd]
 refine ⟨λaw=>?_,λcK=>?_⟩
 ·have aw:k<n:=by omega
  obtain ⟨vp,lp,rp⟩:=(pq.up xg).get aw (hq k aw)
  have x1:EX g (g++[.arr 92 z4]):=EX.append _ _
  have c1:(g++[az.arr 92 z4])[g.length]?=some (.arr 92 z4):=bL
  have b:=hP k aw
  simp only [QL.dX aw,lp,ah,rR,aL]
  obtain ⟨g2,s2,x2,jk,r2,f2,_⟩:=(rp.mono x1).put (h0:=g) x1 (le_refl _) c1
  simp only [s2,aL,jk,ah]
  have rv:nt g2 vp (P k) 1:=by
   have:=r2
   unfold RV at this
   rw [Rat.num_intCast,Rat.den_intCast] at this
   exact this
  refine C55 rv (lt_of_lt_of_le (show (P k).natAbs<10^5 from (show (P k).natAbs<100000 by omega)) (zB (by omega))) λg3 x3=>?_
  simp only [fM,gi,gj,ah,iE,decide_true,Bool.not_true,dm]
  refine Yg (own.iA λd m hv hd=>?_) (xg.trans (x2.trans x3)) (by simp;omega) (by simp [maxLen];omega) rfl rfl λv5 g5 x5 R2=>?_
  ·have:=(own.lt hv).2.1
   exact (x2.trans x3).2 d this
  ·simp only [bZ,ah,true_and]
   rw [dQ k (by simp [maxLen];omega)]
   refine hL (k+1,v5,g5) ⟨aw,x5,?_⟩ (by show n-(k+1)<n-k;omega)
   show gB h.length g5 53 v5 ((List.range (k+1)).map λj=>S (kr (P j)))
   rw [range_succ,map_append]
   exact R2
 ·have eX:k=n:=by omega
  subst eX
  rw [aFX]
  exact hk vo g xg own
end
end Go.Proofs.YtncaiogfjjepcaaGreat
namespace Go.Sim
section
def fR (k n:Nat) (f:Nat->Int):Int:=sg n λi=>if k<=i then f i else 0
theorem DY {k n:Nat} (hk:k<n) (f:Nat->Int):fR k n f=f k+fR (k+1) n f:=by
 unfold fR
 rw [<-sL hk (f k),<-oR]
 refine gp λi _=>?_
 by_cases e:i=k
 ·subst e;rw [if_pos (le_refl _),if_pos rfl,if_neg (by omega)];omega
 ·rw [if_neg e]
  by_cases h:k<=i
  ·rw [if_pos h,if_pos (by omega)];omega
  ·rw [if_neg h,if_neg (by omega)];omega
theorem anK {k n:Nat} {f g:Nat->Int} (h:∀i,k<=i->i<n->f i=g i):fR k n f=fR k n g:=by
 refine gp λi hi=>?_
 by_cases e:k<=i
 ·rw [if_pos e,if_pos e,h i e hi]
 ·rw [if_neg e,if_neg e]
theorem JZ (k n:Nat) (c:Int) (f:Nat->Int):fR k n (λi=>c*f i)=c*fR k n f:=by
 unfold fR
 rw [<-vM]
 refine gp λi _=>?_
 by_cases e:k<=i
 ·rw [if_pos e,if_pos e]
 ·rw [if_neg e,if_neg e];simp
theorem anL (k n:Nat) (f g:Nat->Int):fR k n (λi=>f i-g i)=fR k n f-fR k n g:=by
 unfold fR
 rw [<-xj]
 refine gp λi _=>?_
 by_cases e:k<=i
 ·rw [if_pos e,if_pos e,if_pos e]
 ·rw [if_neg e,if_neg e,if_neg e];simp
theorem aKj {k n:Nat} {f:Nat->Int} (h:∀i,k<=i->i<n->f i<=0):fR k n f<=0:=by
 have:=sK (n:=n) (f:=λi=>if k<=i then f i else 0) (g:=λ_=>0) λi hi=>by
  by_cases e:k<=i
  ·rw [if_pos e];exact h i e hi
  ·rw [if_neg e];exact Int.le_refl _
 rwa [mY] at this
theorem aKi (n:Nat) (f:Nat->Int):fR n n f=0:=by
 unfold fR
 rw [gp (g:=λ_=>0) λi hi=>if_neg (by omega),mY]
def pY:Nat->Nat
 | 0=>4
 | k+1=>2*pY k+1
def ue:Nat->Nat
 | 0=>1
 | k+1=>pY k+ue k
structure lQ (n k:Nat) (t y:Nat->Int) (A:Nat->Nat->Rat) (N:Nat->Nat->Int) (d:Int):Prop where
 d0:0<d
 dl:d.natAbs<10^ue k
 ee:∀r,k<=r->r<n->∀c,k<=c->c<=n->A r c=divInt (N r c) (d*t c)
 bd:∀r,k<=r->r<n->∀c,k<=c->c<=n->(N r c).natAbs<10^pY k
 off:∀r,k<=r->r<n->∀c,k<=c->c<n->r≠c->N r c<=0
 Ch:∀c,k<=c->c<n->0<fR k n λr=>y r*N r c
 row:∀r,k<=r->r<n->fR k n (λc=>N r c)=N r n
structure Fy (n i:Nat) (t:Nat->Int) (A:Nat->Rat) (N:Nat->Int) (d:Int):Prop where
 d0:0<d
 dl:d.natAbs<10^ue i
 ee:∀c,i<=c->c<=n->A c=divInt (N c) (d*t c)
 bd:∀c,i<=c->c<=n->(N c).natAbs<10^pY i
 piv:0<N i
 row:fR i n (λc=>N c)=N n
namespace lQ
variable {n k : Nat} {t y : Nat -> Int} {A : Nat -> Nat -> Rat} {N : Nat -> Nat -> Int} {d : Int}
theorem piv (x:lQ n k t y A N d) (hk:k<n) (hy:∀r<n,0<y r):0<N k k:=by
 have h1:=x.Ch k (le_refl _) hk
 rw [DY hk] at h1
 have h2:fR (k+1) n (λr=>y r*N r k)<=0:=aKj λr hr hn=>by
  have:=x.off r (by omega) hn k (le_refl _) hk (by omega)
  exact Int.mul_nonpos_of_nonneg_of_nonpos (by have:=hy r hn;omega) this
 have h3:0<y k*N k k:=by omega
 exact Int.pos_of_mul_pos_right h3 (by have:=hy k hk;omega)
theorem done (x:lQ n k t y A N d) (hk:k<n) (hy:∀r<n,0<y r):Fy n k t (A k) (N k) d:=
 ⟨x.d0,x.dl,λc h1 h2=>x.ee k (le_refl _) hk c h1 h2,λc h1 h2=>x.bd k (le_refl _) hk c h1 h2,x.piv hk hy,x.row k (le_refl _) hk⟩
theorem elim (x:lQ n k t y A N d) (ht:∀c≤n,0<t c) (hk:k<n) (hy:∀r<n,0<y r) {r c:Nat} (kR:k<=r) (hr:r<n) (oz:k<=c) (hc:c<=n):
  A r k / A k k=divInt (N r k) (N k k)/\divInt (N r k) (N k k)*A k c=divInt (N r k*N k c) (N k k*(d*t c))/\
   A r c-divInt (N r k*N k c) (N k k*(d*t c))=divInt (N r c*N k k-N r k*N k c) (N k k*d*t c):=by
 have hp:=x.piv hk hy
 have hd:=x.d0
 have QM:=ht k (by omega)
 have htc:=ht c hc
 have n1:d*t k≠0:=by have:=mul_pos hd QM;omega
 have n2:d*t c≠0:=by have:=mul_pos hd htc;omega
 refine ⟨?_,?_,?_⟩
 ·rw [x.ee r kR hr k (le_refl _) (by omega),x.ee k (le_refl _) hk k (le_refl _) (by omega),azm n1]
 ·rw [x.ee k (le_refl _) hk c oz hc,Rat.divInt_mul_divInt]
 ·rw [x.ee r kR hr c oz hc,azn n2 (by omega),Int.mul_assoc]
theorem stay (x:lQ n k t y A N d) (hk:k<n) (hy:∀r<n,0<y r) {r c:Nat} (kR:k<=r) (hr:r<n) (oz:k<=c) (hc:c<=n) (h0:N r k=0):
  A r c=divInt (N r c*N k k-N r k*N k c) (N k k*d*t c):=by
 have hp:=x.piv hk hy
 rw [x.ee r kR hr c oz hc,h0,Int.zero_mul,Int.sub_zero,mul_comm (N r c),Int.mul_assoc,Rat.divInt_mul_left (by omega)]
theorem next (x:lQ n k t y A N d) (hk:k<n) (hy:∀r<n,0<y r) {A':Nat->Nat->Rat}
  (hA:∀r,k<r->r<n->∀c,k<c->c<=n->A' r c=divInt (N r c*N k k-N r k*N k c) (N k k*d*t c)):
  lQ n (k+1) t y A' (λr c=>N r c*N k k-N r k*N k c) (N k k*d):=by
 have hp:=x.piv hk hy
 have hd:=x.d0
 refine ⟨mul_pos hp hd,?_,λr h1 h2 c h3 h4=>hA r h1 h2 c h3 h4,λr h1 h2 c h3 h4=>?_,λr h1 h2 c h3 h4 b7=>?_,λc h1 h2=>?_,λr h1 h2=>?_⟩
 ·rw [natAbs_mul]
  show _<10^(pY k+ue k)
  rw [Nat.pow_add]
  exact Nat.mul_lt_mul'' (x.bd k (le_refl _) hk k (le_refl _) (by omega)) x.dl
 ·have b1:=x.bd r (by omega) h2 c (by omega) h4
  have b2:=x.bd k (le_refl _) hk k (le_refl _) (by omega)
  have b3:=x.bd r (by omega) h2 k (le_refl _) (by omega)
  have b4:=x.bd k (le_refl _) hk c (by omega) h4
  have m1:=Nat.mul_lt_mul'' b1 b2
  have m2:=Nat.mul_lt_mul'' b3 b4
  have e:10^pY (k+1)=10*(10^pY k*10^pY k):=by
   show 10^(2*pY k+1)=_
   rw [Nat.pow_succ,Nat.two_mul,Nat.pow_add,Nat.mul_comm]
  have U8:(N r c*N k k-N r k*N k c).natAbs<=(N r c*N k k).natAbs+(N r k*N k c).natAbs:=by omega
  rw [natAbs_mul,natAbs_mul] at U8
  rw [e]
  omega
 ·have o1:=x.off r (by omega) h2 c (by omega) h4 b7
  have o2:=x.off r (by omega) h2 k (le_refl _) hk (by omega)
  have o3:=x.off k (le_refl _) hk c (by omega) h4 (by omega)
  have m1:=Int.mul_nonpos_of_nonpos_of_nonneg o1 (show 0<=N k k by omega)
  have m2:=Int.mul_nonneg_of_nonpos_of_nonpos o2 o3
  show N r c*N k k-N r k*N k c<=0
  omega
 ·have s1:=x.Ch c (by omega) h2
  have s2:=x.Ch k (le_refl _) hk
  have o3:=x.off k (le_refl _) hk c (by omega) h2 (by omega)
  have e:fR (k+1) n (λr=>y r*(N r c*N k k-N r k*N k c))=N k k*(fR k n λr=>y r*N r c)-N k c*fR k n λr=>y r*N r k:=by
   rw [DY hk (λr=>y r*N r c),DY hk (λr=>y r*N r k),Int.mul_add,Int.mul_add,<-JZ,<-JZ]
   have:fR (k+1) n (λr=>y r*(N r c*N k k-N r k*N k c))=fR (k+1) n (λr=>N k k*(y r*N r c))-fR (k+1) n λr=>N k c*(y r*N r k):=by
    rw [<-anL]
    refine anK λr _ _=>?_
    rw [Int.mul_sub]
    congr 1
    ·rw [mul_comm (N k k),Int.mul_assoc]
    ·rw [mul_comm (N k c),Int.mul_assoc]
   rw [this]
   have e1:N k k*(y k*N k c)=N k c*(y k*N k k):=by
    rw [Int.mul_left_comm,Int.mul_left_comm (N k c),mul_comm (N k k)]
   omega
  rw [e]
  have m1:=mul_pos hp s1
  have m2:=Int.mul_nonpos_of_nonpos_of_nonneg o3 (show 0<=fR k n λr=>y r*N r k by omega)
  omega
 ·have r1:=x.row r (by omega) h2
  have r2:=x.row k (le_refl _) hk
  rw [DY hk] at r1 r2
  show fR (k+1) n (λc=>N r c*N k k-N r k*N k c)=N r n*N k k-N r k*N k n
  have e3:fR (k+1) n (λc=>N r k*N k c)=N r k*fR (k+1) n λc=>N k c:=JZ _ _ _ _
  rw [anL,e3]
  have:fR (k+1) n (λc=>N r c*N k k)=N k k*fR (k+1) n λc=>N r c:=by
   rw [<-JZ];exact anK λc _ _=>mul_comm _ _
  rw [this,<-r1,<-r2,Int.add_mul,Int.mul_add,mul_comm (N k k)]
  omega
end lQ
end
end Go.Sim
namespace Go.Proofs.YtncaiogfjjepcaaGreat
section
open Go.Sim Go.Sort
variable {h : ae} {K : Value -> ae -> Prop} {n : Nat}
theorem DS.xi {e e':TypeId} {h:ae} {v:Value} {xs:List Nat} {j:Nat} {cs:List Value} (d:DS e .u32 h v xs) (hj:h[j]?=some (.arr e' cs)) (hn:∀z r,cs≠ .int .u32 z::r) (o:az):DS e .u32 (h.set j o) v xs:=by
 rcases d with d | ⟨i,h1,h2⟩
 ·exact .inl d
 ·refine .inr ⟨i,h1,?_⟩
  rcases h2 with h2 | ⟨rest,h2⟩
  ·exact .inl h2
  ·cases xs with
   | nil=>exact .inl rfl
   | cons x xs=>
    right
    refine ⟨rest,?_⟩
    have b7:j≠i:=by
     rintro rfl
     unfold bw at h2
     rw [hj] at h2
     exact hn _ _ (Option.some.inj h2)
    unfold bw at h2⊢
    rw [List.getElem?_set_ne b7]
    exact h2
theorem RV.xi {h:ae} {v:Value} {q:Rat} {j:Nat} {e:TypeId} {cs:List Value} (p:RV h v q) (hj:h[j]?=some (.arr e cs)) (hn:∀z r,cs≠ .int .u32 z::r) (o:az):RV (h.set j o) v q:=
 let ⟨u,w,e1,⟨xs,a1,a2,a3⟩,⟨ys,b1,b2,b3⟩⟩:=p
 ⟨u,w,e1,⟨xs,DS.xi a1 hj hn o,a2,a3⟩,⟨ys,DS.xi b1 hj hn o,b2,b3⟩⟩
theorem FR.xi {g:ae} {j:Nat} {e:TypeId} {cs:List Value} (hj:g[j]?=some (.arr e cs)) (hn:∀z r,cs≠ .int .u32 z::r) (o:az):FR (λd=>d=j) g (g.set j o):=
 ⟨by simp,λd _ h2=>by rw [List.getElem?_set_ne (Ne.symm h2)],λv q p=>RV.xi p hj hn o⟩
theorem VL (c:Cl) (n:Nat):bE (cG c) n=lS n λ_=>c:=by
 unfold bE lS
 congr 1
 rw [map_const'];simp
theorem aon {j:Nat} {c:Cl} (hn:1<=n) (n8:n<=8) (hj:h[j]?=some (.arr 92 (cG c))) (hk:∀g i,EX h g->h.length<=i->g[i]?=some (.arr 92 (lS n λ_=>c))->K (sl 92 i 0 n) g):ay prog 118 [sl 92 j 0 1,I n] h K:=by
 refine f118 ?_
 unfold LP
 simp only [bT,ah,bY (show ¬(n:Int)<0 by omega),dm]
 rw [aDK]
 have l1:aT (sl 92 j 0 1)=some (I 1):=rfl
 have c1:dI .u64 (I 1)=some (U 1):=rfl
 have c2:dI .u64 (I n)=some (U n):=by
  have:n=1∨n=2∨n=3∨n=4∨n=5∨n=6∨n=7∨n=8:=by omega
  rcases this with rfl | rfl | rfl | rfl | rfl | rfl | rfl | rfl <;> rfl
 have c3:dI .i64 (U n)=some (I n):=by
  have:n=1∨n=2∨n=3∨n=4∨n=5∨n=6∨n=7∨n=8:=by omega
  rcases this with rfl | rfl | rfl | rfl | rfl | rfl | rfl | rfl <;> rfl
 have g1:aj .gtr (U 0) (.int .u64 (0))=some (.bool false):=rfl
 have g2:aj .gtr (U n) (.int .u64 (9223372036854775807))=some (.bool false):=by
  simp [U];omega
 simp only [l1,c1,c2,ah]
 refine VP n8 ?_
 simp only [fM,gi,gj,ah,g1]
 rw [aDL]
 simp only [eW,g2,ah]
 rw [aDG]
 simp only [dA,ah,dm]
 rw [aDH]
 have sG:eM 92 64 [(.bool false),(.slice none 0 0),(.bool false),(.slice none 0 0)] h (I n) (I n)=some (sl 92 h.length 0 n,h++[.arr 92 (bE z4 n)]):=by
  simp only [eM]
  rw [if_pos (by omega)]
  simp [z4]
 simp only [c3,ah,sG,aL]
 have x2:EX h (h++[.arr 92 (bE z4 n)]):=EX.append _ _
 have e2:(h++[az.arr 92 (bE z4 n)])[h.length]?=some (.arr 92 (bE z4 n)):=bL
 have cp:=ady (g:=h++[az.arr 92 (bE z4 n)]) (c:=1) (esz:=4) (r:=cG c) rfl rfl hn e2 (x2.get hj)
 have O9:rA 4 (h++[az.arr 92 (bE z4 n)]) (sl 92 h.length 0 n) (sl 92 j 0 1)=_:=cp
 have CQ:(h++[az.arr 92 (bE z4 n)]).length=h.length+1:=by simp
 simp only [O9,aL]
 have x3:EX h ((h++[az.arr 92 (bE z4 n)]).set h.length (.arr 92 (bE (cG c) 1++bE z4 (n-1)))):=x2.set (le_refl _) _
 have e3:((h++[az.arr 92 (bE z4 n)]).set h.length (.arr 92 (bE (cG c) 1++bE z4 (n-1))))[h.length]?=some (.arr 92 (bE (cG c) 1++bE z4 (n-1))):=by
  rw [getElem?_set_self (by omega)]
 refine cN (σ:=Nat×ae) (λq=>[I q.1]) (λq=>q.2) (λq=>0<q.1/\q.1<=n/\EX h q.2/\q.2[h.length]?=some (.arr 92 (bE (cG c) q.1++bE z4 (n-q.1)))) (λq=>n-q.1)
  (1,_) rfl rfl ⟨by omega,hn,x3,e3⟩ ?_
 rintro ⟨k,g⟩ ⟨se,eX,xg,hg⟩ L hL
 simp only at se eX xg hg hL⊢
 rw [aDI]
 have ln:aT (sl 92 h.length 0 n)=some (I n):=rfl
 simp only [ln,bT,ah,cd]
 refine ⟨λaw=>?_,λcK=>?_⟩
 ·have aw:k<n:=by omega
  have e1:(0:Int)<=(k:Int):=by omega
  have s1:fP 92 4 (sl 92 h.length 0 n) (some (I k)) none=some (sl 92 h.length (k*4) (n-k)):=by
   simp [fP,sl,mE,og,e1,eX]
  have s2:fP 92 4 (sl 92 h.length 0 n) none (some (I k))=some (.slice (some ⟨h.length,0,some 92⟩) k (pc 4 none k n)):=by
   simp [fP,sl,mE,og,e1,eX]
  have d:=dbl (c:=pc 4 none k n) (esz:=4) (r:=cG c) (z:=z4) rfl rfl se aw hg
  have m1:Nat.min k (n-k)<=n-k:=Nat.min_le_right _ _
  have m2:0<Nat.min k (n-k):=Nat.lt_min.2 ⟨se,by omega⟩
  simp only [s1,s2,ah,d,aL,bZ,true_and]
  generalize Nat.min k (n-k)=q at m1 m2 d
  have w:IntKind.wrap .i64 ((k:Int)+q)=((k+q:Nat):Int):=by rw [wrap64 (by omega) (by omega)];omega
  rw [w]
  refine hL (k+q,_) ⟨by omega,by omega,xg.set (le_refl _) _,?_⟩ (by show n-(k+q)<n-k;omega)
  show (g.set h.length _)[h.length]?=_
  rw [getElem?_set_self (cm hg).1,show n-(k+q)=n-k-q by omega]
 ·have eX:k=n:=by omega
  subst eX
  rw [aDJ]
  refine hk g h.length xg (le_refl _) ?_
  rw [hg,Nat.sub_self]
  have:bE z4 0=[]:=rfl
  rw [this,List.append_nil,VL]
structure MQ (g:ae) (im:Nat) (ids:Nat->Nat) (rows ny:Nat) (A:Nat->Nat->Rat):Prop where
 ho:g[im]?=some (.arr 84 ((List.range rows).map λi=>sl 92 (ids i) 0 ny))
 hr:∀i<rows,QL g (ids i) ny λj=>some (A i j)
 inj:∀i<rows,∀j<rows,ids i=ids j->i=j
 nm:∀i<rows,ids i≠im
namespace MQ
variable {g g' : ae} {im rows ny : Nat} {ids : Nat -> Nat} {A : Nat -> Nat -> Rat}
theorem fr {S:Nat->Prop} (m:MQ g im ids rows ny A) (f:FR S g g') (h1:¬S im) (h2:∀i<rows,¬S (ids i)):MQ g' im ids rows ny A:=
 ⟨f.get h1 m.ho,λi hi=>(m.hr i hi).fr f (h2 i hi),m.inj,m.nm⟩
theorem up (m:MQ g im ids rows ny A) (x:EX g g'):MQ g' im ids rows ny A:=m.fr (S:=λ_=>False) (FR.ex x) (λh=>h) λ_ _ h=>h
theorem dX {i:Nat} (hi:i<rows):aD 1 (sl 84 im 0 rows) (I i)=some (pt im i):=jL hi
theorem ld (m:MQ g im ids rows ny A) {i:Nat} (hi:i<rows):af false 1 g (pt im i)=some (sl 92 (ids i) 0 ny):=by
 simp [af,bw,m.ho,dS,hi]
theorem get (m:MQ g im ids rows ny A) {i j:Nat} (hi:i<rows) (hj:j<ny):∃v,af true 4 g (pt (ids i) (j*4))=some v/\RV g v (A i j):=(m.hr i hi).get hj rfl
theorem set (m:MQ g im ids rows ny A) {i j:Nat} (hi:i<rows) (hj:j<ny) {v:Value} {r:Rat} (hv:RV g v r):
  ∃g',aU 4 g (pt (ids i) (j*4)) v=some (undef,g')/\FR (λd=>d=ids i) g g'/\MQ g' im ids rows ny λa b=>if a=i/\b=j then r else A a b:=by
 obtain ⟨g',s,f,q⟩:=(m.hr i hi).set hj hv
 refine ⟨g',s,f,f.get (λe=>m.nm i hi e.symm) m.ho,λa ha=>?_,m.inj,m.nm⟩
 by_cases e:a=i
 ·subst e
  refine q.congr λb hb=>?_
  by_cases e2:b=j
  ·subst e2;rw [fL];simp
  ·rw [eA _ _ e2];simp [e2]
 ·refine ((m.hr a ha).fr f λh=>e (m.inj a ha i hi h)).congr λb hb=>?_
  simp [e]
end MQ
end
section
open Go.Sim Go.Sort
variable {h : ae} {K : Value -> ae -> Prop} {n : Nat}
theorem I1 (g:ae) (c:Cl):cH 92 1 [(.bool false),(.slice none 0 0),(.bool false),(.slice none 0 0)] g [(0,4,.agg (cG c).toArray)]=some (sl 92 g.length 0 1,g++[.arr 92 (cG c)]):=by
 simp [cH,jE,bE,setAt,fV,dL,Value.cells,cG]
theorem bx4 (g:ae) (c:Cl):cR 92 g (.agg (cG c).toArray)=some (pt g.length 0,g++[.arr 92 (cG c)]):=rfl
theorem C78 (n8:n<=8) (hk:∀g im ids,EX h g->h.length<=im->(∀i<n,h.length<=ids i)->MQ g im ids n n (λ_ _=>0)->K (sl 84 im 0 n) g):ay prog 78 [I n,I n] h K:=by
 refine f78 ?_
 unfold Ni
 have mk:eM 84 24 [(.slice none 0 0)] h (I n) (I n)=some (sl 84 h.length 0 n,h++[.arr 84 (bE [.slice none 0 0] n)]):=by
  simp only [eM]
  rw [if_pos (by omega)]
  simp
 have l0:∀i,aT (sl 84 i 0 n)=some (I n):=λ_=>rfl
 simp only [mk,aL,l0,ah]
 have zr:bE [(.slice none 0 0)] n=(List.range n).map λi=>if i<0 then sl 92 0 0 n else (Value.slice none 0 0):=by
  simp [bE]
  rw [map_const'];simp
 have x1:EX h (h++[.arr 84 (bE [.slice none 0 0] n)]):=EX.append _ _
 have c1:(h++[az.arr 84 (bE [.slice none 0 0] n)])[h.length]?=some (.arr 84 (bE [.slice none 0 0] n)):=bL
 generalize h++[az.arr 84 (bE [.slice none 0 0] n)]=g1 at x1 c1⊢
 refine cN (σ:=Nat×(Nat->Nat)×ae) (λq=>[I q.1]) (λq=>q.2.2) (λq=>q.1<=n/\EX h q.2.2/\q.2.2[h.length]?=some (.arr 84 ((List.range n).map λi=>if i<q.1 then sl 92 (q.2.1 i) 0 n else .slice none 0 0))/\
   (∀i<q.1,h.length<q.2.1 i/\QL q.2.2 (q.2.1 i) n λ_=>some 0)/\∀i<q.1,∀j<q.1,q.2.1 i=q.2.1 j->i=j) (λq=>n-q.1)
  (0,λ_=>0,g1) rfl rfl ⟨zero_le _,x1,by rw [c1,zr],λi hi=>absurd hi (not_lt_zero _),λi hi=>absurd hi (not_lt_zero _)⟩ ?_
 rintro ⟨i,ids,g⟩ ⟨hi,xg,hc,mS,inj⟩ L hL
 simp only at hi xg hc mS inj hL⊢
 rw [aIo]
 simp only [bT,ah,cd]
 refine ⟨λaw=>?_,λcK=>?_⟩
 ·have aw:i<n:=by omega
  refine pL (by omega) (by omega) λr g2 x2 hr=>?_
  obtain ⟨c,rfl⟩:=hr.cl
  simp only [I1,aL]
  have x3:EX g2 (g2++[.arr 92 (cG c)]):=EX.append _ _
  refine aon (by omega) n8 bL λg4 i4 x4 hi4 hg4=>?_
  have bm:=x2.trans (x3.trans x4)
  have CG:=bm.get hc
  have st:=kz CG (o:=i) (v:=sl 92 i4 0 n) (by simpa using aw) rfl rfl
  have i4g:g.length<i4:=by have:=x2.1;simp at hi4;omega
  have e3:((List.range n).map λk=>if k<i then sl 92 (ids k) 0 n else (Value.slice none 0 0)).set i (sl 92 i4 0 n)=(List.range n).map λk=>if k<i+1 then sl 92 (dU ids i i4 k) 0 n else .slice none 0 0:=by
   refine List.ext_getElem (by simp) λk h1 h2=>?_
   rw [List.getElem_set]
   simp only [getElem_map,List.getElem_range]
   by_cases e:i=k
   ·subst e;rw [if_pos rfl,if_pos (by omega),fL]
   ·rw [if_neg e,eA _ _ (Ne.symm e)]
    by_cases h3:k<i
    ·rw [if_pos h3,if_pos (by omega)]
    ·rw [if_neg h3,if_neg (by omega)]
  rw [e3] at st
  simp only [MQ.dX aw,ah,st,aL,bZ,true_and]
  rw [dQ i (by simp [maxLen];omega)]
  have hlen:=(cm hc).1
  have CQ:∀z r,((List.range n).map λk=>if k<i then sl 92 (ids k) 0 n else (Value.slice none 0 0))≠ .int .u32 z::r:=by
   obtain ⟨m,rfl⟩:∃m,n=m+1:=⟨n-1,by omega⟩
   intro z r e
   rw [List.range_succ_eq_map,map_cons] at e
   have:=(List.cons.inj e).1
   split at this <;> cases this
  have f:=FR.xi CG CQ (.arr 84 ((List.range n).map λk=>if k<i+1 then sl 92 (dU ids i i4 k) 0 n else .slice none 0 0))
  have rz:RV g4 (.agg (cG c).toArray) 0:=by
   have:=hr.mono (x3.trans x4)
   exact this
  have ql:QL g4 i4 n λ_=>some 0:=⟨λ_=>c,hg4,λj _ r hr=>by cases hr;exact rz⟩
  have old:∀k<i,ids k<g.length:=λk hk=>(mS k hk).2.lt
  refine hL (i+1,dU ids i i4,_) ⟨aw,(xg.trans bm).set (le_refl _) _,getElem?_set_self (cm CG).1,λk hk=>?_,λk hk j hj e=>?_⟩ (by show n-(i+1)<n-i;omega)
  ·show h.length<dU ids i i4 k/\QL (g4.set h.length _) (dU ids i i4 k) n λ_=>some 0
   by_cases e:k=i
   ·subst e
    rw [fL]
    exact ⟨by omega,ql.fr f (by omega)⟩
   ·have mD:k<i:=by have:k<i+1:=hk;omega
    rw [eA _ _ e]
    have:=mS k mD
    exact ⟨this.1,(this.2.up bm).fr f (by omega)⟩
  ·have hk:k<i+1:=hk
   have hj:j<i+1:=hj
   have e:dU ids i i4 k=dU ids i i4 j:=e
   by_cases e1:k=i <;> by_cases e2:j=i
   ·omega
   ·subst e1
    rw [fL,eA _ _ e2] at e
    have:=old j (by omega);omega
   ·subst e2
    rw [fL,eA _ _ e1] at e
    have:=old k (by omega);omega
   ·rw [eA _ _ e1,eA _ _ e2] at e
    exact inj k (by omega) j (by omega) e
 ·have fB:i=n:=by omega
  subst fB
  rw [aIn]
  refine hk g h.length ids xg (le_refl _) (λk hk=>Nat.le_of_lt (mS k hk).1) ⟨?_,λk hk=>(mS k hk).2,inj,λk hk=>by have:=(mS k hk).1;omega⟩
  rw [hc]
  congr 2
  exact List.map_congr_left λk hk=>if_pos (mem_range.1 hk)
theorem Wl {im rows ny i j a b:Nat} {ids:Nat->Nat} {A:Nat->Nat->Rat} {v:Value} {x:Rat} (m:MQ h im ids rows ny A) (hi:i<rows) (hj:j<ny) (hv:RV h v x) (sa:hI a (A i j)) (sb:hI b x) (gT:a+b<=800)
  (hk:∀g,FR (λd=>d=ids i) h g->MQ g im ids rows ny (λp q=>if p=i/\q=j then A i j+x else A p q)->K (.tuple #[]) g):ay prog 79 [sl 84 im 0 rows,I i,I j,v] h K:=by
 refine f79 ?_
 unfold Nj
 obtain ⟨c,rfl⟩:=hv.cl
 have x1:EX h (h++[.arr 92 (cG c)]):=EX.append _ _
 have c1:(h++[az.arr 92 (cG c)])[h.length]?=some (.arr 92 (cG c)):=bL
 simp only [bx4,aL]
 generalize hx:h.length=ix at c1⊢
 generalize h++[az.arr 92 (cG c)]=g1 at x1 c1⊢
 have m1:=m.up x1
 obtain ⟨va,la,ra⟩:=m1.get hi hj
 have lx:af true 4 g1 (pt ix 0)=some (.agg (cG c).toArray):=ko c1
 simp only [MQ.dX hi,m1.ld hi,QL.dX hj,la,lx,ah,true_and]
 refine EB ra (hv.mono x1) sa sb gT λr g2 x2 hr=>?_
 have m2:=m1.up x2
 obtain ⟨g3,s3,f3,m3⟩:=m2.set hi hj hr
 simp only [m2.ld hi,true_and,and_true,QL.dX hj,ah,s3,aL]
 exact hk g3 ((FR.ex (x1.trans x2)).trans f3) m3
end
section
open Go.Sim Go.Sort
variable {h : ae} {K : Value -> ae -> Prop} {n : Nat}
theorem FR.tail {S T:Nat->Prop} {h g g':ae} (a:FR S h g) (b:FR T g g') (hs:∀d,T d->S d∨h.length<=d):FR S h g':=
 ⟨le_trans a.len b.len,λd h1 h2=>by
  rw [b.iA d (lt_of_lt_of_le h1 a.len) λh3=>(hs d h3).elim h2 λh4=>by omega]
  exact a.iA d h1 h2,λv q h=>b.rv v q (a.rv v q h)⟩
theorem pw {a i j:Nat} (h:a<10^i) (gE:i<=j):a<10^j:=lt_of_lt_of_le h (Nat.pow_le_pow_right (by omega) gE)
theorem sz5 {k:Nat} (hk:k<=5):pY k<=159/\ue k<=151:=by
 have:k=0∨k=1∨k=2∨k=3∨k=4∨k=5:=by omega
 rcases this with rfl | rfl | rfl | rfl | rfl | rfl <;> decide
theorem sz6 {k:Nat} (hk:k<=6):pY k<=319/\ue k<=310:=by
 have:k=0∨k=1∨k=2∨k=3∨k=4∨k=5∨k=6:=by omega
 rcases this with rfl | rfl | rfl | rfl | rfl | rfl | rfl <;> decide
structure p9 (n:Nat) (t y:Nat->Int):Prop where
 n7:n<=7
 t0:∀c≤n,0<t c
 t4:∀c≤n,(t c).natAbs<10^4
 y0:∀r<n,0<y r
section
variable {k : Nat} {t y : Nat -> Int} {A : Nat -> Nat -> Rat} {N : Nat -> Nat -> Int} {d : Int}
theorem D9 (x:lQ n k t y A N d) (ok:p9 n t y) {s:Nat} (h1:pY k<=s) (h2:ue k+4<=s) {r c:Nat} (kR:k<=r) (hr:r<n) (oz:k<=c) (hc:c<=n):hI s (A r c):=by
 rw [x.ee r kR hr c oz hc]
 refine uc (mul_pos x.d0 (ok.t0 c hc)) (pw (x.bd r kR hr c oz hc) h1) ?_
 rw [natAbs_mul]
 exact pw (rE x.dl (ok.t4 c hc)) h2
theorem aKP (x:lQ n k t y A N d) (ok:p9 n t y) {s:Nat} (h1:pY k<=s) {r:Nat} (kR:k<=r) (hr:r<n) (hk:k<n):hI s (divInt (N r k) (N k k)):=
 uc (x.piv hk ok.y0) (pw (x.bd r kR hr k (le_refl _) (by omega)) h1) (pw (x.bd k (le_refl _) hk k (le_refl _) (by omega)) h1)
theorem aKO (x:lQ n k t y A N d) (ok:p9 n t y) {s:Nat} (h1:pY k<=s) (h2:ue k+4<=s) {r c:Nat} (kR:k<=r) (hr:r<n) (oz:k<=c) (hc:c<=n) (hk:k<n):hI (s+s) (divInt (N r k*N k c) (N k k*(d*t c))):=by
 refine uc (mul_pos (x.piv hk ok.y0) (mul_pos x.d0 (ok.t0 c hc))) ?_ ?_
 ·rw [natAbs_mul]
  exact rE (pw (x.bd r kR hr k (le_refl _) (by omega)) h1) (pw (x.bd k (le_refl _) hk c oz hc) h1)
 ·rw [natAbs_mul,natAbs_mul]
  exact rE (pw (x.bd k (le_refl _) hk k (le_refl _) (by omega)) h1) (pw (rE x.dl (ok.t4 c hc)) h2)
theorem anW (x:lQ n k t y A N d) (ok:p9 n t y) (hk:k<n):0<(A k k).num:=by
 rw [x.ee k (le_refl _) hk k (le_refl _) (by omega)]
 exact Hu (mul_pos x.d0 (ok.t0 k (by omega))) (x.piv hk ok.y0)
theorem aKN (x:lQ n k t y A N d) (ok:p9 n t y) (hk:k<n) {r:Nat} (kR:k<=r) (hr:r<n):(A r k).num=0↔N r k=0:=by
 rw [x.ee r kR hr k (le_refl _) (by omega)]
 exact azl (mul_pos x.d0 (ok.t0 k (by omega)))
def tn (k:Nat) (t:Nat->Int) (N:Nat->Nat->Int) (d:Int) (r c:Nat):Rat:=divInt (N r c*N k k-N r k*N k c) (N k k*d*t c)
theorem aoq {im iq i:Nat} {ids:Nat->Nat} {x2 aG AB:Value} {L1 L2:List Value->ae->Prop} {B:Nat->Nat->Rat} {g0:ae} {cq:Cl} (ok:p9 n t y) (x:lQ n k t y A N d) (Ij:k<=5) (mD:k<i) (fB:i<n)
  (m:MQ g0 im ids n (n+1) B) (hB:∀c,k<=c->c<=n->B i c=A i c) (hBk:∀c,k<=c->c<=n->B k c=A k c) (hq:g0[iq]?=some (.arr 92 (cG cq))) (rq:RV g0 (.agg (cG cq).toArray) (divInt (N i k) (N k k))) (hqi:iq≠ids i)
  (hK:∀g,FR (λd=>d=ids i) g0 g->MQ g im ids n (n+1) (λr c=>if r=i/\k<=c then tn k t N d r c else B r c)->DB prog K (sl 84 im 0 n) x2 AB (I k) (I i) aG (I k) L1 L2 g):
  bX [I k] g0 λL3 xs hx=>Sb prog K (sl 84 im 0 n) x2 AB (I k) (I i) (pt iq 0) aG (I k) L1 L2 L3 xs hx:=by
 have n7:=ok.n7
 obtain ⟨z1,z2⟩:=sz5 Ij
 have eX:k<n:=by omega
 refine cN (σ:=Nat×ae) (λq=>[I q.1]) (λq=>q.2) (λq=>k<=q.1/\q.1<=n+1/\FR (λd=>d=ids i) g0 q.2/\MQ q.2 im ids n (n+1) (λr c=>if r=i/\k<=c/\c<q.1 then tn k t N d r c else B r c)) (λq=>n+1-q.1)
  (k,g0) rfl rfl ⟨le_refl _,by omega,FR.refl _ _,?_⟩ ?_
 ·have:(λr c=>if r=i/\k<=c/\c<k then tn k t N d r c else B r c)=B:=by
   funext r c;rw [if_neg (by omega)]
  show MQ g0 im ids n (n+1) (λr c=>if r=i/\k<=c/\c<k then tn k t N d r c else B r c)
  rw [this];exact m
 rintro ⟨j,g⟩ ⟨lT,kQ,fr,m⟩ L hL
 simp only at lT kQ fr m hL⊢
 rw [aDS]
 have ln:aT (sl 92 (ids i) 0 (n+1))=some (I (n+1:Nat)):=rfl
 simp only [MQ.dX fB,m.ld fB,ln,ah,bT,cd]
 refine ⟨λaw=>?_,λcK=>?_⟩
 ·have aw:j<n+1:=by omega
  obtain ⟨va,la,ra⟩:=m.get fB aw
  obtain ⟨vk,lk,rk⟩:=m.get eX aw
  rw [if_neg (by omega),hB j lT (by omega)] at ra
  rw [if_neg (by omega),hBk j lT (by omega)] at rk
  have lq:af true 4 g (pt iq 0)=some (.agg (cG cq).toArray):=ko (fr.get hqi hq)
  obtain ⟨e1,e2,e3⟩:=x.elim ok.t0 eX ok.y0 (r:=i) (c:=j) (by omega) fB lT (by omega)
  simp only [MQ.dX fB,MQ.dX eX,m.ld fB,m.ld eX,QL.dX aw,la,lk,lq,ah,true_and]
  refine EH (fr.rv _ _ rq) rk (aKP x ok z1 (by omega) fB eX) (D9 x ok (s:=159) z1 (by omega) (le_refl _) eX lT (by omega)) (by omega) λr1 g1 x1 kR=>?_
  rw [e2] at kR
  have m1:=m.up x1
  simp only [m1.ld fB,EX.load x1 la,true_and,and_true]
  refine Kw (ra.mono x1) kR (D9 x ok (s:=159) z1 (by omega) (by omega) fB lT (by omega)) (aKO x ok (s:=159) z1 (by omega) (by omega) fB lT (by omega) eX) (by omega) λr3 g3 x3 wS=>?_
  rw [e3] at wS
  have m3:=m1.up x3
  obtain ⟨g4,s4,f4,m4⟩:=m3.set fB aw wS
  simp only [m3.ld fB,true_and,and_true,QL.dX aw,ah,s4,aL,bZ]
  rw [dQ j (by simp [maxLen];omega)]
  refine hL (j+1,g4) ⟨by omega,by omega,(fr.trans (FR.ex (x1.trans x3))).trans f4,?_⟩ (by show n+1-(j+1)<n+1-j;omega)
  show MQ g4 im ids n (n+1) (λr c=>if r=i/\k<=c/\c<j+1 then tn k t N d r c else B r c)
  have:(λr c=>if r=i/\k<=c/\c<j+1 then tn k t N d r c else B r c)=λa b=>if a=i/\b=j then divInt (N i j*N k k-N i k*N k j) (N k k*d*t j) else if a=i/\k<=b/\b<j then tn k t N d a b else B a b:=by
   funext r c
   by_cases h1:r=i/\c=j
   ·obtain ⟨rfl,rfl⟩:=h1
    rw [if_pos ⟨rfl,lT,by omega⟩,if_pos ⟨rfl,rfl⟩];rfl
   ·rw [if_neg h1]
    by_cases h2:r=i/\k<=c/\c<j
    ·rw [if_pos ⟨h2.1,h2.2.1,by omega⟩,if_pos h2]
    ·rw [if_neg (by omega),if_neg h2]
  rw [this];exact m4
 ·have kQ:j=n+1:=by omega
  subst kQ
  refine hK g fr ?_
  refine ⟨m.ho,λr hr=>(m.hr r hr).congr λc hc=>?_,m.inj,m.nm⟩
  by_cases h1:r=i/\k<=c
  ·rw [if_pos h1,if_pos ⟨h1.1,h1.2,hc⟩]
  ·rw [if_neg h1,if_neg (by omega)]
end
end
section
open Go.Sim Go.Sort
variable {h : ae} {K : Value -> ae -> Prop} {n : Nat}
variable {k : Nat} {t y : Nat -> Int} {A : Nat -> Nat -> Rat} {N : Nat -> Nat -> Int} {d : Int}
theorem vJ {g:ae} {i:Nat} (hi:g[i]?=some (.arr 92 z4)):eB g (pt i 0)=some (.agg #[.int .i64 92,.bool false,.slice none 0 0,.bool false,.slice none 0 0]):=by
 simp [eB,vB,hi,mO,z4]
def tZ (n:Nat) (ids:Nat->Nat) (d:Nat):Prop:=∃i,i<n/\d=ids i
theorem aop {im:Nat} {ids:Nat->Nat} {x2 aG AB:Value} {L1:List Value->ae->Prop} {g0:ae} (ok:p9 n t y) (x:lQ n k t y A N d) (eX:k<n) (m:MQ g0 im ids n (n+1) A)
  (hK:∀g A',FR (tZ n ids) g0 g->MQ g im ids n (n+1) A'->(∀r c,r<=k->A' r c=A r c)->(∀r,k<r->r<n->∀c,k<c->c<=n->A' r c=tn k t N d r c)->Sc prog K (sl 84 im 0 n) x2 AB aG (I k) L1 g):
  bX [I (k+1:Nat)] g0 λL2 xs hx=>Sa prog K (sl 84 im 0 n) x2 AB (I k) aG (I k) L1 L2 xs hx:=by
 have n7:=ok.n7
 refine cN (σ:=Nat×(Nat->Nat->Rat)×ae) (λq=>[I q.1]) (λq=>q.2.2) (λq=>k+1<=q.1/\q.1<=n/\FR (tZ n ids) g0 q.2.2/\MQ q.2.2 im ids n (n+1) q.2.1/\(∀r c,(r<=k∨q.1<=r)->q.2.1 r c=A r c)/\∀r,k<r->r<q.1->∀c,k<c->c<=n->q.2.1 r c=tn k t N d r c) (λq=>n-q.1)
  (k+1,A,g0) rfl rfl ⟨le_refl _,eX,FR.refl _ _,m,λ_ _ _=>rfl,λr h1 h2=>by have:r<k+1:=h2;omega⟩ ?_
 rintro ⟨i,B,g⟩ ⟨mD,fB,fr,m,hB,hE⟩ L hL
 simp only at mD fB fr m hB hE hL⊢
 rw [aDR]
 have l0:aT (sl 84 im 0 n)=some (I n):=rfl
 simp only [l0,bT,ah,cd]
 refine ⟨λaw=>?_,λcK=>?_⟩
 ·have aw:i<n:=by omega
  have Ij:k<=5:=by omega
  obtain ⟨z1,z2⟩:=sz5 Ij
  obtain ⟨va,la,ra⟩:=m.get aw (show k<n+1 by omega)
  rw [hB i k (.inr (le_refl _))] at ra
  simp only [MQ.dX aw,m.ld aw,QL.dX (show k<n+1 by omega),la,ah]
  refine Kz ra λg1 x1=>?_
  have m1:=m.up x1
  have go:∀(g:ae) (B':Nat->Nat->Rat),FR (tZ n ids) g0 g->MQ g im ids n (n+1) B'->(∀r c,(r<=k∨i<r)->B' r c=A r c)->(∀r,k<r->r<=i->∀c,k<c->c<=n->B' r c=tn k t N d r c)->
    DB prog K (sl 84 im 0 n) x2 AB (I k) (I i) aG (I k) L1 L g:=by
   intro g B' fr m hB hE
   rw [aDT]
   simp only [bZ,ah,true_and]
   rw [dQ i (by simp [maxLen];omega)]
   exact hL (i+1,B',g) ⟨by omega,aw,fr,m,hB,λr h1 h2=>hE r h1 (by have:r<i+1:=h2;omega)⟩ (by show n-(i+1)<n-i;omega)
  have s0:zh (A i k).num=0↔N i k=0:=by
   rw [<-aKN x ok eX (by omega) aw]
   unfold zh
   constructor
   ·intro h;split at h
    ·assumption
    ·split at h <;> cases h
   ·intro h;rw [if_pos h]
  simp only [jD,ah]
  by_cases h0:N i k=0
  ·rw [s0.2 h0]
   simp only [decide_true,gf]
   refine go g1 B (fr.trans (FR.ex x1)) m1 (λr c hr=>hB r c (by omega)) λr h1 h2 c h3 h4=>?_
   by_cases e:r=i
   ·subst e
    rw [hB r c (.inr (le_refl _))]
    exact x.stay eX ok.y0 (by omega) aw (by omega) h4 h0
   ·exact hE r h1 (by omega) c h3 h4
  ·rw [bY λh=>h0 (s0.1 h)]
   simp only [dm,rR,aL]
   have zT:EX g1 (g1++[.arr 92 z4]):=EX.append _ _
   have c2:(g1++[az.arr 92 z4])[g1.length]?=some (.arr 92 z4):=bL
   have A7:=(m1.hr i aw).lt
   have m2:=m1.up zT
   have l2:g1.length<(g1++[az.arr 92 z4]).length:=by simp
   generalize hq:g1.length=iq at c2 l2⊢
   generalize g1++[az.arr 92 z4]=g2 at zT c2 m2 l2⊢
   obtain ⟨vk,lk,rk⟩:=m2.get eX (show k<n+1 by omega)
   obtain ⟨vk1,RC,rk1⟩:=m1.get eX (show k<n+1 by omega)
   rw [EX.load zT RC] at lk
   obtain rfl:=Option.some.inj lk
   rw [hB k k (.inl (le_refl _))] at rk
   have Be:=EX.load x1 la
   have la2:=EX.load zT Be
   have lk2:=EX.load zT RC
   obtain ⟨e1,e2,e3⟩:=x.elim ok.t0 eX ok.y0 (r:=i) (c:=k) (by omega) aw (le_refl _) (by omega)
   simp only [vJ c2,MQ.dX aw,MQ.dX eX,m1.ld aw,m2.ld aw,m1.ld eX,m2.ld eX,QL.dX (show k<n+1 by omega),Be,la2,RC,lk2,ah,true_and,and_true]
   refine KB (ra.mono (x1.trans zT)) rk (anW x ok eX) (D9 x ok (s:=159) z1 (by omega) (by omega) aw (le_refl _) (by omega)) (D9 x ok (s:=159) z1 (by omega) (le_refl _) eX (le_refl _) (by omega)) (by omega) λr3 g3 x3 wS=>?_
   rw [e1] at wS
   obtain ⟨g4,s4,x4,Rt,r4,f4,cq,hcq,rfl⟩:=wS.put (h0:=g1) (zT.trans x3) (by omega) (x3.get c2)
   simp only [vJ (x3.get c2),true_and,s4,aL]
   have m4:=m1.up x4
   refine aoq ok x Ij (by omega) aw m4 (λc h1 h2=>hB i c (.inr (le_refl _))) (λc h1 h2=>hB k c (.inl (le_refl _))) hcq r4 (by omega) λg5 f5 m5=>?_
   refine go g5 _ (((fr.trans (FR.ex x1)).trans (FR.ex x4)).trans (f5.Vh λd hd=>⟨i,aw,hd⟩)) m5 (λr c hr=>?_) λr h1 h2 c h3 h4=>?_
   ·rw [if_neg (by omega)];exact hB r c (by omega)
   ·by_cases e:r=i
    ·rw [if_pos ⟨e,by omega⟩]
    ·rw [if_neg (by omega)];exact hE r h1 (by omega) c h3 h4
 ·have:i=n:=by omega
  subst this
  exact hK g B fr m (λr c hr=>hB r c (.inl hr)) hE
end
section
open Go.Sim Go.Sort
variable {h : ae} {K : Value -> ae -> Prop} {n : Nat}
variable {t y : Nat -> Int} {A : Nat -> Nat -> Rat} {N : Nat -> Nat -> Int}
theorem RV.w9 {g:ae} {j:Nat} {s:Bool} {x y z:Value} {v:Value} {q:Rat} (p:RV g v q) (hg:g[j]?=some (.arr 92 [.bool s,x,y,z])):
  ∃g',aU 4 g (pt j 0) v=some (undef,g')/\af true 4 g' (pt j 0)=some v/\RV g' v q/\FR (λd=>d=j) g g'/\∃c:Cl,g'[j]?=some (.arr 92 (cG c))/\v=.agg (cG c).toArray:=by
 obtain ⟨g',a,_,b⟩:=p.put (h0:=[]) ⟨zero_le _,λd hd=>absurd hd (not_lt_zero _)⟩ (zero_le _) hg
 exact ⟨g',a,b⟩
def Kc:Nat->Nat
 | 0=>1
 | k+1=>Kc k+ue k+4
theorem aKB {k:Nat} (hk:k<=6):Kc k<=310:=by
 have:k=0∨k=1∨k=2∨k=3∨k=4∨k=5∨k=6:=by omega
 rcases this with rfl | rfl | rfl | rfl | rfl | rfl | rfl <;> decide
theorem aoo {im:Nat} {ids:Nat->Nat} (ok:p9 n t y) (m0:MQ h im ids n (n+1) A) (x:lQ n 0 t y A N 1)
  (hK:∀r g A',FR (tZ n ids) h g->MQ g im ids n (n+1) A'->(∀i<n,∃N d,Fy n i t (A' i) N d)->K r g):ay prog 119 [sl 84 im 0 n] h K:=by
 have n7:=ok.n7
 refine f119 ?_
 unfold LR
 have x1:EX h (h++[.arr 92 z4]):=EX.append _ _
 have c1:(h++[az.arr 92 z4])[h.length]?=some (.arr 92 z4):=bL
 have l1:(h++[az.arr 92 z4]).length=h.length+1:=by simp
 simp only [rR,aL]
 generalize hx:h.length=ix at c1⊢
 generalize h++[az.arr 92 z4]=g1 at x1 c1 l1⊢
 refine pL (by omega) (by omega) λr g2 x2 hr=>?_
 have x3:EX g2 (g2++[.arr 92 z4]):=EX.append _ _
 have c3:(g2++[az.arr 92 z4])[g2.length]?=some (.arr 92 z4):=bL
 have ixg:ix<g2.length:=by have:=x2.1;omega
 generalize hd:g2.length=Q7 at c3 ixg⊢
 obtain ⟨g4,s4,x4,Rt,r4,f4,c,hc,rfl⟩:=(hr.mono x3).put (h0:=h) ((x1.trans x2).trans x3) (by omega) c3
 have sW:g4[ix]?=some (.arr 92 z4):=f4.get (by omega) ((x2.trans x3).get c1)
 have l0:aT (sl 84 im 0 n)=some (I n):=rfl
 simp only [s4,aL,l0,ah]
 refine cN (σ:=Nat×(Nat->Nat->Rat)×(Nat->Nat->Int)×Int×Int×Cl×ae) (λq=>[I q.1]) (λq=>q.2.2.2.2.2.2)
  (λq=>q.1<=n/\FR (tZ n ids) h q.2.2.2.2.2.2/\MQ q.2.2.2.2.2.2 im ids n (n+1) q.2.1/\lQ n q.1 t y q.2.1 q.2.2.1 q.2.2.2.1/\(∀i<q.1,∃N d,Fy n i t (q.2.1 i) N d)/\q.2.2.2.2.2.2[Q7]?=some (.arr 92 (cG q.2.2.2.2.2.1))/\q.2.2.2.2.2.2[ix]?=some (.arr 92 z4)/\
   0<q.2.2.2.2.1/\q.2.2.2.2.1.natAbs<10^Kc q.1/\RV q.2.2.2.2.2.2 (.agg (cG q.2.2.2.2.2.1).toArray) (divInt q.2.2.2.1 q.2.2.2.2.1)) (λq=>n-q.1)
  (0,A,N,1,1,c,g4) rfl rfl ⟨zero_le _,FR.ex x4,m0.up x4,x,λi hi=>absurd hi (not_lt_zero _),hc,sW,Int.one_pos,(by show (1:Int).natAbs<10^1;decide),?_⟩ ?_
 ·have e:divInt 1 1=((1:Int):Rat):=(Co 1).symm
  show RV g4 _ (divInt 1 1)
  rw [e];exact r4
 rintro ⟨k,B,N,d,F,c,g⟩ ⟨eX,fr,m,x,dn,hc,yU,F0,Fl,hr⟩ L hL
 simp only at eX fr m x dn hc yU F0 Fl hr hL⊢
 rw [aDW]
 simp only [bT,ah,cd]
 refine ⟨λaw=>?_,λcK=>?_⟩
 ·have aw:k<n:=by omega
  obtain ⟨z1,z2⟩:=sz6 (show k<=6 by omega)
  have z3:=aKB (show k<=6 by omega)
  -- ka row with ka pivot is ka first
  refine cN (σ:=Unit) (λ_=>[I k]) (λ_=>g) (λ_=>True) (λ_=>0) () rfl rfl trivial ?_
  intro _ _ L2 _
  rw [aDM]
  obtain ⟨va,la,ra⟩:=m.get aw (show k<n+1 by omega)
  simp only [l0,ah,bT,dh (show (k:Int)<n by omega)]
  rw [aDN]
  simp only [gq,MQ.dX aw,m.ld aw,QL.dX (show k<n+1 by omega),la,ah]
  refine Kz ra λg1 y1=>?_
  have pn:=anW x ok aw
  have is1:zh (B k k).num=1:=by unfold zh;rw [if_neg (by omega),if_neg (by omega)]
  simp only [is1,jD,ah]
  rw [aDO]
  have pk:bu (.bool true) (.bool (decide ((1:Int)=0))) (.bool false)=some (.bool false):=rfl
  simp only [pk,ah,dm]
  rw [aDP]
  have nk:¬(k:Int)=n:=by omega
  have m1:=m.up y1
  simp only [l0,ah,jD,bY nk,dm,iE,decide_true,Bool.not_true]
  rw [aDQ]
  have Be:=EX.load y1 la
  have lc:af true 4 g1 (pt Q7 0)=some (.agg (cG c).toArray):=ko (y1.get hc)
  simp only [lc,MQ.dX aw,m1.ld aw,QL.dX (show k<n+1 by omega),Be,ah,true_and]
  have tk:=ok.t0 k (by omega)
  refine EH (i:=310) (j:=319) (hr.mono y1) (ra.mono y1) (uc F0 (pw x.dl z2) (pw Fl z3)) (D9 x ok (s:=319) z1 (by omega) (le_refl _) aw (le_refl _) (by omega)) (by omega) λr5 g5 x5 lH=>?_
  have e5:divInt d F*B k k=divInt (N k k*d) (F*(d*t k)):=by
   rw [x.ee k (le_refl _) aw k (le_refl _) (by omega),Rat.divInt_mul_divInt,mul_comm d]
  rw [e5] at lH
  obtain ⟨g6,s6,ld6,r6,f6,c6,hc6,rfl⟩:=lH.w9 (x5.get (y1.get hc))
  have m5:=m1.up x5
  have A7:∀i<n,ids i<h.length:=λi hi=>(m0.hr i hi).lt
  have iml:im<h.length:=(cm m0.ho).1
  have m6:=m5.fr f6 (by omega) λi hi=>by have:=A7 i hi;omega
  have fr6:FR (tZ n ids) h g6:=(fr.trans (FR.ex (y1.trans x5))).tail f6 λd' nB=>.inr (by omega)
  simp only [true_and,s6,aL,bZ,ah]
  rw [dQ k (by simp [maxLen];omega)]
  refine aop ok x aw m6 λg7 B' HN m7 hB hE=>?_
  rw [aDU]
  simp only [bZ,ah,true_and]
  rw [dQ k (by simp [maxLen];omega)]
  have nS:∀d',h.length<=d'->¬tZ n ids d':=λd' h1 ⟨i,h2,h3⟩=>by have:=A7 i h2;omega
  refine hL (k+1,B',_,N k k*d,F*(d*t k),c6,g7) ⟨aw,fr6.trans HN,m7,x.next aw ok.y0 λr h1 h2 c h3 h4=>hE r h1 h2 c h3 h4,λi hi=>?_,HN.get (nS _ (by omega)) hc6,HN.get (nS _ (by omega)) (f6.get (by omega) ((y1.trans x5).get yU)),mul_pos F0 (mul_pos x.d0 tk),?_,HN.rv _ _ r6⟩ (by show n-(k+1)<n-k;omega)
  ·have hi:i<k+1:=hi
   by_cases e:i=k
   ·subst e
    have rd:=x.done aw ok.y0
    exact ⟨_,_,rd.d0,rd.dl,λc h1 h2=>by show B' i c=_;rw [hB i c (le_refl _)];exact rd.ee c h1 h2,rd.bd,rd.piv,rd.row⟩
   ·obtain ⟨N',d',rd⟩:=dn i (by omega)
    exact ⟨N',d',rd.d0,rd.dl,λc h1 h2=>by show B' i c=_;rw [hB i c (by omega)];exact rd.ee c h1 h2,rd.bd,rd.piv,rd.row⟩
  ·show (F*(d*t k)).natAbs<10^(Kc k+ue k+4)
   rw [natAbs_mul,natAbs_mul,Nat.add_assoc]
   exact rE Fl (rE x.dl (ok.t4 k (by omega)))
 ·have eX:k=n:=by omega
  subst eX
  rw [aDV]
  have lc:af true 4 g (pt Q7 0)=some (.agg (cG c).toArray):=ko hc
  obtain ⟨g6,s6,ld6,r6,f6,c6,hc6,_⟩:=hr.w9 yU
  simp only [lc,ah,s6,aL,ld6]
  have A7:∀i<k,ids i<h.length:=λi hi=>(m0.hr i hi).lt
  have iml:im<h.length:=(cm m0.ho).1
  exact hK _ g6 B (fr.tail f6 λd' nB=>.inr (by omega)) (m.fr f6 (by omega) λi hi=>by have:=A7 i hi;omega) dn
end
section
open Go.Sim Go.Sort
variable {h : ae} {K : Value -> ae -> Prop} {n : Nat}
variable {t y : Nat -> Int} {A : Nat -> Nat -> Rat} {N : Nat -> Nat -> Int}
theorem DS.xm {e e':TypeId} {h h':ae} {v:Value} {xs:List Nat} {j:Nat} {cs:List Value} (d:DS e .u32 h v xs) (x:XM j h h') (hj:h[j]?=some (.arr e' cs)) (hn:∀z r,cs≠ .int .u32 z::r):DS e .u32 h' v xs:=by
 rcases d with d | ⟨i,h1,h2⟩
 ·exact .inl d
 ·refine .inr ⟨i,h1,?_⟩
  rcases h2 with h2 | ⟨rest,h2⟩
  ·exact .inl h2
  ·cases xs with
   | nil=>exact .inl rfl
   | cons x' xs=>
    right
    refine ⟨rest,?_⟩
    have b7:i≠j:=by
     rintro rfl
     unfold bw at h2
     rw [hj] at h2
     exact hn _ _ (Option.some.inj h2)
    have hl:i<h.length:=by
     refine Nat.lt_of_not_le λhle=>?_
     unfold bw at h2
     rw [List.getElem?_eq_none hle] at h2
     cases h2
    unfold bw at h2⊢
    rw [x.2 i hl b7]
    exact h2
theorem FR.xm {g g':ae} {j:Nat} {e:TypeId} {cs:List Value} (x:XM j g g') (hj:g[j]?=some (.arr e cs)) (hn:∀z r,cs≠ .int .u32 z::r):FR (λd=>d=j) g g':=
 ⟨x.1,λd h1 h2=>x.2 d h1 h2,λ_ _ p=>
  let ⟨u,w,e1,⟨xs,a1,a2,a3⟩,⟨ys,b1,b2,b3⟩⟩:=p
  ⟨u,w,e1,⟨xs,DS.xm a1 x hj hn,a2,a3⟩,⟨ys,DS.xm b1 x hj hn,b2,b3⟩⟩⟩
theorem aKk {k j:Nat} (h:k<=j) (f:Nat->Int):fR k (j+1) f=fR k j f+f j:=by
 unfold fR
 rw [kG,if_pos h]
theorem azj {N d t:Int} (hN:0<N) (hd:0<d):divInt N d / divInt N (d*t)=(t:Rat):=by
 rw [Rat.div_def,Rat.inv_divInt,Rat.divInt_mul_divInt]
 have e:N*(d*t)=t*(d*N):=by rw [mul_comm d t,Int.mul_left_comm,mul_comm N d]
 rw [e]
 have:=mul_pos hd hN
 exact Pd (by omega)
theorem azo {N d t:Int} (ht:0<t):divInt N (d*t)*(t:Rat)=divInt N d:=by
 rw [Co t,Rat.divInt_mul_divInt,Int.mul_one,Rat.divInt_mul_right (by omega)]
theorem aoU {im:Nat} {ids:Nat->Nat} (ok:p9 n t y) (t1:t n=1) (m:MQ h im ids n (n+1) A) (dn:∀i<n,∃N d,Fy n i t (A i) N d)
  (hK:∀g ix,EX h g->h.length<=ix->QL g ix n (λj=>some (t j:Rat))->K (sl 92 ix 0 n) g):
  OP (aT (sl 84 im 0 n)) λb9=>OH (eM 92 64 [(.bool false),(.slice none 0 0),(.bool false),(.slice none 0 0)] h b9 b9) λcB h_2=>OP (aj .sub b9 (.int .i64 (1))) λbG=>bX [bG] h_2 λL1 xs hx=>Ud prog K (sl 84 im 0 n) b9 cB L1 xs hx:=by
 have n7:=ok.n7
 have l0:aT (sl 84 im 0 n)=some (I n):=rfl
 have sG:eM 92 64 [(.bool false),(.slice none 0 0),(.bool false),(.slice none 0 0)] h (I n) (I n)=some (sl 92 h.length 0 n,h++[.arr 92 (bE z4 n)]):=by
  simp only [eM]
  rw [if_pos (by omega)]
  simp [z4]
 have sb:IntKind.wrap .i64 ((n:Int)-1)=(n:Int)-1:=wrap64 (by omega) (by omega)
 have x1:EX h (h++[.arr 92 (bE z4 n)]):=EX.append _ _
 have q1:QL (h++[.arr 92 (bE z4 n)]) h.length n λ_=>none:=⟨λ_=>(false,.slice none 0 0,false,.slice none 0 0),by rw [bL,<-VL];rfl,λj _ r hr=>by cases hr⟩
 simp only [l0,ah,sG,aL,gO,sb]
 generalize h++[az.arr 92 (bE z4 n)]=g1 at x1 q1⊢
 refine cN (σ:=Nat×ae) (λq=>[I ((q.1:Int)-1)]) (λq=>q.2) (λq=>q.1<=n/\EX h q.2/\QL q.2 h.length n λj=>if q.1<=j then some (t j:Rat) else none) (λq=>q.1)
  (n,g1) rfl rfl ⟨le_refl _,x1,q1.congr λj hj=>if_neg (by omega)⟩ ?_
 rintro ⟨m',g⟩ ⟨hm,xg,ql⟩ L hL
 simp only at hm xg ql hL⊢
 rw [aIs]
 simp only [om,ah]
 by_cases h0:m'=0
 ·subst h0
  rw [bY (show ¬(0:Int)<=((0:Nat):Int)-1 by decide)]
  simp only [dm]
  rw [aIw]
  exact hK g h.length xg (le_refl _) (ql.congr λj _=>by rw [if_pos (zero_le _)])
 ·obtain ⟨i,rfl⟩:∃i,m'=i+1:=⟨m' -1,by omega⟩
  have ei:((i+1:Nat):Int)-1=(i:Int):=by omega
  rw [ei,dh (show (0:Int)<=(i:Int) by omega)]
  have fB:i<n:=by omega
  obtain ⟨N,d,rd⟩:=dn i fB
  obtain ⟨z1,z2⟩:=sz6 (show i<=6 by omega)
  have mg:=m.up xg
  obtain ⟨va,la,ra⟩:=mg.get fB (show n<n+1 by omega)
  have dl:=pw rd.dl z2
  have an:A i n=divInt (N n) d:=by rw [rd.ee n (by omega) (le_refl _),t1,Int.mul_one]
  rw [an] at ra
  simp only [gf,MQ.dX fB,mg.ld fB,QL.dX (show n<n+1 by omega),la,ah,rR,aL]
  have x2:EX g (g++[.arr 92 z4]):=EX.append _ _
  have c2:(g++[az.arr 92 z4])[g.length]?=some (.arr 92 z4):=bL
  have uZ:h.length<g.length:=ql.lt
  obtain ⟨g3,s3,x3,rD,r3,f3,c3,yw,rfl⟩:=(ra.mono x2).put (h0:=g) x2 (le_refl _) c2
  generalize hs9:g.length=is at s3 yw uZ⊢
  simp only [s3,aL,bZ,ah]
  rw [dQ i (by simp [maxLen];omega)]
  refine cN (σ:=Nat×Int×Cl×ae) (λq=>[I q.1]) (λq=>q.2.2.2) (λq=>i+1<=q.1/\q.1<=n/\EX g q.2.2.2/\q.2.1=N n-fR (i+1) q.1 N/\q.2.1.natAbs<=(q.1-i)*10^319/\q.2.2.2[is]?=some (.arr 92 (cG q.2.2.1))/\RV q.2.2.2 (.agg (cG q.2.2.1).toArray) (divInt q.2.1 d)) (λq=>n-q.1)
   (i+1,N n,c3,g3) rfl rfl ⟨le_refl _,by omega,x3,?_,?_,yw,r3⟩ ?_
  ·show N n=N n-fR (i+1) (i+1) N
   rw [aKi];omega
  ·show (N n).natAbs<=(i+1-i)*10^319
   rw [Nat.add_sub_cancel_left,Nat.one_mul]
   exact Nat.le_of_lt (pw (rd.bd n (by omega) (le_refl _)) z1)
  rintro ⟨j,S,c,g4⟩ ⟨gE,kQ,x4,eS,bS,hc,hr⟩ L2 dP
  simp only at gE kQ x4 eS bS hc hr dP⊢
  have lc:af true 4 g4 (pt is 0)=some (.agg (cG c).toArray):=ko hc
  have sS:hI 320 (divInt S d):=uc rd.d0 (by
   have h1:(j-i)*10^319<=7*10^319:=Nat.mul_le_mul_right _ (by omega)
   have h2:(10:Nat)^320=10*10^319:=by rw [Nat.pow_succ,Nat.mul_comm]
   have h3:0<(10:Nat)^319:=Nat.pow_pos (by omega)
   rw [h2]
   generalize (10:Nat)^319=W at*
   omega) (pw dl (by omega))
  rw [aIt]
  simp only [bT,ah,cd]
  refine ⟨λaw=>?_,λcK=>?_⟩
  ·have aw:j<n:=by omega
   have m4:=mg.up x4
   obtain ⟨vj,lj,rj⟩:=m4.get fB (show j<n+1 by omega)
   obtain ⟨vx,lx,rx⟩:=(ql.up x4).get aw (if_pos (by omega))
   have ej:=rd.ee j (by omega) (by omega)
   have tj:=ok.t0 j (by omega)
   rw [ej] at rj
   simp only [lc,MQ.dX fB,m4.ld fB,QL.dX (show j<n+1 by omega),QL.dX aw,lj,lx,ah,true_and]
   have bj:=pw (rd.bd j (by omega) (by omega)) z1
   refine EH (i:=319) (j:=5) rj rx (uc (mul_pos rd.d0 tj) bj (by rw [natAbs_mul];exact pw (rE dl (ok.t4 j (by omega))) (by omega))) (mZ (pw (ok.t4 j (by omega)) (by omega)) (by omega)) (by omega) λr5 g5 x5 lH=>?_
   rw [azo tj] at lH
   have IK:=EX.load x5 lc
   simp only [IK,true_and,and_true]
   refine Kw (i:=320) (j:=319) (hr.mono x5) lH sS (uc rd.d0 bj (pw dl (by omega))) (by omega) λr6 g6 x6 yO=>?_
   have d0:=rd.d0
   rw [adv (by omega)] at yO
   have eT:=x5.trans x6
   obtain ⟨g7,s7,x7,ld7,r7,f7,c7,hc7,rfl⟩:=yO.put (h0:=g) (x4.trans eT) (by omega) (eT.get hc)
   simp only [true_and,s7,aL,bZ,ah]
   rw [dQ j (by simp [maxLen];omega)]
   refine dP (j+1,S-N j,c7,g7) ⟨by omega,aw,x7,?_,?_,hc7,r7⟩ (by show n-(j+1)<n-j;omega)
   ·show S-N j=N n-fR (i+1) (j+1) N
    rw [aKk gE,eS];omega
   ·show (S-N j).natAbs<=(j+1-i)*10^319
    rw [show j+1-i=(j-i)+1 by omega,Nat.add_mul,Nat.one_mul]
    generalize (10:Nat)^319=W at*
    omega
  ·have kQ:j=n:=by omega
   subst kQ
   rw [aIu]
   have m4:=mg.up x4
   obtain ⟨vi,li,ri⟩:=m4.get fB (show i<j+1 by omega)
   have ti:=ok.t0 i (by omega)
   have ei:=rd.ee i (le_refl _) (by omega)
   have eN:S=N i:=by
    have:=rd.row
    rw [DY fB] at this
    rw [eS]
    have e2:fR (i+1) j N=fR (i+1) j λc=>N c:=rfl
    omega
   subst eN
   have pv:=rd.piv
   rw [ei] at ri
   simp only [lc,MQ.dX fB,m4.ld fB,QL.dX (show i<j+1 by omega),li,ah,true_and]
   refine KB (i:=320) (j:=319) hr ri (Hu (mul_pos rd.d0 ti) pv) sS (uc (mul_pos rd.d0 ti) (pw (rd.bd i (le_refl _) (by omega)) z1) (by rw [natAbs_mul];exact pw (rE dl (ok.t4 i (by omega))) (by omega))) (by omega) λr5 g5 x5 lH=>?_
   rw [azj pv rd.d0] at lH
   obtain ⟨g6,s6,f6,q6⟩:=((ql.up x4).up x5).set fB lH
   simp only [true_and,QL.dX fB,ah,s6,aL]
   rw [aIv]
   have sb2:IntKind.wrap .i64 ((i:Int)-1)=(i:Int)-1:=wrap64 (by omega) (by omega)
   simp only [gO,ah,true_and,sb2]
   refine hL (i,g6) ⟨by omega,FR.iB (xg.trans (x4.trans x5)) f6 λd' nB=>by omega,q6.congr λk hk=>?_⟩ (by show i<i+1;omega)
   by_cases e:k=i
   ·subst e;rw [fL,if_pos (le_refl _)]
   ·rw [eA _ _ e]
    by_cases h1:i+1<=k
    ·rw [if_pos h1,if_pos (by omega)]
    ·rw [if_neg h1,if_neg (by omega)]
end
section
open Go.Sim Go.Sort
variable {h : ae} {K : Value -> ae -> Prop} {n : Nat}
variable {t y : Nat -> Int} {A : Nat -> Nat -> Rat} {N : Nat -> Nat -> Int}
def xp (n:Nat) (A:Nat->Nat->Rat) (bv:Nat->Rat) (i j:Nat):Rat:=if j=n then bv i else A i j
theorem C80 {im ib:Nat} {ids:Nat->Nat} {b1:Value} {bv:Nat->Rat} (ok:p9 n t y) (t1:t n=1) (m:MQ h im ids n n A) (hb:n=0∨(b1=sl 92 ib 0 n/\QL h ib n (λj=>some (bv j)))) (H6:ib≠im/\∀i<n,ib≠ids i) (x:lQ n 0 t y (xp n A bv) N 1)
  (hK:∀g ix,FR (λd=>d=im∨tZ n ids d) h g->h.length<=ix->QL g ix n (λj=>some (t j:Rat))->K (sl 92 ix 0 n) g):ay prog 80 [sl 84 im 0 n,b1] h K:=by
 have n7:=ok.n7
 refine f80 ?_
 unfold Nk
 have l0:aT (sl 84 im 0 n)=some (I n):=rfl
 have A7:∀i<n,ids i<h.length:=λi hi=>(m.hr i hi).lt
 have iml:im<h.length:=(cm m.ho).1
 simp only [l0,ah]
 refine cN (σ:=Nat×(Nat->Nat)×ae) (λq=>[I q.1]) (λq=>q.2.2) (λq=>q.1<=n/\FR (λd=>d=im∨tZ n ids d) h q.2.2/\q.2.2[im]?=some (.arr 84 ((List.range n).map λi=>sl 92 (q.2.1 i) 0 (if i<q.1 then n+1 else n)))/\
   (∀i<q.1,QL q.2.2 (q.2.1 i) (n+1) λj=>some (xp n A bv i j))/\(∀i<n,q.1<=i->QL q.2.2 (q.2.1 i) n λj=>some (A i j))/\(∀i<n,∀j<n,q.2.1 i=q.2.1 j->i=j)/\∀i<n,q.2.1 i=ids i∨h.length<=q.2.1 i) (λq=>n-q.1)
  (0,ids,h) rfl rfl ⟨zero_le _,FR.refl _ _,m.ho,λi hi=>absurd hi (not_lt_zero _),λi hi _=>m.hr i hi,m.inj,λi hi=>.inl rfl⟩ ?_
 rintro ⟨k,id,g⟩ ⟨fD,fr,ho,hd,hr,inj,iH⟩ L hL
 simp only at fD fr ho hd hr inj iH hL⊢
 have Dn:∀i<n,id i≠im:=λi hi=>by
  rcases iH i hi with e | e
  ·rw [e];exact m.nm i hi
  ·omega
 rw [aIx]
 simp only [bT,ah,cd]
 refine ⟨λaw=>?_,λcK=>?_⟩
 ·have aw:k<n:=by omega
  obtain ⟨rfl,qb⟩:=hb.resolve_left (by omega)
  have nS:¬(ib=im∨tZ n ids ib):=λh=>h.elim H6.1 λ⟨i,h1,h2⟩=>H6.2 i h1 h2
  obtain ⟨vb,lb,rb⟩:=(qb.fr fr nS).get aw rfl
  obtain ⟨c,rfl⟩:=rb.cl
  have lr:af false 1 g (pt im k)=some (sl 92 (id k) 0 n):=by
   simp [af,bw,ho,dS,aw]
  have x1:EX g (g++[.arr 92 (cG c)]):=EX.append _ _
  have c1:(g++[az.arr 92 (cG c)])[g.length]?=some (.arr 92 (cG c)):=bL
  simp only [MQ.dX aw,lr,QL.dX aw,lb,ah,true_and,I1,aL,EX.load x1 lr,and_true]
  obtain ⟨cs,mQ,DT⟩:=(hr k aw (le_refl _)).ob
  have tC:=x1.get mQ
  have sc:fx (g++[az.arr 92 (cG c)]) 4 (sl 92 g.length 0 1)=some (cG c):=by
   simp only [fx,sl,bw,c1,bind_some]
   rfl
  obtain ⟨i',g2,a2,e2,m2,c2⟩:=uE (bytes:=64) tC (xY n cs) sc rfl (by omega) (by omega) (by simp [maxLen];omega)
  have CP:(g++[az.arr 92 (cG c)]).length=g.length+1:=by simp
  obtain ⟨s,rr,hh⟩:=Hj (by omega:0<n) cs
  have f2:=FR.xm m2 tC (by intro z r e;rw [hh] at e;cases e)
  have AE:FR (λd=>d=id k) g g2:=(FR.ex x1).trans f2
  have Dm:∀i<n,id i<g.length:=λi hi=>by
   rcases Nat.lt_or_ge i k with h1 | h1
   ·exact (hd i h1).lt
   ·exact (hr i hi h1).lt
  have iso:∀i<n,i≠k->i'≠id i:=λi hi b7 e=>by
   rcases e2 with h1 | h1
   ·exact b7 (inj i hi k aw (by omega))
   ·have:=Dm i hi;omega
  have aBJ:i'≠im:=λe=>by
   rcases e2 with h1 | h1
   ·exact Dn k aw (by omega)
   ·have:=fr.len;omega
  have ve:g2[im]?=_:=AE.get (λh=>Dn k aw h.symm) ho
  have st:=kz ve (o:=k) (v:=sl 92 i' 0 (n+1)) (by simpa using aw) rfl rfl
  have e3:((List.range n).map λi=>sl 92 (id i) 0 (if i<k then n+1 else n)).set k (sl 92 i' 0 (n+1))=(List.range n).map λi=>sl 92 (dU id k i' i) 0 (if i<k+1 then n+1 else n):=by
   refine List.ext_getElem (by simp) λq h1 h2=>?_
   rw [List.getElem_set]
   simp only [getElem_map,List.getElem_range]
   by_cases e:k=q
   ·subst e;rw [if_pos rfl,if_pos (by omega),fL]
   ·rw [if_neg e,eA _ _ (Ne.symm e)]
    by_cases h3:q<k
    ·rw [if_pos h3,if_pos (by omega)]
    ·rw [if_neg h3,if_neg (by omega)]
  rw [e3] at st
  simp only [a2,aL,MQ.dX aw,ah,st,bZ,true_and]
  rw [dQ k (by simp [maxLen];omega)]
  have CQ:∀z r,((List.range n).map λi=>sl 92 (id i) 0 (if i<k then n+1 else n))≠ .int .u32 z::r:=by
   obtain ⟨m',rfl⟩:∃m',n=m'+1:=⟨n-1,by omega⟩
   intro z r e
   rw [List.range_succ_eq_map,map_cons] at e
   have:=(List.cons.inj e).1
   cases this
  have f3:=FR.xi ve CQ (.arr 84 ((List.range n).map λi=>sl 92 (dU id k i' i) 0 (if i<k+1 then n+1 else n)))
  have qn:QL g2 i' (n+1) λj=>some (xp n A bv k j):=by
   refine ⟨λj=>if j=n then c else cs j,?_,λj hj r sk=>?_⟩
   ·rw [c2,xZ,if_pos rfl]
    congr 2
    rw [Hi (ds:=cs) λj hj=>if_neg (by omega)]
   ·cases sk
    unfold xp
    by_cases e:j=n
    ·rw [if_pos e]
     show RV g2 (.agg (cG (if j=n then c else cs j)).toArray) _
     rw [if_pos e];exact AE.rv _ _ rb
    ·rw [if_neg e]
     show RV g2 (.agg (cG (if j=n then c else cs j)).toArray) _
     rw [if_neg e];exact AE.rv _ _ (DT j (by omega) _ rfl)
  refine hL (k+1,dU id k i',_) ⟨aw,(fr.tail AE λd nB=>?_).tail f3 λd nB=>.inl (.inl nB),getElem?_set_self (cm ve).1,λi hi=>?_,λi hi mD=>?_,λi hi j hj e=>?_,λi hi=>?_⟩ (by show n-(k+1)<n-k;omega)
  ·rcases iH k aw with e | e
   ·exact .inl (.inr ⟨k,aw,by omega⟩)
   ·exact .inr (by omega)
  ·show QL _ (dU id k i' i) (n+1) _
   have hi:i<k+1:=hi
   by_cases e:i=k
   ·subst e
    rw [fL]
    exact qn.fr f3 aBJ
   ·rw [eA _ _ e]
    exact ((hd i (by omega)).fr AE λh=>e (inj i (by omega) k aw h)).fr f3 (Dn i (by omega))
  ·show QL _ (dU id k i' i) n _
   have mD:k+1<=i:=mD
   rw [eA _ _ (by omega)]
   exact ((hr i hi (by omega)).fr AE λh=>by have:=inj i hi k aw h;omega).fr f3 (Dn i hi)
  ·have e:dU id k i' i=dU id k i' j:=e
   by_cases e1:i=k <;> by_cases tg:j=k
   ·omega
   ·subst e1
    rw [fL,eA _ _ tg] at e
    exact absurd e (iso j hj tg)
   ·subst tg
    rw [fL,eA _ _ e1] at e
    exact absurd e.symm (iso i hi e1)
   ·rw [eA _ _ e1,eA _ _ tg] at e
    exact inj i hi j hj e
  ·show dU id k i' i=ids i∨h.length<=dU id k i' i
   by_cases e:i=k
   ·subst e
    rw [fL]
    rcases e2 with h1 | h1
    ·rw [h1];exact iH i hi
    ·exact .inr (by have:=fr.len;omega)
   ·rw [eA _ _ e];exact iH i hi
 ·have eX:k=n:=by omega
  subst eX
  rw [aIr]
  have mA:MQ g im id k (k+1) (xp k A bv):=⟨by
   rw [ho]
   congr 2
   exact List.map_congr_left λi hi=>by rw [if_pos (mem_range.1 hi)],λi hi=>hd i hi,inj,Dn⟩
  refine aoo ok mA x λr g2 A' f2 m2 dn=>?_
  refine aoU ok t1 m2 dn λg3 ix x3 Ii ql=>?_
  refine hK g3 ix ((fr.tail f2 λd ⟨i,hi,e⟩=>?_).trans (FR.ex x3)) (by have:=fr.len;have:=f2.len;omega) ql
  rcases iH i hi with e' | e'
  ·exact .inl (.inr ⟨i,hi,by omega⟩)
  ·exact .inr (by omega)
end
section
open Go.Sim Go.Sort
variable {h : ae} {K : Value -> ae -> Prop} {n : Nat}
theorem aug {b:Nat} {g:ae} {e:TypeId} {bytes:Nat} {v x z:Value} {xs:List Value} {K:Value->ae->Prop} (o:gB b g e v xs) (hbg:b<=g.length) (hb:(xs.length+1)*bytes<=140737488355328) (hm:xs.length+1<=maxLen)
  (h1:fV x=true) (h2:dL x=[x]) (hn:∀w r,xs≠ .int .u32 w::r) (hk:∀v' g',FR (λd=>∃m,v=sl e d 0 m) g g'->gB b g' e v' (xs++[x])->(∀d m,v'=sl e d 0 m->g.length<=d)->K v' g'):
  OH (cH e 1 [z] g [(0,1,x)]) λa h2=>OH (cT e 1 bytes h2 v a) K:=by
 refine BX o hb hm h1 h2 λg1 g2 _ gl iA kL=>?_
 have fr:FR (λd=>∃m,v=sl e d 0 m) g g2:=by
  rcases o with ⟨rfl,rfl⟩ | ⟨i,hi,rfl,hg⟩
  ·exact FR.ex ⟨by omega,λd hd=>iA d hd λm hv=>by cases hv⟩
  ·have x:XM i g g2:=⟨by omega,λd h1 h2=>iA d h1 λm hv=>h2 (vO hv).1.symm⟩
   exact (FR.xm x hg hn).Vh λd hd=>⟨xs.length,by rw [hd]⟩
 simp only [aL]
 refine hk _ g2 fr (.inr ⟨g.length+1,by omega,by rw [List.length_append];rfl,kL⟩) λd m hd=>?_
 rw [<-(vO hd).1];omega
def BQ (g:ae) (id n:Nat) (f:Nat->Bool):Prop:=g[id]?=some (.arr 4 ((List.range n).map λi=>B (f i)))
theorem BQ.dX {id i:Nat} (hi:i<n):aD 1 (sl 4 id 0 n) (I i)=some (pt id i):=jL hi
theorem BQ.ld {g:ae} {id i:Nat} {f:Nat->Bool} (p:BQ g id n f) (hi:i<n):af false 1 g (pt id i)=some (B (f i)):=by
 unfold BQ at p
 simp [af,bw,p,dS,hi]
theorem BQ.fr {S:Nat->Prop} {g g':ae} {id:Nat} {f:Nat->Bool} (p:BQ g id n f) (x:FR S g g') (hs:¬S id):BQ g' id n f:=x.get hs p
theorem BQ.up {g g':ae} {id:Nat} {f:Nat->Bool} (p:BQ g id n f) (x:EX g g'):BQ g' id n f:=x.get p
theorem BQ.nu {f:Nat->Bool}:∀z r,((List.range n).map λi=>B (f i))≠ .int .u32 z::r:=by
 intro z r e
 cases n with
 | zero=>cases e
 | succ n=>
  rw [List.range_succ_eq_map,map_cons] at e
  have:=(List.cons.inj e).1
  cases this
theorem BQ.set {g:ae} {id i:Nat} {f:Nat->Bool} (p:BQ g id n f) (hi:i<n) (b:Bool):∃g',aU 1 g (pt id i) (B b)=some (undef,g')/\FR (λd=>d=id) g g'/\BQ g' id n (dU f i b)/\g'=g.set id (.arr 4 ((List.range n).map λj=>B (dU f i b j))):=by
 have st:=kz p (o:=i) (v:=B b) (by simpa using hi) rfl rfl
 have e:((List.range n).map λj=>B (f j)).set i (B b)=(List.range n).map λj=>B (dU f i b j):=by
  refine List.ext_getElem (by simp) λq h1 h2=>?_
  rw [List.getElem_set]
  simp only [getElem_map,List.getElem_range]
  by_cases e:i=q
  ·subst e;rw [if_pos rfl,fL]
  ·rw [if_neg e,eA _ _ (Ne.symm e)]
 rw [e] at st
 exact ⟨_,st,FR.xi p BQ.nu _,getElem?_set_self (cm p).1,rfl⟩
theorem BQ.make (h:ae) (n8:n<=8):eM 4 1 [(.bool false)] h (I n) (I n)=some (sl 4 h.length 0 n,h++[.arr 4 ((List.range n).map λ_=>B false)]):=by
 simp only [eM]
 rw [if_pos (by omega)]
 have:bE [(.bool false)] n=(List.range n).map λ_=>B false:=by
  simp [bE]
  rw [map_const'];simp
 rw [<-this]
 simp
def cM (part:Nat->Bool) (k:Nat):List Nat:=(List.range k).filter part
theorem PE (part:Nat->Bool) (k:Nat):cM part (k+1)=if part k then cM part k++[k] else cM part k:=by
 unfold cM
 rw [range_succ,List.filter_append]
 by_cases h:part k=true
 ·simp [h]
 ·simp [h]
def gS (n:Nat) (D:Nat->Nat->Int) (part dG:Nat->Bool) (j:Nat):Int:=if part j then 0 else if dG j then 0 else di n D j
theorem aoR {ik ia ib:Nat} {D:Nat->Nat->Int} {part dG:Nat->Bool} (m:ki h ik n D) (pa:BQ h ia n part) (pb:BQ h ib n dG)
  (hk:∀vf g ip,EX h g->h.length<=ip->QL g ip n (λj=>some (gS n D part dG j:Rat))->gB (ip+1) g 3 vf ((cM part n).map λi=>I (i:Nat))->TJ prog K (pt ik 0) (sl 92 ip 0 n) vf g):ay prog 54 [pt ik 0,sl 4 ia 0 n,sl 4 ib 0 n] h K:=by
 have n8:=m.n8
 refine f54 ?_
 unfold MW
 have sG:eM 92 64 [(.bool false),(.slice none 0 0),(.bool false),(.slice none 0 0)] h (I n) (I n)=some (sl 92 h.length 0 n,h++[.arr 92 (bE z4 n)]):=by
  simp only [eM]
  rw [if_pos (by omega)]
  simp [z4]
 have x1:EX h (h++[.arr 92 (bE z4 n)]):=EX.append _ _
 have q1:QL (h++[.arr 92 (bE z4 n)]) h.length n λ_=>none:=⟨λ_=>(false,.slice none 0 0,false,.slice none 0 0),by rw [bL,<-VL];rfl,λj _ r hr=>by cases hr⟩
 have m1:=m.up x1
 simp only [gH,bP,zero_add,ah,m.lJ,sG,aL,m1.lJ]
 have CP:(h++[az.arr 92 (bE z4 n)]).length=h.length+1:=by simp
 generalize h++[az.arr 92 (bE z4 n)]=g1 at x1 q1 CP⊢
 refine cN (σ:=Nat×Value×ae) (λq=>[q.2.1,I q.1]) (λq=>q.2.2) (λq=>q.1<=n/\EX h q.2.2/\h.length+1<=q.2.2.length/\QL q.2.2 h.length n (λj=>if j<q.1 then some (gS n D part dG j:Rat) else none)/\gB (h.length+1) q.2.2 3 q.2.1 ((cM part q.1).map λi=>I (i:Nat))) (λq=>n-q.1)
  (0,.slice none 0 0,g1) rfl rfl ⟨zero_le _,x1,by show h.length+1<=g1.length;omega,q1.congr λj _=>if_neg (not_lt_zero _),.inl ⟨rfl,rfl⟩⟩ ?_
 rintro ⟨k,vf,g⟩ ⟨fD,xg,gl,ql,own⟩ L hL
 simp only at fD xg gl ql own hL⊢
 rw [aHH]
 simp only [bT,ah,cd]
 refine ⟨λaw=>?_,λcK=>?_⟩
 ·have aw:k<n:=by omega
  -- ka aMX is stored
  have put:∀(vf:Value) (g2:ae) (r:Value),EX h g2->h.length+1<=g2.length->QL g2 h.length n (λj=>if j<k then some (gS n D part dG j:Rat) else none)->RV g2 r (gS n D part dG k:Rat)->gB (h.length+1) g2 3 vf ((cM part (k+1)).map λi=>I (i:Nat))->
    OP (aD 4 (sl 92 h.length 0 n) (I k)) λfg=>OH (aU 4 g2 fg r) λ_ h_4=>DJ prog K (pt ik 0) (sl 4 ia 0 n) (sl 4 ib 0 n) (sl 92 h.length 0 n) vf (I n) (I k) L h_4:=by
   intro vf g2 r x2 PM q2 hr oP
   obtain ⟨g3,s3,f3,q3⟩:=q2.set aw hr
   simp only [QL.dX aw,ah,s3,aL]
   rw [aHy]
   simp only [bZ,ah,true_and]
   rw [dQ k (by simp [maxLen];omega)]
   refine hL (k+1,vf,g3) ⟨aw,FR.iB x2 f3 λd hd=>by omega,le_trans PM f3.len,q3.congr λj hj=>?_,oP.iA λd q hv hd=>f3.iA d (oP.lt hv).2.1 (by omega)⟩ (by show n-(k+1)<n-k;omega)
   show (if j<k+1 then _ else _)=_
   by_cases e:j=k
   ·subst e;rw [fL,if_pos (by omega)]
   ·rw [eA _ _ e]
    by_cases h1:j<k
    ·rw [if_pos h1,if_pos (by omega)]
    ·rw [if_neg h1,if_neg (by omega)]
  have fs:=PE part k
  have rb:=m.pX aw
  simp only [BQ.dX aw,(pa.up xg).ld aw,ah]
  cases hp:part k
  ·simp only [dm,BQ.dX aw,(pb.up xg).ld aw,ah]
   rw [hp,if_neg (by simp)] at fs
   cases hq:dG k
   ·have mg:=m.up xg
    obtain ⟨tv,tb,to,l1,l2,l3⟩:=mg.zM aw
    simp only [dm,gH,bP,zero_add,ah,l1,l2,l3]
    refine pL (by omega) (by omega) λr g2 x2 hr=>?_
    have e:gS n D part dG k=di n D k:=by simp [gS,hp,hq]
    exact put vf g2 r (xg.trans x2) (le_trans gl x2.1) (ql.up x2) (by rw [e];exact hr) (by rw [fs];exact own.iA λd q hv hd=>x2.2 d (own.lt hv).2.1)
   ·simp only [gf]
    refine pL (by omega) (by omega) λr g2 x2 hr=>?_
    have e:gS n D part dG k=0:=by simp [gS,hp,hq]
    exact put vf g2 r (xg.trans x2) (le_trans gl x2.1) (ql.up x2) (by rw [e];exact hr) (by rw [fs];exact own.iA λd q hv hd=>x2.2 d (own.lt hv).2.1)
  ·simp only [gf]
   rw [hp,if_pos rfl] at fs
   have fl:((cM part k).map λi=>I (i:Nat)).length<=8:=by
    rw [length_map]
    have:=List.length_filter_le part (List.range k)
    rw [List.length_range] at this
    unfold cM;omega
   refine aug own gl (by omega) (by simp only [maxLen];omega) rfl rfl (λw r e=>?_) λv2 g2 f2 oP pB=>?_
   ·cases kD:cM part k with
    | nil=>rw [kD] at e;cases e
    | cons a l=>rw [kD,map_cons] at e;cases (List.cons.inj e).1
   have x2:EX h g2:=FR.iB xg f2 λd ⟨q,hv⟩=>by have:=(own.lt hv).1;omega
   have q2:=ql.fr f2 λ⟨q,hv⟩=>by have:=(own.lt hv).1;omega
   refine pL (by omega) (by omega) λr g3 x3 hr=>?_
   have e:gS n D part dG k=0:=by simp [gS,hp]
   refine put v2 g3 r (x2.trans x3) (by have:=f2.len;have:=x3.1;omega) (q2.up x3) (by rw [e];exact hr) ?_
   rw [fs,map_append]
   exact oP.iA λd q hv hd=>x3.2 d (oP.lt hv).2.1
 ·have eX:k=n:=by omega
  subst eX
  exact hk vf g h.length xg (le_refl _) (ql.congr λj hj=>by rw [if_pos hj]) own
end
section
open Go.Sim Go.Sort
variable {h : ae} {K : Value -> ae -> Prop} {n : Nat}
def eG (fl:List Nat) (r:Nat):Nat:=fl.getD r 0
def AF (n:Nat) (D:Nat->Nat->Int) (fl:List Nat) (r c:Nat):Rat:=(if c=r then ((1:Int):Rat) else ((0:Int):Rat))+ -qE n D (eG fl c) (eG fl r)
def bF (n:Nat) (D:Nat->Nat->Int) (P:Nat->Int) (fl:List Nat) (r:Nat):Rat:=((mw n D P (eG fl r):Int):Rat)
def tF (n:Nat) (D:Nat->Nat->Int) (fl:List Nat) (c:Nat):Int:=if c=fl.length then 1 else di n D (eG fl c)
def NF (n:Nat) (D:Nat->Nat->Int) (P:Nat->Int) (fl:List Nat) (r c:Nat):Int:=if c=fl.length then mw n D P (eG fl r) else (if c=r then di n D (eG fl c) else 0)-D (eG fl c) (eG fl r)
theorem aKl {ik:Nat} {D:Nat->Nat->Int} (m:ki h ik n D) {j i:Nat} (hj:j<n) (hi:i<n):hI 5 (qE n D j i):=by
 have b1:=m.ee j hj i hi
 have b2:=m.pX hj
 have b3:=m.HG hj hi
 by_cases h0:di n D j=0
 ·unfold qE
  rw [h0]
  exact ⟨by simp,by simp⟩
 ·exact uc (by omega) (mX (by omega) (by omega)) (mX (by omega) (by omega))
theorem HO {fl:List Nat} (kD:∀i∈fl,i<n) {r:Nat} (hr:r<fl.length):eG fl r<n:=by
 unfold eG
 rw [getD_eq_getElem?_getD,getElem?_eq_getElem hr]
 exact kD _ (List.getElem_mem hr)
def RB (g:ae) (base:Nat) (vb:Value) (r:Nat) (bv:Nat->Rat) (ok:Nat->Prop):Prop:=(r=0/\vb=.slice none 0 0)∨∃ib,vb=sl 92 ib 0 r/\QL g ib r (λj=>some (bv j))/\base<=ib/\ok ib
theorem aoS {ik ip im r:Nat} {ids:Nat->Nat} {D:Nat->Nat->Int} {fl:List Nat} {vf vb dZ dj:Value} {h0:ae} {L1:List Value->ae->Prop} {B:Nat->Nat->Rat} (m:ki h0 ik n D) (kD:∀i∈fl,i<n) (fl8:fl.length<=8) (hr:r<fl.length) (Eb:NS h0 vf .i64 (fl.map λi:Nat=>(i:Int)))
  (yG:h0.length<=im/\∀i<fl.length,h0.length<=ids i) (x0:EX h0 h) (mq:MQ h im ids fl.length fl.length B) (hB:∀c,B r c=if c=r then ((1:Int):Rat) else ((0:Int):Rat))
  (hk:∀g,FR (λd=>d=ids r) h g->EX h0 g->MQ g im ids fl.length fl.length (λi c=>if i=r then AF n D fl r c else B i c)->TM prog K (pt ik 0) (sl 92 ip 0 n) vf (sl 84 im 0 fl.length) vb (I (eG fl r:Nat)) dZ dj (I r) L1 g):
  bX [(.int .i64 (0))] h λL2 xs hx=>TK prog K (pt ik 0) (sl 92 ip 0 n) vf (sl 84 im 0 fl.length) vb (I r) (I (eG fl r:Nat)) dZ dj (I r) vf (I fl.length) L1 L2 xs hx:=by
 refine cN (σ:=Nat×ae) (λq=>[I q.1]) (λq=>q.2) (λq=>q.1<=fl.length/\FR (λd=>d=ids r) h q.2/\MQ q.2 im ids fl.length fl.length (λi c=>if i=r/\c<q.1 then AF n D fl r c else B i c)) (λq=>fl.length-q.1)
  (0,h) rfl rfl ⟨zero_le _,FR.refl _ _,?_⟩ ?_
 ·have:(λi c=>if i=r/\c<0 then AF n D fl r c else B i c)=B:=by
   funext i c;rw [if_neg (by omega)]
  show MQ h im ids fl.length fl.length (λi c=>if i=r/\c<0 then AF n D fl r c else B i c)
  rw [this];exact mq
 rintro ⟨c,g⟩ ⟨hc,fr,mg⟩ L hL
 simp only at hc fr mg hL⊢
 have xg:EX h0 g:=FR.iB x0 fr λd hd=>by have:=yG.2 r hr;omega
 rw [aHB]
 simp only [bT,ah,cd]
 refine ⟨λaw=>?_,λcK=>?_⟩
 ·have aw:c<fl.length:=by omega
  obtain ⟨fb,fo,fa,fd⟩:=(Eb.mono xg).get c (by simpa using aw)
  have fe:(fl.map λi:Nat=>(i:Int))[c]'(by simpa using aw)=(eG fl c:Nat):=by
   unfold eG
   rw [getD_eq_getElem?_getD,getElem?_eq_getElem aw];simp
  rw [fe] at fd
  have h1:=HO kD aw
  have h2:=HO kD hr
  simp only [fa,fd,ah]
  refine Wi (m.up xg) h1 h2 λr1 g1 x1 kR=>?_
  refine Wj kR λr2 g2 x2 CZ=>?_
  have mg2:=(mg.up x1).up x2
  have s1:hI 5 (if r=r/\c<c then AF n D fl r c else B r c):=by
   rw [if_neg (by omega),hB c]
   split
   ·exact mZ (by decide) (by omega)
   ·exact mZ (by decide) (by omega)
  refine Wl (a:=5) (b:=5) mg2 hr aw CZ s1 (aKl m h1 h2).neg (by omega) λg3 f3 m3=>?_
  simp only [bZ,ah,true_and]
  rw [dQ c (by simp [maxLen];omega)]
  refine hL (c+1,g3) ⟨aw,(fr.trans (FR.ex (x1.trans x2))).trans f3,?_⟩ (by show fl.length-(c+1)<fl.length-c;omega)
  have:(λi c'=>if i=r/\c'<c+1 then AF n D fl r c' else B i c')=λp q=>if p=r/\q=c then (if r=r/\c<c then AF n D fl r c else B r c)+ -qE n D (eG fl c) (eG fl r) else if p=r/\q<c then AF n D fl r q else B p q:=by
   funext p q
   by_cases e:p=r/\q=c
   ·obtain ⟨rfl,rfl⟩:=e
    rw [if_pos ⟨rfl,by omega⟩,if_pos ⟨rfl,rfl⟩,if_neg (by omega),hB q];rfl
   ·rw [if_neg e]
    by_cases e2:p=r/\q<c
    ·rw [if_pos ⟨e2.1,by omega⟩,if_pos e2]
    ·rw [if_neg (by omega),if_neg e2]
  show MQ g3 im ids fl.length fl.length (λi c'=>if i=r/\c'<c+1 then AF n D fl r c' else B i c')
  rw [this];exact m3
 ·have:c=fl.length:=by omega
  subst this
  refine hk g fr xg ⟨mg.ho,λi hi=>(mg.hr i hi).congr λj hj=>?_,mg.inj,mg.nm⟩
  by_cases e:i=r
  ·subst e;rw [if_pos rfl,if_pos ⟨rfl,hj⟩]
  ·rw [if_neg e,if_neg (by omega)]
end
section
open Go.Sim Go.Sort
variable {h : ae} {K : Value -> ae -> Prop} {n : Nat}
def qC (n:Nat) (D:Nat->Nat->Int) (part dG:Nat->Bool) (j:Nat):Int:=if part j then di n D j else gS n D part dG j
theorem Cw {part:Nat->Bool} {k i:Nat}:i∈cM part k↔i<k/\part i=true:=by simp [cM]
theorem adU (part:Nat->Bool) (k:Nat):(cM part k).Nodup:=List.nodup_range.filter _
theorem Wc {ik ia ib:Nat} {D:Nat->Nat->Int} {part dG:Nat->Bool} {y:Nat->Int} (m:ki h ik n D) (pa:BQ h ia n part) (pb:BQ h ib n dG)
  (ok:p9 (cM part n).length (tF n D (cM part n)) y)
  (U8:lQ (cM part n).length 0 (tF n D (cM part n)) y (xp (cM part n).length (AF n D (cM part n)) (bF n D (gS n D part dG) (cM part n))) (NF n D (gS n D part dG) (cM part n)) 1)
  (hk:∀g ip,EX h g->h.length<=ip->QL g ip n (λj=>some (qC n D part dG j:Rat))->K (sl 92 ip 0 n) g):ay prog 54 [pt ik 0,sl 4 ia 0 n,sl 4 ib 0 n] h K:=by
 have n8:=m.n8
 refine aoR m pa pb λvf g0 ip x0 yH qp own=>?_
 rw [aHz]
 have kD:∀i∈cM part n,i<n:=λi hi=>(Cw.1 hi).1
 have hpm:∀i∈cM part n,part i=true:=λi hi=>(Cw.1 hi).2
 have oC:=adU part n
 have gU:∀i<n,part i=true->i∈cM part n:=λi h1 h2=>Cw.2 ⟨h1,h2⟩
 have q7:=ok.n7
 have Eb:NS g0 vf .i64 ((cM part n).map λi:Nat=>(i:Int)):=by
  rcases own with ⟨rfl,e⟩ | ⟨i,_,rfl,hg⟩
  ·have:cM part n=[]:=by cases hh:cM part n with
    | nil=>rfl
    | cons a l=>rw [hh] at e;cases e
   rw [this];exact NS.nil _ _
  ·have:=NS.arr (h:=g0) (e:=3) (i:=i) (k:=.i64) (ns:=(cM part n).map λi:Nat=>(i:Int)) (by rw [hg,List.map_map];rfl) (by rw [length_map];simp only [maxLen];omega)
   simpa using this
 have pP:∀j<n,gS n D part dG j=0∨gS n D part dG j=di n D j:=λj _=>by
  unfold gS;split
  ·exact .inl rfl
  ·split
   ·exact .inl rfl
   ·exact .inr rfl
 have aBi:∀i,part i=true->qC n D part dG i=di n D i:=λi hi=>by unfold qC;rw [if_pos hi]
 have aBj:∀i,part i≠true->qC n D part dG i=gS n D part dG i:=λi hi=>by unfold qC;rw [if_neg hi]
 generalize cM part n=fl at*
 have vl:=Eb.len
 rw [length_map] at vl
 have m0:=m.up x0
 simp only [vl,ah]
 refine C78 (by omega) λg1 im ids x1 AS yG mz=>?_
 refine cN (σ:=Nat×Value×ae) (λq=>[q.2.1,I q.1]) (λq=>q.2.2) (λq=>q.1<=fl.length/\EX g0 q.2.2/\g1.length<=q.2.2.length/\MQ q.2.2 im ids fl.length fl.length (λi c=>if i<q.1 then AF n D fl i c else 0)/\RB q.2.2 g0.length q.2.1 q.1 (bF n D (gS n D part dG) fl) λib=>ib≠im/\∀i<fl.length,ib≠ids i) (λq=>fl.length-q.1)
  (0,.slice none 0 0,g1) rfl rfl ⟨zero_le _,x1,le_refl _,?_,.inl ⟨rfl,rfl⟩⟩ ?_
 ·have:(λi c=>if i<0 then AF n D fl i c else 0)=λ_ _=>(0:Rat):=by funext i c;rw [if_neg (not_lt_zero _)]
  show MQ g1 im ids fl.length fl.length (λi c=>if i<0 then AF n D fl i c else 0)
  rw [this];exact mz
 rintro ⟨r,vb,g⟩ ⟨hr,xg,gl,mq,rb⟩ L hL
 simp only at hr xg gl mq rb hL⊢
 rw [aHA]
 simp only [bT,ah,cd]
 refine ⟨λaw=>?_,λcK=>?_⟩
 ·have aw:r<fl.length:=by omega
  obtain ⟨fb,fo,fa,fd⟩:=(Eb.mono xg).get r (by simpa using aw)
  have fe:(fl.map λi:Nat=>(i:Int))[r]'(by simpa using aw)=(eG fl r:Nat):=by
   unfold eG
   rw [getD_eq_getElem?_getD,getElem?_eq_getElem aw];simp
  rw [fe] at fd
  have h2:=HO kD aw
  simp only [fa,fd,ah]
  refine pL (by omega) (by omega) λr1 g2 x2 kR=>?_
  have mq2:=mq.up x2
  have s0:hI 5 (if r<r then AF n D fl r r else 0):=by rw [if_neg (by omega)];exact ⟨by decide,by decide⟩
  refine Wl (a:=5) (b:=5) mq2 aw aw kR s0 (mZ (by decide) (by omega)) (by omega) λg3 f3 m3=>?_
  have nj:=xg.trans x2
  have xH:EX g0 g3:=FR.iB nj f3 λd hd=>by have:=yG r aw;omega
  simp only [vl,ah]
  refine aoS (ip:=ip) (h0:=g0) m0 kD (by omega) aw Eb ⟨AS,yG⟩ xH m3 (λc=>?_) λg4 f4 BE m4=>?_
  ·show (if r=r/\c=r then (if r<r then AF n D fl r r else 0)+((1:Int):Rat) else if r<r then AF n D fl r c else 0)=_
   rw [if_neg (show ¬r<r by omega),if_neg (show ¬r<r by omega)]
   by_cases e:c=r
   ·rw [if_pos ⟨rfl,e⟩,if_pos e,Rat.zero_add]
   ·rw [if_neg (λh=>e h.2),if_neg e];rfl
  ·rw [aHC]
   refine ED (m0.up BE) h2 (qp.up BE) (λj hj=>rfl) pP λr5 g5 x5 lH=>?_
   obtain ⟨c5,rfl⟩:=lH.cl
   have g25:FR (λd=>d=ids r) g g5:=((FR.ex x2).trans (f3.trans f4)).trans (FR.ex x5)
   have m5:=m4.up x5
   have nN:=BE.trans x5
   simp only [I1,aL]
   have x6:EX g5 (g5++[.arr 92 (cG c5)]):=EX.append _ _
   have c6:(g5++[az.arr 92 (cG c5)])[g5.length]?=some (.arr 92 (cG c5)):=bL
   have l6:(g5++[az.arr 92 (cG c5)]).length=g5.length+1:=by simp
   have sc:fx (g5++[az.arr 92 (cG c5)]) 4 (sl 92 g5.length 0 1)=some (cG c5):=by
    simp only [fx,sl,bw,c6,bind_some]
    rfl
   have Dm:∀i<fl.length,ids i<g5.length:=λi hi=>(m5.hr i hi).lt
   have img:im<g5.length:=(cm m5.ho).1
   have gl5:g0.length<=g5.length:=nN.1
   have fin:∀(Kl:Value) (g7:ae),EX g0 g7->g5.length<=g7.length->MQ g7 im ids fl.length fl.length (λi c=>if i=r then AF n D fl r c else if i=r/\c=r then (if r<r then AF n D fl r r else 0)+((1:Int):Rat) else if i<r then AF n D fl i c else 0)->
     RB g7 g0.length Kl (r+1) (bF n D (gS n D part dG) fl) (λib=>ib≠im/\∀i<fl.length,ib≠ids i)->TN prog K (pt ik 0) (sl 92 ip 0 n) vf (sl 84 im 0 fl.length) Kl vf (I fl.length) (I r) L g7:=by
    intro Kl g7 x7 gl7 m7 rb7
    rw [aHD]
    simp only [bZ,ah,true_and]
    rw [dQ r (by simp only [maxLen];omega)]
    refine hL (r+1,Kl,g7) ⟨aw,x7,by have:=g25.len;show g1.length<=g7.length;omega,?_,rb7⟩ (by show fl.length-(r+1)<fl.length-r;omega)
    refine ⟨m7.ho,λi hi=>(m7.hr i hi).congr λj hj=>?_,m7.inj,m7.nm⟩
    have nr:i≠r->¬(i=r/\j=r):=λe h=>e h.1
    by_cases e:i=r
    ·rw [if_pos (show i<r+1 by omega),if_pos e,e]
    ·by_cases e2:i<r
     ·rw [if_pos (show i<r+1 by omega),if_neg e,if_neg (nr e),if_pos e2]
     ·rw [if_neg (show ¬i<r+1 by omega),if_neg e,if_neg (nr e),if_neg e2]
   rcases rb with ⟨rfl,rfl⟩ | ⟨ib,rfl,qb,Ig,nb1,Dv⟩
   ·have e3:cT 92 4 64 (g5++[az.arr 92 (cG c5)]) (.slice none 0 0) (sl 92 g5.length 0 1)=some (sl 92 (g5.length+1) 0 1,g5++[az.arr 92 (cG c5)]++[.arr 92 (cG c5)]):=by
     simp only [cT,sc]
     simp only [iY,sl]
     rw [if_neg (by omega),if_pos (by decide),l6]
    simp only [e3,aL]
    have x7:EX g5 (g5++[az.arr 92 (cG c5)]++[.arr 92 (cG c5)]):=x6.trans (EX.append _ _)
    refine fin _ _ (nN.trans x7) x7.1 (m5.up x7) (.inr ⟨g5.length+1,rfl,⟨λ_=>c5,?_,λj hj q hq=>?_⟩,by omega,by omega,λi hi=>by have:=Dm i hi;omega⟩)
    ·rw [List.getElem?_append_right (by simp)]
     simp [lS,range_succ]
    ·cases hq
     have:j=0:=by omega
     subst this
     exact lH.mono x7
   ·have qb5:=qb.fr g25 (Dv r aw)
    obtain ⟨cs,mQ,DT⟩:=qb5.ob
    have ibg:ib<g5.length:=qb5.lt
    have tC:=x6.get mQ
    by_cases r0:r=0
    ·subst r0
     obtain ⟨i',g7,a7,e7,m7,c7⟩:=uE (bytes:=64) (n:=0) tC (xY 0 cs) sc rfl (by omega) (by omega) (by simp only [maxLen];omega)
     have f7:=FR.xm m7 tC (λz r e=>by cases e)
     have f57:FR (λd=>d=ib) g5 g7:=(FR.ex x6).trans f7
     simp only [a7,aL]
     refine fin _ _ (FR.iB nN f57 λd hd=>by omega) f57.len (m5.fr f57 (Ne.symm nb1) λi hi h=>Dv i hi h.symm) (.inr ⟨i',rfl,⟨λ_=>c5,?_,λj hj q hq=>?_⟩,?_,?_,λi hi=>?_⟩)
     ·rw [c7];simp [lS,range_succ]
     ·cases hq
      have:j=0:=by omega
      subst this
      exact f57.rv _ _ lH
     ·rcases e7 with h | h <;> omega
     ·rcases e7 with h | h <;> omega
     ·have:=Dm i hi;have:=Dv i hi;rcases e7 with h | h <;> omega
    ·obtain ⟨i',g7,a7,e7,m7,c7⟩:=uE (bytes:=64) tC (xY r cs) sc rfl (by omega) (by omega) (by simp only [maxLen];omega)
     obtain ⟨s,rr,hh⟩:=Hj (by omega:0<r) cs
     have f7:=FR.xm m7 tC (by intro z r e;rw [hh] at e;cases e)
     have f57:FR (λd=>d=ib) g5 g7:=(FR.ex x6).trans f7
     simp only [a7,aL]
     refine fin _ _ (FR.iB nN f57 λd hd=>by omega) f57.len (m5.fr f57 (Ne.symm nb1) λi hi h=>Dv i hi h.symm) (.inr ⟨i',rfl,⟨λj=>if j=r then c5 else cs j,?_,λj hj q hq=>?_⟩,?_,?_,λi hi=>?_⟩)
     ·rw [c7,xZ,if_pos rfl]
      congr 2
      rw [Hi (ds:=cs) λj hj=>if_neg (by omega)]
     ·cases hq
      show RV g7 (.agg (cG (if j=r then c5 else cs j)).toArray) _
      by_cases e:j=r
      ·subst e;rw [if_pos rfl];exact f57.rv _ _ lH
      ·rw [if_neg e];exact f57.rv _ _ (DT j (by omega) _ rfl)
     ·rcases e7 with h | h <;> omega
     ·rcases e7 with h | h <;> omega
     ·have:=Dm i hi;have:=Dv i hi;rcases e7 with h | h <;> omega
 ·have hrq:r=fl.length:=by omega
  subst hrq
  have mA:MQ g im ids fl.length fl.length (AF n D fl):=⟨mq.ho,λi hi=>(mq.hr i hi).congr λj hj=>by rw [if_pos hi],mq.inj,mq.nm⟩
  rw [aHE]
  have t1:tF n D fl fl.length=1:=if_pos rfl
  have go:∀ib,ib≠im/\(∀i<fl.length,ib≠ids i)->(fl.length=0∨(vb=sl 92 ib 0 fl.length/\QL g ib fl.length λj=>some (bF n D (gS n D part dG) fl j)))->ay prog 80 [sl 84 im 0 fl.length,vb] g λkc h_1=>OP (aT kc) λjT=>bX [(.int .i64 (0))] h_1 λL1 xs hx=>TO prog K (sl 92 ip 0 n) vf kc jT L1 xs hx:=by
   intro ib H6 hb
   refine C80 ok t1 mA hb H6 U8 λg2 ix f2 Ii qx=>?_
   have nj:EX g0 g2:=FR.iB xg f2 λd hd=>by
    rcases hd with hd | ⟨i,hi,hd⟩
    ·omega
    ·have:=yG i hi;omega
   have lx:aT (sl 92 ix 0 fl.length)=some (I fl.length):=rfl
   simp only [lx,ah]
   refine cN (σ:=Nat×ae) (λq=>[I q.1]) (λq=>q.2) (λq=>q.1<=fl.length/\EX h q.2/\FR (λd=>d=ip∨g2.length<=d) g2 q.2/\QL q.2 ip n (λj=>some ((if j∈fl.take q.1 then di n D j else gS n D part dG j:Int):Rat))) (λq=>fl.length-q.1)
    (0,g2) rfl rfl ⟨zero_le _,x0.trans nj,FR.refl _ _,(qp.up nj).congr λj hj=>by simp⟩ ?_
   rintro ⟨k,g3⟩ ⟨fD,x3,f3,q3⟩ L2 dP
   simp only at fD x3 f3 q3 dP⊢
   rw [aHF]
   simp only [bT,ah,cd]
   refine ⟨λaw=>?_,λcK=>?_⟩
   ·have aw:k<fl.length:=by omega
    have ipx:ip<ix:=by have:=qp.lt;have:=xg.1;omega
    have Rp:ix<g2.length:=qx.lt
    obtain ⟨vx,lvx,rvx⟩:=(qx.fr f3 (by omega)).get aw rfl
    have tk:tF n D fl k=di n D (eG fl k):=if_neg (by omega)
    rw [tk] at rvx
    have x4:EX g3 (g3++[.arr 92 z4]):=EX.append _ _
    have c4:(g3++[az.arr 92 z4])[g3.length]?=some (.arr 92 z4):=bL
    simp only [QL.dX aw,lvx,ah,rR,aL]
    have g3l:g2.length<=g3.length:=f3.len
    obtain ⟨g5,s5,ld5,r5,f5,c5,hc5,rfl⟩:=(rvx.mono x4).w9 c4
    have cB:EX g3 g5:=FR.iB x4 f5 λd hd=>by omega
    have nsk:∃b o,aD 1 vf (I k)=some (pt b o)/\af false 1 g5 (pt b o)=some (I (eG fl k:Nat)):=by
     have f25:FR (λd=>d=ip) g2 g5:=⟨le_trans f3.len cB.1,λd h1 h2=>by rw [cB.2 d (lt_of_lt_of_le h1 f3.len)];exact f3.iA d h1 (by omega),λv q p=>(f3.rv v q p).mono cB⟩
     have fe:(fl.map λi:Nat=>(i:Int))[k]'(by simpa using aw)=(eG fl k:Nat):=by
      unfold eG
      rw [getD_eq_getElem?_getD,getElem?_eq_getElem aw];simp
     rcases own with ⟨_,e⟩ | ⟨i,hi,rfl,hg⟩
     ·have:=congrArg List.length e
      rw [length_map] at this
      have:fl.length=0:=this
      omega
     ·have P8:g5[i]?=some (.arr 3 (fl.map λi=>I (i:Nat))):=f25.get (by omega) (nj.get hg)
      refine ⟨i,k,jL (by simpa using aw),?_⟩
      have:eG fl k=fl[k]:=by
       unfold eG
       rw [getD_eq_getElem?_getD,getElem?_eq_getElem aw];simp
      rw [this]
      simp [af,bw,P8,dS,aw]
    obtain ⟨fb,fo,fa,fd⟩:=nsk
    have h2:=HO kD aw
    obtain ⟨g6,s6,f6,q6⟩:=(q3.up cB).set h2 r5
    simp only [s5,aL,fa,fd,ah,true_and,ld5,QL.dX h2,s6,bZ]
    rw [dQ k (by simp only [maxLen];omega)]
    refine dP (k+1,g6) ⟨aw,FR.iB (x3.trans cB) f6 λd hd=>by omega,(f3.trans (FR.ex cB)).tail f6 λd hd=>.inl (.inl hd),q6.congr λj hj=>?_⟩ (by show fl.length-(k+1)<fl.length-k;omega)
    have fk:eG fl k=fl[k]:=by
     unfold eG
     rw [getD_eq_getElem?_getD,getElem?_eq_getElem aw];simp
    show some _=_
    rw [List.take_succ_eq_append_getElem aw]
    by_cases e:j=eG fl k
    ·rw [e,fL,if_pos (by rw [fk];exact List.mem_append_right _ (List.mem_singleton.2 rfl))]
    ·rw [eA _ _ e]
     have:(j∈fl.take k++[fl[k]])=(j∈fl.take k):=by
      rw [List.mem_append,List.mem_singleton,<-fk,eq_iff_iff]
      exact ⟨λh=>h.resolve_right e,.inl⟩
     simp only [this]
   ·have hkq:k=fl.length:=by omega
    subst hkq
    rw [aHG]
    refine hk g3 ip x3 yH (q3.congr λj hj=>?_)
    rw [List.take_length]
    by_cases e:part j=true
    ·rw [aBi j e,if_pos (gU j hj e)]
    ·rw [aBj j e,if_neg λh=>e (hpm j h)]
  rcases rb with ⟨h0,rfl⟩ | ⟨ib,rfl,qb,_,nb⟩
  ·exact go g.length ⟨λe=>by have:=(cm mA.ho).1;omega,λi hi e=>by have:=(mA.hr i hi).lt;omega⟩ (.inl h0)
  ·exact go ib nb (.inr ⟨rfl,qb⟩)
end
section
open Go.Sim Go.Sort
variable {h : ae} {K : Value -> ae -> Prop} {n : Nat}
theorem aef {ik:Nat} {D:Nat->Nat->Int} (m:ki h ik n D) (bl:nO n D) {i:Nat} (hi:i<n):mw n D (di n D) i=di n D i:=by
 rw [bl.wq i hi]
 refine gp λj hj=>?_
 by_cases h0:di n D j=0
 ·rw [if_pos h0]
  have h1:=(m.ee j hj i hi).1
  have h2:=m.HG hj hi
  omega
 ·rw [if_neg h0]
theorem adi (p:Rat):uI p p=0:=if_pos rfl
theorem aKM {t y:Nat->Int} {A:Nat->Nat->Rat} {N:Nat->Nat->Int}:lQ 0 0 t y A N 1:=
 ⟨by decide,by decide,λr _ hr=>absurd hr (not_lt_zero _),λr _ hr=>absurd hr (not_lt_zero _),λr _ hr=>absurd hr (not_lt_zero _),λr _ hr=>absurd hr (not_lt_zero _),λr _ hr=>absurd hr (not_lt_zero _)⟩
theorem aKG {n:Nat} {D:Nat->Nat->Int}:p9 0 (tF n D []) λ_=>1:=by
 have t:∀c≤0,tF n D [] c=1:=λc hc=>if_pos (by simpa using hc)
 exact ⟨by omega,λc hc=>by rw [t c hc];decide,λc hc=>by rw [t c hc];decide,λ_ _=>by decide⟩
theorem adV {part:Nat->Bool} {k:Nat} (h:∀i<k,part i=false):cM part k=[]:=by
 unfold cM
 rw [List.filter_eq_nil_iff]
 intro i hi
 rw [h i (mem_range.1 hi)];simp
theorem Dy {g:ae} {id m:Nat} {f:Nat->Bool} (p:BQ g id n f):∃u,∀g':ae,g'[id]?=g[id]?->eB g' (sl 4 id 0 m)=some u:=by
 have:∃u,mO id (.arr 4 ((List.range n).map λi=>B (f i)))=some u:=by simp [mO]
 obtain ⟨u,hu⟩:=this
 refine ⟨u,λg' h'=>?_⟩
 unfold BQ at p
 simp only [eB,vB,sl,bind_some,h',p]
 exact hu
theorem Ku {ik:Nat} {D:Nat->Nat->Int} (m:ki h ik n D) (bl:nO n D)
  (hk:∀g ip,EX h g->h.length<=ip->QL g ip n (λj=>some (di n D j:Rat))->K (.tuple #[.slice none 0 0,sl 92 ip 0 n]) g):ay prog 32 [pt ik 0] h K:=by
 have n8:=m.n8
 refine f32 ?_
 unfold Mz
 have p1:BQ (h++[.arr 4 ((List.range n).map λ_=>B false)]) h.length n λ_=>false:=bL
 have x1:EX h (h++[.arr 4 ((List.range n).map λ_=>B false)]):=EX.append _ _
 obtain ⟨u,hu⟩:=Dy (m:=n) p1
 have l1:h.length<(h++[az.arr 4 ((List.range n).map λ_=>B false)]).length:=by simp
 have m1:=m.up x1
 simp only [gH,bP,zero_add,ah,m.lJ,BQ.make h n8,aL,true_and,hu _ rfl,m1.lJ,and_true]
 generalize hia:h.length=ia at p1 hu l1⊢
 generalize h++[az.arr 4 ((List.range n).map λ_=>B false)]=g1 at x1 p1 hu l1 m1⊢
 have p2:BQ (g1++[.arr 4 ((List.range n).map λ_=>B false)]) g1.length n λ_=>false:=bL
 have x2:EX g1 (g1++[.arr 4 ((List.range n).map λ_=>B false)]):=EX.append _ _
 obtain ⟨u2,lV⟩:=Dy (m:=n) p2
 simp only [BQ.make g1 n8,aL,lV _ rfl,ah,hu _ (x2.2 _ l1),(m1.up x2).lJ,true_and,and_true]
 have p1:=p1.up x2
 have m2:=m1.up x2
 have zP:=x1.trans x2
 generalize g1.length=ib at p2⊢
 generalize g1++[az.arr 4 ((List.range n).map λ_=>B false)]=g2 at p1 p2 m2 zP⊢
 refine cN (σ:=Unit) (λ_=>[.slice none 0 0]) (λ_=>g2) (λ_=>True) (λ_=>0) () rfl rfl trivial ?_
 intro _ _ L _
 rw [aFW]
 have fe:cM (λ_=>false) n=[]:=adV λ_ _=>rfl
 refine Wc (y:=λ_=>1) m2 p1 p2 (by rw [fe];exact aKG) (by rw [fe];exact aKM) λg3 ip x3 yH qp=>?_
 have qp:QL g3 ip n λj=>some (di n D j:Rat):=qp.congr λj hj=>by simp [qC,gS]
 have m3:=m2.up x3
 have p3:=p1.up x3
 simp only [gH,bP,zero_add,ah,m3.lJ]
 refine cN (σ:=Nat×ae) (λq=>[.slice none 0 0,I q.1]) (λq=>q.2) (λq=>q.1<=n/\EX g3 q.2) (λq=>n-q.1) (0,g3) rfl rfl ⟨zero_le _,EX.refl _⟩ ?_
 rintro ⟨k,g⟩ ⟨fD,xg⟩ L2 dP
 simp only at fD xg dP⊢
 rw [aFT]
 simp only [bT,ah,cd]
 refine ⟨λaw=>?_,λcK=>?_⟩
 ·have aw:k<n:=by omega
  have mg:=m3.up xg
  obtain ⟨tv,tb,to,t1,t2,t3⟩:=mg.zM aw
  have rb:=m.pX aw
  simp only [BQ.dX aw,(p3.up xg).ld aw,ah,true_and,kW,Bool.not_false,gq]
  refine ED mg aw (qp.up xg) (λj hj=>rfl) (λj hj=>.inr rfl) λr4 g4 x4 yN=>?_
  rw [aef m bl aw] at yN
  simp only [gH,bP,zero_add,ah,t1,EX.load x4 t1,t2,t3,EX.load x4 t3,true_and,and_true]
  refine pL (by omega) (by omega) λr5 g5 x5 lH=>?_
  have sz:hI 5 (di n D k:Rat):=mZ (mX (by omega) (by omega)) (by omega)
  refine EC (yN.mono x5) lH sz sz (by omega) λg6 x6=>?_
  have e0:decide ((0:Int)<0)=false:=by decide
  simp only [adi,true_and,bT,ah,e0,fy,dm]
  rw [aFU]
  simp only [bZ,ah,true_and]
  rw [dQ k (by simp only [maxLen];omega)]
  exact dP (k+1,g6) ⟨aw,xg.trans ((x4.trans x5).trans x6)⟩ (by show n-(k+1)<n-k;omega)
 ·rw [aFV]
  have en:oG false (.slice none 0 0) (.slice none 0 0)=some (B true):=rfl
  simp only [en,ah,gf]
  exact hk g ip ((zP.trans x3).trans xg) (by have:=zP.1;omega) (qp.up xg)
theorem C11 {eY:Nat} {iQ:Nat->Nat} {D:Nat->Nat->Int} {cv:Value} (bl:nO n D) (md:MR h eY iQ n D) (nc:NS h cv .i64 (replicate n 0))
  (hk:∀v g,EX h g->gB h.length g 53 v ((List.range n).map λj=>S (kr (di n D j)))->K (.tuple #[v,I 0]) g):ay prog 11 [cv,sl 34 eY 0 n] h K:=by
 refine f11 ?_
 unfold LK
 refine EA bl.n1 bl.ee bl.diag md nc λg1 ik x1 m=>?_
 simp only [fM,gi,gj,ah,kW,Bool.not_true,dm]
 refine Ku m bl λg2 ip x2 yH qp=>?_
 simp only [fM,gi,gj,ah]
 refine Kv bl.n8 qp (λj hj=>rfl) (λj hj=>m.pX hj) λv g3 x3 own=>?_
 simp only [fM,gi,gj,ah]
 exact hk v g3 (x1.trans (x2.trans x3)) (own.imp id λ⟨i,a,b⟩=>⟨i,le_trans (x1.trans x2).1 a,b⟩)
theorem C14 {eY:Nat} {iQ:Nat->Nat} {D:Nat->Nat->Int} {cv:Value} (bl:nO n D) (md:MR h eY iQ n D) (nc:NS h cv .i64 (replicate n 0))
  (hk:∀g,EX h g->K (.tuple #[.slice none 0 0,I 0]) g):ay prog 14 [cv,sl 34 eY 0 n] h K:=by
 refine f14 ?_
 unfold L9
 refine EA bl.n1 bl.ee bl.diag md nc λg1 ik x1 m=>?_
 simp only [fM,gi,gj,ah,kW,Bool.not_true,dm]
 refine Ku m bl λg2 ip x2 yH qp=>?_
 simp only [fM,gi,gj,ah]
 exact hk g2 (x1.trans x2)
end
section
open Go.Sim Go.Sort
variable {h : ae} {K : Value -> ae -> Prop} {n : Nat}
def RQ (g:ae) (base:Nat) (vb:Value) (r:Nat) (q:Nat->Rat):Prop:=(r=0/\vb=.slice none 0 0)∨(0<r/\∃ib,vb=sl 92 ib 0 r/\QL g ib r (λj=>some (q j))/\base<=ib)
theorem RQ.up {g g':ae} {base r:Nat} {vb:Value} {q:Nat->Rat} (o:RQ g base vb r q) (x:EX g g'):RQ g' base vb r q:=
 o.imp id λ⟨a,ib,b,c,d⟩=>⟨a,ib,b,c.up x,d⟩
theorem aui {g:ae} {base r:Nat} {v vb:Value} {q:Nat->Rat} (o:RQ g base vb r q) (hx:RV g v (q r)) (hr:r<100) (hb:base<=g.length) (hk:∀v' g',FR (λd=>base<=d) g g'->RQ g' base v' (r+1) q->K v' g'):
  OH (cH 92 1 [(.bool false),(.slice none 0 0),(.bool false),(.slice none 0 0)] g [(0,4,v)]) λa h2=>OH (cT 92 4 64 h2 vb a) K:=by
 obtain ⟨c5,rfl⟩:=hx.cl
 have x6:EX g (g++[.arr 92 (cG c5)]):=EX.append _ _
 have c6:(g++[az.arr 92 (cG c5)])[g.length]?=some (.arr 92 (cG c5)):=bL
 have l6:(g++[az.arr 92 (cG c5)]).length=g.length+1:=by simp
 have sc:fx (g++[az.arr 92 (cG c5)]) 4 (sl 92 g.length 0 1)=some (cG c5):=by
  simp only [fx,sl,bw,c6,bind_some]
  rfl
 simp only [I1,aL]
 rcases o with ⟨rfl,rfl⟩ | ⟨r0,ib,rfl,qb,Ig⟩
 ·have e3:cT 92 4 64 (g++[az.arr 92 (cG c5)]) (.slice none 0 0) (sl 92 g.length 0 1)=some (sl 92 (g.length+1) 0 1,g++[az.arr 92 (cG c5)]++[.arr 92 (cG c5)]):=by
   simp only [cT,sc]
   simp only [iY,sl]
   rw [if_neg (by omega),if_pos (by decide),l6]
  simp only [e3,aL]
  have x7:EX g (g++[az.arr 92 (cG c5)]++[.arr 92 (cG c5)]):=x6.trans (EX.append _ _)
  refine hk _ _ (FR.ex x7) (.inr ⟨by omega,g.length+1,rfl,⟨λ_=>c5,?_,λj hj q' hq=>?_⟩,by omega⟩)
  ·rw [List.getElem?_append_right (by simp)]
   simp [lS,range_succ]
  ·cases hq
   have:j=0:=by omega
   subst this
   exact hx.mono x7
 ·obtain ⟨cs,mQ,DT⟩:=qb.ob
  have tC:=x6.get mQ
  obtain ⟨i',g7,a7,e7,m7,c7⟩:=uE (bytes:=64) tC (xY r cs) sc rfl (by omega) (by omega) (by simp only [maxLen];omega)
  obtain ⟨s,rr,hh⟩:=Hj r0 cs
  have f7:=FR.xm m7 tC (by intro z r e;rw [hh] at e;cases e)
  have f57:FR (λd=>d=ib) g g7:=(FR.ex x6).trans f7
  simp only [a7,aL]
  refine hk _ _ (f57.Vh λd hd=>by omega) (.inr ⟨by omega,i',rfl,⟨λj=>if j=r then c5 else cs j,?_,λj hj q' hq=>?_⟩,?_⟩)
  ·rw [c7,xZ,if_pos rfl]
   congr 2
   rw [Hi (ds:=cs) λj hj=>if_neg (by omega)]
  ·cases hq
   show RV g7 (.agg (cG (if j=r then c5 else cs j)).toArray) _
   by_cases e:j=r
   ·subst e;rw [if_pos rfl];exact f57.rv _ _ hx
   ·rw [if_neg e];exact f57.rv _ _ (DT j (by omega) _ rfl)
  ·rcases e7 with h | h <;> omega
theorem C13 {eY:Nat} {iQ:Nat->Nat} {D:Nat->Nat->Int} {cv:Value} (bl:nO n D) (md:MR h eY iQ n D) (nc:NS h cv .i64 (replicate n 0))
  (hk:∀v g,EX h g->gB h.length g 53 v ((List.range n).map λ_=>S (kr 0))->K (.tuple #[v,I 0]) g):ay prog 13 [cv,sl 34 eY 0 n] h K:=by
 have n8:=bl.n8;have n1:=bl.n1
 refine f13 ?_
 unfold L7
 refine EA bl.n1 bl.ee bl.diag md nc λg1 ik x1 m=>?_
 simp only [fM,gi,gj,ah,kW,Bool.not_true,dm]
 refine Ku m bl λg2 ip x2 yH qp=>?_
 have m2:=m.up x2
 simp only [fM,gi,gj,ah,gH,bP,zero_add,m2.lJ]
 refine cN (σ:=Nat×Value×ae) (λq=>[q.2.1,I q.1]) (λq=>q.2.2) (λq=>q.1<=n/\EX g2 q.2.2/\RQ q.2.2 g2.length q.2.1 q.1 λ_=>((0:Int):Rat)) (λq=>n-q.1)
  (0,.slice none 0 0,g2) rfl rfl ⟨zero_le _,EX.refl _,.inl ⟨rfl,rfl⟩⟩ ?_
 rintro ⟨k,vb,g⟩ ⟨fD,xg,rq⟩ L hL
 simp only at fD xg rq hL⊢
 rw [aEi]
 simp only [bT,ah,cd]
 refine ⟨λaw=>?_,λcK=>?_⟩
 ·have aw:k<n:=by omega
  have rb:=m.pX aw
  refine ED (m2.up xg) aw (qp.up xg) (λj hj=>rfl) (λj hj=>.inr rfl) λr4 g4 x4 yN=>?_
  rw [aef m bl aw] at yN
  obtain ⟨vp,lp,rp⟩:=(qp.up xg).get aw rfl
  have sz:hI 5 (di n D k:Rat):=mZ (mX (by omega) (by omega)) (by omega)
  simp only [QL.dX aw,lp,EX.load x4 lp,ah,true_and,and_true]
  refine Kw yN (rp.mono x4) sz sz (by omega) λr5 g5 x5 lH=>?_
  have e0:(di n D k:Rat)-(di n D k:Rat)=((0:Int):Rat):=by rw [<-Rat.intCast_sub,Int.sub_self]
  rw [e0] at lH
  have dC:=x4.trans x5
  refine aui (rq.up dC) lH (by omega) (by have:=(xg.trans dC).1;omega) λv6 g6 f6 rq6=>?_
  simp only [bZ,ah,true_and]
  rw [dQ k (by simp only [maxLen];omega)]
  exact hL (k+1,v6,g6) ⟨aw,FR.iB (xg.trans dC) f6 λd hd=>hd,rq6⟩ (by show n-(k+1)<n-k;omega)
 ·have eX:k=n:=by omega
  subst eX
  rw [aEj]
  obtain ⟨_,ib,rfl,qb,Ig⟩:=rq.resolve_left (by omega)
  refine Kv n8 qb (λj hj=>rfl) (λj hj=>by omega) λv g3 x3 own=>?_
  simp only [fM,gi,gj,ah]
  have x:=(x1.trans x2).trans xg
  exact hk v g3 (x.trans x3) (own.imp id λ⟨i,a,b⟩=>⟨i,le_trans x.1 a,b⟩)
end
section
open Go.Sim Go.Sort
variable {h : ae} {K : Value -> ae -> Prop} {n : Nat}
def iF:Nat->(Nat->Bool)->Nat
 | 0,_=>0
 | n+1,f=>iF n f+if f n then 0 else 1
theorem ay6 (n:Nat) (f:Nat->Bool):iF n f<=n:=by
 induction n with
 | zero=>exact le_refl _
 | succ n ih=>unfold iF;split <;> omega
theorem O4 {f:Nat->Bool} {j:Nat} (hf:f j=false):∀{n:Nat},iF n (dU f j true)=iF n f-(if j<n then 1 else 0)/\(j<n->0<iF n f)
 | 0=>⟨rfl,λh=>absurd h (not_lt_zero _)⟩
 | n+1=>by
  obtain ⟨h1,h2⟩:=O4 hf (n:=n)
  show iF n (dU f j true)+(if dU f j true n then 0 else 1)=iF n f+(if f n then 0 else 1)-_/\_
  by_cases e:j=n
  ·subst e
   rw [h1,fL,if_neg (Nat.lt_irrefl _)]
   rw [hf]
   refine ⟨by simp,λ_=>?_⟩
   show 0<iF j f+(if f j then 0 else 1)
   rw [hf];simp
  ·rw [eA _ _ (Ne.symm e),h1]
   by_cases hj:j<n
   ·have h3:=h2 hj
    have a1:(if j<n then 1 else 0)=1:=if_pos hj
    have a2:(if j<n+1 then 1 else 0)=1:=if_pos (by omega)
    rw [a1,a2]
    refine ⟨by omega,λ_=>?_⟩
    show 0<iF n f+_
    omega
   ·have a1:(if j<n then 1 else 0)=0:=if_neg hj
    have a2:(if j<n+1 then 1 else 0)=0:=if_neg (by omega)
    rw [a1,a2]
    exact ⟨by omega,λh=>by omega⟩
structure Fv (n:Nat) (D:Nat->Nat->Int) (full out:Nat->Bool):Prop where
 cl:∀i<n,∀j<n,0<D i j->(full i=true∨out i=true)->out j=true
 em:(∀i<n,full i=false)->∀i<n,out i=false
theorem C57 {ik ia:Nat} {D:Nat->Nat->Int} {full:Nat->Bool} (m:ki h ik n D) (pf:BQ h ia n full)
  (hk:∀g io out,EX h g->h.length<=io->BQ g io n out->Fv n D full out->K (sl 4 io 0 n) g):ay prog 57 [pt ik 0,sl 4 ia 0 n] h K:=by
 have n8:=m.n8
 refine f57 ?_
 unfold MZ
 have p1:BQ (h++[.arr 4 ((List.range n).map λ_=>B false)]) h.length n λ_=>false:=bL
 have x1:EX h (h++[.arr 4 ((List.range n).map λ_=>B false)]):=EX.append _ _
 have lo:aT (sl 4 h.length 0 n)=some (I n):=rfl
 simp only [gH,bP,zero_add,ah,m.lJ,BQ.make h n8,aL,lo]
 generalize h++[az.arr 4 ((List.range n).map λ_=>B false)]=g1 at x1 p1⊢
 -- aMR has OX
 refine cN (σ:=Nat×ae) (λq=>[I q.1]) (λq=>q.2) (λq=>q.1<=n/\EX h q.2/\BQ q.2 h.length n λ_=>false) (λq=>n-q.1) (0,g1) rfl rfl ⟨zero_le _,x1,p1⟩ ?_
 rintro ⟨k,g⟩ ⟨fD,xg,p⟩ L hL
 simp only at fD xg p hL⊢
 rw [aHT]
 simp only [bT,ah,cd]
 refine ⟨λaw=>?_,λcK=>?_⟩
 ·have aw:k<n:=by omega
  obtain ⟨cv,cb,co,l1,l2,l3⟩:=(m.up xg).OX aw
  obtain ⟨g2,s2,f2,p2,_⟩:=p.set aw false
  have e0:decide ((0:Int)<0)=false:=by decide
  simp only [gH,bP,zero_add,ah,l1,l2,l3,gC,e0,BQ.dX aw,s2,aL,bZ,true_and]
  rw [dQ k (by simp only [maxLen];omega)]
  refine hL (k+1,g2) ⟨aw,FR.iB xg f2 λd hd=>by omega,?_⟩ (by show n-(k+1)<n-k;omega)
  have:dU (λ_=>false) k false=λ_:Nat=>false:=by
   funext j;unfold dU;split <;> rfl
  rw [this] at p2
  exact p2
 clear hL
 rw [aHK]
 refine cN (σ:=Bool×(Nat->Bool)×ae) (λq=>[B q.1]) (λq=>q.2.2) (λq=>EX h q.2.2/\BQ q.2.2 h.length n q.2.1/\((∀i<n,full i=false)->∀i<n,q.2.1 i=false)/\(q.1=false->∀i<n,∀j<n,0<D i j->(full i=true∨q.2.1 i=true)->q.2.1 j=true)) (λq=>2*iF n q.2.1+if q.1 then 1 else 0)
  (true,λ_=>false,g) rfl rfl ⟨xg,p,λ_ _ _=>rfl,λh=>by cases h⟩ ?_
 rintro ⟨more,rH,g⟩ ⟨xg,p,em,cl⟩ L1 lD
 simp only at xg p em cl lD⊢
 rw [aHL]
 cases more
 ·simp only [dm]
  rw [aHS]
  exact hk g h.length rH xg (le_refl _) p ⟨cl rfl,em⟩
 simp only [gf,gH,bP,zero_add,ah,(m.up xg).lJ]
 -- ka state of a pass
 let J:(Nat->Bool)->Bool->(Nat->Bool)->ae->Nat->Nat->Prop:=λ_ more out g i j=>EX h g/\BQ g h.length n out/\((∀i<n,full i=false)->∀i<n,out i=false)/\(more=true->iF n out<iF n rH)/\(more=false->out=rH/\∀x<n,∀z<n,(x<i∨(x=i/\z<j))->0<D x z->(full x=true∨rH x=true)->rH z=true)
 refine cN (σ:=Nat×Bool×(Nat->Bool)×ae) (λq=>[B q.2.1,I q.1]) (λq=>q.2.2.2) (λq=>q.1<=n/\J rH q.2.1 q.2.2.1 q.2.2.2 q.1 0) (λq=>n-q.1)
  (0,false,rH,g) rfl rfl ⟨zero_le _,xg,p,em,(λh=>by cases h),λ_=>⟨rfl,λx hx z hz hh=>by have:x<0∨(x=0/\z<0):=hh;omega⟩⟩ ?_
 rintro ⟨i,more,out,g⟩ ⟨hi,jj⟩ L2 dP
 simp only at hi jj dP⊢
 rw [aHM]
 simp only [bT,ah,cd]
 refine ⟨λaw=>?_,λcK=>?_⟩
 ·have aw:i<n:=by omega
  simp only [gH,bP,zero_add,ah,(m.up jj.1).lJ]
  refine cN (σ:=Nat×Bool×(Nat->Bool)×ae) (λq=>[B q.2.1,I q.1]) (λq=>q.2.2.2) (λq=>q.1<=n/\J rH q.2.1 q.2.2.1 q.2.2.2 i q.1) (λq=>n-q.1)
   (0,more,out,g) rfl rfl ⟨zero_le _,jj⟩ ?_
  rintro ⟨j,more,out,g⟩ ⟨hj,xg,p,em,c1,c2⟩ L3 CB
  simp only at hj xg p em c1 c2 CB⊢
  rw [aHN]
  simp only [bT,ah,cd]
  refine ⟨λdM=>?_,λcK=>?_⟩
  ·have dM:j<n:=by omega
   obtain ⟨dv,b,o,w,b',o',e1,e2,e3,e4,e5⟩:=(m.up xg).Pe aw dM
   simp only [gH,bP,zero_add,ah,e1,e2,e3,e4,e5,gC]
   have rF:∀(more:Bool) (out:Nat->Bool) (g:ae),J rH more out g i (j+1)->Jy prog K (pt ik 0) (sl 4 ia 0 n) (sl 4 h.length 0 n) (B more) (I i) (I n) (I i) (I n) (I j) L1 L2 L3 g:=by
    intro more out g jj
    rw [aHQ]
    simp only [bZ,ah,true_and]
    rw [dQ j (by simp only [maxLen];omega)]
    exact CB (j+1,more,out,g) ⟨dM,jj⟩ (by show n-(j+1)<n-j;omega)
   -- nothing is put in
   have no:(0<D i j->(full i=true∨out i=true)->out j=true)->J rH more out g i (j+1):=λhh=>⟨xg,p,em,c1,λhm=>by
    obtain ⟨rfl,c3⟩:=c2 hm
    refine ⟨rfl,λx hx z hz h1 h2 h3=>?_⟩
    by_cases e:x=i/\z=j
    ·obtain ⟨rfl,rfl⟩:=e;exact hh h2 h3
    ·exact c3 x hx z hz (by omega) h2 h3⟩
   have TC:∀bq:Bool,(bq=true->0<D i j/\(full i=true∨out i=true))->(bq=false->¬(0<D i j/\(full i=true∨out i=true)))->TS prog K (pt ik 0) (sl 4 ia 0 n) (sl 4 h.length 0 n) (B more) (I i) (I j) (I n) (I i) (I n) (I j) (B bq) L1 L2 L3 g:=by
    intro bq h1 h2
    rw [aHP]
    cases bq
    ·simp only [jd]
     rw [ane]
     simp only [dA,ah,dm]
     exact rF more out g (no λa b=>absurd ⟨a,b⟩ (h2 rfl))
    ·simp only [gq,BQ.dX dM,p.ld dM,ah,kW]
     rw [ane]
     cases ho:out j
     ·simp only [Bool.not_false,fy,ah,gf,BQ.dX dM]
      obtain ⟨g2,s2,f2,p2,_⟩:=p.set dM true
      simp only [s2,aL]
      obtain ⟨k1,k2⟩:=O4 (n:=n) ho
      have k3:=k2 dM
      rw [if_pos dM] at k1
      refine rF true _ g2 ⟨FR.iB xg f2 λd hd=>by omega,p2,λhf x hx=>?_,λ_=>?_,λh=>by cases h⟩
      ·have:=(h1 rfl).2
       rw [hf i aw,em hf i aw] at this
       rcases this with h | h <;> cases h
      ·rw [k1]
       have:iF n out<=iF n rH:=by
        cases hm:more
        ·rw [(c2 hm).1];exact le_refl _
        ·exact Nat.le_of_lt (c1 hm)
       omega
     ·simp only [Bool.not_true,fy,ah,dm]
      exact rF more out g (no λ_ _=>ho)
   rw [aHO]
   by_cases h0:0<D i j
   ·rw [dh h0]
    simp only [gq,BQ.dX aw,(pf.up xg).ld aw,ah]
    rw [anc]
    cases hf:full i
    ·simp only [eW,BQ.dX aw,p.ld aw,ah]
     rw [UA]
     simp only [gq,dA,ah]
     rw [UB]
     simp only [fy,ah]
     exact TC (out i) (λh=>⟨h0,.inr h⟩) λh hh=>by rcases hh.2 with h' | h' <;> simp_all
    ·simp only [o0]
     rw [UA]
     simp only [gq,fy,ah]
     rw [UB]
     simp only [fy,ah]
     exact TC true (λ_=>⟨h0,.inl hf⟩) λh=>by cases h
   ·rw [bY h0]
    simp only [jd]
    rw [anc]
    simp only [BK]
    rw [UA]
    simp only [jd]
    rw [UB]
    simp only [dA,ah]
    exact TC false (λh=>by cases h) λ_ hh=>h0 hh.1
  ·have kQ:j=n:=by omega
   subst kQ
   rw [aHR]
   simp only [bZ,ah,true_and]
   rw [dQ i (by simp only [maxLen];omega)]
   refine dP (i+1,more,out,g) ⟨aw,xg,p,em,c1,λhm=>⟨(c2 hm).1,λx hx z hz h1=>(c2 hm).2 x hx z hz (by have:x<i+1∨(x=i+1/\z<0):=h1;omega)⟩⟩ (by show j-(i+1)<j-i;omega)
 ·have fB:i=n:=by omega
  subst fB
  obtain ⟨xg,p,em,c1,c2⟩:=jj
  refine ⟨trivial,lD (more,out,g) ⟨xg,p,em,λhm=>?_⟩ ?_⟩
  ·obtain ⟨rfl,c3⟩:=c2 hm
   exact λx hx z hz=>c3 x hx z hz (.inl hx)
  ·show 2*iF i out+(if more then 1 else 0)<2*iF i rH+1
   cases hm:more
   ·rw [(c2 hm).1];simp
   ·have:=c1 hm;simp;omega
end
section
open Go.Sim Go.Sort
variable {h : ae} {K : Value -> ae -> Prop} {n : Nat}
theorem aeg {D:Nat->Nat->Int} {P:Nat->Int} (hz:∀j<n,P j=0) (i:Nat):mw n D P i=0:=by
 unfold mw
 rw [gp (g:=λ_=>0) λj hj=>if_pos (hz j hj),mY]
theorem ay3 {a b:Int} (gT:a<=b):¬0<uI (a:Rat) (b:Rat):=by
 unfold uI
 by_cases e:a=b
 ·subst e;simp
 ·have:(a:Rat)<(b:Rat):=Rat.intCast_lt_intCast.2 (by omega)
  split
  ·simp
  ·first | decide | (rw [if_pos this];decide)
theorem C58 {ik ip:Nat} {D:Nat->Nat->Int} {P:Nat->Int} {q:Nat->Option Rat} (m:ki h ik n D) (pq:QL h ip n q) (hq:∀j<n,q j=some (P j:Rat)) (hP:∀j<n,P j=0∨P j=di n D j)
  (hk:∀b g,EX h g->((∀j<n,P j=0)->b=true)->K (B b) g):ay prog 58 [pt ik 0,sl 92 ip 0 n] h K:=by
 have n8:=m.n8
 refine f58 ?_
 unfold M0
 have lp:aT (sl 92 ip 0 n)=some (I n):=rfl
 simp only [lp,ah]
 refine cN (σ:=Nat×ae) (λq=>[I q.1]) (λq=>q.2) (λq=>q.1<=n/\EX h q.2) (λq=>n-q.1) (0,h) rfl rfl ⟨zero_le _,EX.refl _⟩ ?_
 rintro ⟨i,g⟩ ⟨hi,xg⟩ L hL
 simp only at hi xg hL⊢
 rw [aHY]
 simp only [bT,ah,cd]
 refine ⟨λaw=>?_,λcK=>hk true g xg λ_=>rfl⟩
 have aw:i<n:=by omega
 obtain ⟨vx,lx,rx⟩:=(pq.up xg).get aw (hq i aw)
 have rb:=m.pX aw
 have pb:0<=P i/\P i<=8000:=by have:=hP i aw;omega
 have x1:EX g (g++[.arr 92 z4]):=EX.append _ _
 have c1:(g++[az.arr 92 z4])[g.length]?=some (.arr 92 z4):=bL
 simp only [QL.dX aw,lx,ah,rR,aL]
 obtain ⟨g2,s2,x2,jk,r2,f2,cx,H8,rfl⟩:=(rx.mono x1).put (h0:=g) x1 (le_refl _) c1
 simp only [s2,aL]
 have igl:g.length<g2.length:=(cm H8).1
 generalize Ii:g.length=ix at H8 igl⊢
 have x3:EX g2 (g2++[.arr 92 z4]):=EX.append _ _
 have c3:(g2++[az.arr 92 z4])[g2.length]?=some (.arr 92 z4):=bL
 have l3:(g2++[az.arr 92 z4]).length=g2.length+1:=by simp
 generalize hiw:g2.length=iw at c3 igl l3⊢
 generalize g2++[az.arr 92 z4]=g3 at x3 c3 l3⊢
 have x4:EX g3 (g3++[.arr 92 z4]):=EX.append _ _
 have c4:(g3++[az.arr 92 z4])[g3.length]?=some (.arr 92 z4):=bL
 simp only [vJ c3,ah,true_and]
 generalize hif:g3.length=jf at c4 l3⊢
 generalize g3++[az.arr 92 z4]=g4 at x4 c4⊢
 have Gq:=x4.get c3
 have nj:EX h g2:=xg.trans x2
 have BE:EX h g4:=(nj.trans x3).trans x4
 have m4:=m.up BE
 simp only [vJ c4,vJ Gq,ah,and_true,true_and]
 refine ED m4 aw (pq.up BE) hq hP λr5 g5 x5 lH=>?_
 obtain ⟨tv,tb,to,l1,l2,II⟩:=(m.up nj).zM aw
 simp only [vJ (x5.get Gq),vJ (x5.get c4),true_and,and_true,gH,bP,zero_add,ah,l1,EX.load x3 l1,EX.load (x3.trans x4) l1,EX.load ((x3.trans x4).trans x5) l1,l2,II,EX.load x3 II,EX.load (x3.trans x4) II,EX.load ((x3.trans x4).trans x5) II]
 refine pL (by omega) (by omega) λr6 g6 x6 yO=>?_
 have eT:=x5.trans x6
 simp only [vJ (eT.get Gq),vJ (eT.get c4),true_and,and_true]
 obtain ⟨g7,s7,ld7,r7,f7,cw,hcw,rfl⟩:=(lH.mono x6).w9 (eT.get Gq)
 obtain ⟨g8,s8,ld8,r8,f8,cf,hcf,rfl⟩:=(f7.rv _ _ yO).w9 (f7.get (by omega) (eT.get c4))
 have aes:=f8.get (by omega) hcw
 have aAN:g8[ix]?=some (.arr 92 (cG cx)):=f8.get (by omega) (f7.get (by omega) ((((x3.trans x4).trans eT)).get H8))
 have lw:af true 4 g8 (pt iw 0)=some (.agg (cG cw).toArray):=ko aes
 have lf:af true 4 g8 (pt jf 0)=some (.agg (cG cf).toArray):=ko hcf
 have hb:=PV m P aw (k:=n) (le_refl _)
 have szh:hI 5 (mw n D P i:Rat):=mZ (mX (by omega) (by omega)) (by omega)
 have szt:hI 5 (di n D i:Rat):=mZ (mX (by omega) (by omega)) (by omega)
 have szp:hI 5 (P i:Rat):=mZ (mX (by omega) (by omega)) (by omega)
 have DV:=f8.rv _ _ r7
 have rx8:RV g8 (.agg (cG cx).toArray) (P i:Rat):=f8.rv _ _ (f7.rv _ _ (r2.mono ((x3.trans x4).trans eT)))
 have xg8:EX g g8:=FR.iB (FR.iB ((x2.trans x3).trans (x4.trans eT)) f7 λd hd=>by omega) f8 λd hd=>by omega
 simp only [s7,aL,true_and,s8,lw,lf,ah]
 refine EC DV r8 szh szt (by omega) λg9 x9=>?_
 have aeu:=x9.get aAN
 have aet:=x9.get aes
 have lf9:=EX.load x9 lf
 have fin:∀(g10:ae) (cw:Cl) (W:Int),EX g g10->W.natAbs<10^5->g10[ix]?=some (.arr 92 (cG cx))->RV g10 (.agg (cG cx).toArray) (P i:Rat)->g10[iw]?=some (.arr 92 (cG cw))->RV g10 (.agg (cG cw).toArray) (W:Rat)->((∀j<n,P j=0)->W=0)->
   Jz prog K (pt ik 0) (sl 92 ip 0 n) (pt ix 0) (pt iw 0) (sl 92 ip 0 n) (I n) (I i) L g10:=by
  intro g10 cw W aE hW hx hrx hw Iu hz
  rw [aHU]
  have agj:af true 4 g10 (pt ix 0)=some (.agg (cG cx).toArray):=ko hx
  have aCX:af true 4 g10 (pt iw 0)=some (.agg (cG cw).toArray):=ko hw
  simp only [agj,ah]
  refine Kz hrx λg11 aG=>?_
  have sg:¬zh (P i:Rat).num<0:=by
   rw [Rat.num_intCast];unfold zh
   split
   ·omega
   ·rw [if_neg (by omega)];omega
  simp only [bT,ah,bY sg]
  rw [aHV]
  simp only [eW,EX.load aG agj,EX.load aG aCX,ah]
  refine EC (hrx.mono aG) (Iu.mono aG) szp (mZ hW (by omega)) (by omega) λg12 aM=>?_
  simp only [iE,ah]
  rw [aHW]
  by_cases e:uI (P i:Rat) (W:Rat)=0
  ·rw [e]
   simp only [decide_true,Bool.not_true,dA,ah,dm]
   rw [aHX]
   simp only [bZ,ah,true_and]
   rw [dQ i (by simp only [maxLen];omega)]
   exact hL (i+1,g12) ⟨aw,xg.trans ((aE.trans aG).trans aM)⟩ (by show n-(i+1)<n-i;omega)
  ·rw [bY e]
   simp only [Bool.not_false,dA,ah,gf]
   refine hk false g12 (xg.trans ((aE.trans aG).trans aM)) λgU=>?_
   rw [hz gU,gU i aw] at e
   exact absurd (adi _) e
 simp only [gC,ah]
 refine uo (λwL=>?_) (λ_=>fin g9 cw (mw n D P i) (xg8.trans x9) (mX (by omega) (by omega)) aeu (rx8.mono x9) aet (DV.mono x9) λgU=>aeg gU i)
 obtain ⟨g10,j6,aMN,r10,f10,cw',aAM,Pl⟩:=(r8.mono x9).w9 aet
 simp only [lf9,ah,j6,aL]
 rw [Pl] at r10
 refine fin g10 cw' (di n D i) (FR.iB (xg8.trans x9) f10 λd hd=>by omega) (mX (by omega) (by omega)) (f10.get (by omega) aeu) (f10.rv _ _ (rx8.mono x9)) aAM r10 λgU=>?_
 have:=of_decide_eq_true wL
 rw [aeg gU i] at this
 exact absurd this (ay3 rb.1)
end
section
open Go.Sim Go.Sort
variable {n : Nat} {D : Nat -> Nat -> Int} {full out part dG gh : Nat -> Bool} {eD : Nat -> Nat}
theorem anS (part:Nat->Bool) (g:Nat->Int):∀n,sg (cM part n).length (λr=>g (eG (cM part n) r))=sg n λi=>if part i then g i else 0:=by
 have gen:∀(l:List Nat) (g:Nat->Int),sg l.length (λr=>g (eG l r))=(l.map g).sum:=by
  intro l g
  unfold sg
  congr 1
  refine List.ext_getElem (by simp) λi h1 h2=>?_
  have hi:i<l.length:=by simpa using h1
  simp [eG,getD_eq_getElem?_getD,hi]
 intro n
 rw [gen]
 induction n with
 | zero=>rfl
 | succ n ih=>
  rw [PE,kG]
  by_cases h:part n=true
  ·rw [if_pos h,if_pos h,map_append,List.sum_append,ih];simp
  ·rw [if_neg h,if_neg h,ih];simp
theorem azh (bl:nO n D) (sH:Fv n D full out) (hn:∀i<n,dG i=(!full i&& !out i)):∀j<n,dG j=true->∀i<n,dG i=false->D j i=0:=by
 have ee:=bl.ee
 have aB0:∀j<n,∀i<n,dG j=false->dG i=true->D j i=0:=λj hj i hi h1 h2=>by
  have e:=(ee j hj i hi).1
  refine Int.le_antisymm (Int.not_lt.1 λhp=>?_) e
  rw [hn j hj] at h1
  rw [hn i hi] at h2
  have ho:=sH.cl j hj i hi hp (by cases hf:full j <;> cases hh:out j <;> simp_all)
  rw [ho] at h2
  simp at h2
 have s1:(sg n λi=>if dG i then di n D i else 0)=sg n λi=>if dG i then nR n D i else 0:=gp λi hi=>by rw [bl.wq i hi]
 have s2:(sg n λi=>if dG i then nR n D i else 0)=sg n λi=>sg n λj=>if dG i&&dG j then D j i else 0:=gp λi hi=>by
  cases h:dG i
  ·simp [mY]
  ·simp only [if_true]
   refine gp λj hj=>?_
   cases h2:dG j
   ·simp [aB0 j hj i hi h2 h]
   ·simp
 have s3:(sg n λi=>if dG i then di n D i else 0)=sg n λi=>(sg n λj=>if dG i&&dG j then D i j else 0)+sg n λj=>if dG i&& !dG j then D i j else 0:=gp λi hi=>by
  rw [<-oR]
  cases h:dG i
  ·simp [mY]
  ·simp only [if_true]
   refine gp λj hj=>?_
   cases h2:dG j <;> simp
 have s4:(sg n λi=>sg n λj=>if dG i&&dG j then D j i else 0)=sg n λi=>sg n λj=>if dG i&&dG j then D i j else 0:=by
  rw [anI]
  refine gp λi hi=>gp λj hj=>?_
  rw [Bool.and_comm]
 rw [oR] at s3
 have z:(sg n λi=>sg n λj=>if dG i&& !dG j then D i j else 0)=0:=by omega
 have nn:∀i<n,∀j<n,0<=if dG i&& !dG j then D i j else 0:=λi hi j hj=>by
  have:=(ee i hi j hj).1
  split <;> omega
 intro j hj h1 i hi h2
 have r:=DX (f:=λi=>sg n λj=>if dG i&& !dG j then D i j else 0) (λi hi=>vN λj hj=>nn i hi j hj) (by omega) j hj
 have r2:=DX (λi hi=>nn j hj i hi) (by omega) i hi
 simpa [h1,h2] using r2
def Wt (k:Nat):Int:=((100000^(8-k):Nat):Int)
theorem FB (k:Nat):0<Wt k:=by
 unfold Wt
 have:0<100000^(8-k):=Nat.pow_pos (by omega)
 omega
theorem NB {a b:Nat} (h:a<b) (hb:b<=8):100000*Wt b<=Wt a:=by
 unfold Wt
 have e:100000*100000^(8-b)=100000^(8-b+1):=by rw [Nat.pow_succ,Nat.mul_comm]
 have:100000^(8-b+1)<=100000^(8-a):=Nat.pow_le_pow_right (by omega) (by omega)
 have h2:100000*100000^(8-b)<=100000^(8-a):=by rw [e];exact this
 generalize 100000^(8-b)=x at*
 generalize 100000^(8-a)=y at*
 omega
def yF (fl:List Nat) (eD:Nat->Nat) (r:Nat):Int:=Wt 0-Wt (eD (eG fl r))
end
section
open Go.Sim Go.Sort
variable {n : Nat} {D : Nat -> Nat -> Int} {full out part dG gh : Nat -> Bool} {eD : Nat -> Nat}
structure Lk (n:Nat) (D:Nat->Nat->Int) (full part gh:Nat->Bool) (eD:Nat->Nat):Prop where
 st:∀i<n,gh i=true->full i=true∨∃j,j<n/\0<D i j/\gh j=true/\eD j<eD i
 le:∀i<n,gh i=true->eD i<=8
theorem HP {fl:List Nat} {r:Nat} (hr:r<fl.length):eG fl r∈fl:=by
 unfold eG
 rw [getD_eq_getElem?_getD,getElem?_eq_getElem hr]
 exact List.getElem_mem hr
theorem zF (bl:nO n D) {i:Nat} (hi:i<n):0<=di n D i/\di n D i<=8000:=by
 have h1:=vN λj hj=>(bl.ee i hi j hj).1
 have h2:di n D i<=sg n λ_=>1000:=sK λj hj=>(bl.ee i hi j hj).2
 have h3:∀n:Nat,sg n (λ_=>1000)=1000*n:=λn=>by
  induction n with
  | zero=>rfl
  | succ n ih=>rw [kG,ih];omega
 rw [h3] at h2
 have:=bl.n8
 exact ⟨h1,by omega⟩
theorem ay8 (bl:nO n D) (hp:∀i<n,part i=true->full i=false) (lk:Lk n D full part gh eD) (gU:∀i<n,part i=true->gh i=true) {j:Nat} (hj:j<n) (pj:part j=true):
  0<(Wt 0-Wt (eD j))*di n D j-sg n λi=>if part i then (Wt 0-Wt (eD i))*D j i else 0:=by
 have ee:=bl.ee
 have e1:(Wt 0-Wt (eD j))*di n D j=sg n λi=>(Wt 0-Wt (eD j))*D j i:=(vM n _ _).symm
 have e2:(sg n λi=>(Wt 0-Wt (eD j))*D j i)-(sg n λi=>if part i then (Wt 0-Wt (eD i))*D j i else 0)=(sg n λi=>(if part i then Wt (eD i) else Wt 0)*D j i)-Wt (eD j)*di n D j:=by
  rw [show Wt (eD j)*di n D j=sg n λi=>Wt (eD j)*D j i from (vM n _ _).symm,<-xj,<-xj]
  refine gp λi hi=>?_
  cases h:part i
  ·simp only [false_eq_true,if_false]
   rw [Int.sub_mul,Int.sub_zero]
  ·simp only [if_true]
   rw [Int.sub_mul,Int.sub_mul];omega
 rw [e1,e2]
 rcases lk.st j hj (gU j hj pj) with hf | ⟨i0,wN,d0,l0,lt⟩
 ·rw [hp j hj pj] at hf;cases hf
 have wle:100000*Wt (eD j)<=(if part i0 then Wt (eD i0) else Wt 0):=by
  have h8:=lk.le j hj (gU j hj pj)
  split
  ·exact NB lt h8
  ·exact NB (by omega) h8
 have wp:=FB (eD j)
 have one:(if part i0 then Wt (eD i0) else Wt 0)*D j i0<=sg n λi=>(if part i then Wt (eD i) else Wt 0)*D j i:=by
  have:(sg n λi=>if i=i0 then (if part i0 then Wt (eD i0) else Wt 0)*D j i0 else 0)<=sg n λi=>(if part i then Wt (eD i) else Wt 0)*D j i:=sK λi hi=>by
   by_cases e:i=i0
   ·subst e;rw [if_pos rfl];exact Int.le_refl _
   ·rw [if_neg e]
    refine Int.mul_nonneg ?_ (ee j hj i hi).1
    split
    ·exact Int.le_of_lt (FB _)
    ·exact Int.le_of_lt (FB _)
  rwa [sL wN] at this
 have rb:=zF bl hj
 have m1:(if part i0 then Wt (eD i0) else Wt 0)*1<=(if part i0 then Wt (eD i0) else Wt 0)*D j i0:=Int.mul_le_mul_of_nonneg_left (by omega) (by omega)
 have m2:Wt (eD j)*di n D j<=Wt (eD j)*8000:=Int.mul_le_mul_of_nonneg_left rb.2 (by omega)
 omega
theorem af3 (bl:nO n D) (sH:Fv n D full out) (AP:∀i<n,full i=false->di n D i≠0) (hp:∀i<n,part i=(!full i&&out i)) (lk:Lk n D full part gh eD) (gU:∀i<n,part i=true->gh i=true):
  p9 (cM part n).length (tF n D (cM part n)) (yF (cM part n) eD):=by
 have n8:=bl.n8
 have mem:∀i,i∈cM part n↔i<n/\part i=true:=λi=>Cw
 have pf:∀i<n,part i=true->full i=false:=λi hi h=>by rw [hp i hi] at h;cases hf:full i <;> simp_all
 refine ⟨?_,λc hc=>?_,λc hc=>?_,λr hr=>?_⟩
 ·by_cases e:∃i,i<n/\full i=true
  ·obtain ⟨i,hi,hf⟩:=e
   have hlen:∀k,i<k->k<=n->(cM part k).length<k:=by
    intro k
    induction k with
    | zero=>intro h;omega
    | succ k ih=>
     intro h1 h2
     rw [PE]
     by_cases e:i=k
     ·subst e
      have:part i=false:=by cases hh:part i with
       | false=>rfl
       | true=>rw [pf i hi hh] at hf;cases hf
      rw [this,if_neg (by simp)]
      have:=List.length_filter_le part (List.range i)
      rw [List.length_range] at this
      unfold cM;omega
     ·have:=ih (by omega) (by omega)
      split
      ·rw [List.length_append];simp;omega
      ·omega
   have:=hlen n hi (le_refl _)
   omega
  ·have nf:∀i<n,full i=false:=λi hi=>by cases hh:full i with
    | false=>rfl
    | true=>exact absurd ⟨i,hi,hh⟩ e
   have:cM part n=[]:=adV λi hi=>by rw [hp i hi,sH.em nf i hi];simp
   rw [this];simp
 ·unfold tF
  by_cases e:c=(cM part n).length
  ·rw [if_pos e];decide
  ·rw [if_neg e]
   obtain ⟨h1,h2⟩:=(mem _).1 (HP (fl:=cM part n) (r:=c) (by omega))
   have:=AP _ h1 (pf _ h1 h2)
   have:=zF bl h1
   omega
 ·unfold tF
  by_cases e:c=(cM part n).length
  ·rw [if_pos e];decide
  ·rw [if_neg e]
   obtain ⟨h1,h2⟩:=(mem _).1 (HP (fl:=cM part n) (r:=c) (by omega))
   have:=zF bl h1
   show (di n D _).natAbs<10000
   omega
 ·obtain ⟨h1,h2⟩:=(mem _).1 (HP (fl:=cM part n) hr)
  have l:=gU _ h1 h2
  rcases lk.st _ h1 l with hf | ⟨j,_,_,_,hd⟩
  ·rw [pf _ h1 h2] at hf;cases hf
  ·have:=NB (a:=0) (b:=eD (eG (cM part n) r)) (by omega) (lk.le _ h1 l)
   have:=FB (eD (eG (cM part n) r))
   unfold yF
   omega
theorem aCK (bl:nO n D) (sH:Fv n D full out) (AP:∀i<n,full i=false->di n D i≠0) (hp:∀i<n,part i=(!full i&&out i)) (hn:∀i<n,dG i=(!full i&& !out i)) (lk:Lk n D full part gh eD) (gU:∀i<n,part i=true->gh i=true):
  lQ (cM part n).length 0 (tF n D (cM part n)) (yF (cM part n) eD) (xp (cM part n).length (AF n D (cM part n)) (bF n D (gS n D part dG) (cM part n))) (NF n D (gS n D part dG) (cM part n)) 1:=by
 have ee:=bl.ee
 have mem:∀i,i∈cM part n↔i<n/\part i=true:=λi=>Cw
 have pf:∀i<n,part i=true->full i=false:=λi hi h=>by rw [hp i hi] at h;cases hf:full i <;> simp_all
 have nd:=adU part n
 have ok:=af3 bl sH AP hp lk gU
 have fr:∀r<(cM part n).length,eG (cM part n) r<n/\part (eG (cM part n) r)=true:=λr hr=>(mem _).1 (HP hr)
 have hb:∀i<n,0<=mw n D (gS n D part dG) i/\mw n D (gS n D part dG) i<=8000:=λi hi=>by
  have h1:0<=mw n D (gS n D part dG) i:=vN λj hj=>by
   have:=(ee j hj i hi).1
   split <;> omega
  have h2:mw n D (gS n D part dG) i<=nR n D i:=sK λj hj=>by
   have:=(ee j hj i hi).1
   split <;> omega
  rw [<-bl.wq i hi] at h2
  have:=zF bl hi
  exact ⟨h1,by omega⟩
 refine ⟨by decide,by decide,λr _ hr c _ hc=>?_,λr _ hr c _ hc=>?_,λr _ hr c _ hc b7=>?_,λc _ hc=>?_,λr _ hr=>?_⟩
 ·unfold xp NF tF
  by_cases e:c=(cM part n).length
  ·rw [if_pos e,if_pos e,if_pos e,Int.mul_one]
   exact Co _
  ·rw [if_neg e,if_neg e,if_neg e,one_mul]
   have h0:=ok.t0 c hc
   unfold tF at h0
   rw [if_neg e] at h0
   unfold AF qE
   rw [Rat.neg_divInt]
   by_cases e2:c=r
   ·rw [if_pos e2,if_pos e2]
    have e3:((1:Int):Rat)=divInt (di n D (eG (cM part n) c)) (di n D (eG (cM part n) c)):=by
     have:=Pd (a:=1) (b:=di n D (eG (cM part n) c)) (by omega)
     rw [one_mul] at this
     exact this.symm
    rw [e3,adu (by omega)]
    congr 1
   ·rw [if_neg e2,if_neg e2]
    have e3:((0:Int):Rat)=divInt 0 (di n D (eG (cM part n) c)):=(azp _).symm
    rw [e3,adu (by omega)]
    congr 1
 ·obtain ⟨r1,r2⟩:=fr r hr
  show (NF n D (gS n D part dG) (cM part n) r c).natAbs<10000
  unfold NF
  by_cases e:c=(cM part n).length
  ·rw [if_pos e];have:=hb _ r1;omega
  ·rw [if_neg e]
   obtain ⟨c1,c2⟩:=fr c (by omega)
   have b1:=zF bl c1
   have b2:=ee _ c1 _ r1
   split <;> omega
 ·unfold NF
  obtain ⟨r1,r2⟩:=fr r hr
  obtain ⟨c1,c2⟩:=fr c hc
  have b2:=ee _ c1 _ r1
  rw [if_neg (by omega),if_neg (Ne.symm b7)]
  omega
 ·obtain ⟨c1,c2⟩:=fr c hc
  have cp:=ay8 bl pf lk gU c1 c2
  have e:fR 0 (cM part n).length (λr=>yF (cM part n) eD r*NF n D (gS n D part dG) (cM part n) r c)=(Wt 0-Wt (eD (eG (cM part n) c)))*di n D (eG (cM part n) c)-sg n λi=>if part i then (Wt 0-Wt (eD i))*D (eG (cM part n) c) i else 0:=by
   rw [<-anS part (λi=>(Wt 0-Wt (eD i))*D (eG (cM part n) c) i) n]
   have:fR 0 (cM part n).length (λr=>yF (cM part n) eD r*NF n D (gS n D part dG) (cM part n) r c)=(sg (cM part n).length λr=>if r=c then (Wt 0-Wt (eD (eG (cM part n) c)))*di n D (eG (cM part n) c) else 0)-sg (cM part n).length λr=>(Wt 0-Wt (eD (eG (cM part n) r)))*D (eG (cM part n) c) (eG (cM part n) r):=by
    unfold fR
    rw [<-xj]
    refine gp λr hr=>?_
    rw [if_pos (zero_le _)]
    have cn:¬c=(cM part n).length:=by omega
    unfold NF yF
    simp only [if_neg cn]
    rw [Int.mul_sub]
    by_cases e:r=c
    ·subst e;rw [if_pos rfl,if_pos rfl]
    ·rw [if_neg e,if_neg (Ne.symm e),Int.mul_zero]
   rw [this,sL hc]
  rw [e];exact cp
 ·obtain ⟨r1,r2⟩:=fr r hr
  have e:fR 0 (cM part n).length (λc=>NF n D (gS n D part dG) (cM part n) r c)=di n D (eG (cM part n) r)-sg n λi=>if part i then D i (eG (cM part n) r) else 0:=by
   rw [<-anS part (λi=>D i (eG (cM part n) r)) n]
   have:fR 0 (cM part n).length (λc=>NF n D (gS n D part dG) (cM part n) r c)=(sg (cM part n).length λc=>if c=r then di n D (eG (cM part n) r) else 0)-sg (cM part n).length λc=>D (eG (cM part n) c) (eG (cM part n) r):=by
    unfold fR
    rw [<-xj]
    refine gp λc hc=>?_
    rw [if_pos (zero_le _)]
    have cn:¬c=(cM part n).length:=by omega
    unfold NF
    simp only [if_neg cn]
    by_cases e:c=r
    ·subst e;simp
    ·rw [if_neg e,if_neg e]
   rw [this,sL hr]
  rw [e]
  have e2:NF n D (gS n D part dG) (cM part n) r (cM part n).length=mw n D (gS n D part dG) (eG (cM part n) r):=if_pos rfl
  rw [e2,bl.wq _ r1]
  show nR n D _-_=sg n _
  rw [show nR n D (eG (cM part n) r)=sg n λi=>D i (eG (cM part n) r) from rfl,<-xj]
  refine gp λj hj=>?_
  have nr:dG (eG (cM part n) r)=false:=by
   rw [hn _ r1]
   rw [hp _ r1] at r2
   cases h1:full (eG (cM part n) r) <;> cases h2:out (eG (cM part n) r) <;> simp_all
  have de:=(ee j hj _ r1)
  unfold gS
  cases h1:part j
  ·simp only [false_eq_true,if_false]
   cases h2:dG j
   ·simp only [false_eq_true,if_false]
    by_cases h3:di n D j=0
    ·rw [if_pos h3]
     have z:=DX (λi hi=>(ee j hj i hi).1) (Int.le_of_eq h3) _ r1
     omega
    ·rw [if_neg h3];omega
   ·simp only [if_true]
    rw [azh bl sH hn j hj h2 _ r1 nr];rfl
  ·simp only [if_true];omega
end
section
open Go.Sim Go.Sort
variable {h : ae} {K : Value -> ae -> Prop} {n : Nat}
theorem aoI {ik ip iq il:Nat} {D:Nat->Nat->Int} {full part dG:Nat->Bool} {h0:ae} (m:ki h0 ik n D) (x0:EX h0 h) (hl0:h0.length<=il) (nip:ip≠il) (niq:iq≠il) (pp:BQ h ip n part) (pq:BQ h iq n dG) (pl:BQ h il n full)
  (hk:∀g gh eD,EX h0 g->BQ g ip n part->BQ g iq n dG->BQ g il n gh->Lk n D full part gh eD->SZ prog K (pt ik 0) (sl 4 ip 0 n) (sl 4 iq 0 n) (sl 4 il 0 n) g):
  SR prog K (pt ik 0) (sl 4 ip 0 n) (sl 4 iq 0 n) (sl 4 il 0 n) h:=by
 have n8:=m.n8
 rw [aF1]
 -- BA holds all ka aM2
 let J:(Nat->Bool)->(Nat->Nat)->Nat->ae->Prop:=λgh eD T g=>EX h0 g/\BQ g ip n part/\BQ g iq n dG/\BQ g il n gh/\T+iF n gh<=n/\(∀i<n,gh i=true->full i=true∨∃j,j<n/\0<D i j/\gh j=true/\eD j<eD i)/\∀i<n,gh i=true->eD i<=T
 refine cN (σ:=Bool×(Nat->Bool)×(Nat->Nat)×Nat×ae) (λq=>[B q.1]) (λq=>q.2.2.2.2) (λq=>J q.2.1 q.2.2.1 q.2.2.2.1 q.2.2.2.2) (λq=>2*iF n q.2.1+if q.1 then 1 else 0)
  (true,full,λ_=>0,0,h) rfl rfl ⟨x0,pp,pq,pl,by have:=ay6 n full;show 0+iF n full<=n;omega,λi _ h=>.inl h,λi _ _=>le_refl _⟩ ?_
 rintro ⟨more,vG,eD,T,g⟩ j0 L1 lD
 simp only at j0 lD⊢
 rw [aF2]
 cases more
 ·simp only [dm]
  obtain ⟨xg,a,b,c,d,e,f⟩:=j0
  exact hk g vG eD xg a b c ⟨e,λi hi hl=>by have:=f i hi hl;omega⟩
 simp only [gf,gH,bP,zero_add,ah,(m.up j0.1).lJ]
 refine cN (σ:=Nat×Bool×(Nat->Bool)×(Nat->Nat)×Nat×ae) (λq=>[B q.2.1,I q.1]) (λq=>q.2.2.2.2.2) (λq=>q.1<=n/\J q.2.2.1 q.2.2.2.1 q.2.2.2.2.1 q.2.2.2.2.2/\(if q.2.1 then iF n q.2.2.1<iF n vG else iF n q.2.2.1<=iF n vG)) (λq=>n-q.1)
  (0,false,vG,eD,T,g) rfl rfl ⟨zero_le _,j0,le_refl _⟩ ?_
 rintro ⟨i,more,gh,eD,T,g⟩ ⟨hi,jj,hc⟩ L2 dP
 simp only at hi jj hc dP⊢
 rw [aF3]
 simp only [bT,ah,cd]
 refine ⟨λaw=>?_,λcK=>?_⟩
 ·have aw:i<n:=by omega
  simp only [gH,bP,zero_add,ah,(m.up jj.1).lJ]
  refine cN (σ:=Nat×Bool×(Nat->Bool)×(Nat->Nat)×Nat×ae) (λq=>[B q.2.1,I q.1]) (λq=>q.2.2.2.2.2) (λq=>q.1<=n/\J q.2.2.1 q.2.2.2.1 q.2.2.2.2.1 q.2.2.2.2.2/\(if q.2.1 then iF n q.2.2.1<iF n vG else iF n q.2.2.1<=iF n vG)) (λq=>n-q.1)
   (0,more,gh,eD,T,g) rfl rfl ⟨zero_le _,jj,hc⟩ ?_
  rintro ⟨j,more,gh,eD,T,g⟩ ⟨hj,jj,hc⟩ L3 CB
  simp only at hj jj hc CB⊢
  obtain ⟨xg,a,b,c,d,e,f⟩:=jj
  rw [aF4]
  simp only [bT,ah,cd]
  refine ⟨λdM=>?_,λcK=>?_⟩
  ·have dM:j<n:=by omega
   have rF:∀(more:Bool) (gh:Nat->Bool) (eD:Nat->Nat) (T:Nat) (g:ae),J gh eD T g->(if more then iF n gh<iF n vG else iF n gh<=iF n vG)->DH prog K (pt ik 0) (sl 4 ip 0 n) (sl 4 iq 0 n) (sl 4 il 0 n) (B more) (I i) (I n) (I i) (I n) (I j) L1 L2 L3 g:=by
    intro more gh eD T g jj hc
    rw [aF8]
    simp only [bZ,ah,true_and]
    rw [dQ j (by simp only [maxLen];omega)]
    exact CB (j+1,more,gh,eD,T,g) ⟨dM,jj,hc⟩ (by show n-(j+1)<n-j;omega)
   have same:DH prog K (pt ik 0) (sl 4 ip 0 n) (sl 4 iq 0 n) (sl 4 il 0 n) (B more) (I i) (I n) (I i) (I n) (I j) L1 L2 L3 g:=rF more gh eD T g ⟨xg,a,b,c,d,e,f⟩ hc
   have HC:∀bq:Bool,(bq=true->gh i=false/\0<D i j)->SX prog K (pt ik 0) (sl 4 ip 0 n) (sl 4 iq 0 n) (sl 4 il 0 n) (B more) (I i) (I j) (I n) (I i) (I n) (I j) (B bq) L1 L2 L3 g:=by
    intro bq h1
    rw [aF7]
    cases bq
    ·simp only [jd]
     rw [am5]
     simp only [dA,ah,dm]
     exact same
    ·simp only [gq,BQ.dX dM,c.ld dM,ah]
     rw [am5]
     cases AT:gh j
     ·simp only [fy,ah,dm]
      exact same
     ·obtain ⟨li,dp⟩:=h1 rfl
      obtain ⟨g2,s2,f2,p2,_⟩:=c.set aw true
      simp only [fy,ah,gf,BQ.dX aw,s2,aL]
      obtain ⟨k1,k2⟩:=O4 (n:=n) li
      have k3:=k2 aw
      rw [if_pos aw] at k1
      have I5:j≠i:=λe=>by rw [e,li] at AT;cases AT
      refine rF true (dU gh i true) (dU eD i (T+1)) (T+1) g2 ⟨FR.iB xg f2 λd hd=>by omega,a.fr f2 nip,b.fr f2 niq,p2,by omega,λx hx hl=>?_,λx hx hl=>?_⟩ ?_
      ·by_cases ex:x=i
       ·subst ex
        refine .inr ⟨j,dM,dp,?_,?_⟩
        ·rw [eA _ _ I5];exact AT
        ·rw [fL,eA _ _ I5];have:=f j dM AT;omega
       ·rw [eA _ _ ex] at hl
        rcases e x hx hl with h | ⟨z,z1,z2,z3,z4⟩
        ·exact .inl h
        ·have zi:z≠i:=λe=>by rw [e,li] at z3;cases z3
         exact .inr ⟨z,z1,z2,by rw [eA _ _ zi];exact z3,by rw [eA _ _ zi,eA _ _ ex];exact z4⟩
      ·by_cases ex:x=i
       ·subst ex;rw [fL];exact le_refl _
       ·rw [eA _ _ ex] at hl⊢
        have:=f x hx hl;omega
      ·rw [if_pos rfl,k1]
       cases more
       ·simp only [false_eq_true,if_false] at hc;omega
       ·simp only [if_true] at hc;omega
   simp only [BQ.dX aw,a.ld aw,ah]
   rw [aF5]
   have HB:∀b1:Bool,(b1=true->gh i=false)->SU prog K (pt ik 0) (sl 4 ip 0 n) (sl 4 iq 0 n) (sl 4 il 0 n) (B more) (I i) (I j) (I n) (I i) (I n) (I j) (B b1) L1 L2 L3 g:=by
    intro b1 h1
    rw [aF6]
    cases b1
    ·simp only [jd]
     rw [am4]
     simp only [dA,ah]
     exact HC false λh=>by cases h
    ·obtain ⟨dv,bb,o,w,b',o',e1,e2,e3,e4,e5⟩:=(m.up xg).Pe aw dM
     simp only [gq,gH,bP,zero_add,ah,e1,e2,e3,e4,e5,gC]
     rw [am4]
     simp only [fy,ah]
     exact HC _ λh=>⟨h1 rfl,of_decide_eq_true h⟩
   cases hp:part i
   ·simp only [jd]
    rw [am3]
    simp only [dA,ah]
    exact HB false λh=>by cases h
   ·simp only [gq,BQ.dX aw,c.ld aw,ah,kW]
    rw [am3]
    simp only [fy,ah]
    exact HB _ λh=>by cases hh:gh i <;> simp_all
  ·have kQ:j=n:=by omega
   subst kQ
   rw [aF9]
   simp only [bZ,ah,true_and]
   rw [dQ i (by simp only [maxLen];omega)]
   exact dP (i+1,more,gh,eD,T,g) ⟨aw,⟨xg,a,b,c,d,e,f⟩,hc⟩ (by show j-(i+1)<j-i;omega)
 ·refine ⟨trivial,lD (more,gh,eD,T,g) jj ?_⟩
  show 2*iF n gh+(if more then 1 else 0)<2*iF n vG+1
  cases more
  ·simp only [false_eq_true,if_false] at hc⊢;omega
  ·simp only [if_true] at hc⊢;omega
end
section
open Go.Sim Go.Sort
variable {h : ae} {K : Value -> ae -> Prop} {n : Nat}
def mH (full out:Nat->Bool) (i:Nat):Bool:= !full i&&out i
def oN (full out:Nat->Bool) (i:Nat):Bool:= !full i&& !out i
theorem C35 {ik ia:Nat} {D:Nat->Nat->Int} {full:Nat->Bool} (m:ki h ik n D) (bl:nO n D) (pf:BQ h ia n full) (AP:∀i<n,full i=false->di n D i≠0)
  (hN:∀g,EX h g->(∃i,i<n/\full i=true)->K (.slice none 0 0) g)
  (hP:∀g ip (P:Nat->Int),EX h g->h.length<=ip->QL g ip n (λj=>some (P j:Rat))->(∀j<n,0<=P j/\P j<=8000)->((∀i<n,full i=false)->∀j<n,P j=0)->K (sl 92 ip 0 n) g):ay prog 35 [pt ik 0,sl 4 ia 0 n] h K:=by
 have n8:=m.n8
 refine f35 ?_
 unfold MC
 refine C57 m pf λg0 io out x0 hio po sH=>?_
 have m0:=m.up x0
 have ld:∀{g:ae},EX g0 g->af false 1 g (pt ik 0)=some (I n):=λx=>(m0.up x).lJ
 have oL:=m0.lJ
 have p1:BQ (g0++[.arr 4 ((List.range n).map λ_=>B false)]) g0.length n λ_=>false:=bL
 have x1:EX g0 (g0++[.arr 4 ((List.range n).map λ_=>B false)]):=EX.append _ _
 have l1:(g0++[az.arr 4 ((List.range n).map λ_=>B false)]).length=g0.length+1:=by simp
 obtain ⟨u1,re⟩:=Dy (m:=n) p1
 simp only [gH,bP,zero_add,ah,oL,BQ.make g0 n8,aL,true_and,re _ rfl,ld x1,and_true]
 generalize yH:g0.length=ip at p1 re l1⊢
 generalize g0++[az.arr 4 ((List.range n).map λ_=>B false)]=g1 at x1 p1 re l1⊢
 have p2:BQ (g1++[.arr 4 ((List.range n).map λ_=>B false)]) g1.length n λ_=>false:=bL
 have x2:EX g1 (g1++[.arr 4 ((List.range n).map λ_=>B false)]):=EX.append _ _
 have l2:(g1++[az.arr 4 ((List.range n).map λ_=>B false)]).length=g1.length+1:=by simp
 obtain ⟨u2,lV⟩:=Dy (m:=n) p2
 have k1:=re _ (x2.2 ip (by omega))
 simp only [gH,bP,zero_add,ah,BQ.make g1 n8,aL,true_and,lV _ rfl,ld (x1.trans x2),and_true,k1]
 have p1:=p1.up x2
 generalize Ih:g1.length=iq at p2 lV l1 l2⊢
 generalize g1++[az.arr 4 ((List.range n).map λ_=>B false)]=g2 at x2 p1 p2 lV l2 k1⊢
 have p3:BQ (g2++[.arr 4 ((List.range n).map λ_=>B false)]) g2.length n λ_=>false:=bL
 have x3:EX g2 (g2++[.arr 4 ((List.range n).map λ_=>B false)]):=EX.append _ _
 have l3:(g2++[az.arr 4 ((List.range n).map λ_=>B false)]).length=g2.length+1:=by simp
 obtain ⟨u3,A2⟩:=Dy (m:=n) p3
 have e1:g2[ip]?=g1[ip]?:=x2.2 ip (by omega)
 have mG:=re (g2++[.arr 4 ((List.range n).map λ_=>B false)]) (by rw [x3.2 ip (by omega),e1])
 have Bc:=lV _ (x3.2 iq (by omega))
 simp only [gH,bP,zero_add,ah,BQ.make g2 n8,aL,true_and,A2 _ rfl,ld ((x1.trans x2).trans x3),and_true,mG,Bc]
 have p1:=p1.up x3
 have p2:=p2.up x3
 generalize gV:g2.length=il at p3 A2 l2 l3⊢
 generalize g2++[az.arr 4 ((List.range n).map λ_=>B false)]=g3 at x3 p1 p2 p3 A2 l3 mG Bc⊢
 have x03:=(x1.trans x2).trans x3
 have iol:io<g0.length:=(cm po).1
 have ial:ia<h.length:=(cm pf).1
 have hg0:h.length<=g0.length:=x0.1
 -- ka three are filled
 refine cN (σ:=Nat×ae) (λq=>[I q.1]) (λq=>q.2) (λq=>q.1<=n/\EX g0 q.2/\BQ q.2 ip n (λi=>if i<q.1 then mH full out i else false)/\BQ q.2 iq n (λi=>if i<q.1 then oN full out i else false)/\BQ q.2 il n (λi=>if i<q.1 then full i else false)) (λq=>n-q.1)
  (0,g3) rfl rfl ⟨zero_le _,x03,by simpa using p1,by simpa using p2,by simpa using p3⟩ ?_
 rintro ⟨k,g⟩ ⟨fD,xg,b1,b2,b3⟩ L hL
 simp only at fD xg b1 b2 b3 hL⊢
 rw [aGc]
 simp only [bT,ah,cd]
 refine ⟨λaw=>?_,λcK=>?_⟩
 ·have aw:k<n:=by omega
  have aDd:∀(f:Nat->Bool),dU (λi=>if i<k then f i else false) k (f k)=λi=>if i<k+1 then f i else false:=λf=>by
   funext i
   by_cases e:i=k
   ·subst e;rw [fL,if_pos (by omega)]
   ·rw [eA _ _ e]
    by_cases h1:i<k
    ·rw [if_pos h1,if_pos (by omega)]
    ·rw [if_neg h1,if_neg (by omega)]
  have pfg:=(pf.up x0).up xg
  have pog:=po.up xg
  obtain ⟨g4,s4,f4,Yh,_⟩:=b1.set aw (mH full out k)
  obtain ⟨g5,s5,f5,Yi,_⟩:=(b2.fr f4 (by omega)).set aw (oN full out k)
  obtain ⟨g6,s6,f6,Yj,_⟩:=((b3.fr f4 (by omega)).fr f5 (by omega)).set aw (full k)
  rw [aDd] at Yh Yi Yj
  have x4:EX g0 g4:=FR.iB xg f4 λd hd=>by omega
  have x5:EX g0 g5:=FR.iB x4 f5 λd hd=>by omega
  have x6:EX g0 g6:=FR.iB x5 f6 λd hd=>by omega
  have last:DG prog K (pt ik 0) (sl 4 ia 0 n) (sl 4 io 0 n) (sl 4 ip 0 n) (sl 4 iq 0 n) (sl 4 il 0 n) (I k) (I n) (I k) (sl 4 iq 0 n) (I k) (B (!full k)) (B (!out k)) L g4/\(full k=true->∀v,DG prog K (pt ik 0) (sl 4 ia 0 n) (sl 4 io 0 n) (sl 4 ip 0 n) (sl 4 iq 0 n) (sl 4 il 0 n) (I k) (I n) (I k) (sl 4 iq 0 n) (I k) (B false) v L g4):=by
   have pk:bu (B (!full k)) (B (!out k)) (.bool false)=some (B (oN full out k)):=by
    unfold oN
    cases full k <;> rfl
   have run:OP (aD 1 (sl 4 iq 0 n) (I k)) λfA=>OH (aU 1 g4 fA (B (oN full out k))) λ_ h_1=>OP (aD 1 (sl 4 ia 0 n) (I k)) λlh=>OP (af false 1 h_1 lh) λiW=>OP (aD 1 (sl 4 il 0 n) (I k)) λfF=>OH (aU 1 h_1 fF iW) λ_ h_2=>OP (aj .add (I k) (.int .i64 (1))) λiM=>
     True/\L [iM] h_2:=by
    simp only [BQ.dX aw,s5,aL,((pf.up x0).up x5).ld aw,s6,ah,bZ,true_and]
    rw [dQ k (by simp only [maxLen];omega)]
    exact hL (k+1,g6) ⟨aw,x6,(Yh.fr f5 (by omega)).fr f6 (by omega),Yi.fr f6 (by omega),Yj⟩ (by show n-(k+1)<n-k;omega)
   constructor
   ·rw [am2]
    simp only [pk,ah]
    exact run
   ·intro hf v
    rw [am2]
    have:oN full out k=false:=by unfold oN;rw [hf];rfl
    rw [this] at run
    simp only [dA,ah]
    exact run
  have mid:OP (aD 1 (sl 4 ip 0 n) (I k)) λfg=>OH (aU 1 g fg (B (mH full out k))) λ_ h_1=>OP (aD 1 (sl 4 ia 0 n) (I k)) λfS=>OP (af false 1 h_1 fS) λiZ=>OP (gG .not iZ) λgL=>
    SQ prog K (pt ik 0) (sl 4 ia 0 n) (sl 4 io 0 n) (sl 4 ip 0 n) (sl 4 iq 0 n) (sl 4 il 0 n) (I k) (I n) (I k) (sl 4 iq 0 n) (I k) gL L h_1:=by
   simp only [BQ.dX aw,s4,aL,((pf.up x0).up x4).ld aw,ah,kW]
   rw [aF0]
   cases hf:full k
   ·rw [hf] at last
    simp only [Bool.not_false,gq,BQ.dX aw,(po.up x4).ld aw,ah,kW]
    exact last.1
   ·simp only [Bool.not_true,jd]
    exact last.2 hf _
  simp only [BQ.dX aw,pfg.ld aw,ah,kW]
  rw [aFZ]
  cases hf:full k
  ·simp only [Bool.not_false,gq,BQ.dX aw,pog.ld aw,ah]
   rw [am1]
   have:mH full out k=out k:=by unfold mH;rw [hf];rfl
   rw [this] at mid
   simp only [fy,ah]
   exact mid
  ·simp only [Bool.not_true,jd]
   rw [am1]
   have:mH full out k=false:=by unfold mH;rw [hf];rfl
   rw [this] at mid
   simp only [dA,ah]
   exact mid
 clear hL
 have eX:k=n:=by omega
 subst eX
 have Pw:∀{g:ae} {id:Nat} (f:Nat->Bool),BQ g id k (λi=>if i<k then f i else false)->BQ g id k f:=λf hb=>by
  unfold BQ at hb⊢
  rw [hb]
  congr 2
  exact List.map_congr_left λi hi=>by show B (if i<k then f i else false)=_;rw [if_pos (mem_range.1 hi)]
 have b1:=Pw _ b1
 have b2:=Pw _ b2
 have b3:=Pw _ b3
 refine aoI m0 xg (by omega) (by omega) (by omega) b1 b2 b3 λg7 gh eD x7 c1 c2 c3 lk=>?_
 rw [aGa]
 have m7:=m0.up x7
 have VC:=x0.trans x7
 simp only [gH,bP,zero_add,ah,m7.lJ]
 refine cN (σ:=Nat) (λq=>[I q]) (λ_=>g7) (λq=>q<=k/\∀i<q,mH full out i=true->gh i=true) (λq=>k-q) 0 rfl rfl ⟨zero_le _,λi hi=>absurd hi (not_lt_zero _)⟩ ?_
 intro i ⟨hi,gU⟩ L1 lD
 rw [aGb]
 simp only [bT,ah,cd]
 refine ⟨λaw=>?_,λcK=>?_⟩
 ·have aw:i<k:=by omega
  have go:(mH full out i=true->gh i=true)->OP (aj .add (I i) (.int .i64 (1))) λEe=>True/\L1 [Ee] g7:=by
   intro hh
   simp only [bZ,ah,true_and]
   rw [dQ i (by simp only [maxLen];omega)]
   exact lD (i+1) ⟨aw,λj hj hp=>by
    by_cases e:j=i
    ·subst e;exact hh hp
    ·exact gU j (by omega) hp⟩ (by omega)
  simp only [BQ.dX aw,c1.ld aw,ah]
  rw [aGd]
  cases hp:mH full out i
  ·simp only [jd]
   rw [am6]
   simp only [dA,ah,dm]
   exact go λh=>by rw [hp] at h;cases h
  ·simp only [gq,BQ.dX aw,c3.ld aw,ah,kW]
   rw [am6]
   cases hl:gh i
   ·simp only [Bool.not_false,fy,ah,gf]
    refine hN g7 VC ?_
    refine Classical.byContradiction λb7=>?_
    have nf:∀i<k,full i=false:=λi hi=>by cases hh:full i with
     | false=>rfl
     | true=>exact absurd ⟨i,hi,hh⟩ b7
    have:=sH.em nf i aw
    unfold mH at hp
    rw [this] at hp
    simp at hp
   ·simp only [Bool.not_true,fy,ah,dm]
    exact go λ_=>hl
 ·have AR:i=k:=by omega
  subst AR
  rw [aGe]
  have e1:∀j<i,mH full out j=(!full j&&out j):=λj _=>rfl
  have e2:∀j<i,oN full out j=(!full j&& !out j):=λj _=>rfl
  refine Wc m7 c1 c2 (af3 bl sH AP e1 lk gU) (aCK bl sH AP e1 e2 lk gU) λg8 ip8 x8 aA2 q8=>?_
  have pP:∀j<i,qC i D (mH full out) (oN full out) j=0∨qC i D (mH full out) (oN full out) j=di i D j:=λj _=>by
   unfold qC gS
   cases mH full out j <;> cases oN full out j <;> simp
  have pb:∀j<i,0<=qC i D (mH full out) (oN full out) j/\qC i D (mH full out) (oN full out) j<=8000:=λj hj=>by
   have:=zF bl hj
   rcases pP j hj with h | h <;> rw [h] <;> omega
  have pz:(∀j<i,full j=false)->∀j<i,qC i D (mH full out) (oN full out) j=0:=λnf j hj=>by
   have ho:=sH.em nf j hj
   have h1:mH full out j=false:=by unfold mH;rw [ho];simp
   have h2:oN full out j=true:=by unfold oN;rw [ho,nf j hj];rfl
   unfold qC gS
   rw [h1,h2];simp
  refine C58 (m7.up x8) q8 (λj hj=>rfl) pP λb g9 x9 hb=>?_
  have xh9:=(VC.trans x8).trans x9
  cases b
  ·simp only [dm]
   refine hN g9 xh9 (Classical.byContradiction λb7=>?_)
   have nf:∀i'<i,full i'=false:=λi' hi=>by cases hh:full i' with
    | false=>rfl
    | true=>exact absurd ⟨i',hi,hh⟩ b7
   exact absurd (hb (pz nf)) (by simp)
  ·simp only [gf]
   exact hP g9 ip8 _ xh9 (le_trans VC.1 aA2) (q8.up x9) pb pz
end
section
open Go.Sim Go.Sort
variable {h : ae} {K : Value -> ae -> Prop} {n : Nat}
theorem auv (s k:Nat):∃z w,aj .shr (I s) (I k)=some (I z)/\aj .and (I z) (.int .i64 (1))=some (I w)/\(s=0->w=0):=by
 have e1:aj .shr (I s) (I k)=some (I ((s:Int).fdiv (2^(min (k:Int).toNat IntKind.i64.bits)))):=by
  simp [aj,jw,rB]
 have e2:∀z:Int,aj .and (I z) (.int .i64 (1))=some (I (IntKind.i64.wrap (BitVec.ofInt IntKind.i64.bits z &&& BitVec.ofInt IntKind.i64.bits 1).toNat)):=λz=>by
  simp [aj,jw]
 refine ⟨_,_,e1,e2 _,λh=>?_⟩
 subst h
 rw [show ((0:Nat):Int)=0 from rfl,Int.zero_fdiv]
 decide
theorem aot {ik s:Nat} {D:Nat->Nat->Int} {vb vl aV:Value} {L1:List Value->ae->Prop} {g0:ae} (m:ki g0 ik n D) (x0:EX g0 h) (iP:∀i<n,di n D i≠0)
  (hk:∀g ia full,EX h g->h.length<=ia->BQ g ia n full->(s=0->∀i<n,full i=false)->Sj prog K (pt ik 0) vb vl (sl 4 ia 0 n) aV (I s) L1 g):
  OH (eM 4 1 [(.bool false)] h (I n) (I n)) λdH h_1=>OP (aT dH) λcI=>bX [(.int .i64 (0))] h_1 λL2 xs hx=>Sh prog K (pt ik 0) vb vl (I s) dH aV (I s) cI L1 L2 xs hx:=by
 have n8:=m.n8
 have p1:BQ (h++[.arr 4 ((List.range n).map λ_=>B false)]) h.length n λ_=>false:=bL
 have x1:EX h (h++[.arr 4 ((List.range n).map λ_=>B false)]):=EX.append _ _
 have lo:aT (sl 4 h.length 0 n)=some (I n):=rfl
 simp only [BQ.make h n8,aL,lo,ah]
 generalize h++[az.arr 4 ((List.range n).map λ_=>B false)]=g1 at x1 p1⊢
 refine cN (σ:=Nat×(Nat->Bool)×ae) (λq=>[I q.1]) (λq=>q.2.2) (λq=>q.1<=n/\EX h q.2.2/\BQ q.2.2 h.length n q.2.1/\(s=0->∀i<n,q.2.1 i=false)) (λq=>n-q.1)
  (0,λ_=>false,g1) rfl rfl ⟨zero_le _,x1,p1,λ_ _ _=>rfl⟩ ?_
 rintro ⟨k,f,g⟩ ⟨fD,xg,p,hz⟩ L2 dP
 simp only at fD xg p hz dP⊢
 rw [aEb]
 simp only [bT,ah,cd]
 refine ⟨λaw=>?_,λcK=>?_⟩
 ·have aw:k<n:=by omega
  obtain ⟨z,w,e1,e2,e3⟩:=auv s k
  obtain ⟨tv,tb,to,t1,t2,t3⟩:=((m.up x0).up xg).zM aw
  have e4:=iP k aw
  have fin:∀b:Bool,(s=0->b=false)->OP (aD 1 (sl 4 h.length 0 n) (I k)) λfT=>OH (aU 1 g fT (B b)) λ_ h_1=>OP (aj .add (I k) (.int .i64 (1))) λiV=>True/\L2 [iV] h_1:=by
   intro b hb
   obtain ⟨g2,s2,f2,p2,_⟩:=p.set aw b
   simp only [BQ.dX aw,s2,ah,aL,bZ,true_and]
   rw [dQ k (by simp only [maxLen];omega)]
   refine dP (k+1,dU f k b,g2) ⟨aw,FR.iB xg f2 λd hd=>by omega,p2,λhs i hi=>?_⟩ (by show n-(k+1)<n-k;omega)
   show dU f k b i=false
   by_cases e:i=k
   ·subst e;rw [fL];exact hb hs
   ·rw [eA _ _ e];exact hz hs i hi
  simp only [e1,e2,ah,jD]
  rw [aEc]
  by_cases h1:w=1
  ·rw [dh h1]
   simp only [o0]
   rw [amQ]
   simp only [fy,ah]
   exact fin true λhs=>by rw [e3 hs] at h1;cases h1
  ·rw [bY h1]
   simp only [eW,gH,bP,zero_add,ah,t1,t2,t3,jD,bY e4]
   rw [amQ]
   simp only [dA,ah]
   exact fin false λ_=>rfl
 ·exact hk g h.length f xg (le_refl _) p hz
end
section
open Go.Sim Go.Sort
variable {h : ae} {K : Value -> ae -> Prop} {n : Nat}
theorem ay2 {a b:Int} (gT:b<=a):¬uI (a:Rat) (b:Rat)<0:=by
 unfold uI
 by_cases e:a=b
 ·subst e;simp
 ·have h1:¬(a:Rat)=(b:Rat):=λh=>e (Rat.intCast_inj.1 h)
  have h2:¬(a:Rat)<(b:Rat):=λh=>by have:=Rat.intCast_lt_intCast.1 h;omega
  rw [if_neg h1,if_neg h2];decide
theorem aou {ip js:Nat} {m0 vb vl aV bz:Value} {L1:List Value->ae->Prop} {P:Nat->Int} {c:Cl} (n8:n<=8) (ql:QL h ip n (λj=>some (P j:Rat))) (hP:∀j<n,0<=P j/\P j<=8000) (hjs:js<h.length) (hc:h[js]?=some (.arr 92 (cG c))) (hr:RV h (.agg (cG c).toArray) ((0:Int):Rat)) (b7:ip≠js)
  (hk:∀g c S,FR (λd=>d=js) h g->g[js]?=some (.arr 92 (cG c))->RV g (.agg (cG c).toArray) ((S:Int):Rat)->0<=S->S<=64000->((∀j<n,P j=0)->S=0)->Sl prog K m0 vb vl (sl 92 ip 0 n) (pt js 0) aV bz L1 g):
  bX [(.int .i64 (0))] h λL2 xs hx=>Sk prog K m0 vb vl (sl 92 ip 0 n) (pt js 0) aV bz (sl 92 ip 0 n) (I n) L1 L2 xs hx:=by
 refine cN (σ:=Nat×Cl×ae) (λq=>[I q.1]) (λq=>q.2.2) (λq=>q.1<=n/\FR (λd=>d=js) h q.2.2/\q.2.2[js]?=some (.arr 92 (cG q.2.1))/\RV q.2.2 (.agg (cG q.2.1).toArray) ((sg q.1 P:Int):Rat)) (λq=>n-q.1)
  (0,c,h) rfl rfl ⟨zero_le _,FR.refl _ _,hc,hr⟩ ?_
 rintro ⟨k,c,g⟩ ⟨fD,fr,hc,hr⟩ L2 dP
 simp only at fD fr hc hr dP⊢
 have bd:∀k,k<=n->0<=sg k P/\sg k P<=8000*k:=by
  intro k
  induction k with
  | zero=>intro _;simp [UZ]
  | succ k ih=>intro h;rw [kG];have:=ih (by omega);have:=hP k (by omega);omega
 rw [aEe]
 simp only [bT,ah,cd]
 refine ⟨λaw=>?_,λcK=>?_⟩
 ·have aw:k<n:=by omega
  obtain ⟨vp,lp,rp⟩:=(ql.fr fr b7).get aw rfl
  have x1:EX g (g++[.arr 92 z4]):=EX.append _ _
  have c1:(g++[az.arr 92 z4])[g.length]?=some (.arr 92 z4):=bL
  simp only [QL.dX aw,lp,ah,rR,aL]
  obtain ⟨g2,s2,x2,jk,r2,f2,cx,H8,rfl⟩:=(rp.mono x1).put (h0:=g) x1 (le_refl _) c1
  have jg:js<g.length:=by have:=fr.len;omega
  have AN:g2[js]?=some (.arr 92 (cG c)):=x2.get hc
  have lc2:af true 4 g2 (pt js 0)=some (.agg (cG c).toArray):=ko AN
  simp only [s2,aL,lc2,jk,ah]
  have b1:=bd k (by omega)
  have b2:=hP k aw
  refine EB (hr.mono x2) r2 (mZ (mX (by omega) (by omega)) (by omega)) (mZ (mX (by omega) (by omega)) (by omega)) (by omega) λr3 g3 x3 wS=>?_
  rw [<-Rat.intCast_add,<-kG] at wS
  obtain ⟨g4,s4,Rt,r4,f4,c4,CG,rfl⟩:=wS.w9 (x3.get AN)
  simp only [s4,aL,bZ,ah,true_and]
  rw [dQ k (by simp only [maxLen];omega)]
  exact dP (k+1,c4,g4) ⟨aw,(fr.trans (FR.ex (x2.trans x3))).trans f4,CG,r4⟩ (by show n-(k+1)<n-k;omega)
 ·have eX:k=n:=by omega
  subst eX
  have b1:=bd k (le_refl _)
  exact hk g c _ fr hc hr b1.1 (by omega) λhz=>by rw [gp (g:=λ_=>0) hz,mY]
theorem C12 {eY:Nat} {iQ:Nat->Nat} {D:Nat->Nat->Int} {cv:Value} (bl:nO n D) (iP:∀i<n,di n D i≠0) (md:MR h eY iQ n D) (nc:NS h cv .i64 (replicate n 0))
  (hk:∀v g,EX h g->gB h.length g 53 v ((List.range n).map λ_=>S (kr 0))->K (.tuple #[v,I 0]) g):ay prog 12 [cv,sl 34 eY 0 n] h K:=by
 have n8:=bl.n8;have n1:=bl.n1
 refine f12 ?_
 unfold LS
 refine EA bl.n1 bl.ee bl.diag md nc λg1 ik x1 m=>?_
 simp only [fM,gi,gj,ah,kW,Bool.not_true,dm]
 refine pL (by omega) (by omega) λr g2 x2 hr=>?_
 have x3:EX g2 (g2++[.arr 92 z4]):=EX.append _ _
 have c3:(g2++[az.arr 92 z4])[g2.length]?=some (.arr 92 z4):=bL
 simp only [rR,aL]
 obtain ⟨g4,s4,x4,Rt,r4,f4,c,hc,rfl⟩:=(hr.mono x3).put (h0:=g2) x3 (le_refl _) c3
 have m2:=m.up x2
 have sh:aj .shl (.int .i64 (1)) (I n)=some (I (2^n:Nat)):=by
  have:n=1∨n=2∨n=3∨n=4∨n=5∨n=6∨n=7∨n=8:=by omega
  rcases this with rfl | rfl | rfl | rfl | rfl | rfl | rfl | rfl <;> rfl
 have aDr:2^n<=256:=by
  have:=Nat.pow_le_pow_right (show 0<2 by omega) n8
  simpa using this
 have p0:0<2^n:=Nat.pow_pos (by omega)
 simp only [s4,aL,gH,bP,zero_add,ah,(m2.up x4).lJ,sh]
 generalize gV:g2.length=il at hc⊢
 generalize 2^n=W at aDr p0⊢
 refine cN (σ:=Nat×Value×Cl×ae) (λq=>[q.2.1,I q.1]) (λq=>q.2.2.2) (λq=>q.1<=W/\EX g2 q.2.2.2/\q.2.2.2[il]?=some (.arr 92 (cG q.2.2.1))/\RV q.2.2.2 (.agg (cG q.2.2.1).toArray) ((0:Int):Rat)/\((q.1=0/\q.2.1=.slice none 0 0)∨(0<q.1/\∃ib,g2.length<ib/\q.2.1=sl 92 ib 0 n/\QL q.2.2.2 ib n λ_=>some ((0:Int):Rat)))) (λq=>W-q.1)
  (0,.slice none 0 0,c,g4) rfl rfl ⟨zero_le _,x4,hc,r4,.inl ⟨rfl,rfl⟩⟩ ?_
 rintro ⟨s,vb,c,g⟩ ⟨hs,xg,hc,hr,hb⟩ L1 lD
 simp only at hs xg hc hr hb lD⊢
 rw [aEa]
 simp only [bT,ah,cd]
 have mg:=m2.up xg
 have gil:il<g.length:=(cm hc).1
 refine ⟨λaw=>?_,λcK=>?_⟩
 ·have aw:s<W:=by omega
  simp only [gH,bP,zero_add,ah,mg.lJ]
  refine aot (n:=n) mg (EX.refl _) iP λg5 ia full x5 hia pf hz=>?_
  have rF:∀(vb:Value) (c:Cl) (g:ae),EX g2 g->g[il]?=some (.arr 92 (cG c))->RV g (.agg (cG c).toArray) ((0:Int):Rat)->(∃ib,g2.length<ib/\vb=sl 92 ib 0 n/\QL g ib n λ_=>some ((0:Int):Rat))->DC prog K (pt ik 0) vb (pt il 0) (I W) (I s) L1 g:=by
   intro vb c g a1 a2 a3 a4
   rw [aEg]
   simp only [bZ,ah,true_and]
   rw [dQ s (by simp only [maxLen];omega)]
   exact lD (s+1,vb,c,g) ⟨aw,a1,a2,a3,.inr ⟨Nat.succ_pos _,a4⟩⟩ (by show W-(s+1)<W-s;omega)
  rw [aEd]
  refine C35 (mg.up x5) bl pf (λi hi _=>iP i hi) (λg6 x6 hex=>?_) (λg6 ip P x6 yH q6 pb pz=>?_)
  ·have en:oG false (.slice none 0 0) (.slice none 0 0)=some (B true):=rfl
   simp only [en,ah,gf]
   have gX:=x5.trans x6
   rcases hb with ⟨h0,_⟩ | ⟨_,ib,h1,h2,h3⟩
   ·obtain ⟨i,hi,hf⟩:=hex
    rw [hz h0 i hi] at hf;cases hf
   ·exact rF vb c g6 (xg.trans gX) (gX.get hc) (hr.mono gX) ⟨ib,h1,h2,h3.up gX⟩
  ·have en:oG false (sl 92 ip 0 n) (.slice none 0 0)=some (B false):=rfl
   have lp:aT (sl 92 ip 0 n)=some (I n):=rfl
   simp only [en,ah,dm]
   refine pL (by omega) (by omega) λr7 g7 x7 It=>?_
   have x8:EX g7 (g7++[.arr 92 z4]):=EX.append _ _
   have c8:(g7++[az.arr 92 z4])[g7.length]?=some (.arr 92 z4):=bL
   simp only [rR,aL]
   obtain ⟨g9,s9,x9,ld9,r9,f9,c9,hc9,rfl⟩:=(It.mono x8).put (h0:=g7) x8 (le_refl _) c8
   have iZ:EX g g9:=(x5.trans x6).trans (x7.trans x9)
   have g97:g7.length<g9.length:=(cm hc9).1
   have q9:=(q6.up x7).up x9
   have ipl:ip<g7.length:=(q6.up x7).lt
   have aMM:il<g7.length:=by have:=x5.1;have:=x6.1;have:=x7.1;omega
   simp only [s9,aL,lp,ah]
   refine aou n8 q9 pb g97 hc9 r9 (by omega) λg10 FJ S f10 aAH afb S0 S1 Sz=>?_
   have aE:EX g2 g10:=FR.iB (xg.trans iZ) f10 λd hd=>by omega
   have Qk:g10[il]?=some (.arr 92 (cG c)):=f10.get (by omega) (iZ.get hc)
   have ano:RV g10 (.agg (cG c).toArray) ((0:Int):Rat):=f10.rv _ _ (hr.mono iZ)
   have agd:af true 4 g10 (pt g7.length 0)=some (.agg (cG FJ).toArray):=ko aAH
   have lle:af true 4 g10 (pt il 0)=some (.agg (cG c).toArray):=ko Qk
   rw [aEf]
   rcases hb with ⟨h0,rfl⟩ | ⟨h0,ib,h1,rfl,h3⟩
   ·have e0:oG false (.slice none 0 0) (.slice none 0 0)=some (B true):=rfl
    have zz:=pz (hz h0)
    have sz:=Sz zz
    subst sz
    obtain ⟨g11,xf,aMO,r11,f11,NR,aAI,Pm⟩:=afb.w9 Qk
    rw [Pm] at r11
    simp only [e0,ah]
    rw [amR]
    simp only [o0]
    rw [amS]
    simp only [fy,ah,gf,agd,true_and,xf,aL]
    refine rF _ _ g11 (FR.iB aE f11 λd hd=>by omega) aAI r11 ⟨ip,?_,rfl,(((q9.fr f10 (by omega)).fr f11 ?_).congr λj hj=>by rw [zz j hj])⟩
    ·have:=x5.1;omega
    ·have:=x5.1;omega
   ·have e0:oG false (sl 92 ib 0 n) (.slice none 0 0)=some (B false):=rfl
    simp only [e0,ah]
    rw [amR]
    simp only [eW,agd,lle,ah]
    refine EC afb ano (mZ (mX (by omega) (by omega)) (by omega)) (mZ (k:=5) (by decide) (by omega)) (by omega) λg11 aG=>?_
    simp only [bT,ah,bY (ay2 S0)]
    rw [amS]
    simp only [dA,ah,dm]
    have ibl:ib<g.length:=h3.lt
    have gg7:g.length<=g7.length:=by have:=x5.1;have:=x6.1;have:=x7.1;omega
    exact rF _ c g11 (aE.trans aG) (aG.get Qk) (ano.mono aG) ⟨ib,h1,rfl,((h3.up iZ).fr f10 (by omega)).up aG⟩
 ·obtain ⟨_,ib,h1,rfl,h3⟩:=hb.resolve_left (by omega)
  rw [aEh]
  refine Kv n8 h3 (λj hj=>rfl) (λj hj=>by omega) λv g3 x3 own=>?_
  simp only [fM,gi,gj,ah]
  have x:=(x1.trans x2).trans xg
  exact hk v g3 (x.trans x3) (own.imp id λ⟨i,a,b⟩=>⟨i,le_trans x.1 a,b⟩)
end
section
open Go.Sim Go.Sort
variable {l : List T3} {w t : Nat} {ys : List Nat}
def iX (ys:List Nat) (ls:List T3) (i j:Nat):Int:=(ls.map λq=>if i=ys.idxOf q.2.1/\j=ys.idxOf (q.2.1+q.2.2) then (q.2.2:Int) else 0).sum
def DF (ys:List Nat) (ls:List T3) (w:Nat) (i j:Nat):Int:=iX ys ls i j+if i=ys.length-1/\j=0 then (w:Int) else 0
theorem Cj (ys:List Nat) (q:T3) (ls:List T3) (i j:Nat):iX ys (q::ls) i j=(if i=ys.idxOf q.2.1/\j=ys.idxOf (q.2.1+q.2.2) then (q.2.2:Int) else 0)+iX ys ls i j:=by simp [iX]
theorem azg {ys:List Nat} {a b:List T3} (h:a.Perm b) (i j:Nat):iX ys a i j=iX ys b i j:=amH (h.map _)
theorem anp {n:Nat} {b:Nat} (hb:b<n) (a i:Nat) (x:Int):sg n (λj=>if i=a/\j=b then x else 0)=if i=a then x else 0:=by
 by_cases e:i=a
 ·rw [if_pos e];exact (gp λj _=>by simp [e]).trans (sL hb x)
 ·rw [if_neg e];exact (gp λj _=>by simp [e]).trans (mY n)
theorem adk {n:Nat} {a:Nat} (ha:a<n) (b j:Nat) (x:Int):sg n (λi=>if i=a/\j=b then x else 0)=if j=b then x else 0:=by
 by_cases e:j=b
 ·rw [if_pos e];exact (gp λi _=>by simp [e]).trans (sL ha x)
 ·rw [if_neg e];exact (gp λi _=>by simp [e]).trans (mY n)
theorem Rb {ys:List Nat} (hp:ys.Pairwise (·<·)) {i:Nat} (hi:i<ys.length):ys.idxOf ys[i]=i:=by
 have hm:=List.getElem_mem hi
 have h1:=List.idxOf_lt_length_of_mem hm
 have h2:=List.getElem_idxOf h1
 rcases Nat.lt_trichotomy (ys.idxOf ys[i]) i with c | c | c
 ·have:=(List.pairwise_iff_getElem.1 hp) _ _ h1 hi c;omega
 ·exact c
 ·have:=(List.pairwise_iff_getElem.1 hp) _ _ hi h1 c;omega
theorem ID {ys:List Nat} (hp:ys.Pairwise (·<·)) {i y:Nat} (hi:i<ys.length) (hy:y∈ys):i=ys.idxOf y↔y=ys[i]:=by
 constructor
 ·rintro rfl
  exact (List.getElem_idxOf (List.idxOf_lt_length_of_mem hy)).symm
 ·rintro rfl
  exact (Rb hp hi).symm
theorem ads {ys:List Nat} (hp:ys.Pairwise (·<·)):∀{ls:List T3} (_:∀q∈ls,q.2.1∈ys/\q.2.1+q.2.2∈ys) {i:Nat} (hi:i<ys.length),sg ys.length (λj=>iX ys ls i j)=(ez.kV ls ys[i]:Int)
 | [],_,i,hi=>by
  exact mY _
 | q::ls,h,i,hi=>by
  obtain ⟨h1,h2⟩:=h q (by simp)
  have ih:=ads hp (λx hx=>h x (List.mem_cons_of_mem _ hx)) hi
  rw [gp λj _=>Cj ys q ls i j,oR,ih,anp (List.idxOf_lt_length_of_mem h2)]
  have:ez.kV (q::ls) ys[i]=(if q.2.1=ys[i] then q.2.2 else 0)+ez.kV ls ys[i]:=by simp [ez.kV]
  rw [this]
  have e:=ID hp hi h1
  by_cases c:i=ys.idxOf q.2.1
  ·rw [if_pos c,if_pos (e.1 c)];omega
  ·rw [if_neg c,if_neg λh=>c (e.2 h)];omega
theorem adq {ys:List Nat} (hp:ys.Pairwise (·<·)):∀{ls:List T3} (_:∀q∈ls,q.2.1∈ys/\q.2.1+q.2.2∈ys) {j:Nat} (hj:j<ys.length),sg ys.length (λi=>iX ys ls i j)=(ez.ot ls ys[j]:Int)
 | [],_,j,hj=>by
  exact mY _
 | q::ls,h,j,hj=>by
  obtain ⟨h1,h2⟩:=h q (by simp)
  have ih:=adq hp (λx hx=>h x (List.mem_cons_of_mem _ hx)) hj
  rw [gp λi _=>Cj ys q ls i j,oR,ih,adk (List.idxOf_lt_length_of_mem h1)]
  have:ez.ot (q::ls) ys[j]=(if q.2.1+q.2.2=ys[j] then q.2.2 else 0)+ez.ot ls ys[j]:=by simp [ez.ot]
  rw [this]
  have e:=ID hp hj h2
  by_cases c:j=ys.idxOf (q.2.1+q.2.2)
  ·rw [if_pos c,if_pos (e.1 c)];omega
  ·rw [if_neg c,if_neg λh=>c (e.2 h)];omega
theorem Pb (ys:List Nat) (ls:List T3) (i j:Nat):0<=iX ys ls i j:=by
 induction ls with
 | nil=>exact Int.le_refl _
 | cons q ls ih=>rw [Cj];split <;> omega
theorem azi (c:ez l w t ys) (hw:w<=1000) (h8:ys.length<=8):nO ys.length (DF ys l w)/\∀i<ys.length,di ys.length (DF ys l w) i≠0:=by
 obtain ⟨hp,hh,hl,_,h2⟩:=c.levels
 have lm:=c.IM
 obtain ⟨w1,t1,_⟩:=c.pos
 have y0:ys[0]'(by omega)=0:=by
  rw [List.head?_eq_getElem?,getElem?_eq_getElem (by omega)] at hh
  exact Option.some.inj hh
 have yn:ys[ys.length-1]'(by omega)=t:=by
  rw [List.getLast?_eq_getElem?,getElem?_eq_getElem (by omega)] at hl
  exact Option.some.inj hl
 have inj:∀i (hi:i<ys.length) k (hk:k<ys.length),ys[i]=ys[k]->i=k:=λi hi k hk e=>by
  have h1:=Rb hp hi
  have h2:=Rb hp hk
  rw [e,h2] at h1;exact h1.symm
 have row:∀i (hi:i<ys.length),di ys.length (DF ys l w) i=(ez.kV l ys[i]:Int)+if ys[i]=t then (w:Int) else 0:=λi hi=>by
  have:di ys.length (DF ys l w) i=sg ys.length (λj=>iX ys l i j+if i=ys.length-1/\j=0 then (w:Int) else 0):=rfl
  rw [this,oR,ads hp lm hi,anp (by omega)]
  by_cases e:i=ys.length-1
  ·subst e;rw [if_pos rfl,if_pos yn]
  ·rw [if_neg e,if_neg λh=>e (inj i hi (ys.length-1) (by omega) (by rw [h,yn]))]
 have Ch:∀j (hj:j<ys.length),nR ys.length (DF ys l w) j=(ez.ot l ys[j]:Int)+if ys[j]=0 then (w:Int) else 0:=λj hj=>by
  have:nR ys.length (DF ys l w) j=sg ys.length (λi=>iX ys l i j+if i=ys.length-1/\j=0 then (w:Int) else 0):=rfl
  rw [this,oR,adq hp lm hj,adk (by omega)]
  by_cases e:j=0
  ·subst e;rw [if_pos rfl,if_pos y0]
  ·rw [if_neg e,if_neg λh=>e (inj j hj 0 (by omega) (by rw [h,y0]))]
 have fl:=c.aAk
 have nn:∀i j,0<=DF ys l w i j:=λi j=>by
  have:=Pb ys l i j
  unfold DF;split <;> omega
 refine ⟨⟨by omega,h8,λi hi j hj=>⟨nn i j,?_⟩,λi hi=>?_,λv hv=>?_⟩,λi hi=>?_⟩
 ·have le:DF ys l w i j<=di ys.length (DF ys l w) i:=by
   have:(sg ys.length λq=>if q=j then DF ys l w i j else 0)<=di ys.length (DF ys l w) i:=sK λq _=>by
    by_cases e:q=j
    ·subst e;rw [if_pos rfl];exact Int.le_refl _
    ·rw [if_neg e];exact nn i q
   rwa [sL hj] at this
  rw [row i hi] at le
  have tl:=c.aKI ys[i]
  by_cases e:ys[i]=t
  ·rw [if_pos e,e,c.anV] at le;omega
  ·rw [if_neg e] at le;omega
 ·unfold DF
  have z:iX ys l i i=0:=by
   have:∀ls:List T3,(∀q∈ls,q∈l)->iX ys ls i i=0:=by
    intro ls
    induction ls with
    | nil=>intro _;rfl
    | cons q ls ih=>
     intro hq
     rw [Cj,ih λx hx=>hq x (List.mem_cons_of_mem _ hx),if_neg]
     ·rfl
     ·rintro ⟨e1,e2⟩
      have sj:=hq q (by simp)
      have h1:=(ID hp hi (lm q sj).1).1 e1
      have h2:=(ID hp hi (lm q sj).2).1 e2
      have:=(c.bound q sj).1
      omega
   exact this l λ_ h=>h
  rw [z,if_neg (by omega)];rfl
 ·rw [row v hv,Ch v hv]
  have:=fl ys[v]
  by_cases e1:ys[v]=t <;> by_cases e2:ys[v]=0
  ·rw [if_pos e1,if_pos e2];rw [if_pos e1,if_pos e2] at this;omega
  ·rw [if_pos e1,if_neg e2];rw [if_pos e1,if_neg e2] at this;omega
  ·rw [if_neg e1,if_pos e2];rw [if_neg e1,if_pos e2] at this;omega
  ·rw [if_neg e1,if_neg e2];rw [if_neg e1,if_neg e2] at this;omega
 ·rw [row i hi]
  by_cases e:ys[i]=t
  ·rw [if_pos e];omega
  ·rw [if_neg e]
   obtain ⟨q,hq,he⟩:=c.Rz ys[i] (List.getElem_mem hi)
   have hb:=(c.bound q hq).1
   have agq:∀(f:T3->Nat) (ls:List T3) (q:T3),q∈ls->f q<=(ls.map f).sum:=by
    intro f ls
    induction ls with
    | nil=>intro q hq;simp at hq
    | cons x ls ih=>
     intro q hq
     rw [map_cons,List.sum_cons]
     rcases List.mem_cons.1 hq with rfl | hq
     ·omega
     ·have:=ih q hq;omega
   rcases he with he | he
   ·have:=agq (λq=>if q.2.1=ys[i] then q.2.2 else 0) l q hq
    simp only [if_pos he] at this
    have:q.2.2<=ez.kV l ys[i]:=this
    omega
   ·have:=agq (λq=>if q.2.1+q.2.2=ys[i] then q.2.2 else 0) l q hq
    simp only [if_pos he] at this
    have h3:q.2.2<=ez.ot l ys[i]:=this
    have:=fl ys[i]
    rw [if_neg e] at this
    have y1:ys[i]≠0:=by omega
    rw [if_neg y1] at this
    omega
end
section
open Go.Sim
variable (P : Program) (K : VK)
noncomputable section
variable (x0 x1 l5 i6 w7 h8 x9 n12 aC cY f16 df g19 d20 i21 i22 bB bm db i27 dc tR cX oa fw kM rL dC gn gM eC iT sO dV nh ni mf rN qG oV ke uk Eh xr Ei xt Ej xu Ek xv El xw Em xy En xz Eo xB Ep xC Er xD Es xE Et xF Eu xG Ev : Value) (L1 : LQ) (xs : List Value) (h : ae)
def Jc:=cj prog 3 [[],[],[],[0],[5,6],[0,5,6,45],[0,5,6,45,47],[],[],[],[],[],[0,5,6,7,8,9],[],[0,5,6,7,8,9,84],[0,5,6,9,84,88],[],[],[0,5,6],[5],[],[],[],[12,13,15,16,17,19,110],[12,13,15,17,19,110,112],[12,13,15,17,19,114],[12,13,15,17,114,116],[12,13,15,17,118],[12,13,15,17,118,120],[12,13,15,17,122],[12,13,15,17,122,124],[12,13,15,17,126],[12,13,15,17,126,131],[],[],[],[],[],[12,13,15,17],[20,21],[],[],[],[12,13,15,17,20],[],[12,13,15,17,20],[22],[],[],[12,13,15,17,20,22,156],[12,13,15,17,20,22,156,163],[12,13,15,17,20,22,165],[12,13,15,17,20,22,165,171],[12,13,15,17,20,22,173],[12,13,15,17,20,22,173,180],[],[],[],[],[12,17,20],[],[],[],[],[],[],[],[],[],[12,20,23,24,26,27,28,29,30,31,32,33,252],[12,20,23,24,26,28,29,30,31,32,33,252,254],[12,20,23,24,26,28,29,30,31,32,33,256],[12,20,23,24,26,28,30,31,32,33,256,258],[12,20,23,24,26,28,30,31,32,33,260],[12,20,23,24,26,28,30,32,33,260,262],[12,20,23,24,26,28,30,32,33,264],[12,20,23,24,26,28,30,32,264,266],[12,20,23,24,26,28,30,32,268],[12,20,23,24,26,28,30,32,268,272],[12,20,23,24,26,28,30,32,274],[12,20,24,26,28,30,32,274,277],[12,20,24,26,28,30,32,279],[12,20,26,28,30,32,279,283],[12,20,26,28,30,32,285],[12,20,26,28,30,285,288],[12,20,26,28,30,290],[12,20,26,28,30,290,294],[12,20,26,28,30,296],[12,20,26,28,30,296,300],[12,20,26,28,30,302],[12,20,26,28,30,302,306],[],[],[],[],[12,20,26,28,30],[34],[],[],[],[],[],[],[]]
@[irreducible] def c3:=cD Jc
@[irreducible] def GA:=c3.r.r.l.r.l.l
@[irreducible] def aaV:=c3.r.r.r
@[irreducible] def aax:=GA.l.l.r.l
@[irreducible] def aw1:=GA.l.r
@[irreducible] def Ou:=GA.r
@[irreducible] def Gz:=aaV.l
@[irreducible] def awN:=aax.r.l
@[irreducible] def Gy:=Ou.l.l.r.r.r.l
@[irreducible] def aaN:=Ou.r
@[irreducible] def aaW:=Gz.r.r.r.l.l.r.l
@[irreducible] def awV:=Gz.r.r.r.l.r
@[irreducible] def Oq:=Gz.r.r.r.r
@[irreducible] def aaU:=Gy.l.r.l.r.l
@[irreducible] def awS:=Gy.l.r.r
@[irreducible] def awR:=Gy.r
@[irreducible] def awU:=aaN.l
@[irreducible] def aaX:=aaW.r.l
@[irreducible] def awX:=Oq.r.l.r.l.l
@[irreducible] def aa5:=Oq.r.r
@[irreducible] def awT:=aaU.r.l
@[irreducible] def aaY:=aaX.r.l
@[irreducible] def Ot:=aa5.l
@[irreducible] def aaZ:=aaY.r.l
@[irreducible] def B8:=Ot.l.r.l.l
@[irreducible] def aa6:=Ot.r
@[irreducible] def aa0:=aaZ.r.l
@[irreducible] def aa7:=B8.r.l.l.l.l.r.l
@[irreducible] def aw0:=B8.r.l.l.l.r
@[irreducible] def awZ:=B8.r.l.l.r
@[irreducible] def awY:=B8.r.r
@[irreducible] def GB:=aa6.l
@[irreducible] def aa1:=aa0.r.l
@[irreducible] def aa8:=aa7.r.l
@[irreducible] def aay:=GB.r.r.r.r.r.r.r.l.l.r.l
@[irreducible] def aw3:=GB.r.r.r.r.r.r.r.l.r
@[irreducible] def Ov:=GB.r.r.r.r.r.r.r.r
@[irreducible] def aa2:=aa1.r.l
@[irreducible] def aa9:=aa8.r.l
@[irreducible] def aaz:=aay.r.l
@[irreducible] def awQ:=Ov.l.r.l.l
@[irreducible] def awP:=Ov.r
@[irreducible] def aa3:=aa2.r.l
@[irreducible] def aba:=aa9.r.l
@[irreducible] def aaA:=aaz.r.l
@[irreducible] def aa4:=aa3.r.l
@[irreducible] def abb:=aba.r.l
@[irreducible] def aaB:=aaA.r.l
@[irreducible] def awW:=aa4.r.l
@[irreducible] def aw2:=abb.r.l
@[irreducible] def aaC:=aaB.r.l
@[irreducible] def aaD:=aaC.r.l
@[irreducible] def aaE:=aaD.r.l
@[irreducible] def aaF:=aaE.r.l
@[irreducible] def aaG:=aaF.r.l
@[irreducible] def aaH:=aaG.r.l
@[irreducible] def aaI:=aaH.r.l
@[irreducible] def aaJ:=aaI.r.l
@[irreducible] def aaK:=aaJ.r.l
@[irreducible] def aaL:=aaK.r.l
@[irreducible] def aaM:=aaL.r.l
@[irreducible] def aaO:=aaM.r.l
@[irreducible] def aaP:=aaO.r.l
@[irreducible] def aaQ:=aaP.r.l
@[irreducible] def aaR:=aaQ.r.l
@[irreducible] def aaS:=aaR.r.l
@[irreducible] def aaT:=aaS.r.l
@[irreducible] def awO:=aaT.r.l
theorem k3:Jc=some (339,c3,[.tmp 4]):=by kernel_rfl
def o9 (_P:Program) (K:VK):ax:=aW [.tmp 4] K
def arM:ax:=aH (au P aaV (o9 P K)) (o9 P K)
def arN:ax:=bC 0 (arM P K)
def Aj:ax:=aH (λf' aQ=>(([0]:List Nat).map f':List Value)=[x0]/\L1 (([5,6]:List Nat).map f') aQ) (arN P K)
def Xp:ax:=aH (au P Ou (Aj P K x0 L1)) (Aj P K x0 L1)
def Xs:ax:=aH (au P aw1 (Xp P K x0 L1)) (Xp P K x0 L1)
def arI:ax:=aH (au P aaN (Aj P K x0 L1)) (Aj P K x0 L1)
def K9:ax:=bC 1 (arI P K x0 L1)
def Xm:ax:=aH (au P awR (K9 P K x0 L1)) (K9 P K x0 L1)
def Xn:ax:=aH (au P awS (Xm P K x0 L1)) (Xm P K x0 L1)
def Xo:ax:=aH (au P Oq (o9 P K)) (o9 P K)
def sV:ax:=aH (au P awV (Xo P K)) (Xo P K)
def arO:ax:=aH (au P aa5 (o9 P K)) (o9 P K)
def arP:ax:=bC 2 (arO P K)
def arQ:ax:=aH (λf' aQ=>(([12,13,15,17]:List Nat).map f':List Value)=[n12,aC,cY,df]/\L1 (([20,21]:List Nat).map f') aQ) (arP P K)
def arR:ax:=aH (au P aa6 (o9 P K)) (o9 P K)
def arT:ax:=bC 4 (arR P K)
def La:ax:=aH (λf' aQ=>(([12,13,15,17,20]:List Nat).map f':List Value)=[n12,aC,cY,df,d20]/\L1 (([22]:List Nat).map f') aQ) (arT P K)
def arU:ax:=aH (au P awY (La P K n12 aC cY df d20 L1)) (La P K n12 aC cY df d20 L1)
def Xq:ax:=bC 5 (arU P K n12 aC cY df d20 L1)
def Xr:ax:=aH (au P awZ (Xq P K n12 aC cY df d20 L1)) (Xq P K n12 aC cY df d20 L1)
def Ak:ax:=aH (au P aw0 (Xr P K n12 aC cY df d20 L1)) (Xr P K n12 aC cY df d20 L1)
def Xt:ax:=aH (au P Ov (o9 P K)) (o9 P K)
def lA:ax:=aH (au P aw3 (Xt P K)) (Xt P K)
def arJ:ax:=aH (au P awP (o9 P K)) (o9 P K)
def arK:ax:=bC 6 (arJ P K)
def arL:ax:=aH (λf' aQ=>(([12,20,26,28,30]:List Nat).map f':List Value)=[n12,d20,db,dc,cX]/\L1 (([34]:List Nat).map f') aQ) (arK P K)
def To:Prop:=aA (au P GA (Aj P K x0 L1)) ([0]++[5,6]) ([x0]++xs) h
def akF:Prop:=aA (au P aax (Xs P K x0 L1)) [0,5,6,45] [x0,l5,i6,dC] h
def S9:Prop:=aA (au P awN (Xs P K x0 L1)) [0,5,6,45,47] [x0,l5,i6,dC,gn] h
def DI:Prop:=aA (au P Gy (K9 P K x0 L1)) [0,5,6,7,8,9] [x0,l5,i6,w7,h8,x9] h
def akR:Prop:=aA (au P aaU (Xn P K x0 L1)) [0,5,6,7,8,9,84] [x0,l5,i6,w7,h8,x9,gM] h
def Th:Prop:=aA (au P awT (Xn P K x0 L1)) [0,5,6,9,84,88] [x0,l5,i6,x9,gM,eC] h
def akS:Prop:=aA (au P awU (Aj P K x0 L1)) [0,5,6] [x0,l5,i6] h
def Bp:Prop:=aA (au P Gz (o9 P K)) [5] [l5] h
def akT:Prop:=aA (au P aaW (sV P K)) [12,13,15,16,17,19,110] [n12,aC,cY,f16,df,g19,iT] h
def Ti:Prop:=aA (au P aaX (sV P K)) [12,13,15,17,19,110,112] [n12,aC,cY,df,g19,iT,sO] h
def akU:Prop:=aA (au P aaY (sV P K)) [12,13,15,17,19,114] [n12,aC,cY,df,g19,dV] h
def Tj:Prop:=aA (au P aaZ (sV P K)) [12,13,15,17,114,116] [n12,aC,cY,df,dV,nh] h
def akV:Prop:=aA (au P aa0 (sV P K)) [12,13,15,17,118] [n12,aC,cY,df,ni] h
def Tk:Prop:=aA (au P aa1 (sV P K)) [12,13,15,17,118,120] [n12,aC,cY,df,ni,mf] h
def akW:Prop:=aA (au P aa2 (sV P K)) [12,13,15,17,122] [n12,aC,cY,df,rN] h
def Tl:Prop:=aA (au P aa3 (sV P K)) [12,13,15,17,122,124] [n12,aC,cY,df,rN,qG] h
def akX:Prop:=aA (au P aa4 (sV P K)) [12,13,15,17,126] [n12,aC,cY,df,oV] h
def Tm:Prop:=aA (au P awW (sV P K)) [12,13,15,17,126,131] [n12,aC,cY,df,oV,ke] h
def Tn:Prop:=aA (au P awX (arQ P K n12 aC cY df L1)) ([12,13,15,17]++[20,21]) ([n12,aC,cY,df]++xs) h
def Jq:Prop:=aA (au P Ot (o9 P K)) [12,13,15,17,20] [n12,aC,cY,df,d20] h
def akY:Prop:=aA (au P B8 (La P K n12 aC cY df d20 L1)) ([12,13,15,17,20]++[22]) ([n12,aC,cY,df,d20]++xs) h
def akZ:Prop:=aA (au P aa7 (Ak P K n12 aC cY df d20 L1)) [12,13,15,17,20,22,156] [n12,aC,cY,df,d20,i22,uk] h
def Tp:Prop:=aA (au P aa8 (Ak P K n12 aC cY df d20 L1)) [12,13,15,17,20,22,156,163] [n12,aC,cY,df,d20,i22,uk,Eh] h
def ak0:Prop:=aA (au P aa9 (Ak P K n12 aC cY df d20 L1)) [12,13,15,17,20,22,165] [n12,aC,cY,df,d20,i22,xr] h
def Tq:Prop:=aA (au P aba (Ak P K n12 aC cY df d20 L1)) [12,13,15,17,20,22,165,171] [n12,aC,cY,df,d20,i22,xr,Ei] h
def ak1:Prop:=aA (au P abb (Ak P K n12 aC cY df d20 L1)) [12,13,15,17,20,22,173] [n12,aC,cY,df,d20,i22,xt] h
def Ts:Prop:=aA (au P aw2 (Ak P K n12 aC cY df d20 L1)) [12,13,15,17,20,22,173,180] [n12,aC,cY,df,d20,i22,xt,Ej] h
def Jr:Prop:=aA (au P GB (o9 P K)) [12,17,20] [n12,df,d20] h
def akG:Prop:=aA (au P aay (lA P K)) [12,20,23,24,26,27,28,29,30,31,32,33,252] [n12,d20,bB,bm,db,i27,dc,tR,cX,oa,fw,kM,xu] h
def S4:Prop:=aA (au P aaz (lA P K)) [12,20,23,24,26,28,29,30,31,32,33,252,254] [n12,d20,bB,bm,db,dc,tR,cX,oa,fw,kM,xu,Ek] h
def akH:Prop:=aA (au P aaA (lA P K)) [12,20,23,24,26,28,29,30,31,32,33,256] [n12,d20,bB,bm,db,dc,tR,cX,oa,fw,kM,xv] h
def S5:Prop:=aA (au P aaB (lA P K)) [12,20,23,24,26,28,30,31,32,33,256,258] [n12,d20,bB,bm,db,dc,cX,oa,fw,kM,xv,El] h
def akI:Prop:=aA (au P aaC (lA P K)) [12,20,23,24,26,28,30,31,32,33,260] [n12,d20,bB,bm,db,dc,cX,oa,fw,kM,xw] h
def S6:Prop:=aA (au P aaD (lA P K)) [12,20,23,24,26,28,30,32,33,260,262] [n12,d20,bB,bm,db,dc,cX,fw,kM,xw,Em] h
def akJ:Prop:=aA (au P aaE (lA P K)) [12,20,23,24,26,28,30,32,33,264] [n12,d20,bB,bm,db,dc,cX,fw,kM,xy] h
def S7:Prop:=aA (au P aaF (lA P K)) [12,20,23,24,26,28,30,32,264,266] [n12,d20,bB,bm,db,dc,cX,fw,xy,En] h
def akK:Prop:=aA (au P aaG (lA P K)) [12,20,23,24,26,28,30,32,268] [n12,d20,bB,bm,db,dc,cX,fw,xz] h
def S8:Prop:=aA (au P aaH (lA P K)) [12,20,23,24,26,28,30,32,268,272] [n12,d20,bB,bm,db,dc,cX,fw,xz,Eo] h
def akL:Prop:=aA (au P aaI (lA P K)) [12,20,23,24,26,28,30,32,274] [n12,d20,bB,bm,db,dc,cX,fw,xB] h
def Ta:Prop:=aA (au P aaJ (lA P K)) [12,20,24,26,28,30,32,274,277] [n12,d20,bm,db,dc,cX,fw,xB,Ep] h
def akM:Prop:=aA (au P aaK (lA P K)) [12,20,24,26,28,30,32,279] [n12,d20,bm,db,dc,cX,fw,xC] h
def Tb:Prop:=aA (au P aaL (lA P K)) [12,20,26,28,30,32,279,283] [n12,d20,db,dc,cX,fw,xC,Er] h
def akN:Prop:=aA (au P aaM (lA P K)) [12,20,26,28,30,32,285] [n12,d20,db,dc,cX,fw,xD] h
def Tc:Prop:=aA (au P aaO (lA P K)) [12,20,26,28,30,285,288] [n12,d20,db,dc,cX,xD,Es] h
def akO:Prop:=aA (au P aaP (lA P K)) [12,20,26,28,30,290] [n12,d20,db,dc,cX,xE] h
def Td:Prop:=aA (au P aaQ (lA P K)) [12,20,26,28,30,290,294] [n12,d20,db,dc,cX,xE,Et] h
def akP:Prop:=aA (au P aaR (lA P K)) [12,20,26,28,30,296] [n12,d20,db,dc,cX,xF] h
def Te:Prop:=aA (au P aaS (lA P K)) [12,20,26,28,30,296,300] [n12,d20,db,dc,cX,xF,Eu] h
def akQ:Prop:=aA (au P aaT (lA P K)) [12,20,26,28,30,302] [n12,d20,db,dc,cX,xG] h
def Tf:Prop:=aA (au P awO (lA P K)) [12,20,26,28,30,302,306] [n12,d20,db,dc,cX,xG,Ev] h
def Tg:Prop:=aA (au P awQ (arL P K n12 d20 db dc cX L1)) ([12,20,26,28,30]++[34]) ([n12,d20,db,dc,cX]++xs) h
theorem am7:S9 P K x0 l5 i6 dC gn L1 h=
 (OP (bu dC gn (.bool false)) λfE=>
 aJ fE
 (ay P 4 [l5] h λfg z1=>
 OP (cW 0 fg) λgw=>
 OP (cW 1 fg) λfJ=>
 OH (cH 24 0 [(.int .i64 (0)),(.int .i64 (0)),(.int .i64 (0))] z1 []) λgX z2=>
 OH (cT 24 3 24 z2 gX l5) λfS z3=>
 OP (aD 1 x0 i6) λfT=>
 OP (af false 1 z3 fT) λiV=>
 OP (aj .rem iV (.int .u8 (2))) λhZ=>
 OP (aj .eql hZ (.int .u8 (0))) λkf=>
 aJ kf
 (OP (eI [(.int .i64 (0)),(.int .i64 (0)),(.int .i64 (0))] [(0,1,gw),(2,1,fJ)]) λfA=>
 OH (cH 24 1 [(.int .i64 (0)),(.int .i64 (0)),(.int .i64 (0))] z3 [(0,3,fA)]) λdZ z4=>
 OH (cT 24 3 24 z4 fS dZ) λdj z5=>
 DI P K x0 l5 i6 gw fJ dj L1 z5)
 (OP (eI [(.int .i64 (0)),(.int .i64 (0)),(.int .i64 (0))] [(1,1,fJ),(2,1,gw)]) λiW=>
 OH (cH 24 1 [(.int .i64 (0)),(.int .i64 (0)),(.int .i64 (0))] z3 [(0,3,iW)]) λfF z4=>
 OH (cT 24 3 24 z4 fS fF) λiM z5=>
 DI P K x0 l5 i6 gw fJ iM L1 z5))
 (Bp P K l5 h)):=aB (by kernel_rfl)
theorem aGj:akF P K x0 l5 i6 dC L1 h=
 (bQ dC true
 (OP (aj .lss i6 (.int .i64 (9))) λgn=>
 S9 P K x0 l5 i6 dC gn L1 h)
 (S9 P K x0 l5 i6 dC undef L1 h)):=aB (by kernel_rfl)
theorem am8:Th P K x0 l5 i6 x9 gM eC L1 h=
 (OP (bu gM (.bool true) eC) λeP=>
 aJ eP
 (Bp P K l5 h)
 (akS P K x0 x9 i6 L1 h)):=aB (by kernel_rfl)
theorem aGI:akR P K x0 l5 i6 w7 h8 x9 gM L1 h=
 (bQ gM false
 (OP (aj .add w7 h8) λkh=>
 OP (aj .gtr kh (.int .i64 (300))) λeC=>
 Th P K x0 l5 i6 x9 gM eC L1 h)
 (Th P K x0 l5 i6 x9 gM undef L1 h)):=aB (by kernel_rfl)
theorem aGH:DI P K x0 l5 i6 w7 h8 x9 L1 h=
 (ay P 5 [x9] h λlN z1=>
 OP (cW 0 lN) λjU=>
 OP (cW 1 lN) λcJ=>
 OP (aj .gtr jU (.int .i64 (8))) λgY=>
 akR P K x0 l5 i6 w7 h8 x9 gY L1 z1):=aB (by kernel_rfl)
theorem aGJ:akS P K x0 l5 i6 L1 h=
 (OP (aj .add i6 (.int .i64 (1))) λiU=>
 ([x0]:List Value)=[x0]/\L1 [l5,iU] h):=aB (by kernel_rfl)
theorem aGW (x0:Value) (L1:LQ) (l5 i6:Value) (h:ae):To P K x0 L1 [l5,i6] h=
 (OP (aT x0) λcO=>
 OP (aj .lss i6 cO) λcP=>
 akF P K x0 l5 i6 cP L1 h):=aB (by kernel_rfl)
theorem aGU:Tm P K n12 aC cY df oV ke h=
 (OP (bu oV (.bool true) ke) λkA=>
 aJ kA
 (K (.bool false) h)
 (OH (cH 34 0 [(.slice none 0 0)] h []) λpJ z1=>
 bX [pJ,(.int .i64 (0))] z1 λL1 xs hx=>
 Tn P K n12 aC cY df L1 xs hx)):=aB (by kernel_rfl)
theorem aGT:akX P K n12 aC cY df oV h=
 (bQ oV false
 (OP (aT aC) λqH=>
 OP (aT cY) λhT=>
 OP (aj .neq qH hT) λke=>
 Tm P K n12 aC cY df oV ke h)
 (Tm P K n12 aC cY df oV undef h)):=aB (by kernel_rfl)
theorem aGS:Tl P K n12 aC cY df rN qG h=
 (OP (bu rN (.bool true) qG) λzQ=>
 akX P K n12 aC cY df zQ h):=aB (by kernel_rfl)
theorem aGR:akW P K n12 aC cY df rN h=
 (bQ rN false
 (OP (aj .gtr n12 (.int .i64 (8))) λqG=>
 Tl P K n12 aC cY df rN qG h)
 (Tl P K n12 aC cY df rN undef h)):=aB (by kernel_rfl)
theorem aGQ:Tk P K n12 aC cY df ni mf h=
 (OP (bu ni (.bool true) mf) λvV=>
 akW P K n12 aC cY df vV h):=aB (by kernel_rfl)
theorem aGP:akV P K n12 aC cY df ni h=
 (bQ ni false
 (OP (aj .lss n12 (.int .i64 (2))) λmf=>
 Tk P K n12 aC cY df ni mf h)
 (Tk P K n12 aC cY df ni undef h)):=aB (by kernel_rfl)
theorem aGO:Tj P K n12 aC cY df dV nh h=
 (OP (bu dV (.bool true) nh) λVk=>
 akV P K n12 aC cY df Vk h):=aB (by kernel_rfl)
theorem aGN:akU P K n12 aC cY df g19 dV h=
 (bQ dV false
 (OP (aj .neq g19 (.int .i64 (0))) λnh=>
 Tj P K n12 aC cY df dV nh h)
 (Tj P K n12 aC cY df dV undef h)):=aB (by kernel_rfl)
theorem aGM:Ti P K n12 aC cY df g19 iT sO h=
 (OP (bu iT (.bool true) sO) λvU=>
 akU P K n12 aC cY df g19 vU h):=aB (by kernel_rfl)
theorem aGL:akT P K n12 aC cY f16 df g19 iT h=
 (bQ iT false
 (OP (aj .neq f16 (.int .i64 (0))) λsO=>
 Ti P K n12 aC cY df g19 iT sO h)
 (Ti P K n12 aC cY df g19 iT undef h)):=aB (by kernel_rfl)
theorem aGV (n12 aC cY df:Value) (L1:LQ) (d20 i21:Value) (h:ae):Tn P K n12 aC cY df L1 [d20,i21] h=
 (OP (aj .lss i21 n12) λpK=>
 aJ pK
 (OH (eM 3 8 [(.int .i64 (0))] h n12 n12) λqJ z1=>
 OH (cH 34 1 [(.slice none 0 0)] z1 [(0,1,qJ)]) λmh z2=>
 OH (cT 34 1 24 z2 d20 mh) λgK z3=>
 OP (aj .add i21 (.int .i64 (1))) λmJ=>
 ([n12,aC,cY,df]:List Value)=[n12,aC,cY,df]/\L1 [gK,mJ] z3)
 (Jq P K n12 aC cY df d20 h)):=aB (by kernel_rfl)
theorem aG4:Ts P K n12 aC cY df d20 i22 xt Ej L1 h=
 (OP (bu xt (.bool true) Ej) λaLb=>
 aJ aLb
 (K (.bool false) h)
 (OP (aD 2 aC i22) λaLc=>
 OP (aF 0 aLc) λaLd=>
 OP (af false 1 h aLd) λaLe=>
 (True)/\
 OP (aD 1 d20 aLe) λaLf=>
 OP (af false 1 h aLf) λan7=>
 (True)/\
 OP (aD 2 aC i22) λaLg=>
 OP (aF 1 aLg) λaLh=>
 OP (af false 1 h aLh) λan8=>
 (True)/\
 OP (aD 1 an7 an8) λaLi=>
 OP (af false 1 h aLi) λaLj=>
 (True)/\
 OP (aD 1 cY i22) λaLk=>
 OP (af false 1 h aLk) λaLl=>
 (True)/\
 OP (aj .add aLj aLl) λaLm=>
 OP (aD 1 an7 an8) λaLn=>
 OH (aU 1 h aLn aLm) λ_ z1=>
 (True)/\
 OP (aj .add i22 (.int .i64 (1))) λBD=>
 ([n12,aC,cY,df,d20]:List Value)=[n12,aC,cY,df,d20]/\L1 [BD] z1)):=aB (by kernel_rfl)
theorem aG3:ak1 P K n12 aC cY df d20 i22 xt L1 h=
 (bQ xt false
 (OP (aD 2 aC i22) λaK8=>
 OP (aF 1 aK8) λaK9=>
 OP (af false 1 h aK9) λaLa=>
 OP (aj .geq aLa n12) λEj=>
 Ts P K n12 aC cY df d20 i22 xt Ej L1 h)
 (Ts P K n12 aC cY df d20 i22 xt undef L1 h)):=aB (by kernel_rfl)
theorem aG2:Tq P K n12 aC cY df d20 i22 xr Ei L1 h=
 (OP (bu xr (.bool true) Ei) λaK7=>
 ak1 P K n12 aC cY df d20 i22 aK7 L1 h):=aB (by kernel_rfl)
theorem aG1:ak0 P K n12 aC cY df d20 i22 xr L1 h=
 (bQ xr false
 (OP (aD 2 aC i22) λaK4=>
 OP (aF 1 aK4) λaK5=>
 OP (af false 1 h aK5) λaK6=>
 OP (aj .lss aK6 (.int .i64 (0))) λEi=>
 Tq P K n12 aC cY df d20 i22 xr Ei L1 h)
 (Tq P K n12 aC cY df d20 i22 xr undef L1 h)):=aB (by kernel_rfl)
theorem aG0:Tp P K n12 aC cY df d20 i22 uk Eh L1 h=
 (OP (bu uk (.bool true) Eh) λaK3=>
 ak0 P K n12 aC cY df d20 i22 aK3 L1 h):=aB (by kernel_rfl)
theorem aGZ:akZ P K n12 aC cY df d20 i22 uk L1 h=
 (bQ uk false
 (OP (aD 2 aC i22) λVs=>
 OP (aF 0 Vs) λaK2=>
 OP (af false 1 h aK2) λVt=>
 OP (aj .geq Vt n12) λEh=>
 Tp P K n12 aC cY df d20 i22 uk Eh L1 h)
 (Tp P K n12 aC cY df d20 i22 uk undef L1 h)):=aB (by kernel_rfl)
theorem aGY (n12 aC cY df d20:Value) (L1:LQ) (i22:Value) (h:ae):akY P K n12 aC cY df d20 L1 [i22] h=
 (OP (aT aC) λdY=>
 OP (aj .lss i22 dY) λEf=>
 aJ Ef
 (OP (aD 2 aC i22) λvY=>
 OP (aF 0 vY) λEg=>
 OP (af false 1 h Eg) λVp=>
 OP (aj .lss Vp (.int .i64 (0))) λVq=>
 akZ P K n12 aC cY df d20 i22 Vq L1 h)
 (Jr P K n12 df d20 h)):=aB (by kernel_rfl)
theorem aGF:Tf P K n12 d20 db dc cX xG Ev h=
 (OP (bu xG (.bool true) Ev) λaL3=>
 aJ aL3
 (K (.bool false) h)
 (bX [(.int .i64 (0))] h λL1 xs hx=>
 Tg P K n12 d20 db dc cX L1 xs hx)):=aB (by kernel_rfl)
theorem aGE:akQ P K n12 d20 db dc cX xG h=
 (bQ xG false
 (OP (aT cX) λaL2=>
 OP (aj .neq aL2 n12) λEv=>
 Tf P K n12 d20 db dc cX xG Ev h)
 (Tf P K n12 d20 db dc cX xG undef h)):=aB (by kernel_rfl)
theorem aGD:Te P K n12 d20 db dc cX xF Eu h=
 (OP (bu xF (.bool true) Eu) λaL1=>
 akQ P K n12 d20 db dc cX aL1 h):=aB (by kernel_rfl)
theorem aGC:akP P K n12 d20 db dc cX xF h=
 (bQ xF false
 (OP (aT dc) λaL0=>
 OP (aj .neq aL0 n12) λEu=>
 Te P K n12 d20 db dc cX xF Eu h)
 (Te P K n12 d20 db dc cX xF undef h)):=aB (by kernel_rfl)
theorem aGB:Td P K n12 d20 db dc cX xE Et h=
 (OP (bu xE (.bool true) Et) λaLZ=>
 akP P K n12 d20 db dc cX aLZ h):=aB (by kernel_rfl)
theorem aGA:akO P K n12 d20 db dc cX xE h=
 (bQ xE false
 (OP (aT db) λaLY=>
 OP (aj .neq aLY n12) λEt=>
 Td P K n12 d20 db dc cX xE Et h)
 (Td P K n12 d20 db dc cX xE undef h)):=aB (by kernel_rfl)
theorem aGz:Tc P K n12 d20 db dc cX xD Es h=
 (OP (bu xD (.bool true) Es) λaLX=>
 akO P K n12 d20 db dc cX aLX h):=aB (by kernel_rfl)
theorem aGy:akN P K n12 d20 db dc cX fw xD h=
 (bQ xD false
 (OP (aT fw) λaLW=>
 OP (aj .neq aLW (.int .i64 (0))) λEs=>
 Tc P K n12 d20 db dc cX xD Es h)
 (Tc P K n12 d20 db dc cX xD undef h)):=aB (by kernel_rfl)
theorem aGx:Tb P K n12 d20 db dc cX fw xC Er h=
 (OP (bu xC (.bool true) Er) λaLV=>
 akN P K n12 d20 db dc cX fw aLV h):=aB (by kernel_rfl)
theorem aGw:akM P K n12 d20 bm db dc cX fw xC h=
 (bQ xC false
 (ay P 16 [d20] h λaLU z1=>
 OP (aj .neq bm aLU) λEr=>
 Tb P K n12 d20 db dc cX fw xC Er z1)
 (Tb P K n12 d20 db dc cX fw xC undef h)):=aB (by kernel_rfl)
theorem aGv:Ta P K n12 d20 bm db dc cX fw xB Ep h=
 (OP (bu xB (.bool true) Ep) λaLT=>
 akM P K n12 d20 bm db dc cX fw aLT h):=aB (by kernel_rfl)
theorem aGu:akL P K n12 d20 bB bm db dc cX fw xB h=
 (bQ xB false
 (ay P 16 [bB] h λaLS z1=>
 OP (aj .neq aLS (.int .i64 (0))) λEp=>
 Ta P K n12 d20 bm db dc cX fw xB Ep z1)
 (Ta P K n12 d20 bm db dc cX fw xB undef h)):=aB (by kernel_rfl)
theorem aGt:S8 P K n12 d20 bB bm db dc cX fw xz Eo h=
 (OP (bu xz (.bool true) Eo) λaLR=>
 akL P K n12 d20 bB bm db dc cX fw aLR h):=aB (by kernel_rfl)
theorem aGs:akK P K n12 d20 bB bm db dc cX fw xz h=
 (bQ xz false
 (ay P 15 [d20,bB] h λaLQ z1=>
 OP (gG .not aLQ) λEo=>
 S8 P K n12 d20 bB bm db dc cX fw xz Eo z1)
 (S8 P K n12 d20 bB bm db dc cX fw xz undef h)):=aB (by kernel_rfl)
theorem aGr:S7 P K n12 d20 bB bm db dc cX fw xy En h=
 (OP (bu xy (.bool true) En) λaLP=>
 akK P K n12 d20 bB bm db dc cX fw aLP h):=aB (by kernel_rfl)
theorem aGq:akJ P K n12 d20 bB bm db dc cX fw kM xy h=
 (bQ xy false
 (OP (aj .neq kM (.int .i64 (0))) λEn=>
 S7 P K n12 d20 bB bm db dc cX fw xy En h)
 (S7 P K n12 d20 bB bm db dc cX fw xy undef h)):=aB (by kernel_rfl)
theorem aGp:S6 P K n12 d20 bB bm db dc cX fw kM xw Em h=
 (OP (bu xw (.bool true) Em) λaLO=>
 akJ P K n12 d20 bB bm db dc cX fw kM aLO h):=aB (by kernel_rfl)
theorem aGo:akI P K n12 d20 bB bm db dc cX oa fw kM xw h=
 (bQ xw false
 (OP (aj .neq oa (.int .i64 (0))) λEm=>
 S6 P K n12 d20 bB bm db dc cX fw kM xw Em h)
 (S6 P K n12 d20 bB bm db dc cX fw kM xw undef h)):=aB (by kernel_rfl)
theorem aGn:S5 P K n12 d20 bB bm db dc cX oa fw kM xv El h=
 (OP (bu xv (.bool true) El) λaLN=>
 akI P K n12 d20 bB bm db dc cX oa fw kM aLN h):=aB (by kernel_rfl)
theorem aGm:akH P K n12 d20 bB bm db dc tR cX oa fw kM xv h=
 (bQ xv false
 (OP (aj .neq tR (.int .i64 (0))) λEl=>
 S5 P K n12 d20 bB bm db dc cX oa fw kM xv El h)
 (S5 P K n12 d20 bB bm db dc cX oa fw kM xv undef h)):=aB (by kernel_rfl)
theorem aGl:S4 P K n12 d20 bB bm db dc tR cX oa fw kM xu Ek h=
 (OP (bu xu (.bool true) Ek) λaLM=>
 akH P K n12 d20 bB bm db dc tR cX oa fw kM aLM h):=aB (by kernel_rfl)
theorem aGk:akG P K n12 d20 bB bm db i27 dc tR cX oa fw kM xu h=
 (bQ xu false
 (OP (aj .neq i27 (.int .i64 (0))) λEk=>
 S4 P K n12 d20 bB bm db dc tR cX oa fw kM xu Ek h)
 (S4 P K n12 d20 bB bm db dc tR cX oa fw kM xu undef h)):=aB (by kernel_rfl)
theorem aGG (n12 d20 db dc cX:Value) (L1:LQ) (rL:Value) (h:ae):Tg P K n12 d20 db dc cX L1 [rL] h=
 (OP (aj .lss rL n12) λaL4=>
 aJ aL4
 (OP (aD 1 db rL) λVv=>
 OP (af false 1 h Vv) λVw=>
 (True)/\
 OP (aD 1 d20 rL) λaL5=>
 OP (af false 1 h aL5) λaL6=>
 (True)/\
 ay P 19 [aL6] h λaL7 z1=>
 (af false 1 z1 Vv=some Vw/\True)/\
 ay P 18 [aL7] z1 λaL8 z2=>
 (af false 1 z2 Vv=some Vw/\True)/\
 ay P 17 [Vw,aL8] z2 λaL9 z3=>
 (True)/\
 OP (gG .not aL9) λVx=>
 bQ Vx false
 (OP (aD 1 dc rL) λaMa=>
 OP (af false 1 z3 aMa) λaMb=>
 (True)/\
 OP (aj .neq aMb (.string ⟨#[48]⟩)) λaMc=>
 OP (bu Vx (.bool true) aMc) λzV=>
 bQ zV false
 (OP (aD 1 cX rL) λVy=>
 OP (af false 1 z3 Vy) λVz=>
 (True)/\
 OP (aj .neq Vz (.string ⟨#[48]⟩)) λVA=>
 OP (bu zV (.bool true) VA) λzW=>
 aJ zW
 (K (.bool false) z3)
 (OP (aj .add rL (.int .i64 (1))) λzU=>
 ([n12,d20,db,dc,cX]:List Value)=[n12,d20,db,dc,cX]/\L1 [zU] z3))
 (OP (bu zV (.bool true) undef) λzW=>
 aJ zW
 (K (.bool false) z3)
 (OP (aj .add rL (.int .i64 (1))) λzU=>
 ([n12,d20,db,dc,cX]:List Value)=[n12,d20,db,dc,cX]/\L1 [zU] z3)))
 (OP (bu Vx (.bool true) undef) λzV=>
 bQ zV false
 (OP (aD 1 cX rL) λVy=>
 OP (af false 1 z3 Vy) λVz=>
 (True)/\
 OP (aj .neq Vz (.string ⟨#[48]⟩)) λVA=>
 OP (bu zV (.bool true) VA) λzW=>
 aJ zW
 (K (.bool false) z3)
 (OP (aj .add rL (.int .i64 (1))) λzU=>
 ([n12,d20,db,dc,cX]:List Value)=[n12,d20,db,dc,cX]/\L1 [zU] z3))
 (OP (bu zV (.bool true) undef) λzW=>
 aJ zW
 (K (.bool false) z3)
 (OP (aj .add rL (.int .i64 (1))) λzU=>
 ([n12,d20,db,dc,cX]:List Value)=[n12,d20,db,dc,cX]/\L1 [zU] z3))))
 (K (.bool true) h)):=aB (by kernel_rfl)
theorem aG5:Jr P K n12 df d20 h=
 (OP (aj .sub n12 (.int .i64 (1))) λaLo=>
 OP (aD 1 d20 aLo) λaLp=>
 OP (af false 1 h aLp) λan9=>
 OP (aD 1 an9 (.int .i64 (0))) λaLq=>
 OP (af false 1 h aLq) λaLr=>
 OP (aj .add aLr df) λaLs=>
 OP (aD 1 an9 (.int .i64 (0))) λaLt=>
 OH (aU 1 h aLt aLs) λ_ z1=>
 ay P 9 [d20] z1 λaLu z2=>
 OP (gG .not aLu) λaLv=>
 aJ aLv
 (K (.bool false) z2)
 (ay P 10 [d20] z2 λVu z3=>
 OP (cW 0 Vu) λaLw=>
 OP (cW 1 Vu) λaLx=>
 OP (cW 2 Vu) λaLy=>
 OH (eM 3 8 [(.int .i64 (0))] z3 n12 n12) λaLz z4=>
 ay P 11 [aLz,d20] z4 λaoa z5=>
 OP (cW 0 aoa) λaLA=>
 OP (cW 1 aoa) λaLB=>
 OH (eM 3 8 [(.int .i64 (0))] z5 n12 n12) λaLC z6=>
 ay P 12 [aLC,d20] z6 λaob z7=>
 OP (cW 0 aob) λaLD=>
 OP (cW 1 aob) λaLE=>
 OH (eM 3 8 [(.int .i64 (0))] z7 n12 n12) λaLF z8=>
 ay P 13 [aLF,d20] z8 λaoc z9=>
 OP (cW 0 aoc) λaLG=>
 OP (cW 1 aoc) λaLH=>
 OH (eM 3 8 [(.int .i64 (0))] z9 n12 n12) λaLI qK=>
 ay P 14 [aLI,d20] qK λaod zX=>
 OP (cW 0 aod) λaLJ=>
 OP (cW 1 aod) λaLK=>
 OP (aj .neq aLy (.int .i64 (0))) λaLL=>
 akG P K n12 d20 aLw aLx aLA aLB aLD aLE aLG aLH aLJ aLK aLL zX)):=aB (by kernel_rfl)
theorem aGX:Jq P K n12 aC cY df d20 h=
 (bX [(.int .i64 (0))] h λL1 xs hx=>
 akY P K n12 aC cY df d20 L1 xs hx):=aB (by kernel_rfl)
theorem aGK:Bp P K l5 h=
 (ay P 6 [l5] h λeE z1=>
 OP (cW 0 eE) λfc=>
 OP (cW 1 eE) λfv=>
 OP (cW 2 eE) λnL=>
 ay P 7 [l5] z1 λnM z2=>
 OP (cW 0 nM) λpG=>
 OP (cW 1 nM) λpH=>
 ay P 8 [l5] z2 λlM z3=>
 OP (cW 0 lM) λvT=>
 OP (cW 1 lM) λBC=>
 OP (cW 2 lM) λpI=>
 OP (aj .neq nL (.int .i64 (0))) λjT=>
 akT P K fc fv pG pH vT pI jT z3):=aB (by kernel_rfl)
def T3:Prop:=
 OP (dI .i64 x1) λaY=>
 OP (aj .rem aY (.int .i64 (3))) λbG=>
 OP (aj .add bG (.int .i64 (1))) λdH=>
 OP (eI [(.int .i64 (0)),(.int .i64 (0)),(.int .i64 (0))] [(2,1,dH)]) λdW=>
 OH (cH 24 1 [(.int .i64 (0)),(.int .i64 (0)),(.int .i64 (0))] h [(0,3,dW)]) λcI z1=>
 bX [cI,(.int .i64 (0))] z1 λL1 xs hx=>
 To P K x0 L1 xs hx
theorem e3:au P c3 (aW [.tmp 4] K) (cg [x0,x1]) h=T3 P K x0 x1 h:=by kernel_rfl
theorem f3 {K:VK} {x0 x1:Value} {h:ae} (H:T3 prog K x0 x1 h):ay prog 3 [x0,x1] h K:=
 cC k3 (cE rfl) ((e3 prog K x0 x1 h).mpr H)
end
end
section
open Go.Sim Go.Sort
variable {h : ae} {K : Value -> ae -> Prop} {n : Nat}
theorem aDh:kr 0=[48]:=rfl
theorem U3 {b:Nat} {g:ae} {v:Value} {f:Nat->Value} (o:gB b g 53 v ((List.range n).map f)) {j:Nat} (hj:j<n):∃i,aD 1 v (I j)=some (pt i j)/\af false 1 g (pt i j)=some (f j):=by
 rcases o with ⟨_,e⟩ | ⟨i,_,rfl,hg⟩
 ·have:=congrArg List.length e
  simp at this;omega
 ·exact ⟨i,jL (by simpa using hj),by simp [af,bw,hg,dS,hj]⟩
theorem aoJ {b1 b2 b3 eY:Nat} {iQ:Nat->Nat} {D:Nat->Nat->Int} {vp vq vk:Value} (bl:nO n D) (md:MR h eY iQ n D) (op:gB b1 h 53 vp ((List.range n).map λj=>S (kr (di n D j)))) (oq:gB b2 h 53 vq ((List.range n).map λ_=>S (kr 0))) (ok:gB b3 h 53 vk ((List.range n).map λ_=>S (kr 0)))
  (hk:∀g,EX h g->K (B true) g):bX [(.int .i64 (0))] h λL1 xs hx=>Tg prog K (I n) (sl 34 eY 0 n) vp vq vk L1 xs hx:=by
 have n8:=bl.n8
 refine cN (σ:=Nat×ae) (λq=>[I q.1]) (λq=>q.2) (λq=>q.1<=n/\EX h q.2) (λq=>n-q.1) (0,h) rfl rfl ⟨zero_le _,EX.refl _⟩ ?_
 rintro ⟨k,g⟩ ⟨fD,xg⟩ L hL
 simp only at fD xg hL⊢
 rw [aGG]
 simp only [bT,ah,cd]
 refine ⟨λaw=>?_,λcK=>hk g xg⟩
 have aw:k<n:=by omega
 obtain ⟨ip,ap,lp⟩:=U3 op aw
 obtain ⟨iq,aq,lq⟩:=U3 oq aw
 obtain ⟨ik,ak,lk⟩:=U3 ok aw
 have lp:=EX.load xg lp
 have rb:=zF bl aw
 have mg:=md.up xg
 have ns:NS g (sl 3 (iQ k) 0 n) .i64 ((List.range n).map (D k)):=by
  have:=NS.arr (k:=.i64) (ns:=(List.range n).map (D k)) (h:=g) (e:=3) (i:=iQ k) (by rw [mg.hr k aw,iL,List.map_map];rfl) (by simp [maxLen];omega)
  simpa using this
 have mk:=lB.of bl.n1 bl.n8 bl.ee bl.diag
 have rw1:=mk.pX ((List.range n).map (D k)) (mem_map.2 ⟨k,mem_range.2 aw,rfl⟩)
 simp only [ap,lp,MR.dX aw,mg.ld aw,ah,true_and]
 refine V4 ns (λj=>by have:=rw1 j;omega) ?_
 have e:((List.range n).map (D k)).sum=di n D k:=rfl
 rw [e]
 simp only [lp,true_and,and_true]
 refine C18 (by omega) λr g2 x2 hr=>?_
 simp only [EX.load x2 lp,true_and,and_true]
 refine C17 hr (lt_of_lt_of_le (show (di n D k).natAbs<10000^2 from (show (di n D k).natAbs<100000000 by omega)) (Nat.pow_le_pow_right (by omega) (by omega))) λg3 x3=>?_
 have x:=(xg.trans x2).trans x3
 have lq:=EX.load x lq
 have lk:=EX.load x lk
 have neq:aj .neq (S (kr 0)) (.string ⟨#[48]⟩)=some (.bool false):=by
  have:(.string ⟨#[48]⟩:Value)=S [48]:=rfl
  rw [this,Ym,aDh];rfl
 simp only [decide_true,kW,Bool.not_true,ah,eW,aq,lq,ak,lk,neq,dA,dm,true_and,bZ]
 rw [dQ k (by simp only [maxLen];omega)]
 exact hL (k+1,g3) ⟨aw,x⟩ (by show n-(k+1)<n-k;omega)
end
section
open Go.Sim Go.Sort
variable {h : ae} {K : Value -> ae -> Prop} {n : Nat}
theorem Du (g:ae) (n8:n<=8):eM 3 8 [(.int .i64 (0))] g (I n) (I n)=some (sl 3 g.length 0 n,g++[.arr 3 ((replicate n (0:Int)).map I)]):=by
 simp only [eM]
 rw [if_pos (by omega)]
 simp [bE]
theorem I7 (g:ae) (n8:n<=8):NS (g++[.arr 3 ((replicate n (0:Int)).map I)]) (sl 3 g.length 0 n) .i64 (replicate n 0):=by
 have:=NS.arr (k:=.i64) (ns:=replicate n (0:Int)) (h:=g++[az.arr 3 ((replicate n (0:Int)).map I)]) (e:=3) (i:=g.length) bL (by simp [maxLen];omega)
 simpa using this
theorem aoN {eY w:Nat} {iQ:Nat->Nat} {D0 D:Nat->Nat->Int} (hD:(λa b=>if a=n-1/\b=0 then D0 (n-1) 0+w else D0 a b)=D) (h0:0<=D0 (n-1) 0/\D0 (n-1) 0+w<=1000) (bl:nO n D) (iP:∀i<n,di n D i≠0) (md:MR h eY iQ n D0)
  (hk:∀g,K (B true) g):Jr prog K (I n) (I w) (sl 34 eY 0 n) h:=by
 have n8:=bl.n8;have n1:=bl.n1
 rw [aG5]
 have sb:IntKind.wrap .i64 ((n:Int)-1)=(n-1:Nat):=by rw [wrap64 (by omega) (by omega)];omega
 have h1:n-1<n:=by omega
 have a0:aD 1 (sl 3 (iQ (n-1)) 0 n) (.int .i64 (0))=some (pt (iQ (n-1)) 0):=jL (j:=0) (by omega)
 have w1:IntKind.wrap .i64 (D0 (n-1) 0+w)=D0 (n-1) 0+w:=wrap64 (by omega) (by omega)
 obtain ⟨g1,s1,_,m1⟩:=md.set h1 (show 0<n by omega) (D0 (n-1) 0+w)
 rw [hD] at m1
 simp only [gO,sb,ah,MR.dX h1,md.ld h1,a0,md.jk h1 (show 0<n by omega),bZ,w1,s1,aL]
 have mk:=lB.of n1 n8 bl.ee bl.diag
 refine C9 m1.mi mk ?_
 simp only [kW,Bool.not_true,ah,dm]
 refine C10 bl m1 λg2 oI iR x2 mz=>?_
 simp only [fM,ah,Du _ n8,aL]
 have e0:∀a b c:Value,(#[a,b,c]:Array Value)[0]?=some a:=λ_ _ _=>rfl
 have e1:∀a b c:Value,(#[a,b,c]:Array Value)[1]?=some b:=λ_ _ _=>rfl
 have e2:∀a b c:Value,(#[a,b,c]:Array Value)[2]?=some c:=λ_ _ _=>rfl
 simp only [e0,e1,e2,ah]
 have y3:EX g2 (g2++[.arr 3 ((replicate n (0:Int)).map I)]):=EX.append _ _
 refine C11 bl ((m1.up x2).up y3) (I7 g2 n8) λvp g4 x4 op=>?_
 have y5:EX g4 (g4++[.arr 3 ((replicate n (0:Int)).map I)]):=EX.append _ _
 have aX:=x2.trans (y3.trans (x4.trans y5))
 simp only [fM,gi,gj,ah,Du _ n8,aL]
 refine C12 bl iP (m1.up aX) (I7 g4 n8) λvq g6 x6 oq=>?_
 have y7:EX g6 (g6++[.arr 3 ((replicate n (0:Int)).map I)]):=EX.append _ _
 have bM:=aX.trans (x6.trans y7)
 simp only [fM,gi,gj,ah,Du _ n8,aL]
 refine C13 bl (m1.up bM) (I7 g6 n8) λvk g8 x8 ok=>?_
 have y9:EX g8 (g8++[.arr 3 ((replicate n (0:Int)).map I)]):=EX.append _ _
 have aS:=bM.trans (x8.trans y9)
 simp only [fM,gi,gj,ah,Du _ n8,aL]
 refine C14 bl (m1.up aS) (I7 g8 n8) λg10 aE=>?_
 have xA:=aS.trans aE
 have mA:=m1.up xA
 have mzA:=mz.up (xA |>λ_=>(y3.trans (x4.trans y5)).trans ((x6.trans y7).trans ((x8.trans y9).trans aE)))
 have mkz:lB n (fQ n λ_ _=>0):=lB.of n1 n8 (λ_ _ _ _=>by omega) λ_ _=>rfl
 have z:(fz (fQ n λ_ _=>0)).sum=0:=by
  have:∀r∈fz (fQ n λ_ _=>(0:Int)),r=0:=by
   intro r hr
   obtain ⟨q,hq,rfl⟩:=mem_map.1 hr
   obtain ⟨i,_,rfl⟩:=mem_map.1 hq
   have:(List.range n).map (λ_=>(0:Int))=replicate n 0:=by rw [map_const'];simp
   rw [this];simp
  have e:fz (fQ n λ_ _=>(0:Int))=replicate (fz (fQ n λ_ _=>(0:Int))).length 0:=List.eq_replicate_iff.2 ⟨rfl,this⟩
  rw [e];simp
 have x4A:EX g4 g10:=y5.trans ((x6.trans y7).trans ((x8.trans y9).trans aE))
 have x6A:EX g6 g10:=y7.trans ((x8.trans y9).trans aE)
 have x8A:EX g8 g10:=y9.trans aE
 have opA:=op.iA (g':=g10) λd q hv hd=>x4A.2 d (op.lt hv).2.1
 have oqA:=oq.iA (g':=g10) λd q hv hd=>x6A.2 d (oq.lt hv).2.1
 have okA:=ok.iA (g':=g10) λd q hv hd=>x8A.2 d (ok.lt hv).2.1
 have lp:aT vp=some (I n):=by
  rcases opA with ⟨_,e⟩ | ⟨i,_,rfl,_⟩
  ·have:=congrArg List.length e;simp at this;omega
  ·simp [aT,sl]
 have lq:aT vq=some (I n):=by
  rcases oqA with ⟨_,e⟩ | ⟨i,_,rfl,_⟩
  ·have:=congrArg List.length e;simp at this;omega
  ·simp [aT,sl]
 have lk:aT vk=some (I n):=by
  rcases okA with ⟨_,e⟩ | ⟨i,_,rfl,_⟩
  ·have:=congrArg List.length e;simp at this;omega
  ·simp [aT,sl]
 have ln:aT (.slice none 0 0)=some (I 0):=rfl
 simp only [fM,gi,gj,ah,iE,decide_true,Bool.not_true]
 rw [aGk]
 simp only [eW,iE,decide_true,Bool.not_true,ah]
 rw [aGl]
 simp only [dA,ah]
 rw [aGm]
 simp only [eW,iE,decide_true,Bool.not_true,ah]
 rw [aGn]
 simp only [dA,ah]
 rw [aGo]
 simp only [eW,iE,decide_true,Bool.not_true,ah]
 rw [aGp]
 simp only [dA,ah]
 rw [aGq]
 simp only [eW,iE,decide_true,Bool.not_true,ah]
 rw [aGr]
 simp only [dA,ah]
 rw [aGs]
 simp only [eW]
 refine C15 mA.mi mzA.mi mk (by simp [fQ]) (λr hr=>by obtain ⟨i,_,rfl⟩:=mem_map.1 hr;simp) ?_
 simp only [kW,Bool.not_true,ah]
 rw [aGt]
 simp only [dA,ah]
 rw [aGu]
 simp only [eW]
 refine V3 mzA.mi mkz ?_
 simp only [z,iE,decide_true,Bool.not_true,ah]
 rw [aGv]
 simp only [dA,ah]
 rw [aGw]
 simp only [eW]
 refine V3 mA.mi mk ?_
 simp only [iE,decide_true,Bool.not_true,ah]
 rw [aGx]
 simp only [dA,ah]
 rw [aGy]
 simp only [eW,ln,iE,decide_true,Bool.not_true,ah]
 rw [aGz]
 simp only [dA,ah]
 rw [aGA]
 simp only [eW,lp,iE,decide_true,Bool.not_true,ah]
 rw [aGB]
 simp only [dA,ah]
 rw [aGC]
 simp only [eW,lq,iE,decide_true,Bool.not_true,ah]
 rw [aGD]
 simp only [dA,ah]
 rw [aGE]
 simp only [eW,lk,iE,decide_true,Bool.not_true,ah]
 rw [aGF]
 simp only [dA,ah,dm]
 exact aoJ bl mA opA oqA okA λg _=>hk g
end
end Go.Proofs.YtncaiogfjjepcaaGreat
