/-
  Part 7 of the texts behind a statement of this seat: UKd10, Ea1, Rq1, Ea2, Ea3, Ea4, Rq2, Fa1, Fa2, Fa3, Fa4, Fa5, Fa6, Fa7, Ga1, Ga2, Ga3, Ga4, Ga5, Ga6, Ga7, Gp1, Gp2, Ga8, Ga9, Ga10, Ga11, La1, CG, La2, La3.
-/
import Derived.Test.YtncaiogfjjepcaaGreatProg
import Derived.KernelRfl
import Derived.Test.YtncaiogfjjepcaaGreatTu6
open Bool (false_eq_true)
open Go.Proofs.Tryz (prog)
open Int (gcd mul_comm mul_pos natAbs_mul one_mul)
open List (getD_eq_getElem?_getD getElem?_eq_getElem getElem?_set_self getElem_map length_map map_append map_cons map_const' mem_map mem_range range_succ replicate)
open Nat (le_refl le_trans lt_of_lt_of_le not_lt_zero zero_add zero_le)
open Option (bind_some)
open Rat (divInt)
namespace Go.Proofs.YtncaiogfjjepcaaGreat
open Go.Sim
section
section
variable {va vb : Value} {p q : Rat} {i j : Nat} {h : ae} {K : Value -> ae -> Prop}
theorem gU.neg {k:Nat} {q:Rat} (h:gU k q):gU k (-q):=by
 unfold gU at*
 rw [Rat.neg_num,Rat.neg_den,Int.natAbs_neg]
 exact h
theorem Wh (ha:RV h va p) (hk:∀r h',EX h h'->RV h' r (-p)->K r h'):ay prog 67 [va] h K:=by
 obtain ⟨u,w,rfl,hu,hw⟩:=ha
 have pA:decide ((p.den:Int)<0)=false:=bX (by omega)
 rw [Int.natAbs_natCast] at hw
 rw [pA]
 refine f67 ?_
 have e1:∀(g:ae) (s t:Bool) (v w:Value),cR 92 g (.agg #[B s,v,B t,w])=some (pt g.length 0,g++[.arr 92 [B s,v,B t,w]]):=λ_ _ _ _ _=>rfl
 have e3:∀(g:ae),cF 92 [(.bool false),(.slice none 0 0),(.bool false),(.slice none 0 0)] g=some (pt g.length 0,g++[.arr 92 z4]):=λ_=>rfl
 simp only [M8,e1,e3,aL]
 have q0:EX h (h++[.arr 92 [B (decide (p.num<0)),u,B false,w]]):=EX.append _ _
 have p0:(h++[az.arr 92 [B (decide (p.num<0)),u,B false,w]])[h.length]?=some (.arr 92 [B (decide (p.num<0)),u,B false,w]):=bK
 generalize h++[az.arr 92 [B (decide (p.num<0)),u,B false,w]]=ga at q0 p0⊢
 have q2:EX ga (ga++[.arr 92 z4]):=EX.append _ _
 have p2:(ga++[az.arr 92 z4])[ga.length]?=some (.arr 92 z4):=bK
 generalize ga++[az.arr 92 z4]=gc at q2 p2⊢
 have k0:=q2.get p0
 have x0:=q0.trans q2
 simp only [cj,zero_add,ah,mV k0,true_and]
 refine Wm (a:=p.num) ⟨u,rfl,hu.mono x0⟩ ?_
 intro r1 g6 x6 i1
 simp only [nZ (x6.get k0),nZ k0,ah,true_and]
 have iw:fh g6 (.agg #[B false,w]) (p.den:Int):=fh.nat ((hw.mono x0).mono x6)
 refine HE i1 iw (x0.trans x6) (by have:=q0.1;omega) (x6.get p2) ?_
 intro r h' x hr
 refine hk r h' x ?_
 unfold RV
 rw [Rat.neg_num,Rat.neg_den]
 exact hr
theorem Kv (ha:RV h va p) (hb:RV h vb q) (sp:gU i p) (sq:gU j q) (gC:i+j<=800) (hk:∀r h',EX h h'->RV h' r (p-q)->K r h'):ay prog 39 [va,vb] h K:=by
 have ov:=ha
 have qf:=hb
 obtain ⟨u,w,rfl,hu,hw⟩:=ha
 obtain ⟨u2,w2,rfl,lV,qo⟩:=hb
 refine f39 ?_
 have e1:∀(g:ae) (s t:Bool) (v w:Value),cR 92 g (.agg #[B s,v,B t,w])=some (pt g.length 0,g++[.arr 92 [B s,v,B t,w]]):=λ_ _ _ _ _=>rfl
 have e3:∀(g:ae),cF 92 [(.bool false),(.slice none 0 0),(.bool false),(.slice none 0 0)] g=some (pt g.length 0,g++[.arr 92 z4]):=λ_=>rfl
 simp only [MF,e1,e3,aL]
 generalize decide ((p.den:Int)<0)=t1 at*
 generalize decide ((q.den:Int)<0)=t2 at*
 have q0:EX h (h++[.arr 92 [B (decide (p.num<0)),u,B t1,w]]):=EX.append _ _
 have p0:(h++[az.arr 92 [B (decide (p.num<0)),u,B t1,w]])[h.length]?=some (.arr 92 [B (decide (p.num<0)),u,B t1,w]):=bK
 generalize h++[az.arr 92 [B (decide (p.num<0)),u,B t1,w]]=ga at q0 p0⊢
 have q1:EX ga (ga++[.arr 92 [B (decide (q.num<0)),u2,B t2,w2]]):=EX.append _ _
 have p1:(ga++[az.arr 92 [B (decide (q.num<0)),u2,B t2,w2]])[ga.length]?=some (.arr 92 [B (decide (q.num<0)),u2,B t2,w2]):=bK
 generalize ga++[az.arr 92 [B (decide (q.num<0)),u2,B t2,w2]]=gb at q1 p1⊢
 have q2:EX gb (gb++[.arr 92 z4]):=EX.append _ _
 have p2:(gb++[az.arr 92 z4])[gb.length]?=some (.arr 92 z4):=bK
 generalize gb++[az.arr 92 z4]=gc at q2 p2⊢
 have k0:=(q1.trans q2).get p0
 have k1:=q2.get p1
 have x0:=q0.trans (q1.trans q2)
 have nB:h.length<=gb.length:=(q0.trans q1).1
 simp only [ko k0,ko k1,ah,true_and]
 refine Wh (qf.mono x0) ?_
 intro r1 g6 x6 i1
 simp only [ko (x6.get k0),true_and]
 refine EA ((ov.mono x0).mono x6) i1 sp sq.neg gC ?_
 intro r g7 x7 ir
 rw [<-Rat.sub_eq_add_neg] at ir
 have gw:=x6.trans x7
 have g2:=gw.get p2
 obtain ⟨y,z,rfl,hy,hz⟩:=ir
 exact tp g2 (hk _ _ ((x0.trans gw).set nB _) ⟨y,z,rfl,hy.dK g2 _,hz.dK g2 _⟩)
theorem Ky (ha:RV h va p) (hk:∀h',EX h h'->K (I (zf p.num)) h'):ay prog 84 [va] h K:=by
 obtain ⟨u,w,rfl,hu,hw⟩:=ha
 refine f84 ?_
 have e1:∀(g:ae) (s t:Bool) (v w:Value),cR 92 g (.agg #[B s,v,B t,w])=some (pt g.length 0,g++[.arr 92 [B s,v,B t,w]]):=λ_ _ _ _ _=>rfl
 simp only [Nn,e1,aL]
 generalize decide ((p.den:Int)<0)=t1 at*
 have q0:EX h (h++[.arr 92 [B (decide (p.num<0)),u,B t1,w]]):=EX.append _ _
 have p0:(h++[az.arr 92 [B (decide (p.num<0)),u,B t1,w]])[h.length]?=some (.arr 92 [B (decide (p.num<0)),u,B t1,w]):=bK
 generalize h++[az.arr 92 [B (decide (p.num<0)),u,B t1,w]]=ga at q0 p0⊢
 simp only [cj,zero_add,ah,mV p0]
 refine Wo (a:=p.num) ⟨u,rfl,hu.mono q0⟩ ?_
 intro h' x'
 exact hk h' (q0.trans x')
end
end
section
open Go.Sim Go.Sort
variable {h : ae} {K : Value -> ae -> Prop} {n : Nat}
theorem RV.dK {h:ae} {v:Value} {q:Rat} {j:Nat} {e:TypeId} {s:Bool} {r:List Value} (p:RV h v q) (hj:h[j]?=some (.arr e (.bool s::r))) (o:az):RV (h.set j o) v q:=np.dK p hj o
structure FR (S:Nat->Prop) (g g':ae):Prop where
 len:g.length<=g'.length
 iu:∀d<g.length,¬S d->g'[d]?=g[d]?
 rv:∀v q,RV g v q->RV g' v q
namespace FR
variable {S S' : Nat -> Prop} {g g' g2 : ae}
theorem refl (S:Nat->Prop) (g:ae):FR S g g:=⟨le_refl _,λ_ _ _=>rfl,λ_ _ h=>h⟩
theorem trans (a:FR S g g') (b:FR S g' g2):FR S g g2:=⟨le_trans a.len b.len,λd h1 h2=>(b.iu d (lt_of_lt_of_le h1 a.len) h2).trans (a.iu d h1 h2),λv q h=>b.rv v q (a.rv v q h)⟩
theorem ex (x:EX g g'):FR S g g':=⟨x.1,λd h1 _=>x.2 d h1,λ_ _ h=>h.mono x⟩
theorem Vd (a:FR S g g') (h:∀d,S d->S' d):FR S' g g':=⟨a.len,λd h1 h2=>a.iu d h1 λh3=>h2 (h d h3),a.rv⟩
theorem iz {h0:ae} (x:EX h0 g) (a:FR S g g') (hs:∀d,S d->h0.length<=d):EX h0 g':=
 ⟨le_trans x.1 a.len,λd hd=>by rw [a.iu d (lt_of_lt_of_le hd x.1) λh=>by have:=hs d h;omega];exact x.2 d hd⟩
theorem get (a:FR S g g') {d:Nat} {o:az} (hd:¬S d) (hg:g[d]?=some o):g'[d]?=some o:=by
 rw [a.iu d (cm hg).1 hd];exact hg
theorem set {j:Nat} {e:TypeId} {s:Bool} {r:List Value} (hj:g[j]?=some (.arr e (.bool s::r))) (o:az):FR (λd=>d=j) g (g.set j o):=
 ⟨by simp,λd _ h2=>by rw [List.getElem?_set_ne (Ne.symm h2)],λv q p=>p.dK hj o⟩
end FR
abbrev Cl:=Bool×Value×Bool×Value
def cG (c:Cl):List Value:=[B c.1,c.2.1,B c.2.2.1,c.2.2.2]
def lS (n:Nat) (cs:Nat->Cl):List Value:=((List.range n).map λj=>cG (cs j)).flatten
theorem RV.cl {h:ae} {v:Value} {q:Rat} (p:RV h v q):∃c:Cl,v=.agg (cG c).toArray:=by
 obtain ⟨u,w,rfl,_,_⟩:=p
 exact ⟨(_,u,_,w),rfl⟩
structure QL (g:ae) (id n:Nat) (q:Nat->Option Rat):Prop where
 ob:∃cs:Nat->Cl,g[id]?=some (.arr 92 (lS n cs))/\∀j<n,∀r,q j=some r->RV g (.agg (cG (cs j)).toArray) r
theorem ac1 (n:Nat) (cs:Nat->Cl):∀r∈(List.range n).map λj=>cG (cs j),r.length=4:=λr hr=>by
 obtain ⟨j,_,rfl⟩:=mem_map.1 hr
 rfl
theorem xX (n:Nat) (cs:Nat->Cl):(lS n cs).length=n*4:=by
 have:=Ct (ac1 n cs)
 rw [length_map,List.length_range] at this
 exact this
theorem xY (n:Nat) (cs:Nat->Cl):lS (n+1) cs=lS n cs++cG (cs n):=by
 simp [lS,range_succ]
theorem Hg {n:Nat} {cs ds:Nat->Cl} (h:∀j<n,cs j=ds j):lS n cs=lS n ds:=by
 unfold lS
 congr 1
 exact List.map_congr_left λj hj=>by rw [h j (mem_range.1 hj)]
theorem Hi {n:Nat} (hn:0<n) (cs:Nat->Cl):∃s r,lS n cs=.bool s::r:=by
 obtain ⟨m,rfl⟩:∃m,n=m+1:=⟨n-1,by omega⟩
 unfold lS
 rw [List.range_succ_eq_map]
 exact ⟨(cs 0).1,_,rfl⟩
theorem ayZ {n:Nat} (cs:Nat->Cl) {j:Nat} (hj:j<n) (c:Cl):setAt (lS n cs) (j*4) (cG c)=lS n (dU cs j c):=by
 induction n with
 | zero=>omega
 | succ n ih=>
  have l4:(cG c).length=4:=rfl
  have ln:=xX n cs
  by_cases e:j=n
  ·subst e
   rw [xY,xY,fL,Hg (ds:=cs) λk hk=>ez _ _ (by omega)]
   unfold setAt
   rw [List.take_left' ln,List.drop_of_length_le (by rw [List.length_append,ln,l4];show j*4+4<=_;omega),List.append_nil]
  ·have Qf:j<n:=by omega
   rw [xY,xY,ez _ _ (Ne.symm e),<-ih Qf]
   unfold setAt
   rw [List.take_append_of_le_length (by omega),List.drop_append_of_le_length (by rw [l4];omega),List.append_assoc,List.append_assoc,List.append_assoc]
namespace QL
variable {g g' : ae} {id : Nat} {q : Nat -> Option Rat}
theorem fr {S:Nat->Prop} (p:QL g id n q) (f:FR S g g') (hs:¬S id):QL g' id n q:=
 let ⟨cs,h1,h2⟩:=p.ob
 ⟨cs,f.get hs h1,λj hj r hr=>f.rv _ _ (h2 j hj r hr)⟩
theorem up (p:QL g id n q) (x:EX g g'):QL g' id n q:=p.fr (S:=λ_=>False) (FR.ex x) (λh=>h)
theorem congr {q':Nat->Option Rat} (p:QL g id n q) (h:∀j<n,q' j=q j):QL g id n q':=
 let ⟨cs,h1,h2⟩:=p.ob
 ⟨cs,h1,λj hj r hr=>h2 j hj r (by rw [<-h j hj];exact hr)⟩
theorem lt (p:QL g id n q):id<g.length:=let ⟨_,h1,_⟩:=p.ob;(cm h1).1
theorem eK {j:Nat} (hj:j<n):aD 4 (sl 92 id 0 n) (I j)=some (pt id (j*4)):=by simp [aD,sl,hj]
theorem get (p:QL g id n q) {j:Nat} (hj:j<n) {r:Rat} (hr:q j=some r):∃v,af true 4 g (pt id (j*4))=some v/\RV g v r:=by
 obtain ⟨cs,h1,h2⟩:=p.ob
 have hc:bw g id=some (lS n cs):=by simp [bw,h1]
 have ha:=Cs (ac1 n cs) j (by simpa using hj)
 simp only [getElem_map,List.getElem_range] at ha
 exact ⟨_,UK hc (by rw [xX];omega) ha,h2 j hj r hr⟩
theorem set (p:QL g id n q) {j:Nat} (hj:j<n) {v:Value} {r:Rat} (hv:RV g v r):∃g',aU 4 g (pt id (j*4)) v=some (undef,g')/\FR (λd=>d=id) g g'/\QL g' id n (dU q j (some r)):=by
 obtain ⟨cs,h1,h2⟩:=p.ob
 obtain ⟨c,rfl⟩:=hv.cl
 obtain ⟨s,rr,hh⟩:=Hi (by omega:0<n) cs
 have st:aU 4 g (pt id (j*4)) (.agg (cG c).toArray)=some (undef,g.set id (.arr 92 (lS n (dU cs j c)))):=by
  have hl:=xX n cs
  have l4:(cG c).length=4:=rfl
  rw [<-ayZ cs hj c]
  simp only [aU,sw,h1,fV,dL,Value.cells]
  simp [l4,hl]
  omega
 have f:=FR.set (by rw [h1,hh]) (.arr 92 (lS n (dU cs j c)))
 refine ⟨_,st,f,dU cs j c,by rw [getElem?_set_self (cm h1).1],λk hk r' sj=>?_⟩
 by_cases e:k=j
 ·subst e
  rw [fL] at sj⊢
  cases sj
  exact f.rv _ _ hv
 ·rw [ez _ _ e] at sj⊢
  exact f.rv _ _ (h2 k hk r' sj)
end QL
end
end Go.Proofs.YtncaiogfjjepcaaGreat
namespace Go.Sim
section
open Rat
theorem Cm (n:Int):((n:Int):Rat)=n /. 1:=by
 rw [Rat.divInt_eq_div]
 have:((1:Int):Rat)=1:=rfl
 rw [this,Rat.div_def]
 have:(1:Rat)⁻¹=1:=by
  have h:=Rat.mul_inv_cancel (1:Rat) (by decide)
  rw [Rat.one_mul] at h
  exact h
 rw [this,Rat.mul_one]
theorem azp {a b d:Int} (hd:d≠0):(a /. d) / (b /. d)=a /. b:=by
 rw [Rat.div_def,Rat.inv_divInt,Rat.divInt_mul_divInt,mul_comm d b,Rat.divInt_mul_right hd]
theorem ads {a b d:Int} (hd:d≠0):(a /. d)-(b /. d)=(a-b) /. d:=by
 rw [Rat.divInt_sub_divInt _ _ hd hd,<-Int.sub_mul,Rat.divInt_mul_right hd]
theorem adq {a b d:Int} (hd:d≠0):(a /. d)+(b /. d)=(a+b) /. d:=by
 rw [Rat.divInt_add_divInt _ _ hd hd,<-Int.add_mul,Rat.divInt_mul_right hd]
theorem azq {x y b m:Int} (hm:m≠0) (hb:b≠0):(x /. m)-(y /. (b*m))=(x*b-y) /. (b*m):=by
 rw [<-Rat.divInt_mul_left (n:=x) (d:=m) hb,ads (Int.mul_ne_zero hb hm),mul_comm b x]
theorem Pb {a b:Int} (hb:b≠0):(a*b) /. b=(a:Rat):=by
 have:=Rat.divInt_mul_right (n:=a) (d:=1) hb
 rw [one_mul] at this
 rw [this,<-Cm]
theorem azs (d:Int):(0:Int) /. d=0:=by simp
theorem azn {n d:Int} (hd:0<d):(n /. d).num.natAbs<=n.natAbs/\(n /. d).den<=d.natAbs:=by
 rw [Rat.num_divInt,Rat.den_divInt,if_neg (by omega)]
 have e:d.sign=1:=Int.sign_eq_one_of_pos hd
 rw [e,one_mul]
 constructor
 ·rw [Int.natAbs_ediv_of_dvd (Int.gcd_dvd_right ..)]
  exact Nat.div_le_self _ _
 ·exact Nat.div_le_self _ _
theorem Ht {n d:Int} (hd:0<d) (hn:0<n):0<(n /. d).num:=by
 rw [Rat.num_divInt,Int.sign_eq_one_of_pos hd,one_mul]
 have h1:((gcd d n:Nat):Int) ∣ n:=Int.gcd_dvd_right ..
 have h2:0<((gcd d n:Nat):Int):=by
  have:=Int.gcd_pos_of_ne_zero_right d (show n≠0 by omega)
  omega
 obtain ⟨q,hq⟩:=h1
 rw [hq] at hn
 have:0<q:=by
  rcases Int.lt_trichotomy 0 q with h | h | h
  ·exact h
  ·rw [<-h] at hn;simp at hn
  ·have:=Int.mul_neg_of_pos_of_neg h2 h;omega
 have e:n / ((gcd d n:Nat):Int)=q:=by
  have:n=((gcd d n:Nat):Int)*q:=hq
  exact Int.ediv_eq_of_eq_mul_right (by omega) this
 rw [e];exact this
theorem azo {n d:Int} (hd:0<d):(n /. d).num=0↔n=0:=by
 constructor
 ·intro h
  rcases Int.lt_trichotomy n 0 with c | c | c
  ·have:=Ht hd (show 0< -n by omega)
   rw [<-Rat.neg_divInt,Rat.neg_num] at this
   omega
  ·exact c
  ·have:=Ht hd c;omega
 ·rintro rfl;simp
end
end Go.Sim
namespace Go.Proofs.YtncaiogfjjepcaaGreat
section
open Go.Sim Go.Sort
variable {h : ae} {K : Value -> ae -> Prop} {n : Nat}
theorem mY {k:Nat} {z:Int} (hz:z.natAbs<10^k) (hk:1<=k):gU k (z:Rat):=by
 refine ⟨by rw [Rat.num_intCast];exact hz,?_⟩
 rw [Rat.den_intCast]
 exact Nat.one_lt_pow (by omega) (by decide)
theorem Bz {k:Nat} {a d:Int} (hd:0<d) (ha:a.natAbs<10^k) (hb:d.natAbs<10^k):gU k (divInt a d):=by
 obtain ⟨h1,h2⟩:=azn (n:=a) hd
 exact ⟨Nat.lt_of_le_of_lt h1 ha,Nat.lt_of_le_of_lt h2 hb⟩
theorem mW {z:Int} (h1: -100000<z) (h2:z<100000):z.natAbs<10^5:=by
 show z.natAbs<100000;omega
structure ki (g:ae) (ik n:Nat) (D:Nat->Nat->Int):Prop where
 k:∃cv dv tv,g[ik]?=some (.arr 95 [I n,cv,dv,tv])/\NS g cv .i64 (replicate n 0)/\MI g dv (fQ n D)/\NS g tv .i64 (fz (fQ n D))
 n8:n<=8
 dZ:∀i<n,∀j<n,0<=D i j/\D i j<=1000
namespace ki
variable {g g' : ae} {ik : Nat} {D : Nat -> Nat -> Int}
theorem up (m:ki g ik n D) (x:EX g g'):ki g' ik n D:=
 let ⟨cv,dv,tv,a,b,c,d⟩:=m.k
 ⟨⟨cv,dv,tv,x.get a,b.mono x,c.mono x,d.mono x⟩,m.n8,m.dZ⟩
theorem lJ (m:ki g ik n D):af false 1 g (pt ik 0)=some (I n):=by
 obtain ⟨cv,dv,tv,a,_⟩:=m.k
 simp [af,bw,a,dS]
theorem OW (m:ki g ik n D) {i:Nat} (hi:i<n):∃v b o,af false 1 g (pt ik 1)=some v/\aD 1 v (I i)=some (pt b o)/\af false 1 g (pt b o)=some (I 0):=by
 obtain ⟨cv,dv,tv,a,c,_⟩:=m.k
 obtain ⟨b,o,e1,e2⟩:=c.get i (by simpa using hi)
 rw [List.getElem_replicate] at e2
 exact ⟨cv,b,o,by simp [af,bw,a,dS],e1,e2⟩
theorem zL (m:ki g ik n D) {i:Nat} (hi:i<n):∃v b o,af false 1 g (pt ik 3)=some v/\aD 1 v (I i)=some (pt b o)/\af false 1 g (pt b o)=some (I (di n D i)):=by
 obtain ⟨cv,dv,tv,a,_,_,c⟩:=m.k
 obtain ⟨b,o,e1,e2⟩:=c.get i (by simpa [fz,fQ] using hi)
 refine ⟨tv,b,o,by simp [af,bw,a,dS],e1,?_⟩
 rw [e2]
 simp [fz,fQ,di,sg]
theorem Pc (m:ki g ik n D) {i j:Nat} (hi:i<n) (hj:j<n):∃v b o w b' o',af false 1 g (pt ik 2)=some v/\aD 1 v (I i)=some (pt b o)/\af false 1 g (pt b o)=some w/\aD 1 w (I j)=some (pt b' o')/\af false 1 g (pt b' o')=some (I (D i j)):=by
 obtain ⟨cv,dv,tv,a,_,c,_⟩:=m.k
 obtain ⟨b,o,rv,e1,e2,e3⟩:=c.get i (by simpa [fQ] using hi)
 obtain ⟨b',o',f1,f2⟩:=e3.get j (by simpa [fQ] using hj)
 refine ⟨dv,b,o,rv,b',o',by simp [af,bw,a,dS],e1,e2,f1,?_⟩
 rw [f2]
 simp [fQ]
theorem pX (m:ki g ik n D) {i:Nat} (hi:i<n):0<=di n D i/\di n D i<=8000:=by
 have h1:=vM λj hj=>(m.dZ i hi j hj).1
 have h2:di n D i<=sg n λ_=>1000:=sK λj hj=>(m.dZ i hi j hj).2
 have h3:∀n:Nat,sg n (λ_=>1000)=1000*n:=λn=>by
  induction n with
  | zero=>rfl
  | succ n ih=>rw [kG,ih];omega
 rw [h3] at h2
 have:=m.n8
 exact ⟨h1,by omega⟩
end ki
theorem rQ (g:ae):cF 92 [(.bool false),(.slice none 0 0),(.bool false),(.slice none 0 0)] g=some (pt g.length 0,g++[.arr 92 z4]):=rfl
theorem RV.put {h0 g:ae} {j:Nat} {s:Bool} {x y z:Value} {v:Value} {q:Rat} (p:RV g v q) (x0:EX h0 g) (hj:h0.length<=j) (hg:g[j]?=some (.arr 92 [.bool s,x,y,z])):
  ∃g',aU 4 g (pt j 0) v=some (undef,g')/\EX h0 g'/\af true 4 g' (pt j 0)=some v/\RV g' v q/\FR (λd=>d=j) g g'/\∃c:Cl,g'[j]?=some (.arr 92 (cG c))/\v=.agg (cG c).toArray:=by
 obtain ⟨c,rfl⟩:=p.cl
 have st:=J8 (x:=B c.1) (y:=c.2.1) (z:=B c.2.2.1) (w:=c.2.2.2) hg
 have f:=FR.set (g:=g) (j:=j) hg (.arr 92 (cG c))
 have hl:=(cm hg).1
 have g2:(g.set j (.arr 92 (cG c)))[j]?=some (.arr 92 (cG c)):=by rw [getElem?_set_self hl]
 exact ⟨_,st,x0.set hj _,ko g2,f.rv _ _ p,f,c,g2,rfl⟩
def qE (n:Nat) (D:Nat->Nat->Int) (j i:Nat):Rat:=divInt (D j i) (di n D j)
theorem ki.HF {g:ae} {ik:Nat} {D:Nat->Nat->Int} (m:ki g ik n D) {i j:Nat} (hi:i<n) (hj:j<n):D i j<=di n D i:=by
 have h1:(sg n λq=>if q=j then D i j else 0)<=di n D i:=sK λq hq=>by
  have:=(m.dZ i hi q hq).1
  by_cases e:q=j
  ·subst e;rw [if_pos rfl];exact Int.le_refl _
  ·rw [if_neg e];exact this
 rwa [sL hj] at h1
theorem Wg {ik j i:Nat} {D:Nat->Nat->Int} (m:ki h ik n D) (hj:j<n) (hi:i<n) (hk:∀r g,EX h g->RV g r (qE n D j i)->K r g):ay prog 66 [pt ik 0,I j,I i] h K:=by
 refine f66 ?_
 unfold M7
 have x1:EX h (h++[.arr 92 z4]):=EX.append _ _
 have c1:(h++[az.arr 92 z4])[h.length]?=some (.arr 92 z4):=bK
 simp only [rQ,aL]
 have m1:=m.up x1
 have hl:h.length<=h.length:=le_refl _
 generalize h++[az.arr 92 z4]=g1 at x1 c1 m1⊢
 obtain ⟨tv,tb,to,l1,l2,l3⟩:=m1.zL hj
 have rb:=m.pX hj
 have de:=m.dZ j hj i hi
 have dl:=m.HF hj hi
 simp only [iS,cj,zero_add,ah,l1,l2,l3,jB]
 by_cases h0:di n D j=0
 ·rw [dh h0]
  simp only [gf]
  refine pL (by omega) (by omega) λr g2 x2 hr=>?_
  obtain ⟨g3,s1,x3,ld,r3,_⟩:=hr.put (x1.trans x2) hl (x2.get c1)
  simp only [s1,aL,ld,ah]
  refine hk r g3 x3 ?_
  have:qE n D j i=((0:Int):Rat):=by unfold qE;rw [h0];simp
  rw [this];exact r3
 ·rw [bX h0]
  obtain ⟨dv,b,o,w,b',o',e1,e2,e3,e4,e5⟩:=m1.Pc hj hi
  simp only [dm,ah,e1,e2,e3,e4,e5,true_and]
  refine pL (by omega) (by omega) λr g2 x2 hr=>?_
  have k1:=EX.load x2 l1
  have k3:=EX.load x2 l3
  simp only [ah,k1,l2,k3,l3,true_and,and_true]
  refine pL (by omega) (by omega) λr2 g3 x3 CX=>?_
  refine KA (i:=5) (j:=5) (hr.mono x3) CX (by rw [Rat.num_intCast];omega) (mY (mW (by omega) (by omega)) (by omega)) (mY (mW (by omega) (by omega)) (by omega)) (by omega) λr4 g4 x4 yM=>?_
  obtain ⟨g5,s1,x5,ld,r5,_⟩:=yM.put (((x1.trans x2).trans x3).trans x4) hl (((x2.trans x3).trans x4).get c1)
  simp only [s1,aL,ld,ah]
  refine hk r4 g5 x5 ?_
  have:qE n D j i=(D j i:Rat) / (di n D j:Rat):=Rat.divInt_eq_div _ _
  rw [this];exact r5
end
section
open Go.Sim Go.Sort
variable {h : ae} {K : Value -> ae -> Prop} {n : Nat}
def mw (n:Nat) (D:Nat->Nat->Int) (P:Nat->Int) (i:Nat):Int:=sg n λj=>if P j=0 then 0 else D j i
theorem aDy {D:Nat->Nat->Int} {j i:Nat} {P:Int} (hP:P=0∨P=di n D j):(P:Rat)*qE n D j i=((if P=0 then 0 else D j i:Int):Rat):=by
 unfold qE
 rw [Cm P,Rat.divInt_mul_divInt,one_mul]
 by_cases h0:P=0
 ·rw [if_pos h0,h0];simp
 ·rw [if_neg h0,<-hP.resolve_left h0,mul_comm,Pb h0]
theorem PT {ik:Nat} {D:Nat->Nat->Int} (m:ki h ik n D) (P:Nat->Int) {i:Nat} (hi:i<n) {k:Nat} (hk:k<=n):0<=mw k D P i/\mw k D P i<=8000:=by
 have h1:0<=mw k D P i:=vM λj hj=>by
  have:=(m.dZ j (by omega) i hi).1
  split <;> omega
 have h2:mw k D P i<=sg k λ_=>1000:=sK λj hj=>by
  have:=(m.dZ j (by omega) i hi).2
  split <;> omega
 have h3:∀n:Nat,sg n (λ_=>1000)=1000*n:=λn=>by
  induction n with
  | zero=>rfl
  | succ n ih=>rw [kG,ih];omega
 rw [h3] at h2
 have:=m.n8
 exact ⟨h1,by omega⟩
theorem EC {ik ip i:Nat} {D:Nat->Nat->Int} {P:Nat->Int} {q:Nat->Option Rat} (m:ki h ik n D) (hi:i<n) (pq:QL h ip n q) (hq:∀j<n,q j=some (P j:Rat)) (hP:∀j<n,P j=0∨P j=di n D j)
  (hk:∀r g,EX h g->RV g r (mw n D P i:Rat)->K r g):ay prog 38 [pt ik 0,I i,sl 92 ip 0 n] h K:=by
 have n8:=m.n8
 refine f38 ?_
 unfold ME
 have x1:EX h (h++[.arr 92 z4]):=EX.append _ _
 have c1:(h++[az.arr 92 z4])[h.length]?=some (.arr 92 z4):=bK
 simp only [rQ,aL]
 have m1:=m.up x1
 have Rn:h.length<(h++[az.arr 92 z4]).length:=by simp
 generalize hx:h.length=ix at c1 Rn⊢
 have hl:h.length<=ix:=by omega
 generalize h++[az.arr 92 z4]=g1 at x1 c1 m1 Rn⊢
 obtain ⟨cv,cb,co,l1,l2,l3⟩:=m1.OW hi
 simp only [iS,cj,zero_add,ah,l1,l2,l3]
 refine pL (by omega) (by omega) λr g2 x2 hr=>?_
 have x3:EX g2 (g2++[.arr 92 z4]):=EX.append _ _
 have c3:(g2++[az.arr 92 z4])[g2.length]?=some (.arr 92 z4):=bK
 have nix:ix≠g2.length:=by have:=x2.1;omega
 have Rk:h.length<=g2.length:=(x1.trans x2).1
 generalize g2.length=is at c3 nix Rk⊢
 obtain ⟨g4,s1,x4,ld,r4,_,c,hc,rfl⟩:=(hr.mono x3).put ((x1.trans x2).trans x3) Rk c3
 have sW:g4[ix]?=some (.arr 92 z4):=by
  have f:=FR.set (g:=g2++[az.arr 92 z4]) (j:=is) c3 (.arr 92 (cG c))
  have e:g4=(g2++[az.arr 92 z4]).set is (.arr 92 (cG c)):=by
   have:=J8 (x:=B c.1) (y:=c.2.1) (z:=B c.2.2.1) (w:=c.2.2.2) c3
   have e1:aU 4 (g2++[az.arr 92 z4]) (pt is 0) (.agg (cG c).toArray)=some (undef,(g2++[az.arr 92 z4]).set is (.arr 92 (cG c))):=this
   rw [s1] at e1
   cases e1;rfl
  rw [e]
  exact f.get (by omega) ((x2.trans x3).get c1)
 have m4:=m.up x4
 simp only [s1,aL,ah,m4.lJ]
 refine cN (σ:=Nat×Cl×ae) (λq=>[I q.1]) (λq=>q.2.2) (λq=>q.1<=n/\EX h q.2.2/\q.2.2[is]?=some (.arr 92 (cG q.2.1))/\q.2.2[ix]?=some (.arr 92 z4)/\RV q.2.2 (.agg (cG q.2.1).toArray) (mw q.1 D P i:Rat)) (λq=>n-q.1)
  (0,c,g4) rfl rfl ⟨zero_le _,x4,hc,sW,r4⟩ ?_
 rintro ⟨k,c,g⟩ ⟨fC,xg,hc,yT,hr⟩ L hL
 simp only at fC xg hc yT hr hL⊢
 rw [aGm]
 simp only [bW,ah,ca]
 refine ⟨λaw=>?_,λcJ=>?_⟩
 ·have aw:k<n:=by omega
  have lc:af true 4 g (pt is 0)=some (.agg (cG c).toArray):=ko hc
  obtain ⟨vp,lp,rp⟩:=(pq.up xg).get aw (hq k aw)
  simp only [lc,ah,true_and,QL.eK aw,lp]
  refine Wg (m.up xg) aw hi λr5 g5 x5 lH=>?_
  have IJ:=EX.load x5 lc
  have lp5:=EX.load x5 lp
  have b1:=m.dZ k aw i hi
  have b2:=m.pX aw
  have b3:=m.HF aw hi
  have sh:gU 5 (qE n D k i):=by
   by_cases h0:di n D k=0
   ·unfold qE
    rw [h0]
    exact ⟨by simp,by simp⟩
   ·exact Bz (by omega) (mW (by omega) (by omega)) (mW (by omega) (by omega))
  have bp:gU 5 (P k:Rat):=mY (mW (by have:=hP k aw;omega) (by have:=hP k aw;omega)) (by omega)
  simp only [IJ,lp5,true_and,and_true]
  refine EG (rp.mono x5) lH bp sh (by omega) λr6 g6 x6 yN=>?_
  have lc6:=EX.load x6 IJ
  rw [aDy (hP k aw)] at yN
  have hb:=PT m P hi (k:=k) (by omega)
  have AJ:=PT m P hi (k:=k+1) (by omega)
  have hs:mw (k+1) D P i=mw k D P i+(if P k=0 then 0 else D k i):=kG _ _
  simp only [lc6,true_and]
  refine EA (hr.mono (x5.trans x6)) yN (mY (mW (by omega) (by omega)) (by omega)) (mY (mW (by split <;> omega) (by split <;> omega)) (by omega)) (by omega) λr7 g7 x7 Is=>?_
  rw [<-Rat.intCast_add,<-hs] at Is
  have fY:=(x5.trans x6).trans x7
  obtain ⟨g8,s8,x8,ld8,r8,f8,c8,hc8,rfl⟩:=Is.put (xg.trans fY) Rk (fY.get hc)
  simp only [s8,aL,b7,ah]
  rw [dP k (by simp [maxLen];omega)]
  exact hL (k+1,c8,g8) ⟨aw,x8,hc8,f8.get (by omega) (fY.get yT),r8⟩ (by show n-(k+1)<n-k;omega)
 ·have eW:k=n:=by omega
  subst eW
  rw [aGl]
  have lc:af true 4 g (pt is 0)=some (.agg (cG c).toArray):=ko hc
  obtain ⟨g9,s9,x9,ld9,r9,_⟩:=hr.put xg hl yT
  simp only [lc,ah,s9,aL,ld9]
  exact hk _ g9 x9 r9
end
section
open Go.Sim Go.Sort
variable {h : ae} {K : Value -> ae -> Prop} {n : Nat}
theorem Ez {eX:Nat} {iP:Nat->Nat} {D:Nat->Nat->Int} {cv:Value} (n1:1<=n) (dZ:∀i<n,∀j<n,0<=D i j/\D i j<=1000) (diag:∀i<n,D i i=0) (md:MR h eX iP n D) (nc:NS h cv .i64 (replicate n 0))
  (hk:∀g ik,EX h g->ki g ik n D->K (.tuple #[pt ik 0,B true]) g):ay prog 31 [cv,sl 34 eX 0 n] h K:=by
 have n8:=md.n8
 have mk:=lB.of n1 n8 dZ diag
 refine f31 ?_
 unfold Mx
 refine V4 md.mi mk ?_
 simp only [kW,Bool.not_true,ah]
 rw [aFU]
 have lc:=nc.len
 rw [List.length_replicate] at lc
 have ld:aT (sl 34 eX 0 n)=some (I n):=rfl
 simp only [fc,lc,ld,ah,iC,decide_true,Bool.not_true]
 rw [aFV]
 simp only [dA,ah]
 rw [aFW]
 simp only [fc]
 refine V8 nc (λx hx=>by rw [List.eq_of_mem_replicate hx];omega) ?_
 simp only [kW,Bool.not_true,ah]
 rw [aFO]
 obtain ⟨ct1,ct2⟩:=aKt lc
 have bl:eG [(.int .i64 (0)),(.slice none 0 0),(.slice none 0 0),(.slice none 0 0)] [(0,1,I n),(1,1,cv),(2,1,sl 34 eX 0 n)]=some (.agg #[I n,cv,sl 34 eX 0 n,.slice none 0 0]):=by
  simp [eG,jC,setAt,ct1,ct2]
  simp [fV,dL,Value.cells,sl]
 have bx:cR 95 h (.agg #[I n,cv,sl 34 eX 0 n,.slice none 0 0])=some (pt h.length 0,h++[.arr 95 [I n,cv,sl 34 eX 0 n,.slice none 0 0]]):=rfl
 simp only [dA,ah,dm,lc,bl,bx,aL,ld]
 have x1:EX h (h++[.arr 95 [I n,cv,sl 34 eX 0 n,.slice none 0 0]]):=EX.append _ _
 have c1:(h++[az.arr 95 [I n,cv,sl 34 eX 0 n,.slice none 0 0]])[h.length]?=some (.arr 95 [I n,cv,sl 34 eX 0 n,.slice none 0 0]):=bK
 have rl:(fz (fQ n D)).length=n:=by simp [fz,fQ]
 refine cN (σ:=Nat×Value×ae) (λq=>[I q.1]) (λq=>q.2.2) (λq=>q.1<=n/\EX h q.2.2/\q.2.2[h.length]?=some (.arr 95 [I n,cv,sl 34 eX 0 n,q.2.1])/\gA (h.length+1) q.2.2 3 q.2.1 (((fz (fQ n D)).take q.1).map I)) (λq=>n-q.1)
  (0,.slice none 0 0,_) rfl rfl ⟨zero_le _,x1,c1,.inl ⟨rfl,by simp⟩⟩ ?_
 rintro ⟨k,tv,g⟩ ⟨fC,xg,hg,own⟩ L hL
 simp only at fC xg hg own hL⊢
 rw [aFP]
 simp only [bW,ah,ca]
 refine ⟨λaw=>?_,λcJ=>?_⟩
 ·have aw:k<n:=by omega
  obtain ⟨b,o,rv,r,ad,lr,ns,hr,CZ,rl2⟩:=(md.up xg).mi.row mk aw
  have rb:=mk.pX r hr
  have le:=ns.le
  simp only [ad,lr,ah,ns.len]
  refine cN (σ:=Nat) (λq=>[I (r.take q).sum,I q]) (λq=>g) (λq=>q<=r.length) (λq=>r.length-q) 0 (by simp) rfl (zero_le _) ?_
  intro j hj L2 dO
  rw [aFQ]
  simp only [bW,ah,ca]
  refine ⟨λdR=>?_,λcJ=>?_⟩
  ·have dR:j<r.length:=by omega
   obtain ⟨b3,o3,uB,rD⟩:=ns.get j dR
   have f1:=rb j
   have f2:=rb (j+1)
   have f3:=D3 dR
   simp only [uB,rD,ah,b7,true_and]
   rw [dP j (by omega),wrap64 (by omega) (by omega),<-f3]
   exact dO (j+1) dR (by omega)
  ·have hjr:j=r.length:=by omega
   have ltv:af false 1 g (pt h.length 3)=some tv:=by simp [af,bw,hg,dS]
   rw [aFR,hjr,List.take_length]
   simp only [iS,cj,zero_add,ah,ltv]
   have uY:=(cm hg).1
   have tl:(((fz (fQ n D)).take k).map I).length=k:=by rw [length_map,List.length_take];omega
   refine BV own (by rw [tl];omega) (by rw [tl];simp [maxLen];omega) rfl rfl ?_
   intro h1 g2 _ PK iu kL
   have kp:∀d,d<g.length->d<=h.length->g2[d]?=g[d]?:=λd h1 h2=>iu d h1 λq hv=>by have:=(own.lt hv).1;omega
   have CI:g2[h.length]?=some (.arr 95 [I n,cv,sl 34 eX 0 n,tv]):=by rw [kp _ uY (le_refl _)];exact hg
   have x2:EX h g2:=⟨by have:=xg.1;omega,λd hd=>by rw [kp d (lt_of_lt_of_le hd xg.1) (by omega)];exact xg.2 d hd⟩
   have st:=kz CI (o:=3) (v:=sl 3 (g.length+1) 0 ((((fz (fQ n D)).take k).map I).length+1)) (by simp) rfl rfl
   simp only [aL,st]
   rw [aFS]
   simp only [b7,ah,true_and]
   rw [dP k (by simp [maxLen];omega)]
   refine hL (k+1,sl 3 (g.length+1) 0 ((((fz (fQ n D)).take k).map I).length+1),_) ⟨aw,x2.set (le_refl _) _,?_,.inr ⟨g.length+1,by omega,?_,?_⟩⟩ (by show n-(k+1)<n-k;omega)
   ·exact getElem?_set_self (by omega)
   ·have e:(((fz (fQ n D)).take (k+1)).map I).length=(((fz (fQ n D)).take k).map I).length+1:=by rw [tl,length_map,List.length_take];omega
    show sl 3 _ 0 _=sl 3 _ 0 (((fz (fQ n D)).take (k+1)).map I).length
    rw [e]
   ·have e:((fz (fQ n D)).take (k+1)).map I=((fz (fQ n D)).take k).map I++[I r.sum]:=by
     rw [List.take_succ_eq_append_getElem (by omega),map_append]
     have:(fz (fQ n D))[k]'(by omega)=r.sum:=by
      have h2:=cm CZ
      obtain ⟨h3,h4⟩:=h2
      simp only [fz,getElem_map,h4]
     simp [this]
    show (g2.set h.length _)[g.length+1]?=_
    rw [e,List.getElem?_set_ne (by omega)]
    exact kL
 ·have eW:k=n:=by omega
  subst eW
  have e:((fz (fQ k D)).take k)=fz (fQ k D):=List.take_of_length_le (by omega)
  rw [e] at own
  rw [aFT]
  refine hk g h.length xg ⟨⟨cv,sl 34 eX 0 k,tv,hg,nc.mono xg,(md.up xg).mi,?_⟩,n8,dZ⟩
  rcases own with ⟨_,h2⟩ | ⟨i,_,rfl,h3⟩
  ·have:=congrArg List.length h2
   rw [length_map,rl] at this
   simp at this;omega
  ·rw [length_map]
   exact NS.arr h3 (by rw [rl];simp [maxLen];omega)
theorem Ku {ip:Nat} {q:Nat->Option Rat} {P:Nat->Int} (n8:n<=8) (pq:QL h ip n q) (hq:∀j<n,q j=some (P j:Rat)) (hP:∀j<n,0<=P j/\P j<=8000)
  (hk:∀v g,EX h g->gA h.length g 53 v ((List.range n).map λj=>S (kr (P j)))->K (.tuple #[v,I 0]) g):ay prog 33 [sl 92 ip 0 n] h K:=by
 refine f33 ?_
 unfold Mz
 have ld:aT (sl 92 ip 0 n)=some (I n):=rfl
 simp only [ld,ah]
 refine cN (σ:=Nat×Value×ae) (λq=>[q.2.1,I q.1]) (λq=>q.2.2) (λq=>q.1<=n/\EX h q.2.2/\gA h.length q.2.2 53 q.2.1 ((List.range q.1).map λj=>S (kr (P j)))) (λq=>n-q.1)
  (0,.slice none 0 0,h) rfl rfl ⟨zero_le _,EX.refl _,.inl ⟨rfl,rfl⟩⟩ ?_
 rintro ⟨k,vo,g⟩ ⟨fC,xg,own⟩ L hL
 simp only at fC xg own hL⊢
 rw [aF2]
 simp only [bW,ah,ca]
 refine ⟨λaw=>?_,λcJ=>?_⟩
 ·have aw:k<n:=by omega
  obtain ⟨vp,lp,rp⟩:=(pq.up xg).get aw (hq k aw)
  have x1:EX g (g++[.arr 92 z4]):=EX.append _ _
  have c1:(g++[az.arr 92 z4])[g.length]?=some (.arr 92 z4):=bK
  have b:=hP k aw
  simp only [QL.eK aw,lp,ah,rQ,aL]
  obtain ⟨g2,s2,x2,jI,r2,f2,_⟩:=(rp.mono x1).put (h0:=g) x1 (le_refl _) c1
  simp only [s2,aL,jI,ah]
  have rv:np g2 vp (P k) 1:=by
   have:=r2
   unfold RV at this
   rw [Rat.num_intCast,Rat.den_intCast] at this
   exact this
  refine C55 rv (lt_of_lt_of_le (show (P k).natAbs<10^5 from (show (P k).natAbs<100000 by omega)) (zA (by omega))) λg3 x3=>?_
  simp only [fM,gi,gj,ah,iC,decide_true,Bool.not_true,dm]
  refine Yd (own.iu λd m hv hd=>?_) (xg.trans (x2.trans x3)) (by simp;omega) (by simp [maxLen];omega) rfl rfl λv5 g5 x5 RW=>?_
  ·have:=(own.lt hv).2.1
   exact (x2.trans x3).2 d this
  ·simp only [b7,ah,true_and]
   rw [dP k (by simp [maxLen];omega)]
   refine hL (k+1,v5,g5) ⟨aw,x5,?_⟩ (by show n-(k+1)<n-k;omega)
   show gA h.length g5 53 v5 ((List.range (k+1)).map λj=>S (kr (P j)))
   rw [range_succ,map_append]
   exact RW
 ·have eW:k=n:=by omega
  subst eW
  rw [aF1]
  exact hk vo g xg own
end
end Go.Proofs.YtncaiogfjjepcaaGreat
namespace Go.Sim
section
def fR (k n:Nat) (f:Nat->Int):Int:=sg n λi=>if k<=i then f i else 0
theorem DV {k n:Nat} (hk:k<n) (f:Nat->Int):fR k n f=f k+fR (k+1) n f:=by
 unfold fR
 rw [<-sL hk (f k),<-oR]
 refine gn λi _=>?_
 by_cases e:i=k
 ·subst e;rw [if_pos (le_refl _),if_pos rfl,if_neg (by omega)];omega
 ·rw [if_neg e]
  by_cases h:k<=i
  ·rw [if_pos h,if_pos (by omega)];omega
  ·rw [if_neg h,if_neg (by omega)];omega
theorem anK {k n:Nat} {f g:Nat->Int} (h:∀i,k<=i->i<n->f i=g i):fR k n f=fR k n g:=by
 refine gn λi hi=>?_
 by_cases e:k<=i
 ·rw [if_pos e,if_pos e,h i e hi]
 ·rw [if_neg e,if_neg e]
theorem JY (k n:Nat) (c:Int) (f:Nat->Int):fR k n (λi=>c*f i)=c*fR k n f:=by
 unfold fR
 rw [<-vL]
 refine gn λi _=>?_
 by_cases e:k<=i
 ·rw [if_pos e,if_pos e]
 ·rw [if_neg e,if_neg e];simp
theorem anL (k n:Nat) (f g:Nat->Int):fR k n (λi=>f i-g i)=fR k n f-fR k n g:=by
 unfold fR
 rw [<-xi]
 refine gn λi _=>?_
 by_cases e:k<=i
 ·rw [if_pos e,if_pos e,if_pos e]
 ·rw [if_neg e,if_neg e,if_neg e];simp
theorem aKn {k n:Nat} {f:Nat->Int} (h:∀i,k<=i->i<n->f i<=0):fR k n f<=0:=by
 have:=sK (n:=n) (f:=λi=>if k<=i then f i else 0) (g:=λ_=>0) λi hi=>by
  by_cases e:k<=i
  ·rw [if_pos e];exact h i e hi
  ·rw [if_neg e];exact Int.le_refl _
 rwa [mX] at this
theorem aKm (n:Nat) (f:Nat->Int):fR n n f=0:=by
 unfold fR
 rw [gn (g:=λ_=>0) λi hi=>if_neg (by omega),mX]
def pY:Nat->Nat
 | 0=>4
 | k+1=>2*pY k+1
def uc:Nat->Nat
 | 0=>1
 | k+1=>pY k+uc k
structure lQ (n k:Nat) (t y:Nat->Int) (A:Nat->Nat->Rat) (N:Nat->Nat->Int) (d:Int):Prop where
 d0:0<d
 dl:d.natAbs<10^uc k
 dZ:∀r,k<=r->r<n->∀c,k<=c->c<=n->A r c=divInt (N r c) (d*t c)
 bd:∀r,k<=r->r<n->∀c,k<=c->c<=n->(N r c).natAbs<10^pY k
 off:∀r,k<=r->r<n->∀c,k<=c->c<n->r≠c->N r c<=0
 Cf:∀c,k<=c->c<n->0<fR k n λr=>y r*N r c
 row:∀r,k<=r->r<n->fR k n (λc=>N r c)=N r n
structure Fx (n i:Nat) (t:Nat->Int) (A:Nat->Rat) (N:Nat->Int) (d:Int):Prop where
 d0:0<d
 dl:d.natAbs<10^uc i
 dZ:∀c,i<=c->c<=n->A c=divInt (N c) (d*t c)
 bd:∀c,i<=c->c<=n->(N c).natAbs<10^pY i
 piv:0<N i
 row:fR i n (λc=>N c)=N n
namespace lQ
variable {n k : Nat} {t y : Nat -> Int} {A : Nat -> Nat -> Rat} {N : Nat -> Nat -> Int} {d : Int}
theorem piv (x:lQ n k t y A N d) (hk:k<n) (hy:∀r<n,0<y r):0<N k k:=by
 have h1:=x.Cf k (le_refl _) hk
 rw [DV hk] at h1
 have h2:fR (k+1) n (λr=>y r*N r k)<=0:=aKn λr hr hn=>by
  have:=x.off r (by omega) hn k (le_refl _) hk (by omega)
  exact Int.mul_nonpos_of_nonneg_of_nonpos (by have:=hy r hn;omega) this
 have h3:0<y k*N k k:=by omega
 exact Int.pos_of_mul_pos_right h3 (by have:=hy k hk;omega)
theorem done (x:lQ n k t y A N d) (hk:k<n) (hy:∀r<n,0<y r):Fx n k t (A k) (N k) d:=
 ⟨x.d0,x.dl,λc h1 h2=>x.dZ k (le_refl _) hk c h1 h2,λc h1 h2=>x.bd k (le_refl _) hk c h1 h2,x.piv hk hy,x.row k (le_refl _) hk⟩
theorem elim (x:lQ n k t y A N d) (ht:∀c≤n,0<t c) (hk:k<n) (hy:∀r<n,0<y r) {r c:Nat} (kR:k<=r) (hr:r<n) (oz:k<=c) (hc:c<=n):
  A r k / A k k=divInt (N r k) (N k k)/\divInt (N r k) (N k k)*A k c=divInt (N r k*N k c) (N k k*(d*t c))/\
   A r c-divInt (N r k*N k c) (N k k*(d*t c))=divInt (N r c*N k k-N r k*N k c) (N k k*d*t c):=by
 have hp:=x.piv hk hy
 have hd:=x.d0
 have QJ:=ht k (by omega)
 have htc:=ht c hc
 have n1:d*t k≠0:=by have:=mul_pos hd QJ;omega
 have n2:d*t c≠0:=by have:=mul_pos hd htc;omega
 refine ⟨?_,?_,?_⟩
 ·rw [x.dZ r kR hr k (le_refl _) (by omega),x.dZ k (le_refl _) hk k (le_refl _) (by omega),azp n1]
 ·rw [x.dZ k (le_refl _) hk c oz hc,Rat.divInt_mul_divInt]
 ·rw [x.dZ r kR hr c oz hc,azq n2 (by omega),Int.mul_assoc]
theorem stay (x:lQ n k t y A N d) (hk:k<n) (hy:∀r<n,0<y r) {r c:Nat} (kR:k<=r) (hr:r<n) (oz:k<=c) (hc:c<=n) (h0:N r k=0):
  A r c=divInt (N r c*N k k-N r k*N k c) (N k k*d*t c):=by
 have hp:=x.piv hk hy
 rw [x.dZ r kR hr c oz hc,h0,Int.zero_mul,Int.sub_zero,mul_comm (N r c),Int.mul_assoc,Rat.divInt_mul_left (by omega)]
theorem next (x:lQ n k t y A N d) (hk:k<n) (hy:∀r<n,0<y r) {A':Nat->Nat->Rat}
  (hA:∀r,k<r->r<n->∀c,k<c->c<=n->A' r c=divInt (N r c*N k k-N r k*N k c) (N k k*d*t c)):
  lQ n (k+1) t y A' (λr c=>N r c*N k k-N r k*N k c) (N k k*d):=by
 have hp:=x.piv hk hy
 have hd:=x.d0
 refine ⟨mul_pos hp hd,?_,λr h1 h2 c h3 h4=>hA r h1 h2 c h3 h4,λr h1 h2 c h3 h4=>?_,λr h1 h2 c h3 h4 bY=>?_,λc h1 h2=>?_,λr h1 h2=>?_⟩
 ·rw [natAbs_mul]
  show _<10^(pY k+uc k)
  rw [Nat.pow_add]
  exact Nat.mul_lt_mul'' (x.bd k (le_refl _) hk k (le_refl _) (by omega)) x.dl
 ·have b1:=x.bd r (by omega) h2 c (by omega) h4
  have b2:=x.bd k (le_refl _) hk k (le_refl _) (by omega)
  have b3:=x.bd r (by omega) h2 k (le_refl _) (by omega)
  have b4:=x.bd k (le_refl _) hk c (by omega) h4
  have m1:=Nat.mul_lt_mul'' b1 b2
  have m2:=Nat.mul_lt_mul'' b3 b4
  have e:10^pY (k+1)=10*(10^pY k*10^pY k):=by
   show 10^(2*pY k+1)=_
   rw [Nat.pow_succ,Nat.two_mul,Nat.pow_add,Nat.mul_comm]
  have U5:(N r c*N k k-N r k*N k c).natAbs<=(N r c*N k k).natAbs+(N r k*N k c).natAbs:=by omega
  rw [natAbs_mul,natAbs_mul] at U5
  rw [e]
  omega
 ·have o1:=x.off r (by omega) h2 c (by omega) h4 bY
  have o2:=x.off r (by omega) h2 k (le_refl _) hk (by omega)
  have o3:=x.off k (le_refl _) hk c (by omega) h4 (by omega)
  have m1:=Int.mul_nonpos_of_nonpos_of_nonneg o1 (show 0<=N k k by omega)
  have m2:=Int.mul_nonneg_of_nonpos_of_nonpos o2 o3
  show N r c*N k k-N r k*N k c<=0
  omega
 ·have s1:=x.Cf c (by omega) h2
  have s2:=x.Cf k (le_refl _) hk
  have o3:=x.off k (le_refl _) hk c (by omega) h2 (by omega)
  have e:fR (k+1) n (λr=>y r*(N r c*N k k-N r k*N k c))=N k k*(fR k n λr=>y r*N r c)-N k c*fR k n λr=>y r*N r k:=by
   rw [DV hk (λr=>y r*N r c),DV hk (λr=>y r*N r k),Int.mul_add,Int.mul_add,<-JY,<-JY]
   have:fR (k+1) n (λr=>y r*(N r c*N k k-N r k*N k c))=fR (k+1) n (λr=>N k k*(y r*N r c))-fR (k+1) n λr=>N k c*(y r*N r k):=by
    rw [<-anL]
    refine anK λr _ _=>?_
    rw [Int.mul_sub]
    congr 1
    ·rw [mul_comm (N k k),Int.mul_assoc]
    ·rw [mul_comm (N k c),Int.mul_assoc]
   rw [this]
   have e1:N k k*(y k*N k c)=N k c*(y k*N k k):=by
    rw [Int.mul_left_comm,Int.mul_left_comm (N k c),mul_comm (N k k)]
   omega
  rw [e]
  have m1:=mul_pos hp s1
  have m2:=Int.mul_nonpos_of_nonpos_of_nonneg o3 (show 0<=fR k n λr=>y r*N r k by omega)
  omega
 ·have r1:=x.row r (by omega) h2
  have r2:=x.row k (le_refl _) hk
  rw [DV hk] at r1 r2
  show fR (k+1) n (λc=>N r c*N k k-N r k*N k c)=N r n*N k k-N r k*N k n
  have e3:fR (k+1) n (λc=>N r k*N k c)=N r k*fR (k+1) n λc=>N k c:=JY _ _ _ _
  rw [anL,e3]
  have:fR (k+1) n (λc=>N r c*N k k)=N k k*fR (k+1) n λc=>N r c:=by
   rw [<-JY];exact anK λc _ _=>mul_comm _ _
  rw [this,<-r1,<-r2,Int.add_mul,Int.mul_add,mul_comm (N k k)]
  omega
end lQ
end
end Go.Sim
namespace Go.Proofs.YtncaiogfjjepcaaGreat
section
open Go.Sim Go.Sort
variable {h : ae} {K : Value -> ae -> Prop} {n : Nat}
theorem DS.xf {e e':TypeId} {h:ae} {v:Value} {xs:List Nat} {j:Nat} {cs:List Value} (d:DS e .u32 h v xs) (hj:h[j]?=some (.arr e' cs)) (hn:∀z r,cs≠ .int .u32 z::r) (o:az):DS e .u32 (h.set j o) v xs:=by
 rcases d with d | ⟨i,h1,h2⟩
 ·exact .inl d
 ·refine .inr ⟨i,h1,?_⟩
  rcases h2 with h2 | ⟨rest,h2⟩
  ·exact .inl h2
  ·cases xs with
   | nil=>exact .inl rfl
   | cons x xs=>
    right
    refine ⟨rest,?_⟩
    have bY:j≠i:=by
     rintro rfl
     unfold bw at h2
     rw [hj] at h2
     exact hn _ _ (Option.some.inj h2)
    unfold bw at h2⊢
    rw [List.getElem?_set_ne bY]
    exact h2
theorem RV.xf {h:ae} {v:Value} {q:Rat} {j:Nat} {e:TypeId} {cs:List Value} (p:RV h v q) (hj:h[j]?=some (.arr e cs)) (hn:∀z r,cs≠ .int .u32 z::r) (o:az):RV (h.set j o) v q:=
 let ⟨u,w,e1,⟨xs,a1,a2,a3⟩,⟨ys,b1,b2,b3⟩⟩:=p
 ⟨u,w,e1,⟨xs,DS.xf a1 hj hn o,a2,a3⟩,⟨ys,DS.xf b1 hj hn o,b2,b3⟩⟩
theorem FR.xf {g:ae} {j:Nat} {e:TypeId} {cs:List Value} (hj:g[j]?=some (.arr e cs)) (hn:∀z r,cs≠ .int .u32 z::r) (o:az):FR (λd=>d=j) g (g.set j o):=
 ⟨by simp,λd _ h2=>by rw [List.getElem?_set_ne (Ne.symm h2)],λv q p=>RV.xf p hj hn o⟩
theorem VH (c:Cl) (n:Nat):bE (cG c) n=lS n λ_=>c:=by
 unfold bE lS
 congr 1
 rw [map_const'];simp
theorem aoo {j:Nat} {c:Cl} (hn:1<=n) (n8:n<=8) (hj:h[j]?=some (.arr 92 (cG c))) (hk:∀g i,EX h g->h.length<=i->g[i]?=some (.arr 92 (lS n λ_=>c))->K (sl 92 i 0 n) g):ay prog 118 [sl 92 j 0 1,I n] h K:=by
 refine f118 ?_
 unfold LO
 simp only [bW,ah,bX (show ¬(n:Int)<0 by omega),dm]
 rw [aDO]
 have l1:aT (sl 92 j 0 1)=some (I 1):=rfl
 have c1:dI .u64 (I 1)=some (U 1):=rfl
 have c2:dI .u64 (I n)=some (U n):=by
  have:n=1∨n=2∨n=3∨n=4∨n=5∨n=6∨n=7∨n=8:=by omega
  rcases this with rfl | rfl | rfl | rfl | rfl | rfl | rfl | rfl <;> rfl
 have c3:dI .i64 (U n)=some (I n):=by
  have:n=1∨n=2∨n=3∨n=4∨n=5∨n=6∨n=7∨n=8:=by omega
  rcases this with rfl | rfl | rfl | rfl | rfl | rfl | rfl | rfl <;> rfl
 have g1:aj .gtr (U 0) (.int .u64 (0))=some (.bool false):=rfl
 have g2:aj .gtr (U n) (.int .u64 (9223372036854775807))=some (.bool false):=by
  simp [U];omega
 simp only [l1,c1,c2,ah]
 refine VM n8 ?_
 simp only [fM,gi,gj,ah,g1]
 rw [aDP]
 simp only [fc,g2,ah]
 rw [aDK]
 simp only [dA,ah,dm]
 rw [aDL]
 have sF:eM 92 64 [(.bool false),(.slice none 0 0),(.bool false),(.slice none 0 0)] h (I n) (I n)=some (sl 92 h.length 0 n,h++[.arr 92 (bE z4 n)]):=by
  simp only [eM]
  rw [if_pos (by omega)]
  simp [z4]
 simp only [c3,ah,sF,aL]
 have x2:EX h (h++[.arr 92 (bE z4 n)]):=EX.append _ _
 have e2:(h++[az.arr 92 (bE z4 n)])[h.length]?=some (.arr 92 (bE z4 n)):=bK
 have cp:=adu (g:=h++[az.arr 92 (bE z4 n)]) (c:=1) (esz:=4) (r:=cG c) rfl rfl hn e2 (x2.get hj)
 have O7:rA 4 (h++[az.arr 92 (bE z4 n)]) (sl 92 h.length 0 n) (sl 92 j 0 1)=_:=cp
 have CO:(h++[az.arr 92 (bE z4 n)]).length=h.length+1:=by simp
 simp only [O7,aL]
 have x3:EX h ((h++[az.arr 92 (bE z4 n)]).set h.length (.arr 92 (bE (cG c) 1++bE z4 (n-1)))):=x2.set (le_refl _) _
 have e3:((h++[az.arr 92 (bE z4 n)]).set h.length (.arr 92 (bE (cG c) 1++bE z4 (n-1))))[h.length]?=some (.arr 92 (bE (cG c) 1++bE z4 (n-1))):=by
  rw [getElem?_set_self (by omega)]
 refine cN (σ:=Nat×ae) (λq=>[I q.1]) (λq=>q.2) (λq=>0<q.1/\q.1<=n/\EX h q.2/\q.2[h.length]?=some (.arr 92 (bE (cG c) q.1++bE z4 (n-q.1)))) (λq=>n-q.1)
  (1,_) rfl rfl ⟨by omega,hn,x3,e3⟩ ?_
 rintro ⟨k,g⟩ ⟨rZ,eW,xg,hg⟩ L hL
 simp only at rZ eW xg hg hL⊢
 rw [aDM]
 have ln:aT (sl 92 h.length 0 n)=some (I n):=rfl
 simp only [ln,bW,ah,ca]
 refine ⟨λaw=>?_,λcJ=>?_⟩
 ·have aw:k<n:=by omega
  have e1:(0:Int)<=(k:Int):=by omega
  have s1:fP 92 4 (sl 92 h.length 0 n) (some (I k)) none=some (sl 92 h.length (k*4) (n-k)):=by
   simp [fP,sl,mE,od,e1,eW]
  have s2:fP 92 4 (sl 92 h.length 0 n) none (some (I k))=some (.slice (some ⟨h.length,0,some 92⟩) k (pc 4 none k n)):=by
   simp [fP,sl,mE,od,e1,eW]
  have d:=dbl (c:=pc 4 none k n) (esz:=4) (r:=cG c) (z:=z4) rfl rfl rZ aw hg
  have m1:Nat.min k (n-k)<=n-k:=Nat.min_le_right _ _
  have m2:0<Nat.min k (n-k):=Nat.lt_min.2 ⟨rZ,by omega⟩
  simp only [s1,s2,ah,d,aL,b7,true_and]
  generalize Nat.min k (n-k)=q at m1 m2 d
  have w:IntKind.wrap .i64 ((k:Int)+q)=((k+q:Nat):Int):=by rw [wrap64 (by omega) (by omega)];omega
  rw [w]
  refine hL (k+q,_) ⟨by omega,by omega,xg.set (le_refl _) _,?_⟩ (by show n-(k+q)<n-k;omega)
  show (g.set h.length _)[h.length]?=_
  rw [getElem?_set_self (cm hg).1,show n-(k+q)=n-k-q by omega]
 ·have eW:k=n:=by omega
  subst eW
  rw [aDN]
  refine hk g h.length xg (le_refl _) ?_
  rw [hg,Nat.sub_self]
  have:bE z4 0=[]:=rfl
  rw [this,List.append_nil,VH]
structure MQ (g:ae) (im:Nat) (ids:Nat->Nat) (rows nw:Nat) (A:Nat->Nat->Rat):Prop where
 ho:g[im]?=some (.arr 84 ((List.range rows).map λi=>sl 92 (ids i) 0 nw))
 hr:∀i<rows,QL g (ids i) nw λj=>some (A i j)
 inj:∀i<rows,∀j<rows,ids i=ids j->i=j
 nm:∀i<rows,ids i≠im
namespace MQ
variable {g g' : ae} {im rows nw : Nat} {ids : Nat -> Nat} {A : Nat -> Nat -> Rat}
theorem fr {S:Nat->Prop} (m:MQ g im ids rows nw A) (f:FR S g g') (h1:¬S im) (h2:∀i<rows,¬S (ids i)):MQ g' im ids rows nw A:=
 ⟨f.get h1 m.ho,λi hi=>(m.hr i hi).fr f (h2 i hi),m.inj,m.nm⟩
theorem up (m:MQ g im ids rows nw A) (x:EX g g'):MQ g' im ids rows nw A:=m.fr (S:=λ_=>False) (FR.ex x) (λh=>h) λ_ _ h=>h
theorem eK {i:Nat} (hi:i<rows):aD 1 (sl 84 im 0 rows) (I i)=some (pt im i):=jL hi
theorem ld (m:MQ g im ids rows nw A) {i:Nat} (hi:i<rows):af false 1 g (pt im i)=some (sl 92 (ids i) 0 nw):=by
 simp [af,bw,m.ho,dS,hi]
theorem get (m:MQ g im ids rows nw A) {i j:Nat} (hi:i<rows) (hj:j<nw):∃v,af true 4 g (pt (ids i) (j*4))=some v/\RV g v (A i j):=(m.hr i hi).get hj rfl
theorem set (m:MQ g im ids rows nw A) {i j:Nat} (hi:i<rows) (hj:j<nw) {v:Value} {r:Rat} (hv:RV g v r):
  ∃g',aU 4 g (pt (ids i) (j*4)) v=some (undef,g')/\FR (λd=>d=ids i) g g'/\MQ g' im ids rows nw λa b=>if a=i/\b=j then r else A a b:=by
 obtain ⟨g',s,f,q⟩:=(m.hr i hi).set hj hv
 refine ⟨g',s,f,f.get (λe=>m.nm i hi e.symm) m.ho,λa ha=>?_,m.inj,m.nm⟩
 by_cases e:a=i
 ·subst e
  refine q.congr λb hb=>?_
  by_cases e2:b=j
  ·subst e2;rw [fL];simp
  ·rw [ez _ _ e2];simp [e2]
 ·refine ((m.hr a ha).fr f λh=>e (m.inj a ha i hi h)).congr λb hb=>?_
  simp [e]
end MQ
end
section
open Go.Sim Go.Sort
variable {h : ae} {K : Value -> ae -> Prop} {n : Nat}
theorem I0 (g:ae) (c:Cl):cH 92 1 [(.bool false),(.slice none 0 0),(.bool false),(.slice none 0 0)] g [(0,4,.agg (cG c).toArray)]=some (sl 92 g.length 0 1,g++[.arr 92 (cG c)]):=by
 simp [cH,jC,bE,setAt,fV,dL,Value.cells,cG]
theorem bx4 (g:ae) (c:Cl):cR 92 g (.agg (cG c).toArray)=some (pt g.length 0,g++[.arr 92 (cG c)]):=rfl
theorem C78 (n8:n<=8) (hk:∀g im ids,EX h g->h.length<=im->(∀i<n,h.length<=ids i)->MQ g im ids n n (λ_ _=>0)->K (sl 84 im 0 n) g):ay prog 78 [I n,I n] h K:=by
 refine f78 ?_
 unfold Nh
 have mk:eM 84 24 [(.slice none 0 0)] h (I n) (I n)=some (sl 84 h.length 0 n,h++[.arr 84 (bE [.slice none 0 0] n)]):=by
  simp only [eM]
  rw [if_pos (by omega)]
  simp
 have l0:∀i,aT (sl 84 i 0 n)=some (I n):=λ_=>rfl
 simp only [mk,aL,l0,ah]
 have zr:bE [(.slice none 0 0)] n=(List.range n).map λi=>if i<0 then sl 92 0 0 n else (Value.slice none 0 0):=by
  simp [bE]
  rw [map_const'];simp
 have x1:EX h (h++[.arr 84 (bE [.slice none 0 0] n)]):=EX.append _ _
 have c1:(h++[az.arr 84 (bE [.slice none 0 0] n)])[h.length]?=some (.arr 84 (bE [.slice none 0 0] n)):=bK
 generalize h++[az.arr 84 (bE [.slice none 0 0] n)]=g1 at x1 c1⊢
 refine cN (σ:=Nat×(Nat->Nat)×ae) (λq=>[I q.1]) (λq=>q.2.2) (λq=>q.1<=n/\EX h q.2.2/\q.2.2[h.length]?=some (.arr 84 ((List.range n).map λi=>if i<q.1 then sl 92 (q.2.1 i) 0 n else .slice none 0 0))/\
   (∀i<q.1,h.length<q.2.1 i/\QL q.2.2 (q.2.1 i) n λ_=>some 0)/\∀i<q.1,∀j<q.1,q.2.1 i=q.2.1 j->i=j) (λq=>n-q.1)
  (0,λ_=>0,g1) rfl rfl ⟨zero_le _,x1,by rw [c1,zr],λi hi=>absurd hi (not_lt_zero _),λi hi=>absurd hi (not_lt_zero _)⟩ ?_
 rintro ⟨i,ids,g⟩ ⟨hi,xg,hc,mR,inj⟩ L hL
 simp only at hi xg hc mR inj hL⊢
 rw [aIs]
 simp only [bW,ah,ca]
 refine ⟨λaw=>?_,λcJ=>?_⟩
 ·have aw:i<n:=by omega
  refine pL (by omega) (by omega) λr g2 x2 hr=>?_
  obtain ⟨c,rfl⟩:=hr.cl
  simp only [I0,aL]
  have x3:EX g2 (g2++[.arr 92 (cG c)]):=EX.append _ _
  refine aoo (by omega) n8 bK λg4 i4 x4 hi4 hg4=>?_
  have bm:=x2.trans (x3.trans x4)
  have CE:=bm.get hc
  have st:=kz CE (o:=i) (v:=sl 92 i4 0 n) (by simpa using aw) rfl rfl
  have i4g:g.length<i4:=by have:=x2.1;simp at hi4;omega
  have e3:((List.range n).map λk=>if k<i then sl 92 (ids k) 0 n else (Value.slice none 0 0)).set i (sl 92 i4 0 n)=(List.range n).map λk=>if k<i+1 then sl 92 (dU ids i i4 k) 0 n else .slice none 0 0:=by
   refine List.ext_getElem (by simp) λk h1 h2=>?_
   rw [List.getElem_set]
   simp only [getElem_map,List.getElem_range]
   by_cases e:i=k
   ·subst e;rw [if_pos rfl,if_pos (by omega),fL]
   ·rw [if_neg e,ez _ _ (Ne.symm e)]
    by_cases h3:k<i
    ·rw [if_pos h3,if_pos (by omega)]
    ·rw [if_neg h3,if_neg (by omega)]
  rw [e3] at st
  simp only [MQ.eK aw,ah,st,aL,b7,true_and]
  rw [dP i (by simp [maxLen];omega)]
  have hlen:=(cm hc).1
  have CO:∀z r,((List.range n).map λk=>if k<i then sl 92 (ids k) 0 n else (Value.slice none 0 0))≠ .int .u32 z::r:=by
   obtain ⟨m,rfl⟩:∃m,n=m+1:=⟨n-1,by omega⟩
   intro z r e
   rw [List.range_succ_eq_map,map_cons] at e
   have:=(List.cons.inj e).1
   split at this <;> cases this
  have f:=FR.xf CE CO (.arr 84 ((List.range n).map λk=>if k<i+1 then sl 92 (dU ids i i4 k) 0 n else .slice none 0 0))
  have rz:RV g4 (.agg (cG c).toArray) 0:=by
   have:=hr.mono (x3.trans x4)
   exact this
  have ql:QL g4 i4 n λ_=>some 0:=⟨λ_=>c,hg4,λj _ r hr=>by cases hr;exact rz⟩
  have old:∀k<i,ids k<g.length:=λk hk=>(mR k hk).2.lt
  refine hL (i+1,dU ids i i4,_) ⟨aw,(xg.trans bm).set (le_refl _) _,getElem?_set_self (cm CE).1,λk hk=>?_,λk hk j hj e=>?_⟩ (by show n-(i+1)<n-i;omega)
  ·show h.length<dU ids i i4 k/\QL (g4.set h.length _) (dU ids i i4 k) n λ_=>some 0
   by_cases e:k=i
   ·subst e
    rw [fL]
    exact ⟨by omega,ql.fr f (by omega)⟩
   ·have mD:k<i:=by have:k<i+1:=hk;omega
    rw [ez _ _ e]
    have:=mR k mD
    exact ⟨this.1,(this.2.up bm).fr f (by omega)⟩
  ·have hk:k<i+1:=hk
   have hj:j<i+1:=hj
   have e:dU ids i i4 k=dU ids i i4 j:=e
   by_cases e1:k=i <;> by_cases e2:j=i
   ·omega
   ·subst e1
    rw [fL,ez _ _ e2] at e
    have:=old j (by omega);omega
   ·subst e2
    rw [fL,ez _ _ e1] at e
    have:=old k (by omega);omega
   ·rw [ez _ _ e1,ez _ _ e2] at e
    exact inj k (by omega) j (by omega) e
 ·have fG:i=n:=by omega
  subst fG
  rw [aIr]
  refine hk g h.length ids xg (le_refl _) (λk hk=>Nat.le_of_lt (mR k hk).1) ⟨?_,λk hk=>(mR k hk).2,inj,λk hk=>by have:=(mR k hk).1;omega⟩
  rw [hc]
  congr 2
  exact List.map_congr_left λk hk=>if_pos (mem_range.1 hk)
theorem Wj {im rows nw i j a b:Nat} {ids:Nat->Nat} {A:Nat->Nat->Rat} {v:Value} {x:Rat} (m:MQ h im ids rows nw A) (hi:i<rows) (hj:j<nw) (hv:RV h v x) (sa:gU a (A i j)) (sb:gU b x) (gQ:a+b<=800)
  (hk:∀g,FR (λd=>d=ids i) h g->MQ g im ids rows nw (λp q=>if p=i/\q=j then A i j+x else A p q)->K (.tuple #[]) g):ay prog 79 [sl 84 im 0 rows,I i,I j,v] h K:=by
 refine f79 ?_
 unfold Ni
 obtain ⟨c,rfl⟩:=hv.cl
 have x1:EX h (h++[.arr 92 (cG c)]):=EX.append _ _
 have c1:(h++[az.arr 92 (cG c)])[h.length]?=some (.arr 92 (cG c)):=bK
 simp only [bx4,aL]
 generalize hx:h.length=ix at c1⊢
 generalize h++[az.arr 92 (cG c)]=g1 at x1 c1⊢
 have m1:=m.up x1
 obtain ⟨va,la,ra⟩:=m1.get hi hj
 have lx:af true 4 g1 (pt ix 0)=some (.agg (cG c).toArray):=ko c1
 simp only [MQ.eK hi,m1.ld hi,QL.eK hj,la,lx,ah,true_and]
 refine EA ra (hv.mono x1) sa sb gQ λr g2 x2 hr=>?_
 have m2:=m1.up x2
 obtain ⟨g3,s3,f3,m3⟩:=m2.set hi hj hr
 simp only [m2.ld hi,true_and,and_true,s3,aL]
 exact hk g3 ((FR.ex (x1.trans x2)).trans f3) m3
end
section
open Go.Sim Go.Sort
variable {h : ae} {K : Value -> ae -> Prop} {n : Nat}
theorem FR.tail {S T:Nat->Prop} {h g g':ae} (a:FR S h g) (b:FR T g g') (hs:∀d,T d->S d∨h.length<=d):FR S h g':=
 ⟨le_trans a.len b.len,λd h1 h2=>by
  rw [b.iu d (lt_of_lt_of_le h1 a.len) λh3=>(hs d h3).elim h2 λh4=>by omega]
  exact a.iu d h1 h2,λv q h=>b.rv v q (a.rv v q h)⟩
theorem pw {a i j:Nat} (h:a<10^i) (gC:i<=j):a<10^j:=lt_of_lt_of_le h (Nat.pow_le_pow_right (by omega) gC)
theorem sz5 {k:Nat} (hk:k<=5):pY k<=159/\uc k<=151:=by
 have:k=0∨k=1∨k=2∨k=3∨k=4∨k=5:=by omega
 rcases this with rfl | rfl | rfl | rfl | rfl | rfl <;> decide
theorem sz6 {k:Nat} (hk:k<=6):pY k<=319/\uc k<=310:=by
 have:k=0∨k=1∨k=2∨k=3∨k=4∨k=5∨k=6:=by omega
 rcases this with rfl | rfl | rfl | rfl | rfl | rfl | rfl <;> decide
structure p9 (n:Nat) (t y:Nat->Int):Prop where
 n7:n<=7
 t0:∀c≤n,0<t c
 t4:∀c≤n,(t c).natAbs<10^4
 y0:∀r<n,0<y r
section
variable {k : Nat} {t y : Nat -> Int} {A : Nat -> Nat -> Rat} {N : Nat -> Nat -> Int} {d : Int}
theorem D7 (x:lQ n k t y A N d) (ok:p9 n t y) {s:Nat} (h1:pY k<=s) (h2:uc k+4<=s) {r c:Nat} (kR:k<=r) (hr:r<n) (oz:k<=c) (hc:c<=n):gU s (A r c):=by
 rw [x.dZ r kR hr c oz hc]
 refine Bz (mul_pos x.d0 (ok.t0 c hc)) (pw (x.bd r kR hr c oz hc) h1) ?_
 rw [natAbs_mul]
 exact pw (sH x.dl (ok.t4 c hc)) h2
theorem aKT (x:lQ n k t y A N d) (ok:p9 n t y) {s:Nat} (h1:pY k<=s) {r:Nat} (kR:k<=r) (hr:r<n) (hk:k<n):gU s (divInt (N r k) (N k k)):=
 Bz (x.piv hk ok.y0) (pw (x.bd r kR hr k (le_refl _) (by omega)) h1) (pw (x.bd k (le_refl _) hk k (le_refl _) (by omega)) h1)
theorem aKS (x:lQ n k t y A N d) (ok:p9 n t y) {s:Nat} (h1:pY k<=s) (h2:uc k+4<=s) {r c:Nat} (kR:k<=r) (hr:r<n) (oz:k<=c) (hc:c<=n) (hk:k<n):gU (s+s) (divInt (N r k*N k c) (N k k*(d*t c))):=by
 refine Bz (mul_pos (x.piv hk ok.y0) (mul_pos x.d0 (ok.t0 c hc))) ?_ ?_
 ·rw [natAbs_mul]
  exact sH (pw (x.bd r kR hr k (le_refl _) (by omega)) h1) (pw (x.bd k (le_refl _) hk c oz hc) h1)
 ·rw [natAbs_mul,natAbs_mul]
  exact sH (pw (x.bd k (le_refl _) hk k (le_refl _) (by omega)) h1) (pw (sH x.dl (ok.t4 c hc)) h2)
theorem anW (x:lQ n k t y A N d) (ok:p9 n t y) (hk:k<n):0<(A k k).num:=by
 rw [x.dZ k (le_refl _) hk k (le_refl _) (by omega)]
 exact Ht (mul_pos x.d0 (ok.t0 k (by omega))) (x.piv hk ok.y0)
theorem aKR (x:lQ n k t y A N d) (ok:p9 n t y) (hk:k<n) {r:Nat} (kR:k<=r) (hr:r<n):(A r k).num=0↔N r k=0:=by
 rw [x.dZ r kR hr k (le_refl _) (by omega)]
 exact azo (mul_pos x.d0 (ok.t0 k (by omega)))
def tn (k:Nat) (t:Nat->Int) (N:Nat->Nat->Int) (d:Int) (r c:Nat):Rat:=divInt (N r c*N k k-N r k*N k c) (N k k*d*t c)
theorem aor {im iq i:Nat} {ids:Nat->Nat} {x2 aG AA:Value} {L1 L2:List Value->ae->Prop} {B:Nat->Nat->Rat} {g0:ae} {cq:Cl} (ok:p9 n t y) (x:lQ n k t y A N d) (Ii:k<=5) (mD:k<i) (fG:i<n)
  (m:MQ g0 im ids n (n+1) B) (hB:∀c,k<=c->c<=n->B i c=A i c) (hBk:∀c,k<=c->c<=n->B k c=A k c) (hq:g0[iq]?=some (.arr 92 (cG cq))) (rq:RV g0 (.agg (cG cq).toArray) (divInt (N i k) (N k k))) (hqi:iq≠ids i)
  (hK:∀g,FR (λd=>d=ids i) g0 g->MQ g im ids n (n+1) (λr c=>if r=i/\k<=c then tn k t N d r c else B r c)->Dy prog K (sl 84 im 0 n) x2 AA (I k) (I i) aG (I k) L1 L2 g):
  bT [I k] g0 λL3 xs hx=>R8 prog K (sl 84 im 0 n) x2 AA (I k) (I i) (pt iq 0) aG (I k) L1 L2 L3 xs hx:=by
 have n7:=ok.n7
 obtain ⟨z1,z2⟩:=sz5 Ii
 have eW:k<n:=by omega
 refine cN (σ:=Nat×ae) (λq=>[I q.1]) (λq=>q.2) (λq=>k<=q.1/\q.1<=n+1/\FR (λd=>d=ids i) g0 q.2/\MQ q.2 im ids n (n+1) (λr c=>if r=i/\k<=c/\c<q.1 then tn k t N d r c else B r c)) (λq=>n+1-q.1)
  (k,g0) rfl rfl ⟨le_refl _,by omega,FR.refl _ _,?_⟩ ?_
 ·have:(λr c=>if r=i/\k<=c/\c<k then tn k t N d r c else B r c)=B:=by
   funext r c;rw [if_neg (by omega)]
  show MQ g0 im ids n (n+1) (λr c=>if r=i/\k<=c/\c<k then tn k t N d r c else B r c)
  rw [this];exact m
 rintro ⟨j,g⟩ ⟨lT,kQ,fr,m⟩ L hL
 simp only at lT kQ fr m hL⊢
 rw [aDW]
 have ln:aT (sl 92 (ids i) 0 (n+1))=some (I (n+1:Nat)):=rfl
 simp only [MQ.eK fG,m.ld fG,ln,ah,bW,ca]
 refine ⟨λaw=>?_,λcJ=>?_⟩
 ·have aw:j<n+1:=by omega
  obtain ⟨va,la,ra⟩:=m.get fG aw
  obtain ⟨vk,lk,rk⟩:=m.get eW aw
  rw [if_neg (by omega),hB j lT (by omega)] at ra
  rw [if_neg (by omega),hBk j lT (by omega)] at rk
  have lq:af true 4 g (pt iq 0)=some (.agg (cG cq).toArray):=ko (fr.get hqi hq)
  obtain ⟨e1,e2,e3⟩:=x.elim ok.t0 eW ok.y0 (r:=i) (c:=j) (by omega) fG lT (by omega)
  simp only [MQ.eK eW,m.ld eW,QL.eK aw,la,lk,lq,ah,true_and]
  refine EG (fr.rv _ _ rq) rk (aKT x ok z1 (by omega) fG eW) (D7 x ok (s:=159) z1 (by omega) (le_refl _) eW lT (by omega)) (by omega) λr1 g1 x1 kR=>?_
  rw [e2] at kR
  have m1:=m.up x1
  simp only [m1.ld fG,EX.load x1 la,true_and,and_true]
  refine Kv (ra.mono x1) kR (D7 x ok (s:=159) z1 (by omega) (by omega) fG lT (by omega)) (aKS x ok (s:=159) z1 (by omega) (by omega) fG lT (by omega) eW) (by omega) λr3 g3 x3 wR=>?_
  rw [e3] at wR
  have m3:=m1.up x3
  obtain ⟨g4,s4,f4,m4⟩:=m3.set fG aw wR
  simp only [m3.ld fG,true_and,ah,s4,aL,b7]
  rw [dP j (by simp [maxLen];omega)]
  refine hL (j+1,g4) ⟨by omega,by omega,(fr.trans (FR.ex (x1.trans x3))).trans f4,?_⟩ (by show n+1-(j+1)<n+1-j;omega)
  show MQ g4 im ids n (n+1) (λr c=>if r=i/\k<=c/\c<j+1 then tn k t N d r c else B r c)
  have:(λr c=>if r=i/\k<=c/\c<j+1 then tn k t N d r c else B r c)=λa b=>if a=i/\b=j then divInt (N i j*N k k-N i k*N k j) (N k k*d*t j) else if a=i/\k<=b/\b<j then tn k t N d a b else B a b:=by
   funext r c
   by_cases h1:r=i/\c=j
   ·obtain ⟨rfl,rfl⟩:=h1
    rw [if_pos ⟨rfl,lT,by omega⟩,if_pos ⟨rfl,rfl⟩];rfl
   ·rw [if_neg h1]
    by_cases h2:r=i/\k<=c/\c<j
    ·rw [if_pos ⟨h2.1,h2.2.1,by omega⟩,if_pos h2]
    ·rw [if_neg (by omega),if_neg h2]
  rw [this];exact m4
 ·have kQ:j=n+1:=by omega
  subst kQ
  refine hK g fr ?_
  refine ⟨m.ho,λr hr=>(m.hr r hr).congr λc hc=>?_,m.inj,m.nm⟩
  by_cases h1:r=i/\k<=c
  ·rw [if_pos h1,if_pos ⟨h1.1,h1.2,hc⟩]
  ·rw [if_neg h1,if_neg (by omega)]
end
end
section
open Go.Sim Go.Sort
variable {h : ae} {K : Value -> ae -> Prop} {n : Nat}
variable {k : Nat} {t y : Nat -> Int} {A : Nat -> Nat -> Rat} {N : Nat -> Nat -> Int} {d : Int}
theorem vI {g:ae} {i:Nat} (hi:g[i]?=some (.arr 92 z4)):eA g (pt i 0)=some (.agg #[.int .i64 92,.bool false,.slice none 0 0,.bool false,.slice none 0 0]):=by
 simp [eA,vA,hi,mN,z4]
def tZ (n:Nat) (ids:Nat->Nat) (d:Nat):Prop:=∃i,i<n/\d=ids i
theorem aoq {im:Nat} {ids:Nat->Nat} {x2 aG AA:Value} {L1:List Value->ae->Prop} {g0:ae} (ok:p9 n t y) (x:lQ n k t y A N d) (eW:k<n) (m:MQ g0 im ids n (n+1) A)
  (hK:∀g A',FR (tZ n ids) g0 g->MQ g im ids n (n+1) A'->(∀r c,r<=k->A' r c=A r c)->(∀r,k<r->r<n->∀c,k<c->c<=n->A' r c=tn k t N d r c)->R9 prog K (sl 84 im 0 n) x2 AA aG (I k) L1 g):
  bT [I (k+1:Nat)] g0 λL2 xs hx=>R7 prog K (sl 84 im 0 n) x2 AA (I k) aG (I k) L1 L2 xs hx:=by
 have n7:=ok.n7
 refine cN (σ:=Nat×(Nat->Nat->Rat)×ae) (λq=>[I q.1]) (λq=>q.2.2) (λq=>k+1<=q.1/\q.1<=n/\FR (tZ n ids) g0 q.2.2/\MQ q.2.2 im ids n (n+1) q.2.1/\(∀r c,(r<=k∨q.1<=r)->q.2.1 r c=A r c)/\∀r,k<r->r<q.1->∀c,k<c->c<=n->q.2.1 r c=tn k t N d r c) (λq=>n-q.1)
  (k+1,A,g0) rfl rfl ⟨le_refl _,eW,FR.refl _ _,m,λ_ _ _=>rfl,λr h1 h2=>by have:r<k+1:=h2;omega⟩ ?_
 rintro ⟨i,B,g⟩ ⟨mD,fG,fr,m,hB,hE⟩ L hL
 simp only at mD fG fr m hB hE hL⊢
 rw [aDV]
 have l0:aT (sl 84 im 0 n)=some (I n):=rfl
 simp only [l0,bW,ah,ca]
 refine ⟨λaw=>?_,λcJ=>?_⟩
 ·have aw:i<n:=by omega
  have Ii:k<=5:=by omega
  obtain ⟨z1,z2⟩:=sz5 Ii
  obtain ⟨va,la,ra⟩:=m.get aw (show k<n+1 by omega)
  rw [hB i k (.inr (le_refl _))] at ra
  simp only [MQ.eK aw,m.ld aw,QL.eK (show k<n+1 by omega),la,ah]
  refine Ky ra λg1 x1=>?_
  have m1:=m.up x1
  have go:∀(g:ae) (B':Nat->Nat->Rat),FR (tZ n ids) g0 g->MQ g im ids n (n+1) B'->(∀r c,(r<=k∨i<r)->B' r c=A r c)->(∀r,k<r->r<=i->∀c,k<c->c<=n->B' r c=tn k t N d r c)->
    Dy prog K (sl 84 im 0 n) x2 AA (I k) (I i) aG (I k) L1 L g:=by
   intro g B' fr m hB hE
   rw [aDX]
   simp only [b7,ah,true_and]
   rw [dP i (by simp [maxLen];omega)]
   exact hL (i+1,B',g) ⟨by omega,aw,fr,m,hB,λr h1 h2=>hE r h1 (by have:r<i+1:=h2;omega)⟩ (by show n-(i+1)<n-i;omega)
  have s0:zf (A i k).num=0↔N i k=0:=by
   rw [<-aKR x ok eW (by omega) aw]
   unfold zf
   constructor
   ·intro h;split at h
    ·assumption
    ·split at h <;> cases h
   ·intro h;rw [if_pos h]
  simp only [jB,ah]
  by_cases h0:N i k=0
  ·rw [s0.2 h0]
   simp only [decide_true,gf]
   refine go g1 B (fr.trans (FR.ex x1)) m1 (λr c hr=>hB r c (by omega)) λr h1 h2 c h3 h4=>?_
   by_cases e:r=i
   ·subst e
    rw [hB r c (.inr (le_refl _))]
    exact x.stay eW ok.y0 (by omega) aw (by omega) h4 h0
   ·exact hE r h1 (by omega) c h3 h4
  ·rw [bX λh=>h0 (s0.1 h)]
   simp only [dm,rQ,aL]
   have zS:EX g1 (g1++[.arr 92 z4]):=EX.append _ _
   have c2:(g1++[az.arr 92 z4])[g1.length]?=some (.arr 92 z4):=bK
   have A6:=(m1.hr i aw).lt
   have m2:=m1.up zS
   have l2:g1.length<(g1++[az.arr 92 z4]).length:=by simp
   generalize hq:g1.length=iq at c2 l2⊢
   generalize g1++[az.arr 92 z4]=g2 at zS c2 m2 l2⊢
   obtain ⟨vk,lk,rk⟩:=m2.get eW (show k<n+1 by omega)
   obtain ⟨vk1,Ry,rk1⟩:=m1.get eW (show k<n+1 by omega)
   rw [EX.load zS Ry] at lk
   obtain rfl:=Option.some.inj lk
   rw [hB k k (.inl (le_refl _))] at rk
   have Bd:=EX.load x1 la
   have la2:=EX.load zS Bd
   have lk2:=EX.load zS Ry
   obtain ⟨e1,e2,e3⟩:=x.elim ok.t0 eW ok.y0 (r:=i) (c:=k) (by omega) aw (le_refl _) (by omega)
   simp only [vI c2,MQ.eK eW,m1.ld aw,m2.ld aw,m1.ld eW,m2.ld eW,QL.eK (show k<n+1 by omega),Bd,la2,Ry,lk2,ah,true_and,and_true]
   refine KA (ra.mono (x1.trans zS)) rk (anW x ok eW) (D7 x ok (s:=159) z1 (by omega) (by omega) aw (le_refl _) (by omega)) (D7 x ok (s:=159) z1 (by omega) (le_refl _) eW (le_refl _) (by omega)) (by omega) λr3 g3 x3 wR=>?_
   rw [e1] at wR
   obtain ⟨g4,s4,x4,Rr,r4,f4,cq,hcq,rfl⟩:=wR.put (h0:=g1) (zS.trans x3) (by omega) (x3.get c2)
   simp only [vI (x3.get c2),true_and,s4,aL]
   have m4:=m1.up x4
   refine aor ok x Ii (by omega) aw m4 (λc h1 h2=>hB i c (.inr (le_refl _))) (λc h1 h2=>hB k c (.inl (le_refl _))) hcq r4 (by omega) λg5 f5 m5=>?_
   refine go g5 _ (((fr.trans (FR.ex x1)).trans (FR.ex x4)).trans (f5.Vd λd hd=>⟨i,aw,hd⟩)) m5 (λr c hr=>?_) λr h1 h2 c h3 h4=>?_
   ·rw [if_neg (by omega)];exact hB r c (by omega)
   ·by_cases e:r=i
    ·rw [if_pos ⟨e,by omega⟩]
    ·rw [if_neg (by omega)];exact hE r h1 (by omega) c h3 h4
 ·have:i=n:=by omega
  subst this
  exact hK g B fr m (λr c hr=>hB r c (.inl hr)) hE
end
section
open Go.Sim Go.Sort
variable {h : ae} {K : Value -> ae -> Prop} {n : Nat}
variable {t y : Nat -> Int} {A : Nat -> Nat -> Rat} {N : Nat -> Nat -> Int}
theorem RV.w6 {g:ae} {j:Nat} {s:Bool} {x y z:Value} {v:Value} {q:Rat} (p:RV g v q) (hg:g[j]?=some (.arr 92 [.bool s,x,y,z])):
  ∃g',aU 4 g (pt j 0) v=some (undef,g')/\af true 4 g' (pt j 0)=some v/\RV g' v q/\FR (λd=>d=j) g g'/\∃c:Cl,g'[j]?=some (.arr 92 (cG c))/\v=.agg (cG c).toArray:=by
 obtain ⟨g',a,_,b⟩:=p.put (h0:=[]) ⟨zero_le _,λd hd=>absurd hd (not_lt_zero _)⟩ (zero_le _) hg
 exact ⟨g',a,b⟩
def Kb:Nat->Nat
 | 0=>1
 | k+1=>Kb k+uc k+4
theorem aKF {k:Nat} (hk:k<=6):Kb k<=310:=by
 have:k=0∨k=1∨k=2∨k=3∨k=4∨k=5∨k=6:=by omega
 rcases this with rfl | rfl | rfl | rfl | rfl | rfl | rfl <;> decide
theorem D4 {i j k:Nat} {a d:Int} (hd:0<d) (ha:a.natAbs<10^i) (hi:i<=k) (hb:d.natAbs<10^j) (hj:j<=k):gU k (divInt a d):=Bz hd (pw ha hi) (pw hb hj)
theorem aop {im:Nat} {ids:Nat->Nat} (ok:p9 n t y) (m0:MQ h im ids n (n+1) A) (x:lQ n 0 t y A N 1)
  (hK:∀r g A',FR (tZ n ids) h g->MQ g im ids n (n+1) A'->(∀i<n,∃N d,Fx n i t (A' i) N d)->K r g):ay prog 119 [sl 84 im 0 n] h K:=by
 have n7:=ok.n7
 refine f119 ?_
 unfold LP
 have x1:EX h (h++[.arr 92 z4]):=EX.append _ _
 have c1:(h++[az.arr 92 z4])[h.length]?=some (.arr 92 z4):=bK
 have l1:(h++[az.arr 92 z4]).length=h.length+1:=by simp
 simp only [rQ,aL]
 generalize hx:h.length=ix at c1⊢
 generalize h++[az.arr 92 z4]=g1 at x1 c1 l1⊢
 refine pL (by omega) (by omega) λr g2 x2 hr=>?_
 have x3:EX g2 (g2++[.arr 92 z4]):=EX.append _ _
 have c3:(g2++[az.arr 92 z4])[g2.length]?=some (.arr 92 z4):=bK
 have ixg:ix<g2.length:=by have:=x2.1;omega
 generalize hd:g2.length=Q5 at c3 ixg⊢
 obtain ⟨g4,s4,x4,Rr,r4,f4,c,hc,rfl⟩:=(hr.mono x3).put (h0:=h) ((x1.trans x2).trans x3) (by omega) c3
 have sW:g4[ix]?=some (.arr 92 z4):=f4.get (by omega) ((x2.trans x3).get c1)
 have l0:aT (sl 84 im 0 n)=some (I n):=rfl
 simp only [s4,aL,l0,ah]
 refine cN (σ:=Nat×(Nat->Nat->Rat)×(Nat->Nat->Int)×Int×Int×Cl×ae) (λq=>[I q.1]) (λq=>q.2.2.2.2.2.2)
  (λq=>q.1<=n/\FR (tZ n ids) h q.2.2.2.2.2.2/\MQ q.2.2.2.2.2.2 im ids n (n+1) q.2.1/\lQ n q.1 t y q.2.1 q.2.2.1 q.2.2.2.1/\(∀i<q.1,∃N d,Fx n i t (q.2.1 i) N d)/\q.2.2.2.2.2.2[Q5]?=some (.arr 92 (cG q.2.2.2.2.2.1))/\q.2.2.2.2.2.2[ix]?=some (.arr 92 z4)/\
   0<q.2.2.2.2.1/\q.2.2.2.2.1.natAbs<10^Kb q.1/\RV q.2.2.2.2.2.2 (.agg (cG q.2.2.2.2.2.1).toArray) (divInt q.2.2.2.1 q.2.2.2.2.1)) (λq=>n-q.1)
  (0,A,N,1,1,c,g4) rfl rfl ⟨zero_le _,FR.ex x4,m0.up x4,x,λi hi=>absurd hi (not_lt_zero _),hc,sW,Int.one_pos,(by show (1:Int).natAbs<10^1;decide),?_⟩ ?_
 ·have e:divInt 1 1=((1:Int):Rat):=(Cm 1).symm
  show RV g4 _ (divInt 1 1)
  rw [e];exact r4
 rintro ⟨k,B,N,d,F,c,g⟩ ⟨eW,fr,m,x,dn,hc,yT,F0,Fl,hr⟩ L hL
 simp only at eW fr m x dn hc yT F0 Fl hr hL⊢
 rw [aD0]
 simp only [bW,ah,ca]
 refine ⟨λaw=>?_,λcJ=>?_⟩
 ·have aw:k<n:=by omega
  obtain ⟨z1,z2⟩:=sz6 (show k<=6 by omega)
  have z3:=aKF (show k<=6 by omega)
  -- j6 row with j6 pivot is j6 first
  refine cN (σ:=Unit) (λ_=>[I k]) (λ_=>g) (λ_=>True) (λ_=>0) () rfl rfl trivial ?_
  intro _ _ L2 _
  rw [aDQ]
  obtain ⟨va,la,ra⟩:=m.get aw (show k<n+1 by omega)
  simp only [l0,ah,bW,dh (show (k:Int)<n by omega)]
  rw [aDR]
  simp only [gK,MQ.eK aw,m.ld aw,QL.eK (show k<n+1 by omega),la,ah]
  refine Ky ra λg1 y1=>?_
  have pn:=anW x ok aw
  have is1:zf (B k k).num=1:=by unfold zf;rw [if_neg (by omega),if_neg (by omega)]
  simp only [is1,jB,ah]
  rw [aDS]
  have pk:bu (.bool true) (.bool (decide ((1:Int)=0))) (.bool false)=some (.bool false):=rfl
  simp only [pk,ah,dm]
  rw [aDT]
  have nk:¬(k:Int)=n:=by omega
  have m1:=m.up y1
  simp only [l0,ah,jB,bX nk,dm,iC,decide_true,Bool.not_true]
  rw [aDU]
  have Bd:=EX.load y1 la
  have lc:af true 4 g1 (pt Q5 0)=some (.agg (cG c).toArray):=ko (y1.get hc)
  simp only [lc,MQ.eK aw,m1.ld aw,QL.eK (show k<n+1 by omega),Bd,ah,true_and]
  have tk:=ok.t0 k (by omega)
  refine EG (i:=310) (j:=319) (hr.mono y1) (ra.mono y1) (D4 F0 x.dl z2 Fl z3) (D7 x ok (s:=319) z1 (by omega) (le_refl _) aw (le_refl _) (by omega)) (by omega) λr5 g5 x5 lH=>?_
  have e5:divInt d F*B k k=divInt (N k k*d) (F*(d*t k)):=by
   rw [x.dZ k (le_refl _) aw k (le_refl _) (by omega),Rat.divInt_mul_divInt,mul_comm d]
  rw [e5] at lH
  obtain ⟨g6,s6,ld6,r6,f6,c6,hc6,rfl⟩:=lH.w6 (x5.get (y1.get hc))
  have m5:=m1.up x5
  have A6:∀i<n,ids i<h.length:=λi hi=>(m0.hr i hi).lt
  have iml:im<h.length:=(cm m0.ho).1
  have m6:=m5.fr f6 (by omega) λi hi=>by have:=A6 i hi;omega
  have fr6:FR (tZ n ids) h g6:=(fr.trans (FR.ex (y1.trans x5))).tail f6 λd' nA=>.inr (by omega)
  simp only [s6,aL,b7,ah]
  rw [dP k (by simp [maxLen];omega)]
  refine aoq ok x aw m6 λg7 B' HM m7 hB hE=>?_
  rw [aDY]
  simp only [b7,ah,true_and]
  rw [dP k (by simp [maxLen];omega)]
  have nS:∀d',h.length<=d'->¬tZ n ids d':=λd' h1 ⟨i,h2,h3⟩=>by have:=A6 i h2;omega
  refine hL (k+1,B',_,N k k*d,F*(d*t k),c6,g7) ⟨aw,fr6.trans HM,m7,x.next aw ok.y0 λr h1 h2 c h3 h4=>hE r h1 h2 c h3 h4,λi hi=>?_,HM.get (nS _ (by omega)) hc6,HM.get (nS _ (by omega)) (f6.get (by omega) ((y1.trans x5).get yT)),mul_pos F0 (mul_pos x.d0 tk),?_,HM.rv _ _ r6⟩ (by show n-(k+1)<n-k;omega)
  ·have hi:i<k+1:=hi
   by_cases e:i=k
   ·subst e
    have rd:=x.done aw ok.y0
    exact ⟨_,_,rd.d0,rd.dl,λc h1 h2=>by show B' i c=_;rw [hB i c (le_refl _)];exact rd.dZ c h1 h2,rd.bd,rd.piv,rd.row⟩
   ·obtain ⟨N',d',rd⟩:=dn i (by omega)
    exact ⟨N',d',rd.d0,rd.dl,λc h1 h2=>by show B' i c=_;rw [hB i c (by omega)];exact rd.dZ c h1 h2,rd.bd,rd.piv,rd.row⟩
  ·show (F*(d*t k)).natAbs<10^(Kb k+uc k+4)
   rw [natAbs_mul,natAbs_mul,Nat.add_assoc]
   exact sH Fl (sH x.dl (ok.t4 k (by omega)))
 ·have eW:k=n:=by omega
  subst eW
  rw [aDZ]
  have lc:af true 4 g (pt Q5 0)=some (.agg (cG c).toArray):=ko hc
  obtain ⟨g6,s6,ld6,r6,f6,c6,hc6,_⟩:=hr.w6 yT
  simp only [lc,ah,s6,aL,ld6]
  have A6:∀i<k,ids i<h.length:=λi hi=>(m0.hr i hi).lt
  have iml:im<h.length:=(cm m0.ho).1
  exact hK _ g6 B (fr.tail f6 λd' nA=>.inr (by omega)) (m.fr f6 (by omega) λi hi=>by have:=A6 i hi;omega) dn
end
section
open Go.Sim Go.Sort
variable {h : ae} {K : Value -> ae -> Prop} {n : Nat}
variable {t y : Nat -> Int} {A : Nat -> Nat -> Rat} {N : Nat -> Nat -> Int}
def Wb (j:Nat):Nat:=10^j
theorem toW {a i j:Nat} (h:a<10^i) (hi:i<=j):a<=Wb j:=Nat.le_of_lt (pw h hi)
theorem auz {a m j k:Nat} (b:a<=m*Wb j) (hm:m<=7) (e:k=j+1):a<10^k:=by
 subst e
 have h1:m*Wb j<=7*Wb j:=Nat.mul_le_mul_right _ hm
 have h2:(10:Nat)^(j+1)=10*Wb j:=by rw [Nat.pow_succ,Nat.mul_comm];rfl
 have h3:0<Wb j:=Nat.pow_pos (by omega)
 rw [h2]
 omega
theorem agC {d t:Int} {i j:Nat} (hd:d.natAbs<10^i) (ht:t.natAbs<10^j):(d*t).natAbs<10^(i+j):=by
 rw [natAbs_mul];exact sH hd ht
theorem aDm {a b:Nat} (i:Nat) (h:a<=b):a<=(i+1-i)*b:=by
 rw [Nat.add_sub_cancel_left,Nat.one_mul];exact h
theorem DS.xm {e e':TypeId} {h h':ae} {v:Value} {xs:List Nat} {j:Nat} {cs:List Value} (d:DS e .u32 h v xs) (x:XM j h h') (hj:h[j]?=some (.arr e' cs)) (hn:∀z r,cs≠ .int .u32 z::r):DS e .u32 h' v xs:=by
 rcases d with d | ⟨i,h1,h2⟩
 ·exact .inl d
 ·refine .inr ⟨i,h1,?_⟩
  rcases h2 with h2 | ⟨rest,h2⟩
  ·exact .inl h2
  ·cases xs with
   | nil=>exact .inl rfl
   | cons x' xs=>
    right
    refine ⟨rest,?_⟩
    have bY:i≠j:=by
     rintro rfl
     unfold bw at h2
     rw [hj] at h2
     exact hn _ _ (Option.some.inj h2)
    have hl:i<h.length:=by
     refine Nat.lt_of_not_le λhle=>?_
     unfold bw at h2
     rw [List.getElem?_eq_none hle] at h2
     cases h2
    unfold bw at h2⊢
    rw [x.2 i hl bY]
    exact h2
theorem FR.xm {g g':ae} {j:Nat} {e:TypeId} {cs:List Value} (x:XM j g g') (hj:g[j]?=some (.arr e cs)) (hn:∀z r,cs≠ .int .u32 z::r):FR (λd=>d=j) g g':=
 ⟨x.1,λd h1 h2=>x.2 d h1 h2,λ_ _ p=>
  let ⟨u,w,e1,⟨xs,a1,a2,a3⟩,⟨ys,b1,b2,b3⟩⟩:=p
  ⟨u,w,e1,⟨xs,DS.xm a1 x hj hn,a2,a3⟩,⟨ys,DS.xm b1 x hj hn,b2,b3⟩⟩⟩
theorem aKo {k j:Nat} (h:k<=j) (f:Nat->Int):fR k (j+1) f=fR k j f+f j:=by
 unfold fR
 rw [kG,if_pos h]
theorem azm {N d t:Int} (hN:0<N) (hd:0<d):divInt N d / divInt N (d*t)=(t:Rat):=by
 rw [Rat.div_def,Rat.inv_divInt,Rat.divInt_mul_divInt]
 have e:N*(d*t)=t*(d*N):=by rw [mul_comm d t,Int.mul_left_comm,mul_comm N d]
 rw [e]
 have:=mul_pos hd hN
 exact Pb (by omega)
theorem azr {N d t:Int} (ht:0<t):divInt N (d*t)*(t:Rat)=divInt N d:=by
 rw [Cm t,Rat.divInt_mul_divInt,Int.mul_one,Rat.divInt_mul_right (by omega)]
theorem aoV {im:Nat} {ids:Nat->Nat} (ok:p9 n t y) (t1:t n=1) (m:MQ h im ids n (n+1) A) (dn:∀i<n,∃N d,Fx n i t (A i) N d)
  (hK:∀g ix,EX h g->h.length<=ix->QL g ix n (λj=>some (t j:Rat))->K (sl 92 ix 0 n) g):
  OP (aT (sl 84 im 0 n)) λbZ=>OH (eM 92 64 [(.bool false),(.slice none 0 0),(.bool false),(.slice none 0 0)] h bZ bZ) λcB h_2=>OP (aj .sub bZ (.int .i64 (1))) λbG=>bT [bG] h_2 λL1 xs hx=>Ua prog K (sl 84 im 0 n) bZ cB L1 xs hx:=by
 have n7:=ok.n7
 have l0:aT (sl 84 im 0 n)=some (I n):=rfl
 have sF:eM 92 64 [(.bool false),(.slice none 0 0),(.bool false),(.slice none 0 0)] h (I n) (I n)=some (sl 92 h.length 0 n,h++[.arr 92 (bE z4 n)]):=by
  simp only [eM]
  rw [if_pos (by omega)]
  simp [z4]
 have sb:IntKind.wrap .i64 ((n:Int)-1)=(n:Int)-1:=wrap64 (by omega) (by omega)
 have x1:EX h (h++[.arr 92 (bE z4 n)]):=EX.append _ _
 have q1:QL (h++[.arr 92 (bE z4 n)]) h.length n λ_=>none:=⟨λ_=>(false,.slice none 0 0,false,.slice none 0 0),by rw [bK,<-VH];rfl,λj _ r hr=>by cases hr⟩
 simp only [l0,ah,sF,aL,iD,sb]
 generalize h++[az.arr 92 (bE z4 n)]=g1 at x1 q1⊢
 refine cN (σ:=Nat×ae) (λq=>[I ((q.1:Int)-1)]) (λq=>q.2) (λq=>q.1<=n/\EX h q.2/\QL q.2 h.length n λj=>if q.1<=j then some (t j:Rat) else none) (λq=>q.1)
  (n,g1) rfl rfl ⟨le_refl _,x1,q1.congr λj hj=>if_neg (by omega)⟩ ?_
 rintro ⟨m',g⟩ ⟨hm,xg,ql⟩ L hL
 simp only at hm xg ql hL⊢
 rw [aIw]
 simp only [om,ah]
 by_cases h0:m'=0
 ·subst h0
  rw [bX (show ¬(0:Int)<=((0:Nat):Int)-1 by decide)]
  simp only [dm]
  rw [aIA]
  exact hK g h.length xg (le_refl _) (ql.congr λj _=>by rw [if_pos (zero_le _)])
 ·obtain ⟨i,rfl⟩:∃i,m'=i+1:=⟨m' -1,by omega⟩
  have ei:((i+1:Nat):Int)-1=(i:Int):=by omega
  rw [ei,dh (show (0:Int)<=(i:Int) by omega)]
  have fG:i<n:=by omega
  obtain ⟨N,d,rd⟩:=dn i fG
  obtain ⟨z1,z2⟩:=sz6 (show i<=6 by omega)
  have mg:=m.up xg
  obtain ⟨va,la,ra⟩:=mg.get fG (show n<n+1 by omega)
  have an:A i n=divInt (N n) d:=by rw [rd.dZ n (by omega) (le_refl _),t1,Int.mul_one]
  rw [an] at ra
  simp only [gf,MQ.eK fG,mg.ld fG,QL.eK (show n<n+1 by omega),la,ah,rQ,aL]
  have x2:EX g (g++[.arr 92 z4]):=EX.append _ _
  have c2:(g++[az.arr 92 z4])[g.length]?=some (.arr 92 z4):=bK
  have uY:h.length<g.length:=ql.lt
  obtain ⟨g3,s3,x3,rD,r3,f3,c3,yv,rfl⟩:=(ra.mono x2).put (h0:=g) x2 (le_refl _) c2
  generalize hs9:g.length=is at s3 yv uY⊢
  simp only [s3,aL,b7,ah]
  rw [dP i (by simp [maxLen];omega)]
  refine cN (σ:=Nat×Int×Cl×ae) (λq=>[I q.1]) (λq=>q.2.2.2) (λq=>i+1<=q.1/\q.1<=n/\EX g q.2.2.2/\q.2.1=N n-fR (i+1) q.1 N/\q.2.1.natAbs<=(q.1-i)*Wb 319/\q.2.2.2[is]?=some (.arr 92 (cG q.2.2.1))/\RV q.2.2.2 (.agg (cG q.2.2.1).toArray) (divInt q.2.1 d)) (λq=>n-q.1)
   (i+1,N n,c3,g3) rfl rfl ⟨le_refl _,by omega,x3,?_,?_,yv,r3⟩ ?_
  ·show N n=N n-fR (i+1) (i+1) N
   rw [aKm];omega
  ·show (N n).natAbs<=(i+1-i)*Wb 319
   exact aDm i (toW (rd.bd n (by omega) (le_refl _)) z1)
  rintro ⟨j,S,c,g4⟩ ⟨gC,kQ,x4,eS,bS,hc,hr⟩ L2 dO
  simp only at gC kQ x4 eS bS hc hr dO⊢
  have lc:af true 4 g4 (pt is 0)=some (.agg (cG c).toArray):=ko hc
  have sS:gU 320 (divInt S d):=D4 rd.d0 (auz bS (by omega) rfl) (le_refl _) rd.dl (by omega)
  rw [aIx]
  simp only [bW,ah,ca]
  refine ⟨λaw=>?_,λcJ=>?_⟩
  ·have aw:j<n:=by omega
   have m4:=mg.up x4
   obtain ⟨vj,lj,rj⟩:=m4.get fG (show j<n+1 by omega)
   obtain ⟨vx,lx,rx⟩:=(ql.up x4).get aw (if_pos (by omega))
   have ej:=rd.dZ j (by omega) (by omega)
   have tj:=ok.t0 j (by omega)
   rw [ej] at rj
   simp only [lc,MQ.eK fG,m4.ld fG,QL.eK (show j<n+1 by omega),QL.eK aw,lj,lx,ah,true_and]
   have bj:=toW (rd.bd j (by omega) (by omega)) z1
   refine EG (i:=319) (j:=5) rj rx (D4 (mul_pos rd.d0 tj) (rd.bd j (by omega) (by omega)) z1 (agC rd.dl (ok.t4 j (by omega))) (by omega)) (mY (pw (ok.t4 j (by omega)) (by omega)) (by omega)) (by omega) λr5 g5 x5 lH=>?_
   rw [azr tj] at lH
   have IJ:=EX.load x5 lc
   simp only [IJ,true_and,and_true]
   refine Kv (i:=320) (j:=319) (hr.mono x5) lH sS (D4 rd.d0 (rd.bd j (by omega) (by omega)) z1 rd.dl (by omega)) (by omega) λr6 g6 x6 yN=>?_
   have d0:=rd.d0
   rw [ads (by omega)] at yN
   have eT:=x5.trans x6
   obtain ⟨g7,s7,x7,ld7,r7,f7,c7,hc7,rfl⟩:=yN.put (h0:=g) (x4.trans eT) (by omega) (eT.get hc)
   simp only [s7,aL,b7,ah]
   rw [dP j (by simp [maxLen];omega)]
   refine dO (j+1,S-N j,c7,g7) ⟨by omega,aw,x7,?_,?_,hc7,r7⟩ (by show n-(j+1)<n-j;omega)
   ·show S-N j=N n-fR (i+1) (j+1) N
    rw [aKo gC,eS];omega
   ·show (S-N j).natAbs<=(j+1-i)*Wb 319
    rw [show j+1-i=(j-i)+1 by omega,Nat.add_mul,Nat.one_mul]
    generalize Wb 319=W at*
    omega
  ·have kQ:j=n:=by omega
   subst kQ
   rw [aIy]
   have m4:=mg.up x4
   obtain ⟨vi,li,ri⟩:=m4.get fG (show i<j+1 by omega)
   have ti:=ok.t0 i (by omega)
   have ei:=rd.dZ i (le_refl _) (by omega)
   have eN:S=N i:=by
    have:=rd.row
    rw [DV fG] at this
    rw [eS]
    have e2:fR (i+1) j N=fR (i+1) j λc=>N c:=rfl
    omega
   subst eN
   have pv:=rd.piv
   rw [ei] at ri
   simp only [lc,MQ.eK fG,m4.ld fG,QL.eK (show i<j+1 by omega),li,ah,true_and]
   refine KA (i:=320) (j:=319) hr ri (Ht (mul_pos rd.d0 ti) pv) sS (D4 (mul_pos rd.d0 ti) (rd.bd i (le_refl _) (by omega)) z1 (agC rd.dl (ok.t4 i (by omega))) (by omega)) (by omega) λr5 g5 x5 lH=>?_
   rw [azm pv rd.d0] at lH
   obtain ⟨g6,s6,f6,q6⟩:=((ql.up x4).up x5).set fG lH
   simp only [QL.eK fG,ah,s6,aL]
   rw [aIz]
   have sb2:IntKind.wrap .i64 ((i:Int)-1)=(i:Int)-1:=wrap64 (by omega) (by omega)
   simp only [iD,ah,true_and,sb2]
   refine hL (i,g6) ⟨by omega,FR.iz (xg.trans (x4.trans x5)) f6 λd' nA=>by omega,q6.congr λk hk=>?_⟩ (by show i<i+1;omega)
   by_cases e:k=i
   ·subst e;rw [fL,if_pos (le_refl _)]
   ·rw [ez _ _ e]
    by_cases h1:i+1<=k
    ·rw [if_pos h1,if_pos (by omega)]
    ·rw [if_neg h1,if_neg (by omega)]
end
section
open Go.Sim Go.Sort
variable {h : ae} {K : Value -> ae -> Prop} {n : Nat}
variable {t y : Nat -> Int} {A : Nat -> Nat -> Rat} {N : Nat -> Nat -> Int}
def xo (n:Nat) (A:Nat->Nat->Rat) (bv:Nat->Rat) (i j:Nat):Rat:=if j=n then bv i else A i j
theorem C80 {im ib:Nat} {ids:Nat->Nat} {b1:Value} {bv:Nat->Rat} (ok:p9 n t y) (t1:t n=1) (m:MQ h im ids n n A) (hb:n=0∨(b1=sl 92 ib 0 n/\QL h ib n (λj=>some (bv j)))) (H5:ib≠im/\∀i<n,ib≠ids i) (x:lQ n 0 t y (xo n A bv) N 1)
  (hK:∀g ix,FR (λd=>d=im∨tZ n ids d) h g->h.length<=ix->QL g ix n (λj=>some (t j:Rat))->K (sl 92 ix 0 n) g):ay prog 80 [sl 84 im 0 n,b1] h K:=by
 have n7:=ok.n7
 refine f80 ?_
 unfold Nj
 have l0:aT (sl 84 im 0 n)=some (I n):=rfl
 have A6:∀i<n,ids i<h.length:=λi hi=>(m.hr i hi).lt
 have iml:im<h.length:=(cm m.ho).1
 simp only [l0,ah]
 refine cN (σ:=Nat×(Nat->Nat)×ae) (λq=>[I q.1]) (λq=>q.2.2) (λq=>q.1<=n/\FR (λd=>d=im∨tZ n ids d) h q.2.2/\q.2.2[im]?=some (.arr 84 ((List.range n).map λi=>sl 92 (q.2.1 i) 0 (if i<q.1 then n+1 else n)))/\
   (∀i<q.1,QL q.2.2 (q.2.1 i) (n+1) λj=>some (xo n A bv i j))/\(∀i<n,q.1<=i->QL q.2.2 (q.2.1 i) n λj=>some (A i j))/\(∀i<n,∀j<n,q.2.1 i=q.2.1 j->i=j)/\∀i<n,q.2.1 i=ids i∨h.length<=q.2.1 i) (λq=>n-q.1)
  (0,ids,h) rfl rfl ⟨zero_le _,FR.refl _ _,m.ho,λi hi=>absurd hi (not_lt_zero _),λi hi _=>m.hr i hi,m.inj,λi hi=>.inl rfl⟩ ?_
 rintro ⟨k,id,g⟩ ⟨fC,fr,ho,hd,hr,inj,iG⟩ L hL
 simp only at fC fr ho hd hr inj iG hL⊢
 have Dl:∀i<n,id i≠im:=λi hi=>by
  rcases iG i hi with e | e
  ·rw [e];exact m.nm i hi
  ·omega
 rw [aIB]
 simp only [bW,ah,ca]
 refine ⟨λaw=>?_,λcJ=>?_⟩
 ·have aw:k<n:=by omega
  obtain ⟨rfl,qb⟩:=hb.resolve_left (by omega)
  have nS:¬(ib=im∨tZ n ids ib):=λh=>h.elim H5.1 λ⟨i,h1,h2⟩=>H5.2 i h1 h2
  obtain ⟨vb,lb,rb⟩:=(qb.fr fr nS).get aw rfl
  obtain ⟨c,rfl⟩:=rb.cl
  have lr:af false 1 g (pt im k)=some (sl 92 (id k) 0 n):=by
   simp [af,bw,ho,dS,aw]
  have x1:EX g (g++[.arr 92 (cG c)]):=EX.append _ _
  have c1:(g++[az.arr 92 (cG c)])[g.length]?=some (.arr 92 (cG c)):=bK
  simp only [MQ.eK aw,lr,QL.eK aw,lb,ah,true_and,I0,aL,EX.load x1 lr,and_true]
  obtain ⟨cs,mP,DP⟩:=(hr k aw (le_refl _)).ob
  have tC:=x1.get mP
  have sc:fx (g++[az.arr 92 (cG c)]) 4 (sl 92 g.length 0 1)=some (cG c):=by
   simp only [fx,sl,bw,c1,bind_some]
   rfl
  obtain ⟨i',g2,a2,e2,m2,c2⟩:=uD (bytes:=64) tC (xX n cs) sc rfl (by omega) (by omega) (by simp [maxLen];omega)
  have CN:(g++[az.arr 92 (cG c)]).length=g.length+1:=by simp
  obtain ⟨s,rr,hh⟩:=Hi (by omega:0<n) cs
  have f2:=FR.xm m2 tC (by intro z r e;rw [hh] at e;cases e)
  have AD:FR (λd=>d=id k) g g2:=(FR.ex x1).trans f2
  have Dk:∀i<n,id i<g.length:=λi hi=>by
   rcases Nat.lt_or_ge i k with h1 | h1
   ·exact (hd i h1).lt
   ·exact (hr i hi h1).lt
  have iso:∀i<n,i≠k->i'≠id i:=λi hi bY e=>by
   rcases e2 with h1 | h1
   ·exact bY (inj i hi k aw (by omega))
   ·have:=Dk i hi;omega
  have aBM:i'≠im:=λe=>by
   rcases e2 with h1 | h1
   ·exact Dl k aw (by omega)
   ·have:=fr.len;omega
  have u9:g2[im]?=_:=AD.get (λh=>Dl k aw h.symm) ho
  have st:=kz u9 (o:=k) (v:=sl 92 i' 0 (n+1)) (by simpa using aw) rfl rfl
  have e3:((List.range n).map λi=>sl 92 (id i) 0 (if i<k then n+1 else n)).set k (sl 92 i' 0 (n+1))=(List.range n).map λi=>sl 92 (dU id k i' i) 0 (if i<k+1 then n+1 else n):=by
   refine List.ext_getElem (by simp) λq h1 h2=>?_
   rw [List.getElem_set]
   simp only [getElem_map,List.getElem_range]
   by_cases e:k=q
   ·subst e;rw [if_pos rfl,if_pos (by omega),fL]
   ·rw [if_neg e,ez _ _ (Ne.symm e)]
    by_cases h3:q<k
    ·rw [if_pos h3,if_pos (by omega)]
    ·rw [if_neg h3,if_neg (by omega)]
  rw [e3] at st
  simp only [a2,aL,ah,st,b7]
  rw [dP k (by simp [maxLen];omega)]
  have CO:∀z r,((List.range n).map λi=>sl 92 (id i) 0 (if i<k then n+1 else n))≠ .int .u32 z::r:=by
   obtain ⟨m',rfl⟩:∃m',n=m'+1:=⟨n-1,by omega⟩
   intro z r e
   rw [List.range_succ_eq_map,map_cons] at e
   have:=(List.cons.inj e).1
   cases this
  have f3:=FR.xf u9 CO (.arr 84 ((List.range n).map λi=>sl 92 (dU id k i' i) 0 (if i<k+1 then n+1 else n)))
  have qn:QL g2 i' (n+1) λj=>some (xo n A bv k j):=by
   refine ⟨λj=>if j=n then c else cs j,?_,λj hj r sj=>?_⟩
   ·rw [c2,xY,if_pos rfl]
    congr 2
    rw [Hg (ds:=cs) λj hj=>if_neg (by omega)]
   ·cases sj
    unfold xo
    by_cases e:j=n
    ·rw [if_pos e]
     show RV g2 (.agg (cG (if j=n then c else cs j)).toArray) _
     rw [if_pos e];exact AD.rv _ _ rb
    ·rw [if_neg e]
     show RV g2 (.agg (cG (if j=n then c else cs j)).toArray) _
     rw [if_neg e];exact AD.rv _ _ (DP j (by omega) _ rfl)
  refine hL (k+1,dU id k i',_) ⟨aw,(fr.tail AD λd nA=>?_).tail f3 λd nA=>.inl (.inl nA),getElem?_set_self (cm u9).1,λi hi=>?_,λi hi mD=>?_,λi hi j hj e=>?_,λi hi=>?_⟩ (by show n-(k+1)<n-k;omega)
  ·rcases iG k aw with e | e
   ·exact .inl (.inr ⟨k,aw,by omega⟩)
   ·exact .inr (by omega)
  ·show QL _ (dU id k i' i) (n+1) _
   have hi:i<k+1:=hi
   by_cases e:i=k
   ·subst e
    rw [fL]
    exact qn.fr f3 aBM
   ·rw [ez _ _ e]
    exact ((hd i (by omega)).fr AD λh=>e (inj i (by omega) k aw h)).fr f3 (Dl i (by omega))
  ·show QL _ (dU id k i' i) n _
   have mD:k+1<=i:=mD
   rw [ez _ _ (by omega)]
   exact ((hr i hi (by omega)).fr AD λh=>by have:=inj i hi k aw h;omega).fr f3 (Dl i hi)
  ·have e:dU id k i' i=dU id k i' j:=e
   by_cases e1:i=k <;> by_cases tg:j=k
   ·omega
   ·subst e1
    rw [fL,ez _ _ tg] at e
    exact absurd e (iso j hj tg)
   ·subst tg
    rw [fL,ez _ _ e1] at e
    exact absurd e.symm (iso i hi e1)
   ·rw [ez _ _ e1,ez _ _ tg] at e
    exact inj i hi j hj e
  ·show dU id k i' i=ids i∨h.length<=dU id k i' i
   by_cases e:i=k
   ·subst e
    rw [fL]
    rcases e2 with h1 | h1
    ·rw [h1];exact iG i hi
    ·exact .inr (by have:=fr.len;omega)
   ·rw [ez _ _ e];exact iG i hi
 ·have eW:k=n:=by omega
  subst eW
  rw [aIv]
  have mA:MQ g im id k (k+1) (xo k A bv):=⟨by
   rw [ho]
   congr 2
   exact List.map_congr_left λi hi=>by rw [if_pos (mem_range.1 hi)],λi hi=>hd i hi,inj,Dl⟩
  refine aop ok mA x λr g2 A' f2 m2 dn=>?_
  refine aoV ok t1 m2 dn λg3 ix x3 Ih ql=>?_
  refine hK g3 ix ((fr.tail f2 λd ⟨i,hi,e⟩=>?_).trans (FR.ex x3)) (by have:=fr.len;have:=f2.len;omega) ql
  rcases iG i hi with e' | e'
  ·exact .inl (.inr ⟨i,hi,by omega⟩)
  ·exact .inr (by omega)
end
section
open Go.Sim Go.Sort
variable {h : ae} {K : Value -> ae -> Prop} {n : Nat}
theorem auh {b:Nat} {g:ae} {e:TypeId} {bytes:Nat} {v x z:Value} {xs:List Value} {K:Value->ae->Prop} (o:gA b g e v xs) (hbg:b<=g.length) (hb:(xs.length+1)*bytes<=140737488355328) (hm:xs.length+1<=maxLen)
  (h1:fV x=true) (h2:dL x=[x]) (hn:∀w r,xs≠ .int .u32 w::r) (hk:∀v' g',FR (λd=>∃m,v=sl e d 0 m) g g'->gA b g' e v' (xs++[x])->(∀d m,v'=sl e d 0 m->g.length<=d)->K v' g'):
  OH (cH e 1 [z] g [(0,1,x)]) λa h2=>OH (cT e 1 bytes h2 v a) K:=by
 refine BV o hb hm h1 h2 λg1 g2 _ gl iu kL=>?_
 have fr:FR (λd=>∃m,v=sl e d 0 m) g g2:=by
  rcases o with ⟨rfl,rfl⟩ | ⟨i,hi,rfl,hg⟩
  ·exact FR.ex ⟨by omega,λd hd=>iu d hd λm hv=>by cases hv⟩
  ·have x:XM i g g2:=⟨by omega,λd h1 h2=>iu d h1 λm hv=>h2 (vN hv).1.symm⟩
   exact (FR.xm x hg hn).Vd λd hd=>⟨xs.length,by rw [hd]⟩
 simp only [aL]
 refine hk _ g2 fr (.inr ⟨g.length+1,by omega,by rw [List.length_append];rfl,kL⟩) λd m hd=>?_
 rw [<-(vN hd).1];omega
def BQ (g:ae) (id n:Nat) (f:Nat->Bool):Prop:=g[id]?=some (.arr 4 ((List.range n).map λi=>B (f i)))
theorem BQ.eK {id i:Nat} (hi:i<n):aD 1 (sl 4 id 0 n) (I i)=some (pt id i):=jL hi
theorem BQ.ld {g:ae} {id i:Nat} {f:Nat->Bool} (p:BQ g id n f) (hi:i<n):af false 1 g (pt id i)=some (B (f i)):=by
 unfold BQ at p
 simp [af,bw,p,dS,hi]
theorem BQ.fr {S:Nat->Prop} {g g':ae} {id:Nat} {f:Nat->Bool} (p:BQ g id n f) (x:FR S g g') (hs:¬S id):BQ g' id n f:=x.get hs p
theorem BQ.up {g g':ae} {id:Nat} {f:Nat->Bool} (p:BQ g id n f) (x:EX g g'):BQ g' id n f:=x.get p
theorem BQ.nu {f:Nat->Bool}:∀z r,((List.range n).map λi=>B (f i))≠ .int .u32 z::r:=by
 intro z r e
 cases n with
 | zero=>cases e
 | succ n=>
  rw [List.range_succ_eq_map,map_cons] at e
  have:=(List.cons.inj e).1
  cases this
theorem BQ.set {g:ae} {id i:Nat} {f:Nat->Bool} (p:BQ g id n f) (hi:i<n) (b:Bool):∃g',aU 1 g (pt id i) (B b)=some (undef,g')/\FR (λd=>d=id) g g'/\BQ g' id n (dU f i b)/\g'=g.set id (.arr 4 ((List.range n).map λj=>B (dU f i b j))):=by
 have st:=kz p (o:=i) (v:=B b) (by simpa using hi) rfl rfl
 have e:((List.range n).map λj=>B (f j)).set i (B b)=(List.range n).map λj=>B (dU f i b j):=by
  refine List.ext_getElem (by simp) λq h1 h2=>?_
  rw [List.getElem_set]
  simp only [getElem_map,List.getElem_range]
  by_cases e:i=q
  ·subst e;rw [if_pos rfl,fL]
  ·rw [if_neg e,ez _ _ (Ne.symm e)]
 rw [e] at st
 exact ⟨_,st,FR.xf p BQ.nu _,getElem?_set_self (cm p).1,rfl⟩
theorem BQ.make (h:ae) (n8:n<=8):eM 4 1 [(.bool false)] h (I n) (I n)=some (sl 4 h.length 0 n,h++[.arr 4 ((List.range n).map λ_=>B false)]):=by
 simp only [eM]
 rw [if_pos (by omega)]
 have:bE [(.bool false)] n=(List.range n).map λ_=>B false:=by
  simp [bE]
  rw [map_const'];simp
 rw [<-this]
 simp
def cM (part:Nat->Bool) (k:Nat):List Nat:=(List.range k).filter part
theorem PC (part:Nat->Bool) (k:Nat):cM part (k+1)=if part k then cM part k++[k] else cM part k:=by
 unfold cM
 rw [range_succ,List.filter_append]
 by_cases h:part k=true
 ·simp [h]
 ·simp [h]
def gP (n:Nat) (D:Nat->Nat->Int) (part dG:Nat->Bool) (j:Nat):Int:=if part j then 0 else if dG j then 0 else di n D j
theorem aoS {ik ia ib:Nat} {D:Nat->Nat->Int} {part dG:Nat->Bool} (m:ki h ik n D) (pa:BQ h ia n part) (pb:BQ h ib n dG)
  (hk:∀vf g ip,EX h g->h.length<=ip->QL g ip n (λj=>some (gP n D part dG j:Rat))->gA (ip+1) g 3 vf ((cM part n).map λi=>I (i:Nat))->TF prog K (pt ik 0) (sl 92 ip 0 n) vf g):ay prog 54 [pt ik 0,sl 4 ia 0 n,sl 4 ib 0 n] h K:=by
 have n8:=m.n8
 refine f54 ?_
 unfold MV
 have sF:eM 92 64 [(.bool false),(.slice none 0 0),(.bool false),(.slice none 0 0)] h (I n) (I n)=some (sl 92 h.length 0 n,h++[.arr 92 (bE z4 n)]):=by
  simp only [eM]
  rw [if_pos (by omega)]
  simp [z4]
 have x1:EX h (h++[.arr 92 (bE z4 n)]):=EX.append _ _
 have q1:QL (h++[.arr 92 (bE z4 n)]) h.length n λ_=>none:=⟨λ_=>(false,.slice none 0 0,false,.slice none 0 0),by rw [bK,<-VH];rfl,λj _ r hr=>by cases hr⟩
 have m1:=m.up x1
 simp only [iS,cj,zero_add,ah,m.lJ,sF,aL,m1.lJ]
 have CN:(h++[az.arr 92 (bE z4 n)]).length=h.length+1:=by simp
 generalize h++[az.arr 92 (bE z4 n)]=g1 at x1 q1 CN⊢
 refine cN (σ:=Nat×Value×ae) (λq=>[q.2.1,I q.1]) (λq=>q.2.2) (λq=>q.1<=n/\EX h q.2.2/\h.length+1<=q.2.2.length/\QL q.2.2 h.length n (λj=>if j<q.1 then some (gP n D part dG j:Rat) else none)/\gA (h.length+1) q.2.2 3 q.2.1 ((cM part q.1).map λi=>I (i:Nat))) (λq=>n-q.1)
  (0,.slice none 0 0,g1) rfl rfl ⟨zero_le _,x1,by show h.length+1<=g1.length;omega,q1.congr λj _=>if_neg (not_lt_zero _),.inl ⟨rfl,rfl⟩⟩ ?_
 rintro ⟨k,vf,g⟩ ⟨fC,xg,gl,ql,own⟩ L hL
 simp only at fC xg gl ql own hL⊢
 rw [aHL]
 simp only [bW,ah,ca]
 refine ⟨λaw=>?_,λcJ=>?_⟩
 ·have aw:k<n:=by omega
  -- j6 aM1 is stored
  have put:∀(vf:Value) (g2:ae) (r:Value),EX h g2->h.length+1<=g2.length->QL g2 h.length n (λj=>if j<k then some (gP n D part dG j:Rat) else none)->RV g2 r (gP n D part dG k:Rat)->gA (h.length+1) g2 3 vf ((cM part (k+1)).map λi=>I (i:Nat))->
    OP (aD 4 (sl 92 h.length 0 n) (I k)) λfg=>OH (aU 4 g2 fg r) λ_ h_4=>DG prog K (pt ik 0) (sl 4 ia 0 n) (sl 4 ib 0 n) (sl 92 h.length 0 n) vf (I n) (I k) L h_4:=by
   intro vf g2 r x2 PK q2 hr oP
   obtain ⟨g3,s3,f3,q3⟩:=q2.set aw hr
   simp only [QL.eK aw,ah,s3,aL]
   rw [aHC]
   simp only [b7,ah,true_and]
   rw [dP k (by simp [maxLen];omega)]
   refine hL (k+1,vf,g3) ⟨aw,FR.iz x2 f3 λd hd=>by omega,le_trans PK f3.len,q3.congr λj hj=>?_,oP.iu λd q hv hd=>f3.iu d (oP.lt hv).2.1 (by omega)⟩ (by show n-(k+1)<n-k;omega)
   show (if j<k+1 then _ else _)=_
   by_cases e:j=k
   ·subst e;rw [fL,if_pos (by omega)]
   ·rw [ez _ _ e]
    by_cases h1:j<k
    ·rw [if_pos h1,if_pos (by omega)]
    ·rw [if_neg h1,if_neg (by omega)]
  have fs:=PC part k
  have rb:=m.pX aw
  simp only [BQ.eK aw,(pa.up xg).ld aw,ah]
  cases hp:part k
  ·simp only [dm,(pb.up xg).ld aw,ah]
   rw [hp,if_neg (by simp)] at fs
   cases hq:dG k
   ·have mg:=m.up xg
    obtain ⟨tv,tb,to,l1,l2,l3⟩:=mg.zL aw
    simp only [dm,iS,cj,zero_add,ah,l1,l2,l3]
    refine pL (by omega) (by omega) λr g2 x2 hr=>?_
    have e:gP n D part dG k=di n D k:=by simp [gP,hp,hq]
    exact put vf g2 r (xg.trans x2) (le_trans gl x2.1) (ql.up x2) (by rw [e];exact hr) (by rw [fs];exact own.iu λd q hv hd=>x2.2 d (own.lt hv).2.1)
   ·simp only [gf]
    refine pL (by omega) (by omega) λr g2 x2 hr=>?_
    have e:gP n D part dG k=0:=by simp [gP,hp,hq]
    exact put vf g2 r (xg.trans x2) (le_trans gl x2.1) (ql.up x2) (by rw [e];exact hr) (by rw [fs];exact own.iu λd q hv hd=>x2.2 d (own.lt hv).2.1)
  ·simp only [gf]
   rw [hp,if_pos rfl] at fs
   have fl:((cM part k).map λi=>I (i:Nat)).length<=8:=by
    rw [length_map]
    have:=List.length_filter_le part (List.range k)
    rw [List.length_range] at this
    unfold cM;omega
   refine auh own gl (by omega) (by simp only [maxLen];omega) rfl rfl (λw r e=>?_) λv2 g2 f2 oP pB=>?_
   ·cases kD:cM part k with
    | nil=>rw [kD] at e;cases e
    | cons a l=>rw [kD,map_cons] at e;cases (List.cons.inj e).1
   have x2:EX h g2:=FR.iz xg f2 λd ⟨q,hv⟩=>by have:=(own.lt hv).1;omega
   have q2:=ql.fr f2 λ⟨q,hv⟩=>by have:=(own.lt hv).1;omega
   refine pL (by omega) (by omega) λr g3 x3 hr=>?_
   have e:gP n D part dG k=0:=by simp [gP,hp]
   refine put v2 g3 r (x2.trans x3) (by have:=f2.len;have:=x3.1;omega) (q2.up x3) (by rw [e];exact hr) ?_
   rw [fs,map_append]
   exact oP.iu λd q hv hd=>x3.2 d (oP.lt hv).2.1
 ·have eW:k=n:=by omega
  subst eW
  exact hk vf g h.length xg (le_refl _) (ql.congr λj hj=>by rw [if_pos hj]) own
end
section
open Go.Sim Go.Sort
variable {h : ae} {K : Value -> ae -> Prop} {n : Nat}
def eE (fl:List Nat) (r:Nat):Nat:=fl.getD r 0
def AF (n:Nat) (D:Nat->Nat->Int) (fl:List Nat) (r c:Nat):Rat:=(if c=r then ((1:Int):Rat) else ((0:Int):Rat))+ -qE n D (eE fl c) (eE fl r)
def bF (n:Nat) (D:Nat->Nat->Int) (P:Nat->Int) (fl:List Nat) (r:Nat):Rat:=((mw n D P (eE fl r):Int):Rat)
def tF (n:Nat) (D:Nat->Nat->Int) (fl:List Nat) (c:Nat):Int:=if c=fl.length then 1 else di n D (eE fl c)
def NF (n:Nat) (D:Nat->Nat->Int) (P:Nat->Int) (fl:List Nat) (r c:Nat):Int:=if c=fl.length then mw n D P (eE fl r) else (if c=r then di n D (eE fl c) else 0)-D (eE fl c) (eE fl r)
theorem aKp {ik:Nat} {D:Nat->Nat->Int} (m:ki h ik n D) {j i:Nat} (hj:j<n) (hi:i<n):gU 5 (qE n D j i):=by
 have b1:=m.dZ j hj i hi
 have b2:=m.pX hj
 have b3:=m.HF hj hi
 by_cases h0:di n D j=0
 ·unfold qE
  rw [h0]
  exact ⟨by simp,by simp⟩
 ·exact Bz (by omega) (mW (by omega) (by omega)) (mW (by omega) (by omega))
theorem HN {fl:List Nat} (kD:∀i∈fl,i<n) {r:Nat} (hr:r<fl.length):eE fl r<n:=by
 unfold eE
 rw [getD_eq_getElem?_getD,getElem?_eq_getElem hr]
 exact kD _ (List.getElem_mem hr)
def RB (g:ae) (base:Nat) (vb:Value) (r:Nat) (bv:Nat->Rat) (ok:Nat->Prop):Prop:=(r=0/\vb=.slice none 0 0)∨∃ib,vb=sl 92 ib 0 r/\QL g ib r (λj=>some (bv j))/\base<=ib/\ok ib
theorem aoT {ik ip im r:Nat} {ids:Nat->Nat} {D:Nat->Nat->Int} {fl:List Nat} {vf vb dY dj:Value} {h0:ae} {L1:List Value->ae->Prop} {B:Nat->Nat->Rat} (m:ki h0 ik n D) (kD:∀i∈fl,i<n) (fl8:fl.length<=8) (hr:r<fl.length) (D9:NS h0 vf .i64 (fl.map λi:Nat=>(i:Int)))
  (yE:h0.length<=im/\∀i<fl.length,h0.length<=ids i) (x0:EX h0 h) (mq:MQ h im ids fl.length fl.length B) (hB:∀c,B r c=if c=r then ((1:Int):Rat) else ((0:Int):Rat))
  (hk:∀g,FR (λd=>d=ids r) h g->EX h0 g->MQ g im ids fl.length fl.length (λi c=>if i=r then AF n D fl r c else B i c)->TI prog K (pt ik 0) (sl 92 ip 0 n) vf (sl 84 im 0 fl.length) vb (I (eE fl r:Nat)) dY dj (I r) L1 g):
  bT [(.int .i64 (0))] h λL2 xs hx=>TH prog K (pt ik 0) (sl 92 ip 0 n) vf (sl 84 im 0 fl.length) vb (I r) (I (eE fl r:Nat)) dY dj (I r) vf (I fl.length) L1 L2 xs hx:=by
 refine cN (σ:=Nat×ae) (λq=>[I q.1]) (λq=>q.2) (λq=>q.1<=fl.length/\FR (λd=>d=ids r) h q.2/\MQ q.2 im ids fl.length fl.length (λi c=>if i=r/\c<q.1 then AF n D fl r c else B i c)) (λq=>fl.length-q.1)
  (0,h) rfl rfl ⟨zero_le _,FR.refl _ _,?_⟩ ?_
 ·have:(λi c=>if i=r/\c<0 then AF n D fl r c else B i c)=B:=by
   funext i c;rw [if_neg (by omega)]
  show MQ h im ids fl.length fl.length (λi c=>if i=r/\c<0 then AF n D fl r c else B i c)
  rw [this];exact mq
 rintro ⟨c,g⟩ ⟨hc,fr,mg⟩ L hL
 simp only at hc fr mg hL⊢
 have xg:EX h0 g:=FR.iz x0 fr λd hd=>by have:=yE.2 r hr;omega
 rw [aHF]
 simp only [bW,ah,ca]
 refine ⟨λaw=>?_,λcJ=>?_⟩
 ·have aw:c<fl.length:=by omega
  obtain ⟨fb,fo,fa,fd⟩:=(D9.mono xg).get c (by simpa using aw)
  have fe:(fl.map λi:Nat=>(i:Int))[c]'(by simpa using aw)=(eE fl c:Nat):=by
   unfold eE
   rw [getD_eq_getElem?_getD,getElem?_eq_getElem aw];simp
  rw [fe] at fd
  have h1:=HN kD aw
  have h2:=HN kD hr
  simp only [fa,fd,ah]
  refine Wg (m.up xg) h1 h2 λr1 g1 x1 kR=>?_
  refine Wh kR λr2 g2 x2 CX=>?_
  have mg2:=(mg.up x1).up x2
  have s1:gU 5 (if r=r/\c<c then AF n D fl r c else B r c):=by
   rw [if_neg (by omega),hB c]
   split
   ·exact mY (by decide) (by omega)
   ·exact mY (by decide) (by omega)
  refine Wj (a:=5) (b:=5) mg2 hr aw CX s1 (aKp m h1 h2).neg (by omega) λg3 f3 m3=>?_
  simp only [b7,ah,true_and]
  rw [dP c (by simp [maxLen];omega)]
  refine hL (c+1,g3) ⟨aw,(fr.trans (FR.ex (x1.trans x2))).trans f3,?_⟩ (by show fl.length-(c+1)<fl.length-c;omega)
  have:(λi c'=>if i=r/\c'<c+1 then AF n D fl r c' else B i c')=λp q=>if p=r/\q=c then (if r=r/\c<c then AF n D fl r c else B r c)+ -qE n D (eE fl c) (eE fl r) else if p=r/\q<c then AF n D fl r q else B p q:=by
   funext p q
   by_cases e:p=r/\q=c
   ·obtain ⟨rfl,rfl⟩:=e
    rw [if_pos ⟨rfl,by omega⟩,if_pos ⟨rfl,rfl⟩,if_neg (by omega),hB q];rfl
   ·rw [if_neg e]
    by_cases e2:p=r/\q<c
    ·rw [if_pos ⟨e2.1,by omega⟩,if_pos e2]
    ·rw [if_neg (by omega),if_neg e2]
  show MQ g3 im ids fl.length fl.length (λi c'=>if i=r/\c'<c+1 then AF n D fl r c' else B i c')
  rw [this];exact m3
 ·have:c=fl.length:=by omega
  subst this
  refine hk g fr xg ⟨mg.ho,λi hi=>(mg.hr i hi).congr λj hj=>?_,mg.inj,mg.nm⟩
  by_cases e:i=r
  ·subst e;rw [if_pos rfl,if_pos ⟨rfl,hj⟩]
  ·rw [if_neg e,if_neg (by omega)]
end
section
open Go.Sim Go.Sort
variable {h : ae} {K : Value -> ae -> Prop} {n : Nat}
def qC (n:Nat) (D:Nat->Nat->Int) (part dG:Nat->Bool) (j:Nat):Int:=if part j then di n D j else gP n D part dG j
theorem Cu {part:Nat->Bool} {k i:Nat}:i∈cM part k↔i<k/\part i=true:=by simp [cM]
theorem adR (part:Nat->Bool) (k:Nat):(cM part k).Nodup:=List.nodup_range.filter _
theorem V9 {ik ia ib:Nat} {D:Nat->Nat->Int} {part dG:Nat->Bool} {y:Nat->Int} (m:ki h ik n D) (pa:BQ h ia n part) (pb:BQ h ib n dG)
  (ok:p9 (cM part n).length (tF n D (cM part n)) y)
  (U5:lQ (cM part n).length 0 (tF n D (cM part n)) y (xo (cM part n).length (AF n D (cM part n)) (bF n D (gP n D part dG) (cM part n))) (NF n D (gP n D part dG) (cM part n)) 1)
  (hk:∀g ip,EX h g->h.length<=ip->QL g ip n (λj=>some (qC n D part dG j:Rat))->K (sl 92 ip 0 n) g):ay prog 54 [pt ik 0,sl 4 ia 0 n,sl 4 ib 0 n] h K:=by
 have n8:=m.n8
 refine aoS m pa pb λvf g0 ip x0 yG qp own=>?_
 rw [aHD]
 have kD:∀i∈cM part n,i<n:=λi hi=>(Cu.1 hi).1
 have hpm:∀i∈cM part n,part i=true:=λi hi=>(Cu.1 hi).2
 have oC:=adR part n
 have gR:∀i<n,part i=true->i∈cM part n:=λi h1 h2=>Cu.2 ⟨h1,h2⟩
 have q7:=ok.n7
 have D9:NS g0 vf .i64 ((cM part n).map λi:Nat=>(i:Int)):=by
  rcases own with ⟨rfl,e⟩ | ⟨i,_,rfl,hg⟩
  ·have:cM part n=[]:=by cases hh:cM part n with
    | nil=>rfl
    | cons a l=>rw [hh] at e;cases e
   rw [this];exact NS.nil _ _
  ·have:=NS.arr (h:=g0) (e:=3) (i:=i) (k:=.i64) (ns:=(cM part n).map λi:Nat=>(i:Int)) (by rw [hg,List.map_map];rfl) (by rw [length_map];simp only [maxLen];omega)
   simpa using this
 have pP:∀j<n,gP n D part dG j=0∨gP n D part dG j=di n D j:=λj _=>by
  unfold gP;split
  ·exact .inl rfl
  ·split
   ·exact .inl rfl
   ·exact .inr rfl
 have aBl:∀i,part i=true->qC n D part dG i=di n D i:=λi hi=>by unfold qC;rw [if_pos hi]
 have aBm:∀i,part i≠true->qC n D part dG i=gP n D part dG i:=λi hi=>by unfold qC;rw [if_neg hi]
 generalize cM part n=fl at*
 have vl:=D9.len
 rw [length_map] at vl
 have m0:=m.up x0
 simp only [vl,ah]
 refine C78 (by omega) λg1 im ids x1 AR yE mz=>?_
 refine cN (σ:=Nat×Value×ae) (λq=>[q.2.1,I q.1]) (λq=>q.2.2) (λq=>q.1<=fl.length/\EX g0 q.2.2/\g1.length<=q.2.2.length/\MQ q.2.2 im ids fl.length fl.length (λi c=>if i<q.1 then AF n D fl i c else 0)/\RB q.2.2 g0.length q.2.1 q.1 (bF n D (gP n D part dG) fl) λib=>ib≠im/\∀i<fl.length,ib≠ids i) (λq=>fl.length-q.1)
  (0,.slice none 0 0,g1) rfl rfl ⟨zero_le _,x1,le_refl _,?_,.inl ⟨rfl,rfl⟩⟩ ?_
 ·have:(λi c=>if i<0 then AF n D fl i c else 0)=λ_ _=>(0:Rat):=by funext i c;rw [if_neg (not_lt_zero _)]
  show MQ g1 im ids fl.length fl.length (λi c=>if i<0 then AF n D fl i c else 0)
  rw [this];exact mz
 rintro ⟨r,vb,g⟩ ⟨hr,xg,gl,mq,rb⟩ L hL
 simp only at hr xg gl mq rb hL⊢
 rw [aHE]
 simp only [bW,ah,ca]
 refine ⟨λaw=>?_,λcJ=>?_⟩
 ·have aw:r<fl.length:=by omega
  obtain ⟨fb,fo,fa,fd⟩:=(D9.mono xg).get r (by simpa using aw)
  have fe:(fl.map λi:Nat=>(i:Int))[r]'(by simpa using aw)=(eE fl r:Nat):=by
   unfold eE
   rw [getD_eq_getElem?_getD,getElem?_eq_getElem aw];simp
  rw [fe] at fd
  have h2:=HN kD aw
  simp only [fa,fd,ah]
  refine pL (by omega) (by omega) λr1 g2 x2 kR=>?_
  have mq2:=mq.up x2
  have s0:gU 5 (if r<r then AF n D fl r r else 0):=by rw [if_neg (by omega)];exact ⟨by decide,by decide⟩
  refine Wj (a:=5) (b:=5) mq2 aw aw kR s0 (mY (by decide) (by omega)) (by omega) λg3 f3 m3=>?_
  have ni:=xg.trans x2
  have xG:EX g0 g3:=FR.iz ni f3 λd hd=>by have:=yE r aw;omega
  simp only [vl,ah]
  refine aoT (ip:=ip) (h0:=g0) m0 kD (by omega) aw D9 ⟨AR,yE⟩ xG m3 (λc=>?_) λg4 f4 BC m4=>?_
  ·show (if r=r/\c=r then (if r<r then AF n D fl r r else 0)+((1:Int):Rat) else if r<r then AF n D fl r c else 0)=_
   rw [if_neg (show ¬r<r by omega),if_neg (show ¬r<r by omega)]
   by_cases e:c=r
   ·rw [if_pos ⟨rfl,e⟩,if_pos e,Rat.zero_add]
   ·rw [if_neg (λh=>e h.2),if_neg e];rfl
  ·rw [aHG]
   refine EC (m0.up BC) h2 (qp.up BC) (λj hj=>rfl) pP λr5 g5 x5 lH=>?_
   obtain ⟨c5,rfl⟩:=lH.cl
   have g25:FR (λd=>d=ids r) g g5:=((FR.ex x2).trans (f3.trans f4)).trans (FR.ex x5)
   have m5:=m4.up x5
   have nM:=BC.trans x5
   simp only [I0,aL]
   have x6:EX g5 (g5++[.arr 92 (cG c5)]):=EX.append _ _
   have c6:(g5++[az.arr 92 (cG c5)])[g5.length]?=some (.arr 92 (cG c5)):=bK
   have l6:(g5++[az.arr 92 (cG c5)]).length=g5.length+1:=by simp
   have sc:fx (g5++[az.arr 92 (cG c5)]) 4 (sl 92 g5.length 0 1)=some (cG c5):=by
    simp only [fx,sl,bw,c6,bind_some]
    rfl
   have Dk:∀i<fl.length,ids i<g5.length:=λi hi=>(m5.hr i hi).lt
   have img:im<g5.length:=(cm m5.ho).1
   have gl5:g0.length<=g5.length:=nM.1
   have fin:∀(Kk:Value) (g7:ae),EX g0 g7->g5.length<=g7.length->MQ g7 im ids fl.length fl.length (λi c=>if i=r then AF n D fl r c else if i=r/\c=r then (if r<r then AF n D fl r r else 0)+((1:Int):Rat) else if i<r then AF n D fl i c else 0)->
     RB g7 g0.length Kk (r+1) (bF n D (gP n D part dG) fl) (λib=>ib≠im/\∀i<fl.length,ib≠ids i)->TJ prog K (pt ik 0) (sl 92 ip 0 n) vf (sl 84 im 0 fl.length) Kk vf (I fl.length) (I r) L g7:=by
    intro Kk g7 x7 gl7 m7 rb7
    rw [aHH]
    simp only [b7,ah,true_and]
    rw [dP r (by simp only [maxLen];omega)]
    refine hL (r+1,Kk,g7) ⟨aw,x7,by have:=g25.len;show g1.length<=g7.length;omega,?_,rb7⟩ (by show fl.length-(r+1)<fl.length-r;omega)
    refine ⟨m7.ho,λi hi=>(m7.hr i hi).congr λj hj=>?_,m7.inj,m7.nm⟩
    have nr:i≠r->¬(i=r/\j=r):=λe h=>e h.1
    by_cases e:i=r
    ·rw [if_pos (show i<r+1 by omega),if_pos e,e]
    ·by_cases e2:i<r
     ·rw [if_pos (show i<r+1 by omega),if_neg e,if_neg (nr e),if_pos e2]
     ·rw [if_neg (show ¬i<r+1 by omega),if_neg e,if_neg (nr e),if_neg e2]
   rcases rb with ⟨rfl,rfl⟩ | ⟨ib,rfl,qb,Ie,nb1,Ds⟩
   ·have e3:cT 92 4 64 (g5++[az.arr 92 (cG c5)]) (.slice none 0 0) (sl 92 g5.length 0 1)=some (sl 92 (g5.length+1) 0 1,g5++[az.arr 92 (cG c5)]++[.arr 92 (cG c5)]):=by
     simp only [cT,sc]
     simp only [iY,sl]
     rw [if_neg (by omega),if_pos (by decide),l6]
    simp only [e3,aL]
    have x7:EX g5 (g5++[az.arr 92 (cG c5)]++[.arr 92 (cG c5)]):=x6.trans (EX.append _ _)
    refine fin _ _ (nM.trans x7) x7.1 (m5.up x7) (.inr ⟨g5.length+1,rfl,⟨λ_=>c5,?_,λj hj q hq=>?_⟩,by omega,by omega,λi hi=>by have:=Dk i hi;omega⟩)
    ·rw [List.getElem?_append_right (by simp)]
     simp [lS,range_succ]
    ·cases hq
     have:j=0:=by omega
     subst this
     exact lH.mono x7
   ·have qb5:=qb.fr g25 (Ds r aw)
    obtain ⟨cs,mP,DP⟩:=qb5.ob
    have ibg:ib<g5.length:=qb5.lt
    have tC:=x6.get mP
    by_cases r0:r=0
    ·subst r0
     obtain ⟨i',g7,a7,e7,m7,c7⟩:=uD (bytes:=64) (n:=0) tC (xX 0 cs) sc rfl (by omega) (by omega) (by simp only [maxLen];omega)
     have f7:=FR.xm m7 tC (λz r e=>by cases e)
     have f57:FR (λd=>d=ib) g5 g7:=(FR.ex x6).trans f7
     simp only [a7,aL]
     refine fin _ _ (FR.iz nM f57 λd hd=>by omega) f57.len (m5.fr f57 (Ne.symm nb1) λi hi h=>Ds i hi h.symm) (.inr ⟨i',rfl,⟨λ_=>c5,?_,λj hj q hq=>?_⟩,?_,?_,λi hi=>?_⟩)
     ·rw [c7];simp [lS,range_succ]
     ·cases hq
      have:j=0:=by omega
      subst this
      exact f57.rv _ _ lH
     ·rcases e7 with h | h <;> omega
     ·rcases e7 with h | h <;> omega
     ·have:=Dk i hi;have:=Ds i hi;rcases e7 with h | h <;> omega
    ·obtain ⟨i',g7,a7,e7,m7,c7⟩:=uD (bytes:=64) tC (xX r cs) sc rfl (by omega) (by omega) (by simp only [maxLen];omega)
     obtain ⟨s,rr,hh⟩:=Hi (by omega:0<r) cs
     have f7:=FR.xm m7 tC (by intro z r e;rw [hh] at e;cases e)
     have f57:FR (λd=>d=ib) g5 g7:=(FR.ex x6).trans f7
     simp only [a7,aL]
     refine fin _ _ (FR.iz nM f57 λd hd=>by omega) f57.len (m5.fr f57 (Ne.symm nb1) λi hi h=>Ds i hi h.symm) (.inr ⟨i',rfl,⟨λj=>if j=r then c5 else cs j,?_,λj hj q hq=>?_⟩,?_,?_,λi hi=>?_⟩)
     ·rw [c7,xY,if_pos rfl]
      congr 2
      rw [Hg (ds:=cs) λj hj=>if_neg (by omega)]
     ·cases hq
      show RV g7 (.agg (cG (if j=r then c5 else cs j)).toArray) _
      by_cases e:j=r
      ·subst e;rw [if_pos rfl];exact f57.rv _ _ lH
      ·rw [if_neg e];exact f57.rv _ _ (DP j (by omega) _ rfl)
     ·rcases e7 with h | h <;> omega
     ·rcases e7 with h | h <;> omega
     ·have:=Dk i hi;have:=Ds i hi;rcases e7 with h | h <;> omega
 ·have hrq:r=fl.length:=by omega
  subst hrq
  have mA:MQ g im ids fl.length fl.length (AF n D fl):=⟨mq.ho,λi hi=>(mq.hr i hi).congr λj hj=>by rw [if_pos hi],mq.inj,mq.nm⟩
  rw [aHI]
  have t1:tF n D fl fl.length=1:=if_pos rfl
  have go:∀ib,ib≠im/\(∀i<fl.length,ib≠ids i)->(fl.length=0∨(vb=sl 92 ib 0 fl.length/\QL g ib fl.length λj=>some (bF n D (gP n D part dG) fl j)))->ay prog 80 [sl 84 im 0 fl.length,vb] g λka h_1=>OP (aT ka) λjT=>bT [(.int .i64 (0))] h_1 λL1 xs hx=>TK prog K (sl 92 ip 0 n) vf ka jT L1 xs hx:=by
   intro ib H5 hb
   refine C80 ok t1 mA hb H5 U5 λg2 ix f2 Ih qx=>?_
   have ni:EX g0 g2:=FR.iz xg f2 λd hd=>by
    rcases hd with hd | ⟨i,hi,hd⟩
    ·omega
    ·have:=yE i hi;omega
   have lx:aT (sl 92 ix 0 fl.length)=some (I fl.length):=rfl
   simp only [lx,ah]
   refine cN (σ:=Nat×ae) (λq=>[I q.1]) (λq=>q.2) (λq=>q.1<=fl.length/\EX h q.2/\FR (λd=>d=ip∨g2.length<=d) g2 q.2/\QL q.2 ip n (λj=>some ((if j∈fl.take q.1 then di n D j else gP n D part dG j:Int):Rat))) (λq=>fl.length-q.1)
    (0,g2) rfl rfl ⟨zero_le _,x0.trans ni,FR.refl _ _,(qp.up ni).congr λj hj=>by simp⟩ ?_
   rintro ⟨k,g3⟩ ⟨fC,x3,f3,q3⟩ L2 dO
   simp only at fC x3 f3 q3 dO⊢
   rw [aHJ]
   simp only [bW,ah,ca]
   refine ⟨λaw=>?_,λcJ=>?_⟩
   ·have aw:k<fl.length:=by omega
    have ipx:ip<ix:=by have:=qp.lt;have:=xg.1;omega
    have Rn:ix<g2.length:=qx.lt
    obtain ⟨vx,lvx,rvx⟩:=(qx.fr f3 (by omega)).get aw rfl
    have tk:tF n D fl k=di n D (eE fl k):=if_neg (by omega)
    rw [tk] at rvx
    have x4:EX g3 (g3++[.arr 92 z4]):=EX.append _ _
    have c4:(g3++[az.arr 92 z4])[g3.length]?=some (.arr 92 z4):=bK
    simp only [QL.eK aw,lvx,ah,rQ,aL]
    have g3l:g2.length<=g3.length:=f3.len
    obtain ⟨g5,s5,ld5,r5,f5,c5,hc5,rfl⟩:=(rvx.mono x4).w6 c4
    have cB:EX g3 g5:=FR.iz x4 f5 λd hd=>by omega
    have nsk:∃b o,aD 1 vf (I k)=some (pt b o)/\af false 1 g5 (pt b o)=some (I (eE fl k:Nat)):=by
     have f25:FR (λd=>d=ip) g2 g5:=⟨le_trans f3.len cB.1,λd h1 h2=>by rw [cB.2 d (lt_of_lt_of_le h1 f3.len)];exact f3.iu d h1 (by omega),λv q p=>(f3.rv v q p).mono cB⟩
     have fe:(fl.map λi:Nat=>(i:Int))[k]'(by simpa using aw)=(eE fl k:Nat):=by
      unfold eE
      rw [getD_eq_getElem?_getD,getElem?_eq_getElem aw];simp
     rcases own with ⟨_,e⟩ | ⟨i,hi,rfl,hg⟩
     ·have:=congrArg List.length e
      rw [length_map] at this
      have:fl.length=0:=this
      omega
     ·have P6:g5[i]?=some (.arr 3 (fl.map λi=>I (i:Nat))):=f25.get (by omega) (ni.get hg)
      refine ⟨i,k,jL (by simpa using aw),?_⟩
      have:eE fl k=fl[k]:=by
       unfold eE
       rw [getD_eq_getElem?_getD,getElem?_eq_getElem aw];simp
      rw [this]
      simp [af,bw,P6,dS,aw]
    obtain ⟨fb,fo,fa,fd⟩:=nsk
    have h2:=HN kD aw
    obtain ⟨g6,s6,f6,q6⟩:=(q3.up cB).set h2 r5
    simp only [s5,aL,fa,fd,ah,true_and,ld5,QL.eK h2,s6,b7]
    rw [dP k (by simp only [maxLen];omega)]
    refine dO (k+1,g6) ⟨aw,FR.iz (x3.trans cB) f6 λd hd=>by omega,(f3.trans (FR.ex cB)).tail f6 λd hd=>.inl (.inl hd),q6.congr λj hj=>?_⟩ (by show fl.length-(k+1)<fl.length-k;omega)
    have fk:eE fl k=fl[k]:=by
     unfold eE
     rw [getD_eq_getElem?_getD,getElem?_eq_getElem aw];simp
    show some _=_
    rw [List.take_succ_eq_append_getElem aw]
    by_cases e:j=eE fl k
    ·rw [e,fL,if_pos (by rw [fk];exact List.mem_append_right _ (List.mem_singleton.2 rfl))]
    ·rw [ez _ _ e]
     have:(j∈fl.take k++[fl[k]])=(j∈fl.take k):=by
      rw [List.mem_append,List.mem_singleton,<-fk,eq_iff_iff]
      exact ⟨λh=>h.resolve_right e,.inl⟩
     simp only [this]
   ·have hkq:k=fl.length:=by omega
    subst hkq
    rw [aHK]
    refine hk g3 ip x3 yG (q3.congr λj hj=>?_)
    rw [List.take_length]
    by_cases e:part j=true
    ·rw [aBl j e,if_pos (gR j hj e)]
    ·rw [aBm j e,if_neg λh=>e (hpm j h)]
  rcases rb with ⟨h0,rfl⟩ | ⟨ib,rfl,qb,_,nb⟩
  ·exact go g.length ⟨λe=>by have:=(cm mA.ho).1;omega,λi hi e=>by have:=(mA.hr i hi).lt;omega⟩ (.inl h0)
  ·exact go ib nb (.inr ⟨rfl,qb⟩)
end
section
open Go.Sim Go.Sort
variable {h : ae} {K : Value -> ae -> Prop} {n : Nat}
theorem aec {ik:Nat} {D:Nat->Nat->Int} (m:ki h ik n D) (bl:nN n D) {i:Nat} (hi:i<n):mw n D (di n D) i=di n D i:=by
 rw [bl.wo i hi]
 refine gn λj hj=>?_
 by_cases h0:di n D j=0
 ·rw [if_pos h0]
  have h1:=(m.dZ j hj i hi).1
  have h2:=m.HF hj hi
  omega
 ·rw [if_neg h0]
theorem adf (p:Rat):uH p p=0:=if_pos rfl
theorem aKQ {t y:Nat->Int} {A:Nat->Nat->Rat} {N:Nat->Nat->Int}:lQ 0 0 t y A N 1:=
 ⟨by decide,by decide,λr _ hr=>absurd hr (not_lt_zero _),λr _ hr=>absurd hr (not_lt_zero _),λr _ hr=>absurd hr (not_lt_zero _),λr _ hr=>absurd hr (not_lt_zero _),λr _ hr=>absurd hr (not_lt_zero _)⟩
theorem aKK {n:Nat} {D:Nat->Nat->Int}:p9 0 (tF n D []) λ_=>1:=by
 have t:∀c≤0,tF n D [] c=1:=λc hc=>if_pos (by simpa using hc)
 exact ⟨by omega,λc hc=>by rw [t c hc];decide,λc hc=>by rw [t c hc];decide,λ_ _=>by decide⟩
theorem adS {part:Nat->Bool} {k:Nat} (h:∀i<k,part i=false):cM part k=[]:=by
 unfold cM
 rw [List.filter_eq_nil_iff]
 intro i hi
 rw [h i (mem_range.1 hi)];simp
theorem Dv {g:ae} {id m:Nat} {f:Nat->Bool} (p:BQ g id n f):∃u,∀g':ae,g'[id]?=g[id]?->eA g' (sl 4 id 0 m)=some u:=by
 have:∃u,mN id (.arr 4 ((List.range n).map λi=>B (f i)))=some u:=by simp [mN]
 obtain ⟨u,hu⟩:=this
 refine ⟨u,λg' h'=>?_⟩
 unfold BQ at p
 simp only [eA,vA,sl,bind_some,h',p]
 exact hu
theorem Kt {ik:Nat} {D:Nat->Nat->Int} (m:ki h ik n D) (bl:nN n D)
  (hk:∀g ip,EX h g->h.length<=ip->QL g ip n (λj=>some (di n D j:Rat))->K (.tuple #[.slice none 0 0,sl 92 ip 0 n]) g):ay prog 32 [pt ik 0] h K:=by
 have n8:=m.n8
 refine f32 ?_
 unfold My
 have p1:BQ (h++[.arr 4 ((List.range n).map λ_=>B false)]) h.length n λ_=>false:=bK
 have x1:EX h (h++[.arr 4 ((List.range n).map λ_=>B false)]):=EX.append _ _
 obtain ⟨u,hu⟩:=Dv (m:=n) p1
 have l1:h.length<(h++[az.arr 4 ((List.range n).map λ_=>B false)]).length:=by simp
 have m1:=m.up x1
 simp only [iS,cj,zero_add,ah,m.lJ,BQ.make h n8,aL,true_and,hu _ rfl,m1.lJ,and_true]
 generalize hia:h.length=ia at p1 hu l1⊢
 generalize h++[az.arr 4 ((List.range n).map λ_=>B false)]=g1 at x1 p1 hu l1 m1⊢
 have p2:BQ (g1++[.arr 4 ((List.range n).map λ_=>B false)]) g1.length n λ_=>false:=bK
 have x2:EX g1 (g1++[.arr 4 ((List.range n).map λ_=>B false)]):=EX.append _ _
 obtain ⟨u2,lV⟩:=Dv (m:=n) p2
 simp only [BQ.make g1 n8,aL,lV _ rfl,ah,hu _ (x2.2 _ l1),(m1.up x2).lJ,true_and,and_true]
 have p1:=p1.up x2
 have m2:=m1.up x2
 have zO:=x1.trans x2
 generalize g1.length=ib at p2⊢
 generalize g1++[az.arr 4 ((List.range n).map λ_=>B false)]=g2 at p1 p2 m2 zO⊢
 refine cN (σ:=Unit) (λ_=>[.slice none 0 0]) (λ_=>g2) (λ_=>True) (λ_=>0) () rfl rfl trivial ?_
 intro _ _ L _
 rw [aF0]
 have fe:cM (λ_=>false) n=[]:=adS λ_ _=>rfl
 refine V9 (y:=λ_=>1) m2 p1 p2 (by rw [fe];exact aKK) (by rw [fe];exact aKQ) λg3 ip x3 yG qp=>?_
 have qp:QL g3 ip n λj=>some (di n D j:Rat):=qp.congr λj hj=>by simp [qC,gP]
 have m3:=m2.up x3
 have p3:=p1.up x3
 simp only [iS,cj,zero_add,ah,m3.lJ]
 refine cN (σ:=Nat×ae) (λq=>[.slice none 0 0,I q.1]) (λq=>q.2) (λq=>q.1<=n/\EX g3 q.2) (λq=>n-q.1) (0,g3) rfl rfl ⟨zero_le _,EX.refl _⟩ ?_
 rintro ⟨k,g⟩ ⟨fC,xg⟩ L2 dO
 simp only at fC xg dO⊢
 rw [aFX]
 simp only [bW,ah,ca]
 refine ⟨λaw=>?_,λcJ=>?_⟩
 ·have aw:k<n:=by omega
  have mg:=m3.up xg
  obtain ⟨tv,tb,to,t1,t2,t3⟩:=mg.zL aw
  have rb:=m.pX aw
  simp only [BQ.eK aw,(p3.up xg).ld aw,ah,true_and,kW,Bool.not_false,gK]
  refine EC mg aw (qp.up xg) (λj hj=>rfl) (λj hj=>.inr rfl) λr4 g4 x4 yM=>?_
  rw [aec m bl aw] at yM
  simp only [iS,cj,zero_add,ah,t1,EX.load x4 t1,t2,t3,EX.load x4 t3,true_and,and_true]
  refine pL (by omega) (by omega) λr5 g5 x5 lH=>?_
  have sz:gU 5 (di n D k:Rat):=mY (mW (by omega) (by omega)) (by omega)
  refine EB (yM.mono x5) lH sz sz (by omega) λg6 x6=>?_
  have e0:decide ((0:Int)<0)=false:=by decide
  simp only [adf,bW,ah,e0,fy,dm]
  rw [aFY]
  simp only [b7,ah,true_and]
  rw [dP k (by simp only [maxLen];omega)]
  exact dO (k+1,g6) ⟨aw,xg.trans ((x4.trans x5).trans x6)⟩ (by show n-(k+1)<n-k;omega)
 ·rw [aFZ]
  have en:oG false (.slice none 0 0) (.slice none 0 0)=some (B true):=rfl
  simp only [en,ah,gf]
  exact hk g ip ((zO.trans x3).trans xg) (by have:=zO.1;omega) (qp.up xg)
theorem C11 {eX:Nat} {iP:Nat->Nat} {D:Nat->Nat->Int} {cv:Value} (bl:nN n D) (md:MR h eX iP n D) (nc:NS h cv .i64 (replicate n 0))
  (hk:∀v g,EX h g->gA h.length g 53 v ((List.range n).map λj=>S (kr (di n D j)))->K (.tuple #[v,I 0]) g):ay prog 11 [cv,sl 34 eX 0 n] h K:=by
 refine f11 ?_
 unfold LJ
 refine Ez bl.n1 bl.dZ bl.diag md nc λg1 ik x1 m=>?_
 simp only [fM,gi,gj,ah,kW,Bool.not_true,dm]
 refine Kt m bl λg2 ip x2 yG qp=>?_
 simp only [fM,gi,gj,ah]
 refine Ku bl.n8 qp (λj hj=>rfl) (λj hj=>m.pX hj) λv g3 x3 own=>?_
 simp only [fM,gi,gj,ah]
 exact hk v g3 (x1.trans (x2.trans x3)) (own.imp id λ⟨i,a,b⟩=>⟨i,le_trans (x1.trans x2).1 a,b⟩)
theorem C14 {eX:Nat} {iP:Nat->Nat} {D:Nat->Nat->Int} {cv:Value} (bl:nN n D) (md:MR h eX iP n D) (nc:NS h cv .i64 (replicate n 0))
  (hk:∀g,EX h g->K (.tuple #[.slice none 0 0,I 0]) g):ay prog 14 [cv,sl 34 eX 0 n] h K:=by
 refine f14 ?_
 unfold L8
 refine Ez bl.n1 bl.dZ bl.diag md nc λg1 ik x1 m=>?_
 simp only [fM,gi,gj,ah,kW,Bool.not_true,dm]
 refine Kt m bl λg2 ip x2 yG qp=>?_
 simp only [fM,gi,gj,ah]
 exact hk g2 (x1.trans x2)
end
section
open Go.Sim Go.Sort
variable {h : ae} {K : Value -> ae -> Prop} {n : Nat}
def RQ (g:ae) (base:Nat) (vb:Value) (r:Nat) (q:Nat->Rat):Prop:=(r=0/\vb=.slice none 0 0)∨(0<r/\∃ib,vb=sl 92 ib 0 r/\QL g ib r (λj=>some (q j))/\base<=ib)
theorem RQ.up {g g':ae} {base r:Nat} {vb:Value} {q:Nat->Rat} (o:RQ g base vb r q) (x:EX g g'):RQ g' base vb r q:=
 o.imp id λ⟨a,ib,b,c,d⟩=>⟨a,ib,b,c.up x,d⟩
theorem auj {g:ae} {base r:Nat} {v vb:Value} {q:Nat->Rat} (o:RQ g base vb r q) (hx:RV g v (q r)) (hr:r<100) (hb:base<=g.length) (hk:∀v' g',FR (λd=>base<=d) g g'->RQ g' base v' (r+1) q->K v' g'):
  OH (cH 92 1 [(.bool false),(.slice none 0 0),(.bool false),(.slice none 0 0)] g [(0,4,v)]) λa h2=>OH (cT 92 4 64 h2 vb a) K:=by
 obtain ⟨c5,rfl⟩:=hx.cl
 have x6:EX g (g++[.arr 92 (cG c5)]):=EX.append _ _
 have c6:(g++[az.arr 92 (cG c5)])[g.length]?=some (.arr 92 (cG c5)):=bK
 have l6:(g++[az.arr 92 (cG c5)]).length=g.length+1:=by simp
 have sc:fx (g++[az.arr 92 (cG c5)]) 4 (sl 92 g.length 0 1)=some (cG c5):=by
  simp only [fx,sl,bw,c6,bind_some]
  rfl
 simp only [I0,aL]
 rcases o with ⟨rfl,rfl⟩ | ⟨r0,ib,rfl,qb,Ie⟩
 ·have e3:cT 92 4 64 (g++[az.arr 92 (cG c5)]) (.slice none 0 0) (sl 92 g.length 0 1)=some (sl 92 (g.length+1) 0 1,g++[az.arr 92 (cG c5)]++[.arr 92 (cG c5)]):=by
   simp only [cT,sc]
   simp only [iY,sl]
   rw [if_neg (by omega),if_pos (by decide),l6]
  simp only [e3,aL]
  have x7:EX g (g++[az.arr 92 (cG c5)]++[.arr 92 (cG c5)]):=x6.trans (EX.append _ _)
  refine hk _ _ (FR.ex x7) (.inr ⟨by omega,g.length+1,rfl,⟨λ_=>c5,?_,λj hj q' hq=>?_⟩,by omega⟩)
  ·rw [List.getElem?_append_right (by simp)]
   simp [lS,range_succ]
  ·cases hq
   have:j=0:=by omega
   subst this
   exact hx.mono x7
 ·obtain ⟨cs,mP,DP⟩:=qb.ob
  have tC:=x6.get mP
  obtain ⟨i',g7,a7,e7,m7,c7⟩:=uD (bytes:=64) tC (xX r cs) sc rfl (by omega) (by omega) (by simp only [maxLen];omega)
  obtain ⟨s,rr,hh⟩:=Hi r0 cs
  have f7:=FR.xm m7 tC (by intro z r e;rw [hh] at e;cases e)
  have f57:FR (λd=>d=ib) g g7:=(FR.ex x6).trans f7
  simp only [a7,aL]
  refine hk _ _ (f57.Vd λd hd=>by omega) (.inr ⟨by omega,i',rfl,⟨λj=>if j=r then c5 else cs j,?_,λj hj q' hq=>?_⟩,?_⟩)
  ·rw [c7,xY,if_pos rfl]
   congr 2
   rw [Hg (ds:=cs) λj hj=>if_neg (by omega)]
  ·cases hq
   show RV g7 (.agg (cG (if j=r then c5 else cs j)).toArray) _
   by_cases e:j=r
   ·subst e;rw [if_pos rfl];exact f57.rv _ _ hx
   ·rw [if_neg e];exact f57.rv _ _ (DP j (by omega) _ rfl)
  ·rcases e7 with h | h <;> omega
theorem C13 {eX:Nat} {iP:Nat->Nat} {D:Nat->Nat->Int} {cv:Value} (bl:nN n D) (md:MR h eX iP n D) (nc:NS h cv .i64 (replicate n 0))
  (hk:∀v g,EX h g->gA h.length g 53 v ((List.range n).map λ_=>S (kr 0))->K (.tuple #[v,I 0]) g):ay prog 13 [cv,sl 34 eX 0 n] h K:=by
 have n8:=bl.n8;have n1:=bl.n1
 refine f13 ?_
 unfold L6
 refine Ez bl.n1 bl.dZ bl.diag md nc λg1 ik x1 m=>?_
 simp only [fM,gi,gj,ah,kW,Bool.not_true,dm]
 refine Kt m bl λg2 ip x2 yG qp=>?_
 have m2:=m.up x2
 simp only [fM,gi,gj,ah,iS,cj,zero_add,m2.lJ]
 refine cN (σ:=Nat×Value×ae) (λq=>[q.2.1,I q.1]) (λq=>q.2.2) (λq=>q.1<=n/\EX g2 q.2.2/\RQ q.2.2 g2.length q.2.1 q.1 λ_=>((0:Int):Rat)) (λq=>n-q.1)
  (0,.slice none 0 0,g2) rfl rfl ⟨zero_le _,EX.refl _,.inl ⟨rfl,rfl⟩⟩ ?_
 rintro ⟨k,vb,g⟩ ⟨fC,xg,rq⟩ L hL
 simp only at fC xg rq hL⊢
 rw [aEm]
 simp only [bW,ah,ca]
 refine ⟨λaw=>?_,λcJ=>?_⟩
 ·have aw:k<n:=by omega
  have rb:=m.pX aw
  refine EC (m2.up xg) aw (qp.up xg) (λj hj=>rfl) (λj hj=>.inr rfl) λr4 g4 x4 yM=>?_
  rw [aec m bl aw] at yM
  obtain ⟨vp,lp,rp⟩:=(qp.up xg).get aw rfl
  have sz:gU 5 (di n D k:Rat):=mY (mW (by omega) (by omega)) (by omega)
  simp only [QL.eK aw,lp,EX.load x4 lp,ah,true_and,and_true]
  refine Kv yM (rp.mono x4) sz sz (by omega) λr5 g5 x5 lH=>?_
  have e0:(di n D k:Rat)-(di n D k:Rat)=((0:Int):Rat):=by rw [<-Rat.intCast_sub,Int.sub_self]
  rw [e0] at lH
  have dC:=x4.trans x5
  refine auj (rq.up dC) lH (by omega) (by have:=(xg.trans dC).1;omega) λv6 g6 f6 rq6=>?_
  simp only [b7,ah]
  rw [dP k (by simp only [maxLen];omega)]
  exact hL (k+1,v6,g6) ⟨aw,FR.iz (xg.trans dC) f6 λd hd=>hd,rq6⟩ (by show n-(k+1)<n-k;omega)
 ·have eW:k=n:=by omega
  subst eW
  rw [aEn]
  obtain ⟨_,ib,rfl,qb,Ie⟩:=rq.resolve_left (by omega)
  refine Ku n8 qb (λj hj=>rfl) (λj hj=>by omega) λv g3 x3 own=>?_
  simp only [fM,gi,gj,ah]
  have x:=(x1.trans x2).trans xg
  exact hk v g3 (x.trans x3) (own.imp id λ⟨i,a,b⟩=>⟨i,le_trans x.1 a,b⟩)
end
section
open Go.Sim Go.Sort
variable {h : ae} {K : Value -> ae -> Prop} {n : Nat}
def iE:Nat->(Nat->Bool)->Nat
 | 0,_=>0
 | n+1,f=>iE n f+if f n then 0 else 1
theorem ay9 (n:Nat) (f:Nat->Bool):iE n f<=n:=by
 induction n with
 | zero=>exact le_refl _
 | succ n ih=>unfold iE;split <;> omega
theorem O2 {f:Nat->Bool} {j:Nat} (hf:f j=false):∀{n:Nat},iE n (dU f j true)=iE n f-(if j<n then 1 else 0)/\(j<n->0<iE n f)
 | 0=>⟨rfl,λh=>absurd h (not_lt_zero _)⟩
 | n+1=>by
  obtain ⟨h1,h2⟩:=O2 hf (n:=n)
  show iE n (dU f j true)+(if dU f j true n then 0 else 1)=iE n f+(if f n then 0 else 1)-_/\_
  by_cases e:j=n
  ·subst e
   rw [h1,fL,if_neg (Nat.lt_irrefl _)]
   rw [hf]
   refine ⟨by simp,λ_=>?_⟩
   show 0<iE j f+(if f j then 0 else 1)
   rw [hf];simp
  ·rw [ez _ _ (Ne.symm e),h1]
   by_cases hj:j<n
   ·have h3:=h2 hj
    have a1:(if j<n then 1 else 0)=1:=if_pos hj
    have a2:(if j<n+1 then 1 else 0)=1:=if_pos (by omega)
    rw [a1,a2]
    refine ⟨by omega,λ_=>?_⟩
    show 0<iE n f+_
    omega
   ·have a1:(if j<n then 1 else 0)=0:=if_neg hj
    have a2:(if j<n+1 then 1 else 0)=0:=if_neg (by omega)
    rw [a1,a2]
    exact ⟨by omega,λh=>by omega⟩
structure Fu (n:Nat) (D:Nat->Nat->Int) (full out:Nat->Bool):Prop where
 cl:∀i<n,∀j<n,0<D i j->(full i=true∨out i=true)->out j=true
 em:(∀i<n,full i=false)->∀i<n,out i=false
theorem C57 {ik ia:Nat} {D:Nat->Nat->Int} {full:Nat->Bool} (m:ki h ik n D) (pf:BQ h ia n full)
  (hk:∀g io out,EX h g->h.length<=io->BQ g io n out->Fu n D full out->K (sl 4 io 0 n) g):ay prog 57 [pt ik 0,sl 4 ia 0 n] h K:=by
 have n8:=m.n8
 refine f57 ?_
 unfold MY
 have p1:BQ (h++[.arr 4 ((List.range n).map λ_=>B false)]) h.length n λ_=>false:=bK
 have x1:EX h (h++[.arr 4 ((List.range n).map λ_=>B false)]):=EX.append _ _
 have lo:aT (sl 4 h.length 0 n)=some (I n):=rfl
 simp only [iS,cj,zero_add,ah,m.lJ,BQ.make h n8,aL,lo]
 generalize h++[az.arr 4 ((List.range n).map λ_=>B false)]=g1 at x1 p1⊢
 -- aMV has OW
 refine cN (σ:=Nat×ae) (λq=>[I q.1]) (λq=>q.2) (λq=>q.1<=n/\EX h q.2/\BQ q.2 h.length n λ_=>false) (λq=>n-q.1) (0,g1) rfl rfl ⟨zero_le _,x1,p1⟩ ?_
 rintro ⟨k,g⟩ ⟨fC,xg,p⟩ L hL
 simp only at fC xg p hL⊢
 rw [aHX]
 simp only [bW,ah,ca]
 refine ⟨λaw=>?_,λcJ=>?_⟩
 ·have aw:k<n:=by omega
  obtain ⟨cv,cb,co,l1,l2,l3⟩:=(m.up xg).OW aw
  obtain ⟨g2,s2,f2,p2,_⟩:=p.set aw false
  have e0:decide ((0:Int)<0)=false:=by decide
  simp only [iS,cj,zero_add,ah,l1,l2,l3,gY,e0,BQ.eK aw,s2,aL,b7,true_and]
  rw [dP k (by simp only [maxLen];omega)]
  refine hL (k+1,g2) ⟨aw,FR.iz xg f2 λd hd=>by omega,?_⟩ (by show n-(k+1)<n-k;omega)
  have:dU (λ_=>false) k false=λ_:Nat=>false:=by
   funext j;unfold dU;split <;> rfl
  rw [this] at p2
  exact p2
 clear hL
 rw [aHO]
 refine cN (σ:=Bool×(Nat->Bool)×ae) (λq=>[B q.1]) (λq=>q.2.2) (λq=>EX h q.2.2/\BQ q.2.2 h.length n q.2.1/\((∀i<n,full i=false)->∀i<n,q.2.1 i=false)/\(q.1=false->∀i<n,∀j<n,0<D i j->(full i=true∨q.2.1 i=true)->q.2.1 j=true)) (λq=>2*iE n q.2.1+if q.1 then 1 else 0)
  (true,λ_=>false,g) rfl rfl ⟨xg,p,λ_ _ _=>rfl,λh=>by cases h⟩ ?_
 rintro ⟨more,rG,g⟩ ⟨xg,p,em,cl⟩ L1 lD
 simp only at xg p em cl lD⊢
 rw [aHP]
 cases more
 ·simp only [dm]
  rw [aHW]
  exact hk g h.length rG xg (le_refl _) p ⟨cl rfl,em⟩
 simp only [gf,iS,cj,zero_add,ah,(m.up xg).lJ]
 -- j6 state of a pass
 let J:(Nat->Bool)->Bool->(Nat->Bool)->ae->Nat->Nat->Prop:=λ_ more out g i j=>EX h g/\BQ g h.length n out/\((∀i<n,full i=false)->∀i<n,out i=false)/\(more=true->iE n out<iE n rG)/\(more=false->out=rG/\∀x<n,∀z<n,(x<i∨(x=i/\z<j))->0<D x z->(full x=true∨rG x=true)->rG z=true)
 refine cN (σ:=Nat×Bool×(Nat->Bool)×ae) (λq=>[B q.2.1,I q.1]) (λq=>q.2.2.2) (λq=>q.1<=n/\J rG q.2.1 q.2.2.1 q.2.2.2 q.1 0) (λq=>n-q.1)
  (0,false,rG,g) rfl rfl ⟨zero_le _,xg,p,em,(λh=>by cases h),λ_=>⟨rfl,λx hx z hz hh=>by have:x<0∨(x=0/\z<0):=hh;omega⟩⟩ ?_
 rintro ⟨i,more,out,g⟩ ⟨hi,jj⟩ L2 dO
 simp only at hi jj dO⊢
 rw [aHQ]
 simp only [bW,ah,ca]
 refine ⟨λaw=>?_,λcJ=>?_⟩
 ·have aw:i<n:=by omega
  simp only [iS,cj,zero_add,ah,(m.up jj.1).lJ]
  refine cN (σ:=Nat×Bool×(Nat->Bool)×ae) (λq=>[B q.2.1,I q.1]) (λq=>q.2.2.2) (λq=>q.1<=n/\J rG q.2.1 q.2.2.1 q.2.2.2 i q.1) (λq=>n-q.1)
   (0,more,out,g) rfl rfl ⟨zero_le _,jj⟩ ?_
  rintro ⟨j,more,out,g⟩ ⟨hj,xg,p,em,c1,c2⟩ L3 Cz
  simp only at hj xg p em c1 c2 Cz⊢
  rw [aHR]
  simp only [bW,ah,ca]
  refine ⟨λdR=>?_,λcJ=>?_⟩
  ·have dR:j<n:=by omega
   obtain ⟨dv,b,o,w,b',o',e1,e2,e3,e4,e5⟩:=(m.up xg).Pc aw dR
   simp only [iS,cj,zero_add,ah,e1,e2,e3,e4,e5,gY]
   have rE:∀(more:Bool) (out:Nat->Bool) (g:ae),J rG more out g i (j+1)->Jx prog K (pt ik 0) (sl 4 ia 0 n) (sl 4 h.length 0 n) (B more) (I i) (I n) (I i) (I n) (I j) L1 L2 L3 g:=by
    intro more out g jj
    rw [aHU]
    simp only [b7,ah,true_and]
    rw [dP j (by simp only [maxLen];omega)]
    exact Cz (j+1,more,out,g) ⟨dR,jj⟩ (by show n-(j+1)<n-j;omega)
   -- nothing is put in
   have no:(0<D i j->(full i=true∨out i=true)->out j=true)->J rG more out g i (j+1):=λhh=>⟨xg,p,em,c1,λhm=>by
    obtain ⟨rfl,c3⟩:=c2 hm
    refine ⟨rfl,λx hx z hz h1 h2 h3=>?_⟩
    by_cases e:x=i/\z=j
    ·obtain ⟨rfl,rfl⟩:=e;exact hh h2 h3
    ·exact c3 x hx z hz (by omega) h2 h3⟩
   have Ty:∀bq:Bool,(bq=true->0<D i j/\(full i=true∨out i=true))->(bq=false->¬(0<D i j/\(full i=true∨out i=true)))->TP prog K (pt ik 0) (sl 4 ia 0 n) (sl 4 h.length 0 n) (B more) (I i) (I j) (I n) (I i) (I n) (I j) (B bq) L1 L2 L3 g:=by
    intro bq h1 h2
    rw [aHT]
    cases bq
    ·simp only [jd]
     rw [ane]
     simp only [dA,ah,dm]
     exact rE more out g (no λa b=>absurd ⟨a,b⟩ (h2 rfl))
    ·simp only [gK,BQ.eK dR,p.ld dR,ah,kW]
     rw [ane]
     cases ho:out j
     ·simp only [Bool.not_false,fy,ah,gf,BQ.eK dR]
      obtain ⟨g2,s2,f2,p2,_⟩:=p.set dR true
      simp only [s2,aL]
      obtain ⟨k1,k2⟩:=O2 (n:=n) ho
      have k3:=k2 dR
      rw [if_pos dR] at k1
      refine rE true _ g2 ⟨FR.iz xg f2 λd hd=>by omega,p2,λhf x hx=>?_,λ_=>?_,λh=>by cases h⟩
      ·have:=(h1 rfl).2
       rw [hf i aw,em hf i aw] at this
       rcases this with h | h <;> cases h
      ·rw [k1]
       have:iE n out<=iE n rG:=by
        cases hm:more
        ·rw [(c2 hm).1];exact le_refl _
        ·exact Nat.le_of_lt (c1 hm)
       omega
     ·simp only [Bool.not_true,fy,ah,dm]
      exact rE more out g (no λ_ _=>ho)
   rw [aHS]
   by_cases h0:0<D i j
   ·rw [dh h0]
    simp only [gK,BQ.eK aw,(pf.up xg).ld aw,ah]
    rw [anc]
    cases hf:full i
    ·simp only [fc,BQ.eK aw,p.ld aw,ah]
     rw [Ux]
     simp only [gK,dA,ah]
     rw [Uy]
     simp only [fy,ah]
     exact Ty (out i) (λh=>⟨h0,.inr h⟩) λh hh=>by rcases hh.2 with h' | h' <;> simp_all
    ·simp only [o0]
     rw [Ux]
     simp only [gK,fy,ah]
     rw [Uy]
     simp only [fy,ah]
     exact Ty true (λ_=>⟨h0,.inl hf⟩) λh=>by cases h
   ·rw [bX h0]
    simp only [jd]
    rw [anc]
    simp only [BI]
    rw [Ux]
    simp only [jd]
    rw [Uy]
    simp only [dA,ah]
    exact Ty false (λh=>by cases h) λ_ hh=>h0 hh.1
  ·have kQ:j=n:=by omega
   subst kQ
   rw [aHV]
   simp only [b7,ah,true_and]
   rw [dP i (by simp only [maxLen];omega)]
   refine dO (i+1,more,out,g) ⟨aw,xg,p,em,c1,λhm=>⟨(c2 hm).1,λx hx z hz h1=>(c2 hm).2 x hx z hz (by have:x<i+1∨(x=i+1/\z<0):=h1;omega)⟩⟩ (by show j-(i+1)<j-i;omega)
 ·have fG:i=n:=by omega
  subst fG
  obtain ⟨xg,p,em,c1,c2⟩:=jj
  refine ⟨trivial,lD (more,out,g) ⟨xg,p,em,λhm=>?_⟩ ?_⟩
  ·obtain ⟨rfl,c3⟩:=c2 hm
   exact λx hx z hz=>c3 x hx z hz (.inl hx)
  ·show 2*iE i out+(if more then 1 else 0)<2*iE i rG+1
   cases hm:more
   ·rw [(c2 hm).1];simp
   ·have:=c1 hm;simp;omega
end
section
open Go.Sim Go.Sort
variable {h : ae} {K : Value -> ae -> Prop} {n : Nat}
theorem aed {D:Nat->Nat->Int} {P:Nat->Int} (hz:∀j<n,P j=0) (i:Nat):mw n D P i=0:=by
 unfold mw
 rw [gn (g:=λ_=>0) λj hj=>if_pos (hz j hj),mX]
theorem ay6 {a b:Int} (gQ:a<=b):¬0<uH (a:Rat) (b:Rat):=by
 unfold uH
 by_cases e:a=b
 ·subst e;simp
 ·have:(a:Rat)<(b:Rat):=Rat.intCast_lt_intCast.2 (by omega)
  split
  ·simp
  ·first | decide | (rw [if_pos this];decide)
theorem C58 {ik ip:Nat} {D:Nat->Nat->Int} {P:Nat->Int} {q:Nat->Option Rat} (m:ki h ik n D) (pq:QL h ip n q) (hq:∀j<n,q j=some (P j:Rat)) (hP:∀j<n,P j=0∨P j=di n D j)
  (hk:∀b g,EX h g->((∀j<n,P j=0)->b=true)->K (B b) g):ay prog 58 [pt ik 0,sl 92 ip 0 n] h K:=by
 have n8:=m.n8
 refine f58 ?_
 unfold MZ
 have lp:aT (sl 92 ip 0 n)=some (I n):=rfl
 simp only [lp,ah]
 refine cN (σ:=Nat×ae) (λq=>[I q.1]) (λq=>q.2) (λq=>q.1<=n/\EX h q.2) (λq=>n-q.1) (0,h) rfl rfl ⟨zero_le _,EX.refl _⟩ ?_
 rintro ⟨i,g⟩ ⟨hi,xg⟩ L hL
 simp only at hi xg hL⊢
 rw [aH2]
 simp only [bW,ah,ca]
 refine ⟨λaw=>?_,λcJ=>hk true g xg λ_=>rfl⟩
 have aw:i<n:=by omega
 obtain ⟨vx,lx,rx⟩:=(pq.up xg).get aw (hq i aw)
 have rb:=m.pX aw
 have pb:0<=P i/\P i<=8000:=by have:=hP i aw;omega
 have x1:EX g (g++[.arr 92 z4]):=EX.append _ _
 have c1:(g++[az.arr 92 z4])[g.length]?=some (.arr 92 z4):=bK
 simp only [QL.eK aw,lx,ah,rQ,aL]
 obtain ⟨g2,s2,x2,jI,r2,f2,cx,H7,rfl⟩:=(rx.mono x1).put (h0:=g) x1 (le_refl _) c1
 simp only [s2,aL]
 have igl:g.length<g2.length:=(cm H7).1
 generalize Ih:g.length=ix at H7 igl⊢
 have x3:EX g2 (g2++[.arr 92 z4]):=EX.append _ _
 have c3:(g2++[az.arr 92 z4])[g2.length]?=some (.arr 92 z4):=bK
 have l3:(g2++[az.arr 92 z4]).length=g2.length+1:=by simp
 generalize hiw:g2.length=iw at c3 igl l3⊢
 generalize g2++[az.arr 92 z4]=g3 at x3 c3 l3⊢
 have x4:EX g3 (g3++[.arr 92 z4]):=EX.append _ _
 have c4:(g3++[az.arr 92 z4])[g3.length]?=some (.arr 92 z4):=bK
 simp only [vI c3,ah,true_and]
 generalize hif:g3.length=jf at c4 l3⊢
 generalize g3++[az.arr 92 z4]=g4 at x4 c4⊢
 have Gp:=x4.get c3
 have ni:EX h g2:=xg.trans x2
 have BC:EX h g4:=(ni.trans x3).trans x4
 have m4:=m.up BC
 simp only [vI c4,vI Gp,ah,and_true,true_and]
 refine EC m4 aw (pq.up BC) hq hP λr5 g5 x5 lH=>?_
 obtain ⟨tv,tb,to,l1,l2,IH⟩:=(m.up ni).zL aw
 simp only [vI (x5.get Gp),vI (x5.get c4),true_and,and_true,iS,cj,zero_add,ah,l1,EX.load x3 l1,EX.load (x3.trans x4) l1,EX.load ((x3.trans x4).trans x5) l1,l2,IH,EX.load x3 IH,EX.load (x3.trans x4) IH,EX.load ((x3.trans x4).trans x5) IH]
 refine pL (by omega) (by omega) λr6 g6 x6 yN=>?_
 have eT:=x5.trans x6
 simp only [vI (eT.get Gp),vI (eT.get c4),true_and,and_true]
 obtain ⟨g7,s7,ld7,r7,f7,cw,hcw,rfl⟩:=(lH.mono x6).w6 (eT.get Gp)
 obtain ⟨g8,s8,ld8,r8,f8,cf,hcf,rfl⟩:=(f7.rv _ _ yN).w6 (f7.get (by omega) (eT.get c4))
 have aep:=f8.get (by omega) hcw
 have aAQ:g8[ix]?=some (.arr 92 (cG cx)):=f8.get (by omega) (f7.get (by omega) ((((x3.trans x4).trans eT)).get H7))
 have lw:af true 4 g8 (pt iw 0)=some (.agg (cG cw).toArray):=ko aep
 have lf:af true 4 g8 (pt jf 0)=some (.agg (cG cf).toArray):=ko hcf
 have hb:=PT m P aw (k:=n) (le_refl _)
 have szh:gU 5 (mw n D P i:Rat):=mY (mW (by omega) (by omega)) (by omega)
 have szt:gU 5 (di n D i:Rat):=mY (mW (by omega) (by omega)) (by omega)
 have szp:gU 5 (P i:Rat):=mY (mW (by omega) (by omega)) (by omega)
 have DR:=f8.rv _ _ r7
 have rx8:RV g8 (.agg (cG cx).toArray) (P i:Rat):=f8.rv _ _ (f7.rv _ _ (r2.mono ((x3.trans x4).trans eT)))
 have xg8:EX g g8:=FR.iz (FR.iz ((x2.trans x3).trans (x4.trans eT)) f7 λd hd=>by omega) f8 λd hd=>by omega
 simp only [s7,aL,s8,lw,lf,ah]
 refine EB DR r8 szh szt (by omega) λg9 x9=>?_
 have aer:=x9.get aAQ
 have aeq:=x9.get aep
 have lf9:=EX.load x9 lf
 have fin:∀(g10:ae) (cw:Cl) (W:Int),EX g g10->W.natAbs<10^5->g10[ix]?=some (.arr 92 (cG cx))->RV g10 (.agg (cG cx).toArray) (P i:Rat)->g10[iw]?=some (.arr 92 (cG cw))->RV g10 (.agg (cG cw).toArray) (W:Rat)->((∀j<n,P j=0)->W=0)->
   Jy prog K (pt ik 0) (sl 92 ip 0 n) (pt ix 0) (pt iw 0) (sl 92 ip 0 n) (I n) (I i) L g10:=by
  intro g10 cw W aE hW hx hrx hw It hz
  rw [aHY]
  have agh:af true 4 g10 (pt ix 0)=some (.agg (cG cx).toArray):=ko hx
  have aC0:af true 4 g10 (pt iw 0)=some (.agg (cG cw).toArray):=ko hw
  simp only [agh,ah]
  refine Ky hrx λg11 aG=>?_
  have sg:¬zf (P i:Rat).num<0:=by
   rw [Rat.num_intCast];unfold zf
   split
   ·omega
   ·rw [if_neg (by omega)];omega
  simp only [bW,ah,bX sg]
  rw [aHZ]
  simp only [fc,EX.load aG agh,EX.load aG aC0,ah]
  refine EB (hrx.mono aG) (It.mono aG) szp (mY hW (by omega)) (by omega) λg12 aM=>?_
  simp only [iC,ah]
  rw [aH0]
  by_cases e:uH (P i:Rat) (W:Rat)=0
  ·rw [e]
   simp only [decide_true,Bool.not_true,dA,ah,dm]
   rw [aH1]
   simp only [b7,ah,true_and]
   rw [dP i (by simp only [maxLen];omega)]
   exact hL (i+1,g12) ⟨aw,xg.trans ((aE.trans aG).trans aM)⟩ (by show n-(i+1)<n-i;omega)
  ·rw [bX e]
   simp only [Bool.not_false,dA,ah,gf]
   refine hk false g12 (xg.trans ((aE.trans aG).trans aM)) λgR=>?_
   rw [hz gR,gR i aw] at e
   exact absurd (adf _) e
 simp only [gY,ah]
 refine um (λwK=>?_) (λ_=>fin g9 cw (mw n D P i) (xg8.trans x9) (mW (by omega) (by omega)) aer (rx8.mono x9) aeq (DR.mono x9) λgR=>aed gR i)
 obtain ⟨g10,j5,aMR,r10,f10,cw',aAP,Pj⟩:=(r8.mono x9).w6 aeq
 simp only [lf9,ah,j5,aL]
 rw [Pj] at r10
 refine fin g10 cw' (di n D i) (FR.iz (xg8.trans x9) f10 λd hd=>by omega) (mW (by omega) (by omega)) (f10.get (by omega) aer) (f10.rv _ _ (rx8.mono x9)) aAP r10 λgR=>?_
 have:=of_decide_eq_true wK
 rw [aed gR i] at this
 exact absurd this (ay6 rb.1)
end
section
open Go.Sim Go.Sort
variable {n : Nat} {D : Nat -> Nat -> Int} {full out part dG gh : Nat -> Bool} {eC : Nat -> Nat}
theorem anS (part:Nat->Bool) (g:Nat->Int):∀n,sg (cM part n).length (λr=>g (eE (cM part n) r))=sg n λi=>if part i then g i else 0:=by
 have gen:∀(l:List Nat) (g:Nat->Int),sg l.length (λr=>g (eE l r))=(l.map g).sum:=by
  intro l g
  unfold sg
  congr 1
  refine List.ext_getElem (by simp) λi h1 h2=>?_
  have hi:i<l.length:=by simpa using h1
  simp [eE,getD_eq_getElem?_getD,hi]
 intro n
 rw [gen]
 induction n with
 | zero=>rfl
 | succ n ih=>
  rw [PC,kG]
  by_cases h:part n=true
  ·rw [if_pos h,if_pos h,map_append,List.sum_append,ih];simp
  ·rw [if_neg h,if_neg h,ih];simp
theorem azk (bl:nN n D) (sG:Fu n D full out) (hn:∀i<n,dG i=(!full i&& !out i)):∀j<n,dG j=true->∀i<n,dG i=false->D j i=0:=by
 have dZ:=bl.dZ
 have aB3:∀j<n,∀i<n,dG j=false->dG i=true->D j i=0:=λj hj i hi h1 h2=>by
  have e:=(dZ j hj i hi).1
  refine Int.le_antisymm (Int.not_lt.1 λhp=>?_) e
  rw [hn j hj] at h1
  rw [hn i hi] at h2
  have ho:=sG.cl j hj i hi hp (by cases hf:full j <;> cases hh:out j <;> simp_all)
  rw [ho] at h2
  simp at h2
 have s1:(sg n λi=>if dG i then di n D i else 0)=sg n λi=>if dG i then nQ n D i else 0:=gn λi hi=>by rw [bl.wo i hi]
 have s2:(sg n λi=>if dG i then nQ n D i else 0)=sg n λi=>sg n λj=>if dG i&&dG j then D j i else 0:=gn λi hi=>by
  cases h:dG i
  ·simp [mX]
  ·simp only [if_true]
   refine gn λj hj=>?_
   cases h2:dG j
   ·simp [aB3 j hj i hi h2 h]
   ·simp
 have s3:(sg n λi=>if dG i then di n D i else 0)=sg n λi=>(sg n λj=>if dG i&&dG j then D i j else 0)+sg n λj=>if dG i&& !dG j then D i j else 0:=gn λi hi=>by
  rw [<-oR]
  cases h:dG i
  ·simp [mX]
  ·simp only [if_true]
   refine gn λj hj=>?_
   cases h2:dG j <;> simp
 have s4:(sg n λi=>sg n λj=>if dG i&&dG j then D j i else 0)=sg n λi=>sg n λj=>if dG i&&dG j then D i j else 0:=by
  rw [anI]
  refine gn λi hi=>gn λj hj=>?_
  rw [Bool.and_comm]
 rw [oR] at s3
 have z:(sg n λi=>sg n λj=>if dG i&& !dG j then D i j else 0)=0:=by omega
 have nn:∀i<n,∀j<n,0<=if dG i&& !dG j then D i j else 0:=λi hi j hj=>by
  have:=(dZ i hi j hj).1
  split <;> omega
 intro j hj h1 i hi h2
 have r:=DU (f:=λi=>sg n λj=>if dG i&& !dG j then D i j else 0) (λi hi=>vM λj hj=>nn i hi j hj) (by omega) j hj
 have r2:=DU (λi hi=>nn j hj i hi) (by omega) i hi
 simpa [h1,h2] using r2
def Wt (k:Nat):Int:=((100000^(8-k):Nat):Int)
theorem FA (k:Nat):0<Wt k:=by
 unfold Wt
 have:0<100000^(8-k):=Nat.pow_pos (by omega)
 omega
theorem NA {a b:Nat} (h:a<b) (hb:b<=8):100000*Wt b<=Wt a:=by
 unfold Wt
 have e:100000*100000^(8-b)=100000^(8-b+1):=by rw [Nat.pow_succ,Nat.mul_comm]
 have:100000^(8-b+1)<=100000^(8-a):=Nat.pow_le_pow_right (by omega) (by omega)
 have h2:100000*100000^(8-b)<=100000^(8-a):=by rw [e];exact this
 generalize 100000^(8-b)=x at*
 generalize 100000^(8-a)=y at*
 omega
def yF (fl:List Nat) (eC:Nat->Nat) (r:Nat):Int:=Wt 0-Wt (eC (eE fl r))
end
section
open Go.Sim Go.Sort
variable {n : Nat} {D : Nat -> Nat -> Int} {full out part dG gh : Nat -> Bool} {eC : Nat -> Nat}
structure Lk (n:Nat) (D:Nat->Nat->Int) (full part gh:Nat->Bool) (eC:Nat->Nat):Prop where
 st:∀i<n,gh i=true->full i=true∨∃j,j<n/\0<D i j/\gh j=true/\eC j<eC i
 le:∀i<n,gh i=true->eC i<=8
theorem HO {fl:List Nat} {r:Nat} (hr:r<fl.length):eE fl r∈fl:=by
 unfold eE
 rw [getD_eq_getElem?_getD,getElem?_eq_getElem hr]
 exact List.getElem_mem hr
theorem zE (bl:nN n D) {i:Nat} (hi:i<n):0<=di n D i/\di n D i<=8000:=by
 have h1:=vM λj hj=>(bl.dZ i hi j hj).1
 have h2:di n D i<=sg n λ_=>1000:=sK λj hj=>(bl.dZ i hi j hj).2
 have h3:∀n:Nat,sg n (λ_=>1000)=1000*n:=λn=>by
  induction n with
  | zero=>rfl
  | succ n ih=>rw [kG,ih];omega
 rw [h3] at h2
 have:=bl.n8
 exact ⟨h1,by omega⟩
theorem azb (bl:nN n D) (hp:∀i<n,part i=true->full i=false) (lk:Lk n D full part gh eC) (gR:∀i<n,part i=true->gh i=true) {j:Nat} (hj:j<n) (pj:part j=true):
  0<(Wt 0-Wt (eC j))*di n D j-sg n λi=>if part i then (Wt 0-Wt (eC i))*D j i else 0:=by
 have dZ:=bl.dZ
 have e1:(Wt 0-Wt (eC j))*di n D j=sg n λi=>(Wt 0-Wt (eC j))*D j i:=(vL n _ _).symm
 have e2:(sg n λi=>(Wt 0-Wt (eC j))*D j i)-(sg n λi=>if part i then (Wt 0-Wt (eC i))*D j i else 0)=(sg n λi=>(if part i then Wt (eC i) else Wt 0)*D j i)-Wt (eC j)*di n D j:=by
  rw [show Wt (eC j)*di n D j=sg n λi=>Wt (eC j)*D j i from (vL n _ _).symm,<-xi,<-xi]
  refine gn λi hi=>?_
  cases h:part i
  ·simp only [false_eq_true,if_false]
   rw [Int.sub_mul,Int.sub_zero]
  ·simp only [if_true]
   rw [Int.sub_mul,Int.sub_mul];omega
 rw [e1,e2]
 rcases lk.st j hj (gR j hj pj) with hf | ⟨i0,wL,d0,l0,lt⟩
 ·rw [hp j hj pj] at hf;cases hf
 have wle:100000*Wt (eC j)<=(if part i0 then Wt (eC i0) else Wt 0):=by
  have h8:=lk.le j hj (gR j hj pj)
  split
  ·exact NA lt h8
  ·exact NA (by omega) h8
 have wp:=FA (eC j)
 have one:(if part i0 then Wt (eC i0) else Wt 0)*D j i0<=sg n λi=>(if part i then Wt (eC i) else Wt 0)*D j i:=by
  have:(sg n λi=>if i=i0 then (if part i0 then Wt (eC i0) else Wt 0)*D j i0 else 0)<=sg n λi=>(if part i then Wt (eC i) else Wt 0)*D j i:=sK λi hi=>by
   by_cases e:i=i0
   ·subst e;rw [if_pos rfl];exact Int.le_refl _
   ·rw [if_neg e]
    refine Int.mul_nonneg ?_ (dZ j hj i hi).1
    split
    ·exact Int.le_of_lt (FA _)
    ·exact Int.le_of_lt (FA _)
  rwa [sL wL] at this
 have rb:=zE bl hj
 have m1:(if part i0 then Wt (eC i0) else Wt 0)*1<=(if part i0 then Wt (eC i0) else Wt 0)*D j i0:=Int.mul_le_mul_of_nonneg_left (by omega) (by omega)
 have m2:Wt (eC j)*di n D j<=Wt (eC j)*8000:=Int.mul_le_mul_of_nonneg_left rb.2 (by omega)
 omega
theorem af1 (bl:nN n D) (sG:Fu n D full out) (AO:∀i<n,full i=false->di n D i≠0) (hp:∀i<n,part i=(!full i&&out i)) (lk:Lk n D full part gh eC) (gR:∀i<n,part i=true->gh i=true):
  p9 (cM part n).length (tF n D (cM part n)) (yF (cM part n) eC):=by
 have n8:=bl.n8
 have mem:∀i,i∈cM part n↔i<n/\part i=true:=λi=>Cu
 have pf:∀i<n,part i=true->full i=false:=λi hi h=>by rw [hp i hi] at h;cases hf:full i <;> simp_all
 refine ⟨?_,λc hc=>?_,λc hc=>?_,λr hr=>?_⟩
 ·by_cases e:∃i,i<n/\full i=true
  ·obtain ⟨i,hi,hf⟩:=e
   have hlen:∀k,i<k->k<=n->(cM part k).length<k:=by
    intro k
    induction k with
    | zero=>intro h;omega
    | succ k ih=>
     intro h1 h2
     rw [PC]
     by_cases e:i=k
     ·subst e
      have:part i=false:=by cases hh:part i with
       | false=>rfl
       | true=>rw [pf i hi hh] at hf;cases hf
      rw [this,if_neg (by simp)]
      have:=List.length_filter_le part (List.range i)
      rw [List.length_range] at this
      unfold cM;omega
     ·have:=ih (by omega) (by omega)
      split
      ·rw [List.length_append];simp;omega
      ·omega
   have:=hlen n hi (le_refl _)
   omega
  ·have nf:∀i<n,full i=false:=λi hi=>by cases hh:full i with
    | false=>rfl
    | true=>exact absurd ⟨i,hi,hh⟩ e
   have:cM part n=[]:=adS λi hi=>by rw [hp i hi,sG.em nf i hi];simp
   rw [this];simp
 ·unfold tF
  by_cases e:c=(cM part n).length
  ·rw [if_pos e];decide
  ·rw [if_neg e]
   obtain ⟨h1,h2⟩:=(mem _).1 (HO (fl:=cM part n) (r:=c) (by omega))
   have:=AO _ h1 (pf _ h1 h2)
   have:=zE bl h1
   omega
 ·unfold tF
  by_cases e:c=(cM part n).length
  ·rw [if_pos e];decide
  ·rw [if_neg e]
   obtain ⟨h1,h2⟩:=(mem _).1 (HO (fl:=cM part n) (r:=c) (by omega))
   have:=zE bl h1
   show (di n D _).natAbs<10000
   omega
 ·obtain ⟨h1,h2⟩:=(mem _).1 (HO (fl:=cM part n) hr)
  have l:=gR _ h1 h2
  rcases lk.st _ h1 l with hf | ⟨j,_,_,_,hd⟩
  ·rw [pf _ h1 h2] at hf;cases hf
  ·have:=NA (a:=0) (b:=eC (eE (cM part n) r)) (by omega) (lk.le _ h1 l)
   have:=FA (eC (eE (cM part n) r))
   unfold yF
   omega
theorem aCN (bl:nN n D) (sG:Fu n D full out) (AO:∀i<n,full i=false->di n D i≠0) (hp:∀i<n,part i=(!full i&&out i)) (hn:∀i<n,dG i=(!full i&& !out i)) (lk:Lk n D full part gh eC) (gR:∀i<n,part i=true->gh i=true):
  lQ (cM part n).length 0 (tF n D (cM part n)) (yF (cM part n) eC) (xo (cM part n).length (AF n D (cM part n)) (bF n D (gP n D part dG) (cM part n))) (NF n D (gP n D part dG) (cM part n)) 1:=by
 have dZ:=bl.dZ
 have mem:∀i,i∈cM part n↔i<n/\part i=true:=λi=>Cu
 have pf:∀i<n,part i=true->full i=false:=λi hi h=>by rw [hp i hi] at h;cases hf:full i <;> simp_all
 have nd:=adR part n
 have ok:=af1 bl sG AO hp lk gR
 have fr:∀r<(cM part n).length,eE (cM part n) r<n/\part (eE (cM part n) r)=true:=λr hr=>(mem _).1 (HO hr)
 have hb:∀i<n,0<=mw n D (gP n D part dG) i/\mw n D (gP n D part dG) i<=8000:=λi hi=>by
  have h1:0<=mw n D (gP n D part dG) i:=vM λj hj=>by
   have:=(dZ j hj i hi).1
   split <;> omega
  have h2:mw n D (gP n D part dG) i<=nQ n D i:=sK λj hj=>by
   have:=(dZ j hj i hi).1
   split <;> omega
  rw [<-bl.wo i hi] at h2
  have:=zE bl hi
  exact ⟨h1,by omega⟩
 refine ⟨by decide,by decide,λr _ hr c _ hc=>?_,λr _ hr c _ hc=>?_,λr _ hr c _ hc bY=>?_,λc _ hc=>?_,λr _ hr=>?_⟩
 ·unfold xo NF tF
  by_cases e:c=(cM part n).length
  ·rw [if_pos e,if_pos e,if_pos e,Int.mul_one]
   exact Cm _
  ·rw [if_neg e,if_neg e,if_neg e,one_mul]
   have h0:=ok.t0 c hc
   unfold tF at h0
   rw [if_neg e] at h0
   unfold AF qE
   rw [Rat.neg_divInt]
   by_cases e2:c=r
   ·rw [if_pos e2,if_pos e2]
    have e3:((1:Int):Rat)=divInt (di n D (eE (cM part n) c)) (di n D (eE (cM part n) c)):=by
     have:=Pb (a:=1) (b:=di n D (eE (cM part n) c)) (by omega)
     rw [one_mul] at this
     exact this.symm
    rw [e3,adq (by omega)]
    congr 1
   ·rw [if_neg e2,if_neg e2]
    have e3:((0:Int):Rat)=divInt 0 (di n D (eE (cM part n) c)):=(azs _).symm
    rw [e3,adq (by omega)]
    congr 1
 ·obtain ⟨r1,r2⟩:=fr r hr
  show (NF n D (gP n D part dG) (cM part n) r c).natAbs<10000
  unfold NF
  by_cases e:c=(cM part n).length
  ·rw [if_pos e];have:=hb _ r1;omega
  ·rw [if_neg e]
   obtain ⟨c1,c2⟩:=fr c (by omega)
   have b1:=zE bl c1
   have b2:=dZ _ c1 _ r1
   split <;> omega
 ·unfold NF
  obtain ⟨r1,r2⟩:=fr r hr
  obtain ⟨c1,c2⟩:=fr c hc
  have b2:=dZ _ c1 _ r1
  rw [if_neg (by omega),if_neg (Ne.symm bY)]
  omega
 ·obtain ⟨c1,c2⟩:=fr c hc
  have cp:=azb bl pf lk gR c1 c2
  have e:fR 0 (cM part n).length (λr=>yF (cM part n) eC r*NF n D (gP n D part dG) (cM part n) r c)=(Wt 0-Wt (eC (eE (cM part n) c)))*di n D (eE (cM part n) c)-sg n λi=>if part i then (Wt 0-Wt (eC i))*D (eE (cM part n) c) i else 0:=by
   rw [<-anS part (λi=>(Wt 0-Wt (eC i))*D (eE (cM part n) c) i) n]
   have:fR 0 (cM part n).length (λr=>yF (cM part n) eC r*NF n D (gP n D part dG) (cM part n) r c)=(sg (cM part n).length λr=>if r=c then (Wt 0-Wt (eC (eE (cM part n) c)))*di n D (eE (cM part n) c) else 0)-sg (cM part n).length λr=>(Wt 0-Wt (eC (eE (cM part n) r)))*D (eE (cM part n) c) (eE (cM part n) r):=by
    unfold fR
    rw [<-xi]
    refine gn λr hr=>?_
    rw [if_pos (zero_le _)]
    have cn:¬c=(cM part n).length:=by omega
    unfold NF yF
    simp only [if_neg cn]
    rw [Int.mul_sub]
    by_cases e:r=c
    ·subst e;rw [if_pos rfl,if_pos rfl]
    ·rw [if_neg e,if_neg (Ne.symm e),Int.mul_zero]
   rw [this,sL hc]
  rw [e];exact cp
 ·obtain ⟨r1,r2⟩:=fr r hr
  have e:fR 0 (cM part n).length (λc=>NF n D (gP n D part dG) (cM part n) r c)=di n D (eE (cM part n) r)-sg n λi=>if part i then D i (eE (cM part n) r) else 0:=by
   rw [<-anS part (λi=>D i (eE (cM part n) r)) n]
   have:fR 0 (cM part n).length (λc=>NF n D (gP n D part dG) (cM part n) r c)=(sg (cM part n).length λc=>if c=r then di n D (eE (cM part n) r) else 0)-sg (cM part n).length λc=>D (eE (cM part n) c) (eE (cM part n) r):=by
    unfold fR
    rw [<-xi]
    refine gn λc hc=>?_
    rw [if_pos (zero_le _)]
    have cn:¬c=(cM part n).length:=by omega
    unfold NF
    simp only [if_neg cn]
    by_cases e:c=r
    ·subst e;simp
    ·rw [if_neg e,if_neg e]
   rw [this,sL hr]
  rw [e]
  have e2:NF n D (gP n D part dG) (cM part n) r (cM part n).length=mw n D (gP n D part dG) (eE (cM part n) r):=if_pos rfl
  rw [e2,bl.wo _ r1]
  show nQ n D _-_=sg n _
  rw [show nQ n D (eE (cM part n) r)=sg n λi=>D i (eE (cM part n) r) from rfl,<-xi]
  refine gn λj hj=>?_
  have nr:dG (eE (cM part n) r)=false:=by
   rw [hn _ r1]
   rw [hp _ r1] at r2
   cases h1:full (eE (cM part n) r) <;> cases h2:out (eE (cM part n) r) <;> simp_all
  have de:=(dZ j hj _ r1)
  unfold gP
  cases h1:part j
  ·simp only [false_eq_true,if_false]
   cases h2:dG j
   ·simp only [false_eq_true,if_false]
    by_cases h3:di n D j=0
    ·rw [if_pos h3]
     have z:=DU (λi hi=>(dZ j hj i hi).1) (Int.le_of_eq h3) _ r1
     omega
    ·rw [if_neg h3];omega
   ·simp only [if_true]
    rw [azk bl sG hn j hj h2 _ r1 nr];rfl
  ·simp only [if_true];omega
end
section
open Go.Sim Go.Sort
variable {h : ae} {K : Value -> ae -> Prop} {n : Nat}
theorem aoJ {ik ip iq il:Nat} {D:Nat->Nat->Int} {full part dG:Nat->Bool} {h0:ae} (m:ki h0 ik n D) (x0:EX h0 h) (hl0:h0.length<=il) (nip:ip≠il) (niq:iq≠il) (pp:BQ h ip n part) (pq:BQ h iq n dG) (pl:BQ h il n full)
  (hk:∀g gh eC,EX h0 g->BQ g ip n part->BQ g iq n dG->BQ g il n gh->Lk n D full part gh eC->SV prog K (pt ik 0) (sl 4 ip 0 n) (sl 4 iq 0 n) (sl 4 il 0 n) g):
  SO prog K (pt ik 0) (sl 4 ip 0 n) (sl 4 iq 0 n) (sl 4 il 0 n) h:=by
 have n8:=m.n8
 rw [aF5]
 -- BA holds all j6 aM6
 let J:(Nat->Bool)->(Nat->Nat)->Nat->ae->Prop:=λgh eC T g=>EX h0 g/\BQ g ip n part/\BQ g iq n dG/\BQ g il n gh/\T+iE n gh<=n/\(∀i<n,gh i=true->full i=true∨∃j,j<n/\0<D i j/\gh j=true/\eC j<eC i)/\∀i<n,gh i=true->eC i<=T
 refine cN (σ:=Bool×(Nat->Bool)×(Nat->Nat)×Nat×ae) (λq=>[B q.1]) (λq=>q.2.2.2.2) (λq=>J q.2.1 q.2.2.1 q.2.2.2.1 q.2.2.2.2) (λq=>2*iE n q.2.1+if q.1 then 1 else 0)
  (true,full,λ_=>0,0,h) rfl rfl ⟨x0,pp,pq,pl,by have:=ay9 n full;show 0+iE n full<=n;omega,λi _ h=>.inl h,λi _ _=>le_refl _⟩ ?_
 rintro ⟨more,vF,eC,T,g⟩ j0 L1 lD
 simp only at j0 lD⊢
 rw [aF6]
 cases more
 ·simp only [dm]
  obtain ⟨xg,a,b,c,d,e,f⟩:=j0
  exact hk g vF eC xg a b c ⟨e,λi hi hl=>by have:=f i hi hl;omega⟩
 simp only [gf,iS,cj,zero_add,ah,(m.up j0.1).lJ]
 refine cN (σ:=Nat×Bool×(Nat->Bool)×(Nat->Nat)×Nat×ae) (λq=>[B q.2.1,I q.1]) (λq=>q.2.2.2.2.2) (λq=>q.1<=n/\J q.2.2.1 q.2.2.2.1 q.2.2.2.2.1 q.2.2.2.2.2/\(if q.2.1 then iE n q.2.2.1<iE n vF else iE n q.2.2.1<=iE n vF)) (λq=>n-q.1)
  (0,false,vF,eC,T,g) rfl rfl ⟨zero_le _,j0,le_refl _⟩ ?_
 rintro ⟨i,more,gh,eC,T,g⟩ ⟨hi,jj,hc⟩ L2 dO
 simp only at hi jj hc dO⊢
 rw [aF7]
 simp only [bW,ah,ca]
 refine ⟨λaw=>?_,λcJ=>?_⟩
 ·have aw:i<n:=by omega
  simp only [iS,cj,zero_add,ah,(m.up jj.1).lJ]
  refine cN (σ:=Nat×Bool×(Nat->Bool)×(Nat->Nat)×Nat×ae) (λq=>[B q.2.1,I q.1]) (λq=>q.2.2.2.2.2) (λq=>q.1<=n/\J q.2.2.1 q.2.2.2.1 q.2.2.2.2.1 q.2.2.2.2.2/\(if q.2.1 then iE n q.2.2.1<iE n vF else iE n q.2.2.1<=iE n vF)) (λq=>n-q.1)
   (0,more,gh,eC,T,g) rfl rfl ⟨zero_le _,jj,hc⟩ ?_
  rintro ⟨j,more,gh,eC,T,g⟩ ⟨hj,jj,hc⟩ L3 Cz
  simp only at hj jj hc Cz⊢
  obtain ⟨xg,a,b,c,d,e,f⟩:=jj
  rw [aF8]
  simp only [bW,ah,ca]
  refine ⟨λdR=>?_,λcJ=>?_⟩
  ·have dR:j<n:=by omega
   have rE:∀(more:Bool) (gh:Nat->Bool) (eC:Nat->Nat) (T:Nat) (g:ae),J gh eC T g->(if more then iE n gh<iE n vF else iE n gh<=iE n vF)->DD prog K (pt ik 0) (sl 4 ip 0 n) (sl 4 iq 0 n) (sl 4 il 0 n) (B more) (I i) (I n) (I i) (I n) (I j) L1 L2 L3 g:=by
    intro more gh eC T g jj hc
    rw [aGc]
    simp only [b7,ah,true_and]
    rw [dP j (by simp only [maxLen];omega)]
    exact Cz (j+1,more,gh,eC,T,g) ⟨dR,jj,hc⟩ (by show n-(j+1)<n-j;omega)
   have same:DD prog K (pt ik 0) (sl 4 ip 0 n) (sl 4 iq 0 n) (sl 4 il 0 n) (B more) (I i) (I n) (I i) (I n) (I j) L1 L2 L3 g:=rE more gh eC T g ⟨xg,a,b,c,d,e,f⟩ hc
   have HB:∀bq:Bool,(bq=true->gh i=false/\0<D i j)->SS prog K (pt ik 0) (sl 4 ip 0 n) (sl 4 iq 0 n) (sl 4 il 0 n) (B more) (I i) (I j) (I n) (I i) (I n) (I j) (B bq) L1 L2 L3 g:=by
    intro bq h1
    rw [aGb]
    cases bq
    ·simp only [jd]
     rw [am5]
     simp only [dA,ah,dm]
     exact same
    ·simp only [gK,BQ.eK dR,c.ld dR,ah]
     rw [am5]
     cases AS:gh j
     ·simp only [fy,ah,dm]
      exact same
     ·obtain ⟨li,dp⟩:=h1 rfl
      obtain ⟨g2,s2,f2,p2,_⟩:=c.set aw true
      simp only [fy,ah,gf,BQ.eK aw,s2,aL]
      obtain ⟨k1,k2⟩:=O2 (n:=n) li
      have k3:=k2 aw
      rw [if_pos aw] at k1
      have I4:j≠i:=λe=>by rw [e,li] at AS;cases AS
      refine rE true (dU gh i true) (dU eC i (T+1)) (T+1) g2 ⟨FR.iz xg f2 λd hd=>by omega,a.fr f2 nip,b.fr f2 niq,p2,by omega,λx hx hl=>?_,λx hx hl=>?_⟩ ?_
      ·by_cases ex:x=i
       ·subst ex
        refine .inr ⟨j,dR,dp,?_,?_⟩
        ·rw [ez _ _ I4];exact AS
        ·rw [fL,ez _ _ I4];have:=f j dR AS;omega
       ·rw [ez _ _ ex] at hl
        rcases e x hx hl with h | ⟨z,z1,z2,z3,z4⟩
        ·exact .inl h
        ·have zi:z≠i:=λe=>by rw [e,li] at z3;cases z3
         exact .inr ⟨z,z1,z2,by rw [ez _ _ zi];exact z3,by rw [ez _ _ zi,ez _ _ ex];exact z4⟩
      ·by_cases ex:x=i
       ·subst ex;rw [fL];exact le_refl _
       ·rw [ez _ _ ex] at hl⊢
        have:=f x hx hl;omega
      ·rw [if_pos rfl,k1]
       cases more
       ·simp only [false_eq_true,if_false] at hc;omega
       ·simp only [if_true] at hc;omega
   simp only [BQ.eK aw,a.ld aw,ah]
   rw [aF9]
   have HA:∀b1:Bool,(b1=true->gh i=false)->SQ prog K (pt ik 0) (sl 4 ip 0 n) (sl 4 iq 0 n) (sl 4 il 0 n) (B more) (I i) (I j) (I n) (I i) (I n) (I j) (B b1) L1 L2 L3 g:=by
    intro b1 h1
    rw [aGa]
    cases b1
    ·simp only [jd]
     rw [am4]
     simp only [dA,ah]
     exact HB false λh=>by cases h
    ·obtain ⟨dv,bb,o,w,b',o',e1,e2,e3,e4,e5⟩:=(m.up xg).Pc aw dR
     simp only [gK,iS,cj,zero_add,ah,e1,e2,e3,e4,e5,gY]
     rw [am4]
     simp only [fy,ah]
     exact HB _ λh=>⟨h1 rfl,of_decide_eq_true h⟩
   cases hp:part i
   ·simp only [jd]
    rw [am3]
    simp only [dA,ah]
    exact HA false λh=>by cases h
   ·simp only [gK,BQ.eK aw,c.ld aw,ah,kW]
    rw [am3]
    simp only [fy,ah]
    exact HA _ λh=>by cases hh:gh i <;> simp_all
  ·have kQ:j=n:=by omega
   subst kQ
   rw [aGd]
   simp only [b7,ah,true_and]
   rw [dP i (by simp only [maxLen];omega)]
   exact dO (i+1,more,gh,eC,T,g) ⟨aw,⟨xg,a,b,c,d,e,f⟩,hc⟩ (by show j-(i+1)<j-i;omega)
 ·refine ⟨trivial,lD (more,gh,eC,T,g) jj ?_⟩
  show 2*iE n gh+(if more then 1 else 0)<2*iE n vF+1
  cases more
  ·simp only [false_eq_true,if_false] at hc⊢;omega
  ·simp only [if_true] at hc⊢;omega
end
section
open Go.Sim Go.Sort
variable {h : ae} {K : Value -> ae -> Prop} {n : Nat}
def mH (full out:Nat->Bool) (i:Nat):Bool:= !full i&&out i
def oN (full out:Nat->Bool) (i:Nat):Bool:= !full i&& !out i
theorem C35 {ik ia:Nat} {D:Nat->Nat->Int} {full:Nat->Bool} (m:ki h ik n D) (bl:nN n D) (pf:BQ h ia n full) (AO:∀i<n,full i=false->di n D i≠0)
  (hN:∀g,EX h g->(∃i,i<n/\full i=true)->K (.slice none 0 0) g)
  (hP:∀g ip (P:Nat->Int),EX h g->h.length<=ip->QL g ip n (λj=>some (P j:Rat))->(∀j<n,0<=P j/\P j<=8000)->((∀i<n,full i=false)->∀j<n,P j=0)->K (sl 92 ip 0 n) g):ay prog 35 [pt ik 0,sl 4 ia 0 n] h K:=by
 have n8:=m.n8
 refine f35 ?_
 unfold MB
 refine C57 m pf λg0 io out x0 hio po sG=>?_
 have m0:=m.up x0
 have ld:∀{g:ae},EX g0 g->af false 1 g (pt ik 0)=some (I n):=λx=>(m0.up x).lJ
 have oL:=m0.lJ
 have p1:BQ (g0++[.arr 4 ((List.range n).map λ_=>B false)]) g0.length n λ_=>false:=bK
 have x1:EX g0 (g0++[.arr 4 ((List.range n).map λ_=>B false)]):=EX.append _ _
 have l1:(g0++[az.arr 4 ((List.range n).map λ_=>B false)]).length=g0.length+1:=by simp
 obtain ⟨u1,re⟩:=Dv (m:=n) p1
 simp only [iS,cj,zero_add,ah,oL,BQ.make g0 n8,aL,true_and,re _ rfl,ld x1,and_true]
 generalize yG:g0.length=ip at p1 re l1⊢
 generalize g0++[az.arr 4 ((List.range n).map λ_=>B false)]=g1 at x1 p1 re l1⊢
 have p2:BQ (g1++[.arr 4 ((List.range n).map λ_=>B false)]) g1.length n λ_=>false:=bK
 have x2:EX g1 (g1++[.arr 4 ((List.range n).map λ_=>B false)]):=EX.append _ _
 have l2:(g1++[az.arr 4 ((List.range n).map λ_=>B false)]).length=g1.length+1:=by simp
 obtain ⟨u2,lV⟩:=Dv (m:=n) p2
 have k1:=re _ (x2.2 ip (by omega))
 simp only [ah,BQ.make g1 n8,aL,true_and,lV _ rfl,ld (x1.trans x2),and_true,k1]
 have p1:=p1.up x2
 generalize Ig:g1.length=iq at p2 lV l1 l2⊢
 generalize g1++[az.arr 4 ((List.range n).map λ_=>B false)]=g2 at x2 p1 p2 lV l2 k1⊢
 have p3:BQ (g2++[.arr 4 ((List.range n).map λ_=>B false)]) g2.length n λ_=>false:=bK
 have x3:EX g2 (g2++[.arr 4 ((List.range n).map λ_=>B false)]):=EX.append _ _
 have l3:(g2++[az.arr 4 ((List.range n).map λ_=>B false)]).length=g2.length+1:=by simp
 obtain ⟨u3,A1⟩:=Dv (m:=n) p3
 have e1:g2[ip]?=g1[ip]?:=x2.2 ip (by omega)
 have mG:=re (g2++[.arr 4 ((List.range n).map λ_=>B false)]) (by rw [x3.2 ip (by omega),e1])
 have Bb:=lV _ (x3.2 iq (by omega))
 simp only [ah,BQ.make g2 n8,aL,true_and,A1 _ rfl,ld ((x1.trans x2).trans x3),and_true,mG,Bb]
 have p1:=p1.up x3
 have p2:=p2.up x3
 generalize gS:g2.length=il at p3 A1 l2 l3⊢
 generalize g2++[az.arr 4 ((List.range n).map λ_=>B false)]=g3 at x3 p1 p2 p3 A1 l3 mG Bb⊢
 have x03:=(x1.trans x2).trans x3
 have iol:io<g0.length:=(cm po).1
 have ial:ia<h.length:=(cm pf).1
 have hg0:h.length<=g0.length:=x0.1
 -- j6 three are filled
 refine cN (σ:=Nat×ae) (λq=>[I q.1]) (λq=>q.2) (λq=>q.1<=n/\EX g0 q.2/\BQ q.2 ip n (λi=>if i<q.1 then mH full out i else false)/\BQ q.2 iq n (λi=>if i<q.1 then oN full out i else false)/\BQ q.2 il n (λi=>if i<q.1 then full i else false)) (λq=>n-q.1)
  (0,g3) rfl rfl ⟨zero_le _,x03,by simpa using p1,by simpa using p2,by simpa using p3⟩ ?_
 rintro ⟨k,g⟩ ⟨fC,xg,b1,b2,b3⟩ L hL
 simp only at fC xg b1 b2 b3 hL⊢
 rw [aGg]
 simp only [bW,ah,ca]
 refine ⟨λaw=>?_,λcJ=>?_⟩
 ·have aw:k<n:=by omega
  have aDg:∀(f:Nat->Bool),dU (λi=>if i<k then f i else false) k (f k)=λi=>if i<k+1 then f i else false:=λf=>by
   funext i
   by_cases e:i=k
   ·subst e;rw [fL,if_pos (by omega)]
   ·rw [ez _ _ e]
    by_cases h1:i<k
    ·rw [if_pos h1,if_pos (by omega)]
    ·rw [if_neg h1,if_neg (by omega)]
  have pfg:=(pf.up x0).up xg
  have pog:=po.up xg
  obtain ⟨g4,s4,f4,Ye,_⟩:=b1.set aw (mH full out k)
  obtain ⟨g5,s5,f5,Yf,_⟩:=(b2.fr f4 (by omega)).set aw (oN full out k)
  obtain ⟨g6,s6,f6,Yg,_⟩:=((b3.fr f4 (by omega)).fr f5 (by omega)).set aw (full k)
  rw [aDg] at Ye Yf Yg
  have x4:EX g0 g4:=FR.iz xg f4 λd hd=>by omega
  have x5:EX g0 g5:=FR.iz x4 f5 λd hd=>by omega
  have x6:EX g0 g6:=FR.iz x5 f6 λd hd=>by omega
  have last:DC prog K (pt ik 0) (sl 4 ia 0 n) (sl 4 io 0 n) (sl 4 ip 0 n) (sl 4 iq 0 n) (sl 4 il 0 n) (I k) (I n) (I k) (sl 4 iq 0 n) (I k) (B (!full k)) (B (!out k)) L g4/\(full k=true->∀v,DC prog K (pt ik 0) (sl 4 ia 0 n) (sl 4 io 0 n) (sl 4 ip 0 n) (sl 4 iq 0 n) (sl 4 il 0 n) (I k) (I n) (I k) (sl 4 iq 0 n) (I k) (B false) v L g4):=by
   have pk:bu (B (!full k)) (B (!out k)) (.bool false)=some (B (oN full out k)):=by
    unfold oN
    cases full k <;> rfl
   have run:OP (aD 1 (sl 4 iq 0 n) (I k)) λfA=>OH (aU 1 g4 fA (B (oN full out k))) λ_ h_1=>OP (aD 1 (sl 4 ia 0 n) (I k)) λlh=>OP (af false 1 h_1 lh) λiW=>OP (aD 1 (sl 4 il 0 n) (I k)) λfE=>OH (aU 1 h_1 fE iW) λ_ h_2=>OP (aj .add (I k) (.int .i64 (1))) λiL=>
     True/\L [iL] h_2:=by
    simp only [BQ.eK aw,s5,aL,((pf.up x0).up x5).ld aw,s6,ah,b7,true_and]
    rw [dP k (by simp only [maxLen];omega)]
    exact hL (k+1,g6) ⟨aw,x6,(Ye.fr f5 (by omega)).fr f6 (by omega),Yf.fr f6 (by omega),Yg⟩ (by show n-(k+1)<n-k;omega)
   constructor
   ·rw [am2]
    simp only [pk,ah]
    exact run
   ·intro hf v
    rw [am2]
    have:oN full out k=false:=by unfold oN;rw [hf];rfl
    rw [this] at run
    simp only [dA,ah]
    exact run
  have mid:OP (aD 1 (sl 4 ip 0 n) (I k)) λfg=>OH (aU 1 g fg (B (mH full out k))) λ_ h_1=>OP (aD 1 (sl 4 ia 0 n) (I k)) λfS=>OP (af false 1 h_1 fS) λiZ=>OP (gE .not iZ) λgI=>
    SN prog K (pt ik 0) (sl 4 ia 0 n) (sl 4 io 0 n) (sl 4 ip 0 n) (sl 4 iq 0 n) (sl 4 il 0 n) (I k) (I n) (I k) (sl 4 iq 0 n) (I k) gI L h_1:=by
   simp only [BQ.eK aw,s4,aL,((pf.up x0).up x4).ld aw,ah,kW]
   rw [aF4]
   cases hf:full k
   ·rw [hf] at last
    simp only [Bool.not_false,gK,BQ.eK aw,(po.up x4).ld aw,ah,kW]
    exact last.1
   ·simp only [Bool.not_true,jd]
    exact last.2 hf _
  simp only [BQ.eK aw,pfg.ld aw,ah,kW]
  rw [aF3]
  cases hf:full k
  ·simp only [Bool.not_false,gK,BQ.eK aw,pog.ld aw,ah]
   rw [am1]
   have:mH full out k=out k:=by unfold mH;rw [hf];rfl
   rw [this] at mid
   simp only [fy,ah]
   exact mid
  ·simp only [Bool.not_true,jd]
   rw [am1]
   have:mH full out k=false:=by unfold mH;rw [hf];rfl
   rw [this] at mid
   simp only [dA,ah]
   exact mid
 clear hL
 have eW:k=n:=by omega
 subst eW
 have Pu:∀{g:ae} {id:Nat} (f:Nat->Bool),BQ g id k (λi=>if i<k then f i else false)->BQ g id k f:=λf hb=>by
  unfold BQ at hb⊢
  rw [hb]
  congr 2
  exact List.map_congr_left λi hi=>by show B (if i<k then f i else false)=_;rw [if_pos (mem_range.1 hi)]
 have b1:=Pu _ b1
 have b2:=Pu _ b2
 have b3:=Pu _ b3
 refine aoJ m0 xg (by omega) (by omega) (by omega) b1 b2 b3 λg7 gh eC x7 c1 c2 c3 lk=>?_
 rw [aGe]
 have m7:=m0.up x7
 have Vz:=x0.trans x7
 simp only [iS,cj,zero_add,ah,m7.lJ]
 refine cN (σ:=Nat) (λq=>[I q]) (λ_=>g7) (λq=>q<=k/\∀i<q,mH full out i=true->gh i=true) (λq=>k-q) 0 rfl rfl ⟨zero_le _,λi hi=>absurd hi (not_lt_zero _)⟩ ?_
 intro i ⟨hi,gR⟩ L1 lD
 rw [aGf]
 simp only [bW,ah,ca]
 refine ⟨λaw=>?_,λcJ=>?_⟩
 ·have aw:i<k:=by omega
  have go:(mH full out i=true->gh i=true)->OP (aj .add (I i) (.int .i64 (1))) λEd=>True/\L1 [Ed] g7:=by
   intro hh
   simp only [b7,ah,true_and]
   rw [dP i (by simp only [maxLen];omega)]
   exact lD (i+1) ⟨aw,λj hj hp=>by
    by_cases e:j=i
    ·subst e;exact hh hp
    ·exact gR j (by omega) hp⟩ (by omega)
  simp only [BQ.eK aw,c1.ld aw,ah]
  rw [aGh]
  cases hp:mH full out i
  ·simp only [jd]
   rw [am6]
   simp only [dA,ah,dm]
   exact go λh=>by rw [hp] at h;cases h
  ·simp only [gK,BQ.eK aw,c3.ld aw,ah,kW]
   rw [am6]
   cases hl:gh i
   ·simp only [Bool.not_false,fy,ah,gf]
    refine hN g7 Vz ?_
    refine Classical.byContradiction λbY=>?_
    have nf:∀i<k,full i=false:=λi hi=>by cases hh:full i with
     | false=>rfl
     | true=>exact absurd ⟨i,hi,hh⟩ bY
    have:=sG.em nf i aw
    unfold mH at hp
    rw [this] at hp
    simp at hp
   ·simp only [Bool.not_true,fy,ah,dm]
    exact go λ_=>hl
 ·have AQ:i=k:=by omega
  subst AQ
  rw [aGi]
  have e1:∀j<i,mH full out j=(!full j&&out j):=λj _=>rfl
  have e2:∀j<i,oN full out j=(!full j&& !out j):=λj _=>rfl
  refine V9 m7 c1 c2 (af1 bl sG AO e1 lk gR) (aCN bl sG AO e1 e2 lk gR) λg8 ip8 x8 aA5 q8=>?_
  have pP:∀j<i,qC i D (mH full out) (oN full out) j=0∨qC i D (mH full out) (oN full out) j=di i D j:=λj _=>by
   unfold qC gP
   cases mH full out j <;> cases oN full out j <;> simp
  have pb:∀j<i,0<=qC i D (mH full out) (oN full out) j/\qC i D (mH full out) (oN full out) j<=8000:=λj hj=>by
   have:=zE bl hj
   rcases pP j hj with h | h <;> rw [h] <;> omega
  have pz:(∀j<i,full j=false)->∀j<i,qC i D (mH full out) (oN full out) j=0:=λnf j hj=>by
   have ho:=sG.em nf j hj
   have h1:mH full out j=false:=by unfold mH;rw [ho];simp
   have h2:oN full out j=true:=by unfold oN;rw [ho,nf j hj];rfl
   unfold qC gP
   rw [h1,h2];simp
  refine C58 (m7.up x8) q8 (λj hj=>rfl) pP λb g9 x9 hb=>?_
  have xh9:=(Vz.trans x8).trans x9
  cases b
  ·simp only [dm]
   refine hN g9 xh9 (Classical.byContradiction λbY=>?_)
   have nf:∀i'<i,full i'=false:=λi' hi=>by cases hh:full i' with
    | false=>rfl
    | true=>exact absurd ⟨i',hi,hh⟩ bY
   exact absurd (hb (pz nf)) (by simp)
  ·simp only [gf]
   exact hP g9 ip8 _ xh9 (le_trans Vz.1 aA5) (q8.up x9) pb pz
end
section
open Go.Sim Go.Sort
variable {h : ae} {K : Value -> ae -> Prop} {n : Nat}
theorem auw (s k:Nat):∃z w,aj .shr (I s) (I k)=some (I z)/\aj .and (I z) (.int .i64 (1))=some (I w)/\(s=0->w=0):=by
 have e1:aj .shr (I s) (I k)=some (I ((s:Int).fdiv (2^(min (k:Int).toNat IntKind.i64.bits)))):=by
  simp [aj,rB]
 have e2:∀z:Int,aj .and (I z) (.int .i64 (1))=some (I (IntKind.i64.wrap (BitVec.ofInt IntKind.i64.bits z &&& BitVec.ofInt IntKind.i64.bits 1).toNat)):=λz=>by
  simp [aj,jE]
 refine ⟨_,_,e1,e2 _,λh=>?_⟩
 subst h
 rw [show ((0:Nat):Int)=0 from rfl,Int.zero_fdiv]
 decide
theorem aou {ik s:Nat} {D:Nat->Nat->Int} {vb vl aV:Value} {L1:List Value->ae->Prop} {g0:ae} (m:ki g0 ik n D) (x0:EX g0 h) (iO:∀i<n,di n D i≠0)
  (hk:∀g ia full,EX h g->h.length<=ia->BQ g ia n full->(s=0->∀i<n,full i=false)->Sg prog K (pt ik 0) vb vl (sl 4 ia 0 n) aV (I s) L1 g):
  OH (eM 4 1 [(.bool false)] h (I n) (I n)) λdH h_1=>OP (aT dH) λcI=>bT [(.int .i64 (0))] h_1 λL2 xs hx=>Se prog K (pt ik 0) vb vl (I s) dH aV (I s) cI L1 L2 xs hx:=by
 have n8:=m.n8
 have p1:BQ (h++[.arr 4 ((List.range n).map λ_=>B false)]) h.length n λ_=>false:=bK
 have x1:EX h (h++[.arr 4 ((List.range n).map λ_=>B false)]):=EX.append _ _
 have lo:aT (sl 4 h.length 0 n)=some (I n):=rfl
 simp only [BQ.make h n8,aL,lo,ah]
 generalize h++[az.arr 4 ((List.range n).map λ_=>B false)]=g1 at x1 p1⊢
 refine cN (σ:=Nat×(Nat->Bool)×ae) (λq=>[I q.1]) (λq=>q.2.2) (λq=>q.1<=n/\EX h q.2.2/\BQ q.2.2 h.length n q.2.1/\(s=0->∀i<n,q.2.1 i=false)) (λq=>n-q.1)
  (0,λ_=>false,g1) rfl rfl ⟨zero_le _,x1,p1,λ_ _ _=>rfl⟩ ?_
 rintro ⟨k,f,g⟩ ⟨fC,xg,p,hz⟩ L2 dO
 simp only at fC xg p hz dO⊢
 rw [aEf]
 simp only [bW,ah,ca]
 refine ⟨λaw=>?_,λcJ=>?_⟩
 ·have aw:k<n:=by omega
  obtain ⟨z,w,e1,e2,e3⟩:=auw s k
  obtain ⟨tv,tb,to,t1,t2,t3⟩:=((m.up x0).up xg).zL aw
  have e4:=iO k aw
  have fin:∀b:Bool,(s=0->b=false)->OP (aD 1 (sl 4 h.length 0 n) (I k)) λfT=>OH (aU 1 g fT (B b)) λ_ h_1=>OP (aj .add (I k) (.int .i64 (1))) λiV=>True/\L2 [iV] h_1:=by
   intro b hb
   obtain ⟨g2,s2,f2,p2,_⟩:=p.set aw b
   simp only [BQ.eK aw,s2,ah,aL,b7,true_and]
   rw [dP k (by simp only [maxLen];omega)]
   refine dO (k+1,dU f k b,g2) ⟨aw,FR.iz xg f2 λd hd=>by omega,p2,λhs i hi=>?_⟩ (by show n-(k+1)<n-k;omega)
   show dU f k b i=false
   by_cases e:i=k
   ·subst e;rw [fL];exact hb hs
   ·rw [ez _ _ e];exact hz hs i hi
  simp only [e1,e2,ah,jB]
  rw [aEg]
  by_cases h1:w=1
  ·rw [dh h1]
   simp only [o0]
   rw [amQ]
   simp only [fy,ah]
   exact fin true λhs=>by rw [e3 hs] at h1;cases h1
  ·rw [bX h1]
   simp only [fc,iS,cj,zero_add,ah,t1,t2,t3,jB,bX e4]
   rw [amQ]
   simp only [dA,ah]
   exact fin false λ_=>rfl
 ·exact hk g h.length f xg (le_refl _) p hz
end
section
open Go.Sim Go.Sort
variable {h : ae} {K : Value -> ae -> Prop} {n : Nat}
theorem ay5 {a b:Int} (gQ:b<=a):¬uH (a:Rat) (b:Rat)<0:=by
 unfold uH
 by_cases e:a=b
 ·subst e;simp
 ·have h1:¬(a:Rat)=(b:Rat):=λh=>e (Rat.intCast_inj.1 h)
  have h2:¬(a:Rat)<(b:Rat):=λh=>by have:=Rat.intCast_lt_intCast.1 h;omega
  rw [if_neg h1,if_neg h2];decide
theorem aov {ip js:Nat} {m0 vb vl aV bz:Value} {L1:List Value->ae->Prop} {P:Nat->Int} {c:Cl} (n8:n<=8) (ql:QL h ip n (λj=>some (P j:Rat))) (hP:∀j<n,0<=P j/\P j<=8000) (hjs:js<h.length) (hc:h[js]?=some (.arr 92 (cG c))) (hr:RV h (.agg (cG c).toArray) ((0:Int):Rat)) (bY:ip≠js)
  (hk:∀g c S,FR (λd=>d=js) h g->g[js]?=some (.arr 92 (cG c))->RV g (.agg (cG c).toArray) ((S:Int):Rat)->0<=S->S<=64000->((∀j<n,P j=0)->S=0)->Si prog K m0 vb vl (sl 92 ip 0 n) (pt js 0) aV bz L1 g):
  bT [(.int .i64 (0))] h λL2 xs hx=>Sh prog K m0 vb vl (sl 92 ip 0 n) (pt js 0) aV bz (sl 92 ip 0 n) (I n) L1 L2 xs hx:=by
 refine cN (σ:=Nat×Cl×ae) (λq=>[I q.1]) (λq=>q.2.2) (λq=>q.1<=n/\FR (λd=>d=js) h q.2.2/\q.2.2[js]?=some (.arr 92 (cG q.2.1))/\RV q.2.2 (.agg (cG q.2.1).toArray) ((sg q.1 P:Int):Rat)) (λq=>n-q.1)
  (0,c,h) rfl rfl ⟨zero_le _,FR.refl _ _,hc,hr⟩ ?_
 rintro ⟨k,c,g⟩ ⟨fC,fr,hc,hr⟩ L2 dO
 simp only at fC fr hc hr dO⊢
 have bd:∀k,k<=n->0<=sg k P/\sg k P<=8000*k:=by
  intro k
  induction k with
  | zero=>intro _;simp [UW]
  | succ k ih=>intro h;rw [kG];have:=ih (by omega);have:=hP k (by omega);omega
 rw [aEi]
 simp only [bW,ah,ca]
 refine ⟨λaw=>?_,λcJ=>?_⟩
 ·have aw:k<n:=by omega
  obtain ⟨vp,lp,rp⟩:=(ql.fr fr bY).get aw rfl
  have x1:EX g (g++[.arr 92 z4]):=EX.append _ _
  have c1:(g++[az.arr 92 z4])[g.length]?=some (.arr 92 z4):=bK
  simp only [QL.eK aw,lp,ah,rQ,aL]
  obtain ⟨g2,s2,x2,jI,r2,f2,cx,H7,rfl⟩:=(rp.mono x1).put (h0:=g) x1 (le_refl _) c1
  have jg:js<g.length:=by have:=fr.len;omega
  have AM:g2[js]?=some (.arr 92 (cG c)):=x2.get hc
  have lc2:af true 4 g2 (pt js 0)=some (.agg (cG c).toArray):=ko AM
  simp only [s2,aL,lc2,jI,ah]
  have b1:=bd k (by omega)
  have b2:=hP k aw
  refine EA (hr.mono x2) r2 (mY (mW (by omega) (by omega)) (by omega)) (mY (mW (by omega) (by omega)) (by omega)) (by omega) λr3 g3 x3 wR=>?_
  rw [<-Rat.intCast_add,<-kG] at wR
  obtain ⟨g4,s4,Rr,r4,f4,c4,CE,rfl⟩:=wR.w6 (x3.get AM)
  simp only [s4,aL,b7,ah,true_and]
  rw [dP k (by simp only [maxLen];omega)]
  exact dO (k+1,c4,g4) ⟨aw,(fr.trans (FR.ex (x2.trans x3))).trans f4,CE,r4⟩ (by show n-(k+1)<n-k;omega)
 ·have eW:k=n:=by omega
  subst eW
  have b1:=bd k (le_refl _)
  exact hk g c _ fr hc hr b1.1 (by omega) λhz=>by rw [gn (g:=λ_=>0) hz,mX]
theorem C12 {eX:Nat} {iP:Nat->Nat} {D:Nat->Nat->Int} {cv:Value} (bl:nN n D) (iO:∀i<n,di n D i≠0) (md:MR h eX iP n D) (nc:NS h cv .i64 (replicate n 0))
  (hk:∀v g,EX h g->gA h.length g 53 v ((List.range n).map λ_=>S (kr 0))->K (.tuple #[v,I 0]) g):ay prog 12 [cv,sl 34 eX 0 n] h K:=by
 have n8:=bl.n8;have n1:=bl.n1
 refine f12 ?_
 unfold LR
 refine Ez bl.n1 bl.dZ bl.diag md nc λg1 ik x1 m=>?_
 simp only [fM,gi,gj,ah,kW,Bool.not_true,dm]
 refine pL (by omega) (by omega) λr g2 x2 hr=>?_
 have x3:EX g2 (g2++[.arr 92 z4]):=EX.append _ _
 have c3:(g2++[az.arr 92 z4])[g2.length]?=some (.arr 92 z4):=bK
 simp only [rQ,aL]
 obtain ⟨g4,s4,x4,Rr,r4,f4,c,hc,rfl⟩:=(hr.mono x3).put (h0:=g2) x3 (le_refl _) c3
 have m2:=m.up x2
 have sh:aj .shl (.int .i64 (1)) (I n)=some (I (2^n:Nat)):=by
  have:n=1∨n=2∨n=3∨n=4∨n=5∨n=6∨n=7∨n=8:=by omega
  rcases this with rfl | rfl | rfl | rfl | rfl | rfl | rfl | rfl <;> rfl
 have aDv:2^n<=256:=by
  have:=Nat.pow_le_pow_right (show 0<2 by omega) n8
  simpa using this
 have p0:0<2^n:=Nat.pow_pos (by omega)
 simp only [s4,aL,iS,cj,zero_add,ah,(m2.up x4).lJ,sh]
 generalize gS:g2.length=il at hc⊢
 generalize 2^n=W at aDv p0⊢
 refine cN (σ:=Nat×Value×Cl×ae) (λq=>[q.2.1,I q.1]) (λq=>q.2.2.2) (λq=>q.1<=W/\EX g2 q.2.2.2/\q.2.2.2[il]?=some (.arr 92 (cG q.2.2.1))/\RV q.2.2.2 (.agg (cG q.2.2.1).toArray) ((0:Int):Rat)/\((q.1=0/\q.2.1=.slice none 0 0)∨(0<q.1/\∃ib,g2.length<ib/\q.2.1=sl 92 ib 0 n/\QL q.2.2.2 ib n λ_=>some ((0:Int):Rat)))) (λq=>W-q.1)
  (0,.slice none 0 0,c,g4) rfl rfl ⟨zero_le _,x4,hc,r4,.inl ⟨rfl,rfl⟩⟩ ?_
 rintro ⟨s,vb,c,g⟩ ⟨hs,xg,hc,hr,hb⟩ L1 lD
 simp only at hs xg hc hr hb lD⊢
 rw [aEe]
 simp only [bW,ah,ca]
 have mg:=m2.up xg
 have gil:il<g.length:=(cm hc).1
 refine ⟨λaw=>?_,λcJ=>?_⟩
 ·have aw:s<W:=by omega
  simp only [iS,cj,zero_add,ah,mg.lJ]
  refine aou (n:=n) mg (EX.refl _) iO λg5 ia full x5 hia pf hz=>?_
  have rE:∀(vb:Value) (c:Cl) (g:ae),EX g2 g->g[il]?=some (.arr 92 (cG c))->RV g (.agg (cG c).toArray) ((0:Int):Rat)->(∃ib,g2.length<ib/\vb=sl 92 ib 0 n/\QL g ib n λ_=>some ((0:Int):Rat))->Dz prog K (pt ik 0) vb (pt il 0) (I W) (I s) L1 g:=by
   intro vb c g a1 a2 a3 a4
   rw [aEk]
   simp only [b7,ah,true_and]
   rw [dP s (by simp only [maxLen];omega)]
   exact lD (s+1,vb,c,g) ⟨aw,a1,a2,a3,.inr ⟨Nat.succ_pos _,a4⟩⟩ (by show W-(s+1)<W-s;omega)
  rw [aEh]
  refine C35 (mg.up x5) bl pf (λi hi _=>iO i hi) (λg6 x6 hex=>?_) (λg6 ip P x6 yG q6 pb pz=>?_)
  ·have en:oG false (.slice none 0 0) (.slice none 0 0)=some (B true):=rfl
   simp only [en,ah,gf]
   have gV:=x5.trans x6
   rcases hb with ⟨h0,_⟩ | ⟨_,ib,h1,h2,h3⟩
   ·obtain ⟨i,hi,hf⟩:=hex
    rw [hz h0 i hi] at hf;cases hf
   ·exact rE vb c g6 (xg.trans gV) (gV.get hc) (hr.mono gV) ⟨ib,h1,h2,h3.up gV⟩
  ·have en:oG false (sl 92 ip 0 n) (.slice none 0 0)=some (B false):=rfl
   have lp:aT (sl 92 ip 0 n)=some (I n):=rfl
   simp only [en,ah,dm]
   refine pL (by omega) (by omega) λr7 g7 x7 Is=>?_
   have x8:EX g7 (g7++[.arr 92 z4]):=EX.append _ _
   have c8:(g7++[az.arr 92 z4])[g7.length]?=some (.arr 92 z4):=bK
   simp only [rQ,aL]
   obtain ⟨g9,s9,x9,ld9,r9,f9,c9,hc9,rfl⟩:=(Is.mono x8).put (h0:=g7) x8 (le_refl _) c8
   have iZ:EX g g9:=(x5.trans x6).trans (x7.trans x9)
   have g97:g7.length<g9.length:=(cm hc9).1
   have q9:=(q6.up x7).up x9
   have ipl:ip<g7.length:=(q6.up x7).lt
   have aMQ:il<g7.length:=by have:=x5.1;have:=x6.1;have:=x7.1;omega
   simp only [s9,aL,lp,ah]
   refine aov n8 q9 pb g97 hc9 r9 (by omega) λg10 FI S f10 aAK ae8 S0 S1 Sz=>?_
   have aE:EX g2 g10:=FR.iz (xg.trans iZ) f10 λd hd=>by omega
   have Qi:g10[il]?=some (.arr 92 (cG c)):=f10.get (by omega) (iZ.get hc)
   have ano:RV g10 (.agg (cG c).toArray) ((0:Int):Rat):=f10.rv _ _ (hr.mono iZ)
   have agb:af true 4 g10 (pt g7.length 0)=some (.agg (cG FI).toArray):=ko aAK
   have lle:af true 4 g10 (pt il 0)=some (.agg (cG c).toArray):=ko Qi
   rw [aEj]
   rcases hb with ⟨h0,rfl⟩ | ⟨h0,ib,h1,rfl,h3⟩
   ·have e0:oG false (.slice none 0 0) (.slice none 0 0)=some (B true):=rfl
    have zz:=pz (hz h0)
    have sz:=Sz zz
    subst sz
    obtain ⟨g11,xd,aMS,r11,f11,NQ,aAL,Pk⟩:=ae8.w6 Qi
    rw [Pk] at r11
    simp only [e0,ah]
    rw [amR]
    simp only [o0]
    rw [amS]
    simp only [fy,ah,gf,agb,true_and,xd,aL]
    refine rE _ _ g11 (FR.iz aE f11 λd hd=>by omega) aAL r11 ⟨ip,?_,rfl,(((q9.fr f10 (by omega)).fr f11 ?_).congr λj hj=>by rw [zz j hj])⟩
    ·have:=x5.1;omega
    ·have:=x5.1;omega
   ·have e0:oG false (sl 92 ib 0 n) (.slice none 0 0)=some (B false):=rfl
    simp only [e0,ah]
    rw [amR]
    simp only [fc,agb,lle,ah]
    refine EB ae8 ano (mY (mW (by omega) (by omega)) (by omega)) (mY (k:=5) (by decide) (by omega)) (by omega) λg11 aG=>?_
    simp only [bW,ah,bX (ay5 S0)]
    rw [amS]
    simp only [dA,ah,dm]
    have ibl:ib<g.length:=h3.lt
    have gg7:g.length<=g7.length:=by have:=x5.1;have:=x6.1;have:=x7.1;omega
    exact rE _ c g11 (aE.trans aG) (aG.get Qi) (ano.mono aG) ⟨ib,h1,rfl,((h3.up iZ).fr f10 (by omega)).up aG⟩
 ·obtain ⟨_,ib,h1,rfl,h3⟩:=hb.resolve_left (by omega)
  rw [aEl]
  refine Ku n8 h3 (λj hj=>rfl) (λj hj=>by omega) λv g3 x3 own=>?_
  simp only [fM,gi,gj,ah]
  have x:=(x1.trans x2).trans xg
  exact hk v g3 (x.trans x3) (own.imp id λ⟨i,a,b⟩=>⟨i,le_trans x.1 a,b⟩)
end
section
open Go.Sim Go.Sort
variable {l : List T3} {w t : Nat} {ys : List Nat}
def iX (ys:List Nat) (ls:List T3) (i j:Nat):Int:=(ls.map λq=>if i=ys.idxOf q.2.1/\j=ys.idxOf (q.2.1+q.2.2) then (q.2.2:Int) else 0).sum
def DF (ys:List Nat) (ls:List T3) (w:Nat) (i j:Nat):Int:=iX ys ls i j+if i=ys.length-1/\j=0 then (w:Int) else 0
theorem Ch (ys:List Nat) (q:T3) (ls:List T3) (i j:Nat):iX ys (q::ls) i j=(if i=ys.idxOf q.2.1/\j=ys.idxOf (q.2.1+q.2.2) then (q.2.2:Int) else 0)+iX ys ls i j:=by simp [iX]
theorem azj {ys:List Nat} {a b:List T3} (h:a.Perm b) (i j:Nat):iX ys a i j=iX ys b i j:=amH (h.map _)
theorem anp {n:Nat} {b:Nat} (hb:b<n) (a i:Nat) (x:Int):sg n (λj=>if i=a/\j=b then x else 0)=if i=a then x else 0:=by
 by_cases e:i=a
 ·rw [if_pos e];exact (gn λj _=>by simp [e]).trans (sL hb x)
 ·rw [if_neg e];exact (gn λj _=>by simp [e]).trans (mX n)
theorem adg {n:Nat} {a:Nat} (ha:a<n) (b j:Nat) (x:Int):sg n (λi=>if i=a/\j=b then x else 0)=if j=b then x else 0:=by
 by_cases e:j=b
 ·rw [if_pos e];exact (gn λi _=>by simp [e]).trans (sL ha x)
 ·rw [if_neg e];exact (gn λi _=>by simp [e]).trans (mX n)
theorem Q9 {ys:List Nat} (hp:ys.Pairwise (·<·)) {i:Nat} (hi:i<ys.length):ys.idxOf ys[i]=i:=by
 have hm:=List.getElem_mem hi
 have h1:=List.idxOf_lt_length_of_mem hm
 have h2:=List.getElem_idxOf h1
 rcases Nat.lt_trichotomy (ys.idxOf ys[i]) i with c | c | c
 ·have:=(List.pairwise_iff_getElem.1 hp) _ _ h1 hi c;omega
 ·exact c
 ·have:=(List.pairwise_iff_getElem.1 hp) _ _ hi h1 c;omega
theorem IC {ys:List Nat} (hp:ys.Pairwise (·<·)) {i y:Nat} (hi:i<ys.length) (hy:y∈ys):i=ys.idxOf y↔y=ys[i]:=by
 constructor
 ·rintro rfl
  exact (List.getElem_idxOf (List.idxOf_lt_length_of_mem hy)).symm
 ·rintro rfl
  exact (Q9 hp hi).symm
theorem adn {ys:List Nat} (hp:ys.Pairwise (·<·)):∀{ls:List T3} (_:∀q∈ls,q.2.1∈ys/\q.2.1+q.2.2∈ys) {i:Nat} (hi:i<ys.length),sg ys.length (λj=>iX ys ls i j)=(eu.kV ls ys[i]:Int)
 | [],_,i,hi=>by
  exact mX _
 | q::ls,h,i,hi=>by
  obtain ⟨h1,h2⟩:=h q (by simp)
  have ih:=adn hp (λx hx=>h x (List.mem_cons_of_mem _ hx)) hi
  rw [gn λj _=>Ch ys q ls i j,oR,ih,anp (List.idxOf_lt_length_of_mem h2)]
  have:eu.kV (q::ls) ys[i]=(if q.2.1=ys[i] then q.2.2 else 0)+eu.kV ls ys[i]:=by simp [eu.kV]
  rw [this]
  have e:=IC hp hi h1
  by_cases c:i=ys.idxOf q.2.1
  ·rw [if_pos c,if_pos (e.1 c)];omega
  ·rw [if_neg c,if_neg λh=>c (e.2 h)];omega
theorem adm {ys:List Nat} (hp:ys.Pairwise (·<·)):∀{ls:List T3} (_:∀q∈ls,q.2.1∈ys/\q.2.1+q.2.2∈ys) {j:Nat} (hj:j<ys.length),sg ys.length (λi=>iX ys ls i j)=(eu.ot ls ys[j]:Int)
 | [],_,j,hj=>by
  exact mX _
 | q::ls,h,j,hj=>by
  obtain ⟨h1,h2⟩:=h q (by simp)
  have ih:=adm hp (λx hx=>h x (List.mem_cons_of_mem _ hx)) hj
  rw [gn λi _=>Ch ys q ls i j,oR,ih,adg (List.idxOf_lt_length_of_mem h1)]
  have:eu.ot (q::ls) ys[j]=(if q.2.1+q.2.2=ys[j] then q.2.2 else 0)+eu.ot ls ys[j]:=by simp [eu.ot]
  rw [this]
  have e:=IC hp hj h2
  by_cases c:j=ys.idxOf (q.2.1+q.2.2)
  ·rw [if_pos c,if_pos (e.1 c)];omega
  ·rw [if_neg c,if_neg λh=>c (e.2 h)];omega
theorem O9 (ys:List Nat) (ls:List T3) (i j:Nat):0<=iX ys ls i j:=by
 induction ls with
 | nil=>exact Int.le_refl _
 | cons q ls ih=>rw [Ch];split <;> omega
theorem azl (c:eu l w t ys) (hw:w<=1000) (h8:ys.length<=8):nN ys.length (DF ys l w)/\∀i<ys.length,di ys.length (DF ys l w) i≠0:=by
 obtain ⟨hp,hh,hl,_,h2⟩:=c.levels
 have lm:=c.IL
 obtain ⟨w1,t1,_⟩:=c.pos
 have y0:ys[0]'(by omega)=0:=by
  rw [List.head?_eq_getElem?,getElem?_eq_getElem (by omega)] at hh
  exact Option.some.inj hh
 have yn:ys[ys.length-1]'(by omega)=t:=by
  rw [List.getLast?_eq_getElem?,getElem?_eq_getElem (by omega)] at hl
  exact Option.some.inj hl
 have inj:∀i (hi:i<ys.length) k (hk:k<ys.length),ys[i]=ys[k]->i=k:=λi hi k hk e=>by
  have h1:=Q9 hp hi
  have h2:=Q9 hp hk
  rw [e,h2] at h1;exact h1.symm
 have row:∀i (hi:i<ys.length),di ys.length (DF ys l w) i=(eu.kV l ys[i]:Int)+if ys[i]=t then (w:Int) else 0:=λi hi=>by
  have:di ys.length (DF ys l w) i=sg ys.length (λj=>iX ys l i j+if i=ys.length-1/\j=0 then (w:Int) else 0):=rfl
  rw [this,oR,adn hp lm hi,anp (by omega)]
  by_cases e:i=ys.length-1
  ·subst e;rw [if_pos rfl,if_pos yn]
  ·rw [if_neg e,if_neg λh=>e (inj i hi (ys.length-1) (by omega) (by rw [h,yn]))]
 have Cf:∀j (hj:j<ys.length),nQ ys.length (DF ys l w) j=(eu.ot l ys[j]:Int)+if ys[j]=0 then (w:Int) else 0:=λj hj=>by
  have:nQ ys.length (DF ys l w) j=sg ys.length (λi=>iX ys l i j+if i=ys.length-1/\j=0 then (w:Int) else 0):=rfl
  rw [this,oR,adm hp lm hj,adg (by omega)]
  by_cases e:j=0
  ·subst e;rw [if_pos rfl,if_pos y0]
  ·rw [if_neg e,if_neg λh=>e (inj j hj 0 (by omega) (by rw [h,y0]))]
 have fl:=c.aAn
 have nn:∀i j,0<=DF ys l w i j:=λi j=>by
  have:=O9 ys l i j
  unfold DF;split <;> omega
 refine ⟨⟨by omega,h8,λi hi j hj=>⟨nn i j,?_⟩,λi hi=>?_,λv hv=>?_⟩,λi hi=>?_⟩
 ·have le:DF ys l w i j<=di ys.length (DF ys l w) i:=by
   have:(sg ys.length λq=>if q=j then DF ys l w i j else 0)<=di ys.length (DF ys l w) i:=sK λq _=>by
    by_cases e:q=j
    ·subst e;rw [if_pos rfl];exact Int.le_refl _
    ·rw [if_neg e];exact nn i q
   rwa [sL hj] at this
  rw [row i hi] at le
  have tl:=c.aKM ys[i]
  by_cases e:ys[i]=t
  ·rw [if_pos e,e,c.anV] at le;omega
  ·rw [if_neg e] at le;omega
 ·unfold DF
  have z:iX ys l i i=0:=by
   have:∀ls:List T3,(∀q∈ls,q∈l)->iX ys ls i i=0:=by
    intro ls
    induction ls with
    | nil=>intro _;rfl
    | cons q ls ih=>
     intro hq
     rw [Ch,ih λx hx=>hq x (List.mem_cons_of_mem _ hx),if_neg]
     ·rfl
     ·rintro ⟨e1,e2⟩
      have sf:=hq q (by simp)
      have h1:=(IC hp hi (lm q sf).1).1 e1
      have h2:=(IC hp hi (lm q sf).2).1 e2
      have:=(c.bound q sf).1
      omega
   exact this l λ_ h=>h
  rw [z,if_neg (by omega)];rfl
 ·rw [row v hv,Cf v hv]
  have:=fl ys[v]
  by_cases e1:ys[v]=t <;> by_cases e2:ys[v]=0
  ·rw [if_pos e1,if_pos e2];rw [if_pos e1,if_pos e2] at this;omega
  ·rw [if_pos e1,if_neg e2];rw [if_pos e1,if_neg e2] at this;omega
  ·rw [if_neg e1,if_pos e2];rw [if_neg e1,if_pos e2] at this;omega
  ·rw [if_neg e1,if_neg e2];rw [if_neg e1,if_neg e2] at this;omega
 ·rw [row i hi]
  by_cases e:ys[i]=t
  ·rw [if_pos e];omega
  ·rw [if_neg e]
   obtain ⟨q,hq,he⟩:=c.Rw ys[i] (List.getElem_mem hi)
   have hb:=(c.bound q hq).1
   have ago:∀(f:T3->Nat) (ls:List T3) (q:T3),q∈ls->f q<=(ls.map f).sum:=by
    intro f ls
    induction ls with
    | nil=>intro q hq;simp at hq
    | cons x ls ih=>
     intro q hq
     rw [map_cons,List.sum_cons]
     rcases List.mem_cons.1 hq with rfl | hq
     ·omega
     ·have:=ih q hq;omega
   rcases he with he | he
   ·have:=ago (λq=>if q.2.1=ys[i] then q.2.2 else 0) l q hq
    simp only [if_pos he] at this
    have:q.2.2<=eu.kV l ys[i]:=this
    omega
   ·have:=ago (λq=>if q.2.1+q.2.2=ys[i] then q.2.2 else 0) l q hq
    simp only [if_pos he] at this
    have h3:q.2.2<=eu.ot l ys[i]:=this
    have:=fl ys[i]
    rw [if_neg e] at this
    have y1:ys[i]≠0:=by omega
    rw [if_neg y1] at this
    omega
end
section
open Go.Sim
variable (P : Program) (K : VK)
noncomputable section
variable (x0 x1 l5 i6 w7 h8 x9 n12 aC cY f16 df g19 d20 i21 i22 bB bm db i27 dc tR cX n9 fw kM rK dC gp gJ eB iT sO dV mZ nh mf rM qG oV kc uj Eg xq Eh xr Ei xt Ej xu Ek xv El xw Em xy En xz Eo xB Ep xC Er xD Es xE Et xF Eu : Value) (L1 : LQ) (xs : List Value) (h : ae)
def Jb:=cg prog 3 [[],[],[],[0],[5,6],[0,5,6,45],[0,5,6,45,47],[],[],[],[],[],[0,5,6,7,8,9],[],[0,5,6,7,8,9,84],[0,5,6,9,84,88],[],[],[0,5,6],[5],[],[],[],[12,13,15,16,17,19,110],[12,13,15,17,19,110,112],[12,13,15,17,19,114],[12,13,15,17,114,116],[12,13,15,17,118],[12,13,15,17,118,120],[12,13,15,17,122],[12,13,15,17,122,124],[12,13,15,17,126],[12,13,15,17,126,131],[],[],[],[],[],[12,13,15,17],[20,21],[],[],[],[12,13,15,17,20],[],[12,13,15,17,20],[22],[],[],[12,13,15,17,20,22,156],[12,13,15,17,20,22,156,163],[12,13,15,17,20,22,165],[12,13,15,17,20,22,165,171],[12,13,15,17,20,22,173],[12,13,15,17,20,22,173,180],[],[],[],[],[12,17,20],[],[],[],[],[],[],[],[],[],[12,20,23,24,26,27,28,29,30,31,32,33,252],[12,20,23,24,26,28,29,30,31,32,33,252,254],[12,20,23,24,26,28,29,30,31,32,33,256],[12,20,23,24,26,28,30,31,32,33,256,258],[12,20,23,24,26,28,30,31,32,33,260],[12,20,23,24,26,28,30,32,33,260,262],[12,20,23,24,26,28,30,32,33,264],[12,20,23,24,26,28,30,32,264,266],[12,20,23,24,26,28,30,32,268],[12,20,23,24,26,28,30,32,268,272],[12,20,23,24,26,28,30,32,274],[12,20,24,26,28,30,32,274,277],[12,20,24,26,28,30,32,279],[12,20,26,28,30,32,279,283],[12,20,26,28,30,32,285],[12,20,26,28,30,285,288],[12,20,26,28,30,290],[12,20,26,28,30,290,294],[12,20,26,28,30,296],[12,20,26,28,30,296,300],[12,20,26,28,30,302],[12,20,26,28,30,302,306],[],[],[],[],[12,20,26,28,30],[34],[],[],[],[],[],[],[]]
@[irreducible] def c3:=cD Jb
@[irreducible] def Gz:=c3.r.r.l.r.l.l
@[irreducible] def aaS:=c3.r.r.r
@[irreducible] def aau:=Gz.l.l.r.l
@[irreducible] def aw3:=Gz.l.r
@[irreducible] def Ot:=Gz.r
@[irreducible] def Gy:=aaS.l
@[irreducible] def awP:=aau.r.l
@[irreducible] def Gx:=Ot.l.l.r.r.r.l
@[irreducible] def aaK:=Ot.r
@[irreducible] def aaT:=Gy.r.r.r.l.l.r.l
@[irreducible] def awX:=Gy.r.r.r.l.r
@[irreducible] def Oo:=Gy.r.r.r.r
@[irreducible] def aaR:=Gx.l.r.l.r.l
@[irreducible] def awU:=Gx.l.r.r
@[irreducible] def awT:=Gx.r
@[irreducible] def awW:=aaK.l
@[irreducible] def aaU:=aaT.r.l
@[irreducible] def awZ:=Oo.r.l.r.l.l
@[irreducible] def aa2:=Oo.r.r
@[irreducible] def awV:=aaR.r.l
@[irreducible] def aaV:=aaU.r.l
@[irreducible] def Oq:=aa2.l
@[irreducible] def aaW:=aaV.r.l
@[irreducible] def B6:=Oq.l.r.l.l
@[irreducible] def aa3:=Oq.r
@[irreducible] def aaX:=aaW.r.l
@[irreducible] def aa4:=B6.r.l.l.l.l.r.l
@[irreducible] def aw2:=B6.r.l.l.l.r
@[irreducible] def aw1:=B6.r.l.l.r
@[irreducible] def aw0:=B6.r.r
@[irreducible] def GA:=aa3.l
@[irreducible] def aaY:=aaX.r.l
@[irreducible] def aa5:=aa4.r.l
@[irreducible] def aav:=GA.r.r.r.r.r.r.r.l.l.r.l
@[irreducible] def aw5:=GA.r.r.r.r.r.r.r.l.r
@[irreducible] def Ou:=GA.r.r.r.r.r.r.r.r
@[irreducible] def aaZ:=aaY.r.l
@[irreducible] def aa6:=aa5.r.l
@[irreducible] def aaw:=aav.r.l
@[irreducible] def awS:=Ou.l.r.l.l
@[irreducible] def awR:=Ou.r
@[irreducible] def aa0:=aaZ.r.l
@[irreducible] def aa7:=aa6.r.l
@[irreducible] def aax:=aaw.r.l
@[irreducible] def aa1:=aa0.r.l
@[irreducible] def aa8:=aa7.r.l
@[irreducible] def aay:=aax.r.l
@[irreducible] def awY:=aa1.r.l
@[irreducible] def aw4:=aa8.r.l
@[irreducible] def aaz:=aay.r.l
@[irreducible] def aaA:=aaz.r.l
@[irreducible] def aaB:=aaA.r.l
@[irreducible] def aaC:=aaB.r.l
@[irreducible] def aaD:=aaC.r.l
@[irreducible] def aaE:=aaD.r.l
@[irreducible] def aaF:=aaE.r.l
@[irreducible] def aaG:=aaF.r.l
@[irreducible] def aaH:=aaG.r.l
@[irreducible] def aaI:=aaH.r.l
@[irreducible] def aaJ:=aaI.r.l
@[irreducible] def aaL:=aaJ.r.l
@[irreducible] def aaM:=aaL.r.l
@[irreducible] def aaN:=aaM.r.l
@[irreducible] def aaO:=aaN.r.l
@[irreducible] def aaP:=aaO.r.l
@[irreducible] def aaQ:=aaP.r.l
@[irreducible] def awQ:=aaQ.r.l
theorem k3:Jb=some (339,c3,[.tmp 4]):=by kernel_rfl
def o9 (_P:Program) (K:VK):ax:=aW [.tmp 4] K
def arN:ax:=aH (au P aaS (o9 P K)) (o9 P K)
def arO:ax:=bC 0 (arN P K)
def Ai:ax:=aH (λf' aQ=>(([0]:List Nat).map f':List Value)=[x0]/\L1 (([5,6]:List Nat).map f') aQ) (arO P K)
def Xn:ax:=aH (au P Ot (Ai P K x0 L1)) (Ai P K x0 L1)
def Xq:ax:=aH (au P aw3 (Xn P K x0 L1)) (Xn P K x0 L1)
def arJ:ax:=aH (au P aaK (Ai P K x0 L1)) (Ai P K x0 L1)
def K8:ax:=bC 1 (arJ P K x0 L1)
def Xk:ax:=aH (au P awT (K8 P K x0 L1)) (K8 P K x0 L1)
def Xl:ax:=aH (au P awU (Xk P K x0 L1)) (Xk P K x0 L1)
def Xm:ax:=aH (au P Oo (o9 P K)) (o9 P K)
def sV:ax:=aH (au P awX (Xm P K)) (Xm P K)
def arP:ax:=aH (au P aa2 (o9 P K)) (o9 P K)
def arQ:ax:=bC 2 (arP P K)
def arR:ax:=aH (λf' aQ=>(([12,13,15,17]:List Nat).map f':List Value)=[n12,aC,cY,df]/\L1 (([20,21]:List Nat).map f') aQ) (arQ P K)
def arT:ax:=aH (au P aa3 (o9 P K)) (o9 P K)
def arU:ax:=bC 4 (arT P K)
def K9:ax:=aH (λf' aQ=>(([12,13,15,17,20]:List Nat).map f':List Value)=[n12,aC,cY,df,d20]/\L1 (([22]:List Nat).map f') aQ) (arU P K)
def arV:ax:=aH (au P aw0 (K9 P K n12 aC cY df d20 L1)) (K9 P K n12 aC cY df d20 L1)
def Xo:ax:=bC 5 (arV P K n12 aC cY df d20 L1)
def Xp:ax:=aH (au P aw1 (Xo P K n12 aC cY df d20 L1)) (Xo P K n12 aC cY df d20 L1)
def Aj:ax:=aH (au P aw2 (Xp P K n12 aC cY df d20 L1)) (Xp P K n12 aC cY df d20 L1)
def Xr:ax:=aH (au P Ou (o9 P K)) (o9 P K)
def lA:ax:=aH (au P aw5 (Xr P K)) (Xr P K)
def arK:ax:=aH (au P awR (o9 P K)) (o9 P K)
def arL:ax:=bC 6 (arK P K)
def arM:ax:=aH (λf' aQ=>(([12,20,26,28,30]:List Nat).map f':List Value)=[n12,d20,db,dc,cX]/\L1 (([34]:List Nat).map f') aQ) (arL P K)
def Tl:Prop:=aA (au P Gz (Ai P K x0 L1)) ([0]++[5,6]) ([x0]++xs) h
def akF:Prop:=aA (au P aau (Xq P K x0 L1)) [0,5,6,45] [x0,l5,i6,dC] h
def S6:Prop:=aA (au P awP (Xq P K x0 L1)) [0,5,6,45,47] [x0,l5,i6,dC,gp] h
def DE:Prop:=aA (au P Gx (K8 P K x0 L1)) [0,5,6,7,8,9] [x0,l5,i6,w7,h8,x9] h
def akR:Prop:=aA (au P aaR (Xl P K x0 L1)) [0,5,6,7,8,9,84] [x0,l5,i6,w7,h8,x9,gJ] h
def Te:Prop:=aA (au P awV (Xl P K x0 L1)) [0,5,6,9,84,88] [x0,l5,i6,x9,gJ,eB] h
def akS:Prop:=aA (au P awW (Ai P K x0 L1)) [0,5,6] [x0,l5,i6] h
def Bo:Prop:=aA (au P Gy (o9 P K)) [5] [l5] h
def akT:Prop:=aA (au P aaT (sV P K)) [12,13,15,16,17,19,110] [n12,aC,cY,f16,df,g19,iT] h
def Tf:Prop:=aA (au P aaU (sV P K)) [12,13,15,17,19,110,112] [n12,aC,cY,df,g19,iT,sO] h
def akU:Prop:=aA (au P aaV (sV P K)) [12,13,15,17,19,114] [n12,aC,cY,df,g19,dV] h
def Tg:Prop:=aA (au P aaW (sV P K)) [12,13,15,17,114,116] [n12,aC,cY,df,dV,mZ] h
def akV:Prop:=aA (au P aaX (sV P K)) [12,13,15,17,118] [n12,aC,cY,df,nh] h
def Th:Prop:=aA (au P aaY (sV P K)) [12,13,15,17,118,120] [n12,aC,cY,df,nh,mf] h
def akW:Prop:=aA (au P aaZ (sV P K)) [12,13,15,17,122] [n12,aC,cY,df,rM] h
def Ti:Prop:=aA (au P aa0 (sV P K)) [12,13,15,17,122,124] [n12,aC,cY,df,rM,qG] h
def akX:Prop:=aA (au P aa1 (sV P K)) [12,13,15,17,126] [n12,aC,cY,df,oV] h
def Tj:Prop:=aA (au P awY (sV P K)) [12,13,15,17,126,131] [n12,aC,cY,df,oV,kc] h
def Tk:Prop:=aA (au P awZ (arR P K n12 aC cY df L1)) ([12,13,15,17]++[20,21]) ([n12,aC,cY,df]++xs) h
def Jp:Prop:=aA (au P Oq (o9 P K)) [12,13,15,17,20] [n12,aC,cY,df,d20] h
def akY:Prop:=aA (au P B6 (K9 P K n12 aC cY df d20 L1)) ([12,13,15,17,20]++[22]) ([n12,aC,cY,df,d20]++xs) h
def akZ:Prop:=aA (au P aa4 (Aj P K n12 aC cY df d20 L1)) [12,13,15,17,20,22,156] [n12,aC,cY,df,d20,i22,uj] h
def Tm:Prop:=aA (au P aa5 (Aj P K n12 aC cY df d20 L1)) [12,13,15,17,20,22,156,163] [n12,aC,cY,df,d20,i22,uj,Eg] h
def ak0:Prop:=aA (au P aa6 (Aj P K n12 aC cY df d20 L1)) [12,13,15,17,20,22,165] [n12,aC,cY,df,d20,i22,xq] h
def Tn:Prop:=aA (au P aa7 (Aj P K n12 aC cY df d20 L1)) [12,13,15,17,20,22,165,171] [n12,aC,cY,df,d20,i22,xq,Eh] h
def ak1:Prop:=aA (au P aa8 (Aj P K n12 aC cY df d20 L1)) [12,13,15,17,20,22,173] [n12,aC,cY,df,d20,i22,xr] h
def To:Prop:=aA (au P aw4 (Aj P K n12 aC cY df d20 L1)) [12,13,15,17,20,22,173,180] [n12,aC,cY,df,d20,i22,xr,Ei] h
def Jq:Prop:=aA (au P GA (o9 P K)) [12,17,20] [n12,df,d20] h
def akG:Prop:=aA (au P aav (lA P K)) [12,20,23,24,26,27,28,29,30,31,32,33,252] [n12,d20,bB,bm,db,i27,dc,tR,cX,n9,fw,kM,xt] h
def SY:Prop:=aA (au P aaw (lA P K)) [12,20,23,24,26,28,29,30,31,32,33,252,254] [n12,d20,bB,bm,db,dc,tR,cX,n9,fw,kM,xt,Ej] h
def akH:Prop:=aA (au P aax (lA P K)) [12,20,23,24,26,28,29,30,31,32,33,256] [n12,d20,bB,bm,db,dc,tR,cX,n9,fw,kM,xu] h
def SZ:Prop:=aA (au P aay (lA P K)) [12,20,23,24,26,28,30,31,32,33,256,258] [n12,d20,bB,bm,db,dc,cX,n9,fw,kM,xu,Ek] h
def akI:Prop:=aA (au P aaz (lA P K)) [12,20,23,24,26,28,30,31,32,33,260] [n12,d20,bB,bm,db,dc,cX,n9,fw,kM,xv] h
def S3:Prop:=aA (au P aaA (lA P K)) [12,20,23,24,26,28,30,32,33,260,262] [n12,d20,bB,bm,db,dc,cX,fw,kM,xv,El] h
def akJ:Prop:=aA (au P aaB (lA P K)) [12,20,23,24,26,28,30,32,33,264] [n12,d20,bB,bm,db,dc,cX,fw,kM,xw] h
def S4:Prop:=aA (au P aaC (lA P K)) [12,20,23,24,26,28,30,32,264,266] [n12,d20,bB,bm,db,dc,cX,fw,xw,Em] h
def akK:Prop:=aA (au P aaD (lA P K)) [12,20,23,24,26,28,30,32,268] [n12,d20,bB,bm,db,dc,cX,fw,xy] h
def S5:Prop:=aA (au P aaE (lA P K)) [12,20,23,24,26,28,30,32,268,272] [n12,d20,bB,bm,db,dc,cX,fw,xy,En] h
def akL:Prop:=aA (au P aaF (lA P K)) [12,20,23,24,26,28,30,32,274] [n12,d20,bB,bm,db,dc,cX,fw,xz] h
def S7:Prop:=aA (au P aaG (lA P K)) [12,20,24,26,28,30,32,274,277] [n12,d20,bm,db,dc,cX,fw,xz,Eo] h
def akM:Prop:=aA (au P aaH (lA P K)) [12,20,24,26,28,30,32,279] [n12,d20,bm,db,dc,cX,fw,xB] h
def S8:Prop:=aA (au P aaI (lA P K)) [12,20,26,28,30,32,279,283] [n12,d20,db,dc,cX,fw,xB,Ep] h
def akN:Prop:=aA (au P aaJ (lA P K)) [12,20,26,28,30,32,285] [n12,d20,db,dc,cX,fw,xC] h
def S9:Prop:=aA (au P aaL (lA P K)) [12,20,26,28,30,285,288] [n12,d20,db,dc,cX,xC,Er] h
def akO:Prop:=aA (au P aaM (lA P K)) [12,20,26,28,30,290] [n12,d20,db,dc,cX,xD] h
def Ta:Prop:=aA (au P aaN (lA P K)) [12,20,26,28,30,290,294] [n12,d20,db,dc,cX,xD,Es] h
def akP:Prop:=aA (au P aaO (lA P K)) [12,20,26,28,30,296] [n12,d20,db,dc,cX,xE] h
def Tb:Prop:=aA (au P aaP (lA P K)) [12,20,26,28,30,296,300] [n12,d20,db,dc,cX,xE,Et] h
def akQ:Prop:=aA (au P aaQ (lA P K)) [12,20,26,28,30,302] [n12,d20,db,dc,cX,xF] h
def Tc:Prop:=aA (au P awQ (lA P K)) [12,20,26,28,30,302,306] [n12,d20,db,dc,cX,xF,Eu] h
def Td:Prop:=aA (au P awS (arM P K n12 d20 db dc cX L1)) ([12,20,26,28,30]++[34]) ([n12,d20,db,dc,cX]++xs) h
theorem am7:S6 P K x0 l5 i6 dC gp L1 h=
 (OP (bu dC gp (.bool false)) λfD=>
 aJ fD
 (ay P 4 [l5] h λfg z1=>
 OP (cW 0 fg) λgv=>
 OP (cW 1 fg) λfJ=>
 OH (cH 24 0 [(.int .i64 (0)),(.int .i64 (0)),(.int .i64 (0))] z1 []) λgV z2=>
 OH (cT 24 3 24 z2 gV l5) λfS z3=>
 OP (aD 1 x0 i6) λfT=>
 OP (af false 1 z3 fT) λiV=>
 OP (aj .rem iV (.int .u8 (2))) λhI=>
 OP (aj .eql hI (.int .u8 (0))) λke=>
 aJ ke
 (OP (eG [(.int .i64 (0)),(.int .i64 (0)),(.int .i64 (0))] [(0,1,gv),(2,1,fJ)]) λfA=>
 OH (cH 24 1 [(.int .i64 (0)),(.int .i64 (0)),(.int .i64 (0))] z3 [(0,3,fA)]) λdY z4=>
 OH (cT 24 3 24 z4 fS dY) λdj z5=>
 DE P K x0 l5 i6 gv fJ dj L1 z5)
 (OP (eG [(.int .i64 (0)),(.int .i64 (0)),(.int .i64 (0))] [(1,1,fJ),(2,1,gv)]) λiW=>
 OH (cH 24 1 [(.int .i64 (0)),(.int .i64 (0)),(.int .i64 (0))] z3 [(0,3,iW)]) λfE z4=>
 OH (cT 24 3 24 z4 fS fE) λiL z5=>
 DE P K x0 l5 i6 gv fJ iL L1 z5))
 (Bo P K l5 h)):=aB (by kernel_rfl)
theorem aGn:akF P K x0 l5 i6 dC L1 h=
 (bO dC true
 (OP (aj .lss i6 (.int .i64 (9))) λgp=>
 S6 P K x0 l5 i6 dC gp L1 h)
 (S6 P K x0 l5 i6 dC undef L1 h)):=aB (by kernel_rfl)
theorem am8:Te P K x0 l5 i6 x9 gJ eB L1 h=
 (OP (bu gJ (.bool true) eB) λeP=>
 aJ eP
 (Bo P K l5 h)
 (akS P K x0 x9 i6 L1 h)):=aB (by kernel_rfl)
theorem aGM:akR P K x0 l5 i6 w7 h8 x9 gJ L1 h=
 (bO gJ false
 (OP (aj .add w7 h8) λkh=>
 OP (aj .gtr kh (.int .i64 (300))) λeB=>
 Te P K x0 l5 i6 x9 gJ eB L1 h)
 (Te P K x0 l5 i6 x9 gJ undef L1 h)):=aB (by kernel_rfl)
theorem aGL:DE P K x0 l5 i6 w7 h8 x9 L1 h=
 (ay P 5 [x9] h λlN z1=>
 OP (cW 0 lN) λkf=>
 OP (cW 1 lN) λ_=>
 OP (aj .gtr kf (.int .i64 (8))) λgW=>
 akR P K x0 l5 i6 w7 h8 x9 gW L1 z1):=aB (by kernel_rfl)
theorem aGN:akS P K x0 l5 i6 L1 h=
 (OP (aj .add i6 (.int .i64 (1))) λiU=>
 ([x0]:List Value)=[x0]/\L1 [l5,iU] h):=aB (by kernel_rfl)
theorem aG0 (x0:Value) (L1:LQ) (l5 i6:Value) (h:ae):Tl P K x0 L1 [l5,i6] h=
 (OP (aT x0) λcO=>
 OP (aj .lss i6 cO) λcP=>
 akF P K x0 l5 i6 cP L1 h):=aB (by kernel_rfl)
theorem aGY:Tj P K n12 aC cY df oV kc h=
 (OP (bu oV (.bool true) kc) λkA=>
 aJ kA
 (K (.bool false) h)
 (OH (cH 34 0 [(.slice none 0 0)] h []) λpJ z1=>
 bT [pJ,(.int .i64 (0))] z1 λL1 xs hx=>
 Tk P K n12 aC cY df L1 xs hx)):=aB (by kernel_rfl)
theorem aGX:akX P K n12 aC cY df oV h=
 (bO oV false
 (OP (aT aC) λqH=>
 OP (aT cY) λhG=>
 OP (aj .neq qH hG) λkc=>
 Tj P K n12 aC cY df oV kc h)
 (Tj P K n12 aC cY df oV undef h)):=aB (by kernel_rfl)
theorem aGW:Ti P K n12 aC cY df rM qG h=
 (OP (bu rM (.bool true) qG) λzP=>
 akX P K n12 aC cY df zP h):=aB (by kernel_rfl)
theorem aGV:akW P K n12 aC cY df rM h=
 (bO rM false
 (OP (aj .gtr n12 (.int .i64 (8))) λqG=>
 Ti P K n12 aC cY df rM qG h)
 (Ti P K n12 aC cY df rM undef h)):=aB (by kernel_rfl)
theorem aGU:Th P K n12 aC cY df nh mf h=
 (OP (bu nh (.bool true) mf) λvU=>
 akW P K n12 aC cY df vU h):=aB (by kernel_rfl)
theorem aGT:akV P K n12 aC cY df nh h=
 (bO nh false
 (OP (aj .lss n12 (.int .i64 (2))) λmf=>
 Th P K n12 aC cY df nh mf h)
 (Th P K n12 aC cY df nh undef h)):=aB (by kernel_rfl)
theorem aGS:Tg P K n12 aC cY df dV mZ h=
 (OP (bu dV (.bool true) mZ) λVh=>
 akV P K n12 aC cY df Vh h):=aB (by kernel_rfl)
theorem aGR:akU P K n12 aC cY df g19 dV h=
 (bO dV false
 (OP (aj .neq g19 (.int .i64 (0))) λmZ=>
 Tg P K n12 aC cY df dV mZ h)
 (Tg P K n12 aC cY df dV undef h)):=aB (by kernel_rfl)
theorem aGQ:Tf P K n12 aC cY df g19 iT sO h=
 (OP (bu iT (.bool true) sO) λvT=>
 akU P K n12 aC cY df g19 vT h):=aB (by kernel_rfl)
theorem aGP:akT P K n12 aC cY f16 df g19 iT h=
 (bO iT false
 (OP (aj .neq f16 (.int .i64 (0))) λsO=>
 Tf P K n12 aC cY df g19 iT sO h)
 (Tf P K n12 aC cY df g19 iT undef h)):=aB (by kernel_rfl)
theorem aGZ (n12 aC cY df:Value) (L1:LQ) (d20 i21:Value) (h:ae):Tk P K n12 aC cY df L1 [d20,i21] h=
 (OP (aj .lss i21 n12) λpK=>
 aJ pK
 (OH (eM 3 8 [(.int .i64 (0))] h n12 n12) λqJ z1=>
 OH (cH 34 1 [(.slice none 0 0)] z1 [(0,1,qJ)]) λmh z2=>
 OH (cT 34 1 24 z2 d20 mh) λgH z3=>
 OP (aj .add i21 (.int .i64 (1))) λnK=>
 ([n12,aC,cY,df]:List Value)=[n12,aC,cY,df]/\L1 [gH,nK] z3)
 (Jp P K n12 aC cY df d20 h)):=aB (by kernel_rfl)
theorem aG8:To P K n12 aC cY df d20 i22 xr Ei L1 h=
 (OP (bu xr (.bool true) Ei) λaLf=>
 aJ aLf
 (K (.bool false) h)
 (OP (aD 2 aC i22) λaLg=>
 OP (aF 0 aLg) λaLh=>
 OP (af false 1 h aLh) λaLi=>
 (True)/\
 OP (aD 1 d20 aLi) λaLj=>
 OP (af false 1 h aLj) λan8=>
 (True)/\
 OP (aD 2 aC i22) λaLk=>
 OP (aF 1 aLk) λaLl=>
 OP (af false 1 h aLl) λan9=>
 (True)/\
 OP (aD 1 an8 an9) λaLm=>
 OP (af false 1 h aLm) λaLn=>
 (True)/\
 OP (aD 1 cY i22) λaLo=>
 OP (af false 1 h aLo) λaLp=>
 (True)/\
 OP (aj .add aLn aLp) λaLq=>
 OP (aD 1 an8 an9) λaLr=>
 OH (aU 1 h aLr aLq) λ_ z1=>
 (True)/\
 OP (aj .add i22 (.int .i64 (1))) λBB=>
 ([n12,aC,cY,df,d20]:List Value)=[n12,aC,cY,df,d20]/\L1 [BB] z1)):=aB (by kernel_rfl)
theorem aG7:ak1 P K n12 aC cY df d20 i22 xr L1 h=
 (bO xr false
 (OP (aD 2 aC i22) λaLc=>
 OP (aF 1 aLc) λaLd=>
 OP (af false 1 h aLd) λaLe=>
 OP (aj .geq aLe n12) λEi=>
 To P K n12 aC cY df d20 i22 xr Ei L1 h)
 (To P K n12 aC cY df d20 i22 xr undef L1 h)):=aB (by kernel_rfl)
theorem aG6:Tn P K n12 aC cY df d20 i22 xq Eh L1 h=
 (OP (bu xq (.bool true) Eh) λaLb=>
 ak1 P K n12 aC cY df d20 i22 aLb L1 h):=aB (by kernel_rfl)
theorem aG5:ak0 P K n12 aC cY df d20 i22 xq L1 h=
 (bO xq false
 (OP (aD 2 aC i22) λaK8=>
 OP (aF 1 aK8) λaK9=>
 OP (af false 1 h aK9) λaLa=>
 OP (aj .lss aLa (.int .i64 (0))) λEh=>
 Tn P K n12 aC cY df d20 i22 xq Eh L1 h)
 (Tn P K n12 aC cY df d20 i22 xq undef L1 h)):=aB (by kernel_rfl)
theorem aG4:Tm P K n12 aC cY df d20 i22 uj Eg L1 h=
 (OP (bu uj (.bool true) Eg) λaK7=>
 ak0 P K n12 aC cY df d20 i22 aK7 L1 h):=aB (by kernel_rfl)
theorem aG3:akZ P K n12 aC cY df d20 i22 uj L1 h=
 (bO uj false
 (OP (aD 2 aC i22) λVp=>
 OP (aF 0 Vp) λaK6=>
 OP (af false 1 h aK6) λVq=>
 OP (aj .geq Vq n12) λEg=>
 Tm P K n12 aC cY df d20 i22 uj Eg L1 h)
 (Tm P K n12 aC cY df d20 i22 uj undef L1 h)):=aB (by kernel_rfl)
theorem aG2 (n12 aC cY df d20:Value) (L1:LQ) (i22:Value) (h:ae):akY P K n12 aC cY df d20 L1 [i22] h=
 (OP (aT aC) λdX=>
 OP (aj .lss i22 dX) λEe=>
 aJ Ee
 (OP (aD 2 aC i22) λvX=>
 OP (aF 0 vX) λEf=>
 OP (af false 1 h Ef) λVl=>
 OP (aj .lss Vl (.int .i64 (0))) λVm=>
 akZ P K n12 aC cY df d20 i22 Vm L1 h)
 (Jq P K n12 df d20 h)):=aB (by kernel_rfl)
theorem aGJ:Tc P K n12 d20 db dc cX xF Eu h=
 (OP (bu xF (.bool true) Eu) λaL7=>
 aJ aL7
 (K (.bool false) h)
 (bT [(.int .i64 (0))] h λL1 xs hx=>
 Td P K n12 d20 db dc cX L1 xs hx)):=aB (by kernel_rfl)
theorem aGI:akQ P K n12 d20 db dc cX xF h=
 (bO xF false
 (OP (aT cX) λaL6=>
 OP (aj .neq aL6 n12) λEu=>
 Tc P K n12 d20 db dc cX xF Eu h)
 (Tc P K n12 d20 db dc cX xF undef h)):=aB (by kernel_rfl)
theorem aGH:Tb P K n12 d20 db dc cX xE Et h=
 (OP (bu xE (.bool true) Et) λaL5=>
 akQ P K n12 d20 db dc cX aL5 h):=aB (by kernel_rfl)
theorem aGG:akP P K n12 d20 db dc cX xE h=
 (bO xE false
 (OP (aT dc) λaL4=>
 OP (aj .neq aL4 n12) λEt=>
 Tb P K n12 d20 db dc cX xE Et h)
 (Tb P K n12 d20 db dc cX xE undef h)):=aB (by kernel_rfl)
theorem aGF:Ta P K n12 d20 db dc cX xD Es h=
 (OP (bu xD (.bool true) Es) λaL3=>
 akP P K n12 d20 db dc cX aL3 h):=aB (by kernel_rfl)
theorem aGE:akO P K n12 d20 db dc cX xD h=
 (bO xD false
 (OP (aT db) λaL2=>
 OP (aj .neq aL2 n12) λEs=>
 Ta P K n12 d20 db dc cX xD Es h)
 (Ta P K n12 d20 db dc cX xD undef h)):=aB (by kernel_rfl)
theorem aGD:S9 P K n12 d20 db dc cX xC Er h=
 (OP (bu xC (.bool true) Er) λaL1=>
 akO P K n12 d20 db dc cX aL1 h):=aB (by kernel_rfl)
theorem aGC:akN P K n12 d20 db dc cX fw xC h=
 (bO xC false
 (OP (aT fw) λaL0=>
 OP (aj .neq aL0 (.int .i64 (0))) λEr=>
 S9 P K n12 d20 db dc cX xC Er h)
 (S9 P K n12 d20 db dc cX xC undef h)):=aB (by kernel_rfl)
theorem aGB:S8 P K n12 d20 db dc cX fw xB Ep h=
 (OP (bu xB (.bool true) Ep) λaLZ=>
 akN P K n12 d20 db dc cX fw aLZ h):=aB (by kernel_rfl)
theorem aGA:akM P K n12 d20 bm db dc cX fw xB h=
 (bO xB false
 (ay P 16 [d20] h λaLY z1=>
 OP (aj .neq bm aLY) λEp=>
 S8 P K n12 d20 db dc cX fw xB Ep z1)
 (S8 P K n12 d20 db dc cX fw xB undef h)):=aB (by kernel_rfl)
theorem aGz:S7 P K n12 d20 bm db dc cX fw xz Eo h=
 (OP (bu xz (.bool true) Eo) λaLX=>
 akM P K n12 d20 bm db dc cX fw aLX h):=aB (by kernel_rfl)
theorem aGy:akL P K n12 d20 bB bm db dc cX fw xz h=
 (bO xz false
 (ay P 16 [bB] h λaLW z1=>
 OP (aj .neq aLW (.int .i64 (0))) λEo=>
 S7 P K n12 d20 bm db dc cX fw xz Eo z1)
 (S7 P K n12 d20 bm db dc cX fw xz undef h)):=aB (by kernel_rfl)
theorem aGx:S5 P K n12 d20 bB bm db dc cX fw xy En h=
 (OP (bu xy (.bool true) En) λaLV=>
 akL P K n12 d20 bB bm db dc cX fw aLV h):=aB (by kernel_rfl)
theorem aGw:akK P K n12 d20 bB bm db dc cX fw xy h=
 (bO xy false
 (ay P 15 [d20,bB] h λaLU z1=>
 OP (gE .not aLU) λEn=>
 S5 P K n12 d20 bB bm db dc cX fw xy En z1)
 (S5 P K n12 d20 bB bm db dc cX fw xy undef h)):=aB (by kernel_rfl)
theorem aGv:S4 P K n12 d20 bB bm db dc cX fw xw Em h=
 (OP (bu xw (.bool true) Em) λaLT=>
 akK P K n12 d20 bB bm db dc cX fw aLT h):=aB (by kernel_rfl)
theorem aGu:akJ P K n12 d20 bB bm db dc cX fw kM xw h=
 (bO xw false
 (OP (aj .neq kM (.int .i64 (0))) λEm=>
 S4 P K n12 d20 bB bm db dc cX fw xw Em h)
 (S4 P K n12 d20 bB bm db dc cX fw xw undef h)):=aB (by kernel_rfl)
theorem aGt:S3 P K n12 d20 bB bm db dc cX fw kM xv El h=
 (OP (bu xv (.bool true) El) λaLS=>
 akJ P K n12 d20 bB bm db dc cX fw kM aLS h):=aB (by kernel_rfl)
theorem aGs:akI P K n12 d20 bB bm db dc cX n9 fw kM xv h=
 (bO xv false
 (OP (aj .neq n9 (.int .i64 (0))) λEl=>
 S3 P K n12 d20 bB bm db dc cX fw kM xv El h)
 (S3 P K n12 d20 bB bm db dc cX fw kM xv undef h)):=aB (by kernel_rfl)
theorem aGr:SZ P K n12 d20 bB bm db dc cX n9 fw kM xu Ek h=
 (OP (bu xu (.bool true) Ek) λaLR=>
 akI P K n12 d20 bB bm db dc cX n9 fw kM aLR h):=aB (by kernel_rfl)
theorem aGq:akH P K n12 d20 bB bm db dc tR cX n9 fw kM xu h=
 (bO xu false
 (OP (aj .neq tR (.int .i64 (0))) λEk=>
 SZ P K n12 d20 bB bm db dc cX n9 fw kM xu Ek h)
 (SZ P K n12 d20 bB bm db dc cX n9 fw kM xu undef h)):=aB (by kernel_rfl)
theorem aGp:SY P K n12 d20 bB bm db dc tR cX n9 fw kM xt Ej h=
 (OP (bu xt (.bool true) Ej) λaLQ=>
 akH P K n12 d20 bB bm db dc tR cX n9 fw kM aLQ h):=aB (by kernel_rfl)
theorem aGo:akG P K n12 d20 bB bm db i27 dc tR cX n9 fw kM xt h=
 (bO xt false
 (OP (aj .neq i27 (.int .i64 (0))) λEj=>
 SY P K n12 d20 bB bm db dc tR cX n9 fw kM xt Ej h)
 (SY P K n12 d20 bB bm db dc tR cX n9 fw kM xt undef h)):=aB (by kernel_rfl)
theorem aGK (n12 d20 db dc cX:Value) (L1:LQ) (rK:Value) (h:ae):Td P K n12 d20 db dc cX L1 [rK] h=
 (OP (aj .lss rK n12) λaL8=>
 aJ aL8
 (OP (aD 1 db rK) λVs=>
 OP (af false 1 h Vs) λVt=>
 (True)/\
 OP (aD 1 d20 rK) λaL9=>
 OP (af false 1 h aL9) λaMa=>
 (True)/\
 ay P 19 [aMa] h λaMb z1=>
 (af false 1 z1 Vs=some Vt/\True)/\
 ay P 18 [aMb] z1 λaMc z2=>
 (af false 1 z2 Vs=some Vt/\True)/\
 ay P 17 [Vt,aMc] z2 λaMd z3=>
 (True)/\
 OP (gE .not aMd) λVu=>
 bO Vu false
 (OP (aD 1 dc rK) λaMe=>
 OP (af false 1 z3 aMe) λaMf=>
 (True)/\
 OP (aj .neq aMf (.string ⟨#[48]⟩)) λaMg=>
 OP (bu Vu (.bool true) aMg) λzU=>
 bO zU false
 (OP (aD 1 cX rK) λVv=>
 OP (af false 1 z3 Vv) λVw=>
 (True)/\
 OP (aj .neq Vw (.string ⟨#[48]⟩)) λVx=>
 OP (bu zU (.bool true) Vx) λzV=>
 aJ zV
 (K (.bool false) z3)
 (OP (aj .add rK (.int .i64 (1))) λzT=>
 ([n12,d20,db,dc,cX]:List Value)=[n12,d20,db,dc,cX]/\L1 [zT] z3))
 (OP (bu zU (.bool true) undef) λzV=>
 aJ zV
 (K (.bool false) z3)
 (OP (aj .add rK (.int .i64 (1))) λzT=>
 ([n12,d20,db,dc,cX]:List Value)=[n12,d20,db,dc,cX]/\L1 [zT] z3)))
 (OP (bu Vu (.bool true) undef) λzU=>
 bO zU false
 (OP (aD 1 cX rK) λVv=>
 OP (af false 1 z3 Vv) λVw=>
 (True)/\
 OP (aj .neq Vw (.string ⟨#[48]⟩)) λVx=>
 OP (bu zU (.bool true) Vx) λzV=>
 aJ zV
 (K (.bool false) z3)
 (OP (aj .add rK (.int .i64 (1))) λzT=>
 ([n12,d20,db,dc,cX]:List Value)=[n12,d20,db,dc,cX]/\L1 [zT] z3))
 (OP (bu zU (.bool true) undef) λzV=>
 aJ zV
 (K (.bool false) z3)
 (OP (aj .add rK (.int .i64 (1))) λzT=>
 ([n12,d20,db,dc,cX]:List Value)=[n12,d20,db,dc,cX]/\L1 [zT] z3))))
 (K (.bool true) h)):=aB (by kernel_rfl)
theorem aG9:Jq P K n12 df d20 h=
 (OP (aj .sub n12 (.int .i64 (1))) λaLs=>
 OP (aD 1 d20 aLs) λaLt=>
 OP (af false 1 h aLt) λaoa=>
 OP (aD 1 aoa (.int .i64 (0))) λaLu=>
 OP (af false 1 h aLu) λaLv=>
 OP (aj .add aLv df) λaLw=>
 OP (aD 1 aoa (.int .i64 (0))) λaLx=>
 OH (aU 1 h aLx aLw) λ_ z1=>
 ay P 9 [d20] z1 λaLy z2=>
 OP (gE .not aLy) λaLz=>
 aJ aLz
 (K (.bool false) z2)
 (ay P 10 [d20] z2 λVr z3=>
 OP (cW 0 Vr) λaLA=>
 OP (cW 1 Vr) λaLB=>
 OP (cW 2 Vr) λaLC=>
 OH (eM 3 8 [(.int .i64 (0))] z3 n12 n12) λaLD z4=>
 ay P 11 [aLD,d20] z4 λaob z5=>
 OP (cW 0 aob) λaLE=>
 OP (cW 1 aob) λaLF=>
 OH (eM 3 8 [(.int .i64 (0))] z5 n12 n12) λaLG z6=>
 ay P 12 [aLG,d20] z6 λaoc z7=>
 OP (cW 0 aoc) λaLH=>
 OP (cW 1 aoc) λaLI=>
 OH (eM 3 8 [(.int .i64 (0))] z7 n12 n12) λaLJ z8=>
 ay P 13 [aLJ,d20] z8 λaod z9=>
 OP (cW 0 aod) λaLK=>
 OP (cW 1 aod) λaLL=>
 OH (eM 3 8 [(.int .i64 (0))] z9 n12 n12) λaLM qK=>
 ay P 14 [aLM,d20] qK λaoe zW=>
 OP (cW 0 aoe) λaLN=>
 OP (cW 1 aoe) λaLO=>
 OP (aj .neq aLC (.int .i64 (0))) λaLP=>
 akG P K n12 d20 aLA aLB aLE aLF aLH aLI aLK aLL aLN aLO aLP zW)):=aB (by kernel_rfl)
theorem aG1:Jp P K n12 aC cY df d20 h=
 (bT [(.int .i64 (0))] h λL1 xs hx=>
 akY P K n12 aC cY df d20 L1 xs hx):=aB (by kernel_rfl)
theorem aGO:Bo P K l5 h=
 (ay P 6 [l5] h λeD z1=>
 OP (cW 0 eD) λeZ=>
 OP (cW 1 eD) λfv=>
 OP (cW 2 eD) λoh=>
 ay P 7 [l5] z1 λnL z2=>
 OP (cW 0 nL) λpG=>
 OP (cW 1 nL) λpH=>
 ay P 8 [l5] z2 λlM z3=>
 OP (cW 0 lM) λvS=>
 OP (cW 1 lM) λ_=>
 OP (cW 2 lM) λpI=>
 OP (aj .neq oh (.int .i64 (0))) λjT=>
 akT P K eZ fv pG pH vS pI jT z3):=aB (by kernel_rfl)
def T3:Prop:=
 OP (dI .i64 x1) λaY=>
 OP (aj .rem aY (.int .i64 (3))) λbG=>
 OP (aj .add bG (.int .i64 (1))) λdH=>
 OP (eG [(.int .i64 (0)),(.int .i64 (0)),(.int .i64 (0))] [(2,1,dH)]) λdW=>
 OH (cH 24 1 [(.int .i64 (0)),(.int .i64 (0)),(.int .i64 (0))] h [(0,3,dW)]) λcI z1=>
 bT [cI,(.int .i64 (0))] z1 λL1 xs hx=>
 Tl P K x0 L1 xs hx
theorem e3:au P c3 (aW [.tmp 4] K) (cd [x0,x1]) h=T3 P K x0 x1 h:=by kernel_rfl
theorem f3 {K:VK} {x0 x1:Value} {h:ae} (H:T3 prog K x0 x1 h):ay prog 3 [x0,x1] h K:=
 cC k3 (cE rfl) ((e3 prog K x0 x1 h).mpr H)
end
end
section
open Go.Sim Go.Sort
variable {h : ae} {K : Value -> ae -> Prop} {n : Nat}
theorem aDk:kr 0=[48]:=rfl
theorem U0 {b:Nat} {g:ae} {v:Value} {f:Nat->Value} (o:gA b g 53 v ((List.range n).map f)) {j:Nat} (hj:j<n):∃i,aD 1 v (I j)=some (pt i j)/\af false 1 g (pt i j)=some (f j):=by
 rcases o with ⟨_,e⟩ | ⟨i,_,rfl,hg⟩
 ·have:=congrArg List.length e
  simp at this;omega
 ·exact ⟨i,jL (by simpa using hj),by simp [af,bw,hg,dS,hj]⟩
theorem aoK {b1 b2 b3 eX:Nat} {iP:Nat->Nat} {D:Nat->Nat->Int} {vp vq vk:Value} (bl:nN n D) (md:MR h eX iP n D) (op:gA b1 h 53 vp ((List.range n).map λj=>S (kr (di n D j)))) (oq:gA b2 h 53 vq ((List.range n).map λ_=>S (kr 0))) (ok:gA b3 h 53 vk ((List.range n).map λ_=>S (kr 0)))
  (hk:∀g,EX h g->K (B true) g):bT [(.int .i64 (0))] h λL1 xs hx=>Td prog K (I n) (sl 34 eX 0 n) vp vq vk L1 xs hx:=by
 have n8:=bl.n8
 refine cN (σ:=Nat×ae) (λq=>[I q.1]) (λq=>q.2) (λq=>q.1<=n/\EX h q.2) (λq=>n-q.1) (0,h) rfl rfl ⟨zero_le _,EX.refl _⟩ ?_
 rintro ⟨k,g⟩ ⟨fC,xg⟩ L hL
 simp only at fC xg hL⊢
 rw [aGK]
 simp only [bW,ah,ca]
 refine ⟨λaw=>?_,λcJ=>hk g xg⟩
 have aw:k<n:=by omega
 obtain ⟨ip,ap,lp⟩:=U0 op aw
 obtain ⟨iq,aq,lq⟩:=U0 oq aw
 obtain ⟨ik,ak,lk⟩:=U0 ok aw
 have lp:=EX.load xg lp
 have rb:=zE bl aw
 have mg:=md.up xg
 have ns:NS g (sl 3 (iP k) 0 n) .i64 ((List.range n).map (D k)):=by
  have:=NS.arr (k:=.i64) (ns:=(List.range n).map (D k)) (h:=g) (e:=3) (i:=iP k) (by rw [mg.hr k aw,iK,List.map_map];rfl) (by simp [maxLen];omega)
  simpa using this
 have mk:=lB.of bl.n1 bl.n8 bl.dZ bl.diag
 have rw1:=mk.pX ((List.range n).map (D k)) (mem_map.2 ⟨k,mem_range.2 aw,rfl⟩)
 simp only [ap,lp,MR.eK aw,mg.ld aw,ah,true_and]
 refine VZ ns (λj=>by have:=rw1 j;omega) ?_
 have e:((List.range n).map (D k)).sum=di n D k:=rfl
 rw [e]
 simp only [lp,true_and,and_true]
 refine C18 (by omega) λr g2 x2 hr=>?_
 simp only [EX.load x2 lp,true_and]
 refine C17 hr (lt_of_lt_of_le (show (di n D k).natAbs<10000^2 from (show (di n D k).natAbs<100000000 by omega)) (Nat.pow_le_pow_right (by omega) (by omega))) λg3 x3=>?_
 have x:=(xg.trans x2).trans x3
 have lq:=EX.load x lq
 have lk:=EX.load x lk
 have neq:aj .neq (S (kr 0)) (.string ⟨#[48]⟩)=some (.bool false):=by
  have:(.string ⟨#[48]⟩:Value)=S [48]:=rfl
  rw [this,Yj,aDk];rfl
 simp only [decide_true,kW,Bool.not_true,ah,fc,aq,lq,ak,lk,neq,dA,dm,b7]
 rw [dP k (by simp only [maxLen];omega)]
 exact hL (k+1,g3) ⟨aw,x⟩ (by show n-(k+1)<n-k;omega)
end
section
open Go.Sim Go.Sort
variable {h : ae} {K : Value -> ae -> Prop} {n : Nat}
theorem mkZ (g:ae) (n8:n<=8):eM 3 8 [(.int .i64 (0))] g (I n) (I n)=some (sl 3 g.length 0 n,g++[.arr 3 ((replicate n (0:Int)).map I)]):=by
 simp only [eM]
 rw [if_pos (by omega)]
 simp [bE]
theorem I6 (g:ae) (n8:n<=8):NS (g++[.arr 3 ((replicate n (0:Int)).map I)]) (sl 3 g.length 0 n) .i64 (replicate n 0):=by
 have:=NS.arr (k:=.i64) (ns:=replicate n (0:Int)) (h:=g++[az.arr 3 ((replicate n (0:Int)).map I)]) (e:=3) (i:=g.length) bK (by simp [maxLen];omega)
 simpa using this
theorem aoO {eX w:Nat} {iP:Nat->Nat} {D0 D:Nat->Nat->Int} (hD:(λa b=>if a=n-1/\b=0 then D0 (n-1) 0+w else D0 a b)=D) (h0:0<=D0 (n-1) 0/\D0 (n-1) 0+w<=1000) (bl:nN n D) (iO:∀i<n,di n D i≠0) (md:MR h eX iP n D0)
  (hk:∀g,K (B true) g):Jq prog K (I n) (I w) (sl 34 eX 0 n) h:=by
 have n8:=bl.n8;have n1:=bl.n1
 rw [aG9]
 have sb:IntKind.wrap .i64 ((n:Int)-1)=(n-1:Nat):=by rw [wrap64 (by omega) (by omega)];omega
 have h1:n-1<n:=by omega
 have a0:aD 1 (sl 3 (iP (n-1)) 0 n) (.int .i64 (0))=some (pt (iP (n-1)) 0):=jL (j:=0) (by omega)
 have w1:IntKind.wrap .i64 (D0 (n-1) 0+w)=D0 (n-1) 0+w:=wrap64 (by omega) (by omega)
 obtain ⟨g1,s1,_,m1⟩:=md.set h1 (show 0<n by omega) (D0 (n-1) 0+w)
 rw [hD] at m1
 simp only [iD,sb,ah,MR.eK h1,md.ld h1,a0,md.jI h1 (show 0<n by omega),b7,w1,s1,aL]
 have mk:=lB.of n1 n8 bl.dZ bl.diag
 refine C9 m1.mi mk ?_
 simp only [kW,Bool.not_true,ah,dm]
 refine C10 bl m1 λg2 oI iQ x2 mz=>?_
 simp only [fM,mkZ _ n8,aL]
 have e0:∀a b c:Value,(#[a,b,c]:Array Value)[0]?=some a:=λ_ _ _=>rfl
 have e1:∀a b c:Value,(#[a,b,c]:Array Value)[1]?=some b:=λ_ _ _=>rfl
 have e2:∀a b c:Value,(#[a,b,c]:Array Value)[2]?=some c:=λ_ _ _=>rfl
 simp only [e0,e1,e2,ah]
 have y3:EX g2 (g2++[.arr 3 ((replicate n (0:Int)).map I)]):=EX.append _ _
 refine C11 bl ((m1.up x2).up y3) (I6 g2 n8) λvp g4 x4 op=>?_
 have y5:EX g4 (g4++[.arr 3 ((replicate n (0:Int)).map I)]):=EX.append _ _
 have aX:=x2.trans (y3.trans (x4.trans y5))
 simp only [fM,gi,gj,ah]
 refine C12 bl iO (m1.up aX) (I6 g4 n8) λvq g6 x6 oq=>?_
 have y7:EX g6 (g6++[.arr 3 ((replicate n (0:Int)).map I)]):=EX.append _ _
 have bM:=aX.trans (x6.trans y7)
 simp only [fM,gi,gj,ah]
 refine C13 bl (m1.up bM) (I6 g6 n8) λvk g8 x8 ok=>?_
 have y9:EX g8 (g8++[.arr 3 ((replicate n (0:Int)).map I)]):=EX.append _ _
 have aR:=bM.trans (x8.trans y9)
 simp only [fM,gi,gj,ah]
 refine C14 bl (m1.up aR) (I6 g8 n8) λg10 aE=>?_
 have xA:=aR.trans aE
 have mA:=m1.up xA
 have mzA:=mz.up (xA |>λ_=>(y3.trans (x4.trans y5)).trans ((x6.trans y7).trans ((x8.trans y9).trans aE)))
 have mkz:lB n (fQ n λ_ _=>0):=lB.of n1 n8 (λ_ _ _ _=>by omega) λ_ _=>rfl
 have z:(fz (fQ n λ_ _=>0)).sum=0:=by
  have:∀r∈fz (fQ n λ_ _=>(0:Int)),r=0:=by
   intro r hr
   obtain ⟨q,hq,rfl⟩:=mem_map.1 hr
   obtain ⟨i,_,rfl⟩:=mem_map.1 hq
   have:(List.range n).map (λ_=>(0:Int))=replicate n 0:=by rw [map_const'];simp
   rw [this];simp
  have e:fz (fQ n λ_ _=>(0:Int))=replicate (fz (fQ n λ_ _=>(0:Int))).length 0:=List.eq_replicate_iff.2 ⟨rfl,this⟩
  rw [e];simp
 have x4A:EX g4 g10:=y5.trans ((x6.trans y7).trans ((x8.trans y9).trans aE))
 have x6A:EX g6 g10:=y7.trans ((x8.trans y9).trans aE)
 have x8A:EX g8 g10:=y9.trans aE
 have opA:=op.iu (g':=g10) λd q hv hd=>x4A.2 d (op.lt hv).2.1
 have oqA:=oq.iu (g':=g10) λd q hv hd=>x6A.2 d (oq.lt hv).2.1
 have okA:=ok.iu (g':=g10) λd q hv hd=>x8A.2 d (ok.lt hv).2.1
 have lp:aT vp=some (I n):=by
  rcases opA with ⟨_,e⟩ | ⟨i,_,rfl,_⟩
  ·have:=congrArg List.length e;simp at this;omega
  ·simp [aT,sl]
 have lq:aT vq=some (I n):=by
  rcases oqA with ⟨_,e⟩ | ⟨i,_,rfl,_⟩
  ·have:=congrArg List.length e;simp at this;omega
  ·simp [aT,sl]
 have lk:aT vk=some (I n):=by
  rcases okA with ⟨_,e⟩ | ⟨i,_,rfl,_⟩
  ·have:=congrArg List.length e;simp at this;omega
  ·simp [aT,sl]
 have ln:aT (.slice none 0 0)=some (I 0):=rfl
 simp only [fM,gi,gj,ah,iC,decide_true,Bool.not_true]
 rw [aGo]
 simp only [fc,iC,decide_true,Bool.not_true,ah]
 rw [aGp]
 simp only [dA,ah]
 rw [aGq]
 simp only [fc,iC,decide_true,Bool.not_true,ah]
 rw [aGr]
 simp only [dA,ah]
 rw [aGs]
 simp only [fc,iC,decide_true,Bool.not_true,ah]
 rw [aGt]
 simp only [dA,ah]
 rw [aGu]
 simp only [fc,iC,decide_true,Bool.not_true,ah]
 rw [aGv]
 simp only [dA,ah]
 rw [aGw]
 simp only [fc]
 refine C15 mA.mi mzA.mi mk (by simp [fQ]) (λr hr=>by obtain ⟨i,_,rfl⟩:=mem_map.1 hr;simp) ?_
 simp only [kW,Bool.not_true,ah]
 rw [aGx]
 simp only [dA,ah]
 rw [aGy]
 simp only [fc]
 refine VY mzA.mi mkz ?_
 simp only [z,iC,decide_true,Bool.not_true,ah]
 rw [aGz]
 simp only [dA,ah]
 rw [aGA]
 simp only [fc]
 refine VY mA.mi mk ?_
 simp only [iC,decide_true,Bool.not_true,ah]
 rw [aGB]
 simp only [dA,ah]
 rw [aGC]
 simp only [fc,ln,iC,decide_true,Bool.not_true,ah]
 rw [aGD]
 simp only [dA,ah]
 rw [aGE]
 simp only [fc,lp,iC,decide_true,Bool.not_true,ah]
 rw [aGF]
 simp only [dA,ah]
 rw [aGG]
 simp only [fc,lq,iC,decide_true,Bool.not_true,ah]
 rw [aGH]
 simp only [dA,ah]
 rw [aGI]
 simp only [fc,lk,iC,decide_true,Bool.not_true,ah]
 rw [aGJ]
 simp only [dA,ah,dm]
 exact aoK bl mA opA oqA okA λg _=>hk g
end
end Go.Proofs.YtncaiogfjjepcaaGreat
