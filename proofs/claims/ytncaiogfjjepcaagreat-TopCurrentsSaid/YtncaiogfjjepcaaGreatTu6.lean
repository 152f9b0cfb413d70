/-
  Part 6 of the texts behind a statement of this seat: UCt34, UCt35, UCt36, UCt37, UCt38, UCt39, UCt40, UCt45, UCt46, UCt47, UZq1, Sp18, UKd1, UKd2, UKd3, UKd4, UKd5, UKd6, UCt41, UZq2, UZq3, UKd7, UKd8, UKd9.
-/
import Derived.Test.YtncaiogfjjepcaaGreatTu5
open Bool (false_eq_true)
open Classical (byContradiction)
open Go.Proofs.Tryz (prog)
open Int (natAbs_mul natAbs_natCast natCast_mul)
open List (drop_eq_getElem_cons drop_zero getElem?_eq_getElem getElem?_set_ne getElem_mem length_append length_cons length_nil length_set length_take mem_of_mem_take replicate set_cons_zero set_set take_length take_of_length_le)
open Nat (add_mul add_zero div_add_mod gcd le_refl lt_of_lt_of_le min_eq_left mod_eq_of_lt mod_lt mul_add mul_assoc mul_comm mul_le_mul_left mul_le_mul_right mul_zero pow_add pow_le_pow_right pow_pos pow_succ zero_add zero_le)
namespace Go.Proofs.YtncaiogfjjepcaaGreat
open Go.Sim
section
theorem auu:dN<=10000^250:=by decide+kernel
theorem qP {xs:List Nat} (h:eL 10000 xs) (hv:val 10000 xs<dN):xs.length<=250:=h.len (by decide) (lt_of_lt_of_le hv auu)
def pN (b:Nat) (hx:ae) (v:Value) (os:List Nat):Prop:=gA b hx 3 v (os.map λd:Nat=>I d)
theorem pN.ds {b:Nat} {hx:ae} {v:Value} {os:List Nat} (o:pN b hx v os):DS 3 .i64 hx v os:=by
 rcases o with ⟨h1,h2⟩ | ⟨i,_,h2,h3⟩
 ·exact .inl ⟨h1,by simpa using h2⟩
 ·refine .inr ⟨i,by rw [h2,List.length_map],.inr ⟨[],?_⟩⟩
  simp [bw,h3]
theorem DS.cells {e:TypeId} {k:IntKind} {h:ae} {v:Value} {xs:List Nat} (p:DS e k h v xs):fx h 1 v=some (xs.map λd:Nat=>Value.int k (d:Int))/\iY v=some xs.length:=by
 rcases p with ⟨rfl,rfl⟩ | ⟨i,rfl,hc⟩
 ·exact ⟨rfl,rfl⟩
 ·refine ⟨?_,rfl⟩
  unfold fx sl
  simp only
  by_cases hz:xs.length=0
  ·rw [if_pos hz]
   have:xs=[]:=List.length_eq_zero_iff.1 hz
   subst this
   rfl
  ·obtain ⟨r,hc⟩:=hc.resolve_left (by rintro rfl;simp at hz)
   rw [if_neg hz,hc]
   simp only [Option.bind_some]
   rw [if_pos (by simp)]
   have:((xs.map (λd:Nat=>Value.int k (d:Int))++r).drop 0).take (xs.length*1)=xs.map λd:Nat=>Value.int k (d:Int):=by
    rw [drop_zero,Nat.mul_one,List.take_append_of_le_length (by simp),take_of_length_le (by simp)]
   rw [this]
def je (h:ae) (v:Value) (n:Nat):Prop:=∃xs,DS 3 .i64 h v xs/\eL 10000 xs/\val 10000 xs=n
theorem je.mono {h h':ae} {v:Value} {n:Nat} (x:EX h h') (p:je h v n):je h' v n:=let ⟨xs,a,b,c⟩:=p;⟨xs,a.mono x,b,c⟩
theorem DS.dK {e e':TypeId} {k:IntKind} {h:ae} {v:Value} {xs:List Nat} {j:Nat} {b:Bool} {r:List Value} (d:DS e k h v xs) (hj:h[j]?=some (.arr e' (.bool b::r))) (o:az):DS e k (h.set j o) v xs:=by
 rcases d with d | ⟨i,h1,h2⟩
 ·exact .inl d
 ·refine .inr ⟨i,h1,?_⟩
  rcases h2 with h2 | ⟨rest,h2⟩
  ·exact .inl h2
  ·cases xs with
   | nil=>exact .inl rfl
   | cons x xs=>
    right
    refine ⟨rest,?_⟩
    have bY:j≠i:=by
     rintro rfl
     unfold bw at h2
     rw [hj] at h2
     simp at h2
    unfold bw at h2⊢
    rw [getElem?_set_ne bY]
    exact h2
theorem je.dK {h:ae} {v:Value} {n j:Nat} {e:TypeId} {b:Bool} {r:List Value} (p:je h v n) (hj:h[j]?=some (.arr e (.bool b::r))) (o:az):je (h.set j o) v n:=
 let ⟨xs,d,c,hv⟩:=p;⟨xs,d.dK hj o,c,hv⟩
def ZV (h:ae) (val:Value) (z:Int):Prop:=∃v,val=.agg #[B (decide (z<0)),v]/\je h v z.natAbs
theorem ZV.mono {h h':ae} {v:Value} {z:Int} (x:EX h h') (p:ZV h v z):ZV h' v z:=let ⟨w,a,b⟩:=p;⟨w,a,b.mono x⟩
theorem ZV.dK {h:ae} {v:Value} {z:Int} {j:Nat} {e:TypeId} {b:Bool} {r:List Value} (p:ZV h v z) (hj:h[j]?=some (.arr e (.bool b::r))) (o:az):ZV (h.set j o) v z:=
 let ⟨w,a,q⟩:=p;⟨w,a,q.dK hj o⟩
theorem NK {h0 hx:ae} {v:Value} {os:List Nat} {d:Nat} {K:Value->ae->Prop} (o:pN h0.length hx v os) (hex:EX h0 hx) (hl:os.length<=10000)
  (hk:∀v' dM,EX h0 dM->pN h0.length dM v' (os++[d])->K v' dM):OH (cH 3 1 [.int .i64 0] hx [(0,1,I d)]) λa h2=>OH (cT 3 1 8 h2 v a) K:=by
 refine Yd o hex (by simp;omega) (by simp [maxLen];omega) rfl rfl ?_
 intro v' dM h1 h2
 exact hk v' dM h1 (by unfold pN;simpa using h2)
theorem VS {s:Bool} {v:Value} {xs:List Nat} {h:ae} {K:Value->ae->Prop} (hd:DS 3 .i64 h v xs) (hl:dF 10000 xs) (hs:xs.length<=1000)
  (hk:∀r h',EX h h'->ZV h' r (if s then -(val 10000 xs:Int) else val 10000 xs)->(∃b i n,r=.agg #[B b,sl 3 i 0 n]/\h.length<=i)->K r h'):ay prog 125 [.agg #[B s,v]] h K:=by
 refine f125 ?_
 have e1:cR 55 h (.agg #[B s,v])=some (pt h.length 0,h++[.arr 55 [B s,v]]):=rfl
 have e2:∀g:ae,cF 55 [(.bool false),(.slice none 0 0)] g=some (pt g.length 0,g++[.arr 55 [(.bool false),(.slice none 0 0)]]):=λ_=>rfl
 simp only [LX,e1,aL,e2,length_append,length_cons,length_nil]
 have g0:(h++[az.arr 55 [B s,v]]++[az.arr 55 [(.bool false),(.slice none 0 0)]])[h.length]?=some (.arr 55 [B s,v]):=by simp
 have g1:(h++[az.arr 55 [B s,v]]++[az.arr 55 [(.bool false),(.slice none 0 0)]])[h.length+1]?=some (.arr 55 [(.bool false),(.slice none 0 0)]):=by simp
 have x1:EX h (h++[az.arr 55 [B s,v]]++[az.arr 55 [(.bool false),(.slice none 0 0)]]):=(EX.append _ _).push _
 have hlen:(h++[az.arr 55 [B s,v]]++[az.arr 55 [(.bool false),(.slice none 0 0)]]).length=h.length+2:=by simp
 generalize h++[az.arr 55 [B s,v]]++[az.arr 55 [(.bool false),(.slice none 0 0)]]=h1 at g0 g1 x1 hlen⊢
 have ld1:af false 1 h1 (pt h.length 1)=some v:=by simp [af,bw,g0,dS]
 have wG:=hd.mono x1
 simp only [cj,zero_add,ah,ld1,wG.len]
 refine cN (σ:=Nat) (λn=>[I n]) (λ_=>h1) (λn=>n<=xs.length/\val 10000 (xs.take n)=val 10000 xs) (λn=>n) xs.length rfl rfl ⟨le_refl _,by rw [take_length]⟩ ?_
 rintro n ⟨hn,dD⟩ L hL
 rw [aD7]
 -- j6 end
 have fin:eL 10000 (xs.take n)->Sc prog K (pt h.length 0) (pt (h.length+1) 0) (I n) h1:=by
  intro hc
  rw [aD6]
  have mk:cH 3 0 [.int .i64 0] h1 []=some (sl 3 h1.length 0 0,h1++[.arr 3 []]):=rfl
  have x2:EX h1 (h1++[.arr 3 []]):=EX.append _ _
  obtain ⟨v',p1,p2⟩:=(wG.mono x2).pop hn
  obtain ⟨c1,c2⟩:=p2.cells
  have yK:(xs.take n).length=n:=by rw [length_take];omega
  simp only [mk,aL,cj,zero_add,ah,EX.load x2 ld1,p1]
  -- copied
  have app:∃w h3,cT 3 1 8 (h1++[.arr 3 []]) (sl 3 h1.length 0 0) v'=some (w,h3)/\EX h1 h3/\DS 3 .i64 h3 w (xs.take n)/\∃i n,w=sl 3 i 0 n/\h.length<=i:=by
   by_cases oB:n=0
   ·subst oB
    refine ⟨sl 3 h1.length 0 0,h1++[.arr 3 []],?_,x2,.inr ⟨h1.length,by simp,.inl (by simp)⟩,h1.length,0,rfl,by omega⟩
    simp [cT,c1,c2,sl]
   ·refine ⟨sl 3 (h1.length+1) 0 n,(h1++[az.arr 3 []]).set h1.length .dead++[.arr 3 ((xs.take n).map λd:Nat=>I d)],?_,(x2.set (le_refl _) _).push _,.inr ⟨h1.length+1,by rw [yK],.inr ⟨[],?_⟩⟩,h1.length+1,n,rfl,by omega⟩
    ·have hg:(h1++[az.arr 3 []])[h1.length]?=some (.arr 3 []):=bK
     simp only [cT,c1,c2,yK]
     simp only [sl,hg]
     rw [if_pos ⟨trivial,trivial,by simp,by omega,by unfold maxLen;omega⟩,if_neg oB]
     simp
    ·unfold bw
     rw [List.getElem?_append_right (by simp)]
     simp
  obtain ⟨w,h3,a1,a2,a3,wi,wn,hwi,hwl⟩:=app
  simp only [a1,aL]
  have PF:=a2.get g0
  have yi:=a2.get g1
  rw [kz PF (by simp) a3.one.1 a3.one.2]
  simp only [aL,List.set_cons_succ,set_cons_zero]
  have k0:(h3.set h.length (.arr 55 [B s,w]))[h.length]?=some (.arr 55 [B s,w]):=gF PF
  have k1:(h3.set h.length (.arr 55 [B s,w]))[h.length+1]?=some (.arr 55 [(.bool false),(.slice none 0 0)]):=by rw [getElem?_set_ne (by omega)];exact yi
  have d1:=a3.dK PF (.arr 55 [B s,w])
  have x3:EX h (h3.set h.length (.arr 55 [B s,w])):=(x1.trans a2).set (le_refl _) _
  generalize h3.set h.length (.arr 55 [B s,w])=h4 at k0 k1 d1 x3⊢
  have oL:af false 1 h4 (pt h.length 0)=some (B s):=by simp [af,bw,k0,dS]
  simp only [oL,ah]
  have last:∀c:Bool,c=(s&&decide (0<n))->OH (aU 1 h4 (pt h.length 0) (B c)) λ_ h_1=>OP (af true 2 h_1 (pt h.length 0)) λcA=>OH (aU 2 h_1 (pt (h.length+1) 0) cA) λ_ h_2=>OP (af true 2 h_2 (pt (h.length+1) 0)) λr0=>K r0 h_2:=by
   rintro c rfl
   rw [kz k0 (by simp) rfl rfl]
   simp only [aL,set_cons_zero]
   rw [fu (gF k0)]
   simp only [ah]
   have m1:(h4.set h.length (.arr 55 [B (s&&decide (0<n)),w]))[h.length+1]?=some (.arr 55 [(.bool false),(.slice none 0 0)]):=by rw [getElem?_set_ne (by omega)];exact k1
   rw [jm m1]
   simp only [aL]
   rw [fu (gF m1)]
   simp only [ah]
   refine hk _ _ ((x3.set (le_refl _) _).set (by omega) _) ⟨w,?_,(xs.take n),(d1.dK k0 _).dK m1 _,hc,?_⟩ ⟨_,wi,wn,by rw [hwi],hwl⟩
   ·have h0n:(0<n↔0<val 10000 xs):=by
     rw [<-dD]
     constructor
     ·intro h0
      have:=eL.low (by decide) hc (by intro h;rw [h] at yK;simp at yK;omega)
      have:0<10000^((xs.take n).length-1):=pow_pos (by decide)
      omega
     ·intro h0
      by_cases oB:n=0
      ·subst oB;simp [val] at h0
      ·omega
    have:(s&&decide (0<n))=decide ((if s=true then -(val 10000 xs:Int) else (val 10000 xs:Int))<0):=by
     cases s with
     | true=>
      by_cases h0:0<n
      ·have:=h0n.1 h0
       rw [dh h0,dh (by simp;omega)];rfl
      ·have:¬0<val 10000 xs:=λh=>h0 (h0n.2 h)
       rw [bX h0,bX (by simp;omega)];rfl
     | false=>simp
    rw [this]
   ·rw [dD];cases s <;> simp
  cases s with
  | true=>
   simp only [amN,gK,gY,ah,amO,fy,cj,add_zero]
   refine last _ ?_
   rw [Bool.true_and]
   by_cases h0:0<n
   ·simp [h0]
   ·simp [h0]
  | false=>
   simp only [amN,jd,amO,dA,ah,cj,add_zero]
   exact last _ rfl
 simp only [gY,ah]
 by_cases oB:n=0
 ·subst oB
  rw [bX (show ¬(0:Int)<((0:Nat):Int) by omega)]
  simp only [amP,jd,amM,dA,ah,dm]
  exact fin (by simpa using eL.nil 10000)
 ·rw [dh (show (0:Int)<(n:Int) by omega)]
  have e3:IntKind.wrap .i64 ((n:Int)-1)=((n-1:Nat):Int):=by rw [wrap64 (by omega) (by omega)];omega
  obtain ⟨i,p1,p2⟩:=wG.get (j:=n-1) (by omega)
  simp only [amP,gK,cj,zero_add,ah,ld1,iD,e3,p1,p2,jB,amM,fy,ca]
  refine ⟨λhz=>?_,λhz=>?_⟩
  ·simp only [true_and]
   refine hL (n-1) ⟨by omega,?_⟩ (by omega)
   have:=jS 10000 xs (i:=n-1) (by omega)
   rw [show n-1+1=n by omega] at this
   have yV:xs[n-1]'(by omega)=0:=by omega
   rw [yV,mul_zero] at this
   omega
  ·refine fin (Hf (hl.mono λy hy=>mem_of_mem_take hy) ?_)
   intro h1 h2
   rw [List.getElem_take] at h2
   simp only [length_take] at h2
   apply hz
   have hm:min n xs.length-1=n-1:=by omega
   simp only [hm] at h2
   omega
theorem Ab {s:Bool} {v:Value} {xs:List Nat} {h:ae} {K:Value->ae->Prop} (hd:DS 3 .i64 h v xs) (hl:dF 10000 xs) (hs:xs.length<=1000)
  (hk:∀r h',EX h h'->ZV h' r (if s then -(val 10000 xs:Int) else val 10000 xs)->K r h'):ay prog 125 [.agg #[B s,v]] h K:=
 VS hd hl hs λr h' x z _=>hk r h' x z
end
section
theorem Bt {a b:Nat} (hb:b≠0) (ha:a<9223372036854775808):aj .quo (.int .i64 (a:Int)) (.int .i64 (b:Int))=some (I ((a / b:Nat):Int)):=by
 have h:¬((b:Int)=0):=by omega
 have h2:a / b<=a:=Nat.div_le_self _ _
 simp only [aj,jE,if_true,if_neg h]
 have e:(a:Int).tdiv (b:Int)=((a / b:Nat):Int):=rfl
 rw [e]
 generalize a / b=q at*
 rw [wrap64 (by omega) (by omega)]
theorem RF (h:ae):cH 3 0 [.int .i64 0] h []=some (sl 3 h.length 0 0,h++[.arr 3 []]):=rfl
theorem aiJ (h:ae):pN h.length (h++[.arr 3 []]) (sl 3 h.length 0 0) []:=.inr ⟨h.length,le_refl _,rfl,by simp⟩
theorem aoF {va vb:Value} {xs ys:List Nat} {h:ae} {K:Value->ae->Prop} (hx:DS 3 .i64 h va xs) (hy:DS 3 .i64 h vb ys) (lx:dF 10000 xs) (ly:dF 10000 ys) (sx:xs.length<=400) (sy:ys.length<=400)
  (hk:∀v h' os,EX h h'->DS 3 .i64 h' v os->dF 10000 os->os.length<=500->val 10000 os=val 10000 xs+val 10000 ys->K v h'):ay prog 149 [va,vb] h K:=by
 refine f149 ?_
 simp only [Mg,RF,aL]
 refine cN (σ:=Value×Nat×List Nat×ae) (λp=>[p.1,I p.2.1,I p.2.2.1.length]) (λp=>p.2.2.2)
  (λp=>EX h p.2.2.2/\pN h.length p.2.2.2 p.1 p.2.2.1/\p.2.1<=1/\dF 10000 p.2.2.1/\p.2.2.1.length<=max xs.length ys.length+1/\(p.2.2.1.length=max xs.length ys.length+1->p.2.1=0)/\val 10000 p.2.2.1+10000^p.2.2.1.length*p.2.1=val 10000 (xs.take p.2.2.1.length)+val 10000 (ys.take p.2.2.1.length)) (λp=>max xs.length ys.length+1-p.2.2.1.length)
  (sl 3 h.length 0 0,0,[],h++[.arr 3 []]) rfl rfl ⟨EX.append _ _,aiJ h,by simp,λx hx=>by simp at hx,by simp,by simp,by simp [val]⟩ ?_
 rintro ⟨v,c,os,dM⟩ ⟨hex,nE,hc,gD,hlen,Ia,dD⟩ L hL
 simp only at hex nE hc gD hlen Ia dD hL⊢
 rw [aEL]
 have dx:=hx.mono hex
 have dy:=hy.mono hex
 -- one Hv
 have Cn:∀(x y:Nat),x<10000->y<10000->(os.length<max xs.length ys.length∨0<c)->val 10000 (xs.take (os.length+1))=val 10000 (xs.take os.length)+10000^os.length*x->val 10000 (ys.take (os.length+1))=val 10000 (ys.take os.length)+10000^os.length*y->
   (x=0/\y=0∨os.length<max xs.length ys.length)->Jl prog K va vb v (I os.length) (I ((c+x+y:Nat):Int)) L dM:=by
  intro x y iH kS tM e1 e2 tK
  rw [aEI]
  rw [show (.int .i64 10000:Value)=.int .i64 ((10000:Nat):Int) from rfl,zB _ _ _ (by decide)]
  simp only [ah]
  refine NK nE hex (by omega) ?_
  intro v' h2 x2 o2
  rw [Bt (by decide) (by omega)]
  simp only [ah,aEJ,b7,inc os.length (by omega),true_and]
  have aMG:os.length<max xs.length ys.length+1:=by
   rcases tM with h | h
   ·omega
   ·apply byContradiction
    intro AM
    have:=Ia (by omega)
    omega
  have hm:(c+x+y)%10000<10000:=mod_lt _ (by decide)
  have mB:=Nat.mod_add_div (c+x+y) 10000
  have el:(os++[(c+x+y)%10000]).length=os.length+1:=by simp
  have:=hL (v',(c+x+y) / 10000,os++[(c+x+y)%10000],h2) ⟨x2,o2,by show (c+x+y) / 10000<=1;omega,gD.append (λz hz=>by simp at hz;omega),by rw [el];omega,?_,?_⟩ (by rw [el];omega)
  ·rw [el] at this
   exact this
  ·intro h9
   rw [el] at h9
   show (c+x+y) / 10000=0
   rcases tK with ⟨rfl,rfl⟩ | h
   ·omega
   ·omega
  ·rw [el]
   show val 10000 (os++[(c+x+y)%10000])+10000^(os.length+1)*((c+x+y) / 10000)=_
   rw [oT,e1,e2,pow_succ]
   simp only [val,mul_zero,add_zero]
   generalize (c+x+y) / 10000=q at*
   generalize (c+x+y)%10000=m at*
   generalize 10000^os.length=P at*
   generalize val 10000 os=V at*
   clear hL dx dy hx hy nE
   grind
 have next:(os.length<max xs.length ys.length∨0<c)->OP (aT va) λb9=>OP (aj .lss (I os.length) b9) λaV=>aJ aV
   (OP (aD 1 va (I os.length)) λcA=>OP (af false 1 dM cA) λcB=>OP (aj .add (I c) cB) λaY=>Bn prog K va vb v (I os.length) aY L dM)
   (Bn prog K va vb v (I os.length) (I c) L dM):=by
  intro tM
  have anH:∀x:Nat,x<10000->val 10000 (xs.take (os.length+1))=val 10000 (xs.take os.length)+10000^os.length*x->(x=0∨os.length<xs.length)->Bn prog K va vb v (I os.length) (I ((c+x:Nat):Int)) L dM:=by
   intro x iH e1 yS
   rw [aEH]
   simp only [dy.len,ah,bW,ca]
   refine ⟨λaw=>?_,λcJ=>?_⟩
   ·obtain ⟨i,g1,g2⟩:=dy.get (j:=os.length) (by omega)
    have kS:=ly _ (getElem_mem (show os.length<ys.length by omega))
    have e2:=jS 10000 ys (i:=os.length) (by omega)
    generalize ys[os.length]'(by omega)=y at g2 kS e2
    have ea:IntKind.wrap .i64 (((c+x:Nat):Int)+(y:Int))=((c+x+y:Nat):Int):=by rw [wrap64 (by omega) (by omega)];omega
    simp only [g1,ah,g2,b7,ea]
    exact Cn x y iH kS tM e1 e2 (.inr (by omega))
   ·have:=Cn x 0 iH (by decide) tM e1 (by rw [take_of_length_le (by omega),take_of_length_le (by omega)];simp) (by rcases yS with h | h;exact .inl ⟨h,rfl⟩;exact .inr (by omega))
    simpa using this
  simp only [dx.len,ah,bW,ca]
  refine ⟨λaw=>?_,λcJ=>?_⟩
  ·obtain ⟨i,g1,g2⟩:=dx.get (j:=os.length) (by omega)
   have iH:=lx _ (getElem_mem (show os.length<xs.length by omega))
   have e1:=jS 10000 xs (i:=os.length) (by omega)
   generalize xs[os.length]'(by omega)=x at g2 iH e1
   have ea:IntKind.wrap .i64 ((c:Int)+(x:Int))=((c+x:Nat):Int):=by rw [wrap64 (by omega) (by omega)];omega
   simp only [g1,ah,g2,b7,ea]
   exact anH x iH e1 (.inr (by omega))
  ·have:=anH 0 (by decide) (by rw [take_of_length_le (by omega),take_of_length_le (by omega)];simp) (.inl rfl)
   simpa using this
 have done:¬(os.length<max xs.length ys.length∨0<c)->Ss prog K v dM:=by
  intro jR
  rw [aEK]
  refine hk v dM os hex nE.ds gD (by omega) ?_
  have yu:c=0:=by omega
  rw [yu,mul_zero,add_zero,take_of_length_le (by omega),take_of_length_le (by omega)] at dD
  exact dD
 simp only [dx.len,ah,bW]
 by_cases h1:os.length<xs.length
 ·rw [dh (show (os.length:Int)<(xs.length:Int) by omega)]
  simp only [amX,o0,Uq,fy,ah,Ur,JM,gf]
  exact next (.inl (by omega))
 ·rw [bX (show ¬(os.length:Int)<(xs.length:Int) by omega)]
  simp only [amX,fc,dy.len,ah,bW]
  by_cases h2:os.length<ys.length
  ·rw [dh (show (os.length:Int)<(ys.length:Int) by omega)]
   simp only [Uq,dA,ah,Ur,o0,JM,fy,gf]
   exact next (.inl (by omega))
  ·rw [bX (show ¬(os.length:Int)<(ys.length:Int) by omega)]
   simp only [Uq,dA,ah,Ur,fc,gY]
   by_cases h3:0<c
   ·rw [dh (show (0:Int)<(c:Int) by omega)]
    simp only [JM,dA,ah,gf]
    exact next (.inr h3)
   ·rw [bX (show ¬(0:Int)<(c:Int) by omega)]
    simp only [JM,dA,ah,dm]
    exact done (by omega)
theorem Kr {va vb:Value} {xs ys:List Nat} {h:ae} {K:Value->ae->Prop} (hx:DS 3 .i64 h va xs) (hy:DS 3 .i64 h vb ys) (lx:dF 10000 xs) (ly:dF 10000 ys) (sx:xs.length<=400) (hyx:ys.length<=xs.length) (hle:val 10000 ys<=val 10000 xs)
  (hk:∀v h' os,EX h h'->DS 3 .i64 h' v os->dF 10000 os->os.length<=500->val 10000 os=val 10000 xs-val 10000 ys->K v h'):ay prog 128 [va,vb] h K:=by
 refine f128 ?_
 simp only [L4,RF,aL]
 refine cN (σ:=Value×Nat×List Nat×ae) (λp=>[p.1,I p.2.1,I p.2.2.1.length]) (λp=>p.2.2.2)
  (λp=>EX h p.2.2.2/\pN h.length p.2.2.2 p.1 p.2.2.1/\p.2.1<=1/\dF 10000 p.2.2.1/\p.2.2.1.length<=xs.length/\val 10000 p.2.2.1+val 10000 (ys.take p.2.2.1.length)=val 10000 (xs.take p.2.2.1.length)+10000^p.2.2.1.length*p.2.1) (λp=>xs.length-p.2.2.1.length)
  (sl 3 h.length 0 0,0,[],h++[.arr 3 []]) rfl rfl ⟨EX.append _ _,aiJ h,by simp,λx hx=>by simp at hx,by simp,by simp [val]⟩ ?_
 rintro ⟨v,c,os,dM⟩ ⟨hex,nE,hc,gD,hlen,dD⟩ L hL
 simp only at hex nE hc gD hlen dD hL⊢
 rw [aEd]
 have dx:=hx.mono hex
 have dy:=hy.mono hex
 simp only [dx.len,ah,bW,ca]
 refine ⟨λaw=>?_,λcJ=>?_⟩
 ·have gS:os.length<xs.length:=by omega
  obtain ⟨i,g1,g2⟩:=dx.get gS
  have iH:=lx _ (getElem_mem gS)
  have e1:=jS 10000 xs gS
  generalize xs[os.length]=x at g2 iH e1
  have Cn:∀y:Nat,y<10000->val 10000 (ys.take (os.length+1))=val 10000 (ys.take os.length)+10000^os.length*y->Ji prog K va vb v (I os.length) (I ((x:Int)-c-y)) L dM:=by
   intro y kS e2
   rw [aD9]
   have go:∀d b:Nat,d<10000->b<=1->d+y+c=x+10000*b->Jj prog K va vb v (I b) (I os.length) (I d) L dM:=by
    intro d b hd hb he
    rw [aEa]
    refine NK nE hex (by omega) ?_
    intro v' h2 x2 o2
    simp only [aEb,b7,ah,inc os.length (by omega),true_and]
    have el:(os++[d]).length=os.length+1:=by simp
    have:=hL (v',b,os++[d],h2) ⟨x2,o2,hb,gD.append (λz hz=>by simp at hz;omega),by rw [el];omega,?_⟩ (by rw [el];omega)
    ·rw [el] at this
     exact this
    ·rw [el]
     show val 10000 (os++[d])+_=_
     rw [oT,e1,e2,pow_succ]
     simp only [val,mul_zero,add_zero]
     generalize 10000^os.length=P at*
     generalize val 10000 os=V at*
     clear hL dx dy hx hy nE
     grind
   simp only [bW,ah,ca]
   refine ⟨λkm=>?_,λiO=>?_⟩
   ·obtain ⟨d,hd⟩:∃d:Nat,(x:Int)-c-y+10000=d:=⟨((x:Int)-c-y+10000).toNat,by omega⟩
    simp only [b7,ah,hd]
    rw [wrap64 (by omega) (by omega)]
    exact go d 1 (by omega) (by omega) (by omega)
   ·obtain ⟨d,hd⟩:∃d:Nat,(x:Int)-c-y=d:=⟨((x:Int)-c-y).toNat,by omega⟩
    rw [hd]
    exact go d 0 (by omega) (by omega) (by omega)
  simp only [g1,ah,g2,iD,dy.len,bW,ca]
  rw [wrap64 (n:=(x:Int)-c) (by omega) (by omega)]
  refine ⟨λhly=>?_,λhgy=>?_⟩
  ·obtain ⟨i',k1,k2⟩:=dy.get (j:=os.length) (by omega)
   have kS:=ly _ (getElem_mem (show os.length<ys.length by omega))
   have e2:=jS 10000 ys (i:=os.length) (by omega)
   generalize ys[os.length]'(by omega)=y at k2 kS e2
   simp only [k1,ah,k2,iD]
   rw [wrap64 (by omega) (by omega)]
   exact Cn y kS e2
  ·have:=Cn 0 (by decide) (by rw [take_of_length_le (by omega),take_of_length_le (by omega)];simp)
   simpa using this
 ·have hl:os.length=xs.length:=by omega
  rw [aEc]
  rw [hl,take_length,take_of_length_le hyx] at dD
  have aw:=nI gD
  rw [hl] at aw
  have yu:c=0:=by
   apply byContradiction
   intro bY
   have:c=1:=by omega
   subst this
   omega
  subst yu
  exact hk v dM os hex nE.ds gD (by omega) (by omega)
theorem VT {va vb:Value} {a b:Nat} {h:ae} {K:Value->ae->Prop} (ha:je h va a) (hb:je h vb b) (la:a<dN) (lb:b<dN) (hk:K (I (oS a b)) h):ay prog 126 [va,vb] h K:=by
 obtain ⟨xs,hx,cx,rfl⟩:=ha
 obtain ⟨ys,hy,cy,rfl⟩:=hb
 have l1:=qP cx la
 have l2:=qP cy lb
 have less:val 10000 xs<val 10000 ys->K (.int .i64 (-1)) h:=λh1=>by unfold oS at hk;rw [if_pos h1] at hk;exact hk
 have more:val 10000 ys<val 10000 xs->K (.int .i64 1) h:=λh1=>by unfold oS at hk;rw [if_neg (by omega),if_pos h1] at hk;exact hk
 have same:val 10000 xs=val 10000 ys->K (.int .i64 0) h:=λh1=>by unfold oS at hk;rw [if_neg (by omega),if_neg (by omega)] at hk;exact hk
 refine f126 ?_
 simp only [LY,hx.len,hy.len,ah,iC,BJ,bW,ca]
 refine ⟨λbY=>⟨λaw=>less (eL.zl (by decide) cx cy (by omega)),λcJ=>more (eL.zl (by decide) cy cx (by omega))⟩,λhe=>?_⟩
 have qg:xs.length=ys.length:=by omega
 simp only [iD,ah]
 have e1:IntKind.wrap .i64 ((xs.length:Int)-1)=(xs.length:Int)-1:=by rw [wrap64 (by omega) (by omega)]
 rw [e1]
 refine cN (σ:=Nat) (λi=>[I ((i:Int)-1)]) (λ_=>h) (λi=>i<=xs.length/\xs.drop i=ys.drop i) (λi=>i) xs.length rfl rfl ⟨le_refl _,by rw [List.drop_length,qg,List.drop_length]⟩ ?_
 rintro i ⟨hi,rX⟩ L hL
 rw [aD8]
 simp only [om,ah,ca]
 refine ⟨λcJ=>?_,λaw=>?_⟩
 ·obtain ⟨j,rfl⟩:∃j,i=j+1:=⟨i-1,by omega⟩
  have ej:(((j+1:Nat):Int)-1)=(j:Int):=by omega
  rw [ej]
  obtain ⟨ia,a1,a2⟩:=hx.get (j:=j) (by omega)
  obtain ⟨ib,b1,b2⟩:=hy.get (j:=j) (by omega)
  simp only [a1,a2,b1,b2,ah,true_and,bW,ca]
  refine ⟨λaw=>less (Kj cx.1 cy.1 qg (i:=j) (by omega) rX (by omega)),λcJ=>?_⟩
  simp only [gY,ah,ca]
  refine ⟨λwK=>more (Kj cy.1 cx.1 qg.symm (i:=j) (by omega) rX.symm (by omega)),λhle=>?_⟩
  simp only [iD,ah]
  rw [wrap64 (by omega) (by omega)]
  refine hL j ⟨by omega,?_⟩ (by omega)
  rw [drop_eq_getElem_cons (by omega),drop_eq_getElem_cons (show j<ys.length by omega),rX]
  congr 1
  omega
 ·have:i=0:=by omega
  subst this
  rw [drop_zero,drop_zero] at rX
  exact same (by rw [rX])
end
section
theorem AE {h':ae} {j:Nat} {b0 v0 b v:Value} {K:Value->ae->Prop} (hg:h'[j]?=some (.arr 55 [b0,v0])) (hk:K (.agg #[b,v]) (h'.set j (.arr 55 [b,v]))):
  OH (aU 2 h' (pt j 0) (.agg #[b,v])) λ_ h6=>OP (af true 2 h6 (pt j 0)) λr0=>K r0 h6:=by
 rw [jm hg]
 simp only [aL]
 rw [fu (gF hg)]
 exact ah.2 hk
structure aom (h:ae) (va vb:Value) (sa sb:Bool) (h3:ae):Prop where
 ex:EX h h3
 a0:af false 1 h3 (pt h.length 0)=some (B sa)
 a1:af false 1 h3 (pt h.length 1)=some va
 b0:af false 1 h3 (pt (h.length+1) 0)=some (B sb)
 b1:af false 1 h3 (pt (h.length+1) 1)=some vb
 a2:af true 2 h3 (pt h.length 0)=some (.agg #[B sa,va])
 b2:af true 2 h3 (pt (h.length+1) 0)=some (.agg #[B sb,vb])
 out:h3[h.length+2]?=some (.arr 55 [.bool false,.slice none 0 0])
theorem FG {h:ae} {va vb:Value} {sa sb:Bool} {K:Value->Value->Value->ae->Prop} (hk:∀h3,aom h va vb sa sb h3->K (pt h.length 0) (pt (h.length+1) 0) (pt (h.length+2) 0) h3):
  OH (cR 55 h (.agg #[B sa,va])) λa2 h_1=>OH (cR 55 h_1 (.agg #[B sb,vb])) λb3 h_2=>OH (cF 55 [(.bool false),(.slice none 0 0)] h_2) λx4 h_3=>K a2 b3 x4 h_3:=by
 have e1:∀(g:ae) (s:Bool) (v:Value),cR 55 g (.agg #[B s,v])=some (pt g.length 0,g++[.arr 55 [B s,v]]):=λ_ _ _=>rfl
 have e2:∀(g:ae),cF 55 [(.bool false),(.slice none 0 0)] g=some (pt g.length 0,g++[.arr 55 [(.bool false),(.slice none 0 0)]]):=λ_=>rfl
 simp only [e1,e2,aL,length_append,length_cons,length_nil]
 have g0:(h++[az.arr 55 [B sa,va]]++[az.arr 55 [B sb,vb]]++[az.arr 55 [(.bool false),(.slice none 0 0)]])[h.length]?=some (.arr 55 [B sa,va]):=by simp
 have g1:(h++[az.arr 55 [B sa,va]]++[az.arr 55 [B sb,vb]]++[az.arr 55 [(.bool false),(.slice none 0 0)]])[h.length+1]?=some (.arr 55 [B sb,vb]):=by simp
 have g2:(h++[az.arr 55 [B sa,va]]++[az.arr 55 [B sb,vb]]++[az.arr 55 [(.bool false),(.slice none 0 0)]])[h.length+2]?=some (.arr 55 [(.bool false),(.slice none 0 0)]):=by simp
 refine hk _ ⟨((EX.append _ _).push _).push _,?_,?_,?_,?_,fu g0,fu g1,g2⟩
 ·simp [af,bw,dS]
 ·simp [af,bw,dS]
 ·simp [af,bw,dS]
 ·simp [af,bw,dS]
theorem NN {b:Bool} {e:TypeId} {k:IntKind} {h:ae} {v:Value} {xs:List Nat} (d:DS e k h v xs):eG [(.bool false),(.slice none 0 0)] [(0,1,B b),(1,1,v)]=some (.agg #[B b,v]):=by
 rcases d with ⟨rfl,_⟩ | ⟨i,rfl,_⟩ <;> rfl
theorem aoD {va vb:Value} {a b:Int} {h:ae} {K:Value->ae->Prop} (ha:ZV h va a) (hb:ZV h vb b) (la:a.natAbs<dN) (lb:b.natAbs<dN) (hk:∀r h',EX h h'->ZV h' r (a+b)->K r h'):ay prog 145 [va,vb] h K:=by
 obtain ⟨v,rfl,hv⟩:=ha
 obtain ⟨w,rfl,hw⟩:=hb
 refine f145 ?_
 unfold Me
 refine FG ?_
 intro h3 x
 have ss:=hv.mono x.ex
 have ru:=hw.mono x.ex
 obtain ⟨xs,dx,cx,ex⟩:=id ss
 obtain ⟨ys,dy,cy,ey⟩:=id ru
 have l1:=qP cx (by rw [ex];exact la)
 have l2:=qP cy (by rw [ey];exact lb)
 simp only [cj,add_zero,zero_add,ah,x.a0,x.a1,x.b0,x.b1,Cq,false_eq_true,if_false]
 -- j6 result,put in its place
 have put:∀(s:Bool) (u:Value) (os:List Nat) (h4:ae) (z:Int),EX h3 h4->DS 3 .i64 h4 u os->dF 10000 os->os.length<=500->(if s then -(val 10000 os:Int) else (val 10000 os:Int))=z->z=a+b->
   OP (eG [(.bool false),(.slice none 0 0)] [(0,1,B s),(1,1,u)]) λbM=>ay prog 125 [bM] h4 λbA h_5=>OH (aU 2 h_5 (pt (h.length+2) 0) bA) λ_ h_6=>OP (af true 2 h_6 (pt (h.length+2) 0)) λr0=>K r0 h_6:=by
  intro s u os h4 z x4 d4 l4 s4 hz oF
  simp only [NN d4,ah]
  refine Ab d4 l4 (by omega) ?_
  intro r h5 x5 zr
  rw [hz,oF] at zr
  obtain ⟨q,rfl,hq⟩:=id zr
  have g':=(x4.trans x5).get x.out
  exact AE g' (hk _ _ (((x.ex.trans x4).trans x5).set (by omega) _) (zr.dK g' _))
 refine um (λhe=>?_) λbY=>?_
 ·have hs:decide (a<0)=decide (b<0):=by simpa using he
  have mS:(a<0↔b<0):=by simpa using hs
  simp only [true_and]
  refine aoF dx dy cx.1 cy.1 (by omega) (by omega) ?_
  intro u h4 os x4 d4 l4 s4 v4
  refine ⟨⟨EX.load x4 x.a0,trivial⟩,?_⟩
  have:=put (decide (a<0)) u os h4 _ x4 d4 l4 s4 rfl (by
   rw [v4,ex,ey]
   by_cases h0:a<0
   ·rw [dh h0];simp;omega
   ·rw [bX h0];simp;omega)
  simpa using this
 ·have hs:decide (a<0)≠decide (b<0):=by simpa using bY
  have mS:¬(a<0↔b<0):=λh=>hs (decide_eq_decide.2 h)
  refine VT ss ru la lb ?_
  simp only [om,ah,ca]
  have ll:∀{p q:List Nat},eL 10000 p->eL 10000 q->val 10000 q<=val 10000 p->q.length<=p.length:=by
   intro p q cp cq hpq
   apply byContradiction
   intro hc
   have:=eL.zl (by decide) cp cq (by omega)
   omega
  refine ⟨λcJ=>?_,λaw=>?_⟩
  ·have hle:b.natAbs<=a.natAbs:=by
    apply byContradiction
    intro hc
    unfold oS at cJ
    rw [if_pos (by omega)] at cJ
    omega
   simp only [x.a0,x.a1,x.b1,ah,true_and]
   refine Kr dx dy cx.1 cy.1 (by omega) (ll cx cy (by omega)) (by omega) ?_
   intro u h4 os x4 d4 l4 s4 v4
   refine ⟨⟨EX.load x4 x.a0,trivial⟩,?_⟩
   have:=put (decide (a<0)) u os h4 _ x4 d4 l4 s4 rfl (by
    rw [v4,ex,ey]
    by_cases h0:a<0
    ·rw [dh h0];simp;omega
    ·rw [bX h0];simp;omega)
   simpa using this
  ·have hle:a.natAbs<=b.natAbs:=by
    apply byContradiction
    intro hc
    unfold oS at aw
    rw [if_neg (by omega),if_pos (by omega)] at aw
    omega
   simp only [x.b0,x.a1,x.b1,ah,true_and]
   refine Kr dy dx cy.1 cx.1 (by omega) (ll cy cx (by omega)) (by omega) ?_
   intro u h4 os x4 d4 l4 s4 v4
   refine ⟨⟨EX.load x4 x.b0,trivial⟩,?_⟩
   have:=put (decide (b<0)) u os h4 _ x4 d4 l4 s4 rfl (by
    rw [v4,ex,ey]
    by_cases h0:b<0
    ·rw [dh h0];simp;omega
    ·rw [bX h0];simp;omega)
   simpa using this
theorem je.sC {h:ae} {v:Value} {n:Nat} (p:je h v n):∃l:Nat,aT v=some (I l)/\(0<l↔0<n):=by
 obtain ⟨xs,d,c,rfl⟩:=p
 refine ⟨xs.length,d.len,?_⟩
 constructor
 ·intro h0
  have:=eL.low (by decide) c (by rintro rfl;simp at h0)
  have:0<10000^(xs.length-1):=pow_pos (by decide)
  omega
 ·intro h0
  cases xs with
  | nil=>simp [val] at h0
  | cons x xs=>simp
theorem aoE {va:Value} {a:Int} {h:ae} {K:Value->ae->Prop} (ha:ZV h va a) (hk:∀r h',EX h h'->ZV h' r (-a)->K r h'):ay prog 146 [va] h K:=by
 obtain ⟨v,rfl,hv⟩:=ha
 refine f146 ?_
 have e1:cR 55 h (.agg #[B (decide (a<0)),v])=some (pt h.length 0,h++[.arr 55 [B (decide (a<0)),v]]):=rfl
 have e2:∀(g:ae),cF 55 [(.bool false),(.slice none 0 0)] g=some (pt g.length 0,g++[.arr 55 [(.bool false),(.slice none 0 0)]]):=λ_=>rfl
 simp only [Mf,e1,e2,aL,length_append,length_cons,length_nil]
 have g0:(h++[az.arr 55 [B (decide (a<0)),v]]++[az.arr 55 [(.bool false),(.slice none 0 0)]])[h.length]?=some (.arr 55 [B (decide (a<0)),v]):=by simp
 have g1:(h++[az.arr 55 [B (decide (a<0)),v]]++[az.arr 55 [(.bool false),(.slice none 0 0)]])[h.length+1]?=some (.arr 55 [(.bool false),(.slice none 0 0)]):=by simp
 have x1:EX h (h++[az.arr 55 [B (decide (a<0)),v]]++[az.arr 55 [(.bool false),(.slice none 0 0)]]):=(EX.append _ _).push _
 generalize h++[az.arr 55 [B (decide (a<0)),v]]++[az.arr 55 [(.bool false),(.slice none 0 0)]]=h1 at g0 g1 x1⊢
 have l0:af false 1 h1 (pt h.length 0)=some (B (decide (a<0))):=by simp [af,bw,g0,dS]
 have l1:af false 1 h1 (pt h.length 1)=some v:=by simp [af,bw,g0,dS]
 have sr:=hv.mono x1
 obtain ⟨l,n1,n2⟩:=sr.sC
 have last:∀c:Bool,c=decide (-a<0)->OH (aU 1 h1 (pt h.length 0) (B c)) λ_ h_1=>OP (af true 2 h_1 (pt h.length 0)) λaC=>OH (aU 2 h_1 (pt (h.length+1) 0) aC) λ_ h_2=>OP (af true 2 h_2 (pt (h.length+1) 0)) λr0=>K r0 h_2:=by
  rintro c rfl
  rw [kz g0 (by simp) rfl rfl]
  simp only [aL,set_cons_zero]
  rw [fu (gF g0)]
  simp only [ah]
  have m1:(h1.set h.length (.arr 55 [B (decide (-a<0)),v]))[h.length+1]?=some (.arr 55 [(.bool false),(.slice none 0 0)]):=by rw [getElem?_set_ne (by omega)];exact g1
  refine AE m1 (hk _ _ ((x1.set (le_refl _) _).set (by omega) _) ⟨v,rfl,?_⟩)
  have:(-a).natAbs=a.natAbs:=by omega
  rw [this]
  exact (sr.dK g0 _).dK m1 _
 simp only [cj,add_zero,ah,l0,kW]
 by_cases h0:a<0
 ·rw [dh h0]
  simp only [Bool.not_true,amV,jd,amW,dA,ah,cj,add_zero]
  rw [dh h0] at*
  exact last _ (by simp;omega)
 ·rw [bX h0]
  simp only [Bool.not_false,amV,gK,cj,zero_add,ah,l1,n1,gY,amW,fy,add_zero]
  refine last _ ?_
  rw [decide_eq_decide]
  omega
theorem VV {va vb:Value} {a b:Int} {h:ae} {K:Value->ae->Prop} (ha:ZV h va a) (hb:ZV h vb b) (la:a.natAbs<dN) (lb:b.natAbs<dN) (hk:∀r h',EX h h'->ZV h' r (a-b)->K r h'):ay prog 129 [va,vb] h K:=by
 have ov:=ha
 have qf:=hb
 obtain ⟨v,rfl,hv⟩:=ha
 obtain ⟨w,rfl,hw⟩:=hb
 refine f129 ?_
 unfold L5
 refine FG ?_
 intro h3 x
 simp only [ah,x.a2,x.b2,true_and]
 refine aoE (qf.mono x.ex) ?_
 intro r1 h4 x4 i1
 refine ⟨⟨EX.load x4 x.a2,trivial⟩,?_⟩
 refine aoD (ov.mono (x.ex.trans x4)) i1 la (by rw [Int.natAbs_neg];exact lb) ?_
 intro r2 h5 x5 i2
 have g':=(x4.trans x5).get x.out
 obtain ⟨u,rfl,hu⟩:=id i2
 refine AE g' (hk _ _ (((x.ex.trans x4).trans x5).set (by omega) _) ?_)
 rw [Int.sub_eq_add_neg]
 exact i2.dK g' _
def zf (z:Int):Int:=if z=0 then 0 else if z<0 then -1 else 1
end
section
theorem aui {b:Nat} {hx:ae} {v:Value} {os:List Nat} {d:Nat} {K:Value->ae->Prop} (hb:b<=hx.length) (o:pN b hx v os) (hl:os.length<=10000)
  (hk:∀v' dM,(∀d,d<b->dM[d]?=hx[d]?)->b<=dM.length->pN b dM v' (os++[d])->K v' dM):OH (cH 3 1 [.int .i64 0] hx [(0,1,I d)]) λa h2=>OH (cT 3 1 8 h2 v a) K:=by
 have hlen:(hx.take b).length=b:=by rw [length_take];omega
 have hex:EX (hx.take b) hx:=by
  refine ⟨by omega,λi hi=>?_⟩
  rw [List.getElem?_take_of_lt (by omega)]
 refine NK (h0:=hx.take b) (by rw [hlen];exact o) hex hl ?_
 intro v' dM x o'
 rw [hlen] at o'
 refine hk v' dM (λd hd=>?_) (by have:=x.1;omega) o'
 rw [x.2 d (by omega),List.getElem?_take_of_lt hd]
theorem pN.set {b j:Nat} {hx:ae} {v:Value} {os:List Nat} (o:pN b hx v os) (hj:j<b) (x:az):pN b (hx.set j x) v os:=
 gA.iu o λd _ _ hd=>by rw [getElem?_set_ne (by omega)]
theorem aJo {a:Int} {b:Nat} (hb:b≠0):aj .rem (.int .i64 a) (.int .i64 (b:Int))=some (I (a.tmod b)):=by
 have h:¬((b:Int)=0):=by omega
 simp only [aj,jE,if_true,if_neg h]
theorem aJi {a:Int} {b:Nat} (hb:b≠0) (h1: -9223372036854775808<a) (h2:a<9223372036854775808):aj .quo (.int .i64 a) (.int .i64 (b:Int))=some (I (a.tdiv b)):=by
 have h:¬((b:Int)=0):=by omega
 have h3:(a.tdiv b).natAbs<=a.natAbs:=by
  rw [Int.natAbs_tdiv,natAbs_natCast];exact Nat.div_le_self _ _
 simp only [aj,jE,if_true,if_neg h]
 rw [wrap64 (by omega) (by omega)]
theorem ED {z:Int} {h:ae} {K:Value->ae->Prop} (hz:z.natAbs<1000000000000000000) (hk:∀r h',EX h h'->ZV h' r z->K r h'):ay prog 41 [I z] h K:=by
 refine f41 ?_
 have e2:∀g:ae,cF 55 [(.bool false),(.slice none 0 0)] g=some (pt g.length 0,g++[.arr 55 [(.bool false),(.slice none 0 0)]]):=λ_=>rfl
 have e3:∀b:Bool,eG [(.bool false),(.slice none 0 0)] [(0,1,B b)]=some (.agg #[B b,.slice none 0 0]):=λ_=>rfl
 simp only [MH,e2,aL,bW,ah,e3,length_append,length_cons,length_nil]
 have g1:(h++[az.arr 55 [(.bool false),(.slice none 0 0)]]++[az.arr 55 [(.bool false),(.slice none 0 0)]])[h.length+1]?=some (.arr 55 [(.bool false),(.slice none 0 0)]):=by simp
 have g0:(h++[az.arr 55 [(.bool false),(.slice none 0 0)]]++[az.arr 55 [(.bool false),(.slice none 0 0)]])[h.length]?=some (.arr 55 [(.bool false),(.slice none 0 0)]):=by simp
 have x1:EX h (h++[az.arr 55 [(.bool false),(.slice none 0 0)]]++[az.arr 55 [(.bool false),(.slice none 0 0)]]):=(EX.append _ _).push _
 have CN:(h++[az.arr 55 [(.bool false),(.slice none 0 0)]]++[az.arr 55 [(.bool false),(.slice none 0 0)]]).length=h.length+2:=by simp
 generalize h++[az.arr 55 [(.bool false),(.slice none 0 0)]]++[az.arr 55 [(.bool false),(.slice none 0 0)]]=h1 at*
 simp only [zero_add]
 rw [jm g1]
 simp only [aL]
 refine cN (σ:=Int×List Nat×Value×ae) (λp=>[I p.1]) (λp=>p.2.2.2)
  (λp=>h.length+2<=p.2.2.2.length/\EX h p.2.2.2/\p.2.2.2[h.length]?=some (.arr 55 [.bool false,.slice none 0 0])/\p.2.2.2[h.length+1]?=some (.arr 55 [B (decide (z<0)),p.2.2.1])/\pN (h.length+2) p.2.2.2 p.2.2.1 p.2.1/\dF 10000 p.2.1/\p.2.1.length<=5/\p.1.natAbs<10000^(5-p.2.1.length)/\val 10000 p.2.1+10000^p.2.1.length*p.1.natAbs=z.natAbs/\(p.1=0->eL 10000 p.2.1)) (λp=>p.1.natAbs)
  (z,[],.slice none 0 0,h1.set (h.length+1) (.arr 55 [B (decide (z<0)),.slice none 0 0])) rfl rfl
  ⟨by simp [CN],x1.set (by omega) _,by rw [getElem?_set_ne (by omega)];exact g0,gF g1,.inl ⟨rfl,rfl⟩,λ_ hx=>by simp at hx,by simp,by simp;omega,by simp [val],λ_=>eL.nil _⟩ ?_
 rintro ⟨a,os,v,hx⟩ ⟨hlen,hex,k0,k1,nE,gD,jt,gQ,dD,yw⟩ L hL
 simp only at hlen hex k0 k1 nE gD jt gQ dD yw hL⊢
 rw [aHg]
 simp only [iC,ah,BJ]
 refine ⟨λbY=>?_,λheq=>?_⟩
 ·have ov:a≠0:=bY
  have aMO:a.natAbs<=z.natAbs:=by
   have:1*a.natAbs<=10000^os.length*a.natAbs:=mul_le_mul_right _ (pow_pos (by decide))
   omega
  have aMI:os.length<5:=by
   apply byContradiction
   intro hc
   have:5-os.length=0:=by omega
   rw [this] at gQ
   omega
  have py:(a.tmod 10000).natAbs=a.natAbs%10000:=Int.natAbs_tmod _ _
  have uU:(a.tdiv 10000).natAbs=a.natAbs / 10000:=Int.natAbs_tdiv _ _
  have step:Js prog K (I a) (pt h.length 0) (pt (h.length+1) 0) (I ((a.natAbs%10000:Nat):Int)) L hx:=by
   rw [aHe]
   have ld:af false 1 hx (pt (h.length+1) 1)=some v:=by simp [af,bw,k1,dS]
   simp only [cj,zero_add,ah,ld]
   refine aui hlen nE (by omega) ?_
   intro v' dM hs qW CU
   have mG:dM[h.length+1]?=some (.arr 55 [B (decide (z<0)),v]):=by rw [hs _ (by omega)];exact k1
   rw [kz mG (by simp) CU.ds.one.1 CU.ds.one.2]
   simp only [aL,List.set_cons_succ,set_cons_zero]
   rw [show (.int .i64 10000:Value)=.int .i64 ((10000:Nat):Int) from rfl,aJi (by decide) (by omega) (by omega)]
   simp only [ah,true_and]
   have mB:=Nat.mod_add_div a.natAbs 10000
   have el:(os++[a.natAbs%10000]).length=os.length+1:=by simp
   have hm:a.natAbs%10000<10000:=mod_lt _ (by decide)
   have H8:(a.tdiv ((10000:Nat):Int)).natAbs=a.natAbs / 10000:=uU
   refine hL (a.tdiv ((10000:Nat):Int),os++[a.natAbs%10000],v',dM.set (h.length+1) (.arr 55 [B (decide (z<0)),v'])) ⟨?_,?_,?_,gF mG,CU.set (by omega) _,gD.append (λy hy=>by simp at hy;omega),by rw [el];omega,?_,?_,?_⟩ ?_
   ·rw [length_set];exact qW
   ·refine EX.set ⟨by have:=hex.1;omega,λi hi=>?_⟩ (by omega) _
    rw [hs i (by omega)];exact hex.2 i hi
   ·rw [getElem?_set_ne (by omega),hs _ (by omega)];exact k0
   ·show (a.tdiv ((10000:Nat):Int)).natAbs<_
    rw [el,H8]
    have:5-os.length=(5-(os.length+1))+1:=by omega
    rw [this,pow_succ] at gQ
    exact Nat.div_lt_of_lt_mul (by rw [mul_comm];exact gQ)
   ·show val 10000 (os++[a.natAbs%10000])+10000^(os++[a.natAbs%10000]).length*(a.tdiv ((10000:Nat):Int)).natAbs=_
    rw [el,oT,H8,<-dD,pow_succ]
    simp only [val,mul_zero,add_zero]
    have:=congrArg (10000^os.length*·) mB
    rw [mul_add] at this
    rw [<-this,mul_assoc,Nat.add_assoc]
   ·intro h0
    have h0':a.natAbs / 10000=0:=by
     have h0b:a.tdiv ((10000:Nat):Int)=0:=h0
     rw [<-H8,h0b];rfl
    refine Hf (gD.append (λy hy=>by simp at hy;omega)) ?_
    intro h1 h2
    simp only [el,Nat.add_sub_cancel] at h2
    rw [List.getElem_append_right (le_refl _)] at h2
    simp at h2
    omega
   ·show (a.tdiv ((10000:Nat):Int)).natAbs<a.natAbs
    rw [H8]
    exact Nat.div_lt_self (by omega) (by decide)
  rw [show (.int .i64 10000:Value)=.int .i64 ((10000:Nat):Int) from rfl,aJo (by decide)]
  simp only [ah,bW,ca]
  have aMH:(a.tmod ((10000:Nat):Int)).natAbs=a.natAbs%10000:=py
  refine ⟨λhn=>?_,λhn=>?_⟩
  ·have e4:gE .neg (I (a.tmod ((10000:Nat):Int)))=some (I (-(a.tmod ((10000:Nat):Int)))):=by
    simp only [gE]
    rw [wrap64 (by omega) (by omega),Int.zero_sub]
   rw [e4]
   simp only [ah]
   rw [show -(a.tmod ((10000:Nat):Int))=((a.natAbs%10000:Nat):Int) by omega]
   exact step
  ·rw [show a.tmod ((10000:Nat):Int)=((a.natAbs%10000:Nat):Int) by omega]
   exact step
 ·have ha:a=0:=heq
  subst ha
  rw [aHf]
  rw [fu k1]
  simp only [ah]
  rw [jm k0]
  simp only [aL]
  rw [fu (gF k0)]
  refine ah.2 (hk _ _ (hex.set (le_refl _) _) ⟨v,rfl,os,nE.ds.dK k0 _,yw rfl,?_⟩)
  simpa using dD
abbrev hz (h:ae) (os:List Nat):ae:=h++[.arr 3 (os.map λd:Nat=>I d)]
theorem agl {h:ae} {n:Nat} (hn:n<=1000):eM 3 8 [.int .i64 0] h (I n) (I n)=some (sl 3 h.length 0 n,hz h (replicate n 0)):=by
 have Dj:∀m,bE [Value.int .i64 0] m=(replicate m 0).map λd:Nat=>I d:=by
  intro m
  induction m with
  | zero=>rfl
  | succ m ih=>
   have:bE [Value.int .i64 0] (m+1)=Value.int .i64 0::bE [Value.int .i64 0] m:=by simp [bE,List.replicate_succ]
   rw [this,ih,List.replicate_succ];rfl
 simp only [eM]
 rw [if_pos ⟨by omega,by omega,by omega,by omega⟩,Int.toNat_natCast,Dj]
theorem afs (h:ae) (os:List Nat):(hz h os)[h.length]?=some (.arr 3 (os.map λd:Nat=>I d)):=by simp [hz]
theorem aBL {h:ae} {os:List Nat} {j:Nat} (d:Nat) (hj:j<os.length):aU 1 (hz h os) (pt h.length j) (I d)=some (undef,hz h (os.set j d)):=by
 rw [kz (afs h os) (by simpa using hj) rfl rfl]
 simp [hz,List.map_set]
theorem aBK {h:ae} {os:List Nat} {j:Nat} (hj:j<os.length):af false 1 (hz h os) (pt h.length j)=some (I os[j]):=by
 simp [af,bw,dS,hj]
theorem afr (h:ae) (os:List Nat):DS 3 .i64 (hz h os) (sl 3 h.length 0 os.length) os:=.inr ⟨h.length,rfl,.inr ⟨[],by simp [bw,hz]⟩⟩
theorem vz (h:ae) (os:List Nat):EX h (hz h os):=EX.append _ _
theorem aDd {x y:Nat} (hx:x<10000) (hy:y<10000):x*y<=99980001:=by
 have:=Nat.mul_le_mul (show x<=9999 by omega) (show y<=9999 by omega)
 omega
theorem aKl (a b:Int):(if (!(decide (a<0)==decide (b<0)))=true then -((a.natAbs*b.natAbs:Nat):Int) else ((a.natAbs*b.natAbs:Nat):Int))=a*b:=by
 have ea:(a.natAbs:Int)=if a<0 then -a else a:=by split <;> omega
 have eb:(b.natAbs:Int)=if b<0 then -b else b:=by split <;> omega
 rw [natCast_mul,ea,eb]
 by_cases h1:a<0 <;> by_cases h2:b<0 <;> simp [h1,h2,Int.neg_mul,Int.mul_neg]
theorem aoC {va vb:Value} {a b:Int} {h:ae} {K:Value->ae->Prop} (ha:ZV h va a) (hb:ZV h vb b) (la:a.natAbs<dN) (lb:b.natAbs<dN) (hk:∀r h',EX h h'->ZV h' r (a*b)->K r h'):ay prog 144 [va,vb] h K:=by
 obtain ⟨v,rfl,hv⟩:=ha
 obtain ⟨w,rfl,hw⟩:=hb
 refine f144 ?_
 unfold Md
 refine FG ?_
 intro h3 x
 obtain ⟨xs,dx,cx,ex⟩:=hv.mono x.ex
 obtain ⟨ys,dy,cy,ey⟩:=hw.mono x.ex
 have l1:=qP cx (by rw [ex];exact la)
 have l2:=qP cy (by rw [ey];exact lb)
 have hB:(0:Nat)<10000:=by decide
 have e0:IntKind.wrap .i64 ((xs.length:Int)+(ys.length:Int))=((xs.length+ys.length:Nat):Int):=by rw [wrap64 (by omega) (by omega)];omega
 simp only [cj,zero_add,ah,x.a1,x.b1,dx.len,dy.len,b7,e0,inc (xs.length+ys.length) (by omega),agl (show xs.length+ys.length+1<=1000 by omega),aL]
 refine cN (σ:=Nat×List Nat) (λp=>[I p.1]) (λp=>hz h3 p.2)
  (λp=>p.1<=xs.length/\p.2.length=xs.length+ys.length+1/\dF 10000 p.2/\(∀j (hj:j<p.2.length),p.1+ys.length<=j->p.2[j]=0)/\val 10000 p.2=val 10000 (xs.take p.1)*val 10000 ys) (λp=>xs.length-p.1)
  (0,replicate (xs.length+ys.length+1) 0) rfl rfl ⟨by simp,by simp,dF.wc hB _,by simp,by simp [xk,val]⟩ ?_
 rintro ⟨i,os⟩ ⟨hi,jt,gD,Dj,dD⟩ L hL
 simp only at hi jt gD Dj dD hL⊢
 have Be:∀ps,af false 1 (hz h3 ps) (pt h.length 1)=some v:=λps=>EX.load (vz h3 ps) x.a1
 have zj:∀ps,af false 1 (hz h3 ps) (pt (h.length+1) 1)=some w:=λps=>EX.load (vz h3 ps) x.b1
 rw [aEG]
 simp only [cj,zero_add,Be,dx.len,bW,ah,ca]
 refine ⟨λaw=>?_,λcJ=>?_⟩
 ·have gS:i<xs.length:=by omega
  have iH:xs[i]<10000:=cx.1 _ (getElem_mem gS)
  have tO:=jS 10000 xs gS
  refine cN (σ:=Nat×Nat×List Nat) (λp=>[I p.1,I p.2.1]) (λp=>hz h3 p.2.2)
   (λp=>p.2.1<=ys.length+1/\(p.2.1=ys.length+1->p.1=0)/\p.1<10000/\p.2.2.length=xs.length+ys.length+1/\dF 10000 p.2.2/\(∀j (hj:j<p.2.2.length),i+ys.length+1<=j->p.2.2[j]=0)/\(p.2.1<=ys.length->∀j (hj:j<p.2.2.length),i+ys.length<=j->p.2.2[j]=0)/\val 10000 p.2.2+10000^(i+p.2.1)*p.1=val 10000 os+10000^i*(xs[i]*val 10000 (ys.take p.2.1))) (λp=>ys.length+1-p.2.1)
   (0,0,os) rfl rfl ⟨by simp,by simp,hB,jt,gD,λj hj h=>Dj j hj (by omega),λ_=>Dj,by simp [val]⟩ ?_
  rintro ⟨c,k,ps⟩ ⟨rZ,hkc,hc,oD,vg,wQ,Qw,wP⟩ L2 dO
  simp only at rZ hkc hc oD vg wQ Qw wP dO⊢
  have dx':=dx.mono (vz h3 ps)
  have dy':=dy.mono (vz h3 ps)
  have pT:i+k<ps.length:=by omega
  have aBg:ps[i+k]<10000:=vg _ (getElem_mem pT)
  have ei:IntKind.wrap .i64 ((i:Int)+(k:Int))=((i+k:Nat):Int):=by rw [wrap64 (by omega) (by omega)];omega
  -- j6 next Hv
  have step:∀p:Nat,p<=99980001->k<ys.length+1->(k=ys.length->p=0)->xs[i]*val 10000 (ys.take (k+1))=xs[i]*val 10000 (ys.take k)+10000^k*p->
    wZ prog K (pt h.length 0) (pt (h.length+1) 0) (pt (h.length+2) 0) (sl 3 h3.length 0 (xs.length+ys.length+1)) (I i) (I k) (I ((ps[i+k]+c+p:Nat):Int)) L L2 (hz h3 ps):=by
   intro p hp iN hkp hpv
   rw [aEC]
   have nF:=sM 10000 ps (i+k) ((ps[i+k]+c+p)%10000) pT
   have py:(ps[i+k]+c+p)%10000<10000:=mod_lt _ hB
   have mB:=Nat.mod_add_div (ps[i+k]+c+p) 10000
   have uU:(ps[i+k]+c+p) / 10000<10000:=by omega
   have Ia:k=ys.length->(ps[i+k]+c+p) / 10000=0:=by
    intro Qg
    have:=Qw (by omega) (i+k) pT (by omega)
    rw [this,hkp Qg]
    omega
   simp only [b7,ei,ah]
   rw [show (.int .i64 10000:Value)=.int .i64 ((10000:Nat):Int) from rfl,zB _ _ _ (by decide),Bt (by decide) (by omega)]
   simp only [ah]
   rw [jL (show i+k<xs.length+ys.length+1 by omega)]
   simp only [ah]
   rw [aBL _ pT]
   simp only [aL,aED,b7,ah,inc k (by omega),true_and]
   refine dO ((ps[i+k]+c+p) / 10000,k+1,ps.set (i+k) ((ps[i+k]+c+p)%10000)) ⟨by show k+1<=ys.length+1;omega,λh=>Ia (by simp only at h;omega),uU,by show (ps.set _ _).length=_;rw [length_set];exact oD,vg.set py _,?_,?_,?_⟩ (by show ys.length+1-(k+1)<ys.length+1-k;omega)
   ·intro j hj gC
    show (ps.set (i+k) _)[j]=0
    rw [List.getElem_set_ne (by omega)]
    exact wQ j (by simpa using hj) gC
   ·intro fC j hj gC
    have qV:k+1<=ys.length:=fC
    show (ps.set (i+k) _)[j]=0
    rw [List.getElem_set_ne (by omega)]
    exact Qw (by omega) j (by simpa using hj) gC
   ·show val 10000 (ps.set (i+k) _)+10000^(i+(k+1))*_=val 10000 os+10000^i*(xs[i]*val 10000 (ys.take (k+1)))
    rw [hpv,<-Nat.add_assoc,pow_succ]
    rw [pow_add] at nF wP⊢
    generalize ps[i+k]=o at*
    generalize (o+c+p)%10000=m at*
    generalize (o+c+p) / 10000=q at*
    generalize xs[i]*val 10000 (ys.take k)=v at*
    generalize val 10000 (ps.set (i+k) m)=s1 at*
    generalize val 10000 ps=s0 at*
    generalize val 10000 os=s2 at*
    generalize 10000^i=P at*
    generalize 10000^k=Q at*
    clear dO hL dx dy dx' dy' hv hw x Be zj
    have h1:P*Q*(m+10000*q)=P*Q*(o+c+p):=by rw [mB]
    grind
  have body:k<ys.length+1->OP (aj .add (I i) (I k)) λcI=>OP (aD 1 (sl 3 h3.length 0 (xs.length+ys.length+1)) cI) λcU=>OP (af false 1 (hz h3 ps) cU) λer=>OP (aj .add er (I c)) λcP=>
    OP (aT w) λfD=>OP (aj .lss (I k) fD) λfX=>aJ fX
     (OP (aD 1 v (I i)) λgv=>OP (af false 1 (hz h3 ps) gv) λfJ=>OP (aD 1 w (I k)) λiZ=>OP (af false 1 (hz h3 ps) iZ) λgI=>OP (aj .mul fJ gI) λfT=>OP (aj .add cP fT) λiV=>
      wZ prog K (pt h.length 0) (pt (h.length+1) 0) (pt (h.length+2) 0) (sl 3 h3.length 0 (xs.length+ys.length+1)) (I i) (I k) iV L L2 (hz h3 ps))
     (wZ prog K (pt h.length 0) (pt (h.length+1) 0) (pt (h.length+2) 0) (sl 3 h3.length 0 (xs.length+ys.length+1)) (I i) (I k) cP L L2 (hz h3 ps)):=by
   intro iN
   have e1:IntKind.wrap .i64 ((ps[i+k]:Int)+(c:Int))=((ps[i+k]+c:Nat):Int):=by rw [wrap64 (by omega) (by omega)];omega
   simp only [b7,ei,ah]
   rw [jL (show i+k<xs.length+ys.length+1 by omega)]
   simp only [ah,aBK pT,b7,e1,dy.len,bW,ca]
   refine ⟨λdR=>?_,λaeC=>?_⟩
   ·have Qh:k<ys.length:=by omega
    obtain ⟨ia,a1,a2⟩:=dx'.get gS
    obtain ⟨ib,b1,b2⟩:=dy'.get Qh
    have kS:ys[k]<10000:=cy.1 _ (getElem_mem Qh)
    have Dg:=aDd iH kS
    have O8:((xs[i]:Int)*(ys[k]:Int))=((xs[i]*ys[k]:Nat):Int):=by simp
    have e2:IntKind.wrap .i64 ((ps[i+k]+c:Nat)+(xs[i]*ys[k]:Nat):Int)=((ps[i+k]+c+xs[i]*ys[k]:Nat):Int):=by rw [wrap64 (by omega) (by omega)];omega
    simp only [a1,a2,b1,b2,ah,xT,O8]
    rw [wrap64 (n:=((xs[i]*ys[k]:Nat):Int)) (by omega) (by omega)]
    simp only [b7,ah,e2]
    refine step (xs[i]*ys[k]) Dg iN (λh=>by omega) ?_
    rw [jS 10000 ys Qh]
    grind
   ·have Qg:k=ys.length:=by omega
    have:=step 0 (by omega) iN (λ_=>rfl) (by rw [Qg,take_length,take_of_length_le (by omega)];rfl)
    simpa using this
  rw [aEB]
  simp only [cj,zero_add,zj,dy.len,bW,ah]
  have other:∀t:Bool,(t=true->k<ys.length+1)->(t=false->ys.length<=k/\c=0)->aJ (B t) (OP (aj .add (I i) (I k)) λcI=>OP (aD 1 (sl 3 h3.length 0 (xs.length+ys.length+1)) cI) λcU=>OP (af false 1 (hz h3 ps) cU) λer=>OP (aj .add er (I c)) λcP=>
    OP (aT w) λfD=>OP (aj .lss (I k) fD) λfX=>aJ fX
     (OP (aD 1 v (I i)) λgv=>OP (af false 1 (hz h3 ps) gv) λfJ=>OP (aD 1 w (I k)) λiZ=>OP (af false 1 (hz h3 ps) iZ) λgI=>OP (aj .mul fJ gI) λfT=>OP (aj .add cP fT) λiV=>
      wZ prog K (pt h.length 0) (pt (h.length+1) 0) (pt (h.length+2) 0) (sl 3 h3.length 0 (xs.length+ys.length+1)) (I i) (I k) iV L L2 (hz h3 ps))
     (wZ prog K (pt h.length 0) (pt (h.length+1) 0) (pt (h.length+2) 0) (sl 3 h3.length 0 (xs.length+ys.length+1)) (I i) (I k) cP L L2 (hz h3 ps)))
    (Sm prog K (pt h.length 0) (pt (h.length+1) 0) (pt (h.length+2) 0) (sl 3 h3.length 0 (xs.length+ys.length+1)) (I i) L (hz h3 ps)):=by
   intro t h1 h2
   refine um (λhe=>body (h1 (by simpa using he))) λbY=>?_
   obtain ⟨PQ,rfl⟩:=h2 (by simpa using bY)
   rw [aEE]
   simp only [b7,ah,inc i (by omega),true_and]
   have aAV:val 10000 (ys.take k)=val 10000 ys:=by rw [take_of_length_le PQ]
   refine hL (i+1,ps) ⟨by show i+1<=xs.length;omega,oD,vg,λj hj gC=>wQ j hj (by have:i+1+ys.length<=j:=gC;omega),?_⟩ (by show xs.length-(i+1)<xs.length-i;omega)
   show val 10000 ps=val 10000 (xs.take (i+1))*val 10000 ys
   rw [tO,add_mul,<-dD,mul_assoc,<-aAV,<-wP]
   omega
  by_cases iN:k<ys.length
  ·rw [dh (show (k:Int)<(ys.length:Int) by omega)]
   simp only [amT,o0,amU,fy,ah,cj,zero_add,Be,zj,true_and]
   exact other true (λ_=>by omega) (λh=>by cases h)
  ·rw [bX (show ¬(k:Int)<(ys.length:Int) by omega)]
   simp only [amT,fc,amU,gY,dA,ah,cj,zero_add,Be,zj,true_and]
   exact other _ (λh=>by
    have h0:(0:Int)<(c:Int):=by simpa using h
    apply byContradiction
    intro AM
    have:=hkc (by omega)
    omega) (λh=>by
    have h0:¬(0:Int)<(c:Int):=by simpa using h
    omega)
 ·have:i=xs.length:=by omega
  subst this
  rw [aEF]
  rw [take_length] at dD
  have oL:af false 1 (hz h3 os) (pt h.length 0)=some (B (decide (a<0))):=EX.load (vz h3 os) x.a0
  have ld1:af false 1 (hz h3 os) (pt (h.length+1) 0)=some (B (decide (b<0))):=EX.load (vz h3 os) x.b0
  have e:sl 3 h3.length 0 (xs.length+ys.length+1)=sl 3 h3.length 0 os.length:=by rw [jt]
  simp only [cj,zero_add,ah,oL,ld1,Cq,if_true,e]
  simp only [NN (afr h3 os),ah]
  refine Ab (afr h3 os) gD (by omega) ?_
  intro r h5 x5 zr
  have hzv:(if (!(decide (a<0)==decide (b<0)))=true then -(val 10000 os:Int) else (val 10000 os:Int))=a*b:=by
   rw [dD,ex,ey]
   exact aKl a b
  rw [hzv] at zr
  obtain ⟨q,rfl,hq⟩:=id zr
  have g':=((vz h3 os).trans x5).get x.out
  exact AE g' (hk _ _ (((x.ex.trans (vz h3 os)).trans x5).set (by omega) _) (zr.dK g' _))
end
section
def QZ (h:ae) (val:Value) (a b:Int):Prop:=∃u w,val=.agg #[B (decide (a<0)),u,B (decide (b<0)),w]/\je h u a.natAbs/\je h w b.natAbs
theorem QZ.mono {h h':ae} {v:Value} {a b:Int} (x:EX h h') (p:QZ h v a b):QZ h' v a b:=let ⟨u,w,e,m,n⟩:=p;⟨u,w,e,m.mono x,n.mono x⟩
theorem J8 {h:ae} {i:Nat} {e:TypeId} {a b c d x y z w:Value} (hg:h[i]?=some (.arr e [a,b,c,d])):aU 4 h (pt i 0) (.agg #[x,y,z,w])=some (undef,h.set i (.arr e [x,y,z,w])):=by
 simp [aU,sw,hg,fV,dL,Value.cells,setAt]
theorem ko {h:ae} {i:Nat} {e:TypeId} {a b c d:Value} (hg:h[i]?=some (.arr e [a,b,c,d])):af true 4 h (pt i 0)=some (.agg #[a,b,c,d]):=by
 simp [af,bw,hg,dS]
theorem mV {h:ae} {i:Nat} {e:TypeId} {a b c d:Value} (hg:h[i]?=some (.arr e [a,b,c,d])):af true 2 h (pt i 0)=some (.agg #[a,b]):=by
 simp [af,bw,hg,dS]
theorem nZ {h:ae} {i:Nat} {e:TypeId} {a b c d:Value} (hg:h[i]?=some (.arr e [a,b,c,d])):af true 2 h (pt i 2)=some (.agg #[c,d]):=by
 simp [af,bw,hg,dS]
theorem tp {h':ae} {j:Nat} {e:TypeId} {b0 v0 c0 w0 a b c d:Value} {K:Value->ae->Prop} (hg:h'[j]?=some (.arr e [b0,v0,c0,w0])) (hk:K (.agg #[a,b,c,d]) (h'.set j (.arr e [a,b,c,d]))):
  OH (aU 4 h' (pt j 0) (.agg #[a,b,c,d])) λ_ h6=>OP (af true 4 h6 (pt j 0)) λr0=>K r0 h6:=by
 rw [J8 hg]
 simp only [aL]
 rw [ko (gF hg)]
 exact ah.2 hk
theorem NO {b c:Bool} {e e':TypeId} {k k':IntKind} {h h':ae} {v w:Value} {xs ys:List Nat} (d:DS e k h v xs) (d':DS e' k' h' w ys):
  eG [(.bool false),(.slice none 0 0),(.bool false),(.slice none 0 0)] [(0,2,.agg #[B b,v]),(2,2,.agg #[B c,w])]=some (.agg #[B b,v,B c,w]):=by
 rcases d with ⟨rfl,_⟩ | ⟨i,rfl,_⟩ <;> rcases d' with ⟨rfl,_⟩ | ⟨i',rfl,_⟩ <;> rfl
abbrev z4:List Value:=[(.bool false),(.slice none 0 0),(.bool false),(.slice none 0 0)]
theorem adI {h h':ae} {j:Nat} {va vb:Value} {a b:Int} {K:Value->ae->Prop} (ha:ZV h' va a) (hb:ZV h' vb b) (x:EX h h') (hj:h.length<=j) (hg:h'[j]?=some (.arr 57 z4)) (hk:∀r h',EX h h'->QZ h' r a b->K r h'):
  OP (eG [(.bool false),(.slice none 0 0),(.bool false),(.slice none 0 0)] [(0,2,va),(2,2,vb)]) λaX=>OH (aU 4 h' (pt j 0) aX) λ_ h6=>OP (af true 4 h6 (pt j 0)) λr0=>K r0 h6:=by
 obtain ⟨u,rfl,hu⟩:=ha
 obtain ⟨w,rfl,hw⟩:=hb
 obtain ⟨xs,dx,cx⟩:=id hu
 obtain ⟨ys,dy,cy⟩:=id hw
 rw [NO dx dy]
 exact ah.2 (tp hg (hk _ _ (x.set hj _) ⟨u,w,rfl,hu.dK hg _,hw.dK hg _⟩))
theorem C18 {z:Int} {h:ae} {K:Value->ae->Prop} (hz:z.natAbs<1000000000000000000) (hk:∀r h',EX h h'->QZ h' r z 1->K r h'):ay prog 18 [I z] h K:=by
 refine f18 ?_
 have e1:cF 57 [(.bool false),(.slice none 0 0),(.bool false),(.slice none 0 0)] h=some (pt h.length 0,h++[.arr 57 z4]):=rfl
 simp only [Mk,e1,aL]
 refine ED hz ?_
 intro r1 h1 x1 z1
 refine ED (z:=1) (by decide) ?_
 intro r2 h2 x2 z2
 exact adI (z1.mono x2) z2 ((EX.append _ _).trans (x1.trans x2)) (le_refl _) ((x1.trans x2).get bK) hk
end
section
def mb (s:List UInt8):Nat:=s.foldl (λd c=>10*d+(c.toNat-48)) 0
theorem Va:∀(s:List UInt8) (a:Nat),s.foldl (λd c=>10*d+(c.toNat-48)) a=a*10^s.length+mb s
 | [],a=>by simp [mb]
 | c::s,a=>by
  have h1:=Va s (10*a+(c.toNat-48))
  have h2:=Va s (10*0+(c.toNat-48))
  have e:mb (c::s)=s.foldl (λd c=>10*d+(c.toNat-48)) (10*0+(c.toNat-48)):=rfl
  rw [e,h2,List.foldl_cons,h1,length_cons,pow_succ]
  generalize 10^s.length=P
  generalize c.toNat-48=d
  generalize mb s=w
  grind
theorem U9 (s t:List UInt8):mb (s++t)=mb s*10^t.length+mb t:=by
 show (s++t).foldl _ 0=_
 rw [List.foldl_append,Va]
 rfl
theorem anZ (c:UInt8):mb [c]=c.toNat-48:=by simp [mb]
def Co (s:List UInt8):Prop:=∀c∈s,48<=c.toNat/\c.toNat<=57
theorem anY (c:UInt8) (s:List UInt8):mb (c::s)=(c.toNat-48)*10^s.length+mb s:=by
 have:=U9 [c] s
 rw [anZ] at this
 exact this
end
section
theorem Vb:∀{ds:List Nat},dF 10 ds->mb ((ds.map jN).reverse)=val 10 ds
 | [],_=>rfl
 | d::ds,h=>by
  have h1:=Vb (ds:=ds) λy hy=>h y (by simp [hy])
  have h2:=h d (by simp)
  rw [List.map_cons,List.reverse_cons,U9,anZ,h1,uJ h2]
  simp only [val,List.length_singleton,Nat.pow_one]
  omega
theorem ady {n:Nat} (hn:n<dN):Co (jO n)/\0<(jO n).length/\(jO n).length<=1000/\((jO n).head?=some 48->(jO n).length=1)/\mb (jO n)=n:=by
 obtain ⟨hc,hv⟩:=Hu n
 by_cases h0:n=0
 ·subst h0
  have:jO 0=[48]:=rfl
  rw [this]
  exact ⟨λc hc=>by simp at hc;subst hc;decide,by simp,by simp,by simp,rfl⟩
 ·have e:jO n=((tf n).map jN).reverse:=by unfold jO;rw [if_neg h0]
  have bY:tf n≠[]:=by
   intro h
   rw [h] at hv
   exact h0 hv.symm
  rw [e]
  refine ⟨?_,?_,?_,?_,?_⟩
  ·intro c PW
   simp only [List.mem_reverse,List.mem_map] at PW
   obtain ⟨d,hd,rfl⟩:=PW
   rw [uJ (hc.1 d hd)]
   have:=hc.1 d hd
   omega
  ·simp only [List.length_reverse,List.length_map]
   exact List.length_pos_iff.2 bY
  ·simp only [List.length_reverse,List.length_map]
   show _<=IG
   refine hc.len (by decide) ?_
   rw [hv]
   exact lt_of_lt_of_le hn Yi
  ·intro wD
   exfalso
   rw [List.head?_reverse,List.getLast?_map] at wD
   cases hl:(tf n).getLast? with
   | none=>rw [hl] at wD;simp at wD
   | some d=>
    rw [hl] at wD
    have hd:d<10:=hc.1 d (List.mem_of_getLast? hl)
    have h3:jN d=48:=by simpa using wD
    have h4:=congrArg UInt8.toNat h3
    rw [uJ hd] at h4
    have h5:(48:UInt8).toNat=48:=rfl
    rw [h5] at h4
    have:d=0:=by omega
    subst this
    exact hc.2 hl
  ·rw [Vb hc.1,hv]
def kr (z:Int):List UInt8:=if z<0 then 45::jO z.natAbs else jO z.natAbs
end
section
theorem FH {e:TypeId} {k:IntKind} {h:ae} {v:Value} {xs:List Nat} (d:DS e k h v xs):eG [(.bool false),(.slice none 0 0)] [(1,1,v)]=some (.agg #[B false,v]):=by
 rcases d with ⟨rfl,_⟩ | ⟨i,rfl,_⟩ <;> rfl
theorem PA (b:Bool) (v:Value):yW false 1 1 (.agg #[B b,v])=some v:=rfl
theorem qa {n:Nat} (h:n<10000^201):n<dN:=by
 refine lt_of_lt_of_le h ?_
 unfold dN
 decide+kernel
theorem je.D5 {h:ae} {v:Value} {n:Nat} (p:je h v n):ZV h (.agg #[B false,v]) (n:Int):=⟨v,by rw [bX (by omega)],by simpa using p⟩
theorem VU {v:Value} {n d:Nat} {h:ae} {K:Value->ae->Prop} (hv:je h v n) (hn:n<10000^200) (hd:d<=10000) (hk:∀r h',EX h h'->je h' r (n*d)->K r h'):ay prog 127 [v,I d] h K:=by
 have u4:n<dN:=qa (by
  have:(10000:Nat)^201=10000^200*10000:=by decide+kernel
  omega)
 have aBn:n*d<dN:=by
  refine qa ?_
  have h1:n*d<=n*10000:=mul_le_mul_left _ hd
  have:(10000:Nat)^201=10000^200*10000:=by decide+kernel
  omega
 refine f127 ?_
 obtain ⟨xs,dx,cx⟩:=id hv
 simp only [LZ,FH dx,ah]
 refine ED (z:=d) (by omega) ?_
 intro r1 h1 x1 z1
 refine aoC (hv.D5.mono x1) z1 (by simpa using u4) (by have:=qa (n:=10000) (by decide+kernel);simp;omega) ?_
 intro r2 h2 x2 z2
 obtain ⟨u,rfl,hu⟩:=z2
 have e1:((n:Int)*(d:Int)).natAbs=n*d:=by rw [natAbs_mul];simp
 rw [e1] at hu
 have e2:decide ((n:Int)*(d:Int)<0)=false:=by
  have oC:(n:Int)*(d:Int)=((n*d:Nat):Int):=by simp
  exact bX (by omega)
 rw [e2]
 obtain ⟨ys,dy,cy,vy⟩:=hu
 have ly:=qP cy (by rw [vy];exact aBn)
 refine Ab dy cy.1 (by omega) ?_
 intro r3 h3 x3 z3
 simp only [false_eq_true,if_false,vy] at z3
 obtain ⟨w,rfl,hw⟩:=z3
 rw [PA]
 rw [natAbs_natCast] at hw
 exact ah.2 (hk _ _ ((x1.trans x2).trans x3) hw)
theorem je.aCG {h h':ae} {n i m:Nat} (p:je h (sl 3 i 0 m) n) (hi:h'[i]?=h[i]?):je h' (sl 3 i 0 m) n:=by
 obtain ⟨xs,d,c,v⟩:=p
 refine ⟨xs,?_,c,v⟩
 rcases d with ⟨h1,h2⟩ | ⟨j,h1,h2⟩
 ·cases h1
 ·obtain ⟨rfl,rfl⟩:=vN h1
  refine .inr ⟨i,rfl,h2.imp id ?_⟩
  rintro ⟨r,hr⟩
  refine ⟨r,?_⟩
  unfold bw at hr⊢
  rw [hi];exact hr
theorem azg {h:ae} {v:Value} {ys:List Nat} {d:Nat} {K:Value->ae->Prop} (p:DS 3 .i64 h v ys) (hl:ys.length<=1000) (hk:∀r h',EX h h'->DS 3 .i64 h' r (d::ys)->K r h'):
  OH (cH 3 1 [.int .i64 0] h [(0,1,I d)]) λa h1=>OH (cT 3 1 8 h1 a v) K:=by
 have e1:cH 3 1 [.int .i64 0] h [(0,1,I d)]=some (sl 3 h.length 0 1,h++[.arr 3 [I d]]):=rfl
 rw [e1]
 simp only [aL]
 obtain ⟨c1,c2⟩:=(p.mono (EX.append h [.arr 3 [I d]])).cells
 by_cases oB:ys.length=0
 ·have:ys=[]:=List.length_eq_zero_iff.1 oB
  subst this
  have e2:cT 3 1 8 (h++[.arr 3 [I d]]) (sl 3 h.length 0 1) v=some (sl 3 h.length 0 1,h++[.arr 3 [I d]]):=by
   simp [cT,c1,c2,sl,maxLen]
  rw [e2]
  simp only [aL]
  exact hk _ _ (EX.append _ _) (.inr ⟨h.length,rfl,.inr ⟨[],by simp [bw]⟩⟩)
 ·have hg:(h++[az.arr 3 [I d]])[h.length]?=some (.arr 3 [I d]):=bK
  have e2:cT 3 1 8 (h++[.arr 3 [I d]]) (sl 3 h.length 0 1) v=some (sl 3 (h.length+1) 0 (1+ys.length),(h++[az.arr 3 [I d]]).set h.length .dead++[.arr 3 ([I d]++ys.map λd:Nat=>I d)]):=by
   simp only [cT,c1,c2]
   simp only [sl,hg]
   rw [if_pos ⟨trivial,trivial,by simp,by omega,by unfold maxLen;omega⟩,if_neg oB]
   simp
  rw [e2]
  simp only [aL]
  refine hk _ _ (((EX.append _ _).set (le_refl _) _).push _) (.inr ⟨h.length+1,by rw [length_cons,Nat.add_comm 1],.inr ⟨[],?_⟩⟩)
  unfold bw
  rw [List.getElem?_append_right (by simp)]
  simp
theorem an0 (B:Nat) (xs:List Nat) {i:Nat} (hi:i<xs.length):val B (xs.drop i)=xs[i]+B*val B (xs.drop (i+1)):=by
 rw [drop_eq_getElem_cons hi];rfl
theorem anJ {a b:Nat}:oS a b<=0↔a<=b:=by
 unfold oS
 split
 ·constructor <;> omega
 ·split <;> constructor <;> omega
theorem KB {va vb:Value} {a b:Int} {h:ae} {K:Value->ae->Prop} (ha:ZV h va a) (hb:ZV h vb b) (qf:0<b) (la:a.natAbs<10000^199) (lb:b.natAbs<10000^199)
  (hk:∀r s h',EX h h'->ZV h' r (a / b)->ZV h' s (a%b)->K (.tuple #[r,s]) h'):ay prog 96 [va,vb] h K:=by
 obtain ⟨v,rfl,hv⟩:=ha
 obtain ⟨w,rfl,hw⟩:=hb
 have aMJ:(10000:Nat)^200=10000^199*10000:=by decide+kernel
 have aMK:(10000:Nat)^201=10000^200*10000:=by decide+kernel
 refine f96 ?_
 unfold Nz
 refine FG ?_
 intro h3 x
 obtain ⟨B,hBb⟩:∃B:Nat,b=B:=⟨b.toNat,by omega⟩
 subst hBb
 have hB0:0<B:=by omega
 have hBl:B<10000^199:=by simpa using lb
 obtain ⟨xs,dx,cx,ex⟩:=hv.mono x.ex
 have l1:=qP cx (by rw [ex];exact qa (by omega))
 have hwB:je h3 w B:=by have:=hw.mono x.ex;simpa using this
 have e2:cF 55 [(.bool false),(.slice none 0 0)] h3=some (pt h3.length 0,h3++[.arr 55 [(.bool false),(.slice none 0 0)]]):=rfl
 simp only [e2,aL,cj,zero_add]
 have x4:EX h3 (h3++[.arr 55 [(.bool false),(.slice none 0 0)]]):=EX.append _ _
 have g5:(h3++[az.arr 55 [(.bool false),(.slice none 0 0)]])[h3.length]?=some (.arr 55 [(.bool false),(.slice none 0 0)]):=bK
 have hl3:h.length+2<h3.length:=(cm x.out).1
 generalize hh4:h3++[az.arr 55 [(.bool false),(.slice none 0 0)]]=h4 at x4 g5⊢
 have hl4:h4.length=h3.length+1:=by rw [<-hh4];simp
 clear hh4
 have Pg:=dx.mono x4
 simp only [EX.load x4 x.a1,ah,Pg.len,agl (show xs.length<=1000 by omega),aL,RF]
 have e6:IntKind.wrap .i64 ((xs.length:Int)-1)=(xs.length:Int)-1:=wrap64 (by omega) (by omega)
 have x6:EX h4 (hz h4 (replicate xs.length 0)++[.arr 3 []]):=(vz h4 _).push _
 simp only [EX.load (x4.trans x6) x.a1,ah,Pg.len,iD,e6]
 have Qx:(hz h4 (replicate xs.length 0)++[az.arr 3 []])[h4.length]?=some (.arr 3 ((replicate xs.length 0).map λd:Nat=>I d)):=by
  rw [List.getElem?_append_left (by simp [hz])];exact afs _ _
 have sk:je (hz h4 (replicate xs.length 0)++[az.arr 3 []]) (sl 3 (hz h4 (replicate xs.length 0)).length 0 0) 0:=⟨[],.inr ⟨_,rfl,.inl rfl⟩,eL.nil _,rfl⟩
 refine cN (σ:=Nat×Nat×Value×List Nat×ae) (λp=>[p.2.2.1,I ((p.1:Int)-1)]) (λp=>p.2.2.2.2)
  (λp=>p.1<=xs.length/\EX h4 p.2.2.2.2/\p.2.2.2.2[h4.length]?=some (.arr 3 (p.2.2.2.1.map λd:Nat=>I d))/\p.2.2.2.1.length=xs.length/\dF 10000 p.2.2.2.1/\je p.2.2.2.2 p.2.2.1 p.2.1/\p.2.1<B/\val 10000 (p.2.2.2.1.drop p.1)*B+p.2.1=val 10000 (xs.drop p.1)) (λp=>p.1)
  (xs.length,0,_,replicate xs.length 0,_) rfl rfl ⟨le_refl _,x6,Qx,by simp,dF.wc (by decide) _,sk,hB0,by simp [val]⟩ ?_
 rintro ⟨i,R,rv,qs,g⟩ ⟨hi,xg,hq,sf,QB,hR,hRB,dD⟩ L hL
 simp only at hi xg hq sf QB hR hRB dD hL⊢
 have Be:∀{g'},EX h4 g'->af false 1 g' (pt h.length 1)=some v:=λy=>EX.load (x4.trans y) x.a1
 have zj:∀{g'},EX h4 g'->af false 1 g' (pt (h.length+1) 1)=some w:=λy=>EX.load (x4.trans y) x.b1
 rw [aJa]
 simp only [om,ah,ca]
 refine ⟨λcJ=>?_,λaw=>?_⟩
 ·obtain ⟨j,rfl⟩:∃j,i=j+1:=⟨i-1,by omega⟩
  have ej:((j+1:Nat):Int)-1=(j:Int):=by omega
  have wN:j<xs.length:=by omega
  obtain ⟨ia,a1,a2⟩:=(Pg.mono xg).get wN
  have QR:xs[j]<10000:=cx.1 _ (getElem_mem wN)
  have Iw:=an0 10000 xs wN
  rw [ej]
  simp only [cj,zero_add,Be xg,ah,a1,a2]
  obtain ⟨rs,dr,cr,vr⟩:=id hR
  have lr:=qP cr (by rw [vr];exact qa (by omega))
  refine azg dr (by omega) ?_
  intro r1 g1 y1 d1
  simp only [FH d1,ah]
  refine VS d1 (λz hz=>by
   rcases List.mem_cons.1 hz with rfl | hz
   ·exact QR
   ·exact cr.1 z hz) (by simp;omega) ?_
  rintro r2 g2 y2 z2 ⟨fb,fi,fn,rfl,hfi⟩
  have ev:val 10000 (xs[j]::rs)=xs[j]+10000*R:=by simp only [val,vr]
  simp only [false_eq_true,if_false,ev] at z2
  obtain ⟨rw2,AY,It⟩:=z2
  injection AY with AY
  injection AY with AY
  simp only [List.cons.injEq,and_true] at AY
  obtain ⟨_,rfl⟩:=AY
  rw [PA]
  have QE:je g2 (sl 3 fi 0 fn) (xs[j]+10000*R):=by
   rw [natAbs_natCast] at It
   exact It
  have aMB:h4.length<fi:=by
   have h9:=(cm hq).1
   have h8:=y1.1
   omega
  simp only [ah]
  have hR':xs[j]+10000*R<10000*B:=by omega
  generalize hRR:xs[j]+10000*R=R' at QE hR'
  have ni:EX h4 g2:=(xg.trans y1).trans y2
  refine cN (σ:=Nat×Nat×ae) (λp=>[I p.1,I p.2.1]) (λp=>p.2.2) (λp=>p.1<p.2.1/\p.2.1<=10000/\EX g2 p.2.2/\p.1*B<=R'/\R'<p.2.1*B) (λp=>p.2.1-p.1)
   (0,10000,g2) rfl rfl ⟨by show 0<10000;decide,le_refl _,EX.refl _,by simp,hR'⟩ ?_
  rintro ⟨lo,pS,g3⟩ ⟨hlh,hh,y3,fO,kE⟩ L2 dO
  simp only at hlh hh y3 fO kE dO⊢
  have xG:EX h4 g3:=ni.trans y3
  rw [aI5]
  have e7:IntKind.wrap .i64 ((pS:Int)-(lo:Int))=((pS-lo:Nat):Int):=by rw [wrap64 (by omega) (by omega)];omega
  have e8:IntKind.wrap .i64 ((lo:Int)+(pS:Int))=((lo+pS:Nat):Int):=by rw [wrap64 (by omega) (by omega)];omega
  simp only [iD,e7,ah,gY,ca]
  refine ⟨λwK=>?_,λhle=>?_⟩
  ·simp only [b7,e8,ah]
   rw [show (.int .i64 2:Value)=.int .i64 ((2:Nat):Int) from rfl,Bt (by decide) (by omega)]
   simp only [ah,cj,zero_add,zj xG]
   have hm:(lo+pS) / 2<=10000:=by omega
   refine VU ((hwB.mono x4).mono xG) (by omega) hm ?_
   intro r4 g4 y4 m4
   have PU:B*((lo+pS) / 2)<dN:=by
    refine qa ?_
    have:=mul_le_mul_left B hm
    omega
   refine VT (a:=B*((lo+pS) / 2)) (b:=R') m4 ((QE.mono y3).mono y4) PU (qa (by omega)) ?_
   simp only [rR,ah,ca,true_and]
   generalize hmm:(lo+pS) / 2=mid at*
   have tL:lo<mid/\mid<pS:=by omega
   refine ⟨λh0=>?_,λh0=>?_⟩
   ·have:=anJ.1 h0
    exact dO (mid,pS,g4) ⟨tL.2,hh,y3.trans y4,by show mid*B<=R';rw [mul_comm];exact this,kE⟩ (by show pS-mid<pS-lo;omega)
   ·have:¬B*mid<=R':=λh9=>h0 (anJ.2 h9)
    exact dO (lo,mid,g4) ⟨tL.1,by show mid<=10000;omega,y3.trans y4,fO,by show R'<mid*B;rw [mul_comm];omega⟩ (by show mid-lo<pS-lo;omega)
  ·have hhl:pS=lo+1:=by omega
   subst hhl
   have hRl:R'<lo*B+B:=by rw [Nat.succ_mul] at kE;exact kE
   rw [aI6]
   have vh:g3[h4.length]?=some (.arr 3 (qs.map λd:Nat=>I d)):=by
    rw [<-hq]
    have uY:=(cm hq).1
    rw [((y1.trans y2).trans y3).2 _ uY]
   have ad:aD 1 (sl 3 h4.length 0 xs.length) (I j)=some (pt h4.length j):=jL wN
   simp only [ad,ah]
   rw [kz vh (by simp;omega) rfl rfl]
   simp only [aL]
   have es:(qs.map λd:Nat=>I d).set j (I lo)=(qs.set j lo).map λd:Nat=>I d:=by rw [List.map_set]
   rw [es]
   have nM:EX h4 (g3.set h4.length (.arr 3 ((qs.set j lo).map λd:Nat=>I d))):=xG.set (le_refl _) _
   have Qy:(g3.set h4.length (.arr 3 ((qs.set j lo).map λd:Nat=>I d)))[h4.length]?=some (.arr 3 ((qs.set j lo).map λd:Nat=>I d)):=gF vh
   -- j6 rest aMq not lie there
   have afa:je (g3.set h4.length (.arr 3 ((qs.set j lo).map λd:Nat=>I d))) (sl 3 fi 0 fn) R':=(QE.mono y3).aCG (by rw [getElem?_set_ne (by omega)])
   generalize g3.set h4.length (.arr 3 ((qs.set j lo).map λd:Nat=>I d))=g5 at nM Qy afa⊢
   simp only [cj,zero_add,zj nM,ah]
   refine VU ((hwB.mono x4).mono nM) (by omega) (by omega) ?_
   intro r6 g6 y6 m6
   obtain ⟨us,du,cu,vu⟩:=afa.mono y6
   obtain ⟨ts,dt,ct,vt⟩:=m6
   have aAE:B*lo<=R':=by rw [mul_comm];exact fO
   have lu:=qP cu (by rw [vu];exact qa (by omega))
   refine Kr du dt cu.1 ct.1 (by omega) ?_ (by rw [vu,vt];exact aAE) ?_
   ·apply byContradiction
    intro hc
    have:=eL.zl (by decide) cu ct (by omega)
    omega
   intro r7 g7 os y7 d7 l7 s7 v7
   simp only [FH d7,ah]
   refine Ab d7 l7 (by omega) ?_
   intro r8 g8 y8 z8
   simp only [false_eq_true,if_false] at z8
   obtain ⟨DR,rfl,aBw⟩:=z8
   rw [PA]
   simp only [ah]
   have Po:IntKind.wrap .i64 ((j:Int)-1)=(j:Int)-1:=wrap64 (by omega) (by omega)
   simp only [aI7,iD,Po,ah,true_and]
   have aBb:lo<10000:=by omega
   have hv7:val 10000 os=R' -B*lo:=by omega
   have aBx:je g8 DR (R' -B*lo):=by rw [<-hv7];simpa using aBw
   have hBB:B*lo=lo*B:=mul_comm _ _
   refine hL (j,R' -B*lo,DR,qs.set j lo,g8) ⟨by show j<=xs.length;omega,((nM.trans y6).trans y7).trans y8,?_,by rw [length_set];exact sf,QB.set aBb _,aBx,by show R' -B*lo<B;omega,?_⟩ (by show j<j+1;omega)
   ·have uY:=(cm Qy).1
    show g8[h4.length]?=_
    rw [((y6.trans y7).trans y8).2 _ uY];exact Qy
   ·show val 10000 ((qs.set j lo).drop j)*B+(R' -B*lo)=val 10000 (xs.drop j)
    have hd:(qs.set j lo).drop j=lo::qs.drop (j+1):=by
     rw [drop_eq_getElem_cons (by rw [length_set];omega),List.getElem_set_self]
     congr 1
     rw [List.drop_set_of_lt (by omega)]
    rw [hd,Iw,<-dD]
    simp only [val]
    have h1:(lo+10000*val 10000 (qs.drop (j+1)))*B=lo*B+10000*(val 10000 (qs.drop (j+1))*B):=by rw [add_mul,mul_assoc]
    rw [h1]
    omega
 ·have wL:i=0:=by omega
  subst wL
  simp only [drop_zero] at dD
  rw [aI8]
  have oL:∀{g'},EX h4 g'->af false 1 g' (pt h.length 0)=some (Go.Sim.B (decide (a<0))):=λy=>EX.load (x4.trans y) x.a0
  have dq:DS 3 .i64 g (sl 3 h4.length 0 xs.length) qs:=by
   rw [<-sf]
   exact .inr ⟨h4.length,rfl,.inr ⟨[],by simp [bw,hq]⟩⟩
  simp only [cj,add_zero,oL xg,ah,NN dq]
  refine Ab dq QB (by omega) ?_
  intro r1 g1 y1 z1
  generalize hQ:val 10000 qs=Q at z1 dD
  obtain ⟨rs,dr,cr,vr⟩:=hR.mono y1
  have lr:=qP cr (by rw [vr];exact qa (by omega))
  simp only [FH dr,ah]
  refine Ab dr cr.1 (by omega) ?_
  intro r2 g2 y2 z2
  simp only [false_eq_true,if_false,vr] at z2
  have z1:=z1.mono y2
  have ni:EX h4 g2:=(xg.trans y1).trans y2
  have tJ:h3.length+1<=g2.length:=by have:=ni.1;omega
  obtain ⟨uq,rfl,jX⟩:=id z1
  obtain ⟨ur,rfl,sj⟩:=id z2
  have e3:∀g':ae,cF 55 [(.bool false),(.slice none 0 0)] g'=some (pt g'.length 0,g'++[.arr 55 [(.bool false),(.slice none 0 0)]]):=λ_=>rfl
  simp only [e3,aL,length_append,length_cons,length_nil,zero_add]
  have k0:(g2++[az.arr 55 [(.bool false),(.slice none 0 0)]]++[az.arr 55 [(.bool false),(.slice none 0 0)]])[g2.length]?=some (.arr 55 [(.bool false),(.slice none 0 0)]):=by simp
  have k1:(g2++[az.arr 55 [(.bool false),(.slice none 0 0)]]++[az.arr 55 [(.bool false),(.slice none 0 0)]])[g2.length+1]?=some (.arr 55 [(.bool false),(.slice none 0 0)]):=by simp
  have y3:EX g2 (g2++[az.arr 55 [(.bool false),(.slice none 0 0)]]++[az.arr 55 [(.bool false),(.slice none 0 0)]]):=(EX.append _ _).push _
  generalize g2++[az.arr 55 [(.bool false),(.slice none 0 0)]]++[az.arr 55 [(.bool false),(.slice none 0 0)]]=g3 at k0 k1 y3⊢
  rw [jm k0]
  simp only [aL]
  have y4:EX g2 (g3.set g2.length (.arr 55 [Go.Sim.B (decide ((if decide (a<0)=true then -(Q:Int) else (Q:Int))<0)),uq])):=y3.set (le_refl _) _
  have sB:=gF (o:=.arr 55 [Go.Sim.B (decide ((if decide (a<0)=true then -(Q:Int) else (Q:Int))<0)),uq]) k0
  have mG:(g3.set g2.length (.arr 55 [Go.Sim.B (decide ((if decide (a<0)=true then -(Q:Int) else (Q:Int))<0)),uq]))[g2.length+1]?=some (.arr 55 [(.bool false),(.slice none 0 0)]):=by rw [getElem?_set_ne (by omega)];exact k1
  generalize g3.set g2.length (.arr 55 [Go.Sim.B (decide ((if decide (a<0)=true then -(Q:Int) else (Q:Int))<0)),uq])=g4 at y4 sB mG⊢
  rw [jm mG]
  simp only [aL]
  have y5:EX g2 (g4.set (g2.length+1) (.arr 55 [Go.Sim.B (decide ((R:Int)<0)),ur])):=y4.set (by omega) _
  have m1:=gF (o:=.arr 55 [Go.Sim.B (decide ((R:Int)<0)),ur]) mG
  have m0:(g4.set (g2.length+1) (.arr 55 [Go.Sim.B (decide ((R:Int)<0)),ur]))[g2.length]?=some (.arr 55 [Go.Sim.B (decide ((if decide (a<0)=true then -(Q:Int) else (Q:Int))<0)),uq]):=by rw [getElem?_set_ne (by omega)];exact sB
  generalize g4.set (g2.length+1) (.arr 55 [Go.Sim.B (decide ((R:Int)<0)),ur])=rU at y5 m0 m1⊢
  have nM:EX h4 rU:=ni.trans y5
  have xh5:EX h rU:=(x.ex.trans x4).trans nM
  have o4:=nM.get (x4.get x.out)
  have o5:=nM.get g5
  have zq:=z1.mono y5
  have zr:=z2.mono y5
  have zb:ZV rU (.agg #[Go.Sim.B (decide ((B:Int)<0)),w]) (B:Int):=⟨w,rfl,(hw.mono x.ex).mono (x4.trans nM)⟩
  have hQv:Q*B+R=a.natAbs:=by rw [dD,ex]
  -- j6 two results
  have put:∀(r s:Value) (g6:ae),EX rU g6->ZV g6 r (a / (B:Int))->ZV g6 s (a%(B:Int))->OH (aU 2 g6 (pt (h.length+2) 0) r) λ_ h_1=>OH (aU 2 h_1 (pt h3.length 0) s) λ_ h_2=>OP (af true 2 h_2 (pt (h.length+2) 0)) λr0=>OP (af true 2 h_2 (pt h3.length 0)) λr1=>K (.tuple #[r0,r1]) h_2:=by
   rintro r s g6 y6 Ey BG
   obtain ⟨u1,rfl,re⟩:=id Ey
   obtain ⟨u2,rfl,lV⟩:=id BG
   have n4:=y6.get o4
   have n5:=y6.get o5
   rw [jm n4]
   simp only [aL]
   have I3:(g6.set (h.length+2) (.arr 55 [Go.Sim.B (decide (a / (B:Int)<0)),u1]))[h3.length]?=some (.arr 55 [.bool false,.slice none 0 0]):=by rw [getElem?_set_ne (by omega)];exact n5
   rw [jm I3]
   simp only [aL]
   have p4:((g6.set (h.length+2) (.arr 55 [Go.Sim.B (decide (a / (B:Int)<0)),u1])).set h3.length (.arr 55 [Go.Sim.B (decide (a%(B:Int)<0)),u2]))[h.length+2]?=some (.arr 55 [Go.Sim.B (decide (a / (B:Int)<0)),u1]):=by
    rw [getElem?_set_ne (by omega)];exact gF n4
   rw [fu p4,ah,fu (gF I3),ah]
   exact hk _ _ _ (((xh5.trans y6).set (by omega) _).set (by omega) _) ((Ey.dK n4 _).dK I3 _) ((BG.dK n4 _).dK I3 _)
  have aAF:(0:Int)<(B:Int):=by omega
  have un:∀q r:Int,r+(B:Int)*q=a->0<=r->r<(B:Int)->a / (B:Int)=q/\a%(B:Int)=r:=λq r h1 h2 h3=>(Int.ediv_emod_unique aAF).2 ⟨h1,h2,h3⟩
  have PR:((Q*B:Nat):Int)=(B:Int)*(Q:Int):=by rw [natCast_mul,Int.mul_comm]
  -- nothing to be aM7
  have plain:(0<=a∨R=0)->DI prog K (pt (h.length+1) 0) (pt (h.length+2) 0) (pt h3.length 0) (pt g2.length 0) (pt (g2.length+1) 0) (Go.Sim.B false) undef rU/\DI prog K (pt (h.length+1) 0) (pt (h.length+2) 0) (pt h3.length 0) (pt g2.length 0) (pt (g2.length+1) 0) (Go.Sim.B true) (Go.Sim.B false) rU:=by
   intro hc
   have Db:a / (B:Int)=(if decide (a<0)=true then -(Q:Int) else (Q:Int))/\a%(B:Int)=(R:Int):=by
    by_cases km:a<0
    ·have hR0:R=0:=by omega
     rw [dh km,if_pos rfl]
     refine un _ _ ?_ (by omega) (by omega)
     rw [Int.mul_neg,<-PR]
     omega
    ·rw [bX km,if_neg (by simp)]
     refine un _ _ ?_ (by omega) (by omega)
     rw [<-PR]
     omega
   have tail:OP (af true 2 rU (pt g2.length 0)) λkH=>OP (af true 2 rU (pt (g2.length+1) 0)) λjq=>OH (aU 2 rU (pt (h.length+2) 0) kH) λ_ h_1=>(af true 2 h_1 (pt (g2.length+1) 0)=some jq)/\OH (aU 2 h_1 (pt h3.length 0) jq) λ_ h_2=>OP (af true 2 h_2 (pt (h.length+2) 0)) λr0=>OP (af true 2 h_2 (pt h3.length 0)) λr1=>K (.tuple #[r0,r1]) h_2:=by
    have:=put _ _ rU (EX.refl _) (by rw [Db.1];exact zq) (by rw [Db.2];exact zr)
    rw [fu m0,ah,fu m1,ah]
    rw [jm o4] at this⊢
    simp only [aL] at this⊢
    refine ⟨?_,this⟩
    refine fu (e:=55) ?_
    rw [getElem?_set_ne (by omega)]
    exact m1
   constructor
   ·rw [UC]
    simp only [dA,ah,dm,true_and,and_true]
    exact tail
   ·rw [UC]
    simp only [fy,ah,dm,true_and,and_true]
    exact tail
  have ldl:af false 1 rU (pt (g2.length+1) 1)=some ur:=by simp [af,bw,m1,dS]
  obtain ⟨l,p1,p2⟩:=(sj.mono y5).sC
  have p2':0<l↔0<R:=by simpa using p2
  simp only [oL nM,ah,aI9]
  by_cases km:a<0
  ·rw [dh km]
   simp only [gK,cj,Nat.add_comm 0 1,ldl,ah,p1,gY]
   by_cases hR0:R=0
   ·rw [bX (by omega)]
    exact (plain (.inr hR0)).2
   ·rw [dh (by omega),UC]
    have aMy:a.natAbs<dN:=qa (by omega)
    have aMx:Q<=a.natAbs:=by
     have:Q*1<=Q*B:=mul_le_mul_left _ hB0
     omega
    have Qr:(1:Int).natAbs<dN:=RD (by decide+kernel)
    simp only [fy,ah,gf,fu m0,true_and]
    refine ED (z:=1) (by decide) ?_
    intro r6 g6 y6 z6
    refine ⟨⟨EX.load y6 (fu m0),trivial⟩,?_⟩
    have Bf:∀{g'},EX h4 g'->af true 2 g' (pt (h.length+1) 0)=some (.agg #[Go.Sim.B (decide ((B:Int)<0)),w]):=λy=>EX.load (x4.trans y) x.b2
    refine VV (zq.mono y6) z6 (by rw [dh km,if_pos rfl];omega) Qr ?_
    intro r7 g7 y7 z7
    have xg7:=(nM.trans y6).trans y7
    simp only [Bf nM,Bf (nM.trans y6),Bf xg7,ah,fu m1,EX.load y6 (fu m1),EX.load (y6.trans y7) (fu m1),true_and,and_true]
    refine VV (zb.mono (y6.trans y7)) (zr.mono (y6.trans y7)) (by have:=qa (n:=B) (by omega);simpa using this) (by have:=qa (n:=R) (by omega);simpa using this) ?_
    intro r8 g8 y8 z8
    have Db:=un (-(Q:Int)-1) ((B:Int)-(R:Int)) (by
     rw [Int.mul_sub,Int.mul_neg,<-PR,Int.mul_one]
     omega) (by omega) (by omega)
    rw [dh km,if_pos rfl] at z7
    exact put _ _ g8 ((y6.trans y7).trans y8) (by rw [Db.1];exact z7.mono y8) (by rw [Db.2];exact z8)
  ·rw [bX km]
   simp only [jd]
   exact (plain (.inl (by omega))).1
end
section
theorem Kx {va:Value} {a:Int} {h:ae} {K:Value->ae->Prop} (ha:ZV h va a) (hk:∀u h',EX h h'->je h' u a.natAbs->K (.agg #[B false,u]) h'):ay prog 70 [va] h K:=by
 obtain ⟨v,rfl,hv⟩:=ha
 refine f70 ?_
 have e1:cR 55 h (.agg #[B (decide (a<0)),v])=some (pt h.length 0,h++[.arr 55 [B (decide (a<0)),v]]):=rfl
 have e2:∀g':ae,cF 55 [(.bool false),(.slice none 0 0)] g'=some (pt g'.length 0,g'++[.arr 55 [(.bool false),(.slice none 0 0)]]):=λ_=>rfl
 simp only [Nb,e1,e2,aL,length_append,length_cons,length_nil,zero_add]
 have k0:(h++[az.arr 55 [B (decide (a<0)),v]]++[az.arr 55 [(.bool false),(.slice none 0 0)]])[h.length]?=some (.arr 55 [B (decide (a<0)),v]):=by simp
 have k1:(h++[az.arr 55 [B (decide (a<0)),v]]++[az.arr 55 [(.bool false),(.slice none 0 0)]])[h.length+1]?=some (.arr 55 [(.bool false),(.slice none 0 0)]):=by simp
 have x1:EX h (h++[az.arr 55 [B (decide (a<0)),v]]++[az.arr 55 [(.bool false),(.slice none 0 0)]]):=(EX.append _ _).push _
 generalize h++[az.arr 55 [B (decide (a<0)),v]]++[az.arr 55 [(.bool false),(.slice none 0 0)]]=h1 at k0 k1 x1⊢
 simp only [cj,add_zero,ah]
 rw [kz k0 (by simp) rfl rfl]
 simp only [aL,set_cons_zero]
 have mG:(h1.set h.length (.arr 55 [B false,v]))[h.length+1]?=some (.arr 55 [(.bool false),(.slice none 0 0)]):=by rw [getElem?_set_ne (by omega)];exact k1
 rw [fu (gF k0)]
 simp only [ah]
 exact AE mG (hk _ _ ((x1.set (le_refl _) _).set (by omega) _) (((hv.mono x1).dK k0 _).dK mG _))
theorem C95 {va vb:Value} {a b:Int} {h:ae} {K:Value->ae->Prop} (ha:ZV h va a) (hb:ZV h vb b) (la:a.natAbs<10000^199) (lb:b.natAbs<10000^199)
  (hk:∀u h',EX h h'->je h' u (gcd a.natAbs b.natAbs)->K (.agg #[B false,u]) h'):ay prog 95 [va,vb] h K:=by
 have ov:=ha
 have qf:=hb
 obtain ⟨v,rfl,hv⟩:=ha
 obtain ⟨w,rfl,hw⟩:=hb
 refine f95 ?_
 have e1:∀(g:ae) (s:Bool) (v:Value),cR 55 g (.agg #[B s,v])=some (pt g.length 0,g++[.arr 55 [B s,v]]):=λ_ _ _=>rfl
 have e2:∀g':ae,cF 55 [(.bool false),(.slice none 0 0)] g'=some (pt g'.length 0,g'++[.arr 55 [(.bool false),(.slice none 0 0)]]):=λ_=>rfl
 simp only [Ny,e1,e2,aL,length_append,length_cons,length_nil,zero_add]
 have k0:(h++[az.arr 55 [B (decide (a<0)),v]]++[az.arr 55 [B (decide (b<0)),w]]++[az.arr 55 [(.bool false),(.slice none 0 0)]])[h.length]?=some (.arr 55 [B (decide (a<0)),v]):=by simp
 have k1:(h++[az.arr 55 [B (decide (a<0)),v]]++[az.arr 55 [B (decide (b<0)),w]]++[az.arr 55 [(.bool false),(.slice none 0 0)]])[h.length+1]?=some (.arr 55 [B (decide (b<0)),w]):=by simp
 have k2:(h++[az.arr 55 [B (decide (a<0)),v]]++[az.arr 55 [B (decide (b<0)),w]]++[az.arr 55 [(.bool false),(.slice none 0 0)]])[h.length+2]?=some (.arr 55 [(.bool false),(.slice none 0 0)]):=by simp
 have x1:EX h (h++[az.arr 55 [B (decide (a<0)),v]]++[az.arr 55 [B (decide (b<0)),w]]++[az.arr 55 [(.bool false),(.slice none 0 0)]]):=((EX.append _ _).push _).push _
 generalize h++[az.arr 55 [B (decide (a<0)),v]]++[az.arr 55 [B (decide (b<0)),w]]++[az.arr 55 [(.bool false),(.slice none 0 0)]]=h1 at k0 k1 k2 x1⊢
 rw [fu k0]
 simp only [ah,true_and]
 refine Kx (ov.mono x1) ?_
 intro u2 h2 x2 m2
 simp only [fu k1,EX.load x2 (fu k1),ah,true_and]
 refine Kx (qf.mono (x1.trans x2)) ?_
 intro u3 h3 x3 m3
 have sB:=(x2.trans x3).get k0
 have mG:=(x2.trans x3).get k1
 have Bb:=(x2.trans x3).get k2
 have aC:=(x1.trans x2).trans x3
 have m2:=m2.mono x3
 rw [jm sB]
 simp only [aL]
 have q1:(h3.set h.length (.arr 55 [B false,u2]))[h.length+1]?=some (.arr 55 [B (decide (b<0)),w]):=by rw [getElem?_set_ne (by omega)];exact mG
 rw [jm q1]
 simp only [aL]
 refine cN (σ:=Nat×Nat×Value×Value×ae) (λ_=>[]) (λp=>p.2.2.2.2)
  (λp=>EX h p.2.2.2.2/\p.2.2.2.2[h.length]?=some (.arr 55 [B false,p.2.2.1])/\p.2.2.2.2[h.length+1]?=some (.arr 55 [B false,p.2.2.2.1])/\p.2.2.2.2[h.length+2]?=some (.arr 55 [.bool false,.slice none 0 0])/\je p.2.2.2.2 p.2.2.1 p.1/\je p.2.2.2.2 p.2.2.2.1 p.2.1/\p.1<10000^199/\p.2.1<10000^199/\gcd p.1 p.2.1=gcd a.natAbs b.natAbs) (λp=>p.2.1)
  (a.natAbs,b.natAbs,u2,u3,(h3.set h.length (.arr 55 [B false,u2])).set (h.length+1) (.arr 55 [B false,u3])) rfl rfl
  ⟨(aC.set (le_refl _) _).set (by omega) _,by rw [getElem?_set_ne (by omega)];exact gF sB,gF q1,by rw [getElem?_set_ne (by omega),getElem?_set_ne (by omega)];exact Bb,(m2.dK sB _).dK q1 _,(m3.dK sB _).dK q1 _,la,lb,rfl⟩ ?_
 rintro ⟨x,y,ux,uy,g⟩ ⟨xg,j0,j1,j2,mx,my,lx,ly,hg⟩ L hL
 simp only at xg j0 j1 j2 mx my lx ly hg hL⊢
 rw [aI4]
 obtain ⟨l,p1,p2⟩:=my.sC
 have ld:af false 1 g (pt (h.length+1) 1)=some uy:=by simp [af,bw,j1,dS]
 simp only [cj,zero_add,ld,ah,p1,gY,ca]
 refine ⟨λwK=>?_,λhle=>?_⟩
 ·have hy:0<y:=p2.1 (by omega)
  rw [fu j0,ah,fu j1,ah]
  refine KB mx.D5 my.D5 (by omega) (by simpa using lx) (by simpa using ly) ?_
  intro r s g1 y1 zr zs
  obtain ⟨u5,rfl,hu5⟩:=id zr
  obtain ⟨u6,hs6,hu6⟩:=id zs
  have iO:decide ((x:Int)%(y:Int)<0)=false:=bX (by have:=Int.emod_nonneg (x:Int) (show (y:Int)≠0 by omega);omega)
  rw [iO] at hs6
  subst hs6
  have hmv:((x:Int)%(y:Int)).natAbs=x%y:=by
   rw [<-Int.natCast_emod,natAbs_natCast]
  rw [hmv] at hu6
  have gl:h.length+2<g1.length:=by
   have:=(cm j2).1
   have:=y1.1
   omega
  simp only [fM,gi,gj,ah,e2,aL,length_append,length_cons,length_nil,zero_add]
  have n0:(g1++[az.arr 55 [(.bool false),(.slice none 0 0)]]++[az.arr 55 [(.bool false),(.slice none 0 0)]])[g1.length]?=some (.arr 55 [(.bool false),(.slice none 0 0)]):=by simp
  have n1:(g1++[az.arr 55 [(.bool false),(.slice none 0 0)]]++[az.arr 55 [(.bool false),(.slice none 0 0)]])[g1.length+1]?=some (.arr 55 [(.bool false),(.slice none 0 0)]):=by simp
  have y2:EX g1 (g1++[az.arr 55 [(.bool false),(.slice none 0 0)]]++[az.arr 55 [(.bool false),(.slice none 0 0)]]):=(EX.append _ _).push _
  generalize g1++[az.arr 55 [(.bool false),(.slice none 0 0)]]++[az.arr 55 [(.bool false),(.slice none 0 0)]]=g2 at n0 n1 y2⊢
  rw [jm n0]
  simp only [aL]
  have I2:(g2.set g1.length (.arr 55 [B (decide ((x:Int) / (y:Int)<0)),u5]))[g1.length+1]?=some (.arr 55 [(.bool false),(.slice none 0 0)]):=by rw [getElem?_set_ne (by omega)];exact n1
  rw [jm I2]
  simp only [aL]
  have y3:EX g1 ((g2.set g1.length (.arr 55 [B (decide ((x:Int) / (y:Int)<0)),u5])).set (g1.length+1) (.arr 55 [B false,u6])):=(y2.set (le_refl _) _).set (by omega) _
  have n6:=gF (o:=.arr 55 [B false,u6]) I2
  generalize (g2.set g1.length (.arr 55 [B (decide ((x:Int) / (y:Int)<0)),u5])).set (g1.length+1) (.arr 55 [B false,u6])=g3 at y3 n6⊢
  have i0:=(y1.trans y3).get j0
  have i1:=(y1.trans y3).get j1
  have i2:=(y1.trans y3).get j2
  rw [fu i1]
  simp only [ah,true_and,fu n6]
  rw [jm i0]
  simp only [aL,and_true]
  have s6:(g3.set h.length (.arr 55 [B false,uy]))[g1.length+1]?=some (.arr 55 [B false,u6]):=by rw [getElem?_set_ne (by omega)];exact n6
  have s1:(g3.set h.length (.arr 55 [B false,uy]))[h.length+1]?=some (.arr 55 [B false,uy]):=by rw [getElem?_set_ne (by omega)];exact i1
  refine ⟨fu s6,?_⟩
  rw [jm s1]
  simp only [aL]
  have aw:x%y<y:=mod_lt _ hy
  refine hL (y,x%y,uy,u6,(g3.set h.length (.arr 55 [B false,uy])).set (h.length+1) (.arr 55 [B false,u6])) ⟨(((xg.trans y1).trans y3).set (le_refl _) _).set (by omega) _,?_,gF s1,?_,(((my.mono y1).mono y3).dK i0 _).dK s1 _,(((hu6.mono y3)).dK i0 _).dK s1 _,ly,by show x%y<_;omega,?_⟩ aw
  ·show ((g3.set h.length _).set (h.length+1) _)[h.length]?=_
   rw [getElem?_set_ne (by omega)];exact gF i0
  ·show ((g3.set h.length _).set (h.length+1) _)[h.length+2]?=_
   rw [getElem?_set_ne (by omega),getElem?_set_ne (by omega)];exact i2
  ·show gcd y (x%y)=_
   rw [<-hg,Nat.gcd_comm x y,Nat.gcd_rec y x,Nat.gcd_comm]
 ·have hy:y=0:=by
   apply byContradiction
   intro hc
   have:=p2.2 (by omega)
   omega
  subst hy
  rw [aI3,fu j0]
  simp only [ah]
  rw [Nat.gcd_zero_right] at hg
  subst hg
  exact AE j2 (hk _ _ (xg.set (by omega) _) (mx.dK j2 _))
theorem C68 {va:Value} {a b:Int} {h:ae} {K:Value->ae->Prop} (ha:QZ h va a b) (hb:0<b) (la:a.natAbs<10000^199) (lb:b.natAbs<10000^199)
  (hk:∀r h',EX h h'->QZ h' r (a / (gcd a.natAbs b.natAbs:Int)) (b / (gcd a.natAbs b.natAbs:Int))->K r h'):ay prog 68 [va] h K:=by
 obtain ⟨u,w,rfl,hu,hw⟩:=ha
 refine f68 ?_
 have e1:cR 57 h (.agg #[B (decide (a<0)),u,B (decide (b<0)),w])=some (pt h.length 0,h++[.arr 57 [B (decide (a<0)),u,B (decide (b<0)),w]]):=rfl
 have e2:∀g':ae,cF 55 [(.bool false),(.slice none 0 0)] g'=some (pt g'.length 0,g'++[.arr 55 [(.bool false),(.slice none 0 0)]]):=λ_=>rfl
 have e4:∀g':ae,cF 57 [(.bool false),(.slice none 0 0),(.bool false),(.slice none 0 0)] g'=some (pt g'.length 0,g'++[.arr 57 z4]):=λ_=>rfl
 simp only [M9,e1,e4,aL,length_append,length_cons,length_nil,zero_add]
 have k0:(h++[az.arr 57 [B (decide (a<0)),u,B (decide (b<0)),w]]++[az.arr 57 z4])[h.length]?=some (.arr 57 [B (decide (a<0)),u,B (decide (b<0)),w]):=by simp
 have k1:(h++[az.arr 57 [B (decide (a<0)),u,B (decide (b<0)),w]]++[az.arr 57 z4])[h.length+1]?=some (.arr 57 z4):=by simp
 have x1:EX h (h++[az.arr 57 [B (decide (a<0)),u,B (decide (b<0)),w]]++[az.arr 57 z4]):=(EX.append _ _).push _
 generalize h++[az.arr 57 [B (decide (a<0)),u,B (decide (b<0)),w]]++[az.arr 57 z4]=h1 at k0 k1 x1⊢
 have za:ZV h1 (.agg #[B (decide (a<0)),u]) a:=⟨u,rfl,hu.mono x1⟩
 have zb:ZV h1 (.agg #[B (decide (b<0)),w]) b:=⟨w,rfl,hw.mono x1⟩
 simp only [cj,add_zero,zero_add,mV k0,nZ k0,ah]
 refine C95 za zb la lb ?_
 intro ug h2 x2 mg
 have aAZ:0<gcd a.natAbs b.natAbs:=Nat.gcd_pos_of_pos_right _ (by omega)
 have aAY:gcd a.natAbs b.natAbs<=b.natAbs:=Nat.le_of_dvd (by omega) (Nat.gcd_dvd_right _ _)
 generalize gcd a.natAbs b.natAbs=g at mg aAZ aAY hk
 have zg:=mg.D5
 simp only [e2,aL]
 rw [jm bK]
 simp only [aL]
 have x3:EX h2 ((h2++[az.arr 55 [(.bool false),(.slice none 0 0)]]).set h2.length (.arr 55 [B false,ug])):=EX.set (EX.append _ _) (le_refl _) _
 have k3:((h2++[az.arr 55 [(.bool false),(.slice none 0 0)]]).set h2.length (.arr 55 [B false,ug]))[h2.length]?=some (.arr 55 [B false,ug]):=gF bK
 generalize (h2++[az.arr 55 [(.bool false),(.slice none 0 0)]]).set h2.length (.arr 55 [B false,ug])=h3 at x3 k3⊢
 have aC:=x2.trans x3
 simp only [EX.load aC (mV k0),fu k3,ah]
 have lg:((g:Nat):Int).natAbs<10000^199:=by rw [natAbs_natCast];omega
 refine KB (za.mono aC) (zg.mono x3) (by omega) la lg ?_
 intro r s h4 x4 zr zs
 obtain ⟨ur,rfl,hur⟩:=id zr
 obtain ⟨us,rfl,hus⟩:=id zs
 simp only [fM,gi,gj,ah,length_append,length_cons,length_nil,zero_add]
 have n0:(h4++[az.arr 55 [(.bool false),(.slice none 0 0)]]++[az.arr 55 [(.bool false),(.slice none 0 0)]])[h4.length]?=some (.arr 55 [(.bool false),(.slice none 0 0)]):=by simp
 have n1:(h4++[az.arr 55 [(.bool false),(.slice none 0 0)]]++[az.arr 55 [(.bool false),(.slice none 0 0)]])[h4.length+1]?=some (.arr 55 [(.bool false),(.slice none 0 0)]):=by simp
 have y2:EX h4 (h4++[az.arr 55 [(.bool false),(.slice none 0 0)]]++[az.arr 55 [(.bool false),(.slice none 0 0)]]):=(EX.append _ _).push _
 generalize h4++[az.arr 55 [(.bool false),(.slice none 0 0)]]++[az.arr 55 [(.bool false),(.slice none 0 0)]]=h5 at n0 n1 y2⊢
 rw [jm n0]
 simp only [aL]
 have I2:(h5.set h4.length (.arr 55 [B (decide (a / (g:Int)<0)),ur]))[h4.length+1]?=some (.arr 55 [(.bool false),(.slice none 0 0)]):=by rw [getElem?_set_ne (by omega)];exact n1
 rw [jm I2]
 simp only [aL]
 have y3:EX h4 ((h5.set h4.length (.arr 55 [B (decide (a / (g:Int)<0)),ur])).set (h4.length+1) (.arr 55 [B (decide (a%(g:Int)<0)),us])):=(y2.set (le_refl _) _).set (by omega) _
 have n0':((h5.set h4.length (.arr 55 [B (decide (a / (g:Int)<0)),ur])).set (h4.length+1) (.arr 55 [B (decide (a%(g:Int)<0)),us]))[h4.length]?=some (.arr 55 [B (decide (a / (g:Int)<0)),ur]):=by rw [getElem?_set_ne (by omega)];exact gF n0
 generalize (h5.set h4.length (.arr 55 [B (decide (a / (g:Int)<0)),ur])).set (h4.length+1) (.arr 55 [B (decide (a%(g:Int)<0)),us])=h6 at y3 n0'⊢
 have aZ:=(aC.trans x4).trans y3
 have aY:=x4.trans y3
 simp only [EX.load aZ (nZ k0),EX.load aY (fu k3),ah]
 refine KB (zb.mono aZ) (zg.mono (x3.trans aY)) (by omega) lb lg ?_
 intro r' s' h7 x7 Ey BG
 obtain ⟨D8,rfl,aMM⟩:=id Ey
 obtain ⟨U8,rfl,aMN⟩:=id BG
 simp only [fM,gi,gj,ah]
 have m0:(h7++[az.arr 55 [(.bool false),(.slice none 0 0)]]++[az.arr 55 [(.bool false),(.slice none 0 0)]])[h7.length]?=some (.arr 55 [(.bool false),(.slice none 0 0)]):=by simp
 have m1:(h7++[az.arr 55 [(.bool false),(.slice none 0 0)]]++[az.arr 55 [(.bool false),(.slice none 0 0)]])[h7.length+1]?=some (.arr 55 [(.bool false),(.slice none 0 0)]):=by simp
 have w2:EX h7 (h7++[az.arr 55 [(.bool false),(.slice none 0 0)]]++[az.arr 55 [(.bool false),(.slice none 0 0)]]):=(EX.append _ _).push _
 generalize h7++[az.arr 55 [(.bool false),(.slice none 0 0)]]++[az.arr 55 [(.bool false),(.slice none 0 0)]]=h8 at m0 m1 w2⊢
 rw [jm m0]
 simp only [aL]
 have m1':(h8.set h7.length (.arr 55 [B (decide (b / (g:Int)<0)),D8]))[h7.length+1]?=some (.arr 55 [(.bool false),(.slice none 0 0)]):=by rw [getElem?_set_ne (by omega)];exact m1
 rw [jm m1']
 simp only [aL]
 have w3:EX h7 ((h8.set h7.length (.arr 55 [B (decide (b / (g:Int)<0)),D8])).set (h7.length+1) (.arr 55 [B (decide (b%(g:Int)<0)),U8])):=(w2.set (le_refl _) _).set (by omega) _
 have m0':((h8.set h7.length (.arr 55 [B (decide (b / (g:Int)<0)),D8])).set (h7.length+1) (.arr 55 [B (decide (b%(g:Int)<0)),U8]))[h7.length]?=some (.arr 55 [B (decide (b / (g:Int)<0)),D8]):=by rw [getElem?_set_ne (by omega)];exact gF m0
 generalize (h8.set h7.length (.arr 55 [B (decide (b / (g:Int)<0)),D8])).set (h7.length+1) (.arr 55 [B (decide (b%(g:Int)<0)),U8])=h9 at w3 m0'⊢
 have dY:=x7.trans w3
 rw [EX.load dY (fu n0'),ah,fu m0',ah]
 exact adI (zr.mono (y3.trans dY)) (Ey.mono w3) (x1.trans (aZ.trans dY)) (by omega) ((aZ.trans dY).get k1) hk
theorem azt {s:List UInt8} {n:Nat} (hd:Co s) (hv:mb s=n) (hn:0<n) (hh:s.head?≠some 48):s=jO n:=by
 have e1:((s.reverse.map λc:UInt8=>c.toNat-48).map jN).reverse=s:=by
  rw [List.map_map]
  have:s.reverse.map (jN ∘ λc:UInt8=>c.toNat-48)=s.reverse:=by
   conv=>rhs;rw [<-List.map_id s.reverse]
   apply List.map_congr_left
   intro c hc
   have h1:=hd c (by simpa using hc)
   apply UInt8.toNat_inj.1
   simp only [Function.comp,id]
   rw [uJ (by omega)]
   omega
  rw [this,List.reverse_reverse]
 have gD:dF 10 (s.reverse.map λc:UInt8=>c.toNat-48):=by
  intro x hx
  obtain ⟨c,hc,rfl⟩:=List.mem_map.1 hx
  have h1:=hd c (by simpa using hc)
  omega
 have dD:val 10 (s.reverse.map λc:UInt8=>c.toNat-48)=n:=by
  rw [<-Vb gD,e1,hv]
 have yw:eL 10 (s.reverse.map λc:UInt8=>c.toNat-48):=by
  refine ⟨gD,?_⟩
  rw [List.getLast?_map,List.getLast?_reverse]
  intro hc
  cases hs:s.head? with
  | none=>rw [hs] at hc;cases hc
  | some c=>
   rw [hs] at hc
   have PW:c.toNat-48=0:=by simpa using hc
   have kl:c∈s:=List.mem_of_mem_head? hs
   have h1:=hd c kl
   apply hh
   rw [hs]
   congr 1
   apply UInt8.toNat_inj.1
   show c.toNat=48
   omega
 obtain ⟨d1,d2⟩:=Hu n
 have:=eL.unique (by decide) yw d1 (by rw [dD,d2])
 unfold jO
 rw [if_neg (by omega),<-this,e1]
end
section
/-- Four digits. -/
def four (d:Nat):List UInt8:=[jN (d / 1000),jN (d / 100%10),jN (d / 10%10),jN (d%10)]
theorem aAo {d:Nat} (hd:d<10000):Co (four d)/\mb (four d)=d:=by
 have h1:=uJ (d:=d / 1000) (by omega)
 have h2:=uJ (d:=d / 100%10) (by omega)
 have h3:=uJ (d:=d / 10%10) (by omega)
 have h4:=uJ (d:=d%10) (by omega)
 constructor
 ·intro c hc
  simp only [four,List.mem_cons,List.not_mem_nil,or_false] at hc
  rcases hc with rfl | rfl | rfl | rfl <;> omega
 ·simp only [four,anY,h1,h2,h3,h4,length_cons,length_nil]
  simp only [mb,List.foldl_nil]
  omega
theorem Wi {va:Value} {n:Nat} {h:ae} {K:Value->ae->Prop} (ha:ZV h va n) (hn:n<dN) (hk:∀h',EX h h'->K (S (jO n)) h'):ay prog 69 [va] h K:=by
 obtain ⟨v,rfl,hv⟩:=ha
 rw [natAbs_natCast] at hv
 refine f69 ?_
 have e1:cR 55 h (.agg #[B (decide ((n:Int)<0)),v])=some (pt h.length 0,h++[.arr 55 [B (decide ((n:Int)<0)),v]]):=rfl
 simp only [Na,e1,aL]
 have x1:EX h (h++[az.arr 55 [B (decide ((n:Int)<0)),v]]):=EX.append _ _
 have ld:af false 1 (h++[az.arr 55 [B (decide ((n:Int)<0)),v]]) (pt h.length 1)=some v:=sD rfl
 generalize h++[az.arr 55 [B (decide ((n:Int)<0)),v]]=h1 at x1 ld⊢
 obtain ⟨xs,dx,cx,vx⟩:=hv.mono x1
 have lx:=qP cx (by rw [vx];exact hn)
 simp only [cj,zero_add,ld,ah,dx.len,jB,ca]
 refine ⟨λh0=>?_,λbY=>?_⟩
 ·have:xs=[]:=List.length_eq_zero_iff.1 (by omega)
  subst this
  have oB:n=0:=vx.symm
  subst oB
  exact hk _ x1
 ·have yS:0<xs.length:=by omega
  have aBe:0<n:=by
   apply byContradiction
   intro hc
   have:=eL.zero (by decide) cx (by omega)
   rw [this] at yS
   simp at yS
  have e2:IntKind.wrap .i64 ((xs.length:Int)-1)=(xs.length:Int)-1:=wrap64 (by omega) (by omega)
  simp only [iD,e2,ah]
  refine cN (σ:=Nat×List UInt8×ae) (λp=>[S p.2.1,I ((p.1:Int)-1)]) (λp=>p.2.2)
   (λp=>p.1<=xs.length/\EX h1 p.2.2/\Co p.2.1/\mb p.2.1=val 10000 (xs.drop p.1)/\p.2.1.length=4*(xs.length-p.1)) (λp=>p.1)
   (xs.length,[],h1) rfl rfl ⟨le_refl _,EX.refl _,λc hc=>by simp at hc,by simp [mb,val],by simp⟩ ?_
  rintro ⟨i,s,g⟩ ⟨hi,xg,hd,A3,C0⟩ L hL
  simp only at hi xg hd A3 C0 hL⊢
  rw [aIg]
  simp only [om,ah,ca]
  refine ⟨λcJ=>?_,λaw=>?_⟩
  ·obtain ⟨j,rfl⟩:∃j,i=j+1:=⟨i-1,by omega⟩
   have ej:((j+1:Nat):Int)-1=(j:Int):=by omega
   have wN:j<xs.length:=by omega
   obtain ⟨ia,a1,a2⟩:=(dx.mono xg).get wN
   have hd4:xs[j]<10000:=cx.1 _ (getElem_mem wN)
   have Iw:=an0 10000 xs wN
   rw [ej]
   generalize wH:xs[j]=d at a2 hd4 Iw
   simp only [cj,zero_add,EX.load xg ld,ah,a1,a2]
   rw [show (.int .i64 1000:Value)=.int .i64 ((1000:Nat):Int) from rfl,show (.int .i64 100:Value)=.int .i64 ((100:Nat):Int) from rfl,show (.int .i64 10:Value)=.int .i64 ((10:Nat):Int) from rfl]
   rw [Bt (by decide) (by omega),Bt (b:=100) (by decide) (by omega),Bt (b:=10) (by decide) (by omega)]
   simp only [ah]
   rw [zB _ _ _ (by decide),zB _ _ _ (by decide),zB _ _ _ (by decide)]
   have w:∀q:Nat,q<10->IntKind.wrap .i64 (48+(q:Int))=((48+q:Nat):Int):=λq hq=>by rw [wrap64 (by omega) (by omega)];omega
   have w8:∀q:Nat,q<10->IntKind.wrap .u8 ((48+q:Nat):Int)=((48+q:Nat):Int):=λq hq=>an2 (by omega) (by omega)
   simp only [ah,b7,nU,w _ (show d / 1000<10 by omega),w8 _ (show d / 1000<10 by omega),w _ (show d / 100%10<10 by omega),w8 _ (show d / 100%10<10 by omega),w _ (show d / 10%10<10 by omega),w8 _ (show d / 10%10<10 by omega),w _ (show d%10<10 by omega),w8 _ (show d%10<10 by omega)]
   rw [Ck (show d / 1000<10 by omega),Ck (show d / 100%10<10 by omega),Ck (show d / 10%10<10 by omega),Ck (show d%10<10 by omega)]
   have mk:cH 5 4 [.int .u8 0] g [(0,1,cv (jN (d / 1000))),(1,1,cv (jN (d / 100%10))),(2,1,cv (jN (d / 10%10))),(3,1,cv (jN (d%10)))]=some (sl 5 g.length 0 4,g++[.arr 5 ((four d).map cv)]):=rfl
   have yg:EX g (g++[az.arr 5 ((four d).map cv)]):=EX.append _ _
   have bs:ry (g++[az.arr 5 ((four d).map cv)]) (sl 5 g.length 0 4)=some (S (four d)):=xR (b:=g.length) (e:=5) (.inr ⟨g.length,le_refl _,rfl,bK⟩)
   obtain ⟨f1,f2⟩:=aAo hd4
   have f3:(four d).length=4:=rfl
   simp only [mk,aL,bs,ah]
   rw [NM s (four d) (by rw [f3];unfold maxLen;omega)]
   have Po:IntKind.wrap .i64 ((j:Int)-1)=(j:Int)-1:=wrap64 (by omega) (by omega)
   simp only [ah,iD,Po,true_and]
   refine hL (j,s++four d,g++[az.arr 5 ((four d).map cv)]) ⟨by show j<=xs.length;omega,xg.trans yg,λc hc=>(List.mem_append.1 hc).elim (hd c) (f1 c),?_,by show (s++four d).length=_;rw [length_append,f3];omega⟩ (by show j<j+1;omega)
   show mb (s++four d)=val 10000 (xs.drop j)
   rw [U9,f2,f3,Iw,A3]
   omega
  ·have wL:i=0:=by omega
   subst wL
   simp only [drop_zero,vx] at A3
   rw [aId]
   refine cN (σ:=List UInt8) (λs=>[S s]) (λ_=>g) (λs=>Co s/\mb s=n/\s.length<=1000) (λs=>s.length) s rfl rfl ⟨hd,A3,by omega⟩ ?_
   rintro t ⟨td,tv,tl⟩ L2 dO
   rw [aIe]
   cases t with
   | nil=>simp [mb] at tv;omega
   | cons c t=>
    have ix:=aBT (a:=c::t) (i:=0) (by simp) .i64
    have ix':tQ (S (c::t)) (.int .i64 0)=some (cv c):=ix
    have eq:aj .eql (cv c) (.int .u8 48)=some (B (decide ((c.toNat:Int)=48))):=rfl
    simp only [ix',ah,eq,ca]
    refine ⟨λwD=>?_,λwD=>?_⟩
    ·have UZ:=aKr (a:=c::t) (n:=1) (by simp) .i64
     have aKs:yX (S (c::t)) (some (.int .i64 1)) none=some (S t):=UZ
     simp only [aKs,ah,true_and]
     refine dO t ⟨λx hx=>td x (by simp [hx]),?_,by simp at tl;omega⟩ (by simp)
     rw [anY] at tv
     have:c.toNat-48=0:=by omega
     rw [this] at tv
     omega
    ·rw [aIf]
     have:=azt td tv aBe (by
      simp only [List.head?_cons,ne_eq,Option.some.injEq]
      rintro rfl
      exact wD rfl)
     rw [this]
     exact hk _ (x1.trans xg)
theorem C40 {va:Value} {a:Int} {h:ae} {K:Value->ae->Prop} (ha:QZ h va a 1) (la:a.natAbs<10000^199) (hk:∀h',EX h h'->K (.tuple #[S (kr a),B true]) h'):ay prog 40 [va] h K:=by
 have ov:=ha
 obtain ⟨u,w,rfl,hu,hw⟩:=ha
 refine f40 ?_
 have e1:cR 57 h (.agg #[B (decide (a<0)),u,B (decide ((1:Int)<0)),w])=some (pt h.length 0,h++[.arr 57 [B (decide (a<0)),u,B (decide ((1:Int)<0)),w]]):=rfl
 simp only [MG,e1,aL]
 have x1:EX h (h++[az.arr 57 [B (decide (a<0)),u,B (decide ((1:Int)<0)),w]]):=EX.append _ _
 have k1:(h++[az.arr 57 [B (decide (a<0)),u,B (decide ((1:Int)<0)),w]])[h.length]?=some (.arr 57 [B (decide (a<0)),u,B (decide ((1:Int)<0)),w]):=bK
 generalize h++[az.arr 57 [B (decide (a<0)),u,B (decide ((1:Int)<0)),w]]=h1 at x1 k1⊢
 rw [ko k1]
 simp only [ah]
 refine C68 (ov.mono x1) (by decide) la (by decide+kernel) ?_
 intro r h2 x2 q2
 have e2:gcd a.natAbs (1:Int).natAbs=1:=Nat.gcd_one_right _
 rw [e2] at q2
 have e3:a / ((1:Nat):Int)=a:=Int.ediv_one a
 have e4:(1:Int) / ((1:Nat):Int)=1:=rfl
 rw [e3,e4] at q2
 have q2':=q2
 obtain ⟨u',w',rfl,hu',rh⟩:=q2
 have k2:=x2.get k1
 rw [J8 k2]
 simp only [aL]
 have x3:EX h (h2.set h.length (.arr 57 [B (decide (a<0)),u',B (decide ((1:Int)<0)),w'])):=(x1.trans x2).set (le_refl _) _
 have k3:=gF (o:=.arr 57 [B (decide (a<0)),u',B (decide ((1:Int)<0)),w']) k2
 have A1:=hu'.dK k2 (.arr 57 [B (decide (a<0)),u',B (decide ((1:Int)<0)),w'])
 have ru:=rh.dK k2 (.arr 57 [B (decide (a<0)),u',B (decide ((1:Int)<0)),w'])
 generalize h2.set h.length (.arr 57 [B (decide (a<0)),u',B (decide ((1:Int)<0)),w'])=h3 at x3 k3 A1 ru⊢
 have hb:=qa (n:=a.natAbs) (by
  have:(10000:Nat)^199<10000^201:=by decide+kernel
  omega)
 simp only [cj,add_zero,zero_add,mV k3,ah,true_and]
 refine Kx (⟨u',rfl,A1⟩:ZV h3 _ a) ?_
 intro ua h4 x4 m4
 refine Wi m4.D5 hb ?_
 intro h5 x5
 have oL:∀{g},EX h3 g->af false 1 g (pt h.length 0)=some (B (decide (a<0))):=λy=>EX.load y (by simp [af,bw,k3,dS])
 simp only [nZ k3,EX.load x4 (nZ k3),EX.load (x4.trans x5) (nZ k3),ah,true_and]
 have hw5:je h5 w' 1:=(ru.mono x4).mono x5
 refine Wi (n:=1) (⟨w',rfl,hw5⟩:ZV h5 _ ((1:Nat):Int)) (RD (by decide+kernel)) ?_
 intro h6 x6
 obtain ⟨d1,d2,d3,d4,d5⟩:=ady hb
 have one:jO 1=[49]:=by decide+kernel
 have xx:=(x4.trans x5).trans x6
 simp only [af3,ah,gY,bX (show ¬((jO a.natAbs).length:Int)>4000 by omega),aHc,fc,one,List.length_singleton]
 rw [bX (show ¬(4000:Int)<((1:Nat):Int) by decide)]
 simp only [aHd,dA,ah,dm,cj,add_zero,oL xx]
 have fin:Jr prog K (S (kr a)) (S [49]) h6:=by
  rw [aHa]
  have:aj .neq (S [49]) (.string ⟨#[49]⟩)=some (B false):=by
   show aj .neq (S [49]) (S [49])=_
   rw [Yj];simp
  simp only [this,ah,dm,aHb]
  exact hk _ (x3.trans xx)
 by_cases km:a<0
 ·have hs:kr a=45::jO a.natAbs:=by unfold kr;rw [if_pos km]
  have ad:aj .add (.string ⟨#[45]⟩) (S (jO a.natAbs))=some (S (kr a)):=by
   rw [hs]
   exact NM (a:=[45]) (b:=jO a.natAbs) (by simp [maxLen];omega)
  rw [dh km]
  simp only [gf,ad,ah]
  exact fin
 ·have hs:kr a=jO a.natAbs:=by unfold kr;rw [if_neg km]
  rw [bX km,<-hs]
  simp only [dm]
  exact fin
theorem C17 {va:Value} {a:Int} {s:List UInt8} {h:ae} {K:Value->ae->Prop} (ha:QZ h va a 1) (la:a.natAbs<10000^199) (hk:∀h',EX h h'->K (B (decide (s=kr a))) h'):ay prog 17 [S s,va] h K:=by
 have ov:=ha
 obtain ⟨u,w,rfl,hu,hw⟩:=ha
 refine f17 ?_
 have e1:cR 57 h (.agg #[B (decide (a<0)),u,B (decide ((1:Int)<0)),w])=some (pt h.length 0,h++[.arr 57 [B (decide (a<0)),u,B (decide ((1:Int)<0)),w]]):=rfl
 simp only [Mj,e1,aL]
 have x1:EX h (h++[az.arr 57 [B (decide (a<0)),u,B (decide ((1:Int)<0)),w]]):=EX.append _ _
 rw [ko bK]
 simp only [ah]
 refine C40 (ov.mono x1) la ?_
 intro h2 x2
 simp only [fM,gi,gj,ah,aEQ,gK,auv,aER,fy]
 exact hk _ (x1.trans x2)
end
section
theorem an1 {b:Nat} (h:b<4294967296):b<dN:=RD (lt_of_lt_of_le h (by decide))
theorem JX {a b:Nat}:oS a b<0↔a<b:=by
 unfold oS
 constructor
 ·intro h
  apply byContradiction
  intro hn
  rw [if_neg hn] at h
  split at h <;> omega
 ·intro h;rw [if_pos h];decide
theorem aot {va vb:Value} {a b:Nat} {h:ae} {K:Value->ae->Prop} (ha:fm h va a) (hb:fm h vb b) (la:a<dN) (b0:0<b) (lb:b<4294967296) (hk:∀q r h',EX h h'->fm h' q (a / b)->fm h' r (a%b)->K (.tuple #[q,r]) h'):
  ay prog 124 [va,vb] h K:=by
 refine f124 ?_
 unfold Fy
 refine Kz ha hb la (an1 lb) ?_
 simp only [bW,ah,ca]
 refine ⟨λaw=>?_,λcJ=>?_⟩
 ·have gQ:=JX.1 aw
  have ov:=ha
  obtain ⟨xs,d,c,rfl⟩:=ha
  obtain ⟨s1,s2⟩:=d.cells
  have lx:=qc c la
  have hq:∀g,fm g (.slice none 0 0) (val 4294967296 xs / b):=λg=>⟨[],DS.nil _ _ _,⟨λx hx=>by simp at hx,by simp⟩,by rw [Nat.div_eq_of_lt gQ];rfl⟩
  by_cases h0:xs.length=0
  ·have e:cT 152 1 4 h (.slice none 0 0) va=some (.slice none 0 0,h):=by
    simp only [cT,s1,s2]
    rw [if_pos h0]
   simp only [e,aL]
   have:xs=[]:=List.length_eq_zero_iff.1 h0
   subst this
   exact hk _ _ h (EX.refl h) (hq h) ⟨[],DS.nil _ _ _,c,by rw [mod_eq_of_lt gQ]⟩
  ·have e:cT 152 1 4 h (.slice none 0 0) va=some (sl 152 h.length 0 xs.length,h++[.arr 152 (xs.map λd:Nat=>Value.int .u32 (d:Int))]):=by
    simp only [cT,s1,s2]
    rw [if_neg h0,if_pos ⟨by omega,by unfold maxLen;omega⟩]
   simp only [e,aL]
   refine hk _ _ _ (EX.append _ _) (hq _) ⟨xs,.inr ⟨h.length,rfl,.inr ⟨[],?_⟩⟩,c,by rw [mod_eq_of_lt gQ]⟩
   simp [bw]
 ·have gQ:b<=a:=by
   apply byContradiction
   intro hc
   exact cJ (JX.2 (by omega))
  obtain ⟨ys,d,c,hy⟩:=id hb
  have hlen:ys.length=1:=by
   have h1:ys.length<=1:=c.len (k:=1) (by decide) (by rw [hy];simpa using lb)
   have h2:ys≠[]:=by rintro rfl;simp [val] at hy;omega
   have:0<ys.length:=List.length_pos_iff.2 h2
   omega
  obtain ⟨y,rfl⟩:∃y,ys=[y]:=by
   match ys,hlen with
   | [y],_=>exact ⟨y,rfl⟩
  have qq:y=b:=by simpa [val] using hy
  subst qq
  obtain ⟨i,g1,g2⟩:=d.get (j:=0) (by simp)
  have yi:aD 1 vb (.int .i64 (0))=some (pt i 0):=g1
  have Rv:aT vb=some (I 1):=d.len
  simp only [Rv,ah,jB,decide_true,gf,yi,g2,List.getElem_cons_zero]
  refine VN ha la b0 lb ?_
  intro q h2 x2 hq
  have mk:∀(g:ae) (r:Nat),cH 152 1 [(.int .u32 (0))] g [(0,1,.int .u32 (r:Int))]=some (sl 152 g.length 0 1,g++[.arr 152 [.int .u32 (r:Int)]]):=λ_ _=>rfl
  simp only [fM,gi,gj,ah,mk,aL]
  have x3:EX h2 (h2++[.arr 152 [.int .u32 ((a%y:Nat):Int)]]):=EX.append _ _
  have dr:DS 152 .u32 (h2++[.arr 152 [.int .u32 ((a%y:Nat):Int)]]) (sl 152 h2.length 0 1) [a%y]:=.inr ⟨h2.length,rfl,.inr ⟨[],by simp [bw]⟩⟩
  have hm:a%y<y:=mod_lt _ b0
  refine sQ dr (λx hx=>by rw [List.mem_singleton.1 hx];omega) (by simp) ?_
  intro v' oE
  have e:val 4294967296 [a%y]=a%y:=by simp [val]
  rw [e] at oE
  exact hk _ _ _ (x2.trans x3) (hq.mono x3) oE
theorem Wo {va:Value} {a:Int} {h:ae} {K:Value->ae->Prop} (ha:fh h va a) (hk:∀h',EX h h'->K (I (if a=0 then 0 else if a<0 then -1 else 1)) h'):ay prog 93 [va] h K:=by
 obtain ⟨v,rfl,hv⟩:=ha
 refine f93 ?_
 have e1:cR 90 h (.agg #[B (decide (a<0)),v])=some (pt h.length 0,h++[.arr 90 [B (decide (a<0)),v]]):=rfl
 have x1:EX h (h++[.arr 90 [B (decide (a<0)),v]]):=EX.append _ _
 have l1:af false 1 (h++[az.arr 90 [B (decide (a<0)),v]]) (pt h.length 1)=some v:=sD rfl
 have l0:af false 1 (h++[az.arr 90 [B (decide (a<0)),v]]) (pt h.length 0)=some (B (decide (a<0))):=sD rfl
 obtain ⟨l,e2,e3⟩:=hv.sC
 simp only [Nw,e1,aL,cj,zero_add,add_zero,ah,l1,l0,e2,jB,ca]
 refine ⟨λhz=>?_,λhz=>⟨λhn=>?_,λhn=>?_⟩⟩
 ·have:=hk _ x1
  rw [if_pos (by omega)] at this
  exact this
 ·have:=hk _ x1
  rw [if_neg (by omega),if_pos hn] at this
  exact this
 ·have:=hk _ x1
  rw [if_neg (by omega),if_neg hn] at this
  exact this
theorem Wf {va vb:Value} {a b:Int} {h:ae} {K:Value->ae->Prop} (ha:fh h va a) (hb:fh h vb b) (la:a.natAbs<dN) (lb:b.natAbs<dN) (hk:∀h',EX h h'->K (I (if a-b=0 then 0 else if a-b<0 then -1 else 1)) h'):ay prog 64 [va,vb] h K:=by
 have ov:=ha
 have qf:=hb
 obtain ⟨v,rfl,hv⟩:=ha
 obtain ⟨w,rfl,hw⟩:=hb
 refine f64 ?_
 have e1:∀(g:ae) (s:Bool) (v:Value),cR 90 g (.agg #[B s,v])=some (pt g.length 0,g++[.arr 90 [B s,v]]):=λ_ _ _=>rfl
 simp only [M5,e1,aL]
 have g0:(h++[az.arr 90 [B (decide (a<0)),v]]++[az.arr 90 [B (decide (b<0)),w]])[h.length]?=some (.arr 90 [B (decide (a<0)),v]):=by simp
 have g1:(h++[az.arr 90 [B (decide (a<0)),v]]++[az.arr 90 [B (decide (b<0)),w]])[(h++[az.arr 90 [B (decide (a<0)),v]]).length]?=some (.arr 90 [B (decide (b<0)),w]):=bK
 have x1:EX h (h++[az.arr 90 [B (decide (a<0)),v]]++[az.arr 90 [B (decide (b<0)),w]]):=(EX.append _ _).push _
 generalize h++[az.arr 90 [B (decide (a<0)),v]]++[az.arr 90 [B (decide (b<0)),w]]=h1 at g0 g1 x1⊢
 rw [fu g0,fu g1]
 simp only [ah]
 refine C92 (ov.mono x1) (qf.mono x1) la lb ?_
 intro r h2 x2 hr
 exact Wo hr λh3 x3=>hk h3 (x1.trans (x2.trans x3))
theorem fh.nat {h:ae} {v:Value} {n:Nat} (p:fm h v n):fh h (.agg #[B false,v]) (n:Int):=⟨v,by rw [bX (by omega)],by rwa [natAbs_natCast]⟩
end
end Go.Proofs.YtncaiogfjjepcaaGreat
namespace Go.Sim
section
theorem aKZ {B:Nat} {xs:List Nat} (h:dF B xs) {n:Nat} (hn:xs.length=n+2):∃l,l<B^n/\val B xs=l+(xs[n]+xs[n+1]*B)*B^n:=by
 refine ⟨val B (xs.take n),?_,?_⟩
 ·have:=nI (xs:=xs.take n) (h.mono λy hy=>mem_of_mem_take hy)
  rwa [length_take,min_eq_left (by omega)] at this
 ·have h1:=jS B xs (i:=n) (by omega)
  have h2:=jS B xs (i:=n+1) (by omega)
  rw [take_of_length_le (by omega),h1] at h2
  rw [h2,pow_succ]
  generalize B^n=P
  grind
theorem aKY {B:Nat} {xs:List Nat} (h:dF B xs) {n:Nat} (hn:xs.length=n+3):∃l,l<B^n/\val B xs=l+(xs[n]+(xs[n+1]+xs[n+2]*B)*B)*B^n:=by
 refine ⟨val B (xs.take n),?_,?_⟩
 ·have:=nI (xs:=xs.take n) (h.mono λy hy=>mem_of_mem_take hy)
  rwa [length_take,min_eq_left (by omega)] at this
 ·have h1:=jS B xs (i:=n) (by omega)
  have h2:=jS B xs (i:=n+1) (by omega)
  have h3:=jS B xs (i:=n+2) (by omega)
  rw [take_of_length_le (by omega),h2,h1] at h3
  rw [h3,show B^(n+2)=B^n*B*B from by rw [pow_succ,pow_succ],pow_succ]
  generalize B^n=P
  grind
def mid (us:List Nat) (j:Nat) (xs:List Nat):List Nat:=us.take j++(xs++us.drop (j+xs.length))
theorem Bi {us:List Nat} {j:Nat} {xs:List Nat} (h:j+xs.length<=us.length):(mid us j xs).length=us.length:=by
 unfold mid
 simp only [length_append,length_take,List.length_drop]
 omega
theorem agq {us:List Nat} {j k:Nat} {xs:List Nat} (hj:j<=us.length) (h:xs.length<=k):(mid us j xs)[j+k]?=us[j+k]?:=by
 unfold mid
 rw [List.getElem?_append_right (by rw [length_take];omega),length_take,min_eq_left hj,Nat.add_sub_cancel_left,List.getElem?_append_right h,List.getElem?_drop]
 congr 1
 omega
theorem aC8 {us:List Nat} {j k:Nat} {xs:List Nat} (hj:j<=us.length) (h:k<xs.length):(mid us j xs)[j+k]?=xs[k]?:=by
 unfold mid
 rw [List.getElem?_append_right (by rw [length_take];omega),length_take,min_eq_left hj,Nat.add_sub_cancel_left,List.getElem?_append_left h]
theorem IX {us:List Nat} {j d:Nat} {xs:List Nat} (h:j+xs.length<us.length):(mid us j xs).set (j+xs.length) d=mid us j (xs++[d]):=by
 unfold mid
 rw [List.set_append_right _ _ (by rw [length_take];omega),length_take,min_eq_left (by omega),Nat.add_sub_cancel_left,List.set_append_right _ _ (le_refl _),Nat.sub_self,drop_eq_getElem_cons h,set_cons_zero,length_append,List.append_assoc]
 rfl
theorem agr (us:List Nat) (j:Nat):mid us j []=us:=by unfold mid;simp
theorem aC7 {us:List Nat} {j:Nat} {xs ys:List Nat} (hj:j+xs.length<=us.length) (h:ys.length=xs.length):mid (mid us j xs) j ys=mid us j ys:=by
 unfold mid
 have e1:(us.take j++(xs++us.drop (j+xs.length))).take j=us.take j:=by
  rw [List.take_append_of_le_length (by rw [length_take];omega),List.take_take,Nat.min_self]
 have e2:(us.take j++(xs++us.drop (j+xs.length))).drop (j+ys.length)=us.drop (j+ys.length):=by
  rw [h,<-List.append_assoc,List.drop_append_of_le_length (by rw [length_append,length_take];omega),List.drop_eq_nil_of_le (by rw [length_append,length_take];omega),List.nil_append]
 rw [e1,e2]
section
variable {B P U V ul vl u2 v2 top v1 : Nat}
theorem aAD (hU:U=ul+(u2+top*B)*P) (tN:ul<P) (lV:u2<B) (hV:V=vl+(v2+v1*B)*P) (h1:0<v1):U / V<=top / v1:=by
 rw [Nat.le_div_iff_mul_le h1]
 have h2:U / V*V<=U:=Nat.div_mul_le_self U V
 generalize U / V=q at*
 apply byContradiction
 intro hn
 have h3:top+1<=q*v1:=by omega
 have h4:(top+1)*(B*P)<=q*v1*(B*P):=mul_le_mul_right _ h3
 have h5:q*v1*(B*P)<=q*V:=by
  rw [hV]
  have:q*(vl+(v2+v1*B)*P)=q*v1*(B*P)+q*(vl+v2*P):=by grind
  omega
 have h6:U<(top+1)*(B*P):=by
  have e1:(top+1)*(B*P)=top*B*P+B*P:=by grind
  have e2:(u2+top*B)*P=u2*P+top*B*P:=by grind
  have e3:(u2+1)*P<=B*P:=mul_le_mul_right _ (by omega)
  have e4:(u2+1)*P=u2*P+P:=by grind
  omega
 omega
theorem aAC {g r:Nat} (hU:U=ul+(u2+top*B)*P) (tN:ul<P) (hV:V=vl+(v2+v1*B)*P) (tq:U<V*B) (hg:g*v1+r=top) (hq:U / V<=g) (CC:B<=g∨r*B+u2<g*v2):U / V+1<=g:=by
 have hV0:0<V:=by
  apply Nat.pos_of_ne_zero
  intro e
  rw [e] at tq
  omega
 have Qz:U / V<B:=by rw [Nat.div_lt_iff_lt_mul hV0,mul_comm];exact tq
 rcases CC with hb | hb
 ·omega
 have h2:U / V*V<=U:=Nat.div_mul_le_self U V
 generalize U / V=q at*
 apply byContradiction
 intro hn
 have QA:q=g:=by omega
 subst QA
 have h3:q*((v2+v1*B)*P)<=q*V:=by rw [hV];exact mul_le_mul_left _ (by omega)
 have h4:q*(v2+v1*B)*P<(u2+top*B+1)*P:=by
  have e1:q*((v2+v1*B)*P)=q*(v2+v1*B)*P:=by grind
  have e2:(u2+top*B+1)*P=(u2+top*B)*P+P:=by grind
  omega
 have h5:q*(v2+v1*B)<u2+top*B+1:=Nat.lt_of_mul_lt_mul_right h4
 rw [<-hg] at h5
 have e3:q*(v2+v1*B)=q*v2+q*v1*B:=by grind
 have e4:(q*v1+r)*B=q*v1*B+r*B:=by grind
 omega
theorem adZ {g r:Nat} (hU:U=ul+(u2+top*B)*P) (hV:V=vl+(v2+v1*B)*P) (rf:vl<P) (h1:0<v1) (hg:g*v1+r=top) (pR:g<B) (bc:g*v2<=r*B+u2):g*V<U+V:=by
 have e1:g*V=g*vl+(g*v2+g*v1*B)*P:=by rw [hV];grind
 have e2:top*B=g*v1*B+r*B:=by rw [<-hg];grind
 have e3:(g*v2+g*v1*B)*P<=(u2+top*B)*P:=mul_le_mul_right _ (by omega)
 have e4:g*vl<V:=by
  have a1:g*vl<=g*P:=mul_le_mul_left _ (by omega)
  have hP:0<P:=by omega
  have a2:g*P<B*P:=Nat.mul_lt_mul_of_pos_right pR hP
  have a3:B*P<=v1*B*P:=by
   have:1*(B*P)<=v1*(B*P):=mul_le_mul_right _ h1
   rw [mul_assoc]
   omega
  have a4:(v2+v1*B)*P=v2*P+v1*B*P:=by grind
  omega
 omega
theorem aKN {un w:Nat} (hB:0<B) (hU:U=ul+(u2+top*B)*P) (sm:top=w+un*B) (hV:V=vl+(v2+v1*B)*P) (rf:vl<P) (pB:v2<B) (tq:U<V*B):un<=v1:=by
 apply byContradiction
 intro hn
 have h1:(v1+1)*(B*P)*B<=un*(B*P)*B:=mul_le_mul_right _ (mul_le_mul_right _ (by omega))
 have h2:un*(B*P)*B<=U:=by
  rw [hU,sm]
  have:(u2+(w+un*B)*B)*P=(u2+w*B)*P+un*(B*P)*B:=by grind
  omega
 have h3:V<(v1+1)*(B*P):=by
  have e1:(v1+1)*(B*P)=v1*B*P+B*P:=by grind
  have e2:(v2+v1*B)*P=v2*P+v1*B*P:=by grind
  have e3:(v2+1)*P<=B*P:=mul_le_mul_right _ (by omega)
  have e4:(v2+1)*P=v2*P+P:=by grind
  omega
 have h4:V*B<(v1+1)*(B*P)*B:=Nat.mul_lt_mul_of_pos_right h3 hB
 omega
end
end
end Go.Sim
namespace Go.Proofs.YtncaiogfjjepcaaGreat
open Go.Sim
section
def wv (us:List Nat):List Value:=us.map λd:Nat=>Value.int .u32 (d:Int)
theorem an4 (us:List Nat):(wv us).length=us.length:=by simp [wv]
theorem qN {e:TypeId} {id o n k:Nat} (hk:k<n):aD 1 (sl e id o n) (I k)=some (pt id (o+k)):=by
 have:(0:Int)<=(k:Int)/\(k:Int)<(n:Int):=by omega
 simp [sl,aD,this]
theorem Cc {g:ae} {iv id:Nat} {o:az} (h:iv≠id):bw (g.set id o) iv=bw g iv:=by
 unfold bw
 rw [getElem?_set_ne h.symm]
theorem BW {g:ae} {id k d:Nat} {us:List Nat} {rest:List Value} (hg:bw g id=some (wv us++rest)) (hk:us[k]?=some d):af false 1 g (pt id k)=some (.int .u32 (d:Int)):=by
 have aw:=(cm hk).1
 have:(wv us++rest)[k]?=some (.int .u32 (d:Int)):=by
  rw [List.getElem?_append_left (by rw [an4];exact aw)]
  simp [wv,hk]
 simp [af,hg,dS,this]
theorem xQ {g:ae} {id k d:Nat} {us:List Nat} (hg:g[id]?=some (.arr 152 (wv us))) (hk:us[k]?=some d):af false 1 g (pt id k)=some (.int .u32 (d:Int)):=
 BW (rest:=[]) (by rw [List.append_nil];simp [bw,hg]) hk
theorem BX {g:ae} {id k:Nat} (d:Nat) {us:List Nat} (hg:g[id]?=some (.arr 152 (wv us))) (hk:k<us.length):aU 1 g (pt id k) (.int .u32 (d:Int))=some (undef,g.set id (.arr 152 (wv (us.set k d)))):=by
 rw [kz hg (by rw [an4];exact hk) rfl rfl]
 congr 3
 simp [wv,List.map_set]
theorem aJn {a b:Nat} (hb:b≠0) (_:a<18446744073709551616):aj .rem (.int .u64 (a:Int)) (.int .u64 (b:Int))=some (.int .u64 ((a%b:Nat):Int)):=by
 have h:¬((b:Int)=0):=by omega
 have h2:a%b<=a:=Nat.mod_le _ _
 simp only [aj,jE,if_true,if_neg h]
 have e:(a:Int).tmod (b:Int)=((a%b:Nat):Int):=rfl
 rw [e]
theorem sY {d:Nat} (h:d<4294967296):dI .u64 (.int .u32 (d:Int))=some (.int .u64 (d:Int)):=by rw [nU,lL (by omega) (by omega)]
theorem agA {a b:Nat} (h:a*b<18446744073709551616):aj .mul (.int .u64 (a:Int)) (.int .u64 (b:Int))=some (.int .u64 ((a*b:Nat):Int)):=by
 rw [xT,<-natCast_mul,lL (by omega) (by omega)]
theorem X9 {a b:Nat} (h:a+b<18446744073709551616):aj .add (.int .u64 (a:Int)) (.int .u64 (b:Int))=some (.int .u64 ((a+b:Nat):Int)):=by
 rw [b7,<-Int.natCast_add,lL (by omega) (by omega)]
theorem adw {a:Nat} (h:0<a) (h2:a<18446744073709551616):aj .sub (.int .u64 (a:Int)) (.int .u64 1)=some (.int .u64 ((a-1:Nat):Int)):=by
 rw [iD,show (a:Int)-1=((a-1:Nat):Int) by omega,lL (by omega) (by omega)]
theorem Cj (t:Nat):dI .u32 (.int .u64 (t:Int))=some (.int .u32 ((t%4294967296:Nat):Int)):=by rw [nU,xp];congr 2
theorem VQ {x y b:Nat} {h:ae} {K:Value->ae->Prop} (hx:x<4294967296) (hy:y<4294967296) (hb:b<=1)
  (hk:∀d b':Nat,d<4294967296->b'<=1->d+y+b=x+b'*4294967296->K (.tuple #[.int .u32 (d:Int),.int .u32 (b':Int)]) h):ay prog 123 [.int .u32 (x:Int),.int .u32 (y:Int),.int .u32 (b:Int)] h K:=by
 refine VP hx hy hb (hk _ _ ?_ ?_ ?_)
 ·exact mod_lt _ (by decide)
 ·split <;> omega
 ·split <;> omega
theorem aCJ {P X V Y x c a b:Nat} (h:Y+c*P=X+V) (e:4294967296*a+b=x+c) (ha:a=0∨a=1):Y+P*b+P*4294967296=X+P*x+V∨Y+P*b=X+P*x+V:=by
 have e1:P*(4294967296*a+b)=P*(x+c):=by rw [e]
 rcases ha with rfl | rfl
 ·right;grind
 ·left;grind
section
variable {h : ae} {K : Value -> ae -> Prop} {id iv j m : Nat} {us vs ud : List Nat} {rest : List Value}
theorem aox {g:ae} {q:Value} {xs:List Nat} (kg:g[id]?=some (.arr 152 (wv us))) (kv:bw g iv=some (wv vs++rest)) (bY:iv≠id) (hn:vs.length=m+2) (hm:m<=1000) (hx:xs.length=m+3) (hj:j+(m+3)<=us.length)
  (hu:∀k,k<=m+2->us[j+k]?=xs[k]?) (lx:dF 4294967296 xs) (lv:dF 4294967296 vs)
  (hk:∀ys,ys.length=m+3->dF 4294967296 ys->(val 4294967296 ys+4294967296^(m+3)=val 4294967296 xs+val 4294967296 vs∨val 4294967296 ys=val 4294967296 xs+val 4294967296 vs)->
   DA prog K q (g.set id (.arr 152 (wv (mid us j ys))))):
  bT [(.int .u32 (0)),(.int .i64 (0))] g λL1 xs hx=>Sk prog K (sl 152 id j (m+3)) (sl 152 iv 0 (m+2)) (I (m+2:Nat)) q (I (m+2:Nat)) L1 xs hx:=by
 refine cN (σ:=List Nat×Nat) (λp=>[.int .u32 (p.2:Int),I p.1.length]) (λp=>g.set id (.arr 152 (wv (mid us j p.1))))
  (λp=>p.1.length<=m+2/\dF 4294967296 p.1/\p.2<=1/\val 4294967296 p.1+p.2*4294967296^p.1.length=val 4294967296 (xs.take p.1.length)+val 4294967296 (vs.take p.1.length)) (λp=>m+2-p.1.length)
  ([],0) rfl (by rw [agr];exact (List.ext_getElem? λi=>by
   rw [List.getElem?_set]
   split
   ·rename_i e;subst e
    rw [kg,if_pos (cm kg).1]
   ·rfl)) ⟨zero_le _,λy hy=>by simp at hy,zero_le _,by simp [val]⟩ ?_
 rintro ⟨ys,c⟩ ⟨kS,ly,hc,dD⟩ L hL
 simp only at kS ly hc dD hL⊢
 have vD:(g.set id (.arr 152 (wv (mid us j ys))))[id]?=some (.arr 152 (wv (mid us j ys))):=gF kg
 have Rp:bw (g.set id (.arr 152 (wv (mid us j ys)))) iv=some (wv vs++rest):=by rw [Cc bY];exact kv
 rw [aEt]
 simp only [bW,ah,ca]
 have Dc:∀k,ys.length<=k->k<=m+2->(mid us j ys)[j+k]?=xs[k]?:=λk h1 h2=>by rw [agq (by omega) h1,hu k h2]
 refine ⟨λaw=>?_,λcJ=>?_⟩
 ·have hy:ys.length<m+2:=by omega
  have wT:xs[ys.length]?=some (xs[ys.length]'(by omega)):=getElem?_eq_getElem (by omega)
  have QN:vs[ys.length]?=some (vs[ys.length]'(by omega)):=getElem?_eq_getElem (by omega)
  have bx:=lx _ (getElem_mem (l:=xs) (n:=ys.length) (by omega))
  have bv:=lv _ (getElem_mem (l:=vs) (n:=ys.length) (by omega))
  have tx:=jS 4294967296 xs (i:=ys.length) (by omega)
  have tv:=jS 4294967296 vs (i:=ys.length) (by omega)
  generalize xs[ys.length]'(by omega)=x at*
  generalize vs[ys.length]'(by omega)=v at*
  have ld:=xQ vD ((Dc _ (le_refl _) (by omega)).trans wT)
  have Dp:=BW Rp QN
  simp only [qN (show ys.length<m+3 by omega),qN (show ys.length<m+2 by omega),zero_add,ah,ld,Dp,true_and]
  refine VO bx bv hc ?_
  simp only [fM,gi,gj,ah]
  rw [BX _ vD (by rw [Bi (by omega)];omega),IX (by omega),set_set]
  have:=hL (ys++[(x+v+c)%4294967296],(x+v+c) / 4294967296) ⟨by simp;omega,ly.append (λy hy=>by simp at hy;omega),by show (x+v+c) / 4294967296<=1;omega,by
   simp only [length_append,length_cons,length_nil,zero_add]
   rw [oT,tx,tv,pow_succ]
   simp only [val,mul_zero,add_zero]
   have mB:=div_add_mod (x+v+c) 4294967296
   generalize (x+v+c) / 4294967296=a at*
   generalize (x+v+c)%4294967296=b at*
   generalize 4294967296^ys.length=P at*
   have:P*(4294967296*a+b)=P*(x+v+c):=by rw [mB]
   grind⟩ (by simp;omega)
  simp only [aL,b7,inc ys.length (by omega),ah]
  simpa using this
 ·have hy:ys.length=m+2:=by omega
  have wT:xs[m+2]?=some (xs[m+2]'(by omega)):=getElem?_eq_getElem (by omega)
  have bx:=lx _ (getElem_mem (l:=xs) (n:=m+2) (by omega))
  have tx:=jS 4294967296 xs (i:=m+2) (by omega)
  rw [take_of_length_le (by omega)] at tx
  generalize xs[m+2]'(by omega)=x at*
  have ld:=xQ vD ((Dc (m+2) (by omega) (by omega)).trans wT)
  rw [aEu]
  have ea:aj .add (.int .u32 (x:Int)) (.int .u32 (c:Int))=some (.int .u32 (((x+c)%4294967296:Nat):Int)):=by
   rw [b7,<-Int.natCast_add,xp];congr 2
  simp only [qN (show m+2<m+3 by omega),ah,ld,ea]
  have nF:=IX (us:=us) (j:=j) (d:=(x+c)%4294967296) (xs:=ys) (by omega)
  rw [hy] at nF
  rw [BX _ vD (by rw [Bi (by omega)];omega),nF,set_set]
  simp only [aL]
  rw [hy,take_of_length_le (by omega:vs.length<=m+2)] at dD
  refine hk _ (by simp;omega) (ly.append (λy hy=>by simp at hy;omega)) ?_
  rw [oT,hy,tx]
  simp only [val,mul_zero,add_zero]
  have mB:=div_add_mod (x+c) 4294967296
  have h01:(x+c) / 4294967296<=1:=by omega
  rw [pow_succ]
  exact aCJ dD mB (by omega)
theorem aDE (B m:Nat):B^(m+3)=B^(m+2)*B:=pow_succ ..
theorem aKD {P A X V g v x carry borrow y c' x' b':Nat} (h:X+g*V=A+(carry+borrow)*P) (e:4294967296*c'+y=g*v+carry) (s:x'+y+borrow=x+b'*4294967296):
  X+P*x'+g*(V+P*v)=A+P*x+(c'+b')*(P*4294967296):=by
 have e1:P*(4294967296*c'+y)=P*(g*v+carry):=by rw [e]
 have e2:P*(x'+y+borrow)=P*(x+b'*4294967296):=by rw [s]
 grind
theorem aKE {P A X V g x carry borrow x' b':Nat} (h:X+g*V=A+(carry+borrow)*P) (s:x'+carry+borrow=x+b'*4294967296):X+P*x'+g*V=A+P*x+b'*(P*4294967296):=by
 have e2:P*(x'+carry+borrow)=P*(x+b'*4294967296):=by rw [s]
 grind
theorem VW {gs:Nat} (kg:h[id]?=some (.arr 152 (wv us))) (kv:bw h iv=some (wv vs++rest)) (bY:iv≠id) (hn:vs.length=m+2) (hm:m<=1000) (hx:ud.length=m+3) (hj:j+(m+3)<=us.length)
  (hu:∀k,k<=m+2->us[j+k]?=ud[k]?) (lu:dF 4294967296 ud) (lv:dF 4294967296 vs) (pR:gs<4294967296) (h1:val 4294967296 ud / val 4294967296 vs<=gs) (h2:gs*val 4294967296 vs<val 4294967296 ud+val 4294967296 vs) (V0:0<val 4294967296 vs)
  (hk:∀rs,rs.length=m+3->dF 4294967296 rs->val 4294967296 rs=val 4294967296 ud%val 4294967296 vs->K (.int .u32 ((val 4294967296 ud / val 4294967296 vs:Nat):Int)) (h.set id (.arr 152 (wv (mid us j rs))))):
  wY prog K (sl 152 id j (m+3)) (sl 152 iv 0 (m+2)) (I (m+2:Nat)) (.int .u64 (gs:Int)) h:=by
 have nF:h=h.set id (.arr 152 (wv us)):=List.ext_getElem? λi=>by
  rw [List.getElem?_set]
  split
  ·rename_i e;subst e
   rw [kg,if_pos (cm kg).1]
  ·rfl
 have IU:aT (sl 152 iv 0 (m+2))=some (I (m+2:Nat)):=rfl
 rw [aEq]
 simp only [IU,ah]
 refine cN (σ:=List Nat×Nat×Nat) (λp=>[.int .u64 (p.2.1:Int),.int .u32 (p.2.2:Int),I p.1.length]) (λp=>h.set id (.arr 152 (wv (mid us j p.1))))
  (λp=>p.1.length<=m+2/\dF 4294967296 p.1/\p.2.1<4294967296/\p.2.2<=1/\val 4294967296 p.1+gs*val 4294967296 (vs.take p.1.length)=val 4294967296 (ud.take p.1.length)+(p.2.1+p.2.2)*4294967296^p.1.length) (λp=>m+2-p.1.length)
  ([],0,0) rfl (by rw [agr];exact nF.symm) ⟨zero_le _,λy hy=>by simp at hy,by decide,zero_le _,by simp [val]⟩ ?_
 rintro ⟨xs,c,bo⟩ ⟨iH,lx,hc,PV,dD⟩ L hL
 simp only at iH lx hc PV dD hL⊢
 have vD:(h.set id (.arr 152 (wv (mid us j xs))))[id]?=some (.arr 152 (wv (mid us j xs))):=gF kg
 have Rp:bw (h.set id (.arr 152 (wv (mid us j xs)))) iv=some (wv vs++rest):=by rw [Cc bY];exact kv
 have Dc:∀k,xs.length<=k->k<=m+2->(mid us j xs)[j+k]?=ud[k]?:=λk h1 h2=>by rw [agq (by omega) h1,hu k h2]
 rw [aEr]
 simp only [bW,ah,ca]
 refine ⟨λaw=>?_,λcJ=>?_⟩
 ·have hy:xs.length<m+2:=by omega
  have QK:ud[xs.length]?=some (ud[xs.length]'(by omega)):=getElem?_eq_getElem (by omega)
  have QN:vs[xs.length]?=some (vs[xs.length]'(by omega)):=getElem?_eq_getElem (by omega)
  have bx:=lu _ (getElem_mem (l:=ud) (n:=xs.length) (by omega))
  have bv:=lv _ (getElem_mem (l:=vs) (n:=xs.length) (by omega))
  have tx:=jS 4294967296 ud (i:=xs.length) (by omega)
  have tv:=jS 4294967296 vs (i:=xs.length) (by omega)
  generalize ud[xs.length]'(by omega)=x at*
  generalize vs[xs.length]'(by omega)=v at*
  have ld:=xQ vD ((Dc _ (le_refl _) (by omega)).trans QK)
  have Dp:=BW Rp QN
  have hgv:=I1 pR bv
  simp only [qN (show xs.length<m+3 by omega),qN (show xs.length<m+2 by omega),zero_add,ah,ld,Dp,sY bv,agA (show gs*v<18446744073709551616 by omega),X9 (show gs*v+c<18446744073709551616 by omega),zH,Cj]
  have mB:=div_add_mod (gs*v+c) 4294967296
  have hym:(gs*v+c)%4294967296<4294967296:=mod_lt _ (by decide)
  have hyd:(gs*v+c) / 4294967296<4294967296:=by omega
  refine VQ bx hym PV ?_
  intro d b2 hd AJ CF
  simp only [fM,gi,gj,ah]
  rw [BX _ vD (by rw [Bi (by omega)];omega),IX (by omega),set_set]
  generalize (gs*v+c) / 4294967296=c2 at*
  generalize (gs*v+c)%4294967296=y at*
  have:=hL (xs++[d],c2,b2) ⟨by simp;omega,lx.append (λz hz=>by simp at hz;omega),hyd,AJ,by
   simp only [length_append,length_cons,length_nil,zero_add]
   rw [oT,tx,tv,pow_succ]
   simp only [val,mul_zero,add_zero]
   exact aKD dD mB CF⟩ (by simp;omega)
  simp only [aL,b7,inc xs.length (by omega),ah,true_and]
  simpa using this
 ·have hy:xs.length=m+2:=by omega
  have QK:ud[m+2]?=some (ud[m+2]'(by omega)):=getElem?_eq_getElem (by omega)
  have bx:=lu _ (getElem_mem (l:=ud) (n:=m+2) (by omega))
  have tx:=jS 4294967296 ud (i:=m+2) (by omega)
  rw [take_of_length_le (by omega)] at tx
  generalize ud[m+2]'(by omega)=x at*
  have ld:=xQ vD ((Dc (m+2) (by omega) (by omega)).trans QK)
  rw [aEs]
  simp only [qN (show m+2<m+3 by omega),ah,ld,Cj,mod_eq_of_lt hc]
  refine VQ bx hc PV ?_
  intro d b2 hd AJ CF
  simp only [fM,gi,gj,ah]
  have afd:=IX (us:=us) (j:=j) (d:=d) (xs:=xs) (by omega)
  rw [hy] at afd
  rw [BX _ vD (by rw [Bi (by omega)];omega),afd,set_set]
  simp only [aL]
  rw [hy,take_of_length_le (by omega:vs.length<=m+2)] at dD
  have Bh:dF 4294967296 (xs++[d]):=lx.append (λz hz=>by simp at hz;omega)
  have tJ:(xs++[d]).length=m+3:=by simp;omega
  have pB:val 4294967296 (xs++[d])+gs*val 4294967296 vs=val 4294967296 ud+b2*4294967296^(m+3):=by
   rw [oT,hy,tx]
   simp only [val,mul_zero,add_zero]
   rw [aDE]
   exact aKE dD CF
  generalize xs++[d]=xn at*
  have aMA:=div_add_mod (val 4294967296 ud) (val 4294967296 vs)
  have tL:=mod_lt (val 4294967296 ud) V0
  have wS:=nI Bh
  rw [tJ] at wS
  generalize hQ:val 4294967296 ud / val 4294967296 vs=Q at*
  generalize hR:val 4294967296 ud%val 4294967296 vs=R at*
  have Qz:Q<4294967296:=by omega
  have Hz:∀{a:Nat} {g:ae},a<4294967296->K (.int .u32 (a:Int)) g->DA prog K (.int .u64 (a:Int)) g:=by
   intro a g ha hK
   rw [aEv,Cj,ah,mod_eq_of_lt ha]
   exact hK
  rcases (show b2=1∨b2=0 by omega) with rfl | rfl
  ·skip
   have hgV:val 4294967296 ud<gs*val 4294967296 vs:=by omega
   have Ic:gs=Q+1:=by
    have:gs<Q+2:=by
     apply byContradiction
     intro hn
     have h3:(Q+2)*val 4294967296 vs<=gs*val 4294967296 vs:=mul_le_mul_right _ (by omega)
     rw [add_mul,mul_comm Q] at h3
     omega
    have h4:gs≠Q:=by
     intro e
     rw [e,mul_comm] at hgV
     omega
    omega
   have bg:aj .gtr (.int .u32 ((1:Nat):Int)) (.int .u32 0)=some (B true):=rfl
   simp only [bg,ah,gf,adw (show 0<gs by omega) (show gs<18446744073709551616 by omega),IU]
   refine aox (us:=mid us j xn) (xs:=xn) (gF kg) (by rw [Cc bY];exact kv) bY hn hm tJ (by rw [Bi (by omega)];omega) (λk hk=>aC8 (by omega) (by omega)) Bh lv ?_
   intro ys kS ly yU
   rw [set_set,aC7 (by omega) (by omega)]
   have qq:=nI ly
   rw [kS] at qq
   have Qp:gs*val 4294967296 vs=val 4294967296 vs*(Q)+val 4294967296 vs:=by rw [Ic,add_mul,mul_comm Q];omega
   have hyr:val 4294967296 ys=R:=by
    rw [Nat.one_mul] at pB
    rcases yU with yU | yU <;> omega
   rw [show gs-1=Q by omega]
   exact Hz Qz (hk ys kS ly hyr)
  ·have Ic:gs=Q:=by
    have:gs<=Q:=by rw [<-hQ];exact (Nat.le_div_iff_mul_le V0).2 (by omega)
    omega
   have bg:aj .gtr (.int .u32 ((0:Nat):Int)) (.int .u32 0)=some (B false):=rfl
   simp only [bg,ah,dm]
   have hxr:val 4294967296 xn=R:=by
    rw [Ic,mul_comm] at pB
    omega
   rw [Ic]
   exact Hz Qz (hk xn tJ Bh hxr)
end
end
section
theorem aAB (a b:Nat):aj .gtr (.int .u64 (a:Int)) (.int .u64 (b:Int))=some (B (decide (b<a))):=by
 rw [gY];congr 2;rw [decide_eq_decide];omega
theorem aeF {a:Nat}:aj .gtr (.int .u64 ((a / 4294967296:Nat):Int)) (.int .u64 0)=some (B (decide (4294967296<=a))):=by
 rw [gY];congr 2;rw [decide_eq_decide]
 have:4294967296<=a↔0<a / 4294967296:=by omega
 rw [this]
 omega
section
variable {h : ae} {K : Value -> ae -> Prop} {id iv j m : Nat} {us vs ud : List Nat} {rest : List Value}
theorem aoA {v1:Nat} (kg:h[id]?=some (.arr 152 (wv us))) (kv:bw h iv=some (wv vs++rest)) (bY:iv≠id) (hn:vs.length=m+2) (hm:m<=1000) (hx:ud.length=m+3) (hj:j+(m+3)<=us.length)
  (hu:∀k,k<=m+2->us[j+k]?=ud[k]?) (lu:dF 4294967296 ud) (lv:dF 4294967296 vs) (sr:vs[m+1]?=some v1) (kE:2147483648<=v1) (tq:val 4294967296 ud<val 4294967296 vs*4294967296)
  (hk:∀rs,rs.length=m+3->dF 4294967296 rs->val 4294967296 rs=val 4294967296 ud%val 4294967296 vs->K (.int .u32 ((val 4294967296 ud / val 4294967296 vs:Nat):Int)) (h.set id (.arr 152 (wv (mid us j rs))))):
  ay prog 142 [sl 152 id j (m+3),sl 152 iv 0 (m+2)] h K:=by
 obtain ⟨ul,tN,eU⟩:=aKY lu hx
 obtain ⟨vl,rf,eV⟩:=aKZ lv hn
 have hu0:us[j+m]?=some (ud[m]'(by omega)):=by rw [hu m (by omega)];exact getElem?_eq_getElem _
 have re:us[j+(m+1)]?=some (ud[m+1]'(by omega)):=by rw [hu (m+1) (by omega)];exact getElem?_eq_getElem _
 have lV:us[j+(m+2)]?=some (ud[m+2]'(by omega)):=by rw [hu (m+2) (by omega)];exact getElem?_eq_getElem _
 have b0:=lu _ (getElem_mem (l:=ud) (n:=m) (by omega))
 have b1:=lu _ (getElem_mem (l:=ud) (n:=m+1) (by omega))
 have b2:=lu _ (getElem_mem (l:=ud) (n:=m+2) (by omega))
 have hv0:vs[m]?=some (vs[m]'(by omega)):=getElem?_eq_getElem _
 have c0:=lv _ (getElem_mem (l:=vs) (n:=m) (by omega))
 have c1:=lv _ (getElem_mem (l:=vs) (n:=m+1) (by omega))
 have e1:vs[m+1]'(by omega)=v1:=by
  rw [getElem?_eq_getElem (by omega)] at sr
  injection sr
 rw [e1] at c1 eV
 generalize ud[m]'(by omega)=t0 at*
 generalize ud[m+1]'(by omega)=t1 at*
 generalize ud[m+2]'(by omega)=t2 at*
 generalize vs[m]'(by omega)=v2 at*
 have hP:0<4294967296^m:=pow_pos (by decide)
 have adL:t1+t2*4294967296=t2*4294967296+t1:=Nat.add_comm ..
 rw [adL] at eU
 have V0:0<val 4294967296 vs:=by
  apply Nat.pos_of_ne_zero
  intro e
  rw [e,Nat.zero_mul] at tq
  omega
 have ht2:=aKN (by decide) eU adL.symm eV rf c0 tq
 have aAU:=aAD eU tN b0 eV (by omega)
 have oL:=xQ kg hu0
 have ld1:=xQ kg re
 have jI:=xQ kg lV
 have lv0:=BW kv hv0
 have lv1:=BW kv sr
 have IU:aT (sl 152 iv 0 (m+2))=some (I (m+2:Nat)):=rfl
 have s1:aj .sub (I (m+2:Nat)) (.int .i64 1)=some (I (m+1:Nat)):=by rw [iD,wrap64 (by omega) (by omega)];congr 2;omega
 have s2:aj .sub (I (m+2:Nat)) (.int .i64 2)=some (I (m:Nat)):=by rw [iD,wrap64 (by omega) (by omega)];congr 2;omega
 have Iv:t2*4294967296+t1<18446744073709551616:=by omega
 refine f142 ?_
 unfold Mb
 simp only [IU,ah,qN (show m+2<m+3 by omega),jI,true_and,sY b2,JZ b2,s1,qN (show m+1<m+3 by omega),ld1,sY b1,Jf b2 b1,qN (show m+1<m+2 by omega),zero_add,lv1,sY c1,anj (show v1≠0 by omega) Iv,aJn (show v1≠0 by omega) Iv]
 generalize sm:t2*4294967296+t1=top at*
 have mB:=div_add_mod top v1
 have tL:=mod_lt top (show 0<v1 by omega)
 have hg0:top / v1<=4294967297:=by
  have:top / v1<4294967298:=by
   rw [Nat.div_lt_iff_lt_mul (by omega)]
   omega
  omega
 refine cN (σ:=Nat×Nat) (λp=>[.int .u64 (p.1:Int),.int .u64 (p.2:Int)]) (λ_=>h) (λp=>p.1*v1+p.2=top/\p.2<4294967296/\p.1<=4294967297/\val 4294967296 ud / val 4294967296 vs<=p.1) (λp=>4294967296-p.2)
  (top / v1,top%v1) rfl rfl ⟨by show top / v1*v1+top%v1=top;rw [mul_comm];exact mB,by show top%v1<4294967296;omega,hg0,aAU⟩ ?_
 rintro ⟨g,r⟩ ⟨tH,hr,hg,hq⟩ L hL
 simp only at tH hr hg hq hL⊢
 have down:(4294967296<=g∨r*4294967296+t0<g*v2)->(OP (aj .sub (.int .u64 (g:Int)) (.int .u64 (1))) λdj=>
   OP (aj .sub (I (m+2:Nat)) (.int .i64 (1))) λiW=>
   OP (aD 1 (sl 152 iv 0 (m+2)) iW) λfE=>
   OP (af false 1 h fE) λiL=>
   OP (dI .u64 iL) λkO=>
   OP (aj .add (.int .u64 (r:Int)) kO) λhT=>
   OP (aj .shr hT (.int .u64 (32))) λkf=>
   OP (aj .gtr kf (.int .u64 (0))) λcK=>
   aJ cK
    (wY prog K (sl 152 id j (m+3)) (sl 152 iv 0 (m+2)) (I (m+2:Nat)) dj h)
    (([sl 152 id j (m+3),sl 152 iv 0 (m+2),I (m+2:Nat)]:List Value)=[sl 152 id j (m+3),sl 152 iv 0 (m+2),I (m+2:Nat)]/\L [dj,hT] h)):=by
  intro CC
  have hd:=aAC eU tN eV tq tH hq CC
  have iO:0<g:=by generalize val 4294967296 ud / val 4294967296 vs=Q at*;omega
  have Ip:val 4294967296 ud / val 4294967296 vs<=g-1:=by generalize val 4294967296 ud / val 4294967296 vs=Q at*;omega
  have CJ:(g-1)*v1+(r+v1)=top:=by
   rw [Nat.sub_mul,Nat.one_mul]
   have:v1<=g*v1:=Nat.le_mul_of_pos_left v1 iO
   omega
  simp only [adw iO (show g<18446744073709551616 by omega),ah,s1,qN (show m+1<m+2 by omega),zero_add,lv1,sY c1,X9 (show r+v1<18446744073709551616 by omega),zH,aeF,ca]
  refine ⟨λcJ=>?_,λaw=>⟨trivial,hL (g-1,r+v1) ⟨CJ,by show r+v1<4294967296;omega,by show g-1<=4294967297;omega,Ip⟩ (by show 4294967296-(r+v1)<4294967296-r;omega)⟩⟩
  have pR:g-1<4294967296:=by
   apply byContradiction
   intro hn
   have h3:4294967296*v1<=(g-1)*v1:=mul_le_mul_right _ (by omega)
   have h4:t2*4294967296<=v1*4294967296:=mul_le_mul_right _ ht2
   omega
  refine VW kg kv bY hn hm hx hj hu lu lv pR Ip (adZ eU eV rf (by omega) CJ pR ?_) V0 hk
  have h5:=I1 pR c0
  have h6:4294967296*4294967296<=(r+v1)*4294967296:=mul_le_mul_right _ cJ
  omega
 have last:g<4294967296->g*v2<=r*4294967296+t0->wY prog K (sl 152 id j (m+3)) (sl 152 iv 0 (m+2)) (I (m+2:Nat)) (.int .u64 (g:Int)) h:=λpR bc=>
  VW kg kv bY hn hm hx hj hu lu lv pR hq (adZ eU eV rf (by omega) tH pR bc) V0 hk
 rw [aEw]
 simp only [zH,ah,aeF]
 by_cases pR:4294967296<=g
 ·rw [dh pR]
  simp only [o0,fy,ah,gf]
  simpa only [true_and] using down (.inl pR)
 ·rw [bX pR]
  have aeB:g<4294967296:=by omega
  have hgv:=I1 aeB c0
  simp only [fc,s2,ah,qN (show m<m+2 by omega),qN (show m<m+3 by omega),zero_add,lv0,oL,true_and,sY c0,sY b0,agA (show g*v2<18446744073709551616 by omega),JZ hr,Jf hr b0,aAB,dA,ca]
  exact ⟨λCC=>by simpa only [true_and] using down (.inr CC),λbc=>last aeB (by omega)⟩
end
end
section
theorem UX (k k2:IntKind) {s n:Nat} (hn:n<=k.bits) (hb:n<1000):aj .shr (.int k (s:Int)) (.int k2 (n:Int))=some (.int k ((s / 2^n:Nat):Int)):=by
 simp only [aj,rB]
 rw [if_neg (by omega)]
 have:min ((n:Int).toNat) k.bits=n:=by omega
 rw [this,Int.fdiv_eq_ediv_of_nonneg _ (by have:(0:Int)<2^n:=Int.pow_pos (by decide);omega)]
 congr 2
theorem aKq (k2:IntKind) {x n:Nat} (hn:n<32) (hx:x<4294967296):aj .shl (.int .u64 (x:Int)) (.int k2 (n:Int))=some (.int .u64 ((x*2^n:Nat):Int)):=by
 have h2:2^n<=2^31:=pow_le_pow_right (by decide) (by omega)
 have h3:x*2^n<=4294967295*2^31:=Nat.mul_le_mul (by omega) h2
 have h4:x*2^n<18446744073709551616:=by omega
 simp only [aj,rB]
 rw [if_neg (by omega)]
 have:min ((n:Int).toNat) IntKind.u64.bits=n:=by
  have:IntKind.u64.bits=64:=rfl
  omega
 have e:(x:Int)*2^n=((x*2^n:Nat):Int):=by simp
 rw [this,e,lL (by omega) (by omega)]
theorem aDs {s a q:Nat} (hs:s<=31) (ha:a<2^s) (hq:2^s*q<4294967296):aj .or (.int .u32 (a:Int)) (.int .u32 ((2^s*q:Nat):Int))=some (.int .u32 ((2^s*q+a:Nat):Int)):=by
 have h2:2^s<=2^31:=pow_le_pow_right (by decide) hs
 have afg:2^s*q+a<4294967296:=by
  have h3:q<2^(32-s):=by
   apply byContradiction
   intro hn
   have:2^s*2^(32-s)<=2^s*q:=mul_le_mul_left _ (by omega)
   rw [<-pow_add,show s+(32-s)=32 by omega] at this
   omega
  have h4:2^s*(q+1)<=2^s*2^(32-s):=mul_le_mul_left _ (by omega)
  rw [<-pow_add,show s+(32-s)=32 by omega,mul_add] at h4
  omega
 have e:(BitVec.ofInt IntKind.u32.bits (a:Int) ||| BitVec.ofInt IntKind.u32.bits ((2^s*q:Nat):Int)).toNat=2^s*q+a:=by
  show (BitVec.ofInt 32 (a:Int) ||| BitVec.ofInt 32 ((2^s*q:Nat):Int)).toNat=_
  rw [BitVec.ofInt_natCast,BitVec.ofInt_natCast,BitVec.toNat_or,BitVec.toNat_ofNat,BitVec.toNat_ofNat,mod_eq_of_lt (by omega),mod_eq_of_lt (by omega),Nat.or_comm]
  exact (Nat.two_pow_add_eq_or_of_lt ha q).symm
 simp only [aj,jE,if_true]
 rw [e,rL (by omega) (by omega)]
def len8 (x:Nat):Nat:=if x=0 then 0 else x.log2+1
def U3:Value:=(.string ⟨#[0,1,2,2,3,3,3,3,4,4,4,4,4,4,4,4,5,5,5,5,5,5,5,5,5,5,5,5,5,5,5,5,6,6,6,6,6,6,6,6,6,6,6,6,6,6,6,6,6,6,6,6,6,6,6,6,6,6,6,6,6,6,6,6,7,7,7,7,7,7,7,7,7,7,7,7,7,7,7,7,7,7,7,7,7,7,7,7,7,7,7,7,7,7,7,7,7,7,7,7,7,7,7,7,7,7,7,7,7,7,7,7,7,7,7,7,7,7,7,7,7,7,7,7,7,7,7,7,8,8,8,8,8,8,8,8,8,8,8,8,8,8,8,8,8,8,8,8,8,8,8,8,8,8,8,8,8,8,8,8,8,8,8,8,8,8,8,8,8,8,8,8,8,8,8,8,8,8,8,8,8,8,8,8,8,8,8,8,8,8,8,8,8,8,8,8,8,8,8,8,8,8,8,8,8,8,8,8,8,8,8,8,8,8,8,8,8,8,8,8,8,8,8,8,8,8,8,8,8,8,8,8,8,8,8,8,8,8,8,8,8,8,8,8,8,8,8,8,8,8,8,8,8,8,8,8]⟩)
theorem aKG:((List.range 256).map λx:Nat=>tQ U3 (.int .u8 (x:Int)))=(List.range 256).map λx:Nat=>some (.int .u8 (len8 x:Int)):=by kernel_rfl
theorem aKH {x:Nat} (h:x<256):tQ U3 (.int .u8 (x:Int))=some (.int .u8 (len8 x:Int)):=by
 have:=congrArg (λl=>l[x]?) aKG
 simpa [h] using this
theorem aCQ {x:Nat} (h:0<x):1<=len8 x/\2^(len8 x-1)<=x/\x<2^len8 x:=by
 unfold len8
 rw [if_neg (by omega)]
 refine ⟨by omega,?_,Nat.lt_log2_self⟩
 rw [Nat.add_sub_cancel]
 exact Nat.log2_self_le (by omega)
theorem aon {x:Nat} {h:ae} {K:Value->ae->Prop} (h0:0<x) (hx:x<4294967296) (hk:∀n:Nat,1<=n->n<=32->2^(n-1)<=x->x<2^n->K (I n) h):ay prog 105 [.int .u32 (x:Int)] h K:=by
 refine f105 ?_
 have last:∀{y n0:Nat},0<y->y<256->n0<=24->2^n0*y<=x->x<2^n0*(y+1)->Jh prog K (.int .u32 (y:Int)) (I n0) h:=by
  intro y n0 y0 aMi oB fO kE
  rw [aDI]
  have cv:dI .u8 (.int .u32 (y:Int))=some (.int .u8 (y:Int)):=by
   rw [nU];congr 2
   have e:IntKind.wrap .u8 (y:Int)=(y:Int)%256:=by simp [IntKind.wrap,IntKind.bits,IntKind.signed]
   rw [e];omega
  obtain ⟨l1,l2,l3⟩:=aCQ y0
  have l8:len8 y<=8:=by
   apply byContradiction
   intro hn
   have:2^8<=2^(len8 y-1):=pow_le_pow_right (by decide) (by omega)
   omega
  have ix:=aKH aMi
  have w1:dI .i64 (.int .u8 (len8 y:Int))=some (I (len8 y)):=by rw [nU,wrap64 (by omega) (by omega)]
  have w2:aj .add (I n0) (I (len8 y))=some (I (n0+len8 y:Nat)):=by rw [b7,wrap64 (by omega) (by omega)];congr 2 <;> omega
  unfold U3 at ix
  rw [cv,ah,ix,ah,w1,ah,w2,ah]
  refine hk _ (by omega) (by omega) ?_ ?_
  ·rw [show n0+len8 y-1=n0+(len8 y-1) by omega,pow_add]
   exact Nat.le_trans (mul_le_mul_left _ l2) fO
  ·rw [pow_add]
   exact lt_of_lt_of_le kE (mul_le_mul_left _ l3)
 have mid:∀{y n0:Nat},0<y->y<65536->n0<=16->2^n0*y<=x->x<2^n0*(y+1)->Jg prog K (.int .u32 (y:Int)) (I n0) h:=by
  intro y n0 y0 y65 oB fO kE
  rw [aDH]
  simp only [om,ah,ca]
  refine ⟨λcJ=>?_,λaw=>last y0 (by omega) (by omega) fO kE⟩
  have sh:aj .shr (.int .u32 (y:Int)) (.int .u64 8)=some (.int .u32 ((y / 2^8:Nat):Int)):=UX .u32 .u64 (n:=8) (by decide) (by decide)
  have w2:aj .add (I n0) (.int .i64 8)=some (I (n0+8:Nat)):=by rw [b7,wrap64 (by omega) (by omega)];congr 2
  simp only [sh,ah,w2]
  have mB:=div_add_mod y 256
  have tL:=mod_lt y (show 0<256 by decide)
  refine last (y:=y / 2^8) (by omega) (by omega) (by omega) ?_ ?_
  ·rw [pow_add,mul_assoc]
   exact Nat.le_trans (mul_le_mul_left _ (by omega)) fO
  ·rw [pow_add,mul_assoc]
   exact lt_of_lt_of_le kE (mul_le_mul_left _ (by omega))
 unfold LI
 simp only [om,ah,ca]
 refine ⟨λcJ=>?_,λaw=>mid (n0:=0) h0 (by omega) (by decide) (by simp) (by simp)⟩
 have sh:aj .shr (.int .u32 (x:Int)) (.int .u64 16)=some (.int .u32 ((x / 2^16:Nat):Int)):=UX .u32 .u64 (n:=16) (by decide) (by decide)
 simp only [sh,ah]
 have mB:=div_add_mod x 65536
 have tL:=mod_lt x (show 0<65536 by decide)
 exact mid (n0:=16) (y:=x / 2^16) (by omega) (by omega) (by decide) (by omega) (by omega)
theorem aoz {x:Nat} {h:ae} {K:Value->ae->Prop} (h0:0<x) (hx:x<4294967296) (hk:∀s:Nat,s<=31->2147483648<=x*2^s->x*2^s<4294967296->K (I s) h):ay prog 140 [.int .u32 (x:Int)] h K:=by
 refine f140 ?_
 unfold L9
 refine aon h0 hx ?_
 intro n h1 h32 fO kE
 have e:aj .sub (.int .i64 32) (I n)=some (I (32-n:Nat)):=by rw [iD,wrap64 (by omega) (by omega)];congr 2;omega
 simp only [e,ah]
 have p1:2^(n-1)*2^(32-n)=2147483648:=by rw [<-pow_add,show n-1+(32-n)=31 by omega]
 have p2:2^n*2^(32-n)=4294967296:=by rw [<-pow_add,show n+(32-n)=32 by omega]
 refine hk _ (by omega) ?_ ?_
 ·rw [<-p1];exact mul_le_mul_right _ fO
 ·rw [<-p2];exact Nat.mul_lt_mul_of_pos_right kE (pow_pos (by decide))
end
section
theorem JJ {s:Nat} (hs:s<=31):(4294967296:Nat)=2^s*2^(32-s):=by rw [<-pow_add,show s+(32-s)=32 by omega]
theorem aKW {s x:Nat} (hs:s<=31) (hx:x<4294967296):(∃q,x*2^s%4294967296=2^s*q)/\x*2^s / 4294967296<2^s:=by
 have e:=JJ hs
 have p0:0<2^s:=pow_pos (by decide)
 refine ⟨⟨x%2^(32-s),?_⟩,?_⟩
 ·rw [e,mul_comm x,Nat.mul_mod_mul_left]
 ·rw [Nat.div_lt_iff_lt_mul (by decide),mul_comm x]
  exact Nat.mul_lt_mul_of_pos_left hx p0
theorem aKX {P c t d e X Y:Nat} (h1:X+P*c=Y+P*(d+c)) (h2:4294967296*e+d=t):X+P*4294967296*e=Y+P*t:=by
 rw [<-h2]
 grind
theorem VX {v:Value} {xs:List Nat} {s:Nat} {h:ae} {K:Value->ae->Prop} (hx:DS 152 .u32 h v xs) (lx:dF 4294967296 xs) (hs:s<=31) (hl:xs.length<=200)
  (hk:∀os,os.length=xs.length+1->dF 4294967296 os->val 4294967296 os=val 4294967296 xs*2^s->K (sl 152 h.length 0 (xs.length+1)) (hd h os)):ay prog 141 [v,I s] h K:=by
 refine f141 ?_
 have e1:IntKind.wrap .i64 ((xs.length:Int)+1)=((xs.length+1:Nat):Int):=by rw [wrap64 (by omega) (by omega)];omega
 simp only [Ma,hx.len,ah,b7,e1,zm (show xs.length+1<=1000 by omega),aL]
 have p0:0<2^s:=pow_pos (by decide)
 refine cN (σ:=List Nat×Nat) (λp=>[I p.2]) (λp=>hd h p.1) (λp=>p.2<=xs.length/\p.1.length=xs.length+1/\dF 4294967296 p.1/\val 4294967296 p.1=val 4294967296 (xs.take p.2)*2^s/\
   (∀k,p.2<k->k<=xs.length->p.1[k]?=some 0)/\∃c,p.1[p.2]?=some c/\c<2^s) (λp=>xs.length-p.2)
  (replicate (xs.length+1) 0,0) rfl rfl ⟨zero_le _,by simp,dF.wc (by decide) _,by simp [xk,val],λk _ (h2:k<=xs.length)=>by rw [List.getElem?_replicate,if_pos (by omega)],0,by simp,p0⟩ ?_
 rintro ⟨os,i⟩ ⟨hi,jt,lo,dD,hz,c,hc,mP⟩ L hL
 simp only at hi jt lo dD hz hc mP hL⊢
 rw [aEp]
 simp only [bW,ah,ca]
 refine ⟨λaw=>?_,λcJ=>?_⟩
 ·have gS:i<xs.length:=by omega
  obtain ⟨b,r1,r2⟩:=hx.get gS
  have wS:=lx _ (getElem_mem gS)
  have tx:=jS 4294967296 xs gS
  have UD:af false 1 (hd h os) (pt b i)=some (.int .u32 (xs[i]:Int)):=(lE h os).load r2
  generalize xs[i]=x at*
  obtain ⟨⟨q,hq⟩,CW⟩:=aKW hs wS
  have hcv:os[i]'(by omega)=c:=by
   rw [getElem?_eq_getElem (by omega)] at hc
   injection hc
  have ld:=aet (h:=h) (os:=os) (j:=i) (by omega)
  rw [hcv] at ld
  have hqb:2^s*q<4294967296:=by rw [<-hq];exact mod_lt _ (by decide)
  have hqc:2^s*q+c<4294967296:=by
   have e:=JJ hs
   have h3:q<2^(32-s):=by
    apply byContradiction
    intro hn
    have:2^s*2^(32-s)<=2^s*q:=mul_le_mul_left _ (by omega)
    omega
   have h4:2^s*(q+1)<=2^s*2^(32-s):=mul_le_mul_left _ (by omega)
   rw [mul_add] at h4
   omega
  have ea:aD 1 (sl 152 h.length 0 (xs.length+1)) (I i)=some (pt h.length i):=jL (by omega)
  have ea2:aD 1 (sl 152 h.length 0 (xs.length+1)) (I (i+1:Nat))=some (pt h.length (i+1)):=jL (by omega)
  have hmd:=div_add_mod (x*2^s) 4294967296
  have tD:x*2^s / 4294967296<4294967296:=by
   have:2^s<=2^31:=pow_le_pow_right (by decide) hs
   omega
  have wi:IntKind.wrap .i64 ((i:Int)+1)=((i+1:Nat):Int):=by rw [wrap64 (by omega) (by omega)];omega
  simp only [r1,UD,ah,sY wS,aKq .i64 (show s<32 by omega) wS,ea,ld,Cj,hq,aDs hs mP hqb,uT _ (show i<os.length by omega),aL,b7,wi,zH,ea2,mod_eq_of_lt tD,
   uT _ (show i+1<(os.set i (2^s*q+c)).length by rw [length_set];omega),true_and]
  have v1:=sM 4294967296 os i (2^s*q+c) (by omega)
  have v2:=sM 4294967296 (os.set i (2^s*q+c)) (i+1) (x*2^s / 4294967296) (by rw [length_set];omega)
  have pU:=hz (i+1) (by omega) (by omega)
  have oF:(os.set i (2^s*q+c))[i+1]'(by rw [length_set];omega)=0:=by
   rw [List.getElem_set_ne (by omega)]
   rw [getElem?_eq_getElem (by omega)] at pU
   injection pU
  rw [hcv] at v1
  rw [oF,mul_zero,add_zero,pow_succ] at v2
  rw [hq] at hmd
  refine hL ((os.set i (2^s*q+c)).set (i+1) (x*2^s / 4294967296),i+1) ⟨by show i+1<=_;omega,by simp [jt],(lo.set hqc i).set tD (i+1),?_,λk h1 h2=>?_,_,List.getElem?_set_self (by rw [length_set];omega),CW⟩ (by show xs.length-(i+1)<xs.length-i;omega)
  ·show val 4294967296 ((os.set i (2^s*q+c)).set (i+1) (x*2^s / 4294967296))=val 4294967296 (xs.take (i+1))*2^s
   rw [v2,aKX v1 hmd,tx,add_mul,<-dD,mul_assoc (4294967296^i) x]
  ·have h1:i+1<k:=h1
   rw [getElem?_set_ne (by omega),getElem?_set_ne (by omega)]
   exact hz k (by omega) h2
 ·have P9:i=xs.length:=by omega
  subst P9
  rw [take_length] at dD
  rw [aEo]
  exact hk os jt lo dD
theorem Ki (B:Nat) (xs:List Nat) {i:Nat} (hi:i<=xs.length):val B xs=val B (xs.take i)+B^i*val B (xs.drop i):=by
 have:=oT B (xs.take i) (xs.drop i)
 rwa [List.take_append_drop,length_take,min_eq_left hi] at this
theorem azx {s x y Z:Nat} (hs:s<=31):(x+4294967296*(y+4294967296*Z)) / 2^s%4294967296=(x+y*4294967296) / 2^s%4294967296:=by
 have e:=JJ hs
 have p0:0<2^s:=pow_pos (by decide)
 have:x+4294967296*(y+4294967296*Z)=x+y*4294967296+2^s*(4294967296*(2^(32-s)*Z)):=by
  generalize 2^s=a at*
  generalize 2^(32-s)=b at*
  grind
 rw [this,Nat.add_mul_div_left _ _ p0,Nat.add_mul_mod_self_left]
theorem aoB {v:Value} {xs:List Nat} {s:Nat} {h:ae} {K:Value->ae->Prop} (hx:DS 152 .u32 h v xs) (lx:dF 4294967296 xs) (hs:s<=31) (hl:xs.length<=200)
  (hk:∀v' h',EX h h'->fm h' v' (val 4294967296 xs / 2^s)->K v' h'):ay prog 143 [v,I s] h K:=by
 refine f143 ?_
 simp only [Mc,hx.len,ah,zm (show xs.length<=1000 by omega),aL]
 refine cN (σ:=List Nat×Nat) (λp=>[I p.2]) (λp=>hd h p.1) (λp=>p.2<=xs.length/\p.1.length=xs.length/\dF 4294967296 p.1/\val 4294967296 p.1=val 4294967296 xs / 2^s%4294967296^p.2/\
   ∀k,p.2<=k->k<xs.length->p.1[k]?=some 0) (λp=>xs.length-p.2)
  (replicate xs.length 0,0) rfl rfl ⟨zero_le _,by simp,dF.wc (by decide) _,by simp [xk,Nat.mod_one],λk _ (h2:k<xs.length)=>by rw [List.getElem?_replicate,if_pos h2]⟩ ?_
 rintro ⟨os,i⟩ ⟨hi,jt,lo,dD,hz⟩ L hL
 simp only at hi jt lo dD hz hL⊢
 rw [aEA]
 simp only [bW,ah,ca]
 refine ⟨λaw=>?_,λcJ=>?_⟩
 ·have gS:i<xs.length:=by omega
  obtain ⟨b,r1,r2⟩:=hx.get gS
  have wS:=lx _ (getElem_mem gS)
  have UD:af false 1 (hd h os) (pt b i)=some (.int .u32 (xs[i]:Int)):=(lE h os).load r2
  have wi:IntKind.wrap .i64 ((i:Int)+1)=((i+1:Nat):Int):=by rw [wrap64 (by omega) (by omega)];omega
  have ea:aD 1 (sl 152 h.length 0 xs.length) (I i)=some (pt h.length i):=jL (by omega)
  -- BA j6 Hv is
  have fin:∀t:Nat,t / 2^s%4294967296=val 4294967296 (xs.drop i) / 2^s%4294967296->Jk prog K v (I s) (sl 152 h.length 0 xs.length) (I i) (.int .u64 (t:Int)) (I xs.length) (I i) L (hd h os):=by
   intro t ht
   rw [aEx]
   simp only [UX .u64 .i64 (s:=t) (n:=s) (by have:IntKind.u64.bits=64:=rfl;omega) (by omega),ah,Cj,ea,uT _ (show i<os.length by omega),aL,aEy,b7,wi,true_and]
   have tD:t / 2^s%4294967296<4294967296:=mod_lt _ (by decide)
   refine hL (os.set i (t / 2^s%4294967296),i+1) ⟨by show i+1<=_;omega,by simp [jt],lo.set tD i,?_,λk h1 h2=>?_⟩ (by show xs.length-(i+1)<xs.length-i;omega)
   ·show val 4294967296 (os.set i (t / 2^s%4294967296))=val 4294967296 xs / 2^s%4294967296^(i+1)
    have v1:=sM 4294967296 os i (t / 2^s%4294967296) (by omega)
    have pU:=hz i (le_refl _) gS
    have oF:os[i]'(by omega)=0:=by
     rw [getElem?_eq_getElem (by omega)] at pU
     injection pU
    rw [oF,mul_zero,add_zero,dD] at v1
    rw [v1,ht,Nat.mod_pow_succ,Nat.div_div_eq_div_mul,mul_comm (2^s),<-Nat.div_div_eq_div_mul]
    congr 3
    rw [Ki 4294967296 xs hi]
    have yJ:=nI (xs:=xs.take i) (lx.mono λy hy=>mem_of_mem_take hy)
    rw [length_take,min_eq_left hi] at yJ
    have hB:0<4294967296^i:=pow_pos (by decide)
    rw [Nat.add_mul_div_left _ _ hB,Nat.div_eq_of_lt yJ,zero_add]
   ·have h1:i+1<=k:=h1
    rw [getElem?_set_ne (by omega)]
    exact hz k (by omega) h2
  have ed:xs.drop i=xs[i]::xs.drop (i+1):=drop_eq_getElem_cons gS
  simp only [r1,UD,ah,sY wS,b7,wi,hx.len,bW,ca]
  refine ⟨λdR=>?_,λaeC=>?_⟩
  ·have Qb:i+1<xs.length:=by omega
   obtain ⟨b2,s1,s2⟩:=hx.get Qb
   have qq:=lx _ (getElem_mem Qb)
   have s2':af false 1 (hd h os) (pt b2 (i+1))=some (.int .u32 (xs[i+1]:Int)):=(lE h os).load s2
   have eor:aj .or (.int .u64 (xs[i]:Int)) (.int .u64 ((xs[i+1]*4294967296:Nat):Int))=some (.int .u64 ((xs[i]+xs[i+1]*4294967296:Nat):Int)):=by
    have:=Jf qq wS
    simp only [aj,jE,if_true] at this⊢
    rw [BitVec.or_comm,this,Nat.add_comm]
   simp only [s1,s2',ah,sY qq,JZ qq,eor]
   refine fin _ ?_
   rw [ed,drop_eq_getElem_cons Qb]
   simp only [val]
   rw [azx hs]
  ·refine fin _ ?_
   rw [ed,List.drop_eq_nil_of_le (by omega)]
   simp [val]
 ·have P9:i=xs.length:=by omega
  subst P9
  have aw:val 4294967296 xs / 2^s<4294967296^xs.length:=Nat.lt_of_le_of_lt (Nat.div_le_self ..) (nI lx)
  rw [mod_eq_of_lt aw] at dD
  rw [aEz]
  have wH:DS 152 .u32 (hd h os) (sl 152 h.length 0 xs.length) os:=by rw [<-jt];exact yz h os
  refine sQ wH lo (by omega) ?_
  intro v' oE
  rw [dD] at oE
  exact hk v' _ (lE h os) oE
end
section
theorem azv {A Q V low D P:Nat} (hA:A=low+P*D+Q*V):A=low+P*(D%V)+(Q+P*(D / V))*V:=by
 have:=div_add_mod D V
 have e:P*(V*(D / V)+D%V)=P*D:=by rw [this]
 rw [hA,add_mul]
 have e2:P*(V*(D / V)+D%V)=P*(D / V)*V+P*(D%V):=by grind
 omega
theorem aKJ {B n U l d:Nat} (h:U=l+B^n*d) (hU:U<B^n):d=0:=by
 apply byContradiction
 intro bY
 have:B^n*1<=B^n*d:=mul_le_mul_left _ (by omega)
 generalize B^n=Z at*
 omega
theorem aKO {B j m U V L D X T:Nat} (h1:U=L+B^j*D) (h2:D=X+B^(m+3)*T) (hV:V<B^(m+2)) (hB:0<B) (aw:U<V*B^(j+1)):T=0:=by
 apply byContradiction
 intro bY
 have a1:B^(m+3)*1<=B^(m+3)*T:=mul_le_mul_left _ (by omega)
 have a2:B^j*B^(m+3)<=B^j*D:=mul_le_mul_left _ (by rw [h2];generalize B^(m+3)*T=z at*;omega)
 have a3:V*B^(j+1)<B^(m+2)*B^(j+1):=Nat.mul_lt_mul_of_pos_right hV (pow_pos hB)
 rw [<-pow_add] at a2 a3
 rw [show m+2+(j+1)=j+(m+3) by omega] at a3
 generalize B^(j+(m+3))=z at*
 generalize V*B^(j+1)=w at*
 generalize B^j*D=y at*
 omega
theorem aut {B j V L D U:Nat} (h1:U=L+B^j*D) (aw:U<V*B^(j+1)):D<V*B:=by
 apply byContradiction
 intro bY
 have a1:B^j*(V*B)<=B^j*D:=mul_le_mul_left _ (by omega)
 have a2:V*B^(j+1)=B^j*(V*B):=by
  rw [pow_succ]
  generalize B^j=z
  rw [<-mul_assoc,mul_comm _ z,mul_assoc]
 rw [a2] at aw
 generalize B^j*(V*B)=w at*
 generalize B^j*D=y at*
 omega
theorem aCP {B j L r V:Nat} (hL:L<B^j) (hr:r<V):L+B^j*r<V*B^j:=by
 have:B^j*(r+1)<=B^j*V:=mul_le_mul_left _ hr
 rw [mul_add,Nat.mul_one] at this
 rw [mul_comm V]
 generalize B^j*V=w at*
 generalize B^j*r=y at*
 generalize B^j=z at*
 omega
theorem aDi {n b s top:Nat} {vs ys:List Nat} (cv:eL 4294967296 vs) (ly:dF 4294967296 ys) (hn:ys.length=n+1) (sm:ys[n]?=some top) (hb:val 4294967296 ys=b) (hv:val 4294967296 vs=b*2^s) (hs:s<=31) (h1:2147483648<=top*2^s) (h2:top*2^s<4294967296):
  vs.length=n+1/\∃v1,vs[n]?=some v1/\2147483648<=v1:=by
 have te:ys[n]'(by omega)=top:=by
  rw [getElem?_eq_getElem (by omega)] at sm
  injection sm
 have tv:=jS 4294967296 ys (i:=n) (by omega)
 rw [take_of_length_le (by omega),te,hb] at tv
 have yJ:=nI (xs:=ys.take n) (ly.mono λy hy=>mem_of_mem_take hy)
 rw [length_take,min_eq_left (by omega)] at yJ
 generalize val 4294967296 (ys.take n)=l at*
 have hP:0<4294967296^n:=pow_pos (by decide)
 have fO:2147483648*4294967296^n<=b*2^s:=by
  have e1:top*2^s*4294967296^n<=b*2^s:=by
   rw [tv,add_mul]
   have:4294967296^n*top*2^s=top*2^s*4294967296^n:=by
    rw [mul_assoc,mul_comm]
   omega
  exact Nat.le_trans (mul_le_mul_right _ h1) e1
 have kE:b*2^s<4294967296^(n+1):=by
  have e:=JJ hs
  have p0:0<2^s:=pow_pos (by decide)
  have t1:top+1<=2^(32-s):=by
   apply byContradiction
   intro hn
   have:2^s*2^(32-s)<=2^s*top:=mul_le_mul_left _ (by omega)
   rw [mul_comm (2^s) top] at this
   omega
  have t2:b<(top+1)*4294967296^n:=by
   rw [tv,add_mul,Nat.one_mul,mul_comm top]
   omega
  have t3:b*2^s<(top+1)*4294967296^n*2^s:=Nat.mul_lt_mul_of_pos_right t2 p0
  have t4:(top+1)*4294967296^n*2^s<=2^(32-s)*4294967296^n*2^s:=mul_le_mul_right _ (mul_le_mul_right _ t1)
  have t5:2^(32-s)*4294967296^n*2^s=4294967296^n*(2^s*2^(32-s)):=by
   generalize 2^(32-s)=x
   generalize 2^s=y
   generalize 4294967296^n=z
   grind
  rw [t5,<-e,<-pow_succ] at t4
  omega
 have hle:vs.length<=n+1:=cv.len (by decide) (by rw [hv];exact kE)
 have cJ:n<vs.length:=by
  have h3:=nI cv.1
  rw [hv] at h3
  have h4:4294967296^n<4294967296^vs.length:=by
   have:1*4294967296^n<=2147483648*4294967296^n:=mul_le_mul_right _ (by decide)
   omega
  exact (Nat.pow_lt_pow_iff_right (by decide)).1 h4
 refine ⟨by omega,vs[n],getElem?_eq_getElem cJ,?_⟩
 have t2:=jS 4294967296 vs (i:=n) cJ
 rw [take_of_length_le (by omega),hv] at t2
 have tJ:=nI (xs:=vs.take n) (cv.1.mono λy hy=>mem_of_mem_take hy)
 rw [length_take,min_eq_left (by omega)] at tJ
 apply byContradiction
 intro hc
 have:4294967296^n*(vs[n]+1)<=4294967296^n*2147483648:=mul_le_mul_left _ (by omega)
 rw [mul_add,Nat.mul_one,mul_comm _ 2147483648] at this
 omega
theorem aKu {id N l r:Nat} (h1:l<=r) (h2:r<=N):fP 152 1 (sl 152 id 0 N) (some (I l)) (some (I r))=some (sl 152 id l (r-l)):=by
 simp [fP,sl,mE,od,h1,h2]
theorem aKv {id N r:Nat} (h2:r<=N):fP 152 1 (sl 152 id 0 N) none (some (I r))=some (sl 152 id 0 r):=by
 simp [fP,sl,mE,od,h2]
section
variable {h : ae} {K : Value -> ae -> Prop}
theorem aow {g:ae} {id iq iv m s nq A:Nat} {vs us:List Nat} {rest:List Value} {v1:Nat} (iG:h.length<=id) (Ig:h.length<=iq) (bY:iv≠id) (aBd:iv≠iq) (aeZ:id≠iq) (hn:vs.length=m+2) (hm:m<=1000) (hs:s<=31)
  (lv:dF 4294967296 vs) (sr:vs[m+1]?=some v1) (kE:2147483648<=v1) (tN:us.length=nq+1+(m+2)) (hnq:nq<=200) (hm2:m<=150) (lu:dF 4294967296 us) (hA:val 4294967296 us=A) (HU:A<val 4294967296 vs*4294967296^(nq+1))
  (hx:EX h g) (ku:g[id]?=some (.arr 152 (wv us))) (kq:g[iq]?=some (.arr 152 (wv (replicate (nq+1) 0)))) (kv:bw g iv=some (wv vs++rest))
  (hk:∀q r h',EX h h'->fm h' q (A / val 4294967296 vs)->fm h' r (A%val 4294967296 vs / 2^s)->K (.tuple #[q,r]) h'):
  bT [I nq] g λL1 xs hx=>Sa prog K (I s) (sl 152 iv 0 (m+2)) (sl 152 id 0 (nq+1+(m+2))) (I (m+2:Nat)) (sl 152 iq 0 (nq+1)) L1 xs hx:=by
 have V0:0<val 4294967296 vs:=by
  apply Nat.pos_of_ne_zero
  intro e
  rw [e,Nat.zero_mul] at HU
  omega
 have Vn:=nI lv
 rw [hn] at Vn
 refine cN (σ:=Nat×List Nat×List Nat×ae) (λp=>[I ((p.1:Int)-1)]) (λp=>p.2.2.2)
  (λp=>p.1<=nq+1/\EX h p.2.2.2/\p.2.1.length=nq+1+(m+2)/\dF 4294967296 p.2.1/\p.2.2.1.length=nq+1/\dF 4294967296 p.2.2.1/\(∀k,k<p.1->p.2.2.1[k]?=some 0)/\
   A=val 4294967296 p.2.1+val 4294967296 p.2.2.1*val 4294967296 vs/\val 4294967296 p.2.1<val 4294967296 vs*4294967296^p.1/\
   p.2.2.2[id]?=some (.arr 152 (wv p.2.1))/\p.2.2.2[iq]?=some (.arr 152 (wv p.2.2.1))/\bw p.2.2.2 iv=some (wv vs++rest)) (λp=>p.1)
  (nq+1,us,replicate (nq+1) 0,g) (by simp) rfl ⟨le_refl _,hx,tN,lu,by simp,dF.wc (by decide) _,λk (hk:k<nq+1)=>by rw [List.getElem?_replicate,if_pos hk],by show A=_;rw [hA,xk];simp,by show val 4294967296 us<_;rw [hA];exact HU,ku,kq,kv⟩ ?_
 clear ku kq kv hx lu hA tN us g
 rintro ⟨jn,us,qs,g⟩ ⟨kQ,hx,tN,lu,sf,lq,hz,hA,aw,ku,kq,kv⟩ L hL
 simp only at kQ hx tN lu sf lq hz hA aw ku kq kv hL⊢
 rw [aD4]
 simp only [om,ah,ca]
 refine ⟨λcJ=>?_,λkm=>?_⟩
 ·obtain ⟨j,rfl⟩:∃j,jn=j+1:=⟨jn-1,by omega⟩
  have ej:((j+1:Nat):Int)-1=(j:Int):=by omega
  have w1:aj .add (I j) (I (m+2:Nat))=some (I (j+(m+2):Nat)):=by rw [b7,wrap64 (by omega) (by omega)];congr 2
  have w2:aj .add (I (j+(m+2):Nat)) (.int .i64 1)=some (I (j+(m+3):Nat)):=by rw [b7,wrap64 (by omega) (by omega)];congr 2
  have w3:aj .sub (I j) (.int .i64 1)=some (I ((j:Int)-1)):=by rw [iD,wrap64 (by omega) (by omega)]
  have w4:j+(m+3)-j=m+3:=by omega
  rw [ej]
  simp only [w1,w2,ah,aKu (show j<=j+(m+3) by omega) (show j+(m+3)<=nq+1+(m+2) by omega),w4]
  have tD:((us.drop j).take (m+3)).length=m+3:=by rw [length_take,List.length_drop];omega
  have hud:∀k,k<=m+2->us[j+k]?=((us.drop j).take (m+3))[k]?:=by
   intro k hk
   rw [List.getElem?_take_of_lt (by omega),List.getElem?_drop]
  have lud:dF 4294967296 ((us.drop j).take (m+3)):=lu.mono λy hy=>List.mem_of_mem_drop (mem_of_mem_take hy)
  -- j6 number:BA is below,BA is aMp,and nothing aMk
  have wG:=Ki 4294967296 us (i:=j) (by omega)
  have P0:=Ki 4294967296 (us.drop j) (i:=m+3) (by rw [List.length_drop];omega)
  have yJ:=nI (xs:=us.take j) (lu.mono λy hy=>mem_of_mem_take hy)
  rw [length_take,min_eq_left (by omega)] at yJ
  have sm:val 4294967296 ((us.drop j).drop (m+3))=0:=aKO wG P0 Vn (by decide) aw
  rw [sm,mul_zero,add_zero] at P0
  rw [P0] at wG
  have tq:val 4294967296 ((us.drop j).take (m+3))<val 4294967296 vs*4294967296:=aut wG aw
  refine aoA ku kv bY hn hm tD (by omega) hud lud lv sr kE tq ?_
  intro rs hrl lr hrv
  have kq':(g.set id (.arr 152 (wv (mid us j rs))))[iq]?=some (.arr 152 (wv qs)):=by rw [getElem?_set_ne aeZ];exact kq
  have az2:aD 1 (sl 152 iq 0 (nq+1)) (I j)=some (pt iq j):=jL (by omega)
  simp only [az2,ah,BX _ kq' (show j<qs.length by omega),aL,w3,true_and]
  have CW:val 4294967296 ((us.drop j).take (m+3)) / val 4294967296 vs<4294967296:=by
   rw [Nat.div_lt_iff_lt_mul V0,mul_comm];exact tq
  have hmr:val 4294967296 (mid us j rs)=val 4294967296 (us.take j)+4294967296^j*(val 4294967296 ((us.drop j).take (m+3))%val 4294967296 vs):=by
   unfold mid
   rw [oT,oT,length_take,min_eq_left (by omega),hrv,hrl]
   have:us.drop (j+(m+3))=(us.drop j).drop (m+3):=by rw [List.drop_drop]
   rw [this,sm,mul_zero,add_zero]
  have pU:=hz j (by omega)
  have oF:qs[j]'(by omega)=0:=by
   rw [getElem?_eq_getElem (by omega)] at pU
   injection pU
  have Iq:=sM 4294967296 qs j (val 4294967296 ((us.drop j).take (m+3)) / val 4294967296 vs) (by omega)
  rw [oF,mul_zero,add_zero] at Iq
  have py:=mod_lt (val 4294967296 ((us.drop j).take (m+3))) V0
  refine hL (j,mid us j rs,qs.set j (val 4294967296 ((us.drop j).take (m+3)) / val 4294967296 vs),_) ⟨by show j<=_;omega,(hx.set iG _).set Ig _,by rw [Bi (by omega)];exact tN,?_,by rw [length_set];exact sf,lq.set CW j,λk hk=>?_,?_,?_,?_,gF kq',?_⟩ (by show j<j+1;omega)
  ·unfold mid
   exact (lu.mono λy hy=>mem_of_mem_take hy).append (lr.append (lu.mono λy hy=>List.mem_of_mem_drop hy))
  ·have hk:k<j:=hk
   rw [getElem?_set_ne (by omega)]
   exact hz k (by omega)
  ·show A=val 4294967296 (mid us j rs)+val 4294967296 (qs.set j _)*val 4294967296 vs
   rw [hmr,Iq]
   refine azv ?_
   rw [hA,wG]
  ·show val 4294967296 (mid us j rs)<val 4294967296 vs*4294967296^j
   rw [hmr]
   exact aCP yJ py
  ·rw [getElem?_set_ne aeZ.symm];exact gF ku
  ·rw [Cc aBd,Cc bY];exact kv
 ·have tI:jn=0:=by omega
  subst tI
  rw [Nat.pow_zero,Nat.mul_one] at aw
  have hQ:A / val 4294967296 vs=val 4294967296 qs:=by rw [hA,Nat.add_mul_div_right _ _ V0,Nat.div_eq_of_lt aw,zero_add]
  have hR:A%val 4294967296 vs=val 4294967296 us:=by rw [hA,Nat.add_mul_mod_self_right,mod_eq_of_lt aw]
  have hdq:DS 152 .u32 g (sl 152 iq 0 (nq+1)) qs:=.inr ⟨iq,by rw [sf],.inr ⟨[],by rw [List.append_nil];simp [bw,kq,wv]⟩⟩
  rw [aD5]
  refine sQ hdq lq (by omega) ?_
  intro q hq
  have QJ:val 4294967296 (us.take (m+2))=val 4294967296 us:=by
   have hd:=Ki 4294967296 us (i:=m+2) (by omega)
   have:val 4294967296 (us.drop (m+2))=0:=aKJ hd (Nat.lt_trans aw Vn)
   rw [this,mul_zero,add_zero] at hd
   exact hd.symm
  have hdu:DS 152 .u32 g (sl 152 id 0 (m+2)) (us.take (m+2)):=.inr ⟨id,by rw [length_take,min_eq_left (by omega)],.inr ⟨wv (us.drop (m+2)),by
   simp only [bw,ku]
   congr 1
   show wv us=wv (us.take (m+2))++wv (us.drop (m+2))
   unfold wv
   rw [<-List.map_append,List.take_append_drop]⟩⟩
  simp only [true_and,aKv (show m+2<=nq+1+(m+2) by omega),ah]
  refine sQ hdu (lu.mono λy hy=>mem_of_mem_take hy) (by rw [length_take];omega) ?_
  intro r0 sk
  rw [QJ] at sk
  obtain ⟨zs,dz,cz,hz⟩:=sk
  have lz:zs.length<=m+2:=cz.len (by decide) (by rw [hz];exact Nat.lt_trans aw Vn)
  refine aoB dz cz.1 hs (by omega) ?_
  intro r h' x' hr
  rw [hz,<-hR] at hr
  rw [<-hQ] at hq
  exact hk q r h' (hx.trans x') (hq.mono x') hr
end
end
section
theorem aKB {B a P Q s n l V:Nat} (ha:a<P*B^(n-1)) (hV:2147483648*P<=V) (hB:2^s<=2147483648) (hl:l=n) (hQ:Q=B^(n-1)) (_h:1<=n):a*2^s<V*Q:=by
 have _:=hl
 have h1:a*2^s<P*B^(n-1)*2^s:=Nat.mul_lt_mul_of_pos_right ha (pow_pos (by decide))
 have h2:P*B^(n-1)*2^s<=P*B^(n-1)*2147483648:=mul_le_mul_left _ hB
 have h3:2147483648*P*B^(n-1)<=V*B^(n-1):=mul_le_mul_right _ hV
 have e:P*B^(n-1)*2147483648=2147483648*P*B^(n-1):=by
  generalize B^(n-1)=z
  rw [mul_comm,<-mul_assoc]
 rw [hQ]
 generalize V*B^(n-1)=x at*
 omega
theorem VR {va vb:Value} {a b:Nat} {h:ae} {K:Value->ae->Prop} (ha:fm h va a) (hb:fm h vb b) (la:a<dN) (lb:b<dN) (b0:0<b) (hk:∀q r h',EX h h'->fm h' q (a / b)->fm h' r (a%b)->K (.tuple #[q,r]) h'):
  ay prog 124 [va,vb] h K:=by
 by_cases hbw:b<4294967296
 ·exact aot ha hb la b0 hbw hk
 refine f124 ?_
 unfold Fy
 refine Kz ha hb la lb ?_
 simp only [bW,ah,ca]
 refine ⟨λaw=>?_,λcJ=>?_⟩
 ·have gQ:=JX.1 aw
  have ov:=ha
  obtain ⟨xs,d,c,rfl⟩:=ha
  obtain ⟨s1,s2⟩:=d.cells
  have lx:=qc c la
  have hq:∀g,fm g (.slice none 0 0) (val 4294967296 xs / b):=λg=>⟨[],DS.nil _ _ _,⟨λx hx=>by simp at hx,by simp⟩,by rw [Nat.div_eq_of_lt gQ];rfl⟩
  by_cases h0:xs.length=0
  ·have e:cT 152 1 4 h (.slice none 0 0) va=some (.slice none 0 0,h):=by
    simp only [cT,s1,s2]
    rw [if_pos h0]
   simp only [e,aL]
   have:xs=[]:=List.length_eq_zero_iff.1 h0
   subst this
   exact hk _ _ h (EX.refl h) (hq h) ⟨[],DS.nil _ _ _,c,by rw [mod_eq_of_lt gQ]⟩
  ·have e:cT 152 1 4 h (.slice none 0 0) va=some (sl 152 h.length 0 xs.length,h++[.arr 152 (xs.map λd:Nat=>Value.int .u32 (d:Int))]):=by
    simp only [cT,s1,s2]
    rw [if_neg h0,if_pos ⟨by omega,by unfold maxLen;omega⟩]
   simp only [e,aL]
   refine hk _ _ _ (EX.append _ _) (hq _) ⟨xs,.inr ⟨h.length,rfl,.inr ⟨[],?_⟩⟩,c,by rw [mod_eq_of_lt gQ]⟩
   simp [bw]
 have gQ:b<=a:=by
  apply byContradiction
  intro hc
  exact cJ (JX.2 (by omega))
 obtain ⟨xs,dx,cx,QP⟩:=ha
 obtain ⟨ys,dy,cy,qq⟩:=hb
 have lx:=qc cx (by rw [QP];exact la)
 have ly:=qc cy (by rw [qq];exact lb)
 have kS:=nI cy.1
 rw [qq] at kS
 obtain ⟨m,hm⟩:∃m,ys.length=m+2:=by
  refine ⟨ys.length-2,?_⟩
  have:¬ys.length<=1:=by
   intro h1
   have:4294967296^ys.length<=4294967296^1:=pow_le_pow_right (by decide) h1
   rw [Nat.pow_one] at this
   generalize 4294967296^ys.length=z at*
   omega
  omega
 have aBJ:ys≠[]:=by rintro rfl;simp at hm
 have afp:=eL.low (by decide) cy aBJ
 have iH:=nI cx.1
 rw [QP] at iH
 rw [qq] at afp
 have hlen:ys.length<=xs.length:=by
  have:4294967296^(ys.length-1)<4294967296^xs.length:=Nat.lt_of_le_of_lt afp (Nat.lt_of_le_of_lt gQ iH)
  have:=(Nat.pow_lt_pow_iff_right (show 1<4294967296 by decide)).1 this
  omega
 -- j6 aMv Hv
 obtain ⟨ib,g1,g2⟩:=dy.get (j:=m+1) (by omega)
 have sm:ys[m+1]?=some (ys[m+1]'(by omega)):=getElem?_eq_getElem (by omega)
 have Iv:=cy.1 _ (getElem_mem (l:=ys) (n:=m+1) (by omega))
 have vm:0<ys[m+1]'(by omega):=by
  apply Nat.pos_of_ne_zero
  intro e
  refine cy.2 ?_
  rw [List.getLast?_eq_getElem?,hm,show m+2-1=m+1 by omega,sm,e]
 have Rv:aT vb=some (I (m+2:Nat)):=by rw [dy.len,hm]
 have s1:aj .sub (I (m+2:Nat)) (.int .i64 1)=some (I (m+1:Nat)):=by rw [iD,wrap64 (by omega) (by omega)];congr 2;omega
 simp only [Rv,ah,jB,bX (show ¬(((m+2:Nat):Int)=1) by omega),dm,s1,g1,g2]
 generalize ys[m+1]'(by omega)=top at*
 refine aoz vm Iv ?_
 intro s hs h1 h2
 refine VX dy cy.1 hs (by omega) ?_
 intro jZ ol1 IN sr
 rw [qq] at sr
 have d1:DS 152 .u32 (hd h jZ) (sl 152 h.length 0 (ys.length+1)) jZ:=by rw [<-ol1];exact yz h jZ
 refine sQ d1 IN (by omega) ?_
 intro v' oE
 rw [sr] at oE
 obtain ⟨vs,dv,cv,yR⟩:=oE
 obtain ⟨rf,v1,QM,afk⟩:=aDi (n:=m+1) cv cy.1 hm sm qq yR hs h1 h2
 obtain ⟨iv,aA6,rest,kv⟩:∃i,v'=sl 152 i 0 (m+2)/\∃rest,bw (hd h jZ) i=some (wv vs++rest):=by
  rcases dv with ⟨_,h0⟩ | ⟨i,e1,e2⟩
  ·rw [h0] at rf;simp at rf
  ·rcases e2 with h0 | ⟨r,hr⟩
   ·rw [h0] at rf;simp at rf
   ·exact ⟨i,by rw [e1,rf],r,hr⟩
 subst aA6
 have aMF:iv<(hd h jZ).length:=by
  unfold bw at kv
  apply byContradiction
  intro hn
  rw [List.getElem?_eq_none (by omega)] at kv
  cases kv
 refine VX (dx.mono (lE h jZ)) cx.1 hs (by omega) ?_
 intro Bm ol2 IP pB
 rw [QP] at pB
 have x2:=lE (hd h jZ) Bm
 have k2:=P1 (hd h jZ) Bm
 have l2:(hd (hd h jZ) Bm).length=(hd h jZ).length+1:=by simp [hd]
 have kv2:=x2.cells kv
 have Dp:aT (sl 152 iv 0 (m+2))=some (I (m+2:Nat)):=rfl
 obtain ⟨nq,hnq⟩:∃nq,xs.length=nq+(m+2):=⟨xs.length-(m+2),by omega⟩
 have w1:aj .sub (I (xs.length:Nat)) (I (m+2:Nat))=some (I nq):=by rw [iD,wrap64 (by omega) (by omega)];congr 2;omega
 have w2:aj .add (I nq) (.int .i64 1)=some (I (nq+1:Nat)):=by rw [b7,wrap64 (by omega) (by omega)];congr 2
 simp only [Dp,ah,dx.len,w1,w2,zm (show nq+1<=1000 by omega),aL]
 have x3:=lE (hd (hd h jZ) Bm) (replicate (nq+1) 0)
 have k3:=P1 (hd (hd h jZ) Bm) (replicate (nq+1) 0)
 have Bb:=x3.get k2
 have kv3:=x3.cells kv2
 have xA:=(lE h jZ).trans (x2.trans x3)
 have CN:=(lE h jZ).1
 generalize hd (hd (hd h jZ) Bm) (replicate (nq+1) 0)=g3 at*
 have eN:xs.length+1=nq+1+(m+2):=by omega
 rw [eN]
 have aBy:2^s<=2147483648:=pow_le_pow_right (show 0<2 by decide) hs
 have aAI:2147483648*4294967296^(m+1)<=val 4294967296 vs:=by
  have tv:=jS 4294967296 vs (i:=m+1) (by omega)
  rw [take_of_length_le (by omega)] at tv
  have e1:vs[m+1]'(by omega)=v1:=by
   rw [getElem?_eq_getElem (by omega)] at QM
   injection QM
  rw [e1] at tv
  rw [tv,mul_comm]
  have:4294967296^(m+1)*2147483648<=4294967296^(m+1)*v1:=mul_le_mul_left _ afk
  generalize 4294967296^(m+1)*v1=z at*
  omega
 have HU:a*2^s<val 4294967296 vs*4294967296^(nq+1):=by
  have aBH:a<4294967296^(m+1)*4294967296^(nq+1):=by
   rw [<-pow_add,show m+1+(nq+1)=xs.length by omega];exact iH
  exact aKB (n:=nq+2) (l:=nq+2) (by simpa using aBH) aAI aBy rfl (by simp) (by omega)
 have X4:0<2^s:=pow_pos (by decide)
 refine aow (h:=h) (A:=a*2^s) (by omega) (by omega) (by omega) (by omega) (by omega) rf (by omega) hs cv.1 QM afk (by omega) (by omega) (by omega) IP pB HU xA Bb k3 kv3 ?_
 intro q r h' x' hq hr
 rw [yR,Nat.mul_div_mul_right _ _ X4] at hq
 rw [yR,Nat.mul_mod_mul_right,Nat.mul_div_cancel _ X4] at hr
 exact hk q r h' x' hq hr
end
section
def np (h:ae) (val:Value) (a b:Int):Prop:=∃u w,val=.agg #[B (decide (a<0)),u,B (decide (b<0)),w]/\fm h u a.natAbs/\fm h w b.natAbs
theorem Wc {va:Value} {a:Int} {h:ae} {K:Value->ae->Prop} (ha:fh h va a) (hk:∀r h',EX h h'->np h' r a 1->K r h'):ay prog 60 [va] h K:=by
 obtain ⟨v,rfl,hv⟩:=ha
 refine f60 ?_
 have e1:cR 90 h (.agg #[B (decide (a<0)),v])=some (pt h.length 0,h++[.arr 90 [B (decide (a<0)),v]]):=rfl
 have e2:∀g:ae,cF 92 [(.bool false),(.slice none 0 0),(.bool false),(.slice none 0 0)] g=some (pt g.length 0,g++[.arr 92 z4]):=λ_=>rfl
 simp only [M0,e1,e2,aL,length_append,length_cons,length_nil]
 have g0:(h++[az.arr 90 [B (decide (a<0)),v]]++[az.arr 92 z4])[h.length]?=some (.arr 90 [B (decide (a<0)),v]):=by simp
 have g1:(h++[az.arr 90 [B (decide (a<0)),v]]++[az.arr 92 z4])[h.length+1]?=some (.arr 92 z4):=by simp
 have x1:EX h (h++[az.arr 90 [B (decide (a<0)),v]]++[az.arr 92 z4]):=(EX.append _ _).push _
 generalize h++[az.arr 90 [B (decide (a<0)),v]]++[az.arr 92 z4]=h1 at g0 g1 x1⊢
 rw [fu g0]
 simp only [ah,true_and]
 refine EE (by decide) (by decide) ?_
 intro r2 h2 x2 i2
 obtain ⟨w,rfl,hw⟩:=id i2
 refine ⟨⟨EX.load x2 (fu g0),trivial⟩,?_⟩
 have pB:=(hv.mono x1).mono x2
 obtain ⟨xs,dx,cx⟩:=id pB
 obtain ⟨ys,dy,cy⟩:=id hw
 rw [NO dx dy]
 simp only [ah,zero_add]
 have g2:=x2.get g1
 exact tp g2 (hk _ _ ((x1.trans x2).set (by omega) _) ⟨v,w,rfl,pB.dK g2 _,hw.dK g2 _⟩)
theorem Wa {u w:Value} {s:Bool} {h:ae} {K:Value->ae->Prop} (hw:fm h w 1) (hk:∀h',EX h h'->K (B true) h'):ay prog 59 [.agg #[B s,u,B false,w]] h K:=by
 refine f59 ?_
 have e1:cR 92 h (.agg #[B s,u,B false,w])=some (pt h.length 0,h++[.arr 92 [B s,u,B false,w]]):=rfl
 simp only [Fz,e1,aL]
 have x1:EX h (h++[az.arr 92 [B s,u,B false,w]]):=EX.append _ _
 have l3:af false 1 (h++[az.arr 92 [B s,u,B false,w]]) (pt h.length 3)=some w:=sD rfl
 obtain ⟨xs,dx,cx,vx⟩:=hw.mono x1
 have QO:xs=[1]:=eL.unique (by decide) cx ⟨λy hy=>by simp at hy;subst hy;decide,by simp⟩ (by rw [vx];rfl)
 subst QO
 obtain ⟨i,g1,g2⟩:=dx.get (j:=0) (by simp)
 have yi:aD 1 w (I 0)=some (pt i 0):=g1
 simp only [cj,zero_add,ah,l3,dx.len,List.length_singleton,jB,Uz]
 rw [dh (show ((1:Nat):Int)=1 by rfl)]
 simp only [gK,ah,yi,g2,jB,UA,fy]
 exact hk _ x1
theorem C55 {va:Value} {a:Int} {h:ae} {K:Value->ae->Prop} (ha:np h va a 1) (la:a.natAbs<dN) (hk:∀h',EX h h'->K (.tuple #[S (kr a),I 0]) h'):ay prog 55 [va] h K:=by
 obtain ⟨u,w,rfl,hu,hw⟩:=ha
 refine f55 ?_
 have e1:cR 92 h (.agg #[B (decide (a<0)),u,B (decide ((1:Int)<0)),w])=some (pt h.length 0,h++[.arr 92 [B (decide (a<0)),u,B (decide ((1:Int)<0)),w]]):=rfl
 simp only [MW,e1,aL]
 have x1:EX h (h++[az.arr 92 [B (decide (a<0)),u,B (decide ((1:Int)<0)),w]]):=EX.append _ _
 have l1:af false 1 (h++[az.arr 92 [B (decide (a<0)),u,B (decide ((1:Int)<0)),w]]) (pt h.length 1)=some u:=sD rfl
 have l0:af false 1 (h++[az.arr 92 [B (decide (a<0)),u,B (decide ((1:Int)<0)),w]]) (pt h.length 0)=some (B (decide (a<0))):=sD rfl
 have g0:(h++[az.arr 92 [B (decide (a<0)),u,B (decide ((1:Int)<0)),w]])[h.length]?=some (.arr 92 [B (decide (a<0)),u,B (decide ((1:Int)<0)),w]):=bK
 generalize h++[az.arr 92 [B (decide (a<0)),u,B (decide ((1:Int)<0)),w]]=h1 at x1 l1 l0 g0⊢
 obtain ⟨d1,d2,d3,d4,d5⟩:=ady la
 simp only [cj,zero_add,add_zero,ah,l1]
 refine C81 (hu.mono x1) la ?_
 intro h2 x2
 simp only [af3,ah,gY,bX (show ¬((jO a.natAbs).length:Int)>4000 by omega),dm,EX.load x2 l0]
 have last:Jv prog K (pt h.length 0) (S (kr a)) h2:=by
  rw [aHM,ko (x2.get g0)]
  simp only [ah]
  refine Wa ((hw.mono x1).mono x2) ?_
  intro h3 x3
  simp only [gf]
  exact hk _ ((x1.trans x2).trans x3)
 by_cases km:a<0
 ·rw [dh km]
  have:kr a=45::jO a.natAbs:=by unfold kr;rw [if_pos km]
  have ad:aj .add (.string ⟨#[45]⟩) (S (jO a.natAbs))=some (S (kr a)):=by
   rw [this]
   exact NM (a:=[45]) (b:=jO a.natAbs) (by simp [maxLen];omega)
  simp only [gf,ad,ah]
  exact last
 ·rw [bX km]
  have:kr a=jO a.natAbs:=by unfold kr;rw [if_neg km]
  rw [this] at last
  simp only [dm]
  exact last
end
section
theorem np.mono {h h':ae} {v:Value} {a b:Int} (x:EX h h') (p:np h v a b):np h' v a b:=let ⟨u,w,e,m,n⟩:=p;⟨u,w,e,m.mono x,n.mono x⟩
theorem np.dK {h:ae} {v:Value} {a b:Int} {j:Nat} {e:TypeId} {s:Bool} {r:List Value} (p:np h v a b) (hj:h[j]?=some (.arr e (.bool s::r))) (o:az):np (h.set j o) v a b:=
 let ⟨u,w,e,m,n⟩:=p;⟨u,w,e,m.dK hj o,n.dK hj o⟩
theorem HE {h h':ae} {j:Nat} {va vb:Value} {a b:Int} {K:Value->ae->Prop} (ha:fh h' va a) (hb:fh h' vb b) (x:EX h h') (hj:h.length<=j) (hg:h'[j]?=some (.arr 92 z4)) (hk:∀r h',EX h h'->np h' r a b->K r h'):
  OP (eG [(.bool false),(.slice none 0 0),(.bool false),(.slice none 0 0)] [(0,2,va),(2,2,vb)]) λbH=>OH (aU 4 h' (pt j 0) bH) λ_ h_6=>OP (af true 4 h_6 (pt j 0)) λr0=>K r0 h_6:=by
 obtain ⟨v,rfl,hv⟩:=ha
 obtain ⟨w,rfl,hw⟩:=hb
 obtain ⟨xs,dx,_⟩:=id hv
 obtain ⟨ys,dy,_⟩:=id hw
 rw [NO dx dy]
 simp only [ah]
 exact tp hg (hk _ _ (x.set hj _) ⟨v,w,rfl,hv.dK hg _,hw.dK hg _⟩)
theorem C34 {n:Int} {h:ae} {K:Value->ae->Prop} (h1: -9223372036854775808<=n) (h2:n<9223372036854775808) (hk:∀r h',EX h h'->np h' r n 1->K r h'):ay prog 34 [I n] h K:=by
 refine f34 ?_
 have e1:cF 92 [(.bool false),(.slice none 0 0),(.bool false),(.slice none 0 0)] h=some (pt h.length 0,h++[.arr 92 z4]):=rfl
 simp only [MA,e1,aL]
 have x0:EX h (h++[.arr 92 z4]):=EX.append _ _
 have g0:(h++[az.arr 92 z4])[h.length]?=some (.arr 92 z4):=bK
 generalize h++[az.arr 92 z4]=ga at x0 g0⊢
 refine EE h1 h2 ?_
 intro r h3 x3 i3
 refine EE (by decide) (by decide) ?_
 intro s h4 x4 i4
 exact HE (i3.mono x4) i4 (x0.trans (x3.trans x4)) (le_refl _) ((x3.trans x4).get g0) hk
theorem aAs {a b:Int} (b0:0<b):0<(gcd a.natAbs b.natAbs:Int)/\(gcd a.natAbs b.natAbs:Int)<=b:=by
 have h1:0<gcd a.natAbs b.natAbs:=Nat.gcd_pos_of_pos_right _ (by omega)
 have h2:gcd a.natAbs b.natAbs<=b.natAbs:=Nat.gcd_le_right _ (by omega)
 omega
end
section
theorem EF {u w:Value} {s:Bool} {b:Nat} {h:ae} {K:Value->ae->Prop} (hw:fm h w b) (lb:b<dN) (hk:∀h',EX h h'->K (B (decide (b=1))) h'):ay prog 59 [.agg #[B s,u,B false,w]] h K:=by
 by_cases h1:b=1
 ·subst h1
  exact Wa hw hk
 rw [bX h1] at hk
 refine f59 ?_
 have e1:cR 92 h (.agg #[B s,u,B false,w])=some (pt h.length 0,h++[.arr 92 [B s,u,B false,w]]):=rfl
 simp only [Fz,e1,aL]
 have x1:EX h (h++[az.arr 92 [B s,u,B false,w]]):=EX.append _ _
 have l3:af false 1 (h++[az.arr 92 [B s,u,B false,w]]) (pt h.length 3)=some w:=sD rfl
 obtain ⟨xs,dx,cx,vx⟩:=hw.mono x1
 simp only [cj,zero_add,ah,l3,dx.len,jB]
 by_cases hl:xs.length=1
 ·obtain ⟨y,rfl⟩:∃y,xs=[y]:=by
   match xs,hl with
   | [y],_=>exact ⟨y,rfl⟩
  have hy:y=b:=by simpa [val] using vx
  subst hy
  obtain ⟨i,g1,g2⟩:=dx.get (j:=0) (by simp)
  have yi:aD 1 w (.int .i64 (0))=some (pt i 0):=g1
  rw [dh (show ((([y]:List Nat).length:Nat):Int)=1 from rfl),Uz]
  simp only [gK,cj,zero_add,ah,l3,yi,g2,List.getElem_cons_zero,jB]
  rw [bX (show ¬((y:Int)=1) by omega),UA]
  simp only [fy,ah]
  exact hk _ x1
 ·rw [bX (show ¬((xs.length:Int)=1) by omega),Uz]
  simp only [jd]
  rw [UA]
  simp only [dA,ah]
  exact hk _ x1
end
section
theorem aoW {va vb:Value} {a b:Int} {h:ae} {K:Value->ae->Prop} (ha:fh h va a) (hb:fh h vb b) (la:a.natAbs<dN) (lb:b.natAbs<dN) (hk:∀r h',EX h h'->fh h' r (gcd a.natAbs b.natAbs:Nat)->K r h'):ay prog 89 [va,vb] h K:=by
 obtain ⟨v,rfl,hv⟩:=ha
 obtain ⟨w,rfl,hw⟩:=hb
 refine f89 ?_
 unfold Ns
 refine FF ?_
 intro h3 x
 simp only [cj,zero_add,ah,x.a1,x.b1,true_and]
 refine cN (σ:=Value×Value×Nat×Nat×ae) (λq=>[q.1,q.2.1]) (λq=>q.2.2.2.2) (λq=>(fm q.2.2.2.2 q.1 q.2.2.1/\fm q.2.2.2.2 q.2.1 q.2.2.2.1)/\(q.2.2.1<dN/\q.2.2.2.1<dN)/\gcd q.2.2.1 q.2.2.2.1=gcd a.natAbs b.natAbs/\EX h3 q.2.2.2.2) (λq=>q.2.2.2.1)
  (v,w,a.natAbs,b.natAbs,h3) rfl rfl ⟨⟨hv.mono x.ex,hw.mono x.ex⟩,⟨la,lb⟩,rfl,EX.refl _⟩ ?_
 rintro ⟨vx,vy,m,n,g⟩ ⟨⟨hm,hn⟩,⟨lm,ln⟩,hg,xg⟩ L hL
 simp only at hm hn lm ln hg xg hL⊢
 rw [aIU]
 obtain ⟨l,e1,e2⟩:=hn.sC
 simp only [e1,ah,gY,ca]
 refine ⟨λhp=>?_,λhz=>?_⟩
 ·have n0:0<n:=e2.1 (by omega)
  refine VR hm hn lm ln n0 ?_
  intro q r g2 x2 hq hr
  simp only [fM,gi,gj,ah,true_and]
  have py:m%n<n:=mod_lt _ n0
  refine hL (vy,r,n,m%n,g2) ⟨⟨hn.mono x2,hr⟩,⟨ln,by show m%n<_;omega⟩,?_,xg.trans x2⟩ py
  show gcd n (m%n)=_
  rw [<-hg,Nat.gcd_comm m n,Nat.gcd_rec n m,Nat.gcd_comm]
 ·have n0:n=0:=by
   apply byContradiction
   intro bY
   have:=e2.2 (by omega)
   omega
  subst n0
  rw [aIT]
  rw [Nat.gcd_zero_right] at hg
  refine uk hm ?_
  intro h5 x5
  have g':=(xg.trans x5).get x.out
  rw [Bool.false_and]
  refine wA g' (hk _ _ (((x.ex.trans xg).trans x5).set (by omega) _) ?_)
  rw [<-hg]
  exact (fh.nat (hm.mono x5)).dK g' _
theorem Wn {va vb:Value} {a b:Int} {h:ae} {K:Value->ae->Prop} (ha:fh h va a) (hb:fh h vb b) (la:a.natAbs<dN) (b0:0<b) (lb:b.natAbs<dN) (hd:b ∣ a) (hk:∀r s h',EX h h'->fh h' r (a / b)->fh h' s 0->K (.tuple #[r,s]) h'):ay prog 90 [va,vb] h K:=by
 obtain ⟨v,rfl,hv⟩:=ha
 obtain ⟨w,rfl,hw⟩:=hb
 have QG:decide (b<0)=false:=bX (by omega)
 obtain ⟨c,rfl⟩:=hd
 have uU:b*c / b=c:=Int.mul_ediv_cancel_left c (by omega)
 rw [uU] at hk
 have gQ:(b*c).natAbs=b.natAbs*c.natAbs:=natAbs_mul b c
 have qf:0<b.natAbs:=by omega
 have hq:(b*c).natAbs / b.natAbs=c.natAbs:=by rw [gQ];exact Nat.mul_div_cancel_left _ qf
 have hr:(b*c).natAbs%b.natAbs=0:=by rw [gQ];exact Nat.mul_mod_right _ _
 have km:(decide (b*c<0)&&decide (0<c.natAbs))=decide (c<0):=by
  by_cases hc:c<0
  ·rw [dh hc,dh (show 0<c.natAbs by omega),dh (Int.mul_neg_of_pos_of_neg b0 hc)];rfl
  ·have:0<=b*c:=Int.mul_nonneg (by omega) (by omega)
   rw [bX hc,bX (by omega)];rfl
 refine f90 ?_
 have e1:∀(g:ae) (s:Bool) (v:Value),cR 90 g (.agg #[B s,v])=some (pt g.length 0,g++[.arr 90 [B s,v]]):=λ_ _ _=>rfl
 have e2:∀(g:ae),cF 90 [(.bool false),(.slice none 0 0)] g=some (pt g.length 0,g++[.arr 90 [(.bool false),(.slice none 0 0)]]):=λ_=>rfl
 have ob:∀{g:ae} {i:Nat},g[i]?=some (.arr 90 [(.bool false),(.slice none 0 0)])->eA g (pt i 0)=some (.agg #[.int .i64 90,.bool false,.slice none 0 0]):=by
  intro g i hi
  simp [eA,vA,hi,mN]
 rw [QG]
 simp only [Nt,e1,e2,aL]
 have q0:EX h (h++[.arr 90 [B (decide (b*c<0)),v]]):=EX.append _ _
 have p0:(h++[az.arr 90 [B (decide (b*c<0)),v]])[h.length]?=some (.arr 90 [B (decide (b*c<0)),v]):=bK
 generalize h++[az.arr 90 [B (decide (b*c<0)),v]]=ga at q0 p0⊢
 have q1:EX ga (ga++[.arr 90 [B false,w]]):=EX.append _ _
 have p1:(ga++[az.arr 90 [B false,w]])[ga.length]?=some (.arr 90 [B false,w]):=bK
 generalize ga++[az.arr 90 [B false,w]]=gb at q1 p1⊢
 have q2:EX gb (gb++[.arr 90 [(.bool false),(.slice none 0 0)]]):=EX.append _ _
 have p2:(gb++[az.arr 90 [(.bool false),(.slice none 0 0)]])[gb.length]?=some (.arr 90 [(.bool false),(.slice none 0 0)]):=bK
 generalize gb++[az.arr 90 [(.bool false),(.slice none 0 0)]]=gc at q2 p2⊢
 have q3:EX gc (gc++[.arr 90 [(.bool false),(.slice none 0 0)]]):=EX.append _ _
 have p3:(gc++[az.arr 90 [(.bool false),(.slice none 0 0)]])[gc.length]?=some (.arr 90 [(.bool false),(.slice none 0 0)]):=bK
 generalize gc++[az.arr 90 [(.bool false),(.slice none 0 0)]]=gd at q3 p3⊢
 have q13:=q1.trans (q2.trans q3)
 have DN:=q0.trans q13
 have k0:=q13.get p0
 have k1:=(q2.trans q3).get p1
 have k2:=q3.get p2
 have Bd:∀{g:ae},EX gd g->af false 1 g (pt h.length 1)=some v:=λx=>by simp [af,bw,x.get k0,dS]
 have II:∀{g:ae},EX gd g->af false 1 g (pt h.length 0)=some (B (decide (b*c<0))):=λx=>by simp [af,bw,x.get k0,dS]
 have lb1:∀{g:ae},EX gd g->af false 1 g (pt ga.length 1)=some w:=λx=>by simp [af,bw,x.get k1,dS]
 have Rq:∀{g:ae},EX gd g->af false 1 g (pt ga.length 0)=some (B false):=λx=>by simp [af,bw,x.get k1,dS]
 simp only [cj,zero_add,add_zero,ah,Bd (EX.refl gd),lb1 (EX.refl gd)]
 refine VR (hv.mono DN) (hw.mono DN) la lb qf ?_
 intro q r g5 x5 mq mr
 rw [hq] at mq
 rw [hr] at mr
 simp only [fM,gi,gj,ah]
 have y1:EX g5 (g5++[.arr 90 [(.bool false),(.slice none 0 0)]]):=EX.append _ _
 have s1:(g5++[az.arr 90 [(.bool false),(.slice none 0 0)]])[g5.length]?=some (.arr 90 [(.bool false),(.slice none 0 0)]):=bK
 have UZ:(g5++[az.arr 90 [(.bool false),(.slice none 0 0)]]).length=g5.length+1:=by simp
 generalize g5++[az.arr 90 [(.bool false),(.slice none 0 0)]]=g6 at y1 s1 UZ⊢
 have y2:EX g6 (g6++[.arr 90 [(.bool false),(.slice none 0 0)]]):=EX.append _ _
 have s2:(g6++[az.arr 90 [(.bool false),(.slice none 0 0)]])[g6.length]?=some (.arr 90 [(.bool false),(.slice none 0 0)]):=bK
 generalize g6++[az.arr 90 [(.bool false),(.slice none 0 0)]]=g7 at y2 s2⊢
 have UQ:=y2.get s1
 have Ew:=y1.trans y2
 have z5:=x5
 have z6:=x5.trans y1
 have z7:=x5.trans Ew
 simp only [ob s1,ob UQ,ob s2,ah,true_and,II z5,II z6,II z7,Rq z5,Rq z6,Rq z7,Cq,if_true]
 have hx:(!(decide (b*c<0)==false))=decide (b*c<0):=by cases decide (b*c<0) <;> rfl
 rw [hx]
 refine uk (mq.mono Ew) ?_
 intro g8 x8
 rw [km]
 simp only [ob (x8.get UQ),ob (x8.get s2),true_and,II (z7.trans x8),ah]
 refine uk ((mr.mono Ew).mono x8) ?_
 intro g9 x9
 have eP:=x8.trans x9
 have t1:=eP.get UQ
 have t2:=eP.get s2
 have bY:g5.length≠g6.length:=by omega
 simp only [ob t1,ob t2,true_and,bX (show ¬(0<0) by decide),Bool.and_false]
 rw [jm t1]
 simp only [aL]
 have Kc:(g9.set g5.length (.arr 90 [B (decide (c<0)),q]))[g6.length]?=some (.arr 90 [(.bool false),(.slice none 0 0)]):=by rw [getElem?_set_ne bY];exact t2
 rw [jm Kc]
 simp only [aL]
 obtain ⟨l,l1,l2⟩:=mr.sC
 have l0:l=0:=by
  apply byContradiction
  intro hc
  have:=l2.1 (by omega)
  omega
 subst l0
 simp only [l1,ah,gY]
 rw [bX (show ¬((0:Int)<((0:Nat):Int)) by decide)]
 rw [aIW]
 simp only [jd]
 rw [aIX]
 have pk:bu (B false) undef (.bool false)=some (B false):=rfl
 simp only [pk,ah,dm]
 rw [aIV]
 have u1:((g9.set g5.length (.arr 90 [B (decide (c<0)),q])).set g6.length (.arr 90 [B false,r]))[g5.length]?=some (.arr 90 [B (decide (c<0)),q]):=by
  rw [getElem?_set_ne (λe=>bY e.symm)];exact gF t1
 have u2:((g9.set g5.length (.arr 90 [B (decide (c<0)),q])).set g6.length (.arr 90 [B false,r]))[g6.length]?=some (.arr 90 [B false,r]):=gF Kc
 have hgd:gd.length<=g5.length:=x5.1
 have yS:EX h ((g9.set g5.length (.arr 90 [B (decide (c<0)),q])).set g6.length (.arr 90 [B false,r])):=
  (((DN.trans z7).trans eP).set (by have:=DN.1;omega) _).set (by have:=DN.1;omega) _
 have lgb:gb.length<gd.length:=by
  have:=(cm k2).1;exact this
 have lgc:gc.length<gd.length:=(cm p3).1
 have w2:((g9.set g5.length (.arr 90 [B (decide (c<0)),q])).set g6.length (.arr 90 [B false,r]))[gb.length]?=some (.arr 90 [(.bool false),(.slice none 0 0)]):=by
  rw [getElem?_set_ne (by omega),getElem?_set_ne (by omega)];exact (z7.trans eP).get k2
 have w3:((g9.set g5.length (.arr 90 [B (decide (c<0)),q])).set g6.length (.arr 90 [B false,r]))[gc.length]?=some (.arr 90 [(.bool false),(.slice none 0 0)]):=by
  rw [getElem?_set_ne (by omega),getElem?_set_ne (by omega)];exact (z7.trans eP).get p3
 have mqf:fm ((g9.set g5.length (.arr 90 [B (decide (c<0)),q])).set g6.length (.arr 90 [B false,r])) q c.natAbs:=(((mq.mono Ew).mono eP).dK t1 _).dK Kc _
 have mrf:fm ((g9.set g5.length (.arr 90 [B (decide (c<0)),q])).set g6.length (.arr 90 [B false,r])) r 0:=(((mr.mono Ew).mono eP).dK t1 _).dK Kc _
 generalize (g9.set g5.length (.arr 90 [B (decide (c<0)),q])).set g6.length (.arr 90 [B false,r])=gz at u1 u2 yS w2 w3 mqf mrf⊢
 rw [fu u1,fu u2]
 simp only [ah,true_and]
 rw [jm w2]
 simp only [aL]
 have hbc:gb.length≠gc.length:=by
  have:=(cm p2).1;omega
 have u2':(gz.set gb.length (.arr 90 [B (decide (c<0)),q]))[g6.length]?=some (.arr 90 [B false,r]):=by rw [getElem?_set_ne (by omega)];exact u2
 have Kl:(gz.set gb.length (.arr 90 [B (decide (c<0)),q]))[gc.length]?=some (.arr 90 [(.bool false),(.slice none 0 0)]):=by rw [getElem?_set_ne hbc];exact w3
 rw [fu u2',jm Kl]
 simp only [true_and,aL]
 have n2:((gz.set gb.length (.arr 90 [B (decide (c<0)),q])).set gc.length (.arr 90 [B false,r]))[gb.length]?=some (.arr 90 [B (decide (c<0)),q]):=by
  rw [getElem?_set_ne (λe=>hbc e.symm)];exact gF w2
 rw [fu n2,fu (gF Kl)]
 simp only [ah]
 have nB:h.length<=gb.length:=(q0.trans q1).1
 refine hk _ _ _ ((yS.set nB _).set (by have:=(cm p2).1;omega) _) ⟨q,rfl,(mqf.dK w2 _).dK Kl _⟩ ⟨r,rfl,(mrf.dK w2 _).dK Kl _⟩
theorem Wd {va vb:Value} {a b:Int} {h:ae} {K:Value->ae->Prop} (ha:fh h va a) (hb:fh h vb b) (la:a.natAbs<dN) (b0:0<b) (lb:b.natAbs<dN)
  (hk:∀r h',EX h h'->np h' r (a / (gcd a.natAbs b.natAbs:Int)) (b / (gcd a.natAbs b.natAbs:Int))->K r h'):ay prog 62 [va,vb] h K:=by
 obtain ⟨v,rfl,hv⟩:=ha
 obtain ⟨w,rfl,hw⟩:=hb
 have QG:decide (b<0)=false:=bX (by omega)
 obtain ⟨g1p,aMu⟩:=aAs (a:=a) b0
 have hda:(gcd a.natAbs b.natAbs:Int) ∣ a:=Int.gcd_dvd_left ..
 have CF:(gcd a.natAbs b.natAbs:Int) ∣ b:=Int.gcd_dvd_right ..
 refine f62 ?_
 have e1:∀(g:ae) (s:Bool) (v:Value),cR 90 g (.agg #[B s,v])=some (pt g.length 0,g++[.arr 90 [B s,v]]):=λ_ _ _=>rfl
 have e2:∀(g:ae),cF 90 [(.bool false),(.slice none 0 0)] g=some (pt g.length 0,g++[.arr 90 [(.bool false),(.slice none 0 0)]]):=λ_=>rfl
 have e3:∀(g:ae),cF 92 [(.bool false),(.slice none 0 0),(.bool false),(.slice none 0 0)] g=some (pt g.length 0,g++[.arr 92 z4]):=λ_=>rfl
 simp only [M3,e1,e3,aL]
 have q0:EX h (h++[.arr 90 [B (decide (a<0)),v]]):=EX.append _ _
 have p0:(h++[az.arr 90 [B (decide (a<0)),v]])[h.length]?=some (.arr 90 [B (decide (a<0)),v]):=bK
 generalize h++[az.arr 90 [B (decide (a<0)),v]]=ga at q0 p0⊢
 have q1:EX ga (ga++[.arr 90 [B (decide (b<0)),w]]):=EX.append _ _
 have p1:(ga++[az.arr 90 [B (decide (b<0)),w]])[ga.length]?=some (.arr 90 [B (decide (b<0)),w]):=bK
 generalize ga++[az.arr 90 [B (decide (b<0)),w]]=gb at q1 p1⊢
 have q2:EX gb (gb++[.arr 92 z4]):=EX.append _ _
 have p2:(gb++[az.arr 92 z4])[gb.length]?=some (.arr 92 z4):=bK
 generalize gb++[az.arr 92 z4]=gc at q2 p2⊢
 have k0:=(q1.trans q2).get p0
 have k1:=q2.get p1
 have x0:=q0.trans (q1.trans q2)
 have nB:h.length<=gb.length:=(q0.trans q1).1
 have lJ:∀{g:ae},EX gc g->af true 2 g (pt h.length 0)=some (.agg #[B (decide (a<0)),v]):=λx=>fu (x.get k0)
 have Rs:∀{g:ae},EX gc g->af true 2 g (pt ga.length 0)=some (.agg #[B (decide (b<0)),w]):=λx=>fu (x.get k1)
 have Rl:∀{g:ae},EX gc g->fh g (.agg #[B (decide (a<0)),v]) a:=λx=>⟨v,rfl,hv.mono (x0.trans x)⟩
 have Rm:∀{g:ae},EX gc g->fh g (.agg #[B (decide (b<0)),w]) b:=λx=>⟨w,rfl,hw.mono (x0.trans x)⟩
 have l1:af false 1 gc (pt ga.length 0)=some (B (decide (b<0))):=by simp [af,bw,k1,dS]
 simp only [cj,add_zero,ah,l1]
 rw [QG]
 simp only [dm]
 rw [aIa]
 rw [lJ (EX.refl gc),Rs (EX.refl gc)]
 simp only [ah]
 refine aoW (Rl (EX.refl gc)) (Rm (EX.refl gc)) la lb ?_
 intro r g3 x3 ir
 simp only [e2,aL]
 have y4:EX g3 (g3++[.arr 90 [(.bool false),(.slice none 0 0)]]):=EX.append _ _
 have s4:(g3++[az.arr 90 [(.bool false),(.slice none 0 0)]])[g3.length]?=some (.arr 90 [(.bool false),(.slice none 0 0)]):=bK
 generalize g3++[az.arr 90 [(.bool false),(.slice none 0 0)]]=g4 at y4 s4⊢
 obtain ⟨u,rfl,hu⟩:=ir
 have hu4:=(hu.mono y4).dK s4 (.arr 90 [B (decide ((gcd a.natAbs b.natAbs:Int)<0)),u])
 rw [jm s4]
 simp only [aL]
 have uY:gc.length<=g3.length:=x3.1
 have x5:EX gc (g4.set g3.length (.arr 90 [B (decide ((gcd a.natAbs b.natAbs:Int)<0)),u])):=(x3.trans y4).set uY _
 have s5:(g4.set g3.length (.arr 90 [B (decide ((gcd a.natAbs b.natAbs:Int)<0)),u]))[g3.length]?=some (.arr 90 [B (decide ((gcd a.natAbs b.natAbs:Int)<0)),u]):=gF s4
 generalize g4.set g3.length (.arr 90 [B (decide ((gcd a.natAbs b.natAbs:Int)<0)),u])=g5 at x5 s5 hu4⊢
 have ig:∀{g:ae},EX g5 g->fh g (.agg #[B (decide ((gcd a.natAbs b.natAbs:Int)<0)),u]) (gcd a.natAbs b.natAbs:Int):=λx=>⟨u,rfl,hu4.mono x⟩
 rw [fu s5]
 simp only [ah,true_and]
 refine EE (by decide) (by decide) ?_
 intro one g6 x6 i1
 rw [fu (x6.get s5)]
 simp only [true_and]
 have Rx:((gcd a.natAbs b.natAbs:Int)).natAbs<dN:=by rw [natAbs_natCast];have:=Nat.gcd_le_right a.natAbs (show 0<b.natAbs by omega);omega
 refine Wf (ig x6) i1 Rx (by rw [show (1:Int).natAbs=1 from rfl];exact an1 (by decide)) ?_
 intro g7 x7
 have fY:=x6.trans x7
 have vZ:=x5.trans fY
 simp only [jB,ah,ca]
 refine ⟨λh1=>?_,λh1=>?_⟩
 ·have uX:(gcd a.natAbs b.natAbs:Int)=1:=by
   split at h1
   ·omega
   ·split at h1 <;> omega
  rw [lJ vZ,Rs vZ]
  simp only [ah]
  rw [uX,Int.ediv_one,Int.ediv_one] at hk
  exact HE (Rl vZ) (Rm vZ) (x0.trans vZ) nB (vZ.get p2) hk
 ·rw [lJ vZ,fu (fY.get s5)]
  simp only [ah]
  refine Wn (Rl vZ) (ig fY) la g1p Rx hda ?_
  intro rn sn g8 x8 irn isn
  simp only [fM,gi,gj,ah]
  have y9:EX g8 (g8++[.arr 90 [(.bool false),(.slice none 0 0)]]):=EX.append _ _
  have s9:(g8++[az.arr 90 [(.bool false),(.slice none 0 0)]])[g8.length]?=some (.arr 90 [(.bool false),(.slice none 0 0)]):=bK
  generalize g8++[az.arr 90 [(.bool false),(.slice none 0 0)]]=g9 at y9 s9⊢
  have VB:EX g9 (g9++[.arr 90 [(.bool false),(.slice none 0 0)]]):=EX.append _ _
  have j5:(g9++[az.arr 90 [(.bool false),(.slice none 0 0)]])[g9.length]?=some (.arr 90 [(.bool false),(.slice none 0 0)]):=bK
  generalize g9++[az.arr 90 [(.bool false),(.slice none 0 0)]]=g10 at VB j5⊢
  have US:=VB.get s9
  obtain ⟨qn,rfl,qk⟩:=irn
  obtain ⟨zn,rfl,hzn⟩:=isn
  have h98:g8.length≠g9.length:=by have:=(cm s9).1;omega
  rw [jm US]
  simp only [aL]
  have t10:(g10.set g8.length (.arr 90 [B (decide (a / (gcd a.natAbs b.natAbs:Int)<0)),qn]))[g9.length]?=some (.arr 90 [(.bool false),(.slice none 0 0)]):=by rw [getElem?_set_ne h98];exact j5
  have t9:(g10.set g8.length (.arr 90 [B (decide (a / (gcd a.natAbs b.natAbs:Int)<0)),qn]))[g8.length]?=some (.arr 90 [B (decide (a / (gcd a.natAbs b.natAbs:Int)<0)),qn]):=gF US
  have aof:=y9.trans VB
  have ae6:=(qk.mono aof).dK US (.arr 90 [B (decide (a / (gcd a.natAbs b.natAbs:Int)<0)),qn])
  have Vy:=vZ.trans x8
  have fS:=fY.trans x8
  have xs1:EX g8 (g10.set g8.length (.arr 90 [B (decide (a / (gcd a.natAbs b.natAbs:Int)<0)),qn])):=aof.set (le_refl _) _
  generalize g10.set g8.length (.arr 90 [B (decide (a / (gcd a.natAbs b.natAbs:Int)<0)),qn])=g11 at t10 t9 ae6 xs1⊢
  rw [jm t10]
  simp only [aL]
  have t9':(g11.set g9.length (.arr 90 [B (decide ((0:Int)<0)),zn]))[g8.length]?=some (.arr 90 [B (decide (a / (gcd a.natAbs b.natAbs:Int)<0)),qn]):=by rw [getElem?_set_ne (λe=>h98 e.symm)];exact t9
  have ae7:=ae6.dK t10 (.arr 90 [B (decide ((0:Int)<0)),zn])
  have h89:g8.length<=g9.length:=by have:=(cm s9).1;omega
  have BD:EX g8 (g11.set g9.length (.arr 90 [B (decide ((0:Int)<0)),zn])):=xs1.set h89 _
  generalize g11.set g9.length (.arr 90 [B (decide ((0:Int)<0)),zn])=g12 at t9' ae7 BD⊢
  rw [Rs (Vy.trans BD),fu ((fS.trans BD).get s5)]
  simp only [ah]
  refine Wn (Rm (Vy.trans BD)) (ig (fS.trans BD)) lb g1p Rx CF ?_
  intro rd sd g13 aC ird isd
  simp only [fM,gi,gj,ah]
  have y14:EX g13 (g13++[.arr 90 [(.bool false),(.slice none 0 0)]]):=EX.append _ _
  have JU:(g13++[az.arr 90 [(.bool false),(.slice none 0 0)]])[g13.length]?=some (.arr 90 [(.bool false),(.slice none 0 0)]):=bK
  generalize g13++[az.arr 90 [(.bool false),(.slice none 0 0)]]=g14 at y14 JU⊢
  have VC:EX g14 (g14++[.arr 90 [(.bool false),(.slice none 0 0)]]):=EX.append _ _
  have s15:(g14++[az.arr 90 [(.bool false),(.slice none 0 0)]])[g14.length]?=some (.arr 90 [(.bool false),(.slice none 0 0)]):=bK
  generalize g14++[az.arr 90 [(.bool false),(.slice none 0 0)]]=g15 at VC s15⊢
  have UR:=VC.get JU
  obtain ⟨qd,rfl,CW⟩:=ird
  obtain ⟨zd,rfl,hzd⟩:=isd
  have ad4:g13.length≠g14.length:=by have:=(cm JU).1;omega
  rw [jm UR]
  simp only [aL]
  have an6:=y14.trans VC
  have t15:(g15.set g13.length (.arr 90 [B (decide (b / (gcd a.natAbs b.natAbs:Int)<0)),qd]))[g14.length]?=some (.arr 90 [(.bool false),(.slice none 0 0)]):=by rw [getElem?_set_ne ad4];exact s15
  have t14:(g15.set g13.length (.arr 90 [B (decide (b / (gcd a.natAbs b.natAbs:Int)<0)),qd]))[g13.length]?=some (.arr 90 [B (decide (b / (gcd a.natAbs b.natAbs:Int)<0)),qd]):=gF UR
  have ae4:=(CW.mono an6).dK UR (.arr 90 [B (decide (b / (gcd a.natAbs b.natAbs:Int)<0)),qd])
  have xs3:EX g13 (g15.set g13.length (.arr 90 [B (decide (b / (gcd a.natAbs b.natAbs:Int)<0)),qd])):=an6.set (le_refl _) _
  generalize g15.set g13.length (.arr 90 [B (decide (b / (gcd a.natAbs b.natAbs:Int)<0)),qd])=g16 at t15 t14 ae4 xs3⊢
  rw [jm t15]
  simp only [aL]
  have anT:(g16.set g14.length (.arr 90 [B (decide ((0:Int)<0)),zd]))[g13.length]?=some (.arr 90 [B (decide (b / (gcd a.natAbs b.natAbs:Int)<0)),qd]):=by rw [getElem?_set_ne (λe=>ad4 e.symm)];exact t14
  have ae5:=ae4.dK t15 (.arr 90 [B (decide ((0:Int)<0)),zd])
  have h13:g13.length<=g14.length:=by have:=(cm JU).1;omega
  have Kp:EX g13 (g16.set g14.length (.arr 90 [B (decide ((0:Int)<0)),zd])):=xs3.set h13 _
  generalize g16.set g14.length (.arr 90 [B (decide ((0:Int)<0)),zd])=g17 at anT ae5 Kp⊢
  rw [fu ((aC.trans Kp).get t9'),fu anT]
  simp only [ah]
  have aog:=Vy.trans (BD.trans (aC.trans Kp))
  exact HE ⟨qn,rfl,ae7.mono (aC.trans Kp)⟩ ⟨qd,rfl,ae5⟩ (x0.trans aog) nB (aog.get p2) hk
theorem aoX {va vb:Value} {a b c d:Int} {h:ae} {K:Value->ae->Prop} (ha:np h va a b) (hb:np h vb c d) (la:a.natAbs<dN) (lb:b.natAbs<dN) (lc:c.natAbs<dN) (ld:d.natAbs<dN) (lad:(a*d).natAbs<dN) (b0:0<b*c) (lbc:(b*c).natAbs<dN)
  (hk:∀r h',EX h h'->np h' r (a*d / (gcd (a*d).natAbs (b*c).natAbs:Int)) (b*c / (gcd (a*d).natAbs (b*c).natAbs:Int))->K r h'):ay prog 94 [va,vb] h K:=by
 obtain ⟨u,w,rfl,hu,hw⟩:=ha
 obtain ⟨u2,w2,rfl,lV,qo⟩:=hb
 refine f94 ?_
 have e1:∀(g:ae) (s t:Bool) (v w:Value),cR 92 g (.agg #[B s,v,B t,w])=some (pt g.length 0,g++[.arr 92 [B s,v,B t,w]]):=λ_ _ _ _ _=>rfl
 have e3:∀(g:ae),cF 92 [(.bool false),(.slice none 0 0),(.bool false),(.slice none 0 0)] g=some (pt g.length 0,g++[.arr 92 z4]):=λ_=>rfl
 simp only [Nx,e1,e3,aL]
 have q0:EX h (h++[.arr 92 [B (decide (a<0)),u,B (decide (b<0)),w]]):=EX.append _ _
 have p0:(h++[az.arr 92 [B (decide (a<0)),u,B (decide (b<0)),w]])[h.length]?=some (.arr 92 [B (decide (a<0)),u,B (decide (b<0)),w]):=bK
 generalize h++[az.arr 92 [B (decide (a<0)),u,B (decide (b<0)),w]]=ga at q0 p0⊢
 have q1:EX ga (ga++[.arr 92 [B (decide (c<0)),u2,B (decide (d<0)),w2]]):=EX.append _ _
 have p1:(ga++[az.arr 92 [B (decide (c<0)),u2,B (decide (d<0)),w2]])[ga.length]?=some (.arr 92 [B (decide (c<0)),u2,B (decide (d<0)),w2]):=bK
 generalize ga++[az.arr 92 [B (decide (c<0)),u2,B (decide (d<0)),w2]]=gb at q1 p1⊢
 have q2:EX gb (gb++[.arr 92 z4]):=EX.append _ _
 have p2:(gb++[az.arr 92 z4])[gb.length]?=some (.arr 92 z4):=bK
 generalize gb++[az.arr 92 z4]=gc at q2 p2⊢
 have k0:=(q1.trans q2).get p0
 have k1:=q2.get p1
 have x0:=q0.trans (q1.trans q2)
 have nB:h.length<=gb.length:=(q0.trans q1).1
 simp only [cj,zero_add,ah]
 rw [mV k0,nZ k1]
 simp only [ah,true_and]
 refine sP (a:=a) (b:=d) ⟨u,rfl,hu.mono x0⟩ ⟨w2,rfl,qo.mono x0⟩ la ld ?_
 intro r1 g4 x4 i1
 rw [nZ (x4.get k0),mV (x4.get k1)]
 simp only [nZ k0,mV k1,ah,true_and]
 refine sP (a:=b) (b:=c) ⟨w,rfl,(hw.mono x0).mono x4⟩ ⟨u2,rfl,(lV.mono x0).mono x4⟩ lb lc ?_
 intro r2 g5 x5 i2
 refine Wd (i1.mono x5) i2 lad b0 lbc ?_
 intro r g6 x6 ir
 have eT:=x4.trans (x5.trans x6)
 have g2:=eT.get p2
 obtain ⟨y,z,rfl,hy,hz⟩:=ir
 exact tp g2 (hk _ _ ((x0.trans eT).set nB _) ⟨y,z,rfl,hy.dK g2 _,hz.dK g2 _⟩)
end
section
def RV (h:ae) (v:Value) (q:Rat):Prop:=np h v q.num (q.den:Int)
theorem RV.mono {h h':ae} {v:Value} {q:Rat} (x:EX h h') (p:RV h v q):RV h' v q:=np.mono x p
def gU (k:Nat) (q:Rat):Prop:=q.num.natAbs<10^k/\q.den<10^k
def afS:Nat:=900
theorem aDD:(10:Nat)^afS<=dN:=by unfold dN;decide+kernel
theorem zA {k:Nat} (h:k<=900):10^k<=dN:=Nat.le_trans (pow_le_pow_right (by decide) (show k<=afS from h)) aDD
theorem sH {a b i j:Nat} (ha:a<10^i) (hb:b<10^j):a*b<10^(i+j):=by
 rw [pow_add]
 exact Nat.mul_lt_mul'' ha hb
theorem RG {N:Int} {D:Nat} (hD:0<D):(mkRat N D).num=N / (gcd N.natAbs D:Int)/\(mkRat N D).den=D / gcd N.natAbs D:=by
 rw [<-Rat.normalize_eq_mkRat (by omega:D≠0),Rat.normalize_eq]
 exact ⟨rfl,rfl⟩
theorem We {va vb:Value} {N:Int} {D:Nat} {h:ae} {K:Value->ae->Prop} (ha:fh h va N) (hb:fh h vb (D:Int)) (la:N.natAbs<dN) (d0:0<D) (lb:D<dN) (hk:∀r h',EX h h'->RV h' r (mkRat N D)->K r h'):ay prog 62 [va,vb] h K:=by
 refine Wd ha hb la (by omega) (by rw [natAbs_natCast];exact lb) ?_
 intro r h' x hr
 refine hk r h' x ?_
 obtain ⟨e1,e2⟩:=RG (N:=N) d0
 unfold RV
 rw [e1,e2,Int.natCast_ediv]
 rw [natAbs_natCast] at hr
 exact hr
theorem gU.wq {k:Nat} {q:Rat} (h:gU k q) (hk:k<=900):q.num.natAbs<dN/\q.den<dN:=by
 have:=zA hk
 exact ⟨lt_of_lt_of_le h.1 this,lt_of_lt_of_le h.2 this⟩
theorem Hq {i j:Nat} {p q:Rat} (hp:gU i p) (hq:gU j q):(p.num*q.den).natAbs<10^(i+j)/\(q.num*p.den).natAbs<10^(i+j)/\p.den*q.den<10^(i+j)/\(p.num*q.num).natAbs<10^(i+j):=by
 refine ⟨?_,?_,sH hp.2 hq.2,?_⟩
 ·rw [natAbs_mul,natAbs_natCast];exact sH hp.1 hq.2
 ·rw [natAbs_mul,natAbs_natCast,mul_comm];exact sH hp.2 hq.1
 ·rw [natAbs_mul];exact sH hp.1 hq.1
theorem agw (n:Int):(mkRat n 1).num=n/\(mkRat n 1).den=1:=by
 obtain ⟨e1,e2⟩:=RG (N:=n) (D:=1) (by decide)
 rw [Nat.gcd_one_right] at e1 e2
 exact ⟨by rw [e1];simp,by rw [e2]⟩
theorem Yb (p q:Rat):p+q=mkRat (p.num*q.den+q.num*p.den) (p.den*q.den):=by rw [Rat.add_def,Rat.normalize_eq_mkRat]
theorem agB (p q:Rat):p*q=mkRat (p.num*q.num) (p.den*q.den):=by rw [Rat.mul_def,Rat.normalize_eq_mkRat]
section
variable {va vb : Value} {p q : Rat} {i j : Nat} {h : ae} {K : Value -> ae -> Prop}
theorem EA (ha:RV h va p) (hb:RV h vb q) (sp:gU i p) (sq:gU j q) (gC:i+j<=800) (hk:∀r h',EX h h'->RV h' r (p+q)->K r h'):ay prog 36 [va,vb] h K:=by
 obtain ⟨u,w,rfl,hu,hw⟩:=ha
 obtain ⟨u2,w2,rfl,lV,qo⟩:=hb
 have pd:=p.den_pos
 have qd:=q.den_pos
 obtain ⟨vG,tT⟩:=sp.wq (by omega)
 obtain ⟨vH,tU⟩:=sq.wq (by omega)
 obtain ⟨c1,c2,c3,_⟩:=Hq sp sq
 have cb:=zA (k:=i+j) (by omega)
 have cb1:=zA (k:=i+j+1) (by omega)
 have pA:decide ((p.den:Int)<0)=false:=bX (by omega)
 have qZ:decide ((q.den:Int)<0)=false:=bX (by omega)
 rw [natAbs_natCast] at hw qo
 rw [pA,qZ]
 refine f36 ?_
 have e1:∀(g:ae) (s t:Bool) (v w:Value),cR 92 g (.agg #[B s,v,B t,w])=some (pt g.length 0,g++[.arr 92 [B s,v,B t,w]]):=λ_ _ _ _ _=>rfl
 have e3:∀(g:ae),cF 92 [(.bool false),(.slice none 0 0),(.bool false),(.slice none 0 0)] g=some (pt g.length 0,g++[.arr 92 z4]):=λ_=>rfl
 simp only [MC,e1,e3,aL]
 have q0:EX h (h++[.arr 92 [B (decide (p.num<0)),u,B false,w]]):=EX.append _ _
 have p0:(h++[az.arr 92 [B (decide (p.num<0)),u,B false,w]])[h.length]?=some (.arr 92 [B (decide (p.num<0)),u,B false,w]):=bK
 generalize h++[az.arr 92 [B (decide (p.num<0)),u,B false,w]]=ga at q0 p0⊢
 have q1:EX ga (ga++[.arr 92 [B (decide (q.num<0)),u2,B false,w2]]):=EX.append _ _
 have p1:(ga++[az.arr 92 [B (decide (q.num<0)),u2,B false,w2]])[ga.length]?=some (.arr 92 [B (decide (q.num<0)),u2,B false,w2]):=bK
 generalize ga++[az.arr 92 [B (decide (q.num<0)),u2,B false,w2]]=gb at q1 p1⊢
 have q2:EX gb (gb++[.arr 92 z4]):=EX.append _ _
 have p2:(gb++[az.arr 92 z4])[gb.length]?=some (.arr 92 z4):=bK
 generalize gb++[az.arr 92 z4]=gc at q2 p2⊢
 have k0:=(q1.trans q2).get p0
 have k1:=q2.get p1
 have x0:=q0.trans (q1.trans q2)
 have nB:h.length<=gb.length:=(q0.trans q1).1
 have done:∀{N:Int} {D:Nat} {r:Value} {g:ae},EX gc g->RV g r (mkRat N D)->p+q=mkRat N D->OH (aU 4 g (pt gb.length 0) r) λ_ h_3=>OP (af true 4 h_3 (pt gb.length 0)) λr0=>K r0 h_3:=by
  intro N D r g xg hr he
  rw [<-he] at hr
  have g2:=xg.get p2
  obtain ⟨y,z,rfl,hy,hz⟩:=hr
  exact tp g2 (hk _ _ ((x0.trans xg).set nB _) ⟨y,z,rfl,hy.dK g2 _,hz.dK g2 _⟩)
 simp only [ko k0,ah]
 refine EF (hw.mono x0) tT ?_
 intro g4 x4
 have sB:=x4.get k0
 have mG:=x4.get k1
 have Ea:=x0.trans x4
 rw [aGj]
 have whole:∀t u':Value,bu t u' (.bool false)=some (B (decide (p.den=1)&&decide (q.den=1)))->∀{g5:ae},EX g4 g5->Jo prog K (pt h.length 0) (pt ga.length 0) (pt gb.length 0) t u' g5:=by
  intro t u' ht g5 x5
  have k0:=x5.get sB
  have k1:=x5.get mG
  have qF:=Ea.trans x5
  have dC:=x4.trans x5
  rw [aGk,ht]
  simp only [ah]
  by_cases pO:p.den=1/\q.den=1
  ·rw [dh pO.1,dh pO.2]
   simp only [Bool.and_true,gf,cj,zero_add,ah]
   rw [mV k0]
   simp only [ah]
   rw [mV k1]
   simp only [ah]
   refine Kw (a:=p.num) (b:=q.num) ⟨u,rfl,hu.mono qF⟩ ⟨u2,rfl,lV.mono qF⟩ vG vH ?_
   intro r1 g6 x6 i1
   refine Wc i1 ?_
   intro r2 g7 x7 i2
   obtain ⟨n1,n2⟩:=agw (p.num+q.num)
   refine done (N:=p.num+q.num) (D:=1) (dC.trans (x6.trans x7)) (by unfold RV;rw [n1,n2];exact i2) ?_
   rw [Yb,pO.1,pO.2]
   simp
  ·have hf:(decide (p.den=1)&&decide (q.den=1))=false:=by
    rw [Bool.and_eq_false_iff,decide_eq_false_iff_not,decide_eq_false_iff_not]
    by_cases h1:p.den=1
    ·exact .inr λh2=>pO ⟨h1,h2⟩
    ·exact .inl h1
   rw [hf]
   have oL:∀{g:ae},EX g5 g->af true 2 g (pt h.length 0)=some (.agg #[B (decide (p.num<0)),u]):=λx=>mV (x.get k0)
   have jI:∀{g:ae},EX g5 g->af true 2 g (pt h.length 2)=some (.agg #[B false,w]):=λx=>nZ (x.get k0)
   have tS:∀{g:ae},EX g5 g->af true 2 g (pt ga.length 0)=some (.agg #[B (decide (q.num<0)),u2]):=λx=>mV (x.get k1)
   have zk:∀{g:ae},EX g5 g->af true 2 g (pt ga.length 2)=some (.agg #[B false,w2]):=λx=>nZ (x.get k1)
   have iw:∀{g:ae},EX g5 g->fh g (.agg #[B false,w]) (p.den:Int):=λx=>fh.nat (hw.mono (qF.trans x))
   have IE:∀{g:ae},EX g5 g->fh g (.agg #[B false,w2]) (q.den:Int):=λx=>fh.nat (qo.mono (qF.trans x))
   simp only [dm,cj,zero_add,ah,oL (EX.refl g5),zk (EX.refl g5),true_and]
   refine sP (a:=p.num) (b:=(q.den:Int)) ⟨u,rfl,hu.mono qF⟩ (IE (EX.refl g5)) vG (by rw [natAbs_natCast];exact tU) ?_
   intro r1 g6 x6 i1
   simp only [tS x6,tS (EX.refl g5),jI x6,jI (EX.refl g5),ah,true_and]
   refine sP (a:=q.num) (b:=(p.den:Int)) ⟨u2,rfl,(lV.mono qF).mono x6⟩ (iw x6) vH (by rw [natAbs_natCast];exact tT) ?_
   intro r2 g7 x7 i2
   have gw:=x6.trans x7
   refine Kw (i1.mono x7) i2 (by omega) (by omega) ?_
   intro r3 g8 x8 i3
   have fA:=gw.trans x8
   simp only [jI fA,jI gw,zk fA,zk x6,zk gw,ah,true_and]
   refine sP (iw fA) (IE fA) (by rw [natAbs_natCast];exact tT) (by rw [natAbs_natCast];exact tU) ?_
   intro r4 g9 x9 i4
   rw [<-natCast_mul] at i4
   have afg:(p.num*q.den+q.num*p.den).natAbs<dN:=by
    have h1:10^(i+j+1)=10^(i+j)*10:=pow_succ ..
    generalize 10^(i+j)=Z at*
    omega
   refine We (i3.mono x9) i4 afg (Nat.mul_pos pd qd) (lt_of_lt_of_le c3 cb) ?_
   intro r g10 aE ir
   exact done (dC.trans (fA.trans (x9.trans aE))) ir (Yb p q)
 by_cases h1:p.den=1
 ·rw [dh h1]
  simp only [gK,ko mG,ah]
  refine EF (qo.mono Ea) tU ?_
  intro g5 x5
  refine whole _ _ ?_ x5
  rw [h1];simp
 ·rw [bX h1]
  simp only [jd]
  refine whole _ _ ?_ (EX.refl g4)
  rw [bX h1];simp
end
end
section
section
variable {va vb : Value} {p q : Rat} {i j : Nat} {h : ae} {K : Value -> ae -> Prop}
theorem EG (ha:RV h va p) (hb:RV h vb q) (sp:gU i p) (sq:gU j q) (gC:i+j<=800) (hk:∀r h',EX h h'->RV h' r (p*q)->K r h'):ay prog 65 [va,vb] h K:=by
 obtain ⟨u,w,rfl,hu,hw⟩:=ha
 obtain ⟨u2,w2,rfl,lV,qo⟩:=hb
 have pd:=p.den_pos
 have qd:=q.den_pos
 obtain ⟨vG,tT⟩:=sp.wq (by omega)
 obtain ⟨vH,tU⟩:=sq.wq (by omega)
 obtain ⟨_,_,c3,c4⟩:=Hq sp sq
 have cb:=zA (k:=i+j) (by omega)
 have pA:decide ((p.den:Int)<0)=false:=bX (by omega)
 have qZ:decide ((q.den:Int)<0)=false:=bX (by omega)
 rw [natAbs_natCast] at hw qo
 rw [pA,qZ]
 refine f65 ?_
 have e1:∀(g:ae) (s t:Bool) (v w:Value),cR 92 g (.agg #[B s,v,B t,w])=some (pt g.length 0,g++[.arr 92 [B s,v,B t,w]]):=λ_ _ _ _ _=>rfl
 have e3:∀(g:ae),cF 92 [(.bool false),(.slice none 0 0),(.bool false),(.slice none 0 0)] g=some (pt g.length 0,g++[.arr 92 z4]):=λ_=>rfl
 simp only [M6,e1,e3,aL]
 have q0:EX h (h++[.arr 92 [B (decide (p.num<0)),u,B false,w]]):=EX.append _ _
 have p0:(h++[az.arr 92 [B (decide (p.num<0)),u,B false,w]])[h.length]?=some (.arr 92 [B (decide (p.num<0)),u,B false,w]):=bK
 generalize h++[az.arr 92 [B (decide (p.num<0)),u,B false,w]]=ga at q0 p0⊢
 have q1:EX ga (ga++[.arr 92 [B (decide (q.num<0)),u2,B false,w2]]):=EX.append _ _
 have p1:(ga++[az.arr 92 [B (decide (q.num<0)),u2,B false,w2]])[ga.length]?=some (.arr 92 [B (decide (q.num<0)),u2,B false,w2]):=bK
 generalize ga++[az.arr 92 [B (decide (q.num<0)),u2,B false,w2]]=gb at q1 p1⊢
 have q2:EX gb (gb++[.arr 92 z4]):=EX.append _ _
 have p2:(gb++[az.arr 92 z4])[gb.length]?=some (.arr 92 z4):=bK
 generalize gb++[az.arr 92 z4]=gc at q2 p2⊢
 have k0:=(q1.trans q2).get p0
 have k1:=q2.get p1
 have x0:=q0.trans (q1.trans q2)
 have nB:h.length<=gb.length:=(q0.trans q1).1
 have done:∀{N:Int} {D:Nat} {r:Value} {g:ae},EX gc g->RV g r (mkRat N D)->p*q=mkRat N D->OH (aU 4 g (pt gb.length 0) r) λ_ h_3=>OP (af true 4 h_3 (pt gb.length 0)) λr0=>K r0 h_3:=by
  intro N D r g xg hr he
  rw [<-he] at hr
  have g2:=xg.get p2
  obtain ⟨y,z,rfl,hy,hz⟩:=hr
  exact tp g2 (hk _ _ ((x0.trans xg).set nB _) ⟨y,z,rfl,hy.dK g2 _,hz.dK g2 _⟩)
 simp only [ko k0,ah]
 refine EF (hw.mono x0) tT ?_
 intro g4 x4
 have sB:=x4.get k0
 have mG:=x4.get k1
 have Ea:=x0.trans x4
 rw [aIb]
 have whole:∀t u':Value,bu t u' (.bool false)=some (B (decide (p.den=1)&&decide (q.den=1)))->∀{g5:ae},EX g4 g5->Jz prog K (pt h.length 0) (pt ga.length 0) (pt gb.length 0) t u' g5:=by
  intro t u' ht g5 x5
  have k0:=x5.get sB
  have k1:=x5.get mG
  have qF:=Ea.trans x5
  have dC:=x4.trans x5
  rw [aIc,ht]
  simp only [ah]
  by_cases pO:p.den=1/\q.den=1
  ·rw [dh pO.1,dh pO.2]
   simp only [Bool.and_true,gf,cj,zero_add,ah]
   rw [mV k0]
   simp only [ah]
   rw [mV k1]
   simp only [ah]
   refine sP (a:=p.num) (b:=q.num) ⟨u,rfl,hu.mono qF⟩ ⟨u2,rfl,lV.mono qF⟩ vG vH ?_
   intro r1 g6 x6 i1
   refine Wc i1 ?_
   intro r2 g7 x7 i2
   obtain ⟨n1,n2⟩:=agw (p.num*q.num)
   refine done (N:=p.num*q.num) (D:=1) (dC.trans (x6.trans x7)) (by unfold RV;rw [n1,n2];exact i2) ?_
   rw [agB,pO.1,pO.2]
  ·have hf:(decide (p.den=1)&&decide (q.den=1))=false:=by
    rw [Bool.and_eq_false_iff,decide_eq_false_iff_not,decide_eq_false_iff_not]
    by_cases h1:p.den=1
    ·exact .inr λh2=>pO ⟨h1,h2⟩
    ·exact .inl h1
   rw [hf]
   have oL:∀{g:ae},EX g5 g->af true 2 g (pt h.length 0)=some (.agg #[B (decide (p.num<0)),u]):=λx=>mV (x.get k0)
   have jI:∀{g:ae},EX g5 g->af true 2 g (pt h.length 2)=some (.agg #[B false,w]):=λx=>nZ (x.get k0)
   have tS:∀{g:ae},EX g5 g->af true 2 g (pt ga.length 0)=some (.agg #[B (decide (q.num<0)),u2]):=λx=>mV (x.get k1)
   have zk:∀{g:ae},EX g5 g->af true 2 g (pt ga.length 2)=some (.agg #[B false,w2]):=λx=>nZ (x.get k1)
   have iw:∀{g:ae},EX g5 g->fh g (.agg #[B false,w]) (p.den:Int):=λx=>fh.nat (hw.mono (qF.trans x))
   have IE:∀{g:ae},EX g5 g->fh g (.agg #[B false,w2]) (q.den:Int):=λx=>fh.nat (qo.mono (qF.trans x))
   simp only [dm,cj,zero_add,ah,oL (EX.refl g5),tS (EX.refl g5),true_and]
   refine sP (a:=p.num) (b:=q.num) ⟨u,rfl,hu.mono qF⟩ ⟨u2,rfl,lV.mono qF⟩ vG vH ?_
   intro r1 g6 x6 i1
   simp only [jI x6,jI (EX.refl g5),zk x6,zk (EX.refl g5),ah,true_and]
   refine sP (iw x6) (IE x6) (by rw [natAbs_natCast];exact tT) (by rw [natAbs_natCast];exact tU) ?_
   intro r2 g7 x7 i2
   rw [<-natCast_mul] at i2
   have gw:=x6.trans x7
   refine We (i1.mono x7) i2 (lt_of_lt_of_le c4 cb) (Nat.mul_pos pd qd) (lt_of_lt_of_le c3 cb) ?_
   intro r g10 aE ir
   exact done (dC.trans (gw.trans aE)) ir (agB p q)
 by_cases h1:p.den=1
 ·rw [dh h1]
  simp only [gK,ko mG,ah]
  refine EF (qo.mono Ea) tU ?_
  intro g5 x5
  refine whole _ _ ?_ x5
  rw [h1];simp
 ·rw [bX h1]
  simp only [jd]
  refine whole _ _ ?_ (EX.refl g4)
  rw [bX h1];simp
def uH (p q:Rat):Int:=if p=q then 0 else if p<q then -1 else 1
theorem ay7 (p q:Rat):(if p.num*q.den-q.num*p.den=0 then 0 else if p.num*q.den-q.num*p.den<0 then -1 else 1:Int)=uH p q:=by
 unfold uH
 have h1:p=q↔p.num*q.den-q.num*p.den=0:=by
  constructor
  ·rintro rfl;omega
  ·intro h
   refine Rat.le_antisymm ?_ ?_ <;> rw [Rat.le_iff] <;> omega
 have h2:p<q↔p.num*q.den-q.num*p.den<0:=by rw [Rat.lt_iff];omega
 by_cases e1:p=q
 ·rw [if_pos e1,if_pos (h1.1 e1)]
 ·rw [if_neg e1,if_neg (λh=>e1 (h1.2 h))]
  by_cases e2:p<q
  ·rw [if_pos e2,if_pos (h2.1 e2)]
  ·rw [if_neg e2,if_neg (λh=>e2 (h2.2 h))]
theorem EB (ha:RV h va p) (hb:RV h vb q) (sp:gU i p) (sq:gU j q) (gC:i+j<=800) (hk:∀h',EX h h'->K (I (uH p q)) h'):ay prog 37 [va,vb] h K:=by
 obtain ⟨u,w,rfl,hu,hw⟩:=ha
 obtain ⟨u2,w2,rfl,lV,qo⟩:=hb
 obtain ⟨vG,tT⟩:=sp.wq (by omega)
 obtain ⟨vH,tU⟩:=sq.wq (by omega)
 obtain ⟨c1,c2,_,_⟩:=Hq sp sq
 have cb:=zA (k:=i+j) (by omega)
 have pA:decide ((p.den:Int)<0)=false:=bX (by omega)
 have qZ:decide ((q.den:Int)<0)=false:=bX (by omega)
 rw [natAbs_natCast] at hw qo
 rw [pA,qZ]
 refine f37 ?_
 have e1:∀(g:ae) (s t:Bool) (v w:Value),cR 92 g (.agg #[B s,v,B t,w])=some (pt g.length 0,g++[.arr 92 [B s,v,B t,w]]):=λ_ _ _ _ _=>rfl
 simp only [MD,e1,aL]
 have q0:EX h (h++[.arr 92 [B (decide (p.num<0)),u,B false,w]]):=EX.append _ _
 have p0:(h++[az.arr 92 [B (decide (p.num<0)),u,B false,w]])[h.length]?=some (.arr 92 [B (decide (p.num<0)),u,B false,w]):=bK
 generalize h++[az.arr 92 [B (decide (p.num<0)),u,B false,w]]=ga at q0 p0⊢
 have q1:EX ga (ga++[.arr 92 [B (decide (q.num<0)),u2,B false,w2]]):=EX.append _ _
 have p1:(ga++[az.arr 92 [B (decide (q.num<0)),u2,B false,w2]])[ga.length]?=some (.arr 92 [B (decide (q.num<0)),u2,B false,w2]):=bK
 generalize ga++[az.arr 92 [B (decide (q.num<0)),u2,B false,w2]]=gb at q1 p1⊢
 have k0:=q1.get p0
 have x0:=q0.trans q1
 simp only [cj,zero_add,ah,mV k0,nZ p1,true_and]
 refine sP (a:=p.num) (b:=(q.den:Int)) ⟨u,rfl,hu.mono x0⟩ (fh.nat (qo.mono x0)) vG (by rw [natAbs_natCast];exact tU) ?_
 intro r1 g6 x6 i1
 simp only [mV (x6.get p1),mV p1,nZ (x6.get k0),nZ k0,ah,true_and]
 refine sP (a:=q.num) (b:=(p.den:Int)) ⟨u2,rfl,(lV.mono x0).mono x6⟩ (fh.nat ((hw.mono x0).mono x6)) vH (by rw [natAbs_natCast];exact tT) ?_
 intro r2 g7 x7 i2
 refine Wf (i1.mono x7) i2 (lt_of_lt_of_le c1 cb) (lt_of_lt_of_le c2 cb) ?_
 intro g8 x8
 rw [ay7]
 exact hk g8 (x0.trans (x6.trans (x7.trans x8)))
theorem azu {p q:Rat} (hq:0<q.num):p / q=mkRat (p.num*q.den) (p.den*q.num.toNat):=by
 have h1:=Rat.mkRat_self p
 have h2:=Rat.mkRat_self q
 rw [Rat.mkRat_eq_div] at h1 h2
 rw [Rat.mkRat_eq_div,Rat.intCast_mul,Rat.natCast_mul]
 have h3:((q.num.toNat:Nat):Rat)=(q.num:Rat):=by
  rw [<-Rat.intCast_natCast,Int.toNat_of_nonneg (by omega)]
 have h4:((q.den:Nat):Int)=(q.den:Int):=rfl
 rw [h3,Rat.intCast_natCast]
 have d1:((p.den:Nat):Rat)≠0:=by
  have:=p.den_nz
  intro h
  exact this (by exact_mod_cast h)
 have d2:((q.den:Nat):Rat)≠0:=by
  have:=q.den_nz
  intro h
  exact this (by exact_mod_cast h)
 have d3:(q.num:Rat)≠0:=by
  intro h
  have:q.num=0:=by exact_mod_cast h
  omega
 generalize (p.num:Rat)=a at*
 generalize (q.num:Rat)=b at*
 generalize ((p.den:Nat):Rat)=c at*
 generalize ((q.den:Nat):Rat)=d at*
 rw [<-h1,<-h2]
 grind
theorem KA (ha:RV h va p) (hb:RV h vb q) (hq:0<q.num) (sp:gU i p) (sq:gU j q) (gC:i+j<=800) (hk:∀r h',EX h h'->RV h' r (p / q)->K r h'):ay prog 94 [va,vb] h K:=by
 obtain ⟨vG,tT⟩:=sp.wq (by omega)
 obtain ⟨vH,tU⟩:=sq.wq (by omega)
 obtain ⟨c1,c2,_,_⟩:=Hq sp sq
 have cb:=zA (k:=i+j) (by omega)
 have pd:=p.den_pos
 have iO:(0:Int)<(p.den:Int)*q.num:=Int.mul_pos (by omega) hq
 obtain ⟨m,hm⟩:∃m:Nat,q.num=(m:Int):=⟨q.num.toNat,by omega⟩
 have hN:((p.den:Int)*q.num).natAbs=p.den*q.num.toNat:=by rw [natAbs_mul,natAbs_natCast];congr 1;omega
 refine aoX ha hb vG (by rw [natAbs_natCast];exact tT) vH (by rw [natAbs_natCast];exact tU) (lt_of_lt_of_le c1 cb) iO (by rw [Int.mul_comm];exact lt_of_lt_of_le c2 cb) ?_
 intro r h' x hr
 refine hk r h' x ?_
 have hD:0<p.den*q.num.toNat:=Nat.mul_pos pd (by omega)
 obtain ⟨e1,e2⟩:=RG (N:=p.num*q.den) hD
 unfold RV
 rw [azu hq,e1,e2,Int.natCast_ediv,natCast_mul,Int.toNat_of_nonneg (by omega)]
 rw [hN] at hr
 exact hr
theorem pL {n:Int} (h1: -9223372036854775808<=n) (h2:n<9223372036854775808) (hk:∀r h',EX h h'->RV h' r (n:Rat)->K r h'):ay prog 34 [I n] h K:=by
 refine C34 h1 h2 ?_
 intro r h' x hr
 exact hk r h' x hr
end
end
end Go.Proofs.YtncaiogfjjepcaaGreat
