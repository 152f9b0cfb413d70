/-
  Part 7 of the texts behind a statement of this seat: Kq3, Kq4, Kq5, Kq6, ZNA, Kr3, Kq7, Kq8, Kr1, Kr2, Kr4, Sq30, Sq31, Sq32, Kg1, Kg2, ZNB, Kg3, Kg4, Kg5, Kg6, Kg7, Kr5, Sim37.
-/
import Derived.Test.YtelmdbpaoifmoaaGreatProg
import Derived.KernelRfl
import Derived.Test.YtelmdbpaoifmoaaGreatMv6
open Bool (and_eq_true or_eq_false_iff)
open Classical (byContradiction)
open Go.Proofs.Tryz (prog)
open Int (toNat_natCast)
open List (getD_cons_succ getD_cons_zero getD_eq_getElem?_getD getElem?_eq_getElem getElem?_eq_none getElem?_set_ne getElem?_set_self getElem_mem length_append length_cons length_map length_nil length_replicate length_set length_take map_append set_cons_zero take_length take_of_length_le)
open Nat (add_zero le_refl le_trans zero_add zero_le)
open Option (getD_some)
open Rat (div_def intCast_mul le_of_lt mul_nonneg mul_pos zero_mul)
namespace Go.Proofs.YtelmdbpaoifmoaaGreat
open Go.Sim
section
theorem aAF (l:List Rat):∀a:Rat,l.foldl (·+·) a=a+cR l:=by
 induction l with
 | nil=>intro a;simp [cR,Rat.add_zero]
 | cons x l ih=>
  intro a
  unfold cR
  simp only [List.foldl_cons]
  rw [ih (a+x),ih (0+x),Rat.zero_add,Rat.add_assoc]
theorem aqA (x:Rat) (l:List Rat):cR (x::l)=x+cR l:=by
 unfold cR
 rw [List.foldl_cons,Rat.zero_add,aAF]
 rfl
theorem MY {qs:List Rat} {k:Nat} (hk:k<qs.length):cR (qs.drop k)=qs.getD k 0+cR (qs.drop (k+1)):=by
 rw [List.drop_eq_getElem_cons hk,aqA,getD_eq_getElem?_getD,getElem?_eq_getElem hk,getD_some]
theorem RK (qs:List Rat) (w:Int) (age:Nat):∀d:Nat,age+d<=qs.length->(bW qs w age d).done=cR (qs.drop age)-cR (qs.drop (age+d))
 | 0,_=>by simp only [add_zero,bW];grind
 | d+1,hd=>by
  rw [(tQ qs w age d).1,RK qs w age d (by omega),MY (k:=age+d) (by omega)]
  have:age+(d+1)=age+d+1:=by omega
  rw [this]
  generalize cR (qs.drop age)=a
  generalize cR (qs.drop (age+d+1))=b
  generalize qs.getD (age+d) 0=c
  grind
theorem agL {qs:List Rat} (h:∀q∈qs,0<=q) (k:Nat):0<=qs.getD k 0:=by
 rw [getD_eq_getElem?_getD]
 cases e:qs[k]? with
 | none=>exact Rat.le_refl
 | some q=>exact h q (List.mem_of_getElem? e)
theorem af7 {qs:List Rat} {w:Int} (h:∀q∈qs,0<=q) {age:Nat}:∀d:Nat,0<=(bW qs w age d).done
 | 0=>Rat.le_refl
 | d+1=>by
  rw [(tQ qs w age d).1]
  exact Rat.add_nonneg (af7 h d) (agL h _)
theorem RJ {a b:Rat} (ha:0<=a) (hb:0<b):0<=a / b:=by
 rw [div_def]
 exact mul_nonneg ha (le_of_lt (Rat.inv_pos.2 hb))
theorem aqI {qs:List Rat} {w:Int} (h:dM qs w=true) {age d:Nat} (hd:age+(d+1)<=qs.length):0<=iC qs w age d:=by
 obtain ⟨_,⟨w0,_⟩,_,_,nn,_⟩:=oB h
 refine RJ (mul_nonneg ?_ (af7 nn _)) ((Dr h hd).2 (by omega))
 exact_mod_cast w0
theorem XX (qs:List Rat) (w:Int) (age:Nat):∀d,(bW qs w age d).gT<=d/\(0<d->0<(bW qs w age d).gT)
 | 0=>⟨le_refl _,λh=>absurd h (by decide)⟩
 | d+1=>by
  obtain ⟨i1,i2⟩:=XX qs w age d
  simp only [bW]
  split
  ·simp
  ·rename_i hc
   have:(bW qs w age d).gT≠0:=λe=>hc (.inl e)
   refine ⟨by simp;omega,λ_=>by simp;omega⟩
def qH (qs:List Rat) (w:Int) (age d:Nat):Rat:=if d=0 then ((-1:Int):Rat) else (bW qs w age d).bU
theorem XY (qs:List Rat) (w:Int) (age d:Nat):bW qs w age (d+1)=if (bW qs w age d).gT=0∨(bW qs w age d).bU<iC qs w age d then ⟨iC qs w age d,d+1,(bW qs w age (d+1)).done,(bW qs w age (d+1)).ke⟩ else ⟨(bW qs w age d).bU,(bW qs w age d).gT,(bW qs w age (d+1)).done,(bW qs w age (d+1)).ke⟩:=by
 unfold iC
 rw [(tQ qs w age d).1,(tQ qs w age d).2]
 rfl
theorem Jy {p q:Rat}:0<lW p q↔q<p:=by
 unfold lW
 by_cases h:p=q
 ·rw [if_pos h,h];constructor
  ·intro h;omega
  ·intro h;exact absurd h (by grind)
 ·rw [if_neg h]
  by_cases h2:p<q
  ·rw [if_pos h2];constructor
   ·intro h;omega
   ·intro h3;exact absurd h3 (by grind)
  ·rw [if_neg h2];constructor
   ·intro _;grind
   ·intro _;decide
theorem au9 {qs:List Rat} {w:Int} (h:dM qs w=true) {age d:Nat} (hd:age+(d+1)<=qs.length):
  (0<lW (iC qs w age d) (qH qs w age d)->qH qs w age (d+1)=iC qs w age d/\(bW qs w age (d+1)).gT=d+1)/\
  (¬0<lW (iC qs w age d) (qH qs w age d)->qH qs w age (d+1)=qH qs w age d/\(bW qs w age (d+1)).gT=(bW qs w age d).gT):=by
 have ht:=aqI h hd
 have e:qH qs w age (d+1)=(bW qs w age (d+1)).bU:=rfl
 rw [e,XY,Jy]
 unfold qH
 by_cases d0:d=0
 ·subst d0
  rw [if_pos rfl]
  have hm:(bW qs w age 0).gT=0:=rfl
  have h1:((-1:Int):Rat)<iC qs w age 0:=by
   have:((-1:Int):Rat)<0:=by decide
   grind
  refine ⟨λ_=>?_,λhc=>absurd h1 hc⟩
  rw [if_pos (.inl hm)]
  exact ⟨rfl,rfl⟩
 ·have hm:=(XX qs w age d).2 (by omega)
  rw [if_neg d0]
  refine ⟨λhc=>?_,λhc=>?_⟩
  ·rw [if_pos (.inr hc)];exact ⟨rfl,rfl⟩
  ·rw [if_neg (by rintro (h | h);omega;exact hc h)];exact ⟨rfl,rfl⟩
theorem au7 {qs:List Rat} {w:Int} (h:dM qs w=true) {age d:Nat} (hd:age+d<=qs.length):cd 380 (qH qs w age d):=by
 unfold qH
 split
 ·have:cd 1 ((-1:Int):Rat):=by constructor <;> decide
  exact this.le (by decide)
 ·exact MR h hd
theorem uA {qs:List Rat} {w:Int} (h:dM qs w=true) (k:Nat):cd 41 (cR (qs.drop k)):=by
 obtain ⟨⟨_,l8⟩,_,hb,_⟩:=oB h
 have s4:=vV hb
 have hs:=Br (qs:=qs.drop k) (λq hq=>s4 q (List.mem_of_mem_drop hq)) _ (le_refl _)
 rw [take_length,List.length_drop] at hs
 exact hs.le (by omega)
end
section
theorem oa {g:ae} {i:Nat} (hi:g[i]?=some (.arr 37 z4)):dh g (pt i 0)=some (.agg #[.int .i64 37,.bool false,.slice none 0 0,.bool false,.slice none 0 0]):=by
 simp [dh,yD,hi,oD]
section
variable {h : ae} {K : Value -> ae -> Prop}
theorem C15 {vs:Value} {ls:List (List UInt8)} {w:Int} {age:Nat} (hv:SS h vs ls) (hl:∀s∈ls,s.length<=700/\jo s=true) (aI:dM (ls.map bP) w=true) (ha:age<ls.length)
  (hk:∀r h',EX h h'->QV h' r (bW (ls.map bP) w age (ls.length-age)).bU->K (.tuple #[r,I (bW (ls.map bP) w age (ls.length-age)).gT]) h'):ak prog 15 [.agg #[vs,I w],I age] h K:=by
 obtain ⟨⟨_,l8⟩,⟨w0,nc⟩,hb,_⟩:=oB aI
 rw [length_map] at l8
 have hs:∀s∈ls,cd 4 (bP s):=λs h1=>vV hb _ (List.mem_map_of_mem h1)
 have ml:(ls.map bP).length=ls.length:=length_map ..
 refine f15 ?_
 have e1:bp 24 h (.agg #[vs,I w])=some (pt h.length 0,h++[.arr 24 [vs,I w]]):=rfl
 have e2:∀g:ae,aV 37 [(.bool false),(.slice none 0 0),(.bool false),(.slice none 0 0)] g=some (pt g.length 0,g++[.arr 37 z4]):=λ_=>rfl
 simp only [zz,e1,e2,aE,length_append,length_cons,length_nil,zero_add]
 have k0:(h++[aq.arr 24 [vs,I w]]++[aq.arr 37 z4])[h.length]?=some (.arr 24 [vs,I w]):=by simp
 have k1:(h++[aq.arr 24 [vs,I w]]++[aq.arr 37 z4])[h.length+1]?=some (.arr 37 z4):=by simp
 have x1:EX h (h++[aq.arr 24 [vs,I w]]++[aq.arr 37 z4]):=(EX.append _ _).push _
 have l1:(h++[aq.arr 24 [vs,I w]]++[aq.arr 37 z4]).length=h.length+2:=by simp
 generalize h++[aq.arr 24 [vs,I w]]++[aq.arr 37 z4]=h1 at k0 k1 x1 l1⊢
 refine vF (by decide) ?_
 intro r2 h2 x2 q2
 refine B1 q2 ?_
 intro h3 x3 c3 l3
 refine vF (by decide) ?_
 intro r4 h4 x4 q4
 refine B1 q4 ?_
 intro h5 x5 c5 l5
 have aP:=x2.trans (x3.trans (x4.trans x5))
 have m2:h1.length<=h2.length:=x2.1
 have m4:h2.length<h4.length:=by have:=x4.1;omega
 generalize h2.length=b6 at*
 generalize h4.length=b8 at*
 refine dF (σ:=Nat×ae) (λq=>[I (bW (ls.map bP) w age q.1).gT,I ((q.1:Int)+1)]) (λq=>q.2) (λq=>age+q.1<=ls.length/\EX h1 q.2/\fe q.2 b6 (qH (ls.map bP) w age q.1)/\fe q.2 b8 (bW (ls.map bP) w age q.1).ke) (λq=>ls.length-q.1) (0,h5) rfl rfl
  ⟨by omega,aP,(c3.mono (x4.trans x5)),c5⟩ ?_
 rintro ⟨d,g⟩ ⟨hi,xg,SN,SO⟩ L hL
 simp only at hi xg SN SO hL⊢
 rw [aGq]
 have oS:∀{g':ae},EX g g'->af false 1 g' (pt h.length 0)=some vs:=λx=>by simp [af,aW,(xg.trans x).get k0,cP]
 have qj:∀{g':ae},EX g g'->af false 1 g' (pt h.length 1)=some (I w):=λx=>by simp [af,aW,(xg.trans x).get k0,cP]
 have ldc:∀{g':ae},EX g g'->af true 2 g' (pt h.length 0)=some (.agg #[vs,I w]):=λx=>cZ ((xg.trans x).get k0)
 have nW:=hv.mono (x1.trans xg)
 have aAn:IntKind.wrap .i64 ((ls.length:Int)-(age:Int))=((ls.length-age:Nat):Int):=by
  rw [wrap64 (by omega) (by omega)];omega
 simp only [bZ,add_zero,zero_add,oS (EX.refl g),ah,nW.len,gE,aAn,sP,bQ,true_and]
 refine ⟨λhle=>?_,λtg=>?_⟩
 rotate_left
 ·have EP:d=ls.length-age:=by omega
  subst EP
  rw [aGp]
  obtain ⟨v,l1',l2'⟩:=SN.load
  obtain ⟨g',e1',st⟩:=B2 (xg.get k1) l2'
  simp only [l1',ah,e1',aE]
  obtain ⟨v',n1,n2⟩:=st.cell.load
  simp only [n1,ah]
  have:qH (ls.map bP) w age (ls.length-age)=(bW (ls.map bP) w age (ls.length-age)).bU:=by unfold qH;rw [if_neg (by omega)]
  rw [this] at n2
  exact hk v' g' (st.ex (x1.trans xg) (by omega)) n2
 have oG:age+d<ls.length:=by omega
 have ki:age+(d+1)<=(ls.map bP).length:=by rw [ml];omega
 obtain ⟨sz1,Yb⟩:=Dg (age:=age) (d:=d) aI (by rw [ml];omega)
 obtain ⟨Yc,Yd⟩:=Dg (age:=age) (d:=d+1) aI ki
 have szb:=au7 (age:=age) (d:=d) aI (by rw [ml];omega)
 have szt:=Yh aI ki
 have a1:IntKind.wrap .i64 ((age:Int)+((d:Int)+1))=((age+(d+1):Nat):Int):=by rw [wrap64 (by omega) (by omega)];omega
 have a2:IntKind.wrap .i64 (((age+(d+1):Nat):Int)-1)=((age+d:Nat):Int):=by rw [wrap64 (by omega) (by omega)];omega
 obtain ⟨vu,lu,qu⟩:=SO.load
 simp only [lu,ah,ldc (EX.refl g),cL,a1,gE,a2]
 refine DD nW (by omega) hl hs (by omega) ?_
 intro r6 g6 x6 q6
 refine ⟨⟨EX.load x6 lu,trivial⟩,?_⟩
 refine DC ((qu.mono x6).un Yb) (q6.un (uA aI _)) (by omega) ?_
 intro r7 g7 x7 q7
 refine DB q7 (by omega) ?_
 intro r8 g8 x8 q8
 have ew:(bW (ls.map bP) w age d).ke+cR ((ls.map bP).drop (age+d))=(bW (ls.map bP) w age (d+1)).ke:=(tQ _ _ _ _).2.symm
 rw [ew] at q8
 have fw:=x6.trans (x7.trans x8)
 obtain ⟨g9,e9,s9⟩:=(SO.mono fw).store q8
 have lb8:h1.length<=b8:=by omega
 have x9:EX h1 g9:=s9.ex (xg.trans fw) lb8
 have c6:fe g9 b6 _:=s9.eX (by omega) (SN.mono fw)
 have c8:=s9.cell
 have hv9:=hv.mono (x1.trans x9)
 have k9:=x9.get k0
 have k91:=x9.get k1
 simp only [e9,aE,e2]
 have y1:EX g9 (g9++[aq.arr 37 z4]):=EX.append _ _
 have j1:(g9++[aq.arr 37 z4])[g9.length]?=some (.arr 37 z4):=br
 generalize g9++[aq.arr 37 z4]=ga at y1 j1⊢
 have lw:∀{g':ae},EX g9 g'->af false 1 g' (pt h.length 1)=some (I w):=λx=>by simp [af,aW,x.get k9,cP]
 have lc:∀{g':ae},EX g9 g'->af true 2 g' (pt h.length 0)=some (.agg #[vs,I w]):=λx=>cZ (x.get k9)
 obtain ⟨vn,ln,qn⟩:=c8.load
 simp only [oa j1,ah,lw y1,lw (EX.refl g9),true_and]
 refine vF (by omega) ?_
 intro r10 pV ay W5
 have yY:=y1.trans ay
 refine ⟨⟨oa (ay.get j1),trivial⟩,?_⟩
 simp only [lc yY,lc (EX.refl g9),lc y1,ah,true_and]
 refine DD (hv9.mono yY) (by omega) hl hs (by omega) ?_
 intro r11 h11 au q11
 have nh:=yY.trans au
 refine ⟨⟨oa ((ay.trans au).get j1),trivial⟩,?_⟩
 simp only [lc nh,ah,true_and]
 refine DD (hv9.mono nh) (by omega) hl hs (by omega) ?_
 intro w6 h12 aD qw
 have yZ:=nh.trans aD
 refine ⟨⟨oa ((ay.trans (au.trans aD)).get j1),trivial⟩,?_⟩
 refine Zo ((q11.mono aD).un (uA aI _)) (qw.un (uA aI _)) (by omega) ?_
 intro r13 h13 aB Ml
 have y13:=yZ.trans aB
 refine ⟨⟨oa ((ay.trans (au.trans (aD.trans aB))).get j1),trivial⟩,?_⟩
 refine Nx ((W5.mono (au.trans (aD.trans aB))).un (GK w0 nc)) Ml (by omega) ?_
 intro r14 h14 aA Xd
 have Dw:=y13.trans aA
 have A0:∀{g':ae},EX g9 g'->af true 4 g' (pt b8 0)=some vn:=λx=>EX.load x ln
 refine ⟨⟨oa ((ay.trans (au.trans (aD.trans (aB.trans aA)))).get j1),trivial⟩,?_⟩
 simp only [A0 Dw,A0 (EX.refl g9),A0 y1,A0 yY,A0 nh,A0 yZ,A0 y13,ah,true_and]
 have wp:=(Dr (age:=age) (d:=d+1) aI ki).2 (by omega)
 refine Nz Xd ((qn.mono Dw).un Yd) wp (by omega) ?_
 intro r15 h15 aP Xe
 have G0:=Dw.trans aP
 refine ⟨⟨oa ((ay.trans (au.trans (aD.trans (aB.trans (aA.trans aP))))).get j1),trivial⟩,?_⟩
 refine DB Xe (by omega) ?_
 intro Xq h16 aL Mm
 have j16:=(ay.trans (au.trans (aD.trans (aB.trans (aA.trans (aP.trans aL)))))).get j1
 have y16:=G0.trans aL
 refine ⟨⟨oa j16,trivial⟩,?_⟩
 have et:(w:Rat)*(cR ((ls.map bP).drop age)-cR ((ls.map bP).drop (age+(d+1)))) / (bW (ls.map bP) w age (d+1)).ke=iC (ls.map bP) w age d:=by
  unfold iC
  rw [RK _ _ _ _ ki]
 rw [et] at Mm
 obtain ⟨h17,e17,ME⟩:=B2 j16 Mm
 have g9l:g9.length<=ga.length:=y1.1
 have c6':=c6.mono y16
 have y17:EX g9 h17:=ME.ex y16 (le_refl _)
 have n6:b6≠g9.length:=by have:=c6.lt;omega
 have n8:b8≠g9.length:=by have:=c8.lt;omega
 obtain ⟨v18,l18,q18⟩:=ME.cell.load
 obtain ⟨v19,K4,q19⟩:=(ME.eX n6 c6').load
 simp only [e17,aE,l18,K4,ah]
 refine G7 (q18.un szt) (q19.un szb) (by omega) ?_
 intro h20 aU
 obtain ⟨b1,b2⟩:=au9 aI ki
 have G1:=y17.trans aU
 have stop:∀{g':ae} (m:Nat),EX h1 g'->fe g' b6 (qH (ls.map bP) w age (d+1))->fe g' b8 (bW (ls.map bP) w age (d+1)).ke->(bW (ls.map bP) w age (d+1)).gT=m->
   LR prog K (I age) (pt h.length 0) (pt (h.length+1) 0) (pt b6 0) (I m) (pt b8 0) (.int .i64 ((d:Int)+1)) L g':=by
  intro g' m hx h6 h8 hm
  rw [aGo]
  have e:IntKind.wrap .i64 ((d:Int)+1+1)=((d+1:Nat):Int)+1:=by rw [wrap64 (by omega) (by omega)];omega
  simp only [cL,ah,e,true_and]
  have:=hL (d+1,g') ⟨by show age+(d+1)<=_;omega,hx,h6,h8⟩ (by show ls.length-(d+1)<ls.length-d;omega)
  simp only [hm] at this
  exact this
 simp only [fQ,ah,bQ]
 refine ⟨λhc=>?_,λhc=>?_⟩
 ·obtain ⟨f1,f2⟩:=b1 hc
  simp only [EX.load aU l18,ah]
  obtain ⟨h21,RR,XH⟩:=((ME.eX n6 c6').mono aU).store (q18.mono aU)
  simp only [RR,aE]
  have:=stop (d+1) (XH.ex (x9.trans G1) m2) (by rw [f1];exact XH.cell) (XH.eX (by omega) (c8.mono G1)) f2
  simpa using this
 ·obtain ⟨f1,f2⟩:=b2 hc
  exact stop _ (x9.trans G1) (by rw [f1];exact c6.mono G1) (c8.mono G1) f2
end
end
section
def oU (n:Nat):Nat->List UInt8->Bool
 | _,[]=>true
 | k,c::t=>let k':=if c=47 then 0 else if c=45 then k else k+1;if n<k' then false else oU n k' t
theorem XP {n:Nat}:∀{s:List UInt8} {k:Nat},jX s->k<=n->oU n k s=decide (k+s.length<=n)
 | [],k,_,hk=>by simp [oU,hk]
 | c::t,k,hd,hk=>by
  have h1:=hd c (by simp)
  have n1:c≠47:=λe=>by rw [e] at h1;simp at h1
  have n2:c≠45:=λe=>by rw [e] at h1;simp at h1
  simp only [oU,if_neg n1,if_neg n2,length_cons]
  by_cases h:n<k+1
  ·rw [if_pos h]
   exact (aY (by omega)).symm
  ·rw [if_neg h,XP (λx hx=>hd x (by simp [hx])) (by omega),decide_eq_decide]
   omega
theorem aqs {n:Nat} {u:List UInt8}:∀{s:List UInt8} {k:Nat},jX s->k<=n->oU n k (s++47::u)=(decide (k+s.length<=n)&&oU n 0 u)
 | [],k,_,hk=>by simp [oU,hk]
 | c::t,k,hd,hk=>by
  have h1:=hd c (by simp)
  have n1:c≠47:=λe=>by rw [e] at h1;simp at h1
  have n2:c≠45:=λe=>by rw [e] at h1;simp at h1
  simp only [List.cons_append,oU,if_neg n1,if_neg n2,length_cons]
  by_cases h:n<k+1
  ·rw [if_pos h,aY (by omega),Bool.false_and]
  ·rw [if_neg h,aqs (λx hx=>hd x (by simp [hx])) (by omega)]
   congr 1
   rw [decide_eq_decide]
   omega
theorem aKr {s:List UInt8} (h0:0<s.length) (h:s.head?≠some 48) (hd:jX s):10^(s.length-1)<=dT s:=by
 cases s with
 | nil=>simp at h0
 | cons c t=>
  have h1:=hd c (by simp)
  have h2:c.toNat≠48:=by
   intro e
   apply h
   have:c=48:=UInt8.toNat_inj.1 e
   rw [this];rfl
  rw [GJ,length_cons,Nat.add_sub_cancel]
  have:=Nat.mul_le_mul_right (10^t.length) (show 1<=c.toNat-48 by omega)
  omega
/-- Few digits, or a small number. -/
theorem af2 {s:List UInt8} (h:iz s=true) {n:Nat} (hn:1<=n):s.length<=n↔cT s<10^n:=by
 unfold cT
 rw [if_pos h]
 obtain ⟨⟨h1,_⟩,h2,h3⟩:=rM.1 h
 constructor
 ·intro hl
  exact Nat.lt_of_lt_of_le (yM h3) (Nat.pow_le_pow_right (by decide) hl)
 ·intro hv
  by_cases lY:s.head?=some 48
  ·have:=h2 lY;omega
  ·have hg:=aKr h1 lY h3
   apply byContradiction
   intro hc
   have:=Nat.pow_le_pow_right (show 0<10 by decide) (show n<=s.length-1 by omega)
   omega
theorem aJH {n:Nat} (s:List UInt8):oU n 0 s=oU n 0 (fD s):=by
 unfold fD
 split
 ·rename_i h
  cases s with
  | nil=>rfl
  | cons c t=>
   have:c=45:=by simpa using h
   subst this
   simp [oU]
 ·rfl
theorem aJU (t:List UInt8) (h:nP t=true):t=dI t++47::ep t:=by
 unfold nP at h
 have h:=of_decide_eq_true h
 unfold dI ep
 have e:t[t.idxOf 47]=47:=by simp
 generalize t.idxOf 47=i at*
 have e2:=List.drop_eq_getElem_cons h
 rw [e] at e2
 rw [<-e2,List.take_append_drop]
theorem aJI {s:List UInt8} (hn:jo s=true) {n:Nat} (h1:1<=n):oU n 0 s=vU n (bP s):=by
 have hp:=aiQ hn
 rw [aJH]
 rw [Mc] at hp
 unfold sA at hp
 split at hp
 ·rename_i hc
  obtain ⟨c1,c2,_⟩:=hc
  injection hp with hp
  injection hp with e1 e2
  have en:(bP s).num.natAbs=cT (dI (fD s)):=by
   rw [<-e1];exact (ML (m:=decide (s.head?=some 45)) (n:=cT (dI (fD s)))).2
  unfold vU
  rw [en,<-e2]
  generalize fD s=t at*
  have l1:=af2 c2 h1
  obtain ⟨_,_,d2⟩:=rM.1 c2
  unfold qK
  cases hs:nP t with
  | true=>
   unfold pU at c1
   rw [hs,Bool.not_true,Bool.false_or,and_eq_true] at c1
   obtain ⟨c3,_⟩:=c1
   have l2:=af2 c3 h1
   obtain ⟨_,_,d3⟩:=rM.1 c3
   rw [if_pos rfl]
   conv=>lhs;rw [aJU t hs]
   rw [aqs d2 (zero_le _),XP d3 (zero_le _)]
   congr 1 <;> rw [decide_eq_decide] <;> omega
  | false=>
   have:dI t=t:=by
    unfold nP at hs
    have:=of_decide_eq_false hs
    unfold dI
    exact take_of_length_le (by omega)
   rw [if_neg (by decide)]
   have pV:1<10^n:=Nat.one_lt_pow (by omega) (by decide)
   rw [this] at d2 l1⊢
   rw [XP d2 (zero_le _),bj pV,Bool.and_true,decide_eq_decide]
   omega
 ·cases hp
theorem C47 {s:List UInt8} {n:Nat} {h:ae} {K:Value->ae->Prop} (hl:s.length<=700) (hk:K (B (oU n 0 s)) h):ak prog 47 [S s,I n] h K:=by
 refine f47 ?_
 unfold PD
 refine dF (σ:=Nat×Nat) (λq=>[I q.2,I q.1]) (λ_=>h) (λq=>q.1<=s.length/\q.2<=q.1/\oU n 0 s=oU n q.2 (s.drop q.1)) (λq=>s.length-q.1) (0,0) rfl rfl ⟨zero_le _,le_refl _,rfl⟩ ?_
 rintro ⟨i,k⟩ ⟨hi,Kr,he⟩ L hL
 simp only at hi Kr he hL⊢
 rw [aGU]
 simp only [lK,ah,cW,bQ]
 refine ⟨λaF=>?_,λcU=>?_⟩
 rotate_left
 ·rw [List.drop_eq_nil_of_le (by omega)] at he
  rw [he] at hk
  exact hk
 have bn:i<s.length:=by omega
 rw [List.drop_eq_getElem_cons bn] at he
 have ni:=ft i (by omega)
 have nk:=ft k (by omega)
 have gN:∀k':Nat,k'<=i+1->(if s[i]=47 then 0 else if s[i]=45 then k else k+1)=k'->Gc prog K (S s) (I n) (I k') (I i) L h:=by
  intro k' bD ek
  rw [aGS]
  simp only [fQ,ah,bQ]
  simp only [oU,ek] at he
  refine ⟨λhc=>?_,λhc=>?_⟩
  ·rw [if_pos (by omega)] at he
   rw [he] at hk
   exact hk
  ·rw [if_neg (by omega)] at he
   rw [aGT]
   simp only [cL,ah,ni,true_and]
   exact hL (i+1,k') ⟨by show i+1<=_;omega,by show k'<=i+1;omega,he⟩ (by show s.length-(i+1)<s.length-i;omega)
 have zO:((s[i].toNat:Int)=47)↔s[i]=47:=by
  constructor
  ·intro e;apply UInt8.toNat_inj.1;show s[i].toNat=47;omega
  ·intro e;rw [e];rfl
 have BZ:((s[i].toNat:Int)=45)↔s[i]=45:=by
  constructor
  ·intro e;apply UInt8.toNat_inj.1;show s[i].toNat=45;omega
  ·intro e;rw [e];rfl
 simp only [uT (a:=s) bn,ah,cv,hY,bQ]
 refine ⟨λhc=>?_,λhc=>?_⟩
 ·exact gN 0 (by omega) (by rw [if_pos (zO.1 hc)])
 ·have n47:¬s[i]=47:=λe=>hc (zO.2 e)
  simp only [oA,ah]
  by_cases EH:s[i]=45
  ·rw [bj (BZ.2 EH)]
   simp only [Bool.not_true,dD]
   exact gN k (by omega) (by rw [if_neg n47,if_pos EH])
  ·rw [aY (λe=>EH (BZ.1 e))]
   simp only [Bool.not_false,dA,cL,ah,nk]
   exact gN (k+1) (by omega) (by rw [if_neg n47,if_neg EH])
end
section
def rh (qs:List Rat) (k:Nat):Bool:=gw (qs.getD k 0)||(decide (k+1=qs.length)&&decide ((qs.getD k 0).num=0))
def oV (qs:List Rat):Nat->Rat
 | 0=>0
 | k+1=>if rh qs k=true then oV qs k else oV qs k+qs.getD k 0
def oz (qs:List Rat):Nat->Bool
 | 0=>false
 | k+1=>oz qs k||rh qs k
theorem aqw {qs:List Rat}:∀{k:Nat},k<=qs.length->oz qs k=false->oV qs k=cR (qs.take k)
 | 0,_,_=>by rw [List.take_zero];rfl
 | k+1,hk,hb=>by
  simp only [oz,or_eq_false_iff] at hb
  have bD:k<qs.length:=by omega
  simp only [oV]
  rw [if_neg (by rw [hb.2];decide),aqw (by omega) hb.1,Dj bD,getD_eq_getElem?_getD,getElem?_eq_getElem bD,getD_some]
theorem Qs {qs:List Rat}:∀{k:Nat},oz qs k=true↔∃j,j<k/\rh qs j=true
 | 0=>by simp [oz]
 | k+1=>by
  simp only [oz,Bool.or_eq_true,Qs (k:=k)]
  constructor
  ·rintro (⟨j,h1,h2⟩ | h)
   ·exact ⟨j,by omega,h2⟩
   ·exact ⟨k,by omega,h⟩
  ·rintro ⟨j,h1,h2⟩
   by_cases e:j=k
   ·subst e;exact .inr h2
   ·exact .inl ⟨j,by omega,h2⟩
theorem X8 {qs:List Rat}:∀{k:Nat},k<=qs.length->cd (5*k+1) (oV qs k)
 | 0,_=>cd.zero
 | k+1,hk=>by
  have ih:cd (5*k+1) (oV qs k):=X8 (by omega)
  simp only [oV]
  split
  ·exact ih.le (by omega)
  ·rename_i hb
   have h4:cd 4 (qs.getD k 0):=by
    have:gw (qs.getD k 0)=false:=by
     cases e:gw (qs.getD k 0) with
     | false=>rfl
     | true=>exact absurd (by unfold rh;rw [e,Bool.true_or]) hb
    unfold gw vU at this
    rw [or_eq_false_iff,Bool.not_eq_false',and_eq_true,decide_eq_true_eq,decide_eq_true_eq] at this
    exact this.2
   exact (ih.add h4).le (by omega)
theorem aCT {qs:List Rat} (h1:1<=qs.length):(oz qs qs.length|| !decide (oV qs qs.length=1))= !(!wN qs&&(!qs.any gw&&decide (cR qs=1))):=by
 cases hb:oz qs qs.length with
 | false=>
  have hs:=aqw (le_refl _) hb
  rw [take_length] at hs
  have no:∀j,j<qs.length->rh qs j=false:=by
   intro j hj
   cases e:rh qs j with
   | false=>rfl
   | true=>rw [Qs.2 ⟨j,hj,e⟩] at hb;cases hb
  have hl:wN qs=false:=by
   have:=no (qs.length-1) (by omega)
   unfold rh at this
   rw [or_eq_false_iff,bj (show qs.length-1+1=qs.length by omega),Bool.true_and] at this
   exact this.2
  have ha:qs.any gw=false:=by
   cases e:qs.any gw with
   | false=>rfl
   | true=>
    obtain ⟨q,hq,Kd⟩:=List.any_eq_true.1 e
    obtain ⟨j,hj,rfl⟩:=List.getElem_of_mem hq
    have:=no j hj
    unfold rh at this
    rw [or_eq_false_iff,getD_eq_getElem?_getD,getElem?_eq_getElem hj,getD_some,Kd] at this
    exact absurd this.1 (by decide)
  rw [hl,ha,hs]
  simp
 | true=>
  obtain ⟨j,hj,hi⟩:=Qs.1 hb
  unfold rh at hi
  rw [Bool.or_eq_true] at hi
  rw [Bool.true_or]
  rcases hi with hi | hi
  ·have:qs.any gw=true:=by
    rw [getD_eq_getElem?_getD,getElem?_eq_getElem hj,getD_some] at hi
    exact List.any_eq_true.2 ⟨_,getElem_mem hj,hi⟩
   rw [this];simp
  ·rw [and_eq_true,decide_eq_true_eq] at hi
   have Au:j=qs.length-1:=by omega
   have:wN qs=true:=by unfold wN;rw [<-Au];exact hi.2
   rw [this];rfl
theorem A1 {g:ae} {i o:Nat} {a b:Value} (h:af true 2 g (pt i o)=some (.agg #[a,b])):af false 1 g (pt i o)=some a/\af false 1 g (pt i (o+1))=some b:=by
 simp only [af] at h⊢
 cases hc:aW g i with
 | none=>rw [hc] at h;cases h
 | some xs=>
  rw [hc] at h
  simp only [Option.bind_some,cP,if_true,Bool.false_eq_true,if_false] at h⊢
  split at h
  ·injection h with h
   injection h with h
   have h:=congrArg Array.toList h
   simp only at h
   have h0:=congrArg (λl=>l[0]?) h
   have h1:=congrArg (λl=>l[1]?) h
   simp only [List.getElem?_take,List.getElem?_drop] at h0 h1
   constructor
   ·simpa using h0
   ·simpa using h1
  ·cases h
end
section
variable (P : Program) (K : VK)
noncomputable section
variable (l0 x1 x5 x6 i7 : Value) (L1 : LQ) (xs : List Value) (h : ae)
def ak0:=bE prog 42 [[],[],[],[0,1,5],[6,7],[],[],[],[],[],[],[0,1,5,6,7],[6],[]]
@[irreducible] def IP:=bM ak0
@[irreducible] def adJ:=IP.r.r.l.r.l.l
@[irreducible] def adI:=IP.r.r.r
@[irreducible] def awV:=adJ.r.r.l
@[irreducible] def awW:=adI.l
theorem k42:ak0=some (41,IP,[.tmp 4]):=by kernel_rfl
def Oa (_P:Program) (K:VK):ar:=aT [.tmp 4] K
def atl:ar:=aH (aj P adI (Oa P K)) (Oa P K)
def atm:ar:=bH 0 (atl P K)
def aan:ar:=aH (λf' aX=>(([0,1,5]:List Nat).map f':List Value)=[l0,x1,x5]/\L1 (([6,7]:List Nat).map f') aX) (atm P K)
def anf:Prop:=ax (aj P adJ (aan P K l0 x1 x5 L1)) ([0,1,5]++[6,7]) ([l0,x1,x5]++xs) h
def Ga:Prop:=ax (aj P awV (aan P K l0 x1 x5 L1)) [0,1,5,6,7] [l0,x1,x5,x6,i7] h
def ane:Prop:=ax (aj P awW (Oa P K)) [6] [x6] h
theorem aGD:Ga P K l0 x1 x5 x6 i7 L1 h=
 (OP (ai .add i7 (.int .i64 (1))) λaL=>
 ([l0,x1,x5]:List Value)=[l0,x1,x5]/\L1 [x6,aL] h):=az (by kernel_rfl)
theorem aGF (l0 x1 x5:Value) (L1:LQ) (x6 i7:Value) (h:ae):anf P K l0 x1 x5 L1 [x6,i7] h=
 (OP (bk l0) λaB=>
 OP (ai .lss i7 aB) λaA=>
 aN aA
 (OP (aZ 1 x1 i7) λaK=>
 OP (af false 1 h aK) λaU=>
 OP (ai .lss aU (.int .i64 (0))) λba=>
 aN ba
 (Ga P K l0 x1 x5 x6 i7 L1 h)
 (OH (aV 37 [(.bool false),(.slice none 0 0),(.bool false),(.slice none 0 0)] h) λv8 z1=>
 OP (dh z1 v8) λu=>
 (True)/\
 OP (aZ 2 l0 i7) λbX=>
 OP (af true 2 z1 bX) λcV=>
 (af true 2 h bX=some cV/\True)/\
 OP (aZ 1 x1 i7) λcM=>
 OP (af false 1 z1 cM) λdm=>
 (af false 1 h cM=some dm/\True)/\
 ak P 15 [cV,dm] z1 λcC z2=>
 (dh z2 v8=some u/\True)/\
 OP (cD 0 cC) λbV=>
 OP (cD 1 cC) λ_=>
 OH (aG 4 z2 v8 bV) λ_ z3=>
 (True)/\
 OP (af true 4 z3 v8) λcK=>
 OP (af true 4 z3 x5) λdw=>
 ak P 29 [cK,dw] z3 λdc z4=>
 OP (ai .gtr dc (.int .i64 (0))) λer=>
 aN er
 (OP (af true 4 z4 v8) λdO=>
 OH (aG 4 z4 x5 dO) λ_ z5=>
 Ga P K l0 x1 x5 i7 i7 L1 z5)
 (Ga P K l0 x1 x5 x6 i7 L1 z4)))
 (ane P K x6 h)):=az (by kernel_rfl)
theorem aGE:ane P K x6 h=
 (K x6 h):=az (by kernel_rfl)
def Py:Prop:=
 ak P 20 [(.int .i64 (-1))] h λay z1=>
 OH (aV 37 [(.bool false),(.slice none 0 0),(.bool false),(.slice none 0 0)] z1) λx5 z2=>
 OH (aG 4 z2 x5 ay) λ_ z3=>
 cO [(.int .i64 (-1)),(.int .i64 (0))] z3 λL1 xs hx=>
 anf P K l0 x1 x5 L1 xs hx
theorem e42:aj P IP (aT [.tmp 4] K) (bw [l0,x1]) h=Py P K l0 x1 h:=by kernel_rfl
theorem f42 {K:VK} {l0 x1:Value} {h:ae} (H:Py prog K l0 x1 h):ak prog 42 [l0,x1] h K:=
 bN k42 (bJ rfl) ((e42 prog K l0 x1 h).mpr H)
end
noncomputable section
variable (l0 x1 x3 x5 x6 i7 x9 au aD aB bV dc : Value) (L1 : LQ) (xs : List Value) (h : ae)
def alk:=bE prog 65 [[],[],[],[],[3,6,11,12],[5,13],[],[],[],[],[],[],[3,5,6,7,9,11,12,13,32],[3,5,6,7,9,11,12,13,32,36],[],[3,5,6,11,12,13],[5],[]]
@[irreducible] def I3:=bM alk
@[irreducible] def I4:=I3.r.r.r.l.r.l.l
@[irreducible] def aeG:=I3.r.r.r.r
@[irreducible] def aeF:=I4.r.r.l.l.r.r.r.l.r.l
@[irreducible] def axG:=I4.r.r.l.l.r.r.r.r
@[irreducible] def aeE:=I4.r.r.r
@[irreducible] def axJ:=aeG.l
@[irreducible] def axH:=aeF.r.l
@[irreducible] def axI:=aeE.l
theorem k65:alk=some (42,I3,[.tmp 4]):=by kernel_rfl
def Oi (_P:Program) (K:VK):ar:=aT [.tmp 4] K
def atY:ar:=aH (aj P aeG (Oi P K)) (Oi P K)
def atZ:ar:=bH 0 (atY P K)
def HA:ar:=aH (λf' aX=>(([3,6,11,12]:List Nat).map f':List Value)=[x3,x6,au,aD]/\L1 (([5,13]:List Nat).map f') aX) (atZ P K)
def atX:ar:=aH (aj P aeE (HA P K x3 x6 au aD L1)) (HA P K x3 x6 au aD L1)
def aaG:ar:=bH 1 (atX P K x3 x6 au aD L1)
def aaH:ar:=aH (aj P axG (aaG P K x3 x6 au aD L1)) (aaG P K x3 x6 au aD L1)
def anQ:Prop:=ax (aj P I4 (HA P K x3 x6 au aD L1)) ([3,6,11,12]++[5,13]) ([x3,x6,au,aD]++xs) h
def anO:Prop:=ax (aj P aeF (aaH P K x3 x6 au aD L1)) [3,5,6,7,9,11,12,13,32] [x3,x5,x6,i7,x9,au,aD,aB,bV] h
def Gh:Prop:=ax (aj P axH (aaH P K x3 x6 au aD L1)) [3,5,6,7,9,11,12,13,32,36] [x3,x5,x6,i7,x9,au,aD,aB,bV,dc] h
def Gi:Prop:=ax (aj P axI (HA P K x3 x6 au aD L1)) [3,5,6,11,12,13] [x3,x5,x6,au,aD,aB] h
def anP:Prop:=ax (aj P axJ (Oi P K)) [5] [x5] h
theorem apM:Gh P K x3 x5 x6 i7 x9 au aD aB bV dc L1 h=
 (OP (bF bV (.bool true) dc) λer=>
 aN er
 (OP (af true 4 h x9) λeY=>
 (True)/\
 OH (aG 4 h x6 eY) λ_ z1=>
 (True)/\
 Gi P K x3 i7 x6 au aD aB L1 z1)
 (Gi P K x3 x5 x6 au aD aB L1 h)):=az (by kernel_rfl)
theorem aHB:anO P K x3 x5 x6 i7 x9 au aD aB bV L1 h=
 (ck bV false
 (OP (af true 4 h x9) λdK=>
 OP (af true 4 h x6) λcK=>
 ak P 86 [dK,cK] h λdw z1=>
 OP (ai .gtr dw (.int .i64 (0))) λdc=>
 Gh P K x3 x5 x6 i7 x9 au aD aB bV dc L1 z1)
 (Gh P K x3 x5 x6 i7 x9 au aD aB bV undef L1 h)):=az (by kernel_rfl)
theorem aHC:Gi P K x3 x5 x6 au aD aB L1 h=
 (OP (ai .add aB (.int .i64 (1))) λeJ=>
 ([x3,x6,au,aD]:List Value)=[x3,x6,au,aD]/\L1 [x5,eJ] h):=az (by kernel_rfl)
theorem aHE (x3 x6 au aD:Value) (L1:LQ) (x5 aB:Value) (h:ae):anQ P K x3 x6 au aD L1 [x5,aB] h=
 (OP (ai .lss aB aD) λaA=>
 aN aA
 (OP (aZ 3 au aB) λaL=>
 OP (af true 3 h aL) λbK=>
 OH (aV 102 [(.int .i64 (0)),(.int .i64 (0)),(.slice none 0 0)] h) λj8 z1=>
 OH (aG 3 z1 j8 bK) λ_ z2=>
 OP (oP 3 1 x3 aB) λaK=>
 OP (af false 1 z2 aK) λaU=>
 OP (ai .eql aU (.int .i64 (-1))) λba=>
 aN ba
 (Gi P K x3 x5 x6 au aD aB L1 z2)
 (OH (aV 107 [(.bool false),(.slice none 0 0),(.bool false),(.slice none 0 0)] z2) λx9 z3=>
 OP (dh z3 x9) λu=>
 (True)/\
 OP (af true 3 z3 j8) λcB=>
 (af true 3 z2 j8=some cB/\True)/\
 OP (oP 3 1 x3 aB) λbX=>
 OP (af false 1 z3 bX) λcV=>
 (af false 1 z2 bX=some cV/\True)/\
 ak P 44 [cB,cV] z3 λb9 z4=>
 (dh z4 x9=some u/\True)/\
 OP (cD 0 b9) λcG=>
 OP (cD 1 b9) λ_=>
 OH (aG 4 z4 x9 cG) λ_ z5=>
 (True)/\
 OP (ai .lss x5 (.int .i64 (0))) λcC=>
 anO P K x3 x5 x6 aB x9 au aD aB cC L1 z5))
 (anP P K x5 h)):=az (by kernel_rfl)
theorem aHD:anP P K x5 h=
 (K x5 h):=az (by kernel_rfl)
def PT:Prop:=
 OH (bp 120 h x1) λx3 z1=>
 OH (aV 107 [(.bool false),(.slice none 0 0),(.bool false),(.slice none 0 0)] z1) λx6 z2=>
 OP (bk l0) λaD=>
 cO [(.int .i64 (-1)),(.int .i64 (0))] z2 λL1 xs hx=>
 anQ P K x3 x6 l0 aD L1 xs hx
theorem e65:aj P I3 (aT [.tmp 4] K) (bw [l0,x1]) h=PT P K l0 x1 h:=by kernel_rfl
theorem f65 {K:VK} {l0 x1:Value} {h:ae} (H:PT prog K l0 x1 h):ak prog 65 [l0,x1] h K:=
 bN k65 (bJ rfl) ((e65 prog K l0 x1 h).mpr H)
end
end
section
abbrev db:=List (List Rat×Int)
def fL (cs:db) (ag:List Int) (i:Nat):Rat:=
 (bW (cs.getD i ([],0)).1 (cs.getD i ([],0)).2 (ag.getD i (-1)).toNat ((cs.getD i ([],0)).1.length-(ag.getD i (-1)).toNat)).bU
def cY (cs:db) (ag:List Int):Nat->Int
 | 0=> -1
 | k+1=>if ag.getD k (-1)<0 then cY cs ag k else if cY cs ag k<0∨fL cs ag (cY cs ag k).toNat<fL cs ag k then k else cY cs ag k
structure BT (cs:db) (ag:List Int):Prop where
 jI:∀c∈cs,dM c.1 c.2=true
 ef:cs.length<=3
 lU:∀i (hi:i<cs.length),-1<=ag.getD i (-1)/\ag.getD i (-1)<cs[i].1.length
theorem zQ (cs:db) (ag:List Int):∀k,-1<=cY cs ag k/\cY cs ag k<k
 | 0=>⟨Int.le_refl _,by show (-1:Int)<0;decide⟩
 | k+1=>by
  have:=zQ cs ag k
  simp only [cY]
  split
  ·omega
  ·split <;> omega
theorem jO {α:Type} {l:List α} {d:α} {i:Nat} (hi:i<l.length):l.getD i d=l[i]:=by
 rw [getD_eq_getElem?_getD,getElem?_eq_getElem hi];rfl
theorem KQ {cs:db} {ag:List Int} (hk:BT cs ag) {i:Nat} (hi:i<cs.length) (h0:0<=ag.getD i (-1)):0<=fL cs ag i/\cd 380 (fL cs ag i):=by
 have hc:=hk.jI _ (getElem_mem hi)
 have ha:=(hk.lU i hi).2
 unfold fL
 rw [jO hi]
 generalize cs[i]=c at*
 obtain ⟨a,e⟩:∃a:Nat,ag.getD i (-1)=(a:Int):=⟨(ag.getD i (-1)).toNat,by omega⟩
 rw [e] at ha⊢
 rw [toNat_natCast]
 have hl:a<c.1.length:=by omega
 refine ⟨?_,MR hc (by omega)⟩
 have key:∀d,0<d->a+d<=c.1.length->0<=(bW c.1 c.2 a d).bU:=by
  intro d
  induction d with
  | zero=>intro h;omega
  | succ d ih=>
   intro _ hd
   rw [XY]
   split
   ·exact aqI hc hd
   ·rename_i dV
    show 0<=(bW c.1 c.2 a d).bU
    by_cases d0:d=0
    ·subst d0;exact absurd (.inl rfl) dV
    ·exact ih (by omega) (by omega)
 exact key _ (by omega) (by omega)
section
variable {h : ae} {K : Value -> ae -> Prop}
theorem MU {h:ae} {i:Nat} {e:TypeId} {a b c x y z:Value} (hg:h[i]?=some (.arr e [a,b,c])):aG 3 h (pt i 0) (.agg #[x,y,z])=some (undef,h.set i (.arr e [x,y,z])):=by
 simp [aG,wK,hg,jq,dU,Value.cells,setAt]
theorem K9 {h:ae} {i:Nat} {e:TypeId} {a b c:Value} (hg:h[i]?=some (.arr e [a,b,c])):af true 3 h (pt i 0)=some (.agg #[a,b,c]):=by
 simp [af,aW,hg,cP]
theorem DW {i k:Nat} (hk:k<3):oP 3 1 (pt i 0) (I k)=some (pt i k):=by
 have:(0:Int)<=(k:Int)/\(k:Int)<3:=by omega
 simp [oP,pt,this]
theorem C65 {v:Value} {cs:db} {ag:List Int} (hv:LK h v cs) (hl:ag.length=3) (bD:BT cs ag) (hk:∀h',EX h h'->K (I (cY cs ag cs.length)) h'):ak prog 65 [v,.agg (ag.map I).toArray] h K:=by
 refine f65 ?_
 have e0:bp 120 h (.agg (ag.map I).toArray)=some (pt h.length 0,h++[.arr 120 (ag.map I)]):=by
  match ag,hl with
  | [a,b,c],_=>rfl
 have e7:∀g:ae,aV 107 [(.bool false),(.slice none 0 0),(.bool false),(.slice none 0 0)] g=some (pt g.length 0,g++[.arr 107 z4]):=λ_=>rfl
 simp only [PT,e0,aE,e7]
 have x0:EX h (h++[.arr 120 (ag.map I)]):=EX.append _ _
 have k0:(h++[aq.arr 120 (ag.map I)])[h.length]?=some (.arr 120 (ag.map I)):=br
 generalize h++[aq.arr 120 (ag.map I)]=g0 at x0 k0⊢
 have x1:EX g0 (g0++[.arr 107 z4]):=EX.append _ _
 have k1:(g0++[aq.arr 107 z4])[g0.length]?=some (.arr 107 z4):=br
 generalize g0++[aq.arr 107 z4]=g1 at x1 k1⊢
 have hlen:=hv.len
 simp only [hlen,ah]
 have ef:=bD.ef
 refine dF (σ:=Nat×ae) (λq=>[I (cY cs ag q.1),I q.1]) (λq=>q.2) (λq=>q.1<=cs.length/\EX g0 q.2/\(∃a b c d,q.2[g0.length]?=some (.arr 107 [.bool a,b,c,d]))/\(0<=cY cs ag q.1->Cell q.2 g0.length (fL cs ag (cY cs ag q.1).toNat))) (λq=>cs.length-q.1)
  (0,g1) rfl rfl ⟨zero_le _,x1,⟨_,_,_,_,k1⟩,λh=>absurd h (by show ¬(0:Int)<= -1;decide)⟩ ?_
 rintro ⟨i,g⟩ ⟨hi,xg,yw,pX⟩ L hL
 simp only at hi xg yw pX hL⊢
 rw [aHE]
 simp only [cW,ah,bQ]
 refine ⟨λaF=>?_,λcU=>?_⟩
 rotate_left
 ·have fZ:i=cs.length:=by omega
  subst fZ
  rw [aHD]
  exact hk g (x0.trans xg)
 have bn:i<cs.length:=by omega
 have gN:∀{g':ae} (v':Int),EX g0 g'->v'=cY cs ag (i+1)->(∃a b c d,g'[g0.length]?=some (.arr 107 [.bool a,b,c,d]))->(0<=cY cs ag (i+1)->Cell g' g0.length (fL cs ag (cY cs ag (i+1)).toNat))->
   Gi prog K (pt h.length 0) (I v') (pt g0.length 0) v (I cs.length) (I i) L g':=by
  intro g' v' x' kD s' c'
  rw [aHC]
  simp only [cL,ah,ft i (by omega),true_and]
  have:=hL (i+1,g') ⟨by show i+1<=_;omega,x',s',c'⟩ (by show cs.length-(i+1)<cs.length-i;omega)
  rw [kD]
  exact this
 obtain ⟨b,o,vq,u1,u2,u3⟩:=(hv.mono (x0.trans xg)).get bn
 obtain ⟨rq,rs,_,_⟩:=id u3.1
 obtain ⟨t1,t2⟩:=rs.one
 have e3:∀g:ae,aV 102 [(.int .i64 (0)),(.int .i64 (0)),(.slice none 0 0)] g=some (pt g.length 0,g++[.arr 102 [I 0,I 0,.slice none 0 0]]):=λ_=>rfl
 simp only [u1,u2,ah,e3,aE]
 have y1:EX g (g++[.arr 102 [I 0,I 0,.slice none 0 0]]):=EX.append _ _
 have j1:(g++[aq.arr 102 [I 0,I 0,.slice none 0 0]])[g.length]?=some (.arr 102 [I 0,I 0,.slice none 0 0]):=br
 generalize g++[aq.arr 102 [I 0,I 0,.slice none 0 0]]=g2 at y1 j1⊢
 rw [MU j1]
 simp only [aE]
 have y2:EX g (g2.set g.length (.arr 102 [I cs[i].1.length,I cs[i].2,vq])):=y1.set (le_refl _) _
 have j2:(g2.set g.length (.arr 102 [I cs[i].1.length,I cs[i].2,vq]))[g.length]?=some (.arr 102 [I cs[i].1.length,I cs[i].2,vq]):=cJ j1
 generalize g2.set g.length (.arr 102 [I cs[i].1.length,I cs[i].2,vq])=g3 at y2 j2⊢
 have EL:∀{g':ae},EX g0 g'->af false 1 g' (pt h.length i)=some (I (ag.getD i (-1))):=by
  intro g' x'
  have Tc:i<ag.length:=by omega
  have:=x'.get k0
  rw [jO Tc]
  simp [af,aW,this,cP,Tc]
 have ko:=xg.trans y2
 have aLq:g0.length<g.length:=by
  obtain ⟨_,_,_,_,e⟩:=yw
  exact (bz e).1
 have sh3:∃a b c d,g3[g0.length]?=some (.arr 107 [.bool a,b,c,d]):=let ⟨a,b,c,d,e⟩:=yw;⟨a,b,c,d,y2.get e⟩
 simp only [DW (show i<3 by omega),ah,EL ko,hY,bQ]
 obtain ⟨ga1,ga2⟩:=bD.lU i bn
 refine ⟨λaLg=>?_,λjP=>?_⟩
 ·have e:cY cs ag (i+1)=cY cs ag i:=by simp only [cY];rw [if_pos (by omega)]
  refine gN _ ko e.symm sh3 ?_
  rw [e]
  exact λh0=>(pX h0).mono y2
 have h0:0<=ag.getD i (-1):=by omega
 simp only [aE,e7]
 have z1:EX g3 (g3++[.arr 107 z4]):=EX.append _ _
 have m1:(g3++[aq.arr 107 z4])[g3.length]?=some (.arr 107 z4):=br
 have hg3:g.length<g3.length:=(bz j2).1
 generalize g3++[aq.arr 107 z4]=g4 at z1 m1⊢
 have l3:af true 3 g3 (pt g.length 0)=some (.agg #[I cs[i].1.length,I cs[i].2,vq]):=K9 j2
 simp only [rp m1,ah,EX.load z1 l3,l3,true_and,EL (ko.trans z1)]
 obtain ⟨a,ea⟩:∃a:Nat,ag.getD i (-1)=(a:Int):=⟨(ag.getD i (-1)).toNat,by omega⟩
 rw [ea]
 have iA:=(bD.jI _ (getElem_mem bn))
 refine C44 (u3.1.mono (y2.trans z1)) iA (by omega) ?_
 intro r g5 x5 hr
 have R4:(bW cs[i].1 cs[i].2 a (cs[i].1.length-a)).bU=fL cs ag i:=by
  unfold fL
  rw [jO bn,ea,toNat_natCast]
 rw [R4] at hr
 obtain ⟨nn,sz⟩:=KQ bD bn h0
 obtain ⟨g6,e6,XV⟩:=Dx (x5.get m1) hr
 refine ⟨⟨rp (x5.get m1),trivial⟩,?_⟩
 simp only [eR,fv,fz,ah,e6,aE]
 have cI:EX g3 g6:=XV.ex (z1.trans x5) (le_refl _)
 have xg6:=ko.trans cI
 have sh6:∃a b c d,g6[g0.length]?=some (.arr 107 [.bool a,b,c,d]):=let ⟨a,b,c,d,e⟩:=sh3;⟨a,b,c,d,cI.get e⟩
 have ec:cY cs ag (i+1)=if cY cs ag i<0∨fL cs ag (cY cs ag i).toNat<fL cs ag i then (i:Int) else cY cs ag i:=by
  simp only [cY];rw [if_neg (by omega)]
 have take:∀{g':ae} (t u:Value),EX g6 g'->(cY cs ag i<0∨fL cs ag (cY cs ag i).toNat<fL cs ag i)->bF t (.bool true) u=some (B true)->Gh prog K (pt h.length 0) (I (cY cs ag i)) (pt g0.length 0) (I i) (pt g3.length 0) v (I cs.length) (I i) t u L g':=by
  intro g' t u x' hc ht
  rw [apM,ht]
  obtain ⟨vv,l6,r6⟩:=(XV.cell.mono x').load
  simp only [ah,dA,l6,true_and]
  obtain ⟨_,_,_,_,es⟩:=sh6
  obtain ⟨g7,RW,XW⟩:=Rq (x'.get es) r6
  simp only [RW,aE]
  rw [if_pos hc] at ec
  refine gN _ (XW.ex (xg6.trans x') (le_refl _)) ec.symm ?_ (λ_=>?_)
  ·obtain ⟨_,_,_,_,e,_⟩:=XW.cell
   exact ⟨_,_,_,_,e⟩
  ·rw [ec,toNat_natCast];exact XW.cell
 have stay:∀{g':ae} (t u:Value),EX g6 g'->¬(cY cs ag i<0∨fL cs ag (cY cs ag i).toNat<fL cs ag i)->bF t (.bool true) u=some (B false)->Gh prog K (pt h.length 0) (I (cY cs ag i)) (pt g0.length 0) (I i) (pt g3.length 0) v (I cs.length) (I i) t u L g':=by
  intro g' t u x' hc ht
  rw [apM,ht]
  simp only [ah,dD]
  rw [if_neg hc] at ec
  refine gN _ (xg6.trans x') ec.symm (let ⟨a,b,c,d,e⟩:=sh6;⟨a,b,c,d,x'.get e⟩) ?_
  rw [ec]
  exact λh0=>(pX h0).mono ((y2.trans cI).trans x')
 rw [aHB]
 by_cases hb:cY cs ag i<0
 ·rw [bj hb]
  simp only [fW]
  exact take _ _ (EX.refl _) (.inl hb) rfl
 ·rw [aY hb]
  simp only [eL]
  obtain ⟨v9,l9,r9⟩:=XV.cell.load
  obtain ⟨v8,l8,r8⟩:=((pX (by omega)).mono (y2.trans cI)).load
  simp only [l9,l8,ah]
  have hci:=zQ cs ag i
  obtain ⟨c',ecc⟩:∃c':Nat,cY cs ag i=(c':Int):=⟨(cY cs ag i).toNat,by omega⟩
  have sz8:cd 380 (fL cs ag (cY cs ag i).toNat):=by
   rw [ecc,toNat_natCast]
   have EO:c'<cs.length:=by omega
   refine (KQ bD EO ?_).2
   have:∀k,0<=cY cs ag k->0<=ag.getD (cY cs ag k).toNat (-1):=by
    intro k
    induction k with
    | zero=>intro h;exact absurd h (by show ¬(0:Int)<= -1;decide)
    | succ k ih=>
     simp only [cY]
     split
     ·exact ih
     ·split
      ·intro _;rw [toNat_natCast];omega
      ·exact ih
   have:=this i (by omega)
   rw [ecc,toNat_natCast] at this
   exact this
  refine G9 r9 r8 sz sz8 (by decide) ?_
  intro g7 x7
  simp only [fQ,ah]
  by_cases hc:fL cs ag (cY cs ag i).toNat<fL cs ag i
  ·rw [bj (Jy.2 hc)]
   exact take _ _ x7 (.inr hc) rfl
  ·rw [aY (λh=>hc (Jy.1 h))]
   exact stay _ _ x7 (by rintro (h | h);exact hb h;exact hc h) rfl
end
end
section
theorem fe.num {g:ae} {i:Nat} {q:Rat} (p:fe g i q):∃u,af true 2 g (pt i 0)=some u/\ZV g u q.num:=by
 obtain ⟨a,b,c,d,e,u,w,e2,hu,hw⟩:=p
 refine ⟨_,kl e,u,?_,hu⟩
 injection e2 with e2
 have e3:=congrArg Array.toList e2
 simp only [List.cons.injEq] at e3
 rw [e3.1,e3.2.1]
theorem aCR (z:Int):decide (jG z<0)=decide (z<0):=by
 rw [decide_eq_decide]
 unfold jG
 split
 ·omega
 ·split <;> omega
theorem aCS (z:Int):decide (jG z=0)=decide (z=0):=by
 rw [decide_eq_decide]
 unfold jG
 split
 ·omega
 ·split <;> omega
def bI (b:Bool):Int:=if b then 1 else 0
section
variable {h : ae} {K : Value -> ae -> Prop}
theorem arl {v:Value} {cs:List (List (List UInt8)×Int)} {i is:Nat} {g0:ae} {b0:Bool} {L1:List Value->ae->Prop} (hv:jU h v cs) (hi:i<cs.length) (hl:cs[i].1.length<=8/\∀s∈cs[i].1,s.length<=700/\jo s=true)
  (x0:EX h g0) (hs:h.length<=is) (c0:fe g0 is 0)
  (hk:∀b g',EX h g'->b=(b0||(oz (cs[i].1.map bP) (cs[i].1.map bP).length|| !decide (oV (cs[i].1.map bP) (cs[i].1.map bP).length=1)))->C0 prog K v (I (bI b)) (I i) L1 g'):
  cO [I (bI b0),I 0] g0 λL2 xs hx=>VR prog K v (I i) (pt is 0) L1 L2 xs hx:=by
 obtain ⟨l8,hl⟩:=hl
 have ml:(cs[i].1.map bP).length=cs[i].1.length:=length_map ..
 refine dF (σ:=Nat×ae) (λq=>[I (bI (b0||oz (cs[i].1.map bP) q.1)),I q.1]) (λq=>q.2) (λq=>q.1<=cs[i].1.length/\EX h q.2/\fe q.2 is (oV (cs[i].1.map bP) q.1)) (λq=>cs[i].1.length-q.1) (0,g0) (by simp [oz]) rfl
  ⟨zero_le _,x0,c0⟩ ?_
 rintro ⟨k,g⟩ ⟨gp,xg,hc⟩ L hL
 simp only at gp xg hc hL⊢
 rw [aGc]
 obtain ⟨bi,o,vs,u1,u2,u3⟩:=(hv.mono xg).get hi
 obtain ⟨u4,u5⟩:=A1 u2
 simp only [u1,ah,bZ,add_zero,u4,u3.len,cW,bQ]
 refine ⟨λaF=>?_,λcU=>?_⟩
 rotate_left
 ·have wg:k=cs[i].1.length:=by omega
  subst wg
  rw [aGh]
  obtain ⟨vc,lc,qc⟩:=hc.load
  simp only [lc,ah,true_and]
  refine vF (by decide) ?_
  intro r1 g1 x1 q1
  refine ⟨⟨EX.load x1 lc,trivial⟩,?_⟩
  have s1:=X8 (qs:=cs[i].1.map bP) (k:=cs[i].1.length) (by rw [ml];exact le_refl _)
  refine G7 ((qc.mono x1).un s1) (q1.un Vj) (by omega) ?_
  intro g2 x2
  simp only [oA,ah,afP]
  have xx:=xg.trans (x1.trans x2)
  rw [ml] at hk
  have e1:((1:Int):Rat)=1:=rfl
  rw [e1]
  by_cases hq:oV (cs[i].1.map bP) cs[i].1.length=1
  ·rw [bj hq]
   simp only [Bool.not_true,dD]
   exact hk _ g2 xx (by rw [bj hq];simp)
  ·rw [aY hq]
   simp only [Bool.not_false,dA]
   exact hk true g2 xx (by rw [aY hq];simp)
 have bn:k<cs[i].1.length:=by omega
 obtain ⟨b,o',r1,r2⟩:=u3.get k bn
 have em:=getElem_mem bn
 obtain ⟨a1,a2⟩:=hl _ em
 have RZ:(cs[i].1.map bP).getD k 0=bP cs[i].1[k]:=by
  rw [getD_eq_getElem?_getD,List.getElem?_map,getElem?_eq_getElem bn]
  rfl
 simp only [r1,r2,ah]
 refine Zk a1 a2 ?_
 intro q71 g1 x1 qv
 have e2:∀g:ae,aV 37 [(.bool false),(.slice none 0 0),(.bool false),(.slice none 0 0)] g=some (pt g.length 0,g++[.arr 37 z4]):=λ_=>rfl
 rw [e2]
 simp only [aE]
 refine B1 qv ?_
 intro g3 x3 c3 _
 have mE:is<g1.length:=by have:=hc.lt;have:=x1.1;omega
 generalize g1.length=iq at c3 mE⊢
 have ko:=xg.trans (x1.trans x3)
 simp only [EX.load (x1.trans x3) u4,r1,EX.load (x1.trans x3) r2,ah]
 refine C47 (n:=4) a1 ?_
 rw [aJI a2 (by decide)]
 have EO:=hc.mono (x1.trans x3)
 -- sD comes after gB test
 have fin:∀{g4:ae},EX g3 g4->LM prog K v (I (bI (b0||oz (cs[i].1.map bP) k))) (I i) (pt is 0) (I k) (pt iq 0) (B (gw (bP cs[i].1[k]))) (if gw (bP cs[i].1[k])=true then undef else B (decide (k+1=cs[i].1.length)&&decide ((bP cs[i].1[k]).num=0))) L1 L g4:=by
  intro g4 x4
  rw [aGf]
  have Fb:bF (B (gw (bP cs[i].1[k]))) (.bool true) (if gw (bP cs[i].1[k])=true then undef else B (decide (k+1=cs[i].1.length)&&decide ((bP cs[i].1[k]).num=0)))=some (B (rh (cs[i].1.map bP) k)):=by
   unfold rh
   rw [RZ,ml]
   cases gw (bP cs[i].1[k]) with
   | true=>rfl
   | false=>rfl
  rw [Fb]
  simp only [ah]
  have gN:∀(bb:Bool) {g5:ae},EX h g5->fe g5 is (oV (cs[i].1.map bP) (k+1))->bb=(b0||oz (cs[i].1.map bP) (k+1))->LN prog K v (I (bI bb)) (I i) (pt is 0) (I k) L1 L g5:=by
   intro bb g5 x5 c5 hbb
   rw [aGg]
   simp only [cL,ah,ft k (by omega),true_and]
   have:=hL (k+1,g5) ⟨by show k+1<=_;omega,x5,c5⟩ (by show cs[i].1.length-(k+1)<cs[i].1.length-k;omega)
   rw [hbb]
   exact this
  cases uJ:rh (cs[i].1.map bP) k with
  | true=>
   simp only [dA]
   refine gN true (ko.trans x4) ?_ (by simp only [oz,uJ,Bool.or_true])
   simp only [oV,uJ,if_true]
   exact EO.mono x4
  | false=>
   simp only [dD]
   obtain ⟨va,la,qa⟩:=(EO.mono x4).load
   obtain ⟨vb,lb,qb⟩:=(c3.mono x4).load
   simp only [la,lb,ah]
   have s1:=X8 (qs:=cs[i].1.map bP) (k:=k) (by rw [ml];omega)
   have nb:gw (bP cs[i].1[k])=false:=by
    unfold rh at uJ
    rw [or_eq_false_iff,RZ] at uJ
    exact uJ.1
   have s2:cd 4 (bP cs[i].1[k]):=by
    unfold gw vU at nb
    rw [or_eq_false_iff,Bool.not_eq_false',and_eq_true,decide_eq_true_eq,decide_eq_true_eq] at nb
    exact nb.2
   refine DC (qa.un s1) (qb.un s2) (by omega) ?_
   intro r5 g5 x5 q5
   refine DB q5 (by omega) ?_
   intro r6 g6 x6 q6
   obtain ⟨g7,e7,s7⟩:=((EO.mono x4).mono (x5.trans x6)).store q6
   simp only [e7,aE]
   refine gN _ (s7.ex (ko.trans (x4.trans (x5.trans x6))) hs) ?_ (by simp only [oz,uJ,Bool.or_false])
   have:oV (cs[i].1.map bP) (k+1)=oV (cs[i].1.map bP) k+bP cs[i].1[k]:=by simp only [oV,uJ,RZ];rfl
   rw [this]
   exact s7.cell
 -- gB last one is not 0
 have last:∀{g4:ae},EX g3 g4->VT prog K v (I (bI (b0||oz (cs[i].1.map bP) k))) (I i) (pt is 0) (I k) (pt iq 0) (B (gw (bP cs[i].1[k]))) L1 L g4:=by
  intro g4 x4
  rw [aGe]
  cases Kd:gw (bP cs[i].1[k]) with
  | true=>
   have:=fin x4
   rw [Kd,if_pos rfl] at this
   simp only [fW]
   rw [apq]
   simp only [xv]
   rw [Xc]
   simp only [fW]
   exact this
  | false=>
   have fin:=@fin
   rw [Kd] at fin
   simp only [Bool.false_eq_true,if_false] at fin
   simp only [eL]
   obtain ⟨bi4,o4,vs4,m1,m2,m3⟩:=(hv.mono (ko.trans x4)).get hi
   obtain ⟨m4,m5⟩:=A1 m2
   have ew:IntKind.wrap .i64 ((cs[i].1.length:Int)-1)=(cs[i].1.length:Int)-1:=wrap64 (by omega) (by omega)
   simp only [m1,ah,bZ,add_zero,m4,m3.len,gE,ew,hY]
   have ed:decide ((k:Int)=(cs[i].1.length:Int)-1)=decide (k+1=cs[i].1.length):=by rw [decide_eq_decide];omega
   rw [ed,apq]
   by_cases E1:k+1=cs[i].1.length
   ·rw [bj E1] at fin⊢
    simp only [fP]
    obtain ⟨un,ln,zn⟩:=(c3.mono x4).num
    simp only [bZ,add_zero,ah,ln]
    refine G8 zn ?_
    intro g5 x5
    simp only [hY,ah,aCS]
    rw [Xc]
    simp only [eL,dY,ah]
    have:=fin (x4.trans x5)
    rwa [Bool.true_and] at this
   ·rw [aY E1] at fin⊢
    simp only [jV]
    rw [Xc]
    simp only [eL,dQ,ah]
    have:=fin x4
    rwa [Bool.false_and] at this
 simp only [oW,ah]
 rw [aGd]
 cases hf:vU 4 (bP cs[i].1[k]) with
 | false=>
  have eb:gw (bP cs[i].1[k])=true:=by unfold gw;rw [hf];simp
  simp only [Bool.not_false,fW]
  rw [apo]
  simp only [dY,ah]
  have:=last (EX.refl g3)
  rwa [eb] at this
 | true=>
  have eb:gw (bP cs[i].1[k])=decide ((bP cs[i].1[k]).num<0):=by unfold gw;rw [hf];simp
  simp only [Bool.not_true,eL]
  obtain ⟨un,ln,zn⟩:=c3.num
  simp only [bZ,add_zero,ah,ln]
  refine G8 zn ?_
  intro g5 x5
  simp only [cW,ah,aCR]
  rw [apo]
  simp only [dQ,ah]
  have:=last x5
  rwa [eb] at this
end
end
section
def jN (cs:List (List (List UInt8)×Int)):Int:=if lB cs=false then 2 else if um cs=false then 1 else 0
def wX (cs:List (List (List UInt8)×Int)):Bool:=(bf cs).all λc=>dM c.1 c.2
theorem alS {cs:List (List (List UInt8)×Int)} {i:Nat} (hi:i<cs.length):wX (cs.take (i+1))=(wX (cs.take i)&&dM (cs[i].1.map bP) cs[i].2):=by
 unfold wX bf
 rw [List.take_succ_eq_append_getElem hi,map_append,List.all_append]
 simp
theorem aAH {cs:List (List (List UInt8)×Int)} {i:Nat} (hi:i<cs.length):lB (cs.take (i+1))=(lB (cs.take i)&&cs[i].1.all jo):=by
 unfold lB
 rw [List.take_succ_eq_append_getElem hi,List.all_append]
 simp
theorem aAG {cs:List (List (List UInt8)×Int)} {i:Nat} (hi:i<cs.length) (h:cs[i].1.all jo=false):lB cs=false:=by
 unfold lB
 rw [List.all_eq_false]
 exact ⟨cs[i],getElem_mem hi,by rw [h];decide⟩
section
variable {h : ae} {K : Value -> ae -> Prop}
theorem Nv {v:Value} {cs:List (List (List UInt8)×Int)} (hv:jU h v cs) (hl:∀c∈cs,c.1.length<=1000/\∀s∈c.1,s.length<=700) (hn:cs.length<=1000)
  (hk:∀h',EX h h'->K (I (jN cs)) h'):ak prog 13 [v] h K:=by
 refine f13 ?_
 unfold uk
 refine dF (σ:=Nat×ae) (λq=>[I (bI (!wX (cs.take q.1))),I q.1]) (λq=>q.2) (λq=>q.1<=cs.length/\EX h q.2/\lB (cs.take q.1)=true) (λq=>cs.length-q.1) (0,h) rfl rfl ⟨zero_le _,EX.refl _,rfl⟩ ?_
 rintro ⟨i,g⟩ ⟨hi,xg,qQ⟩ L hL
 simp only at hi xg qQ hL⊢
 rw [aGk]
 have hlen:=(hv.mono xg).len
 simp only [hlen,ah,cW,bQ]
 refine ⟨λaF=>?_,λcU=>?_⟩
 rotate_left
 ·have fZ:i=cs.length:=by omega
  subst fZ
  rw [take_length] at qQ⊢
  rw [aGj]
  simp only [hlen,ah]
  refine Ny ?_
  have hk:=hk g xg
  unfold jN at hk
  rw [if_neg (by rw [qQ];decide)] at hk
  simp only [oW,ah]
  unfold um at hk
  have eo:((bf cs).all λc=>dM c.1 c.2)=wX cs:=rfl
  rw [eo] at hk
  have e1:decide ((1:Int)<=(cs.length:Int))=decide (1<=cs.length):=by rw [decide_eq_decide];omega
  have e2:decide ((cs.length:Int)<=3)=decide (cs.length<=3):=by rw [decide_eq_decide];omega
  rw [e1,e2]
  cases hc:(decide (1<=cs.length)&&decide (cs.length<=3)) with
  | false=>
   rw [hc,Bool.false_and,if_pos rfl] at hk
   simp only [Bool.not_false,dA]
   rw [apr];exact hk
  | true=>
   rw [hc,Bool.true_and] at hk
   simp only [Bool.not_true,dD]
   rw [apr]
   cases ho:wX cs with
   | false=>rw [ho,if_pos rfl] at hk;exact hk
   | true=>rw [ho,if_neg (by decide)] at hk;exact hk
 have bn:i<cs.length:=by omega
 obtain ⟨l1,l2⟩:=hl _ (getElem_mem bn)
 refine vF (by decide) ?_
 intro r1 g1 x1 q1
 have e2:∀g:ae,aV 37 [(.bool false),(.slice none 0 0),(.bool false),(.slice none 0 0)] g=some (pt g.length 0,g++[.arr 37 z4]):=λ_=>rfl
 rw [e2]
 simp only [aE]
 refine B1 q1 ?_
 intro g2 x2 c2 _
 have mP:=xg.trans (x1.trans x2)
 have hs:h.length<=g1.length:=(xg.trans x1).1
 generalize g1.length=is at c2 hs⊢
 -- all texts are numbers
 refine dF (σ:=Nat×ae) (λq=>[I q.1]) (λq=>q.2) (λq=>q.1<=cs[i].1.length/\EX g2 q.2/\(cs[i].1.take q.1).all jo=true) (λq=>cs[i].1.length-q.1) (0,g2) rfl rfl ⟨zero_le _,EX.refl _,by simp⟩ ?_
 rintro ⟨k,g3⟩ ⟨gp,x3,uO⟩ L' EI
 simp only at gp x3 uO EI⊢
 have ko:=mP.trans x3
 rw [aF9]
 obtain ⟨bi,o,vs,u1,u2,u3⟩:=(hv.mono ko).get bn
 obtain ⟨u4,u5⟩:=A1 u2
 simp only [u1,ah,bZ,add_zero,u4,u3.len,cW,bQ]
 refine ⟨λmV=>?_,λS6=>?_⟩
 ·have ma:k<cs[i].1.length:=by omega
  obtain ⟨b,o',r1,r2⟩:=u3.get k ma
  simp only [r1,r2,ah]
  refine C24 (l2 _ (getElem_mem ma)) ?_
  intro g4 x4
  have ei:(lO cs[i].1[k]).isSome=jo cs[i].1[k]:=rfl
  rw [ei]
  simp only [oW,ah]
  cases hnk:jo cs[i].1[k] with
  | false=>
   simp only [Bool.not_false,dA]
   have hf:lB cs=false:=aAG bn (by rw [List.all_eq_false];exact ⟨_,getElem_mem ma,by rw [hnk];decide⟩)
   have:=hk g4 (ko.trans x4)
   unfold jN at this
   rw [if_pos hf] at this
   exact this
  | true=>
   simp only [Bool.not_true,dD,cL,ah,ft k (by omega),true_and]
   refine EI (k+1,g4) ⟨by show k+1<=_;omega,x3.trans x4,?_⟩ (by show cs[i].1.length-(k+1)<cs[i].1.length-k;omega)
   show (cs[i].1.take (k+1)).all jo=true
   rw [List.take_succ_eq_append_getElem ma,List.all_append,uO]
   simp [hnk]
 have wg:k=cs[i].1.length:=by omega
 subst wg
 rw [take_length] at uO
 have aBg:lB (cs.take (i+1))=true:=by rw [aAH bn,qQ,uO];rfl
 have gN:∀{g5:ae} (b:Bool),EX h g5->b= !wX (cs.take (i+1))->C0 prog K v (I (bI b)) (I i) L g5:=by
  intro g5 b x5 hb
  rw [aGi]
  simp only [cL,ah,ft i (by omega),true_and]
  have:=hL (i+1,g5) ⟨by show i+1<=_;omega,x5,aBg⟩ (by show cs.length-(i+1)<cs.length-i;omega)
  rw [hb]
  exact this
 have ml:(cs[i].1.map bP).length=cs[i].1.length:=length_map ..
 rw [aGa]
 simp only [u1,ah,bZ,add_zero,u4,u3.len]
 refine Ny ?_
 simp only [oW,ah]
 have e1:decide ((1:Int)<=(cs[i].1.length:Int))=decide (1<=cs[i].1.length):=by rw [decide_eq_decide];omega
 have e8:decide ((cs[i].1.length:Int)<=8)=decide (cs[i].1.length<=8):=by rw [decide_eq_decide];omega
 rw [e1,e8,aGb]
 have out:∀cg:Value,bF (B (!(decide (1<=cs[i].1.length)&&decide (cs[i].1.length<=8)))) (.bool true) cg=some (B true)->dM (cs[i].1.map bP) cs[i].2=false->LL prog K v (I (bI (!wX (cs.take i)))) (I i) (pt is 0) (B (!(decide (1<=cs[i].1.length)&&decide (cs[i].1.length<=8)))) cg L g3:=by
  intro cg hp dV
  rw [apn,hp]
  simp only [ah,dA]
  exact gN true ko (by rw [alS bn,dV,Bool.and_false];rfl)
 cases hc:(decide (1<=cs[i].1.length)&&decide (cs[i].1.length<=8)) with
 | false=>
  rw [hc] at out
  simp only [Bool.not_false,fW]
  exact out _ rfl (by unfold dM;rw [ml,hc];rfl)
 | true=>
  rw [hc] at out
  simp only [Bool.not_true,eL,u1,ah,bZ,u5]
  refine Ny ?_
  simp only [oW,ah]
  cases hw:(decide (0<=cs[i].2)&&decide (cs[i].2<=50)) with
  | false=>
   exact out _ rfl (by unfold dM;rw [ml,hc,hw];rfl)
  | true=>
   rw [apn]
   simp only [Bool.not_true,dQ,ah,dD]
   rw [and_eq_true,decide_eq_true_eq,decide_eq_true_eq] at hc
   refine arl hv bn ⟨hc.2,λs eD=>⟨l2 s eD,List.all_eq_true.1 uO s eD⟩⟩ ko hs (c2.mono x3) ?_
   intro b g5 x5 hb
   refine gN b x5 ?_
   rw [hb,aCT (by rw [ml];exact hc.1),alS bn]
   unfold dM
   rw [ml,bj hc.1,bj hc.2,hw]
   cases wX (cs.take i) <;> simp
end
end
section
def xT (ls:List (List UInt8)):List (List UInt8):=(ls.take 9).map λs=>s.take 20
def vO (cs:List (List (List UInt8)×Int)):List (List (List UInt8)×Int):=(cs.take 4).map λc=>(xT c.1,c.2)
def Uq:Value->Bool
 | .string _=>true
 | _=>false
def TS (h:ae) (v:Value) (ls:List (List UInt8)):Prop:=(v=.slice none 0 0/\ls=[])∨∃e i,v=sl e i 0 ls.length/\(ls=[]∨aW h i=some (ls.map S))
theorem TS.ss {h:ae} {v:Value} {ls:List (List UInt8)} (p:TS h v ls):SS h v ls:=by
 rcases p with ⟨rfl,rfl⟩ | ⟨e,i,rfl,rfl | hc⟩
 ·exact ⟨rfl,λk hk=>by simp at hk⟩
 ·exact ⟨rfl,λk hk=>by simp at hk⟩
 ·exact SS.sl hc
theorem TS.eX {h h':ae} {v:Value} {ls:List (List UInt8)} (x:KP Uq h h') (p:TS h v ls):TS h' v ls:=by
 rcases p with p | ⟨e,i,rfl,hc⟩
 ·exact .inl p
 ·refine .inr ⟨e,i,rfl,?_⟩
  rcases hc with hc | hc
  ·exact .inl hc
  ·cases ls with
   | nil=>exact .inl rfl
   | cons s t=>right;exact x i _ _ hc rfl
theorem TS.one {h:ae} {v:Value} {ls:List (List UInt8)} (p:TS h v ls):jq v=true/\dU v=[v]/\gF v=true:=by
 rcases p with ⟨rfl,_⟩ | ⟨e,i,rfl,_⟩ <;> exact ⟨rfl,rfl,rfl⟩
def uh (b:Nat) (h:ae) (v:Value) (cs:List (List (List UInt8)×Int)):Prop:=
 ∃rows,kY b h 24 2 v rows/\rows.length=cs.length/\∀(k:Nat) (row:List Value) (c:List (List UInt8)×Int),rows[k]?=some row->cs[k]?=some c->∃vs,row=[vs,I c.2]/\TS h vs c.1
theorem uh.chl {b:Nat} {h:ae} {v:Value} {cs:List (List (List UInt8)×Int)} (o:uh b h v cs):jU h v cs:=
 let ⟨rows,a,c,d⟩:=o;⟨rows,a.rs,c,λk row q h1 h2=>let ⟨vs,e,m⟩:=d k row q h1 h2;⟨vs,e,m.ss⟩⟩
theorem uh.ex {b:Nat} {h h':ae} {v:Value} {cs:List (List (List UInt8)×Int)} (x:EX h h') (o:uh b h v cs):uh b h' v cs:=
 let ⟨rows,a,c,d⟩:=o;⟨rows,a.ex x,c,λk row q h1 h2=>let ⟨vq,e,m⟩:=d k row q h1 h2;⟨vq,e,m.eX (KP.ex x)⟩⟩
theorem uh.app {h0 h:ae} {v vs:Value} {ls:List (List UInt8)} {w:Int} {cs:List (List (List UInt8)×Int)} {zs:List Value} {K:Value->ae->Prop} (o:uh h0.length h v cs) (hex:EX h0 h) (hq:TS h vs ls) (hz:zs.length=2) (hl:cs.length<=10000)
  (hk:∀v' h',EX h0 h'->uh h0.length h' v' (cs++[(ls,w)])->K v' h'):OH (dN 24 1 zs h [(0,2,.agg #[vs,I w])]) λy h2=>OH (eG 24 2 32 h2 v y) K:=by
 obtain ⟨rows,o1,o2,o4⟩:=o
 obtain ⟨t1,t2,_⟩:=hq.one
 refine o1.app hex hz (row:=[vs,I w]) rfl (by simp [dU,Value.cells]) rfl (by omega) (by simp [maxLen];omega) ?_
 intro v' h' x' oM o'
 have fl:∀c r,rows.flatten=c::r->Uq c=false:=by
  intro c r e
  cases rows with
  | nil=>simp at e
  | cons row rows=>
   cases cs with
   | nil=>simp at o2
   | cons c0 cs=>
    obtain ⟨vs0,e0,m0⟩:=o4 0 row c0 rfl rfl
    subst e0
    simp only [List.flatten_cons,List.cons_append,List.cons.injEq] at e
    rw [<-e.1]
    rcases m0 with ⟨rfl,_⟩ | ⟨_,_,rfl,_⟩ <;> rfl
 have kp:KP Uq h h':=o1.kp fl oM
 refine hk v' h' x' ⟨_,o',by simp [o2],λk row q h1 h2=>?_⟩
 by_cases hk:k<rows.length
 ·rw [List.getElem?_append_left hk] at h1
  rw [List.getElem?_append_left (by omega)] at h2
  obtain ⟨Yo,e,m⟩:=o4 k row q h1 h2
  exact ⟨Yo,e,m.eX kp⟩
 ·rw [List.getElem?_append_right (by omega)] at h1
  rw [List.getElem?_append_right (by omega),<-o2] at h2
  have h0:k-rows.length=0:=by
   have:=(bz h1).1
   simp at this;omega
  rw [h0] at h1 h2
  simp only [List.getElem?_cons_zero,Option.some.injEq] at h1 h2
  subst h1 h2
  exact ⟨vs,rfl,hq.eX kp⟩
theorem aEF {b:Nat} {h:ae} {v:Value} {ls:List (List UInt8)} (o:kK b h 27 v (ls.map S)):TS h v ls:=by
 rcases o with ⟨rfl,e⟩ | ⟨i,_,rfl,hg⟩
 ·exact .inl ⟨rfl,by simpa using e⟩
 ·exact .inr ⟨27,i,by rw [length_map],.inr (by simp [aW,hg])⟩
section
variable {h : ae} {K : Value -> ae -> Prop}
theorem C11 {v:Value} {cs:List (List (List UInt8)×Int)} (hv:jU h v cs) (hk:∀v' h',EX h h'->jU h' v' (vO cs)->K v' h'):ak prog 11 [v] h K:=by
 refine f11 ?_
 have e0:dN 24 0 [(.slice none 0 0),(.int .i64 (0))] h []=some (sl 24 h.length 0 0,h++[.arr 24 []]):=rfl
 simp only [OR,e0,aE]
 have x0:EX h (h++[.arr 24 []]):=EX.append _ _
 have Vo:uh h.length (h++[aq.arr 24 []]) (sl 24 h.length 0 0) []:=⟨[],⟨λr hr=>by simp at hr,.inr ⟨h.length,le_refl _,rfl,by simp⟩⟩,rfl,λk r q h=>by simp at h⟩
 generalize sl 24 h.length 0 0=v0 at Vo⊢
 generalize h++[aq.arr 24 []]=h1 at x0 Vo⊢
 refine dF (σ:=Nat×Value×ae) (λq=>[q.2.1,I q.1]) (λq=>q.2.2) (λq=>q.1<=cs.length/\q.1<=4/\EX h q.2.2/\uh h.length q.2.2 q.2.1 ((cs.take q.1).map λc=>(xT c.1,c.2))) (λq=>cs.length-q.1)
  (0,v0,h1) rfl rfl ⟨zero_le _,zero_le _,x0,Vo⟩ ?_
 rintro ⟨i,vo,g⟩ ⟨hi,EV,xg,own⟩ L hL
 simp only at hi EV xg own hL⊢
 rw [aFr]
 have hlen:=(hv.mono xg).len
 simp only [hlen,ah,cW]
 rw [aFl]
 by_cases aF:i<cs.length/\i<4
 rotate_left
 ·have out:∀a b:Value,bF a b (.bool false)=some (B false)->LC prog K v vo (I i) a b L g:=by
   intro a b hp
   rw [apg,hp]
   simp only [ah,dD]
   rw [aFq]
   refine hk vo g xg ?_
   have:vO cs=(cs.take i).map λc=>(xT c.1,c.2):=by
    unfold vO
    by_cases h4:i<4
    ·rw [take_of_length_le (by omega),take_of_length_le (by omega)]
    ·rw [show i=4 by omega]
   rw [this]
   exact own.chl
  by_cases h1:i<cs.length
  ·rw [bj (show (i:Int)<(cs.length:Int) by omega)]
   simp only [fP,sP,ah]
   rw [aY (show ¬(i:Int)<=3 by omega)]
   exact out _ _ rfl
  ·rw [aY (show ¬(i:Int)<(cs.length:Int) by omega)]
   simp only [jV]
   exact out _ _ rfl
 obtain ⟨bn,Tc⟩:=aF
 rw [bj (show (i:Int)<(cs.length:Int) by omega)]
 simp only [fP,sP,ah]
 rw [bj (show (i:Int)<=3 by omega),apg]
 obtain ⟨b,o,vs,u1,u2,u3⟩:=(hv.mono xg).get bn
 obtain ⟨u4,u5⟩:=A1 u2
 have e23:dC [(.slice none 0 0),(.int .i64 (0))] [(1,1,I cs[i].2)]=some (.agg #[.slice none 0 0,I cs[i].2]):=rfl
 have ea:aV 24 [(.slice none 0 0),(.int .i64 (0))] g=some (pt g.length 0,g++[.arr 24 [.slice none 0 0,I 0]]):=rfl
 simp only [dY,ah,dA,u1,bZ,u5,e23,ea,aE]
 have j1:(g++[aq.arr 24 [.slice none 0 0,I 0]])[g.length]?=some (.arr 24 [.slice none 0 0,I 0]):=br
 have y1:EX g (g++[aq.arr 24 [.slice none 0 0,I 0]]):=EX.append _ _
 generalize g++[aq.arr 24 [.slice none 0 0,I 0]]=g1 at j1 y1⊢
 rw [fM j1]
 simp only [aE]
 have y2:EX g (g1.set g.length (.arr 24 [.slice none 0 0,I cs[i].2])):=y1.set (le_refl _) _
 have j2:(g1.set g.length (.arr 24 [.slice none 0 0,I cs[i].2]))[g.length]?=some (.arr 24 [.slice none 0 0,I cs[i].2]):=cJ j1
 generalize g1.set g.length (.arr 24 [.slice none 0 0,I cs[i].2])=g2 at y2 j2⊢
 -- gB texts
 refine dF (σ:=Nat×Value×ae) (λq=>[I q.1]) (λq=>q.2.2) (λq=>q.1<=cs[i].1.length/\q.1<=9/\EX g q.2.2/\q.2.2[g.length]?=some (.arr 24 [q.2.1,I cs[i].2])/\kK (g.length+1) q.2.2 27 q.2.1 (((cs[i].1.take q.1).map λs=>s.take 20).map S)) (λq=>cs[i].1.length-q.1)
  (0,.slice none 0 0,g2) rfl rfl ⟨zero_le _,zero_le _,y2,j2,.inl ⟨rfl,by simp⟩⟩ ?_
 rintro ⟨k,vl,g3⟩ ⟨gp,hk9,x3,j3,ol⟩ L' EI
 simp only at gp hk9 x3 j3 ol EI⊢
 rw [aFm]
 have ko:=xg.trans x3
 obtain ⟨b,o,vs,u1,u2,u3⟩:=(hv.mono ko).get bn
 obtain ⟨u4,u5⟩:=A1 u2
 simp only [u1,ah,bZ,add_zero,u4,u3.len,cW]
 rw [aFn]
 by_cases aF:k<cs[i].1.length/\k<9
 rotate_left
 ·have out:∀a b:Value,bF a b (.bool false)=some (B false)->LD prog K v vo (I i) (pt g.length 0) (I k) a b L L' g3:=by
   intro a b hp
   rw [aph,hp]
   simp only [ah,dD]
   rw [aFo,cZ j3,ah]
   have el:(cs[i].1.take k).map (λs=>s.take 20)=xT cs[i].1:=by
    unfold xT
    by_cases h4:k<9
    ·rw [take_of_length_le (by omega),take_of_length_le (by omega)]
    ·rw [show k=9 by omega]
   rw [el] at ol
   refine (own.ex x3).app ko (aEF ol) rfl (by rw [length_map,length_take];omega) ?_
   intro v' g4 x4 FY
   rw [aFp]
   simp only [cL,ah,ft i (by omega),true_and]
   refine hL (i+1,v',g4) ⟨by show i+1<=_;omega,by show i+1<=4;omega,x4,?_⟩ (by show cs.length-(i+1)<cs.length-i;omega)
   rw [List.take_succ_eq_append_getElem bn,map_append]
   exact FY
  by_cases h1:k<cs[i].1.length
  ·rw [bj (show (k:Int)<(cs[i].1.length:Int) by omega)]
   simp only [fP,sP,ah]
   rw [aY (show ¬(k:Int)<=8 by omega)]
   exact out _ _ rfl
  ·rw [aY (show ¬(k:Int)<(cs[i].1.length:Int) by omega)]
   simp only [jV]
   exact out _ _ rfl
 obtain ⟨ma,hk8⟩:=aF
 rw [bj (show (k:Int)<(cs[i].1.length:Int) by omega)]
 simp only [fP,sP,ah]
 rw [bj (show (k:Int)<=8 by omega),aph]
 obtain ⟨b',o',r1,r2⟩:=u3.get k ma
 have lc:af false 1 g3 (pt g.length 0)=some vl:=by simp [af,aW,j3,cP]
 have mm:min ((cs[i].1[k].length:Int)) 20=((min cs[i].1[k].length 20:Nat):Int):=by omega
 have RU:kQ (S cs[i].1[k]) none (some (I ((min cs[i].1[k].length 20:Nat):Int)))=some (S (cs[i].1[k].take 20)):=by
  have e:=MN (a:=cs[i].1[k]) (n:=min cs[i].1[k].length 20) (Nat.min_le_left _ _) .i64
  rw [e]
  congr 2
  by_cases h20:cs[i].1[k].length<=20
  ·rw [take_of_length_le h20,take_of_length_le (by omega)]
  ·rw [Nat.min_eq_right (by omega)]
 simp only [dY,ah,dA,bZ,add_zero,lc,u1,u4,r1,r2,lK,min2,mm,RU,true_and]
 have TW:=bz j3
 have e59:dN 27 1 [(.string ⟨#[]⟩)] g3 [(0,1,S (cs[i].1[k].take 20))]=some (sl 27 g3.length 0 1,g3++[.arr 27 [S (cs[i].1[k].take 20)]]):=rfl
 have ld4:af false 1 (g3++[.arr 27 [S (cs[i].1[k].take 20)]]) (pt g.length 0)=some vl:=EX.load (EX.append _ _) lc
 have key:=Qt (z:=.string ⟨#[]⟩) (bytes:=16) (x:=S (cs[i].1[k].take 20)) (K:=λjw h_2=>OP (aJ 0 (pt g.length 0)) λfI=>
  OH (aG 1 h_2 fI jw) λ_ h_3=>
  OP (ai .add (I k) (.int .i64 (1))) λer=>L' [er] h_3) ol (by rw [length_map,length_map,length_take];omega) (by rw [length_map,length_map,length_take];simp [maxLen];omega) rfl rfl ?_
 ·rw [e59] at key⊢
  simp only [aE] at key⊢
  refine ⟨⟨ld4,trivial⟩,?_⟩
  simpa only [bZ,add_zero,ah,true_and] using key
 ·intro h1 g4 _ hl4 oM lH
  simp only [aE,bZ,add_zero,ah]
  have rS:g.length<g3.length:=TW.1
  have j4:g4[g.length]?=some (.arr 24 [vl,I cs[i].2]):=by
   rw [oM _ rS ?_]
   ·exact j3
   ·intro n hn
    have:=(ol.lt hn).1
    omega
  rw [show pt g.length 0=pt g.length 0 from rfl,qx j4 (by simp) rfl rfl]
  simp only [aE,cL,ah,ft k (by omega)]
  have tz:(cs[i].1.take (k+1)).map (λs=>s.take 20)=(cs[i].1.take k).map (λs=>s.take 20)++[cs[i].1[k].take 20]:=by
   rw [List.take_succ_eq_append_getElem ma,map_append];rfl
  have x4:EX g g4:=by
   refine ⟨by omega,λd hd=>?_⟩
   rw [oM d (by omega) ?_]
   ·exact x3.2 d hd
   ·intro n hn
    have:=(ol.lt hn).1
    omega
  refine EI (k+1,sl 27 (g3.length+1) 0 ((((cs[i].1.take k).map λs=>s.take 20).map S).length+1),_) ⟨by show k+1<=_;omega,by show k+1<=9;omega,?_,?_,?_⟩ (by show cs[i].1.length-(k+1)<cs[i].1.length-k;omega)
  ·exact x4.set (le_refl _) _
  ·exact cJ j4
  ·right
   refine ⟨g3.length+1,by omega,?_,?_⟩
   ·simp only [tz,map_append,length_append,length_map,length_cons,length_nil]
   ·show (g4.set _ _)[g3.length+1]?=_
    rw [getElem?_set_ne (by omega),lH,tz,map_append]
    rfl
end
end
section
theorem azc (ls:List (List UInt8)):(xT ls).length<=9:=by unfold xT;rw [length_map,length_take];omega
theorem azd (ls:List (List UInt8)):∀s∈xT ls,s.length<=20:=by
 intro s hs
 obtain ⟨t,_,rfl⟩:=List.mem_map.1 hs
 rw [length_take];omega
section
variable {h : ae} {K : Value -> ae -> Prop}
end
end
section
theorem afN {cs:db} {ag bg:List Int}:∀k,(∀i,i<k->ag.getD i (-1)=bg.getD i (-1))->cY cs ag k=cY cs bg k
 | 0,_=>rfl
 | k+1,h=>by
  have ih:=afN (cs:=cs) k λi hi=>h i (by omega)
  have e:∀i,i<=k->fL cs ag i=fL cs bg i:=λi hi=>by unfold fL;rw [h i (by omega)]
  have hl:=zQ cs bg k
  simp only [cY]
  rw [ih,h k (by omega),e k (le_refl _),e _ (show (cY cs bg k).toNat<=k by omega)]
theorem jR (cs:List (List (List UInt8)×Int)):(bf cs).length=cs.length:=by simp [bf]
theorem sr {cs:List (List (List UInt8)×Int)} {i:Nat} (hi:i<cs.length):(bf cs)[i]'(by rw [jR];exact hi)=(cs[i].1.map bP,cs[i].2):=by simp [bf]
def pQ (cs:db) (ag:List Int) (k:Nat):Rat:=if cY cs ag k<0 then ((-1:Int):Rat) else fL cs ag (cY cs ag k).toNat
theorem Jx (cs:db) (ag:List Int):∀k,0<=cY cs ag k->0<=ag.getD (cY cs ag k).toNat (-1):=by
 intro k
 induction k with
 | zero=>intro h;exact absurd h (by show ¬(0:Int)<= -1;decide)
 | succ k ih=>
  simp only [cY]
  split
  ·exact ih
  ·split
   ·intro _;rw [toNat_natCast];omega
   ·exact ih
theorem au6 {cs:db} {ag:List Int} (hk:BT cs ag) {k:Nat} (hl:k<=cs.length):cd 380 (pQ cs ag k):=by
 unfold pQ
 split
 ·have:cd 1 ((-1:Int):Rat):=by constructor <;> decide
  exact this.le (by decide)
 ·rename_i h
  have hc:=zQ cs ag k
  exact (KQ hk (by omega) (Jx cs ag k (by omega))).2
section
variable {h : ae} {K : Value -> ae -> Prop}
theorem C42 {v va:Value} {cs:List (List (List UInt8)×Int)} {ag:List Int} (hv:jU h v cs) (ha:NS h va .i64 ag) (jP:ag.length=cs.length) (hl:∀c∈cs,∀s∈c.1,s.length<=700/\jo s=true) (aI:BT (bf cs) ag)
  (hk:∀h',EX h h'->K (I (cY (bf cs) ag cs.length)) h'):ak prog 42 [v,va] h K:=by
 refine f42 ?_
 unfold Py
 have ef:cs.length<=3:=by rw [<-jR];exact aI.ef
 refine vF (by decide) ?_
 intro r1 g1 x1 q1
 have e2:∀g:ae,aV 37 [(.bool false),(.slice none 0 0),(.bool false),(.slice none 0 0)] g=some (pt g.length 0,g++[.arr 37 z4]):=λ_=>rfl
 simp only [e2,aE]
 refine B1 q1 ?_
 intro g2 x2 c2 _
 have yQ:=x1.trans x2
 have hs:h.length<=g1.length:=x1.1
 generalize g1.length=ib at c2 hs⊢
 refine dF (σ:=Nat×ae) (λq=>[I (cY (bf cs) ag q.1),I q.1]) (λq=>q.2) (λq=>q.1<=cs.length/\EX h q.2/\fe q.2 ib (pQ (bf cs) ag q.1)) (λq=>cs.length-q.1)
  (0,g2) rfl rfl ⟨zero_le _,yQ,c2⟩ ?_
 rintro ⟨i,g⟩ ⟨hi,xg,cell⟩ L hL
 simp only at hi xg cell hL⊢
 rw [aGF]
 have hlen:=(hv.mono xg).len
 simp only [hlen,ah,cW,bQ]
 refine ⟨λaF=>?_,λcU=>?_⟩
 rotate_left
 ·have fZ:i=cs.length:=by omega
  subst fZ
  rw [aGE]
  exact hk g xg
 have bn:i<cs.length:=by omega
 have eW:i<(bf cs).length:=by rw [jR];exact bn
 have gN:∀{g':ae} (v':Int),EX h g'->v'=cY (bf cs) ag (i+1)->fe g' ib (pQ (bf cs) ag (i+1))->Ga prog K v va (pt ib 0) (I v') (I i) L g':=by
  intro g' v' x' kD c'
  rw [aGD]
  simp only [cL,ah,ft i (by omega),true_and]
  have:=hL (i+1,g') ⟨by show i+1<=_;omega,x',c'⟩ (by show cs.length-(i+1)<cs.length-i;omega)
  rw [kD]
  exact this
 obtain ⟨b1,o1,a1,a2⟩:=(ha.mono xg).get i (by omega)
 have eg:ag.getD i (-1)=ag[i]'(by omega):=jO (by omega)
 simp only [a1,a2,ah,cW,bQ]
 refine ⟨λji=>?_,λaA2=>?_⟩
 ·have e:cY (bf cs) ag (i+1)=cY (bf cs) ag i:=by simp only [cY];rw [if_pos (by rw [eg];exact ji)]
  have e':pQ (bf cs) ag (i+1)=pQ (bf cs) ag i:=by unfold pQ;rw [e]
  exact gN _ xg e.symm (by rw [e'];exact cell)
 obtain ⟨b2,o2,vs,u1,u2,u3⟩:=(hv.mono xg).get bn
 simp only [aE,e2]
 have y1:EX g (g++[.arr 37 z4]):=EX.append _ _
 have j1:(g++[aq.arr 37 z4])[g.length]?=some (.arr 37 z4):=br
 generalize g++[aq.arr 37 z4]=g3 at y1 j1⊢
 simp only [oa j1,ah,u1,EX.load y1 u2,u2,EX.load y1 a2,true_and]
 obtain ⟨a,ea⟩:∃a:Nat,ag[i]'(by omega)=(a:Int):=⟨(ag[i]'(by omega)).toNat,by omega⟩
 have Ck:=(aI.lU i eW).2
 rw [eg,ea] at Ck
 rw [sr bn,length_map] at Ck
 rw [ea]
 have aBv:dM (cs[i].1.map bP) cs[i].2=true:=by
  have:=aI.jI _ (getElem_mem eW)
  rwa [sr bn] at this
 refine C15 (u3.mono y1) (hl _ (getElem_mem bn)) aBv (by omega) ?_
 intro r4 g4 x4 q4
 have R4:(bW (cs[i].1.map bP) cs[i].2 a (cs[i].1.length-a)).bU=fL (bf cs) ag i:=by
  unfold fL
  rw [jO eW,sr bn,eg,ea,toNat_natCast,length_map]
 rw [R4] at q4
 obtain ⟨nn,sz⟩:=KQ aI eW (by rw [eg,ea];omega)
 refine ⟨⟨oa (x4.get j1),trivial⟩,?_⟩
 obtain ⟨g5,e5,s5⟩:=B2 (x4.get j1) q4
 simp only [eR,fv,fz,ah,e5,aE]
 have cS:EX g g5:=s5.ex (y1.trans x4) (le_refl _)
 have bt:ib≠g.length:=by have:=cell.lt;omega
 have Eh:fe g5 ib _:=s5.eX bt (cell.mono (y1.trans x4))
 obtain ⟨v5,l5,q5⟩:=s5.cell.load
 obtain ⟨v6,l6,q6⟩:=Eh.load
 simp only [l5,l6,ah]
 refine G7 (q5.un sz) (q6.un (au6 aI (by omega))) (by decide) ?_
 intro g7 x7
 have ec:cY (bf cs) ag (i+1)=if cY (bf cs) ag i<0∨fL (bf cs) ag (cY (bf cs) ag i).toNat<fL (bf cs) ag i then (i:Int) else cY (bf cs) ag i:=by
  simp only [cY];rw [if_neg (by rw [eg];exact aA2)]
 have aBo:0<lW (fL (bf cs) ag i) (pQ (bf cs) ag i)↔(cY (bf cs) ag i<0∨fL (bf cs) ag (cY (bf cs) ag i).toNat<fL (bf cs) ag i):=by
  rw [Jy]
  unfold pQ
  by_cases hb:cY (bf cs) ag i<0
  ·rw [if_pos hb]
   have:((-1:Int):Rat)<0:=by decide
   exact ⟨λ_=>.inl hb,λ_=>by grind⟩
  ·rw [if_neg hb]
   exact ⟨.inr,λh=>h.resolve_left hb⟩
 simp only [fQ,ah,bQ]
 rw [aBo]
 refine ⟨λhc=>?_,λhc=>?_⟩
 ·rw [if_pos hc] at ec
  simp only [EX.load x7 l5,ah]
  obtain ⟨g8,e8,s8⟩:=(Eh.mono x7).store (q5.mono x7)
  simp only [e8,aE]
  refine gN _ (s8.ex (xg.trans (cS.trans x7)) hs) ec.symm ?_
  have:pQ (bf cs) ag (i+1)=fL (bf cs) ag i:=by unfold pQ;rw [ec,if_neg (by omega),toNat_natCast]
  rw [this];exact s8.cell
 ·rw [if_neg hc] at ec
  refine gN _ (xg.trans (cS.trans x7)) ec.symm ?_
  have:pQ (bf cs) ag (i+1)=pQ (bf cs) ag i:=by unfold pQ;rw [ec]
  rw [this];exact Eh.mono x7
theorem HY {cs:List (List (List UInt8)×Int)} (h:um cs=true):(1<=cs.length/\cs.length<=3)/\∀c∈bf cs,dM c.1 c.2=true:=by
 unfold um at h
 simp only [and_eq_true,decide_eq_true_eq,List.all_eq_true] at h
 exact h
theorem aAm {cs:List (List (List UInt8)×Int)} (h:jN cs=0):lB cs=true/\um cs=true:=by
 unfold jN at h
 cases h1:lB cs with
 | false=>rw [h1,if_pos rfl] at h;exact absurd h (by decide)
 | true=>
  rw [h1,if_neg (by decide)] at h
  cases h2:um cs with
  | false=>rw [h2,if_pos rfl] at h;exact absurd h (by decide)
  | true=>exact ⟨rfl,rfl⟩
end
end
end Go.Proofs.YtelmdbpaoifmoaaGreat
namespace Go.Sim
section
def cH (S:Nat->Rat):Nat->Rat
 | 0=>0
 | k+1=>cH S k+S k
def tN (S T:Nat->Rat) (w v:Rat) (n m:Nat):Nat->Nat->Nat->Rat
 | 0,_,_=>0
 | f+1,a,b=>if n<=a∨m<=b then 0 else
   if w*(S a*T b)+tN S T w v n m f a (b+1)<v*(S a*T b)+tN S T w v n m f (a+1) b then w*(S a*T b)+tN S T w v n m f a (b+1) else v*(S a*T b)+tN S T w v n m f (a+1) b
def gU (S T:Nat->Rat) (w v:Rat) (n m a b:Nat):Rat:=tN S T w v n m ((n-a)+(m-b)) a b
section
variable {S T : Nat -> Rat} {w v : Rat} {n m : Nat}
theorem xL {a b:Nat} (h:n<=a∨m<=b):gU S T w v n m a b=0:=by
 unfold gU
 cases (n-a)+(m-b) with
 | zero=>rfl
 | succ f=>simp only [tN];rw [if_pos h]
theorem D3 {a b:Nat} (ha:a<n) (hb:b<m):gU S T w v n m a b=if w*(S a*T b)+gU S T w v n m a (b+1)<v*(S a*T b)+gU S T w v n m (a+1) b then w*(S a*T b)+gU S T w v n m a (b+1) else v*(S a*T b)+gU S T w v n m (a+1) b:=by
 unfold gU
 have e1:(n-a)+(m-b)=((n-a)+(m-(b+1)))+1:=by omega
 have e2:(n-(a+1))+(m-b)=(n-a)+(m-(b+1)):=by omega
 rw [e1,e2]
 simp only [tN]
 rw [if_neg (by omega)]
theorem Qx {a b:Nat} (ha:a<n) (hb:b<m):gU S T w v n m a b<=v*(S a*T b)+gU S T w v n m (a+1) b:=by
 rw [D3 ha hb];split <;> grind
theorem au8 {a b:Nat} (ha:a<n) (hb:b<m):gU S T w v n m a b<=w*(S a*T b)+gU S T w v n m a (b+1):=by
 rw [D3 ha hb];split <;> grind
theorem Qy:∀(k a b:Nat),(n-a)+(m-b)=k->gU S T w v n m a b=gU T S v w m n b a
 | k,a,b,hk=>by
  by_cases h:n<=a∨m<=b
  ·rw [xL h,xL (by omega)]
  ·have i1:=Qy (k-1) (a+1) b (by omega)
   have i2:=Qy (k-1) a (b+1) (by omega)
   rw [D3 (a:=a) (b:=b) (by omega) (by omega),D3 (S:=T) (T:=S) (a:=b) (b:=a) (by omega) (by omega),i1,i2]
   have e:S a*T b=T b*S a:=Rat.mul_comm ..
   rw [e]
   generalize w*(T b*S a)+gU T S v w m n (b+1) a=x
   generalize v*(T b*S a)+gU T S v w m n b (a+1)=y
   split <;> split <;> grind
termination_by _ a b=>(n-a)+(m-b)
theorem El (hS:∀k,0<=S k):∀{a b:Nat},a<=b->cH S a<=cH S b
 | a,0,h=>by
  have:a=0:=by omega
  subst this;exact Rat.le_refl
 | a,b+1,h=>by
  by_cases e:a=b+1
  ·subst e;exact Rat.le_refl
  ·have:=El hS (a:=a) (b:=b) (by omega)
   have:=hS b
   simp only [cH]
   grind
structure sM (S:Nat->Rat) (w:Rat) (n a e:Nat) (nu:Rat):Prop where
 lo:a<e
 hi:e<=n
 at_:w*(S a-S e)=nu*(cH S e-cH S a)
 le:∀k,a<=k->k<=n->w*(S a-S k)<=nu*(cH S k-cH S a)
theorem X1 (hS:∀k,0<=S k) (hT:∀k,0<=T k) (Af:∀k,n<=k->S k=0) (Ag:∀k,m<=k->T k=0) {a b e:Nat} {nu mu:Rat} (I:sM S w n a e nu) (hJ:∀k,b<=k->k<=m->v*(T b-T k)<=mu*(cH T k-cH T b)) (uN:mu<=nu) (Co:b<=m):
  ∀(k a' b':Nat),(e-a')+(m-b')=k->a<=a'->a'<=e->b<=b'->b'<=m->
   gU S T w v n m e b'+(cH S e-cH S a')*(v*T b-nu*(cH T b' -cH T b))<=gU S T w v n m a' b'
 | k,a',b',hk,h1,h2,h3,h4=>by
  have hy:v*(T b-T b')<=nu*(cH T b' -cH T b):=by
   have q1:=hJ b' h3 h4
   have q2:=El hT h3
   have q3:=mul_nonneg (show 0<=nu-mu by grind) (show 0<=cH T b' -cH T b by grind)
   grind
  have hx:nu*(cH S e-cH S a')<=w*(S a' -S e):=by
   have q1:=I.le a' h1 (by have:=I.hi;omega)
   have q2:=I.at_
   grind
  by_cases ea:a'=e
  ·subst ea
   have:cH S a' -cH S a'=0:=by grind
   rw [this,zero_mul,Rat.add_zero]
   exact Rat.le_refl
  have aA9:0<=cH S e-cH S a':=by
   have:=El hS h2
   grind
  by_cases eb:b'=m
  ·subst eb
   rw [xL (.inr (le_refl _)),xL (.inr (le_refl _))]
   rw [Ag _ (le_refl _)] at hy
   have:=mul_nonneg aA9 (show 0<=nu*(cH T b' -cH T b)-v*T b by grind)
   grind
  have en:=I.hi
  have AS:=X1 hS hT Af Ag I hJ uN Co (k-1) (a'+1) b' (by omega) (by omega) (by omega) h3 h4
  have CJ:=X1 hS hT Af Ag I hJ uN Co (k-1) a' (b'+1) (by omega) h1 h2 (by omega) (by omega)
  have hup:gU S T w v n m e b'<=w*(S e*T b')+gU S T w v n m e (b'+1):=by
   by_cases een:e<n
   ·exact au8 een (by omega)
   ·rw [xL (.inl (by omega)),xL (.inl (by omega)),Af e (by omega)]
    grind
  simp only [cH] at AS CJ
  rw [D3 (a:=a') (b:=b') (by omega) (by omega)]
  have sa:=hS a'
  have tb:=hT b'
  generalize gU S T w v n m e b'=U0 at*
  generalize gU S T w v n m e (b'+1)=U1 at*
  generalize gU S T w v n m (a'+1) b'=R1 at*
  generalize gU S T w v n m a' (b'+1)=P1 at*
  have ec:cH S e-(cH S a'+S a')=(cH S e-cH S a')-S a':=by grind
  rw [ec] at AS
  generalize cH S e-cH S a'=c at*
  have m1:=mul_nonneg sa (show 0<=nu*(cH T b' -cH T b)-v*(T b-T b') by grind)
  have m2:=mul_nonneg tb (show 0<=w*(S a' -S e)-nu*c by grind)
  have r1:U0+c*(v*T b-nu*(cH T b' -cH T b))<=v*(S a'*T b')+R1:=by clear m2 CJ hup hx hS hT Af Ag I hJ hk h1 h2 h3 h4 ea eb en;grind
  have r2:U0+c*(v*T b-nu*(cH T b' -cH T b))<=w*(S a'*T b')+P1:=by clear m1 AS hy hS hT Af Ag I hJ hk h1 h2 h3 h4 ea eb en;grind
  split <;> assumption
termination_by _ a' b'=>(e-a')+(m-b')
theorem XE (hS:∀k,0<=S k):∀(j a b e:Nat),e-a=j->a<=e->e<=n->b<m->gU S T w v n m a b<=v*T b*(cH S e-cH S a)+gU S T w v n m e b
 | 0,a,b,e,h,h1,h2,h3=>by
  have:a=e:=by omega
  subst this
  grind
 | j+1,a,b,e,h,h1,h2,h3=>by
  have ih:=XE hS j (a+1) b e (by omega) (by omega) h2 h3
  have:=Qx (S:=S) (T:=T) (w:=w) (v:=v) (n:=n) (m:=m) (a:=a) (b:=b) (by omega) h3
  simp only [cH] at ih
  grind
theorem aAC (hS:∀k,0<=S k) (hT:∀k,0<=T k) (Af:∀k,n<=k->S k=0) (Ag:∀k,m<=k->T k=0) {a b e e':Nat} {nu mu:Rat} (I:sM S w n a e nu) (J:sM T v m b e' mu) (uN:mu<=nu):
  gU S T w v n m a b=v*(S a*T b)+gU S T w v n m (a+1) b:=by
 have hb:b<m:=by have:=J.lo;have:=J.hi;omega
 have lo:=I.lo
 have hi:=I.hi
 have s:=X1 hS hT Af Ag I J.le uN (by omega) _ a b rfl (le_refl _) (by omega) (le_refl _) (by omega)
 have r:=XE (S:=S) (T:=T) (w:=w) (v:=v) (n:=n) (m:=m) hS (e-(a+1)) (a+1) b e rfl (by omega) hi hb
 have q:=Qx (S:=S) (T:=T) (w:=w) (v:=v) (n:=n) (m:=m) (a:=a) (b:=b) (by omega) hb
 simp only [cH] at r
 have e0:cH T b-cH T b=0:=by grind
 rw [e0] at s
 apply Rat.le_antisymm q
 grind
end
end
section
structure dP where
 S:Nat->Rat
 n:Nat
 w:Rat
structure dP.ok (j:dP):Prop where
 nn:∀k,0<=j.S k
 pos:∀k,k<j.n->0<j.S k
 top:∀k,j.n<=k->j.S k=0
def dP.ch (j:dP) (a:Nat):Rat:=(j.S a-j.S (a+1)) / j.S a
def dP.wt (j:dP) (a:Int):Rat:=if a<0 then 0 else j.w
def dP.own (j:dP) (a:Int):Rat:=if a<0 then 0 else j.w*(cH j.S j.n-cH j.S a.toNat) / j.S a.toNat
def jt (j k:dP) (a b:Int):Rat:=if a<0∨b<0 then 0 else gU j.S k.S j.w k.w j.n k.n a.toNat b.toNat / (j.S a.toNat*k.S b.toNat)
def dP.at (j:dP) (a:Int):Prop:= -1<=a/\a<j.n
def kV (j0 j1 j2:dP) (a0 a1 a2:Int):Rat:=j0.own a0+j1.own a1+j2.own a2+jt j0 j1 a0 a1+jt j0 j2 a0 a2+jt j1 j2 a1 a2
theorem WZ (j k:dP) (a b:Int):jt j k a b=jt k j b a:=by
 unfold jt
 by_cases h:a<0∨b<0
 ·rw [if_pos h,if_pos (h.symm)]
 ·rw [if_neg h,if_neg (λx=>h x.symm),Qy _ _ _ rfl,Rat.mul_comm]
theorem oT {x:Rat} (h:0<x):x≠0:=λe=>by rw [e] at h;exact absurd h (by decide)
theorem FZ (j:dP):j.own (-1)=0:=if_pos (by decide)
theorem Bh (j k:dP) (b:Int):jt j k (-1) b=0:=if_pos (.inl (by decide))
theorem Ma (j k:dP) (a:Int):jt j k a (-1)=0:=if_pos (.inr (by decide))
theorem UA {j:dP} (h:j.ok) {a:Nat} (ha:a<j.n):1-j.ch a=j.S (a+1) / j.S a:=by
 have:=oT (h.pos a ha)
 unfold dP.ch
 grind
theorem al0 {j:dP} (h:j.ok) {a:Nat} (ha:a<j.n):j.own a=j.w+(1-j.ch a)*j.own ((a+1:Nat):Int):=by
 rw [UA h ha]
 unfold dP.own
 rw [if_neg (by omega),if_neg (by omega),toNat_natCast,toNat_natCast]
 have s0:=oT (h.pos a ha)
 by_cases h1:a+1<j.n
 ·have s1:=oT (h.pos _ h1)
  simp only [cH]
  grind
 ·have e:j.n=a+1:=by omega
  rw [h.top (a+1) (by omega),e]
  simp only [cH]
  grind
theorem aoR {j k:dP} (h:j.ok) (hk:k.ok) {a b:Nat} (ha:a<j.n) (hb:b<k.n):(1-j.ch a)*jt j k ((a+1:Nat):Int) b=gU j.S k.S j.w k.w j.n k.n (a+1) b / (j.S a*k.S b):=by
 rw [UA h ha]
 unfold jt
 rw [if_neg (by omega),toNat_natCast,toNat_natCast]
 have s0:=oT (h.pos a ha)
 have t0:=oT (hk.pos b hb)
 by_cases h1:a+1<j.n
 ·have s1:=oT (h.pos _ h1)
  grind
 ·rw [xL (.inl (by omega))]
  grind
theorem RH {x y d:Rat} (hd:0<d) (h:x<=y):x / d<=y / d:=by
 rw [div_def,div_def]
 exact Rat.mul_le_mul_of_nonneg_right h (le_of_lt (Rat.inv_pos.2 hd))
theorem alX {x y d:Rat} (hd:d≠0):(x*d+y) / d=x+y / d:=by grind
theorem aoQ {j k:dP} (h:j.ok) (hk:k.ok) {a:Nat} {b:Int} (ha:a<j.n) (hb:k.at b):jt j k a b<=k.wt b+(1-j.ch a)*jt j k ((a+1:Nat):Int) b:=by
 by_cases b0:b<0
 ·have:b= -1:=by have:=hb.1;omega
  subst this
  rw [Ma,Ma]
  have:k.wt (-1)=0:=if_pos (by decide)
  rw [this]
  grind
 ·obtain ⟨c,rfl⟩:∃c:Nat,b=(c:Int):=⟨b.toNat,by omega⟩
  have hc:c<k.n:=by have:=hb.2;omega
  rw [aoR h hk ha hc]
  have s0:=h.pos a ha
  have t0:=hk.pos c hc
  have st:=mul_pos s0 t0
  have q:=RH st (Qx (S:=j.S) (T:=k.S) (w:=j.w) (v:=k.w) ha hc)
  have e:jt j k a c=gU j.S k.S j.w k.w j.n k.n a c / (j.S a*k.S c):=by unfold jt;rw [if_neg (by omega),toNat_natCast,toNat_natCast]
  have e2:k.wt c=k.w:=if_neg (by omega)
  rw [alX (oT st)] at q
  rw [e,e2]
  exact q
theorem aoO {j k:dP} (h:j.ok) (hk:k.ok) {a:Nat} {b:Int} (ha:a<j.n) (hb:k.at b) {e:Nat} {nu:Rat} (I:sM j.S j.w j.n a e nu) (J:0<=b->∃e' mu,sM k.S k.w k.n b.toNat e' mu/\mu<=nu):
  jt j k a b=k.wt b+(1-j.ch a)*jt j k ((a+1:Nat):Int) b:=by
 by_cases b0:b<0
 ·have:b= -1:=by have:=hb.1;omega
  subst this
  rw [Ma,Ma]
  have:k.wt (-1)=0:=if_pos (by decide)
  rw [this]
  grind
 ·obtain ⟨c,rfl⟩:∃c:Nat,b=(c:Int):=⟨b.toNat,by omega⟩
  have hc:c<k.n:=by have:=hb.2;omega
  obtain ⟨e',mu,J1,hm⟩:=J (by omega)
  rw [toNat_natCast] at J1
  rw [aoR h hk ha hc]
  have st:=mul_pos (h.pos a ha) (hk.pos c hc)
  have q:=aAC h.nn hk.nn h.top hk.top I J1 hm
  have e:jt j k a c=gU j.S k.S j.w k.w j.n k.n a c / (j.S a*k.S c):=by unfold jt;rw [if_neg (by omega),toNat_natCast,toNat_natCast]
  have e2:k.wt c=k.w:=if_neg (by omega)
  rw [e,e2,q,alX (oT st)]
section
variable {j0 j1 j2 : dP} {a1 a2 : Int}
theorem Yg (h0:j0.ok) (h1:j1.ok) (h2:j2.ok) {a:Nat} (ha:a<j0.n) (q1:j1.at a1) (q2:j2.at a2):kV j0 j1 j2 a a1 a2<=j0.w+j1.wt a1+j2.wt a2+j0.ch a*kV j0 j1 j2 (-1) a1 a2+(1-j0.ch a)*kV j0 j1 j2 ((a+1:Nat):Int) a1 a2:=by
 unfold kV
 rw [FZ,Bh,Bh]
 have e0:=al0 h0 ha
 have p1:=aoQ h0 h1 ha q1
 have p2:=aoQ h0 h2 ha q2
 generalize jt j1 j2 a1 a2=P
 generalize j0.ch a=c at*
 grind
theorem Yf (h0:j0.ok) (h1:j1.ok) (h2:j2.ok) {a:Nat} (ha:a<j0.n) (q1:j1.at a1) (q2:j2.at a2) {e:Nat} {nu:Rat} (I:sM j0.S j0.w j0.n a e nu) (J1:0<=a1->∃e' mu,sM j1.S j1.w j1.n a1.toNat e' mu/\mu<=nu) (J2:0<=a2->∃e' mu,sM j2.S j2.w j2.n a2.toNat e' mu/\mu<=nu):
  kV j0 j1 j2 a a1 a2=j0.w+j1.wt a1+j2.wt a2+j0.ch a*kV j0 j1 j2 (-1) a1 a2+(1-j0.ch a)*kV j0 j1 j2 ((a+1:Nat):Int) a1 a2:=by
 unfold kV
 rw [FZ,Bh,Bh]
 have e0:=al0 h0 ha
 have p1:=aoO h0 h1 ha q1 I J1
 have p2:=aoO h0 h2 ha q2 I J2
 generalize jt j1 j2 a1 a2=P
 generalize j0.ch a=c at*
 grind
end
theorem Dk (j0 j1 j2:dP) (a0 a1 a2:Int):kV j0 j1 j2 a0 a1 a2=kV j1 j0 j2 a1 a0 a2:=by
 unfold kV
 rw [WZ j0 j1]
 grind
theorem Dl (j0 j1 j2:dP) (a0 a1 a2:Int):kV j0 j1 j2 a0 a1 a2=kV j2 j0 j1 a2 a0 a1:=by
 unfold kV
 rw [WZ j0 j2,WZ j1 j2]
 grind
theorem aEH {j k:dP} (h:j.ok) (hk:k.ok) {a b:Nat} (ha:a<j.n) (hb:b<k.n):jt j k a b<=k.w*(cH j.S j.n-cH j.S a) / j.S a:=by
 have st:=mul_pos (h.pos a ha) (hk.pos b hb)
 have q:=XE (S:=j.S) (T:=k.S) (w:=j.w) (v:=k.w) (n:=j.n) (m:=k.n) h.nn (j.n-a) a b j.n rfl (by omega) (le_refl _) hb
 rw [xL (.inl (le_refl _)),Rat.add_zero] at q
 have q:=RH st q
 have e:jt j k a b=gU j.S k.S j.w k.w j.n k.n a b / (j.S a*k.S b):=by unfold jt;rw [if_neg (by omega),toNat_natCast,toNat_natCast]
 rw [e]
 have s0:=oT (h.pos a ha)
 have t0:=oT (hk.pos b hb)
 have:k.w*k.S b*(cH j.S j.n-cH j.S a) / (j.S a*k.S b)=k.w*(cH j.S j.n-cH j.S a) / j.S a:=by grind
 rw [this] at q
 exact q
end
section
def fB (D:Nat) (x:Rat):Prop:=∃z:Int,x*(D:Rat)=(z:Rat)
theorem fB.add {D:Nat} {x y:Rat} (h:fB D x) (k:fB D y):fB D (x+y):=by
 obtain ⟨a,ha⟩:=h;obtain ⟨b,hb⟩:=k
 refine ⟨a+b,?_⟩
 rw [Rat.intCast_add];grind
theorem fB.sub {D:Nat} {x y:Rat} (h:fB D x) (k:fB D y):fB D (x-y):=by
 obtain ⟨a,ha⟩:=h;obtain ⟨b,hb⟩:=k
 refine ⟨a-b,?_⟩
 rw [Rat.intCast_sub];grind
theorem fB.mul {D E:Nat} {x y:Rat} (h:fB D x) (k:fB E y):fB (D*E) (x*y):=by
 obtain ⟨a,ha⟩:=h;obtain ⟨b,hb⟩:=k
 refine ⟨a*b,?_⟩
 rw [intCast_mul,Rat.natCast_mul];grind
theorem fB.int (D:Nat) (z:Int):fB D (z:Rat):=⟨z*D,by rw [intCast_mul];rfl⟩
theorem fB.scale {D:Nat} {x:Rat} (z:Int) (h:fB D x):fB D ((z:Rat)*x):=by
 obtain ⟨a,ha⟩:=h
 refine ⟨z*a,?_⟩
 rw [intCast_mul];grind
theorem fB.more {D:Nat} {x:Rat} (E:Nat) (h:fB D x):fB (D*E) x:=by
 obtain ⟨a,ha⟩:=h
 refine ⟨a*E,?_⟩
 rw [intCast_mul,Rat.natCast_mul]
 have:((E:Int):Rat)=(E:Rat):=rfl
 rw [this]
 grind
theorem fB.comm {D E:Nat} {x:Rat} (h:fB (D*E) x):fB (E*D) x:=by rwa [Nat.mul_comm]
theorem fB.zero (D:Nat):fB D 0:=fB.int D 0
theorem fB.den (q:Rat):fB q.den q:=⟨q.num,by
 have h2:=Rat.mkRat_self q
 rw [Rat.mkRat_eq_div,div_def] at h2
 have h1:(q.den:Rat)≠0:=by
  intro h
  have:=q.den_pos
  have h2:(q.den:Rat)=((0:Nat):Rat):=by simpa using h
  have:=Rat.natCast_inj.1 h2
  omega
 grind⟩
theorem Ur {S T:Nat->Rat} {w v:Int} {n m:Nat} {D E:Nat} (hS:∀k,fB D (S k)) (hT:∀k,fB E (T k)):∀(f a b:Nat),fB (D*E) (tN S T w v n m f a b)
 | 0,_,_=>fB.zero _
 | f+1,a,b=>by
  simp only [tN]
  have i1:=Ur (w:=w) (v:=v) (n:=n) (m:=m) hS hT f (a+1) b
  have i2:=Ur (w:=w) (v:=v) (n:=n) (m:=m) hS hT f a (b+1)
  have p:=(hS a).mul (hT b)
  split
  ·exact fB.zero _
  ·split
   ·exact (p.scale w).add i2
   ·exact (p.scale v).add i1
theorem Us {S:Nat->Rat} {D:Nat} (hS:∀k,fB D (S k)):∀k,fB D (cH S k)
 | 0=>fB.zero _
 | k+1=>(Us hS k).add (hS k)
end
end Go.Sim
namespace Go.Proofs.YtelmdbpaoifmoaaGreat
open Go.Sim
section
def gu (c:List Rat×Int):dP:=⟨λk=>cR (c.1.drop k),c.1.length,(c.2:Rat)⟩
theorem aKc {l:List Rat} (h:∀q∈l,0<=q):0<=cR l:=by
 have:=Ya h l.length (le_refl _)
 rwa [take_length] at this
theorem aCX:(gu ([],0)).ok:=by
 refine ⟨λk=>?_,λk hk=>absurd hk (Nat.not_lt_zero _),λk _=>?_⟩
 ·show 0<=cR (([]:List Rat).drop k)
  rw [List.drop_nil];exact Rat.le_refl
 ·show cR (([]:List Rat).drop k)=0
  rw [List.drop_nil];rfl
theorem aiX {c:List Rat×Int} (h:dM c.1 c.2=true):(gu c).ok:=by
 obtain ⟨_,_,_,_,nn,_⟩:=oB h
 refine ⟨λk=>aKc λq hq=>nn q (List.mem_of_mem_drop hq),λk hk=>xW h hk,λk hk=>?_⟩
 show cR (c.1.drop k)=0
 rw [List.drop_eq_nil_of_le hk];rfl
theorem aqR (c:List Rat×Int) (age:Nat):∀d,(bW c.1 c.2 age d).ke=cH (gu c).S (age+d)-cH (gu c).S age
 | 0=>by simp only [add_zero,bW];grind
 | d+1=>by
  rw [(tQ c.1 c.2 age d).2,aqR c age d,<-Nat.add_assoc]
  simp only [cH]
  have:(gu c).S (age+d)=cR (c.1.drop (age+d)):=rfl
  rw [this];grind
theorem aCF {c:List Rat×Int} (h:dM c.1 c.2=true) {age:Nat} (ha:age<c.1.length):∃e,sM (gu c).S (gu c).w (gu c).n age e (bW c.1 c.2 age (c.1.length-age)).bU:=by
 have ok:=aiX h
 have key:∀d,0<d->age+d<=c.1.length->∃e,age<e/\e<=age+d/\(gu c).w*((gu c).S age-(gu c).S e)=(bW c.1 c.2 age d).bU*(cH (gu c).S e-cH (gu c).S age)/\
   ∀k,age<=k->k<=age+d->(gu c).w*((gu c).S age-(gu c).S k)<=(bW c.1 c.2 age d).bU*(cH (gu c).S k-cH (gu c).S age):=by
  intro d
  induction d with
  | zero=>intro h;omega
  | succ d ih=>
   intro _ hd
   have wp:=(Dr (age:=age) (d:=d+1) h hd).2 (by omega)
   have ht:iC c.1 c.2 age d*(cH (gu c).S (age+(d+1))-cH (gu c).S age)=(gu c).w*((gu c).S age-(gu c).S (age+(d+1))):=by
    have e1:=aqR c age (d+1)
    have e2:=RK c.1 c.2 age (d+1) hd
    have e3:(gu c).w=(c.2:Rat):=rfl
    have e4:∀k,(gu c).S k=cR (c.1.drop k):=λ_=>rfl
    unfold iC
    rw [<-e1,e3,e4,e4,<-e2]
    have:=oT wp
    grind
   rw [XY]
   have mono:∀k,age<=k->0<=cH (gu c).S k-cH (gu c).S age:=λk hk=>by
    have:=El ok.nn hk
    grind
   by_cases d0:d=0
   ·subst d0
    rw [if_pos (.inl rfl)]
    refine ⟨age+1,by omega,le_refl _,ht.symm,λk h1 h2=>?_⟩
    by_cases hk:k=age
    ·subst hk;grind
    ·have:k=age+1:=by omega
     subst this
     show _<=iC c.1 c.2 age 0*_
     have TP:iC c.1 c.2 age 0*(cH (gu c).S (age+1)-cH (gu c).S age)=(gu c).w*((gu c).S age-(gu c).S (age+1)):=ht
     grind
   ·obtain ⟨e,i1,i2,i3,i4⟩:=ih (by omega) (by omega)
    have hm:(bW c.1 c.2 age d).gT≠0:=by
     have:=(XX c.1 c.2 age d).2 (by omega)
     omega
    by_cases hb:(bW c.1 c.2 age d).bU<iC c.1 c.2 age d
    ·rw [if_pos (.inr hb)]
     refine ⟨age+(d+1),by omega,le_refl _,ht.symm,λk h1 h2=>?_⟩
     by_cases hk:k=age+(d+1)
     ·subst hk
      show _<=iC c.1 c.2 age d*_
      grind
     ·have q1:=i4 k h1 (by omega)
      have q2:=mul_nonneg (show 0<=iC c.1 c.2 age d-(bW c.1 c.2 age d).bU by grind) (mono k h1)
      show _<=iC c.1 c.2 age d*_
      grind
    ·rw [if_neg (by rintro (h | h);exact hm h;exact hb h)]
     refine ⟨e,i1,by omega,i3,λk h1 h2=>?_⟩
     by_cases hk:k=age+(d+1)
     ·subst hk
      have q2:=mul_nonneg (show 0<=(bW c.1 c.2 age d).bU-iC c.1 c.2 age d by grind) (mono (age+(d+1)) (by omega))
      show _<=(bW c.1 c.2 age d).bU*_
      grind
     ·exact i4 k h1 (by omega)
 obtain ⟨e,h1,h2,h3,h4⟩:=key (c.1.length-age) (by omega) (by omega)
 refine ⟨e,h1,?_,h3,λk h5 h6=>h4 k h5 ?_⟩
 ·show e<=c.1.length;omega
 ·have:k<=c.1.length:=h6
  omega
structure fT (cs:db) (ag:List Int):Prop where
 three:ag.length=3
 ok:BT cs ag
 rest:∀i,cs.length<=i->ag.getD i (-1)= -1
def dH (cs:db) (i:Nat):dP:=gu (cs.getD i ([],0))
def cn (cs:db) (ag:List Int):Rat:=kV (dH cs 0) (dH cs 1) (dH cs 2) (ag.getD 0 (-1)) (ag.getD 1 (-1)) (ag.getD 2 (-1))
def jL (cs:db) (ag:List Int):Nat->Rat
 | 0=>0
 | k+1=>if ag.getD k (-1)<0 then jL cs ag k else jL cs ag k+((cs.getD k ([],0)).2:Rat)
def nw (cs:db) (ag:List Int) (i:Nat):Rat:=(cs.getD i ([],0)).1.getD (ag.getD i (-1)).toNat 0 / cR ((cs.getD i ([],0)).1.drop (ag.getD i (-1)).toNat)
def jJ (cs:db) (V:List Int->Rat) (ag:List Int) (i:Nat):Rat:=
 if ag.getD i (-1)+1<(cs.getD i ([],0)).1.length then jL cs ag cs.length+nw cs ag i*V (ag.set i (-1))+(1-nw cs ag i)*V (ag.set i (ag.getD i (-1)+1))
 else jL cs ag cs.length+nw cs ag i*V (ag.set i (-1))
def fm (cs:db) (V:List Int->Rat) (may:List Int->Nat->Bool) (ag:List Int):Nat->Option Rat
 | 0=>none
 | k+1=>if ag.getD k (-1)<0∨may ag k=false then fm cs V may ag k else
   match fm cs V may ag k with
   | none=>some (jJ cs V ag k)
   | some b=>if jJ cs V ag k<b then some (jJ cs V ag k) else some b
theorem Fz {cs:db} (h:∀c∈cs,dM c.1 c.2=true) (i:Nat):(dH cs i).ok:=by
 unfold dH
 by_cases hi:i<cs.length
 ·rw [jO hi];exact aiX (h _ (getElem_mem hi))
 ·rw [getD_eq_getElem?_getD,getElem?_eq_none (by omega)];exact aCX
theorem fT.at {cs:db} {ag:List Int} (h:fT cs ag) (i:Nat):(dH cs i).at (ag.getD i (-1)):=by
 by_cases hi:i<cs.length
 ·have:=h.ok.lU i hi
  unfold dP.at dH gu
  rw [jO hi]
  exact this
 ·rw [h.rest i (by omega)]
  exact ⟨Int.le_refl _,by have:(0:Int)<=(dH cs i).n:=Int.natCast_nonneg _;omega⟩
theorem aKz {cs:db} {ag:List Int} (h:fT cs ag):jL cs ag cs.length=(dH cs 0).wt (ag.getD 0 (-1))+(dH cs 1).wt (ag.getD 1 (-1))+(dH cs 2).wt (ag.getD 2 (-1)):=by
 have gone:∀i,cs.length<=i->(dH cs i).wt (ag.getD i (-1))=0:=λi hi=>by rw [h.rest i hi];exact if_pos (by decide)
 have one:∀i,jL cs ag (i+1)=jL cs ag i+(dH cs i).wt (ag.getD i (-1)):=by
  intro i
  have e:(dH cs i).w=((cs.getD i ([],0)).2:Rat):=rfl
  simp only [jL,dP.wt,e]
  split
  ·rw [Rat.add_zero]
  ·rfl
 have z:jL cs ag 0=0:=rfl
 have ef:=h.ok.ef
 have q0:=one 0
 have q1:=one 1
 have q2:=one 2
 rw [z] at q0
 match hn:cs.length with
 | 0=>rw [z,gone 0 (by omega),gone 1 (by omega),gone 2 (by omega)];grind
 | 1=>rw [gone 1 (by omega),gone 2 (by omega)];grind
 | 2=>rw [gone 2 (by omega)];grind
 | 3=>grind
 | n+4=>omega
theorem Rw {cs:db} {ag:List Int} (h:fT cs ag) {i:Nat} (hi:i<cs.length) {a:Nat} (ea:ag.getD i (-1)=(a:Int)):nw cs ag i=(dH cs i).ch a/\a<(dH cs i).n:=by
 have hl:a<cs[i].1.length:=by have:=(h.ok.lU i hi).2;rw [ea] at this;omega
 have e:=MY (qs:=cs[i].1) hl
 refine ⟨?_,?_⟩
 ·unfold nw dP.ch dH gu
  rw [ea,toNat_natCast,jO hi]
  show cs[i].1.getD a 0 / cR (cs[i].1.drop a)=(cR (cs[i].1.drop a)-cR (cs[i].1.drop (a+1))) / cR (cs[i].1.drop a)
  congr 1
  rw [e];grind
 ·unfold dH gu
  rw [jO hi]
  exact hl
theorem Bs {ag:List Int} (h:ag.length=3):∃a b c,ag=[a,b,c]:=by
 match ag,h with
 | [a,b,c],_=>exact ⟨a,b,c,rfl⟩
theorem aqu {cs:db} {ag:List Int} (h:fT cs ag) {i:Nat} (hi:i<cs.length) {a:Nat} (ea:ag.getD i (-1)=(a:Int)):
  jJ cs (cn cs) ag i=(dH cs 0).wt (ag.getD 0 (-1))+(dH cs 1).wt (ag.getD 1 (-1))+(dH cs 2).wt (ag.getD 2 (-1))+(dH cs i).ch a*cn cs (ag.set i (-1))+(1-(dH cs i).ch a)*cn cs (ag.set i ((a+1:Nat):Int)):=by
 obtain ⟨e1,e2⟩:=Rw h hi ea
 have hn:((cs.getD i ([],0)).1.length:Int)=((dH cs i).n:Int):=rfl
 have eA:(a:Int)+1=((a+1:Nat):Int):=by omega
 unfold jJ
 rw [aKz h,e1,ea,hn,eA]
 by_cases hl:((a+1:Nat):Int)<((dH cs i).n:Int)
 ·rw [if_pos hl]
 ·rw [if_neg hl]
  have:1-(dH cs i).ch a=0:=by
   rw [UA (Fz h.ok.jI i) e2,(Fz h.ok.jI i).top (a+1) (by omega),div_def,zero_mul]
  rw [this,zero_mul,Rat.add_zero]
theorem Ds (j:dP) (a:Nat):j.wt (a:Int)=j.w:=if_neg (by omega)
theorem aJ2 {cs:db} {ag:List Int} (h:fT cs ag) {i:Nat} (hi:i<cs.length) (h0:0<=ag.getD i (-1)):cn cs ag<=jJ cs (cn cs) ag i:=by
 obtain ⟨a,ea⟩:∃a:Nat,ag.getD i (-1)=(a:Int):=⟨(ag.getD i (-1)).toNat,by omega⟩
 rw [aqu h hi ea]
 have ok:=Fz h.ok.jI
 have hn:=(Rw h hi ea).2
 have q0:=h.at 0
 have q1:=h.at 1
 have q2:=h.at 2
 have ef:=h.ok.ef
 obtain ⟨a0,a1,a2,rfl⟩:=Bs h.three
 unfold cn
 have hc:i=0∨i=1∨i=2:=by omega
 rcases hc with rfl | rfl | rfl
 ·simp only [getD_cons_zero,getD_cons_succ,set_cons_zero] at*
  subst ea
  have:=Yg (ok 0) (ok 1) (ok 2) hn q1 q2
  rw [Ds]
  exact this
 ·simp only [getD_cons_zero,getD_cons_succ,set_cons_zero,List.set_cons_succ] at*
  subst ea
  have:=Yg (ok 1) (ok 0) (ok 2) hn q0 q2
  rw [Ds,Dk (dH cs 0),Dk (dH cs 0) (dH cs 1) (dH cs 2) a0 (-1),Dk (dH cs 0) (dH cs 1) (dH cs 2) a0 ((a+1:Nat):Int)]
  grind
 ·simp only [getD_cons_zero,getD_cons_succ,set_cons_zero,List.set_cons_succ] at*
  subst ea
  have:=Yg (ok 2) (ok 0) (ok 1) hn q0 q1
  rw [Ds,Dl (dH cs 0),Dl (dH cs 0) (dH cs 1) (dH cs 2) a0 a1 (-1),Dl (dH cs 0) (dH cs 1) (dH cs 2) a0 a1 ((a+1:Nat):Int)]
  grind
theorem aiE {cs:db} {ag:List Int} (h:fT cs ag) {i:Nat} (hi:i<cs.length) (h0:0<=ag.getD i (-1)):∃e,sM (dH cs i).S (dH cs i).w (dH cs i).n (ag.getD i (-1)).toNat e (fL cs ag i):=by
 have hl:=(h.ok.lU i hi).2
 have hc:=h.ok.jI _ (getElem_mem hi)
 obtain ⟨e,he⟩:=aCF hc (age:=(ag.getD i (-1)).toNat) (by omega)
 refine ⟨e,?_⟩
 unfold dH fL
 rw [jO hi]
 exact he
theorem aJ1 {cs:db} {ag:List Int} (h:fT cs ag) {i:Nat} (hi:i<cs.length) (h0:0<=ag.getD i (-1)) (hb:∀j,j<cs.length->0<=ag.getD j (-1)->fL cs ag j<=fL cs ag i):cn cs ag=jJ cs (cn cs) ag i:=by
 obtain ⟨a,ea⟩:∃a:Nat,ag.getD i (-1)=(a:Int):=⟨(ag.getD i (-1)).toNat,by omega⟩
 rw [aqu h hi ea]
 have ok:=Fz h.ok.jI
 have hn:=(Rw h hi ea).2
 obtain ⟨e,I⟩:=aiE h hi h0
 rw [ea,toNat_natCast] at I
 have J:∀j,0<=ag.getD j (-1)->∃e' mu,sM (dH cs j).S (dH cs j).w (dH cs j).n (ag.getD j (-1)).toNat e' mu/\mu<=fL cs ag i:=by
  intro j hj
  have pB:j<cs.length:=by
   apply byContradiction
   intro hc
   rw [h.rest j (by omega)] at hj
   exact absurd hj (by decide)
  obtain ⟨e',gn⟩:=aiE h pB hj
  exact ⟨e',_,gn,hb j pB hj⟩
 have q0:=h.at 0
 have q1:=h.at 1
 have q2:=h.at 2
 have J0:=J 0
 have J1:=J 1
 have J2:=J 2
 have ef:=h.ok.ef
 generalize fL cs ag i=nu at*
 obtain ⟨a0,a1,a2,rfl⟩:=Bs h.three
 unfold cn
 have hc:i=0∨i=1∨i=2:=by omega
 rcases hc with rfl | rfl | rfl
 ·simp only [getD_cons_zero,getD_cons_succ,set_cons_zero] at*
  subst ea
  have:=Yf (ok 0) (ok 1) (ok 2) hn q1 q2 I J1 J2
  rw [Ds]
  exact this
 ·simp only [getD_cons_zero,getD_cons_succ,set_cons_zero,List.set_cons_succ] at*
  subst ea
  have:=Yf (ok 1) (ok 0) (ok 2) hn q0 q2 I J0 J2
  rw [Ds,Dk (dH cs 0),Dk (dH cs 0) (dH cs 1) (dH cs 2) a0 (-1),Dk (dH cs 0) (dH cs 1) (dH cs 2) a0 ((a+1:Nat):Int)]
  grind
 ·simp only [getD_cons_zero,getD_cons_succ,set_cons_zero,List.set_cons_succ] at*
  subst ea
  have:=Yf (ok 2) (ok 0) (ok 1) hn q0 q1 I J0 J1
  rw [Ds,Dl (dH cs 0),Dl (dH cs 0) (dH cs 1) (dH cs 2) a0 a1 (-1),Dl (dH cs 0) (dH cs 1) (dH cs 2) a0 a1 ((a+1:Nat):Int)]
  grind
theorem JV (cs:db) (V:List Int->Rat) (may:List Int->Nat->Bool) (ag:List Int):∀k,
  (fm cs V may ag k=none->∀i,i<k->ag.getD i (-1)<0∨may ag i=false)/\
  ∀b,fm cs V may ag k=some b->(∃i,i<k/\0<=ag.getD i (-1)/\may ag i=true/\b=jJ cs V ag i)/\∀i,i<k->0<=ag.getD i (-1)->may ag i=true->b<=jJ cs V ag i
 | 0=>⟨λ_ i hi=>by omega,λb hb=>by cases hb⟩
 | k+1=>by
  obtain ⟨i1,i2⟩:=JV cs V may ag k
  simp only [fm]
  by_cases hs:ag.getD k (-1)<0∨may ag k=false
  ·rw [if_pos hs]
   refine ⟨λh i hi=>?_,λb hb=>?_⟩
   ·by_cases p6:i=k
    ·rw [p6];exact hs
    ·exact i1 h i (by omega)
   ·obtain ⟨⟨i,a1,a2,a3,a4⟩,a5⟩:=i2 b hb
    refine ⟨⟨i,by omega,a2,a3,a4⟩,λj hj h0 hm=>?_⟩
    by_cases Av:j=k
    ·subst Av
     rcases hs with hs | hs
     ·omega
     ·rw [hm] at hs;cases hs
    ·exact a5 j (by omega) h0 hm
  ·rw [if_neg hs]
   have h0:0<=ag.getD k (-1):=by
    apply byContradiction
    intro hc
    exact hs (.inl (by omega))
   have hm:may ag k=true:=by
    cases hx:may ag k with
    | true=>rfl
    | false=>exact absurd (.inr hx) hs
   cases hf:fm cs V may ag k with
   | none=>
    simp only
    refine ⟨λh=>(by cases h),λb hb=>?_⟩
    injection hb with hb
    subst hb
    refine ⟨⟨k,by omega,h0,hm,rfl⟩,λj hj nS EY=>?_⟩
    by_cases Av:j=k
    ·subst Av;exact Rat.le_refl
    ·rcases i1 hf j (by omega) with hx | hx
     ·omega
     ·rw [EY] at hx;cases hx
   | some c=>
    simp only
    obtain ⟨⟨i,a1,a2,a3,a4⟩,a5⟩:=i2 c hf
    by_cases aF:jJ cs V ag k<c
    ·rw [if_pos aF]
     refine ⟨λh=>(by cases h),λb hb=>?_⟩
     injection hb with hb
     subst hb
     refine ⟨⟨k,by omega,h0,hm,rfl⟩,λj hj nS EY=>?_⟩
     by_cases Av:j=k
     ·subst Av;exact Rat.le_refl
     ·have:=a5 j (by omega) nS EY
      grind
    ·rw [if_neg aF]
     refine ⟨λh=>(by cases h),λb hb=>?_⟩
     injection hb with hb
     subst hb
     refine ⟨⟨i,by omega,a2,a3,a4⟩,λj hj nS EY=>?_⟩
     by_cases Av:j=k
     ·subst Av;grind
     ·exact a5 j (by omega) nS EY
theorem Jw (cs:db) (ag:List Int):∀k,(cY cs ag k<0->∀i,i<k->ag.getD i (-1)<0)/\
  (0<=cY cs ag k->∀i,i<k->0<=ag.getD i (-1)->fL cs ag i<=fL cs ag (cY cs ag k).toNat)
 | 0=>⟨λ_ i hi=>by omega,λ_ i hi=>by omega⟩
 | k+1=>by
  obtain ⟨i1,i2⟩:=Jw cs ag k
  simp only [cY]
  by_cases hs:ag.getD k (-1)<0
  ·rw [if_pos hs]
   refine ⟨λh i hi=>?_,λh i hi h0=>?_⟩
   ·by_cases p6:i=k
    ·rw [p6];exact hs
    ·exact i1 h i (by omega)
   ·by_cases p6:i=k
    ·rw [p6] at h0;omega
    ·exact i2 h i (by omega) h0
  ·rw [if_neg hs]
   by_cases hc:cY cs ag k<0∨fL cs ag (cY cs ag k).toNat<fL cs ag k
   ·rw [if_pos hc]
    refine ⟨λh=>by omega,λ_ i hi h0=>?_⟩
    rw [toNat_natCast]
    by_cases p6:i=k
    ·rw [p6];exact Rat.le_refl
    ·by_cases ji:cY cs ag k<0
     ·have:=i1 ji i (by omega);omega
     ·have q1:=i2 (by omega) i (by omega) h0
      have q2:=hc.resolve_left ji
      grind
   ·rw [if_neg hc]
    refine ⟨λh=>absurd (.inl h) hc,λh i hi h0=>?_⟩
    by_cases p6:i=k
    ·rw [p6]
     have:¬fL cs ag (cY cs ag k).toNat<fL cs ag k:=λh=>hc (.inr h)
     grind
    ·exact i2 h i (by omega) h0
theorem aqG {cs:db} {ag:List Int} (h:fT cs ag) (hg:∀i,i<cs.length->ag.getD i (-1)<0):cn cs ag=0:=by
 have all:∀i,ag.getD i (-1)= -1:=by
  intro i
  by_cases hi:i<cs.length
  ·have:=hg i hi
   have:=(h.ok.lU i hi).1
   omega
  ·exact h.rest i (by omega)
 unfold cn kV
 rw [all 0,all 1,all 2,FZ,FZ,FZ,Bh,Bh,Bh]
 grind
theorem afO {cs:db} {ag:List Int} (h:fT cs ag) (h0:0<=cY cs ag cs.length):cn cs ag=jJ cs (cn cs) ag (cY cs ag cs.length).toNat:=by
 have hl:=zQ cs ag cs.length
 exact aJ1 h (by omega) (Jx cs ag _ h0) λj hj nS=>(Jw cs ag cs.length).2 h0 j hj nS
theorem ajB {cs:db} {ag:List Int} (h:fT cs ag):cn cs ag=(fm cs (cn cs) (λ_ _=>true) ag cs.length).getD 0:=by
 obtain ⟨f1,f2⟩:=JV cs (cn cs) (λ_ _=>true) ag cs.length
 cases hf:fm cs (cn cs) (λ_ _=>true) ag cs.length with
 | none=>
  refine aqG h λi hi=>?_
  rcases f1 hf i hi with hx | hx
  ·exact hx
  ·cases hx
 | some b=>
  obtain ⟨⟨i,a1,a2,_,a4⟩,a5⟩:=f2 b hf
  show cn cs ag=b
  have h0:0<=cY cs ag cs.length:=by
   apply byContradiction
   intro hc
   have:=(Jw cs ag cs.length).1 (by omega) i a1
   omega
  have hl:=zQ cs ag cs.length
  have q1:=afO h h0
  have q2:=a5 (cY cs ag cs.length).toNat (by omega) (Jx cs ag _ h0) rfl
  have q3:=aJ2 h a1 a2
  rw [<-a4] at q3
  rw [<-q1] at q2
  exact Rat.le_antisymm q3 q2
def xQ (cs:db) (ag:List Int) (i:Nat):Bool:=decide (cY cs ag cs.length=i)
theorem ajC {cs:db} {ag:List Int} (h:fT cs ag):cn cs ag=(fm cs (cn cs) (xQ cs) ag cs.length).getD 0:=by
 obtain ⟨f1,f2⟩:=JV cs (cn cs) (xQ cs) ag cs.length
 have hl:=zQ cs ag cs.length
 cases hf:fm cs (cn cs) (xQ cs) ag cs.length with
 | none=>
  refine aqG h λi hi=>?_
  by_cases ji:cY cs ag cs.length<0
  ·exact (Jw cs ag cs.length).1 ji i hi
  ·rcases f1 hf (cY cs ag cs.length).toNat (by omega) with hx | hx
   ·have:=Jx cs ag cs.length (by omega);omega
   ·unfold xQ at hx
    rw [decide_eq_false_iff_not] at hx
    exact absurd (by omega) hx
 | some b=>
  obtain ⟨⟨i,a1,a2,a3,a4⟩,_⟩:=f2 b hf
  show cn cs ag=b
  unfold xQ at a3
  have a3:=of_decide_eq_true a3
  rw [a4,afO h (by omega),a3,toNat_natCast]
end
section
def ik (x:Rat):Prop:=∃z:Int,x=(z:Rat)
theorem ik.add {x y:Rat} (h:ik x) (k:ik y):ik (x+y):=by
 obtain ⟨a,rfl⟩:=h;obtain ⟨b,rfl⟩:=k
 exact ⟨a+b,by rw [Rat.intCast_add]⟩
theorem ik.mul {x y:Rat} (h:ik x) (k:ik y):ik (x*y):=by
 obtain ⟨a,rfl⟩:=h;obtain ⟨b,rfl⟩:=k
 exact ⟨a*b,by rw [intCast_mul]⟩
theorem ik.int (z:Int):ik (z:Rat):=⟨z,rfl⟩
theorem ik.nat (n:Nat):ik (n:Rat):=⟨n,rfl⟩
theorem ik.zero:ik 0:=⟨0,rfl⟩
def rl:Nat:=10^32
structure _root_.Go.Sim.dP.dn (j:dP) (D:Nat):Prop where
 w:∃z:Int,j.w=(z:Rat)/\0<=z/\z<=50
 n:j.n<=8
 z:∀k,fB D (j.S k)
 pos:0<D
 small:D<=rl
 one:∀k,j.S k<=1
 HX:∀k,j.S (k+1)<=j.S k
theorem _root_.Go.Sim.dP.dn.down {j:dP} {D:Nat} (d:j.dn D) (a:Nat):∀b,a<=b->j.S b<=j.S a
 | 0,h=>by
  have:a=0:=by omega
  subst this;exact Rat.le_refl
 | b+1,h=>by
  by_cases e:a=b+1
  ·subst e;exact Rat.le_refl
  ·have:=d.down a b (by omega)
   have:=d.HX b
   grind
theorem afT {j:dP} {D:Nat} (d:j.dn D) (a:Nat):∀k,cH j.S (a+k)-cH j.S a<=(k:Rat)*j.S a
 | 0=>by
  have z:((0:Nat):Rat)=0:=rfl
  rw [add_zero,z];grind
 | k+1=>by
  have ih:=afT d a k
  have:=d.down a (a+k) (by omega)
  have c:((k+1:Nat):Rat)=(k:Rat)+1:=by push_cast;rfl
  rw [<-Nat.add_assoc,c]
  simp only [cH]
  grind
theorem ay9 {j:dP} (h:j.ok) {a b:Nat} (iL:a<=b):0<=cH j.S b-cH j.S a:=by
 have:=El h.nn iL
 grind
theorem Qz {j k:dP} (h:j.ok) (hk:k.ok) {w v:Rat} (hw:0<=w) (hv:0<=v):∀(f a b:Nat),0<=tN j.S k.S w v j.n k.n f a b
 | 0,_,_=>Rat.le_refl
 | f+1,a,b=>by
  simp only [tN]
  have i1:=Qz h hk hw hv f (a+1) b
  have i2:=Qz h hk hw hv f a (b+1)
  have p:=mul_nonneg (h.nn a) (hk.nn b)
  have p1:=mul_nonneg hw p
  have p2:=mul_nonneg hv p
  split
  ·exact Rat.le_refl
  ·split <;> grind
theorem n8 {n a:Nat} (hn:n<=8):((n-a:Nat):Rat)<=8:=by
 have:((n-a:Nat):Rat)<=((8:Nat):Rat):=by
  have:n-a<=8:=by omega
  exact_mod_cast this
 exact this
theorem aqo {j:dP} {D:Nat} (h:j.ok) (d:j.dn D) {v:Rat} (h0:0<=v) (h50:v<=50) {a:Nat} (ha:a<j.n):0<=v*(cH j.S j.n-cH j.S a) / j.S a/\v*(cH j.S j.n-cH j.S a) / j.S a<=400:=by
 have sp:=h.pos a ha
 have c0:=ay9 h (show a<=j.n by omega)
 have c1:=afT d a (j.n-a)
 rw [show a+(j.n-a)=j.n by omega] at c1
 refine ⟨RJ (mul_nonneg h0 c0) sp,?_⟩
 have m1:=n8 (a:=a) d.n
 generalize cH j.S j.n-cH j.S a=c at*
 generalize ((j.n-a:Nat):Rat)=m at*
 have e1:c<=8*j.S a:=by
  have:=mul_nonneg (show 0<=8-m by grind) (le_of_lt sp)
  grind
 have e2:v*c<=400*j.S a:=by
  have t1:=mul_nonneg h0 (show 0<=8*j.S a-c by grind)
  have t2:=mul_nonneg (show 0<=50-v by grind) (le_of_lt sp)
  grind
 have q:=RH sp e2
 have:=oT sp
 have e3:400*j.S a / j.S a=400:=by grind
 rw [e3] at q
 exact q
theorem Yp {j:dP} {D:Nat} (d:j.dn D):0<=j.w/\j.w<=50:=by
 obtain ⟨z,e,h0,h1⟩:=d.w
 rw [e]
 refine ⟨by exact_mod_cast h0,?_⟩
 have:((z:Int):Rat)<=((50:Int):Rat):=by exact_mod_cast h1
 exact this
theorem Vq {j:dP} {D:Nat} (h:j.ok) (d:j.dn D) {a:Int} (ha:j.at a):0<=j.own a/\j.own a<=400:=by
 unfold dP.own
 split
 ·decide
 ·obtain ⟨w0,nc⟩:=Yp d
  exact aqo h d w0 nc (by have:=ha.2;omega)
theorem WW {j k:dP} {D E:Nat} (h:j.ok) (hk:k.ok) (d:j.dn D) (e:k.dn E) {a b:Int} (ha:j.at a) (hb:k.at b):0<=jt j k a b/\jt j k a b<=400:=by
 by_cases hg:a<0∨b<0
 ·unfold jt;rw [if_pos hg];decide
 ·obtain ⟨a',rfl⟩:∃n:Nat,a=(n:Int):=⟨a.toNat,by omega⟩
  obtain ⟨b',rfl⟩:∃n:Nat,b=(n:Int):=⟨b.toNat,by omega⟩
  have kO:a'<j.n:=by have:=ha.2;omega
  have jZ:b'<k.n:=by have:=hb.2;omega
  obtain ⟨w0,nc⟩:=Yp e
  refine ⟨?_,?_⟩
  ·unfold jt
   rw [if_neg hg,toNat_natCast,toNat_natCast]
   exact RJ (Qz h hk (Yp d).1 w0 _ _ _) (mul_pos (h.pos _ kO) (hk.pos _ jZ))
  ·have q1:=aEH h hk kO jZ
   have q2:=(aqo h d w0 nc kO).2
   exact Rat.le_trans q1 q2
def _root_.Go.Sim.dP.s (j:dP) (a:Int):Rat:=if a<0 then 1 else j.S a.toNat
theorem XJ {j:dP} {D:Nat} (d:j.dn D) (a:Int):ik (j.s a*(D:Rat)):=by
 unfold dP.s
 split
 ·rw [Rat.one_mul];exact ik.nat D
 ·exact d.z _
theorem XL {j:dP} (h:j.ok) {a:Int} (ha:j.at a):0<j.s a:=by
 unfold dP.s
 split
 ·decide
 ·exact h.pos _ (by have:=ha.2;omega)
theorem XK {j:dP} {D:Nat} (d:j.dn D) (a:Int):j.s a<=1:=by
 unfold dP.s
 split
 ·exact Rat.le_refl
 ·exact d.one _
theorem Vr {j:dP} {D:Nat} (h:j.ok) (d:j.dn D) {a:Int} (ha:j.at a):ik (j.own a*(j.s a*(D:Rat))):=by
 unfold dP.own dP.s
 by_cases h0:a<0
 ·rw [if_pos h0,zero_mul];exact ik.zero
 ·rw [if_neg h0,if_neg h0]
  have sp:=oT (h.pos a.toNat (by have:=ha.2;omega))
  obtain ⟨z,e,_,_⟩:=d.w
  have c1:ik ((cH j.S j.n-cH j.S a.toNat)*(D:Rat)):=(Us d.z _).sub (Us d.z _)
  have:j.w*(cH j.S j.n-cH j.S a.toNat) / j.S a.toNat*(j.S a.toNat*(D:Rat))=(z:Rat)*((cH j.S j.n-cH j.S a.toNat)*(D:Rat)):=by
   rw [e];grind
  rw [this]
  exact (ik.int z).mul c1
theorem WY {j k:dP} {D E:Nat} (h:j.ok) (hk:k.ok) (d:j.dn D) (e:k.dn E) {a b:Int} (ha:j.at a) (hb:k.at b):ik (jt j k a b*((j.s a*(D:Rat))*(k.s b*(E:Rat)))):=by
 unfold jt dP.s
 by_cases hg:a<0∨b<0
 ·rw [if_pos hg,zero_mul];exact ik.zero
 ·rw [if_neg hg,if_neg (λx=>hg (.inl x)),if_neg (λx=>hg (.inr x))]
  have sp:=oT (h.pos a.toNat (by have:=ha.2;omega))
  have tp:=oT (hk.pos b.toNat (by have:=hb.2;omega))
  obtain ⟨z,ez,_,_⟩:=d.w
  obtain ⟨y,ey,_,_⟩:=e.w
  have q:fB (D*E) (gU j.S k.S j.w k.w j.n k.n a.toNat b.toNat):=by rw [ez,ey];exact Ur d.z e.z _ _ _
  obtain ⟨t,ht⟩:=q
  rw [Rat.natCast_mul] at ht
  refine ⟨t,?_⟩
  rw [<-ht]
  grind
def CM:Nat:=101
theorem aES:2400*(rl*(rl*rl))<10^CM/\rl*(rl*rl)<10^CM:=by
 constructor <;> decide+kernel
theorem aKk {j0 j1 j2:dP} {D0 D1 D2:Nat} (h0:j0.ok) (h1:j1.ok) (h2:j2.ok) (d0:j0.dn D0) (d1:j1.dn D1) (d2:j2.dn D2) {a0 a1 a2:Int} (q0:j0.at a0) (q1:j1.at a1) (q2:j2.at a2):cd CM (kV j0 j1 j2 a0 a1 a2):=by
 have s0:=XL h0 q0
 have s1:=XL h1 q1
 have s2:=XL h2 q2
 have t0:=XK d0 a0
 have t1:=XK d1 a1
 have t2:=XK d2 a2
 have i0:=XJ d0 a0
 have i1:=XJ d1 a1
 have i2:=XJ d2 a2
 have o0:=Vr h0 d0 q0
 have o1:=Vr h1 d1 q1
 have o2:=Vr h2 d2 q2
 have Lw:=WY h0 h1 d0 d1 q0 q1
 have Lx:=WY h0 h2 d0 d2 q0 q2
 have LF:=WY h1 h2 d1 d2 q1 q2
 have b0:=Vq h0 d0 q0
 have b1:=Vq h1 d1 q1
 have b2:=Vq h2 d2 q2
 have c01:=WW h0 h1 d0 d1 q0 q1
 have c02:=WW h0 h2 d0 d2 q0 q2
 have Iu:=WW h1 h2 d1 d2 q1 q2
 -- gB aK1
 have dp:∀{D:Nat},0<D->(0:Rat)<(D:Rat):=λh=>by exact_mod_cast h
 have e0:=mul_pos s0 (dp d0.pos)
 have e1:=mul_pos s1 (dp d1.pos)
 have e2:=mul_pos s2 (dp d2.pos)
 have le:∀{j:dP} {D:Nat} {a:Int},j.s a<=1->0<D->j.s a*(D:Rat)<=(D:Rat):=λ{j D a} h hD=>by
  have:=mul_nonneg (show 0<=1-j.s a by grind) (le_of_lt (dp hD))
  grind
 have l0:=le t0 d0.pos
 have l1:=le t1 d1.pos
 have l2:=le t2 d2.pos
 have nI:∀{x:Rat} {D:Nat},ik x->0<x->x<=(D:Rat)->∃n:Nat,x=(n:Rat)/\0<n/\n<=D:=by
  rintro x D ⟨z,rfl⟩ hx hD
  have hz:0<z:=by exact_mod_cast hx
  obtain ⟨n,rfl⟩:∃n:Nat,z=(n:Int):=⟨z.toNat,by omega⟩
  refine ⟨n,rfl,by omega,?_⟩
  have:((n:Int):Rat)=(n:Rat):=rfl
  rw [this] at hD
  exact_mod_cast hD
 obtain ⟨m0,f0,g0,k0⟩:=nI i0 e0 l0
 obtain ⟨m1,f1,g1,k1⟩:=nI i1 e1 l1
 obtain ⟨m2,f2,g2,k2⟩:=nI i2 e2 l2
 rw [f0] at o0 Lw Lx
 rw [f1] at o1 Lw LF
 rw [f2] at o2 Lx LF
 have hM:ik (kV j0 j1 j2 a0 a1 a2*((m0:Rat)*((m1:Rat)*(m2:Rat)))):=by
  have x1:=o0.mul ((ik.nat m1).mul (ik.nat m2))
  have x2:=o1.mul ((ik.nat m0).mul (ik.nat m2))
  have x3:=o2.mul ((ik.nat m0).mul (ik.nat m1))
  have x4:=Lw.mul (ik.nat m2)
  have x5:=Lx.mul (ik.nat m1)
  have x6:=LF.mul (ik.nat m0)
  have:=((((x1.add x2).add x3).add x4).add x5).add x6
  unfold kV
  have e:∀A B C P Q R u v w:Rat,(A+B+C+P+Q+R)*(u*(v*w))=A*u*(v*w)+B*v*(u*w)+C*w*(u*v)+P*(u*v)*w+Q*(u*w)*v+R*(v*w)*u:=by
   intros;grind
  rw [e]
  exact this
 have tb:0<=kV j0 j1 j2 a0 a1 a2/\kV j0 j1 j2 a0 a1 a2<=2400:=by
  unfold kV
  constructor <;> grind
 generalize kV j0 j1 j2 a0 a1 a2=T at*
 obtain ⟨N,hN⟩:=hM
 have hm:(m0:Rat)*((m1:Rat)*(m2:Rat))=((m0*(m1*m2):Nat):Rat):=by rw [Rat.natCast_mul,Rat.natCast_mul]
 rw [hm] at hN
 have kM:m0*(m1*m2)<=rl*(rl*rl):=Nat.mul_le_mul (le_trans k0 d0.small) (Nat.mul_le_mul (le_trans k1 d1.small) (le_trans k2 d2.small))
 have gM:0<m0*(m1*m2):=Nat.mul_pos g0 (Nat.mul_pos g1 g2)
 generalize m0*(m1*m2)=M at*
 have Mp:(0:Rat)<(M:Rat):=by exact_mod_cast gM
 have n0:0<=N:=by
  have:(0:Rat)<=(N:Rat):=by rw [<-hN];exact mul_nonneg tb.1 (le_of_lt Mp)
  exact_mod_cast this
 have n1:N<=2400*(M:Int):=by
  have:(N:Rat)<=((2400*(M:Int):Int):Rat):=by
   rw [<-hN,intCast_mul]
   have:((M:Int):Rat)=(M:Rat):=rfl
   rw [this]
   have:=mul_nonneg (show 0<=2400-T by grind) (le_of_lt Mp)
   have e:((2400:Int):Rat)=2400:=rfl
   rw [e]
   grind
  exact Rat.intCast_le_intCast.1 this
 have eT:mkRat N M=T:=by
  rw [Rat.mkRat_eq_div,<-hN]
  have:=oT Mp
  grind
 obtain ⟨w1,w2⟩:=aES
 generalize rl*(rl*rl)=Bd at*
 rw [<-eT]
 refine Li gM ?_ ?_
 ·clear hN eT tb o0 o1 o2 Lw Lx LF
  revert w1
  generalize 10^CM=X
  intro w1
  omega
 ·exact Nat.lt_of_le_of_lt kM w2
def Gq:List Rat->Nat
 | []=>1
 | q::l=>q.den*Gq l
theorem ao0:∀l,0<Gq l
 | []=>by decide
 | q::l=>Nat.mul_pos q.den_pos (ao0 l)
theorem aoZ:∀{l:List Rat},(∀q∈l,cd 4 q)->Gq l<=10^(4*l.length)
 | [],_=>le_refl _
 | q::l,h=>by
  have ih:=aoZ (l:=l) λx hx=>h x (by simp [hx])
  have hq:=(h q (by simp)).2
  have e:4*(q::l).length=4+4*l.length:=by simp [length_cons];omega
  rw [e,Nat.pow_add]
  exact Nat.mul_le_mul (Nat.le_of_lt hq) ih
theorem ao1:∀{l:List Rat} {q:Rat},q∈l->fB (Gq l) q
 | x::l,q,h=>by
  rcases List.mem_cons.1 h with rfl | h
  ·exact (fB.den q).more _
  ·exact ((ao1 h).more x.den).comm
theorem aqB {D:Nat}:∀{l:List Rat},(∀q∈l,fB D q)->fB D (cR l)
 | [],_=>fB.zero D
 | q::l,h=>by
  rw [aqA]
  exact (h q (by simp)).add (aqB λx hx=>h x (by simp [hx]))
theorem azj:(gu ([],0)).dn 1:=by
 have e:∀k,(gu ([],0)).S k=0:=λk=>by
  show cR (([]:List Rat).drop k)=0
  rw [List.drop_nil];rfl
 refine ⟨⟨0,rfl,by decide,by decide⟩,zero_le _,λk=>by rw [e];exact fB.zero 1,by decide,by decide+kernel,λk=>by rw [e];decide,λk=>by rw [e,e];exact Rat.le_refl⟩
theorem azi {c:List Rat×Int} (h:dM c.1 c.2=true):(gu c).dn (Gq c.1):=by
 obtain ⟨⟨l1,l8⟩,⟨w0,nc⟩,hb,hs,nn,_⟩:=oB h
 have s4:=vV hb
 have HX:∀k,cR (c.1.drop (k+1))<=cR (c.1.drop k):=by
  intro k
  by_cases hk:k<c.1.length
  ·rw [MY hk]
   have:=agL nn k
   grind
  ·rw [List.drop_eq_nil_of_le (by omega),List.drop_eq_nil_of_le (by omega)]
   exact Rat.le_refl
 have one:∀k,cR (c.1.drop k)<=1:=by
  intro k
  induction k with
  | zero=>rw [List.drop_zero,hs];exact Rat.le_refl
  | succ k ih=>exact Rat.le_trans (HX k) ih
 refine ⟨⟨c.2,rfl,w0,nc⟩,l8,λk=>aqB λq hq=>ao1 (List.mem_of_mem_drop hq),ao0 _,?_,one,HX⟩
 exact le_trans (aoZ s4) (Nat.pow_le_pow_right (by decide) (show 4*c.1.length<=32 by omega))
theorem Uv {cs:db} (h:∀c∈cs,dM c.1 c.2=true) (i:Nat):∃D,(dH cs i).dn D:=by
 unfold dH
 by_cases hi:i<cs.length
 ·rw [jO hi];exact ⟨_,azi (h _ (getElem_mem hi))⟩
 ·rw [getD_eq_getElem?_getD,getElem?_eq_none (by omega)];exact ⟨_,azj⟩
theorem Bt {cs:db} {ag:List Int} (h:fT cs ag):cd CM (cn cs ag):=by
 have ok:=Fz h.ok.jI
 obtain ⟨D0,d0⟩:=Uv h.ok.jI 0
 obtain ⟨D1,d1⟩:=Uv h.ok.jI 1
 obtain ⟨D2,d2⟩:=Uv h.ok.jI 2
 exact aKk (ok 0) (ok 1) (ok 2) d0 d1 d2 (h.at 0) (h.at 1) (h.at 2)
theorem Yt {cs:db} (h:∀c∈cs,dM c.1 c.2=true) (ef:cs.length<=3) (ag:List Int):∀k,k<=cs.length->∃z:Int,jL cs ag k=(z:Rat)/\0<=z/\z<=50*k
 | 0,_=>⟨0,rfl,by decide,by decide⟩
 | k+1,hk=>by
  obtain ⟨z,e,z0,z1⟩:=Yt h ef ag k (by omega)
  simp only [jL]
  split
  ·exact ⟨z,e,z0,by omega⟩
  ·obtain ⟨_,⟨w0,nc⟩,_⟩:=oB (h _ (getElem_mem (show k<cs.length by omega)))
   rw [jO (show k<cs.length by omega),e,<-Rat.intCast_add]
   exact ⟨_,rfl,by omega,by omega⟩
theorem Nd {cs:db} (h:∀c∈cs,dM c.1 c.2=true) (ef:cs.length<=3) (ag:List Int) {k:Nat} (hk:k<=cs.length):cd 3 (jL cs ag k):=by
 obtain ⟨z,e,z0,z1⟩:=Yt h ef ag k hk
 rw [e]
 refine ⟨?_,by show (1:Nat)<10^3;decide⟩
 show z.natAbs<10^3
 omega
theorem afM {cs:db} {ag:List Int} (h:fT cs ag) {i:Nat} (hi:i<cs.length) (_:0<=ag.getD i (-1)):cd 45 (nw cs ag i)/\cd 47 (1-nw cs ag i):=by
 have hc:=h.ok.jI _ (getElem_mem hi)
 have hl:=(h.ok.lU i hi).2
 obtain ⟨_,_,hb,_⟩:=oB hc
 have s4:=vV hb
 have hp:=xW hc (k:=(ag.getD i (-1)).toNat) (by omega)
 rw [CU] at hp
 have hg:cd 4 (cs[i].1.getD (ag.getD i (-1)).toNat 0):=by
  rw [jO (by omega)]
  exact s4 _ (getElem_mem _)
 have q:=hg.div (uA hc (ag.getD i (-1)).toNat) hp
 have e:nw cs ag i=cs[i].1.getD (ag.getD i (-1)).toNat 0 / cR (cs[i].1.drop (ag.getD i (-1)).toNat):=by unfold nw;rw [jO hi]
 rw [<-e] at q
 refine ⟨q,?_⟩
 have o1:cd 1 (1:Rat):=by constructor <;> decide
 have nq:cd 45 (-nw cs ag i):=⟨by show (-(nw cs ag i).num).natAbs<_;rw [Int.natAbs_neg];exact q.1,q.2⟩
 have:=o1.add nq
 rw [Rat.sub_eq_add_neg]
 exact this
end
section
variable (P : Program) (K : VK)
noncomputable section
variable (x0 l3 i4 n5 e7 w8 f9 ay au cG dm bV dw cX ee eP fI hO jd fw fU gG fc eB lR mO rC qB oh : Value) (L1 : LQ) (xs : List Value) (h : ae)
def oc5:=bE prog 5 [[],[],[],[3],[4],[],[],[],[3,4,5,28],[3,4,28,30],[3,4,32],[3,4,32,35],[],[],[],[3],[],[],[],[],[7,8,9,10,54],[8,9,10,54,57],[8,9,10,59],[9,10,59,61],[9,10,63],[63,66],[68],[68,69],[],[],[],[3,7,8,9,11,80],[3,8,9,11,80,82],[3,8,9,11,84],[9,84,90],[9,92],[92,94],[96],[96,97],[]]
@[irreducible] def c5:=bM oc5
@[irreducible] def I1:=c5.r.r.l.r.l.l
@[irreducible] def ael:=c5.r.r.r
@[irreducible] def aei:=I1.r.l.l.r.l.r.l
@[irreducible] def axx:=I1.r.l.l.r.r
@[irreducible] def axD:=I1.r.r
@[irreducible] def I0:=ael.l
@[irreducible] def aej:=aei.r.l
@[irreducible] def aem:=I0.r.r.l.r.r.l.l.r.l
@[irreducible] def axz:=I0.r.r.l.r.r.l.r
@[irreducible] def Rb:=I0.r.r.r
@[irreducible] def aek:=aej.r.l
@[irreducible] def aen:=aem.r.l
@[irreducible] def aet:=Rb.r.l.r.l
@[irreducible] def axB:=Rb.r.r
@[irreducible] def axy:=aek.r.l
@[irreducible] def aeo:=aen.r.l
@[irreducible] def aeu:=aet.r.l
@[irreducible] def aep:=aeo.r.l
@[irreducible] def aev:=aeu.r.l
@[irreducible] def aeq:=aep.r.l
@[irreducible] def aew:=aev.r.l
@[irreducible] def aer:=aeq.r.l
@[irreducible] def aex:=aew.r.l
@[irreducible] def aes:=aer.r.l
@[irreducible] def aey:=aex.r.l
@[irreducible] def axA:=aes.r.l
@[irreducible] def aez:=aey.r.l
@[irreducible] def axC:=aez.r.l
theorem k5:oc5=some (99,c5,[.tmp 2]):=by kernel_rfl
def zp (_P:Program) (K:VK):ar:=aT [.tmp 2] K
def atQ:ar:=aH (aj P ael (zp P K)) (zp P K)
def atS:ar:=bH 0 (atQ P K)
def Og:ar:=aH (λf' aX=>(([3]:List Nat).map f':List Value)=[l3]/\L1 (([4]:List Nat).map f') aX) (atS P K)
def atT:ar:=aH (aj P axD (Og P K l3 L1)) (Og P K l3 L1)
def aaE:ar:=bH 1 (atT P K l3 L1)
def Hz:ar:=aH (aj P axx (aaE P K l3 L1)) (aaE P K l3 L1)
def aaF:ar:=aH (aj P Rb (zp P K)) (zp P K)
def xD:ar:=aH (aj P axz (aaF P K)) (aaF P K)
def xE:ar:=aH (aj P axB (zp P K)) (zp P K)
def anK:Prop:=ax (aj P I1 (Og P K l3 L1)) ([3]++[4]) ([l3]++xs) h
def anD:Prop:=ax (aj P aei (Hz P K l3 L1)) [3,4,5,28] [l3,i4,n5,cG] h
def Wl:Prop:=ax (aj P aej (Hz P K l3 L1)) [3,4,28,30] [l3,i4,cG,dm] h
def Wm:Prop:=ax (aj P aek (Hz P K l3 L1)) [3,4,32] [l3,i4,bV] h
def Gg:Prop:=ax (aj P axy (Hz P K l3 L1)) [3,4,32,35] [l3,i4,bV,dw] h
def anE:Prop:=ax (aj P I0 (zp P K)) [3] [l3] h
def Wn:Prop:=ax (aj P aem (xD P K)) [7,8,9,10,54] [e7,w8,f9,ay,cX] h
def Wo:Prop:=ax (aj P aen (xD P K)) [8,9,10,54,57] [w8,f9,ay,cX,ee] h
def anF:Prop:=ax (aj P aeo (xD P K)) [8,9,10,59] [w8,f9,ay,eP] h
def Wp:Prop:=ax (aj P aep (xD P K)) [9,10,59,61] [f9,ay,eP,fI] h
def anG:Prop:=ax (aj P aeq (xD P K)) [9,10,63] [f9,ay,hO] h
def Wq:Prop:=ax (aj P aer (xD P K)) [63,66] [hO,jd] h
def anH:Prop:=ax (aj P aes (xD P K)) [68] [fw] h
def Wr:Prop:=ax (aj P axA (xD P K)) [68,69] [fw,fU] h
def Ws:Prop:=ax (aj P aet (xE P K)) [3,7,8,9,11,80] [l3,e7,w8,f9,au,gG] h
def Wt:Prop:=ax (aj P aeu (xE P K)) [3,8,9,11,80,82] [l3,w8,f9,au,gG,fc] h
def anI:Prop:=ax (aj P aev (xE P K)) [3,8,9,11,84] [l3,w8,f9,au,eB] h
def Wu:Prop:=ax (aj P aew (xE P K)) [9,84,90] [f9,eB,lR] h
def anJ:Prop:=ax (aj P aex (xE P K)) [9,92] [f9,mO] h
def Wv:Prop:=ax (aj P aey (xE P K)) [92,94] [mO,rC] h
def anL:Prop:=ax (aj P aez (xE P K)) [96] [qB] h
def Ww:Prop:=ax (aj P axC (xE P K)) [96,97] [qB,oh] h
theorem apL:Gg P K l3 i4 bV dw L1 h=
 (OP (bF bV dw (.bool false)) λdc=>
 aN dc
 (ak P 14 [] h λer z1=>
 K er z1)
 (OP (ai .add i4 (.int .i64 (1))) λaK=>
 ([l3]:List Value)=[l3]/\L1 [aK] h)):=az (by kernel_rfl)
theorem aHg:Wm P K l3 i4 bV L1 h=
 (ck bV true
 (ak P 13 [l3] h λcK z1=>
 OP (ai .eql cK (.int .i64 (0))) λdw=>
 Gg P K l3 i4 bV dw L1 z1)
 (Gg P K l3 i4 bV undef L1 h)):=az (by kernel_rfl)
theorem apK:Wl P K l3 i4 cG dm L1 h=
 (OP (bF cG dm (.bool false)) λcC=>
 Wm P K l3 i4 cC L1 h):=az (by kernel_rfl)
theorem aHf:anD P K l3 i4 n5 cG L1 h=
 (ck cG true
 (OP (ai .leq n5 (.int .i64 (8))) λdm=>
 Wl P K l3 i4 cG dm L1 h)
 (Wl P K l3 i4 cG undef L1 h)):=az (by kernel_rfl)
theorem aHw (l3:Value) (L1:LQ) (i4:Value) (h:ae):anK P K l3 L1 [i4] h=
 (OP (bk l3) λaL=>
 OP (ai .lss i4 aL) λbK=>
 aN bK
 (OP (aZ 2 l3 i4) λbO=>
 OP (aJ 0 bO) λcB=>
 OP (af false 1 h cB) λbL=>
 OP (bk bL) λbX=>
 OP (ai .gtr bX (.int .i64 (5))) λb9=>
 anD P K l3 i4 bX b9 L1 h)
 (anE P K l3 h)):=az (by kernel_rfl)
theorem aHp:Wr P K fw fU h=
 (OP (bF fw fU (.bool false)) λmN=>
 K mN h):=az (by kernel_rfl)
theorem aHo:anH P K fw h=
 (ck fw true
 (ak P 14 [] h λfU z1=>
 Wr P K fw fU z1)
 (Wr P K fw undef h)):=az (by kernel_rfl)
theorem aHn:Wq P K hO jd h=
 (OP (bF hO jd (.bool false)) λgC=>
 anH P K gC h):=az (by kernel_rfl)
theorem aHm:anG P K f9 ay hO h=
 (ck hO true
 (OP (ai .eql f9 ay) λjd=>
 Wq P K hO jd h)
 (Wq P K hO undef h)):=az (by kernel_rfl)
theorem aHl:Wp P K f9 ay eP fI h=
 (OP (bF eP fI (.bool false)) λng=>
 anG P K f9 ay ng h):=az (by kernel_rfl)
theorem aHk:anF P K w8 f9 ay eP h=
 (ck eP true
 (OP (ai .eql w8 (.string ⟨#[]⟩)) λfI=>
 Wp P K f9 ay eP fI h)
 (Wp P K f9 ay eP undef h)):=az (by kernel_rfl)
theorem aHj:Wo P K w8 f9 ay cX ee h=
 (OP (bF cX ee (.bool false)) λfO=>
 anF P K w8 f9 ay fO h):=az (by kernel_rfl)
theorem aHi:Wn P K e7 w8 f9 ay cX h=
 (ck cX true
 (OP (ai .eql e7 ay) λee=>
 Wo P K w8 f9 ay cX ee h)
 (Wo P K w8 f9 ay cX undef h)):=az (by kernel_rfl)
theorem aHy:Ww P K qB oh h=
 (OP (bF qB oh (.bool false)) λnK=>
 K nK h):=az (by kernel_rfl)
theorem aHx:anL P K qB h=
 (ck qB true
 (ak P 14 [] h λoh z1=>
 Ww P K qB oh z1)
 (Ww P K qB undef h)):=az (by kernel_rfl)
theorem aHv:Wv P K mO rC h=
 (OP (bF mO rC (.bool false)) λyX=>
 anL P K yX h):=az (by kernel_rfl)
theorem aHu:anJ P K f9 mO h=
 (ck mO true
 (OP (ai .eql f9 (.int .i64 (0))) λrC=>
 Wv P K mO rC h)
 (Wv P K mO undef h)):=az (by kernel_rfl)
theorem aHt:Wu P K f9 eB lR h=
 (OP (bF eB lR (.bool false)) λiU=>
 anJ P K f9 iU h):=az (by kernel_rfl)
theorem aHs:anI P K l3 w8 f9 au eB h=
 (ck eB true
 (OH (tF .str h) λgH z1=>
 ak P 22 [l3,au,(.bool true),gH] z1 λiF z2=>
 ak P 16 [w8,iF] z2 λlR z3=>
 Wu P K f9 eB lR z3)
 (Wu P K f9 eB undef h)):=az (by kernel_rfl)
theorem aHr:Wt P K l3 w8 f9 au gG fc h=
 (OP (bF gG fc (.bool false)) λlQ=>
 anI P K l3 w8 f9 au lQ h):=az (by kernel_rfl)
theorem aHq:Ws P K l3 e7 w8 f9 au gG h=
 (ck gG true
 (OP (ai .eql e7 (.int .i64 (0))) λfc=>
 Wt P K l3 w8 f9 au gG fc h)
 (Wt P K l3 w8 f9 au gG undef h)):=az (by kernel_rfl)
theorem aHh:anE P K l3 h=
 (ak P 18 [l3] h λeJ z1=>
 OP (cD 0 eJ) λdW=>
 OP (cD 1 eJ) λeO=>
 ak P 21 [l3] z1 λcS z2=>
 OP (cD 0 cS) λcI=>
 OP (cD 1 cS) λgO=>
 ak P 13 [l3] z2 λfN z3=>
 OP (ai .neq fN (.int .i64 (0))) λcg=>
 aN cg
 (OP (ai .eql dW (.string ⟨#[]⟩)) λiS=>
 Wn P K eO cI gO fN iS z3)
 (OP (bk l3) λkW=>
 OH (lI 3 8 [(.int .i64 (0))] z3 kW kW) λmi z4=>
 OH (tF .str z4) λil z5=>
 ak P 22 [l3,mi,(.bool false),il] z5 λfJ z6=>
 ak P 16 [dW,fJ] z6 λgQ z7=>
 Ws P K l3 eO cI gO mi gQ z7)):=az (by kernel_rfl)
def T5:Prop:=
 ak P 11 [x0] h λaB z1=>
 cO [(.int .i64 (0))] z1 λL1 xs hx=>
 anK P K aB L1 xs hx
theorem e5:aj P c5 (aT [.tmp 2] K) (bw [x0]) h=T5 P K x0 h:=by kernel_rfl
theorem f5 {K:VK} {x0:Value} {h:ae} (H:T5 prog K x0 h):ak prog 5 [x0] h K:=
 bN k5 (bJ rfl) ((e5 prog K x0 h).mpr H)
end
noncomputable section
variable (l0 : Value) (h : ae)
def akQ:=bE prog 18 [[],[],[],[],[],[],[]]
@[irreducible] def IN:=bM akQ
theorem k18:akQ=some (24,IN,[.tmp 2,.tmp 3]):=by kernel_rfl
def Po:Prop:=
 ak P 43 [l0] h λx9 z1=>
 OP (cD 0 x9) λay=>
 OP (cD 1 x9) λau=>
 OP (ai .neq au (.int .i64 (0))) λaB=>
 aN aB
 (K (.tuple #[(.string ⟨#[]⟩),au]) z1)
 (ak P 58 [ay] z1 λbK z2=>
 OH (tF (.ints 3 .i64) z2) λaK z3=>
 ak P 57 [ay,bK,(.func (.func 56) #[] #[]),aK] z3 λaU z4=>
 ak P 45 [aU] z4 λba z5=>
 OP (cD 0 ba) λbO=>
 OP (cD 1 ba) λcB=>
 K (.tuple #[bO,cB]) z5)
theorem RQ:aj P IN (aT [.tmp 2,.tmp 3] K) (bw [l0]) h=Po P K l0 h:=by kernel_rfl
theorem f18 {K:VK} {l0:Value} {h:ae} (H:Po prog K l0 h):ak prog 18 [l0] h K:=
 bN k18 (bJ rfl) ((RQ prog K l0 h).mpr H)
end
noncomputable section
variable (l0 : Value) (h : ae)
def akS:=bE prog 21 [[],[],[],[],[],[],[]]
@[irreducible] def c21:=bM akS
theorem k21:akS=some (25,c21,[.tmp 2,.tmp 3]):=by kernel_rfl
def Pq:Prop:=
 ak P 43 [l0] h λx9 z1=>
 OP (cD 0 x9) λay=>
 OP (cD 1 x9) λau=>
 OH (aV 97 [(.slice none 0 0)] z1) λx4 z2=>
 OH (aG 1 z2 x4 ay) λ_ z3=>
 OP (ai .neq au (.int .i64 (0))) λaB=>
 aN aB
 (K (.tuple #[(.string ⟨#[]⟩),au]) z3)
 (OH (tF (.ints 3 .i64) z3) λaU z4=>
 OP (dh z4 aU) λu=>
 (True)/\
 OP (af false 1 z4 x4) λaL=>
 (af false 1 z3 x4=some aL/\True)/\
 OP (af false 1 z4 x4) λbK=>
 (af false 1 z3 x4=some bK/\True)/\
 ak P 58 [bK] z4 λaS z5=>
 (dh z5 aU=some u/\af false 1 z5 x4=some aL/\True)/\
 ak P 57 [aL,aS,(.func (.func 64) #[] #[x4]),aU] z5 λba z6=>
 (True)/\
 ak P 45 [ba] z6 λbO z7=>
 (True)/\
 OP (cD 0 bO) λcB=>
 OP (cD 1 bO) λbL=>
 K (.tuple #[cB,bL]) z7)
theorem RR:aj P c21 (aT [.tmp 2,.tmp 3] K) (bw [l0]) h=Pq P K l0 h:=by kernel_rfl
theorem f21 {K:VK} {l0:Value} {h:ae} (H:Pq prog K l0 h):ak prog 21 [l0] h K:=
 bN k21 (bJ rfl) ((RR prog K l0 h).mpr H)
end
noncomputable section
variable (x0 x1 : Value) (h : ae)
def ale:=bE prog 56 [[],[]]
@[irreducible] def c56:=bM ale
theorem k56:ale=some (5,c56,[.tmp 4]):=by kernel_rfl
def PM (_:Program) (K:VK) (x0 _:Value) (h:ae):Prop:=
 OH (bp 120 h x0) λ_ z1=>
 K (.bool true) z1
theorem e56:aj P c56 (aT [.tmp 4] K) (bw [x0,x1]) h=PM P K x0 x1 h:=by kernel_rfl
theorem f56 {K:VK} {x0 x1:Value} {h:ae} (H:PM prog K x0 x1 h):ak prog 56 [x0,x1] h K:=
 bN k56 (bJ rfl) ((e56 prog K x0 x1 h).mpr H)
end
noncomputable section
variable (l0 x1 df cQ x5 x8 au aA aP i16 ri ba cC bV dK bY cg de fI jd sF yW : Value) (L1 : LQ) (xs : List Value) (h : ae)
def alf:=bE prog 57 [[],[],[],[],[],[],[],[0,2,3,5,8,11,31,32],[33],[],[],[],[],[0,2,3,5,8,11,31,32,33],[0,2,3,5,8,11],[],[],[0,2,3,5,8,11,14,50,51],[15,52],[],[],[],[0,2,3,5,8,11,14,15,16,17,50,51,52,61],[0,2,3,5,8,11,14,15,16,17,50,51,52,61,66],[],[],[],[],[],[],[],[],[0,2,3,5,8,11,14,15,21,50,51,52],[0,2,3,5,8,11,14,15,21,50,51,52,119],[0,2,3,5,8,11,14,15,21,50,51,52,119,123],[],[0,2,3,5,8,11,14,15,50,51,52],[3,5,8,14],[],[]]
@[irreducible] def IY:=bM alf
@[irreducible] def aea:=IY.r.r.r.l.r.l.l
@[irreducible] def aeg:=IY.r.r.r.r
@[irreducible] def axo:=aea.r.r.r.l
@[irreducible] def Q9:=aeg.l
@[irreducible] def Eb:=Q9.r.l.r.l.l
@[irreducible] def aeb:=Q9.r.r
@[irreducible] def aee:=Eb.r.r.l.l.r.l.l.r.l
@[irreducible] def axp:=Eb.r.r.l.l.r.l.r
@[irreducible] def aed:=Eb.r.r.l.l.r.r
@[irreducible] def aec:=Eb.r.r.r
@[irreducible] def axu:=aeb.l
@[irreducible] def axq:=aee.r.l
@[irreducible] def Ra:=aed.r.r.r.r.r.r.l
@[irreducible] def axt:=aec.l
@[irreducible] def aef:=Ra.l.r.l
@[irreducible] def axr:=Ra.r
@[irreducible] def axs:=aef.r.l
theorem k57:alf=some (131,IY,[.cell true 4 8]):=by kernel_rfl
def BI (_P:Program) (K:VK):ar:=aT [.cell true 4 8] K
def atL:ar:=aH (aj P aeg (BI P K)) (BI P K)
def atM:ar:=bH 0 (atL P K)
def aaA:ar:=aH (λf' aX=>(([0,2,3,5,8,11,31,32]:List Nat).map f':List Value)=[l0,df,cQ,x5,x8,au,cC,bV]/\L1 (([33]:List Nat).map f') aX) (atM P K)
def atI:ar:=aH (aj P aeb (BI P K)) (BI P K)
def atJ:ar:=bH 2 (atI P K)
def Hy:ar:=aH (λf' aX=>(([0,2,3,5,8,11,14,50,51]:List Nat).map f':List Value)=[l0,df,cQ,x5,x8,au,aA,bY,cg]/\L1 (([15,52]:List Nat).map f') aX) (atJ P K)
def atK:ar:=aH (aj P aec (Hy P K l0 df cQ x5 x8 au aA bY cg L1)) (Hy P K l0 df cQ x5 x8 au aA bY cg L1)
def DM:ar:=bH 3 (atK P K l0 df cQ x5 x8 au aA bY cg L1)
def aaB:ar:=aH (aj P aed (DM P K l0 df cQ x5 x8 au aA bY cg L1)) (DM P K l0 df cQ x5 x8 au aA bY cg L1)
def aaC:ar:=aH (aj P axp (aaB P K l0 df cQ x5 x8 au aA bY cg L1)) (aaB P K l0 df cQ x5 x8 au aA bY cg L1)
def aaD:ar:=aH (aj P axr (DM P K l0 df cQ x5 x8 au aA bY cg L1)) (DM P K l0 df cQ x5 x8 au aA bY cg L1)
def Wk:Prop:=ax (aj P aea (aaA P K l0 df cQ x5 x8 au cC bV L1)) ([0,2,3,5,8,11,31,32]++[33]) ([l0,df,cQ,x5,x8,au,cC,bV]++xs) h
def L3:Prop:=ax (aj P axo (aaA P K l0 df cQ x5 x8 au cC bV L1)) [0,2,3,5,8,11,31,32,33] [l0,df,cQ,x5,x8,au,cC,bV,dK] h
def L4:Prop:=ax (aj P Q9 (BI P K)) [0,2,3,5,8,11] [l0,df,cQ,x5,x8,au] h
def anw:Prop:=ax (aj P Eb (Hy P K l0 df cQ x5 x8 au aA bY cg L1)) ([0,2,3,5,8,11,14,50,51]++[15,52]) ([l0,df,cQ,x5,x8,au,aA,bY,cg]++xs) h
def anx:Prop:=ax (aj P aee (aaC P K l0 df cQ x5 x8 au aA bY cg L1)) [0,2,3,5,8,11,14,15,16,17,50,51,52,61] [l0,df,cQ,x5,x8,au,aA,aP,i16,ri,bY,cg,de,fI] h
def Gd:Prop:=ax (aj P axq (aaC P K l0 df cQ x5 x8 au aA bY cg L1)) [0,2,3,5,8,11,14,15,16,17,50,51,52,61,66] [l0,df,cQ,x5,x8,au,aA,aP,i16,ri,bY,cg,de,fI,jd] h
def L5:Prop:=ax (aj P Ra (DM P K l0 df cQ x5 x8 au aA bY cg L1)) [0,2,3,5,8,11,14,15,21,50,51,52] [l0,df,cQ,x5,x8,au,aA,aP,ba,bY,cg,de] h
def anz:Prop:=ax (aj P aef (aaD P K l0 df cQ x5 x8 au aA bY cg L1)) [0,2,3,5,8,11,14,15,21,50,51,52,119] [l0,df,cQ,x5,x8,au,aA,aP,ba,bY,cg,de,sF] h
def Ge:Prop:=ax (aj P axs (aaD P K l0 df cQ x5 x8 au aA bY cg L1)) [0,2,3,5,8,11,14,15,21,50,51,52,119,123] [l0,df,cQ,x5,x8,au,aA,aP,ba,bY,cg,de,sF,yW] h
def Gf:Prop:=ax (aj P axt (Hy P K l0 df cQ x5 x8 au aA bY cg L1)) [0,2,3,5,8,11,14,15,50,51,52] [l0,df,cQ,x5,x8,au,aA,aP,bY,cg,de] h
def anA:Prop:=ax (aj P axu (BI P K)) [3,5,8,14] [cQ,x5,x8,aA] h
theorem aG5:L3 P K l0 df cQ x5 x8 au cC bV dK L1 h=
 (OP (ai .add dK (.int .i64 (1))) λfE=>
 ([l0,df,cQ,x5,x8,au,cC,bV]:List Value)=[l0,df,cQ,x5,x8,au,cC,bV]/\L1 [fE] h):=az (by kernel_rfl)
theorem aG4 (l0 df cQ x5 x8 au cC bV:Value) (L1:LQ) (dK:Value) (h:ae):Wk P K l0 df cQ x5 x8 au cC bV L1 [dK] h=
 (OP (ai .lss dK bV) λcK=>
 aN cK
 (OP (aZ 3 cC dK) λdc=>
 OP (af true 3 h dc) λer=>
 OH (aV 102 [(.int .i64 (0)),(.int .i64 (0)),(.slice none 0 0)] h) λuW z1=>
 OH (aG 3 z1 uW er) λ_ z2=>
 OP (oP 3 1 x5 dK) λeY=>
 OP (af false 1 z2 eY) λeJ=>
 OP (ai .neq eJ (.int .i64 (-1))) λdW=>
 aN dW
 (OP (af true 4 z2 au) λeO=>
 (True)/\
 OP (aJ 0 uW) λcj=>
 OP (aJ 1 cj) λbu=>
 OP (af false 1 z2 bu) λcS=>
 (True)/\
 ak P 75 [cS] z2 λcI z3=>
 (af true 4 z3 au=some eO/\True)/\
 ak P 87 [eO,cI] z3 λgO z4=>
 (True)/\
 OH (aG 4 z4 au gO) λ_ z5=>
 (True)/\
 L3 P K l0 df cQ x5 x8 au cC bV dK L1 z5)
 (L3 P K l0 df cQ x5 x8 au cC bV dK L1 z2))
 (L4 P K l0 df cQ x5 x8 au h)):=az (by kernel_rfl)
theorem apI:Gd P K l0 df cQ x5 x8 au aA aP i16 ri bY cg de fI jd L1 h=
 (OP (bF fI (.bool true) jd) λgC=>
 aN gC
 (Gf P K l0 df cQ x5 x8 au aA aP bY cg de L1 h)
 (OH (aV 120 [(.int .i64 (0)),(.int .i64 (0)),(.int .i64 (0))] h) λaS z1=>
 OP (dh z1 aS) λu=>
 (True)/\
 OH (aV 120 [(.int .i64 (0)),(.int .i64 (0)),(.int .i64 (0))] z1) λaK z2=>
 OP (dh z2 aK) λ_=>
 (dh z2 aS=some u/\True)/\
 OP (af true 3 z2 x5) λfw=>
 (af true 3 h x5=some fw/\af true 3 z1 x5=some fw/\True)/\
 OP (af true 3 z2 x5) λfU=>
 (af true 3 h x5=some fU/\af true 3 z1 x5=some fU/\True)/\
 OH (aG 3 z2 aS fw) λ_ z3=>
 (af true 3 z3 x5=some fU/\True)/\
 OH (aG 3 z3 aK fU) λ_ z4=>
 (True)/\
 OP (oP 3 1 aS i16) λiD=>
 OH (aG 1 z4 iD (.int .i64 (-1))) λ_ z5=>
 OP (oP 3 1 aK i16) λmi=>
 OP (af false 1 z5 mi) λfF=>
 OP (ai .add fF (.int .i64 (1))) λkn=>
 OP (oP 3 1 aK i16) λiE=>
 OH (aG 1 z5 iE kn) λ_ z6=>
 OH (aV 107 [(.bool false),(.slice none 0 0),(.bool false),(.slice none 0 0)] z6) λaU z7=>
 OP (dh z7 aU) λu_2=>
 (True)/\
 OP (aJ 2 ri) λil=>
 OP (af false 1 z7 il) λfJ=>
 (af false 1 z6 il=some fJ/\True)/\
 OP (oP 3 1 x5 i16) λgG=>
 OP (af false 1 z7 gG) λjT=>
 (af false 1 z6 gG=some jT/\True)/\
 OP (aZ 4 fJ jT) λfc=>
 OP (af true 4 z7 fc) λlQ=>
 (af true 4 z6 fc=some lQ/\True)/\
 OP (af true 3 z7 ri) λeB=>
 (af true 3 z6 ri=some eB/\True)/\
 OP (oP 3 1 x5 i16) λmj=>
 OP (af false 1 z7 mj) λqA=>
 (af false 1 z6 mj=some qA/\True)/\
 ak P 85 [eB,qA] z7 λgH z8=>
 (dh z8 aU=some u_2/\af false 1 z8 il=some fJ/\af false 1 z8 gG=some jT/\af true 4 z8 fc=some lQ/\True)/\
 ak P 77 [lQ,gH] z8 λiF z9=>
 (dh z9 aU=some u_2/\True)/\
 OH (aG 4 z9 aU iF) λ_ hX=>
 (True)/\
 OH (aV 107 [(.bool false),(.slice none 0 0),(.bool false),(.slice none 0 0)] hX) λba jx=>
 OP (dh jx ba) λYi=>
 (True)/\
 OP (af true 4 jx au) λlR=>
 (af true 4 hX au=some lR/\True)/\
 OP (af true 4 jx aU) λiU=>
 (af true 4 hX aU=some iU/\True)/\
 OP (af true 3 jx aS) λpa=>
 (af true 3 hX aS=some pa/\True)/\
 ak P 57 [l0,pa,df,cQ] jx λqB kr=>
 (dh kr ba=some Yi/\af true 4 kr au=some lR/\af true 4 kr aU=some iU/\True)/\
 ak P 88 [iU,qB] kr λoh kH=>
 (dh kH ba=some Yi/\af true 4 kH au=some lR/\True)/\
 ak P 87 [lR,oh] kH λnK om=>
 (dh om ba=some Yi/\True)/\
 OH (aG 4 om ba nK) λ_ ky=>
 (True)/\
 OP (oP 3 1 aK i16) λYx=>
 OP (af false 1 ky Yx) λGN=>
 (True)/\
 OP (aJ 0 ri) λsE=>
 OP (aJ 0 sE) λqy=>
 OP (af false 1 ky qy) λBx=>
 (True)/\
 OP (ai .lss GN Bx) λGO=>
 aN GO
 (OP (af true 4 ky ba) λqz=>
 (True)/\
 ak P 75 [(.int .i64 (1))] ky λo9 rD=>
 (af true 4 rD ba=some qz/\True)/\
 OP (af true 4 rD aU) λtW=>
 (af true 4 ky aU=some tW/\True)/\
 ak P 96 [o9,tW] rD λyU G3=>
 (af true 4 G3 ba=some qz/\True)/\
 OP (af true 3 G3 aK) λxo=>
 (af true 3 ky aK=some xo/\af true 3 rD aK=some xo/\True)/\
 ak P 57 [l0,xo,df,cQ] G3 λGQ No=>
 (af true 4 No ba=some qz/\True)/\
 ak P 88 [yU,GQ] No λGR z19=>
 (af true 4 z19 ba=some qz/\True)/\
 ak P 87 [qz,GR] z19 λyV z20=>
 (True)/\
 OH (aG 4 z20 ba yV) λ_ z21=>
 (True)/\
 L5 P K l0 df cQ x5 x8 au aA aP ba bY cg de L1 z21)
 (L5 P K l0 df cQ x5 x8 au aA aP ba bY cg de L1 ky))):=az (by kernel_rfl)
theorem aG8:anx P K l0 df cQ x5 x8 au aA aP i16 ri bY cg de fI L1 h=
 (ck fI false
 (OP (af true 3 h x5) λhO=>
 vG P df [hO,i16] h λgP z1=>
 OP (gq .not gP) λjd=>
 Gd P K l0 df cQ x5 x8 au aA aP i16 ri bY cg de fI jd L1 z1)
 (Gd P K l0 df cQ x5 x8 au aA aP i16 ri bY cg de fI undef L1 h)):=az (by kernel_rfl)
theorem apJ:Ge P K l0 df cQ x5 x8 au aA aP ba bY cg de sF yW L1 h=
 (OP (bF sF (.bool true) yW) λGU=>
 aN GU
 (OP (af true 4 h ba) λGV=>
 OH (aG 4 h aA GV) λ_ z1=>
 Gf P K l0 df cQ x5 x8 au aA (.bool true) bY cg de L1 z1)
 (Gf P K l0 df cQ x5 x8 au aA aP bY cg de L1 h)):=az (by kernel_rfl)
theorem aHa:anz P K l0 df cQ x5 x8 au aA aP ba bY cg de sF L1 h=
 (ck sF false
 (OP (af true 4 h ba) λaKD=>
 OP (af true 4 h aA) λYz=>
 ak P 86 [aKD,Yz] h λaKE z1=>
 OP (ai .lss aKE (.int .i64 (0))) λyW=>
 Ge P K l0 df cQ x5 x8 au aA aP ba bY cg de sF yW L1 z1)
 (Ge P K l0 df cQ x5 x8 au aA aP ba bY cg de sF undef L1 h)):=az (by kernel_rfl)
theorem aG9:L5 P K l0 df cQ x5 x8 au aA aP ba bY cg de L1 h=
 (OP (gq .not aP) λGS=>
 anz P K l0 df cQ x5 x8 au aA aP ba bY cg de GS L1 h):=az (by kernel_rfl)
theorem aHb:Gf P K l0 df cQ x5 x8 au aA aP bY cg de L1 h=
 (OP (ai .add de (.int .i64 (1))) λGW=>
 ([l0,df,cQ,x5,x8,au,aA,bY,cg]:List Value)=[l0,df,cQ,x5,x8,au,aA,bY,cg]/\L1 [aP,GW] h):=az (by kernel_rfl)
theorem aG7 (l0 df cQ x5 x8 au aA bY cg:Value) (L1:LQ) (aP de:Value) (h:ae):anw P K l0 df cQ x5 x8 au aA bY cg L1 [aP,de] h=
 (OP (ai .lss de cg) λiS=>
 aN iS
 (OP (aZ 3 bY de) λhI=>
 OP (af true 3 h hI) λiT=>
 OH (aV 102 [(.int .i64 (0)),(.int .i64 (0)),(.slice none 0 0)] h) λri z1=>
 OH (aG 3 z1 ri iT) λ_ z2=>
 OP (oP 3 1 x5 de) λfO=>
 OP (af false 1 z2 fO) λeP=>
 OP (ai .eql eP (.int .i64 (-1))) λjw=>
 anx P K l0 df cQ x5 x8 au aA aP de ri bY cg de jw L1 z2)
 (anA P K cQ x5 x8 aA h)):=az (by kernel_rfl)
theorem aHc:anA P K cQ x5 x8 aA h=
 (OP (af true 3 h x5) λYA=>
 OP (af true 4 h aA) λYB=>
 OH (wV (.ints 3 .i64) h cQ YA YB) λ_ z1=>
 OP (af true 4 z1 aA) λxp=>
 OH (aG 4 z1 x8 xp) λ_ z2=>
 OP (af true 4 z2 x8) λr0=>
 K r0 z2):=az (by kernel_rfl)
theorem aG6:L4 P K l0 df cQ x5 x8 au h=
 (ak P 75 [(.int .i64 (0))] h λfN z1=>
 OH (aV 107 [(.bool false),(.slice none 0 0),(.bool false),(.slice none 0 0)] z1) λaA z2=>
 OH (aG 4 z2 aA fN) λ_ z3=>
 OP (bk l0) λcg=>
 cO [(.bool false),(.int .i64 (0))] z3 λL1 xs hx=>
 anw P K l0 df cQ x5 x8 au aA l0 cg L1 xs hx):=az (by kernel_rfl)
def PN:Prop:=
 OH (bp 120 h x1) λx5 z1=>
 OH (aV 107 [(.bool false),(.slice none 0 0),(.bool false),(.slice none 0 0)] z1) λx8 z2=>
 OP (af true 3 z2 x5) λbL=>
 OP (uR (.ints 3 .i64) true (.agg #[(.bool false),(.slice none 0 0),(.bool false),(.slice none 0 0)]) z2 cQ bL) λbX=>
 OP (cD 0 bX) λcV=>
 OP (cD 1 bX) λb9=>
 OH (aV 107 [(.bool false),(.slice none 0 0),(.bool false),(.slice none 0 0)] z2) λx9 z3=>
 OH (aG 4 z3 x9 cV) λ_ z4=>
 aN b9
 (OP (af true 4 z4 x9) λcM=>
 OH (aG 4 z4 x8 cM) λ_ z5=>
 OP (af true 4 z5 x8) λr0=>
 K r0 z5)
 (ak P 75 [(.int .i64 (0))] z4 λdm z5=>
 OH (aV 107 [(.bool false),(.slice none 0 0),(.bool false),(.slice none 0 0)] z5) λau z6=>
 OH (aG 4 z6 au dm) λ_ z7=>
 OP (bk l0) λbV=>
 cO [(.int .i64 (0))] z7 λL1 xs hx=>
 Wk P K l0 df cQ x5 x8 au l0 bV L1 xs hx)
theorem e57:aj P IY (aT [.cell true 4 8] K) (bw [l0,x1,df,cQ]) h=PN P K l0 x1 df cQ h:=by kernel_rfl
theorem f57 {K:VK} {l0 x1 df cQ:Value} {h:ae} (H:PN prog K l0 x1 df cQ h):ak prog 57 [l0,x1,df,cQ] h K:=
 bN k57 (bJ rfl) ((e57 prog K l0 x1 df cQ h).mpr H)
end
noncomputable section
variable (l0 x2 x3 x7 x8 : Value) (L1 : LQ) (xs : List Value) (h : ae)
def alg:=bE prog 58 [[],[],[],[2,3,7],[8],[],[],[],[],[2,3],[]]
@[irreducible] def IZ:=bM alg
@[irreducible] def axw:=IZ.r.r.l.r.l.l
@[irreducible] def aeh:=IZ.r.r.r
@[irreducible] def axv:=aeh.l
theorem k58:alg=some (15,IZ,[.cell true 3 2]):=by kernel_rfl
def Of (_P:Program) (K:VK):ar:=aT [.cell true 3 2] K
def atN:ar:=aH (aj P aeh (Of P K)) (Of P K)
def atO:ar:=bH 0 (atN P K)
def atP:ar:=aH (λf' aX=>(([2,3,7]:List Nat).map f':List Value)=[x2,x3,x7]/\L1 (([8]:List Nat).map f') aX) (atO P K)
def anC:Prop:=ax (aj P axw (atP P K x2 x3 x7 L1)) ([2,3,7]++[8]) ([x2,x3,x7]++xs) h
def anB:Prop:=ax (aj P axv (Of P K)) [2,3] [x2,x3] h
theorem aHe (x2 x3 x7:Value) (L1:LQ) (x8:Value) (h:ae):anC P K x2 x3 x7 L1 [x8] h=
 (OP (ai .lss x8 x7) λx9=>
 aN x9
 (OP (oP 3 1 x3 x8) λaD=>
 OH (aG 1 h aD (.int .i64 (0))) λ_ z1=>
 OP (ai .add x8 (.int .i64 (1))) λaB=>
 ([x2,x3,x7]:List Value)=[x2,x3,x7]/\L1 [aB] z1)
 (anB P K x2 x3 h)):=az (by kernel_rfl)
theorem aHd:anB P K x2 x3 h=
 (OP (af true 3 h x3) λaA=>
 OH (aG 3 h x2 aA) λ_ z1=>
 OP (af true 3 z1 x2) λr0=>
 K r0 z1):=az (by kernel_rfl)
def PO:Prop:=
 OH (aV 120 [(.int .i64 (0)),(.int .i64 (0)),(.int .i64 (0))] h) λx2 z1=>
 OP (dC [(.int .i64 (0)),(.int .i64 (0)),(.int .i64 (0))] [(0,1,(.int .i64 (-1))),(1,1,(.int .i64 (-1))),(2,1,(.int .i64 (-1)))]) λx5=>
 OH (aV 120 [(.int .i64 (0)),(.int .i64 (0)),(.int .i64 (0))] z1) λx3 z2=>
 OH (aG 3 z2 x3 x5) λ_ z3=>
 OP (bk l0) λx7=>
 cO [(.int .i64 (0))] z3 λL1 xs hx=>
 anC P K x2 x3 x7 L1 xs hx
theorem RU:aj P IZ (aT [.cell true 3 2] K) (bw [l0]) h=PO P K l0 h:=by kernel_rfl
theorem f58 {K:VK} {l0:Value} {h:ae} (H:PO prog K l0 h):ak prog 58 [l0] h K:=
 bN k58 (bJ rfl) ((RU prog K l0 h).mpr H)
end
noncomputable section
variable (x0 i1 x2 : Value) (h : ae)
def alj:=bE prog 64 [[],[]]
@[irreducible] def c64:=bM alj
theorem k64:alj=some (11,c64,[.tmp 5]):=by kernel_rfl
def PR:Prop:=
 OH (bp 120 h x0) λx3 z1=>
 OP (af false 1 z1 x2) λx6=>
 OP (af true 3 z1 x3) λx7=>
 ak P 65 [x6,x7] z1 λx8 z2=>
 OP (ai .eql x8 i1) λay=>
 K ay z2
theorem e64:aj P c64 (aT [.tmp 5] K) (bw [x0,i1,x2]) h=PR P K x0 i1 x2 h:=by kernel_rfl
theorem f64 {K:VK} {x0 i1 x2:Value} {h:ae} (H:PR prog K x0 i1 x2 h):ak prog 64 [x0,i1,x2] h K:=
 bN k64 (bJ rfl) ((e64 prog K x0 i1 x2 h).mpr H)
end
end
section
def gL (ag:List Int):Value:=.agg (ag.map I).toArray
theorem aiJ:∀{ls bs:List Int},uU (ls.map I) (bs.map I)=true->ls=bs
 | [],[],_=>rfl
 | [],b::bs,h=>by simp [uU] at h
 | a::ls,[],h=>by simp [uU] at h
 | a::ls,b::bs,h=>by
  simp only [List.map_cons,uU,yE,and_eq_true,decide_eq_true_eq] at h
  rw [h.1.2,aiJ h.2]
theorem aDI {ls bs:List Int} (h:mC (gL ls) (gL bs)=true):ls=bs:=aiJ (by simpa [mC,gL] using h)
theorem aoW {k:Value}:∀{es:List (Nat×Value×Value)} {j:Nat},mK k es=some j->∃e,es[j]?=some e/\mC k e.2.1=true
 | (c,k',v)::es,j,h=>by
  simp only [mK] at h
  by_cases he:mC k k'=true
  ·rw [if_pos he] at h
   cases h
   exact ⟨_,rfl,he⟩
  ·rw [if_neg he] at h
   cases hp:mK k es with
   | none=>rw [hp] at h;cases h
   | some j'=>
    rw [hp] at h
    cases h
    obtain ⟨e,h1,h2⟩:=aoW hp
    exact ⟨e,by simpa using h1,h2⟩
theorem agw {k v:Value} {es:List (Nat×Value×Value)} (h:px k es=some v):∃e∈es,mC k e.2.1=true/\e.2.2=v:=by
 unfold px at h
 cases hp:mK k es with
 | none=>rw [hp] at h;cases h
 | some j=>
  rw [hp] at h
  obtain ⟨e,h1,h2⟩:=aoW hp
  simp only [Option.bind_some,h1,Option.map_some,Option.some.injEq] at h
  exact ⟨e,List.mem_of_getElem? h1,h2,h⟩
theorem aqp {c:Nat} {k v:Value} {es:List (Nat×Value×Value)} {e:Nat×Value×Value} (h:e∈ju c k v es):e∈es∨(e.2.1=k/\e.2.2=v):=by
 unfold ju at h
 split at h
 ·rename_i j _
  obtain ⟨i,hi⟩:=List.getElem?_of_mem h
  rw [List.getElem?_modify] at hi
  cases hx:es[i]? with
  | none=>rw [hx] at hi;cases hi
  | some x=>
   rw [hx] at hi
   simp only [Option.map_eq_map,Option.map_some,Option.some.injEq] at hi
   split at hi
   ·subst hi;exact .inr ⟨rfl,rfl⟩
   ·subst hi;exact .inl (List.mem_of_getElem? hx)
 ·rcases List.mem_append.1 h with h | h
  ·exact .inl h
  ·rw [List.mem_singleton.1 h];exact .inr ⟨rfl,rfl⟩
structure Ch (c:Nat->Prop) (g g':ae):Prop where
 len:g.length<=g'.length
 old:∀d,d<g.length->¬c d->g'[d]?=g[d]?
 kp:KP uV g g'
theorem Ch.ex {c:Nat->Prop} {g g':ae} (x:EX g g'):Ch c g g':=⟨x.1,λd hd _=>x.2 d hd,KP.ex x⟩
theorem Ch.trans {c:Nat->Prop} {a b d:ae} (x:Ch c a b) (y:Ch c b d):Ch c a d:=
 ⟨le_trans x.len y.len,λi hi hc=>(y.old i (Nat.lt_of_lt_of_le hi x.len) hc).trans (x.old i hi hc),x.kp.trans y.kp⟩
theorem Ch.mono {c c':Nat->Prop} {g g':ae} (x:Ch c g g') (h:∀d,d<g.length->c d->c' d):Ch c' g g':=⟨x.len,λd hd hc=>x.old d hd λh1=>hc (h d hd h1),x.kp⟩
theorem Ch.get {c:Nat->Prop} {g g':ae} (x:Ch c g g') {i:Nat} {o:aq} (hg:g[i]?=some o) (hi:¬c i):g'[i]?=some o:=by
 rw [x.old i (bz hg).1 hi];exact hg
theorem Ch.set {g:ae} {i:Nat} {e:TypeId} {cs:List Value} (hg:g[i]?=some (.arr e cs)) (hp:∀x r,cs=x::r->uV x=false) (o:aq):Ch (·=i) g (g.set i o):=
 ⟨by simp,λd _ hd=>getElem?_set_ne λh=>hd h.symm,KP.set hg hp o⟩
theorem Cell.ch {c:Nat->Prop} {g g':ae} {i:Nat} {q:Rat} (p:Cell g i q) (x:Ch c g g') (hi:¬c i):Cell g' i q:=
 let ⟨a,b,d,e,k,r⟩:=p;⟨a,b,d,e,x.get k hi,iI.eX x.kp r⟩
theorem RV.ch {c:Nat->Prop} {g g':ae} {v:Value} {q:Rat} (p:RV g v q) (x:Ch c g g'):RV g' v q:=iI.eX x.kp p
def nN (g:ae) (i:Nat):Prop:=∃a b c d,g[i]?=some (.arr 107 [.bool a,b,c,d])
theorem nN.ch {c:Nat->Prop} {g g':ae} {i:Nat} (p:nN g i) (x:Ch c g g') (hi:¬c i):nN g' i:=let ⟨a,b,d,e,k⟩:=p;⟨a,b,d,e,x.get k hi⟩
theorem Cell.c0 {g:ae} {i:Nat} {q:Rat} (p:Cell g i q):nN g i:=let ⟨a,b,d,e,k,_⟩:=p;⟨a,b,.bool d,e,k⟩
theorem nN.lt {g:ae} {i:Nat} (p:nN g i):i<g.length:=let ⟨_,_,_,_,k⟩:=p;(bz k).1
theorem nN.store {g:ae} {i:Nat} {v:Value} {q:Rat} (p:nN g i) (hv:RV g v q):∃g',aG 4 g (pt i 0) v=some (undef,g')/\Ch (·=i) g g'/\Cell g' i q/\g'.length=g.length:=by
 obtain ⟨a,b,c,d,k⟩:=p
 obtain ⟨a',b',c',d',rfl⟩:=hv.agg
 refine ⟨_,m8 k,Ch.set k ?_ _,⟨a',b',c',d',cJ k,hv.bT k _⟩,by simp⟩
 rintro x r e
 injection e with e
 rw [<-e];rfl
theorem La {g g':ae} {i:Nat} (h:g'[i]?=g[i]?) (agg:Bool) (n o:Nat):af agg n g' (pt i o)=af agg n g (pt i o):=by
 simp [af,aW,h]
theorem xt {im:Nat} {a b:ae} {k:gD} {gh:Nat} {es:List (Nat×Value×Value)} (h:XM im a b) (hm:a[im]?=some (.cw k gh es)):CX a b:=by
 intro d cs hc
 have hd:d≠im:=by
  rintro rfl
  simp [aW,hm] at hc
 have hl:d<a.length:=by
  apply byContradiction
  intro cU
  rw [aW,getElem?_eq_none (by omega)] at hc
  cases hc
 simpa [aW,h.2 d hl hd] using hc
theorem uX {p:Value->Bool} {a b:ae} (x:CX a b):KP p a b:=λd _ _ h1 _=>x d _ h1
theorem Du {im:Nat} {h g g':ae} {c:Nat->Prop} (X:XM im h g) (x:Ch c g g') (hc:∀d,d<h.length->d≠im->¬c d):XM im h g':=
 ⟨le_trans X.1 x.len,λd hd hi=>(x.old d (Nat.lt_of_lt_of_le hd X.1) (hc d hd hi)).trans (X.2 d hd hi)⟩
theorem LK.cx {h h':ae} {v:Value} {cs:db} (x:CX h h') (p:LK h v cs):LK h' v cs:=by
 obtain ⟨rows,⟨a1,a2⟩,b,c⟩:=p
 refine ⟨rows,⟨a1,a2.imp id λ⟨i,o,e1,e2⟩=>⟨i,o,e1,e2.imp id λ⟨pre,post,e3,e4⟩=>⟨pre,post,x _ _ e3,e4⟩⟩⟩,b,λk row q h1 h2=>?_⟩
 obtain ⟨vq,e,m⟩:=c k row q h1 h2
 exact ⟨vq,e,m.eX (uX x)⟩
def ph (cs:db) (im:Nat) (g:ae):Prop:=∃gh es,g[im]?=some (.cw (.ints 3 .i64) gh es)/\∀e∈es,∃ag,e.2.1=gL ag/\RV g e.2.2 (cn cs ag)
theorem ph.ch {cs:db} {im:Nat} {g g':ae} {c:Nat->Prop} (p:ph cs im g) (x:Ch c g g') (hi:¬c im):ph cs im g':=
 let ⟨gh,es,a,b⟩:=p;⟨gh,es,x.get a hi,λe he=>let ⟨ag,c,d⟩:=b e he;⟨ag,c,d.ch x⟩⟩
theorem ph.lt {cs:db} {im:Nat} {g:ae} (p:ph cs im g):im<g.length:=let ⟨_,_,a,_⟩:=p;(bz a).1
def wP (cs:db) (ag:List Int) (i:Nat):Nat:=if ag.getD i (-1)<0 then 0 else (cs.getD i ([],0)).1.length-(ag.getD i (-1)).toNat
def FN (cs:db) (ag:List Int):Nat:=wP cs ag 0+wP cs ag 1+wP cs ag 2
theorem EE {ag:List Int} {i j:Nat} {x:Int} (hi:i<ag.length):(ag.set i x).getD j (-1)=if j=i then x else ag.getD j (-1):=by
 rw [getD_eq_getElem?_getD,getD_eq_getElem?_getD,List.getElem?_set]
 by_cases h:i=j
 ·subst h
  rw [if_pos rfl,if_pos hi,if_pos rfl];rfl
 ·rw [if_neg h,if_neg λe=>h e.symm]
theorem fT.set {cs:db} {ag:List Int} (h:fT cs ag) {i:Nat} (hi:i<cs.length) {x:Int} (hx: -1<=x/\x<cs[i].1.length):fT cs (ag.set i x):=by
 have ef:=h.ok.ef
 have hl:i<ag.length:=by rw [h.three];omega
 refine ⟨by rw [length_set];exact h.three,⟨h.ok.jI,h.ok.ef,λj hj=>?_⟩,λj hj=>?_⟩
 ·rw [EE hl]
  by_cases e:j=i
  ·subst e;rw [if_pos rfl];exact hx
  ·rw [if_neg e];exact h.ok.lU j hj
 ·rw [EE hl,if_neg (by omega)]
  exact h.rest j hj
theorem Lj {cs:db} {ag:List Int} (h:fT cs ag) {i:Nat} (hi:i<cs.length) (h0:0<=ag.getD i (-1)) {x:Int} (hx:x= -1∨x=ag.getD i (-1)+1):FN cs (ag.set i x)<FN cs ag:=by
 have ef:=h.ok.ef
 have hl:i<ag.length:=by rw [h.three];omega
 have aF:=(h.ok.lU i hi).2
 have other:∀j,j≠i->wP cs (ag.set i x) j=wP cs ag j:=λj hj=>by unfold wP;rw [EE hl,if_neg hj]
 have self:wP cs (ag.set i x) i<wP cs ag i:=by
  unfold wP
  rw [EE hl,if_pos rfl,if_neg (show ¬ag.getD i (-1)<0 by omega),jO hi]
  split <;> omega
 have hc:i=0∨i=1∨i=2:=by omega
 unfold FN
 rcases hc with rfl | rfl | rfl
 ·rw [other 1 (by decide),other 2 (by decide)];omega
 ·rw [other 0 (by decide),other 2 (by decide)];omega
 ·rw [other 0 (by decide),other 1 (by decide)];omega
theorem fT.range {cs:db} {ag:List Int} (h:fT cs ag) (i:Nat): -1<=ag.getD i (-1)/\ag.getD i (-1)<8:=by
 by_cases hi:i<cs.length
 ·have h1:=h.ok.lU i hi
  obtain ⟨⟨_,l8⟩,_⟩:=oB (h.ok.jI _ (getElem_mem hi))
  omega
 ·rw [h.rest i (by omega)];decide
theorem ai2 {cs:db} {ag:List Int} (h:fT cs ag):fy (.ints 3 .i64) (gL ag)=true:=by
 have r0:=h.range 0
 have r1:=h.range 1
 have r2:=h.range 2
 obtain ⟨a,b,c,rfl⟩:=Bs h.three
 simp only [getD_cons_zero,getD_cons_succ] at r0 r1 r2
 have fK:∀x:Int,-1<=x->x<8->(kR .i64 (I x)&&Fv .i64 (I x))=true:=by
  intro x h1 h2
  simp only [kR,Fv,IntKind.min,IntKind.max,IntKind.signed,IntKind.bits,and_eq_true,decide_eq_true_eq]
  simp
  omega
 simp only [fy,gL,List.map_cons,List.map_nil,List.all_cons,List.all_nil,fK a r0.1 r0.2,fK b r1.1 r1.2,fK c r2.1 r2.2]
 rfl
theorem wR {g:ae} {i:Nat} {e:TypeId} {ag:List Int} (hg:g[i]?=some (.arr e (ag.map I))) (hl:ag.length=3):af true 3 g (pt i 0)=some (gL ag):=by
 obtain ⟨a,b,c,rfl⟩:=Bs hl
 exact K9 hg
theorem su {g:ae} {i k:Nat} {e:TypeId} {ag:List Int} (hg:g[i]?=some (.arr e (ag.map I))) (hk:k<ag.length):af false 1 g (pt i k)=some (I (ag.getD k (-1))):=by
 rw [jO hk]
 simp [af,aW,hg,cP,hk]
theorem MV {g:ae} {i:Nat} {e:TypeId} {a b c:Value} {ag:List Int} (hg:g[i]?=some (.arr e [a,b,c])) (hl:ag.length=3):aG 3 g (pt i 0) (gL ag)=some (undef,g.set i (.arr e (ag.map I))):=by
 obtain ⟨x,y,z,rfl⟩:=Bs hl
 exact MU hg
theorem GF {g:ae} {i k:Nat} {e:TypeId} {ag:List Int} {x:Int} (hg:g[i]?=some (.arr e (ag.map I))) (hk:k<ag.length):aG 1 g (pt i k) (I x)=some (undef,g.set i (.arr e ((ag.set k x).map I))):=by
 rw [qx hg (by simpa using hk) rfl rfl,List.map_set]
end
section
structure pg (cs:db) (ag:List Int) (im:Nat) (h:ae) (ia i8 iw:Nat) (g:ae):Prop where
 xm:XM im h g
 mp:ph cs im g
 aw:g[ia]?=some (.arr 120 (ag.map I))
 x8:nN g i8
 wt:Cell g iw (jL cs ag cs.length)
theorem pg.ch {cs:db} {ag:List Int} {im:Nat} {h:ae} {ia i8 iw:Nat} {g g':ae} {c:Nat->Prop} (f:pg cs ag im h ia i8 iw g) (x:Ch c g g') (hc:∀d,d<h.length->¬c d) (eZ:im<h.length) (h1:¬c ia) (h2:¬c i8) (h3:¬c iw):pg cs ag im h ia i8 iw g':=
 ⟨Du f.xm x λd hd _=>hc d hd,f.mp.ch x (hc im eZ),x.get f.aw h1,f.x8.ch x h2,f.wt.ch x h3⟩
theorem pg.ex {cs:db} {ag:List Int} {im:Nat} {h:ae} {ia i8 iw:Nat} {g g':ae} (f:pg cs ag im h ia i8 iw g) (x:EX g g') (eZ:im<h.length):pg cs ag im h ia i8 iw g':=
 f.ch (Ch.ex (c:=λ_=>False) x) (λ_ _ h=>h) eZ (λh=>h) (λh=>h) (λh=>h)
theorem YM {cs:db} {im:Nat} {g g':ae} (m:ph cs im g) (x:XM im g g'):Ch (·=im) g g':=
 let ⟨_,_,a,_⟩:=m;⟨x.1,λd hd hi=>x.2 d hd hi,uX (xt x a)⟩
theorem pg.Gx {cs:db} {ag:List Int} {im:Nat} {h:ae} {ia i8 iw:Nat} {g g':ae} (f:pg cs ag im h ia i8 iw g) (x:XM im g g') (m:ph cs im g') (h1:ia≠im) (h2:i8≠im) (h3:iw≠im):pg cs ag im h ia i8 iw g':=
 let c:=YM f.mp x;⟨f.xm.trans x,m,c.get f.aw h1,f.x8.ch c h2,f.wt.ch c h3⟩
structure DQ (cs:db) (v vm:Value) (may:List Int->Nat->Bool) (Env:ae->Prop):Prop where
 call:∀{ag:List Int} {i:Nat} {h:ae} {K:Value->ae->Prop},fT cs ag->i<cs.length->LK h v cs->Env h->(∀h',EX h h'->K (B (may ag i)) h')->vG prog vm [gL ag,I i] h K
 env:∀{h h':ae},CX h h'->Env h->Env h'
theorem agB (cs:db) (V:List Int->Rat) (may:List Int->Nat->Bool) (ag:List Int) {k:Nat} (h0:0<=ag.getD k (-1)) (hm:may ag k=true):
  fm cs V may ag (k+1)=if (fm cs V may ag k).isSome=true/\¬jJ cs V ag k<(fm cs V may ag k).getD 0 then fm cs V may ag k else some (jJ cs V ag k):=by
 simp only [fm]
 rw [if_neg (by rintro (h | h);omega;rw [hm] at h;cases h)]
 cases fm cs V may ag k with
 | none=>simp
 | some b=>
  simp only [Option.isSome_some,getD_some,true_and]
  by_cases h:jJ cs V ag k<b
  ·rw [if_pos h,if_neg (λx=>x h)]
  ·rw [if_neg h,if_pos h]
theorem JU (cs:db) (V:List Int->Rat) (may:List Int->Nat->Bool) (ag:List Int) {k:Nat} (h:ag.getD k (-1)<0∨may ag k=false):fm cs V may ag (k+1)=fm cs V may ag k:=by
 simp only [fm]
 rw [if_pos h]
theorem XZ {cs:db} {ag:List Int} (h:fT cs ag) {i:Nat} (hi:i<cs.length) (h0:0<=ag.getD i (-1)):cd 310 (jJ cs (cn cs) ag i):=by
 have hw:=Nd h.ok.jI h.ok.ef ag (le_refl cs.length)
 obtain ⟨c1,c2⟩:=afM h hi h0
 have ha:=(h.ok.lU i hi)
 have s1:=Bt (h.set hi (x:= -1) ⟨Int.le_refl _,by omega⟩)
 have q1:=hw.add (c1.mul s1)
 unfold jJ
 split
 ·rename_i hl
  rw [jO hi] at hl
  have s2:=Bt (h.set hi (x:=ag.getD i (-1)+1) ⟨by omega,hl⟩)
  exact (q1.add (c2.mul s2)).le (by decide)
 ·exact q1.le (by decide)
theorem agC {cs:db} {ag:List Int} (h:fT cs ag) (may:List Int->Nat->Bool) {k:Nat} (hk:k<=cs.length):cd 310 ((fm cs (cn cs) may ag k).getD 0):=by
 cases hf:fm cs (cn cs) may ag k with
 | none=>exact cd.zero.le (by decide)
 | some b=>
  obtain ⟨⟨i,a1,a2,_,a4⟩,_⟩:=(JV cs (cn cs) may ag k).2 b hf
  rw [getD_some,a4]
  exact XZ h (by omega) a2
section
variable {cs : db} {v vm : Value} {may : List Int -> Nat -> Bool} {Env : ae -> Prop} {im : Nat}
theorem arC {ag:List Int} (bc:fT cs ag) {h g0:ae} {K:Value->ae->Prop} {ia i8 iw:Nat} (lk:LK h v cs) (eZ:im<h.length) (_:h.length<=ia) (_:h.length<=i8) (hw:h.length<=iw) (hd:ia≠iw/\i8≠iw) (gm:∃k gh es,h[im]?=some (.cw k gh es))
  (xm:XM im h g0) (mp:ph cs im g0) (aw:g0[ia]?=some (.arr 120 (ag.map I))) (x8:nN g0 i8) (wt:Cell g0 iw 0)
  (hk:∀g,pg cs ag im h ia i8 iw g->L4 prog K v vm (.map (some im)) (pt ia 0) (pt i8 0) (pt iw 0) g):
  cO [(.int .i64 (0))] g0 λL1 xs hx=>Wk prog K v vm (.map (some im)) (pt ia 0) (pt i8 0) (pt iw 0) v (I cs.length) L1 xs hx:=by
 have ef:=bc.ok.ef
 have qR:=bc.three
 refine dF (σ:=Nat×ae) (λq=>[I q.1]) (λq=>q.2) (λq=>q.1<=cs.length/\Ch (·=iw) g0 q.2/\Cell q.2 iw (jL cs ag q.1)) (λq=>cs.length-q.1) (0,g0) rfl rfl ⟨zero_le _,Ch.ex (EX.refl _),wt⟩ ?_
 rintro ⟨i,g⟩ ⟨hi,xg,hc⟩ L hL
 simp only at hi xg hc hL⊢
 rw [aG4]
 have X:XM im h g:=Du xm xg λd hd _ e=>by omega
 obtain ⟨kk,gh,es,hm⟩:=gm
 have AZ:=lk.cx (xt X hm)
 simp only [cW,ah,bQ]
 refine ⟨λaF=>?_,λcU=>?_⟩
 rotate_left
 ·have fZ:i=cs.length:=by omega
  subst fZ
  exact hk g ⟨X,mp.ch xg (by omega),xg.get aw hd.1,x8.ch xg hd.2,hc⟩
 have bn:i<cs.length:=by omega
 have gN:∀{g':ae},Ch (·=iw) g0 g'->Cell g' iw (jL cs ag (i+1))->L3 prog K v vm (.map (some im)) (pt ia 0) (pt i8 0) (pt iw 0) v (I cs.length) (I i) L g':=by
  intro g' x' c'
  rw [aG5]
  simp only [cL,ah,ft i (by omega),true_and]
  exact hL (i+1,g') ⟨by show i+1<=_;omega,x',c'⟩ (by show cs.length-(i+1)<cs.length-i;omega)
 obtain ⟨b,o,vq,u1,u2,u3⟩:=AZ.get bn
 have e3:∀g:ae,aV 102 [(.int .i64 (0)),(.int .i64 (0)),(.slice none 0 0)] g=some (pt g.length 0,g++[.arr 102 [I 0,I 0,.slice none 0 0]]):=λ_=>rfl
 obtain ⟨rq,rs,_,_⟩:=id u3.1
 obtain ⟨t1,t2⟩:=rs.one
 simp only [u1,u2,ah,e3,aE]
 have y1:EX g (g++[.arr 102 [I 0,I 0,.slice none 0 0]]):=EX.append _ _
 have j1:(g++[aq.arr 102 [I 0,I 0,.slice none 0 0]])[g.length]?=some (.arr 102 [I 0,I 0,.slice none 0 0]):=br
 generalize g++[aq.arr 102 [I 0,I 0,.slice none 0 0]]=g2 at y1 j1⊢
 rw [MU j1]
 simp only [aE]
 have y2:EX g (g2.set g.length (.arr 102 [I cs[i].1.length,I cs[i].2,vq])):=y1.set (le_refl _) _
 have j2:(g2.set g.length (.arr 102 [I cs[i].1.length,I cs[i].2,vq]))[g.length]?=some (.arr 102 [I cs[i].1.length,I cs[i].2,vq]):=cJ j1
 generalize g2.set g.length (.arr 102 [I cs[i].1.length,I cs[i].2,vq])=g3 at y2 j2⊢
 have x3:Ch (·=iw) g0 g3:=xg.trans (Ch.ex y2)
 have c3:=hc.mono y2
 have a3:=x3.get aw hd.1
 simp only [DW (show i<3 by omega),ah,su a3 (show i<ag.length by omega),oA]
 have Ck:=bc.ok.lU i bn
 by_cases hg:ag.getD i (-1)= -1
 ·rw [bj hg]
  simp only [Bool.not_true,dD]
  refine gN x3 ?_
  simp only [jL]
  rw [if_pos (by omega)]
  exact c3
 ·rw [aY hg]
  obtain ⟨vw,lw,rw_⟩:=c3.load
  have qj:af false 1 g3 (pt g.length 1)=some (I cs[i].2):=by simp [af,aW,j2,cP]
  simp only [Bool.not_false,dA,lw,bZ,add_zero,zero_add,qj,ah,true_and]
  obtain ⟨_,⟨w0,nc⟩,_⟩:=oB (bc.ok.jI _ (getElem_mem bn))
  refine ub (by omega) (by omega) ?_
  intro r4 g4 x4 wy
  refine ⟨⟨EX.load x4 lw,trivial⟩,?_⟩
  refine zi (rw_.mono x4) wy (Nd bc.ok.jI ef ag (Nat.le_of_lt bn)) (GK w0 nc) (by decide) ?_
  intro r5 g5 x5 qW
  have c5:=c3.mono (x4.trans x5)
  obtain ⟨g6,e6,s6,c6,_⟩:=c5.c0.store qW
  simp only [e6,aE]
  refine gN (x3.trans ((Ch.ex (x4.trans x5)).trans s6)) ?_
  simp only [jL]
  rw [if_neg (by omega),jO bn]
  exact c6
end
end
section
section
variable {cs : db} {v vm : Value} {may : List Int -> Nat -> Bool} {Env : ae -> Prop} {im : Nat}
theorem aDX {g:ae} {i k a:Nat} {e:TypeId} {ag:List Int} (hg:g[i]?=some (.arr e (ag.map I))) (hk:k<ag.length) (ea:ag.getD k (-1)=(a:Int)):af false 1 g (pt i k)=some (I a):=by
 rw [su hg hk,ea]
theorem aJ0 (cs:db) (ag:List Int) (k:Nat) {a:Nat} (ea:ag.getD k (-1)=(a:Int)) (hk:k<cs.length):jJ cs (cn cs) ag k=if ((a+1:Nat):Int)<(cs[k].1.length:Int) then jL cs ag cs.length+nw cs ag k*cn cs (ag.set k (-1))+(1-nw cs ag k)*cn cs (ag.set k ((a+1:Nat):Int)) else jL cs ag cs.length+nw cs ag k*cn cs (ag.set k (-1)):=by
 have eA:(a:Int)+1=((a+1:Nat):Int):=by omega
 unfold jJ
 rw [ea,eA,jO hk]
def DT (cs:db) (v vm:Value) (Env:ae->Prop) (im:Nat) (ag:List Int):Prop:=
 ∀{h:ae} {K:Value->ae->Prop},LK h v cs->Env h->ph cs im h->(∀r h',XM im h h'->ph cs im h'->RV h' r (cn cs ag)->K r h')->ak prog 57 [v,gL ag,vm,.map (some im)] h K
theorem arB (Ax:DQ cs v vm may Env) {ag:List Int} (bc:fT cs ag) {h g:ae} {K:Value->ae->Prop} {L:List Value->ae->Prop} {ia i8 iw ib j k:Nat} {fd:Value} {fI jd:Value} (lk:LK h v cs) (Cs:Env h) (gm:∃k gh es,h[im]?=some (.cw k gh es)) (eZ:im<h.length)
  (Ko:h.length<=ia) (h8:h.length<=i8) (hw:h.length<=iw) (_:h.length<=ib) (Fb:bF fI (.bool true) jd=some (B false))
  (hk:k<cs.length) (h0:0<=ag.getD k (-1)) (Bk:DT cs v vm Env im (ag.set k (-1))) (w7:ag.getD k (-1)+1<cs[k].1.length->DT cs v vm Env im (ag.set k (ag.getD k (-1)+1)))
  (f:pg cs ag im h ia i8 iw g) {vq:Value} (hj:g[j]?=some (.arr 102 [I cs[k].1.length,I cs[k].2,vq])) (hjh:h.length<=j) (hq:QB g vq cs[k].1) (lt:ia<g.length/\i8<g.length/\iw<g.length/\ib<g.length/\j<g.length) (_:nN g ib)
  (Az:∀g' ix,Ch (λd=>d=im) g g'->pg cs ag im h ia i8 iw g'->Cell g' ix (jJ cs (cn cs) ag k)->g.length<=ix->L5 prog K v vm (.map (some im)) (pt ia 0) (pt i8 0) (pt iw 0) (pt ib 0) fd (pt ix 0) v (I cs.length) (I k) L g'):
  Gd prog K v vm (.map (some im)) (pt ia 0) (pt i8 0) (pt iw 0) (pt ib 0) fd (I k) (pt j 0) v (I cs.length) (I k) fI jd L g:=by
 have ef:=bc.ok.ef
 have qR:=bc.three
 have EZ:k<3:=by omega
 have jh:k<ag.length:=by omega
 obtain ⟨a,ea⟩:∃a:Nat,ag.getD k (-1)=(a:Int):=⟨(ag.getD k (-1)).toNat,by omega⟩
 have jP:=(bc.ok.lU k hk).2
 rw [ea] at jP w7
 obtain ⟨⟨_,l8⟩,⟨w0,nc⟩,pW,_⟩:=oB (bc.ok.jI _ (getElem_mem hk))
 have ahf:=bc.ok.jI _ (getElem_mem hk)
 have sW:a<cs[k].1.length:=by omega
 obtain ⟨FI,lt2,lt3,lt4,lt5⟩:=lt
 rw [apI,Fb]
 have eA:∀g:ae,aV 120 [(.int .i64 (0)),(.int .i64 (0)),(.int .i64 (0))] g=some (pt g.length 0,g++[.arr 120 [I 0,I 0,I 0]]):=λ_=>rfl
 have Vg:∀{g:ae} {i:Nat},g[i]?=some (.arr 120 [I 0,I 0,I 0])->dh g (pt i 0)=some (.agg #[.int .i64 120,I 0,I 0,I 0]):=λ{g i} hi=>by simp [dh,yD,hi,oD]
 simp only [ah,dD,eA,aE,length_append,length_cons,length_nil,zero_add]
 -- gB two new lists of lU
 have y1:EX g (g++[.arr 120 [I 0,I 0,I 0]]):=EX.append _ _
 have j1:(g++[aq.arr 120 [I 0,I 0,I 0]])[g.length]?=some (.arr 120 [I 0,I 0,I 0]):=br
 have e1:(g++[aq.arr 120 [I 0,I 0,I 0]]).length=g.length+1:=by simp
 generalize g++[aq.arr 120 [I 0,I 0,I 0]]=g1 at y1 j1 e1⊢
 have y2:EX g1 (g1++[.arr 120 [I 0,I 0,I 0]]):=EX.append _ _
 have j2:(g1++[aq.arr 120 [I 0,I 0,I 0]])[g.length+1]?=some (.arr 120 [I 0,I 0,I 0]):=by rw [<-e1];exact br
 have e2:(g1++[aq.arr 120 [I 0,I 0,I 0]]).length=g.length+2:=by rw [length_append,e1];rfl
 generalize g1++[aq.arr 120 [I 0,I 0,I 0]]=g2 at y2 j2 e2⊢
 have lA:af true 3 g (pt ia 0)=some (gL ag):=wR f.aw qR
 have lA1:=EX.load y1 lA
 have lA2:=EX.load y2 lA1
 have Uu:=y2.get j1
 simp only [Vg j1,Vg Uu,Vg j2,ah,true_and,lA,lA1,lA2]
 rw [MV Uu qR]
 have y3:EX g (g2.set g.length (.arr 120 (ag.map I))):=(y1.trans y2).set (le_refl _) _
 have k3:(g2.set g.length (.arr 120 (ag.map I)))[g.length]?=some (.arr 120 (ag.map I)):=cJ Uu
 have m3:(g2.set g.length (.arr 120 (ag.map I)))[g.length+1]?=some (.arr 120 [I 0,I 0,I 0]):=by rw [getElem?_set_ne (by omega)];exact j2
 have e3:(g2.set g.length (.arr 120 (ag.map I))).length=g.length+2:=by rw [length_set];exact e2
 simp only [aE]
 generalize g2.set g.length (.arr 120 (ag.map I))=g3 at y3 k3 m3 e3⊢
 simp only [EX.load y3 lA,true_and]
 rw [MV m3 qR]
 have y4:EX g (g3.set (g.length+1) (.arr 120 (ag.map I))):=y3.set (by omega) _
 have k4:(g3.set (g.length+1) (.arr 120 (ag.map I)))[g.length]?=some (.arr 120 (ag.map I)):=by rw [getElem?_set_ne (by omega)];exact k3
 have m4:(g3.set (g.length+1) (.arr 120 (ag.map I)))[g.length+1]?=some (.arr 120 (ag.map I)):=cJ m3
 have e4:(g3.set (g.length+1) (.arr 120 (ag.map I))).length=g.length+2:=by rw [length_set];exact e3
 simp only [aE,DW EZ,ah]
 generalize g3.set (g.length+1) (.arr 120 (ag.map I))=g4 at y4 k4 m4 e4⊢
 rw [show (Value.int IntKind.i64 (-1))=I (-1) from rfl,GF k4 jh]
 have y5:EX g (g4.set g.length (.arr 120 ((ag.set k (-1)).map I))):=y4.set (le_refl _) _
 have k5:(g4.set g.length (.arr 120 ((ag.set k (-1)).map I)))[g.length]?=some (.arr 120 ((ag.set k (-1)).map I)):=cJ k4
 have m5:(g4.set g.length (.arr 120 ((ag.set k (-1)).map I)))[g.length+1]?=some (.arr 120 (ag.map I)):=by rw [getElem?_set_ne (by omega)];exact m4
 have e5:(g4.set g.length (.arr 120 ((ag.set k (-1)).map I))).length=g.length+2:=by rw [length_set];exact e4
 simp only [aE]
 generalize g4.set g.length (.arr 120 ((ag.set k (-1)).map I))=g5 at y5 k5 m5 e5⊢
 have w1:IntKind.wrap .i64 ((a:Int)+1)=((a+1:Nat):Int):=by rw [wrap64 (by omega) (by omega)];omega
 simp only [su m5 jh,ea,ah,cL,w1]
 rw [GF m5 jh]
 have y6:EX g (g5.set (g.length+1) (.arr 120 ((ag.set k ((a+1:Nat):Int)).map I))):=y5.set (by omega) _
 have k6:(g5.set (g.length+1) (.arr 120 ((ag.set k ((a+1:Nat):Int)).map I)))[g.length]?=some (.arr 120 ((ag.set k (-1)).map I)):=by rw [getElem?_set_ne (by omega)];exact k5
 have m6:(g5.set (g.length+1) (.arr 120 ((ag.set k ((a+1:Nat):Int)).map I)))[g.length+1]?=some (.arr 120 ((ag.set k ((a+1:Nat):Int)).map I)):=cJ m5
 have e6:(g5.set (g.length+1) (.arr 120 ((ag.set k ((a+1:Nat):Int)).map I))).length=g.length+2:=by rw [length_set];exact e5
 simp only [aE]
 generalize g5.set (g.length+1) (.arr 120 ((ag.set k ((a+1:Nat):Int)).map I))=g6 at y6 k6 m6 e6⊢
 have e7:∀g:ae,aV 107 [(.bool false),(.slice none 0 0),(.bool false),(.slice none 0 0)] g=some (pt g.length 0,g++[.arr 107 z4]):=λ_=>rfl
 simp only [e7,aE,e6]
 have y7:EX g6 (g6++[.arr 107 z4]):=EX.append _ _
 have n7:(g6++[aq.arr 107 z4])[g.length+2]?=some (.arr 107 z4):=by rw [<-e6];exact br
 have RW:(g6++[aq.arr 107 z4]).length=g.length+3:=by rw [length_append,e6];rfl
 generalize g6++[aq.arr 107 z4]=g7 at y7 n7 RW⊢
 have Nn:EX g g7:=y6.trans y7
 -- gB aKZ
 have f7:=f.ex Nn eZ
 have f6:=f.ex y6 eZ
 have hj6:=y6.get hj
 have Th:=Nn.get hj
 have FH:∀{g':ae},g'[j]?=some (.arr 102 [I cs[k].1.length,I cs[k].2,vq])->af false 1 g' (pt j 2)=some vq:=λhh=>by simp [af,aW,hh,cP]
 obtain ⟨bq,oq,rq,u1,u2,u3⟩:=(hq.1.mono y6).get sW
 have M3:=EX.load y7 u2
 have u3':=u3.mono y7
 simp only [rp n7,ah,true_and,bZ,zero_add,add_zero,FH hj6,FH Th,su f6.aw jh,su f7.aw jh,ea,u1,u2,M3,K9 hj6,K9 Th]
 have s4:=vV pW
 refine NF (hq.1.mono Nn) (Nat.le_of_lt sW) s4 (by omega) ?_
 intro r8 g8 x8 TC
 have hj8:=x8.get Th
 have f8:=f7.ex x8 eZ
 refine ⟨⟨rp (x8.get n7),FH hj8,aDX f8.aw jh ea,EX.load x8 M3,trivial⟩,?_⟩
 have hp:=xW ahf sW
 rw [CU] at hp
 refine Zz (u3'.mono x8) TC hp (s4 _ (getElem_mem sW)) (uA ahf a) (by decide) ?_
 intro r9 g9 x9 CC
 have n9:=(x8.trans x9).get n7
 have ech:cs[k].1[a] / cR (cs[k].1.drop a)=nw cs ag k:=by
  unfold nw
  rw [jO hk,ea,toNat_natCast,jO sW]
 rw [ech] at CC
 refine ⟨⟨rp n9,trivial⟩,?_⟩
 obtain ⟨gj,vQ,mL,BX,l10⟩:=nN.store (i:=g.length+2) ⟨_,_,_,_,n9⟩ CC
 have gQ:EX g7 g9:=x8.trans x9
 have lt9:g7.length<=g9.length:=gQ.1
 have Nr:Ch (·=g.length+2) g gj:=(Ch.ex (Nn.trans gQ)).trans mL
 have f10:=f.ch Nr (λd hd e=>by omega) eZ (by omega) (by omega) (by omega)
 have Zx:Ch (·=g.length+2) g7 gj:=(Ch.ex gQ).trans mL
 have FA:=Zx.get (y7.get k6) (by omega)
 have m10:=Zx.get (y7.get m6) (by omega)
 have aBt:=Nr.get hj (by omega)
 simp only [vQ,aE]
 -- a cell for gB sum
 have nh:EX gj (gj++[.arr 107 z4]):=EX.append _ _
 have lM:(gj++[aq.arr 107 z4])[gj.length]?=some (.arr 107 z4):=br
 have hix:g.length+3<=gj.length:=by omega
 generalize aLk:gj.length=ix at lM hix⊢
 generalize gj++[aq.arr 107 z4]=qN at nh lM⊢
 have f11:=f10.ex nh eZ
 have zL:=BX.mono nh
 obtain ⟨vw,ajq,_⟩:=f10.wt.load
 have UT:=EX.load nh ajq
 obtain ⟨vc,ai9,_⟩:=BX.load
 have UC:=EX.load nh ai9
 have hrc:RV qN vc (nw cs ag k):=by
  obtain ⟨v',l',r'⟩:=zL.load
  rw [UC] at l'
  cases l'
  exact r'
 have KH:RV qN vw (jL cs ag cs.length):=by
  obtain ⟨v',l',r'⟩:=f11.wt.load
  rw [UT] at l'
  cases l'
  exact r'
 have k11:=nh.get FA
 have ajk:af true 3 gj (pt g.length 0)=some (gL (ag.set k (-1))):=wR FA (by rw [length_set];exact qR)
 simp only [rp lM,ah,true_and,UT,ajq,UC,ai9,EX.load nh ajk,ajk]
 -- done
 obtain ⟨kk,gh,es,hm⟩:=gm
 have AZ:∀{g':ae},XM im h g'->LK g' v cs/\Env g':=λX=>⟨lk.cx (xt X hm),Ax.env (xt X hm) Cs⟩
 obtain ⟨aDV,aAe⟩:=AZ f11.xm
 refine Bk aDV aAe f11.mp ?_
 intro w6 Cc aD aEd aBT
 have zf:=YM f11.mp aD
 have f12:=f11.Gx aD aEd (by omega) (by omega) (by omega)
 have Iu:=zL.ch zf (show ¬(g.length+2=im) by omega)
 have U6:=zf.get lM (show ¬(ix=im) by omega)
 have same:∀{d:Nat} (HU:Bool) (n o:Nat),d<qN.length->d≠im->af HU n Cc (pt d o)=af HU n qN (pt d o):=λ{d} HU n o hd hi=>La (aD.2 d hd hi) HU n o
 have aLB:ix<qN.length:=(bz lM).1
 have ajr:af true 4 Cc (pt iw 0)=some vw:=by rw [same true 4 0 (by omega) (by omega)];exact UT
 have aDO:af true 4 Cc (pt (g.length+2) 0)=some vc:=by rw [same true 4 0 (by omega) (by omega)];exact UC
 refine ⟨⟨rp U6,ajr,aDO,trivial⟩,?_⟩
 have kC:=Nd bc.ok.jI ef ag (le_refl cs.length)
 obtain ⟨z1,z2⟩:=afM bc hk h0
 have t1:=Bt (bc.set hk (x:= -1) ⟨Int.le_refl _,by omega⟩)
 refine NG (hrc.ch zf) aBT z1 t1 (by decide) ?_
 intro r13 nz aB aBU
 refine ⟨⟨rp (aB.get U6),EX.load aB ajr,trivial⟩,?_⟩
 refine zi ((KH.ch zf).mono aB) aBU kC (z1.mul t1) (by decide) ?_
 intro r14 py aA aBV
 have bL:=aB.trans aA
 have n14:=bL.get U6
 refine ⟨⟨rp n14,trivial⟩,?_⟩
 obtain ⟨vW,RP,yK,sQ,l15⟩:=nN.store (i:=ix) ⟨_,_,_,_,n14⟩ aBV
 simp only [RP,aE]
 have f14:=f12.ex bL eZ
 have hC:∀{g' St:ae},Ch (λd=>d=im) g g'->Ch (·=ix) g' St->Ch (λd=>d=im) g St:=λ{g' St} p q=>
  ⟨le_trans p.len q.len,λd hd hc=>(q.old d (Nat.lt_of_lt_of_le hd p.len) (by omega)).trans (p.old d hd hc),p.kp.trans q.kp⟩
 have G10:Ch (λd=>d=im) g gj:=Nr.mono λd hd e=>by omega
 have G11:Ch (λd=>d=im) g qN:=G10.trans (Ch.ex nh)
 have G12:Ch (λd=>d=im) g Cc:=G11.trans zf
 have G14:Ch (λd=>d=im) g py:=G12.trans (Ch.ex bL)
 have ZH:=hC G14 yK
 have f15:=f14.ch yK (λd hd e=>by omega) eZ (by omega) (by omega) (by omega)
 have awJ:=(Iu.mono bL).ch yK (show ¬(g.length+2=ix) by omega)
 have m15:=yK.get (bL.get (zf.get (nh.get m10) (show ¬(g.length+1=im) by omega))) (show ¬(g.length+1=ix) by omega)
 have aBu:=yK.get (bL.get (zf.get (nh.get aBt) (show ¬(j=im) by omega))) (show ¬(j=ix) by omega)
 have UO:af false 1 vW (pt j 0)=some (I cs[k].1.length):=by simp [af,aW,aBu,cP]
 have aBy:k<(ag.set k ((a+1:Nat):Int)).length:=by rw [length_set];exact jh
 have gs:(ag.set k ((a+1:Nat):Int)).getD k (-1)=((a+1:Nat):Int):=by rw [EE jh,if_pos rfl]
 simp only [su m15 aBy,gs,ah,UO,cW,bQ]
 have zW:=aJ0 cs ag k ea hk
 refine ⟨λaF=>?_,λcU=>?_⟩
 rotate_left
 ·rw [if_neg cU] at zW
  refine Az vW ix ZH f15 ?_ (by omega)
  rw [zW]
  exact sQ
 ·rw [if_pos aF] at zW
  obtain ⟨v16,K1,Xq⟩:=sQ.load
  obtain ⟨vc2,aja,aIG⟩:=awJ.load
  simp only [K1,ah]
  refine ub (n:=1) (by decide) (by decide) ?_
  intro r17 Sv bK Tz
  have Tz:RV Sv r17 1:=Tz
  refine ⟨⟨EX.load bK K1,trivial⟩,?_⟩
  simp only [EX.load bK aja,aja,ah,true_and]
  refine C96 Tz (aIG.mono bK) Vj z1 (by decide) ?_
  intro r18 g18 aS aBW
  have fO:=bK.trans aS
  have lm:af true 3 vW (pt (g.length+1) 0)=some (gL (ag.set k ((a+1:Nat):Int))):=wR m15 (by rw [length_set];exact qR)
  refine ⟨⟨EX.load fO K1,trivial⟩,?_⟩
  simp only [EX.load fO lm,EX.load bK lm,lm,ah,true_and]
  have f18:=f15.ex fO eZ
  obtain ⟨aDW,aAf⟩:=AZ f18.xm
  have e1a:(a:Int)+1=((a+1:Nat):Int):=by omega
  rw [e1a] at w7
  refine w7 aF aDW aAf f18.mp ?_
  intro r19 g19 aK aEf aBX
  have G6:=YM f18.mp aK
  have f19:=f18.Gx aK aEf (by omega) (by omega) (by omega)
  have adm:=sQ.mono fO
  have Q2:=adm.ch G6 (show ¬(ix=im) by omega)
  have K4:af true 4 g19 (pt ix 0)=some v16:=by
   rw [La (aK.2 ix adm.lt (by omega))]
   exact EX.load fO K1
  refine ⟨⟨K4,trivial⟩,?_⟩
  have t2:=Bt (bc.set hk (x:=((a+1:Nat):Int)) ⟨by omega,aF⟩)
  refine NG (aBW.ch G6) aBX z2 t2 (by decide) ?_
  intro r20 g20 aU aBY
  refine ⟨⟨EX.load aU K4,trivial⟩,?_⟩
  refine zi (((Xq.mono fO).ch G6).mono aU) aBY (kC.add (z1.mul t1)) (z2.mul t2) (by decide) ?_
  intro r21 g21 ba aBZ
  have iU:=aU.trans ba
  obtain ⟨g22,RT,s22,BY,_⟩:=(Q2.mono iU).c0.store aBZ
  simp only [RT,aE]
  have f21:=f19.ex iU eZ
  have G22:=hC ((((ZH.trans (Ch.ex fO)).trans G6).trans (Ch.ex iU))) s22
  refine Az g22 ix G22 (f21.ch s22 (λd hd e=>by omega) eZ (by omega) (by omega) (by omega)) ?_ (by omega)
  rw [zW]
  exact BY
end
end
section
section
variable {cs : db} {v vm : Value} {may : List Int -> Nat -> Bool} {Env : ae -> Prop} {im : Nat}
theorem abu (g:ae):aV 107 [(.bool false),(.slice none 0 0),(.bool false),(.slice none 0 0)] g=some (pt g.length 0,g++[.arr 107 z4]):=rfl
theorem Rp (g:ae):nN (g++[.arr 107 z4]) g.length:=⟨_,_,_,_,br⟩
theorem arA (Ax:DQ cs v vm may Env) {ag:List Int} (bc:fT cs ag) (Ay:cn cs ag=(fm cs (cn cs) may ag cs.length).getD 0)
  (Bk:∀k,k<cs.length->0<=ag.getD k (-1)->DT cs v vm Env im (ag.set k (-1))) (w7:∀k (hk:k<cs.length),0<=ag.getD k (-1)->ag.getD k (-1)+1<cs[k].1.length->DT cs v vm Env im (ag.set k (ag.getD k (-1)+1)))
  {h g0:ae} {K:Value->ae->Prop} {ia i8 iw:Nat} (lk:LK h v cs) (Cs:Env h) (gm:∃k gh es,h[im]?=some (.cw k gh es)) (eZ:im<h.length) (Ko:h.length<=ia) (h8:h.length<=i8) (hw:h.length<=iw) (_:ia≠i8/\i8≠iw)
  (f:pg cs ag im h ia i8 iw g0) (hk:∀r h',XM im h h'->ph cs im h'->RV h' r (cn cs ag)->K r h'):
  L4 prog K v vm (.map (some im)) (pt ia 0) (pt i8 0) (pt iw 0) g0:=by
 have ef:=bc.ok.ef
 have qR:=bc.three
 rw [aG6]
 refine ub (n:=0) (by decide) (by decide) ?_
 intro r1 g1 x1 Cz
 have Cz:RV g1 r1 0:=Cz
 simp only [abu,aE]
 have x2:EX g1 (g1++[.arr 107 z4]):=EX.append _ _
 have n2:=Rp g1
 have f1:=f.ex x1 eZ
 have l8:=f1.x8.lt
 have lw:=f1.wt.lt
 have la:=(bz f1.aw).1
 generalize aLh:g1.length=ib at n2 l8 lw la⊢
 generalize g1++[aq.arr 107 z4]=g2 at x2 n2⊢
 obtain ⟨g3,e3,s3,c3,_⟩:=n2.store (Cz.mono x2)
 have uJ:h.length<=ib:=by have:=f1.xm.1;omega
 have f3:=(f1.ex x2 eZ).ch s3 (λd hd e=>by omega) eZ (by omega) (by omega) (by omega)
 simp only [e3,aE,lk.len,ah]
 obtain ⟨kk,gh,es,hm⟩:=id gm
 refine dF (σ:=Nat×ae) (λq=>[B (fm cs (cn cs) may ag q.1).isSome,I q.1]) (λq=>q.2) (λq=>q.1<=cs.length/\pg cs ag im h ia i8 iw q.2/\Cell q.2 ib ((fm cs (cn cs) may ag q.1).getD 0)) (λq=>cs.length-q.1) (0,g3) rfl rfl ⟨zero_le _,f3,c3⟩ ?_
 rintro ⟨k,g⟩ ⟨hi,fg,hc⟩ L hL
 simp only at hi fg hc hL⊢
 rw [aG7]
 simp only [cW,ah,bQ]
 refine ⟨λaF=>?_,λcU=>?_⟩
 rotate_left
 ·-- all jI aKv aLR
  have fZ:k=cs.length:=by omega
  subst fZ
  rw [<-Ay] at hc
  rw [aHc]
  obtain ⟨vb,lb,rb⟩:=hc.load
  obtain ⟨iJ,iK,fq,iM⟩:=id fg.mp
  have up:wV (.ints 3 .i64) g (.map (some im)) (gL ag) vb=some (undef,g.set im (.cw (.ints 3 .i64) (kN iJ (gL ag) iK) (ju iJ (gL ag) vb iK))):=by
   have ht:jq vb=true:=by obtain ⟨_,_,_,_,rfl⟩:=rb.agg;rfl
   simp [wV,AQ,fq,ai2 bc,ht]
  simp only [wR fg.aw qR,lb,ah,up,aE]
  have cx:CX g (g.set im (.cw (.ints 3 .i64) (kN iJ (gL ag) iK) (ju iJ (gL ag) vb iK))):=CX.ju fq
  have C1:Ch (·=im) g (g.set im (.cw (.ints 3 .i64) (kN iJ (gL ag) iK) (ju iJ (gL ag) vb iK))):=⟨by simp,λd _ hd=>getElem?_set_ne λh=>hd h.symm,uX cx⟩
  have A9:ph cs im (g.set im (.cw (.ints 3 .i64) (kN iJ (gL ag) iK) (ju iJ (gL ag) vb iK))):=by
   refine ⟨_,_,cJ fq,λe he=>?_⟩
   rcases aqp he with he | ⟨e1,e2⟩
   ·obtain ⟨DX,a,b⟩:=iM e he
    exact ⟨DX,a,b.ch C1⟩
   ·exact ⟨ag,e1,by rw [e2];exact rb.ch C1⟩
  have c4:=hc.ch C1 (show ¬(ib=im) by omega)
  have eB:=fg.x8.ch C1 (show ¬(i8=im) by omega)
  have X4:XM im h (g.set im (.cw (.ints 3 .i64) (kN iJ (gL ag) iK) (ju iJ (gL ag) vb iK))):=fg.xm.set _
  generalize g.set im (.cw (.ints 3 .i64) (kN iJ (gL ag) iK) (ju iJ (gL ag) vb iK))=g4 at C1 A9 c4 eB X4⊢
  obtain ⟨v4,l4,r4⟩:=c4.load
  obtain ⟨g5,e5,s5,c5,_⟩:=eB.store r4
  obtain ⟨v5,l5,r5⟩:=c5.load
  simp only [l4,ah,e5,aE,l5]
  exact hk v5 g5 (Du X4 s5 λd hd _ e=>by omega) (A9.ch s5 (show ¬(im=i8) by omega)) r5
 have bn:k<cs.length:=by omega
 have jh:k<ag.length:=by omega
 have gN:∀{g':ae} (b:Bool),pg cs ag im h ia i8 iw g'->b=(fm cs (cn cs) may ag (k+1)).isSome->Cell g' ib ((fm cs (cn cs) may ag (k+1)).getD 0)->Gf prog K v vm (.map (some im)) (pt ia 0) (pt i8 0) (pt iw 0) (pt ib 0) (B b) v (I cs.length) (I k) L g':=by
  intro g' b f' jZ c'
  rw [aHb]
  simp only [cL,ah,ft k (by omega),true_and]
  have:=hL (k+1,g') ⟨by show k+1<=_;omega,f',c'⟩ (by show cs.length-(k+1)<cs.length-k;omega)
  rw [jZ]
  exact this
 have X:=fg.xm
 have AZ:=lk.cx (xt X hm)
 obtain ⟨b,o,vq,u1,u2,u3⟩:=AZ.get bn
 obtain ⟨rq,rs,_,_⟩:=id u3.1
 obtain ⟨t1,t2⟩:=rs.one
 have e3':∀g:ae,aV 102 [(.int .i64 (0)),(.int .i64 (0)),(.slice none 0 0)] g=some (pt g.length 0,g++[.arr 102 [I 0,I 0,.slice none 0 0]]):=λ_=>rfl
 simp only [u1,u2,ah,e3',aE]
 have y1:EX g (g++[.arr 102 [I 0,I 0,.slice none 0 0]]):=EX.append _ _
 have j1:(g++[aq.arr 102 [I 0,I 0,.slice none 0 0]])[g.length]?=some (.arr 102 [I 0,I 0,.slice none 0 0]):=br
 generalize g++[aq.arr 102 [I 0,I 0,.slice none 0 0]]=g6 at y1 j1⊢
 rw [MU j1]
 simp only [aE]
 have y2:EX g (g6.set g.length (.arr 102 [I cs[k].1.length,I cs[k].2,vq])):=y1.set (le_refl _) _
 have j2:(g6.set g.length (.arr 102 [I cs[k].1.length,I cs[k].2,vq]))[g.length]?=some (.arr 102 [I cs[k].1.length,I cs[k].2,vq]):=cJ j1
 generalize g6.set g.length (.arr 102 [I cs[k].1.length,I cs[k].2,vq])=g7 at y2 j2⊢
 have f7:=fg.ex y2 eZ
 have c7:=hc.mono y2
 have Ck:=bc.ok.lU k bn
 simp only [DW (show k<3 by omega),ah,su f7.aw jh,hY]
 have skip:∀{g':ae} (t u:Value),EX g7 g'->(ag.getD k (-1)<0∨may ag k=false)->bF t (.bool true) u=some (B true)->Gd prog K v vm (.map (some im)) (pt ia 0) (pt i8 0) (pt iw 0) (pt ib 0) (B (fm cs (cn cs) may ag k).isSome) (I k) (pt g.length 0) v (I cs.length) (I k) t u L g':=by
  intro g' t u x' hs ht
  rw [apI,ht]
  simp only [ah,dA]
  refine gN _ (f7.ex x' eZ) (by rw [JU cs (cn cs) may ag hs]) ?_
  rw [JU cs (cn cs) may ag hs]
  exact c7.mono x'
 rw [aG8]
 by_cases hg:ag.getD k (-1)= -1
 ·rw [bj hg]
  simp only [fW]
  exact skip _ _ (EX.refl _) (.inl (by omega)) rfl
 have h0:0<=ag.getD k (-1):=by omega
 rw [aY hg]
 simp only [eL,wR f7.aw qR,ah]
 refine Ax.call bc bn (AZ.mono y2) (Ax.env (xt f7.xm hm) Cs) ?_
 intro g8 x8
 simp only [oW,ah]
 cases Kx:may ag k with
 | false=>exact skip _ _ x8 (.inr Kx) rfl
 | true=>
  have f8:=f7.ex x8 eZ
  have lt8:g7.length<=g8.length:=x8.1
  have ltj:g.length<g7.length:=(bz j2).1
  have la7:=(bz f7.aw).1
  have l87:=f7.x8.lt
  have lw7:=f7.wt.lt
  have lb7:=c7.lt
  have hgh:h.length<=g.length:=fg.xm.1
  refine arB Ax bc lk Cs gm eZ Ko h8 hw uJ rfl bn h0 (Bk k bn h0) (w7 k bn h0) f8 (x8.get j2) hgh (u3.mono (y2.trans x8)) ⟨by omega,by omega,by omega,by omega,by omega⟩ (c7.mono x8).c0 ?_
  intro g9 ix C9 f9 c9 hix
  have Rm:Cell g9 ib _:=(c7.mono x8).ch C9 (show ¬(ib=im) by omega)
  have bt:ib≠ix:=by have:=(c7.mono x8).lt;omega
  have en:=agB cs (cn cs) may ag h0 Kx
  rw [aG9]
  simp only [oW,ah]
  rw [aHa]
  obtain ⟨v9,l9,r9⟩:=c9.load
  obtain ⟨vb,lb,rb⟩:=Rm.load
  have take:∀{g':ae} (t u:Value),EX g9 g'->fm cs (cn cs) may ag (k+1)=some (jJ cs (cn cs) ag k)->bF t (.bool true) u=some (B true)->Ge prog K v vm (.map (some im)) (pt ia 0) (pt i8 0) (pt iw 0) (pt ib 0) (B (fm cs (cn cs) may ag k).isSome) (pt ix 0) v (I cs.length) (I k) t u L g':=by
   intro g' t u x' he ht
   rw [apJ,ht]
   obtain ⟨gj,vQ,mL,BX,_⟩:=(Rm.mono x').c0.store (r9.mono x')
   simp only [ah,dA,EX.load x' l9,vQ,aE]
   refine gN true ((f9.ex x' eZ).ch mL (λd hd e=>by omega) eZ (by omega) (by omega) (by omega)) (by rw [he];rfl) ?_
   rw [he]
   exact BX
  have stay:∀{g':ae} (t u:Value),EX g9 g'->fm cs (cn cs) may ag (k+1)=fm cs (cn cs) may ag k->bF t (.bool true) u=some (B false)->Ge prog K v vm (.map (some im)) (pt ia 0) (pt i8 0) (pt iw 0) (pt ib 0) (B (fm cs (cn cs) may ag k).isSome) (pt ix 0) v (I cs.length) (I k) t u L g':=by
   intro g' t u x' he ht
   rw [apJ,ht]
   simp only [ah,dD]
   refine gN _ (f9.ex x' eZ) (by rw [he]) ?_
   rw [he]
   exact Rm.mono x'
  cases hs:(fm cs (cn cs) may ag k).isSome with
  | false=>
   rw [hs] at take en
   simp only [Bool.not_false,fW]
   exact take _ _ (EX.refl _) (by rw [en,if_neg (λh=>by cases h.1)]) rfl
  | true=>
   rw [hs] at take stay en
   simp only [Bool.not_true,eL,l9,lb,ah]
   refine G9 r9 rb (XZ bc bn h0) (agC bc may (Nat.le_of_lt bn)) (by decide) ?_
   intro gj ay
   have aF:decide (lW (jJ cs (cn cs) ag k) ((fm cs (cn cs) may ag k).getD 0)<0)=decide (jJ cs (cn cs) ag k<(fm cs (cn cs) may ag k).getD 0):=by
    rw [decide_eq_decide]
    unfold lW
    split
    ·rename_i he;rw [he];constructor
     ·intro h;omega
     ·intro h;exact absurd h (by grind)
    ·split
     ·rename_i h;exact ⟨λ_=>h,λ_=>by decide⟩
     ·rename_i h;exact ⟨λh1=>by omega,λh1=>absurd h1 h⟩
   simp only [cW,ah,aF]
   by_cases hx:jJ cs (cn cs) ag k<(fm cs (cn cs) may ag k).getD 0
   ·rw [bj hx]
    exact take _ _ ay (by rw [en,if_neg (λh=>h.2 hx)]) rfl
   ·rw [aY hx]
    exact stay _ _ ay (by rw [en,if_pos ⟨rfl,hx⟩]) rfl
theorem Zp (Ax:DQ cs v vm may Env) (Ay:∀{ag},fT cs ag->cn cs ag=(fm cs (cn cs) may ag cs.length).getD 0):∀(n:Nat) (ag:List Int),FN cs ag<n->fT cs ag->DT cs v vm Env im ag:=by
 intro n
 induction n with
 | zero=>intro ag h;omega
 | succ n ih=>
  intro ag hmu bc h K lk Cs mp hk
  have ef:=bc.ok.ef
  have qR:=bc.three
  obtain ⟨gh,es,hm,iM⟩:=id mp
  have eZ:=mp.lt
  refine f57 ?_
  have e0:bp 120 h (gL ag)=some (pt h.length 0,h++[.arr 120 (ag.map I)]):=by
   obtain ⟨a,b,c,rfl⟩:=Bs qR
   rfl
  simp only [PN,e0,aE,abu,length_append,length_cons,length_nil,zero_add]
  have x1:EX h (h++[.arr 120 (ag.map I)]):=EX.append _ _
  have k1:(h++[aq.arr 120 (ag.map I)])[h.length]?=some (.arr 120 (ag.map I)):=br
  have l1:(h++[aq.arr 120 (ag.map I)]).length=h.length+1:=by simp
  generalize h++[aq.arr 120 (ag.map I)]=g1 at x1 k1 l1⊢
  have x2:EX g1 (g1++[.arr 107 z4]):=EX.append _ _
  have n2:=Rp g1
  have l2:(g1++[aq.arr 107 z4]).length=h.length+2:=by rw [length_append,l1];rfl
  rw [l1] at n2
  rw [show h.length+1+1=h.length+2 from rfl]
  generalize g1++[aq.arr 107 z4]=g2 at x2 n2 l2⊢
  have aD:=x1.trans x2
  have k2:=x2.get k1
  have uM:=aD.get hm
  have UP:uR (.ints 3 .i64) true (.agg #[(.bool false),(.slice none 0 0),(.bool false),(.slice none 0 0)]) g2 (.map (some im)) (gL ag)=some (.tuple #[(px (gL ag) es).getD (.agg #[(.bool false),(.slice none 0 0),(.bool false),(.slice none 0 0)]),B (px (gL ag) es).isSome]):=by
   simp [uR,uM,ai2 bc]
  simp only [wR k2 qR,ah,UP,eR,fv,fz]
  have x3:EX g2 (g2++[.arr 107 z4]):=EX.append _ _
  have n3:(g2++[aq.arr 107 z4])[h.length+2]?=some (.arr 107 z4):=by rw [<-l2];exact br
  have l3:(g2++[aq.arr 107 z4]).length=h.length+3:=by rw [length_append,l2];rfl
  generalize g2++[aq.arr 107 z4]=g3 at x3 n3 l3⊢
  have aB:=aD.trans x3
  have mp3:ph cs im g3:=mp.ch (Ch.ex (c:=λ_=>False) aB) (λh=>h)
  have B0:nN g3 (h.length+1):=let ⟨a,b,c,d,e⟩:=n2;⟨a,b,c,d,x3.get e⟩
  cases hf:px (gL ag) es with
  | some val=>
   obtain ⟨e,he,tk,cf⟩:=agw hf
   obtain ⟨DX,ek,hr⟩:=iM e he
   rw [ek] at tk
   have:=aDI tk
   subst this
   rw [cf] at hr
   obtain ⟨g4,e4,s4,c4,_⟩:=nN.store (i:=h.length+2) ⟨_,_,_,_,n3⟩ (hr.mono aB)
   simp only [getD_some,Option.isSome_some,e4,aE,dA]
   obtain ⟨v4,q4,r4⟩:=c4.load
   obtain ⟨g5,e5,s5,c5,_⟩:=(B0.ch s4 (show ¬(h.length+1=h.length+2) by omega)).store r4
   obtain ⟨v5,q5,r5⟩:=c5.load
   simp only [q4,ah,e5,aE,q5]
   refine hk v5 g5 ?_ ?_ r5
   ·exact Du (Du (XM.ex aB) s4 λd hd _ e=>by omega) s5 λd hd _ e=>by omega
   ·exact (mp3.ch s4 (show ¬(im=h.length+2) by omega)).ch s5 (show ¬(im=h.length+1) by omega)
  | none=>
   simp only [Option.getD_none,Option.isSome_none]
   rw [m8 n3]
   have x4:EX g2 (g3.set (h.length+2) (.arr 107 [.bool false,.slice none 0 0,.bool false,.slice none 0 0])):=x3.set (by omega) _
   simp only [aE,dD]
   generalize g3.set (h.length+2) (.arr 107 [.bool false,.slice none 0 0,.bool false,.slice none 0 0])=g4 at x4⊢
   refine ub (n:=0) (by decide) (by decide) ?_
   intro r5 g5 x5 qW
   have qW:RV g5 r5 0:=qW
   have bX:=x4.trans x5
   have aP:=aD.trans bX
   have x6:EX g5 (g5++[.arr 107 z4]):=EX.append _ _
   have n6:=Rp g5
   have l5:h.length+2<=g5.length:=by have:=bX.1;omega
   generalize hiw:g5.length=iw at n6 l5⊢
   generalize g5++[aq.arr 107 z4]=g6 at x6 n6⊢
   obtain ⟨g7,e7,s7,c7,_⟩:=n6.store (qW.mono x6)
   simp only [e7,aE,lk.len,ah]
   have aL:=aP.trans x6
   have mp6:ph cs im g6:=mp.ch (Ch.ex (c:=λ_=>False) aL) (λh=>h)
   have Jj:nN g6 (h.length+1):=let ⟨a,b,c,d,e⟩:=n2;⟨a,b,c,d,(bX.trans x6).get e⟩
   have k6:=(bX.trans x6).get k2
   refine arC bc lk eZ (le_refl _) (by omega) (by omega) ⟨by omega,by omega⟩ ⟨_,gh,es,hm⟩ (Du (XM.ex aL) s7 λd hd _ e=>by omega) (mp6.ch s7 (show ¬(im=iw) by omega)) (s7.get k6 (show ¬(h.length=iw) by omega)) (Jj.ch s7 (show ¬(h.length+1=iw) by omega)) c7 ?_
   intro g8 f8
   refine arA Ax bc (Ay bc) (λk gp h0=>ih _ ?_ (bc.set gp ⟨Int.le_refl _,by omega⟩)) (λk gp h0 aF=>ih _ ?_ (bc.set gp ⟨by omega,aF⟩)) lk Cs ⟨_,gh,es,hm⟩ eZ (le_refl _) (by omega) (by omega) ⟨by omega,by omega⟩ f8 hk
   ·have:=Lj bc gp h0 (.inl rfl);omega
   ·have:=Lj bc gp h0 (.inr rfl);omega
end
end
section
def qG (n:Nat):List Int:=List.replicate n 0++List.replicate (3-n) (-1)
theorem Qv {n:Nat} (hn:n<=3):(qG n).length=3:=by unfold qG;rw [length_append,length_replicate,length_replicate];omega
theorem abG {n i:Nat}:(qG n).getD i (-1)=if i<n then 0 else -1:=by
 unfold qG
 rw [getD_eq_getElem?_getD]
 by_cases h:i<n
 ·rw [List.getElem?_append_left (by rw [length_replicate];exact h),List.getElem?_replicate,if_pos h,if_pos h];rfl
 ·rw [List.getElem?_append_right (by rw [length_replicate];omega),List.getElem?_replicate,if_neg h]
  split <;> rfl
theorem H4 {cs:db} (hc:∀c∈cs,dM c.1 c.2=true) (hn:cs.length<=3):fT cs (qG cs.length):=by
 refine ⟨Qv hn,⟨hc,hn,λi hi=>?_⟩,λi hi=>by rw [abG,if_neg (by omega)]⟩
 rw [abG,if_pos hi]
 obtain ⟨⟨l1,_⟩,_⟩:=oB (hc _ (getElem_mem hi))
 omega
theorem aEs:qI prog 56=true:=by kernel_rfl
theorem aEt:qI prog 64=true:=by kernel_rfl
section
variable {h : ae} {K : Value -> ae -> Prop}
theorem abM {ag:List Int} (hl:ag.length=3) (h:ae):bp 120 h (gL ag)=some (pt h.length 0,h++[.arr 120 (ag.map I)]):=by
 obtain ⟨a,b,c,rfl⟩:=Bs hl
 rfl
theorem Zq {v:Value} {cs:db} (lk:LK h v cs) (hn:cs.length<=3) (hk:∀h',EX h h'->K (gL (qG cs.length)) h'):ak prog 58 [v] h K:=by
 refine f58 ?_
 have eA:∀g:ae,aV 120 [(.int .i64 (0)),(.int .i64 (0)),(.int .i64 (0))] g=some (pt g.length 0,g++[.arr 120 [I 0,I 0,I 0]]):=λ_=>rfl
 have eb:dC [(.int .i64 (0)),(.int .i64 (0)),(.int .i64 (0))] [(0,1,(.int .i64 (-1))),(1,1,(.int .i64 (-1))),(2,1,(.int .i64 (-1)))]=some (gL [-1,-1,-1]):=rfl
 simp only [PO,eA,aE,eb,ah,length_append,length_cons,length_nil,zero_add]
 have x1:EX h (h++[.arr 120 [I 0,I 0,I 0]]):=EX.append _ _
 have k1:(h++[aq.arr 120 [I 0,I 0,I 0]])[h.length]?=some (.arr 120 [I 0,I 0,I 0]):=br
 have l1:(h++[aq.arr 120 [I 0,I 0,I 0]]).length=h.length+1:=by simp
 generalize h++[aq.arr 120 [I 0,I 0,I 0]]=g1 at x1 k1 l1⊢
 have x2:EX g1 (g1++[.arr 120 [I 0,I 0,I 0]]):=EX.append _ _
 have k2:(g1++[aq.arr 120 [I 0,I 0,I 0]])[h.length+1]?=some (.arr 120 [I 0,I 0,I 0]):=by rw [<-l1];exact br
 generalize g1++[aq.arr 120 [I 0,I 0,I 0]]=g2 at x2 k2⊢
 rw [MV k2 rfl]
 have x3:EX h (g2.set (h.length+1) (.arr 120 (([-1,-1,-1]:List Int).map I))):=(x1.trans x2).set (by omega) _
 have k3:(g2.set (h.length+1) (.arr 120 (([-1,-1,-1]:List Int).map I)))[h.length+1]?=some (.arr 120 ((qG 0).map I)):=cJ k2
 have j3:(g2.set (h.length+1) (.arr 120 (([-1,-1,-1]:List Int).map I)))[h.length]?=some (.arr 120 [I 0,I 0,I 0]):=by rw [getElem?_set_ne (by omega)];exact x2.get k1
 simp only [aE,lk.len,ah]
 generalize g2.set (h.length+1) (.arr 120 (([-1,-1,-1]:List Int).map I))=g3 at x3 k3 j3⊢
 refine dF (σ:=Nat×ae) (λq=>[I q.1]) (λq=>q.2) (λq=>q.1<=cs.length/\EX h q.2/\q.2[h.length]?=some (.arr 120 [I 0,I 0,I 0])/\q.2[h.length+1]?=some (.arr 120 ((qG q.1).map I))) (λq=>cs.length-q.1) (0,g3) rfl rfl ⟨zero_le _,x3,j3,k3⟩ ?_
 rintro ⟨i,g⟩ ⟨hi,xg,jg,kg⟩ L hL
 simp only at hi xg jg kg hL⊢
 rw [aHe]
 simp only [cW,ah,bQ]
 refine ⟨λaF=>?_,λcU=>?_⟩
 ·have hb:i<(qG i).length:=by rw [Qv (by omega)];omega
  simp only [DW (show i<3 by omega),ah]
  rw [show (Value.int IntKind.i64 0)=I 0 from rfl,GF kg hb]
  simp only [aE,cL,ah,ft i (by omega),true_and]
  refine hL (i+1,_) ⟨by show i+1<=_;omega,xg.set (by omega) _,?_,?_⟩ (by show cs.length-(i+1)<cs.length-i;omega)
  ·show (g.set _ _)[h.length]?=_
   rw [getElem?_set_ne (by omega)];exact jg
  ·show (g.set _ _)[h.length+1]?=_
   rw [cJ kg]
   congr 3
   unfold qG
   obtain ⟨m,hm⟩:∃m,3-i=m+1:=⟨3-i-1,by omega⟩
   rw [hm,show 3-(i+1)=m by omega,List.set_append_right _ _ (by rw [length_replicate];omega),length_replicate,Nat.sub_self,List.replicate_succ,set_cons_zero,List.replicate_succ' (n:=i),List.append_assoc]
   rfl
 ·have fZ:i=cs.length:=by omega
  subst fZ
  rw [aHd]
  have hb:=Qv hn
  simp only [wR kg hb,ah]
  rw [MV jg hb]
  simp only [aE,wR (cJ jg) hb,ah]
  exact hk _ (xg.set (le_refl _) _)
theorem aD7 {cs:db} {v:Value}:DQ cs v (.func (.func 56) #[] #[]) (λ_ _=>true) (λ_=>True):=by
 refine ⟨λ{ag i h K} bc _ _ _ hk=>?_,λ_ _=>trivial⟩
 refine Ro aEs ?_
 simp only [List.append_nil]
 refine f56 ?_
 simp only [PM,abM bc.three,aE]
 exact hk _ (EX.append _ _)
theorem aD8 {cs:db} {v:Value} {jc:Nat}:DQ cs v (.func (.func 64) #[] #[pt jc 0]) (xQ cs) (λh=>aW h jc=some [v]):=by
 refine ⟨λ{ag i h K} bc _ lk he hk=>?_,λx he=>x _ _ he⟩
 refine Ro aEt ?_
 have ea:([gL ag,I i]++(#[pt jc 0]:Array Value).toList)=[gL ag,I i,pt jc 0]:=rfl
 rw [ea]
 refine f64 ?_
 have x1:EX h (h++[.arr 120 (ag.map I)]):=EX.append _ _
 have k1:(h++[aq.arr 120 (ag.map I)])[h.length]?=some (.arr 120 (ag.map I)):=br
 simp only [PR,abM bc.three,aE]
 generalize h++[aq.arr 120 (ag.map I)]=g1 at x1 k1⊢
 simp only [ajm (x1.cells he),ah,wR k1 bc.three]
 refine C65 (lk.mono x1) bc.three bc.ok ?_
 intro g2 x2
 simp only [hY,ah]
 exact hk _ (x1.trans x2)
def oX (cs:List (List (List UInt8)×Int)):Rat:=cn (bf cs) (qG cs.length)
theorem Yn {cs:List (List (List UInt8)×Int)} (ha:um cs=true):cd CM (oX cs):=by
 obtain ⟨⟨_,h3⟩,hc⟩:=HY ha
 have:=Bt (H4 hc (by rw [jR];exact h3))
 rw [jR] at this
 exact this
theorem Zg {v:Value} {cs:List (List (List UInt8)×Int)} (hv:jU h v cs) (hl:∀c∈cs,c.1.length<=1000/\∀s∈c.1,s.length<=700) (hn:cs.length<=1000)
  (hZ:jN cs≠0->∀h',EX h h'->K (.tuple #[S [],I (jN cs)]) h') (hk:jN cs=0->∀h',EX h h'->K (.tuple #[S (pN (oX cs).num ((oX cs).den:Int)),I 0]) h'):ak prog 18 [v] h K:=by
 refine f18 ?_
 unfold Po
 have fail:∀(c:Int) {g:ae},EX h g->c≠0->c=jN cs->∀A:Prop,(OP (ai .neq (I c) (.int .i64 (0))) λaS=>aN aS (K (.tuple #[(.string ⟨#[]⟩),I c]) g) A):=by
  intro c g x hc he A
  simp only [oA,ah,aY hc,Bool.not_false,dA]
  have:=hZ (by rw [<-he];exact hc) g x
  rw [<-he] at this
  exact this
 refine Zm hv hl hn (λhf g2 x2=>?_) (λhf kO g2 x2=>?_) (λhf kO v' g2 x2 lk=>?_)
 ·simp only [eR,fv,fz,ah]
  exact fail 2 x2 (by decide) (by unfold jN;rw [if_pos hf]) _
 ·simp only [eR,fv,fz,ah]
  exact fail 1 x2 (by decide) (by unfold jN;rw [if_neg (by rw [hf];decide),if_pos kO]) _
 have RX:jN cs=0:=by unfold jN;rw [if_neg (by rw [hf];decide),if_neg (by rw [kO];decide)]
 obtain ⟨⟨_,ef⟩,hc⟩:=HY kO
 have Ez:(bf cs).length<=3:=by rw [jR];exact ef
 have RN:ai .neq (I 0) (.int .i64 0)=some (B false):=rfl
 simp only [eR,fv,fz,ah,RN,dD]
 refine Zq lk Ez ?_
 intro g3 x3
 have Et:tF (.ints 3 .i64) g3=some (.map (some g3.length),g3++[.cw (.ints 3 .i64) 0 []]):=rfl
 simp only [Et,aE]
 have x4:EX g3 (g3++[.cw (.ints 3 .i64) 0 []]):=EX.append _ _
 have k4:(g3++[aq.cw (.ints 3 .i64) 0 []])[g3.length]?=some (.cw (.ints 3 .i64) 0 []):=br
 generalize rS:g3.length=im at k4⊢
 generalize g3++[aq.cw (.ints 3 .i64) 0 []]=g4 at x4 k4⊢
 have bc:=H4 hc Ez
 refine Zp aD7 (λh=>ajB h) _ _ (Nat.lt_succ_self _) bc (lk.mono (x3.trans x4)) trivial ⟨0,[],k4,λe he=>by simp at he⟩ ?_
 intro r g5 x5 _ hr
 rw [jR] at hr
 have hz:=Yn kO
 obtain ⟨b1,b2⟩:=hz.fA (by decide)
 have dp:=(oX cs).den_pos
 have X5:EX g2 g5:=⟨by have:=x3.1;have:=x4.1;have:=x5.1;omega,λd hd=>by
  have h3:=x3.1
  rw [x5.2 d (by have:=x4.1;omega) (by omega),x4.2 d (by omega),x3.2 d hd]⟩
 refine Zn (a:=(oX cs).num) (b:=((oX cs).den:Int)) hr (by omega) b1 (by rw [Int.natAbs_natCast];exact b2) ?_
 intro g6 x6
 simp only [eR,fv,fz,ah]
 exact hk RX g6 (x2.trans (X5.trans x6))
theorem Zh {v:Value} {cs:List (List (List UInt8)×Int)} (hv:jU h v cs) (hl:∀c∈cs,c.1.length<=1000/\∀s∈c.1,s.length<=700) (hn:cs.length<=1000)
  (hZ:jN cs≠0->∀h',EX h h'->K (.tuple #[S [],I (jN cs)]) h') (hk:jN cs=0->∀h',EX h h'->K (.tuple #[S (pN (oX cs).num ((oX cs).den:Int)),I 0]) h'):ak prog 21 [v] h K:=by
 refine f21 ?_
 unfold Pq
 have al:∀g:ae,aV 97 [(.slice none 0 0)] g=some (pt g.length 0,g++[.arr 97 [.slice none 0 0]]):=λ_=>rfl
 have st:∀{g:ae} {u:Value},jq u=true->dU u=[u]->aG 1 (g++[aq.arr 97 [.slice none 0 0]]) (pt g.length 0) u=some (undef,(g++[aq.arr 97 [.slice none 0 0]]).set g.length (.arr 97 [u])):=λh1 h2=>by
  rw [qx br (by simp) h1 h2];rfl
 have fail:∀(c:Int) {g:ae},EX h g->c≠0->c=jN cs->∀A:Prop,(OP (ai .neq (I c) (.int .i64 (0))) λaS=>aN aS (K (.tuple #[(.string ⟨#[]⟩),I c]) ((g++[aq.arr 97 [.slice none 0 0]]).set g.length (.arr 97 [.slice none 0 0]))) A):=by
  intro c g x hc he A
  simp only [oA,ah,aY hc,Bool.not_false,dA]
  have:=hZ (by rw [<-he];exact hc) ((g++[aq.arr 97 [.slice none 0 0]]).set g.length (.arr 97 [.slice none 0 0])) (x.trans ((EX.append _ _).set (le_refl _) _))
  rw [<-he] at this
  exact this
 refine Zm hv hl hn (λhf g2 x2=>?_) (λhf kO g2 x2=>?_) (λhf kO v' g2 x2 lk=>?_)
 ·simp only [eR,fv,fz,ah,al,aE,st (u:=.slice none 0 0) rfl rfl]
  exact fail 2 x2 (by decide) (by unfold jN;rw [if_pos hf]) _
 ·simp only [eR,fv,fz,ah,al,aE,st (u:=.slice none 0 0) rfl rfl]
  exact fail 1 x2 (by decide) (by unfold jN;rw [if_neg (by rw [hf];decide),if_pos kO]) _
 have RX:jN cs=0:=by unfold jN;rw [if_neg (by rw [hf];decide),if_neg (by rw [kO];decide)]
 obtain ⟨⟨_,ef⟩,hc⟩:=HY kO
 have Ez:(bf cs).length<=3:=by rw [jR];exact ef
 obtain ⟨rows,rs,_,_⟩:=id lk
 obtain ⟨t1,t2⟩:=rs.one
 have RN:ai .neq (I 0) (.int .i64 0)=some (B false):=rfl
 have Et:∀g:ae,tF (.ints 3 .i64) g=some (.map (some g.length),g++[.cw (.ints 3 .i64) 0 []]):=λ_=>rfl
 simp only [eR,fv,fz,ah,al,aE,st t1 t2,RN,dD,Et]
 have x3:EX g2 ((g2++[aq.arr 97 [.slice none 0 0]]).set g2.length (.arr 97 [v'])):=(EX.append _ _).set (le_refl _) _
 have k3:((g2++[aq.arr 97 [.slice none 0 0]]).set g2.length (.arr 97 [v']))[g2.length]?=some (.arr 97 [v']):=cJ br
 generalize (g2++[aq.arr 97 [.slice none 0 0]]).set g2.length (.arr 97 [v'])=g3 at x3 k3⊢
 have x4:EX g3 (g3++[.cw (.ints 3 .i64) 0 []]):=EX.append _ _
 have k4:(g3++[aq.cw (.ints 3 .i64) 0 []])[g3.length]?=some (.cw (.ints 3 .i64) 0 []):=br
 generalize rS:g3.length=im at k4⊢
 generalize g3++[aq.cw (.ints 3 .i64) 0 []]=g4 at x4 k4⊢
 have lc3:af false 1 g3 (pt g2.length 0)=some v':=ajm (by simp [aW,k3])
 have lc4:=EX.load x4 lc3
 have obM:∀{g:ae},g[im]?=some (.cw (.ints 3 .i64) 0 [])->dh g (.map (some im))=dh [aq.cw (.ints 3 .i64) 0 []] (.map (some 0)):=λ{g} hg=>by simp [dh,yD,hg,oD]
 obtain ⟨u,hu⟩:∃u,dh [aq.cw (.ints 3 .i64) 0 []] (.map (some 0))=some u:=⟨_,rfl⟩
 simp only [obM k4,hu,ah,true_and,lc3,lc4]
 refine Zq (lk.mono (x3.trans x4)) Ez ?_
 intro g5 x5
 have k5:=x5.get k4
 have lc5:=EX.load x5 lc4
 refine ⟨⟨by rw [obM k5,hu],lc5,trivial⟩,?_⟩
 have bc:=H4 hc Ez
 have Eh:aW g5 g2.length=some [v']:=by simp [aW,(x4.trans x5).get k3]
 refine Zp (Env:=λh=>aW h g2.length=some [v']) aD8 (λh=>ajC h) _ _ (Nat.lt_succ_self _) bc (lk.mono (x3.trans (x4.trans x5))) Eh ⟨0,[],k5,λe he=>by simp at he⟩ ?_
 intro r g6 x6 _ hr
 rw [jR] at hr
 have hz:=Yn kO
 obtain ⟨b1,b2⟩:=hz.fA (by decide)
 have dp:=(oX cs).den_pos
 have X6:EX g2 g6:=⟨by have:=x3.1;have:=x4.1;have:=x5.1;have:=x6.1;omega,λd hd=>by
  have h3:=x3.1
  have h4:=x4.1
  have h5:=x5.1
  rw [x6.2 d (by omega) (by omega),x5.2 d (by omega),x4.2 d (by omega),x3.2 d hd]⟩
 refine Zn (a:=(oX cs).num) (b:=((oX cs).den:Int)) hr (by omega) b1 (by rw [Int.natAbs_natCast];exact b2) ?_
 intro g7 x7
 simp only [eR,fv,fz,ah]
 exact hk RX g7 (x2.trans (X6.trans x7))
end
end
section
theorem aza (cs:List (List (List UInt8)×Int)):(vO cs).length<=4:=by unfold vO;rw [length_map,length_take];omega
theorem azb {cs:List (List (List UInt8)×Int)}:∀c∈vO cs,c.1.length<=9/\∀s∈c.1,s.length<=20:=by
 intro c hc
 unfold vO at hc
 obtain ⟨d,_,rfl⟩:=List.mem_map.1 hc
 exact ⟨azc _,azd _⟩
theorem aDZ {g g':ae} (x:KP (λ_=>true) g g') {i o:Nat} {v:Value} (hl:af false 1 g (pt i o)=some v):af false 1 g' (pt i o)=some v:=by
 simp only [af] at hl⊢
 cases hc:aW g i with
 | none=>rw [hc] at hl;cases hl
 | some xs=>
  cases xs with
  | nil=>rw [hc] at hl;simp [cP] at hl
  | cons c r=>rw [x i c r hc rfl];rw [hc] at hl;exact hl
theorem aJV {g g':ae} (x:KP (λ_=>true) g g') {v:Value} {ls:List (List UInt8)} (p:SS g v ls):SS g' v ls:=
 ⟨p.len,λk hk=>let ⟨i,o,a,b⟩:=p.get k hk;⟨i,o,a,aDZ x b⟩⟩
theorem Rz {g g':ae} (x:KP (λ_=>true) g g') {v:Value} {cs:List (List (List UInt8)×Int)} (p:jU g v cs):jU g' v cs:=by
 obtain ⟨rows,⟨a,b⟩,c,d⟩:=p
 refine ⟨rows,⟨a,b.imp id λ⟨i,o,e1,e2⟩=>⟨i,o,e1,?_⟩⟩,c,λk row q h1 h2=>let ⟨vs,e,m⟩:=d k row q h1 h2;⟨vs,e,aJV x m⟩⟩
 rcases e2 with e2 | ⟨pre,post,e2,e3⟩
 ·exact .inl e2
 ·cases rows with
  | nil=>exact .inl rfl
  | cons r rows=>
   right
   refine ⟨pre,post,?_,e3⟩
   have hr:=a r (by simp)
   cases tc:pre++(r::rows).flatten++post with
   | nil=>
    have:=congrArg List.length tc
    simp [hr] at this
   | cons y ys=>rw [tc] at e2;exact x i y ys e2 rfl
section
variable {h : ae} {K : Value -> ae -> Prop}
end
end
end Go.Proofs.YtelmdbpaoifmoaaGreat
namespace Go.Sim
section
section
variable {P : Program} {F : FuncId} {args : List Value} {h h1 : ae} {v : Value} {n : Nat} {e : TypeId} {xs : List Value}
theorem Ba {i:Nat} (hm:cF (h.set n .dead) i):i≠n/\cF h i:=by
 by_cases hi:i=n
 ·subst hi
  exfalso
  by_cases hl:i<h.length
  ·unfold cF at hm
   rw [getElem?_set_self hl] at hm
   rcases hm with ⟨_,_,h1⟩ | ⟨_,h1⟩ | ⟨_,_,_,h1⟩ | ⟨_,_,h1⟩ | ⟨_,_,_,h1⟩ | ⟨_,_,_,_,h1⟩ <;> cases h1
  ·unfold cF at hm
   rw [getElem?_eq_none (by simp;omega)] at hm
   rcases hm with ⟨_,_,h1⟩ | ⟨_,h1⟩ | ⟨_,_,_,h1⟩ | ⟨_,_,h1⟩ | ⟨_,_,_,h1⟩ | ⟨_,_,_,_,h1⟩ <;> cases h1
 ·refine ⟨hi,?_⟩
  unfold cF at hm⊢
  rwa [getElem?_set_ne (λx=>hi x.symm)] at hm
theorem ajh {i:Nat} (hm:dZ (h.set n .dead) i):i≠n/\dZ h i:=by
 obtain ⟨o,ho,hd⟩:=hm
 by_cases hi:i=n
 ·subst hi
  exfalso
  by_cases hl:i<h.length
  ·rw [getElem?_set_self hl] at ho
   cases ho
   exact hd rfl
  ·rw [getElem?_eq_none (by simp;omega)] at ho
   cases ho
 ·rw [getElem?_set_ne (λx=>hi x.symm)] at ho
  exact ⟨hi,o,ho,hd⟩
theorem ajN {g:ae} {o:aq} {i:Nat} (hi:i≠n):cF (g.set n o) i↔cF g i:=by
 unfold cF
 rw [getElem?_set_ne (λx=>hi x.symm)]
theorem aji {g:ae} {o:aq} {i:Nat} (hi:i≠n):dZ (g.set n o) i↔dZ g i:=by
 unfold dZ
 rw [getElem?_set_ne (λx=>hi x.symm)]
theorem aCy (hn:h[n]?=some (.arr e xs)) (hd:h1[n]?=some .dead) (aBA:∀j,j<h.length->dZ h1 j->dZ (h.set n .dead) j) (hc:ue P F args (h.set n .dead) v h1):ue P F args h v (h1.set n (.arr e xs)):=by
 intro ρ args' w ha H
 have mX:n<h.length:=(bz hn).1
 have uN:cF h n:=.inl ⟨e,xs,hn⟩
 have H2:a9 P ρ (h.set n .dead) w:=by
  refine ⟨λi r hi=>?_,λi j r s hi hj hb hm hl=>H.inj i j r s hi hj hb (Ba hm).2 (ajh hl).2,H.bm⟩
  obtain ⟨o,h2,h3⟩:=H.obj i r hi
  by_cases fK:i=n
  ·subst fK
   exact ⟨.dead,getElem?_set_self mX,trivial⟩
  ·exact ⟨o,by rw [getElem?_set_ne (λx=>fK x.symm)];exact h2,h3⟩
 refine (hc ρ args' w ha H2).mono ?_
 rintro ex w' ⟨v',av,he,hv,H1,T⟩
 have old:∀r,av n=some r->ρ n=some r:=by
  intro r hr
  cases sj:ρ n with
  | some r0=>rw [T.ext n r0 sj] at hr;exact hr
  | none=>
   have:=(T.fresh n r hr sj).1
   rw [length_set] at this
   omega
 have bC:∀r,ρ n=some r->r.bC<w.heap.size/\w'.heap[r.bC]?=w.heap[r.bC]?:=by
  intro r hr
  obtain ⟨o,h2,h3⟩:=H.obj n r hr
  rw [hn] at h2
  cases h2
  obtain ⟨_,_,c,h4,_⟩:=h3
  have aF:=(Array.getElem?_eq_some_iff.1 h4).1
  refine ⟨aF,T.gZ r.bC aF λj s hj hs hm=>?_⟩
  obtain ⟨m1,m2⟩:=Ba hm
  exact m1 (H.inj j n s r hj hr hs m2 uN.live)
 -- sD is new aLA aK6
 have abA:∀j r s,ρ n=some r->av j=some s->ρ j=none->s.bC≠r.bC:=by
  intro j r s hr hs dV hb
  rcases (T.fresh j s hs dV).2 with h2 | ⟨j',s',q1,q2,q3⟩
  ·have:=(bC r hr).1
   omega
  ·obtain ⟨m1,m2⟩:=Ba q3
   exact m1 (H.inj j' n s' r q1 hr (by rw [q2,hb]) m2 uN.live)
 refine ⟨v',av,he,hv,⟨λi r hi=>?_,λi j r s hi hj hb hm hl=>?_,H1.bm⟩,?_⟩
 ·by_cases fK:i=n
  ·subst fK
   refine ⟨.arr e xs,cJ hd,?_⟩
   have hr:=old r hi
   obtain ⟨o,h2,h3⟩:=H.obj i r hr
   rw [hn] at h2
   cases h2
   obtain ⟨q1,q2,c,q3,q4,q5⟩:=h3
   refine ⟨q1,q2,c,by rw [(bC r hr).2];exact q3,q4,λj x hj=>?_⟩
   obtain ⟨y1,y,y2,y3⟩:=q5 j x hj
   exact ⟨y1,y,y2,y3.mono T.ext⟩
  ·obtain ⟨o,h2,h3⟩:=H1.obj i r hi
   exact ⟨o,by rw [getElem?_set_ne (λx=>fK x.symm)];exact h2,h3⟩
 ·by_cases fK:i=n
  ·by_cases oJ:j=n
   ·rw [fK,oJ]
   ·exfalso
    subst fK
    have hr:=old r hi
    rw [aji oJ] at hl
    cases sj:ρ j with
    | none=>exact abA j r s hr hj sj hb.symm
    | some s0=>
     have:s0=s:=by rw [T.ext j s0 sj] at hj;exact Option.some.inj hj
     subst this
     have hlj:=(ajh (aBA j (H.lt sj) hl)).2
     exact oJ (H.inj i j r s0 hr sj hb uN hlj).symm
  ·rw [ajN fK] at hm
   by_cases oJ:j=n
   ·exfalso
    subst oJ
    have hs:=old s hj
    cases sj:ρ i with
    | none=>exact abA i s r hs hi sj hb
    | some r0=>
     have:r0=r:=by rw [T.ext i r0 sj] at hi;exact Option.some.inj hi
     subst this
     have uM:=(Ba (T.kinds i (by rw [length_set];exact H.lt sj) hm)).2
     exact fK (H.inj i j r0 s sj hs hb uM uN.live)
   ·rw [aji oJ] at hl
    exact H1.inj i j r s hi hj hb hm hl
 ·exact {
   ext:=T.ext
   len:=by have:=T.len;rw [length_set] at this⊢;exact this
   jY:=λi r hi=>H.lt hi
   kinds:=by
    intro i hi hm
    by_cases fK:i=n
    ·subst fK;exact uN
    ·rw [ajN fK] at hm
     exact (Ba (T.kinds i (by rw [length_set];exact hi) hm)).2
   fresh:=by
    intro i r hi dV
    obtain ⟨q1,q2⟩:=T.fresh i r hi dV
    rw [length_set] at q1
    exact ⟨q1,q2.imp id λ⟨j,s,a,b,c⟩=>⟨j,s,a,b,(Ba c).2⟩⟩
   iR:=T.iR
   gZ:=λb hb dV=>T.gZ b hb λj s hj hs hm=>dV j s hj hs (Ba hm).2
   os:=T.os
   tape:=T.tape
   output:=T.output }
theorem afH {K:Value->ae->Prop} (hn:h[n]?=some (.arr e xs)) (hc:ak P F args (h.set n .dead) λv h1=>(h1[n]?=some .dead/\∀j,j<h.length->dZ h1 j->dZ (h.set n .dead) j)/\K v (h1.set n (.arr e xs))):ak P F args h K:=by
 rw [uc] at hc⊢
 obtain ⟨v,h1,hc,⟨h2,h3⟩,hk⟩:=hc
 exact ⟨v,_,aCy hn h2 h3 hc,hk⟩
theorem ahx (hn:h[n]?=some (.arr e xs)) (x:EX (h.set n .dead) h1):h1[n]?=some .dead/\∀j,j<h.length->dZ h1 j->dZ (h.set n .dead) j:=by
 have mX:n<h.length:=(bz hn).1
 refine ⟨x.get (getElem?_set_self mX),λj hj ⟨o,ho,hd⟩=>⟨o,?_,hd⟩⟩
 rw [<-x.2 j (by rw [length_set];exact hj)]
 exact ho
theorem aBm {im:Nat} {k:gD} {gh:Nat} {es:List (Nat×Value×Value)} (hn:h[n]?=some (.arr e xs)) (eZ:h[im]?=some (.cw k gh es)) (x:XM im (h.set n .dead) h1):h1[n]?=some .dead/\∀j,j<h.length->dZ h1 j->dZ (h.set n .dead) j:=by
 have mX:n<h.length:=(bz hn).1
 have bt:n≠im:=by
  rintro rfl
  rw [hn] at eZ
  cases eZ
 refine ⟨x.get bt (getElem?_set_self mX),λj hj ⟨o,ho,hd⟩=>?_⟩
 by_cases hji:j=im
 ·subst hji
  exact ⟨_,by rw [getElem?_set_ne bt];exact eZ,by simp⟩
 ·refine ⟨o,?_,hd⟩
  rw [<-x.2 j (by rw [length_set];exact hj) hji]
  exact ho
theorem CX.aJJ:CX (h.set n .dead) h:=by
 intro d cs hd
 by_cases e:d=n
 ·subst e
  exfalso
  unfold aW at hd
  by_cases hl:d<h.length
  ·rw [getElem?_set_self hl] at hd;cases hd
  ·rw [getElem?_eq_none (by simp;omega)] at hd;cases hd
 ·unfold aW at hd⊢
  rwa [getElem?_set_ne (λx=>e x.symm)] at hd
end
end
end Go.Sim
