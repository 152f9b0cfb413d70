/-
  Part 6 of the texts behind a statement of this seat: Kd9, Kd10, Zp1, ZR3, Zs1, Zp2, ZN5, Kp1, Kp2, Kp3, Kp4, Zp4, Zp5, ZMe10, Zs2, Sq27, ZM3, Sim33, Zs4, Zp3, ZB, ZMe8, Sq21, ZMe9, ZMd, ZMe15, Sq23, Sq28, Sq29, Zs5, ZSd, Zs6, Kp5, ZN6, Kp6, Kp7, Kp8, Kp9.
-/
import Derived.Test.YtelmdbpaoifmoaaGreatProg
import Derived.KernelRfl
import Derived.Test.YtelmdbpaoifmoaaGreatMg5
open Bool (and_eq_true)
open Classical (byContradiction)
open Go.Proofs.Tryz (prog)
open Int (natAbs_natCast)
open List (Pairwise append_nil getElem?_append_left getElem?_append_right getElem?_eq_getElem getElem?_set_ne getElem_mem idxOf_cons length_append length_cons length_drop length_take mem_append mem_cons mem_map mem_singleton replicate take_length take_succ_eq_append_getElem)
open Nat (add_zero gcd le_refl lt_of_lt_of_le mul_pos pow_le_pow_right pow_pos zero_add zero_le)
open Option (getD_some)
namespace Go.Proofs.YtelmdbpaoifmoaaGreat
open Go.Sim
section
section
variable {va vb : Value} {p q : Rat} {i j : Nat} {h : ae} {K : Value → ae → Prop}
theorem MG (ha:RV h va p) (hb:RV h vb q) (sp:bP i p) (sq:bP j q) (eP:i+j≤800) (hk:∀r h',EX h h'→RV h' r (p*q)→K r h'):ak prog 88 [va,vb] h K:=by
 obtain ⟨u,w,rfl,hu,hw⟩:=ha
 obtain ⟨u2,w2,rfl,qj,mS⟩:=hb
 have pd:=p.den_pos
 have qd:=q.den_pos
 obtain ⟨wM,uN⟩:=sp.gQ (by omega)
 obtain ⟨wN,uO⟩:=sq.gQ (by omega)
 obtain ⟨_,_,c3,c4⟩:=yZ sp sq
 have cb:=sF (k:=i+j) (by omega)
 have ju:decide ((p.den:Int)<0)=false:=aS (by omega)
 have iF:decide ((q.den:Int)<0)=false:=aS (by omega)
 rw [natAbs_natCast] at hw mS
 rw [ju,iF]
 refine f88 ?_
 have e1:∀(g:ae) (s t:Bool) (v w:Value),bm 107 g (.agg #[B s,v,B t,w])=some (pt g.length 0,g++[.arr 107 [B s,v,B t,w]]):=fun _ _ _ _ _=>rfl
 have e3:∀(g:ae),aV 107 [(.bool false),(.slice none 0 0),(.bool false),(.slice none 0 0)] g=some (pt g.length 0,g++[.arr 107 z4]):=fun _=>rfl
 simp only [O4,e1,e3,aA]
 have q0:EX h (h++[.arr 107 [B (decide (p.num<0)),u,B false,w]]):=EX.append _ _
 have p0:(h++[aj.arr 107 [B (decide (p.num<0)),u,B false,w]])[h.length]?=some (.arr 107 [B (decide (p.num<0)),u,B false,w]):=bn
 generalize h++[aj.arr 107 [B (decide (p.num<0)),u,B false,w]]=ga at q0 p0⊢
 have q1:EX ga (ga++[.arr 107 [B (decide (q.num<0)),u2,B false,w2]]):=EX.append _ _
 have p1:(ga++[aj.arr 107 [B (decide (q.num<0)),u2,B false,w2]])[ga.length]?=some (.arr 107 [B (decide (q.num<0)),u2,B false,w2]):=bn
 generalize ga++[aj.arr 107 [B (decide (q.num<0)),u2,B false,w2]]=gb at q1 p1⊢
 have q2:EX gb (gb++[.arr 107 z4]):=EX.append _ _
 have p2:(gb++[aj.arr 107 z4])[gb.length]?=some (.arr 107 z4):=bn
 generalize gb++[aj.arr 107 z4]=gc at q2 p2⊢
 have k0:=(q1.trans q2).get p0
 have k1:=q2.get p1
 have x0:=q0.trans (q1.trans q2)
 have qf:h.length≤gb.length:=(q0.trans q1).1
 have done:∀{N:Int} {D:Nat} {r:Value} {g:ae},EX gc g→RV g r (mkRat N D)→p*q=mkRat N D→OH (aF 4 g (pt gb.length 0) r) fun _ h_3=>OP (af true 4 h_3 (pt gb.length 0)) fun r0=>K r0 h_3:=by
  intro N D r g xg hr he
  rw [←he] at hr
  have g2:=xg.get p2
  obtain ⟨y,z,rfl,hy,hz⟩:=hr
  exact rR g2 (hk _ _ ((x0.trans xg).set qf _) ⟨y,z,rfl,hy.bM g2 _,hz.bM g2 _⟩)
 simp only [iH k0,ah]
 refine Dh (hw.mono x0) uN ?_
 intro g4 x4
 have tH:=x4.get k0
 have kY:=x4.get k1
 have Gi:=x0.trans x4
 rw [aD5]
 have whole:∀t u':Value,bQ t u' (.bool false)=some (B (decide (p.den=1)&&decide (q.den=1)))→∀{g5:ae},EX g4 g5→K5 prog K (pt h.length 0) (pt ga.length 0) (pt gb.length 0) t u' g5:=by
  intro t u' ht g5 x5
  have k0:=x5.get tH
  have k1:=x5.get kY
  have rE:=Gi.trans x5
  have cP:=x4.trans x5
  rw [aD6,ht]
  simp only [ah]
  by_cases lV:p.den=1∧q.den=1
  ·rw [aU lV.1,aU lV.2]
   simp only [Bool.and_true,c8,bU,zero_add,ah]
   rw [jR k0]
   simp only [ah]
   rw [jR k1]
   simp only [ah]
   refine tW (a:=p.num) (b:=q.num) ⟨u,rfl,hu.mono rE⟩ ⟨u2,rfl,qj.mono rE⟩ wM wN ?_
   intro r1 g6 x6 i1
   refine Xd i1 ?_
   intro r2 g7 x7 i2
   obtain ⟨n1,n2⟩:=agT (p.num*q.num)
   refine done (N:=p.num*q.num) (D:=1) (cP.trans (x6.trans x7)) (by unfold RV;rw [n1,n2];exact i2) ?_
   rw [TA,lV.1,lV.2]
  ·have hf:(decide (p.den=1)&&decide (q.den=1))=false:=by
    rw [Bool.and_eq_false_iff,decide_eq_false_iff_not,decide_eq_false_iff_not]
    by_cases h1:p.den=1
    ·exact .inr fun h2=>lV ⟨h1,h2⟩
    ·exact .inl h1
   rw [hf]
   have oQ:∀{g:ae},EX g5 g→af true 2 g (pt h.length 0)=some (.agg #[B (decide (p.num<0)),u]):=fun x=>jR (x.get k0)
   have wI:∀{g:ae},EX g5 g→af true 2 g (pt h.length 2)=some (.agg #[B false,w]):=fun x=>kZ (x.get k0)
   have Kd:∀{g:ae},EX g5 g→af true 2 g (pt ga.length 0)=some (.agg #[B (decide (q.num<0)),u2]):=fun x=>jR (x.get k1)
   have Ay:∀{g:ae},EX g5 g→af true 2 g (pt ga.length 2)=some (.agg #[B false,w2]):=fun x=>kZ (x.get k1)
   have iw:∀{g:ae},EX g5 g→dV g (.agg #[B false,w]) (p.den:Int):=fun x=>dV.nat (hw.mono (rE.trans x))
   have J6:∀{g:ae},EX g5 g→dV g (.agg #[B false,w2]) (q.den:Int):=fun x=>dV.nat (mS.mono (rE.trans x))
   simp only [dF,bU,zero_add,ah,oQ (EX.refl g5),Kd (EX.refl g5),true_and]
   refine tW (a:=p.num) (b:=q.num) ⟨u,rfl,hu.mono rE⟩ ⟨u2,rfl,qj.mono rE⟩ wM wN ?_
   intro r1 g6 x6 i1
   simp only [wI x6,wI (EX.refl g5),Ay x6,Ay (EX.refl g5),ah,true_and]
   refine tW (iw x6) (J6 x6) (by rw [natAbs_natCast];exact uN) (by rw [natAbs_natCast];exact uO) ?_
   intro r2 g7 x7 i2
   rw [←Int.natCast_mul] at i2
   have gA:=x6.trans x7
   refine Xa (i1.mono x7) i2 (lt_of_lt_of_le c4 cb) (mul_pos pd qd) (lt_of_lt_of_le c3 cb) ?_
   intro r iC aM ir
   exact done (cP.trans (gA.trans aM)) ir (TA p q)
 by_cases h1:p.den=1
 ·rw [aU h1]
  simp only [jm,iH kY,ah]
  refine Dh (mS.mono Gi) uO ?_
  intro g5 x5
  refine whole _ _ ?_ x5
  rw [h1];simp
 ·rw [aS h1]
  simp only [kL]
  refine whole _ _ ?_ (EX.refl g4)
  rw [aS h1];simp
def mK (p q:Rat):Int:=if p=q then 0 else if p<q then -1 else 1
theorem avg (p q:Rat):(if p.num*q.den-q.num*p.den=0 then 0 else if p.num*q.den-q.num*p.den<0 then -1 else 1:Int)=mK p q:=by
 unfold mK
 have h1:p=q↔p.num*q.den-q.num*p.den=0:=by
  constructor
  ·rintro rfl;omega
  ·intro h
   refine Rat.le_antisymm ?_ ?_ <;> rw [Rat.le_iff] <;> omega
 have h2:p<q↔p.num*q.den-q.num*p.den<0:=by rw [Rat.lt_iff];omega
 by_cases e1:p=q
 ·rw [if_pos e1,if_pos (h1.1 e1)]
 ·rw [if_neg e1,if_neg (fun h=>e1 (h1.2 h))]
  by_cases e2:p<q
  ·rw [if_pos e2,if_pos (h2.1 e2)]
  ·rw [if_neg e2,if_neg (fun h=>e2 (h2.2 h))]
theorem Gu (ha:RV h va p) (hb:RV h vb q) (sp:bP i p) (sq:bP j q) (eP:i+j≤800) (hk:∀h',EX h h'→K (I (mK p q)) h'):ak prog 86 [va,vb] h K:=by
 obtain ⟨u,w,rfl,hu,hw⟩:=ha
 obtain ⟨u2,w2,rfl,qj,mS⟩:=hb
 obtain ⟨wM,uN⟩:=sp.gQ (by omega)
 obtain ⟨wN,uO⟩:=sq.gQ (by omega)
 obtain ⟨c1,c2,_,_⟩:=yZ sp sq
 have cb:=sF (k:=i+j) (by omega)
 have ju:decide ((p.den:Int)<0)=false:=aS (by omega)
 have iF:decide ((q.den:Int)<0)=false:=aS (by omega)
 rw [natAbs_natCast] at hw mS
 rw [ju,iF]
 refine f86 ?_
 have e1:∀(g:ae) (s t:Bool) (v w:Value),bm 107 g (.agg #[B s,v,B t,w])=some (pt g.length 0,g++[.arr 107 [B s,v,B t,w]]):=fun _ _ _ _ _=>rfl
 simp only [O2,e1,aA]
 have q0:EX h (h++[.arr 107 [B (decide (p.num<0)),u,B false,w]]):=EX.append _ _
 have p0:(h++[aj.arr 107 [B (decide (p.num<0)),u,B false,w]])[h.length]?=some (.arr 107 [B (decide (p.num<0)),u,B false,w]):=bn
 generalize h++[aj.arr 107 [B (decide (p.num<0)),u,B false,w]]=ga at q0 p0⊢
 have q1:EX ga (ga++[.arr 107 [B (decide (q.num<0)),u2,B false,w2]]):=EX.append _ _
 have p1:(ga++[aj.arr 107 [B (decide (q.num<0)),u2,B false,w2]])[ga.length]?=some (.arr 107 [B (decide (q.num<0)),u2,B false,w2]):=bn
 generalize ga++[aj.arr 107 [B (decide (q.num<0)),u2,B false,w2]]=gb at q1 p1⊢
 have k0:=q1.get p0
 have x0:=q0.trans q1
 simp only [bU,zero_add,ah,jR k0,kZ p1,true_and]
 refine tW (a:=p.num) (b:=(q.den:Int)) ⟨u,rfl,hu.mono x0⟩ (dV.nat (mS.mono x0)) wM (by rw [natAbs_natCast];exact uO) ?_
 intro r1 g6 x6 i1
 simp only [jR (x6.get p1),jR p1,kZ (x6.get k0),kZ k0,ah,true_and]
 refine tW (a:=q.num) (b:=(p.den:Int)) ⟨u2,rfl,(qj.mono x0).mono x6⟩ (dV.nat ((hw.mono x0).mono x6)) wN (by rw [natAbs_natCast];exact uN) ?_
 intro r2 g7 x7 i2
 refine Mu (i1.mono x7) i2 (lt_of_lt_of_le c1 cb) (lt_of_lt_of_le c2 cb) ?_
 intro g8 x8
 rw [avg]
 exact hk g8 (x0.trans (x6.trans (x7.trans x8)))
theorem adl {p q:Rat} (hq:0<q.num):p / q=mkRat (p.num*q.den) (p.den*q.num.toNat):=by
 have h1:=Rat.mkRat_self p
 have h2:=Rat.mkRat_self q
 rw [Rat.mkRat_eq_div] at h1 h2
 rw [Rat.mkRat_eq_div,Rat.intCast_mul,Rat.natCast_mul]
 have h3:((q.num.toNat:Nat):Rat)=(q.num:Rat):=by
  rw [←Rat.intCast_natCast,Int.toNat_of_nonneg (by omega)]
 have h4:((q.den:Nat):Int)=(q.den:Int):=rfl
 rw [h3,Rat.intCast_natCast]
 have d1:((p.den:Nat):Rat)≠0:=by
  have:=p.den_nz
  intro h
  exact this (by exact_mod_cast h)
 have d2:((q.den:Nat):Rat)≠0:=by
  have:=q.den_nz
  intro h
  exact this (by exact_mod_cast h)
 have d3:(q.num:Rat)≠0:=by
  intro h
  have:q.num=0:=by exact_mod_cast h
  omega
 generalize (p.num:Rat)=a at*
 generalize (q.num:Rat)=b at*
 generalize ((p.den:Nat):Rat)=c at*
 generalize ((q.den:Nat):Rat)=d at*
 rw [←h1,←h2]
 grind
theorem XG (ha:RV h va p) (hb:RV h vb q) (hq:0<q.num) (sp:bP i p) (sq:bP j q) (eP:i+j≤800) (hk:∀r h',EX h h'→RV h' r (p / q)→K r h'):ak prog 77 [va,vb] h K:=by
 obtain ⟨wM,uN⟩:=sp.gQ (by omega)
 obtain ⟨wN,uO⟩:=sq.gQ (by omega)
 obtain ⟨c1,c2,_,_⟩:=yZ sp sq
 have cb:=sF (k:=i+j) (by omega)
 have pd:=p.den_pos
 have hY:(0:Int)<(p.den:Int)*q.num:=Int.mul_pos (by omega) hq
 obtain ⟨m,hm⟩:∃m:Nat,q.num=(m:Int):=⟨q.num.toNat,by omega⟩
 have hN:((p.den:Int)*q.num).natAbs=p.den*q.num.toNat:=by rw [Int.natAbs_mul,natAbs_natCast];congr 1;omega
 refine aow ha hb wM (by rw [natAbs_natCast];exact uN) wN (by rw [natAbs_natCast];exact uO) (lt_of_lt_of_le c1 cb) hY (by rw [Int.mul_comm];exact lt_of_lt_of_le c2 cb) ?_
 intro r h' x hr
 refine hk r h' x ?_
 have hD:0<p.den*q.num.toNat:=mul_pos pd (by omega)
 obtain ⟨e1,e2⟩:=AI (N:=p.num*q.den) hD
 unfold RV
 rw [adl hq,e1,e2,Int.natCast_ediv,Int.natCast_mul,Int.toNat_of_nonneg (by omega)]
 rw [hN] at hr
 exact hr
theorem tX {n:Int} (h1: -9223372036854775808≤n) (h2:n<9223372036854775808) (hk:∀r h',EX h h'→RV h' r (n:Rat)→K r h'):ak prog 75 [I n] h K:=by
 refine C75 h1 h2 ?_
 intro r h' x hr
 exact hk r h' x hr
end
end
section
section
variable {va vb : Value} {p q : Rat} {i j : Nat} {h : ae} {K : Value → ae → Prop}
theorem bP.neg {k:Nat} {q:Rat} (h:bP k q):bP k (-q):=by
 unfold bP at*
 rw [Rat.neg_num,Rat.neg_den,Int.natAbs_neg]
 exact h
theorem an7 (ha:RV h va p) (hk:∀r h',EX h h'→RV h' r (-p)→K r h'):ak prog 116 [va] h K:=by
 obtain ⟨u,w,rfl,hu,hw⟩:=ha
 have ju:decide ((p.den:Int)<0)=false:=aS (by omega)
 rw [natAbs_natCast] at hw
 rw [ju]
 refine f116 ?_
 have e1:∀(g:ae) (s t:Bool) (v w:Value),bm 107 g (.agg #[B s,v,B t,w])=some (pt g.length 0,g++[.arr 107 [B s,v,B t,w]]):=fun _ _ _ _ _=>rfl
 have e3:∀(g:ae),aV 107 [(.bool false),(.slice none 0 0),(.bool false),(.slice none 0 0)] g=some (pt g.length 0,g++[.arr 107 z4]):=fun _=>rfl
 simp only [NQ,e1,e3,aA]
 have q0:EX h (h++[.arr 107 [B (decide (p.num<0)),u,B false,w]]):=EX.append _ _
 have p0:(h++[aj.arr 107 [B (decide (p.num<0)),u,B false,w]])[h.length]?=some (.arr 107 [B (decide (p.num<0)),u,B false,w]):=bn
 generalize h++[aj.arr 107 [B (decide (p.num<0)),u,B false,w]]=ga at q0 p0⊢
 have q2:EX ga (ga++[.arr 107 z4]):=EX.append _ _
 have p2:(ga++[aj.arr 107 z4])[ga.length]?=some (.arr 107 z4):=bn
 generalize ga++[aj.arr 107 z4]=gc at q2 p2⊢
 have k0:=q2.get p0
 have x0:=q0.trans q2
 simp only [bU,zero_add,ah,jR k0,true_and]
 refine Xf (a:=p.num) ⟨u,rfl,hu.mono x0⟩ ?_
 intro r1 g6 x6 i1
 simp only [kZ (x6.get k0),kZ k0,ah,true_and]
 have iw:dV g6 (.agg #[B false,w]) (p.den:Int):=dV.nat ((hw.mono x0).mono x6)
 refine IY i1 iw (x0.trans x6) (by have:=q0.1;omega) (x6.get p2) ?_
 intro r h' x hr
 refine hk r h' x ?_
 unfold RV
 rw [Rat.neg_num,Rat.neg_den]
 exact hr
theorem C96 (ha:RV h va p) (hb:RV h vb q) (sp:bP i p) (sq:bP j q) (eP:i+j≤800) (hk:∀r h',EX h h'→RV h' r (p-q)→K r h'):ak prog 96 [va,vb] h K:=by
 have oH:=ha
 have pn:=hb
 obtain ⟨u,w,rfl,hu,hw⟩:=ha
 obtain ⟨u2,w2,rfl,qj,mS⟩:=hb
 refine f96 ?_
 have e1:∀(g:ae) (s t:Bool) (v w:Value),bm 107 g (.agg #[B s,v,B t,w])=some (pt g.length 0,g++[.arr 107 [B s,v,B t,w]]):=fun _ _ _ _ _=>rfl
 have e3:∀(g:ae),aV 107 [(.bool false),(.slice none 0 0),(.bool false),(.slice none 0 0)] g=some (pt g.length 0,g++[.arr 107 z4]):=fun _=>rfl
 simp only [Pa,e1,e3,aA]
 generalize decide ((p.den:Int)<0)=t1 at*
 generalize decide ((q.den:Int)<0)=t2 at*
 have q0:EX h (h++[.arr 107 [B (decide (p.num<0)),u,B t1,w]]):=EX.append _ _
 have p0:(h++[aj.arr 107 [B (decide (p.num<0)),u,B t1,w]])[h.length]?=some (.arr 107 [B (decide (p.num<0)),u,B t1,w]):=bn
 generalize h++[aj.arr 107 [B (decide (p.num<0)),u,B t1,w]]=ga at q0 p0⊢
 have q1:EX ga (ga++[.arr 107 [B (decide (q.num<0)),u2,B t2,w2]]):=EX.append _ _
 have p1:(ga++[aj.arr 107 [B (decide (q.num<0)),u2,B t2,w2]])[ga.length]?=some (.arr 107 [B (decide (q.num<0)),u2,B t2,w2]):=bn
 generalize ga++[aj.arr 107 [B (decide (q.num<0)),u2,B t2,w2]]=gb at q1 p1⊢
 have q2:EX gb (gb++[.arr 107 z4]):=EX.append _ _
 have p2:(gb++[aj.arr 107 z4])[gb.length]?=some (.arr 107 z4):=bn
 generalize gb++[aj.arr 107 z4]=gc at q2 p2⊢
 have k0:=(q1.trans q2).get p0
 have k1:=q2.get p1
 have x0:=q0.trans (q1.trans q2)
 have qf:h.length≤gb.length:=(q0.trans q1).1
 simp only [iH k0,iH k1,ah,true_and]
 refine an7 (pn.mono x0) ?_
 intro r1 g6 x6 i1
 simp only [iH (x6.get k0),true_and]
 refine yF ((oH.mono x0).mono x6) i1 sp sq.neg eP ?_
 intro r g7 x7 ir
 rw [←Rat.sub_eq_add_neg] at ir
 have gA:=x6.trans x7
 have g2:=gA.get p2
 obtain ⟨y,z,rfl,hy,hz⟩:=ir
 exact rR g2 (hk _ _ ((x0.trans gA).set qf _) ⟨y,z,rfl,hy.bM g2 _,hz.bM g2 _⟩)
theorem XH (ha:RV h va p) (hk:∀h',EX h h'→K (I (mc p.num)) h'):ak prog 81 [va] h K:=by
 obtain ⟨u,w,rfl,hu,hw⟩:=ha
 refine f81 ?_
 have e1:∀(g:ae) (s t:Bool) (v w:Value),bm 107 g (.agg #[B s,v,B t,w])=some (pt g.length 0,g++[.arr 107 [B s,v,B t,w]]):=fun _ _ _ _ _=>rfl
 simp only [OX,e1,aA]
 generalize decide ((p.den:Int)<0)=t1 at*
 have q0:EX h (h++[.arr 107 [B (decide (p.num<0)),u,B t1,w]]):=EX.append _ _
 have p0:(h++[aj.arr 107 [B (decide (p.num<0)),u,B t1,w]])[h.length]?=some (.arr 107 [B (decide (p.num<0)),u,B t1,w]):=bn
 generalize h++[aj.arr 107 [B (decide (p.num<0)),u,B t1,w]]=ga at q0 p0⊢
 simp only [bU,zero_add,ah,jR p0]
 refine Xc (a:=p.num) ⟨u,rfl,hu.mono q0⟩ ?_
 intro h' x'
 exact hk h' (q0.trans x')
end
end
section
theorem aox {s:List UInt8} {h:ae} {K:Value→ae→Prop} (h0:0<s.length) (h1:s.length≤4000) (h2:s.head?=some 48→s.length=1)
  (hk:kA s→∀r h',EX h h'→ZV h' r (dQ s)→K (.tuple #[r,B true]) h')
  (eK:¬kA s→∀h',EX h h'→K (.tuple #[.agg #[B false,.slice none 0 0],B false]) h'):ak prog 99 [S s] h K:=by
 refine f99 ?_
 have e2:∀g:ae,aV 35 [(.bool false),(.slice none 0 0)] g=some (pt g.length 0,g++[.arr 35 [(.bool false),(.slice none 0 0)]]):=fun _=>rfl
 have e3:dd [(.bool false),(.slice none 0 0)] []=some (.agg #[B false,.slice none 0 0]):=rfl
 have vZ:(s[0].toNat:Int)=48→s.length≤1:=by
  intro h3
  refine Nat.le_of_eq (h2 ?_)
  rw [List.head?_eq_getElem?,getElem?_eq_getElem h0]
  congr 1
  apply UInt8.toNat_inj.1
  show s[0].toNat=48
  omega
 have i0:=wD (a:=s) (i:=0) h0 .i64
 simp only [Int.natCast_zero] at i0
 simp only [G1,e2,aA,mf,ah,cA]
 rw [aS (show ¬(s.length:Int)<1 by omega)]
 simp only [VM,dR,mf,ah,fG]
 rw [aS (show ¬(s.length:Int)>4000 by omega)]
 simp only [Lk,cK,ah,Ll,dR,i0]
 have after:∀t:Value,t=B false→FP prog K (S s) (pt h.length 0) (B false) t (h++[.arr 35 [(.bool false),(.slice none 0 0)]]):=by
  rintro _ rfl
  rw [VI]
  simp only [cK,ah,dF,e3,e2,aA,length_append,length_cons,List.length_nil,zero_add]
  have g1:(h++[aj.arr 35 [(.bool false),(.slice none 0 0)]]++[aj.arr 35 [(.bool false),(.slice none 0 0)]])[h.length+1]?=some (.arr 35 [(.bool false),(.slice none 0 0)]):=by simp
  have g0:(h++[aj.arr 35 [(.bool false),(.slice none 0 0)]]++[aj.arr 35 [(.bool false),(.slice none 0 0)]])[h.length]?=some (.arr 35 [(.bool false),(.slice none 0 0)]):=by simp
  have x1:EX h (h++[aj.arr 35 [(.bool false),(.slice none 0 0)]]++[aj.arr 35 [(.bool false),(.slice none 0 0)]]):=(EX.append _ _).push _
  have zR:(h++[aj.arr 35 [(.bool false),(.slice none 0 0)]]++[aj.arr 35 [(.bool false),(.slice none 0 0)]]).length=h.length+2:=by simp
  generalize h++[aj.arr 35 [(.bool false),(.slice none 0 0)]]++[aj.arr 35 [(.bool false),(.slice none 0 0)]]=hA at*
  rw [fD g1]
  simp only [aA,mf,ah]
  have fail:∀g:ae,EX h g→g[h.length]?=some (.arr 35 [.bool false,.slice none 0 0])→¬kA s→(OP (dd [(.bool false),(.slice none 0 0)] []) fun db=>OH (aF 2 g (pt h.length 0) db) fun _ h_1=>OP (af true 2 h_1 (pt h.length 0)) fun r0=>K (.tuple #[r0,(.bool false)]) h_1):=by
   intro g x k hn
   simp only [e3,ah]
   rw [fD k]
   simp only [aA]
   rw [cO (ck k),ah]
   exact eK hn _ (x.set (le_refl _) _)
  refine dj (σ:=Int×List Nat×Value×ae) (fun p=>[I p.1]) (fun p=>p.2.2.2)
   (fun p=>h.length+2≤p.2.2.2.length∧EX h p.2.2.2∧p.2.2.2[h.length]?=some (.arr 35 [.bool false,.slice none 0 0])∧p.2.2.2[h.length+1]?=some (.arr 35 [B false,p.2.2.1])∧oZ (h.length+2) p.2.2.2 p.2.2.1 p.2.1∧cn 10000 p.2.1∧p.1=(s.length:Int)-4*(p.2.1.length:Int)∧ -4<p.1∧val 10000 p.2.1+10000^p.2.1.length*dQ (s.take p.1.toNat)=dQ s∧kA (s.drop p.1.toNat)) (fun p=>(p.1+4).toNat)
   ((s.length:Int),[],.slice none 0 0,hA.set (h.length+1) (.arr 35 [B false,.slice none 0 0])) rfl rfl
   ⟨by simp [zR],x1.set (by omega) _,by rw [getElem?_set_ne (by omega)];exact g0,ck g1,.inl ⟨rfl,rfl⟩,fun _ hx=>by simp at hx,by simp,by simp;omega,by simp [val],by simp [kA]⟩ ?_
  rintro ⟨yQ,os,v,hx⟩ ⟨hlen,hex,k0,k1,jt,fB,hat,axe,bW,B5⟩ L hL
  simp only at hlen hex k0 k1 jt fB hat axe bW B5 hL⊢
  rw [aEh]
  have e4:IntKind.wrap .i64 (yQ-4)=yQ-4:=wrap64 (by omega) (by omega)
  simp only [fG,ah,bR]
  refine ⟨fun rY=>?_,fun hle=>?_⟩
  ·simp only [gE,ah,e4,agJ]
   obtain ⟨lo,eQ⟩:∃lo:Nat,max 0 (yQ-4)=(lo:Int):=⟨(max 0 (yQ-4)).toNat,by omega⟩
   obtain ⟨a,ha⟩:∃a:Nat,yQ=(a:Int):=⟨yQ.toNat,by omega⟩
   subst ha
   rw [eQ]
   have qG:a≤s.length:=by omega
   have aeS:lo≤a:=by omega
   have aG6:lo=a-4:=by omega
   refine dj (σ:=Nat×Nat) (fun p=>[I p.1,I p.2]) (fun _=>hx) (fun p=>lo≤p.2∧p.2≤a∧p.1=dQ ((s.take p.2).drop lo)∧kA ((s.take p.2).drop lo)) (fun p=>a-p.2)
    (0,lo) rfl rfl ⟨le_refl _,aeS,by rw [List.drop_of_length_le (by rw [length_take];omega)];rfl,by
     show kA ((s.take lo).drop lo)
     rw [List.drop_of_length_le (by rw [length_take];omega)];intro c hc;simp at hc⟩ ?_
   rintro ⟨d,i⟩ ⟨hi1,nv,Jt,nS⟩ L2 gj
   simp only at hi1 nv Jt nS gj⊢
   have aD:=A6 nS
   have aeR:((s.take i).drop lo).length=i-lo:=by rw [length_drop,length_take];omega
   rw [aeR] at aD
   have hp:(10:Nat)^(i-lo)≤10^4:=pow_le_pow_right (by decide) (by omega)
   have xO:d<10000:=by rw [Jt];omega
   rw [aEi]
   simp only [cA,ah,bR]
   refine ⟨fun Cb=>?_,fun Cb=>?_⟩
   ·have p6:i<s.length:=by omega
    have ix:=wD (a:=s) (i:=i) p6 .i64
    have Fj:ai .lss (cv s[i]) (.int .u8 48)=some (B (decide ((s[i].toNat:Int)<48))):=rfl
    have Jh:ai .gtr (cv s[i]) (.int .u8 57)=some (B (decide ((s[i].toNat:Int)>57))):=rfl
    by_cases v3:48≤s[i].toNat∧s[i].toNat≤57
    rotate_left
    ·have mN:¬kA s:=fun hd=>v3 (hd _ (getElem_mem p6))
     simp only [ix,ah,Fj]
     by_cases nr:s[i].toNat<48
     ·simp only [aU (show (s[i].toNat:Int)<48 by omega),VJ,fw,VL,dZ,ah,c8]
      exact fail _ hex k0 mN
     ·simp only [aS (show ¬(s[i].toNat:Int)<48 by omega),VJ,dR,ix,ah,Jh,aU (show (s[i].toNat:Int)>57 by omega),VL,cK,c8]
      exact fail _ hex k0 mN
    have We:ai .sub (cv s[i]) (.int .u8 48)=some (.int .u8 (IntKind.wrap .u8 ((s[i].toNat:Int)-48))):=rfl
    have w8:IntKind.wrap .u8 ((s[i].toNat:Int)-48)=((s[i].toNat-48:Nat):Int):=by
     have e:IntKind.wrap .u8 ((s[i].toNat:Int)-48)=((s[i].toNat:Int)-48)%256:=by simp [IntKind.wrap,IntKind.bits,IntKind.signed]
     rw [e];omega
    have w64:IntKind.wrap .i64 ((s[i].toNat-48:Nat):Int)=((s[i].toNat-48:Nat):Int):=wrap64 (by omega) (by omega)
    have w10:IntKind.wrap .i64 ((10:Int)*(d:Int))=((10*d:Nat):Int):=by rw [wrap64 (by omega) (by omega)];omega
    have wad:IntKind.wrap .i64 (((10*d:Nat):Int)+((s[i].toNat-48:Nat):Int))=((10*d+(s[i].toNat-48):Nat):Int):=by rw [wrap64 (by omega) (by omega)];omega
    simp only [ix,ah,Fj,aS (show ¬(s[i].toNat:Int)<48 by omega),VJ,dR,Jh,aS (show ¬(s[i].toNat:Int)>57 by omega),VL,cK,dF,ue,w10,We,w8,jY,w64,cf,wad,eR i (by omega),true_and]
    refine gj (10*d+(s[i].toNat-48),i+1) ⟨by show lo≤i+1;omega,by show i+1≤a;omega,?_,?_⟩ (by show a-(i+1)<a-i;omega)
    rotate_left
    ·show kA ((s.take (i+1)).drop lo)
     rw [take_succ_eq_append_getElem p6,List.drop_append_of_le_length (by rw [length_take];omega)]
     intro c hc
     rcases mem_append.1 hc with hc | hc
     ·exact nS c hc
     ·rw [mem_singleton.1 hc];exact v3
    show 10*d+(s[i].toNat-48)=dQ ((s.take (i+1)).drop lo)
    rw [take_succ_eq_append_getElem p6,List.drop_append_of_le_length (by rw [length_take];omega),A5,L9,←Jt]
    simp
    omega
   ·have axx:i=a:=by omega
    subst axx
    rw [aEj]
    have ld:af false 1 hx (pt (h.length+1) 1)=some v:=by simp [af,aP,k1,b9]
    simp only [bU,zero_add,ah,ld]
    refine Zw hlen jt (by omega) ?_
    intro v' bT hs lX uG
    have kY:bT[h.length+1]?=some (.arr 35 [B false,v]):=by rw [hs _ (by omega)];exact k1
    rw [oS kY (by simp) uG.ds.one.1 uG.ds.one.2]
    have e5:IntKind.wrap .i64 ((i:Int)-4)=(i:Int)-4:=wrap64 (by omega) (by omega)
    simp only [aA,List.set_cons_succ,List.set_cons_zero,aEk,gE,ah,e5,true_and]
    have el:(os++[d]).length=os.length+1:=by simp
    refine hL ((i:Int)-4,os++[d],v',bT.set (h.length+1) (.arr 35 [B false,v'])) ⟨?_,?_,?_,ck kY,uG.set (by omega) _,fB.append (fun y hy=>by simp at hy;omega),by rw [el];show (i:Int)-4=_;omega,by show -4<(i:Int)-4;omega,?_,?_⟩ (by show ((i:Int)-4+4).toNat<((i:Int)+4).toNat;omega)
    ·rw [List.length_set];exact lX
    ·refine EX.set ⟨by have:=hex.1;omega,fun j hj=>?_⟩ (by omega) _
     rw [hs j (by omega)];exact hex.2 j hj
    ·rw [getElem?_set_ne (by omega),hs _ (by omega)];exact k0
    rotate_left
    ·show kA (s.drop ((i:Int)-4).toNat)
     have QM:((i:Int)-4).toNat=lo:=by omega
     have et:(i:Int).toNat=i:=by omega
     rw [et] at B5
     rw [QM]
     have Ad:s.drop lo=(s.take i).drop lo++s.drop i:=by
      conv=>lhs;rw [←List.take_append_drop i s]
      rw [List.drop_append_of_le_length (by rw [length_take];omega)]
     rw [Ad]
     intro c hc
     rcases mem_append.1 hc with hc | hc
     ·exact nS c hc
     ·exact B5 c hc
    ·show val 10000 (os++[d])+10000^(os++[d]).length*dQ (s.take ((i:Int)-4).toNat)=dQ s
     rw [el,od,←bW,Nat.pow_succ]
     have et:(i:Int).toNat=i:=by omega
     have QM:((i:Int)-4).toNat=lo:=by omega
     rw [et,QM]
     have Ad:s.take i=s.take lo++(s.take i).drop lo:=by
      conv=>lhs;rw [←List.take_append_drop lo (s.take i)]
      rw [List.take_take,Nat.min_eq_left aeS]
     rw [Ad,A5,aeR,←Jt]
     simp only [val,Nat.mul_zero,add_zero]
     have axO:dQ (s.take lo)*10^(i-lo)=10000*dQ (s.take lo):=by
      by_cases h4:4≤i
      ·have:i-lo=4:=by omega
       rw [this,Nat.mul_comm]
      ·have:lo=0:=by omega
       subst this
       simp [dQ]
     rw [axO]
     generalize 10000^os.length=P
     generalize dQ (s.take lo)=w
     generalize val 10000 os=q
     clear hL gj jt uG
     grind
  ·rw [aEl,cO k1]
   simp only [ah]
   have oG:yQ.toNat=0:=by omega
   rw [oG] at bW B5
   rw [List.drop_zero] at B5
   have hk:=hk B5
   have ayw:val 10000 os=dQ s:=by simpa [dQ] using bW
   refine yE jt.ds fB (by omega) ?_
   intro r h5 x5 zr
   simp only [Bool.false_eq_true,if_false,ayw] at zr
   obtain ⟨q,rfl,hq⟩:=id zr
   have g':=x5.get k0
   refine zi (K:=fun v h=>K (.tuple #[v,B true]) h) g' (hk _ _ ((hex.trans x5).set (le_refl _) _) (zr.bM g' _))
 by_cases nr:(s[0].toNat:Int)=48
 ·have zR:=vZ nr
  have e5:ai .eql (cv s[0]) (.int .u8 48)=some (B true):=by
   show some (B (decide ((s[0].toNat:Int)=48)))=_
   rw [aU nr]
  simp only [e5,ah,F0,jm,mf,fG,aS (show ¬(s.length:Int)>1 by omega),F1,dR,dZ]
  exact after _ rfl
 ·have e5:ai .eql (cv s[0]) (.int .u8 48)=some (B false):=by
   show some (B (decide ((s[0].toNat:Int)=48)))=_
   rw [aS nr]
  simp only [e5,ah,F0,kL,F1,dR,cK]
  exact after _ rfl
def gR (s:List UInt8):Bool:=((decide (0<s.length)&&decide (s.length≤4000))&& !(decide (s.head?=some 48)&&decide (1<s.length)))&&s.all fun c=>decide (48≤c.toNat)&&decide (c.toNat≤57)
theorem uo {s:List UInt8}:gR s=true↔(0<s.length∧s.length≤4000)∧(s.head?=some 48→s.length=1)∧kA s:=by
 unfold gR kA
 simp only [and_eq_true,decide_eq_true_eq,Bool.not_eq_true',Bool.and_eq_false_iff,decide_eq_false_iff_not,List.all_eq_true]
 constructor
 ·rintro ⟨⟨h1,h2⟩,h3⟩
  refine ⟨h1,fun h=>?_,h3⟩
  rcases h2 with h2 | h2
  ·exact absurd h h2
  ·omega
 ·rintro ⟨h1,h2,h3⟩
  refine ⟨⟨h1,?_⟩,h3⟩
  by_cases h:s.head?=some 48
  ·have:=h2 h
   exact .inr (by omega)
  ·exact .inl h
theorem aoy {s:List UInt8} {h:ae} {K:Value→ae→Prop}
  (hk:gR s=true→∀r h',EX h h'→ZV h' r (dQ s)→K (.tuple #[r,B true]) h')
  (eK:gR s=false→∀h',EX h h'→K (.tuple #[.agg #[B false,.slice none 0 0],B false]) h'):ak prog 99 [S s] h K:=by
 by_cases hb:(0<s.length∧s.length≤4000)∧(s.head?=some 48→s.length=1)
 ·refine aox hb.1.1 hb.1.2 hb.2 (fun hd=>hk (uo.2 ⟨hb.1,hb.2,hd⟩)) fun hd=>eK ?_
  cases e:gR s with
  | false=>rfl
  | true=>exact absurd (uo.1 e).2.2 hd
 have dh:gR s=false:=by
  cases e:gR s with
  | false=>rfl
  | true=>exact absurd ⟨(uo.1 e).1,(uo.1 e).2.1⟩ hb
 refine f99 ?_
 have e2:∀g:ae,aV 35 [(.bool false),(.slice none 0 0)] g=some (pt g.length 0,g++[.arr 35 [(.bool false),(.slice none 0 0)]]):=fun _=>rfl
 have e3:dd [(.bool false),(.slice none 0 0)] []=some (.agg #[B false,.slice none 0 0]):=rfl
 simp only [G1,e2,aA,mf,ah,cA]
 have k0:=bn (h:=h) (o:=.arr 35 [(.bool false),(.slice none 0 0)])
 have x0:EX h (h++[.arr 35 [(.bool false),(.slice none 0 0)]]):=EX.append _ _
 have after:∀t:Value,FP prog K (S s) (pt h.length 0) (B true) t (h++[.arr 35 [(.bool false),(.slice none 0 0)]]):=by
  intro t
  rw [VI]
  simp only [dZ,ah,c8,e3]
  rw [fD k0]
  simp only [aA]
  rw [cO (ck k0),ah]
  exact eK dh _ (x0.set (le_refl _) _)
 by_cases h0:s.length=0
 ·rw [aU (show (s.length:Int)<1 by omega)]
  simp only [VM,fw,Lk,dZ,ah,Ll,F0,F1,Bi]
  exact after _
 rw [aS (show ¬(s.length:Int)<1 by omega)]
 simp only [VM,dR,mf,ah,fG]
 by_cases h1:s.length>4000
 ·rw [aU (show (s.length:Int)>4000 by omega)]
  simp only [Lk,cK,ah,Ll,fw,F0,F1,Bi]
  exact after _
 rw [aS (show ¬(s.length:Int)>4000 by omega)]
 have i0:=wD (a:=s) (i:=0) (by omega) .i64
 simp only [Int.natCast_zero] at i0
 have h2:s.head?=some 48∧1<s.length:=by
  by_cases h:s.head?=some 48∧1<s.length
  ·exact h
  ·refine absurd ⟨⟨by omega,by omega⟩,fun h3=>?_⟩ hb
   have:¬1<s.length:=fun h4=>h ⟨h3,h4⟩
   omega
 have hc:(s[0]'(by omega)).toNat=48:=by
  have:=h2.1
  rw [List.head?_eq_getElem?,getElem?_eq_getElem (by omega)] at this
  injection this with this
  rw [this];rfl
 have e5:ai .eql (cv (s[0]'(by omega))) (.int .u8 48)=some (B true):=by
  show some (B (decide (((s[0]'(by omega)).toNat:Int)=48)))=_
  rw [aU (by omega)]
 simp only [Lk,cK,ah,Ll,dR,i0,e5,F0,jm,mf,fG,aU (show (s.length:Int)>1 by omega),F1,dZ,VI,c8,e3]
 rw [fD k0]
 simp only [aA]
 rw [cO (ck k0),ah]
 exact eK dh _ (x0.set (le_refl _) _)
end
section
variable (P : Program) (K : VK)
noncomputable section
variable (n0 d1 n2 d3 x4 : Value) (h : ae)
def aid:=bz prog 54 [[],[],[2,3,4],[]]
@[irreducible] def PV:=bJ aid
@[irreducible] def atq:=PV.r.r.l
theorem k54:aid=some (14,PV,[.cell true 4 4]):=by kernel_rfl
def ap4 (_P:Program) (K:VK):ar:=aT [.cell true 4 4] K
def UH:Prop:=ay (aq P atq (ap4 P K)) [2,3,4] [n2,d3,x4] h
theorem aCD:UH P K n2 d3 x4 h=
 (OP (af true 2 h n2) fun au=>
 OP (af true 2 h d3) fun aC=>
 OP (dd [(.bool false),(.slice none 0 0),(.bool false),(.slice none 0 0)] [(0,2,au),(2,2,aC)]) fun aB=>
 OH (aF 4 h x4 aB) fun _ z1=>
 OP (af true 4 z1 x4) fun r0=>
 K r0 z1):=az (by kernel_rfl)
def OA:Prop:=
 OH (bm 35 h n0) fun n2 z1=>
 OH (bm 35 z1 d1) fun d3 z2=>
 OH (aV 37 [(.bool false),(.slice none 0 0),(.bool false),(.slice none 0 0)] z2) fun x4 z3=>
 OP (aL 0 d3) fun x5=>
 OP (af false 1 z3 x5) fun x6=>
 aR x6
 (OP (af true 2 z3 n2) fun x7=>
 (True)∧
 ak P 95 [x7] z3 fun x8 z4=>
 (True)∧
 OP (af true 2 z4 d3) fun x9=>
 (af true 2 z3 d3=some x9∧True)∧
 ak P 95 [x9] z4 fun aM z5=>
 (True)∧
 OH (aF 2 z5 n2 x8) fun _ z6=>
 (True)∧
 OH (aF 2 z6 d3 aM) fun _ z7=>
 (True)∧
 UH P K n2 d3 x4 z7)
 (UH P K n2 d3 x4 z3)
theorem e54:aq P PV (aT [.cell true 4 4] K) (bt [n0,d1]) h=OA P K n0 d1 h:=by kernel_rfl
theorem f54 {K:VK} {n0 d1:Value} {h:ae} (H:OA prog K n0 d1 h):ak prog 54 [n0,d1] h K:=
 bK k54 (bI rfl) ((e54 prog K n0 d1 h).mpr H)
end
end
section
theorem C54 {va vb:Value} {a b:Int} {h:ae} {K:Value→ae→Prop} (ha:ZV h va a) (hb:ZV h vb b) (b0:0≤b) (hk:∀r h',EX h h'→QZ h' r a b→K r h'):ak prog 54 [va,vb] h K:=by
 obtain ⟨v,rfl,hv⟩:=ha
 obtain ⟨w,rfl,hw⟩:=hb
 have wy:decide (b<0)=false:=aS (by omega)
 refine f54 ?_
 have e1:∀(g:ae) (s:Bool) (v:Value),bm 35 g (.agg #[B s,v])=some (pt g.length 0,g++[.arr 35 [B s,v]]):=fun _ _ _=>rfl
 have e3:∀(g:ae),aV 37 [(.bool false),(.slice none 0 0),(.bool false),(.slice none 0 0)] g=some (pt g.length 0,g++[.arr 37 z4]):=fun _=>rfl
 simp only [OA,e1,e3,aA]
 have q0:EX h (h++[.arr 35 [B (decide (a<0)),v]]):=EX.append _ _
 have p0:(h++[aj.arr 35 [B (decide (a<0)),v]])[h.length]?=some (.arr 35 [B (decide (a<0)),v]):=bn
 generalize h++[aj.arr 35 [B (decide (a<0)),v]]=ga at q0 p0⊢
 have q1:EX ga (ga++[.arr 35 [B (decide (b<0)),w]]):=EX.append _ _
 have p1:(ga++[aj.arr 35 [B (decide (b<0)),w]])[ga.length]?=some (.arr 35 [B (decide (b<0)),w]):=bn
 generalize ga++[aj.arr 35 [B (decide (b<0)),w]]=gb at q1 p1⊢
 have q2:EX gb (gb++[.arr 37 z4]):=EX.append _ _
 have p2:(gb++[aj.arr 37 z4])[gb.length]?=some (.arr 37 z4):=bn
 generalize gb++[aj.arr 37 z4]=gc at q2 p2⊢
 have k0:=(q1.trans q2).get p0
 have k1:=q2.get p1
 have x0:=q0.trans (q1.trans q2)
 have l1:af false 1 gc (pt ga.length 0)=some (B (decide (b<0))):=by simp [af,aP,k1,b9]
 simp only [bU,add_zero,ah,l1]
 rw [wy]
 simp only [dF]
 rw [aCD,cO k0,cO k1]
 simp only [ah]
 have J4:ZV gc (.agg #[B (decide (a<0)),v]) a:=⟨v,rfl,hv.mono x0⟩
 have J5:ZV gc (.agg #[B (decide (b<0)),w]) b:=⟨w,rfl,hw.mono x0⟩
 obtain ⟨xs,dx,_⟩:=id (hv.mono x0)
 obtain ⟨ys,dy,_⟩:=id (hw.mono x0)
 rw [Hc dx dy]
 simp only [ah]
 exact rR p2 (hk _ _ (x0.set (q0.trans q1).1 _) ⟨v,w,rfl,(hv.mono x0).bM p2 _,(hw.mono x0).bM p2 _⟩)
theorem aA1:(1000000000000000000:Nat)<10000^199:=by decide+kernel
theorem C17 {w n:Int} {h:ae} {K:Value→ae→Prop} (hw:w.natAbs<1000000000000000000) (n0:0<n) (hn:n.natAbs<1000000000000000000) (hk:∀r h',EX h h'→QZ h' r (w / (gcd w.natAbs n.natAbs:Int)) (n / (gcd w.natAbs n.natAbs:Int))→K r h'):ak prog 17 [I w,I n] h K:=by
 refine f17 ?_
 have e3:aV 37 [(.bool false),(.slice none 0 0),(.bool false),(.slice none 0 0)] h=some (pt h.length 0,h++[.arr 37 z4]):=rfl
 simp only [Oh,e3,aA]
 have x0:EX h (h++[.arr 37 z4]):=EX.append _ _
 have g0:(h++[aj.arr 37 z4])[h.length]?=some (.arr 37 z4):=bn
 generalize h++[aj.arr 37 z4]=ga at x0 g0⊢
 refine vC hw ?_
 intro r1 h1 x1 z1
 refine vC hn ?_
 intro r2 h2 x2 z2
 refine C54 (z1.mono x2) z2 (by omega) ?_
 intro q h3 x3 qz
 have p18:=aA1
 refine Mw qz n0 (by omega) (by omega) ?_
 intro r h4 x4 qr
 have aH:=(x1.trans x2).trans (x3.trans x4)
 have g4:=aH.get g0
 obtain ⟨y,z,rfl,my,mz⟩:=qr
 exact rR g4 (hk _ _ ((x0.trans aH).set (le_refl _) _) ⟨y,z,rfl,my.bM g4 _,mz.bM g4 _⟩)
theorem avr {n:Nat} (hn:n<br) (h:cI n=[49]):n=1:=by
 have:=(ui hn).2.2.2.2
 rw [h] at this
 simpa [dQ] using this.symm
theorem aoo {va:Value} {a b:Int} {h:ae} {K:Value→ae→Prop} (ha:QZ h va a b) (b0:0<b) (la:a.natAbs<10000^199) (lb:b.natAbs<10000^199) (hk:∀h',EX h h'→K (.tuple #[S (mW (a / (gcd a.natAbs b.natAbs:Int)) (b / (gcd a.natAbs b.natAbs:Int))),B true]) h'):ak prog 53 [va] h K:=by
 have oH:=ha
 obtain ⟨u,w,rfl,hu,hw⟩:=ha
 refine f53 ?_
 have e1:bm 37 h (.agg #[B (decide (a<0)),u,B (decide (b<0)),w])=some (pt h.length 0,h++[.arr 37 [B (decide (a<0)),u,B (decide (b<0)),w]]):=rfl
 simp only [Oz,e1,aA]
 have x1:EX h (h++[aj.arr 37 [B (decide (a<0)),u,B (decide (b<0)),w]]):=EX.append _ _
 have k1:(h++[aj.arr 37 [B (decide (a<0)),u,B (decide (b<0)),w]])[h.length]?=some (.arr 37 [B (decide (a<0)),u,B (decide (b<0)),w]):=bn
 generalize h++[aj.arr 37 [B (decide (a<0)),u,B (decide (b<0)),w]]=h1 at x1 k1⊢
 rw [iH k1]
 simp only [ah]
 refine Mw (oH.mono x1) b0 la lb ?_
 intro r h2 x2 q2
 have hg0:0<gcd a.natAbs b.natAbs:=Nat.gcd_pos_of_pos_right _ (by omega)
 have RG:gcd a.natAbs b.natAbs≤b.natAbs:=Nat.gcd_le_right _ (by omega)
 have Rx:(gcd a.natAbs b.natAbs:Int) ∣ a:=Int.gcd_dvd_left ..
 have xO:(gcd a.natAbs b.natAbs:Int) ∣ b:=Int.gcd_dvd_right ..
 generalize hG:gcd a.natAbs b.natAbs=G at*
 have la':(a / (G:Int)).natAbs<10000^199:=by
  obtain ⟨c,rfl⟩:=Rx
  rw [Int.mul_ediv_cancel_left c (by omega)]
  have:c.natAbs≤((G:Int)*c).natAbs:=by rw [Int.natAbs_mul];exact Nat.le_mul_of_pos_left _ (by omega)
  omega
 have b1:0<b / (G:Int)∧(b / (G:Int)).natAbs<10000^199:=by
  obtain ⟨c,rfl⟩:=xO
  rw [Int.mul_ediv_cancel_left c (by omega)]
  have hc:0<c:=by
   apply byContradiction
   intro gG
   have:=Int.mul_nonpos_of_nonneg_of_nonpos (show (0:Int)≤(G:Int) by omega) (show c≤0 by omega)
   omega
  have:c.natAbs≤((G:Int)*c).natAbs:=by rw [Int.natAbs_mul];exact Nat.le_mul_of_pos_left _ (by omega)
  exact ⟨hc,by omega⟩
 generalize a / (G:Int)=A at*
 generalize b / (G:Int)=D at*
 obtain ⟨D0,lD⟩:=b1
 obtain ⟨u',w',rfl,Af,pC⟩:=q2
 have hsD:decide (D<0)=false:=aS (by omega)
 have k2:=x2.get k1
 rw [oa k2]
 simp only [aA]
 have x3:EX h (h2.set h.length (.arr 37 [B (decide (A<0)),u',B (decide (D<0)),w'])):=(x1.trans x2).set (le_refl _) _
 have k3:=ck (o:=.arr 37 [B (decide (A<0)),u',B (decide (D<0)),w']) k2
 have hu3:=Af.bM k2 (.arr 37 [B (decide (A<0)),u',B (decide (D<0)),w'])
 have oM:=pC.bM k2 (.arr 37 [B (decide (A<0)),u',B (decide (D<0)),w'])
 generalize h2.set h.length (.arr 37 [B (decide (A<0)),u',B (decide (D<0)),w'])=h3 at x3 k3 hu3 oM⊢
 have aHn:(10000:Nat)^199<10000^201:=by decide+kernel
 have hb:=pN (n:=A.natAbs) (by omega)
 have hD:=pN (n:=D.natAbs) (by omega)
 simp only [bU,add_zero,zero_add,jR k3,ah,true_and]
 refine MI (⟨u',rfl,hu3⟩:ZV h3 _ A) ?_
 intro ua h4 x4 m4
 refine XI m4.Gd hb ?_
 intro h5 x5
 have oQ:∀{g},EX h3 g→af false 1 g (pt h.length 0)=some (B (decide (A<0))):=fun y=>EX.load y (by simp [af,aP,k3,b9])
 simp only [kZ k3,EX.load x4 (kZ k3),EX.load (x4.trans x5) (kZ k3),ah,true_and]
 have hw5:fQ h5 w' D.natAbs:=(oM.mono x4).mono x5
 have zD:ZV h5 (.agg #[B (decide (D<0)),w']) ((D.natAbs:Nat):Int):=⟨w',by rw [hsD,aS (by omega)],by rwa [natAbs_natCast]⟩
 refine XI (n:=D.natAbs) zD hD ?_
 intro h6 x6
 obtain ⟨d1,d2,d3,d4,d5⟩:=ui hb
 obtain ⟨c1,c2,c3,c4,c5⟩:=ui hD
 have xx:=(x4.trans x5).trans x6
 have nl:=ahe hb
 simp only [mf,ah,fG,aS (show ¬((cI A.natAbs).length:Int)>4000 by omega),aCB,dR,aS (show ¬((cI D.natAbs).length:Int)>4000 by omega)]
 simp only [aCC,cK,ah,dF,bU,add_zero,oQ xx]
 have fin:KW prog K (S (il A)) (S (cI D.natAbs)) h6:=by
  rw [aCA]
  have:ai .neq (S (cI D.natAbs)) (.string ⟨#[49]⟩)=some (B (!decide (cI D.natAbs=[49]))):=by
   show ai .neq (S (cI D.natAbs)) (S [49])=_
   rw [ZE]
  simp only [this,ah]
  by_cases h1:D=1
  ·subst h1
   have e:mW A 1=il A:=by unfold mW;rw [if_pos rfl]
   have one:cI (1:Int).natAbs=[49]:=by decide+kernel
   rw [one]
   simp only [decide_true,Bool.not_true,dF,amo]
   rw [←e]
   exact hk _ (x3.trans xx)
  ·have e:mW A D=il A++([47]++cI D.natAbs):=by unfold mW;rw [if_neg h1];rfl
   have bp:cI D.natAbs≠[49]:=fun h9=>h1 (by have:=avr hD h9;omega)
   have a1:ai .add (.string ⟨#[47]⟩) (S (cI D.natAbs))=some (S ([47]++cI D.natAbs)):=yU (a:=[47]) (b:=cI D.natAbs) (by simp [maxLen];omega)
   have a2:ai .add (S (il A)) (S ([47]++cI D.natAbs))=some (S (il A++([47]++cI D.natAbs))):=yU (a:=il A) (b:=[47]++cI D.natAbs) (by simp [maxLen];omega)
   rw [aS bp]
   simp only [Bool.not_false,c8,a1,a2,ah,amo]
   rw [←e]
   exact hk _ (x3.trans xx)
 by_cases gG:A<0
 ·have hs:il A=45::cI A.natAbs:=by unfold il;rw [if_pos gG]
  have ad:ai .add (.string ⟨#[45]⟩) (S (cI A.natAbs))=some (S (il A)):=by
   rw [hs]
   exact yU (a:=[45]) (b:=cI A.natAbs) (by simp [maxLen];omega)
  rw [aU gG]
  simp only [c8,ad,ah]
  exact fin
 ·have hs:il A=cI A.natAbs:=by unfold il;rw [if_neg gG]
  rw [aS gG,←hs]
  simp only [dF]
  exact fin
end
section
def cL (s:List UInt8):Nat:=if gR s=true then dQ s else 0
theorem L7 (s:List UInt8):cL s<10^s.length:=by
 unfold cL
 split
 ·rename_i h
  exact A6 (uo.1 h).2.2
 ·exact pow_pos (by decide)
theorem aA6 {k n:Nat} (h:k≤4*n):10^k≤10000^n:=by
 have e:10^(4*n)=10000^n:=by rw [Nat.pow_mul]
 rw [←e]
 exact pow_le_pow_right (by decide) h
theorem aA2:(10000:Nat)^199≤br:=by unfold br;decide+kernel
theorem anE:(2:Nat)<10000^199:=by decide+kernel
theorem anI {s:List UInt8} (h:s.length≤700):cL s<10000^199:=by
 exact lt_of_lt_of_le (L7 s) (aA6 (n:=199) (by omega))
theorem fQ.nil (h:ae):fQ h (.slice none 0 0) 0:=⟨[],.inl ⟨rfl,rfl⟩,⟨fun y hy=>by simp at hy,by simp⟩,rfl⟩
theorem XL {s:List UInt8} {h:ae} {K:Value→ae→Prop}
  (hk:∀r h',EX h h'→ZV h' r (cL s)→K (.tuple #[r,B (gR s)]) h'):ak prog 99 [S s] h K:=by
 refine aoy (fun hd r h' x z=>?_) (fun hd h' x=>?_)
 ·have:=hk r h' x (by unfold cL;rw [if_pos hd];exact z)
  rw [hd] at this
  exact this
 ·have:=hk (.agg #[B false,.slice none 0 0]) h' x (by
   unfold cL;rw [if_neg (by rw [hd];decide)]
   exact ⟨.slice none 0 0,rfl,fQ.nil h'⟩)
  rw [hd] at this
  exact this
def sN:Value:=.agg #[B false,.slice none 0 0,B false,.slice none 0 0]
theorem adJ {g:ae} {j:Nat} {K:Value→ae→Prop} (hg:g[j]?=some (.arr 37 z4)) (hk:K (.tuple #[sN,B false]) (g.set j (.arr 37 z4))):
  OP (dd [(.bool false),(.slice none 0 0),(.bool false),(.slice none 0 0)] []) fun iy=>OH (aF 4 g (pt j 0) iy) fun _ h_1=>OP (af true 4 h_1 (pt j 0)) fun r0=>K (.tuple #[r0,(.bool false)]) h_1:=by
 have e:dd [(.bool false),(.slice none 0 0),(.bool false),(.slice none 0 0)] []=some sN:=rfl
 rw [e,ah]
 have s:=oa (x:=B false) (y:=.slice none 0 0) (z:=B false) (w:=.slice none 0 0) hg
 have s':aF 4 g (pt j 0) sN=some (undef,g.set j (.arr 37 z4)):=s
 rw [s',aA]
 have l:=iH (ck (o:=.arr 37 z4) hg)
 have l':af true 4 (g.set j (.arr 37 z4)) (pt j 0)=some sN:=l
 rw [l',ah]
 exact hk
theorem XA {m ok:Bool} {n d:Nat} {h0 g:ae} {i2 i8 i10:Nat} {vn vd:Value} {K:Value→ae→Prop} (k2:g[i2]?=some (.arr 37 z4)) (k8:g[i8]?=some (.arr 35 [B (decide ((n:Int)<0)),vn])) (mn:fQ g vn n)
  (Fb:g[i10]?=some (.arr 35 [B (decide ((d:Int)<0)),vd])) (md:fQ g vd d) (b2:h0.length≤i2) (b8:h0.length≤i8) (n28:i2≠i8) (aAp:i8≠i10) (x:EX h0 g)
  (hk:ok=true→(m=true→n≠0)→∀r h',EX h0 h'→QZ h' r (if m then -(n:Int) else n) d→K (.tuple #[r,B true]) h')
  (eK:(ok=false∨m=true∧n=0)→∀h',EX h0 h'→K (.tuple #[sN,B false]) h'):AS prog K (pt i2 0) (B m) (pt i8 0) (B ok) (pt i10 0) g:=by
 have bad:(ok=false∨m=true∧n=0)→∀t u,bQ t (.bool true) u=some (B true)→FN prog K (pt i2 0) (B m) (pt i8 0) (pt i10 0) t u g:=by
  intro hb t u ht
  rw [amB,ht]
  simp only [ah,c8]
  exact adJ k2 (eK hb _ (x.set b2 _))
 have Ep:ok=true→(m=true→n≠0)→FN prog K (pt i2 0) (B m) (pt i8 0) (pt i10 0) (B false) (B false) g:=by
  intro ho hm
  have hk:=hk ho hm
  rw [amB]
  simp only [cK,ah]
  cases m with
  | false=>
   simp only [dF]
   rw [amC,cO k8,ah,cO Fb,ah]
   exact BK (K:=fun v h=>K (.tuple #[v,B true]) h) ⟨vn,rfl,mn⟩ ⟨vd,rfl,md⟩ x b2 k2 hk
  | true=>
   simp only [dF,c8]
   rw [cO k8,ah]
   refine XJ (a:=n) ⟨vn,rfl,mn⟩ ?_
   intro r7 h7 x7 z7
   obtain ⟨v7,rfl,hv7⟩:=id z7
   have g7:=x7.get k8
   rw [fD g7]
   simp only [aA]
   have ay7:(h7.set i8 (.arr 35 [B (decide (-(n:Int)<0)),v7]))[i10]?=some (.arr 35 [B (decide ((d:Int)<0)),vd]):=by
    rw [getElem?_set_ne aAp];exact x7.get Fb
   rw [amC,cO (ck g7),ah,cO ay7,ah]
   refine BK (K:=fun v h=>K (.tuple #[v,B true]) h) (z7.bM g7 _) ⟨vd,rfl,?_⟩ ((x.trans x7).set b8 _) b2 (by rw [getElem?_set_ne n28.symm];exact x7.get k2) hk
   exact fQ.bM (md.mono x7) g7 _
 have n1:gJ .not (B ok)=some (B (!ok)):=rfl
 rw [aDf,n1,ah,aDg]
 cases ok with
 | false=>
  simp only [Bool.not_false,fw,amA,Bi,VD]
  exact bad (.inl rfl) _ _ rfl
 | true=>
  simp only [Bool.not_true,dR,amA]
  cases m with
  | false=>
   simp only [kL,VD,dR,cK,ah]
   exact Ep rfl (fun h=>by cases h)
  | true=>
   obtain ⟨l,p1,p2⟩:=mn.qo
   have ld:af false 1 g (pt i8 1)=some vn:=by simp [af,aP,k8,b9]
   simp only [jm,bU,zero_add,ah,ld,p1,iT,VD,dR,dZ]
   by_cases hn:n=0
   ·rw [aU (show (l:Int)=0 by omega)]
    exact bad (.inr ⟨rfl,hn⟩) _ _ rfl
   ·rw [aS (show ¬(l:Int)=0 by omega)]
    exact Ep rfl (fun _=>hn)
def dM (t:List UInt8):List UInt8:=t.take (t.idxOf 47)
def dU (t:List UInt8):List UInt8:=t.drop (t.idxOf 47+1)
def nQ (t:List UInt8):Bool:=decide (t.idxOf 47<t.length)
def ph (t:List UInt8):Bool:= !nQ t||(gR (dU t)&&(decide (2≤cL (dU t))&&decide (gcd (cL (dM t)) (cL (dU t))=1)))
def pT (t:List UInt8):Nat:=if nQ t=true then cL (dU t) else 1
def ru (m:Bool) (t:List UInt8):Option (Int×Nat):=
 if ph t=true∧gR (dM t)=true∧(m=true→cL (dM t)≠0) then some (if m then -(cL (dM t):Int) else cL (dM t),pT t) else none
def ke (s:List UInt8):Option (Int×Nat):=if s.head?=some 45 then ru true s.tail else ru false s
theorem ayO (s:List UInt8):∀{i:Nat},i<s.length→(s.drop i).idxOf 47=if s[i]! =47 then 0 else (s.drop (i+1)).idxOf 47+1:=by
 intro i hi
 rw [List.drop_eq_getElem_cons hi,idxOf_cons]
 have:s[i]! =s[i]:=by simp [hi]
 rw [this]
 by_cases h:s[i]=47
 ·simp [h]
 ·have h':(s[i]==47)=false:=beq_eq_false_iff_ne.2 h
  rw [h'];simp [h]
theorem MB {s:List UInt8} {m:Bool} {h:ae} {j:Nat} {K:Value→ae→Prop} {h0:ae} (hl:s.length≤700) (x0:EX h0 h) (hj:h0.length≤j) (hg:h[j]?=some (.arr 37 z4))
  (hk:∀n d,ru m s=some (n,d)→∀r h',EX h0 h'→QZ h' r n d→K (.tuple #[r,B true]) h')
  (eK:ru m s=none→∀h',EX h0 h'→K (.tuple #[sN,B false]) h'):K3 prog K (pt j 0) (S s) (B m) h:=by
 rw [aDb]
 have e1:IntKind.wrap .i64 ((s.length:Int)-1)=(s.length:Int)-1:=wrap64 (by omega) (by omega)
 simp only [mf,ah,gE,e1]
 refine dj (σ:=Nat) (fun p=>[I ((p+(s.drop p).idxOf 47:Nat):Int),I ((p:Int)-1)]) (fun _=>h) (fun p=>p≤s.length) (fun p=>p)
  s.length (by simp) rfl (le_refl _) ?_
 intro i hi L hL
 rw [aDc]
 simp only [nk,ah,bR]
 refine ⟨fun cJ=>?_,fun aD=>?_⟩
 ·obtain ⟨p,rfl⟩:∃p,i=p+1:=⟨i-1,by omega⟩
  have hp:p<s.length:=by omega
  have ei:((p+1:Nat):Int)-1=(p:Int):=by omega
  have ix:=wD (a:=s) (i:=p) hp .i64
  have e5:ai .eql (cv s[p]) (.int .u8 47)=some (B (decide ((s[p].toNat:Int)=47))):=rfl
  have e2:IntKind.wrap .i64 ((p:Int)-1)=(p:Int)-1:=wrap64 (by omega) (by omega)
  have nx:=hL p (by omega) (by omega)
  rw [ayO s hp] at nx
  have e6:s[p]! =s[p]:=by simp [hp]
  rw [e6] at nx
  rw [ei]
  simp only [ix,ah,e5,aDd,gE,e2,true_and]
  have e7:(decide ((s[p].toNat:Int)=47))=decide (s[p]=47):=by
   rw [decide_eq_decide]
   constructor
   ·intro h;apply UInt8.toNat_inj.1;show s[p].toNat=47;omega
   ·intro h;rw [h];rfl
  rw [e7,bR]
  refine ⟨fun h=>?_,fun h=>?_⟩
  ·rw [if_pos h] at nx;simpa using nx
  ·rw [if_neg h] at nx
   have:p+((s.drop (p+1)).idxOf 47+1)=p+1+(s.drop (p+1)).idxOf 47:=by omega
   rw [this] at nx;exact nx
 ·have oG:i=0:=by omega
  subst oG
  simp only [List.drop_zero,zero_add]
  have gF:s.idxOf 47≤s.length:=List.idxOf_le_length
  rw [aDe]
  have wV:=Wj (a:=s) (n:=s.idxOf 47) gF .i64
  simp only [wV,ah]
  have lo:(dM s).length≤700:=by unfold dM;rw [length_take];omega
  have lu:(dU s).length≤700:=by unfold dU;rw [length_drop];omega
  refine XL ?_
  intro r h1 x1 z1
  show OP _ _
  have fo:s.take (s.idxOf 47)=dM s:=rfl
  rw [fo] at z1
  obtain ⟨v,rfl,hv⟩:=id z1
  rw [natAbs_natCast] at hv
  simp only [dX,eD,eI,ah,fo]
  have e2:∀g:ae,aV 35 [(.bool false),(.slice none 0 0)] g=some (pt g.length 0,g++[.arr 35 [(.bool false),(.slice none 0 0)]]):=fun _=>rfl
  simp only [e2,aA]
  rw [fD bn]
  simp only [aA]
  have x2:EX h1 ((h1++[aj.arr 35 [(.bool false),(.slice none 0 0)]]).set h1.length (.arr 35 [B (decide ((cL (dM s):Int)<0)),v])):=EX.set (EX.append _ _) (le_refl _) _
  have g3:((h1++[aj.arr 35 [(.bool false),(.slice none 0 0)]]).set h1.length (.arr 35 [B (decide ((cL (dM s):Int)<0)),v]))[h1.length]?=some (.arr 35 [B (decide ((cL (dM s):Int)<0)),v]):=ck bn
  generalize (h1++[aj.arr 35 [(.bool false),(.slice none 0 0)]]).set h1.length (.arr 35 [B (decide ((cL (dM s):Int)<0)),v])=h3 at x2 g3⊢
  have mQ:=(bL hg).1
  have hj1:j<h1.length:=by have:=x1.1;omega
  have yf:=x0.1
  refine vC (z:=((1:Nat):Int)) (by decide) ?_
  intro r4 h4 x4 Be
  obtain ⟨w,rfl,hw⟩:=id Be
  rw [natAbs_natCast] at hw
  rw [fD bn]
  simp only [aA]
  have x5:EX h4 ((h4++[aj.arr 35 [(.bool false),(.slice none 0 0)]]).set h4.length (.arr 35 [B (decide (((1:Nat):Int)<0)),w])):=EX.set (EX.append _ _) (le_refl _) _
  have g5:((h4++[aj.arr 35 [(.bool false),(.slice none 0 0)]]).set h4.length (.arr 35 [B (decide (((1:Nat):Int)<0)),w]))[h4.length]?=some (.arr 35 [B (decide (((1:Nat):Int)<0)),w]):=ck bn
  generalize (h4++[aj.arr 35 [(.bool false),(.slice none 0 0)]]).set h4.length (.arr 35 [B (decide (((1:Nat):Int)<0)),w])=h5 at x5 g5⊢
  have hh1:h1.length<h4.length:=by
   have:=x4.1
   have:=(bL g3).1
   omega
  have bc:=(x2.trans x4).trans x5
  have Q9:=(x4.trans x5).get g3
  have RF:=(x1.trans bc).get hg
  have xA:EX h0 h5:=x0.trans (x1.trans bc)
  have mn:=hv.mono bc
  have md:=hw.mono x5
  have h45:h4.length<h5.length:=(bL g5).1
  simp only [mf,ah,cA,bR]
  refine ⟨fun aD=>?_,fun cJ=>?_⟩
  rotate_left
  ·have zV:nQ s=false:=by unfold nQ;exact aS (by omega)
   have mP:pT s=1:=by unfold pT;rw [if_neg (by rw [zV];decide)]
   have qI:ph s=true:=by unfold ph;rw [zV];rfl
   refine XA (h0:=h0) RF Q9 mn g5 md hj (by omega) (by omega) (by omega) xA (fun a b=>?_) (fun a=>?_)
   ·rw [←mP]
    exact hk _ _ (if_pos ⟨qI,a,b⟩)
   ·refine eK (if_neg ?_)
    rintro ⟨_,b1,b2⟩
    rcases a with a | ⟨a1,a2⟩
    ·rw [a] at b1;cases b1
    ·exact b2 a1 a2
  have qV:nQ s=true:=aU (by omega)
  have mP:pT s=cL (dU s):=by unfold pT;rw [if_pos qV]
  have qI:ph s=(gR (dU s)&&(decide (2≤cL (dU s))&&decide (gcd (cL (dM s)) (cL (dU s))=1))):=by unfold ph;rw [qV];rfl
  have F7:=CS (a:=s) (n:=s.idxOf 47+1) (by omega) .i64
  have fu:s.drop (s.idxOf 47+1)=dU s:=rfl
  have wi:IntKind.wrap .i64 ((s.idxOf 47:Nat)+1:Int)=((s.idxOf 47+1:Nat):Int):=by rw [wrap64 (by omega) (by omega)];omega
  simp only [cf,wi,ah,F7,fu]
  refine XL ?_
  intro r6 h6 x6 z6
  obtain ⟨v6,rfl,hv6⟩:=id z6
  rw [natAbs_natCast] at hv6
  simp only [dX,eD,eI,ah]
  rw [fD bn]
  simp only [aA]
  have x7:EX h6 ((h6++[aj.arr 35 [(.bool false),(.slice none 0 0)]]).set h6.length (.arr 35 [B (decide ((cL (dU s):Int)<0)),v6])):=EX.set (EX.append _ _) (le_refl _) _
  have g7:((h6++[aj.arr 35 [(.bool false),(.slice none 0 0)]]).set h6.length (.arr 35 [B (decide ((cL (dU s):Int)<0)),v6]))[h6.length]?=some (.arr 35 [B (decide ((cL (dU s):Int)<0)),v6]):=ck bn
  generalize (h6++[aj.arr 35 [(.bool false),(.slice none 0 0)]]).set h6.length (.arr 35 [B (decide ((cL (dU s):Int)<0)),v6])=h7 at x7 g7⊢
  have fa:=x6.trans x7
  have nn:gJ .not (B (gR (dU s)))=some (B (!gR (dU s))):=rfl
  have bad:∀{g:ae},EX h7 g→ph s=false→(OP (dd [(.bool false),(.slice none 0 0),(.bool false),(.slice none 0 0)] []) fun iy=>OH (aF 4 g (pt j 0) iy) fun _ h_1=>OP (af true 4 h_1 (pt j 0)) fun r0=>K (.tuple #[r0,(.bool false)]) h_1):=by
   intro g xg hd
   refine adJ ((fa.trans xg).get RF) (eK (if_neg ?_) _ ((xA.trans (fa.trans xg)).set hj _))
   rintro ⟨b,_⟩
   rw [hd] at b;cases b
  simp only [nn,ah]
  cases zI:gR (dU s) with
  | false=>
   rw [zI] at qI
   simp only [Bool.not_false,fw,true_and,dZ,ah,c8]
   exact bad (EX.refl _) (by rw [qI];rfl)
  | true=>
   rw [zI,Bool.true_and] at qI
   have zu:ZV h7 (.agg #[B (decide ((cL (dU s):Int)<0)),v6]) (cL (dU s)):=z6.mono x7
   have zo:ZV h7 (.agg #[B (decide ((cL (dM s):Int)<0)),v]) (cL (dM s)):=⟨v,rfl,by rw [natAbs_natCast];exact mn.mono fa⟩
   have small:=anI lu
   have aFy:=anI lo
   have aGU:(10000:Nat)^199≤br:=aA2
   simp only [Bool.not_true,dR,cO g7,ah,true_and]
   refine vC (z:=2) (by decide) ?_
   intro r8 h8 x8 z8
   simp only [(x8.load (cO g7)),true_and]
   refine MD (zu.mono x8) z8 (by rw [natAbs_natCast];omega) (by have:(2:Nat)<10000^199:=anE;show 2<br;omega) ?_
   intro h9 x9
   have ki:=x8.trans x9
   simp only [cA,ah,cK]
   by_cases h2:cL (dU s)<2
   ·have en:mc ((cL (dU s):Int)-2)= -1:=by unfold mc;rw [if_neg (by omega),if_pos (by omega)]
    rw [en]
    simp only [show decide ((-1:Int)<0)=true from rfl,fw,dZ,ah,c8]
    refine bad ki ?_
    rw [qI,aS (by omega)];rfl
   ·have en:0≤mc ((cL (dU s):Int)-2):=by
     unfold mc
     split
     ·decide
     ·rw [if_neg (by omega)];decide
    rw [aS (show ¬mc ((cL (dU s):Int)-2)<0 by omega)]
    rw [aU (show 2≤cL (dU s) by omega),Bool.true_and] at qI
    have l8:af true 2 h9 (pt h1.length 0)=some (.agg #[B (decide ((cL (dM s):Int)<0)),v]):=cO ((fa.trans ki).get Q9)
    have l9:af true 2 h9 (pt h6.length 0)=some (.agg #[B (decide ((cL (dU s):Int)<0)),v6]):=cO (ki.get g7)
    simp only [dR,l8,l9,ah]
    refine XC (zo.mono ki) (zu.mono ki) (by rw [natAbs_natCast];exact aFy) (by rw [natAbs_natCast];exact small) ?_
    intro u kQ aM mu
    simp only [natAbs_natCast] at mu
    have RG:gcd (cL (dM s)) (cL (dU s))≤cL (dU s):=Nat.gcd_le_right _ (by omega)
    have zg:ZV kQ (.agg #[B false,u]) (gcd (cL (dM s)) (cL (dU s)):Nat):=⟨u,by rw [aS (by omega)],by rw [natAbs_natCast];exact mu⟩
    refine vC (z:=1) (by decide) ?_
    intro r11 h11 au kl
    refine MD (zg.mono au) kl (by rw [natAbs_natCast];omega) (by have:(2:Nat)<10000^199:=anE;show 1<br;omega) ?_
    intro h12 aC
    have Mk:=ki.trans (aM.trans (au.trans aC))
    simp only [pO,ah,cK]
    by_cases xS:gcd (cL (dM s)) (cL (dU s))=1
    ·have en:mc ((gcd (cL (dM s)) (cL (dU s)):Nat)-1:Int)=0:=by unfold mc;rw [if_pos (by omega)]
     rw [aU xS] at qI
     rw [en]
     have l12:af true 2 h12 (pt h6.length 0)=some (.agg #[B (decide ((cL (dU s):Int)<0)),v6]):=cO (Mk.get g7)
     simp only [decide_true,Bool.not_true,dF,l12,ah]
     have Gm:=fa.trans Mk
     have Jb:=Gm.get g5
     rw [fD Jb]
     simp only [aA]
     refine XA (h0:=h0) (i2:=j) (i8:=h1.length) (i10:=h4.length) (n:=cL (dM s)) (d:=cL (dU s)) (vn:=v) (vd:=v6) ?_ ?_ ?_ (ck Jb) ?_ hj (by omega) (by omega) (by omega) ?_ (fun a b=>?_) (fun a=>?_)
     ·rw [getElem?_set_ne (by omega)];exact Gm.get RF
     ·rw [getElem?_set_ne (by omega)];exact Gm.get Q9
     ·exact fQ.bM (mn.mono Gm) Jb _
     ·exact fQ.bM (hv6.mono (x7.trans Mk)) Jb _
     ·exact (xA.trans Gm).set (by omega) _
     ·rw [←mP]
      exact hk _ _ (if_pos ⟨qI,a,b⟩)
     ·refine eK (if_neg ?_)
      rintro ⟨_,b1,b2⟩
      rcases a with a | ⟨a1,a2⟩
      ·rw [a] at b1;cases b1
      ·exact b2 a1 a2
    ·have en:mc ((gcd (cL (dM s)) (cL (dU s)):Nat)-1:Int)≠0:=by
      unfold mc;rw [if_neg (by omega)];split <;> decide
     rw [aS xS] at qI
     rw [aS en]
     simp only [Bool.not_false,c8]
     exact bad Mk qI
end
section
variable (P : Program) (K : VK)
noncomputable section
variable (s0 x2 x6 x8 x9 aM au aC dI eZ dD fP bV db gP jj : Value) (h : ae)
def aho:=bz prog 108 [[],[],[],[],[],[],[],[2,6,8,9,10,11,38],[2,6,8,9,10,11,38,42],[2,6,8,9,10,11,12],[2,6,8,9,11,12,46],[2,6,8,9,11,46,48],[2,6,8,9,11,50],[2,6,8,9,11,50,52],[2,6,8,9,11,50,52,55],[2,6,8,9,11,50,56],[],[],[],[],[]]
@[irreducible] def Hn:=bJ aho
@[irreducible] def Z2:=Hn.r.r.r.r.r.l.r.l.r.r.l
@[irreducible] def Z8:=Hn.r.r.r.r.r.r
@[irreducible] def ar6:=Z2.r.l
@[irreducible] def Ho:=Z8.l
@[irreducible] def Z3:=Ho.l.l.r.l
@[irreducible] def ar8:=Ho.l.r
@[irreducible] def ar7:=Ho.r
@[irreducible] def Z4:=Z3.r.l
@[irreducible] def Z5:=Z4.r.l
@[irreducible] def Z6:=Z5.r.l
@[irreducible] def Z7:=Z6.r.l
@[irreducible] def ar9:=Z7.r.l
theorem azg:aho=some (78,Hn,[.cell true 4 2,.tmp 3]):=by kernel_rfl
def Dp (_P:Program) (K:VK):ar:=aT [.cell true 4 2,.tmp 3] K
def X2:ar:=aG (aq P Z8 (Dp P K)) (Dp P K)
def X1:ar:=aG (aq P ar7 (Dp P K)) (Dp P K)
def Bk:ar:=aG (aq P ar8 (X1 P K)) (X1 P K)
def ajm:Prop:=ay (aq P Z2 (X2 P K)) [2,6,8,9,10,11,38] [x2,x6,x8,x9,aM,au,dI] h
def Ue:Prop:=ay (aq P ar6 (X2 P K)) [2,6,8,9,10,11,38,42] [x2,x6,x8,x9,aM,au,dI,eZ] h
def FC:Prop:=ay (aq P Ho (Dp P K)) [2,6,8,9,10,11,12] [x2,x6,x8,x9,aM,au,aC] h
def ajn:Prop:=ay (aq P Z3 (Bk P K)) [2,6,8,9,11,12,46] [x2,x6,x8,x9,au,aC,dD] h
def Uf:Prop:=ay (aq P Z4 (Bk P K)) [2,6,8,9,11,46,48] [x2,x6,x8,x9,au,dD,fP] h
def Ug:Prop:=ay (aq P Z5 (Bk P K)) [2,6,8,9,11,50] [x2,x6,x8,x9,au,bV] h
def Uh:Prop:=ay (aq P Z6 (Bk P K)) [2,6,8,9,11,50,52] [x2,x6,x8,x9,au,bV,db] h
def Ui:Prop:=ay (aq P Z7 (Bk P K)) [2,6,8,9,11,50,52,55] [x2,x6,x8,x9,au,bV,db,gP] h
def FD:Prop:=ay (aq P ar9 (Bk P K)) [2,6,8,9,11,50,56] [x2,x6,x8,x9,au,bV,jj] h
theorem al0:Ue P K x2 x6 x8 x9 aM au dI eZ h=
 (OP (bQ dI eZ (.bool false)) fun bY=>
 FC P K x2 x6 x8 x9 aM au bY h):=az (by kernel_rfl)
theorem aBq:ajm P K x2 x6 x8 x9 aM au dI h=
 (cC dI true
 (OH (dK 177 1 [(.int .u32 (0))] h [(0,1,(.int .u32 (1)))]) fun ef z1=>
 ak P 126 [au,ef] z1 fun eG z2=>
 OP (ai .gtr eG (.int .i64 (0))) fun eZ=>
 Ue P K x2 x6 x8 x9 aM au dI eZ z2)
 (Ue P K x2 x6 x8 x9 aM au dI undef h)):=az (by kernel_rfl)
theorem al4:FD P K x2 x6 x8 x9 au bV jj h=
 (OP (bQ bV (.bool true) jj) fun fa=>
 aR fa
 (OP (dd [(.bool false),(.slice none 0 0),(.bool false),(.slice none 0 0)] []) fun gu=>
 OH (aF 4 h x2 gu) fun _ z1=>
 OP (af true 4 z1 x2) fun r0=>
 K (.tuple #[r0,(.bool false)]) z1)
 (ak P 117 [x8,x9] h fun fZ z1=>
 ak P 117 [(.bool false),au] z1 fun kJ z2=>
 OP (dd [(.bool false),(.slice none 0 0),(.bool false),(.slice none 0 0)] [(0,2,fZ),(2,2,kJ)]) fun jx=>
 OH (aV 107 [(.bool false),(.slice none 0 0),(.bool false),(.slice none 0 0)] z2) fun aB z3=>
 OH (aF 4 z3 aB jx) fun _ z4=>
 OP (af true 4 z4 aB) fun gy=>
 (True)∧
 OP (gJ .not x6) fun gA=>
 cC gA false
 (OP (aL 0 aB) fun fX=>
 OP (af true 2 z4 fX) fun m9=>
 (True)∧
 OP (aL 2 aB) fun iu=>
 OP (af true 2 z4 iu) fun mC=>
 (True)∧
 ak P 120 [m9,mC] z4 fun nF z5=>
 (af true 4 z5 aB=some gy∧True)∧
 ak P 105 [(.int .i64 (1))] z5 fun jT z6=>
 (af true 4 z6 aB=some gy∧True)∧
 ak P 111 [nF,jT] z6 fun jU z7=>
 (af true 4 z7 aB=some gy∧True)∧
 OP (ai .eql jU (.int .i64 (0))) fun kK=>
 OP (bQ gA (.bool true) kK) fun jk=>
 OH (aF 4 z7 x2 gy) fun _ z8=>
 (True)∧
 OP (af true 4 z8 x2) fun r0=>
 K (.tuple #[r0,jk]) z8)
 ((af true 4 z4 aB=some gy∧True)∧
 (af true 4 z4 aB=some gy∧True)∧
 (af true 4 z4 aB=some gy∧True)∧
 OP (bQ gA (.bool true) undef) fun jk=>
 OH (aF 4 z4 x2 gy) fun _ z5=>
 (True)∧
 OP (af true 4 z5 x2) fun r0=>
 K (.tuple #[r0,jk]) z5))):=az (by kernel_rfl)
theorem Vv:Ui P K x2 x6 x8 x9 au bV db gP h=
 (cC bV false
 (OP (bQ db gP (.bool false)) fun jj=>
 FD P K x2 x6 x8 x9 au bV jj h)
 (FD P K x2 x6 x8 x9 au bV undef h)):=az (by kernel_rfl)
theorem al3:Uh P K x2 x6 x8 x9 au bV db h=
 (cC db true
 (OP (bj x9) fun dw=>
 OP (ai .eql dw (.int .i64 (0))) fun gP=>
 Ui P K x2 x6 x8 x9 au bV db gP h)
 (Ui P K x2 x6 x8 x9 au bV db undef h)):=az (by kernel_rfl)
theorem al2:Ug P K x2 x6 x8 x9 au bV h=
 (cC bV false
 (Uh P K x2 x6 x8 x9 au bV x8 h)
 (Uh P K x2 x6 x8 x9 au bV undef h)):=az (by kernel_rfl)
theorem al1:Uf P K x2 x6 x8 x9 au dD fP h=
 (OP (bQ dD (.bool true) fP) fun gO=>
 Ug P K x2 x6 x8 x9 au gO h):=az (by kernel_rfl)
theorem aBs:ajn P K x2 x6 x8 x9 au aC dD h=
 (cC dD false
 (OP (gJ .not aC) fun fP=>
 Uf P K x2 x6 x8 x9 au dD fP h)
 (Uf P K x2 x6 x8 x9 au dD undef h)):=az (by kernel_rfl)
theorem aBr:FC P K x2 x6 x8 x9 aM au aC h=
 (OP (gJ .not aM) fun cP=>
 ajn P K x2 x6 x8 x9 au aC cP h):=az (by kernel_rfl)
def NI:Prop:=
 OH (aV 107 [(.bool false),(.slice none 0 0),(.bool false),(.slice none 0 0)] h) fun x2 z1=>
 ak P 123 [s0,(.string ⟨#[47]⟩)] z1 fun bk z2=>
 OP (cg 0 bk) fun bN=>
 OP (cg 1 bk) fun aQ=>
 OP (cg 2 bk) fun aO=>
 ak P 124 [bN,(.string ⟨#[45]⟩)] z2 fun bF z3=>
 OP (cg 0 bF) fun cB=>
 OP (cg 1 bF) fun bu=>
 ak P 125 [cB] z3 fun bZ z4=>
 OP (cg 0 bZ) fun cG=>
 OP (cg 1 bZ) fun cM=>
 OH (dK 177 1 [(.int .u32 (0))] z4 [(0,1,(.int .u32 (1)))]) fun dC z5=>
 aR aO
 (ak P 125 [aQ] z5 fun cT z6=>
 OP (cg 0 cT) fun cR=>
 OP (cg 1 cT) fun cX=>
 ajm P K x2 aO bu cG cM cR cX z6)
 (FC P K x2 aO bu cG cM dC (.bool true) z5)
theorem avI:aq P Hn (aT [.cell true 4 2,.tmp 3] K) (bt [s0]) h=NI P K s0 h:=by kernel_rfl
theorem f108 {K:VK} {s0:Value} {h:ae} (H:NI prog K s0 h):ak prog 108 [s0] h K:=
 bK azg (bI rfl) ((avI prog K s0 h).mpr H)
end
noncomputable section
variable (s0 x1 : Value) (h : ae)
def ahD:=bz prog 123 [[],[]]
@[irreducible] def aap:=bJ ahD
theorem azv:ahD=some (13,aap,[.tmp 4,.tmp 5,.tmp 6]):=by kernel_rfl
def NX:Prop:=
 ak P 131 [s0,x1] h fun x9 z1=>
 OP (cg 0 x9) fun aM=>
 OP (cg 1 x9) fun au=>
 OP (cg 2 x9) fun aC=>
 K (.tuple #[aM,au,aC]) z1
theorem avX:aq P aap (aT [.tmp 4,.tmp 5,.tmp 6] K) (bt [s0,x1]) h=NX P K s0 x1 h:=by kernel_rfl
theorem f123 {K:VK} {s0 x1:Value} {h:ae} (H:NX prog K s0 x1 h):ak prog 123 [s0,x1] h K:=
 bK azv (bI rfl) ((avX prog K s0 x1 h).mpr H)
end
noncomputable section
variable (s0 x1 : Value) (h : ae)
def ahE:=bz prog 124 [[],[]]
@[irreducible] def aaq:=bJ ahE
theorem azw:ahE=some (11,aaq,[.tmp 4,.tmp 5]):=by kernel_rfl
def NY:Prop:=
 ak P 132 [s0,x1] h fun x8 z1=>
 OP (cg 0 x8) fun x9=>
 OP (cg 1 x8) fun aM=>
 K (.tuple #[x9,aM]) z1
theorem avY:aq P aaq (aT [.tmp 4,.tmp 5] K) (bt [s0,x1]) h=NY P K s0 x1 h:=by kernel_rfl
theorem f124 {K:VK} {s0 x1:Value} {h:ae} (H:NY prog K s0 x1 h):ak prog 124 [s0,x1] h K:=
 bK azw (bI rfl) ((avY prog K s0 x1 h).mpr H)
end
noncomputable section
variable (s0 i4 x5 n6 x7 x8 au aC aO cB cG cS cR cX dI eG bV cH : Value) (L1 L2 : LQ) (xs : List Value) (h : ae)
def ahF:=bz prog 125 [[],[],[0,11],[12],[],[],[],[0,4,11,12,19],[0,11,12,19,23],[],[],[],[0],[0,28],[0,28,32],[0,28,32,35],[0,28,36],[0,38],[0,38,41],[],[],[],[],[],[0,5],[],[],[],[],[],[0,5,6,50],[7,8,51],[],[],[],[],[0,5,6,7,8],[],[5],[]]
@[irreducible] def Hy:=bJ ahF
@[irreducible] def HA:=Hy.r.l.r.l.l
@[irreducible] def aas:=Hy.r.r
@[irreducible] def aar:=HA.r.r.l.l.r.l.r.l
@[irreducible] def asw:=HA.r.r.l.l.r.r
@[irreducible] def asE:=HA.r.r.r
@[irreducible] def Hz:=aas.l
@[irreducible] def asx:=aar.r.l
@[irreducible] def aat:=Hz.l.l.r.l
@[irreducible] def asy:=Hz.l.r
@[irreducible] def PE:=Hz.r
@[irreducible] def aau:=aat.r.l
@[irreducible] def PF:=PE.r.l.l.l
@[irreducible] def aay:=PE.r.r
@[irreducible] def aav:=aau.r.l
@[irreducible] def asB:=PF.r.l.r.r.l.r.l.l
@[irreducible] def aaz:=PF.r.l.r.r.r
@[irreducible] def asD:=aay.l
@[irreducible] def aaw:=aav.r.l
@[irreducible] def asC:=aaz.l
@[irreducible] def aax:=aaw.r.l
@[irreducible] def asA:=aax.r.l
theorem azx:ahF=some (77,Hy,[.tmp 2,.tmp 3]):=by kernel_rfl
def xl (_P:Program) (K:VK):ar:=aT [.tmp 2,.tmp 3] K
def apa:ar:=aG (aq P aas (xl P K)) (xl P K)
def apd:ar:=bO 0 (apa P K)
def MZ:ar:=aG (fun f' aW=>(([0,11]:List Nat).map f':List Value)=[s0,au]∧L1 (([12]:List Nat).map f') aW) (apd P K)
def aph:ar:=aG (aq P asE (MZ P K s0 au L1)) (MZ P K s0 au L1)
def Yg:ar:=bO 1 (aph P K s0 au L1)
def Yd:ar:=aG (aq P asw (Yg P K s0 au L1)) (Yg P K s0 au L1)
def Ye:ar:=aG (aq P PE (xl P K)) (xl P K)
def Bl:ar:=aG (aq P asy (Ye P K)) (Ye P K)
def apb:ar:=aG (aq P aay (xl P K)) (xl P K)
def apc:ar:=bO 2 (apb P K)
def Yf:ar:=aG (fun f' aW=>(([]:List Nat).map f':List Value)=[]∧L1 (([0,5]:List Nat).map f') aW) (apc P K)
def MY:ar:=bO 3 (Yf P K L1)
def ape:ar:=aG (aq P aaz (MY P K L1)) (MY P K L1)
def apf:ar:=bO 4 (ape P K L1)
def apg:ar:=aG (fun f' aW=>(([0,5,6,50]:List Nat).map f':List Value)=[s0,x5,n6,bV]∧L2 (([7,8,51]:List Nat).map f') aW) (apf P K L1)
def ajI:Prop:=ay (aq P HA (MZ P K s0 au L1)) ([0,11]++[12]) ([s0,au]++xs) h
def ajD:Prop:=ay (aq P aar (Yd P K s0 au L1)) [0,4,11,12,19] [s0,i4,au,aC,aO] h
def Un:Prop:=ay (aq P asx (Yd P K s0 au L1)) [0,11,12,19,23] [s0,au,aC,aO,cB] h
def ajE:Prop:=ay (aq P Hz (xl P K)) [0] [s0] h
def ajF:Prop:=ay (aq P aat (Bl P K)) [0,28] [s0,cG] h
def Uo:Prop:=ay (aq P aau (Bl P K)) [0,28,32] [s0,cG,cS] h
def Up:Prop:=ay (aq P aav (Bl P K)) [0,28,32,35] [s0,cG,cS,cR] h
def Uq:Prop:=ay (aq P aaw (Bl P K)) [0,28,36] [s0,cG,cX] h
def Ur:Prop:=ay (aq P aax (Bl P K)) [0,38] [s0,dI] h
def FF:Prop:=ay (aq P asA (Bl P K)) [0,38,41] [s0,dI,eG] h
def ajG:Prop:=ay (aq P PF (Yf P K L1)) ([]++[0,5]) ([]++xs) h
def ajH:Prop:=ay (aq P asB (apg P K s0 x5 n6 bV L1 L2)) ([0,5,6,50]++[7,8,51]) ([s0,x5,n6,bV]++xs) h
def ajJ:Prop:=ay (aq P asC (MY P K L1)) [0,5,6,7,8] [s0,x5,n6,x7,x8] h
def ajK:Prop:=ay (aq P asD (xl P K)) [5] [x5] h
theorem al9:Un P K s0 au aC aO cB L1 h=
 (OP (bQ aO (.bool true) cB) fun bu=>
 aR bu
 (K (.tuple #[(.slice none 0 0),(.bool false)]) h)
 (OP (ai .add aC (.int .i64 (1))) fun ca=>
 ([s0,au]:List Value)=[s0,au]∧L1 [ca] h)):=az (by kernel_rfl)
theorem al8:ajD P K s0 i4 au aC aO L1 h=
 (cC aO false
 (OP (j7 s0 i4) fun bF=>
 OP (ai .gtr bF (.int .u8 (57))) fun cB=>
 Un P K s0 au aC aO cB L1 h)
 (Un P K s0 au aC aO undef L1 h)):=az (by kernel_rfl)
theorem aBN (s0 au:Value) (L1:LQ) (aC:Value) (h:ae):ajI P K s0 au L1 [aC] h=
 (OP (ai .lss aC au) fun aB=>
 aR aB
 (OP (j7 s0 aC) fun bN=>
 OP (ai .lss bN (.int .u8 (48))) fun aQ=>
 ajD P K s0 aC au aC aQ L1 h)
 (ajE P K s0 h)):=az (by kernel_rfl)
theorem amc:FF P K s0 dI eG h=
 (OP (bQ dI (.bool true) eG) fun eZ=>
 aR eZ
 (K (.tuple #[(.slice none 0 0),(.bool false)]) h)
 (cQ [s0,(.slice none 0 0)] h fun L1 xs hx=>
 ajG P K L1 xs hx)):=az (by kernel_rfl)
theorem Vy:Ur P K s0 dI h=
 (cC dI false
 (OP (gI s0) fun ef=>
 OP (ai .gtr ef (.int .i64 (4000))) fun eG=>
 FF P K s0 dI eG h)
 (FF P K s0 dI undef h)):=az (by kernel_rfl)
theorem Vx:Uq P K s0 cG cX h=
 (OP (bQ cG (.bool true) cX) fun fE=>
 Ur P K s0 fE h):=az (by kernel_rfl)
theorem Vw:Up P K s0 cG cS cR h=
 (cC cG false
 (OP (bQ cS cR (.bool false)) fun cX=>
 Uq P K s0 cG cX h)
 (Uq P K s0 cG undef h)):=az (by kernel_rfl)
theorem amb:Uo P K s0 cG cS h=
 (cC cS true
 (OP (gI s0) fun cT=>
 OP (ai .gtr cT (.int .i64 (1))) fun cR=>
 Up P K s0 cG cS cR h)
 (Up P K s0 cG cS undef h)):=az (by kernel_rfl)
theorem ama:ajF P K s0 cG h=
 (cC cG false
 (OP (j7 s0 (.int .i64 (0))) fun dC=>
 OP (ai .eql dC (.int .u8 (48))) fun cE=>
 Uo P K s0 cG cE h)
 (Uo P K s0 cG undef h)):=az (by kernel_rfl)
theorem aBM (s0 x5 n6 bV:Value) (L1 L2:LQ) (x7 x8 cH:Value) (h:ae):ajH P K s0 x5 n6 bV L1 L2 [x7,x8,cH] h=
 (OP (ai .lss cH bV) fun db=>
 aR db
 (OP (ai .mul (.int .u32 (10)) x7) fun gP=>
 OP (j7 s0 cH) fun gu=>
 OP (ai .sub gu (.int .u8 (48))) fun fU=>
 OP (dA .u32 fU) fun kI=>
 OP (ai .add gP kI) fun fZ=>
 OP (ai .mul (.int .u32 (10)) x8) fun kJ=>
 OP (ai .add cH (.int .i64 (1))) fun jx=>
 ([s0,x5,n6,bV]:List Value)=[s0,x5,n6,bV]∧L2 [fZ,kJ,jx] h)
 (ajJ P K s0 x5 n6 x7 x8 L1 h)):=az (by kernel_rfl)
theorem aBO:ajJ P K s0 x5 n6 x7 x8 L1 h=
 (OH (dK 177 1 [(.int .u32 (0))] h [(0,1,x8)]) fun gA z1=>
 ak P 122 [x5,gA] z1 fun gB z2=>
 OH (dK 177 1 [(.int .u32 (0))] z2 [(0,1,x7)]) fun m9 z3=>
 ak P 118 [m9] z3 fun iu z4=>
 ak P 128 [gB,iu] z4 fun mC z5=>
 OP (lK s0 (some n6) none) fun jU=>
 ([]:List Value)=[]∧L1 [jU,mC] z5):=az (by kernel_rfl)
theorem aBL (L1:LQ) (s0 x5:Value) (h:ae):ajG P K L1 [s0,x5] h=
 (OP (ai .neq s0 (.string ⟨#[]⟩)) fun bH=>
 aR bH
 (OP (gI s0) fun dD=>
 OP (ai .sub dD (.int .i64 (1))) fun og=>
 OP (ai .rem og (.int .i64 (9))) fun fP=>
 OP (ai .add fP (.int .i64 (1))) fun gO=>
 cQ [(.int .u32 (0)),(.int .u32 (1)),(.int .i64 (0))] h fun L2 xs hx=>
 ajH P K s0 x5 gO gO L1 L2 xs hx)
 (ajK P K x5 h)):=az (by kernel_rfl)
theorem aBP:ajK P K x5 h=
 (K (.tuple #[x5,(.bool true)]) h):=az (by kernel_rfl)
theorem aBK:ajE P K s0 h=
 (OP (ai .eql s0 (.string ⟨#[]⟩)) fun bZ=>
 ajF P K s0 bZ h):=az (by kernel_rfl)
def NZ:Prop:=
 OP (gI s0) fun au=>
 cQ [(.int .i64 (0))] h fun L1 xs hx=>
 ajI P K s0 au L1 xs hx
theorem avZ:aq P Hy (aT [.tmp 2,.tmp 3] K) (bt [s0]) h=NZ P K s0 h:=by kernel_rfl
theorem f125 {K:VK} {s0:Value} {h:ae} (H:NZ prog K s0 h):ak prog 125 [s0] h K:=
 bK azx (bI rfl) ((avZ prog K s0 h).mpr H)
end
noncomputable section
variable (s0 x1 : Value) (h : ae)
def ahL:=bz prog 131 [[],[],[],[],[],[]]
@[irreducible] def aaG:=bJ ahL
theorem azD:ahL=some (23,aaG,[.tmp 4,.tmp 5,.tmp 6]):=by kernel_rfl
def N4:Prop:=
 ak P 139 [s0,x1] h fun aM z1=>
 OP (ai .geq aM (.int .i64 (0))) fun aC=>
 aR aC
 (OP (lK s0 none (some aM)) fun bc=>
 OP (gI x1) fun aO=>
 OP (ai .add aM aO) fun aX=>
 OP (lK s0 (some aX) none) fun aZ=>
 K (.tuple #[bc,aZ,(.bool true)]) z1)
 (K (.tuple #[s0,(.string ⟨#[]⟩),(.bool false)]) z1)
theorem av5:aq P aaG (aT [.tmp 4,.tmp 5,.tmp 6] K) (bt [s0,x1]) h=N4 P K s0 x1 h:=by kernel_rfl
theorem f131 {K:VK} {s0 x1:Value} {h:ae} (H:N4 prog K s0 x1 h):ak prog 131 [s0,x1] h K:=
 bK azD (bI rfl) ((av5 prog K s0 x1 h).mpr H)
end
noncomputable section
variable (s0 x1 : Value) (h : ae)
def ahM:=bz prog 132 [[],[],[],[],[]]
@[irreducible] def aaH:=bJ ahM
theorem azE:ahM=some (15,aaH,[.tmp 4,.tmp 5]):=by kernel_rfl
def N5:Prop:=
 ak P 140 [s0,x1] h fun x8 z1=>
 OP (gJ .not x8) fun x9=>
 aR x9
 (K (.tuple #[s0,(.bool false)]) z1)
 (OP (gI x1) fun aB=>
 OP (lK s0 (some aB) none) fun aH=>
 K (.tuple #[aH,(.bool true)]) z1)
theorem av6:aq P aaH (aT [.tmp 4,.tmp 5] K) (bt [s0,x1]) h=N5 P K s0 x1 h:=by kernel_rfl
theorem f132 {K:VK} {s0 x1:Value} {h:ae} (H:N5 prog K s0 x1 h):ak prog 132 [s0,x1] h K:=
 bK azE (bI rfl) ((av6 prog K s0 x1 h).mpr H)
end
noncomputable section
variable (s0 x1 x4 n5 DI t9 yv xy aO bF cX w9 nE : Value) (L1 : LQ) (xs : List Value) (h : ae)
def ahT:=bz prog 139 [[],[],[0,1,4,5,12,19,36,107,132],[0,1,4,5,12,19,22,36,107,132],[],[],[],[],[],[],[],[],[],[],[],[],[],[],[0,1,5,6,7,9],[8,10,12,107,132],[],[],[],[],[],[],[],[0,1,5,6,7,8,9,10,12,107,132],[0,1,5,6,7,8,9,10,12,84,107,132],[0,1,5,6,7,8,9,10,12,84,92,107,132],[],[],[],[],[],[],[],[],[],[],[],[],[],[],[],[],[],[],[]]
@[irreducible] def DL:=bJ ahT
@[irreducible] def aaS:=DL.r.r.l.l.l.r.l
@[irreducible] def as1:=DL.r.r.l.l.r
@[irreducible] def PN:=DL.r.r.r
@[irreducible] def as2:=aaS.r.l
@[irreducible] def as0:=PN.r.r.r.r.r.l.l.l
@[irreducible] def asZ:=PN.r.r.r.r.r.r
theorem azL:ahT=some (143,DL,[.tmp 4]):=by kernel_rfl
def GJ (_P:Program) (K:VK):ar:=aT [.tmp 4] K
def apQ:ar:=aG (aq P PN (GJ P K)) (GJ P K)
def Yi:ar:=bO 0 (apQ P K)
def Yj:ar:=aG (aq P as1 (Yi P K)) (Yi P K)
def apN:ar:=aG (aq P asZ (GJ P K)) (GJ P K)
def apO:ar:=bO 1 (apN P K)
def apP (s0 x1 n5 DI xy t9:Value) (L1:LQ):ar:=aG (fun f' aW=>(([0,1,5,6,7,9]:List Nat).map f':List Value)=[s0,x1,n5,DI,xy,t9]∧L1 (([8,10,12,107,132]:List Nat).map f') aW) (apO P K)
def aj2:Prop:=ay (aq P aaS (Yj P K)) [0,1,4,5,12,19,36,107,132] [s0,x1,x4,n5,yv,aO,cX,w9,nE] h
def Uu:Prop:=ay (aq P as2 (Yj P K)) [0,1,4,5,12,19,22,36,107,132] [s0,x1,x4,n5,yv,aO,bF,cX,w9,nE] h
def aAU (s0 x1 n5 DI xy t9:Value) (L1:LQ) (xs:List Value) (h:ae):Prop:=ay (aq P as0 (apP P K s0 x1 n5 DI xy t9 L1)) ([0,1,5,6,7,9]++[8,10,12,107,132]) ([s0,x1,n5,DI,xy,t9]++xs) h
theorem aCh:Uu P K s0 x1 x4 n5 yv aO bF cX w9 nE h=
 (OP (bQ aO (.bool true) bF) fun cB=>
 aR cB
 (K (.int .i64 (0)) h)
 (OP (ai .eql n5 (.int .i64 (1))) fun cw=>
 aR cw
 (OP (j7 x1 (.int .i64 (0))) fun cM=>
 ak P 142 [s0,cM] h fun dC z1=>
 K dC z1)
 (OP (gI s0) fun cT=>
 OP (ai .geq n5 cT) fun cR=>
 aR cR
 (K (.int .i64 (-1)) h)
 (OH none fun _ z1=>
 aR cX
 (OH none fun _ z2=>
 K x4 z2)
 (OP (j7 x1 (.int .i64 (0))) fun gO=>
 OP (j7 x1 (.int .i64 (1))) fun cH=>
 OP (gI s0) fun lC=>
 OP (ai .sub lC n5) fun gP=>
 OP (ai .add gP (.int .i64 (1))) fun jj=>
 cQ [(.int .i64 (0)),(.int .i64 (0)),yv,w9,nE] z1 fun L1 xs hx=>
 aAU P K s0 x1 n5 gO cH jj L1 xs hx))))):=az (by kernel_rfl)
theorem aCg:aj2 P K s0 x1 x4 n5 yv aO cX w9 nE h=
 (cC aO false
 (OP (ai .eql x1 s0) fun bF=>
 Uu P K s0 x1 x4 n5 yv aO bF cX w9 nE h)
 (Uu P K s0 x1 x4 n5 yv aO undef cX w9 nE h)):=az (by kernel_rfl)
def Od:Prop:=
 OP (gI x1) fun bc=>
 OP (ai .eql bc (.int .i64 (0))) fun aQ=>
 aj2 P K s0 x1 (.int .i64 (0)) bc undef aQ undef undef undef h
theorem awd:aq P DL (aT [.tmp 4] K) (bt [s0,x1]) h=Od P K s0 x1 h:=by kernel_rfl
theorem f139 {K:VK} {s0 x1:Value} {h:ae} (H:Od prog K s0 x1 h):ak prog 139 [s0,x1] h K:=
 bK azL (bI rfl) ((awd prog K s0 x1 h).mpr H)
end
noncomputable section
variable (s0 x1 aM bk : Value) (h : ae)
def ahU:=bz prog 140 [[],[0,1,10],[10,16],[]]
@[irreducible] def HK:=bJ ahU
@[irreducible] def aaT:=HK.r.l.r.l
@[irreducible] def as3:=HK.r.r
@[irreducible] def as4:=aaT.r.l
theorem azM:ahU=some (18,HK,[.tmp 4]):=by kernel_rfl
def Yk (_P:Program) (K:VK):ar:=aT [.tmp 4] K
def Yl:ar:=aG (aq P as3 (Yk P K)) (Yk P K)
def aj3:Prop:=ay (aq P aaT (Yl P K)) [0,1,10] [s0,x1,aM] h
def Uv:Prop:=ay (aq P as4 (Yl P K)) [10,16] [aM,bk] h
theorem amd:Uv P K aM bk h=
 (OP (bQ aM bk (.bool false)) fun bN=>
 K bN h):=az (by kernel_rfl)
theorem aCj:aj3 P K s0 x1 aM h=
 (cC aM true
 (OP (gI x1) fun aB=>
 OP (lK s0 none (some aB)) fun aH=>
 OP (ai .eql aH x1) fun bk=>
 Uv P K aM bk h)
 (Uv P K aM undef h)):=az (by kernel_rfl)
def Oe:Prop:=
 OP (gI s0) fun x6=>
 OP (gI x1) fun x8=>
 OP (ai .geq x6 x8) fun x9=>
 aj3 P K s0 x1 x9 h
theorem awe:aq P HK (aT [.tmp 4] K) (bt [s0,x1]) h=Oe P K s0 x1 h:=by kernel_rfl
theorem f140 {K:VK} {s0 x1:Value} {h:ae} (H:Oe prog K s0 x1 h):ak prog 140 [s0,x1] h K:=
 bK azM (bI rfl) ((awe prog K s0 x1 h).mpr H)
end
noncomputable section
variable (s0 c1 : Value) (h : ae)
def ahW:=bz prog 142 [[],[]]
@[irreducible] def aaV:=bJ ahW
theorem azO:ahW=some (8,aaV,[.tmp 4]):=by kernel_rfl
def Og (_:Program) (K:VK) (s0 c1:Value) (h:ae):Prop:=
 OP (E5 s0 c1) fun x7=>
 K x7 h
theorem awg:aq P aaV (aT [.tmp 4] K) (bt [s0,c1]) h=Og P K s0 c1 h:=by kernel_rfl
theorem f142 {K:VK} {s0 c1:Value} {h:ae} (H:Og prog K s0 c1 h):ak prog 142 [s0,c1] h K:=
 bK azO (bI rfl) ((awg prog K s0 c1 h).mpr H)
end
end
section
theorem afP (c:UInt8):∀s:List UInt8,Lib.indexByte s c=if s.idxOf c<s.length then (s.idxOf c:Int) else -1
 | []=>rfl
 | x::s=>by
  have ih:=afP c s
  rw [Lib.indexByte]
  by_cases h:(x==c)=true
  ·have e1:(x::s).idxOf c=0:=by rw [idxOf_cons,h];rfl
   rw [if_pos h,e1,if_pos (by simp)];rfl
  ·have h':(x==c)=false:=by simpa using h
   have e1:(x::s).idxOf c=s.idxOf c+1:=by rw [idxOf_cons,h'];rfl
   rw [if_neg h,ih,e1,length_cons]
   by_cases h2:s.idxOf c<s.length
   ·have h3:¬(((s.idxOf c:Nat):Int)== -1)=true:=by
     rw [beq_iff_eq];omega
    rw [if_pos h2,if_pos (show s.idxOf c+1<s.length+1 by omega),if_neg h3]
    omega
   ·rw [if_neg h2,if_neg (show ¬s.idxOf c+1<s.length+1 by omega)]
    rfl
theorem w5 (a b c:Value):(#[a,b,c]:Array Value)[0]?=some a∧(#[a,b,c]:Array Value)[1]?=some b∧(#[a,b,c]:Array Value)[2]?=some c:=⟨rfl,rfl,rfl⟩
section
variable {h : ae} {K : Value → ae → Prop} {s : List UInt8}
theorem aoj {c:UInt8} (hk:K (I (if s.idxOf c<s.length then (s.idxOf c:Int) else -1)) h):ak prog 142 [S s,cv c] h K:=by
 refine f142 ?_
 have e:E5 (S s) (cv c)=some (I (if s.idxOf c<s.length then (s.idxOf c:Int) else -1)):=by
  have e1:E5 (S s) (cv c)=some (Value.int .i64 (Lib.indexByte (Go.Sim.bytes (ByteArray.mk s.toArray)) ((c.toNat:Int)).toNat.toUInt8)):=rfl
  rw [e1,ZM,Int.toNat_natCast,afP]
  have:c.toNat.toUInt8=c:=by simp
  rw [this]
 simp only [Og,e,ah]
 exact hk
theorem aoh {c:UInt8} (hk:K (I (if s.idxOf c<s.length then (s.idxOf c:Int) else -1)) h):ak prog 139 [S s,S [c]] h K:=by
 refine f139 ?_
 have l1:gI (S [c])=some (I 1):=rfl
 have ix:j7 (S [c]) (.int .i64 0)=some (cv c):=rfl
 have e1:ai .eql (I 1) (.int .i64 0)=some (B false):=rfl
 have e2:ai .eql (I 1) (.int .i64 1)=some (B true):=rfl
 simp only [Od,l1,ah,e1]
 rw [aCg]
 simp only [dR,Pq,ah]
 rw [aCh]
 simp only [cK,ah,bR]
 refine ⟨fun he=>?_,fun _=>?_⟩
 ·have e3:s.idxOf c=0:=by rw [←he];simp
  have e4:0<s.length:=by rw [←he];simp
  rw [e3,if_pos e4] at hk
  exact hk
 ·simp only [e2,ah,c8,ix]
  exact aoj hk
theorem an8 (hl:s.length≤1000) (hk:K (.tuple #[S (dM s),S (if nQ s=true then dU s else []),B (nQ s)]) h):ak prog 123 [S s,S [47]] h K:=by
 refine f123 ?_
 unfold NX
 refine f131 ?_
 unfold N4
 refine aoh ?_
 have l1:gI (S [47])=some (I 1):=rfl
 by_cases aD:s.idxOf 47<s.length
 ·have hs:nQ s=true:=aU aD
  rw [hs,if_pos rfl] at hk
  rw [if_pos aD]
  have wi:IntKind.wrap .i64 (((s.idxOf 47:Nat):Int)+1)=((s.idxOf 47+1:Nat):Int):=by rw [wrap64 (by omega) (by omega)];omega
  have wV:=Wj (a:=s) (n:=s.idxOf 47) (by omega) .i64
  have F7:=CS (a:=s) (n:=s.idxOf 47+1) (by omega) .i64
  simp only [nk,ah,aU (show (0:Int)≤((s.idxOf 47:Nat):Int) by omega),c8,wV,l1,cf,wi,F7,dX,(w5 _ _ _).1,(w5 _ _ _).2.1,(w5 _ _ _).2.2]
  exact hk
 ·have hs:nQ s=false:=aS aD
  rw [hs,if_neg (by decide)] at hk
  rw [if_neg aD]
  have ho:dM s=s:=by unfold dM;exact List.take_of_length_le (by omega)
  rw [ho] at hk
  simp only [nk,ah,show decide ((0:Int)≤ -1)=false from rfl,dF,dX,(w5 _ _ _).1,(w5 _ _ _).2.1,(w5 _ _ _).2.2]
  exact hk
theorem an9 (hl:s.length≤1000) (hk:K (.tuple #[S (if s.head?=some 45 then s.tail else s),B (decide (s.head?=some 45))]) h):ak prog 124 [S s,S [45]] h K:=by
 refine f124 ?_
 unfold NY
 refine f132 ?_
 unfold N5
 refine f140 ?_
 have l1:gI (S [45])=some (I 1):=rfl
 have fin:∀b:Bool,b=decide (s.head?=some 45)→(OP (gJ .not (B b)) fun x9=>
   aR x9
    (OP (cg 0 (.tuple #[S s,.bool false])) fun x9=>OP (cg 1 (.tuple #[S s,.bool false])) fun aM=>K (.tuple #[x9,aM]) h)
    (OP (lK (S s) (some (I 1)) none) fun aH=>OP (cg 0 (.tuple #[aH,.bool true])) fun x9=>OP (cg 1 (.tuple #[aH,.bool true])) fun aM=>K (.tuple #[x9,aM]) h)):=by
  intro b hb
  by_cases hh:s.head?=some 45
  ·rw [aU hh] at hb hk
   rw [if_pos hh] at hk
   subst hb
   have h1:1≤s.length:=by
    cases s with
    | nil=>simp at hh
    | cons x t=>simp
   have F7:lK (S s) (some (I 1)) none=some (S s.tail):=by
    rw [←List.drop_one]
    exact CS (a:=s) (n:=1) h1 .i64
   simp only [oc,ah,Bool.not_true,dF,F7,dX,eD,eI]
   exact hk
  ·rw [aS hh] at hb hk
   rw [if_neg hh] at hk
   subst hb
   simp only [oc,ah,Bool.not_false,c8,dX,eD,eI]
   exact hk
 unfold Oe
 simp only [mf,l1,ah,nk]
 rw [aCj]
 cases s with
 | nil=>
  simp only [List.length_nil,show decide ((1:Int)≤((0:Nat):Int))=false from rfl,kL]
  rw [amd]
  simp only [cK,ah]
  exact fin false (by simp)
 | cons x t=>
  have wV:lK (S (x::t)) none (some (I 1))=some (S [x]):=by
   have:=Wj (a:=x::t) (n:=1) (by simp) .i64
   simpa using this
  rw [aU (show (1:Int)≤((x::t).length:Int) by rw [length_cons];omega)]
  simp only [jm,l1,ah,wV,Pq]
  rw [amd]
  simp only [dZ,ah]
  exact fin (decide ([x]=[45])) (by rw [decide_eq_decide];constructor <;> intro h <;> simpa using h)
end
end
section
theorem aF6 {s:List UInt8} {i:Nat} (h:i<s.length):dQ (s.take (i+1))=10*dQ (s.take i)+(s[i].toNat-48):=by
 rw [take_succ_eq_append_getElem h,A5,L9]
 simp
 omega
theorem aEx (k:IntKind) {a b:Int} (ha:0≤a) (hb:0<b):ai .rem (.int k a) (.int k b)=some (.int k (a%b)):=by
 simp only [ai,hZ,if_true]
 rw [if_neg (by omega),Int.tmod_eq_emod_of_nonneg ha]
theorem Tx {g:ae} {d:Nat} (hd:d<4294967296) (h0:0<d):dJ (g++[.arr 177 [.int .u32 (d:Int)]]) (sl 177 g.length 0 1) d:=
 ⟨[d],.inr ⟨g.length,rfl,.inr ⟨[],by simp [aP]⟩⟩,⟨fun x hx=>by rw [mem_singleton.1 hx];exact hd,by simp;omega⟩,by simp [val]⟩
section
variable {h : ae} {K : Value → ae → Prop} {s : List UInt8}
theorem Xj (hl:s.length≤700) (hk:∀v h',EX h h'→dJ h' v (cL s)→K (.tuple #[v,B (gR s)]) h'):ak prog 125 [S s] h K:=by
 have bad:gR s=false→K (.tuple #[.slice none 0 0,.bool false]) h:=by
  intro hb
  have:=hk (.slice none 0 0) h (EX.refl h) ⟨[],DS.nil _ _ _,dE.nil _,by unfold cL;rw [if_neg (by rw [hb];decide)];rfl⟩
  rw [hb] at this
  exact this
 refine f125 ?_
 unfold NZ
 simp only [mf,ah]
 refine dj (σ:=Nat) (fun i=>[I i]) (fun _=>h) (fun i=>i≤s.length∧kA (s.take i)) (fun i=>s.length-i) 0 rfl rfl ⟨zero_le _,by simp [kA]⟩ ?_
 intro i ⟨hi,nS⟩ L hL
 rw [aBN]
 simp only [cA,ah,bR]
 refine ⟨fun aD=>?_,fun cJ=>?_⟩
 ·have p6:i<s.length:=by omega
  have ix:=wD (a:=s) (i:=i) p6 .i64
  have Fj:ai .lss (cv s[i]) (.int .u8 48)=some (B (decide ((s[i].toNat:Int)<48))):=rfl
  have Jh:ai .gtr (cv s[i]) (.int .u8 57)=some (B (decide ((s[i].toNat:Int)>57))):=rfl
  have no:¬(48≤s[i].toNat∧s[i].toNat≤57)→gR s=false:=by
   intro hn
   cases e:gR s with
   | false=>rfl
   | true=>exact absurd ((uo.1 e).2.2 _ (getElem_mem p6)) hn
  simp only [ix,ah,Fj]
  by_cases nr:s[i].toNat<48
  ·rw [aU (show (s[i].toNat:Int)<48 by omega),al8]
   simp only [fw]
   rw [al9]
   simp only [dZ,ah,c8]
   exact bad (no (by omega))
  ·rw [aS (show ¬(s[i].toNat:Int)<48 by omega),al8]
   simp only [dR,ix,ah,Jh]
   rw [al9]
   simp only [cK,ah,bR]
   refine ⟨fun h57=>bad (no (by omega)),fun h57=>?_⟩
   simp only [cf,eR i (by omega),ah,true_and]
   refine hL (i+1) ⟨by omega,?_⟩ (by omega)
   rw [take_succ_eq_append_getElem p6]
   intro c hc
   rcases mem_append.1 hc with hc | hc
   ·exact nS c hc
   ·rw [mem_singleton.1 hc];omega
 have fH:i=s.length:=by omega
 subst fH
 rw [take_length] at nS
 clear hL
 have eE:(.string ⟨#[]⟩:Value)=S []:=rfl
 rw [aBK,eE]
 simp only [Pq,ah]
 -- vf is left of gN aGL
 have go:gR s=true→FF prog K (S s) (B false) (B false) h:=by
  intro aE
  have hv:cL s=dQ s:=by unfold cL;rw [if_pos aE]
  rw [aE,hv] at hk
  rw [amc]
  simp only [cK,ah,dF]
  refine dj (σ:=List UInt8×List UInt8×Value×ae) (fun q=>[S q.2.1,q.2.2.1]) (fun q=>q.2.2.2) (fun q=>s=q.1++q.2.1∧dJ q.2.2.2 q.2.2.1 (dQ q.1)∧EX h q.2.2.2) (fun q=>q.2.1.length)
   ([],s,.slice none 0 0,h) rfl rfl ⟨rfl,⟨[],DS.nil _ _ _,dE.nil _,rfl⟩,EX.refl h⟩ ?_
  rintro ⟨p,t,v,g⟩ ⟨bD,hm,hx⟩ L hL
  simp only at bD hm hx hL⊢
  rw [aBL,eE]
  simp only [ZE,ah]
  by_cases ht:t=[]
  ·subst ht
   rw [aU rfl]
   simp only [Bool.not_true,dF]
   rw [aBP]
   rw [append_nil] at bD
   rw [bD] at hk
   exact hk v g hx hm
  rw [aS ht]
  have EU:0<t.length:=List.length_pos_iff.2 ht
  have qV:p.length+t.length=s.length:=by rw [bD,length_append]
  have mP:kA t:=fun c hc=>nS c (by rw [bD];simp [hc])
  have hdp:kA p:=fun c hc=>nS c (by rw [bD];simp [hc])
  have w1:IntKind.wrap .i64 ((t.length:Int)-1)=((t.length-1:Nat):Int):=by rw [wrap64 (by omega) (by omega)];omega
  have w2:ai .rem (I (t.length-1:Nat)) (.int .i64 9)=some (I ((t.length-1)%9:Nat)):=by
   have:ai .rem (I (t.length-1:Nat)) (.int .i64 9)=some (I (((t.length-1:Nat):Int)%9)):=aEx .i64 (by omega) (by decide)
   rw [this];congr 2
  have w3:IntKind.wrap .i64 (((t.length-1)%9:Nat)+1:Int)=(((t.length-1)%9+1:Nat):Int):=by rw [wrap64 (by omega) (by omega)];omega
  simp only [Bool.not_false,c8,mf,ah,gE,w1,w2,cf,w3]
  have hn9:(t.length-1)%9+1≤9:=by omega
  have oL:(t.length-1)%9+1≤t.length:=by omega
  have hn1:1≤(t.length-1)%9+1:=by omega
  generalize (t.length-1)%9+1=n at*
  refine dj (σ:=Nat) (fun i=>[.int .u32 (dQ (t.take i):Int),.int .u32 ((10^i:Nat):Int),I i]) (fun _=>g) (fun i=>i≤n) (fun i=>n-i) 0 rfl rfl (zero_le _) ?_
  intro i fc L2 gj
  have aD:=A6 (s:=t.take i) fun c hc=>mP c (List.mem_of_mem_take hc)
  rw [length_take,Nat.min_eq_left (by omega)] at aD
  have p9:(10:Nat)^i≤10^9:=pow_le_pow_right (by decide) (by omega)
  rw [aBM]
  simp only [cA,ah,bR]
  refine ⟨fun h1=>?_,fun h1=>?_⟩
  ·have ti:i<t.length:=by omega
   have hc:=mP _ (getElem_mem ti)
   have p8:(10:Nat)^i≤10^8:=pow_le_pow_right (by decide) (by omega)
   have ix:=wD (a:=t) (i:=i) ti .i64
   have m1:ai .mul (.int .u32 10) (.int .u32 (dQ (t.take i):Int))=some (.int .u32 ((10*dQ (t.take i):Nat):Int)):=by
    rw [ue,show (10:Int)*(dQ (t.take i):Int)=((10*dQ (t.take i):Nat):Int) by omega,oT (by omega) (by omega)]
   have m2:ai .mul (.int .u32 10) (.int .u32 ((10^i:Nat):Int))=some (.int .u32 ((10^(i+1):Nat):Int)):=by
    rw [ue,show (10:Int)*((10^i:Nat):Int)=((10^(i+1):Nat):Int) by rw [Nat.pow_succ];omega,oT (by omega) (by rw [Nat.pow_succ];omega)]
   have We:ai .sub (cv t[i]) (.int .u8 48)=some (.int .u8 ((t[i].toNat-48:Nat):Int)):=by
    show some (Value.int .u8 (IntKind.wrap .u8 ((t[i].toNat:Int)-48)))=_
    have e:IntKind.wrap .u8 ((t[i].toNat:Int)-48)=((t[i].toNat:Int)-48)%256:=by simp [IntKind.wrap,IntKind.bits,IntKind.signed]
    rw [e];congr 2;omega
   have c1:dA .u32 (.int .u8 ((t[i].toNat-48:Nat):Int))=some (.int .u32 ((t[i].toNat-48:Nat):Int)):=by rw [jY,oT (by omega) (by omega)]
   have a1:ai .add (.int .u32 ((10*dQ (t.take i):Nat):Int)) (.int .u32 ((t[i].toNat-48:Nat):Int))=some (.int .u32 (dQ (t.take (i+1)):Int)):=by
    rw [aF6 ti,cf,←Int.natCast_add,oT (by omega) (by omega)]
   simp only [m1,ix,We,c1,a1,m2,cf,eR i (by omega),ah,true_and]
   exact gj (i+1) (by omega) (by omega)
  ·have fH:i=n:=by omega
   subst fH
   have ae7:(10:Nat)^i<4294967296:=by omega
   have hY:0<(10:Nat)^i:=pow_pos (by decide)
   have lp:=A6 hdp
   have aGI:(10:Nat)^p.length≤br:=sF (by omega)
   have JS:dQ p*10^i+dQ (t.take i)=dQ (p++t.take i):=by
    rw [A5,length_take,Nat.min_eq_left oL]
   have axl:kA (p++t.take i):=fun c hc=>by
    rcases mem_append.1 hc with hc | hc
    ·exact hdp c hc
    ·exact mP c (List.mem_of_mem_take hc)
   have lpt:=A6 axl
   rw [length_append,length_take,Nat.min_eq_left oL] at lpt
   have aGJ:(10:Nat)^(p.length+i)≤br:=sF (by omega)
   have mk:∀(g:ae) (r:Nat),dK 177 1 [(.int .u32 (0))] g [(0,1,.int .u32 (r:Int))]=some (sl 177 g.length 0 1,g++[.arr 177 [.int .u32 (r:Int)]]):=fun _ _=>rfl
   rw [aBO]
   simp only [mk,aA]
   have x1:EX g (g++[.arr 177 [.int .u32 ((10^i:Nat):Int)]]):=EX.append _ _
   refine Xi (hm.mono x1) (Tx ae7 hY) (by omega) (A7 ae7) ?_
   intro r1 g2 x2 m2
   have x3:EX g2 (g2++[.arr 177 [.int .u32 (dQ (t.take i):Int)]]):=EX.append _ _
   have dr:DS 177 .u32 (g2++[.arr 177 [.int .u32 (dQ (t.take i):Int)]]) (sl 177 g2.length 0 1) [dQ (t.take i)]:=.inr ⟨g2.length,rfl,.inr ⟨[],by simp [aP]⟩⟩
   refine sQ dr (fun x hx=>by rw [mem_singleton.1 hx];omega) (by simp) ?_
   intro r2 m3
   have e:val 4294967296 [dQ (t.take i)]=dQ (t.take i):=by simp [val]
   rw [e] at m3
   refine Xk (m2.mono x3) m3 (by omega) (A7 (by omega)) ?_
   intro r3 g4 x4 m4
   rw [JS] at m4
   have wV:=CS (a:=t) (n:=i) oL .i64
   simp only [wV,ah,true_and]
   refine hL (p++t.take i,t.drop i,r3,g4) ⟨by rw [List.append_assoc,List.take_append_drop];exact bD,m4,((hx.trans x1).trans x2).trans (x3.trans x4)⟩ (by rw [length_drop];omega)
 have fail:gR s=false→∀t u:Value,bQ t (.bool true) u=some (B true)→FF prog K (S s) t u h:=by
  intro hb t u ht
  rw [amc,ht]
  simp only [ah,c8]
  exact bad hb
 by_cases h0:s=[]
 ·have hb:gR s=false:=by subst h0;rfl
  rw [aU h0,ama]
  simp only [fw]
  rw [amb]
  simp only [Bi]
  rw [Vw]
  simp only [fw]
  rw [Vx]
  simp only [dZ,ah]
  rw [Vy]
  simp only [fw]
  exact fail hb _ _ rfl
 have hY:0<s.length:=List.length_pos_iff.2 h0
 rw [aS h0,ama]
 have ix:=wD (a:=s) (i:=0) hY .i64
 simp only [Int.natCast_zero] at ix
 have hh:s.head?=some s[0]:=by rw [List.head?_eq_getElem?,getElem?_eq_getElem hY]
 have e5:ai .eql (cv s[0]) (.int .u8 48)=some (B (decide ((s[0].toNat:Int)=48))):=rfl
 simp only [dR,ix,ah,e5]
 rw [amb]
 have tail:∀(b:Bool),b=false→gR s=true→Ur prog K (S s) (B b) h:=by
  rintro _ rfl aE
  rw [Vy]
  simp only [dR,mf,ah,fG,aS (show ¬(4000:Int)<(s.length:Int) by omega)]
  exact go aE
 by_cases nr:s[0].toNat=48
 ·have Su:s.head?=some 48:=by rw [hh];congr 1;exact UInt8.toNat_inj.1 nr
  rw [aU (show (s[0].toNat:Int)=48 by omega)]
  simp only [jm,mf,ah,fG]
  rw [Vw]
  simp only [dR,dZ,ah]
  rw [Vx]
  simp only [cK,ah]
  by_cases h1:1<s.length
  ·have hb:gR s=false:=by
    cases e:gR s with
    | false=>rfl
    | true=>have:=(uo.1 e).2.1 Su;omega
   rw [aU (show (1:Int)<(s.length:Int) by omega),Vy]
   simp only [fw]
   exact fail hb _ _ rfl
  ·rw [aS (show ¬(1:Int)<(s.length:Int) by omega)]
   exact tail false rfl (uo.2 ⟨⟨hY,by omega⟩,fun _=>by omega,nS⟩)
 ·rw [aS (show ¬(s[0].toNat:Int)=48 by omega)]
  simp only [kL]
  rw [Vw]
  simp only [dR,cK,ah]
  rw [Vx]
  simp only [cK,ah]
  refine tail false rfl (uo.2 ⟨⟨hY,by omega⟩,fun hc=>?_,nS⟩)
  rw [hh] at hc
  injection hc with hc
  rw [hc] at nr
  exact absurd rfl nr
end
end
section
def fT (s:List UInt8):List UInt8:=if s.head?=some 45 then s.tail else s
theorem Vl (s:List UInt8):ke s=ru (decide (s.head?=some 45)) (fT s):=by
 unfold ke fT
 by_cases h:s.head?=some 45
 ·rw [if_pos h,if_pos h,aU h]
 ·rw [if_neg h,if_neg h,aS h]
theorem aAP (s:List UInt8):((dM s).head?=some 45↔s.head?=some 45)∧(if (dM s).head?=some 45 then (dM s).tail else dM s)=dM (fT s)∧nQ s=nQ (fT s)∧dU s=dU (fT s):=by
 cases s with
 | nil=>simp [dM,fT]
 | cons x t=>
  by_cases hx:x=45
  ·subst hx
   have e:((45:UInt8)::t).idxOf 47=t.idxOf 47+1:=by
    rw [idxOf_cons]
    have:((45:UInt8)==47)=false:=by decide
    rw [this];rfl
   have eu:fT (45::t)=t:=by unfold fT;simp
   have eo:dM (45::t)=45::dM t:=by unfold dM;rw [e,List.take_succ_cons]
   rw [eu,eo]
   refine ⟨by simp,by simp,?_,?_⟩
   ·unfold nQ;rw [e,length_cons,decide_eq_decide];omega
   ·unfold dU;rw [e];rfl
  ·have eu:fT (x::t)=x::t:=by unfold fT;rw [if_neg (by simpa using hx)]
   have dh:¬(dM (x::t)).head?=some 45:=by
    unfold dM
    cases h:(x::t).idxOf 47 with
    | zero=>simp
    | succ k=>rw [List.take_succ_cons];simpa using hx
   rw [eu,if_neg dh]
   exact ⟨⟨fun h=>absurd h dh,fun h=>absurd (by simpa using h) hx⟩,rfl,rfl,rfl⟩
theorem awH {g:ae} {j:Nat} {K:Value→ae→Prop} (hg:g[j]?=some (.arr 107 z4)) (hk:K (.tuple #[sN,B false]) (g.set j (.arr 107 z4))):
  OP (dd [(.bool false),(.slice none 0 0),(.bool false),(.slice none 0 0)] []) fun iy=>OH (aF 4 g (pt j 0) iy) fun _ h_1=>OP (af true 4 h_1 (pt j 0)) fun r0=>K (.tuple #[r0,(.bool false)]) h_1:=by
 have e:dd [(.bool false),(.slice none 0 0),(.bool false),(.slice none 0 0)] []=some sN:=rfl
 rw [e,ah]
 have s:=oa (x:=B false) (y:=.slice none 0 0) (z:=B false) (w:=.slice none 0 0) hg
 have s':aF 4 g (pt j 0) sN=some (undef,g.set j (.arr 107 z4)):=s
 rw [s',aA]
 have l:=iH (ck (o:=.arr 107 z4) hg)
 have l':af true 4 (g.set j (.arr 107 z4)) (pt j 0)=some sN:=l
 rw [l',ah]
 exact hk
section
variable {h : ae} {K : Value → ae → Prop} {s : List UInt8}
theorem Wi {m:Bool} {n:Nat}:(m&&decide (0<n))=decide ((if m=true then -(n:Int) else (n:Int))<0)∧(if m=true then -(n:Int) else (n:Int)).natAbs=n:=by
 cases m with
 | false=>simp
 | true=>
  refine ⟨?_,by simp⟩
  simp only [Bool.true_and,if_true]
  rw [decide_eq_decide];omega
theorem Xb {h0:ae} {m uX ok is:Bool} {n d:Nat} {v1 v2:Value} {i2:Nat} (k2:h[i2]?=some (.arr 107 z4)) (b2:h0.length≤i2) (hx:EX h0 h) (m1:dJ h v1 n) (m2:dJ h v2 d) (ln:n<br) (ld:d<br) (hd:is=true→0<d)
  (hk:ok=true→is=true→(m=true→n≠0)→(uX=true→gcd n d=1)→∀r h',EX h0 h'→iB h' r (if m=true then -(n:Int) else n) d→K (.tuple #[r,B true]) h')
  (eK:¬(ok=true∧is=true∧(m=true→n≠0)∧(uX=true→gcd n d=1))→∀a b c e h',EX h0 h'→K (.tuple #[.agg #[a,b,c,e],B false]) h'):
  FC prog K (pt i2 0) (B uX) (B m) v1 (B ok) v2 (B is) h:=by
 have fail:¬(ok=true∧is=true∧(m=true→n≠0)∧(uX=true→gcd n d=1))→∀t u:Value,bQ t (.bool true) u=some (B true)→FD prog K (pt i2 0) (B uX) (B m) v1 v2 t u h:=by
  intro hb t u ht
  rw [al4,ht]
  simp only [ah,c8]
  exact awH k2 (eK hb _ _ _ _ _ (hx.set b2 _))
 have n1:∀b:Bool,gJ .not (B b)=some (B (!b)):=fun _=>rfl
 have early:¬(ok=true∧is=true)→Ug prog K (pt i2 0) (B uX) (B m) v1 v2 (B true) h:=by
  intro hb
  rw [al2]
  simp only [fw]
  rw [al3]
  simp only [Bi]
  rw [Vv]
  simp only [fw]
  exact fail (fun hc=>hb ⟨hc.1,hc.2.1⟩) _ _ rfl
 rw [aBr,n1,ah,aBs]
 cases ok with
 | false=>
  simp only [Bool.not_false,fw]
  rw [al1]
  simp only [dZ,ah]
  exact early (fun hc=>by cases hc.1)
 | true=>
 simp only [Bool.not_true,dR,n1,ah]
 rw [al1]
 simp only [cK,ah]
 cases is with
 | false=>exact early (fun hc=>by cases hc.2)
 | true=>
 have hd:=hd rfl
 simp only [Bool.not_true]
 rw [al2]
 simp only [dR]
 have main:(m=true→n≠0)→FD prog K (pt i2 0) (B uX) (B m) v1 v2 (B false) (B false) h:=by
  intro hm
  rw [al4]
  simp only [cK,ah,dF]
  refine sP m1 ?_
  intro g1 x1
  refine sP (m2.mono x1) ?_
  intro g2 x2
  have aC:=x1.trans x2
  obtain ⟨sg1,LC⟩:=Wi (m:=m) (n:=n)
  rw [sg1,Bool.false_and]
  have Kj:=m1.mono aC
  have m2':=(m2.mono x1).mono x2
  obtain ⟨xs,dx,_⟩:=id Kj
  obtain ⟨ys,dy,_⟩:=id m2'
  have eb:dd [(.bool false),(.slice none 0 0),(.bool false),(.slice none 0 0)] [(0,2,.agg #[B (decide ((if m=true then -(n:Int) else (n:Int))<0)),v1]),(2,2,.agg #[B false,v2])]=some (.agg #[B (decide ((if m=true then -(n:Int) else (n:Int))<0)),v1,B false,v2]):=by
   simp [dd,rQ,gr,cW,Value.cells,setAt]
  have e3:∀(g:ae),aV 107 [(.bool false),(.slice none 0 0),(.bool false),(.slice none 0 0)] g=some (pt g.length 0,g++[.arr 107 z4]):=fun _=>rfl
  simp only [eb,e3,ah,aA]
  have y1:EX g2 (g2++[.arr 107 z4]):=EX.append _ _
  have Tb:(g2++[aj.arr 107 z4])[g2.length]?=some (.arr 107 z4):=bn
  generalize g2++[aj.arr 107 z4]=g3 at y1 Tb⊢
  have p7:i2<g2.length:=(bL (aC.get k2)).1
  rw [oa Tb]
  simp only [aA]
  have k4:(g3.set g2.length (.arr 107 [B (decide ((if m=true then -(n:Int) else (n:Int))<0)),v1,B false,v2]))[g2.length]?=some (.arr 107 [B (decide ((if m=true then -(n:Int) else (n:Int))<0)),v1,B false,v2]):=ck Tb
  have y2:EX g2 (g3.set g2.length (.arr 107 [B (decide ((if m=true then -(n:Int) else (n:Int))<0)),v1,B false,v2])):=y1.set (le_refl _) _
  generalize g3.set g2.length (.arr 107 [B (decide ((if m=true then -(n:Int) else (n:Int))<0)),v1,B false,v2])=g4 at k4 y2⊢
  have xA:=(hx.trans aC).trans y2
  have Fc:=(aC.trans y2).get k2
  have mm1:=Kj.mono y2
  have mm2:=m2'.mono y2
  generalize hN:(if m=true then -(n:Int) else (n:Int))=N at*
  have fin:∀{g5:ae} (b:Bool),EX g4 g5→((b=true→uX=true→gcd n d=1)∧(b=false→¬(uX=true→gcd n d=1)))→OH (aF 4 g5 (pt i2 0) (.agg #[B (decide (N<0)),v1,B false,v2])) fun _ h_8=>OP (af true 4 h_8 (pt i2 0)) fun r0=>K (.tuple #[r0,B b]) h_8:=by
   intro g5 b x5 hb
   have kk:=x5.get Fc
   refine rR (K:=fun v h=>K (.tuple #[v,B b]) h) kk ?_
   have xB:=(xA.trans x5).set b2 (.arr 107 [B (decide (N<0)),v1,B false,v2])
   cases b with
   | true=>
    refine hk rfl rfl hm (hb.1 rfl) _ _ xB ⟨v1,v2,by rw [aS (show ¬(d:Int)<0 by omega)],?_,?_⟩
    ·rw [LC];exact (mm1.mono x5).bM kk _
    ·rw [natAbs_natCast];exact (mm2.mono x5).bM kk _
   | false=>exact eK (fun hc=>hb.2 rfl hc.2.2.2) _ _ _ _ _ xB
  rw [iH k4]
  simp only [ah,n1,true_and]
  cases uX with
  | false=>
   simp only [Bool.not_false,fw,dZ,ah]
   exact fin true (EX.refl g4) ⟨fun _ h=>(by cases h),fun h=>by cases h⟩
  | true=>
   simp only [Bool.not_true,dR,bU,add_zero,zero_add,jR k4,kZ k4,ah]
   refine Xg (a:=N) (b:=(d:Int)) ⟨v1,rfl,by rw [LC];exact mm1⟩ (dV.nat mm2) (by rw [LC];exact ln) (by rw [natAbs_natCast];exact ld) ?_
   intro r5 g5 x5 i5
   rw [LC,natAbs_natCast] at i5
   simp only [iH (x5.get k4),true_and]
   refine De (by decide) (by decide) ?_
   intro r6 g6 x6 i6
   have wh:gcd n d≤d:=Nat.gcd_le_right _ hd
   simp only [iH ((x5.trans x6).get k4),true_and]
   refine Mu (i5.mono x6) i6 (by rw [natAbs_natCast];omega) (by rw [show (1:Int).natAbs=1 from rfl];exact A7 (by decide)) ?_
   intro g7 x7
   have fa:=x5.trans (x6.trans x7)
   simp only [iH (fa.get k4),true_and,iT,ah,cK]
   by_cases xS:gcd n d=1
   ·rw [xS]
    have:(if ((1:Nat):Int)-1=0 then (0:Int) else if ((1:Nat):Int)-1<0 then -1 else 1)=0:=rfl
    rw [this]
    exact fin true fa ⟨fun _ _=>xS,fun h=>by cases h⟩
   ·have:(if ((gcd n d:Nat):Int)-1=0 then (0:Int) else if ((gcd n d:Nat):Int)-1<0 then -1 else 1)≠0:=by
     rw [if_neg (by omega)];split <;> decide
    rw [aS this]
    exact fin false fa ⟨fun h=>(by cases h),fun _ hc=>xS (hc rfl)⟩
 rw [al3]
 cases m with
 | false=>
  simp only [kL]
  rw [Vv]
  simp only [dR,cK,ah]
  exact main (fun h=>by cases h)
 | true=>
  obtain ⟨l,p1,p2⟩:=m1.qo
  simp only [jm,p1,ah,iT]
  rw [Vv]
  simp only [dR,dZ,ah]
  by_cases hn:n=0
  ·rw [aU (show (l:Int)=0 by omega)]
   exact fail (fun hc=>hc.2.2.1 rfl hn) _ _ rfl
  ·rw [aS (show ¬(l:Int)=0 by omega)]
   exact main (fun _=>hn)
end
end
section
theorem anH {s:List UInt8} (h:s.length≤700):cL s<br:=lt_of_lt_of_le (L7 s) (sF (by omega))
theorem an4 {h:ae} {K:Value→ae→Prop} {s:List UInt8} (hl:s.length≤700)
  (hk:∀n d,ke s=some (n,d)→∀r h',EX h h'→iB h' r n d→K (.tuple #[r,B true]) h')
  (eK:ke s=none→∀a b c e h',EX h h'→K (.tuple #[.agg #[a,b,c,e],B false]) h'):ak prog 108 [S s] h K:=by
 obtain ⟨o1,o2,o3,o4⟩:=aAP s
 have hp:=Vl s
 have sm:(fT s).length≤700:=by
  unfold fT
  split
  ·rw [List.length_tail];omega
  ·exact hl
 have lo:(dM (fT s)).length≤700:=by unfold dM;rw [length_take];omega
 have lu:(dU s).length≤700:=by unfold dU;rw [length_drop];omega
 have los:(dM s).length≤700:=by unfold dM;rw [length_take];omega
 have hm:decide ((dM s).head?=some 45)=decide (s.head?=some 45):=by rw [decide_eq_decide];exact o1
 refine f108 ?_
 have e1:∀(g:ae),aV 107 [(.bool false),(.slice none 0 0),(.bool false),(.slice none 0 0)] g=some (pt g.length 0,g++[.arr 107 z4]):=fun _=>rfl
 have eS:(.string ⟨#[47]⟩:Value)=S [47]:=rfl
 have eM:(.string ⟨#[45]⟩:Value)=S [45]:=rfl
 simp only [NI,e1,aA,eS,eM]
 have x0:EX h (h++[.arr 107 z4]):=EX.append _ _
 have k0:(h++[aj.arr 107 z4])[h.length]?=some (.arr 107 z4):=bn
 generalize h++[aj.arr 107 z4]=g at x0 k0⊢
 refine an8 (by omega) ?_
 simp only [dX,(w5 _ _ _).1,(w5 _ _ _).2.1,(w5 _ _ _).2.2,ah]
 refine an9 (by omega) ?_
 rw [o2,hm]
 simp only [dX,eD,eI,ah]
 refine Xj lo ?_
 intro v1 g1 x1 m1
 have mk:∀(g:ae),dK 177 1 [(.int .u32 (0))] g [(0,1,(.int .u32 (1)))]=some (sl 177 g.length 0 1,g++[.arr 177 [.int .u32 ((1:Nat):Int)]]):=fun _=>rfl
 simp only [dX,eD,eI,ah,mk,aA]
 have x2:EX g1 (g1++[.arr 177 [.int .u32 ((1:Nat):Int)]]):=EX.append _ _
 have agZ:=Tx (g:=g1) (d:=1) (by decide) (by decide)
 generalize g1++[aj.arr 177 [.int .u32 ((1:Nat):Int)]]=g2 at x2 agZ⊢
 have iS:=x1.trans x2
 have hvo:=anH lo
 -- vf gN parts say is vf gN text aHE
 have Ep:∀{d:Nat},ph (fT s)=true→pT (fT s)=d→gR (dM (fT s))=true→(decide (s.head?=some 45)=true→cL (dM (fT s))≠0)→
   ke s=some (if decide (s.head?=some 45)=true then -(cL (dM (fT s)):Int) else (cL (dM (fT s)):Int),d):=by
  intro d a b c e
  rw [hp]
  unfold ru
  rw [if_pos ⟨a,c,e⟩,b]
 have bad:¬(ph (fT s)=true∧gR (dM (fT s))=true∧(decide (s.head?=some 45)=true→cL (dM (fT s))≠0))→ke s=none:=by
  intro hb
  rw [hp]
  unfold ru
  rw [if_neg hb]
 cases qV:nQ s with
 | false=>
  rw [qV] at o3
  have mO:ph (fT s)=true:=by unfold ph;rw [←o3];rfl
  have zF:pT (fT s)=1:=by unfold pT;rw [←o3];rfl
  simp only [dF]
  refine Xb (h0:=h) (n:=cL (dM (fT s))) (d:=1) (is:=true) (iS.get k0) (by omega) (x0.trans iS) (m1.mono x2) agZ hvo (A7 (by decide)) (fun _=>by decide) (fun a _ c _=>?_) (fun hb=>?_)
  ·exact hk _ _ (Ep mO zF a c)
  ·refine eK (bad fun hc=>hb ⟨hc.2.1,rfl,hc.2.2,fun h=>by cases h⟩)
 | true=>
  rw [qV] at o3
  have hlu:=lu
  simp only [c8,if_true]
  refine Xj lu ?_
  intro v2 g3 x3 m2
  simp only [dX,eD,eI,ah]
  rw [aBq]
  have zF:pT (fT s)=cL (dU s):=by unfold pT;rw [←o3,←o4];rfl
  have mO:ph (fT s)=(gR (dU s)&&(decide (2≤cL (dU s))&&decide (gcd (cL (dM (fT s))) (cL (dU s))=1))):=by unfold ph;rw [←o3,←o4];rfl
  have hvu:=anH lu
  have x03:=x0.trans (iS.trans x3)
  have fin:∀{g4:ae},EX g3 g4→∀is:Bool,is=(gR (dU s)&&decide (2≤cL (dU s)))→FC prog K (pt h.length 0) (B true) (B (decide (s.head?=some 45))) v1 (B (gR (dM (fT s)))) v2 (B is) g4:=by
   intro g4 x4 is p6
   refine Xb (h0:=h) (n:=cL (dM (fT s))) (d:=cL (dU s)) ((iS.trans (x3.trans x4)).get k0) (by omega) (x03.trans x4) ((m1.mono x2).mono (x3.trans x4)) (m2.mono x4) hvo hvu (fun h=>?_) (fun a b c d=>?_) (fun hb=>?_)
   ·rw [h] at p6
    have:=(Bool.and_eq_true_iff.1 p6.symm).2
    have:=of_decide_eq_true this
    omega
   ·refine hk _ _ (Ep ?_ zF a c)
    rw [b] at p6
    have h2:=Bool.and_eq_true_iff.1 p6.symm
    rw [mO,h2.1,h2.2,aU (d rfl)];rfl
   ·refine eK (bad fun hc=>hb ⟨hc.2.1,?_,hc.2.2,fun _=>?_⟩)
    ·have h2:=hc.1
     rw [mO,and_eq_true,and_eq_true] at h2
     rw [p6,h2.1,h2.2.1];rfl
    ·have h2:=hc.1
     rw [mO,and_eq_true,and_eq_true] at h2
     exact of_decide_eq_true h2.2.2
  cases zI:gR (dU s) with
  | false=>
   simp only [kL]
   rw [al0]
   simp only [cK,ah]
   exact fin (EX.refl g3) false (by rw [zI];rfl)
  | true=>
   simp only [jm,mk,aA]
   have x4:EX g3 (g3++[.arr 177 [.int .u32 ((1:Nat):Int)]]):=EX.append _ _
   refine Gr (m2.mono x4) (Tx (by decide) (by decide)) hvu (A7 (by decide)) ?_
   have hs:decide ((0:Int)<nC (cL (dU s)) 1)=decide (2≤cL (dU s)):=by
    rw [decide_eq_decide]
    unfold nC
    split
    ·omega
    ·split <;> omega
   simp only [fG,ah,hs]
   rw [al0]
   simp only [dZ,ah]
   exact fin x4 _ (by rw [zI];rfl)
end
section
variable (P : Program) (K : VK)
noncomputable section
variable (x0 : Value) (h : ae)
def ah2:=bz prog 24 [[],[],[]]
@[irreducible] def c24:=bJ ah2
theorem k24:ah2=some (11,c24,[.tmp 2]):=by kernel_rfl
def Om:Prop:=
 ak P 67 [x0] h fun x7 z1=>
 OP (cg 0 x7) fun x8=>
 OP (cg 1 x7) fun x9=>
 OH (aV 37 [(.bool false),(.slice none 0 0),(.bool false),(.slice none 0 0)] z1) fun x3 z2=>
 OH (aF 4 z2 x3 x8) fun _ z3=>
 K x9 z3
theorem e24:aq P c24 (aT [.tmp 2] K) (bt [x0]) h=Om P K x0 h:=by kernel_rfl
theorem f24 {K:VK} {x0:Value} {h:ae} (H:Om prog K x0 h):ak prog 24 [x0] h K:=
 bK k24 (bI rfl) ((e24 prog K x0 h).mpr H)
end
end
section
end
section
def cut (jf n:Nat):Nat:=min n (if 10<n then 11 else jf)
end
section
structure LL (h:ae) (v:Value) (ll:List (List Nat)):Prop where
 len:bj v=some (I ll.length)
 get:∀i (hi:i<ll.length),∃b o w,bf 1 v (I i)=some (pt b o)∧af false 1 h (pt b o)=some w∧NS h w .i64 (ll[i].map fun i:Nat=>(i:Int))
theorem LL.mono {h h':ae} {v:Value} {ll:List (List Nat)} (x:EX h h') (p:LL h v ll):LL h' v ll:=
 ⟨p.len,fun i hi=>let ⟨b,o,w,a,c,d⟩:=p.get i hi;⟨b,o,w,a,EX.load x c,d.mono x⟩⟩
def afZ:Value→Bool
 | .slice _ _ _=>true
 | _=>false
structure OL (b:Nat) (g:ae) (v:Value) (ws:List Value) (ll:List (List Nat)):Prop where
 own:fy b g 33 v ws
 len:ws.length=ll.length
 sls:∀w∈ws,afZ w=true
 get:∀(i:Nat) (w:Value) (l:List Nat),ws[i]?=some w→ll[i]?=some l→NS g w .i64 (l.map fun i:Nat=>(i:Int))
theorem NS.azQ {g g':ae} {w:Value} {ns:List Int} (p:NS g w .i64 ns) (hk:∀b,b<g.length→(∃o n,af false 1 g (pt b o)=some (I n))→g'[b]?=g[b]?):NS g' w .i64 ns:=by
 refine ⟨p.len,fun i hi=>?_,p.le⟩
 obtain ⟨b,o,h1,h2⟩:=p.get i hi
 have hb:b<g.length:=by
  apply byContradiction
  intro cJ
  simp only [af] at h2
  rw [aP,List.getElem?_eq_none (by omega)] at h2
  cases h2
 refine ⟨b,o,h1,?_⟩
 have:=hk b hb ⟨o,_,h2⟩
 simp only [af,aP,this] at h2⊢
 exact h2
theorem OL.ep {b:Nat} {g g':ae} {v w:Value} {ws:List Value} {ll:List (List Nat)} {ns:List Int} (o:OL b g v ws ll) (p:NS g w .i64 ns) (lI:∀d,d<g.length→(∀n,v≠sl 33 d 0 n)→g'[d]?=g[d]?):NS g' w .i64 ns:=by
 refine NS.azQ p fun d hd ⟨o',n,hl⟩=>lI d hd fun m hv=>?_
 obtain ⟨_,_,h3⟩:=o.own.lt hv
 simp only [af,aP,h3,Option.bind_some,b9,Bool.false_eq_true,if_false] at hl
 have:=o.sls _ (List.mem_of_getElem? hl)
 cases this
theorem OL.app {h0 hx:ae} {v w:Value} {ws:List Value} {ll:List (List Nat)} {l:List Nat} {K:Value→ae→Prop} (o:OL h0.length hx v ws ll) (hex:EX h0 hx) (hw:NS hx w .i64 (l.map fun i:Nat=>(i:Int))) (hl:ws.length≤1000)
  (hk:∀v' bT,EX h0 bT→OL h0.length bT v' (ws++[w]) (ll++[l])→K v' bT):OH (dK 33 1 [(.slice none 0 0)] hx [(0,1,w)]) fun a h2=>OH (dY 33 1 24 h2 v a) K:=by
 obtain ⟨t1,t2⟩:=anj hw.len
 have qV:afZ w=true:=by
  have:=hw.len
  unfold bj at this
  split at this
  ·rfl
  ·cases this
 refine G6 o.own (by omega) (by simp [maxLen];omega) t1 t2 ?_
 intro w1 bT _ hlen lI j5
 simp only [aA]
 have key:∀{w':Value} {ns:List Int},NS hx w' .i64 ns→NS bT w' .i64 ns:=fun p=>o.ep p lI
 refine hk _ _ ⟨by have:=hex.1;omega,fun d hd=>?_⟩ ⟨.inr ⟨hx.length+1,by have:=hex.1;omega,by simp,j5⟩,by simp [o.len],fun x hx=>?_,fun i x y hx hy=>?_⟩
 ·rw [lI d (by have:=hex.1;omega) fun n hv=>?_]
  ·exact hex.2 d hd
  ·have:=(o.own.lt hv).1
   omega
 ·rcases mem_append.1 hx with hx | hx
  ·exact o.sls x hx
  ·rw [mem_singleton.1 hx];exact qV
 ·by_cases hi:i<ws.length
  ·rw [getElem?_append_left hi] at hx
   rw [getElem?_append_left (by rw [←o.len];exact hi)] at hy
   exact key (o.get i x y hx hy)
  ·rw [getElem?_append_right (by omega)] at hx
   rw [getElem?_append_right (by rw [←o.len];omega),←o.len] at hy
   have h0:i-ws.length=0:=by
    have:=(bL hx).1
    simp at this;omega
   rw [h0] at hx hy
   simp only [List.getElem?_cons_zero,Option.some.injEq] at hx hy
   subst hx hy
   exact key hw
theorem OL.ll {b:Nat} {g:ae} {v:Value} {ws:List Value} {ll:List (List Nat)} (o:OL b g v ws ll):LL g v ll:=by
 rcases o.own with ⟨rfl,h2⟩ | ⟨i,_,rfl,h3⟩
 ·have hl:=o.len
  rw [h2] at hl
  have:ll=[]:=List.length_eq_zero_iff.1 hl.symm
  subst this
  exact ⟨rfl,fun i hi=>by simp at hi⟩
 ·refine ⟨by rw [←o.len];rfl,fun j hj=>?_⟩
  have RP:j<ws.length:=by rw [o.len];exact hj
  refine ⟨i,j,ws[j],lP RP,?_,o.get j _ _ (getElem?_eq_getElem RP) (getElem?_eq_getElem hj)⟩
  simp [af,aP,h3,b9,RP]
theorem OL.start (b:Nat) (g:ae):OL b g (.slice none 0 0) [] []:=⟨.inl ⟨rfl,rfl⟩,rfl,fun w hw=>by simp at hw,fun i w l h=>by simp at h⟩
end
end Go.Proofs.YtelmdbpaoifmoaaGreat
namespace Go.Sim
section
structure ov (bs:List Nat) (js:List (Int×Int)) (n d k ba b:Nat):Prop where
 none:ba=0→b=0∧∀m,m<k→¬fF bs n d m
 rel:ba≠0→(b<k∧fF bs n d b)∧(∀m,m<k→fF bs n d m→wS js m*lS js b≤wS js b*lS js m)∧∀i,ba.testBit i=true↔∃m,m<k∧fF bs n d m∧wS js m*lS js b=wS js b*lS js m∧m.testBit i=true
section
variable {bs : List Nat} {js : List (Int × Int)} {n d k ba b : Nat}
theorem ov.start:ov bs js n d 1 0 0:=⟨fun _=>⟨rfl,fun m hm h=>h.ne (by omega)⟩,fun h=>absurd rfl h⟩
theorem ov.skip (g:ov bs js n d k ba b) (h:¬fF bs n d k):ov bs js n d (k+1) ba b:=by
 refine ⟨fun h0=>⟨(g.none h0).1,fun m hm hr=>?_⟩,fun h0=>?_⟩
 ·by_cases e:m=k
  ·subst e;exact h hr
  ·exact (g.none h0).2 m (by omega) hr
 ·obtain ⟨⟨a1,a2⟩,a3,a4⟩:=g.rel h0
  refine ⟨⟨by omega,a2⟩,fun m hm hr=>?_,fun i=>?_⟩
  ·by_cases e:m=k
   ·subst e;exact absurd hr h
   ·exact a3 m (by omega) hr
  ·rw [a4 i]
   constructor
   ·rintro ⟨m,q1,q2,q3⟩;exact ⟨m,by omega,q2,q3⟩
   ·rintro ⟨m,q1,q2,q3⟩
    by_cases e:m=k
    ·subst e;exact absurd q2 h
    ·exact ⟨m,by omega,q2,q3⟩
theorem ov.take (P:pL js n) (hn:n≤10) (g:ov bs js n d k ba b) (h:fF bs n d k) (hb:ba=0∨wS js b*lS js k<wS js k*lS js b):ov bs js n d (k+1) k k:=by
 refine ⟨fun h0=>absurd h0 h.ne,fun _=>?_⟩
 have less:∀m,m<k→fF bs n d m→wS js m*lS js k<wS js k*lS js m:=by
  intro m hm hr
  rcases hb with hb | hb
  ·exact absurd hr ((g.none hb).2 m hm)
  ·have h0:ba≠0:=by
    rintro rfl
    exact (g.none rfl).2 m hm hr
   obtain ⟨⟨a1,a2⟩,a3,_⟩:=g.rel h0
   have h1:=a3 m hm hr
   have p1:=wH P hn hr.lt hr.ne
   have p2:=wH P hn a2.lt a2.ne
   have p3:=wH P hn h.lt h.ne
   apply byContradiction
   intro hc
   have:=Qs p3 p1 p2 (show wS js k*lS js m≤wS js m*lS js k by omega) h1
   omega
 refine ⟨⟨by omega,h⟩,fun m hm hr=>?_,fun i=>?_⟩
 ·by_cases e:m=k
  ·subst e;exact Int.le_refl _
  ·exact Int.le_of_lt (less m (by omega) hr)
 ·constructor
  ·intro hi;exact ⟨k,by omega,h,rfl,hi⟩
  ·rintro ⟨m,q1,q2,q3,q4⟩
   by_cases e:m=k
   ·subst e;exact q4
   ·have:=less m (by omega) q2
    omega
theorem ov.join (g:ov bs js n d k ba b) (h:fF bs n d k) (h0:ba≠0) (hb:wS js k*lS js b=wS js b*lS js k):ov bs js n d (k+1) (ba ||| k) b:=by
 have bp:ba ||| k≠0:=by
  intro e
  have:ba≤ba ||| k:=Nat.left_le_or
  omega
 refine ⟨fun e=>absurd e bp,fun _=>?_⟩
 obtain ⟨⟨a1,a2⟩,a3,a4⟩:=g.rel h0
 refine ⟨⟨by omega,a2⟩,fun m hm hr=>?_,fun i=>?_⟩
 ·by_cases e:m=k
  ·subst e;omega
  ·exact a3 m (by omega) hr
 ·rw [Nat.testBit_or,Bool.or_eq_true,a4 i]
  constructor
  ·rintro (⟨m,q1,q2⟩ | hi)
   ·exact ⟨m,by omega,q2⟩
   ·exact ⟨k,by omega,h,hb,hi⟩
  ·rintro ⟨m,q1,q2,q3,q4⟩
   by_cases e:m=k
   ·subst e;exact .inr q4
   ·exact .inl ⟨m,by omega,q2,q3,q4⟩
theorem ov.pass (g:ov bs js n d k ba b) (h0:ba≠0) (hb:wS js k*lS js b<wS js b*lS js k):ov bs js n d (k+1) ba b:=by
 refine ⟨fun e=>absurd e h0,fun _=>?_⟩
 obtain ⟨⟨a1,a2⟩,a3,a4⟩:=g.rel h0
 refine ⟨⟨by omega,a2⟩,fun m hm hr=>?_,fun i=>?_⟩
 ·by_cases e:m=k
  ·subst e;omega
  ·exact a3 m (by omega) hr
 ·rw [a4 i]
  constructor
  ·rintro ⟨m,q1,q2⟩;exact ⟨m,by omega,q2⟩
  ·rintro ⟨m,q1,q2,q3,q4⟩
   by_cases e:m=k
   ·subst e;omega
   ·exact ⟨m,by omega,q2,q3,q4⟩
theorem ov.all (P:pL js n) (hn:n≤10) (hb:∀b∈bs,b<2^n) (hd:d<bE n) (g:ov bs js n d (2^n) ba b):rJ bs js n d ba:=by
 obtain ⟨s,hs⟩:=rJ.ex (js:=js) P hn hb hd
 have h0:ba≠0:=fun e=>(g.none e).2 s hs.1.1.lt hs.1.1
 obtain ⟨⟨a1,a2⟩,a3,a4⟩:=g.rel h0
 have lY:ow bs js n d b:=⟨a2,fun x hx=>a3 x hx.lt hx⟩
 have e:ba=s:=by
  apply Nat.eq_of_testBit_eq
  intro i
  rw [Bool.eq_iff_iff,a4 i]
  constructor
  ·rintro ⟨m,_,q2,q3,q4⟩
   have hm:=lY.same P hn q2 (Int.le_of_eq q3.symm)
   exact pH.1 (hs.2 m hm) i q4
  ·intro hi
   exact ⟨s,hs.1.1.lt,hs.1.1,Int.le_antisymm (a3 s hs.1.1.lt hs.1.1) (hs.1.2 b a2),hi⟩
 rw [e]
 exact hs
end
end
end Go.Sim
namespace Go.Proofs.YtelmdbpaoifmoaaGreat
open Go.Sim
section
end
end Go.Proofs.YtelmdbpaoifmoaaGreat
namespace Go.Sim
section
def KP (p:Value→Bool) (h h':ae):Prop:=∀d c r,aP h d=some (c::r)→p c=true→aP h' d=some (c::r)
theorem KP.refl (p:Value→Bool) (h:ae):KP p h h:=fun _ _ _ a _=>a
theorem KP.trans {p:Value→Bool} {a b c:ae} (x:KP p a b) (y:KP p b c):KP p a c:=fun d v r h1 h2=>y d v r (x d v r h1 h2) h2
theorem KP.ex {p:Value→Bool} {a b:ae} (x:EX a b):KP p a b:=fun _ _ _ h1 _=>x.cells h1
theorem KP.set {p:Value→Bool} {h:ae} {i:Nat} {e:TypeId} {cs:List Value} (hg:h[i]?=some (.arr e cs)) (hp:∀c r,cs=c::r→p c=false) (o:aj):KP p h (h.set i o):=by
 intro d c r h1 h2
 have bp:i≠d:=by
  rintro rfl
  simp only [aP,hg] at h1
  cases h1
  rw [hp _ _ rfl] at h2
  cases h2
 simp only [aP] at h1⊢
 rw [getElem?_set_ne bp]
 exact h1
def RS (h:ae) (e:TypeId) (aY:Nat) (v:Value) (rows:List (List Value)):Prop:=
 (∀r∈rows,r.length=aY)∧((v=.slice none 0 0∧rows=[])∨∃i o,v=sl e i o rows.length∧(rows=[]∨∃pre post,aP h i=some (pre++rows.flatten++post)∧pre.length=o))
section
variable {h h' : ae} {e : TypeId} {aY : Nat} {v : Value} {rows : List (List Value)}
theorem RS.mono (x:EX h h') (p:RS h e aY v rows):RS h' e aY v rows:=
 ⟨p.1,p.2.imp id fun ⟨i,o,a,b⟩=>⟨i,o,a,b.imp id fun ⟨pre,post,c,d⟩=>⟨pre,post,x.cells c,d⟩⟩⟩
theorem RS.len (p:RS h e aY v rows):bj v=some (I rows.length):=by
 rcases p.2 with ⟨rfl,rfl⟩ | ⟨i,o,rfl,_⟩ <;> rfl
theorem RS.one (p:RS h e aY v rows):gr v=true∧cW v=[v]:=by
 rcases p.2 with ⟨rfl,_⟩ | ⟨i,o,rfl,_⟩ <;> exact ⟨rfl,rfl⟩
theorem I8:∀{rows:List (List Value)},(∀r∈rows,r.length=aY)→rows.flatten.length=rows.length*aY
 | [],_=>by simp
 | r::rows,h=>by
  have ih:=I8 (rows:=rows) fun x hx=>h x (List.mem_cons_of_mem _ hx)
  simp only [List.flatten_cons,length_append,length_cons,h r (List.mem_cons_self ..),ih]
  rw [Nat.succ_mul];omega
theorem adM:∀{rows:List (List Value)},(∀r∈rows,r.length=aY)→∀k (hk:k<rows.length),(rows.flatten.drop (k*aY)).take aY=rows[k]
 | r::rows,h,0,_=>by
  have:=h r (by simp)
  simp only [List.flatten_cons,Nat.zero_mul,List.drop_zero,List.getElem_cons_zero]
  rw [←this,List.take_left']
  rfl
 | r::rows,h,k+1,hk=>by
  have hr:=h r (by simp)
  have:=adM (rows:=rows) (fun x hx=>h x (by simp [hx])) k (by simpa using hk)
  simp only [List.flatten_cons,List.getElem_cons_succ]
  rw [←this,show (k+1)*aY=r.length+k*aY by rw [Nat.succ_mul,hr];omega,List.drop_append,List.drop_eq_nil_of_le (by omega),List.nil_append,show r.length+k*aY-r.length=k*aY by omega]
theorem RS.get (p:RS h e aY v rows) {k:Nat} (hk:k<rows.length):∃i o cs,bf aY v (I k)=some (pt i o)∧aP h i=some cs∧o+aY≤cs.length∧(cs.drop o).take aY=rows[k]:=by
 rcases p.2 with ⟨_,rfl⟩ | ⟨i,o,rfl,rfl | ⟨pre,post,hc,ho⟩⟩
 ·simp at hk
 ·simp at hk
 have hf:=I8 p.1
 have hle:(k+1)*aY≤rows.length*aY:=Nat.mul_le_mul_right _ hk
 rw [Nat.succ_mul] at hle
 refine ⟨i,o+k*aY,_,?_,hc,?_,?_⟩
 ·have:(0:Int)≤(k:Int)∧(k:Int)<(rows.length:Int):=by omega
  simp [sl,bf,this]
 ·simp only [length_append,hf];omega
 ·rw [←adM p.1 k hk,←ho,List.append_assoc,List.drop_append,List.drop_eq_nil_of_le (by omega),List.nil_append,show pre.length+k*aY-pre.length=k*aY by omega]
  rw [List.drop_append_of_le_length (by rw [hf];omega),List.take_append_of_le_length (by rw [length_drop,hf];omega)]
theorem VY {i o:Nat} {cs row:List Value} (hc:aP h i=some cs) (hl:o+aY≤cs.length) (ht:(cs.drop o).take aY=row):af true aY h (pt i o)=some (.agg row.toArray):=by
 simp [af,hc,b9,hl,ht]
theorem RS.nil (h:ae) (e:TypeId) (aY:Nat):RS h e aY (.slice none 0 0) []:=⟨fun r hr=>by simp at hr,.inl ⟨rfl,rfl⟩⟩
theorem RS.arr {i:Nat} (hw:∀r∈rows,r.length=aY) (hg:h[i]?=some (.arr e rows.flatten)):RS h e aY (sl e i 0 rows.length) rows:=
 ⟨hw,.inr ⟨i,0,rfl,.inr ⟨[],[],by simp [aP,hg],rfl⟩⟩⟩
theorem RS.from (p:RS h e aY v rows) {k:Nat} (hk:k≤rows.length):∃v',mT e aY v (some (I k)) none=some v'∧RS h e aY v' (rows.drop k):=by
 have hw:∀r∈rows.drop k,r.length=aY:=fun r hr=>p.1 r (List.mem_of_mem_drop hr)
 rcases p.2 with ⟨rfl,rfl⟩ | ⟨i,o,rfl,hc⟩
 ·have:k=0:=by simpa using hk
  subst this
  exact ⟨_,rfl,⟨hw,.inl ⟨rfl,rfl⟩⟩⟩
 ·refine ⟨sl e i (o+k*aY) (rows.length-k),by simp [mT,sl,sw,tJ,hk],hw,.inr ⟨i,_,by rw [length_drop],?_⟩⟩
  rcases hc with rfl | ⟨pre,post,hc,ho⟩
  ·left;simp
  ·right
   refine ⟨pre++(rows.take k).flatten,post,?_,?_⟩
   ·rw [hc]
    have:rows.flatten=(rows.take k).flatten++(rows.drop k).flatten:=by rw [←List.flatten_append,List.take_append_drop]
    rw [this];simp
   ·rw [length_append,ho,I8 fun r hr=>p.1 r (List.mem_of_mem_take hr),length_take,Nat.min_eq_left hk]
def kr (b:Nat) (hx:ae) (e:TypeId) (aY:Nat) (v:Value) (rows:List (List Value)):Prop:=
 (∀r∈rows,r.length=aY)∧((v=.slice none 0 0∧rows=[])∨∃i,b≤i∧v=sl e i 0 rows.length∧hx[i]?=some (.arr e rows.flatten))
theorem kr.start (b:Nat) (hx:ae) (e:TypeId) (aY:Nat):kr b hx e aY (.slice none 0 0) []:=⟨fun r hr=>by simp at hr,.inl ⟨rfl,rfl⟩⟩
theorem kr.rs {b:Nat} (o:kr b h e aY v rows):RS h e aY v rows:=by
 rcases o.2 with ⟨rfl,rfl⟩ | ⟨i,_,rfl,hg⟩
 ·exact .nil _ _ _
 ·exact .arr o.1 hg
theorem kr.ep {b:Nat} (o:kr b h e aY v rows) (x:∀d n,v=sl e d 0 n→b≤d→h'[d]?=h[d]?):kr b h' e aY v rows:=
 ⟨o.1,o.2.imp id fun ⟨i,h1,h2,h3⟩=>⟨i,h1,h2,by rw [x i _ h2 h1];exact h3⟩⟩
theorem kr.lt {b d n:Nat} (o:kr b h e aY v rows) (hv:v=sl e d 0 n):b≤d∧d<h.length∧h[d]?=some (.arr e rows.flatten):=by
 rcases o.2 with ⟨h1,_⟩ | ⟨i,h1,h2,h3⟩
 ·rw [h1] at hv;cases hv
 ·rw [h2] at hv
  obtain ⟨rfl,_⟩:=Wk hv
  exact ⟨h1,(bL h3).1,h3⟩
theorem kr.ex {b:Nat} (o:kr b h e aY v rows) (x:EX h h'):kr b h' e aY v rows:=o.ep fun d _ hv _=>x.2 d (o.lt hv).2.1
theorem kr.kp {b:Nat} {p:Value→Bool} (o:kr b h e aY v rows) (hp:∀c r,rows.flatten=c::r→p c=false) (lI:∀d,d<h.length→(∀n,v≠sl e d 0 n)→h'[d]?=h[d]?):KP p h h':=by
 intro d c r h1 h2
 have hd:d<h.length:=by
  apply byContradiction
  intro cJ
  rw [aP,List.getElem?_eq_none (by omega)] at h1
  cases h1
 have bp:∀n,v≠sl e d 0 n:=by
  intro n hv
  have:=(o.lt hv).2.2
  simp only [aP,this] at h1
  cases BW:rows.flatten with
  | nil=>rw [BW] at h1;cases h1
  | cons y ys=>
   rw [BW] at h1
   cases h1
   rw [hp _ _ BW] at h2
   cases h2
 simp only [aP,lI d hd bp] at h1⊢
 exact h1
theorem kr.app {h0:ae} {bytes:Nat} {x:Value} {row zs:List Value} {K:Value→ae→Prop} (o:kr h0.length h e aY v rows) (hex:EX h0 h) (hz:zs.length=aY) (h1:gr x=true) (h2:cW x=row) (hr:row.length=aY)
  (hb:(rows.length+1)*bytes≤140737488355328) (hm:rows.length+1≤maxLen)
  (hk:∀v' h',EX h0 h'→(∀d,d<h.length→(∀n,v≠sl e d 0 n)→h'[d]?=h[d]?)→kr h0.length h' e aY v' (rows++[row])→K v' h'):
  OH (dK e 1 zs h [(0,aY,x)]) fun a h2=>OH (dY e aY bytes h2 v a) K:=by
 have hw:∀r∈rows++[row],r.length=aY:=by
  intro r qR
  rcases mem_append.1 qR with qR | qR
  ·exact o.1 r qR
  ·rw [mem_singleton.1 qR];exact hr
 have e1:dK e 1 zs h [(0,aY,x)]=some (sl e h.length 0 1,h++[.arr e row]):=by
  have Al:gY zs 1=zs:=by simp [gY]
  have hs:setAt zs 0 row=row:=by
   unfold setAt
   rw [List.take_zero,List.nil_append,List.drop_eq_nil_of_le (by omega),append_nil]
  simp only [dK,Al,rQ,h1,h2,hs]
  rw [if_pos ⟨trivial,hr,by omega⟩]
  rfl
 rw [e1]
 simp only [aA]
 have e2:lh (h++[.arr e row]) aY (sl e h.length 0 1)=some row:=by
  simp [lh,sl,aP,hr]
  rw [←hr,take_length]
 have e3:qq (sl e h.length 0 1)=some 1:=rfl
 rcases o.2 with ⟨rfl,rfl⟩ | ⟨i,hi,rfl,bX⟩
 ·refine GX (v:=sl e (h.length+1) 0 1) (h:=h++[.arr e row]++[.arr e row]) ?_ (hk _ _ ((hex.push _).push _) (fun d hd _=>by rw [getElem?_append_left (by simp;omega),getElem?_append_left hd]) ⟨hw,.inr ⟨h.length+1,by have:=hex.1;omega,rfl,by simp⟩⟩)
  have kR:1*bytes≤140737488355328:=by simpa using hb
  have gp:1≤maxLen:=by simpa using hm
  simp only [dY,e2,e3]
  rw [if_neg (by omega),if_pos ⟨kR,gp⟩]
  simp
 ·have aD:=(bL bX).1
  have hg:(h++[.arr e row])[i]?=some (.arr e rows.flatten):=by rw [getElem?_append_left aD];exact bX
  refine GX (v:=sl e (h.length+1) 0 (rows.length+1)) (h:=(h++[aj.arr e row]).set i aj.dead++[aj.arr e (rows.flatten++row)]) ?_
   (hk _ _ (((hex.push _).set hi _).push _) (fun d hd bp=>?_) ⟨hw,.inr ⟨h.length+1,by have:=hex.1;omega,by simp,?_⟩⟩)
  ·simp only [dY,e2,e3]
   simp only [sl,hg]
   rw [if_pos ⟨trivial,trivial,I8 o.1,hb,hm⟩,if_neg (by omega)]
   simp
  ·have nS:i≠d:=by rintro rfl;exact bp _ rfl
   rw [getElem?_append_left (by simp;omega),getElem?_set_ne nS,getElem?_append_left hd]
  ·rw [getElem?_append_right (by simp)]
   simp
end
end
end Go.Sim
namespace Go.Proofs.YtelmdbpaoifmoaaGreat
open Go.Sim
section
/-- Fractions in memory. -/
def rK (h:ae) (v:Value) (qs:List (Int×Int)):Prop:=
 ∃rows,RS h 107 4 v rows∧rows.length=qs.length∧∀(k:Nat) (row:List Value) (q:Int×Int),rows[k]?=some row→qs[k]?=some q→iB h (.agg row.toArray) q.1 q.2
theorem rK.mono {h h':ae} {v:Value} {qs:List (Int×Int)} (x:EX h h') (p:rK h v qs):rK h' v qs:=
 let ⟨rows,a,b,c⟩:=p;⟨rows,a.mono x,b,fun k row q h1 h2=>(c k row q h1 h2).mono x⟩
theorem rK.len {h:ae} {v:Value} {qs:List (Int×Int)} (p:rK h v qs):bj v=some (I qs.length):=by
 obtain ⟨rows,a,b,_⟩:=p;rw [←b];exact a.len
theorem rK.get {h:ae} {v:Value} {qs:List (Int×Int)} (p:rK h v qs) {k:Nat} (hk:k<qs.length):∃i o r,bf 4 v (I k)=some (pt i o)∧af true 4 h (pt i o)=some r∧iB h r qs[k].1 qs[k].2:=by
 obtain ⟨rows,a,b,c⟩:=p
 have cj:k<rows.length:=by omega
 obtain ⟨i,o,cs,g1,g2,g3,g4⟩:=a.get cj
 exact ⟨i,o,_,g1,VY g2 g3 g4,c k _ _ (getElem?_eq_getElem cj) (getElem?_eq_getElem hk)⟩
def uL:Value→Bool
 | .int .u32 _=>true
 | _=>false
theorem DSw.ep {e:TypeId} {h h':ae} {v:Value} {xs:List Nat} (x:KP uL h h') (p:DS e .u32 h v xs):DS e .u32 h' v xs:=by
 refine p.imp id fun ⟨i,a,b⟩=>⟨i,a,?_⟩
 cases xs with
 | nil=>exact .inl rfl
 | cons y ys=>
  obtain ⟨r,c⟩:=b.resolve_left (by simp)
  exact .inr ⟨r,x i _ _ c rfl⟩
theorem dJ.ep {h h':ae} {v:Value} {n:Nat} (x:KP uL h h') (p:dJ h v n):dJ h' v n:=let ⟨xs,a,b,c⟩:=p;⟨xs,DSw.ep x a,b,c⟩
theorem iB.ep {h h':ae} {v:Value} {a b:Int} (x:KP uL h h') (p:iB h v a b):iB h' v a b:=let ⟨u,w,e,m,n⟩:=p;⟨u,w,e,m.ep x,n.ep x⟩
theorem iB.cells {h:ae} {v:Value} {a b:Int} (p:iB h v a b):gr v=true∧∃s u t w,v=.agg #[B s,u,B t,w]∧cW v=[B s,u,B t,w]:=by
 obtain ⟨u,w,rfl,_⟩:=p
 exact ⟨rfl,_,_,_,_,rfl,rfl⟩
/-- Fractions that are being gathered. -/
def oB (b:Nat) (h:ae) (v:Value) (qs:List (Int×Int)):Prop:=
 ∃rows,kr b h 107 4 v rows∧rows.length=qs.length∧(∀r∈rows,∃s t,r=.bool s::t)∧∀(k:Nat) (row:List Value) (q:Int×Int),rows[k]?=some row→qs[k]?=some q→iB h (.agg row.toArray) q.1 q.2
theorem oB.start (b:Nat) (h:ae):oB b h (.slice none 0 0) []:=⟨[],kr.start ..,rfl,fun r hr=>by simp at hr,fun k r q h=>by simp at h⟩
theorem oB.aEq {b:Nat} {h:ae} {v:Value} {qs:List (Int×Int)} (o:oB b h v qs):rK h v qs:=let ⟨rows,a,c,_,d⟩:=o;⟨rows,a.rs,c,d⟩
theorem oB.ex {b:Nat} {h h':ae} {v:Value} {qs:List (Int×Int)} (x:EX h h') (o:oB b h v qs):oB b h' v qs:=
 let ⟨rows,a,c,e,d⟩:=o;⟨rows,a.ex x,c,e,fun k r q h1 h2=>(d k r q h1 h2).mono x⟩
theorem awP {rows:List (List Value)} (h:∀r∈rows,∃s t,r=.bool s::t):∀c r,rows.flatten=c::r→uL c=false:=by
 intro c r hc
 cases rows with
 | nil=>simp at hc
 | cons x xs=>
  obtain ⟨s,t,rfl⟩:=h x (by simp)
  simp at hc
  rw [←hc.1];rfl
theorem oB.app {h0 h:ae} {v x:Value} {a b:Int} {qs:List (Int×Int)} {zs:List Value} {K:Value→ae→Prop} (o:oB h0.length h v qs) (hex:EX h0 h) (hx:iB h x a b) (hz:zs.length=4) (hl:qs.length≤10000)
  (hk:∀v' h',EX h0 h'→KP uL h h'→oB h0.length h' v' (qs++[(a,b)])→K v' h'):OH (dK 107 1 zs h [(0,4,x)]) fun y h2=>OH (dY 107 4 64 h2 v y) K:=by
 obtain ⟨rows,o1,o2,o3,o4⟩:=o
 obtain ⟨t1,s,u,t,w,e1,e2⟩:=hx.cells
 refine o1.app hex hz t1 e2 rfl (by omega) (by simp [maxLen];omega) ?_
 intro v' h' x' lI o'
 have kp:KP uL h h':=o1.kp (awP o3) lI
 refine hk v' h' x' kp ⟨_,o',by simp [o2],fun r hr=>?_,fun k row q h1 h2=>?_⟩
 ·rcases mem_append.1 hr with hr | hr
  ·exact o3 r hr
  ·rw [mem_singleton.1 hr];exact ⟨s,_,rfl⟩
 ·by_cases hk:k<rows.length
  ·rw [getElem?_append_left hk] at h1
   rw [getElem?_append_left (by omega)] at h2
   exact (o4 k row q h1 h2).ep kp
  ·rw [getElem?_append_right (by omega)] at h1
   rw [getElem?_append_right (by omega),←o2] at h2
   have h0:k-rows.length=0:=by
    have:=(bL h1).1
    simp at this;omega
   rw [h0] at h1 h2
   simp only [List.getElem?_cons_zero,Option.some.injEq] at h1 h2
   subst h1 h2
   rw [←e1]
   exact hx.ep kp
end
section
theorem XB {s:List UInt8} {h:ae} {K:Value→ae→Prop} (hl:s.length≤700)
  (hk:∀n d,ke s=some (n,d)→∀r h',EX h h'→QZ h' r n d→K (.tuple #[r,B true]) h')
  (eK:ke s=none→∀h',EX h h'→K (.tuple #[sN,B false]) h'):ak prog 67 [S s] h K:=by
 refine f67 ?_
 have e1:aV 37 [(.bool false),(.slice none 0 0),(.bool false),(.slice none 0 0)] h=some (pt h.length 0,h++[.arr 37 z4]):=rfl
 have x1:EX h (h++[.arr 37 z4]):=EX.append _ _
 simp only [OK,e1,aA,mf,ah,fG,aS (show ¬(s.length:Int)>8002 by omega),dF,aDh]
 by_cases h0:s.length=0
 ·have e:s=[]:=List.length_eq_zero_iff.1 h0
  subst e
  rw [aS (show ¬((([]:List UInt8).length:Int)>0) by simp)]
  simp only [kL,amz,cK,ah,dF]
  exact MB (m:=false) hl x1 (le_refl _) bn (fun n d hp=>hk n d hp) (fun hp=>eK hp)
 ·rw [aU (show (s.length:Int)>0 by omega)]
  have ix:=wD (a:=s) (i:=0) (by omega) .i64
  simp only [Int.natCast_zero] at ix
  have hh:s.head?=some (s[0]'(by omega)):=by rw [List.head?_eq_getElem?,getElem?_eq_getElem (by omega)]
  have e5:ai .eql (cv (s[0]'(by omega))) (.int .u8 45)=some (B (decide (((s[0]'(by omega)).toNat:Int)=45))):=rfl
  simp only [jm,ix,ah,e5,amz,dZ,bR]
  refine ⟨fun hm=>?_,fun hm=>?_⟩
  ·have gp:s[0]'(by omega)=45:=by apply UInt8.toNat_inj.1;show (s[0]'(by omega)).toNat=45;omega
   have hp:ke s=ru true s.tail:=by unfold ke;rw [if_pos (by rw [hh,gp])]
   have sl:=CS (a:=s) (n:=1) (by omega) .i64
   have sl':lK (S s) (some (.int .i64 1)) none=some (S s.tail):=by rw [←List.drop_one];exact sl
   simp only [sl',ah]
   refine MB (m:=true) (by rw [List.length_tail];omega) x1 (le_refl _) bn (fun n d hq=>hk n d (by rw [hp];exact hq)) (fun hq=>eK (by rw [hp];exact hq))
  ·have gp:s[0]'(by omega)≠45:=by intro h;rw [h] at hm;exact hm rfl
   have hp:ke s=ru false s:=by unfold ke;rw [if_neg (by rw [hh];intro h;injection h with h;exact gp h)]
   exact MB (m:=false) hl x1 (le_refl _) bn (fun n d hq=>hk n d (by rw [hp];exact hq)) (fun hq=>eK (by rw [hp];exact hq))
theorem aol {s:List UInt8} {n:Int} {d:Nat} {h:ae} {K:Value→ae→Prop} (hl:s.length≤700) (hp:ke s=some (n,d)) (hk:∀r h',EX h h'→QZ h' r n d→K r h'):ak prog 28 [S s] h K:=by
 refine f28 ?_
 have e1:∀g:ae,aV 37 [(.bool false),(.slice none 0 0),(.bool false),(.slice none 0 0)] g=some (pt g.length 0,g++[.arr 37 z4]):=fun _=>rfl
 simp only [Ot,e1,aA]
 refine XB hl (fun n' d' zY r h1 x1 q1=>?_) (fun zY=>by rw [hp] at zY;cases zY)
 rw [hp] at zY
 obtain ⟨rfl,rfl⟩:n=n'∧d=d':=by injection zY with zY;injection zY with a b;exact ⟨a,b⟩
 obtain ⟨u,w,rfl,hu,hw⟩:=id q1
 have g1:=x1.get (bn (h:=h) (o:=.arr 37 z4))
 simp only [dX,eD,eI,ah]
 rw [oa bn]
 simp only [aA]
 rw [iH (ck bn)]
 simp only [ah]
 have x2:EX h1 ((h1++[aj.arr 37 z4]).set h1.length (.arr 37 [B (decide (n<0)),u,B (decide ((d:Int)<0)),w])):=EX.set (EX.append _ _) (le_refl _) _
 have g2:=x2.get g1
 have xA:=((EX.append h [.arr 37 z4]).trans x1).trans x2
 refine rR g2 (hk _ _ (xA.set (le_refl _) _) ?_)
 exact (q1.mono x2).bM g2 _
theorem C24 {s:List UInt8} {h:ae} {K:Value→ae→Prop} (hl:s.length≤700) (hk:∀h',EX h h'→K (B (ke s).isSome) h'):ak prog 24 [S s] h K:=by
 refine f24 ?_
 have e1:∀g:ae,aV 37 [(.bool false),(.slice none 0 0),(.bool false),(.slice none 0 0)] g=some (pt g.length 0,g++[.arr 37 z4]):=fun _=>rfl
 unfold Om
 refine XB hl (fun n d hp r h1 x1 q1=>?_) (fun hp h1 x1=>?_)
 ·obtain ⟨u,w,rfl,hu,hw⟩:=q1
  simp only [dX,eD,eI,ah,e1,aA]
  rw [oa bn]
  simp only [aA]
  rw [hp] at hk
  exact hk _ (x1.trans (EX.set (EX.append _ _) (le_refl _) _))
 ·simp only [dX,eD,eI,ah,e1,aA]
  have st:=oa (x:=B false) (y:=.slice none 0 0) (z:=B false) (w:=.slice none 0 0) (bn (h:=h1) (o:=.arr 37 z4))
  have st':aF 4 (h1++[.arr 37 z4]) (pt h1.length 0) sN=_:=st
  rw [st']
  simp only [aA]
  rw [hp] at hk
  exact hk _ (x1.trans (EX.set (EX.append _ _) (le_refl _) _))
end
section
end
section
theorem PL.AJ {h h':ae} {p:Value} {js:List (Int×Int)} {bs:List Nat} (x:CX h h') (q:PL h p js bs):PL h' p js bs:=
 let ⟨i,vj,vb,a,b,c,d⟩:=q;⟨i,vj,vb,a,x _ _ b,c.AJ x,NS.AJ x d⟩
theorem BO (k:Int) (v:Value) (k':Int):∀es:List (Int×Value),gS k' (oR k v es)=if k'=k then some v else gS k' es
 | []=>by simp [oR,gS]
 | (k1,v1)::es=>by
  simp only [oR]
  by_cases h:k=k1
  ·subst h
   simp only [if_true,gS]
   by_cases h2:k'=k <;> simp [h2]
  ·rw [if_neg h]
   simp only [gS,BO k v k' es]
   by_cases h2:k'=k1
   ·subst h2
    rw [if_pos rfl,if_pos rfl,if_neg (fun h3=>h h3.symm)]
   ·rw [if_neg h2,if_neg h2]
section
variable (js : List (Int × Int)) (bs : List Nat) (n : Nat)
structure Bs (es:List (Int×Value)):Prop where
 val:∀s v,gS s es=some v→∃t:Nat,s=t∧t<2^n∧v=I (fe bs js n t)
 full:(gS (bE n:Nat) es).isSome=true
 next:∀s:Nat,s<bE n→(gS (s:Int) es).isSome=true→∀i,i<n→iJ bs s i=true→(gS ((s ||| 2^i:Nat):Int) es).isSome=true
def sU (es kB:List (Int×Value)):Prop:=∀k,(gS k es).isSome=true→(gS k kB).isSome=true
end
theorem sU.refl (es:List (Int×Value)):sU es es:=fun _ h=>h
theorem sU.trans {a b c:List (Int×Value)} (h:sU a b) (k:sU b c):sU a c:=fun x hx=>k x (h x hx)
theorem Bs.look {js:List (Int×Int)} {bs:List Nat} {n:Nat} {es:List (Int×Value)} (m:Bs js bs n es) {s:Nat} (h:(gS (s:Int) es).isSome=true):gS (s:Int) es=some (I (fe bs js n s)):=by
 obtain ⟨v,hv⟩:=Option.isSome_iff_exists.1 h
 obtain ⟨t,h1,_,h2⟩:=m.val _ _ hv
 have:s=t:=by omega
 subst this
 rw [hv,h2]
theorem agt {g:ae} {im:Nat} {es:List (Int×Value)} (hg:g[im]?=some (.fm .u16 es)) (s:Nat):yk .u16 true (.int .i64 0) g (.map (some im)) (U s)=some (.tuple #[(gS (s:Int) es).getD (I 0),B (gS (s:Int) es).isSome]):=by
 simp [yk,hg]
theorem agu {g:ae} {im:Nat} {es:List (Int×Value)} (hg:g[im]?=some (.fm .u16 es)) (s:Nat):yk .u16 false (.int .i64 0) g (.map (some im)) (U s)=some ((gS (s:Int) es).getD (I 0)):=by
 simp [yk,hg]
theorem anG {g:ae} {im:Nat} {es:List (Int×Value)} (hg:g[im]?=some (.fm .u16 es)) (s:Nat) (v:Value):TQ .u16 g (.map (some im)) (U s) v=some (undef,g.set im (.fm .u16 (oR s v es))):=by
 simp [TQ,E6,hg]
theorem aiV:pP prog 97=true:=by kernel_rfl
structure Dl (im ox px cx:Nat) (p:Value) (js:List (Int×Int)) (bs:List Nat) (h:ae):Prop where
 o:aP h ox=some [.map (some im)]
 q:aP h px=some [p]
 c:aP h cx=some [.func (.func 97) #[] #[pt ox 0,pt px 0,pt cx 0]]
 pl:PL h p js bs
theorem Dl.mono {im ox px cx:Nat} {p:Value} {js:List (Int×Int)} {bs:List Nat} {h h':ae} (k:CX h h') (e:Dl im ox px cx p js bs h):Dl im ox px cx p js bs h':=
 ⟨k _ _ e.o,k _ _ e.q,k _ _ e.c,e.pl.AJ k⟩
theorem C97 {im ox px cx:Nat} {p:Value} {js:List (Int×Int)} {bs:List Nat} {n:Nat} (hn:js.length=n) (JG:n≤10) (lJ:nZ js) (uB:bs.length=n) (hb:∀b∈bs,b<2^n) (hu:vI bs n):
  ∀(f s:Nat),bE n-s≤f→s<2^n→∀{h:ae} {es:List (Int×Value)} {K:Value→ae→Prop},Dl im ox px cx p js bs h→h[im]?=some (.fm .u16 es)→Bs js bs n es→
  (∀h' kB,XM im h h'→h'[im]?=some (.fm .u16 kB)→Bs js bs n kB→sU es kB→(gS (s:Int) kB).isSome=true→K (I (fe bs js n s)) h')→
  ak prog 97 [U s,pt ox 0,pt px 0,pt cx 0] h K:=by
 have xL:(2:Nat)^n≤2^10:=pow_le_pow_right (by decide) JG
 have zz:∀b∈bs,b<1024:=fun b h=>lt_of_lt_of_le (hb b h) xL
 have tw:uY js:=lJ.all
 intro f
 induction f with
 | zero=>
  intro s hf hs h es K env hm ok hk
  have Sx:s=bE n:=by unfold bE at*;omega
  have EA:=ok.full
  rw [←Sx] at EA
  refine f97 ?_
  simp only [T97,sC env.o,ah,agt hm,ok.look EA,dX,eD,eI,getD_some,Option.isSome_some,c8]
  exact hk h es (XM.refl _ _) hm ok (sU.refl _) EA
 | succ f ih=>
  intro s hf hs h es K env hm ok hk
  refine f97 ?_
  simp only [T97,sC env.o,ah,agt hm,dX,eD,eI]
  refine tY (fun fc=>?_) fun ae6=>?_
  ·rw [ok.look fc,getD_some]
   exact hk h es (XM.refl _ _) hm ok (sU.refl _) fc
  ·have tz:s<bE n:=by
    rcases Nat.lt_or_ge s (bE n) with h1 | h1
    ·exact h1
    ·have:s=bE n:=by unfold bE at*;omega
     rw [this,ok.full] at ae6
     cases ae6
   simp only [sC env.q,ah]
   refine Gt env.pl lJ (by omega) (by rw [hn];exact hs) ?_
   intro g xg
   have x0:XM im h g:=XM.ex xg
   have JE:=xg.get hm
   have I0:=env.mono (x0.cx hm)
   obtain ⟨a,vj,vb,rfl,hc,Cc,iW⟩:=I0.pl
   have ldj:af false 1 g (pt a 0)=some vj:=by simp [af,hc,b9]
   have R8:rD js (cD s 10)=eO js s:=by
    have:∀m,cD s m=ka s m:=by
     intro m
     induction m with
     | zero=>rfl
     | succ m ih=>simp only [cD,ka,ih]
    unfold rD eO
    rw [this];rfl
   simp only [sC I0.q,ah,AM,bU,add_zero,ldj,Cc.len,hn,R8]
   have tq:=TO tw s
   refine dj (σ:=Nat×List (Int×Value)×ae) (fun q=>[I (jO bs js s (fun i=>fe bs js n (s ||| 2^i)) q.1),I q.1]) (fun q=>q.2.2)
    (fun q=>q.1≤n∧XM im g q.2.2∧q.2.2[im]?=some (.fm .u16 q.2.1)∧Bs js bs n q.2.1∧sU es q.2.1∧∀i,i<q.1→iJ bs s i=true→(gS ((s ||| 2^i:Nat):Int) q.2.1).isSome=true) (fun q=>n-q.1)
    (0,es,g) rfl rfl ⟨zero_le _,XM.refl _ _,JE,ok,sU.refl _,fun i hi=>by omega⟩ ?_
   rintro ⟨i,es1,g1⟩ ⟨hi,x1,xW,CG,Ka,JJ⟩ L hL
   simp only at hi x1 xW CG Ka JJ hL⊢
   have aws:=I0.mono (x1.cx JE)
   rw [aHB]
   simp only [cA,ah,bR]
   refine ⟨fun aD=>?_,fun cJ=>?_⟩
   ·have fc:i<n:=by omega
    have hjL:i<js.length:=by omega
    have axH:=Cc.AJ (x1.cx JE)
    obtain ⟨b,o,r1,r2,r3,r4⟩:=PS.getD axH hjL
    have Eb:∀g:ae,aV 46 [(.int .i64 (0)),(.int .i64 (0))] g=some (pt g.length 0,g++[.arr 46 [I 0,I 0]]):=fun _=>rfl
    have rC:∀(g:ae) (t:TypeId) (a b:Int),aF 2 (g++[.arr t [I 0,I 0]]) (pt g.length 0) (.agg #[I a,I b])=some (undef,g++[.arr t [I a,I b]]):=by
     intro g t a b
     simp [aF,q9,gr,cW,Value.cells,setAt]
    simp only [r1,ah]
    rw [r4]
    simp only [ah,Eb,aA,rC]
    have l0:af false 1 (g1++[aj.arr 46 [I (js.getD i (0,0)).1,I (js.getD i (0,0)).2]]) (pt g1.length 0)=some (I (js.getD i (0,0)).1):=mV rfl
    have l1:af false 1 (g1++[aj.arr 46 [I (js.getD i (0,0)).1,I (js.getD i (0,0)).2]]) (pt g1.length 1)=some (I (js.getD i (0,0)).2):=mV rfl
    have xp:EX g1 (g1++[aj.arr 46 [I (js.getD i (0,0)).1,I (js.getD i (0,0)).2]]):=EX.append _ _
    have xV:(js.getD i (0,0)).1=di js i:=rfl
    have SG:(js.getD i (0,0)).2=fJ js i:=rfl
    rw [xV,SG] at l0 l1 xp⊢
    generalize hg2:g1++[aj.arr 46 [I (di js i),I (fJ js i)]]=g2 at l0 l1 xp⊢
    have x2:XM im g g2:=x1.trans (XM.ex xp)
    have qM:=xp.get xW
    have IZ:=I0.mono (x2.cx JE)
    simp only [sC IZ.q,ah]
    refine MA IZ.pl (by omega) (by omega) (by omega) zz ?_
    rw [VR]
    simp only [oc,ah]
    cases hr:iJ bs s i with
    | false=>
     simp only [Bool.not_false,c8]
     rw [aEg]
     simp only [cf,ah,eR i (by omega),true_and]
     have iW:jO bs js s (fun i=>fe bs js n (s ||| 2^i)) (i+1)=jO bs js s (fun i=>fe bs js n (s ||| 2^i)) i:=by
      simp [jO,hr]
     have:=hL (i+1,es1,g2) ⟨by show i+1≤n;omega,x2,qM,CG,Ka,fun j hj uH=>by
      by_cases EE:j=i
      ·subst EE;rw [hr] at uH;cases uH
      ·exact JJ j (by show j<i;simp only at hj;omega) uH⟩ (by show n-(i+1)<n-i;omega)
     simp only [iW] at this
     exact this
    | true=>
     have zZ:(2:Nat)^i<1024:=lt_of_lt_of_le (Nat.pow_lt_pow_right (by decide) (show i<10 by omega)) (by decide)
     have hlw:=tw i
     have xN:=Iu tw s i
     have Ai:IntKind.wrap .i64 (eO js s+di js i)=eO js s+di js i:=wrap64 (by omega) (by omega)
     have mS:IntKind.wrap .i64 (fJ js i*(eO js s+di js i))=fJ js i*(eO js s+di js i):=wrap64 (by omega) (by omega)
     have jZ:=tN hs fc
     have rY:=Fk (wQ hr)
     simp only [Bool.not_true,dF,bU,add_zero,zero_add,l0,l1,ah,cf,Ai,ue,mS,sC IZ.c,F5 mX (show i<11 by omega),CH mX (show s<1024 by omega) zZ,true_and]
     refine DV aiV ?_
     refine ih (s ||| 2^i) (by unfold bE at*;omega) jZ IZ qM CG ?_
     intro g3 es3 x3 qg TV km3 RM
     have cx3:=x3.cx qM
     have l0':=cx3.load l0
     have l1':=cx3.load l1
     have RY:=Km tw JG hu jZ
     have oM:IntKind.wrap .i64 (fJ js i*(eO js s+di js i)+fe bs js n (s ||| 2^i))=fJ js i*(eO js s+di js i)+fe bs js n (s ||| 2^i):=wrap64 (by omega) (by omega)
     simp only [l0',l1',true_and,cf,ah,oM]
     have go:∀Pu:Int,jO bs js s (fun i=>fe bs js n (s ||| 2^i)) (i+1)=Pu→aHo prog K (U s) (pt ox 0) (pt px 0) (pt cx 0) (I Pu) (I (eO js s)) vj (I n) (I i) L g3:=by
      intro Pu axg
      rw [aEg]
      simp only [cf,ah,eR i (by omega),true_and]
      have:=hL (i+1,es3,g3) ⟨by show i+1≤n;omega,x2.trans x3,qg,TV,Ka.trans km3,fun j hj uH=>by
       by_cases EE:j=i
       ·subst EE;exact RM
       ·exact km3 _ (JJ j (by show j<i;simp only at hj;omega) uH)⟩ (by show n-(i+1)<n-i;omega)
      simp only [axg] at this
      exact this
     rw [aHC]
     by_cases gG:jO bs js s (fun i=>fe bs js n (s ||| 2^i)) i<0
     ·rw [aU gG]
      simp only [fw,aEf,dZ,ah,c8]
      exact go _ (by simp only [jO,hr,if_true];rw [if_pos (.inl gG)])
     ·rw [aS gG]
      simp only [dR,cA,ah,aEf,cK,bR]
      refine ⟨fun hl=>go _ ?_,fun hl=>go _ ?_⟩
      ·simp only [jO,hr,if_true];rw [if_pos (.inr hl)]
      ·simp only [jO,hr,if_true];rw [if_neg (fun h9=>h9.elim gG hl)]
   ·have fH:i=n:=by omega
    subst fH
    rw [aHD]
    simp only [sC aws.o,ah,anG xW,aA,←agP bs js i tz]
    refine hk _ (oR (s:Int) (I (fe bs js i s)) es1) (x0.trans (x1.set _)) (ck xW) ⟨?_,?_,?_⟩ ?_ ?_
    ·intro s' v' hv
     rw [BO] at hv
     by_cases he:s'=s
     ·rw [if_pos he] at hv
      injection hv with hv
      exact ⟨s,he,hs,hv.symm⟩
     ·rw [if_neg he] at hv
      exact CG.val _ _ hv
    ·rw [BO]
     split
     ·rfl
     ·exact CG.full
    ·intro s' dT RL j hj uH
     rw [BO] at RL⊢
     split
     ·rfl
     ·by_cases he:s'=s
      ·subst he;exact JJ j hj uH
      ·rw [if_neg (by omega)] at RL
       exact CG.next s' dT RL j hj uH
    ·intro k qJ
     rw [BO]
     split
     ·rfl
     ·exact Ka k qJ
    ·rw [BO,if_pos rfl];rfl
end
end Go.Proofs.YtelmdbpaoifmoaaGreat
namespace Go.Sim
section
def gC (bs:List Nat) (js:List (Int×Int)) (n s i:Nat):Int:=fJ js i*(eO js s+di js i)+fe bs js n (s ||| 2^i)
def mG (bs:List Nat) (js:List (Int×Int)) (n:Nat):Nat→List Nat→Prop
 | s,[]=>s=bE n
 | s,i::l=>((i<n∧iJ bs s i=true)∧gC bs js n s i=fe bs js n s∧∀j,j<i→¬(iJ bs s j=true∧gC bs js n s j=fe bs js n s))∧mG bs js n (s ||| 2^i) l
theorem amR {bs:List Nat} {n i:Nat} (hi:i<n):iJ bs (bE n) i=false:=by
 unfold iJ
 rw [vS,aU hi];rfl
theorem mG.uniq {bs:List Nat} {js:List (Int×Int)} {n:Nat}:∀{l l':List Nat} {s:Nat},mG bs js n s l→mG bs js n s l'→l=l'
 | [],[],_,_,_=>rfl
 | [],i::l',s,h,k=>by
  have h':s=bE n:=h
  subst h'
  have:=k.1.1.2
  rw [amR k.1.1.1] at this
  cases this
 | i::l,[],s,h,k=>by
  have k':s=bE n:=k
  subst k'
  have:=h.1.1.2
  rw [amR h.1.1.1] at this
  cases this
 | i::l,i'::l',s,h,k=>by
  have e:i=i':=by
   rcases Nat.lt_trichotomy i i' with aD | he | rY
   ·exact absurd ⟨h.1.1.2,h.1.2.1⟩ (k.1.2.2 i aD)
   ·exact he
   ·exact absurd ⟨k.1.1.2,k.1.2.1⟩ (h.1.2.2 i' rY)
  subst e
  rw [mG.uniq h.2 k.2]
theorem mG.ok {bs:List Nat} {js:List (Int×Int)} {n:Nat} (hn:n≤10):∀{l:List Nat} {s:Nat},mG bs js n s l→jL bs n s l=true∧fI s l=bE n∧kO js (eO js s) l=fe bs js n s
 | [],s,h=>by
  have h':s=bE n:=h
  subst h'
  exact ⟨rfl,rfl,by rw [Kn];rfl⟩
 | i::l,s,h=>by
  obtain ⟨⟨⟨h1,h2⟩,h3,_⟩,h4⟩:=h
  obtain ⟨a,b,c⟩:=mG.ok hn h4
  refine ⟨?_,b,?_⟩
  ·simp only [jL,a,h2,h1,decide_true,Bool.and_self]
  ·have e:=Kv js (show i<10 by omega) (wQ h2)
   have BX:fJ js i*(eO js s+di js i)+fe bs js n (s ||| 2^i)=fe bs js n s:=h3
   simp only [kO]
   rw [←e] at BX⊢
   rw [c]
   exact BX
theorem mG.split {bs:List Nat} {js:List (Int×Int)} {n:Nat}:∀{a b:List Nat} {s:Nat},mG bs js n s (a++b)→mG bs js n (fI s a) b
 | [],_,_,h=>h
 | i::a,b,s,h=>mG.split (a:=a) (b:=b) (s:=s ||| 2^i) h.2
end
end Go.Sim
namespace Go.Proofs.YtelmdbpaoifmoaaGreat
open Go.Sim
section
theorem C60 {p:Value} {js:List (Int×Int)} {bs:List Nat} {n:Nat} {h:ae} {K:Value→ae→Prop} (hp:PL h p js bs) (hn:js.length=n) (JG:n≤10) (lJ:nZ js) (uB:bs.length=n) (hb:∀b∈bs,b<2^n) (hu:vI bs n)
  (hk:∀im es h',EX h h'→h'[im]?=some (.fm .u16 es)→Bs js bs n es→(gS ((0:Nat):Int) es).isSome=true→K (.map (some im)) h'):ak prog 60 [p] h K:=by
 have hpt:∃i,p=pt i 0:=let ⟨i,_,_,e,_⟩:=hp;⟨i,e⟩
 obtain ⟨i,rfl⟩:=hpt
 refine f60 ?_
 have bx:bm 125 h (pt i 0)=some (pt h.length 0,h++[.arr 125 [pt i 0]]):=rfl
 have mk:∀g:ae,ayF .u16 g=some (.map (some g.length),g++[.fm .u16 []]):=fun _=>rfl
 simp only [T60,bx,aA,mk]
 have k0:(h++[aj.arr 125 [pt i 0]]++[.fm .u16 []])[h.length]?=some (.arr 125 [pt i 0]):=by simp
 have k1:(h++[aj.arr 125 [pt i 0]]++[.fm .u16 []])[h.length+1]?=some (.fm .u16 []):=by simp
 have x1:EX h (h++[aj.arr 125 [pt i 0]]++[.fm .u16 []]):=(EX.append _ _).push _
 have e1:(h++[aj.arr 125 [pt i 0]]).length=h.length+1:=by simp
 have e2:(h++[aj.arr 125 [pt i 0]]++[aj.fm .u16 []]).length=h.length+2:=by simp
 rw [e1]
 generalize h++[aj.arr 125 [pt i 0]]++[.fm .u16 []]=g at k0 k1 x1 e2⊢
 have c0:aP g h.length=some [pt i 0]:=by simp [aP,k0]
 simp only [sC c0,ah]
 refine Dg (hp.mono x1) (by omega) ?_
 rw [hn,El]
 have SC:TQ .u16 g (.map (some (h.length+1))) (U (bE n)) (.int .i64 0)=some (undef,g.set (h.length+1) (.fm .u16 [((bE n:Nat),I 0)])):=anG k1 _ _
 simp only [SC,aA]
 have y2:EX h (g.set (h.length+1) (.fm .u16 [(((bE n:Nat):Int),I 0)])):=x1.set (by omega) _
 have m0:(g.set (h.length+1) (.fm .u16 [(((bE n:Nat):Int),I 0)]))[h.length]?=some (.arr 125 [pt i 0]):=by rw [getElem?_set_ne (by omega)];exact k0
 have m1:(g.set (h.length+1) (.fm .u16 [(((bE n:Nat):Int),I 0)]))[h.length+1]?=some (.fm .u16 [(((bE n:Nat):Int),I 0)]):=ck k1
 have ml:(g.set (h.length+1) (.fm .u16 [(((bE n:Nat):Int),I 0)])).length=h.length+2:=by rw [List.length_set];exact e2
 generalize g.set (h.length+1) (.fm .u16 [(((bE n:Nat):Int),I 0)])=g2 at y2 m0 m1 ml⊢
 have a72:∀g:ae,aV 128 [(.map none)] g=some (pt g.length 0,g++[.arr 128 [.map none]]):=fun _=>rfl
 have a74:∀g:ae,aV 133 [.nilFunc] g=some (pt g.length 0,g++[.arr 133 [.nilFunc]]):=fun _=>rfl
 have s72:aF 1 (g2++[aj.arr 128 [.map none]]) (pt (h.length+2) 0) (.map (some (h.length+1)))=some (undef,g2++[.arr 128 [.map (some (h.length+1))]]):=by
  rw [←ml];simp [aF,q9,gr,cW,Value.cells,setAt]
 simp only [a72,aA,ml,s72,a74,length_append,length_cons,List.length_nil,zero_add]
 have s74:∀v:Value,gr v=true→cW v=[v]→aF 1 (g2++[aj.arr 128 [.map (some (h.length+1))]]++[.arr 133 [.nilFunc]]) (pt (h.length+2+1) 0) v=some (undef,g2++[aj.arr 128 [.map (some (h.length+1))]]++[.arr 133 [v]]):=by
  intro v h1 h2
  have hl:(g2++[aj.arr 128 [.map (some (h.length+1))]]++[.arr 133 [.nilFunc]])[h.length+2+1]?=some (.arr 133 [.nilFunc]):=by
   have:h.length+2+1=(g2++[aj.arr 128 [.map (some (h.length+1))]]).length:=by simp [ml]
   rw [this];simp
  rw [oS hl (by simp) h1 h2]
  have:h.length+2+1=(g2++[aj.arr 128 [.map (some (h.length+1))]]).length:=by simp [ml]
  rw [this]
  simp
 rw [s74 _ rfl rfl]
 simp only [aA]
 have xx:EX g2 (g2++[aj.arr 128 [.map (some (h.length+1))]]++[.arr 133 [.func (.func 97) #[] #[pt (h.length+2) 0,pt h.length 0,pt (h.length+2+1) 0]]]):=(EX.append _ _).push _
 have n2:(g2++[aj.arr 128 [.map (some (h.length+1))]]++[.arr 133 [.func (.func 97) #[] #[pt (h.length+2) 0,pt h.length 0,pt (h.length+2+1) 0]]])[h.length+2]?=some (.arr 128 [.map (some (h.length+1))]):=by
  rw [←ml];simp
 have n3:(g2++[aj.arr 128 [.map (some (h.length+1))]]++[.arr 133 [.func (.func 97) #[] #[pt (h.length+2) 0,pt h.length 0,pt (h.length+2+1) 0]]])[h.length+2+1]?=some (.arr 133 [.func (.func 97) #[] #[pt (h.length+2) 0,pt h.length 0,pt (h.length+2+1) 0]]):=by
  have:h.length+2+1=(g2++[aj.arr 128 [.map (some (h.length+1))]]).length:=by simp [ml]
  rw [getElem?_append_right (by omega),this]
  simp
 generalize g2++[aj.arr 128 [.map (some (h.length+1))]]++[.arr 133 [.func (.func 97) #[] #[pt (h.length+2) 0,pt h.length 0,pt (h.length+2+1) 0]]]=g3 at xx n2 n3⊢
 have env:Dl (h.length+1) (h.length+2) h.length (h.length+2+1) (pt i 0) js bs g3:=by
  refine ⟨?_,?_,?_,hp.mono (y2.trans xx)⟩
  ·simp [aP,n2]
  ·simp [aP,xx.get m0]
  ·simp [aP,n3]
 simp only [sC env.c,ah]
 refine DV aiV ?_
 have hY:0<2^n:=pow_pos (by decide)
 refine C97 hn JG lJ uB hb hu (bE n) 0 (by omega) hY env (xx.get m1) ⟨?_,?_,?_⟩ ?_
 ·intro s v hv
  simp only [gS] at hv
  split at hv
  ·rename_i he
   injection hv with hv
   exact ⟨bE n,he,by unfold bE;omega,by rw [Kn];exact hv.symm⟩
  ·cases hv
 ·simp [gS]
 ·intro s hs fc
  simp only [gS] at fc
  rw [if_neg (by omega)] at fc
  cases fc
 ·intro h' kB x3 qg TV _ RM
  have awt:=env.mono (x3.cx (xx.get m1))
  simp only [sC awt.o,ah]
  refine hk _ kB h' ?_ qg TV RM
  refine ⟨Nat.le_trans (y2.trans xx).1 x3.1,fun d hd=>?_⟩
  rw [x3.2 d (lt_of_lt_of_le hd (y2.trans xx).1) (by omega)]
  exact (y2.trans xx).2 d hd
theorem IX {bs:List Nat} {n:Nat} (js:List (Int×Int)) (hn:n≤10):∀{l:List Nat} {s:Nat},jL bs n s l=true→uu js (eO js s) l=eO js (fI s l)
 | [],s,_=>rfl
 | i::l,s,h=>by
  simp only [jL,and_eq_true,decide_eq_true_eq] at h
  simp only [uu,fI]
  rw [←Kv js (show i<10 by omega) (wQ h.1.2)]
  exact IX js hn h.2
theorem agm {i:Nat} (hi:i<10):di (replicate 10 (1,0)) i=1:=by
 unfold di
 rw [List.getD_eq_getElem?_getD,List.getElem?_replicate,if_pos hi];rfl
theorem QJ:∀(l:List Nat) (x:Int),(∀i∈l,i<10)→uu (replicate 10 (1,0)) x l=x+l.length
 | [],x,_=>by simp [uu]
 | i::l,x,hx=>by
  have hi:i<10:=hx i (by simp)
  have e:=agm hi
  simp only [uu,e,QJ l _ fun j hj=>hx j (by simp [hj]),length_cons]
  omega
theorem aAD {bs:List Nat} {n:Nat} (hn:n≤10) {l:List Nat} (h:jL bs n 0 l=true):l.length≤10:=by
 have h1:=IX (replicate 10 (1,0)) hn h
 rw [Kw,QJ l 0 fun i hi=>lt_of_lt_of_le (AO h i hi) hn] at h1
 have h7:∀(s m:Nat),iR (ka s m) (di (replicate 10 (1,0)))≤m:=by
  intro s m
  induction m with
  | zero=>simp [ka,iR]
  | succ m ih=>
   have:di (replicate 10 (1,0)) m≤1:=by
    by_cases hm:m<10
    ·rw [agm hm];omega
    ·simp only [di,List.getD_eq_getElem?_getD]
     rw [List.getElem?_eq_none (by simp;omega)]
     simp
   simp only [ka]
   split
   ·simp only [A3,iR];omega
   ·omega
 have:=h7 (fI 0 l) 10
 unfold eO at h1
 omega
theorem aAE {bs:List Nat} {n:Nat} (hn:n≤10) {l:List Nat} (h:jL bs n 0 l=true) (hf:fI 0 l=bE n):l.length=n:=by
 have h1:=IX (replicate 10 (1,0)) hn h
 rw [hf,Kw] at h1
 rw [QJ l 0 fun i hi=>lt_of_lt_of_le (AO h i hi) hn] at h1
 have h3:∀n,n≤10→eO (replicate 10 (1,0)) (bE n)=n:=by
  intro n hn
  match n,hn with
  | 0,_=>decide
  | 1,_=>decide
  | 2,_=>decide
  | 3,_=>decide
  | 4,_=>decide
  | 5,_=>decide
  | 6,_=>decide
  | 7,_=>decide
  | 8,_=>decide
  | 9,_=>decide
  | 10,_=>decide
  | n+11,h=>omega
 rw [h3 n hn] at h1
 omega
theorem fy.ns {b:Nat} {g:ae} {v:Value} {l:List Nat} (o:fy b g 3 v (l.map fun i:Nat=>I i)) (hl:l.length≤1000):NS g v .i64 (l.map fun i:Nat=>(i:Int)):=by
 rcases o with ⟨h1,h2⟩ | ⟨a,_,h2,h3⟩
 ·have:l=[]:=by simpa using h2
  rw [this,h1]
  exact NS.nil g .i64
 ·rw [h2,List.length_map]
  have:=NS.sl (h:=g) (e:=3) (i:=a) (k:=.i64) (ns:=l.map fun i:Nat=>(i:Int)) (.inr (by simp [aP,h3])) (by simp [maxLen];omega)
  rw [List.length_map] at this
  exact this
theorem fy.base {b c:Nat} {hx:ae} {e:TypeId} {v:Value} {xs:List Value} (o:fy c hx e v xs) (h:b≤c):fy b hx e v xs:=by
 rcases o with o | ⟨i,h1,h2,h3⟩
 ·exact .inl o
 ·exact .inr ⟨i,by omega,h2,h3⟩
theorem Df {vj vp:Value} {js ps:List (Int×Int)} {h:ae} {K:Value→ae→Prop} (hj:PS h vj js) (hp:PS h vp ps) (mQ:js.length≤1000) (ax1:ps.length≤1000)
  (eK:u9 js ps=false→∀h',EX h h'→K (.tuple #[.slice none 0 0,I 0,I 1]) h')
  (hk:Vd js ps js.length (pf ps js.length)→u9 js ps=true→∀v h' l,EX h h'→fy h.length h' 3 v (l.map fun i:Nat=>I i)→mG (pf ps js.length) js js.length 0 l→l.length=js.length→K (.tuple #[v,I (kO js 0 l),I 0]) h'):ak prog 19 [vj,vp] h K:=by
 refine f19 (aot hj hp mQ ax1 (fun hv p g xg=>?_) (fun vd hv p g xg j6=>?_))
 ·simp only [dX,eD,eI,ah,oc,Bool.not_false,c8]
  exact eK hv g xg
 have hk:=hk vd hv
 have iW:=vd.is
 have kQ:=vd.n10
 have h1:=vd.n1
 have hu:=vd.ac
 have lJ:=vd.small
 clear vd
 generalize pf ps js.length=bs at*
 generalize hn:js.length=n at*
 have uB:=iW.len
 have tw:uY js:=lJ.all
 have xL:(2:Nat)^n≤2^10:=pow_le_pow_right (by decide) kQ
 have zz:∀b∈bs,b<1024:=fun b hb=>lt_of_lt_of_le (iW.lt b hb) xL
 have hY:0<2^n:=pow_pos (by decide)
 simp only [dX,eD,eI,ah,oc,Bool.not_true,dF]
 refine C60 j6 hn kQ lJ uB iW.lt hu ?_
 intro im es g2 iS hm ok aeF
 have hjg:=hj.mono (xg.trans iS)
 refine dj (σ:=List Nat×Value×ae) (fun q=>[q.2.1,U (fI 0 q.1)]) (fun q=>q.2.2)
  (fun q=>EX g2 q.2.2∧fy g2.length q.2.2 3 q.2.1 (q.1.map fun i:Nat=>I i)∧jL bs n 0 q.1=true∧(gS ((fI 0 q.1:Nat):Int) es).isSome=true∧kO js 0 q.1+fe bs js n (fI 0 q.1)=fe bs js n 0∧∀r,mG bs js n (fI 0 q.1) r→mG bs js n 0 (q.1++r)) (fun q=>2^n-fI 0 q.1)
  ([],.slice none 0 0,g2) rfl rfl ⟨EX.refl _,.inl ⟨rfl,rfl⟩,rfl,aeF,by simp [kO,fI],fun r hr=>hr⟩ ?_
 rintro ⟨l,v,g3⟩ ⟨x3,own,aE,fc,aeo,zN⟩ L hL
 simp only at x3 own aE fc aeo zN hL⊢
 have hs:fI 0 l<2^n:=ann hY (AO aE)
 have Sc:=(j6.mono iS).mono x3
 have qg:=x3.get hm
 have zL:=IX js kQ aE
 rw [Kw] at zL
 rw [aHq]
 refine Dg Sc (by omega) ?_
 rw [hn,El]
 have hbr:=Km tw kQ hu hY
 simp only [pO,ah]
 refine tY (fun bp=>?_) fun heq=>?_
 ·have bp:¬fI 0 l=bE n:=by
   intro he
   rw [he] at bp
   simp at bp
  have tz:fI 0 l<bE n:=by unfold bE at*;omega
  refine Gt Sc lJ (by omega) (by rw [hn];exact hs) ?_
  intro g4 yD
  have R8:rD js (cD (fI 0 l) 10)=eO js (fI 0 l):=by
   have:∀s m,cD s m=ka s m:=by
    intro s m
    induction m with
    | zero=>rfl
    | succ m ih=>simp only [cD,ka,ih]
   unfold rD eO
   rw [this];rfl
  rw [R8]
  have Ae:=agQ tw kQ hu tz
  generalize ER:fI 0 l=s at*
  have tq:=TO tw s
  simp only [hjg.len,ah,hn]
  refine dj (σ:=Nat×ae) (fun q=>[v,U s,I q.1]) (fun q=>q.2) (fun q=>q.1≤n∧EX g4 q.2∧∀i,i<q.1→¬(iJ bs s i=true∧fJ js i*(eO js s+di js i)+fe bs js n (s ||| 2^i)=fe bs js n s)) (fun q=>n-q.1) (0,g4) rfl rfl ⟨zero_le _,EX.refl _,fun i hi=>by omega⟩ ?_
  rintro ⟨i,g5⟩ ⟨hi,x5,dh⟩ L2 gj
  simp only at hi x5 dh gj⊢
  have cR:=yD.trans x5
  have Cf:=Sc.mono cR
  rw [aHr]
  simp only [cA,ah,bR]
  refine ⟨fun aD=>?_,fun cJ=>?_⟩
  ·have Jz:i<n:=by omega
   obtain ⟨b,o,r1,r2,r3,r4⟩:=PS.getD (hjg.mono (x3.trans cR)) (show i<js.length by omega)
   have Eb:∀g:ae,aV 46 [(.int .i64 (0)),(.int .i64 (0))] g=some (pt g.length 0,g++[.arr 46 [I 0,I 0]]):=fun _=>rfl
   have rC:∀(g:ae) (t:TypeId) (a b:Int),aF 2 (g++[.arr t [I 0,I 0]]) (pt g.length 0) (.agg #[I a,I b])=some (undef,g++[.arr t [I a,I b]]):=by
    intro g t a b
    simp [aF,q9,gr,cW,Value.cells,setAt]
   simp only [r1,r4,ah,Eb,aA,rC]
   have l0:af false 1 (g5++[aj.arr 46 [I (js.getD i (0,0)).1,I (js.getD i (0,0)).2]]) (pt g5.length 0)=some (I (js.getD i (0,0)).1):=mV rfl
   have l1:af false 1 (g5++[aj.arr 46 [I (js.getD i (0,0)).1,I (js.getD i (0,0)).2]]) (pt g5.length 1)=some (I (js.getD i (0,0)).2):=mV rfl
   have xp:EX g5 (g5++[aj.arr 46 [I (js.getD i (0,0)).1,I (js.getD i (0,0)).2]]):=EX.append _ _
   have xV:(js.getD i (0,0)).1=di js i:=rfl
   have SG:(js.getD i (0,0)).2=fJ js i:=rfl
   rw [xV,SG] at l0 l1 xp⊢
   generalize g5++[aj.arr 46 [I (di js i),I (fJ js i)]]=g6 at l0 l1 xp⊢
   have hm6:=(cR.trans xp).get qg
   refine MA (Cf.mono xp) (by omega) (by omega) (by omega) zz ?_
   rw [VR]
   have skip:(¬(iJ bs s i=true∧fJ js i*(eO js s+di js i)+fe bs js n (s ||| 2^i)=fe bs js n s))→(OP (ai .add (I i) (.int .i64 (1))) fun iu=>
     ([vj,p,.map (some im),I (eO js s),vj,I n]:List Value)=[vj,p,.map (some im),I (eO js s),vj,I n]∧L2 [v,U s,iu] g6):=by
    intro gG
    simp only [cf,ah,eR i (by omega),true_and]
    exact gj (i+1,g6) ⟨by show i+1≤n;omega,x5.trans xp,fun j hj=>by
     by_cases EE:j=i
     ·subst EE;exact gG
     ·exact dh j (by show j<i;simp only at hj;omega)⟩ (by show n-(i+1)<n-i;omega)
   cases hr:iJ bs s i with
   | false=>
    simp only [kL,cK,ah,dF,true_and]
    have:=skip (by rw [hr];rintro ⟨h9,_⟩;cases h9)
    simp only [cf,ah,true_and] at this⊢
    exact this
   | true=>
    have zZ:(2:Nat)^i<1024:=lt_of_lt_of_le (Nat.pow_lt_pow_right (by decide) (show i<10 by omega)) (by decide)
    have hlw:=tw i
    have xN:=Iu tw s i
    have jZ:=tN hs Jz
    have RY:=Km tw kQ hu jZ
    have Ai:IntKind.wrap .i64 (eO js s+di js i)=eO js s+di js i:=wrap64 (by omega) (by omega)
    have mS:IntKind.wrap .i64 (fJ js i*(eO js s+di js i))=fJ js i*(eO js s+di js i):=wrap64 (by omega) (by omega)
    have oM:IntKind.wrap .i64 (fJ js i*(eO js s+di js i)+fe bs js n (s ||| 2^i))=fJ js i*(eO js s+di js i)+fe bs js n (s ||| 2^i):=wrap64 (by omega) (by omega)
    have aeG:=ok.next s tz fc i Jz hr
    simp only [jm,bU,add_zero,zero_add,l0,l1,ah,cf,Ai,ue,mS,F5 mX (show i<11 by omega),CH mX (show s<1024 by omega) zZ,agu hm6,ok.look fc,ok.look aeG,getD_some,oM,iT,dZ,true_and]
    refine tY (fun he=>?_) fun R6=>?_
    ·have he:fJ js i*(eO js s+di js i)+fe bs js n (s ||| 2^i)=fe bs js n s:=of_decide_eq_true he
     have axV:jL bs n 0 (l++[i])=true:=by
      rw [aiW,aE,ER]
      simp [jL,Jz,hr]
     have iF:fI 0 (l++[i])=s ||| 2^i:=by
      rw [anm,ER];rfl
     have xV:l.length≤10:=aAD kQ aE
     refine DC (h0:=g2) (xs:=l.map fun i:Nat=>I i) (fy.ep own fun d m hv hd=>?_) (x3.trans (cR.trans xp)) (by simp;omega) (by simp [maxLen];omega) rfl rfl ?_
     ·obtain ⟨_,q2,_⟩:=own.lt hv
      exact (cR.trans xp).2 d q2
     ·intro v' g7 x7 aAS
      have pq:=ac4 js 0 l [i]
      have e1:kO js (uu js 0 l) [i]=fJ js i*(eO js s+di js i):=by
       rw [zL];simp [kO]
      have:=hL (l++[i],v',g7) ⟨x7,by simpa using aAS,axV,by show (gS ((fI 0 (l++[i]):Nat):Int) es).isSome=true;rw [iF];exact aeG,by
       show kO js 0 (l++[i])+fe bs js n (fI 0 (l++[i]))=fe bs js n 0
       rw [iF,pq,e1];omega,by
       show ∀r,mG bs js n (fI 0 (l++[i])) r→mG bs js n 0 (l++[i]++r)
       rw [iF]
       intro r yb
       have:=zN (i::r) ⟨⟨⟨Jz,hr⟩,he,dh⟩,yb⟩
       simpa using this⟩ (by
       show 2^n-fI 0 (l++[i])<2^n-s
       rw [iF]
       have:=Fk (wQ hr)
       omega)
      simp only [iF] at this
      exact this
    ·have h9:=skip fun h9=>(of_decide_eq_false R6) h9.2
     simp only [cf,ah,true_and] at h9⊢
     exact h9
  ·exfalso
   have fH:i=n:=by omega
   subst fH
   obtain ⟨⟨j,j1,j2,j3⟩,_⟩:=Ae
   exact dh j j1 ⟨j2,j3.symm⟩
 ·have he:fI 0 l=bE n:=by
   have h9:¬¬((fI 0 l:Nat):Int)=((bE n:Nat):Int):=by
    intro h9
    simp [h9] at heq
   have:=Classical.not_not.1 h9
   omega
  have hlen:=aAE kQ aE he
  rw [aHs]
  have z:(.int .u16 0:Value)=U 0:=rfl
  rw [z]
  simp only [agu qg,ok.look aeF,getD_some,ah,true_and]
  rw [he,Kn] at aeo
  have hc:kO js 0 l=fe bs js n 0:=by omega
  rw [←hc]
  have hg:=zN [] he
  rw [append_nil] at hg
  exact hk v g3 l (xg.trans (iS.trans x3)) (fy.base own (xg.trans iS).1) hg hlen
end
section
end
section
theorem VT (k:IntKind) {a b:Int} (ha:0≤a) (hb:0<b):ai .rem (.int k a) (.int k b)=some (.int k (a%b)):=by
 simp only [ai,hZ,if_true]
 rw [if_neg (by omega),Int.tmod_eq_emod_of_nonneg ha]
theorem Gy.arr {h:ae} {e:TypeId} {i:Nat} {ps:List (Int×Int)} (hg:h[i]?=some (.arr e (sE ps))):Gy h e (sl e i 0 ps.length) ps:=
 ⟨by rw [alK];omega,.inr ⟨i,rfl,.inr (by simp [aP,hg])⟩⟩
end
end Go.Proofs.YtelmdbpaoifmoaaGreat
namespace Go.Sim
section
theorem LO:∀(l:List Nat) (s j:Nat),(fI s l).testBit j=(s.testBit j||decide (j∈l))
 | [],s,j=>by simp [fI]
 | i::l,s,j=>by
  simp only [fI,LO l,sI]
  by_cases e:i=j
  ·subst e;simp
  ·have e':¬j=i:=fun h=>e h.symm
   simp [e,e']
structure XT (bs:List Nat) (n:Nat) (l:List Nat):Prop where
 lt:∀i∈l,i<n
 nodup:l.Nodup
 all:∀i,i<n→i∈l
 before:l.Pairwise fun a b=>(bs.getD a 0).testBit b=false
 self:∀i,i<n→∀j,(bs.getD i 0).testBit j=true→j<n∧j≠i
theorem TW {bs:List Nat} {n:Nat}:∀{l:List Nat} {S:Nat},(∀i∈l,i<n∧S.testBit i=false)→l.Nodup→l.Pairwise (fun a b=>(bs.getD a 0).testBit b=false)→(∀i∈l,∀j,(bs.getD i 0).testBit j=true→j≠i∧(S.testBit j=true∨j∈l))→jL bs n S l=true
 | [],_,_,_,_,_=>rfl
 | i::l,S,h1,h2,h3,h4=>by
  have hn:=List.nodup_cons.1 h2
  have hp:=List.pairwise_cons.1 h3
  have hi:=h1 i (by simp)
  simp only [jL,and_eq_true,decide_eq_true_eq]
  refine ⟨⟨hi.1,?_⟩,?_⟩
  ·unfold iJ
   rw [hi.2,Bool.not_false,Bool.true_and,pH]
   intro j hj
   obtain ⟨b1,b2⟩:=h4 i (by simp) j hj
   rcases b2 with b2 | b2
   ·exact b2
   ·rcases mem_cons.1 b2 with b2 | b2
    ·exact absurd b2 b1
    ·rw [hp.1 j b2] at hj;cases hj
  ·refine TW (fun j hj=>?_) hn.2 hp.2 fun k hk j hj=>?_
   ·have:=h1 j (by simp [hj])
    refine ⟨this.1,?_⟩
    rw [sI,this.2,Bool.false_or]
    exact aS fun e=>hn.1 (e ▸ hj)
   ·obtain ⟨b1,b2⟩:=h4 k (by simp [hk]) j hj
    refine ⟨b1,?_⟩
    rcases b2 with b2 | b2
    ·exact .inl (by rw [sI,b2];rfl)
    ·rcases mem_cons.1 b2 with b2 | b2
     ·exact .inl (by rw [sI,b2];simp)
     ·exact .inr b2
theorem XT.ok {bs:List Nat} {n:Nat} {l:List Nat} (h:XT bs n l):jL bs n 0 l=true∧fI 0 l=bE n:=by
 refine ⟨TW (fun i hi=>⟨h.lt i hi,by simp⟩) h.nodup h.before fun i hi j hj=>?_,?_⟩
 ·obtain ⟨a,b⟩:=h.self i (h.lt i hi) j hj
  exact ⟨b,.inr (h.all j a)⟩
 ·apply Nat.eq_of_testBit_eq
  intro j
  rw [LO,vS]
  simp only [Nat.zero_testBit,Bool.false_or]
  rw [decide_eq_decide]
  exact ⟨fun hm=>h.lt j hm,fun hl=>h.all j hl⟩
def Pc (bs cs:List Nat) (n:Nat):Prop:=∀i j,i<n→j<n→(bs.getD i 0).testBit j=(cs.getD j 0).testBit i
theorem Pc.symm {bs cs:List Nat} {n:Nat} (t:Pc bs cs n):Pc cs bs n:=fun i j hi hj=>(t j i hj hi).symm
end
section
theorem aAC {bs:List Nat} {n:Nat}:∀{l:List Nat} {s:Nat},jL bs n s l=true→(l.Nodup∧∀i∈l,s.testBit i=false)∧(l.Pairwise fun a b=>(bs.getD a 0).testBit b=false)∧∀i∈l,∀j,(bs.getD i 0).testBit j=true→j≠i∧(s.testBit j=true∨j∈l):=by
 intro l
 induction l with
 | nil=>intro s _;simp
 | cons i l ih=>
  intro s h
  simp only [jL,and_eq_true,decide_eq_true_eq] at h
  obtain ⟨⟨a1,a2⟩,a3,a4⟩:=ih h.2
  have vY:=wQ h.1.2
  have sk:iQ (bs.getD i 0) s=true:=by
   have:=h.1.2
   unfold iJ at this
   rw [and_eq_true] at this
   exact this.2
  rw [pH] at sk
  have old:∀j∈l,s.testBit j=false∧j≠i:=by
   intro j hj
   have:=a2 j hj
   rw [sI,Bool.or_eq_false_iff] at this
   exact ⟨this.1,fun e=>by subst e;simp at this⟩
  refine ⟨⟨?_,?_⟩,?_,?_⟩
  ·exact List.nodup_cons.2 ⟨fun hm=>(old i hm).2 rfl,a1⟩
  ·intro j hj
   rcases mem_cons.1 hj with rfl | hj
   ·exact vY
   ·exact (old j hj).1
  ·refine List.pairwise_cons.2 ⟨fun j hj=>?_,a3⟩
   cases hc:(bs.getD i 0).testBit j with
   | false=>rfl
   | true=>have:=sk j hc;rw [(old j hj).1] at this;cases this
  ·intro k hk j hj
   rcases mem_cons.1 hk with rfl | hk
   ·have:=sk j hj
    exact ⟨fun e=>(by subst e;rw [vY] at this;cases this),.inl this⟩
   ·obtain ⟨b1,b2⟩:=a4 k hk j hj
    refine ⟨b1,?_⟩
    rcases b2 with b2 | b2
    ·rw [sI,Bool.or_eq_true] at b2
     rcases b2 with b2 | b2
     ·exact .inl b2
     ·have:i=j:=of_decide_eq_true b2
      subst this;exact .inr (by simp)
    ·exact .inr (by simp [b2])
theorem aAN {d s j:Nat} (h:d &&& s=0) (hs:s.testBit j=true):d.testBit j=false:=by
 have:=congrArg (Nat.testBit · j) h
 simp only [Nat.testBit_and,Nat.zero_testBit,hs,Bool.and_true] at this
 exact this
structure GA (bs:List Nat) (s:Nat) (l:List Nat):Prop where
 nd:l.Nodup
 mem:∀i,i∈l↔s.testBit i=true
 fit:l.Pairwise fun a b=>(bs.getD a 0).testBit b=false
theorem mH.apart {bs:List Nat} {js:List (Int×Int)} {n:Nat}:∀{os:List Nat} {d:Nat},mH bs js n d os→∀s∈os,∀i,s.testBit i=true→d.testBit i=false
 | [],_,_,s,hs,_,_=>by simp at hs
 | b::os,d,h,s,hs,i,hi=>by
  rcases mem_cons.1 hs with rfl | hs
  ·exact aAN h.1.1.1.apart hi
  ·have:=mH.apart h.2 s hs i hi
   rw [Nat.testBit_or,Bool.or_eq_false_iff] at this
   exact this.1
end
section
structure ub (bs:List Nat) (js:List (Int×Int)) (s:Nat) (E:List Nat) (nL:List Nat) (tG:List (Int×Int)):Prop where
 nd:E.Nodup
 mem:∀i,i∈E↔s.testBit i=true
 len:∀k,k<E.length→di tG k=di js (E.getD k 0)∧fJ tG k=fJ js (E.getD k 0)
 bit:∀k,k<E.length→∀j,(nL.getD k 0).testBit j=true↔j<E.length∧(bs.getD (E.getD k 0) 0).testBit (E.getD j 0)=true
section
variable {bs nL : List Nat} {js tG : List (Int × Int)} {s : Nat} {E : List Nat}
theorem BT {E:List Nat} {k:Nat} (h:k<E.length):E.getD k 0=E[k]:=by simp [List.getD_eq_getElem?_getD,h]
theorem ub.inj (w:ub bs js s E nL tG) {a b:Nat} (ha:a<E.length) (hb:b<E.length) (h:E.getD a 0=E.getD b 0):a=b:=by
 rw [BT ha,BT hb] at h
 exact (List.getElem_inj w.nd).1 h
theorem ub.cost (w:ub bs js s E nL tG):∀(o:List Nat) (now:Int),(∀k∈o,k<E.length)→kO tG now o=kO js now (o.map fun k=>E.getD k 0)
 | [],_,_=>rfl
 | k::o,now,h=>by
  have:=w.len k (h k (by simp))
  simp only [List.map_cons,kO,this.1,this.2]
  rw [w.cost o _ fun k hk=>h k (by simp [hk])]
theorem ub.part (w:ub bs js s E nL tG) {o:List Nat} (ho:jL nL E.length 0 o=true) (hf:fI 0 o=bE E.length):GA bs s (o.map fun k=>E.getD k 0):=by
 obtain ⟨⟨nd,_⟩,pw,_⟩:=aAC ho
 have aD:=AO ho
 have fA:∀k,k<E.length→k∈o:=by
  intro k hk
  have:=LO o 0 k
  rw [hf,vS,aU hk,Nat.zero_testBit,Bool.false_or] at this
  exact of_decide_eq_true this.symm
 refine ⟨?_,fun i=>?_,?_⟩
 ·unfold List.Nodup
  rw [List.pairwise_map]
  refine Pairwise.imp_of_mem (fun ha hb h=>?_) nd
  exact fun e=>h (w.inj (aD _ ha) (aD _ hb) e)
 ·rw [←w.mem,mem_map]
  constructor
  ·rintro ⟨k,hk,rfl⟩
   rw [BT (aD k hk)]
   exact getElem_mem _
  ·intro hi
   obtain ⟨k,hk,rfl⟩:=List.mem_iff_getElem.1 hi
   exact ⟨k,fA k hk,BT hk⟩
 ·rw [List.pairwise_map]
  refine Pairwise.imp_of_mem (fun ha hb h=>?_) pw
  cases hc:(bs.getD (E.getD _ 0) 0).testBit (E.getD _ 0) with
  | false=>rfl
  | true=>rw [(w.bit _ (aD _ ha) _).2 ⟨aD _ hb,hc⟩] at h;cases h
theorem ub.back (w:ub bs js s E nL tG) (hi:∀i,i∈E→(bs.getD i 0).testBit i=false) {l:List Nat} (p:GA bs s l):
  ∃o,jL nL E.length 0 o=true∧fI 0 o=bE E.length∧l=o.map fun k=>E.getD k 0:=by
 have inE:∀i∈l,i∈E:=fun i h=>(w.mem i).2 ((p.mem i).1 h)
 have ix:∀i∈l,E.idxOf i<E.length∧E.getD (E.idxOf i) 0=i:=by
  intro i h
  have hl:=List.idxOf_lt_length_of_mem (inE i h)
  exact ⟨hl,by rw [BT hl];exact List.getElem_idxOf hl⟩
 have hm:l=(l.map fun i=>E.idxOf i).map fun k=>E.getD k 0:=by
  rw [List.map_map]
  conv=>lhs;rw [←List.map_id l]
  exact List.map_congr_left fun i h=>(ix i h).2.symm
 have fA:∀k,k<E.length→k∈l.map fun i=>E.idxOf i:=by
  intro k hk
  have hx:E[k]∈l:=(p.mem _).2 ((w.mem _).1 (getElem_mem hk))
  refine mem_map.2 ⟨E[k],hx,?_⟩
  have h2:=ix _ hx
  exact w.inj h2.1 hk (by rw [h2.2,BT hk])
 refine ⟨l.map fun i=>E.idxOf i,?_,?_,hm⟩
 ·refine TW (fun k hk=>?_) ?_ ?_ (fun k hk j hj=>?_)
  ·obtain ⟨i,h,rfl⟩:=mem_map.1 hk
   exact ⟨(ix i h).1,by simp⟩
  ·unfold List.Nodup
   rw [List.pairwise_map]
   refine Pairwise.imp_of_mem (fun ha hb h=>?_) p.nd
   exact fun e=>h (by rw [←(ix _ ha).2,←(ix _ hb).2,e])
  ·rw [List.pairwise_map]
   refine Pairwise.imp_of_mem (fun {a b} ha hb h=>?_) p.fit
   cases hc:(nL.getD (E.idxOf a) 0).testBit (E.idxOf b) with
   | false=>rfl
   | true=>
    have:=((w.bit _ (ix a ha).1 _).1 hc).2
    rw [(ix a ha).2,(ix b hb).2,h] at this
    cases this
  ·obtain ⟨i,h,rfl⟩:=mem_map.1 hk
   obtain ⟨h1,h2⟩:=(w.bit _ (ix i h).1 _).1 hj
   rw [(ix i h).2] at h2
   refine ⟨?_,.inr (fA j h1)⟩
   rintro rfl
   rw [(ix i h).2,hi i (inE i h)] at h2
   cases h2
 ·apply Nat.eq_of_testBit_eq
  intro j
  rw [LO,vS,Nat.zero_testBit,Bool.false_or]
  rw [decide_eq_decide]
  refine ⟨fun h=>?_,fA j⟩
  obtain ⟨i,h2,rfl⟩:=mem_map.1 h
  exact (ix i h2).1
theorem ub.ba (w:ub bs js s E nL tG) (hi:∀i,i∈E→(bs.getD i 0).testBit i=false) (hj:uY tG) (hn:E.length≤10) (hu:vI nL E.length) {o:List Nat} (hg:mG nL tG E.length 0 o):
  GA bs s (o.map fun k=>E.getD k 0)∧∀l,GA bs s l→kO js 0 (o.map fun k=>E.getD k 0)≤kO js 0 l:=by
 obtain ⟨h1,h2,h3⟩:=mG.ok hn hg
 refine ⟨w.part h1 h2,fun l hl=>?_⟩
 obtain ⟨o',p1,p2,rfl⟩:=w.back hi hl
 have:=agO hj hn hu (s:=0) (pow_pos (by decide)) p1 p2
 rw [Kw] at this h3
 rw [←w.cost o 0 (AO h1),←w.cost o' 0 (AO p1)]
 omega
end
end
end Go.Sim
namespace Go.Proofs.YtelmdbpaoifmoaaGreat
open Go.Sim
section
theorem C29 {va vb:Value} {a b c d:Int} {h:ae} {K:Value→ae→Prop} (ha:QZ h va a b) (hb:QZ h vb c d) (la:a.natAbs<br) (lb:b.natAbs<br) (lc:c.natAbs<br) (ld:d.natAbs<br) (Fe:(a*d).natAbs<br) (Ti:(c*b).natAbs<br)
  (hk:∀h',EX h h'→K (I (mc (a*d-c*b))) h'):ak prog 29 [va,vb] h K:=by
 obtain ⟨u,w,rfl,hu,hw⟩:=ha
 obtain ⟨u',w',rfl,Af,pC⟩:=hb
 refine f29 ?_
 unfold Ou
 have e1:∀(g:ae) (s s':Bool) (b d:Value),bm 37 g (.agg #[B s,b,B s',d])=some (pt g.length 0,g++[.arr 37 [B s,b,B s',d]]):=fun _ _ _ _ _=>rfl
 simp only [e1,aA]
 have x1:EX h (h++[.arr 37 [B (decide (a<0)),u,B (decide (b<0)),w]]):=EX.append _ _
 have k1:(h++[aj.arr 37 [B (decide (a<0)),u,B (decide (b<0)),w]])[h.length]?=some (.arr 37 [B (decide (a<0)),u,B (decide (b<0)),w]):=bn
 generalize h++[aj.arr 37 [B (decide (a<0)),u,B (decide (b<0)),w]]=g at x1 k1⊢
 have x2:EX g (g++[.arr 37 [B (decide (c<0)),u',B (decide (d<0)),w']]):=EX.append _ _
 have k2:(g++[aj.arr 37 [B (decide (c<0)),u',B (decide (d<0)),w']])[g.length]?=some (.arr 37 [B (decide (c<0)),u',B (decide (d<0)),w']):=bn
 generalize g++[aj.arr 37 [B (decide (c<0)),u',B (decide (d<0)),w']]=g2 at x2 k2⊢
 have k1:=x2.get k1
 have xx:=x1.trans x2
 have za:ZV g2 (.agg #[B (decide (a<0)),u]) a:=⟨u,rfl,hu.mono xx⟩
 have zb:ZV g2 (.agg #[B (decide (b<0)),w]) b:=⟨w,rfl,hw.mono xx⟩
 have zc:ZV g2 (.agg #[B (decide (c<0)),u']) c:=⟨u',rfl,Af.mono xx⟩
 have zd:ZV g2 (.agg #[B (decide (d<0)),w']) d:=⟨w',rfl,pC.mono xx⟩
 have a0:=jR k1
 have a2:=kZ k1
 have b0:=jR k2
 have b2:=kZ k2
 simp only [bU,add_zero,zero_add,ah,a0,b2,true_and]
 refine xj za zd la ld ?_
 intro r3 g3 x3 z3
 simp only [EX.load x3 b0,EX.load x3 a2,ah,b0,a2,true_and]
 refine xj (zc.mono x3) (zb.mono x3) lc lb ?_
 intro r4 g4 x4 Be
 refine MD (z3.mono x4) Be Fe Ti ?_
 intro g5 x5
 exact hk g5 (xx.trans (x3.trans (x4.trans x5)))
theorem adj {n:Nat} (hn:n<br):gR (cI n)=true∧cL (cI n)=n:=by
 obtain ⟨d1,d2,d3,d4,d5⟩:=ui hn
 have:gR (cI n)=true:=uo.2 ⟨⟨d2,by omega⟩,d4,d1⟩
 exact ⟨this,by unfold cL;rw [if_pos this,d5]⟩
theorem aAX {a b:Nat} (ha:a<br) (hb:b<br) (b1:1≤b) (hg:gcd a b=1):ke (mW a b)=some ((a:Int),b):=by
 obtain ⟨d1,d2,d3,d4,d5⟩:=ui ha
 obtain ⟨o1,o2⟩:=adj ha
 obtain ⟨p1,p2⟩:=adj hb
 have no:(47:UInt8)∉cI a:=fun h=>by have:=d1 _ h;simp at this
 have en:il (a:Int)=cI a:=by unfold il;rw [if_neg (by omega),natAbs_natCast]
 have hd:∀t:List UInt8,(cI a++t).head?≠some 45:=by
  intro t h
  obtain ⟨c,r,e⟩:∃c r,cI a=c::r:=by
   cases hd:cI a with
   | nil=>rw [hd] at d2;simp at d2
   | cons c r=>exact ⟨c,r,rfl⟩
  rw [e] at h
  have hc:c=45:=by simpa using h
  have:=d1 c (by rw [e];simp)
  rw [hc] at this
  simp at this
 unfold mW ke
 rw [en,natAbs_natCast]
 by_cases e:(b:Int)=1
 ·have e1:b=1:=by omega
  have h0:=hd []
  rw [append_nil] at h0
  have ix:(cI a).idxOf 47=(cI a).length:=List.idxOf_eq_length no
  have hs:nQ (cI a)=false:=by unfold nQ;rw [ix];simp
  have ho:dM (cI a)=cI a:=by unfold dM;rw [ix,take_length]
  rw [if_pos e,if_neg h0]
  unfold ru ph pT
  rw [hs,ho,o1,o2]
  simp [e1]
 ·have ix:(cI a++47::cI b).idxOf 47=(cI a).length:=by
   rw [List.idxOf_append,if_neg no];simp
  have hs:nQ (cI a++47::cI b)=true:=by unfold nQ;rw [ix];simp
  have ho:dM (cI a++47::cI b)=cI a:=by unfold dM;rw [ix];simp
  have hu:dU (cI a++47::cI b)=cI b:=by unfold dU;rw [ix];simp
  rw [if_neg e,if_neg (hd _)]
  unfold ru ph pT
  rw [hs,ho,hu,o1,o2,p1,p2]
  have:2≤b:=by omega
  simp [hg,this]
end
section
end
section
theorem Qu {a k:Nat} (ha:a<10^k) (hk:1≤k) (hb:a<br):(cI a).length≤k:=by
 obtain ⟨d1,d2,d3,d4,d5⟩:=ui hb
 cases e:cI a with
 | nil=>simp
 | cons c r=>
  rw [e] at d1 d4 d5
  by_cases hc:c=48
  ·have:=d4 (by rw [hc];rfl)
   omega
  ·have h1:=d1 c (by simp)
   rw [L8] at d5
   have h2:c.toNat≠48:=fun h=>hc (UInt8.toNat_inj.1 h)
   have h3:=Nat.mul_le_mul_right (10^r.length) (show 1≤c.toNat-48 by omega)
   have h4:10^r.length<10^k:=by omega
   have:=(Nat.pow_lt_pow_iff_right (show 1<10 by decide)).1 h4
   simp;omega
end
section
theorem aAW {s:List UInt8} {n:Int} {d:Nat} (h:ke s=some (n,d)):0<d∧gcd n.natAbs d=1:=by
 rw [Vl] at h
 unfold ru at h
 split at h
 ·rename_i hc
  injection h with h
  injection h with h1 h2
  have e:=(Wi (m:=decide (s.head?=some 45)) (n:=cL (dM (fT s)))).2
  have hn:n.natAbs=cL (dM (fT s)):=by rw [←h1];exact e
  rw [hn,←h2]
  unfold pT
  have hd:=hc.1
  unfold ph at hd
  split
  ·rename_i hs
   rw [hs,Bool.not_true,Bool.false_or,and_eq_true,and_eq_true,decide_eq_true_eq,decide_eq_true_eq] at hd
   exact ⟨by omega,hd.2.2⟩
  ·exact ⟨by decide,Nat.gcd_one_right _⟩
 ·cases h
theorem aAh {n:Int} {d:Nat} (h0:0<d) (hg:gcd n.natAbs d=1):(mkRat n d).num=n∧(mkRat n d).den=d:=by
 obtain ⟨e1,e2⟩:=AI (N:=n) h0
 rw [hg] at e1 e2
 exact ⟨by rw [e1];simp,by rw [e2];simp⟩
def gV (s:List UInt8):Rat:=match ke s with | some (n,d)=>mkRat n d | none=>0
def isNum (s:List UInt8):Bool:=(ke s).isSome
theorem VP {s:List UInt8} {n:Int} {d:Nat} (h:ke s=some (n,d)):(gV s).num=n∧(gV s).den=d:=by
 obtain ⟨h1,h2⟩:=aAW h
 have:=aAh h1 h2
 unfold gV
 rw [h]
 exact this
theorem ayZ {s:List UInt8} (h:isNum s=true):ke s=some ((gV s).num,(gV s).den):=by
 unfold isNum at h
 cases e:ke s with
 | none=>rw [e] at h;cases h
 | some q=>
  obtain ⟨n,d⟩:=q
  obtain ⟨e1,e2⟩:=VP e
  rw [e1,e2]
theorem an5 {h:ae} {K:Value→ae→Prop} {s:List UInt8} (hl:s.length≤700)
  (hk:isNum s=true→∀r h',EX h h'→RV h' r (gV s)→K (.tuple #[r,B true]) h')
  (eK:isNum s=false→∀a b c e h',EX h h'→K (.tuple #[.agg #[a,b,c,e],B false]) h'):ak prog 108 [S s] h K:=by
 refine an4 hl (fun n d hp r h' x hr=>?_) (fun hp=>eK (by unfold isNum;rw [hp];rfl))
 obtain ⟨e1,e2⟩:=VP hp
 refine hk (by unfold isNum;rw [hp];rfl) r h' x ?_
 unfold RV
 rw [e1,e2]
 exact hr
theorem ade {a k:Nat} (hk:1≤k) (hb:a<br):(cI a).length≤k↔a<10^k:=by
 constructor
 ·intro h
  obtain ⟨d1,_,_,_,d5⟩:=ui hb
  have:=A6 d1
  rw [d5] at this
  exact lt_of_lt_of_le this (pow_le_pow_right (by decide) h)
 ·intro h
  exact Qu h hk hb
def Ei (k:Nat) (q:Rat):Bool:=decide (q.num.natAbs<10^k)&&decide (q.den<10^k)
theorem C84 {h:ae} {K:Value→ae→Prop} {va:Value} {p:Rat} {i k:Nat} (ha:RV h va p) (sp:bP i p) (hi:i≤900) (nw:1≤k) (_:k≤1000) (hk:∀h',EX h h'→K (B (Ei k p)) h'):ak prog 84 [va,I k] h K:=by
 obtain ⟨u,w,rfl,hu,hw⟩:=ha
 obtain ⟨l1,l2⟩:=sp.gQ hi
 rw [natAbs_natCast] at hw
 refine f84 ?_
 have e1:∀(g:ae) (s t:Bool) (v w:Value),bm 107 g (.agg #[B s,v,B t,w])=some (pt g.length 0,g++[.arr 107 [B s,v,B t,w]]):=fun _ _ _ _ _=>rfl
 simp only [O0,e1,aA]
 generalize decide ((p.den:Int)<0)=t1 at*
 have q0:EX h (h++[.arr 107 [B (decide (p.num<0)),u,B t1,w]]):=EX.append _ _
 have p0:(h++[aj.arr 107 [B (decide (p.num<0)),u,B t1,w]])[h.length]?=some (.arr 107 [B (decide (p.num<0)),u,B t1,w]):=bn
 generalize h++[aj.arr 107 [B (decide (p.num<0)),u,B t1,w]]=ga at q0 p0⊢
 have rh:af false 1 ga (pt h.length 1)=some u:=by simp [af,aP,p0,b9]
 simp only [bU,zero_add,add_zero,ah,rh]
 refine Gv (hu.mono q0) l1 ?_
 intro g1 x1
 have ld3:af false 1 g1 (pt h.length 3)=some w:=by simp [af,aP,x1.get p0,b9]
 have d1:decide (((cI p.num.natAbs).length:Int)≤(k:Int))=decide (p.num.natAbs<10^k):=by
  rw [decide_eq_decide]
  have:=ade nw l1
  omega
 simp only [mf,ah,Bz,d1]
 rw [aD0]
 unfold Ei at hk
 by_cases h1:p.num.natAbs<10^k
 ·rw [aU h1] at hk⊢
  simp only [jm,bU,ah,ld3]
  refine Gv ((hw.mono q0).mono x1) l2 ?_
  intro g2 x2
  have d2:decide (((cI p.den).length:Int)≤(k:Int))=decide (p.den<10^k):=by
   rw [decide_eq_decide]
   have:=ade nw l2
   omega
  simp only [mf,ah,Bz,d2]
  rw [amK]
  simp only [dZ,ah]
  rw [Bool.true_and] at hk
  exact hk g2 (q0.trans (x1.trans x2))
 ·rw [aS h1] at hk⊢
  simp only [kL]
  rw [amK]
  simp only [cK,ah]
  exact hk g1 (q0.trans x1)
end
section
variable (P : Program) (K : VK)
noncomputable section
variable (c0 x4 aM au aC : Value) (L1 : LQ) (xs : List Value) (h : ae)
def aiA:=bz prog 80 [[],[],[],[10,11],[4,12],[],[],[],[],[],[],[],[],[4],[]]
@[irreducible] def Ij:=bJ aiA
@[irreducible] def aut:=Ij.r.r.l.r.l.l
@[irreducible] def acu:=Ij.r.r.r
@[irreducible] def aus:=acu.l
theorem k80:aiA=some (29,Ij,[.tmp 2,.tmp 3]):=by kernel_rfl
def Nn (_P:Program) (K:VK):ar:=aT [.tmp 2,.tmp 3] K
def aq6:ar:=aG (aq P acu (Nn P K)) (Nn P K)
def aq7:ar:=bO 0 (aq6 P K)
def aq8:ar:=aG (fun f' aW=>(([10,11]:List Nat).map f':List Value)=[aM,au]∧L1 (([4,12]:List Nat).map f') aW) (aq7 P K)
def alb:Prop:=ay (aq P aut (aq8 P K aM au L1)) ([10,11]++[4,12]) ([aM,au]++xs) h
def ala:Prop:=ay (aq P aus (Nn P K)) [4] [x4] h
theorem aDY (aM au:Value) (L1:LQ) (x4 aC:Value) (h:ae):alb P K aM au L1 [x4,aC] h=
 (OP (ai .lss aC au) fun aB=>
 aR aB
 (OP (bf 1 aM aC) fun aH=>
 OP (af false 1 h aH) fun bc=>
 ak P 108 [bc] h fun aQ z1=>
 OP (cg 0 aQ) fun aO=>
 OP (cg 1 aQ) fun aX=>
 OH (aV 107 [(.bool false),(.slice none 0 0),(.bool false),(.slice none 0 0)] z1) fun x7 z2=>
 OH (aF 4 z2 x7 aO) fun _ z3=>
 OP (gJ .not aX) fun bF=>
 aR bF
 (K (.tuple #[(.slice none 0 0),(.bool false)]) z3)
 (OP (af true 4 z3 x7) fun bu=>
 OH (dK 107 1 [(.bool false),(.slice none 0 0),(.bool false),(.slice none 0 0)] z3 [(0,4,bu)]) fun ca z4=>
 OH (dY 107 4 64 z4 x4 ca) fun cw z5=>
 OP (ai .add aC (.int .i64 (1))) fun bZ=>
 ([aM,au]:List Value)=[aM,au]∧L1 [cw,bZ] z5))
 (ala P K x4 h)):=az (by kernel_rfl)
theorem aDX:ala P K x4 h=
 (K (.tuple #[x4,(.bool true)]) h):=az (by kernel_rfl)
def OW:Prop:=
 OH (bm 24 h c0) fun c1 z1=>
 OP (aL 0 c1) fun x9=>
 OP (af false 1 z1 x9) fun aM=>
 OP (bj aM) fun au=>
 cQ [(.slice none 0 0),(.int .i64 (0))] z1 fun L1 xs hx=>
 alb P K aM au L1 xs hx
theorem e80:aq P Ij (aT [.tmp 2,.tmp 3] K) (bt [c0]) h=OW P K c0 h:=by kernel_rfl
theorem f80 {K:VK} {c0:Value} {h:ae} (H:OW prog K c0 h):ak prog 80 [c0] h K:=
 bK k80 (bI rfl) ((e80 prog K c0 h).mpr H)
end
noncomputable section
variable (s0 f1 : Value) (h : ae)
def aiC:=bz prog 82 [[],[]]
@[irreducible] def c82:=bJ aiC
theorem k82:aiC=some (9,c82,[.tmp 4]):=by kernel_rfl
def OY:Prop:=
 ak P 110 [s0,f1] h fun x7 z1=>
 OP (ai .geq x7 (.int .i64 (0))) fun x8=>
 K x8 z1
theorem e82:aq P c82 (aT [.tmp 4] K) (bt [s0,f1]) h=OY P K s0 f1 h:=by kernel_rfl
theorem f82 {K:VK} {s0 f1:Value} {h:ae} (H:OY prog K s0 f1 h):ak prog 82 [s0,f1] h K:=
 bK k82 (bI rfl) ((e82 prog K s0 f1 h).mpr H)
end
noncomputable section
variable (x0 x1 x6 x9 : Value) (h : ae)
def aiD:=bz prog 83 [[],[1,6],[6,9],[]]
@[irreducible] def BB:=bJ aiD
@[irreducible] def acx:=BB.r.l.r.l
@[irreducible] def auu:=BB.r.r
@[irreducible] def auv:=acx.r.l
theorem k83:aiD=some (11,BB,[.tmp 2]):=by kernel_rfl
def YV (_P:Program) (K:VK):ar:=aT [.tmp 2] K
def YW:ar:=aG (aq P auu (YV P K)) (YV P K)
def alc:Prop:=ay (aq P acx (YW P K)) [1,6] [x1,x6] h
def U4:Prop:=ay (aq P auv (YW P K)) [6,9] [x6,x9] h
theorem amJ:U4 P K x6 x9 h=
 (OP (bQ x6 (.bool true) x9) fun aM=>
 K aM h):=az (by kernel_rfl)
theorem aDZ:alc P K x1 x6 h=
 (cC x6 false
 (OP (af true 4 h x1) fun x7=>
 ak P 84 [x7,(.int .i64 (4))] h fun x8 z1=>
 OP (gJ .not x8) fun x9=>
 U4 P K x6 x9 z1)
 (U4 P K x6 undef h)):=az (by kernel_rfl)
def OZ:Prop:=
 OH (bm 107 h x0) fun x1 z1=>
 OP (af true 4 z1 x1) fun x3=>
 ak P 81 [x3] z1 fun x4 z2=>
 OP (ai .lss x4 (.int .i64 (0))) fun x5=>
 alc P K x1 x5 z2
theorem e83:aq P BB (aT [.tmp 2] K) (bt [x0]) h=OZ P K x0 h:=by kernel_rfl
theorem f83 {K:VK} {x0:Value} {h:ae} (H:OZ prog K x0 h):ak prog 83 [x0] h K:=
 bK k83 (bI rfl) ((e83 prog K x0 h).mpr H)
end
noncomputable section
variable (j0 x1 x4 x5 aC aB aH : Value) (L1 : LQ) (xs : List Value) (h : ae)
def aiF:=bz prog 85 [[],[],[],[4,5,12,13],[14],[],[],[],[],[4,5],[]]
@[irreducible] def Il:=bJ aiF
@[irreducible] def auA:=Il.r.r.l.r.l.l
@[irreducible] def acz:=Il.r.r.r
@[irreducible] def auz:=acz.l
theorem k85:aiF=some (23,Il,[.cell true 4 4]):=by kernel_rfl
def No (_P:Program) (K:VK):ar:=aT [.cell true 4 4] K
def aq9:ar:=aG (aq P acz (No P K)) (No P K)
def ara:ar:=bO 0 (aq9 P K)
def arb:ar:=aG (fun f' aW=>(([4,5,12,13]:List Nat).map f':List Value)=[x4,x5,aC,aB]∧L1 (([14]:List Nat).map f') aW) (ara P K)
def alf:Prop:=ay (aq P auA (arb P K x4 x5 aC aB L1)) ([4,5,12,13]++[14]) ([x4,x5,aC,aB]++xs) h
def ale:Prop:=ay (aq P auz (No P K)) [4,5] [x4,x5] h
theorem aD2 (x4 x5 aC aB:Value) (L1:LQ) (aH:Value) (h:ae):alf P K x4 x5 aC aB L1 [aH] h=
 (OP (ai .lss aH aB) fun bc=>
 aR bc
 (OP (bf 4 aC aH) fun bk=>
 OP (af true 4 h bk) fun bN=>
 OH (aV 107 [(.bool false),(.slice none 0 0),(.bool false),(.slice none 0 0)] h) fun x7 z1=>
 OH (aF 4 z1 x7 bN) fun _ z2=>
 OP (af true 4 z2 x5) fun aQ=>
 OP (af true 4 z2 x7) fun aO=>
 ak P 87 [aQ,aO] z2 fun aX z3=>
 OH (aF 4 z3 x5 aX) fun _ z4=>
 OP (ai .add aH (.int .i64 (1))) fun aZ=>
 ([x4,x5,aC,aB]:List Value)=[x4,x5,aC,aB]∧L1 [aZ] z4)
 (ale P K x4 x5 h)):=az (by kernel_rfl)
theorem aD1:ale P K x4 x5 h=
 (OP (af true 4 h x5) fun bF=>
 OH (aF 4 h x4 bF) fun _ z1=>
 OP (af true 4 z1 x4) fun r0=>
 K r0 z1):=az (by kernel_rfl)
def O1:Prop:=
 OH (bm 102 h j0) fun j2 z1=>
 OH (aV 107 [(.bool false),(.slice none 0 0),(.bool false),(.slice none 0 0)] z1) fun x4 z2=>
 ak P 75 [(.int .i64 (0))] z2 fun x8 z3=>
 OH (aV 107 [(.bool false),(.slice none 0 0),(.bool false),(.slice none 0 0)] z3) fun x5 z4=>
 OH (aF 4 z4 x5 x8) fun _ z5=>
 OP (aL 2 j2) fun x9=>
 OP (af false 1 z5 x9) fun aM=>
 OP (mT 107 4 aM (some x1) none) fun aC=>
 OP (bj aC) fun aB=>
 cQ [(.int .i64 (0))] z5 fun L1 xs hx=>
 alf P K x4 x5 aC aB L1 xs hx
theorem e85:aq P Il (aT [.cell true 4 4] K) (bt [j0,x1]) h=O1 P K j0 x1 h:=by kernel_rfl
theorem f85 {K:VK} {j0 x1:Value} {h:ae} (H:O1 prog K j0 x1 h):ak prog 85 [j0,x1] h K:=
 bK k85 (bI rfl) ((e85 prog K j0 x1 h).mpr H)
end
noncomputable section
variable (s0 f1 x7 x8 : Value) (L1 : LQ) (xs : List Value) (h : ae)
def ahq:=bz prog 110 [[],[],[0,1,7],[8],[],[],[],[],[],[],[],[]]
@[irreducible] def Hq:=bJ ahq
@[irreducible] def asb:=Hq.r.l.r.l.l
@[irreducible] def asa:=Hq.r.r
theorem azi:ahq=some (19,Hq,[.tmp 4]):=by kernel_rfl
def X3 (_P:Program) (K:VK):ar:=aT [.tmp 4] K
def aoQ:ar:=aG (aq P asa (X3 P K)) (X3 P K)
def aoR:ar:=bO 0 (aoQ P K)
def aoS:ar:=aG (fun f' aW=>(([0,1,7]:List Nat).map f':List Value)=[s0,f1,x7]∧L1 (([8]:List Nat).map f') aW) (aoR P K)
def ajo:Prop:=ay (aq P asb (aoS P K s0 f1 x7 L1)) ([0,1,7]++[8]) ([s0,f1,x7]++xs) h
theorem aBt (s0 f1 x7:Value) (L1:LQ) (x8:Value) (h:ae):ajo P K s0 f1 x7 L1 [x8] h=
 (OP (ai .lss x8 x7) fun x9=>
 aR x9
 (OP (bf 4 s0 x8) fun aH=>
 OP (af true 4 h aH) fun bc=>
 vE P f1 [bc] h fun bk z1=>
 aR bk
 (K x8 z1)
 (OP (ai .add x8 (.int .i64 (1))) fun aQ=>
 ([s0,f1,x7]:List Value)=[s0,f1,x7]∧L1 [aQ] z1))
 (K (.int .i64 (-1)) h)):=az (by kernel_rfl)
def NK:Prop:=
 OP (bj s0) fun x7=>
 cQ [(.int .i64 (0))] h fun L1 xs hx=>
 ajo P K s0 f1 x7 L1 xs hx
theorem avK:aq P Hq (aT [.tmp 4] K) (bt [s0,f1]) h=NK P K s0 f1 h:=by kernel_rfl
theorem f110 {K:VK} {s0 f1:Value} {h:ae} (H:NK prog K s0 f1 h):ak prog 110 [s0,f1] h K:=
 bK azi (bI rfl) ((avK prog K s0 f1 h).mpr H)
end
end
section
def ry (qs:List Rat):List (Int×Int):=qs.map fun q=>(q.num,(q.den:Int))
def QL (h:ae) (v:Value) (qs:List Rat):Prop:=rK h v (ry qs)
theorem QL.mono {h h':ae} {v:Value} {qs:List Rat} (x:EX h h') (p:QL h v qs):QL h' v qs:=rK.mono x p
theorem AV (qs:List Rat):(ry qs).length=qs.length:=by simp [ry]
theorem QL.len {h:ae} {v:Value} {qs:List Rat} (p:QL h v qs):bj v=some (I qs.length):=by have:=rK.len p;rwa [AV] at this
theorem QL.get {h:ae} {v:Value} {qs:List Rat} (p:QL h v qs) {k:Nat} (hk:k<qs.length):∃i o r,bf 4 v (I k)=some (pt i o)∧af true 4 h (pt i o)=some r∧RV h r qs[k]:=by
 obtain ⟨i,o,r,g1,g2,g3⟩:=rK.get p (k:=k) (by rw [AV];exact hk)
 refine ⟨i,o,r,g1,g2,?_⟩
 unfold RV
 simpa [ry] using g3
theorem RV.agg {h:ae} {v:Value} {q:Rat} (p:RV h v q):∃a b c d,v=.agg #[B a,b,B c,d]:=by
 obtain ⟨u,w,rfl,_⟩:=p
 exact ⟨_,_,_,_,rfl⟩
section
variable {h : ae} {K : Value → ae → Prop}
theorem C80 {vs:Value} {w:Int} {ls:List (List UInt8)} (hv:SS h vs ls) (hl:∀s∈ls,s.length≤700) (hn:ls.length≤1000)
  (hk:ls.all isNum=true→∀v h' b,EX h h'→oB b h' v (ry (ls.map gV))→K (.tuple #[v,B true]) h')
  (eK:ls.all isNum=false→∀h',EX h h'→K (.tuple #[.slice none 0 0,B false]) h'):ak prog 80 [.agg #[vs,I w]] h K:=by
 refine f80 ?_
 have e1:bm 24 h (.agg #[vs,I w])=some (pt h.length 0,h++[.arr 24 [vs,I w]]):=rfl
 simp only [OW,e1,aA]
 have x0:EX h (h++[.arr 24 [vs,I w]]):=EX.append _ _
 have k0:(h++[aj.arr 24 [vs,I w]])[h.length]?=some (.arr 24 [vs,I w]):=bn
 generalize h++[aj.arr 24 [vs,I w]]=g0 at x0 k0⊢
 have ld:af false 1 g0 (pt h.length 0)=some vs:=by simp [af,aP,k0,b9]
 have hlen:=hv.len
 simp only [bU,add_zero,ah,ld,hlen]
 refine dj (σ:=Nat×Value×ae) (fun q=>[q.2.1,I q.1]) (fun q=>q.2.2) (fun q=>q.1≤ls.length∧EX g0 q.2.2∧(ls.take q.1).all isNum=true∧oB g0.length q.2.2 q.2.1 (ry ((ls.take q.1).map gV))) (fun q=>ls.length-q.1)
  (0,.slice none 0 0,g0) rfl rfl ⟨zero_le _,EX.refl _,by simp,by simpa [ry] using oB.start g0.length g0⟩ ?_
 rintro ⟨i,vo,g⟩ ⟨hi,xg,fA,own⟩ L hL
 simp only at hi xg fA own hL⊢
 rw [aDY]
 simp only [cA,ah,bR]
 refine ⟨fun aD=>?_,fun cJ=>?_⟩
 ·have bC:i<ls.length:=by omega
  obtain ⟨b,o,r1,r2⟩:=(hv.mono (x0.trans xg)).get i bC
  simp only [r1,r2,ah]
  have e7:∀(g:ae),aV 107 [(.bool false),(.slice none 0 0),(.bool false),(.slice none 0 0)] g=some (pt g.length 0,g++[.arr 107 z4]):=fun _=>rfl
  refine an5 (hl _ (getElem_mem bC)) (fun JI r g1 x1 hr=>?_) (fun JI a b c e g1 x1=>?_)
  ·obtain ⟨a,b',c,d,rfl⟩:=hr.agg
   simp only [dX,eD,eI,ah,e7,aA]
   rw [oa bn]
   simp only [aA,oc,ah,Bool.not_true,dF]
   rw [iH (ck bn)]
   simp only [ah]
   have x2:EX g1 ((g1++[aj.arr 107 z4]).set g1.length (.arr 107 [B a,b',B c,d])):=EX.set (EX.append _ _) (le_refl _) _
   generalize (g1++[aj.arr 107 z4]).set g1.length (.arr 107 [B a,b',B c,d])=g2 at x2⊢
   have aC:=x1.trans x2
   refine (own.ex aC).app (xg.trans aC) (hr.mono x2) rfl (by rw [AV,List.length_map,length_take];omega) ?_
   intro v' g3 x3 _ sD
   simp only [cf,ah,eR i (by omega),true_and]
   refine hL (i+1,v',g3) ⟨by show i+1≤_;omega,x3,?_,?_⟩ (by show ls.length-(i+1)<ls.length-i;omega)
   ·show (ls.take (i+1)).all isNum=true
    rw [take_succ_eq_append_getElem bC,List.all_append,fA]
    simpa using JI
   ·show oB g0.length g3 v' (ry ((ls.take (i+1)).map gV))
    rw [take_succ_eq_append_getElem bC,List.map_append]
    simpa [ry] using sD
  ·simp only [dX,eD,eI,ah,e7,aA]
   rw [oa bn]
   simp only [aA,oc,ah,Bool.not_false,c8]
   refine eK ?_ _ ((x0.trans (xg.trans x1)).trans (EX.set (EX.append _ _) (le_refl _) _))
   cases he:ls.all isNum with
   | false=>rfl
   | true=>rw [List.all_eq_true] at he;rw [he _ (getElem_mem bC)] at JI;cases JI
 ·have fH:i=ls.length:=by omega
  subst fH
  rw [take_length] at fA own
  rw [aDX]
  exact hk fA vo g _ (x0.trans xg) own
end
end
section
def eB (qs:List Rat):Rat:=qs.foldl (·+·) 0
theorem LY {qs:List Rat} {i:Nat} (h:i<qs.length):eB (qs.take (i+1))=eB (qs.take i)+qs[i]:=by
 unfold eB
 rw [take_succ_eq_append_getElem h,List.foldl_append]
 rfl
theorem CC {N:Int} {D k:Nat} (hD:0<D) (h1:N.natAbs<10^k) (h2:D<10^k):bP k (mkRat N D):=by
 obtain ⟨e1,e2⟩:=AI (N:=N) hD
 have hg:0<gcd N.natAbs D:=Nat.gcd_pos_of_pos_right _ hD
 refine ⟨?_,?_⟩
 ·rw [e1]
  have hd:(gcd N.natAbs D:Int) ∣ N:=Int.ofNat_dvd_left.2 (Nat.gcd_dvd_left ..)
  rw [Int.natAbs_ediv_of_dvd hd,natAbs_natCast]
  exact Nat.lt_of_le_of_lt (Nat.div_le_self ..) h1
 ·rw [e2];exact Nat.lt_of_le_of_lt (Nat.div_le_self ..) h2
theorem bP.add {i j:Nat} {p q:Rat} (hp:bP i p) (hq:bP j q):bP (i+j+1) (p+q):=by
 obtain ⟨c1,c2,c3,_⟩:=yZ hp hq
 rw [Pe]
 have h1:10^(i+j+1)=10^(i+j)*10:=Nat.pow_succ ..
 refine CC (mul_pos p.den_pos q.den_pos) ?_ ?_
 ·rw [h1];generalize 10^(i+j)=Z at*;omega
 ·rw [h1];generalize 10^(i+j)=Z at*;omega
theorem bP.mul {i j:Nat} {p q:Rat} (hp:bP i p) (hq:bP j q):bP (i+j) (p*q):=by
 obtain ⟨_,_,c3,c4⟩:=yZ hp hq
 rw [TA]
 exact CC (mul_pos p.den_pos q.den_pos) c4 c3
theorem bP.div {i j:Nat} {p q:Rat} (hp:bP i p) (hq:bP j q) (h0:0<q.num):bP (i+j) (p / q):=by
 obtain ⟨c1,c2,_,_⟩:=yZ hp hq
 rw [adl h0]
 refine CC (mul_pos p.den_pos (by omega)) c1 ?_
 rw [Int.natAbs_mul,natAbs_natCast,Nat.mul_comm] at c2
 have:q.num.toNat=q.num.natAbs:=by omega
 rw [this];exact c2
theorem bP.le {i j:Nat} {p:Rat} (h:bP i p) (eP:i≤j):bP j p:=
 ⟨lt_of_lt_of_le h.1 (pow_le_pow_right (by decide) eP),lt_of_lt_of_le h.2 (pow_le_pow_right (by decide) eP)⟩
theorem bP.zero:bP 1 (0:Rat):=by constructor <;> decide
theorem CW {qs:List Rat} (h:∀q∈qs,bP 4 q):∀i,i≤qs.length→bP (5*i+1) (eB (qs.take i))
 | 0,_=>by rw [List.take_zero];exact bP.zero
 | i+1,hi=>by
  rw [LY (by omega)]
  exact ((CW h i (by omega)).add (h _ (getElem_mem (by omega)))).le (by omega)
theorem RV.bM {h:ae} {v:Value} {q:Rat} {j:Nat} {e:TypeId} {s:Bool} {r:List Value} (p:RV h v q) (hj:h[j]?=some (.arr e (.bool s::r))) (o:aj):RV (h.set j o) v q:=iB.bM p hj o
theorem QL.from {h:ae} {v:Value} {qs:List Rat} (p:QL h v qs) {k:Nat} (hk:k≤qs.length):∃v',mT 107 4 v (some (I k)) none=some v'∧QL h v' (qs.drop k):=by
 obtain ⟨rows,a,b,c⟩:=p
 rw [AV] at b
 obtain ⟨v',e1,e2⟩:=a.from (k:=k) (by omega)
 refine ⟨v',e1,rows.drop k,e2,by simp [ry];omega,fun j row q h1 h2=>?_⟩
 rw [List.getElem?_drop] at h1
 refine c (k+j) row q h1 ?_
 rw [←h2]
 unfold ry
 rw [List.getElem?_map,List.getElem?_map,List.getElem?_drop]
section
variable {h : ae} {K : Value → ae → Prop}
theorem MF {v:Value} {n w:Int} {age:Nat} {qs:List Rat} (hq:QL h v qs) (ha:age≤qs.length) (hs:∀q∈qs,bP 4 q) (hn:qs.length≤20) (hk:∀r h',EX h h'→RV h' r (eB (qs.drop age))→K r h'):
  ak prog 85 [.agg #[I n,I w,v],I age] h K:=by
 obtain ⟨rows,rs,_,_⟩:=id hq
 obtain ⟨t1,t2⟩:=rs.one
 refine f85 ?_
 have e1:bm 102 h (.agg #[I n,I w,v])=some (pt h.length 0,h++[.arr 102 [I n,I w,v]]):=rfl
 have e7:∀(g:ae),aV 107 [(.bool false),(.slice none 0 0),(.bool false),(.slice none 0 0)] g=some (pt g.length 0,g++[.arr 107 z4]):=fun _=>rfl
 simp only [O1,e1,e7,aA]
 have x0:EX h (h++[.arr 102 [I n,I w,v]]):=EX.append _ _
 have k0:(h++[aj.arr 102 [I n,I w,v]])[h.length]?=some (.arr 102 [I n,I w,v]):=bn
 generalize h++[aj.arr 102 [I n,I w,v]]=g0 at x0 k0⊢
 have x1:EX g0 (g0++[.arr 107 z4]):=EX.append _ _
 have k1:(g0++[aj.arr 107 z4])[g0.length]?=some (.arr 107 z4):=bn
 generalize g0++[aj.arr 107 z4]=g1 at x1 k1⊢
 refine tX (n:=0) (by decide) (by decide) ?_
 intro r2 g2 x2 yb
 obtain ⟨a,b,c,d,rfl⟩:=yb.agg
 have x3:EX g2 (g2++[.arr 107 z4]):=EX.append _ _
 have k3:(g2++[aj.arr 107 z4])[g2.length]?=some (.arr 107 z4):=bn
 generalize g2++[aj.arr 107 z4]=g3 at x3 k3⊢
 have Cj:=yb.mono x3
 rw [oa k3]
 simp only [aA]
 have hl0:=x0.1
 have zR:=x1.1
 have p7:=x2.1
 have JC:=(bL k1).1
 have k4:(g3.set g2.length (.arr 107 [B a,b,B c,d]))[g2.length]?=some (.arr 107 [B a,b,B c,d]):=ck k3
 have wx:RV (g3.set g2.length (.arr 107 [B a,b,B c,d])) (.agg #[B a,b,B c,d]) 0:=by
  have:=Cj.bM k3 (.arr 107 [B a,b,B c,d])
  simpa using this
 have x4:EX g2 (g3.set g2.length (.arr 107 [B a,b,B c,d])):=x3.set (le_refl _) _
 generalize g3.set g2.length (.arr 107 [B a,b,B c,d])=g4 at k4 wx x4⊢
 have Mi:=x0.trans (x1.trans x2)
 have kY:=(x2.trans x4).get k1
 have ld:af false 1 g4 (pt h.length 2)=some v:=by simp [af,aP,(x1.trans (x2.trans x4)).get k0,b9]
 obtain ⟨v',s1,s2⟩:=(hq.mono Mi).from ha
 have hlen:=s2.len
 simp only [bU,zero_add,ah,ld,s1,hlen]
 have ER:∀q∈qs.drop age,bP 4 q:=fun q hm=>hs q (List.mem_of_mem_drop hm)
 have qh:(qs.drop age).length≤20:=by rw [length_drop];omega
 generalize qs.drop age=ps at*
 refine dj (σ:=Nat×ae×(Bool×Value×Bool×Value)) (fun q=>[I q.1]) (fun q=>q.2.1)
  (fun q=>q.1≤ps.length∧EX g2 q.2.1∧q.2.1[g2.length]?=some (.arr 107 [B q.2.2.1,q.2.2.2.1,B q.2.2.2.2.1,q.2.2.2.2.2])∧q.2.1[g0.length]?=some (.arr 107 z4)∧RV q.2.1 (.agg #[B q.2.2.1,q.2.2.2.1,B q.2.2.2.2.1,q.2.2.2.2.2]) (eB (ps.take q.1))) (fun q=>ps.length-q.1)
  (0,g4,a,b,c,d) rfl rfl ⟨zero_le _,x4,k4,kY,wx⟩ ?_
 rintro ⟨i,g,a,b,c,d⟩ ⟨hi,xg,kg,kz,hr⟩ L hL
 simp only at hi xg kg kz hr hL⊢
 have qP:=s2.mono xg
 rw [aD2]
 simp only [cA,ah,bR]
 refine ⟨fun aD=>?_,fun cJ=>?_⟩
 ·have bC:i<ps.length:=by omega
  obtain ⟨bi,oi,r,u1,u2,u3⟩:=qP.get bC
  obtain ⟨a',b',c',d',rfl⟩:=u3.agg
  simp only [u1,u2,ah,e7,aA]
  have y1:EX g (g++[.arr 107 z4]):=EX.append _ _
  have j1:(g++[aj.arr 107 z4])[g.length]?=some (.arr 107 z4):=bn
  generalize g++[aj.arr 107 z4]=ga at y1 j1⊢
  rw [oa j1]
  simp only [aA]
  have y2:EX g (ga.set g.length (.arr 107 [B a',b',B c',d'])):=y1.set (le_refl _) _
  have j2:(ga.set g.length (.arr 107 [B a',b',B c',d']))[g.length]?=some (.arr 107 [B a',b',B c',d']):=ck j1
  generalize ga.set g.length (.arr 107 [B a',b',B c',d'])=gb at y2 j2⊢
  have kb:=y2.get kg
  rw [iH kb,ah,iH j2,ah]
  refine yF (hr.mono y2) (u3.mono y2) (CW ER i hi) (ER _ (getElem_mem bC)) (by omega) ?_
  intro r5 g5 x5 qT
  rw [←LY bC] at qT
  obtain ⟨a2,b2,c2,d2,rfl⟩:=qT.agg
  have kc:=x5.get kb
  rw [oa kc]
  simp only [aA,cf,eR i (by omega),ah,true_and]
  have wh:=(bL kg).1
  have kz5:=(y2.trans x5).get kz
  refine hL (i+1,g5.set g2.length (.arr 107 [B a2,b2,B c2,d2]),a2,b2,c2,d2) ⟨by show i+1≤_;omega,(xg.trans (y2.trans x5)).set (le_refl _) _,ck kc,?_,qT.bM kc _⟩ (by show ps.length-(i+1)<ps.length-i;omega)
  rw [getElem?_set_ne (by omega)];exact kz5
 ·have fH:i=ps.length:=by omega
  subst fH
  rw [take_length] at hr
  rw [aD1,iH kg,ah]
  have hgz:g0.length≠g2.length:=by omega
  refine rR kz (hk _ _ ((Mi.trans xg).set (by omega) _) (hr.bM kz _))
end
end
section
def mI (q:Rat):Bool:=decide (q.num<0)|| !Ei 4 q
theorem aAB:pP prog 83=true:=by kernel_rfl
def yq:Nat:=700
theorem aEr {s:List UInt8} (hl:s.length≤700):bP yq (gV s):=by
 have sm:(fT s).length≤700:=by
  unfold fT
  split
  ·rw [List.length_tail];omega
  ·exact hl
 have lo:(dM (fT s)).length≤700:=by unfold dM;rw [length_take];omega
 have lu:(dU (fT s)).length≤700:=by unfold dU;rw [length_drop];omega
 have p1:cL (dM (fT s))<10^yq:=lt_of_lt_of_le (L7 _) (pow_le_pow_right (by decide) (show _≤yq from lo))
 have p2:cL (dU (fT s))<10^yq:=lt_of_lt_of_le (L7 _) (pow_le_pow_right (by decide) (show _≤yq from lu))
 cases e:ke s with
 | none=>
  have:gV s=0:=by unfold gV;rw [e]
  rw [this]
  exact bP.zero.le (by decide)
 | some q=>
  obtain ⟨n,d⟩:=q
  obtain ⟨e1,e2⟩:=VP e
  unfold bP
  rw [e1,e2]
  rw [Vl] at e
  unfold ru at e
  split at e
  ·injection e with e
   injection e with h1 h2
   have hs:=(Wi (m:=decide (s.head?=some 45)) (n:=cL (dM (fT s)))).2
   refine ⟨by rw [←h1];exact Nat.lt_of_le_of_lt (Nat.le_of_eq hs) p1,?_⟩
   rw [←h2]
   unfold pT
   split
   ·exact p2
   ·exact Nat.one_lt_pow (by decide) (by decide)
  ·cases e
section
variable {h : ae} {K : Value → ae → Prop}
theorem C83 {v:Value} {q:Rat} (hq:RV h v q) (sq:bP yq q) (hk:∀h',EX h h'→K (B (mI q)) h'):ak prog 83 [v] h K:=by
 have Ci:=hq
 obtain ⟨a,b,c,d,rfl⟩:=hq.agg
 refine f83 ?_
 have e1:bm 107 h (.agg #[B a,b,B c,d])=some (pt h.length 0,h++[.arr 107 [B a,b,B c,d]]):=rfl
 simp only [OZ,e1,aA]
 have x0:EX h (h++[.arr 107 [B a,b,B c,d]]):=EX.append _ _
 have k0:(h++[aj.arr 107 [B a,b,B c,d]])[h.length]?=some (.arr 107 [B a,b,B c,d]):=bn
 generalize h++[aj.arr 107 [B a,b,B c,d]]=g0 at x0 k0⊢
 rw [iH k0,ah]
 refine XH (Ci.mono x0) ?_
 intro g1 x1
 have hs:decide (mc q.num<0)=decide (q.num<0):=by
  rw [decide_eq_decide]
  unfold mc
  split
  ·omega
  ·split <;> omega
 simp only [cA,ah,hs]
 rw [aDZ]
 unfold mI at hk
 by_cases hn:q.num<0
 ·rw [aU hn] at hk⊢
  simp only [fw]
  rw [amJ]
  simp only [dZ,ah]
  exact hk g1 (x0.trans x1)
 ·rw [aS hn] at hk⊢
  simp only [dR]
  rw [iH (x1.get k0),ah]
  refine C84 (k:=4) ((Ci.mono x0).mono x1) sq (by decide) (by decide) (by decide) ?_
  intro g2 x2
  simp only [oc,ah]
  rw [amJ]
  simp only [cK,ah]
  rw [Bool.false_or] at hk
  exact hk g2 (x0.trans (x1.trans x2))
theorem C82 {v:Value} {qs:List Rat} (hq:QL h v qs) (sq:∀q∈qs,bP yq q) (hn:qs.length≤1000) (hk:∀h',EX h h'→K (B (qs.any mI)) h'):ak prog 82 [v,.func (.func 83) #[] #[]] h K:=by
 refine f82 ?_
 unfold OY
 refine f110 ?_
 unfold NK
 simp only [hq.len,ah]
 refine dj (σ:=Nat×ae) (fun q=>[I q.1]) (fun q=>q.2) (fun q=>q.1≤qs.length∧EX h q.2∧(qs.take q.1).any mI=false) (fun q=>qs.length-q.1) (0,h) rfl rfl ⟨zero_le _,EX.refl _,by simp⟩ ?_
 rintro ⟨i,g⟩ ⟨hi,xg,dh⟩ L hL
 simp only at hi xg dh hL⊢
 rw [aBt]
 simp only [cA,ah,bR]
 refine ⟨fun aD=>?_,fun cJ=>?_⟩
 ·have bC:i<qs.length:=by omega
  obtain ⟨b,o,r,u1,u2,u3⟩:=(hq.mono xg).get bC
  simp only [u1,u2,ah]
  refine DV aAB ?_
  simp only [append_nil]
  refine C83 u3 (sq _ (getElem_mem bC)) ?_
  intro g1 x1
  cases hb:mI qs[i] with
  | true=>
   simp only [c8,nk,ah,aU (show (0:Int)≤(i:Int) by omega)]
   have:qs.any mI=true:=List.any_eq_true.2 ⟨_,getElem_mem bC,hb⟩
   rw [this] at hk
   exact hk g1 (xg.trans x1)
  | false=>
   simp only [dF,cf,eR i (by omega),ah,true_and]
   refine hL (i+1,g1) ⟨by show i+1≤_;omega,xg.trans x1,?_⟩ (by show qs.length-(i+1)<qs.length-i;omega)
   show (qs.take (i+1)).any mI=false
   rw [take_succ_eq_append_getElem bC,List.any_append,dh]
   simpa using hb
 ·have fH:i=qs.length:=by omega
  subst fH
  rw [take_length] at dh
  rw [dh] at hk
  simp only [nk,ah,show decide ((0:Int)≤ -1)=false from rfl]
  exact hk g xg
end
end
section
def Cv:Value→Bool
 | .int .u32 _=>true
 | .bool _=>true
 | _=>false
theorem KP.sub {p q:Value→Bool} {h h':ae} (JO:∀v,q v=true→p v=true) (x:KP p h h'):KP q h h':=fun d c r h1 h2=>x d c r h1 (JO c h2)
theorem ay0 (v:Value) (h:uL v=true):Cv v=true:=by
 unfold uL at h
 split at h
 ·rfl
 ·cases h
def QB (h:ae) (v:Value) (qs:List Rat):Prop:=QL h v qs∧(qs=[]∨∃i o n c r,v=sl 107 i o n∧aP h i=some (c::r)∧Cv c=true)
theorem QB.mono {h h':ae} {v:Value} {qs:List Rat} (x:EX h h') (p:QB h v qs):QB h' v qs:=⟨p.1.mono x,p.2.imp id fun ⟨i,o,n,c,r,a,b,d⟩=>⟨i,o,n,c,r,a,x.cells b,d⟩⟩
theorem QB.ep {h h':ae} {v:Value} {qs:List Rat} (x:KP Cv h h') (p:QB h v qs):QB h' v qs:=by
 obtain ⟨⟨rows,a,b,c⟩,q⟩:=p
 rw [AV] at b
 have rat:∀(k:Nat) (row:List Value) (q:Int×Int),rows[k]?=some row→(ry qs)[k]?=some q→iB h' (.agg row.toArray) q.1 q.2:=fun k row q h1 h2=>(c k row q h1 h2).ep (KP.sub ay0 x)
 refine ⟨⟨rows,⟨a.1,?_⟩,by rw [AV];exact b,rat⟩,q.imp id fun ⟨i,o,n,c,r,e1,e2,e3⟩=>⟨i,o,n,c,r,e1,x i c r e2 e3,e3⟩⟩
 rcases a.2 with h0 | ⟨i,o,e1,e2⟩
 ·exact .inl h0
 ·refine .inr ⟨i,o,e1,?_⟩
  rcases e2 with e2 | ⟨pre,post,e2,e3⟩
  ·exact .inl e2
  ·rcases q with q | ⟨i',o',n',c',r',f1,f2,f3⟩
   ·left
    exact List.length_eq_zero_iff.1 (by rw [b,q];rfl)
   ·right
    rw [e1] at f1
    have hi:i=i':=by
     simp only [sl] at f1
     injection f1 with f1
     injection f1 with f1
     injection f1
    subst hi
    refine ⟨pre,post,?_,e3⟩
    rw [←e2,f2]
    exact x i c' r' f2 f3
theorem oB.qb {b:Nat} {h:ae} {v:Value} {qs:List Rat} (o:oB b h v (ry qs)):QB h v qs:=by
 refine ⟨o.aEq,?_⟩
 obtain ⟨rows,o1,o2,o3,_⟩:=o
 rw [AV] at o2
 cases rows with
 | nil=>left;exact List.length_eq_zero_iff.1 (by rw [←o2];rfl)
 | cons row rows=>
  right
  rcases o1.2 with ⟨_,h0⟩ | ⟨i,_,e1,e2⟩
  ·cases h0
  ·obtain ⟨s,t,e3⟩:=o3 row (by simp)
   refine ⟨i,0,_,.bool s,t++rows.flatten,e1,?_,rfl⟩
   simp [aP,e2,e3]
def LK (h:ae) (v:Value) (cs:List (List Rat×Int)):Prop:=
 ∃rows,RS h 102 3 v rows∧rows.length=cs.length∧∀(k:Nat) (row:List Value) (c:List Rat×Int),rows[k]?=some row→cs[k]?=some c→∃vq,row=[I c.1.length,I c.2,vq]∧QB h vq c.1
theorem LK.mono {h h':ae} {v:Value} {cs:List (List Rat×Int)} (x:EX h h') (p:LK h v cs):LK h' v cs:=
 let ⟨rows,a,b,c⟩:=p;⟨rows,a.mono x,b,fun k row q h1 h2=>let ⟨vq,e,m⟩:=c k row q h1 h2;⟨vq,e,m.mono x⟩⟩
theorem LK.len {h:ae} {v:Value} {cs:List (List Rat×Int)} (p:LK h v cs):bj v=some (I cs.length):=by
 obtain ⟨rows,a,b,_⟩:=p;rw [←b];exact a.len
theorem LK.get {h:ae} {v:Value} {cs:List (List Rat×Int)} (p:LK h v cs) {k:Nat} (hk:k<cs.length):∃i o vq,bf 3 v (I k)=some (pt i o)∧af true 3 h (pt i o)=some (.agg #[I cs[k].1.length,I cs[k].2,vq])∧QB h vq cs[k].1:=by
 obtain ⟨rows,a,b,c⟩:=p
 have cj:k<rows.length:=by omega
 obtain ⟨i,o,cells,g1,g2,g3,g4⟩:=a.get cj
 obtain ⟨vq,e,m⟩:=c k _ _ (getElem?_eq_getElem cj) (getElem?_eq_getElem hk)
 have:=VY g2 g3 g4
 rw [e] at this
 exact ⟨i,o,vq,g1,this,m⟩
def qB (b:Nat) (h:ae) (v:Value) (cs:List (List Rat×Int)):Prop:=
 ∃rows,kr b h 102 3 v rows∧rows.length=cs.length∧(∀r∈rows,∃n t,r=I n::t)∧∀(k:Nat) (row:List Value) (c:List Rat×Int),rows[k]?=some row→cs[k]?=some c→∃vq,row=[I c.1.length,I c.2,vq]∧QB h vq c.1
theorem qB.start (b:Nat) (h:ae):qB b h (.slice none 0 0) []:=⟨[],kr.start ..,rfl,fun r hr=>by simp at hr,fun k r q h=>by simp at h⟩
theorem qB.lk {b:Nat} {h:ae} {v:Value} {cs:List (List Rat×Int)} (o:qB b h v cs):LK h v cs:=let ⟨rows,a,c,_,d⟩:=o;⟨rows,a.rs,c,d⟩
theorem qB.ex {b:Nat} {h h':ae} {v:Value} {cs:List (List Rat×Int)} (x:EX h h') (o:qB b h v cs):qB b h' v cs:=
 let ⟨rows,a,c,e,d⟩:=o;⟨rows,a.ex x,c,e,fun k row q h1 h2=>let ⟨vq,e,m⟩:=d k row q h1 h2;⟨vq,e,m.mono x⟩⟩
theorem awQ {rows:List (List Value)} (h:∀r∈rows,∃n t,r=I n::t):∀c r,rows.flatten=c::r→Cv c=false:=by
 cases rows with
 | nil=>intro c r e;simp at e
 | cons row rows=>
  obtain ⟨n,t,rfl⟩:=h row (by simp)
  intro c r e
  simp at e
  rw [←e.1];rfl
theorem qB.app {h0 h:ae} {v vq:Value} {qs:List Rat} {w:Int} {cs:List (List Rat×Int)} {zs:List Value} {K:Value→ae→Prop} (o:qB h0.length h v cs) (hex:EX h0 h) (hq:QB h vq qs) (hz:zs.length=3) (hl:cs.length≤10000)
  (hk:∀v' h',EX h0 h'→KP Cv h h'→qB h0.length h' v' (cs++[(qs,w)])→K v' h'):OH (dK 102 1 zs h [(0,3,.agg #[I qs.length,I w,vq])]) fun y h2=>OH (dY 102 3 40 h2 v y) K:=by
 obtain ⟨rows,o1,o2,o3,o4⟩:=o
 obtain ⟨rq,rs,_,_⟩:=id hq.1
 obtain ⟨t1,t2⟩:=rs.one
 refine o1.app hex hz (row:=[I qs.length,I w,vq]) rfl (by simp [cW,Value.cells]) rfl (by omega) (by simp [maxLen];omega) ?_
 intro v' h' x' lI o'
 have kp:KP Cv h h':=o1.kp (awQ o3) lI
 refine hk v' h' x' kp ⟨_,o',by simp [o2],fun r hr=>?_,fun k row q h1 h2=>?_⟩
 ·rcases mem_append.1 hr with hr | hr
  ·exact o3 r hr
  ·rw [mem_singleton.1 hr];exact ⟨_,_,rfl⟩
 ·by_cases hk:k<rows.length
  ·rw [getElem?_append_left hk] at h1
   rw [getElem?_append_left (by omega)] at h2
   obtain ⟨WI,e,m⟩:=o4 k row q h1 h2
   exact ⟨WI,e,m.ep kp⟩
  ·rw [getElem?_append_right (by omega)] at h1
   rw [getElem?_append_right (by omega),←o2] at h2
   have h0:k-rows.length=0:=by
    have:=(bL h1).1
    simp at this;omega
   rw [h0] at h1 h2
   simp only [List.getElem?_cons_zero,Option.some.injEq] at h1 h2
   subst h1 h2
   exact ⟨vq,rfl,hq.ep kp⟩
end
end Go.Proofs.YtelmdbpaoifmoaaGreat
