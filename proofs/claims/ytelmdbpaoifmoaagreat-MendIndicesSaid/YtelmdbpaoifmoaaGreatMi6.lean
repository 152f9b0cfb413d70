/-
  Part 6 of the texts behind a statement of this seat: Zs1, Zp2, ZN5, Kp1, Kp2, Kp3, Kp4, Zp4, Zp5, ZMe10, Zs2, Sq27, ZM3, Sim33, Zs4, Zp3, ZB, ZMe8, Sq21, ZMe9, ZMd, ZMe15, Sq23, Sq28, Sq29, Zs5, ZSd, Zs6, Kp5, ZN6, Kp6, Kp7, Kp8, Kp9, ZN7, Kp10, ZK2, Kp11, Kp12.
-/
import Derived.Test.YtelmdbpaoifmoaaGreatProg
import Derived.KernelRfl
import Derived.Test.YtelmdbpaoifmoaaGreatMi5
namespace Go.Proofs.YtelmdbpaoifmoaaGreat
open Go.Sim

theorem C54 {va vb:Value} {a b:Int} {h:Heap} {K:Value→Heap→Prop} (ha:ZV h va a) (hb:ZV h vb b) (b0:0≤b) (hk:∀r h',EX h h'→QZ h' r a b→K r h'):CallP Tryz.prog 54 [va,vb] h K:=by
 obtain ⟨v,rfl,hv⟩:=ha
 obtain ⟨w,rfl,hw⟩:=hb
 have hsb:decide (b<0)=false:=decide_eq_false (by omega)
 refine f54 ?_
 have e1:∀(g:Heap) (s:Bool) (v:Value),iBox 35 g (.agg #[B s,v])=some (pt g.length 0,g++[.arr 35 [B s,v]]):=fun _ _ _=>rfl
 have e3:∀(g:Heap),iAlloc 37 [(.bool false),(.slice none 0 0),(.bool false),(.slice none 0 0)] g=some (pt g.length 0,g++[.arr 37 z4]):=fun _=>rfl
 simp only [T54,e1,e3,OH_some]
 have q0:EX h (h++[.arr 35 [B (decide (a<0)),v]]):=EX.append _ _
 have p0:(h++[IObj.arr 35 [B (decide (a<0)),v]])[h.length]?=some (.arr 35 [B (decide (a<0)),v]):=get_last
 generalize h++[IObj.arr 35 [B (decide (a<0)),v]]=ga at q0 p0⊢
 have q1:EX ga (ga++[.arr 35 [B (decide (b<0)),w]]):=EX.append _ _
 have p1:(ga++[IObj.arr 35 [B (decide (b<0)),w]])[ga.length]?=some (.arr 35 [B (decide (b<0)),w]):=get_last
 generalize ga++[IObj.arr 35 [B (decide (b<0)),w]]=gb at q1 p1⊢
 have q2:EX gb (gb++[.arr 37 z4]):=EX.append _ _
 have p2:(gb++[IObj.arr 37 z4])[gb.length]?=some (.arr 37 z4):=get_last
 generalize gb++[IObj.arr 37 z4]=gc at q2 p2⊢
 have k0:=(q1.trans q2).get p0
 have k1:=q2.get p1
 have x0:=q0.trans (q1.trans q2)
 have l1:iLoad false 1 gc (pt ga.length 0)=some (B (decide (b<0))):=by simp [iLoad,objCells,k1,iPart]
 simp only [fadr_pt,Nat.add_zero,OP_some,l1]
 rw [hsb]
 simp only [IfP_false]
 rw [q54z4,load2 k0,load2 k1]
 simp only [OP_some]
 have iva:ZV gc (.agg #[B (decide (a<0)),v]) a:=⟨v,rfl,hv.mono x0⟩
 have ivb:ZV gc (.agg #[B (decide (b<0)),w]) b:=⟨w,rfl,hw.mono x0⟩
 obtain ⟨xs,dx,_⟩:=id (hv.mono x0)
 obtain ⟨ys,dy,_⟩:=id (hw.mono x0)
 rw [build4 dx dy]
 simp only [OP_some]
 exact fin4 p2 (hk _ _ (x0.set (q0.trans q1).1 _) ⟨v,w,rfl,(hv.mono x0).setB p2 _,(hw.mono x0).setB p2 _⟩)

theorem decS_one {n:Nat} (hn:n<bigW) (h:decS n=[49]):n=1:=by
 have:=(decS_facts hn).2.2.2.2
 rw [h] at this
 simpa [valB] using this.symm

theorem C53q {va:Value} {a b:Int} {h:Heap} {K:Value→Heap→Prop} (ha:QZ h va a b) (b0:0<b) (la:a.natAbs<10000^199) (lb:b.natAbs<10000^199) (hk:∀h',EX h h'→K (.tuple #[S (ratS (a / (Nat.gcd a.natAbs b.natAbs:Int)) (b / (Nat.gcd a.natAbs b.natAbs:Int))),B true]) h'):CallP Tryz.prog 53 [va] h K:=by
 have ha0:=ha
 obtain ⟨u,w,rfl,hu,hw⟩:=ha
 refine f53 ?_
 have e1:iBox 37 h (.agg #[B (decide (a<0)),u,B (decide (b<0)),w])=some (pt h.length 0,h++[.arr 37 [B (decide (a<0)),u,B (decide (b<0)),w]]):=rfl
 simp only [T53,e1,OH_some]
 have x1:EX h (h++[IObj.arr 37 [B (decide (a<0)),u,B (decide (b<0)),w]]):=EX.append _ _
 have k1:(h++[IObj.arr 37 [B (decide (a<0)),u,B (decide (b<0)),w]])[h.length]?=some (.arr 37 [B (decide (a<0)),u,B (decide (b<0)),w]):=get_last
 generalize h++[IObj.arr 37 [B (decide (a<0)),u,B (decide (b<0)),w]]=h1 at x1 k1⊢
 rw [load4 k1]
 simp only [OP_some]
 refine C25 (ha0.mono x1) b0 la lb ?_
 intro r h2 x2 q2
 have hg0:0<Nat.gcd a.natAbs b.natAbs:=Nat.gcd_pos_of_pos_right _ (by omega)
 have hgle:Nat.gcd a.natAbs b.natAbs≤b.natAbs:=Nat.gcd_le_right _ (by omega)
 have hda:(Nat.gcd a.natAbs b.natAbs:Int) ∣ a:=Int.gcd_dvd_left ..
 have hdb:(Nat.gcd a.natAbs b.natAbs:Int) ∣ b:=Int.gcd_dvd_right ..
 generalize hG:Nat.gcd a.natAbs b.natAbs=G at*
 have la':(a / (G:Int)).natAbs<10000^199:=by
  obtain ⟨c,rfl⟩:=hda
  rw [Int.mul_ediv_cancel_left c (by omega)]
  have:c.natAbs≤((G:Int)*c).natAbs:=by rw [Int.natAbs_mul];exact Nat.le_mul_of_pos_left _ (by omega)
  omega
 have b1:0<b / (G:Int)∧(b / (G:Int)).natAbs<10000^199:=by
  obtain ⟨c,rfl⟩:=hdb
  rw [Int.mul_ediv_cancel_left c (by omega)]
  have hc:0<c:=by
   apply Classical.byContradiction
   intro hneg
   have:=Int.mul_nonpos_of_nonneg_of_nonpos (show (0:Int)≤(G:Int) by omega) (show c≤0 by omega)
   omega
  have:c.natAbs≤((G:Int)*c).natAbs:=by rw [Int.natAbs_mul];exact Nat.le_mul_of_pos_left _ (by omega)
  exact ⟨hc,by omega⟩
 generalize a / (G:Int)=A at*
 generalize b / (G:Int)=D at*
 obtain ⟨D0,lD⟩:=b1
 obtain ⟨u',w',rfl,hu',hw'⟩:=q2
 have hsD:decide (D<0)=false:=decide_eq_false (by omega)
 have k2:=x2.get k1
 rw [store4 k2]
 simp only [OH_some]
 have x3:EX h (h2.set h.length (.arr 37 [B (decide (A<0)),u',B (decide (D<0)),w'])):=(x1.trans x2).set (Nat.le_refl _) _
 have k3:=set_get (o:=.arr 37 [B (decide (A<0)),u',B (decide (D<0)),w']) k2
 have hu3:=hu'.setB k2 (.arr 37 [B (decide (A<0)),u',B (decide (D<0)),w'])
 have hw3:=hw'.setB k2 (.arr 37 [B (decide (A<0)),u',B (decide (D<0)),w'])
 generalize h2.set h.length (.arr 37 [B (decide (A<0)),u',B (decide (D<0)),w'])=h3 at x3 k3 hu3 hw3⊢
 have p201:(10000:Nat)^199<10000^201:=by decide+kernel
 have hb:=big201 (n:=A.natAbs) (by omega)
 have hD:=big201 (n:=D.natAbs) (by omega)
 simp only [fadr_pt,Nat.add_zero,Nat.zero_add,load4a k3,OP_some,true_and]
 refine C94 (⟨u',rfl,hu3⟩:ZV h3 _ A) ?_
 intro ua h4 x4 m4
 refine C93 m4.toZ hb ?_
 intro h5 x5
 have ld0:∀{g},EX h3 g→iLoad false 1 g (pt h.length 0)=some (B (decide (A<0))):=fun y=>EX.load y (by simp [iLoad,objCells,k3,iPart])
 simp only [load4b k3,EX.load x4 (load4b k3),EX.load (x4.trans x5) (load4b k3),OP_some,true_and]
 have hw5:MagZ h5 w' D.natAbs:=(hw3.mono x4).mono x5
 have zD:ZV h5 (.agg #[B (decide (D<0)),w']) ((D.natAbs:Nat):Int):=⟨w',by rw [hsD,decide_eq_false (by omega)],by rwa [Int.natAbs_natCast]⟩
 refine C93 (n:=D.natAbs) zD hD ?_
 intro h6 x6
 obtain ⟨d1,d2,d3,d4,d5⟩:=decS_facts hb
 obtain ⟨c1,c2,c3,c4,c5⟩:=decS_facts hD
 have xx:=(x4.trans x5).trans x6
 have nl:=numS_len hb
 simp only [lenS_S,OP_some,bin_gtr,decide_eq_false (show ¬((decS A.natAbs).length:Int)>4000 by omega),q53z7,GdP_ff,decide_eq_false (show ¬((decS D.natAbs).length:Int)>4000 by omega)]
 simp only [q53z9,iPick_f,OP_some,IfP_false,fadr_pt,Nat.add_zero,ld0 xx]
 have fin:p53z13 Tryz.prog K (S (numS A)) (S (decS D.natAbs)) h6:=by
  rw [q53z13]
  have:iBin .neq (S (decS D.natAbs)) (.string ⟨#[49]⟩)=some (B (!decide (decS D.natAbs=[49]))):=by
   show iBin .neq (S (decS D.natAbs)) (S [49])=_
   rw [bin_neqS]
  simp only [this,OP_some]
  by_cases h1:D=1
  ·subst h1
   have e:ratS A 1=numS A:=by unfold ratS;rw [if_pos rfl]
   have one:decS (1:Int).natAbs=[49]:=by decide+kernel
   rw [one]
   simp only [decide_true,Bool.not_true,IfP_false,q53z16]
   rw [←e]
   exact hk _ (x3.trans xx)
  ·have e:ratS A D=numS A++([47]++decS D.natAbs):=by unfold ratS;rw [if_neg h1];rfl
   have hne:decS D.natAbs≠[49]:=fun h9=>h1 (by have:=decS_one hD h9;omega)
   have a1:iBin .add (.string ⟨#[47]⟩) (S (decS D.natAbs))=some (S ([47]++decS D.natAbs)):=bin_addS (a:=[47]) (b:=decS D.natAbs) (by simp [maxLen];omega)
   have a2:iBin .add (S (numS A)) (S ([47]++decS D.natAbs))=some (S (numS A++([47]++decS D.natAbs))):=bin_addS (a:=numS A) (b:=[47]++decS D.natAbs) (by simp [maxLen];omega)
   rw [decide_eq_false hne]
   simp only [Bool.not_false,IfP_true,a1,a2,OP_some,q53z16]
   rw [←e]
   exact hk _ (x3.trans xx)
 by_cases hneg:A<0
 ·have hs:numS A=45::decS A.natAbs:=by unfold numS;rw [if_pos hneg]
  have ad:iBin .add (.string ⟨#[45]⟩) (S (decS A.natAbs))=some (S (numS A)):=by
   rw [hs]
   exact bin_addS (a:=[45]) (b:=decS A.natAbs) (by simp [maxLen];omega)
  rw [decide_eq_true hneg]
  simp only [IfP_true,ad,OP_some]
  exact fin
 ·have hs:numS A=decS A.natAbs:=by unfold numS;rw [if_neg hneg]
  rw [decide_eq_false hneg,←hs]
  simp only [IfP_false]
  exact fin

theorem C16q {va:Value} {a b:Int} {s:List UInt8} {h:Heap} {K:Value→Heap→Prop} (ha:QZ h va a b) (b0:0<b) (la:a.natAbs<10000^199) (lb:b.natAbs<10000^199) (hk:∀h',EX h h'→K (B (decide (s=ratS (a / (Nat.gcd a.natAbs b.natAbs:Int)) (b / (Nat.gcd a.natAbs b.natAbs:Int))))) h'):CallP Tryz.prog 16 [S s,va] h K:=by
 have ha0:=ha
 obtain ⟨u,w,rfl,hu,hw⟩:=ha
 refine f16 ?_
 have e1:iBox 37 h (.agg #[B (decide (a<0)),u,B (decide (b<0)),w])=some (pt h.length 0,h++[.arr 37 [B (decide (a<0)),u,B (decide (b<0)),w]]):=rfl
 simp only [T16,e1,OH_some]
 have x1:EX h (h++[IObj.arr 37 [B (decide (a<0)),u,B (decide (b<0)),w]]):=EX.append _ _
 rw [load4 get_last]
 simp only [OP_some]
 refine C53q (ha0.mono x1) b0 la lb ?_
 intro h2 x2
 simp only [ext_tuple,pair0,pair1,OP_some,q16z5,GdP_tt,bin_eqlS,q16z7,iPick_t]
 exact hk _ (x1.trans x2)

end Go.Proofs.YtelmdbpaoifmoaaGreat


namespace Go.Proofs.YtelmdbpaoifmoaaGreat
open Go.Sim

def vOf (s:List UInt8):Nat:=if digOk s=true then valB s else 0

theorem vOf_lt (s:List UInt8):vOf s<10^s.length:=by
 unfold vOf
 split
 ·rename_i h
  exact valB_lt (digOk_iff.1 h).2.2
 ·exact Nat.pow_pos (by decide)

theorem pow_four {k n:Nat} (h:k≤4*n):10^k≤10000^n:=by
 have e:10^(4*n)=10000^n:=by rw [Nat.pow_mul]
 rw [←e]
 exact Nat.pow_le_pow_right (by decide) h
theorem pow199_big:(10000:Nat)^199≤bigW:=by unfold bigW;decide+kernel
theorem two199:(2:Nat)<10000^199:=by decide+kernel

theorem vOf_small {s:List UInt8} (h:s.length≤700):vOf s<10000^199:=by
 exact Nat.lt_of_lt_of_le (vOf_lt s) (pow_four (n:=199) (by omega))

theorem MagZ.nil (h:Heap):MagZ h (.slice none 0 0) 0:=⟨[],.inl ⟨rfl,rfl⟩,⟨fun y hy=>by simp at hy,by simp⟩,rfl⟩

theorem C99z {s:List UInt8} {h:Heap} {K:Value→Heap→Prop}
  (hk:∀r h',EX h h'→ZV h' r (vOf s)→K (.tuple #[r,B (digOk s)]) h'):CallP Tryz.prog 99 [S s] h K:=by
 refine C99g (fun hd r h' x z=>?_) (fun hd h' x=>?_)
 ·have:=hk r h' x (by unfold vOf;rw [if_pos hd];exact z)
  rw [hd] at this
  exact this
 ·have:=hk (.agg #[B false,.slice none 0 0]) h' x (by
   unfold vOf;rw [if_neg (by rw [hd];decide)]
   exact ⟨.slice none 0 0,rfl,MagZ.nil h'⟩)
  rw [hd] at this
  exact this


def zAgg:Value:=.agg #[B false,.slice none 0 0,B false,.slice none 0 0]

theorem fail4 {g:Heap} {j:Nat} {K:Value→Heap→Prop} (hg:g[j]?=some (.arr 37 z4)) (hk:K (.tuple #[zAgg,B false]) (g.set j (.arr 37 z4))):
  OP (iBuild [(.bool false),(.slice none 0 0),(.bool false),(.slice none 0 0)] []) fun x91=>OH (oStore 4 g (pt j 0) x91) fun _ h_1=>OP (iLoad true 4 h_1 (pt j 0)) fun r0=>K (.tuple #[r0,(.bool false)]) h_1:=by
 have e:iBuild [(.bool false),(.slice none 0 0),(.bool false),(.slice none 0 0)] []=some zAgg:=rfl
 rw [e,OP_some]
 have s:=store4 (x:=B false) (y:=.slice none 0 0) (z:=B false) (w:=.slice none 0 0) hg
 have s':oStore 4 g (pt j 0) zAgg=some (undef,g.set j (.arr 37 z4)):=s
 rw [s',OH_some]
 have l:=load4 (set_get (o:=.arr 37 z4) hg)
 have l':iLoad true 4 (g.set j (.arr 37 z4)) (pt j 0)=some zAgg:=l
 rw [l',OP_some]
 exact hk

theorem C67_33 {m ok:Bool} {n d:Nat} {h0 g:Heap} {i2 i8 i10:Nat} {vn vd:Value} {K:Value→Heap→Prop} (k2:g[i2]?=some (.arr 37 z4)) (k8:g[i8]?=some (.arr 35 [B (decide ((n:Int)<0)),vn])) (mn:MagZ g vn n)
  (k10:g[i10]?=some (.arr 35 [B (decide ((d:Int)<0)),vd])) (md:MagZ g vd d) (b2:h0.length≤i2) (b8:h0.length≤i8) (n28:i2≠i8) (n810:i8≠i10) (x:EX h0 g)
  (hk:ok=true→(m=true→n≠0)→∀r h',EX h0 h'→QZ h' r (if m then -(n:Int) else n) d→K (.tuple #[r,B true]) h')
  (hk0:(ok=false∨m=true∧n=0)→∀h',EX h0 h'→K (.tuple #[zAgg,B false]) h'):p67z33 Tryz.prog K (pt i2 0) (B m) (pt i8 0) (B ok) (pt i10 0) g:=by
 have bad:(ok=false∨m=true∧n=0)→∀t u,iPick t (.bool true) u=some (B true)→p67z43 Tryz.prog K (pt i2 0) (B m) (pt i8 0) (pt i10 0) t u g:=by
  intro hb t u ht
  rw [q67z43,ht]
  simp only [OP_some,IfP_true]
  exact fail4 k2 (hk0 hb _ (x.set b2 _))
 have good:ok=true→(m=true→n≠0)→p67z43 Tryz.prog K (pt i2 0) (B m) (pt i8 0) (pt i10 0) (B false) (B false) g:=by
  intro ho hm
  have hk:=hk ho hm
  rw [q67z43]
  simp only [iPick_f,OP_some]
  cases m with
  | false=>
   simp only [IfP_false]
   rw [q67z47,load2 k8,OP_some,load2 k10,OP_some]
   exact endQ (K:=fun v h=>K (.tuple #[v,B true]) h) ⟨vn,rfl,mn⟩ ⟨vd,rfl,md⟩ x b2 k2 hk
  | true=>
   simp only [IfP_false,IfP_true]
   rw [load2 k8,OP_some]
   refine C95 (a:=n) ⟨vn,rfl,mn⟩ ?_
   intro r7 h7 x7 z7
   obtain ⟨v7,rfl,hv7⟩:=id z7
   have g7:=x7.get k8
   rw [store2 g7]
   simp only [OH_some]
   have k10':(h7.set i8 (.arr 35 [B (decide (-(n:Int)<0)),v7]))[i10]?=some (.arr 35 [B (decide ((d:Int)<0)),vd]):=by
    rw [List.getElem?_set_ne n810];exact x7.get k10
   rw [q67z47,load2 (set_get g7),OP_some,load2 k10',OP_some]
   refine endQ (K:=fun v h=>K (.tuple #[v,B true]) h) (z7.setB g7 _) ⟨vd,rfl,?_⟩ ((x.trans x7).set b8 _) b2 (by rw [List.getElem?_set_ne n28.symm];exact x7.get k2) hk
   exact MagZ.setB (md.mono x7) g7 _
 have n1:iUn .not (B ok)=some (B (!ok)):=rfl
 rw [q67z33,n1,OP_some,q67z37]
 cases ok with
 | false=>
  simp only [Bool.not_false,GdP_tf,q67z39,GdP_undef,q67z41]
  exact bad (.inl rfl) _ _ rfl
 | true=>
  simp only [Bool.not_true,GdP_ff,q67z39]
  cases m with
  | false=>
   simp only [GdP_ft,q67z41,GdP_ff,iPick_f,OP_some]
   exact good rfl (fun h=>by cases h)
  | true=>
   obtain ⟨l,p1,p2⟩:=mn.len0
   have ld:iLoad false 1 g (pt i8 1)=some vn:=by simp [iLoad,objCells,k8,iPart]
   simp only [GdP_tt,fadr_pt,Nat.zero_add,OP_some,ld,p1,bin_eql,q67z41,GdP_ff,iPick_t]
   by_cases hn:n=0
   ·rw [decide_eq_true (show (l:Int)=0 by omega)]
    exact bad (.inr ⟨rfl,hn⟩) _ _ rfl
   ·rw [decide_eq_false (show ¬(l:Int)=0 by omega)]
    exact good rfl (fun _=>hn)

def overT (t:List UInt8):List UInt8:=t.take (t.idxOf 47)
def underT (t:List UInt8):List UInt8:=t.drop (t.idxOf 47+1)
def hasSl (t:List UInt8):Bool:=decide (t.idxOf 47<t.length)
def denOk (t:List UInt8):Bool:= !hasSl t||(digOk (underT t)&&(decide (2≤vOf (underT t))&&decide (Nat.gcd (vOf (overT t)) (vOf (underT t))=1)))
def denT (t:List UInt8):Nat:=if hasSl t=true then vOf (underT t) else 1
def parseT (m:Bool) (t:List UInt8):Option (Int×Nat):=
 if denOk t=true∧digOk (overT t)=true∧(m=true→vOf (overT t)≠0) then some (if m then -(vOf (overT t):Int) else vOf (overT t),denT t) else none
def parseQ (s:List UInt8):Option (Int×Nat):=if s.head?=some 45 then parseT true s.tail else parseT false s

theorem idxOf_drop (s:List UInt8):∀{i:Nat},i<s.length→(s.drop i).idxOf 47=if s[i]! =47 then 0 else (s.drop (i+1)).idxOf 47+1:=by
 intro i hi
 rw [List.drop_eq_getElem_cons hi,List.idxOf_cons]
 have:s[i]! =s[i]:=by simp [hi]
 rw [this]
 by_cases h:s[i]=47
 ·simp [h]
 ·have h':(s[i]==47)=false:=beq_eq_false_iff_ne.2 h
  rw [h'];simp [h]

theorem C67_12 {s:List UInt8} {m:Bool} {h:Heap} {j:Nat} {K:Value→Heap→Prop} {h0:Heap} (hl:s.length≤700) (x0:EX h0 h) (hj:h0.length≤j) (hg:h[j]?=some (.arr 37 z4))
  (hk:∀n d,parseT m s=some (n,d)→∀r h',EX h0 h'→QZ h' r n d→K (.tuple #[r,B true]) h')
  (hk0:parseT m s=none→∀h',EX h0 h'→K (.tuple #[zAgg,B false]) h'):p67z12 Tryz.prog K (pt j 0) (S s) (B m) h:=by
 rw [q67z12]
 have e1:IntKind.wrap .i64 ((s.length:Int)-1)=(s.length:Int)-1:=wrap64 (by omega) (by omega)
 simp only [lenS_S,OP_some,bin_sub,e1]
 refine loopL (σ:=Nat) (fun p=>[I ((p+(s.drop p).idxOf 47:Nat):Int),I ((p:Int)-1)]) (fun _=>h) (fun p=>p≤s.length) (fun p=>p)
  s.length (by simp) rfl (Nat.le_refl _) ?_
 intro i hi L hL
 rw [q67z17]
 simp only [bin_geq,OP_some,IfP_dec]
 refine ⟨fun hge=>?_,fun hlt=>?_⟩
 ·obtain ⟨p,rfl⟩:∃p,i=p+1:=⟨i-1,by omega⟩
  have hp:p<s.length:=by omega
  have ei:((p+1:Nat):Int)-1=(p:Int):=by omega
  have ix:=idxS_S (a:=s) (i:=p) hp .i64
  have e5:iBin .eql (cv s[p]) (.int .u8 47)=some (B (decide ((s[p].toNat:Int)=47))):=rfl
  have e2:IntKind.wrap .i64 ((p:Int)-1)=(p:Int)-1:=wrap64 (by omega) (by omega)
  have nx:=hL p (by omega) (by omega)
  rw [idxOf_drop s hp] at nx
  have e6:s[p]! =s[p]:=by simp [hp]
  rw [e6] at nx
  rw [ei]
  simp only [ix,OP_some,e5,q67z23,bin_sub,e2,true_and]
  have e7:(decide ((s[p].toNat:Int)=47))=decide (s[p]=47):=by
   rw [decide_eq_decide]
   constructor
   ·intro h;apply UInt8.toNat_inj.1;show s[p].toNat=47;omega
   ·intro h;rw [h];rfl
  rw [e7,IfP_dec]
  refine ⟨fun h=>?_,fun h=>?_⟩
  ·rw [if_pos h] at nx;simpa using nx
  ·rw [if_neg h] at nx
   have:p+((s.drop (p+1)).idxOf 47+1)=p+1+(s.drop (p+1)).idxOf 47:=by omega
   rw [this] at nx;exact nx
 ·have h0':i=0:=by omega
  subst h0'
  simp only [List.drop_zero,Nat.zero_add]
  have hkl:s.idxOf 47≤s.length:=List.idxOf_le_length
  rw [q67z24]
  have sl1:=slS_hi (a:=s) (n:=s.idxOf 47) hkl .i64
  simp only [sl1,OP_some]
  have lo:(overT s).length≤700:=by unfold overT;rw [List.length_take];omega
  have lu:(underT s).length≤700:=by unfold underT;rw [List.length_drop];omega
  refine C99z ?_
  intro r h1 x1 z1
  show OP _ _
  have fo:s.take (s.idxOf 47)=overT s:=rfl
  rw [fo] at z1
  obtain ⟨v,rfl,hv⟩:=id z1
  rw [Int.natAbs_natCast] at hv
  simp only [ext_tuple,pair0,pair1,OP_some,fo]
  have e2:∀g:Heap,iAlloc 35 [(.bool false),(.slice none 0 0)] g=some (pt g.length 0,g++[.arr 35 [(.bool false),(.slice none 0 0)]]):=fun _=>rfl
  simp only [e2,OH_some]
  rw [store2 get_last]
  simp only [OH_some]
  have x2:EX h1 ((h1++[IObj.arr 35 [(.bool false),(.slice none 0 0)]]).set h1.length (.arr 35 [B (decide ((vOf (overT s):Int)<0)),v])):=EX.set (EX.append _ _) (Nat.le_refl _) _
  have g3:((h1++[IObj.arr 35 [(.bool false),(.slice none 0 0)]]).set h1.length (.arr 35 [B (decide ((vOf (overT s):Int)<0)),v]))[h1.length]?=some (.arr 35 [B (decide ((vOf (overT s):Int)<0)),v]):=set_get get_last
  generalize (h1++[IObj.arr 35 [(.bool false),(.slice none 0 0)]]).set h1.length (.arr 35 [B (decide ((vOf (overT s):Int)<0)),v])=h3 at x2 g3⊢
  have hjl:=(List.getElem?_eq_some_iff.1 hg).1
  have hj1:j<h1.length:=by have:=x1.1;omega
  have hx0:=x0.1
  refine C55 (z:=((1:Nat):Int)) (by decide) ?_
  intro r4 h4 x4 z4'
  obtain ⟨w,rfl,hw⟩:=id z4'
  rw [Int.natAbs_natCast] at hw
  rw [store2 get_last]
  simp only [OH_some]
  have x5:EX h4 ((h4++[IObj.arr 35 [(.bool false),(.slice none 0 0)]]).set h4.length (.arr 35 [B (decide (((1:Nat):Int)<0)),w])):=EX.set (EX.append _ _) (Nat.le_refl _) _
  have g5:((h4++[IObj.arr 35 [(.bool false),(.slice none 0 0)]]).set h4.length (.arr 35 [B (decide (((1:Nat):Int)<0)),w]))[h4.length]?=some (.arr 35 [B (decide (((1:Nat):Int)<0)),w]):=set_get get_last
  generalize (h4++[IObj.arr 35 [(.bool false),(.slice none 0 0)]]).set h4.length (.arr 35 [B (decide (((1:Nat):Int)<0)),w])=h5 at x5 g5⊢
  have hh1:h1.length<h4.length:=by
   have:=x4.1
   have:=(List.getElem?_eq_some_iff.1 g3).1
   omega
  have x15:=(x2.trans x4).trans x5
  have g3':=(x4.trans x5).get g3
  have hgj:=(x1.trans x15).get hg
  have xA:EX h0 h5:=x0.trans (x1.trans x15)
  have mn:=hv.mono x15
  have md:=hw.mono x5
  have h45:h4.length<h5.length:=(List.getElem?_eq_some_iff.1 g5).1
  simp only [lenS_S,OP_some,bin_lss,IfP_dec]
  refine ⟨fun hlt=>?_,fun hge=>?_⟩
  rotate_left
  ·have hns:hasSl s=false:=by unfold hasSl;exact decide_eq_false (by omega)
   have hdt:denT s=1:=by unfold denT;rw [if_neg (by rw [hns];decide)]
   have hdo:denOk s=true:=by unfold denOk;rw [hns];rfl
   refine C67_33 (h0:=h0) hgj g3' mn g5 md hj (by omega) (by omega) (by omega) xA (fun a b=>?_) (fun a=>?_)
   ·rw [←hdt]
    exact hk _ _ (if_pos ⟨hdo,a,b⟩)
   ·refine hk0 (if_neg ?_)
    rintro ⟨_,b1,b2⟩
    rcases a with a | ⟨a1,a2⟩
    ·rw [a] at b1;cases b1
    ·exact b2 a1 a2
  have hsl:hasSl s=true:=decide_eq_true (by omega)
  have hdt:denT s=vOf (underT s):=by unfold denT;rw [if_pos hsl]
  have hdo:denOk s=(digOk (underT s)&&(decide (2≤vOf (underT s))&&decide (Nat.gcd (vOf (overT s)) (vOf (underT s))=1))):=by unfold denOk;rw [hsl];rfl
  have sl2:=slS_lo (a:=s) (n:=s.idxOf 47+1) (by omega) .i64
  have fu:s.drop (s.idxOf 47+1)=underT s:=rfl
  have wi:IntKind.wrap .i64 ((s.idxOf 47:Nat)+1:Int)=((s.idxOf 47+1:Nat):Int):=by rw [wrap64 (by omega) (by omega)];omega
  simp only [bin_add,wi,OP_some,sl2,fu]
  refine C99z ?_
  intro r6 h6 x6 z6
  obtain ⟨v6,rfl,hv6⟩:=id z6
  rw [Int.natAbs_natCast] at hv6
  simp only [ext_tuple,pair0,pair1,OP_some,e2,OH_some]
  rw [store2 get_last]
  simp only [OH_some]
  have x7:EX h6 ((h6++[IObj.arr 35 [(.bool false),(.slice none 0 0)]]).set h6.length (.arr 35 [B (decide ((vOf (underT s):Int)<0)),v6])):=EX.set (EX.append _ _) (Nat.le_refl _) _
  have g7:((h6++[IObj.arr 35 [(.bool false),(.slice none 0 0)]]).set h6.length (.arr 35 [B (decide ((vOf (underT s):Int)<0)),v6]))[h6.length]?=some (.arr 35 [B (decide ((vOf (underT s):Int)<0)),v6]):=set_get get_last
  generalize (h6++[IObj.arr 35 [(.bool false),(.slice none 0 0)]]).set h6.length (.arr 35 [B (decide ((vOf (underT s):Int)<0)),v6])=h7 at x7 g7⊢
  have x57:=x6.trans x7
  have nn:iUn .not (B (digOk (underT s)))=some (B (!digOk (underT s))):=rfl
  have bad:∀{g:Heap},EX h7 g→denOk s=false→(OP (iBuild [(.bool false),(.slice none 0 0),(.bool false),(.slice none 0 0)] []) fun x91=>OH (oStore 4 g (pt j 0) x91) fun _ h_1=>OP (iLoad true 4 h_1 (pt j 0)) fun r0=>K (.tuple #[r0,(.bool false)]) h_1):=by
   intro g xg hd
   refine fail4 ((x57.trans xg).get hgj) (hk0 (if_neg ?_) _ ((xA.trans (x57.trans xg)).set hj _))
   rintro ⟨b,_⟩
   rw [hd] at b;cases b
  simp only [nn,OP_some]
  cases hdu:digOk (underT s) with
  | false=>
   rw [hdu] at hdo
   simp only [Bool.not_false,GdP_tf,true_and,iPick_t,OP_some,IfP_true]
   exact bad (EX.refl _) (by rw [hdo];rfl)
  | true=>
   rw [hdu,Bool.true_and] at hdo
   have zu:ZV h7 (.agg #[B (decide ((vOf (underT s):Int)<0)),v6]) (vOf (underT s)):=z6.mono x7
   have zo:ZV h7 (.agg #[B (decide ((vOf (overT s):Int)<0)),v]) (vOf (overT s)):=⟨v,rfl,by rw [Int.natAbs_natCast];exact mn.mono x57⟩
   have small:=vOf_small lu
   have smallo:=vOf_small lo
   have hbig:(10000:Nat)^199≤bigW:=pow199_big
   simp only [Bool.not_true,GdP_ff,load2 g7,OP_some,true_and]
   refine C55 (z:=2) (by decide) ?_
   intro r8 h8 x8 z8
   simp only [(x8.load (load2 g7)),true_and]
   refine C72 (zu.mono x8) z8 (by rw [Int.natAbs_natCast];omega) (by have:(2:Nat)<10000^199:=two199;show 2<bigW;omega) ?_
   intro h9 x9
   have x79:=x8.trans x9
   simp only [true_and,bin_lss,OP_some,iPick_f]
   by_cases h2:vOf (underT s)<2
   ·have en:isgn ((vOf (underT s):Int)-2)= -1:=by unfold isgn;rw [if_neg (by omega),if_pos (by omega)]
    rw [en]
    simp only [show decide ((-1:Int)<0)=true from rfl,GdP_tf,true_and,iPick_t,OP_some,IfP_true]
    refine bad x79 ?_
    rw [hdo,decide_eq_false (by omega)];rfl
   ·have en:0≤isgn ((vOf (underT s):Int)-2):=by
     unfold isgn
     split
     ·decide
     ·rw [if_neg (by omega)];decide
    rw [decide_eq_false (show ¬isgn ((vOf (underT s):Int)-2)<0 by omega)]
    rw [decide_eq_true (show 2≤vOf (underT s) by omega),Bool.true_and] at hdo
    have l8:iLoad true 2 h9 (pt h1.length 0)=some (.agg #[B (decide ((vOf (overT s):Int)<0)),v]):=load2 ((x57.trans x79).get g3')
    have l9:iLoad true 2 h9 (pt h6.length 0)=some (.agg #[B (decide ((vOf (underT s):Int)<0)),v6]):=load2 (x79.get g7)
    simp only [GdP_ff,l8,l9,OP_some,true_and]
    refine C68 (zo.mono x79) (zu.mono x79) (by rw [Int.natAbs_natCast];exact smallo) (by rw [Int.natAbs_natCast];exact small) ?_
    intro u h10 x10 mu
    simp only [Int.natAbs_natCast] at mu
    have hgle:Nat.gcd (vOf (overT s)) (vOf (underT s))≤vOf (underT s):=Nat.gcd_le_right _ (by omega)
    have zg:ZV h10 (.agg #[B false,u]) (Nat.gcd (vOf (overT s)) (vOf (underT s)):Nat):=⟨u,by rw [decide_eq_false (by omega)],by rw [Int.natAbs_natCast];exact mu⟩
    refine C55 (z:=1) (by decide) ?_
    intro r11 h11 x11 z11
    refine C72 (zg.mono x11) z11 (by rw [Int.natAbs_natCast];omega) (by have:(2:Nat)<10000^199:=two199;show 1<bigW;omega) ?_
    intro h12 x12
    have x712:=x79.trans (x10.trans (x11.trans x12))
    simp only [true_and,bin_neq,OP_some,iPick_f]
    by_cases hg1:Nat.gcd (vOf (overT s)) (vOf (underT s))=1
    ·have en:isgn ((Nat.gcd (vOf (overT s)) (vOf (underT s)):Nat)-1:Int)=0:=by unfold isgn;rw [if_pos (by omega)]
     rw [decide_eq_true hg1] at hdo
     rw [en]
     have l12:iLoad true 2 h12 (pt h6.length 0)=some (.agg #[B (decide ((vOf (underT s):Int)<0)),v6]):=load2 (x712.get g7)
     simp only [decide_true,Bool.not_true,IfP_false,l12,OP_some]
     have x512:=x57.trans x712
     have g5':=x512.get g5
     rw [store2 g5']
     simp only [OH_some]
     refine C67_33 (h0:=h0) (i2:=j) (i8:=h1.length) (i10:=h4.length) (n:=vOf (overT s)) (d:=vOf (underT s)) (vn:=v) (vd:=v6) ?_ ?_ ?_ (set_get g5') ?_ hj (by omega) (by omega) (by omega) ?_ (fun a b=>?_) (fun a=>?_)
     ·rw [List.getElem?_set_ne (by omega)];exact x512.get hgj
     ·rw [List.getElem?_set_ne (by omega)];exact x512.get g3'
     ·exact MagZ.setB (mn.mono x512) g5' _
     ·exact MagZ.setB (hv6.mono (x7.trans x712)) g5' _
     ·exact (xA.trans x512).set (by omega) _
     ·rw [←hdt]
      exact hk _ _ (if_pos ⟨hdo,a,b⟩)
     ·refine hk0 (if_neg ?_)
      rintro ⟨_,b1,b2⟩
      rcases a with a | ⟨a1,a2⟩
      ·rw [a] at b1;cases b1
      ·exact b2 a1 a2
    ·have en:isgn ((Nat.gcd (vOf (overT s)) (vOf (underT s)):Nat)-1:Int)≠0:=by
      unfold isgn;rw [if_neg (by omega)];split <;> decide
     rw [decide_eq_false hg1] at hdo
     rw [decide_eq_false en]
     simp only [Bool.not_false,IfP_true]
     exact bad x712 hdo

end Go.Proofs.YtelmdbpaoifmoaaGreat


namespace Go.Proofs.YtelmdbpaoifmoaaGreat
open Go.Sim
variable (P : Program) (K : VK)
/-! F108: pommel/num.Parse -/
noncomputable section
variable (s0 x2 x6 x8 x9 x10 x11 x12 x38 x42 x46 x48 x50 x52 x55 x56 : Value) (h : Heap)
def oc108:=compFn Tryz.prog 108 [[],[],[],[],[],[],[],[2,6,8,9,10,11,38],[2,6,8,9,10,11,38,42],[2,6,8,9,10,11,12],[2,6,8,9,11,12,46],[2,6,8,9,11,46,48],[2,6,8,9,11,50],[2,6,8,9,11,50,52],[2,6,8,9,11,50,52,55],[2,6,8,9,11,50,56],[],[],[],[],[]]
@[irreducible] def c108:=icOf oc108
@[irreducible] def c108z10:=c108.r.r.r.r.r.l.r.l.r.r.l
@[irreducible] def c108z6:=c108.r.r.r.r.r.r
@[irreducible] def c108z12:=c108z10.r.l
@[irreducible] def c108z13:=c108z6.l
@[irreducible] def c108z17:=c108z13.l.l.r.l
@[irreducible] def c108z15:=c108z13.l.r
@[irreducible] def c108z14:=c108z13.r
@[irreducible] def c108z19:=c108z17.r.l
@[irreducible] def c108z21:=c108z19.r.l
@[irreducible] def c108z23:=c108z21.r.l
@[irreducible] def c108z25:=c108z23.r.l
@[irreducible] def c108z27:=c108z25.r.l
theorem k108:oc108=some (78,c108,[.cell true 4 2,.tmp 3]):=by kernel_rfl
def K108z0 (_P:Program) (K:VK):Kont:=bodyP [.cell true 4 2,.tmp 3] K
def K108z6:Kont:=thenK (iwpP P c108z6 (K108z0 P K)) (K108z0 P K)
def K108z14:Kont:=thenK (iwpP P c108z14 (K108z0 P K)) (K108z0 P K)
def K108z15:Kont:=thenK (iwpP P c108z15 (K108z14 P K)) (K108z14 P K)
def p108z10:Prop:=CutP (iwpP P c108z10 (K108z6 P K)) [2,6,8,9,10,11,38] [x2,x6,x8,x9,x10,x11,x38] h
def p108z12:Prop:=CutP (iwpP P c108z12 (K108z6 P K)) [2,6,8,9,10,11,38,42] [x2,x6,x8,x9,x10,x11,x38,x42] h
def p108z13:Prop:=CutP (iwpP P c108z13 (K108z0 P K)) [2,6,8,9,10,11,12] [x2,x6,x8,x9,x10,x11,x12] h
def p108z17:Prop:=CutP (iwpP P c108z17 (K108z15 P K)) [2,6,8,9,11,12,46] [x2,x6,x8,x9,x11,x12,x46] h
def p108z19:Prop:=CutP (iwpP P c108z19 (K108z15 P K)) [2,6,8,9,11,46,48] [x2,x6,x8,x9,x11,x46,x48] h
def p108z21:Prop:=CutP (iwpP P c108z21 (K108z15 P K)) [2,6,8,9,11,50] [x2,x6,x8,x9,x11,x50] h
def p108z23:Prop:=CutP (iwpP P c108z23 (K108z15 P K)) [2,6,8,9,11,50,52] [x2,x6,x8,x9,x11,x50,x52] h
def p108z25:Prop:=CutP (iwpP P c108z25 (K108z15 P K)) [2,6,8,9,11,50,52,55] [x2,x6,x8,x9,x11,x50,x52,x55] h
def p108z27:Prop:=CutP (iwpP P c108z27 (K108z15 P K)) [2,6,8,9,11,50,56] [x2,x6,x8,x9,x11,x50,x56] h
theorem q108z12:p108z12 P K x2 x6 x8 x9 x10 x11 x38 x42 h=
 (OP (iPick x38 x42 (.bool false)) fun x43=>
 p108z13 P K x2 x6 x8 x9 x10 x11 x43 h):=cdt (by kernel_rfl)
theorem q108z10:p108z10 P K x2 x6 x8 x9 x10 x11 x38 h=
 (GdP x38 true
 (OH (iMkSl 177 1 [(.int .u32 (0))] h [(0,1,(.int .u32 (1)))]) fun x40 h_1=>
 CallP P 126 [x11,x40] h_1 fun x41 h_2=>
 OP (iBin .gtr x41 (.int .i64 (0))) fun x42=>
 p108z12 P K x2 x6 x8 x9 x10 x11 x38 x42 h_2)
 (p108z12 P K x2 x6 x8 x9 x10 x11 x38 undef h)):=cdt (by kernel_rfl)
theorem q108z27:p108z27 P K x2 x6 x8 x9 x11 x50 x56 h=
 (OP (iPick x50 (.bool true) x56) fun x57=>
 IfP x57
 (OP (iBuild [(.bool false),(.slice none 0 0),(.bool false),(.slice none 0 0)] []) fun x58=>
 OH (oStore 4 h x2 x58) fun _ h_1=>
 OP (iLoad true 4 h_1 x2) fun r0=>
 K (.tuple #[r0,(.bool false)]) h_1)
 (CallP P 117 [x8,x9] h fun x61 h_1=>
 CallP P 117 [(.bool false),x11] h_1 fun x63 h_2=>
 OP (iBuild [(.bool false),(.slice none 0 0),(.bool false),(.slice none 0 0)] [(0,2,x61),(2,2,x63)]) fun x64=>
 OH (iAlloc 107 [(.bool false),(.slice none 0 0),(.bool false),(.slice none 0 0)] h_2) fun x13 h_3=>
 OH (oStore 4 h_3 x13 x64) fun _ h_4=>
 OP (iLoad true 4 h_4 x13) fun x65=>
 (True)∧
 OP (iUn .not x6) fun x67=>
 GdP x67 false
 (OP (iFadr 0 x13) fun x69=>
 OP (iLoad true 2 h_4 x69) fun x70=>
 (True)∧
 OP (iFadr 2 x13) fun x71=>
 OP (iLoad true 2 h_4 x71) fun x72=>
 (True)∧
 CallP P 120 [x70,x72] h_4 fun x73 h_5=>
 (iLoad true 4 h_5 x13=some x65∧True)∧
 CallP P 105 [(.int .i64 (1))] h_5 fun x74 h_6=>
 (iLoad true 4 h_6 x13=some x65∧True)∧
 CallP P 111 [x73,x74] h_6 fun x75 h_7=>
 (iLoad true 4 h_7 x13=some x65∧True)∧
 OP (iBin .eql x75 (.int .i64 (0))) fun x76=>
 OP (iPick x67 (.bool true) x76) fun x77=>
 OH (oStore 4 h_7 x2 x65) fun _ h_8=>
 (True)∧
 OP (iLoad true 4 h_8 x2) fun r0=>
 K (.tuple #[r0,x77]) h_8)
 ((iLoad true 4 h_4 x13=some x65∧True)∧
 (iLoad true 4 h_4 x13=some x65∧True)∧
 (iLoad true 4 h_4 x13=some x65∧True)∧
 OP (iPick x67 (.bool true) undef) fun x77=>
 OH (oStore 4 h_4 x2 x65) fun _ h_5=>
 (True)∧
 OP (iLoad true 4 h_5 x2) fun r0=>
 K (.tuple #[r0,x77]) h_5))):=cdt (by kernel_rfl)
theorem q108z25:p108z25 P K x2 x6 x8 x9 x11 x50 x52 x55 h=
 (GdP x50 false
 (OP (iPick x52 x55 (.bool false)) fun x56=>
 p108z27 P K x2 x6 x8 x9 x11 x50 x56 h)
 (p108z27 P K x2 x6 x8 x9 x11 x50 undef h)):=cdt (by kernel_rfl)
theorem q108z23:p108z23 P K x2 x6 x8 x9 x11 x50 x52 h=
 (GdP x52 true
 (OP (iLenSl x9) fun x54=>
 OP (iBin .eql x54 (.int .i64 (0))) fun x55=>
 p108z25 P K x2 x6 x8 x9 x11 x50 x52 x55 h)
 (p108z25 P K x2 x6 x8 x9 x11 x50 x52 undef h)):=cdt (by kernel_rfl)
theorem q108z21:p108z21 P K x2 x6 x8 x9 x11 x50 h=
 (GdP x50 false
 (p108z23 P K x2 x6 x8 x9 x11 x50 x8 h)
 (p108z23 P K x2 x6 x8 x9 x11 x50 undef h)):=cdt (by kernel_rfl)
theorem q108z19:p108z19 P K x2 x6 x8 x9 x11 x46 x48 h=
 (OP (iPick x46 (.bool true) x48) fun x49=>
 p108z21 P K x2 x6 x8 x9 x11 x49 h):=cdt (by kernel_rfl)
theorem q108z17:p108z17 P K x2 x6 x8 x9 x11 x12 x46 h=
 (GdP x46 false
 (OP (iUn .not x12) fun x48=>
 p108z19 P K x2 x6 x8 x9 x11 x46 x48 h)
 (p108z19 P K x2 x6 x8 x9 x11 x46 undef h)):=cdt (by kernel_rfl)
theorem q108z13:p108z13 P K x2 x6 x8 x9 x10 x11 x12 h=
 (OP (iUn .not x10) fun x45=>
 p108z17 P K x2 x6 x8 x9 x11 x12 x45 h):=cdt (by kernel_rfl)
def T108:Prop:=
 OH (iAlloc 107 [(.bool false),(.slice none 0 0),(.bool false),(.slice none 0 0)] h) fun x2 h_1=>
 CallP P 123 [s0,(.string ⟨#[47]⟩)] h_1 fun x16 h_2=>
 OP (iExt 0 x16) fun x17=>
 OP (iExt 1 x16) fun x18=>
 OP (iExt 2 x16) fun x19=>
 CallP P 124 [x17,(.string ⟨#[45]⟩)] h_2 fun x22 h_3=>
 OP (iExt 0 x22) fun x23=>
 OP (iExt 1 x22) fun x24=>
 CallP P 125 [x23] h_3 fun x27 h_4=>
 OP (iExt 0 x27) fun x28=>
 OP (iExt 1 x27) fun x29=>
 OH (iMkSl 177 1 [(.int .u32 (0))] h_4 [(0,1,(.int .u32 (1)))]) fun x30 h_5=>
 IfP x19
 (CallP P 125 [x18] h_5 fun x34 h_6=>
 OP (iExt 0 x34) fun x35=>
 OP (iExt 1 x34) fun x36=>
 p108z10 P K x2 x19 x24 x28 x29 x35 x36 h_6)
 (p108z13 P K x2 x19 x24 x28 x29 x30 (.bool true) h_5)
theorem e108:iwpP P c108 (bodyP [.cell true 4 2,.tmp 3] K) (frame0 [s0]) h=T108 P K s0 h:=by kernel_rfl
theorem f108 {K:VK} {s0:Value} {h:Heap} (H:T108 Tryz.prog K s0 h):CallP Tryz.prog 108 [s0] h K:=
 callP_intro k108 (Nat.le_of_ble_eq_true rfl) ((e108 Tryz.prog K s0 h).mpr H)
end
/-! F123: strings.Cut -/
noncomputable section
variable (s0 x1 : Value) (h : Heap)
def oc123:=compFn Tryz.prog 123 [[],[]]
@[irreducible] def c123:=icOf oc123
theorem k123:oc123=some (13,c123,[.tmp 4,.tmp 5,.tmp 6]):=by kernel_rfl
def T123:Prop:=
 CallP P 131 [s0,x1] h fun x9 h_1=>
 OP (iExt 0 x9) fun x10=>
 OP (iExt 1 x9) fun x11=>
 OP (iExt 2 x9) fun x12=>
 K (.tuple #[x10,x11,x12]) h_1
theorem e123:iwpP P c123 (bodyP [.tmp 4,.tmp 5,.tmp 6] K) (frame0 [s0,x1]) h=T123 P K s0 x1 h:=by kernel_rfl
theorem f123 {K:VK} {s0 x1:Value} {h:Heap} (H:T123 Tryz.prog K s0 x1 h):CallP Tryz.prog 123 [s0,x1] h K:=
 callP_intro k123 (Nat.le_of_ble_eq_true rfl) ((e123 Tryz.prog K s0 x1 h).mpr H)
end
/-! F124: strings.CutPrefix -/
noncomputable section
variable (s0 x1 : Value) (h : Heap)
def oc124:=compFn Tryz.prog 124 [[],[]]
@[irreducible] def c124:=icOf oc124
theorem k124:oc124=some (11,c124,[.tmp 4,.tmp 5]):=by kernel_rfl
def T124:Prop:=
 CallP P 132 [s0,x1] h fun x8 h_1=>
 OP (iExt 0 x8) fun x9=>
 OP (iExt 1 x8) fun x10=>
 K (.tuple #[x9,x10]) h_1
theorem e124:iwpP P c124 (bodyP [.tmp 4,.tmp 5] K) (frame0 [s0,x1]) h=T124 P K s0 x1 h:=by kernel_rfl
theorem f124 {K:VK} {s0 x1:Value} {h:Heap} (H:T124 Tryz.prog K s0 x1 h):CallP Tryz.prog 124 [s0,x1] h K:=
 callP_intro k124 (Nat.le_of_ble_eq_true rfl) ((e124 Tryz.prog K s0 x1 h).mpr H)
end
/-! F125: pommel/num.read -/
noncomputable section
variable (s0 i4 x5 n6 x7 x8 x11 x12 x19 x23 x28 x32 x35 x36 x38 x41 x50 x51 : Value) (L1 L2 : LQ) (xs : List Value) (h : Heap)
def oc125:=compFn Tryz.prog 125 [[],[],[0,11],[12],[],[],[],[0,4,11,12,19],[0,11,12,19,23],[],[],[],[0],[0,28],[0,28,32],[0,28,32,35],[0,28,36],[0,38],[0,38,41],[],[],[],[],[],[0,5],[],[],[],[],[],[0,5,6,50],[7,8,51],[],[],[],[],[0,5,6,7,8],[],[5],[]]
@[irreducible] def c125:=icOf oc125
@[irreducible] def c125z5:=c125.r.l.r.l.l
@[irreducible] def c125z2:=c125.r.r
@[irreducible] def c125z13:=c125z5.r.r.l.l.r.l.r.l
@[irreducible] def c125z11:=c125z5.r.r.l.l.r.r
@[irreducible] def c125z8:=c125z5.r.r.r
@[irreducible] def c125z17:=c125z2.l
@[irreducible] def c125z15:=c125z13.r.l
@[irreducible] def c125z21:=c125z17.l.l.r.l
@[irreducible] def c125z19:=c125z17.l.r
@[irreducible] def c125z18:=c125z17.r
@[irreducible] def c125z23:=c125z21.r.l
@[irreducible] def c125z36:=c125z18.r.l.l.l
@[irreducible] def c125z34:=c125z18.r.r
@[irreducible] def c125z25:=c125z23.r.l
@[irreducible] def c125z45:=c125z36.r.l.r.r.l.r.l.l
@[irreducible] def c125z42:=c125z36.r.l.r.r.r
@[irreducible] def c125z53:=c125z34.l
@[irreducible] def c125z27:=c125z25.r.l
@[irreducible] def c125z51:=c125z42.l
@[irreducible] def c125z29:=c125z27.r.l
@[irreducible] def c125z31:=c125z29.r.l
theorem k125:oc125=some (77,c125,[.tmp 2,.tmp 3]):=by kernel_rfl
def K125z0 (_P:Program) (K:VK):Kont:=bodyP [.tmp 2,.tmp 3] K
def K125z2:Kont:=thenK (iwpP P c125z2 (K125z0 P K)) (K125z0 P K)
def K125z4:Kont:=inBlockK 0 (K125z2 P K)
def K125z5:Kont:=thenK (fun f' h''=>(([0,11]:List Nat).map f':List Value)=[s0,x11]∧L1 (([12]:List Nat).map f') h'') (K125z4 P K)
def K125z8:Kont:=thenK (iwpP P c125z8 (K125z5 P K s0 x11 L1)) (K125z5 P K s0 x11 L1)
def K125z9:Kont:=inBlockK 1 (K125z8 P K s0 x11 L1)
def K125z11:Kont:=thenK (iwpP P c125z11 (K125z9 P K s0 x11 L1)) (K125z9 P K s0 x11 L1)
def K125z18:Kont:=thenK (iwpP P c125z18 (K125z0 P K)) (K125z0 P K)
def K125z19:Kont:=thenK (iwpP P c125z19 (K125z18 P K)) (K125z18 P K)
def K125z34:Kont:=thenK (iwpP P c125z34 (K125z0 P K)) (K125z0 P K)
def K125z35:Kont:=inBlockK 2 (K125z34 P K)
def K125z36:Kont:=thenK (fun f' h''=>(([]:List Nat).map f':List Value)=[]∧L1 (([0,5]:List Nat).map f') h'') (K125z35 P K)
def K125z39:Kont:=inBlockK 3 (K125z36 P K L1)
def K125z42:Kont:=thenK (iwpP P c125z42 (K125z39 P K L1)) (K125z39 P K L1)
def K125z44:Kont:=inBlockK 4 (K125z42 P K L1)
def K125z45:Kont:=thenK (fun f' h''=>(([0,5,6,50]:List Nat).map f':List Value)=[s0,x5,n6,x50]∧L2 (([7,8,51]:List Nat).map f') h'') (K125z44 P K L1)
def p125z5:Prop:=CutP (iwpP P c125z5 (K125z5 P K s0 x11 L1)) ([0,11]++[12]) ([s0,x11]++xs) h
def p125z13:Prop:=CutP (iwpP P c125z13 (K125z11 P K s0 x11 L1)) [0,4,11,12,19] [s0,i4,x11,x12,x19] h
def p125z15:Prop:=CutP (iwpP P c125z15 (K125z11 P K s0 x11 L1)) [0,11,12,19,23] [s0,x11,x12,x19,x23] h
def p125z17:Prop:=CutP (iwpP P c125z17 (K125z0 P K)) [0] [s0] h
def p125z21:Prop:=CutP (iwpP P c125z21 (K125z19 P K)) [0,28] [s0,x28] h
def p125z23:Prop:=CutP (iwpP P c125z23 (K125z19 P K)) [0,28,32] [s0,x28,x32] h
def p125z25:Prop:=CutP (iwpP P c125z25 (K125z19 P K)) [0,28,32,35] [s0,x28,x32,x35] h
def p125z27:Prop:=CutP (iwpP P c125z27 (K125z19 P K)) [0,28,36] [s0,x28,x36] h
def p125z29:Prop:=CutP (iwpP P c125z29 (K125z19 P K)) [0,38] [s0,x38] h
def p125z31:Prop:=CutP (iwpP P c125z31 (K125z19 P K)) [0,38,41] [s0,x38,x41] h
def p125z36:Prop:=CutP (iwpP P c125z36 (K125z36 P K L1)) ([]++[0,5]) ([]++xs) h
def p125z45:Prop:=CutP (iwpP P c125z45 (K125z45 P K s0 x5 n6 x50 L1 L2)) ([0,5,6,50]++[7,8,51]) ([s0,x5,n6,x50]++xs) h
def p125z51:Prop:=CutP (iwpP P c125z51 (K125z39 P K L1)) [0,5,6,7,8] [s0,x5,n6,x7,x8] h
def p125z53:Prop:=CutP (iwpP P c125z53 (K125z0 P K)) [5] [x5] h
theorem q125z15:p125z15 P K s0 x11 x12 x19 x23 L1 h=
 (OP (iPick x19 (.bool true) x23) fun x24=>
 IfP x24
 (K (.tuple #[(.slice none 0 0),(.bool false)]) h)
 (OP (iBin .add x12 (.int .i64 (1))) fun x25=>
 ([s0,x11]:List Value)=[s0,x11]∧L1 [x25] h)):=cdt (by kernel_rfl)
theorem q125z13:p125z13 P K s0 i4 x11 x12 x19 L1 h=
 (GdP x19 false
 (OP (iIdxS s0 i4) fun x22=>
 OP (iBin .gtr x22 (.int .u8 (57))) fun x23=>
 p125z15 P K s0 x11 x12 x19 x23 L1 h)
 (p125z15 P K s0 x11 x12 x19 undef L1 h)):=cdt (by kernel_rfl)
theorem q125z5 (s0 x11:Value) (L1:LQ) (x12:Value) (h:Heap):p125z5 P K s0 x11 L1 [x12] h=
 (OP (iBin .lss x12 x11) fun x13=>
 IfP x13
 (OP (iIdxS s0 x12) fun x17=>
 OP (iBin .lss x17 (.int .u8 (48))) fun x18=>
 p125z13 P K s0 x12 x11 x12 x18 L1 h)
 (p125z17 P K s0 h)):=cdt (by kernel_rfl)
theorem q125z31:p125z31 P K s0 x38 x41 h=
 (OP (iPick x38 (.bool true) x41) fun x42=>
 IfP x42
 (K (.tuple #[(.slice none 0 0),(.bool false)]) h)
 (LoopP [s0,(.slice none 0 0)] h fun L1 xs hx=>
 p125z36 P K L1 xs hx)):=cdt (by kernel_rfl)
theorem q125z29:p125z29 P K s0 x38 h=
 (GdP x38 false
 (OP (iLenS s0) fun x40=>
 OP (iBin .gtr x40 (.int .i64 (4000))) fun x41=>
 p125z31 P K s0 x38 x41 h)
 (p125z31 P K s0 x38 undef h)):=cdt (by kernel_rfl)
theorem q125z27:p125z27 P K s0 x28 x36 h=
 (OP (iPick x28 (.bool true) x36) fun x37=>
 p125z29 P K s0 x37 h):=cdt (by kernel_rfl)
theorem q125z25:p125z25 P K s0 x28 x32 x35 h=
 (GdP x28 false
 (OP (iPick x32 x35 (.bool false)) fun x36=>
 p125z27 P K s0 x28 x36 h)
 (p125z27 P K s0 x28 undef h)):=cdt (by kernel_rfl)
theorem q125z23:p125z23 P K s0 x28 x32 h=
 (GdP x32 true
 (OP (iLenS s0) fun x34=>
 OP (iBin .gtr x34 (.int .i64 (1))) fun x35=>
 p125z25 P K s0 x28 x32 x35 h)
 (p125z25 P K s0 x28 x32 undef h)):=cdt (by kernel_rfl)
theorem q125z21:p125z21 P K s0 x28 h=
 (GdP x28 false
 (OP (iIdxS s0 (.int .i64 (0))) fun x30=>
 OP (iBin .eql x30 (.int .u8 (48))) fun x31=>
 p125z23 P K s0 x28 x31 h)
 (p125z23 P K s0 x28 undef h)):=cdt (by kernel_rfl)
theorem q125z45 (s0 x5 n6 x50:Value) (L1 L2:LQ) (x7 x8 x51:Value) (h:Heap):p125z45 P K s0 x5 n6 x50 L1 L2 [x7,x8,x51] h=
 (OP (iBin .lss x51 x50) fun x52=>
 IfP x52
 (OP (iBin .mul (.int .u32 (10)) x7) fun x55=>
 OP (iIdxS s0 x51) fun x58=>
 OP (iBin .sub x58 (.int .u8 (48))) fun x59=>
 OP (iConv .u32 x59) fun x60=>
 OP (iBin .add x55 x60) fun x61=>
 OP (iBin .mul (.int .u32 (10)) x8) fun x63=>
 OP (iBin .add x51 (.int .i64 (1))) fun x64=>
 ([s0,x5,n6,x50]:List Value)=[s0,x5,n6,x50]∧L2 [x61,x63,x64] h)
 (p125z51 P K s0 x5 n6 x7 x8 L1 h)):=cdt (by kernel_rfl)
theorem q125z51:p125z51 P K s0 x5 n6 x7 x8 L1 h=
 (OH (iMkSl 177 1 [(.int .u32 (0))] h [(0,1,x8)]) fun x67 h_1=>
 CallP P 122 [x5,x67] h_1 fun x68 h_2=>
 OH (iMkSl 177 1 [(.int .u32 (0))] h_2 [(0,1,x7)]) fun x70 h_3=>
 CallP P 118 [x70] h_3 fun x71 h_4=>
 CallP P 128 [x68,x71] h_4 fun x72 h_5=>
 OP (iSlS s0 (some n6) none) fun x75=>
 ([]:List Value)=[]∧L1 [x75,x72] h_5):=cdt (by kernel_rfl)
theorem q125z36 (L1:LQ) (s0 x5:Value) (h:Heap):p125z36 P K L1 [s0,x5] h=
 (OP (iBin .neq s0 (.string ⟨#[]⟩)) fun x44=>
 IfP x44
 (OP (iLenS s0) fun x46=>
 OP (iBin .sub x46 (.int .i64 (1))) fun x47=>
 OP (iBin .rem x47 (.int .i64 (9))) fun x48=>
 OP (iBin .add x48 (.int .i64 (1))) fun x49=>
 LoopP [(.int .u32 (0)),(.int .u32 (1)),(.int .i64 (0))] h fun L2 xs hx=>
 p125z45 P K s0 x5 x49 x49 L1 L2 xs hx)
 (p125z53 P K x5 h)):=cdt (by kernel_rfl)
theorem q125z53:p125z53 P K x5 h=
 (K (.tuple #[x5,(.bool true)]) h):=cdt (by kernel_rfl)
theorem q125z17:p125z17 P K s0 h=
 (OP (iBin .eql s0 (.string ⟨#[]⟩)) fun x27=>
 p125z21 P K s0 x27 h):=cdt (by kernel_rfl)
def T125:Prop:=
 OP (iLenS s0) fun x11=>
 LoopP [(.int .i64 (0))] h fun L1 xs hx=>
 p125z5 P K s0 x11 L1 xs hx
theorem e125:iwpP P c125 (bodyP [.tmp 2,.tmp 3] K) (frame0 [s0]) h=T125 P K s0 h:=by kernel_rfl
theorem f125 {K:VK} {s0:Value} {h:Heap} (H:T125 Tryz.prog K s0 h):CallP Tryz.prog 125 [s0] h K:=
 callP_intro k125 (Nat.le_of_ble_eq_true rfl) ((e125 Tryz.prog K s0 h).mpr H)
end
/-! F131: internal/stringslite.Cut -/
noncomputable section
variable (s0 x1 : Value) (h : Heap)
def oc131:=compFn Tryz.prog 131 [[],[],[],[],[],[]]
@[irreducible] def c131:=icOf oc131
theorem k131:oc131=some (23,c131,[.tmp 4,.tmp 5,.tmp 6]):=by kernel_rfl
def T131:Prop:=
 CallP P 139 [s0,x1] h fun x10 h_1=>
 OP (iBin .geq x10 (.int .i64 (0))) fun x12=>
 IfP x12
 (OP (iSlS s0 none (some x10)) fun x15=>
 OP (iLenS x1) fun x19=>
 OP (iBin .add x10 x19) fun x20=>
 OP (iSlS s0 (some x20) none) fun x21=>
 K (.tuple #[x15,x21,(.bool true)]) h_1)
 (K (.tuple #[s0,(.string ⟨#[]⟩),(.bool false)]) h_1)
theorem e131:iwpP P c131 (bodyP [.tmp 4,.tmp 5,.tmp 6] K) (frame0 [s0,x1]) h=T131 P K s0 x1 h:=by kernel_rfl
theorem f131 {K:VK} {s0 x1:Value} {h:Heap} (H:T131 Tryz.prog K s0 x1 h):CallP Tryz.prog 131 [s0,x1] h K:=
 callP_intro k131 (Nat.le_of_ble_eq_true rfl) ((e131 Tryz.prog K s0 x1 h).mpr H)
end
/-! F132: internal/stringslite.CutPrefix -/
noncomputable section
variable (s0 x1 : Value) (h : Heap)
def oc132:=compFn Tryz.prog 132 [[],[],[],[],[]]
@[irreducible] def c132:=icOf oc132
theorem k132:oc132=some (15,c132,[.tmp 4,.tmp 5]):=by kernel_rfl
def T132:Prop:=
 CallP P 140 [s0,x1] h fun x8 h_1=>
 OP (iUn .not x8) fun x9=>
 IfP x9
 (K (.tuple #[s0,(.bool false)]) h_1)
 (OP (iLenS x1) fun x13=>
 OP (iSlS s0 (some x13) none) fun x14=>
 K (.tuple #[x14,(.bool true)]) h_1)
theorem e132:iwpP P c132 (bodyP [.tmp 4,.tmp 5] K) (frame0 [s0,x1]) h=T132 P K s0 x1 h:=by kernel_rfl
theorem f132 {K:VK} {s0 x1:Value} {h:Heap} (H:T132 Tryz.prog K s0 x1 h):CallP Tryz.prog 132 [s0,x1] h K:=
 callP_intro k132 (Nat.le_of_ble_eq_true rfl) ((e132 Tryz.prog K s0 x1 h).mpr H)
end
/-! F139: internal/stringslite.Index -/
noncomputable section
variable (s0 x1 x4 n5 c06 t9 r12 c17 x19 x22 x36 x107 x132 : Value) (L1 : LQ) (xs : List Value) (h : Heap)
def oc139:=compFn Tryz.prog 139 [[],[],[0,1,4,5,12,19,36,107,132],[0,1,4,5,12,19,22,36,107,132],[],[],[],[],[],[],[],[],[],[],[],[],[],[],[0,1,5,6,7,9],[8,10,12,107,132],[],[],[],[],[],[],[],[0,1,5,6,7,8,9,10,12,107,132],[0,1,5,6,7,8,9,10,12,84,107,132],[0,1,5,6,7,8,9,10,12,84,92,107,132],[],[],[],[],[],[],[],[],[],[],[],[],[],[],[],[],[],[],[]]
@[irreducible] def c139:=icOf oc139
@[irreducible] def c139z7:=c139.r.r.l.l.l.r.l
@[irreducible] def c139z5:=c139.r.r.l.l.r
@[irreducible] def c139z3:=c139.r.r.r
@[irreducible] def c139z9:=c139z7.r.l
@[irreducible] def c139z24:=c139z3.r.r.r.r.r.l.l.l
@[irreducible] def c139z22:=c139z3.r.r.r.r.r.r
theorem k139:oc139=some (143,c139,[.tmp 4]):=by kernel_rfl
def K139z0 (_P:Program) (K:VK):Kont:=bodyP [.tmp 4] K
def K139z3:Kont:=thenK (iwpP P c139z3 (K139z0 P K)) (K139z0 P K)
def K139z4:Kont:=inBlockK 0 (K139z3 P K)
def K139z5:Kont:=thenK (iwpP P c139z5 (K139z4 P K)) (K139z4 P K)
def K139z22:Kont:=thenK (iwpP P c139z22 (K139z0 P K)) (K139z0 P K)
def K139z23:Kont:=inBlockK 1 (K139z22 P K)
def K139z24 (s0 x1 n5 c06 c17 t9:Value) (L1:LQ):Kont:=thenK (fun f' h''=>(([0,1,5,6,7,9]:List Nat).map f':List Value)=[s0,x1,n5,c06,c17,t9]∧L1 (([8,10,12,107,132]:List Nat).map f') h'') (K139z23 P K)
def p139z7:Prop:=CutP (iwpP P c139z7 (K139z5 P K)) [0,1,4,5,12,19,36,107,132] [s0,x1,x4,n5,r12,x19,x36,x107,x132] h
def p139z9:Prop:=CutP (iwpP P c139z9 (K139z5 P K)) [0,1,4,5,12,19,22,36,107,132] [s0,x1,x4,n5,r12,x19,x22,x36,x107,x132] h
def p139z24 (s0 x1 n5 c06 c17 t9:Value) (L1:LQ) (xs:List Value) (h:Heap):Prop:=CutP (iwpP P c139z24 (K139z24 P K s0 x1 n5 c06 c17 t9 L1)) ([0,1,5,6,7,9]++[8,10,12,107,132]) ([s0,x1,n5,c06,c17,t9]++xs) h
theorem q139z9:p139z9 P K s0 x1 x4 n5 r12 x19 x22 x36 x107 x132 h=
 (OP (iPick x19 (.bool true) x22) fun x23=>
 IfP x23
 (K (.int .i64 (0)) h)
 (OP (iBin .eql n5 (.int .i64 (1))) fun x26=>
 IfP x26
 (OP (iIdxS x1 (.int .i64 (0))) fun x29=>
 CallP P 142 [s0,x29] h fun x30 h_1=>
 K x30 h_1)
 (OP (iLenS s0) fun x34=>
 OP (iBin .geq n5 x34) fun x35=>
 IfP x35
 (K (.int .i64 (-1)) h)
 (OH none fun _ h_1=>
 IfP x36
 (OH none fun _ h_2=>
 K x4 h_2)
 (OP (iIdxS x1 (.int .i64 (0))) fun x49=>
 OP (iIdxS x1 (.int .i64 (1))) fun x51=>
 OP (iLenS s0) fun x53=>
 OP (iBin .sub x53 n5) fun x55=>
 OP (iBin .add x55 (.int .i64 (1))) fun x56=>
 LoopP [(.int .i64 (0)),(.int .i64 (0)),r12,x107,x132] h_1 fun L1 xs hx=>
 p139z24 P K s0 x1 n5 x49 x51 x56 L1 xs hx))))):=cdt (by kernel_rfl)
theorem q139z7:p139z7 P K s0 x1 x4 n5 r12 x19 x36 x107 x132 h=
 (GdP x19 false
 (OP (iBin .eql x1 s0) fun x22=>
 p139z9 P K s0 x1 x4 n5 r12 x19 x22 x36 x107 x132 h)
 (p139z9 P K s0 x1 x4 n5 r12 x19 undef x36 x107 x132 h)):=cdt (by kernel_rfl)
def T139:Prop:=
 OP (iLenS x1) fun x15=>
 OP (iBin .eql x15 (.int .i64 (0))) fun x18=>
 p139z7 P K s0 x1 (.int .i64 (0)) x15 undef x18 undef undef undef h
theorem e139:iwpP P c139 (bodyP [.tmp 4] K) (frame0 [s0,x1]) h=T139 P K s0 x1 h:=by kernel_rfl
theorem f139 {K:VK} {s0 x1:Value} {h:Heap} (H:T139 Tryz.prog K s0 x1 h):CallP Tryz.prog 139 [s0,x1] h K:=
 callP_intro k139 (Nat.le_of_ble_eq_true rfl) ((e139 Tryz.prog K s0 x1 h).mpr H)
end
/-! F140: internal/stringslite.HasPrefix -/
noncomputable section
variable (s0 x1 x10 x16 : Value) (h : Heap)
def oc140:=compFn Tryz.prog 140 [[],[0,1,10],[10,16],[]]
@[irreducible] def c140:=icOf oc140
@[irreducible] def c140z4:=c140.r.l.r.l
@[irreducible] def c140z2:=c140.r.r
@[irreducible] def c140z6:=c140z4.r.l
theorem k140:oc140=some (18,c140,[.tmp 4]):=by kernel_rfl
def K140z0 (_P:Program) (K:VK):Kont:=bodyP [.tmp 4] K
def K140z2:Kont:=thenK (iwpP P c140z2 (K140z0 P K)) (K140z0 P K)
def p140z4:Prop:=CutP (iwpP P c140z4 (K140z2 P K)) [0,1,10] [s0,x1,x10] h
def p140z6:Prop:=CutP (iwpP P c140z6 (K140z2 P K)) [10,16] [x10,x16] h
theorem q140z6:p140z6 P K x10 x16 h=
 (OP (iPick x10 x16 (.bool false)) fun x17=>
 K x17 h):=cdt (by kernel_rfl)
theorem q140z4:p140z4 P K s0 x1 x10 h=
 (GdP x10 true
 (OP (iLenS x1) fun x13=>
 OP (iSlS s0 none (some x13)) fun x14=>
 OP (iBin .eql x14 x1) fun x16=>
 p140z6 P K x10 x16 h)
 (p140z6 P K x10 undef h)):=cdt (by kernel_rfl)
def T140:Prop:=
 OP (iLenS s0) fun x6=>
 OP (iLenS x1) fun x8=>
 OP (iBin .geq x6 x8) fun x9=>
 p140z4 P K s0 x1 x9 h
theorem e140:iwpP P c140 (bodyP [.tmp 4] K) (frame0 [s0,x1]) h=T140 P K s0 x1 h:=by kernel_rfl
theorem f140 {K:VK} {s0 x1:Value} {h:Heap} (H:T140 Tryz.prog K s0 x1 h):CallP Tryz.prog 140 [s0,x1] h K:=
 callP_intro k140 (Nat.le_of_ble_eq_true rfl) ((e140 Tryz.prog K s0 x1 h).mpr H)
end
/-! F142: internal/stringslite.IndexByte -/
noncomputable section
variable (s0 c1 : Value) (h : Heap)
def oc142:=compFn Tryz.prog 142 [[],[]]
@[irreducible] def c142:=icOf oc142
theorem k142:oc142=some (8,c142,[.tmp 4]):=by kernel_rfl
def T142 (P:Program) (K:VK) (s0 c1:Value) (h:Heap):Prop:=
 OP (iIdxB s0 c1) fun x7=>
 K x7 h
theorem e142:iwpP P c142 (bodyP [.tmp 4] K) (frame0 [s0,c1]) h=T142 P K s0 c1 h:=by kernel_rfl
theorem f142 {K:VK} {s0 c1:Value} {h:Heap} (H:T142 Tryz.prog K s0 c1 h):CallP Tryz.prog 142 [s0,c1] h K:=
 callP_intro k142 (Nat.le_of_ble_eq_true rfl) ((e142 Tryz.prog K s0 c1 h).mpr H)
end
end Go.Proofs.YtelmdbpaoifmoaaGreat

namespace Go.Proofs.YtelmdbpaoifmoaaGreat
open Go.Sim

theorem indexB (c:UInt8):∀s:List UInt8,Lib.indexByte s c=if s.idxOf c<s.length then (s.idxOf c:Int) else -1
 | []=>rfl
 | x::s=>by
  have ih:=indexB c s
  rw [Lib.indexByte]
  by_cases h:(x==c)=true
  ·have e1:(x::s).idxOf c=0:=by rw [List.idxOf_cons,h];rfl
   rw [if_pos h,e1,if_pos (by simp)];rfl
  ·have h':(x==c)=false:=by simpa using h
   have e1:(x::s).idxOf c=s.idxOf c+1:=by rw [List.idxOf_cons,h'];rfl
   rw [if_neg h,ih,e1,List.length_cons]
   by_cases h2:s.idxOf c<s.length
   ·have h3:¬(((s.idxOf c:Nat):Int)== -1)=true:=by
     rw [beq_iff_eq];omega
    rw [if_pos h2,if_pos (show s.idxOf c+1<s.length+1 by omega),if_neg h3]
    omega
   ·rw [if_neg h2,if_neg (show ¬s.idxOf c+1<s.length+1 by omega)]
    rfl

theorem tri3 (a b c:Value):(#[a,b,c]:Array Value)[0]?=some a∧(#[a,b,c]:Array Value)[1]?=some b∧(#[a,b,c]:Array Value)[2]?=some c:=⟨rfl,rfl,rfl⟩

section
variable {h : Heap} {K : Value → Heap → Prop} {s : List UInt8}

theorem C142 {c:UInt8} (hk:K (I (if s.idxOf c<s.length then (s.idxOf c:Int) else -1)) h):CallP Tryz.prog 142 [S s,cv c] h K:=by
 refine f142 ?_
 have e:iIdxB (S s) (cv c)=some (I (if s.idxOf c<s.length then (s.idxOf c:Int) else -1)):=by
  have e1:iIdxB (S s) (cv c)=some (Value.int .i64 (Lib.indexByte (Go.Sim.bytes (ByteArray.mk s.toArray)) ((c.toNat:Int)).toNat.toUInt8)):=rfl
  rw [e1,bytes_lit,Int.toNat_natCast,indexB]
  have:c.toNat.toUInt8=c:=by simp
  rw [this]
 simp only [T142,e,OP_some]
 exact hk

theorem C139 {c:UInt8} (hk:K (I (if s.idxOf c<s.length then (s.idxOf c:Int) else -1)) h):CallP Tryz.prog 139 [S s,S [c]] h K:=by
 refine f139 ?_
 have l1:iLenS (S [c])=some (I 1):=rfl
 have ix:iIdxS (S [c]) (.int .i64 0)=some (cv c):=rfl
 have e1:iBin .eql (I 1) (.int .i64 0)=some (B false):=rfl
 have e2:iBin .eql (I 1) (.int .i64 1)=some (B true):=rfl
 simp only [T139,l1,OP_some,e1]
 rw [q139z7]
 simp only [GdP_ff,bin_eqlS,OP_some]
 rw [q139z9]
 simp only [iPick_f,OP_some,IfP_dec]
 refine ⟨fun he=>?_,fun _=>?_⟩
 ·have e3:s.idxOf c=0:=by rw [←he];simp
  have e4:0<s.length:=by rw [←he];simp
  rw [e3,if_pos e4] at hk
  exact hk
 ·simp only [e2,OP_some,IfP_true,ix]
  exact C142 hk

theorem C123 (hl:s.length≤1000) (hk:K (.tuple #[S (overT s),S (if hasSl s=true then underT s else []),B (hasSl s)]) h):CallP Tryz.prog 123 [S s,S [47]] h K:=by
 refine f123 ?_
 unfold T123
 refine f131 ?_
 unfold T131
 refine C139 ?_
 have l1:iLenS (S [47])=some (I 1):=rfl
 by_cases hlt:s.idxOf 47<s.length
 ·have hs:hasSl s=true:=decide_eq_true hlt
  rw [hs,if_pos rfl] at hk
  rw [if_pos hlt]
  have wi:IntKind.wrap .i64 (((s.idxOf 47:Nat):Int)+1)=((s.idxOf 47+1:Nat):Int):=by rw [wrap64 (by omega) (by omega)];omega
  have sl1:=slS_hi (a:=s) (n:=s.idxOf 47) (by omega) .i64
  have sl2:=slS_lo (a:=s) (n:=s.idxOf 47+1) (by omega) .i64
  simp only [bin_geq,OP_some,decide_eq_true (show (0:Int)≤((s.idxOf 47:Nat):Int) by omega),IfP_true,sl1,l1,bin_add,wi,sl2,ext_tuple,(tri3 _ _ _).1,(tri3 _ _ _).2.1,(tri3 _ _ _).2.2]
  exact hk
 ·have hs:hasSl s=false:=decide_eq_false hlt
  rw [hs,if_neg (by decide)] at hk
  rw [if_neg hlt]
  have ho:overT s=s:=by unfold overT;exact List.take_of_length_le (by omega)
  rw [ho] at hk
  simp only [bin_geq,OP_some,show decide ((0:Int)≤ -1)=false from rfl,IfP_false,ext_tuple,(tri3 _ _ _).1,(tri3 _ _ _).2.1,(tri3 _ _ _).2.2]
  exact hk

theorem C124 (hl:s.length≤1000) (hk:K (.tuple #[S (if s.head?=some 45 then s.tail else s),B (decide (s.head?=some 45))]) h):CallP Tryz.prog 124 [S s,S [45]] h K:=by
 refine f124 ?_
 unfold T124
 refine f132 ?_
 unfold T132
 refine f140 ?_
 have l1:iLenS (S [45])=some (I 1):=rfl
 have fin:∀b:Bool,b=decide (s.head?=some 45)→(OP (iUn .not (B b)) fun x9=>
   IfP x9
    (OP (iExt 0 (.tuple #[S s,.bool false])) fun x9=>OP (iExt 1 (.tuple #[S s,.bool false])) fun x10=>K (.tuple #[x9,x10]) h)
    (OP (iSlS (S s) (some (I 1)) none) fun x14=>OP (iExt 0 (.tuple #[x14,.bool true])) fun x9=>OP (iExt 1 (.tuple #[x14,.bool true])) fun x10=>K (.tuple #[x9,x10]) h)):=by
  intro b hb
  by_cases hh:s.head?=some 45
  ·rw [decide_eq_true hh] at hb hk
   rw [if_pos hh] at hk
   subst hb
   have h1:1≤s.length:=by
    cases s with
    | nil=>simp at hh
    | cons x t=>simp
   have sl2:iSlS (S s) (some (I 1)) none=some (S s.tail):=by
    rw [←List.drop_one]
    exact slS_lo (a:=s) (n:=1) h1 .i64
   simp only [un_not,OP_some,Bool.not_true,IfP_false,l1,sl2,ext_tuple,pair0,pair1]
   exact hk
  ·rw [decide_eq_false hh] at hb hk
   rw [if_neg hh] at hk
   subst hb
   simp only [un_not,OP_some,Bool.not_false,IfP_true,ext_tuple,pair0,pair1]
   exact hk
 unfold T140
 simp only [lenS_S,l1,OP_some,bin_geq]
 rw [q140z4]
 cases s with
 | nil=>
  simp only [List.length_nil,show decide ((1:Int)≤((0:Nat):Int))=false from rfl,GdP_ft]
  rw [q140z6]
  simp only [iPick_f,OP_some]
  exact fin false (by simp)
 | cons x t=>
  have sl1:iSlS (S (x::t)) none (some (I 1))=some (S [x]):=by
   have:=slS_hi (a:=x::t) (n:=1) (by simp) .i64
   simpa using this
  rw [decide_eq_true (show (1:Int)≤((x::t).length:Int) by rw [List.length_cons];omega)]
  simp only [GdP_tt,l1,OP_some,sl1,bin_eqlS]
  rw [q140z6]
  simp only [iPick_t,OP_some]
  exact fin (decide ([x]=[45])) (by rw [decide_eq_decide];constructor <;> intro h <;> simpa using h)

end
end Go.Proofs.YtelmdbpaoifmoaaGreat


namespace Go.Proofs.YtelmdbpaoifmoaaGreat
open Go.Sim

theorem valB_take {s:List UInt8} {i:Nat} (h:i<s.length):valB (s.take (i+1))=10*valB (s.take i)+(s[i].toNat-48):=by
 rw [List.take_succ_eq_append_getElem h,valB_append,valB_one]
 simp
 omega

theorem rem_posD (k:IntKind) {a b:Int} (ha:0≤a) (hb:0<b):iBin .rem (.int k a) (.int k b)=some (.int k (a%b)):=by
 simp only [iBin,iInt,if_true]
 rw [if_neg (by omega),Int.tmod_eq_emod_of_nonneg ha]

theorem mag_one {g:Heap} {d:Nat} (hd:d<4294967296) (h0:0<d):MagV (g++[.arr 177 [.int .u32 (d:Int)]]) (sl 177 g.length 0 1) d:=
 ⟨[d],.inr ⟨g.length,rfl,.inr ⟨[],by simp [objCells]⟩⟩,⟨fun x hx=>by rw [List.mem_singleton.1 hx];exact hd,by simp;omega⟩,by simp [val]⟩

section
variable {h : Heap} {K : Value → Heap → Prop} {s : List UInt8}

theorem C125 (hl:s.length≤700) (hk:∀v h',EX h h'→MagV h' v (vOf s)→K (.tuple #[v,B (digOk s)]) h'):CallP Tryz.prog 125 [S s] h K:=by
 have bad:digOk s=false→K (.tuple #[.slice none 0 0,.bool false]) h:=by
  intro hb
  have:=hk (.slice none 0 0) h (EX.refl h) ⟨[],DS.nil _ _ _,Canon.nil _,by unfold vOf;rw [if_neg (by rw [hb];decide)];rfl⟩
  rw [hb] at this
  exact this
 refine f125 ?_
 unfold T125
 simp only [lenS_S,OP_some]
 refine loopL (σ:=Nat) (fun i=>[I i]) (fun _=>h) (fun i=>i≤s.length∧digs (s.take i)) (fun i=>s.length-i) 0 rfl rfl ⟨Nat.zero_le _,by simp [digs]⟩ ?_
 intro i ⟨hi,hdi⟩ L hL
 rw [q125z5]
 simp only [bin_lss,OP_some,IfP_dec]
 refine ⟨fun hlt=>?_,fun hge=>?_⟩
 ·have his:i<s.length:=by omega
  have ix:=idxS_S (a:=s) (i:=i) his .i64
  have lt1:iBin .lss (cv s[i]) (.int .u8 48)=some (B (decide ((s[i].toNat:Int)<48))):=rfl
  have gt1:iBin .gtr (cv s[i]) (.int .u8 57)=some (B (decide ((s[i].toNat:Int)>57))):=rfl
  have no:¬(48≤s[i].toNat∧s[i].toNat≤57)→digOk s=false:=by
   intro hn
   cases e:digOk s with
   | false=>rfl
   | true=>exact absurd ((digOk_iff.1 e).2.2 _ (List.getElem_mem his)) hn
  simp only [ix,OP_some,lt1]
  by_cases h48:s[i].toNat<48
  ·rw [decide_eq_true (show (s[i].toNat:Int)<48 by omega),q125z13]
   simp only [GdP_tf]
   rw [q125z15]
   simp only [iPick_t,OP_some,IfP_true]
   exact bad (no (by omega))
  ·rw [decide_eq_false (show ¬(s[i].toNat:Int)<48 by omega),q125z13]
   simp only [GdP_ff,ix,OP_some,gt1]
   rw [q125z15]
   simp only [iPick_f,OP_some,IfP_dec]
   refine ⟨fun h57=>bad (no (by omega)),fun h57=>?_⟩
   simp only [bin_add,inc i (by omega),OP_some,true_and]
   refine hL (i+1) ⟨by omega,?_⟩ (by omega)
   rw [List.take_succ_eq_append_getElem his]
   intro c hc
   rcases List.mem_append.1 hc with hc | hc
   ·exact hdi c hc
   ·rw [List.mem_singleton.1 hc];omega
 have hie:i=s.length:=by omega
 subst hie
 rw [List.take_length] at hdi
 clear hL
 have eE:(.string ⟨#[]⟩:Value)=S []:=rfl
 rw [q125z17,eE]
 simp only [bin_eqlS,OP_some]
 -- what is left of the conditions
 have go:digOk s=true→p125z31 Tryz.prog K (S s) (B false) (B false) h:=by
  intro hok
  have hv:vOf s=valB s:=by unfold vOf;rw [if_pos hok]
  rw [hok,hv] at hk
  rw [q125z31]
  simp only [iPick_f,OP_some,IfP_false]
  refine loopL (σ:=List UInt8×List UInt8×Value×Heap) (fun q=>[S q.2.1,q.2.2.1]) (fun q=>q.2.2.2) (fun q=>s=q.1++q.2.1∧MagV q.2.2.2 q.2.2.1 (valB q.1)∧EX h q.2.2.2) (fun q=>q.2.1.length)
   ([],s,.slice none 0 0,h) rfl rfl ⟨rfl,⟨[],DS.nil _ _ _,Canon.nil _,rfl⟩,EX.refl h⟩ ?_
  rintro ⟨p,t,v,g⟩ ⟨hst,hm,hx⟩ L hL
  simp only at hst hm hx hL⊢
  rw [q125z36,eE]
  simp only [bin_neqS,OP_some]
  by_cases ht:t=[]
  ·subst ht
   rw [decide_eq_true rfl]
   simp only [Bool.not_true,IfP_false]
   rw [q125z53]
   rw [List.append_nil] at hst
   rw [hst] at hk
   exact hk v g hx hm
  rw [decide_eq_false ht]
  have htl:0<t.length:=List.length_pos_iff.2 ht
  have hsl:p.length+t.length=s.length:=by rw [hst,List.length_append]
  have hdt:digs t:=fun c hc=>hdi c (by rw [hst];simp [hc])
  have hdp:digs p:=fun c hc=>hdi c (by rw [hst];simp [hc])
  have w1:IntKind.wrap .i64 ((t.length:Int)-1)=((t.length-1:Nat):Int):=by rw [wrap64 (by omega) (by omega)];omega
  have w2:iBin .rem (I (t.length-1:Nat)) (.int .i64 9)=some (I ((t.length-1)%9:Nat)):=by
   have:iBin .rem (I (t.length-1:Nat)) (.int .i64 9)=some (I (((t.length-1:Nat):Int)%9)):=rem_posD .i64 (by omega) (by decide)
   rw [this];congr 2
  have w3:IntKind.wrap .i64 (((t.length-1)%9:Nat)+1:Int)=(((t.length-1)%9+1:Nat):Int):=by rw [wrap64 (by omega) (by omega)];omega
  simp only [Bool.not_false,IfP_true,lenS_S,OP_some,bin_sub,w1,w2,bin_add,w3]
  have hn9:(t.length-1)%9+1≤9:=by omega
  have hnt:(t.length-1)%9+1≤t.length:=by omega
  have hn1:1≤(t.length-1)%9+1:=by omega
  generalize (t.length-1)%9+1=n at*
  refine loopL (σ:=Nat) (fun i=>[.int .u32 (valB (t.take i):Int),.int .u32 ((10^i:Nat):Int),I i]) (fun _=>g) (fun i=>i≤n) (fun i=>n-i) 0 rfl rfl (Nat.zero_le _) ?_
  intro i hin L2 hL2
  have hlt:=valB_lt (s:=t.take i) fun c hc=>hdt c (List.mem_of_mem_take hc)
  rw [List.length_take,Nat.min_eq_left (by omega)] at hlt
  have p9:(10:Nat)^i≤10^9:=Nat.pow_le_pow_right (by decide) (by omega)
  rw [q125z45]
  simp only [bin_lss,OP_some,IfP_dec]
  refine ⟨fun h1=>?_,fun h1=>?_⟩
  ·have hit:i<t.length:=by omega
   have hc:=hdt _ (List.getElem_mem hit)
   have p8:(10:Nat)^i≤10^8:=Nat.pow_le_pow_right (by decide) (by omega)
   have ix:=idxS_S (a:=t) (i:=i) hit .i64
   have m1:iBin .mul (.int .u32 10) (.int .u32 (valB (t.take i):Int))=some (.int .u32 ((10*valB (t.take i):Nat):Int)):=by
    rw [bin_mul,show (10:Int)*(valB (t.take i):Int)=((10*valB (t.take i):Nat):Int) by omega,wrapU32 (by omega) (by omega)]
   have m2:iBin .mul (.int .u32 10) (.int .u32 ((10^i:Nat):Int))=some (.int .u32 ((10^(i+1):Nat):Int)):=by
    rw [bin_mul,show (10:Int)*((10^i:Nat):Int)=((10^(i+1):Nat):Int) by rw [Nat.pow_succ];omega,wrapU32 (by omega) (by rw [Nat.pow_succ];omega)]
   have sb1:iBin .sub (cv t[i]) (.int .u8 48)=some (.int .u8 ((t[i].toNat-48:Nat):Int)):=by
    show some (Value.int .u8 (IntKind.wrap .u8 ((t[i].toNat:Int)-48)))=_
    have e:IntKind.wrap .u8 ((t[i].toNat:Int)-48)=((t[i].toNat:Int)-48)%256:=by simp [IntKind.wrap,IntKind.bits,IntKind.signed]
    rw [e];congr 2;omega
   have c1:iConv .u32 (.int .u8 ((t[i].toNat-48:Nat):Int))=some (.int .u32 ((t[i].toNat-48:Nat):Int)):=by rw [conv_int,wrapU32 (by omega) (by omega)]
   have a1:iBin .add (.int .u32 ((10*valB (t.take i):Nat):Int)) (.int .u32 ((t[i].toNat-48:Nat):Int))=some (.int .u32 (valB (t.take (i+1)):Int)):=by
    rw [valB_take hit,bin_add,←Int.natCast_add,wrapU32 (by omega) (by omega)]
   simp only [m1,ix,sb1,c1,a1,m2,bin_add,inc i (by omega),OP_some,true_and]
   exact hL2 (i+1) (by omega) (by omega)
  ·have hie:i=n:=by omega
   subst hie
   have hpow:(10:Nat)^i<4294967296:=by omega
   have hpos:0<(10:Nat)^i:=Nat.pow_pos (by decide)
   have lp:=valB_lt hdp
   have bigP:(10:Nat)^p.length≤bigW:=pow_big (by omega)
   have hsum:valB p*10^i+valB (t.take i)=valB (p++t.take i):=by
    rw [valB_append,List.length_take,Nat.min_eq_left hnt]
   have hdpt:digs (p++t.take i):=fun c hc=>by
    rcases List.mem_append.1 hc with hc | hc
    ·exact hdp c hc
    ·exact hdt c (List.mem_of_mem_take hc)
   have lpt:=valB_lt hdpt
   rw [List.length_append,List.length_take,Nat.min_eq_left hnt] at lpt
   have bigPT:(10:Nat)^(p.length+i)≤bigW:=pow_big (by omega)
   have mk:∀(g:Heap) (r:Nat),iMkSl 177 1 [(.int .u32 (0))] g [(0,1,.int .u32 (r:Int))]=some (sl 177 g.length 0 1,g++[.arr 177 [.int .u32 (r:Int)]]):=fun _ _=>rfl
   rw [q125z51]
   simp only [mk,OH_some]
   have x1:EX g (g++[.arr 177 [.int .u32 ((10^i:Nat):Int)]]):=EX.append _ _
   refine C122 (hm.mono x1) (mag_one hpow hpos) (by omega) (word_big hpow) ?_
   intro r1 g2 x2 m2
   have x3:EX g2 (g2++[.arr 177 [.int .u32 (valB (t.take i):Int)]]):=EX.append _ _
   have dr:DS 177 .u32 (g2++[.arr 177 [.int .u32 (valB (t.take i):Int)]]) (sl 177 g2.length 0 1) [valB (t.take i)]:=.inr ⟨g2.length,rfl,.inr ⟨[],by simp [objCells]⟩⟩
   refine C118 dr (fun x hx=>by rw [List.mem_singleton.1 hx];omega) (by simp) ?_
   intro r2 m3
   have e:val 4294967296 [valB (t.take i)]=valB (t.take i):=by simp [val]
   rw [e] at m3
   refine C128 (m2.mono x3) m3 (by omega) (word_big (by omega)) ?_
   intro r3 g4 x4 m4
   rw [hsum] at m4
   have sl1:=slS_lo (a:=t) (n:=i) hnt .i64
   simp only [sl1,OP_some,true_and]
   refine hL (p++t.take i,t.drop i,r3,g4) ⟨by rw [List.append_assoc,List.take_append_drop];exact hst,m4,((hx.trans x1).trans x2).trans (x3.trans x4)⟩ (by rw [List.length_drop];omega)
 have fail:digOk s=false→∀t u:Value,iPick t (.bool true) u=some (B true)→p125z31 Tryz.prog K (S s) t u h:=by
  intro hb t u ht
  rw [q125z31,ht]
  simp only [OP_some,IfP_true]
  exact bad hb
 by_cases h0:s=[]
 ·have hb:digOk s=false:=by subst h0;rfl
  rw [decide_eq_true h0,q125z21]
  simp only [GdP_tf]
  rw [q125z23]
  simp only [GdP_undef]
  rw [q125z25]
  simp only [GdP_tf]
  rw [q125z27]
  simp only [iPick_t,OP_some]
  rw [q125z29]
  simp only [GdP_tf]
  exact fail hb _ _ rfl
 have hpos:0<s.length:=List.length_pos_iff.2 h0
 rw [decide_eq_false h0,q125z21]
 have ix:=idxS_S (a:=s) (i:=0) hpos .i64
 simp only [Int.natCast_zero,Int.ofNat_zero] at ix
 have hh:s.head?=some s[0]:=by rw [List.head?_eq_getElem?,List.getElem?_eq_getElem hpos]
 have e5:iBin .eql (cv s[0]) (.int .u8 48)=some (B (decide ((s[0].toNat:Int)=48))):=rfl
 simp only [GdP_ff,ix,OP_some,e5]
 rw [q125z23]
 have tail:∀(b:Bool),b=false→digOk s=true→p125z29 Tryz.prog K (S s) (B b) h:=by
  rintro _ rfl hok
  rw [q125z29]
  simp only [GdP_ff,lenS_S,OP_some,bin_gtr,decide_eq_false (show ¬(4000:Int)<(s.length:Int) by omega)]
  exact go hok
 by_cases h48:s[0].toNat=48
 ·have hs0:s.head?=some 48:=by rw [hh];congr 1;exact UInt8.toNat_inj.1 h48
  rw [decide_eq_true (show (s[0].toNat:Int)=48 by omega)]
  simp only [GdP_tt,lenS_S,OP_some,bin_gtr]
  rw [q125z25]
  simp only [GdP_ff,iPick_t,OP_some]
  rw [q125z27]
  simp only [iPick_f,OP_some]
  by_cases h1:1<s.length
  ·have hb:digOk s=false:=by
    cases e:digOk s with
    | false=>rfl
    | true=>have:=(digOk_iff.1 e).2.1 hs0;omega
   rw [decide_eq_true (show (1:Int)<(s.length:Int) by omega),q125z29]
   simp only [GdP_tf]
   exact fail hb _ _ rfl
  ·rw [decide_eq_false (show ¬(1:Int)<(s.length:Int) by omega)]
   exact tail false rfl (digOk_iff.2 ⟨⟨hpos,by omega⟩,fun _=>by omega,hdi⟩)
 ·rw [decide_eq_false (show ¬(s[0].toNat:Int)=48 by omega)]
  simp only [GdP_ft]
  rw [q125z25]
  simp only [GdP_ff,iPick_f,OP_some]
  rw [q125z27]
  simp only [iPick_f,OP_some]
  refine tail false rfl (digOk_iff.2 ⟨⟨hpos,by omega⟩,fun hc=>?_,hdi⟩)
  rw [hh] at hc
  injection hc with hc
  rw [hc] at h48
  exact absurd rfl h48

end
end Go.Proofs.YtelmdbpaoifmoaaGreat


namespace Go.Proofs.YtelmdbpaoifmoaaGreat
open Go.Sim

def unsign (s:List UInt8):List UInt8:=if s.head?=some 45 then s.tail else s

theorem parseQ_un (s:List UInt8):parseQ s=parseT (decide (s.head?=some 45)) (unsign s):=by
 unfold parseQ unsign
 by_cases h:s.head?=some 45
 ·rw [if_pos h,if_pos h,decide_eq_true h]
 ·rw [if_neg h,if_neg h,decide_eq_false h]

theorem over_un (s:List UInt8):((overT s).head?=some 45↔s.head?=some 45)∧(if (overT s).head?=some 45 then (overT s).tail else overT s)=overT (unsign s)∧hasSl s=hasSl (unsign s)∧underT s=underT (unsign s):=by
 cases s with
 | nil=>simp [overT,unsign]
 | cons x t=>
  by_cases hx:x=45
  ·subst hx
   have e:((45:UInt8)::t).idxOf 47=t.idxOf 47+1:=by
    rw [List.idxOf_cons]
    have:((45:UInt8)==47)=false:=by decide
    rw [this];rfl
   have eu:unsign (45::t)=t:=by unfold unsign;simp
   have eo:overT (45::t)=45::overT t:=by unfold overT;rw [e,List.take_succ_cons]
   rw [eu,eo]
   refine ⟨by simp,by simp,?_,?_⟩
   ·unfold hasSl;rw [e,List.length_cons,decide_eq_decide];omega
   ·unfold underT;rw [e];rfl
  ·have eu:unsign (x::t)=x::t:=by unfold unsign;rw [if_neg (by simpa using hx)]
   have hno:¬(overT (x::t)).head?=some 45:=by
    unfold overT
    cases h:(x::t).idxOf 47 with
    | zero=>simp
    | succ k=>rw [List.take_succ_cons];simpa using hx
   rw [eu,if_neg hno]
   exact ⟨⟨fun h=>absurd h hno,fun h=>absurd (by simpa using h) hx⟩,rfl,rfl,rfl⟩

theorem fail4r {g:Heap} {j:Nat} {K:Value→Heap→Prop} (hg:g[j]?=some (.arr 107 z4)) (hk:K (.tuple #[zAgg,B false]) (g.set j (.arr 107 z4))):
  OP (iBuild [(.bool false),(.slice none 0 0),(.bool false),(.slice none 0 0)] []) fun x91=>OH (oStore 4 g (pt j 0) x91) fun _ h_1=>OP (iLoad true 4 h_1 (pt j 0)) fun r0=>K (.tuple #[r0,(.bool false)]) h_1:=by
 have e:iBuild [(.bool false),(.slice none 0 0),(.bool false),(.slice none 0 0)] []=some zAgg:=rfl
 rw [e,OP_some]
 have s:=store4 (x:=B false) (y:=.slice none 0 0) (z:=B false) (w:=.slice none 0 0) hg
 have s':oStore 4 g (pt j 0) zAgg=some (undef,g.set j (.arr 107 z4)):=s
 rw [s',OH_some]
 have l:=load4 (set_get (o:=.arr 107 z4) hg)
 have l':iLoad true 4 (g.set j (.arr 107 z4)) (pt j 0)=some zAgg:=l
 rw [l',OP_some]
 exact hk

section
variable {h : Heap} {K : Value → Heap → Prop} {s : List UInt8}

theorem signed_n {m:Bool} {n:Nat}:(m&&decide (0<n))=decide ((if m=true then -(n:Int) else (n:Int))<0)∧(if m=true then -(n:Int) else (n:Int)).natAbs=n:=by
 cases m with
 | false=>simp
 | true=>
  refine ⟨?_,by simp⟩
  simp only [Bool.true_and,if_true]
  rw [decide_eq_decide];omega

theorem C108_13 {h0:Heap} {m slash ok is:Bool} {n d:Nat} {v1 v2:Value} {i2:Nat} (k2:h[i2]?=some (.arr 107 z4)) (b2:h0.length≤i2) (hx:EX h0 h) (m1:MagV h v1 n) (m2:MagV h v2 d) (ln:n<bigW) (ld:d<bigW) (hd:is=true→0<d)
  (hk:ok=true→is=true→(m=true→n≠0)→(slash=true→Nat.gcd n d=1)→∀r h',EX h0 h'→RatV h' r (if m=true then -(n:Int) else n) d→K (.tuple #[r,B true]) h')
  (hk0:¬(ok=true∧is=true∧(m=true→n≠0)∧(slash=true→Nat.gcd n d=1))→∀a b c e h',EX h0 h'→K (.tuple #[.agg #[a,b,c,e],B false]) h'):
  p108z13 Tryz.prog K (pt i2 0) (B slash) (B m) v1 (B ok) v2 (B is) h:=by
 have fail:¬(ok=true∧is=true∧(m=true→n≠0)∧(slash=true→Nat.gcd n d=1))→∀t u:Value,iPick t (.bool true) u=some (B true)→p108z27 Tryz.prog K (pt i2 0) (B slash) (B m) v1 v2 t u h:=by
  intro hb t u ht
  rw [q108z27,ht]
  simp only [OP_some,IfP_true]
  exact fail4r k2 (hk0 hb _ _ _ _ _ (hx.set b2 _))
 have n1:∀b:Bool,iUn .not (B b)=some (B (!b)):=fun _=>rfl
 have early:¬(ok=true∧is=true)→p108z21 Tryz.prog K (pt i2 0) (B slash) (B m) v1 v2 (B true) h:=by
  intro hb
  rw [q108z21]
  simp only [GdP_tf]
  rw [q108z23]
  simp only [GdP_undef]
  rw [q108z25]
  simp only [GdP_tf]
  exact fail (fun hc=>hb ⟨hc.1,hc.2.1⟩) _ _ rfl
 rw [q108z13,n1,OP_some,q108z17]
 cases ok with
 | false=>
  simp only [Bool.not_false,GdP_tf]
  rw [q108z19]
  simp only [iPick_t,OP_some]
  exact early (fun hc=>by cases hc.1)
 | true=>
 simp only [Bool.not_true,GdP_ff,n1,OP_some]
 rw [q108z19]
 simp only [iPick_f,OP_some]
 cases is with
 | false=>exact early (fun hc=>by cases hc.2)
 | true=>
 have hd:=hd rfl
 simp only [Bool.not_true]
 rw [q108z21]
 simp only [GdP_ff]
 have main:(m=true→n≠0)→p108z27 Tryz.prog K (pt i2 0) (B slash) (B m) v1 v2 (B false) (B false) h:=by
  intro hm
  rw [q108z27]
  simp only [iPick_f,OP_some,IfP_false]
  refine C117 m1 ?_
  intro g1 x1
  refine C117 (m2.mono x1) ?_
  intro g2 x2
  have x12:=x1.trans x2
  obtain ⟨sg1,sg2⟩:=signed_n (m:=m) (n:=n)
  rw [sg1,Bool.false_and]
  have m1':=m1.mono x12
  have m2':=(m2.mono x1).mono x2
  obtain ⟨xs,dx,_⟩:=id m1'
  obtain ⟨ys,dy,_⟩:=id m2'
  have eb:iBuild [(.bool false),(.slice none 0 0),(.bool false),(.slice none 0 0)] [(0,2,.agg #[B (decide ((if m=true then -(n:Int) else (n:Int))<0)),v1]),(2,2,.agg #[B false,v2])]=some (.agg #[B (decide ((if m=true then -(n:Int) else (n:Int))<0)),v1,B false,v2]):=by
   simp [iBuild,fillL,noTuple,vcells,Value.cells,setAt,dx.one.1,dx.one.2,dy.one.1,dy.one.2]
  have e3:∀(g:Heap),iAlloc 107 [(.bool false),(.slice none 0 0),(.bool false),(.slice none 0 0)] g=some (pt g.length 0,g++[.arr 107 z4]):=fun _=>rfl
  simp only [eb,e3,OP_some,OH_some]
  have y1:EX g2 (g2++[.arr 107 z4]):=EX.append _ _
  have k13:(g2++[IObj.arr 107 z4])[g2.length]?=some (.arr 107 z4):=get_last
  generalize g2++[IObj.arr 107 z4]=g3 at y1 k13⊢
  have hl2:i2<g2.length:=(List.getElem?_eq_some_iff.1 (x12.get k2)).1
  rw [store4 k13]
  simp only [OH_some]
  have k4:(g3.set g2.length (.arr 107 [B (decide ((if m=true then -(n:Int) else (n:Int))<0)),v1,B false,v2]))[g2.length]?=some (.arr 107 [B (decide ((if m=true then -(n:Int) else (n:Int))<0)),v1,B false,v2]):=set_get k13
  have y2:EX g2 (g3.set g2.length (.arr 107 [B (decide ((if m=true then -(n:Int) else (n:Int))<0)),v1,B false,v2])):=y1.set (Nat.le_refl _) _
  generalize g3.set g2.length (.arr 107 [B (decide ((if m=true then -(n:Int) else (n:Int))<0)),v1,B false,v2])=g4 at k4 y2⊢
  have xA:=(hx.trans x12).trans y2
  have k2':=(x12.trans y2).get k2
  have mm1:=m1'.mono y2
  have mm2:=m2'.mono y2
  generalize hN:(if m=true then -(n:Int) else (n:Int))=N at*
  have fin:∀{g5:Heap} (b:Bool),EX g4 g5→((b=true→slash=true→Nat.gcd n d=1)∧(b=false→¬(slash=true→Nat.gcd n d=1)))→OH (oStore 4 g5 (pt i2 0) (.agg #[B (decide (N<0)),v1,B false,v2])) fun _ h_8=>OP (iLoad true 4 h_8 (pt i2 0)) fun r0=>K (.tuple #[r0,B b]) h_8:=by
   intro g5 b x5 hb
   have kk:=x5.get k2'
   refine fin4 (K:=fun v h=>K (.tuple #[v,B b]) h) kk ?_
   have xB:=(xA.trans x5).set b2 (.arr 107 [B (decide (N<0)),v1,B false,v2])
   cases b with
   | true=>
    refine hk rfl rfl hm (hb.1 rfl) _ _ xB ⟨v1,v2,by rw [decide_eq_false (show ¬(d:Int)<0 by omega)],?_,?_⟩
    ·rw [sg2];exact (mm1.mono x5).setB kk _
    ·rw [Int.natAbs_natCast];exact (mm2.mono x5).setB kk _
   | false=>exact hk0 (fun hc=>hb.2 rfl hc.2.2.2) _ _ _ _ _ xB
  rw [load4 k4]
  simp only [OP_some,n1,true_and]
  cases slash with
  | false=>
   simp only [Bool.not_false,GdP_tf,load4 k4,true_and,iPick_t,OP_some]
   exact fin true (EX.refl g4) ⟨fun _ h=>(by cases h),fun h=>by cases h⟩
  | true=>
   simp only [Bool.not_true,GdP_ff,fadr_pt,Nat.add_zero,Nat.zero_add,load4a k4,load4b k4,OP_some,true_and]
   refine C120g (a:=N) (b:=(d:Int)) ⟨v1,rfl,by rw [sg2];exact mm1⟩ (IntV.nat mm2) (by rw [sg2];exact ln) (by rw [Int.natAbs_natCast];exact ld) ?_
   intro r5 g5 x5 i5
   rw [sg2,Int.natAbs_natCast] at i5
   simp only [load4 (x5.get k4),true_and]
   refine C105 (by decide) (by decide) ?_
   intro r6 g6 x6 i6
   have hgl:Nat.gcd n d≤d:=Nat.gcd_le_right _ hd
   simp only [load4 ((x5.trans x6).get k4),true_and]
   refine C111 (i5.mono x6) i6 (by rw [Int.natAbs_natCast];omega) (by rw [show (1:Int).natAbs=1 from rfl];exact word_big (by decide)) ?_
   intro g7 x7
   have x57:=x5.trans (x6.trans x7)
   simp only [load4 (x57.get k4),true_and,bin_eql,OP_some,iPick_f]
   by_cases hg1:Nat.gcd n d=1
   ·rw [hg1]
    have:(if ((1:Nat):Int)-1=0 then (0:Int) else if ((1:Nat):Int)-1<0 then -1 else 1)=0:=rfl
    rw [this]
    exact fin true x57 ⟨fun _ _=>hg1,fun h=>by cases h⟩
   ·have:(if ((Nat.gcd n d:Nat):Int)-1=0 then (0:Int) else if ((Nat.gcd n d:Nat):Int)-1<0 then -1 else 1)≠0:=by
     rw [if_neg (by omega)];split <;> decide
    rw [decide_eq_false this]
    exact fin false x57 ⟨fun h=>(by cases h),fun _ hc=>hg1 (hc rfl)⟩
 rw [q108z23]
 cases m with
 | false=>
  simp only [GdP_ft]
  rw [q108z25]
  simp only [GdP_ff,iPick_f,OP_some]
  exact main (fun h=>by cases h)
 | true=>
  obtain ⟨l,p1,p2⟩:=m1.len0
  simp only [GdP_tt,p1,OP_some,bin_eql]
  rw [q108z25]
  simp only [GdP_ff,iPick_t,OP_some]
  by_cases hn:n=0
  ·rw [decide_eq_true (show (l:Int)=0 by omega)]
   exact fail (fun hc=>hc.2.2.1 rfl hn) _ _ rfl
  ·rw [decide_eq_false (show ¬(l:Int)=0 by omega)]
   exact main (fun _=>hn)

end
end Go.Proofs.YtelmdbpaoifmoaaGreat


namespace Go.Proofs.YtelmdbpaoifmoaaGreat
open Go.Sim

theorem vOf_bigW {s:List UInt8} (h:s.length≤700):vOf s<bigW:=Nat.lt_of_lt_of_le (vOf_lt s) (pow_big (by omega))

theorem C108 {h:Heap} {K:Value→Heap→Prop} {s:List UInt8} (hl:s.length≤700)
  (hk:∀n d,parseQ s=some (n,d)→∀r h',EX h h'→RatV h' r n d→K (.tuple #[r,B true]) h')
  (hk0:parseQ s=none→∀a b c e h',EX h h'→K (.tuple #[.agg #[a,b,c,e],B false]) h'):CallP Tryz.prog 108 [S s] h K:=by
 obtain ⟨o1,o2,o3,o4⟩:=over_un s
 have hp:=parseQ_un s
 have hul:(unsign s).length≤700:=by
  unfold unsign
  split
  ·rw [List.length_tail];omega
  ·exact hl
 have lo:(overT (unsign s)).length≤700:=by unfold overT;rw [List.length_take];omega
 have lu:(underT s).length≤700:=by unfold underT;rw [List.length_drop];omega
 have los:(overT s).length≤700:=by unfold overT;rw [List.length_take];omega
 have hm:decide ((overT s).head?=some 45)=decide (s.head?=some 45):=by rw [decide_eq_decide];exact o1
 refine f108 ?_
 have e1:∀(g:Heap),iAlloc 107 [(.bool false),(.slice none 0 0),(.bool false),(.slice none 0 0)] g=some (pt g.length 0,g++[.arr 107 z4]):=fun _=>rfl
 have eS:(.string ⟨#[47]⟩:Value)=S [47]:=rfl
 have eM:(.string ⟨#[45]⟩:Value)=S [45]:=rfl
 simp only [T108,e1,OH_some,eS,eM]
 have x0:EX h (h++[.arr 107 z4]):=EX.append _ _
 have k0:(h++[IObj.arr 107 z4])[h.length]?=some (.arr 107 z4):=get_last
 generalize h++[IObj.arr 107 z4]=g at x0 k0⊢
 refine C123 (by omega) ?_
 simp only [ext_tuple,(tri3 _ _ _).1,(tri3 _ _ _).2.1,(tri3 _ _ _).2.2,OP_some]
 refine C124 (by omega) ?_
 rw [o2,hm]
 simp only [ext_tuple,pair0,pair1,OP_some]
 refine C125 lo ?_
 intro v1 g1 x1 m1
 have mk:∀(g:Heap),iMkSl 177 1 [(.int .u32 (0))] g [(0,1,(.int .u32 (1)))]=some (sl 177 g.length 0 1,g++[.arr 177 [.int .u32 ((1:Nat):Int)]]):=fun _=>rfl
 simp only [ext_tuple,pair0,pair1,OP_some,mk,OH_some]
 have x2:EX g1 (g1++[.arr 177 [.int .u32 ((1:Nat):Int)]]):=EX.append _ _
 have mone:=mag_one (g:=g1) (d:=1) (by decide) (by decide)
 generalize g1++[IObj.arr 177 [.int .u32 ((1:Nat):Int)]]=g2 at x2 mone⊢
 have xg2:=x1.trans x2
 have hvo:=vOf_bigW lo
 -- what the parts say is what the text says
 have good:∀{d:Nat},denOk (unsign s)=true→denT (unsign s)=d→digOk (overT (unsign s))=true→(decide (s.head?=some 45)=true→vOf (overT (unsign s))≠0)→
   parseQ s=some (if decide (s.head?=some 45)=true then -(vOf (overT (unsign s)):Int) else (vOf (overT (unsign s)):Int),d):=by
  intro d a b c e
  rw [hp]
  unfold parseT
  rw [if_pos ⟨a,c,e⟩,b]
 have bad:¬(denOk (unsign s)=true∧digOk (overT (unsign s))=true∧(decide (s.head?=some 45)=true→vOf (overT (unsign s))≠0))→parseQ s=none:=by
  intro hb
  rw [hp]
  unfold parseT
  rw [if_neg hb]
 cases hsl:hasSl s with
 | false=>
  rw [hsl] at o3
  have hd1:denOk (unsign s)=true:=by unfold denOk;rw [←o3];rfl
  have hd2:denT (unsign s)=1:=by unfold denT;rw [←o3];rfl
  simp only [IfP_false]
  refine C108_13 (h0:=h) (n:=vOf (overT (unsign s))) (d:=1) (is:=true) (xg2.get k0) (by omega) (x0.trans xg2) (m1.mono x2) mone hvo (word_big (by decide)) (fun _=>by decide) (fun a _ c _=>?_) (fun hb=>?_)
  ·exact hk _ _ (good hd1 hd2 a c)
  ·refine hk0 (bad fun hc=>hb ⟨hc.2.1,rfl,hc.2.2,fun h=>by cases h⟩)
 | true=>
  rw [hsl] at o3
  have hlu:=lu
  simp only [IfP_true,if_true]
  refine C125 lu ?_
  intro v2 g3 x3 m2
  simp only [ext_tuple,pair0,pair1,OP_some]
  rw [q108z10]
  have hd2:denT (unsign s)=vOf (underT s):=by unfold denT;rw [←o3,←o4];rfl
  have hd1:denOk (unsign s)=(digOk (underT s)&&(decide (2≤vOf (underT s))&&decide (Nat.gcd (vOf (overT (unsign s))) (vOf (underT s))=1))):=by unfold denOk;rw [←o3,←o4];rfl
  have hvu:=vOf_bigW lu
  have x03:=x0.trans (xg2.trans x3)
  have fin:∀{g4:Heap},EX g3 g4→∀is:Bool,is=(digOk (underT s)&&decide (2≤vOf (underT s)))→p108z13 Tryz.prog K (pt h.length 0) (B true) (B (decide (s.head?=some 45))) v1 (B (digOk (overT (unsign s)))) v2 (B is) g4:=by
   intro g4 x4 is his
   refine C108_13 (h0:=h) (n:=vOf (overT (unsign s))) (d:=vOf (underT s)) ((xg2.trans (x3.trans x4)).get k0) (by omega) (x03.trans x4) ((m1.mono x2).mono (x3.trans x4)) (m2.mono x4) hvo hvu (fun h=>?_) (fun a b c d=>?_) (fun hb=>?_)
   ·rw [h] at his
    have:=(Bool.and_eq_true_iff.1 his.symm).2
    have:=of_decide_eq_true this
    omega
   ·refine hk _ _ (good ?_ hd2 a c)
    rw [b] at his
    have h2:=Bool.and_eq_true_iff.1 his.symm
    rw [hd1,h2.1,h2.2,decide_eq_true (d rfl)];rfl
   ·refine hk0 (bad fun hc=>hb ⟨hc.2.1,?_,hc.2.2,fun _=>?_⟩)
    ·have h2:=hc.1
     rw [hd1,Bool.and_eq_true,Bool.and_eq_true] at h2
     rw [his,h2.1,h2.2.1];rfl
    ·have h2:=hc.1
     rw [hd1,Bool.and_eq_true,Bool.and_eq_true] at h2
     exact of_decide_eq_true h2.2.2
  cases hdu:digOk (underT s) with
  | false=>
   simp only [GdP_ft]
   rw [q108z12]
   simp only [iPick_f,OP_some]
   exact fin (EX.refl g3) false (by rw [hdu];rfl)
  | true=>
   simp only [GdP_tt,mk,OH_some]
   have x4:EX g3 (g3++[.arr 177 [.int .u32 ((1:Nat):Int)]]):=EX.append _ _
   refine C126 (m2.mono x4) (mag_one (by decide) (by decide)) hvu (word_big (by decide)) ?_
   have hs:decide ((0:Int)<sgn (vOf (underT s)) 1)=decide (2≤vOf (underT s)):=by
    rw [decide_eq_decide]
    unfold sgn
    split
    ·omega
    ·split <;> omega
   simp only [bin_gtr,OP_some,hs]
   rw [q108z12]
   simp only [iPick_t,OP_some]
   exact fin x4 _ (by rw [hdu];rfl)

end Go.Proofs.YtelmdbpaoifmoaaGreat


namespace Go.Proofs.YtelmdbpaoifmoaaGreat
open Go.Sim
variable (P : Program) (K : VK)
/-! F24: pommel/pommelref01.Valid -/
noncomputable section
variable (x0 : Value) (h : Heap)
def oc24:=compFn Tryz.prog 24 [[],[],[]]
@[irreducible] def c24:=icOf oc24
theorem k24:oc24=some (11,c24,[.tmp 2]):=by kernel_rfl
def T24:Prop:=
 CallP P 67 [x0] h fun x7 h_1=>
 OP (iExt 0 x7) fun x8=>
 OP (iExt 1 x7) fun x9=>
 OH (iAlloc 37 [(.bool false),(.slice none 0 0),(.bool false),(.slice none 0 0)] h_1) fun x3 h_2=>
 OH (oStore 4 h_2 x3 x8) fun _ h_3=>
 K x9 h_3
theorem e24:iwpP P c24 (bodyP [.tmp 2] K) (frame0 [x0]) h=T24 P K x0 h:=by kernel_rfl
theorem f24 {K:VK} {x0:Value} {h:Heap} (H:T24 Tryz.prog K x0 h):CallP Tryz.prog 24 [x0] h K:=
 callP_intro k24 (Nat.le_of_ble_eq_true rfl) ((e24 Tryz.prog K x0 h).mpr H)
end
end Go.Proofs.YtelmdbpaoifmoaaGreat

namespace Go.Proofs.YtelmdbpaoifmoaaGreat
open Go.Sim
end Go.Proofs.YtelmdbpaoifmoaaGreat


namespace Go.Proofs.YtelmdbpaoifmoaaGreat
open Go.Sim

def cut (most n:Nat):Nat:=min n (if 10<n then 11 else most)

end Go.Proofs.YtelmdbpaoifmoaaGreat


namespace Go.Proofs.YtelmdbpaoifmoaaGreat
open Go.Sim


structure LL (h:Heap) (v:Value) (ll:List (List Nat)):Prop where
 len:iLenSl v=some (I ll.length)
 get:∀i (hi:i<ll.length),∃b o w,iAdrSl 1 v (I i)=some (pt b o)∧iLoad false 1 h (pt b o)=some w∧NS h w .i64 (ll[i].map fun i:Nat=>(i:Int))

theorem LL.mono {h h':Heap} {v:Value} {ll:List (List Nat)} (x:EX h h') (p:LL h v ll):LL h' v ll:=
 ⟨p.len,fun i hi=>let ⟨b,o,w,a,c,d⟩:=p.get i hi;⟨b,o,w,a,EX.load x c,d.mono x⟩⟩

def isSl:Value→Bool
 | .slice _ _ _=>true
 | _=>false

structure OL (b:Nat) (g:Heap) (v:Value) (ws:List Value) (ll:List (List Nat)):Prop where
 own:OwnS b g 33 v ws
 len:ws.length=ll.length
 sls:∀w∈ws,isSl w=true
 get:∀(i:Nat) (w:Value) (l:List Nat),ws[i]?=some w→ll[i]?=some l→NS g w .i64 (l.map fun i:Nat=>(i:Int))

theorem NS.keepN {g g':Heap} {w:Value} {ns:List Int} (p:NS g w .i64 ns) (hk:∀b,b<g.length→(∃o n,iLoad false 1 g (pt b o)=some (I n))→g'[b]?=g[b]?):NS g' w .i64 ns:=by
 refine ⟨p.len,fun i hi=>?_,p.le⟩
 obtain ⟨b,o,h1,h2⟩:=p.get i hi
 have hb:b<g.length:=by
  apply Classical.byContradiction
  intro hge
  simp only [iLoad,pt] at h2
  rw [objCells,List.getElem?_eq_none (by omega)] at h2
  cases h2
 refine ⟨b,o,h1,?_⟩
 have:=hk b hb ⟨o,_,h2⟩
 simp only [iLoad,pt,objCells,this] at h2⊢
 exact h2

theorem OL.keep {b:Nat} {g g':Heap} {v w:Value} {ws:List Value} {ll:List (List Nat)} {ns:List Int} (o:OL b g v ws ll) (p:NS g w .i64 ns) (hold:∀d,d<g.length→(∀n,v≠sl 33 d 0 n)→g'[d]?=g[d]?):NS g' w .i64 ns:=by
 refine NS.keepN p fun d hd ⟨o',n,hl⟩=>hold d hd fun m hv=>?_
 obtain ⟨_,_,h3⟩:=o.own.lt hv
 simp only [iLoad,pt,objCells,h3,Option.bind_some,iPart,Bool.false_eq_true,if_false] at hl
 have:=o.sls _ (List.mem_of_getElem? hl)
 cases this

theorem OL.app {h0 hx:Heap} {v w:Value} {ws:List Value} {ll:List (List Nat)} {l:List Nat} {K:Value→Heap→Prop} (o:OL h0.length hx v ws ll) (hex:EX h0 hx) (hw:NS hx w .i64 (l.map fun i:Nat=>(i:Int))) (hl:ws.length≤1000)
  (hk:∀v' hx',EX h0 hx'→OL h0.length hx' v' (ws++[w]) (ll++[l])→K v' hx'):OH (iMkSl 33 1 [(.slice none 0 0)] hx [(0,1,w)]) fun a h2=>OH (iApp 33 1 24 h2 v a) K:=by
 obtain ⟨t1,t2⟩:=slice_of_len hw.len
 have hsl:isSl w=true:=by
  have:=hw.len
  unfold iLenSl at this
  split at this
  ·rfl
  ·cases this
 refine app1p o.own (by omega) (by simp [maxLen];omega) t1 t2 ?_
 intro w1 hx' _ hlen hold hnew
 simp only [OH_some]
 have key:∀{w':Value} {ns:List Int},NS hx w' .i64 ns→NS hx' w' .i64 ns:=fun p=>o.keep p hold
 refine hk _ _ ⟨by have:=hex.1;omega,fun d hd=>?_⟩ ⟨.inr ⟨hx.length+1,by have:=hex.1;omega,by simp,hnew⟩,by simp [o.len],fun x hx=>?_,fun i x y hx hy=>?_⟩
 ·rw [hold d (by have:=hex.1;omega) fun n hv=>?_]
  ·exact hex.2 d hd
  ·have:=(o.own.lt hv).1
   omega
 ·rcases List.mem_append.1 hx with hx | hx
  ·exact o.sls x hx
  ·rw [List.mem_singleton.1 hx];exact hsl
 ·by_cases hi:i<ws.length
  ·rw [List.getElem?_append_left hi] at hx
   rw [List.getElem?_append_left (by rw [←o.len];exact hi)] at hy
   exact key (o.get i x y hx hy)
  ·rw [List.getElem?_append_right (by omega)] at hx
   rw [List.getElem?_append_right (by rw [←o.len];omega),←o.len] at hy
   have h0:i-ws.length=0:=by
    have:=(List.getElem?_eq_some_iff.1 hx).1
    simp at this;omega
   rw [h0] at hx hy
   simp only [List.getElem?_cons_zero,Option.some.injEq] at hx hy
   subst hx hy
   exact key hw

theorem OL.ll {b:Nat} {g:Heap} {v:Value} {ws:List Value} {ll:List (List Nat)} (o:OL b g v ws ll):LL g v ll:=by
 rcases o.own with ⟨rfl,h2⟩ | ⟨i,_,rfl,h3⟩
 ·have hl:=o.len
  rw [h2] at hl
  have:ll=[]:=List.length_eq_zero_iff.1 hl.symm
  subst this
  exact ⟨rfl,fun i hi=>by simp at hi⟩
 ·refine ⟨by rw [←o.len];rfl,fun j hj=>?_⟩
  have hjw:j<ws.length:=by rw [o.len];exact hj
  refine ⟨i,j,ws[j],adr_sl hjw,?_,o.get j _ _ (List.getElem?_eq_getElem hjw) (List.getElem?_eq_getElem hj)⟩
  simp [iLoad,objCells,h3,iPart,hjw]

theorem OL.start (b:Nat) (g:Heap):OL b g (.slice none 0 0) [] []:=⟨.inl ⟨rfl,rfl⟩,rfl,fun w hw=>by simp at hw,fun i w l h=>by simp at h⟩

end Go.Proofs.YtelmdbpaoifmoaaGreat


namespace Go.Sim

structure Gath (bs:List Nat) (js:List (Int×Int)) (n d k best b:Nat):Prop where
 none:best=0→b=0∧∀m,m<k→¬Rel1 bs n d m
 rel:best≠0→(b<k∧Rel1 bs n d b)∧(∀m,m<k→Rel1 bs n d m→wS js m*lS js b≤wS js b*lS js m)∧∀i,best.testBit i=true↔∃m,m<k∧Rel1 bs n d m∧wS js m*lS js b=wS js b*lS js m∧m.testBit i=true

section
variable {bs : List Nat} {js : List (Int × Int)} {n d k best b : Nat}

theorem Gath.start:Gath bs js n d 1 0 0:=⟨fun _=>⟨rfl,fun m hm h=>h.ne (by omega)⟩,fun h=>absurd rfl h⟩

theorem Gath.skip (g:Gath bs js n d k best b) (h:¬Rel1 bs n d k):Gath bs js n d (k+1) best b:=by
 refine ⟨fun h0=>⟨(g.none h0).1,fun m hm hr=>?_⟩,fun h0=>?_⟩
 ·by_cases e:m=k
  ·subst e;exact h hr
  ·exact (g.none h0).2 m (by omega) hr
 ·obtain ⟨⟨a1,a2⟩,a3,a4⟩:=g.rel h0
  refine ⟨⟨by omega,a2⟩,fun m hm hr=>?_,fun i=>?_⟩
  ·by_cases e:m=k
   ·subst e;exact absurd hr h
   ·exact a3 m (by omega) hr
  ·rw [a4 i]
   constructor
   ·rintro ⟨m,q1,q2,q3⟩;exact ⟨m,by omega,q2,q3⟩
   ·rintro ⟨m,q1,q2,q3⟩
    by_cases e:m=k
    ·subst e;exact absurd q2 h
    ·exact ⟨m,by omega,q2,q3⟩

theorem Gath.take (P:PosJ js n) (hn:n≤10) (g:Gath bs js n d k best b) (h:Rel1 bs n d k) (hb:best=0∨wS js b*lS js k<wS js k*lS js b):Gath bs js n d (k+1) k k:=by
 refine ⟨fun h0=>absurd h0 h.ne,fun _=>?_⟩
 have less:∀m,m<k→Rel1 bs n d m→wS js m*lS js k<wS js k*lS js m:=by
  intro m hm hr
  rcases hb with hb | hb
  ·exact absurd hr ((g.none hb).2 m hm)
  ·have h0:best≠0:=by
    rintro rfl
    exact (g.none rfl).2 m hm hr
   obtain ⟨⟨a1,a2⟩,a3,_⟩:=g.rel h0
   have h1:=a3 m hm hr
   have p1:=lS_pos P hn hr.lt hr.ne
   have p2:=lS_pos P hn a2.lt a2.ne
   have p3:=lS_pos P hn h.lt h.ne
   apply Classical.byContradiction
   intro hc
   have:=cross_trans p3 p1 p2 (show wS js k*lS js m≤wS js m*lS js k by omega) h1
   omega
 refine ⟨⟨by omega,h⟩,fun m hm hr=>?_,fun i=>?_⟩
 ·by_cases e:m=k
  ·subst e;exact Int.le_refl _
  ·exact Int.le_of_lt (less m (by omega) hr)
 ·constructor
  ·intro hi;exact ⟨k,by omega,h,rfl,hi⟩
  ·rintro ⟨m,q1,q2,q3,q4⟩
   by_cases e:m=k
   ·subst e;exact q4
   ·have:=less m (by omega) q2
    omega

theorem Gath.join (g:Gath bs js n d k best b) (h:Rel1 bs n d k) (h0:best≠0) (hb:wS js k*lS js b=wS js b*lS js k):Gath bs js n d (k+1) (best ||| k) b:=by
 have hne:best ||| k≠0:=by
  intro e
  have:best≤best ||| k:=Nat.left_le_or
  omega
 refine ⟨fun e=>absurd e hne,fun _=>?_⟩
 obtain ⟨⟨a1,a2⟩,a3,a4⟩:=g.rel h0
 refine ⟨⟨by omega,a2⟩,fun m hm hr=>?_,fun i=>?_⟩
 ·by_cases e:m=k
  ·subst e;omega
  ·exact a3 m (by omega) hr
 ·rw [Nat.testBit_or,Bool.or_eq_true,a4 i]
  constructor
  ·rintro (⟨m,q1,q2⟩ | hi)
   ·exact ⟨m,by omega,q2⟩
   ·exact ⟨k,by omega,h,hb,hi⟩
  ·rintro ⟨m,q1,q2,q3,q4⟩
   by_cases e:m=k
   ·subst e;exact .inr q4
   ·exact .inl ⟨m,by omega,q2,q3,q4⟩

theorem Gath.pass (g:Gath bs js n d k best b) (h0:best≠0) (hb:wS js k*lS js b<wS js b*lS js k):Gath bs js n d (k+1) best b:=by
 refine ⟨fun e=>absurd e h0,fun _=>?_⟩
 obtain ⟨⟨a1,a2⟩,a3,a4⟩:=g.rel h0
 refine ⟨⟨by omega,a2⟩,fun m hm hr=>?_,fun i=>?_⟩
 ·by_cases e:m=k
  ·subst e;omega
  ·exact a3 m (by omega) hr
 ·rw [a4 i]
  constructor
  ·rintro ⟨m,q1,q2⟩;exact ⟨m,by omega,q2⟩
  ·rintro ⟨m,q1,q2,q3,q4⟩
   by_cases e:m=k
   ·subst e;omega
   ·exact ⟨m,by omega,q2,q3,q4⟩

theorem Gath.all (P:PosJ js n) (hn:n≤10) (hb:∀b∈bs,b<2^n) (hd:d<fullS n) (g:Gath bs js n d (2^n) best b):IsSid bs js n d best:=by
 obtain ⟨s,hs⟩:=IsSid.ex (js:=js) P hn hb hd
 have h0:best≠0:=fun e=>(g.none e).2 s hs.1.1.lt hs.1.1
 obtain ⟨⟨a1,a2⟩,a3,a4⟩:=g.rel h0
 have hmax:MaxR bs js n d b:=⟨a2,fun x hx=>a3 x hx.lt hx⟩
 have e:best=s:=by
  apply Nat.eq_of_testBit_eq
  intro i
  rw [Bool.eq_iff_iff,a4 i]
  constructor
  ·rintro ⟨m,_,q2,q3,q4⟩
   have hm:=hmax.same P hn q2 (Int.le_of_eq q3.symm)
   exact subB_iff.1 (hs.2 m hm) i q4
  ·intro hi
   exact ⟨s,hs.1.1.lt,hs.1.1,Int.le_antisymm (a3 s hs.1.1.lt hs.1.1) (hs.1.2 b a2),hi⟩
 rw [e]
 exact hs
end

end Go.Sim


namespace Go.Proofs.YtelmdbpaoifmoaaGreat
open Go.Sim
end Go.Proofs.YtelmdbpaoifmoaaGreat


namespace Go.Sim

def KP (p:Value→Bool) (h h':Heap):Prop:=∀d c r,objCells h d=some (c::r)→p c=true→objCells h' d=some (c::r)

theorem KP.refl (p:Value→Bool) (h:Heap):KP p h h:=fun _ _ _ a _=>a
theorem KP.trans {p:Value→Bool} {a b c:Heap} (x:KP p a b) (y:KP p b c):KP p a c:=fun d v r h1 h2=>y d v r (x d v r h1 h2) h2
theorem KP.ex {p:Value→Bool} {a b:Heap} (x:EX a b):KP p a b:=fun _ _ _ h1 _=>x.cells h1
theorem KP.set {p:Value→Bool} {h:Heap} {i:Nat} {e:TypeId} {cs:List Value} (hg:h[i]?=some (.arr e cs)) (hp:∀c r,cs=c::r→p c=false) (o:IObj):KP p h (h.set i o):=by
 intro d c r h1 h2
 have hne:i≠d:=by
  rintro rfl
  simp only [objCells,hg] at h1
  cases h1
  rw [hp _ _ rfl] at h2
  cases h2
 simp only [objCells] at h1⊢
 rw [List.getElem?_set_ne hne]
 exact h1

def RS (h:Heap) (e:TypeId) (esz:Nat) (v:Value) (rows:List (List Value)):Prop:=
 (∀r∈rows,r.length=esz)∧((v=.slice none 0 0∧rows=[])∨∃i o,v=sl e i o rows.length∧(rows=[]∨∃pre post,objCells h i=some (pre++rows.flatten++post)∧pre.length=o))

section
variable {h h' : Heap} {e : TypeId} {esz : Nat} {v : Value} {rows : List (List Value)}

theorem RS.mono (x:EX h h') (p:RS h e esz v rows):RS h' e esz v rows:=
 ⟨p.1,p.2.imp id fun ⟨i,o,a,b⟩=>⟨i,o,a,b.imp id fun ⟨pre,post,c,d⟩=>⟨pre,post,x.cells c,d⟩⟩⟩

theorem RS.len (p:RS h e esz v rows):iLenSl v=some (I rows.length):=by
 rcases p.2 with ⟨rfl,rfl⟩ | ⟨i,o,rfl,_⟩ <;> rfl

theorem RS.one (p:RS h e esz v rows):noTuple v=true∧vcells v=[v]:=by
 rcases p.2 with ⟨rfl,_⟩ | ⟨i,o,rfl,_⟩ <;> exact ⟨rfl,rfl⟩

theorem flatten_len:∀{rows:List (List Value)},(∀r∈rows,r.length=esz)→rows.flatten.length=rows.length*esz
 | [],_=>by simp
 | r::rows,h=>by
  have ih:=flatten_len (rows:=rows) fun x hx=>h x (List.mem_cons_of_mem _ hx)
  simp only [List.flatten_cons,List.length_append,List.length_cons,h r (List.mem_cons_self ..),ih]
  rw [Nat.succ_mul];omega

theorem flatten_at:∀{rows:List (List Value)},(∀r∈rows,r.length=esz)→∀k (hk:k<rows.length),(rows.flatten.drop (k*esz)).take esz=rows[k]
 | r::rows,h,0,_=>by
  have:=h r (by simp)
  simp only [List.flatten_cons,Nat.zero_mul,List.drop_zero,List.getElem_cons_zero]
  rw [←this,List.take_left']
  rfl
 | r::rows,h,k+1,hk=>by
  have hr:=h r (by simp)
  have:=flatten_at (rows:=rows) (fun x hx=>h x (by simp [hx])) k (by simpa using hk)
  simp only [List.flatten_cons,List.getElem_cons_succ]
  rw [←this,show (k+1)*esz=r.length+k*esz by rw [Nat.succ_mul,hr];omega,List.drop_append,List.drop_eq_nil_of_le (by omega),List.nil_append,show r.length+k*esz-r.length=k*esz by omega]

theorem RS.get (p:RS h e esz v rows) {k:Nat} (hk:k<rows.length):∃i o cs,iAdrSl esz v (I k)=some (pt i o)∧objCells h i=some cs∧o+esz≤cs.length∧(cs.drop o).take esz=rows[k]:=by
 rcases p.2 with ⟨_,rfl⟩ | ⟨i,o,rfl,rfl | ⟨pre,post,hc,ho⟩⟩
 ·simp at hk
 ·simp at hk
 have hf:=flatten_len p.1
 have hle:(k+1)*esz≤rows.length*esz:=Nat.mul_le_mul_right _ hk
 rw [Nat.succ_mul] at hle
 refine ⟨i,o+k*esz,_,?_,hc,?_,?_⟩
 ·have:(0:Int)≤(k:Int)∧(k:Int)<(rows.length:Int):=by omega
  simp [sl,iAdrSl,this]
 ·simp only [List.length_append,hf];omega
 ·rw [←flatten_at p.1 k hk,←ho,List.append_assoc,List.drop_append,List.drop_eq_nil_of_le (by omega),List.nil_append,show pre.length+k*esz-pre.length=k*esz by omega]
  rw [List.drop_append_of_le_length (by rw [hf];omega),List.take_append_of_le_length (by rw [List.length_drop,hf];omega)]

theorem row_all {i o:Nat} {cs row:List Value} (hc:objCells h i=some cs) (hl:o+esz≤cs.length) (ht:(cs.drop o).take esz=row):iLoad true esz h (pt i o)=some (.agg row.toArray):=by
 simp [iLoad,hc,iPart,hl,ht]

theorem RS.nil (h:Heap) (e:TypeId) (esz:Nat):RS h e esz (.slice none 0 0) []:=⟨fun r hr=>by simp at hr,.inl ⟨rfl,rfl⟩⟩

theorem RS.arr {i:Nat} (hw:∀r∈rows,r.length=esz) (hg:h[i]?=some (.arr e rows.flatten)):RS h e esz (sl e i 0 rows.length) rows:=
 ⟨hw,.inr ⟨i,0,rfl,.inr ⟨[],[],by simp [objCells,hg],rfl⟩⟩⟩

theorem RS.from (p:RS h e esz v rows) {k:Nat} (hk:k≤rows.length):∃v',iSlSl e esz v (some (I k)) none=some v'∧RS h e esz v' (rows.drop k):=by
 have hw:∀r∈rows.drop k,r.length=esz:=fun r hr=>p.1 r (List.mem_of_mem_drop hr)
 rcases p.2 with ⟨rfl,rfl⟩ | ⟨i,o,rfl,hc⟩
 ·have:k=0:=by simpa using hk
  subst this
  exact ⟨_,rfl,⟨hw,.inl ⟨rfl,rfl⟩⟩⟩
 ·refine ⟨sl e i (o+k*esz) (rows.length-k),by simp [iSlSl,sl,iBounds,natOf,hk],hw,.inr ⟨i,_,by rw [List.length_drop],?_⟩⟩
  rcases hc with rfl | ⟨pre,post,hc,ho⟩
  ·left;simp
  ·right
   refine ⟨pre++(rows.take k).flatten,post,?_,?_⟩
   ·rw [hc]
    have:rows.flatten=(rows.take k).flatten++(rows.drop k).flatten:=by rw [←List.flatten_append,List.take_append_drop]
    rw [this];simp
   ·rw [List.length_append,ho,flatten_len fun r hr=>p.1 r (List.mem_of_mem_take hr),List.length_take,Nat.min_eq_left hk]

def OwnR (b:Nat) (hx:Heap) (e:TypeId) (esz:Nat) (v:Value) (rows:List (List Value)):Prop:=
 (∀r∈rows,r.length=esz)∧((v=.slice none 0 0∧rows=[])∨∃i,b≤i∧v=sl e i 0 rows.length∧hx[i]?=some (.arr e rows.flatten))

theorem OwnR.start (b:Nat) (hx:Heap) (e:TypeId) (esz:Nat):OwnR b hx e esz (.slice none 0 0) []:=⟨fun r hr=>by simp at hr,.inl ⟨rfl,rfl⟩⟩

theorem OwnR.rs {b:Nat} (o:OwnR b h e esz v rows):RS h e esz v rows:=by
 rcases o.2 with ⟨rfl,rfl⟩ | ⟨i,_,rfl,hg⟩
 ·exact .nil _ _ _
 ·exact .arr o.1 hg

theorem OwnR.keep {b:Nat} (o:OwnR b h e esz v rows) (x:∀d n,v=sl e d 0 n→b≤d→h'[d]?=h[d]?):OwnR b h' e esz v rows:=
 ⟨o.1,o.2.imp id fun ⟨i,h1,h2,h3⟩=>⟨i,h1,h2,by rw [x i _ h2 h1];exact h3⟩⟩

theorem OwnR.lt {b d n:Nat} (o:OwnR b h e esz v rows) (hv:v=sl e d 0 n):b≤d∧d<h.length∧h[d]?=some (.arr e rows.flatten):=by
 rcases o.2 with ⟨h1,_⟩ | ⟨i,h1,h2,h3⟩
 ·rw [h1] at hv;cases hv
 ·rw [h2] at hv
  obtain ⟨rfl,_⟩:=sl_inj hv
  exact ⟨h1,(List.getElem?_eq_some_iff.1 h3).1,h3⟩

theorem OwnR.ex {b:Nat} (o:OwnR b h e esz v rows) (x:EX h h'):OwnR b h' e esz v rows:=o.keep fun d _ hv _=>x.2 d (o.lt hv).2.1

theorem OwnR.kp {b:Nat} {p:Value→Bool} (o:OwnR b h e esz v rows) (hp:∀c r,rows.flatten=c::r→p c=false) (hold:∀d,d<h.length→(∀n,v≠sl e d 0 n)→h'[d]?=h[d]?):KP p h h':=by
 intro d c r h1 h2
 have hd:d<h.length:=by
  apply Classical.byContradiction
  intro hge
  rw [objCells,List.getElem?_eq_none (by omega)] at h1
  cases h1
 have hne:∀n,v≠sl e d 0 n:=by
  intro n hv
  have:=(o.lt hv).2.2
  simp only [objCells,this] at h1
  cases h1':rows.flatten with
  | nil=>rw [h1'] at h1;cases h1
  | cons y ys=>
   rw [h1'] at h1
   cases h1
   rw [hp _ _ h1'] at h2
   cases h2
 simp only [objCells,hold d hd hne] at h1⊢
 exact h1

theorem OwnR.app {h0:Heap} {bytes:Nat} {x:Value} {row zs:List Value} {K:Value→Heap→Prop} (o:OwnR h0.length h e esz v rows) (hex:EX h0 h) (hz:zs.length=esz) (h1:noTuple x=true) (h2:vcells x=row) (hr:row.length=esz)
  (hb:(rows.length+1)*bytes≤140737488355328) (hm:rows.length+1≤maxLen)
  (hk:∀v' h',EX h0 h'→(∀d,d<h.length→(∀n,v≠sl e d 0 n)→h'[d]?=h[d]?)→OwnR h0.length h' e esz v' (rows++[row])→K v' h'):
  OH (iMkSl e 1 zs h [(0,esz,x)]) fun a h2=>OH (iApp e esz bytes h2 v a) K:=by
 have hw:∀r∈rows++[row],r.length=esz:=by
  intro r hr'
  rcases List.mem_append.1 hr' with hr' | hr'
  ·exact o.1 r hr'
  ·rw [List.mem_singleton.1 hr'];exact hr
 have e1:iMkSl e 1 zs h [(0,esz,x)]=some (sl e h.length 0 1,h++[.arr e row]):=by
  have hzr:zrep zs 1=zs:=by simp [zrep]
  have hs:setAt zs 0 row=row:=by
   unfold setAt
   rw [List.take_zero,List.nil_append,List.drop_eq_nil_of_le (by omega),List.append_nil]
  simp only [iMkSl,hzr,fillL,h1,h2,hs]
  rw [if_pos ⟨trivial,hr,by omega⟩]
  rfl
 rw [e1]
 simp only [OH_some]
 have e2:sliceCells (h++[.arr e row]) esz (sl e h.length 0 1)=some row:=by
  simp [sliceCells,sl,objCells,hr]
  rw [←hr,List.take_length]
 have e3:lenOfSl (sl e h.length 0 1)=some 1:=rfl
 rcases o.2 with ⟨rfl,rfl⟩ | ⟨i,hi,rfl,hget⟩
 ·refine OH_of (v:=sl e (h.length+1) 0 1) (h:=h++[.arr e row]++[.arr e row]) ?_ (hk _ _ ((hex.push _).push _) (fun d hd _=>by rw [List.getElem?_append_left (by simp;omega),List.getElem?_append_left hd]) ⟨hw,.inr ⟨h.length+1,by have:=hex.1;omega,rfl,by simp⟩⟩)
  have hb':1*bytes≤140737488355328:=by simpa using hb
  have hm':1≤maxLen:=by simpa using hm
  simp only [iApp,e2,e3]
  rw [if_neg (by omega),if_pos ⟨hb',hm'⟩]
  simp
 ·have hlt:=(List.getElem?_eq_some_iff.1 hget).1
  have hg:(h++[.arr e row])[i]?=some (.arr e rows.flatten):=by rw [List.getElem?_append_left hlt];exact hget
  refine OH_of (v:=sl e (h.length+1) 0 (rows.length+1)) (h:=(h++[IObj.arr e row]).set i IObj.dead++[IObj.arr e (rows.flatten++row)]) ?_
   (hk _ _ (((hex.push _).set hi _).push _) (fun d hd hne=>?_) ⟨hw,.inr ⟨h.length+1,by have:=hex.1;omega,by simp,?_⟩⟩)
  ·simp only [iApp,e2,e3]
   simp only [sl,hg]
   rw [if_pos ⟨trivial,trivial,flatten_len o.1,hb,hm⟩,if_neg (by omega)]
   simp
  ·have hdi:i≠d:=by rintro rfl;exact hne _ rfl
   rw [List.getElem?_append_left (by simp;omega),List.getElem?_set_ne hdi,List.getElem?_append_left hd]
  ·rw [List.getElem?_append_right (by simp)]
   simp

end

end Go.Sim


namespace Go.Proofs.YtelmdbpaoifmoaaGreat
open Go.Sim

/-- Fractions in memory. -/
def RatL (h:Heap) (v:Value) (qs:List (Int×Int)):Prop:=
 ∃rows,RS h 107 4 v rows∧rows.length=qs.length∧∀(k:Nat) (row:List Value) (q:Int×Int),rows[k]?=some row→qs[k]?=some q→RatV h (.agg row.toArray) q.1 q.2


theorem RatL.mono {h h':Heap} {v:Value} {qs:List (Int×Int)} (x:EX h h') (p:RatL h v qs):RatL h' v qs:=
 let ⟨rows,a,b,c⟩:=p;⟨rows,a.mono x,b,fun k row q h1 h2=>(c k row q h1 h2).mono x⟩

theorem RatL.len {h:Heap} {v:Value} {qs:List (Int×Int)} (p:RatL h v qs):iLenSl v=some (I qs.length):=by
 obtain ⟨rows,a,b,_⟩:=p;rw [←b];exact a.len

theorem RatL.get {h:Heap} {v:Value} {qs:List (Int×Int)} (p:RatL h v qs) {k:Nat} (hk:k<qs.length):∃i o r,iAdrSl 4 v (I k)=some (pt i o)∧iLoad true 4 h (pt i o)=some r∧RatV h r qs[k].1 qs[k].2:=by
 obtain ⟨rows,a,b,c⟩:=p
 have hk':k<rows.length:=by omega
 obtain ⟨i,o,cs,g1,g2,g3,g4⟩:=a.get hk'
 exact ⟨i,o,_,g1,row_all g2 g3 g4,c k _ _ (List.getElem?_eq_getElem hk') (List.getElem?_eq_getElem hk)⟩

def isW:Value→Bool
 | .int .u32 _=>true
 | _=>false

theorem DSw.keep {e:TypeId} {h h':Heap} {v:Value} {xs:List Nat} (x:KP isW h h') (p:DS e .u32 h v xs):DS e .u32 h' v xs:=by
 refine p.imp id fun ⟨i,a,b⟩=>⟨i,a,?_⟩
 cases xs with
 | nil=>exact .inl rfl
 | cons y ys=>
  obtain ⟨r,c⟩:=b.resolve_left (by simp)
  exact .inr ⟨r,x i _ _ c rfl⟩

theorem MagV.keep {h h':Heap} {v:Value} {n:Nat} (x:KP isW h h') (p:MagV h v n):MagV h' v n:=let ⟨xs,a,b,c⟩:=p;⟨xs,DSw.keep x a,b,c⟩
theorem RatV.keep {h h':Heap} {v:Value} {a b:Int} (x:KP isW h h') (p:RatV h v a b):RatV h' v a b:=let ⟨u,w,e,m,n⟩:=p;⟨u,w,e,m.keep x,n.keep x⟩

theorem RatV.cells {h:Heap} {v:Value} {a b:Int} (p:RatV h v a b):noTuple v=true∧∃s u t w,v=.agg #[B s,u,B t,w]∧vcells v=[B s,u,B t,w]:=by
 obtain ⟨u,w,rfl,_⟩:=p
 exact ⟨rfl,_,_,_,_,rfl,rfl⟩

/-- Fractions that are being gathered. -/
def OwnQ (b:Nat) (h:Heap) (v:Value) (qs:List (Int×Int)):Prop:=
 ∃rows,OwnR b h 107 4 v rows∧rows.length=qs.length∧(∀r∈rows,∃s t,r=.bool s::t)∧∀(k:Nat) (row:List Value) (q:Int×Int),rows[k]?=some row→qs[k]?=some q→RatV h (.agg row.toArray) q.1 q.2

theorem OwnQ.start (b:Nat) (h:Heap):OwnQ b h (.slice none 0 0) []:=⟨[],OwnR.start ..,rfl,fun r hr=>by simp at hr,fun k r q h=>by simp at h⟩

theorem OwnQ.ratL {b:Nat} {h:Heap} {v:Value} {qs:List (Int×Int)} (o:OwnQ b h v qs):RatL h v qs:=let ⟨rows,a,c,_,d⟩:=o;⟨rows,a.rs,c,d⟩

theorem OwnQ.ex {b:Nat} {h h':Heap} {v:Value} {qs:List (Int×Int)} (x:EX h h') (o:OwnQ b h v qs):OwnQ b h' v qs:=
 let ⟨rows,a,c,e,d⟩:=o;⟨rows,a.ex x,c,e,fun k r q h1 h2=>(d k r q h1 h2).mono x⟩

theorem flat_bool {rows:List (List Value)} (h:∀r∈rows,∃s t,r=.bool s::t):∀c r,rows.flatten=c::r→isW c=false:=by
 intro c r hc
 cases rows with
 | nil=>simp at hc
 | cons x xs=>
  obtain ⟨s,t,rfl⟩:=h x (by simp)
  simp at hc
  rw [←hc.1];rfl

theorem OwnQ.app {h0 h:Heap} {v x:Value} {a b:Int} {qs:List (Int×Int)} {zs:List Value} {K:Value→Heap→Prop} (o:OwnQ h0.length h v qs) (hex:EX h0 h) (hx:RatV h x a b) (hz:zs.length=4) (hl:qs.length≤10000)
  (hk:∀v' h',EX h0 h'→KP isW h h'→OwnQ h0.length h' v' (qs++[(a,b)])→K v' h'):OH (iMkSl 107 1 zs h [(0,4,x)]) fun y h2=>OH (iApp 107 4 64 h2 v y) K:=by
 obtain ⟨rows,o1,o2,o3,o4⟩:=o
 obtain ⟨t1,s,u,t,w,e1,e2⟩:=hx.cells
 refine o1.app hex hz t1 e2 rfl (by omega) (by simp [maxLen];omega) ?_
 intro v' h' x' hold o'
 have kp:KP isW h h':=o1.kp (flat_bool o3) hold
 refine hk v' h' x' kp ⟨_,o',by simp [o2],fun r hr=>?_,fun k row q h1 h2=>?_⟩
 ·rcases List.mem_append.1 hr with hr | hr
  ·exact o3 r hr
  ·rw [List.mem_singleton.1 hr];exact ⟨s,_,rfl⟩
 ·by_cases hk:k<rows.length
  ·rw [List.getElem?_append_left hk] at h1
   rw [List.getElem?_append_left (by omega)] at h2
   exact (o4 k row q h1 h2).keep kp
  ·rw [List.getElem?_append_right (by omega)] at h1
   rw [List.getElem?_append_right (by omega),←o2] at h2
   have h0:k-rows.length=0:=by
    have:=(List.getElem?_eq_some_iff.1 h1).1
    simp at this;omega
   rw [h0] at h1 h2
   simp only [List.getElem?_cons_zero,Option.some.injEq] at h1 h2
   subst h1 h2
   rw [←e1]
   exact hx.keep kp

end Go.Proofs.YtelmdbpaoifmoaaGreat


namespace Go.Proofs.YtelmdbpaoifmoaaGreat
open Go.Sim

theorem C67g {s:List UInt8} {h:Heap} {K:Value→Heap→Prop} (hl:s.length≤700)
  (hk:∀n d,parseQ s=some (n,d)→∀r h',EX h h'→QZ h' r n d→K (.tuple #[r,B true]) h')
  (hk0:parseQ s=none→∀h',EX h h'→K (.tuple #[zAgg,B false]) h'):CallP Tryz.prog 67 [S s] h K:=by
 refine f67 ?_
 have e1:iAlloc 37 [(.bool false),(.slice none 0 0),(.bool false),(.slice none 0 0)] h=some (pt h.length 0,h++[.arr 37 z4]):=rfl
 have x1:EX h (h++[.arr 37 z4]):=EX.append _ _
 simp only [T67,e1,OH_some,lenS_S,OP_some,bin_gtr,decide_eq_false (show ¬(s.length:Int)>8002 by omega),IfP_false,q67z9]
 by_cases h0:s.length=0
 ·have e:s=[]:=List.length_eq_zero_iff.1 h0
  subst e
  rw [decide_eq_false (show ¬((([]:List UInt8).length:Int)>0) by simp)]
  simp only [GdP_ft,q67z11,iPick_f,OP_some,IfP_false]
  exact C67_12 (m:=false) hl x1 (Nat.le_refl _) get_last (fun n d hp=>hk n d hp) (fun hp=>hk0 hp)
 ·rw [decide_eq_true (show (s.length:Int)>0 by omega)]
  have ix:=idxS_S (a:=s) (i:=0) (by omega) .i64
  simp only [Int.natCast_zero,Int.ofNat_zero] at ix
  have hh:s.head?=some (s[0]'(by omega)):=by rw [List.head?_eq_getElem?,List.getElem?_eq_getElem (by omega)]
  have e5:iBin .eql (cv (s[0]'(by omega))) (.int .u8 45)=some (B (decide (((s[0]'(by omega)).toNat:Int)=45))):=rfl
  simp only [GdP_tt,ix,OP_some,e5,q67z11,iPick_t,IfP_dec]
  refine ⟨fun hm=>?_,fun hm=>?_⟩
  ·have hm':s[0]'(by omega)=45:=by apply UInt8.toNat_inj.1;show (s[0]'(by omega)).toNat=45;omega
   have hp:parseQ s=parseT true s.tail:=by unfold parseQ;rw [if_pos (by rw [hh,hm'])]
   have sl:=slS_lo (a:=s) (n:=1) (by omega) .i64
   have sl':iSlS (S s) (some (.int .i64 1)) none=some (S s.tail):=by rw [←List.drop_one];exact sl
   simp only [sl',OP_some]
   refine C67_12 (m:=true) (by rw [List.length_tail];omega) x1 (Nat.le_refl _) get_last (fun n d hq=>hk n d (by rw [hp];exact hq)) (fun hq=>hk0 (by rw [hp];exact hq))
  ·have hm':s[0]'(by omega)≠45:=by intro h;rw [h] at hm;exact hm rfl
   have hp:parseQ s=parseT false s:=by unfold parseQ;rw [if_neg (by rw [hh];intro h;injection h with h;exact hm' h)]
   exact C67_12 (m:=false) hl x1 (Nat.le_refl _) get_last (fun n d hq=>hk n d (by rw [hp];exact hq)) (fun hq=>hk0 (by rw [hp];exact hq))

theorem C28g {s:List UInt8} {n:Int} {d:Nat} {h:Heap} {K:Value→Heap→Prop} (hl:s.length≤700) (hp:parseQ s=some (n,d)) (hk:∀r h',EX h h'→QZ h' r n d→K r h'):CallP Tryz.prog 28 [S s] h K:=by
 refine f28 ?_
 have e1:∀g:Heap,iAlloc 37 [(.bool false),(.slice none 0 0),(.bool false),(.slice none 0 0)] g=some (pt g.length 0,g++[.arr 37 z4]):=fun _=>rfl
 simp only [T28,e1,OH_some]
 refine C67g hl (fun n' d' hp' r h1 x1 q1=>?_) (fun hp'=>by rw [hp] at hp';cases hp')
 rw [hp] at hp'
 obtain ⟨rfl,rfl⟩:n=n'∧d=d':=by injection hp' with hp';injection hp' with a b;exact ⟨a,b⟩
 obtain ⟨u,w,rfl,hu,hw⟩:=id q1
 have g1:=x1.get (get_last (h:=h) (o:=.arr 37 z4))
 simp only [ext_tuple,pair0,pair1,OP_some,OH_some]
 rw [store4 get_last]
 simp only [OH_some]
 rw [load4 (set_get get_last)]
 simp only [OP_some]
 have x2:EX h1 ((h1++[IObj.arr 37 z4]).set h1.length (.arr 37 [B (decide (n<0)),u,B (decide ((d:Int)<0)),w])):=EX.set (EX.append _ _) (Nat.le_refl _) _
 have g2:=x2.get g1
 have xA:=((EX.append h [.arr 37 z4]).trans x1).trans x2
 refine fin4 g2 (hk _ _ (xA.set (Nat.le_refl _) _) ?_)
 exact (q1.mono x2).setB g2 _

theorem C24 {s:List UInt8} {h:Heap} {K:Value→Heap→Prop} (hl:s.length≤700) (hk:∀h',EX h h'→K (B (parseQ s).isSome) h'):CallP Tryz.prog 24 [S s] h K:=by
 refine f24 ?_
 have e1:∀g:Heap,iAlloc 37 [(.bool false),(.slice none 0 0),(.bool false),(.slice none 0 0)] g=some (pt g.length 0,g++[.arr 37 z4]):=fun _=>rfl
 unfold T24
 refine C67g hl (fun n d hp r h1 x1 q1=>?_) (fun hp h1 x1=>?_)
 ·obtain ⟨u,w,rfl,hu,hw⟩:=q1
  simp only [ext_tuple,pair0,pair1,OP_some,e1,OH_some]
  rw [store4 get_last]
  simp only [OH_some]
  rw [hp] at hk
  exact hk _ (x1.trans (EX.set (EX.append _ _) (Nat.le_refl _) _))
 ·simp only [ext_tuple,pair0,pair1,OP_some,e1,OH_some]
  have st:=store4 (x:=B false) (y:=.slice none 0 0) (z:=B false) (w:=.slice none 0 0) (get_last (h:=h1) (o:=.arr 37 z4))
  have st':oStore 4 (h1++[.arr 37 z4]) (pt h1.length 0) zAgg=_:=st
  rw [st']
  simp only [OH_some]
  rw [hp] at hk
  exact hk _ (x1.trans (EX.set (EX.append _ _) (Nat.le_refl _) _))

end Go.Proofs.YtelmdbpaoifmoaaGreat


namespace Go.Proofs.YtelmdbpaoifmoaaGreat
open Go.Sim
end Go.Proofs.YtelmdbpaoifmoaaGreat


namespace Go.Proofs.YtelmdbpaoifmoaaGreat
open Go.Sim

theorem PL.monoC {h h':Heap} {p:Value} {js:List (Int×Int)} {bs:List Nat} (x:CX h h') (q:PL h p js bs):PL h' p js bs:=
 let ⟨i,vj,vb,a,b,c,d⟩:=q;⟨i,vj,vb,a,x _ _ b,c.monoC x,NS.monoC x d⟩

section
variable (js : List (Int × Int)) (bs : List Nat) (n : Nat)

structure MapOK (es:List (Int×Value)):Prop where
 val:∀s v,findI s es=some v→∃t:Nat,s=t∧t<2^n∧v=I (minS bs js n t)
 full:(findI (fullS n:Nat) es).isSome=true
 next:∀s:Nat,s<fullS n→(findI (s:Int) es).isSome=true→∀i,i<n→rdyS bs s i=true→(findI ((s ||| 2^i:Nat):Int) es).isSome=true

def KeyM (es es':List (Int×Value)):Prop:=∀k,(findI k es).isSome=true→(findI k es').isSome=true
end

theorem KeyM.refl (es:List (Int×Value)):KeyM es es:=fun _ h=>h
theorem KeyM.trans {a b c:List (Int×Value)} (h:KeyM a b) (k:KeyM b c):KeyM a c:=fun x hx=>k x (h x hx)

structure EnvC (im ox px cx:Nat) (p:Value) (js:List (Int×Int)) (bs:List Nat) (h:Heap):Prop where
 o:objCells h ox=some [.map (some im)]
 q:objCells h px=some [p]
 c:objCells h cx=some [.func (.func 97) #[] #[pt ox 0,pt px 0,pt cx 0]]
 pl:PL h p js bs

theorem EnvC.mono {im ox px cx:Nat} {p:Value} {js:List (Int×Int)} {bs:List Nat} {h h':Heap} (k:CX h h') (e:EnvC im ox px cx p js bs h):EnvC im ox px cx p js bs h':=
 ⟨k _ _ e.o,k _ _ e.q,k _ _ e.c,e.pl.monoC k⟩

end Go.Proofs.YtelmdbpaoifmoaaGreat


namespace Go.Sim

def gC (bs:List Nat) (js:List (Int×Int)) (n s i:Nat):Int:=weiJ js i*(nowS js s+lenJ js i)+minS bs js n (s ||| 2^i)

def GrP (bs:List Nat) (js:List (Int×Int)) (n:Nat):Nat→List Nat→Prop
 | s,[]=>s=fullS n
 | s,i::l=>((i<n∧rdyS bs s i=true)∧gC bs js n s i=minS bs js n s∧∀j,j<i→¬(rdyS bs s j=true∧gC bs js n s j=minS bs js n s))∧GrP bs js n (s ||| 2^i) l

theorem rdy_full {bs:List Nat} {n i:Nat} (hi:i<n):rdyS bs (fullS n) i=false:=by
 unfold rdyS
 rw [fullS_bit,decide_eq_true hi];rfl

theorem GrP.uniq {bs:List Nat} {js:List (Int×Int)} {n:Nat}:∀{l l':List Nat} {s:Nat},GrP bs js n s l→GrP bs js n s l'→l=l'
 | [],[],_,_,_=>rfl
 | [],i::l',s,h,k=>by
  have h':s=fullS n:=h
  subst h'
  have:=k.1.1.2
  rw [rdy_full k.1.1.1] at this
  cases this
 | i::l,[],s,h,k=>by
  have k':s=fullS n:=k
  subst k'
  have:=h.1.1.2
  rw [rdy_full h.1.1.1] at this
  cases this
 | i::l,i'::l',s,h,k=>by
  have e:i=i':=by
   rcases Nat.lt_trichotomy i i' with hlt | he | hgt
   ·exact absurd ⟨h.1.1.2,h.1.2.1⟩ (k.1.2.2 i hlt)
   ·exact he
   ·exact absurd ⟨k.1.1.2,k.1.2.1⟩ (h.1.2.2 i' hgt)
  subst e
  rw [GrP.uniq h.2 k.2]

theorem GrP.ok {bs:List Nat} {js:List (Int×Int)} {n:Nat} (hn:n≤10):∀{l:List Nat} {s:Nat},GrP bs js n s l→okO bs n s l=true∧stO s l=fullS n∧costF js (nowS js s) l=minS bs js n s
 | [],s,h=>by
  have h':s=fullS n:=h
  subst h'
  exact ⟨rfl,rfl,by rw [minS_full];rfl⟩
 | i::l,s,h=>by
  obtain ⟨⟨⟨h1,h2⟩,h3,_⟩,h4⟩:=h
  obtain ⟨a,b,c⟩:=GrP.ok hn h4
  refine ⟨?_,b,?_⟩
  ·simp only [okO,a,h2,h1,decide_true,Bool.and_self]
  ·have e:=now_step js (show i<10 by omega) (rdyS_bit h2)
   have h3':weiJ js i*(nowS js s+lenJ js i)+minS bs js n (s ||| 2^i)=minS bs js n s:=h3
   simp only [costF]
   rw [←e] at h3'⊢
   rw [c]
   exact h3'

theorem GrP.split {bs:List Nat} {js:List (Int×Int)} {n:Nat}:∀{a b:List Nat} {s:Nat},GrP bs js n s (a++b)→GrP bs js n (stO s a) b
 | [],_,_,h=>h
 | i::a,b,s,h=>GrP.split (a:=a) (b:=b) (s:=s ||| 2^i) h.2

end Go.Sim


namespace Go.Proofs.YtelmdbpaoifmoaaGreat
open Go.Sim

theorem OwnS.ns {b:Nat} {g:Heap} {v:Value} {l:List Nat} (o:OwnS b g 3 v (l.map fun i:Nat=>I i)) (hl:l.length≤1000):NS g v .i64 (l.map fun i:Nat=>(i:Int)):=by
 rcases o with ⟨h1,h2⟩ | ⟨a,_,h2,h3⟩
 ·have:l=[]:=by simpa using h2
  rw [this,h1]
  exact NS.nil g .i64
 ·rw [h2,List.length_map]
  have:=NS.sl (h:=g) (e:=3) (i:=a) (k:=.i64) (ns:=l.map fun i:Nat=>(i:Int)) (.inr (by simp [objCells,h3])) (by simp [maxLen];omega)
  rw [List.length_map] at this
  exact this

theorem OwnS.base {b c:Nat} {hx:Heap} {e:TypeId} {v:Value} {xs:List Value} (o:OwnS c hx e v xs) (h:b≤c):OwnS b hx e v xs:=by
 rcases o with o | ⟨i,h1,h2,h3⟩
 ·exact .inl o
 ·exact .inr ⟨i,by omega,h2,h3⟩

end Go.Proofs.YtelmdbpaoifmoaaGreat


namespace Go.Proofs.YtelmdbpaoifmoaaGreat
open Go.Sim
end Go.Proofs.YtelmdbpaoifmoaaGreat


namespace Go.Proofs.YtelmdbpaoifmoaaGreat
open Go.Sim

theorem IPS.arr {h:Heap} {e:TypeId} {i:Nat} {ps:List (Int×Int)} (hg:h[i]?=some (.arr e (pcells ps))):IPS h e (sl e i 0 ps.length) ps:=
 ⟨by rw [pcells_length];omega,.inr ⟨i,rfl,.inr (by simp [objCells,hg])⟩⟩


end Go.Proofs.YtelmdbpaoifmoaaGreat


namespace Go.Sim


theorem stO_mem:∀(l:List Nat) (s j:Nat),(stO s l).testBit j=(s.testBit j||decide (j∈l))
 | [],s,j=>by simp [stO]
 | i::l,s,j=>by
  simp only [stO,stO_mem l,testBit_or_pow]
  by_cases e:i=j
  ·subst e;simp
  ·have e':¬j=i:=fun h=>e h.symm
   simp [e,e']

structure IsOrd (bs:List Nat) (n:Nat) (l:List Nat):Prop where
 lt:∀i∈l,i<n
 nodup:l.Nodup
 all:∀i,i<n→i∈l
 before:l.Pairwise fun a b=>(bs.getD a 0).testBit b=false
 self:∀i,i<n→∀j,(bs.getD i 0).testBit j=true→j<n∧j≠i

theorem okO_of {bs:List Nat} {n:Nat}:∀{l:List Nat} {S:Nat},(∀i∈l,i<n∧S.testBit i=false)→l.Nodup→l.Pairwise (fun a b=>(bs.getD a 0).testBit b=false)→(∀i∈l,∀j,(bs.getD i 0).testBit j=true→j≠i∧(S.testBit j=true∨j∈l))→okO bs n S l=true
 | [],_,_,_,_,_=>rfl
 | i::l,S,h1,h2,h3,h4=>by
  have hn:=List.nodup_cons.1 h2
  have hp:=List.pairwise_cons.1 h3
  have hi:=h1 i (by simp)
  simp only [okO,Bool.and_eq_true,decide_eq_true_eq]
  refine ⟨⟨hi.1,?_⟩,?_⟩
  ·unfold rdyS
   rw [hi.2,Bool.not_false,Bool.true_and,subB_iff]
   intro j hj
   obtain ⟨b1,b2⟩:=h4 i (by simp) j hj
   rcases b2 with b2 | b2
   ·exact b2
   ·rcases List.mem_cons.1 b2 with b2 | b2
    ·exact absurd b2 b1
    ·rw [hp.1 j b2] at hj;cases hj
  ·refine okO_of (fun j hj=>?_) hn.2 hp.2 fun k hk j hj=>?_
   ·have:=h1 j (by simp [hj])
    refine ⟨this.1,?_⟩
    rw [testBit_or_pow,this.2,Bool.false_or]
    exact decide_eq_false fun e=>hn.1 (e ▸ hj)
   ·obtain ⟨b1,b2⟩:=h4 k (by simp [hk]) j hj
    refine ⟨b1,?_⟩
    rcases b2 with b2 | b2
    ·exact .inl (by rw [testBit_or_pow,b2];rfl)
    ·rcases List.mem_cons.1 b2 with b2 | b2
     ·exact .inl (by rw [testBit_or_pow,b2];simp)
     ·exact .inr b2

theorem IsOrd.ok {bs:List Nat} {n:Nat} {l:List Nat} (h:IsOrd bs n l):okO bs n 0 l=true∧stO 0 l=fullS n:=by
 refine ⟨okO_of (fun i hi=>⟨h.lt i hi,by simp⟩) h.nodup h.before fun i hi j hj=>?_,?_⟩
 ·obtain ⟨a,b⟩:=h.self i (h.lt i hi) j hj
  exact ⟨b,.inr (h.all j a)⟩
 ·apply Nat.eq_of_testBit_eq
  intro j
  rw [stO_mem,fullS_bit]
  simp only [Nat.zero_testBit,Bool.false_or]
  rw [decide_eq_decide]
  exact ⟨fun hm=>h.lt j hm,fun hl=>h.all j hl⟩

def Turned (bs cs:List Nat) (n:Nat):Prop:=∀i j,i<n→j<n→(bs.getD i 0).testBit j=(cs.getD j 0).testBit i

theorem Turned.symm {bs cs:List Nat} {n:Nat} (t:Turned bs cs n):Turned cs bs n:=fun i j hi hj=>(t j i hj hi).symm

end Go.Sim


namespace Go.Sim

theorem okO_facts {bs:List Nat} {n:Nat}:∀{l:List Nat} {s:Nat},okO bs n s l=true→(l.Nodup∧∀i∈l,s.testBit i=false)∧(l.Pairwise fun a b=>(bs.getD a 0).testBit b=false)∧∀i∈l,∀j,(bs.getD i 0).testBit j=true→j≠i∧(s.testBit j=true∨j∈l):=by
 intro l
 induction l with
 | nil=>intro s _;simp
 | cons i l ih=>
  intro s h
  simp only [okO,Bool.and_eq_true,decide_eq_true_eq] at h
  obtain ⟨⟨a1,a2⟩,a3,a4⟩:=ih h.2
  have hbit:=rdyS_bit h.1.2
  have hsub:subB (bs.getD i 0) s=true:=by
   have:=h.1.2
   unfold rdyS at this
   rw [Bool.and_eq_true] at this
   exact this.2
  rw [subB_iff] at hsub
  have old:∀j∈l,s.testBit j=false∧j≠i:=by
   intro j hj
   have:=a2 j hj
   rw [testBit_or_pow,Bool.or_eq_false_iff] at this
   exact ⟨this.1,fun e=>by subst e;simp at this⟩
  refine ⟨⟨?_,?_⟩,?_,?_⟩
  ·exact List.nodup_cons.2 ⟨fun hm=>(old i hm).2 rfl,a1⟩
  ·intro j hj
   rcases List.mem_cons.1 hj with rfl | hj
   ·exact hbit
   ·exact (old j hj).1
  ·refine List.pairwise_cons.2 ⟨fun j hj=>?_,a3⟩
   cases hc:(bs.getD i 0).testBit j with
   | false=>rfl
   | true=>have:=hsub j hc;rw [(old j hj).1] at this;cases this
  ·intro k hk j hj
   rcases List.mem_cons.1 hk with rfl | hk
   ·have:=hsub j hj
    exact ⟨fun e=>(by subst e;rw [hbit] at this;cases this),.inl this⟩
   ·obtain ⟨b1,b2⟩:=a4 k hk j hj
    refine ⟨b1,?_⟩
    rcases b2 with b2 | b2
    ·rw [testBit_or_pow,Bool.or_eq_true] at b2
     rcases b2 with b2 | b2
     ·exact .inl b2
     ·have:i=j:=of_decide_eq_true b2
      subst this;exact .inr (by simp)
    ·exact .inr (by simp [b2])

theorem or_testBit_zero {d s j:Nat} (h:d &&& s=0) (hs:s.testBit j=true):d.testBit j=false:=by
 have:=congrArg (Nat.testBit · j) h
 simp only [Nat.testBit_and,Nat.zero_testBit,hs,Bool.and_true] at this
 exact this

structure IsPart (bs:List Nat) (s:Nat) (l:List Nat):Prop where
 nd:l.Nodup
 mem:∀i,i∈l↔s.testBit i=true
 fit:l.Pairwise fun a b=>(bs.getD a 0).testBit b=false

theorem SidP.apart {bs:List Nat} {js:List (Int×Int)} {n:Nat}:∀{os:List Nat} {d:Nat},SidP bs js n d os→∀s∈os,∀i,s.testBit i=true→d.testBit i=false
 | [],_,_,s,hs,_,_=>by simp at hs
 | b::os,d,h,s,hs,i,hi=>by
  rcases List.mem_cons.1 hs with rfl | hs
  ·exact or_testBit_zero h.1.1.1.apart hi
  ·have:=SidP.apart h.2 s hs i hi
   rw [Nat.testBit_or,Bool.or_eq_false_iff] at this
   exact this.1

end Go.Sim


namespace Go.Sim

structure Own (bs:List Nat) (js:List (Int×Int)) (s:Nat) (E:List Nat) (bs':List Nat) (js':List (Int×Int)):Prop where
 nd:E.Nodup
 mem:∀i,i∈E↔s.testBit i=true
 len:∀k,k<E.length→lenJ js' k=lenJ js (E.getD k 0)∧weiJ js' k=weiJ js (E.getD k 0)
 bit:∀k,k<E.length→∀j,(bs'.getD k 0).testBit j=true↔j<E.length∧(bs.getD (E.getD k 0) 0).testBit (E.getD j 0)=true

section
variable {bs bs' : List Nat} {js js' : List (Int × Int)} {s : Nat} {E : List Nat}

theorem getD_get {E:List Nat} {k:Nat} (h:k<E.length):E.getD k 0=E[k]:=by simp [List.getD_eq_getElem?_getD,h]

theorem Own.inj (w:Own bs js s E bs' js') {a b:Nat} (ha:a<E.length) (hb:b<E.length) (h:E.getD a 0=E.getD b 0):a=b:=by
 rw [getD_get ha,getD_get hb] at h
 exact (List.getElem_inj w.nd).1 h

theorem Own.cost (w:Own bs js s E bs' js'):∀(o:List Nat) (now:Int),(∀k∈o,k<E.length)→costF js' now o=costF js now (o.map fun k=>E.getD k 0)
 | [],_,_=>rfl
 | k::o,now,h=>by
  have:=w.len k (h k (by simp))
  simp only [List.map_cons,costF,this.1,this.2]
  rw [w.cost o _ fun k hk=>h k (by simp [hk])]

theorem Own.part (w:Own bs js s E bs' js') {o:List Nat} (ho:okO bs' E.length 0 o=true) (hf:stO 0 o=fullS E.length):IsPart bs s (o.map fun k=>E.getD k 0):=by
 obtain ⟨⟨nd,_⟩,pw,_⟩:=okO_facts ho
 have hlt:=okO_lt ho
 have hall:∀k,k<E.length→k∈o:=by
  intro k hk
  have:=stO_mem o 0 k
  rw [hf,fullS_bit,decide_eq_true hk,Nat.zero_testBit,Bool.false_or] at this
  exact of_decide_eq_true this.symm
 refine ⟨?_,fun i=>?_,?_⟩
 ·unfold List.Nodup
  rw [List.pairwise_map]
  refine List.Pairwise.imp_of_mem (fun ha hb h=>?_) nd
  exact fun e=>h (w.inj (hlt _ ha) (hlt _ hb) e)
 ·rw [←w.mem,List.mem_map]
  constructor
  ·rintro ⟨k,hk,rfl⟩
   rw [getD_get (hlt k hk)]
   exact List.getElem_mem _
  ·intro hi
   obtain ⟨k,hk,rfl⟩:=List.mem_iff_getElem.1 hi
   exact ⟨k,hall k hk,getD_get hk⟩
 ·rw [List.pairwise_map]
  refine List.Pairwise.imp_of_mem (fun ha hb h=>?_) pw
  cases hc:(bs.getD (E.getD _ 0) 0).testBit (E.getD _ 0) with
  | false=>rfl
  | true=>rw [(w.bit _ (hlt _ ha) _).2 ⟨hlt _ hb,hc⟩] at h;cases h

theorem Own.back (w:Own bs js s E bs' js') (hi:∀i,i∈E→(bs.getD i 0).testBit i=false) {l:List Nat} (p:IsPart bs s l):
  ∃o,okO bs' E.length 0 o=true∧stO 0 o=fullS E.length∧l=o.map fun k=>E.getD k 0:=by
 have inE:∀i∈l,i∈E:=fun i h=>(w.mem i).2 ((p.mem i).1 h)
 have ix:∀i∈l,E.idxOf i<E.length∧E.getD (E.idxOf i) 0=i:=by
  intro i h
  have hl:=List.idxOf_lt_length_of_mem (inE i h)
  exact ⟨hl,by rw [getD_get hl];exact List.getElem_idxOf hl⟩
 have hm:l=(l.map fun i=>E.idxOf i).map fun k=>E.getD k 0:=by
  rw [List.map_map]
  conv=>lhs;rw [←List.map_id l]
  exact List.map_congr_left fun i h=>(ix i h).2.symm
 have hall:∀k,k<E.length→k∈l.map fun i=>E.idxOf i:=by
  intro k hk
  have hx:E[k]∈l:=(p.mem _).2 ((w.mem _).1 (List.getElem_mem hk))
  refine List.mem_map.2 ⟨E[k],hx,?_⟩
  have h2:=ix _ hx
  exact w.inj h2.1 hk (by rw [h2.2,getD_get hk])
 refine ⟨l.map fun i=>E.idxOf i,?_,?_,hm⟩
 ·refine okO_of (fun k hk=>?_) ?_ ?_ (fun k hk j hj=>?_)
  ·obtain ⟨i,h,rfl⟩:=List.mem_map.1 hk
   exact ⟨(ix i h).1,by simp⟩
  ·unfold List.Nodup
   rw [List.pairwise_map]
   refine List.Pairwise.imp_of_mem (fun ha hb h=>?_) p.nd
   exact fun e=>h (by rw [←(ix _ ha).2,←(ix _ hb).2,e])
  ·rw [List.pairwise_map]
   refine List.Pairwise.imp_of_mem (fun {a b} ha hb h=>?_) p.fit
   cases hc:(bs'.getD (E.idxOf a) 0).testBit (E.idxOf b) with
   | false=>rfl
   | true=>
    have:=((w.bit _ (ix a ha).1 _).1 hc).2
    rw [(ix a ha).2,(ix b hb).2,h] at this
    cases this
  ·obtain ⟨i,h,rfl⟩:=List.mem_map.1 hk
   obtain ⟨h1,h2⟩:=(w.bit _ (ix i h).1 _).1 hj
   rw [(ix i h).2] at h2
   refine ⟨?_,.inr (hall j h1)⟩
   rintro rfl
   rw [(ix i h).2,hi i (inE i h)] at h2
   cases h2
 ·apply Nat.eq_of_testBit_eq
  intro j
  rw [stO_mem,fullS_bit,Nat.zero_testBit,Bool.false_or]
  rw [decide_eq_decide]
  refine ⟨fun h=>?_,hall j⟩
  obtain ⟨i,h2,rfl⟩:=List.mem_map.1 h
  exact (ix i h2).1

theorem Own.best (w:Own bs js s E bs' js') (hi:∀i,i∈E→(bs.getD i 0).testBit i=false) (hj:smallF js') (hn:E.length≤10) (hu:acyc bs' E.length) {o:List Nat} (hg:GrP bs' js' E.length 0 o):
  IsPart bs s (o.map fun k=>E.getD k 0)∧∀l,IsPart bs s l→costF js 0 (o.map fun k=>E.getD k 0)≤costF js 0 l:=by
 obtain ⟨h1,h2,h3⟩:=GrP.ok hn hg
 refine ⟨w.part h1 h2,fun l hl=>?_⟩
 obtain ⟨o',p1,p2,rfl⟩:=w.back hi hl
 have:=minS_le hj hn hu (s:=0) (Nat.pow_pos (by decide)) p1 p2
 rw [now_zero] at this h3
 rw [←w.cost o 0 (okO_lt h1),←w.cost o' 0 (okO_lt p1)]
 omega

end
end Go.Sim


namespace Go.Proofs.YtelmdbpaoifmoaaGreat
open Go.Sim

theorem C29 {va vb:Value} {a b c d:Int} {h:Heap} {K:Value→Heap→Prop} (ha:QZ h va a b) (hb:QZ h vb c d) (la:a.natAbs<bigW) (lb:b.natAbs<bigW) (lc:c.natAbs<bigW) (ld:d.natAbs<bigW) (lad:(a*d).natAbs<bigW) (lcb:(c*b).natAbs<bigW)
  (hk:∀h',EX h h'→K (I (isgn (a*d-c*b))) h'):CallP Tryz.prog 29 [va,vb] h K:=by
 obtain ⟨u,w,rfl,hu,hw⟩:=ha
 obtain ⟨u',w',rfl,hu',hw'⟩:=hb
 refine f29 ?_
 unfold T29
 have e1:∀(g:Heap) (s s':Bool) (b d:Value),iBox 37 g (.agg #[B s,b,B s',d])=some (pt g.length 0,g++[.arr 37 [B s,b,B s',d]]):=fun _ _ _ _ _=>rfl
 simp only [e1,OH_some]
 have x1:EX h (h++[.arr 37 [B (decide (a<0)),u,B (decide (b<0)),w]]):=EX.append _ _
 have k1:(h++[IObj.arr 37 [B (decide (a<0)),u,B (decide (b<0)),w]])[h.length]?=some (.arr 37 [B (decide (a<0)),u,B (decide (b<0)),w]):=get_last
 generalize h++[IObj.arr 37 [B (decide (a<0)),u,B (decide (b<0)),w]]=g at x1 k1⊢
 have x2:EX g (g++[.arr 37 [B (decide (c<0)),u',B (decide (d<0)),w']]):=EX.append _ _
 have k2:(g++[IObj.arr 37 [B (decide (c<0)),u',B (decide (d<0)),w']])[g.length]?=some (.arr 37 [B (decide (c<0)),u',B (decide (d<0)),w']):=get_last
 generalize g++[IObj.arr 37 [B (decide (c<0)),u',B (decide (d<0)),w']]=g2 at x2 k2⊢
 have k1:=x2.get k1
 have xx:=x1.trans x2
 have za:ZV g2 (.agg #[B (decide (a<0)),u]) a:=⟨u,rfl,hu.mono xx⟩
 have zb:ZV g2 (.agg #[B (decide (b<0)),w]) b:=⟨w,rfl,hw.mono xx⟩
 have zc:ZV g2 (.agg #[B (decide (c<0)),u']) c:=⟨u',rfl,hu'.mono xx⟩
 have zd:ZV g2 (.agg #[B (decide (d<0)),w']) d:=⟨w',rfl,hw'.mono xx⟩
 have a0:=load4a k1
 have a2:=load4b k1
 have b0:=load4a k2
 have b2:=load4b k2
 simp only [fadr_pt,Nat.add_zero,Nat.zero_add,OP_some,a0,b2,true_and]
 refine C71 za zd la ld ?_
 intro r3 g3 x3 z3
 simp only [EX.load x3 b0,EX.load x3 a2,OP_some,b0,a2,true_and]
 refine C71 (zc.mono x3) (zb.mono x3) lc lb ?_
 intro r4 g4 x4 z4'
 refine C72 (z3.mono x4) z4' lad lcb ?_
 intro g5 x5
 exact hk g5 (xx.trans (x3.trans (x4.trans x5)))


end Go.Proofs.YtelmdbpaoifmoaaGreat


namespace Go.Proofs.YtelmdbpaoifmoaaGreat
open Go.Sim
end Go.Proofs.YtelmdbpaoifmoaaGreat


namespace Go.Proofs.YtelmdbpaoifmoaaGreat
open Go.Sim

theorem decS_short {a k:Nat} (ha:a<10^k) (hk:1≤k) (hb:a<bigW):(decS a).length≤k:=by
 obtain ⟨d1,d2,d3,d4,d5⟩:=decS_facts hb
 cases e:decS a with
 | nil=>simp
 | cons c r=>
  rw [e] at d1 d4 d5
  by_cases hc:c=48
  ·have:=d4 (by rw [hc];rfl)
   omega
  ·have h1:=d1 c (by simp)
   rw [valB_cons] at d5
   have h2:c.toNat≠48:=fun h=>hc (UInt8.toNat_inj.1 h)
   have h3:=Nat.mul_le_mul_right (10^r.length) (show 1≤c.toNat-48 by omega)
   have h4:10^r.length<10^k:=by omega
   have:=(Nat.pow_lt_pow_iff_right (show 1<10 by decide)).1 h4
   simp;omega

end Go.Proofs.YtelmdbpaoifmoaaGreat


namespace Go.Proofs.YtelmdbpaoifmoaaGreat
open Go.Sim

theorem parseQ_red {s:List UInt8} {n:Int} {d:Nat} (h:parseQ s=some (n,d)):0<d∧Nat.gcd n.natAbs d=1:=by
 rw [parseQ_un] at h
 unfold parseT at h
 split at h
 ·rename_i hc
  injection h with h
  injection h with h1 h2
  have e:=(signed_n (m:=decide (s.head?=some 45)) (n:=vOf (overT (unsign s)))).2
  have hn:n.natAbs=vOf (overT (unsign s)):=by rw [←h1];exact e
  rw [hn,←h2]
  unfold denT
  have hd:=hc.1
  unfold denOk at hd
  split
  ·rename_i hs
   rw [hs,Bool.not_true,Bool.false_or,Bool.and_eq_true,Bool.and_eq_true,decide_eq_true_eq,decide_eq_true_eq] at hd
   exact ⟨by omega,hd.2.2⟩
  ·exact ⟨by decide,Nat.gcd_one_right _⟩
 ·cases h

theorem mkRat_red {n:Int} {d:Nat} (h0:0<d) (hg:Nat.gcd n.natAbs d=1):(mkRat n d).num=n∧(mkRat n d).den=d:=by
 obtain ⟨e1,e2⟩:=mkRat_parts (N:=n) h0
 rw [hg] at e1 e2
 exact ⟨by rw [e1];simp,by rw [e2];simp⟩

def ratT (s:List UInt8):Rat:=match parseQ s with | some (n,d)=>mkRat n d | none=>0
def isNum (s:List UInt8):Bool:=(parseQ s).isSome

theorem ratT_parts {s:List UInt8} {n:Int} {d:Nat} (h:parseQ s=some (n,d)):(ratT s).num=n∧(ratT s).den=d:=by
 obtain ⟨h1,h2⟩:=parseQ_red h
 have:=mkRat_red h1 h2
 unfold ratT
 rw [h]
 exact this

theorem isNum_parse {s:List UInt8} (h:isNum s=true):parseQ s=some ((ratT s).num,(ratT s).den):=by
 unfold isNum at h
 cases e:parseQ s with
 | none=>rw [e] at h;cases h
 | some q=>
  obtain ⟨n,d⟩:=q
  obtain ⟨e1,e2⟩:=ratT_parts e
  rw [e1,e2]

theorem C108r {h:Heap} {K:Value→Heap→Prop} {s:List UInt8} (hl:s.length≤700)
  (hk:isNum s=true→∀r h',EX h h'→RV h' r (ratT s)→K (.tuple #[r,B true]) h')
  (hk0:isNum s=false→∀a b c e h',EX h h'→K (.tuple #[.agg #[a,b,c,e],B false]) h'):CallP Tryz.prog 108 [S s] h K:=by
 refine C108 hl (fun n d hp r h' x hr=>?_) (fun hp=>hk0 (by unfold isNum;rw [hp];rfl))
 obtain ⟨e1,e2⟩:=ratT_parts hp
 refine hk (by unfold isNum;rw [hp];rfl) r h' x ?_
 unfold RV
 rw [e1,e2]
 exact hr

theorem decS_le {a k:Nat} (hk:1≤k) (hb:a<bigW):(decS a).length≤k↔a<10^k:=by
 constructor
 ·intro h
  obtain ⟨d1,_,_,_,d5⟩:=decS_facts hb
  have:=valB_lt d1
  rw [d5] at this
  exact Nat.lt_of_lt_of_le this (Nat.pow_le_pow_right (by decide) h)
 ·intro h
  exact decS_short h hk hb

def fitsQ (k:Nat) (q:Rat):Bool:=decide (q.num.natAbs<10^k)&&decide (q.den<10^k)

theorem C84 {h:Heap} {K:Value→Heap→Prop} {va:Value} {p:Rat} {i k:Nat} (ha:RV h va p) (sp:szQ i p) (hi:i≤900) (hk1:1≤k) (hk2:k≤1000) (hk:∀h',EX h h'→K (B (fitsQ k p)) h'):CallP Tryz.prog 84 [va,I k] h K:=by
 obtain ⟨u,w,rfl,hu,hw⟩:=ha
 obtain ⟨l1,l2⟩:=sp.big hi
 rw [Int.natAbs_natCast] at hw
 refine f84 ?_
 have e1:∀(g:Heap) (s t:Bool) (v w:Value),iBox 107 g (.agg #[B s,v,B t,w])=some (pt g.length 0,g++[.arr 107 [B s,v,B t,w]]):=fun _ _ _ _ _=>rfl
 simp only [T84,e1,OH_some]
 generalize decide ((p.den:Int)<0)=t1 at*
 have q0:EX h (h++[.arr 107 [B (decide (p.num<0)),u,B t1,w]]):=EX.append _ _
 have p0:(h++[IObj.arr 107 [B (decide (p.num<0)),u,B t1,w]])[h.length]?=some (.arr 107 [B (decide (p.num<0)),u,B t1,w]):=get_last
 generalize h++[IObj.arr 107 [B (decide (p.num<0)),u,B t1,w]]=ga at q0 p0⊢
 have ld1:iLoad false 1 ga (pt h.length 1)=some u:=by simp [iLoad,objCells,p0,iPart]
 simp only [fadr_pt,Nat.zero_add,Nat.add_zero,OP_some,ld1]
 refine C89 (hu.mono q0) l1 ?_
 intro g1 x1
 have ld3:iLoad false 1 g1 (pt h.length 3)=some w:=by simp [iLoad,objCells,x1.get p0,iPart]
 have d1:decide (((decS p.num.natAbs).length:Int)≤(k:Int))=decide (p.num.natAbs<10^k):=by
  rw [decide_eq_decide]
  have:=decS_le hk1 l1
  omega
 simp only [lenS_S,OP_some,bin_leq,d1]
 rw [q84z4]
 unfold fitsQ at hk
 by_cases h1:p.num.natAbs<10^k
 ·rw [decide_eq_true h1] at hk⊢
  simp only [GdP_tt,fadr_pt,OP_some,ld3]
  refine C89 ((hw.mono q0).mono x1) l2 ?_
  intro g2 x2
  have d2:decide (((decS p.den).length:Int)≤(k:Int))=decide (p.den<10^k):=by
   rw [decide_eq_decide]
   have:=decS_le hk1 l2
   omega
  simp only [lenS_S,OP_some,bin_leq,d2]
  rw [q84z6]
  simp only [iPick_t,OP_some]
  rw [Bool.true_and] at hk
  exact hk g2 (q0.trans (x1.trans x2))
 ·rw [decide_eq_false h1] at hk⊢
  simp only [GdP_ft]
  rw [q84z6]
  simp only [iPick_f,OP_some]
  exact hk g1 (q0.trans x1)

end Go.Proofs.YtelmdbpaoifmoaaGreat


namespace Go.Proofs.YtelmdbpaoifmoaaGreat
open Go.Sim
variable (P : Program) (K : VK)
/-! F80: pommel/mend.numbers -/
noncomputable section
variable (c0 x4 x10 x11 x12 : Value) (L1 : LQ) (xs : List Value) (h : Heap)
def oc80:=compFn Tryz.prog 80 [[],[],[],[10,11],[4,12],[],[],[],[],[],[],[],[],[4],[]]
@[irreducible] def c80:=icOf oc80
@[irreducible] def c80z6:=c80.r.r.l.r.l.l
@[irreducible] def c80z3:=c80.r.r.r
@[irreducible] def c80z16:=c80z3.l
theorem k80:oc80=some (29,c80,[.tmp 2,.tmp 3]):=by kernel_rfl
def K80z0 (_P:Program) (K:VK):Kont:=bodyP [.tmp 2,.tmp 3] K
def K80z3:Kont:=thenK (iwpP P c80z3 (K80z0 P K)) (K80z0 P K)
def K80z5:Kont:=inBlockK 0 (K80z3 P K)
def K80z6:Kont:=thenK (fun f' h''=>(([10,11]:List Nat).map f':List Value)=[x10,x11]∧L1 (([4,12]:List Nat).map f') h'') (K80z5 P K)
def p80z6:Prop:=CutP (iwpP P c80z6 (K80z6 P K x10 x11 L1)) ([10,11]++[4,12]) ([x10,x11]++xs) h
def p80z16:Prop:=CutP (iwpP P c80z16 (K80z0 P K)) [4] [x4] h
theorem q80z6 (x10 x11:Value) (L1:LQ) (x4 x12:Value) (h:Heap):p80z6 P K x10 x11 L1 [x4,x12] h=
 (OP (iBin .lss x12 x11) fun x13=>
 IfP x13
 (OP (iAdrSl 1 x10 x12) fun x14=>
 OP (iLoad false 1 h x14) fun x15=>
 CallP P 108 [x15] h fun x18 h_1=>
 OP (iExt 0 x18) fun x19=>
 OP (iExt 1 x18) fun x20=>
 OH (iAlloc 107 [(.bool false),(.slice none 0 0),(.bool false),(.slice none 0 0)] h_1) fun x7 h_2=>
 OH (oStore 4 h_2 x7 x19) fun _ h_3=>
 OP (iUn .not x20) fun x22=>
 IfP x22
 (K (.tuple #[(.slice none 0 0),(.bool false)]) h_3)
 (OP (iLoad true 4 h_3 x7) fun x24=>
 OH (iMkSl 107 1 [(.bool false),(.slice none 0 0),(.bool false),(.slice none 0 0)] h_3 [(0,4,x24)]) fun x25 h_4=>
 OH (iApp 107 4 64 h_4 x4 x25) fun x26 h_5=>
 OP (iBin .add x12 (.int .i64 (1))) fun x27=>
 ([x10,x11]:List Value)=[x10,x11]∧L1 [x26,x27] h_5))
 (p80z16 P K x4 h)):=cdt (by kernel_rfl)
theorem q80z16:p80z16 P K x4 h=
 (K (.tuple #[x4,(.bool true)]) h):=cdt (by kernel_rfl)
def T80:Prop:=
 OH (iBox 24 h c0) fun c1 h_1=>
 OP (iFadr 0 c1) fun x9=>
 OP (iLoad false 1 h_1 x9) fun x10=>
 OP (iLenSl x10) fun x11=>
 LoopP [(.slice none 0 0),(.int .i64 (0))] h_1 fun L1 xs hx=>
 p80z6 P K x10 x11 L1 xs hx
theorem e80:iwpP P c80 (bodyP [.tmp 2,.tmp 3] K) (frame0 [c0]) h=T80 P K c0 h:=by kernel_rfl
theorem f80 {K:VK} {c0:Value} {h:Heap} (H:T80 Tryz.prog K c0 h):CallP Tryz.prog 80 [c0] h K:=
 callP_intro k80 (Nat.le_of_ble_eq_true rfl) ((e80 Tryz.prog K c0 h).mpr H)
end
/-! F82: slices.ContainsFunc[[]pommel/num.Rat,pommel/num.Rat] -/
noncomputable section
variable (s0 f1 : Value) (h : Heap)
def oc82:=compFn Tryz.prog 82 [[],[]]
@[irreducible] def c82:=icOf oc82
theorem k82:oc82=some (9,c82,[.tmp 4]):=by kernel_rfl
def T82:Prop:=
 CallP P 110 [s0,f1] h fun x7 h_1=>
 OP (iBin .geq x7 (.int .i64 (0))) fun x8=>
 K x8 h_1
theorem e82:iwpP P c82 (bodyP [.tmp 4] K) (frame0 [s0,f1]) h=T82 P K s0 f1 h:=by kernel_rfl
theorem f82 {K:VK} {s0 f1:Value} {h:Heap} (H:T82 Tryz.prog K s0 f1 h):CallP Tryz.prog 82 [s0,f1] h K:=
 callP_intro k82 (Nat.le_of_ble_eq_true rfl) ((e82 Tryz.prog K s0 f1 h).mpr H)
end
/-! F83: pommel/mend.chances$1 -/
noncomputable section
variable (x0 x1 x6 x9 : Value) (h : Heap)
def oc83:=compFn Tryz.prog 83 [[],[1,6],[6,9],[]]
@[irreducible] def c83:=icOf oc83
@[irreducible] def c83z4:=c83.r.l.r.l
@[irreducible] def c83z2:=c83.r.r
@[irreducible] def c83z6:=c83z4.r.l
theorem k83:oc83=some (11,c83,[.tmp 2]):=by kernel_rfl
def K83z0 (_P:Program) (K:VK):Kont:=bodyP [.tmp 2] K
def K83z2:Kont:=thenK (iwpP P c83z2 (K83z0 P K)) (K83z0 P K)
def p83z4:Prop:=CutP (iwpP P c83z4 (K83z2 P K)) [1,6] [x1,x6] h
def p83z6:Prop:=CutP (iwpP P c83z6 (K83z2 P K)) [6,9] [x6,x9] h
theorem q83z6:p83z6 P K x6 x9 h=
 (OP (iPick x6 (.bool true) x9) fun x10=>
 K x10 h):=cdt (by kernel_rfl)
theorem q83z4:p83z4 P K x1 x6 h=
 (GdP x6 false
 (OP (iLoad true 4 h x1) fun x7=>
 CallP P 84 [x7,(.int .i64 (4))] h fun x8 h_1=>
 OP (iUn .not x8) fun x9=>
 p83z6 P K x6 x9 h_1)
 (p83z6 P K x6 undef h)):=cdt (by kernel_rfl)
def T83:Prop:=
 OH (iBox 107 h x0) fun x1 h_1=>
 OP (iLoad true 4 h_1 x1) fun x3=>
 CallP P 81 [x3] h_1 fun x4 h_2=>
 OP (iBin .lss x4 (.int .i64 (0))) fun x5=>
 p83z4 P K x1 x5 h_2
theorem e83:iwpP P c83 (bodyP [.tmp 2] K) (frame0 [x0]) h=T83 P K x0 h:=by kernel_rfl
theorem f83 {K:VK} {x0:Value} {h:Heap} (H:T83 Tryz.prog K x0 h):CallP Tryz.prog 83 [x0] h K:=
 callP_intro k83 (Nat.le_of_ble_eq_true rfl) ((e83 Tryz.prog K x0 h).mpr H)
end
/-! F85: (pommel/mend.lucky).above -/
noncomputable section
variable (j0 x1 x4 x5 x12 x13 x14 : Value) (L1 : LQ) (xs : List Value) (h : Heap)
def oc85:=compFn Tryz.prog 85 [[],[],[],[4,5,12,13],[14],[],[],[],[],[4,5],[]]
@[irreducible] def c85:=icOf oc85
@[irreducible] def c85z6:=c85.r.r.l.r.l.l
@[irreducible] def c85z3:=c85.r.r.r
@[irreducible] def c85z12:=c85z3.l
theorem k85:oc85=some (23,c85,[.cell true 4 4]):=by kernel_rfl
def K85z0 (_P:Program) (K:VK):Kont:=bodyP [.cell true 4 4] K
def K85z3:Kont:=thenK (iwpP P c85z3 (K85z0 P K)) (K85z0 P K)
def K85z5:Kont:=inBlockK 0 (K85z3 P K)
def K85z6:Kont:=thenK (fun f' h''=>(([4,5,12,13]:List Nat).map f':List Value)=[x4,x5,x12,x13]∧L1 (([14]:List Nat).map f') h'') (K85z5 P K)
def p85z6:Prop:=CutP (iwpP P c85z6 (K85z6 P K x4 x5 x12 x13 L1)) ([4,5,12,13]++[14]) ([x4,x5,x12,x13]++xs) h
def p85z12:Prop:=CutP (iwpP P c85z12 (K85z0 P K)) [4,5] [x4,x5] h
theorem q85z6 (x4 x5 x12 x13:Value) (L1:LQ) (x14:Value) (h:Heap):p85z6 P K x4 x5 x12 x13 L1 [x14] h=
 (OP (iBin .lss x14 x13) fun x15=>
 IfP x15
 (OP (iAdrSl 4 x12 x14) fun x16=>
 OP (iLoad true 4 h x16) fun x17=>
 OH (iAlloc 107 [(.bool false),(.slice none 0 0),(.bool false),(.slice none 0 0)] h) fun x7 h_1=>
 OH (oStore 4 h_1 x7 x17) fun _ h_2=>
 OP (iLoad true 4 h_2 x5) fun x18=>
 OP (iLoad true 4 h_2 x7) fun x19=>
 CallP P 87 [x18,x19] h_2 fun x20 h_3=>
 OH (oStore 4 h_3 x5 x20) fun _ h_4=>
 OP (iBin .add x14 (.int .i64 (1))) fun x21=>
 ([x4,x5,x12,x13]:List Value)=[x4,x5,x12,x13]∧L1 [x21] h_4)
 (p85z12 P K x4 x5 h)):=cdt (by kernel_rfl)
theorem q85z12:p85z12 P K x4 x5 h=
 (OP (iLoad true 4 h x5) fun x22=>
 OH (oStore 4 h x4 x22) fun _ h_1=>
 OP (iLoad true 4 h_1 x4) fun r0=>
 K r0 h_1):=cdt (by kernel_rfl)
def T85:Prop:=
 OH (iBox 102 h j0) fun j2 h_1=>
 OH (iAlloc 107 [(.bool false),(.slice none 0 0),(.bool false),(.slice none 0 0)] h_1) fun x4 h_2=>
 CallP P 75 [(.int .i64 (0))] h_2 fun x8 h_3=>
 OH (iAlloc 107 [(.bool false),(.slice none 0 0),(.bool false),(.slice none 0 0)] h_3) fun x5 h_4=>
 OH (oStore 4 h_4 x5 x8) fun _ h_5=>
 OP (iFadr 2 j2) fun x9=>
 OP (iLoad false 1 h_5 x9) fun x10=>
 OP (iSlSl 107 4 x10 (some x1) none) fun x12=>
 OP (iLenSl x12) fun x13=>
 LoopP [(.int .i64 (0))] h_5 fun L1 xs hx=>
 p85z6 P K x4 x5 x12 x13 L1 xs hx
theorem e85:iwpP P c85 (bodyP [.cell true 4 4] K) (frame0 [j0,x1]) h=T85 P K j0 x1 h:=by kernel_rfl
theorem f85 {K:VK} {j0 x1:Value} {h:Heap} (H:T85 Tryz.prog K j0 x1 h):CallP Tryz.prog 85 [j0,x1] h K:=
 callP_intro k85 (Nat.le_of_ble_eq_true rfl) ((e85 Tryz.prog K j0 x1 h).mpr H)
end
/-! F110: slices.IndexFunc[[]pommel/num.Rat,pommel/num.Rat] -/
noncomputable section
variable (s0 f1 x7 x8 : Value) (L1 : LQ) (xs : List Value) (h : Heap)
def oc110:=compFn Tryz.prog 110 [[],[],[0,1,7],[8],[],[],[],[],[],[],[],[]]
@[irreducible] def c110:=icOf oc110
@[irreducible] def c110z5:=c110.r.l.r.l.l
@[irreducible] def c110z2:=c110.r.r
theorem k110:oc110=some (19,c110,[.tmp 4]):=by kernel_rfl
def K110z0 (_P:Program) (K:VK):Kont:=bodyP [.tmp 4] K
def K110z2:Kont:=thenK (iwpP P c110z2 (K110z0 P K)) (K110z0 P K)
def K110z4:Kont:=inBlockK 0 (K110z2 P K)
def K110z5:Kont:=thenK (fun f' h''=>(([0,1,7]:List Nat).map f':List Value)=[s0,f1,x7]∧L1 (([8]:List Nat).map f') h'') (K110z4 P K)
def p110z5:Prop:=CutP (iwpP P c110z5 (K110z5 P K s0 f1 x7 L1)) ([0,1,7]++[8]) ([s0,f1,x7]++xs) h
theorem q110z5 (s0 f1 x7:Value) (L1:LQ) (x8:Value) (h:Heap):p110z5 P K s0 f1 x7 L1 [x8] h=
 (OP (iBin .lss x8 x7) fun x9=>
 IfP x9
 (OP (iAdrSl 4 s0 x8) fun x14=>
 OP (iLoad true 4 h x14) fun x15=>
 CallVP P f1 [x15] h fun x16 h_1=>
 IfP x16
 (K x8 h_1)
 (OP (iBin .add x8 (.int .i64 (1))) fun x18=>
 ([s0,f1,x7]:List Value)=[s0,f1,x7]∧L1 [x18] h_1))
 (K (.int .i64 (-1)) h)):=cdt (by kernel_rfl)
def T110:Prop:=
 OP (iLenSl s0) fun x7=>
 LoopP [(.int .i64 (0))] h fun L1 xs hx=>
 p110z5 P K s0 f1 x7 L1 xs hx
theorem e110:iwpP P c110 (bodyP [.tmp 4] K) (frame0 [s0,f1]) h=T110 P K s0 f1 h:=by kernel_rfl
theorem f110 {K:VK} {s0 f1:Value} {h:Heap} (H:T110 Tryz.prog K s0 f1 h):CallP Tryz.prog 110 [s0,f1] h K:=
 callP_intro k110 (Nat.le_of_ble_eq_true rfl) ((e110 Tryz.prog K s0 f1 h).mpr H)
end
end Go.Proofs.YtelmdbpaoifmoaaGreat

namespace Go.Proofs.YtelmdbpaoifmoaaGreat
open Go.Sim

def prs (qs:List Rat):List (Int×Int):=qs.map fun q=>(q.num,(q.den:Int))
def QL (h:Heap) (v:Value) (qs:List Rat):Prop:=RatL h v (prs qs)
theorem QL.mono {h h':Heap} {v:Value} {qs:List Rat} (x:EX h h') (p:QL h v qs):QL h' v qs:=RatL.mono x p
theorem prs_len (qs:List Rat):(prs qs).length=qs.length:=by simp [prs]
theorem QL.len {h:Heap} {v:Value} {qs:List Rat} (p:QL h v qs):iLenSl v=some (I qs.length):=by have:=RatL.len p;rwa [prs_len] at this
theorem QL.get {h:Heap} {v:Value} {qs:List Rat} (p:QL h v qs) {k:Nat} (hk:k<qs.length):∃i o r,iAdrSl 4 v (I k)=some (pt i o)∧iLoad true 4 h (pt i o)=some r∧RV h r qs[k]:=by
 obtain ⟨i,o,r,g1,g2,g3⟩:=RatL.get p (k:=k) (by rw [prs_len];exact hk)
 refine ⟨i,o,r,g1,g2,?_⟩
 unfold RV
 simpa [prs] using g3

theorem RV.agg {h:Heap} {v:Value} {q:Rat} (p:RV h v q):∃a b c d,v=.agg #[B a,b,B c,d]:=by
 obtain ⟨u,w,rfl,_⟩:=p
 exact ⟨_,_,_,_,rfl⟩

section
variable {h : Heap} {K : Value → Heap → Prop}

theorem C80 {vs:Value} {w:Int} {ls:List (List UInt8)} (hv:SS h vs ls) (hl:∀s∈ls,s.length≤700) (hn:ls.length≤1000)
  (hk:ls.all isNum=true→∀v h' b,EX h h'→OwnQ b h' v (prs (ls.map ratT))→K (.tuple #[v,B true]) h')
  (hk0:ls.all isNum=false→∀h',EX h h'→K (.tuple #[.slice none 0 0,B false]) h'):CallP Tryz.prog 80 [.agg #[vs,I w]] h K:=by
 refine f80 ?_
 have e1:iBox 24 h (.agg #[vs,I w])=some (pt h.length 0,h++[.arr 24 [vs,I w]]):=rfl
 simp only [T80,e1,OH_some]
 have x0:EX h (h++[.arr 24 [vs,I w]]):=EX.append _ _
 have k0:(h++[IObj.arr 24 [vs,I w]])[h.length]?=some (.arr 24 [vs,I w]):=get_last
 generalize h++[IObj.arr 24 [vs,I w]]=g0 at x0 k0⊢
 have ld:iLoad false 1 g0 (pt h.length 0)=some vs:=by simp [iLoad,objCells,k0,iPart]
 have hlen:=hv.len
 simp only [fadr_pt,Nat.add_zero,OP_some,ld,hlen]
 refine loopL (σ:=Nat×Value×Heap) (fun q=>[q.2.1,I q.1]) (fun q=>q.2.2) (fun q=>q.1≤ls.length∧EX g0 q.2.2∧(ls.take q.1).all isNum=true∧OwnQ g0.length q.2.2 q.2.1 (prs ((ls.take q.1).map ratT))) (fun q=>ls.length-q.1)
  (0,.slice none 0 0,g0) rfl rfl ⟨Nat.zero_le _,EX.refl _,by simp,by simpa [prs] using OwnQ.start g0.length g0⟩ ?_
 rintro ⟨i,vo,g⟩ ⟨hi,xg,hall,own⟩ L hL
 simp only at hi xg hall own hL⊢
 rw [q80z6]
 simp only [bin_lss,OP_some,IfP_dec]
 refine ⟨fun hlt=>?_,fun hge=>?_⟩
 ·have hil:i<ls.length:=by omega
  obtain ⟨b,o,r1,r2⟩:=(hv.mono (x0.trans xg)).get i hil
  simp only [r1,r2,OP_some]
  have e7:∀(g:Heap),iAlloc 107 [(.bool false),(.slice none 0 0),(.bool false),(.slice none 0 0)] g=some (pt g.length 0,g++[.arr 107 z4]):=fun _=>rfl
  refine C108r (hl _ (List.getElem_mem hil)) (fun hnum r g1 x1 hr=>?_) (fun hnum a b c e g1 x1=>?_)
  ·obtain ⟨a,b',c,d,rfl⟩:=hr.agg
   simp only [ext_tuple,pair0,pair1,OP_some,e7,OH_some]
   rw [store4 get_last]
   simp only [OH_some,un_not,OP_some,Bool.not_true,IfP_false]
   rw [load4 (set_get get_last)]
   simp only [OP_some]
   have x2:EX g1 ((g1++[IObj.arr 107 z4]).set g1.length (.arr 107 [B a,b',B c,d])):=EX.set (EX.append _ _) (Nat.le_refl _) _
   generalize (g1++[IObj.arr 107 z4]).set g1.length (.arr 107 [B a,b',B c,d])=g2 at x2⊢
   have x12:=x1.trans x2
   refine (own.ex x12).app (xg.trans x12) (hr.mono x2) rfl (by rw [prs_len,List.length_map,List.length_take];omega) ?_
   intro v' g3 x3 _ own'
   simp only [bin_add,OP_some,inc i (by omega),true_and]
   refine hL (i+1,v',g3) ⟨by show i+1≤_;omega,x3,?_,?_⟩ (by show ls.length-(i+1)<ls.length-i;omega)
   ·show (ls.take (i+1)).all isNum=true
    rw [List.take_succ_eq_append_getElem hil,List.all_append,hall]
    simpa using hnum
   ·show OwnQ g0.length g3 v' (prs ((ls.take (i+1)).map ratT))
    rw [List.take_succ_eq_append_getElem hil,List.map_append]
    simpa [prs] using own'
  ·simp only [ext_tuple,pair0,pair1,OP_some,e7,OH_some]
   rw [store4 get_last]
   simp only [OH_some,un_not,OP_some,Bool.not_false,IfP_true]
   refine hk0 ?_ _ ((x0.trans (xg.trans x1)).trans (EX.set (EX.append _ _) (Nat.le_refl _) _))
   cases he:ls.all isNum with
   | false=>rfl
   | true=>rw [List.all_eq_true] at he;rw [he _ (List.getElem_mem hil)] at hnum;cases hnum
 ·have hie:i=ls.length:=by omega
  subst hie
  rw [List.take_length] at hall own
  rw [q80z16]
  exact hk hall vo g _ (x0.trans xg) own

end
end Go.Proofs.YtelmdbpaoifmoaaGreat


namespace Go.Proofs.YtelmdbpaoifmoaaGreat
open Go.Sim

def sumR (qs:List Rat):Rat:=qs.foldl (·+·) 0
theorem sumR_take {qs:List Rat} {i:Nat} (h:i<qs.length):sumR (qs.take (i+1))=sumR (qs.take i)+qs[i]:=by
 unfold sumR
 rw [List.take_succ_eq_append_getElem h,List.foldl_append]
 rfl

theorem mkRat_sz {N:Int} {D k:Nat} (hD:0<D) (h1:N.natAbs<10^k) (h2:D<10^k):szQ k (mkRat N D):=by
 obtain ⟨e1,e2⟩:=mkRat_parts (N:=N) hD
 have hg:0<Nat.gcd N.natAbs D:=Nat.gcd_pos_of_pos_right _ hD
 refine ⟨?_,?_⟩
 ·rw [e1]
  have hd:(Nat.gcd N.natAbs D:Int) ∣ N:=Int.ofNat_dvd_left.2 (Nat.gcd_dvd_left ..)
  rw [Int.natAbs_ediv_of_dvd hd,Int.natAbs_natCast]
  exact Nat.lt_of_le_of_lt (Nat.div_le_self ..) h1
 ·rw [e2];exact Nat.lt_of_le_of_lt (Nat.div_le_self ..) h2

theorem szQ.add {i j:Nat} {p q:Rat} (hp:szQ i p) (hq:szQ j q):szQ (i+j+1) (p+q):=by
 obtain ⟨c1,c2,c3,_⟩:=cross_lt hp hq
 rw [add_mk]
 have h1:10^(i+j+1)=10^(i+j)*10:=Nat.pow_succ ..
 refine mkRat_sz (Nat.mul_pos p.den_pos q.den_pos) ?_ ?_
 ·rw [h1];generalize 10^(i+j)=Z at*;omega
 ·rw [h1];generalize 10^(i+j)=Z at*;omega
theorem szQ.mul {i j:Nat} {p q:Rat} (hp:szQ i p) (hq:szQ j q):szQ (i+j) (p*q):=by
 obtain ⟨_,_,c3,c4⟩:=cross_lt hp hq
 rw [mul_mk]
 exact mkRat_sz (Nat.mul_pos p.den_pos q.den_pos) c4 c3
theorem szQ.div {i j:Nat} {p q:Rat} (hp:szQ i p) (hq:szQ j q) (h0:0<q.num):szQ (i+j) (p / q):=by
 obtain ⟨c1,c2,_,_⟩:=cross_lt hp hq
 rw [div_mk h0]
 refine mkRat_sz (Nat.mul_pos p.den_pos (by omega)) c1 ?_
 rw [Int.natAbs_mul,Int.natAbs_natCast,Nat.mul_comm] at c2
 have:q.num.toNat=q.num.natAbs:=by omega
 rw [this];exact c2
theorem szQ.le {i j:Nat} {p:Rat} (h:szQ i p) (hij:i≤j):szQ j p:=
 ⟨Nat.lt_of_lt_of_le h.1 (Nat.pow_le_pow_right (by decide) hij),Nat.lt_of_lt_of_le h.2 (Nat.pow_le_pow_right (by decide) hij)⟩
theorem szQ.zero:szQ 1 (0:Rat):=by constructor <;> decide

theorem sumR_sz {qs:List Rat} (h:∀q∈qs,szQ 4 q):∀i,i≤qs.length→szQ (5*i+1) (sumR (qs.take i))
 | 0,_=>by rw [List.take_zero];exact szQ.zero
 | i+1,hi=>by
  rw [sumR_take (by omega)]
  exact ((sumR_sz h i (by omega)).add (h _ (List.getElem_mem (by omega)))).le (by omega)

theorem RV.setB {h:Heap} {v:Value} {q:Rat} {j:Nat} {e:TypeId} {s:Bool} {r:List Value} (p:RV h v q) (hj:h[j]?=some (.arr e (.bool s::r))) (o:IObj):RV (h.set j o) v q:=RatV.setB p hj o

theorem QL.from {h:Heap} {v:Value} {qs:List Rat} (p:QL h v qs) {k:Nat} (hk:k≤qs.length):∃v',iSlSl 107 4 v (some (I k)) none=some v'∧QL h v' (qs.drop k):=by
 obtain ⟨rows,a,b,c⟩:=p
 rw [prs_len] at b
 obtain ⟨v',e1,e2⟩:=a.from (k:=k) (by omega)
 refine ⟨v',e1,rows.drop k,e2,by simp [prs];omega,fun j row q h1 h2=>?_⟩
 rw [List.getElem?_drop] at h1
 refine c (k+j) row q h1 ?_
 rw [←h2]
 unfold prs
 rw [List.getElem?_map,List.getElem?_map,List.getElem?_drop]

section
variable {h : Heap} {K : Value → Heap → Prop}

theorem C85 {v:Value} {n w:Int} {age:Nat} {qs:List Rat} (hq:QL h v qs) (ha:age≤qs.length) (hs:∀q∈qs,szQ 4 q) (hn:qs.length≤20) (hk:∀r h',EX h h'→RV h' r (sumR (qs.drop age))→K r h'):
  CallP Tryz.prog 85 [.agg #[I n,I w,v],I age] h K:=by
 obtain ⟨rows,rs,_,_⟩:=id hq
 obtain ⟨t1,t2⟩:=rs.one
 refine f85 ?_
 have e1:iBox 102 h (.agg #[I n,I w,v])=some (pt h.length 0,h++[.arr 102 [I n,I w,v]]):=rfl
 have e7:∀(g:Heap),iAlloc 107 [(.bool false),(.slice none 0 0),(.bool false),(.slice none 0 0)] g=some (pt g.length 0,g++[.arr 107 z4]):=fun _=>rfl
 simp only [T85,e1,e7,OH_some]
 have x0:EX h (h++[.arr 102 [I n,I w,v]]):=EX.append _ _
 have k0:(h++[IObj.arr 102 [I n,I w,v]])[h.length]?=some (.arr 102 [I n,I w,v]):=get_last
 generalize h++[IObj.arr 102 [I n,I w,v]]=g0 at x0 k0⊢
 have x1:EX g0 (g0++[.arr 107 z4]):=EX.append _ _
 have k1:(g0++[IObj.arr 107 z4])[g0.length]?=some (.arr 107 z4):=get_last
 generalize g0++[IObj.arr 107 z4]=g1 at x1 k1⊢
 refine C75r (n:=0) (by decide) (by decide) ?_
 intro r2 g2 x2 hr2
 obtain ⟨a,b,c,d,rfl⟩:=hr2.agg
 have x3:EX g2 (g2++[.arr 107 z4]):=EX.append _ _
 have k3:(g2++[IObj.arr 107 z4])[g2.length]?=some (.arr 107 z4):=get_last
 generalize g2++[IObj.arr 107 z4]=g3 at x3 k3⊢
 have hr3:=hr2.mono x3
 rw [store4 k3]
 simp only [OH_some]
 have hl0:=x0.1
 have hl1:=x1.1
 have hl2:=x2.1
 have hlt1:=(List.getElem?_eq_some_iff.1 k1).1
 have k4:(g3.set g2.length (.arr 107 [B a,b,B c,d]))[g2.length]?=some (.arr 107 [B a,b,B c,d]):=set_get k3
 have hr4:RV (g3.set g2.length (.arr 107 [B a,b,B c,d])) (.agg #[B a,b,B c,d]) 0:=by
  have:=hr3.setB k3 (.arr 107 [B a,b,B c,d])
  simpa using this
 have x4:EX g2 (g3.set g2.length (.arr 107 [B a,b,B c,d])):=x3.set (Nat.le_refl _) _
 generalize g3.set g2.length (.arr 107 [B a,b,B c,d])=g4 at k4 hr4 x4⊢
 have x02:=x0.trans (x1.trans x2)
 have k1':=(x2.trans x4).get k1
 have ld:iLoad false 1 g4 (pt h.length 2)=some v:=by simp [iLoad,objCells,(x1.trans (x2.trans x4)).get k0,iPart]
 obtain ⟨v',s1,s2⟩:=(hq.mono x02).from ha
 have hlen:=s2.len
 simp only [fadr_pt,Nat.zero_add,OP_some,ld,s1,hlen]
 have hsd:∀q∈qs.drop age,szQ 4 q:=fun q hm=>hs q (List.mem_of_mem_drop hm)
 have hnd:(qs.drop age).length≤20:=by rw [List.length_drop];omega
 generalize qs.drop age=ps at*
 refine loopL (σ:=Nat×Heap×(Bool×Value×Bool×Value)) (fun q=>[I q.1]) (fun q=>q.2.1)
  (fun q=>q.1≤ps.length∧EX g2 q.2.1∧q.2.1[g2.length]?=some (.arr 107 [B q.2.2.1,q.2.2.2.1,B q.2.2.2.2.1,q.2.2.2.2.2])∧q.2.1[g0.length]?=some (.arr 107 z4)∧RV q.2.1 (.agg #[B q.2.2.1,q.2.2.2.1,B q.2.2.2.2.1,q.2.2.2.2.2]) (sumR (ps.take q.1))) (fun q=>ps.length-q.1)
  (0,g4,a,b,c,d) rfl rfl ⟨Nat.zero_le _,x4,k4,k1',hr4⟩ ?_
 rintro ⟨i,g,a,b,c,d⟩ ⟨hi,xg,kg,kz,hr⟩ L hL
 simp only at hi xg kg kz hr hL⊢
 have hql:=s2.mono xg
 rw [q85z6]
 simp only [bin_lss,OP_some,IfP_dec]
 refine ⟨fun hlt=>?_,fun hge=>?_⟩
 ·have hil:i<ps.length:=by omega
  obtain ⟨bi,oi,r,u1,u2,u3⟩:=hql.get hil
  obtain ⟨a',b',c',d',rfl⟩:=u3.agg
  simp only [u1,u2,OP_some,e7,OH_some]
  have y1:EX g (g++[.arr 107 z4]):=EX.append _ _
  have j1:(g++[IObj.arr 107 z4])[g.length]?=some (.arr 107 z4):=get_last
  generalize g++[IObj.arr 107 z4]=ga at y1 j1⊢
  rw [store4 j1]
  simp only [OH_some]
  have y2:EX g (ga.set g.length (.arr 107 [B a',b',B c',d'])):=y1.set (Nat.le_refl _) _
  have j2:(ga.set g.length (.arr 107 [B a',b',B c',d']))[g.length]?=some (.arr 107 [B a',b',B c',d']):=set_get j1
  generalize ga.set g.length (.arr 107 [B a',b',B c',d'])=gb at y2 j2⊢
  have kb:=y2.get kg
  rw [load4 kb,OP_some,load4 j2,OP_some]
  refine C87 (hr.mono y2) (u3.mono y2) (sumR_sz hsd i hi) (hsd _ (List.getElem_mem hil)) (by omega) ?_
  intro r5 g5 x5 hr5
  rw [←sumR_take hil] at hr5
  obtain ⟨a2,b2,c2,d2,rfl⟩:=hr5.agg
  have kc:=x5.get kb
  rw [store4 kc]
  simp only [OH_some,bin_add,inc i (by omega),OP_some,true_and]
  have hgl:=(List.getElem?_eq_some_iff.1 kg).1
  have kz5:=(y2.trans x5).get kz
  refine hL (i+1,g5.set g2.length (.arr 107 [B a2,b2,B c2,d2]),a2,b2,c2,d2) ⟨by show i+1≤_;omega,(xg.trans (y2.trans x5)).set (Nat.le_refl _) _,set_get kc,?_,hr5.setB kc _⟩ (by show ps.length-(i+1)<ps.length-i;omega)
  rw [List.getElem?_set_ne (by omega)];exact kz5
 ·have hie:i=ps.length:=by omega
  subst hie
  rw [List.take_length] at hr
  rw [q85z12,load4 kg,OP_some]
  have hgz:g0.length≠g2.length:=by omega
  refine fin4 kz (hk _ _ ((x02.trans xg).set (by omega) _) (hr.setB kz _))

end
end Go.Proofs.YtelmdbpaoifmoaaGreat


namespace Go.Proofs.YtelmdbpaoifmoaaGreat
open Go.Sim

def badQ (q:Rat):Bool:=decide (q.num<0)|| !fitsQ 4 q

theorem ok83:callOk Tryz.prog 83=true:=by kernel_rfl

def k700:Nat:=700
theorem ratT_sz {s:List UInt8} (hl:s.length≤700):szQ k700 (ratT s):=by
 have hul:(unsign s).length≤700:=by
  unfold unsign
  split
  ·rw [List.length_tail];omega
  ·exact hl
 have lo:(overT (unsign s)).length≤700:=by unfold overT;rw [List.length_take];omega
 have lu:(underT (unsign s)).length≤700:=by unfold underT;rw [List.length_drop];omega
 have p1:vOf (overT (unsign s))<10^k700:=Nat.lt_of_lt_of_le (vOf_lt _) (Nat.pow_le_pow_right (by decide) (show _≤k700 from lo))
 have p2:vOf (underT (unsign s))<10^k700:=Nat.lt_of_lt_of_le (vOf_lt _) (Nat.pow_le_pow_right (by decide) (show _≤k700 from lu))
 cases e:parseQ s with
 | none=>
  have:ratT s=0:=by unfold ratT;rw [e]
  rw [this]
  exact szQ.zero.le (by decide)
 | some q=>
  obtain ⟨n,d⟩:=q
  obtain ⟨e1,e2⟩:=ratT_parts e
  unfold szQ
  rw [e1,e2]
  rw [parseQ_un] at e
  unfold parseT at e
  split at e
  ·injection e with e
   injection e with h1 h2
   have hs:=(signed_n (m:=decide (s.head?=some 45)) (n:=vOf (overT (unsign s)))).2
   refine ⟨by rw [←h1];exact Nat.lt_of_le_of_lt (Nat.le_of_eq hs) p1,?_⟩
   rw [←h2]
   unfold denT
   split
   ·exact p2
   ·exact Nat.one_lt_pow (by decide) (by decide)
  ·cases e

section
variable {h : Heap} {K : Value → Heap → Prop}

theorem C83 {v:Value} {q:Rat} (hq:RV h v q) (sq:szQ k700 q) (hk:∀h',EX h h'→K (B (badQ q)) h'):CallP Tryz.prog 83 [v] h K:=by
 have hq0:=hq
 obtain ⟨a,b,c,d,rfl⟩:=hq.agg
 refine f83 ?_
 have e1:iBox 107 h (.agg #[B a,b,B c,d])=some (pt h.length 0,h++[.arr 107 [B a,b,B c,d]]):=rfl
 simp only [T83,e1,OH_some]
 have x0:EX h (h++[.arr 107 [B a,b,B c,d]]):=EX.append _ _
 have k0:(h++[IObj.arr 107 [B a,b,B c,d]])[h.length]?=some (.arr 107 [B a,b,B c,d]):=get_last
 generalize h++[IObj.arr 107 [B a,b,B c,d]]=g0 at x0 k0⊢
 rw [load4 k0,OP_some]
 refine C81 (hq0.mono x0) ?_
 intro g1 x1
 have hs:decide (isgn q.num<0)=decide (q.num<0):=by
  rw [decide_eq_decide]
  unfold isgn
  split
  ·omega
  ·split <;> omega
 simp only [bin_lss,OP_some,hs]
 rw [q83z4]
 unfold badQ at hk
 by_cases hn:q.num<0
 ·rw [decide_eq_true hn] at hk⊢
  simp only [GdP_tf]
  rw [q83z6]
  simp only [iPick_t,OP_some]
  exact hk g1 (x0.trans x1)
 ·rw [decide_eq_false hn] at hk⊢
  simp only [GdP_ff]
  rw [load4 (x1.get k0),OP_some]
  refine C84 (k:=4) ((hq0.mono x0).mono x1) sq (by decide) (by decide) (by decide) ?_
  intro g2 x2
  simp only [un_not,OP_some]
  rw [q83z6]
  simp only [iPick_f,OP_some]
  rw [Bool.false_or] at hk
  exact hk g2 (x0.trans (x1.trans x2))

theorem C82 {v:Value} {qs:List Rat} (hq:QL h v qs) (sq:∀q∈qs,szQ k700 q) (hn:qs.length≤1000) (hk:∀h',EX h h'→K (B (qs.any badQ)) h'):CallP Tryz.prog 82 [v,.func (.func 83) #[] #[]] h K:=by
 refine f82 ?_
 unfold T82
 refine f110 ?_
 unfold T110
 simp only [hq.len,OP_some]
 refine loopL (σ:=Nat×Heap) (fun q=>[I q.1]) (fun q=>q.2) (fun q=>q.1≤qs.length∧EX h q.2∧(qs.take q.1).any badQ=false) (fun q=>qs.length-q.1) (0,h) rfl rfl ⟨Nat.zero_le _,EX.refl _,by simp⟩ ?_
 rintro ⟨i,g⟩ ⟨hi,xg,hno⟩ L hL
 simp only at hi xg hno hL⊢
 rw [q110z5]
 simp only [bin_lss,OP_some,IfP_dec]
 refine ⟨fun hlt=>?_,fun hge=>?_⟩
 ·have hil:i<qs.length:=by omega
  obtain ⟨b,o,r,u1,u2,u3⟩:=(hq.mono xg).get hil
  simp only [u1,u2,OP_some]
  refine callVP_fn ok83 ?_
  simp only [List.append_nil]
  refine C83 u3 (sq _ (List.getElem_mem hil)) ?_
  intro g1 x1
  cases hb:badQ qs[i] with
  | true=>
   simp only [IfP_true,bin_geq,OP_some,decide_eq_true (show (0:Int)≤(i:Int) by omega)]
   have:qs.any badQ=true:=List.any_eq_true.2 ⟨_,List.getElem_mem hil,hb⟩
   rw [this] at hk
   exact hk g1 (xg.trans x1)
  | false=>
   simp only [IfP_false,bin_add,inc i (by omega),OP_some,true_and]
   refine hL (i+1,g1) ⟨by show i+1≤_;omega,xg.trans x1,?_⟩ (by show qs.length-(i+1)<qs.length-i;omega)
   show (qs.take (i+1)).any badQ=false
   rw [List.take_succ_eq_append_getElem hil,List.any_append,hno]
   simpa using hb
 ·have hie:i=qs.length:=by omega
  subst hie
  rw [List.take_length] at hno
  rw [hno] at hk
  simp only [bin_geq,OP_some,show decide ((0:Int)≤ -1)=false from rfl]
  exact hk g xg

end
end Go.Proofs.YtelmdbpaoifmoaaGreat


namespace Go.Proofs.YtelmdbpaoifmoaaGreat
open Go.Sim

def isWB:Value→Bool
 | .int .u32 _=>true
 | .bool _=>true
 | _=>false

theorem KP.sub {p q:Value→Bool} {h h':Heap} (hpq:∀v,q v=true→p v=true) (x:KP p h h'):KP q h h':=fun d c r h1 h2=>x d c r h1 (hpq c h2)
theorem isW_WB (v:Value) (h:isW v=true):isWB v=true:=by
 unfold isW at h
 split at h
 ·rfl
 ·cases h

def QB (h:Heap) (v:Value) (qs:List Rat):Prop:=QL h v qs∧(qs=[]∨∃i o n c r,v=sl 107 i o n∧objCells h i=some (c::r)∧isWB c=true)

theorem QB.mono {h h':Heap} {v:Value} {qs:List Rat} (x:EX h h') (p:QB h v qs):QB h' v qs:=⟨p.1.mono x,p.2.imp id fun ⟨i,o,n,c,r,a,b,d⟩=>⟨i,o,n,c,r,a,x.cells b,d⟩⟩

theorem QB.keep {h h':Heap} {v:Value} {qs:List Rat} (x:KP isWB h h') (p:QB h v qs):QB h' v qs:=by
 obtain ⟨⟨rows,a,b,c⟩,q⟩:=p
 rw [prs_len] at b
 have rat:∀(k:Nat) (row:List Value) (q:Int×Int),rows[k]?=some row→(prs qs)[k]?=some q→RatV h' (.agg row.toArray) q.1 q.2:=fun k row q h1 h2=>(c k row q h1 h2).keep (KP.sub isW_WB x)
 refine ⟨⟨rows,⟨a.1,?_⟩,by rw [prs_len];exact b,rat⟩,q.imp id fun ⟨i,o,n,c,r,e1,e2,e3⟩=>⟨i,o,n,c,r,e1,x i c r e2 e3,e3⟩⟩
 rcases a.2 with h0 | ⟨i,o,e1,e2⟩
 ·exact .inl h0
 ·refine .inr ⟨i,o,e1,?_⟩
  rcases e2 with e2 | ⟨pre,post,e2,e3⟩
  ·exact .inl e2
  ·rcases q with q | ⟨i',o',n',c',r',f1,f2,f3⟩
   ·left
    exact List.length_eq_zero_iff.1 (by rw [b,q];rfl)
   ·right
    rw [e1] at f1
    have hi:i=i':=by
     simp only [sl] at f1
     injection f1 with f1
     injection f1 with f1
     injection f1
    subst hi
    refine ⟨pre,post,?_,e3⟩
    rw [←e2,f2]
    exact x i c' r' f2 f3

theorem OwnQ.qb {b:Nat} {h:Heap} {v:Value} {qs:List Rat} (o:OwnQ b h v (prs qs)):QB h v qs:=by
 refine ⟨o.ratL,?_⟩
 obtain ⟨rows,o1,o2,o3,_⟩:=o
 rw [prs_len] at o2
 cases rows with
 | nil=>left;exact List.length_eq_zero_iff.1 (by rw [←o2];rfl)
 | cons row rows=>
  right
  rcases o1.2 with ⟨_,h0⟩ | ⟨i,_,e1,e2⟩
  ·cases h0
  ·obtain ⟨s,t,e3⟩:=o3 row (by simp)
   refine ⟨i,0,_,.bool s,t++rows.flatten,e1,?_,rfl⟩
   simp [objCells,e2,e3]

def LK (h:Heap) (v:Value) (cs:List (List Rat×Int)):Prop:=
 ∃rows,RS h 102 3 v rows∧rows.length=cs.length∧∀(k:Nat) (row:List Value) (c:List Rat×Int),rows[k]?=some row→cs[k]?=some c→∃vq,row=[I c.1.length,I c.2,vq]∧QB h vq c.1

theorem LK.mono {h h':Heap} {v:Value} {cs:List (List Rat×Int)} (x:EX h h') (p:LK h v cs):LK h' v cs:=
 let ⟨rows,a,b,c⟩:=p;⟨rows,a.mono x,b,fun k row q h1 h2=>let ⟨vq,e,m⟩:=c k row q h1 h2;⟨vq,e,m.mono x⟩⟩

theorem LK.len {h:Heap} {v:Value} {cs:List (List Rat×Int)} (p:LK h v cs):iLenSl v=some (I cs.length):=by
 obtain ⟨rows,a,b,_⟩:=p;rw [←b];exact a.len

theorem LK.get {h:Heap} {v:Value} {cs:List (List Rat×Int)} (p:LK h v cs) {k:Nat} (hk:k<cs.length):∃i o vq,iAdrSl 3 v (I k)=some (pt i o)∧iLoad true 3 h (pt i o)=some (.agg #[I cs[k].1.length,I cs[k].2,vq])∧QB h vq cs[k].1:=by
 obtain ⟨rows,a,b,c⟩:=p
 have hk':k<rows.length:=by omega
 obtain ⟨i,o,cells,g1,g2,g3,g4⟩:=a.get hk'
 obtain ⟨vq,e,m⟩:=c k _ _ (List.getElem?_eq_getElem hk') (List.getElem?_eq_getElem hk)
 have:=row_all g2 g3 g4
 rw [e] at this
 exact ⟨i,o,vq,g1,this,m⟩

def OwnL (b:Nat) (h:Heap) (v:Value) (cs:List (List Rat×Int)):Prop:=
 ∃rows,OwnR b h 102 3 v rows∧rows.length=cs.length∧(∀r∈rows,∃n t,r=I n::t)∧∀(k:Nat) (row:List Value) (c:List Rat×Int),rows[k]?=some row→cs[k]?=some c→∃vq,row=[I c.1.length,I c.2,vq]∧QB h vq c.1

theorem OwnL.start (b:Nat) (h:Heap):OwnL b h (.slice none 0 0) []:=⟨[],OwnR.start ..,rfl,fun r hr=>by simp at hr,fun k r q h=>by simp at h⟩
theorem OwnL.lk {b:Nat} {h:Heap} {v:Value} {cs:List (List Rat×Int)} (o:OwnL b h v cs):LK h v cs:=let ⟨rows,a,c,_,d⟩:=o;⟨rows,a.rs,c,d⟩
theorem OwnL.ex {b:Nat} {h h':Heap} {v:Value} {cs:List (List Rat×Int)} (x:EX h h') (o:OwnL b h v cs):OwnL b h' v cs:=
 let ⟨rows,a,c,e,d⟩:=o;⟨rows,a.ex x,c,e,fun k row q h1 h2=>let ⟨vq,e,m⟩:=d k row q h1 h2;⟨vq,e,m.mono x⟩⟩

theorem flat_int {rows:List (List Value)} (h:∀r∈rows,∃n t,r=I n::t):∀c r,rows.flatten=c::r→isWB c=false:=by
 cases rows with
 | nil=>intro c r e;simp at e
 | cons row rows=>
  obtain ⟨n,t,rfl⟩:=h row (by simp)
  intro c r e
  simp at e
  rw [←e.1];rfl

theorem OwnL.app {h0 h:Heap} {v vq:Value} {qs:List Rat} {w:Int} {cs:List (List Rat×Int)} {zs:List Value} {K:Value→Heap→Prop} (o:OwnL h0.length h v cs) (hex:EX h0 h) (hq:QB h vq qs) (hz:zs.length=3) (hl:cs.length≤10000)
  (hk:∀v' h',EX h0 h'→KP isWB h h'→OwnL h0.length h' v' (cs++[(qs,w)])→K v' h'):OH (iMkSl 102 1 zs h [(0,3,.agg #[I qs.length,I w,vq])]) fun y h2=>OH (iApp 102 3 40 h2 v y) K:=by
 obtain ⟨rows,o1,o2,o3,o4⟩:=o
 obtain ⟨rq,rs,_,_⟩:=id hq.1
 obtain ⟨t1,t2⟩:=rs.one
 refine o1.app hex hz (row:=[I qs.length,I w,vq]) rfl (by simp [vcells,Value.cells]) rfl (by omega) (by simp [maxLen];omega) ?_
 intro v' h' x' hold o'
 have kp:KP isWB h h':=o1.kp (flat_int o3) hold
 refine hk v' h' x' kp ⟨_,o',by simp [o2],fun r hr=>?_,fun k row q h1 h2=>?_⟩
 ·rcases List.mem_append.1 hr with hr | hr
  ·exact o3 r hr
  ·rw [List.mem_singleton.1 hr];exact ⟨_,_,rfl⟩
 ·by_cases hk:k<rows.length
  ·rw [List.getElem?_append_left hk] at h1
   rw [List.getElem?_append_left (by omega)] at h2
   obtain ⟨vq',e,m⟩:=o4 k row q h1 h2
   exact ⟨vq',e,m.keep kp⟩
  ·rw [List.getElem?_append_right (by omega)] at h1
   rw [List.getElem?_append_right (by omega),←o2] at h2
   have h0:k-rows.length=0:=by
    have:=(List.getElem?_eq_some_iff.1 h1).1
    simp at this;omega
   rw [h0] at h1 h2
   simp only [List.getElem?_cons_zero,Option.some.injEq] at h1 h2
   subst h1 h2
   exact ⟨vq,rfl,hq.keep kp⟩

end Go.Proofs.YtelmdbpaoifmoaaGreat


namespace Go.Proofs.YtelmdbpaoifmoaaGreat
open Go.Sim
variable (P : Program) (K : VK)
/-! F3: pommel/pommellaw06.MendIndices -/
noncomputable section
variable (x0 x1 l5 v6 d7 e8 x9 n11 x28 x31 x38 x39 x45 x47 x49 x52 x54 x55 x68 x71 x73 x75 x77 x78 : Value) (h : Heap)
def oc3:=compFn Tryz.prog 3 [[],[],[],[],[1,5,6,7,8,9,28],[1,5,6,7,8,9,28,31],[1,5,6,7,8,9,28,31,38],[1,5,6,7,8,9,28,39],[],[1,5,6,7,8,9],[],[7,8,9,45],[8,9,45,47],[8,9,49],[49,52],[54],[54,55],[],[],[],[7,8,11,68],[8,68,71],[8,73],[73,75],[77],[77,78],[]]
@[irreducible] def c3:=icOf oc3
@[irreducible] def c3z8:=c3.r.r.r.r.l.l.r.l
@[irreducible] def c3z6:=c3.r.r.r.r.l.r
@[irreducible] def c3z5:=c3.r.r.r.r.r
@[irreducible] def c3z10:=c3z8.r.l
@[irreducible] def c3z15:=c3z5.l
@[irreducible] def c3z12:=c3z10.r.l
@[irreducible] def c3z20:=c3z15.l.r.l.l.r.l
@[irreducible] def c3z18:=c3z15.l.r.l.r
@[irreducible] def c3z16:=c3z15.r
@[irreducible] def c3z14:=c3z12.r.l
@[irreducible] def c3z22:=c3z20.r.l
@[irreducible] def c3z34:=c3z16.r.l.r.l
@[irreducible] def c3z32:=c3z16.r.r
@[irreducible] def c3z24:=c3z22.r.l
@[irreducible] def c3z36:=c3z34.r.l
@[irreducible] def c3z26:=c3z24.r.l
@[irreducible] def c3z38:=c3z36.r.l
@[irreducible] def c3z28:=c3z26.r.l
@[irreducible] def c3z40:=c3z38.r.l
@[irreducible] def c3z30:=c3z28.r.l
@[irreducible] def c3z42:=c3z40.r.l
@[irreducible] def c3z44:=c3z42.r.l
theorem k3:oc3=some (80,c3,[.tmp 4]):=by kernel_rfl
def K3z0 (_P:Program) (K:VK):Kont:=bodyP [.tmp 4] K
def K3z5:Kont:=thenK (iwpP P c3z5 (K3z0 P K)) (K3z0 P K)
def K3z6:Kont:=thenK (iwpP P c3z6 (K3z5 P K)) (K3z5 P K)
def K3z16:Kont:=thenK (iwpP P c3z16 (K3z0 P K)) (K3z0 P K)
def K3z18:Kont:=thenK (iwpP P c3z18 (K3z16 P K)) (K3z16 P K)
def K3z32:Kont:=thenK (iwpP P c3z32 (K3z0 P K)) (K3z0 P K)
def p3z8:Prop:=CutP (iwpP P c3z8 (K3z6 P K)) [1,5,6,7,8,9,28] [x1,l5,v6,d7,e8,x9,x28] h
def p3z10:Prop:=CutP (iwpP P c3z10 (K3z6 P K)) [1,5,6,7,8,9,28,31] [x1,l5,v6,d7,e8,x9,x28,x31] h
def p3z12:Prop:=CutP (iwpP P c3z12 (K3z6 P K)) [1,5,6,7,8,9,28,31,38] [x1,l5,v6,d7,e8,x9,x28,x31,x38] h
def p3z14:Prop:=CutP (iwpP P c3z14 (K3z6 P K)) [1,5,6,7,8,9,28,39] [x1,l5,v6,d7,e8,x9,x28,x39] h
def p3z15:Prop:=CutP (iwpP P c3z15 (K3z0 P K)) [1,5,6,7,8,9] [x1,l5,v6,d7,e8,x9] h
def p3z20:Prop:=CutP (iwpP P c3z20 (K3z18 P K)) [7,8,9,45] [d7,e8,x9,x45] h
def p3z22:Prop:=CutP (iwpP P c3z22 (K3z18 P K)) [8,9,45,47] [e8,x9,x45,x47] h
def p3z24:Prop:=CutP (iwpP P c3z24 (K3z18 P K)) [8,9,49] [e8,x9,x49] h
def p3z26:Prop:=CutP (iwpP P c3z26 (K3z18 P K)) [49,52] [x49,x52] h
def p3z28:Prop:=CutP (iwpP P c3z28 (K3z18 P K)) [54] [x54] h
def p3z30:Prop:=CutP (iwpP P c3z30 (K3z18 P K)) [54,55] [x54,x55] h
def p3z34:Prop:=CutP (iwpP P c3z34 (K3z32 P K)) [7,8,11,68] [d7,e8,n11,x68] h
def p3z36:Prop:=CutP (iwpP P c3z36 (K3z32 P K)) [8,68,71] [e8,x68,x71] h
def p3z38:Prop:=CutP (iwpP P c3z38 (K3z32 P K)) [8,73] [e8,x73] h
def p3z40:Prop:=CutP (iwpP P c3z40 (K3z32 P K)) [73,75] [x73,x75] h
def p3z42:Prop:=CutP (iwpP P c3z42 (K3z32 P K)) [77] [x77] h
def p3z44:Prop:=CutP (iwpP P c3z44 (K3z32 P K)) [77,78] [x77,x78] h
theorem q3z14:p3z14 P K x1 l5 v6 d7 e8 x9 x28 x39 h=
 (OP (iPick x28 x39 (.bool false)) fun x40=>
 IfP x40
 (p3z15 P K x1 l5 v6 d7 e8 (.int .i64 (1)) h)
 (p3z15 P K x1 l5 v6 d7 e8 x9 h)):=cdt (by kernel_rfl)
theorem q3z12:p3z12 P K x1 l5 v6 d7 e8 x9 x28 x31 x38 h=
 (GdP x28 true
 (OP (iPick x31 (.bool true) x38) fun x39=>
 p3z14 P K x1 l5 v6 d7 e8 x9 x28 x39 h)
 (p3z14 P K x1 l5 v6 d7 e8 x9 x28 undef h)):=cdt (by kernel_rfl)
theorem q3z10:p3z10 P K x1 l5 v6 d7 e8 x9 x28 x31 h=
 (GdP x31 false
 (OP (iAdrSl 2 l5 (.int .i64 (0))) fun x34=>
 OP (iFadr 0 x34) fun x35=>
 OP (iLoad false 1 h x35) fun x36=>
 OP (iLenSl x36) fun x37=>
 OP (iBin .geq x1 x37) fun x38=>
 p3z12 P K x1 l5 v6 d7 e8 x9 x28 x31 x38 h)
 (p3z12 P K x1 l5 v6 d7 e8 x9 x28 x31 undef h)):=cdt (by kernel_rfl)
theorem q3z8:p3z8 P K x1 l5 v6 d7 e8 x9 x28 h=
 (GdP x28 true
 (OP (iBin .lss x1 (.int .i64 (0))) fun x30=>
 p3z10 P K x1 l5 v6 d7 e8 x9 x28 x30 h)
 (p3z10 P K x1 l5 v6 d7 e8 x9 x28 undef h)):=cdt (by kernel_rfl)
theorem q3z30:p3z30 P K x54 x55 h=
 (OP (iPick x54 x55 (.bool false)) fun x56=>
 K x56 h):=cdt (by kernel_rfl)
theorem q3z28:p3z28 P K x54 h=
 (GdP x54 true
 (CallP P 14 [] h fun x55 h_1=>
 p3z30 P K x54 x55 h_1)
 (p3z30 P K x54 undef h)):=cdt (by kernel_rfl)
theorem q3z26:p3z26 P K x49 x52 h=
 (OP (iPick x49 x52 (.bool false)) fun x53=>
 p3z28 P K x53 h):=cdt (by kernel_rfl)
theorem q3z24:p3z24 P K e8 x9 x49 h=
 (GdP x49 true
 (OP (iBin .eql e8 x9) fun x52=>
 p3z26 P K x49 x52 h)
 (p3z26 P K x49 undef h)):=cdt (by kernel_rfl)
theorem q3z22:p3z22 P K e8 x9 x45 x47 h=
 (OP (iPick x45 x47 (.bool false)) fun x48=>
 p3z24 P K e8 x9 x48 h):=cdt (by kernel_rfl)
theorem q3z20:p3z20 P K d7 e8 x9 x45 h=
 (GdP x45 true
 (OP (iBin .eql d7 (.int .i64 (0))) fun x47=>
 p3z22 P K e8 x9 x45 x47 h)
 (p3z22 P K e8 x9 x45 undef h)):=cdt (by kernel_rfl)
theorem q3z44:p3z44 P K x77 x78 h=
 (OP (iPick x77 x78 (.bool false)) fun x79=>
 K x79 h):=cdt (by kernel_rfl)
theorem q3z42:p3z42 P K x77 h=
 (GdP x77 true
 (CallP P 14 [] h fun x78 h_1=>
 p3z44 P K x77 x78 h_1)
 (p3z44 P K x77 undef h)):=cdt (by kernel_rfl)
theorem q3z40:p3z40 P K x73 x75 h=
 (OP (iPick x73 x75 (.bool false)) fun x76=>
 p3z42 P K x76 h):=cdt (by kernel_rfl)
theorem q3z38:p3z38 P K e8 x73 h=
 (GdP x73 true
 (OP (iBin .eql e8 (.int .i64 (0))) fun x75=>
 p3z40 P K x73 x75 h)
 (p3z40 P K x73 undef h)):=cdt (by kernel_rfl)
theorem q3z36:p3z36 P K e8 x68 x71 h=
 (OP (iPick x68 x71 (.bool false)) fun x72=>
 p3z38 P K e8 x72 h):=cdt (by kernel_rfl)
theorem q3z34:p3z34 P K d7 e8 n11 x68 h=
 (GdP x68 true
 (OP (iBin .eql d7 n11) fun x71=>
 p3z36 P K e8 x68 x71 h)
 (p3z36 P K e8 x68 undef h)):=cdt (by kernel_rfl)
theorem q3z15:p3z15 P K x1 l5 v6 d7 e8 x9 h=
 (OP (iBin .neq x9 (.int .i64 (0))) fun x42=>
 IfP x42
 (OP (iBin .eql v6 (.string ⟨#[]⟩)) fun x44=>
 p3z20 P K d7 e8 x9 x44 h)
 (OP (iAdrSl 2 l5 (.int .i64 (0))) fun x59=>
 OP (iLoad true 2 h x59) fun x60=>
 CallP P 15 [x60,x1] h fun x62 h_1=>
 OP (iExt 0 x62) fun x63=>
 OP (iExt 1 x62) fun x64=>
 OH (iAlloc 37 [(.bool false),(.slice none 0 0),(.bool false),(.slice none 0 0)] h_1) fun q10 h_2=>
 OH (oStore 4 h_2 q10 x63) fun _ h_3=>
 OP (iLoad true 4 h_3 q10) fun x66=>
 CallP P 16 [v6,x66] h_3 fun x67 h_4=>
 p3z34 P K d7 e8 x64 x67 h_4)):=cdt (by kernel_rfl)
def T3:Prop:=
 OH (iBox 24 h x0) fun x2 h_1=>
 OP (iLoad true 2 h_1 x2) fun x12=>
 OH (iMkSl 24 1 [(.slice none 0 0),(.int .i64 (0))] h_1 [(0,2,x12)]) fun x13 h_2=>
 CallP P 11 [x13] h_2 fun x14 h_3=>
 OP (iAdrSl 2 x14 (.int .i64 (0))) fun x17=>
 OP (iLoad true 2 h_3 x17) fun x18=>
 CallP P 12 [x18,x1] h_3 fun x20 h_4=>
 OP (iExt 0 x20) fun x21=>
 OP (iExt 1 x20) fun x22=>
 OP (iExt 2 x20) fun x23=>
 CallP P 13 [x14] h_4 fun x25 h_5=>
 OP (iBin .eql x25 (.int .i64 (0))) fun x27=>
 p3z8 P K x1 x14 x21 x22 x23 x25 x27 h_5
theorem e3:iwpP P c3 (bodyP [.tmp 4] K) (frame0 [x0,x1]) h=T3 P K x0 x1 h:=by kernel_rfl
theorem f3 {K:VK} {x0 x1:Value} {h:Heap} (H:T3 Tryz.prog K x0 x1 h):CallP Tryz.prog 3 [x0,x1] h K:=
 callP_intro k3 (Nat.le_of_ble_eq_true rfl) ((e3 Tryz.prog K x0 x1 h).mpr H)
end
/-! F11: pommel/pommellaw06.chances -/
noncomputable section
variable (x0 x3 i4 c5 k6 x12 x14 x32 x34 : Value) (L1 L2 : LQ) (xs : List Value) (h : Heap)
def oc11:=compFn Tryz.prog 11 [[],[],[],[0],[3,4],[0,3,4,12],[0,3,4,12,14],[],[],[],[],[0,3,4,5],[6],[0,3,4,5,6,32],[0,3,4,5,6,32,34],[],[],[],[0,3,4,5],[0,3,4],[3],[]]
@[irreducible] def c11:=icOf oc11
@[irreducible] def c11z6:=c11.r.r.l.r.l.l
@[irreducible] def c11z3:=c11.r.r.r
@[irreducible] def c11z10:=c11z6.l.l.r.l
@[irreducible] def c11z8:=c11z6.l.r
@[irreducible] def c11z7:=c11z6.r
@[irreducible] def c11z30:=c11z3.l
@[irreducible] def c11z12:=c11z10.r.l
@[irreducible] def c11z19:=c11z7.l.l.r.l.r.l.l
@[irreducible] def c11z16:=c11z7.l.l.r.r
@[irreducible] def c11z13:=c11z7.r
@[irreducible] def c11z23:=c11z19.l.l.r.l
@[irreducible] def c11z21:=c11z19.l.r
@[irreducible] def c11z20:=c11z19.r
@[irreducible] def c11z28:=c11z16.l
@[irreducible] def c11z29:=c11z13.l
@[irreducible] def c11z25:=c11z23.r.l
theorem k11:oc11=some (67,c11,[.tmp 2]):=by kernel_rfl
def K11z0 (_P:Program) (K:VK):Kont:=bodyP [.tmp 2] K
def K11z3:Kont:=thenK (iwpP P c11z3 (K11z0 P K)) (K11z0 P K)
def K11z5:Kont:=inBlockK 0 (K11z3 P K)
def K11z6:Kont:=thenK (fun f' h''=>(([0]:List Nat).map f':List Value)=[x0]∧L1 (([3,4]:List Nat).map f') h'') (K11z5 P K)
def K11z7:Kont:=thenK (iwpP P c11z7 (K11z6 P K x0 L1)) (K11z6 P K x0 L1)
def K11z8:Kont:=thenK (iwpP P c11z8 (K11z7 P K x0 L1)) (K11z7 P K x0 L1)
def K11z13:Kont:=thenK (iwpP P c11z13 (K11z6 P K x0 L1)) (K11z6 P K x0 L1)
def K11z14:Kont:=inBlockK 1 (K11z13 P K x0 L1)
def K11z16:Kont:=thenK (iwpP P c11z16 (K11z14 P K x0 L1)) (K11z14 P K x0 L1)
def K11z18:Kont:=inBlockK 2 (K11z16 P K x0 L1)
def K11z19:Kont:=thenK (fun f' h''=>(([0,3,4,5]:List Nat).map f':List Value)=[x0,x3,i4,c5]∧L2 (([6]:List Nat).map f') h'') (K11z18 P K x0 L1)
def K11z20:Kont:=thenK (iwpP P c11z20 (K11z19 P K x0 x3 i4 c5 L1 L2)) (K11z19 P K x0 x3 i4 c5 L1 L2)
def K11z21:Kont:=thenK (iwpP P c11z21 (K11z20 P K x0 x3 i4 c5 L1 L2)) (K11z20 P K x0 x3 i4 c5 L1 L2)
def p11z6:Prop:=CutP (iwpP P c11z6 (K11z6 P K x0 L1)) ([0]++[3,4]) ([x0]++xs) h
def p11z10:Prop:=CutP (iwpP P c11z10 (K11z8 P K x0 L1)) [0,3,4,12] [x0,x3,i4,x12] h
def p11z12:Prop:=CutP (iwpP P c11z12 (K11z8 P K x0 L1)) [0,3,4,12,14] [x0,x3,i4,x12,x14] h
def p11z19:Prop:=CutP (iwpP P c11z19 (K11z19 P K x0 x3 i4 c5 L1 L2)) ([0,3,4,5]++[6]) ([x0,x3,i4,c5]++xs) h
def p11z23:Prop:=CutP (iwpP P c11z23 (K11z21 P K x0 x3 i4 c5 L1 L2)) [0,3,4,5,6,32] [x0,x3,i4,c5,k6,x32] h
def p11z25:Prop:=CutP (iwpP P c11z25 (K11z21 P K x0 x3 i4 c5 L1 L2)) [0,3,4,5,6,32,34] [x0,x3,i4,c5,k6,x32,x34] h
def p11z28:Prop:=CutP (iwpP P c11z28 (K11z14 P K x0 L1)) [0,3,4,5] [x0,x3,i4,c5] h
def p11z29:Prop:=CutP (iwpP P c11z29 (K11z6 P K x0 L1)) [0,3,4] [x0,x3,i4] h
def p11z30:Prop:=CutP (iwpP P c11z30 (K11z0 P K)) [3] [x3] h
theorem q11z12:p11z12 P K x0 x3 i4 x12 x14 L1 h=
 (OP (iPick x12 x14 (.bool false)) fun x15=>
 IfP x15
 (OP (iAdrSl 2 x0 i4) fun x20=>
 OP (iFadr 1 x20) fun x21=>
 OP (iLoad false 1 h x21) fun x22=>
 OP (iBuild [(.slice none 0 0),(.int .i64 (0))] [(1,1,x22)]) fun x23=>
 OH (iAlloc 24 [(.slice none 0 0),(.int .i64 (0))] h) fun c5 h_1=>
 OH (oStore 2 h_1 c5 x23) fun _ h_2=>
 LoopP [(.int .i64 (0))] h_2 fun L2 xs hx=>
 p11z19 P K x0 x3 i4 c5 L1 L2 xs hx)
 (p11z30 P K x3 h)):=cdt (by kernel_rfl)
theorem q11z10:p11z10 P K x0 x3 i4 x12 L1 h=
 (GdP x12 true
 (OP (iBin .leq i4 (.int .i64 (3))) fun x14=>
 p11z12 P K x0 x3 i4 x12 x14 L1 h)
 (p11z12 P K x0 x3 i4 x12 undef L1 h)):=cdt (by kernel_rfl)
theorem q11z25:p11z25 P K x0 x3 i4 c5 k6 x32 x34 L1 L2 h=
 (OP (iPick x32 x34 (.bool false)) fun x35=>
 IfP x35
 (OP (iFadr 0 c5) fun x38=>
 OP (iLoad false 1 h x38) fun x39=>
 (True)∧
 OP (iAdrSl 2 x0 i4) fun x42=>
 OP (iFadr 0 x42) fun x43=>
 OP (iLoad false 1 h x43) fun x44=>
 (True)∧
 OP (iAdrSl 1 x44 k6) fun x46=>
 OP (iLoad false 1 h x46) fun x47=>
 (True)∧
 OP (iAdrSl 2 x0 i4) fun x50=>
 OP (iFadr 0 x50) fun x51=>
 OP (iLoad false 1 h x51) fun x52=>
 (True)∧
 OP (iAdrSl 1 x52 k6) fun x54=>
 OP (iLoad false 1 h x54) fun x55=>
 (True)∧
 OP (iLenS x55) fun x56=>
 OP (iMinmax false [x56,(.int .i64 (20))]) fun x57=>
 OP (iSlS x47 none (some x57)) fun x58=>
 OH (iMkSl 27 1 [(.string ⟨#[]⟩)] h [(0,1,x58)]) fun x59 h_1=>
 (iLoad false 1 h_1 x38=some x39∧True)∧
 OH (iApp 27 1 16 h_1 x39 x59) fun x60 h_2=>
 (True)∧
 OP (iFadr 0 c5) fun x61=>
 OH (oStore 1 h_2 x61 x60) fun _ h_3=>
 (True)∧
 OP (iBin .add k6 (.int .i64 (1))) fun x37=>
 ([x0,x3,i4,c5]:List Value)=[x0,x3,i4,c5]∧L2 [x37] h_3)
 (p11z28 P K x0 x3 i4 c5 L1 h)):=cdt (by kernel_rfl)
theorem q11z23:p11z23 P K x0 x3 i4 c5 k6 x32 L1 L2 h=
 (GdP x32 true
 (OP (iBin .leq k6 (.int .i64 (8))) fun x34=>
 p11z25 P K x0 x3 i4 c5 k6 x32 x34 L1 L2 h)
 (p11z25 P K x0 x3 i4 c5 k6 x32 undef L1 L2 h)):=cdt (by kernel_rfl)
theorem q11z19 (x0 x3 i4 c5:Value) (L1 L2:LQ) (k6:Value) (h:Heap):p11z19 P K x0 x3 i4 c5 L1 L2 [k6] h=
 (OP (iAdrSl 2 x0 i4) fun x27=>
 OP (iFadr 0 x27) fun x28=>
 OP (iLoad false 1 h x28) fun x29=>
 OP (iLenSl x29) fun x30=>
 OP (iBin .lss k6 x30) fun x31=>
 p11z23 P K x0 x3 i4 c5 k6 x31 L1 L2 h):=cdt (by kernel_rfl)
theorem q11z28:p11z28 P K x0 x3 i4 c5 L1 h=
 (OP (iLoad true 2 h c5) fun x63=>
 OH (iMkSl 24 1 [(.slice none 0 0),(.int .i64 (0))] h [(0,2,x63)]) fun x64 h_1=>
 OH (iApp 24 2 32 h_1 x3 x64) fun x65 h_2=>
 p11z29 P K x0 x65 i4 L1 h_2):=cdt (by kernel_rfl)
theorem q11z29:p11z29 P K x0 x3 i4 L1 h=
 (OP (iBin .add i4 (.int .i64 (1))) fun x17=>
 ([x0]:List Value)=[x0]∧L1 [x3,x17] h):=cdt (by kernel_rfl)
theorem q11z6 (x0:Value) (L1:LQ) (x3 i4:Value) (h:Heap):p11z6 P K x0 L1 [x3,i4] h=
 (OP (iLenSl x0) fun x10=>
 OP (iBin .lss i4 x10) fun x11=>
 p11z10 P K x0 x3 i4 x11 L1 h):=cdt (by kernel_rfl)
theorem q11z30:p11z30 P K x3 h=
 (K x3 h):=cdt (by kernel_rfl)
def T11:Prop:=
 OH (iMkSl 24 0 [(.slice none 0 0),(.int .i64 (0))] h []) fun x7 h_1=>
 LoopP [x7,(.int .i64 (0))] h_1 fun L1 xs hx=>
 p11z6 P K x0 L1 xs hx
theorem e11:iwpP P c11 (bodyP [.tmp 2] K) (frame0 [x0]) h=T11 P K x0 h:=by kernel_rfl
theorem f11 {K:VK} {x0:Value} {h:Heap} (H:T11 Tryz.prog K x0 h):CallP Tryz.prog 11 [x0] h K:=
 callP_intro k11 (Nat.le_of_ble_eq_true rfl) ((e11 Tryz.prog K x0 h).mpr H)
end
/-! F12: pommel/mend.Index -/
noncomputable section
variable (c0 x1 l7 x25 x32 : Value) (h : Heap)
def oc12:=compFn Tryz.prog 12 [[],[],[],[],[1,7,25],[1,7,25,32],[],[],[],[],[],[],[],[],[]]
@[irreducible] def c12:=icOf oc12
@[irreducible] def c12z9:=c12.r.r.l.l.r.r.l.r.l
@[irreducible] def c12z7:=c12.r.r.l.l.r.r.r
@[irreducible] def c12z3:=c12.r.r.r
@[irreducible] def c12z11:=c12z9.r.l
theorem k12:oc12=some (52,c12,[.tmp 4,.tmp 5,.tmp 6]):=by kernel_rfl
def K12z0 (_P:Program) (K:VK):Kont:=bodyP [.tmp 4,.tmp 5,.tmp 6] K
def K12z3:Kont:=thenK (iwpP P c12z3 (K12z0 P K)) (K12z0 P K)
def K12z4:Kont:=inBlockK 0 (K12z3 P K)
def K12z7:Kont:=thenK (iwpP P c12z7 (K12z4 P K)) (K12z4 P K)
def p12z9:Prop:=CutP (iwpP P c12z9 (K12z7 P K)) [1,7,25] [x1,l7,x25] h
def p12z11:Prop:=CutP (iwpP P c12z11 (K12z7 P K)) [1,7,25,32] [x1,l7,x25,x32] h
theorem q12z11:p12z11 P K x1 l7 x25 x32 h=
 (OP (iPick x25 (.bool true) x32) fun x33=>
 IfP x33
 (K (.tuple #[(.string ⟨#[]⟩),(.int .i64 (0)),(.int .i64 (1))]) h)
 (OP (iAdrSl 3 l7 (.int .i64 (0))) fun x36=>
 OP (iLoad true 3 h x36) fun x37=>
 CallP P 44 [x37,x1] h fun x39 h_1=>
 OP (iExt 0 x39) fun x40=>
 OP (iExt 1 x39) fun x41=>
 OH (iAlloc 107 [(.bool false),(.slice none 0 0),(.bool false),(.slice none 0 0)] h_1) fun x9 h_2=>
 OH (oStore 4 h_2 x9 x40) fun _ h_3=>
 OP (iLoad true 4 h_3 x9) fun x43=>
 CallP P 45 [x43] h_3 fun x44 h_4=>
 OP (iExt 0 x44) fun x45=>
 OP (iExt 1 x44) fun x46=>
 OP (iBin .neq x46 (.int .i64 (0))) fun x48=>
 IfP x48
 (K (.tuple #[(.string ⟨#[]⟩),(.int .i64 (0)),x46]) h_4)
 (K (.tuple #[x45,x41,(.int .i64 (0))]) h_4))):=cdt (by kernel_rfl)
theorem q12z9:p12z9 P K x1 l7 x25 h=
 (GdP x25 false
 (OP (iAdrSl 3 l7 (.int .i64 (0))) fun x28=>
 OP (iFadr 0 x28) fun x29=>
 OP (iFadr 0 x29) fun x30=>
 OP (iLoad false 1 h x30) fun x31=>
 OP (iBin .geq x1 x31) fun x32=>
 p12z11 P K x1 l7 x25 x32 h)
 (p12z11 P K x1 l7 x25 undef h)):=cdt (by kernel_rfl)
def T12:Prop:=
 OH (iBox 24 h c0) fun c2 h_1=>
 OP (iLoad true 2 h_1 c2) fun x13=>
 OH (iMkSl 24 1 [(.slice none 0 0),(.int .i64 (0))] h_1 [(0,2,x13)]) fun x14 h_2=>
 CallP P 43 [x14] h_2 fun x15 h_3=>
 OP (iExt 0 x15) fun x16=>
 OP (iExt 1 x15) fun x17=>
 OP (iBin .neq x17 (.int .i64 (0))) fun x20=>
 IfP x20
 (K (.tuple #[(.string ⟨#[]⟩),(.int .i64 (0)),x17]) h_3)
 (OP (iBin .lss x1 (.int .i64 (0))) fun x24=>
 p12z9 P K x1 x16 x24 h_3)
theorem e12:iwpP P c12 (bodyP [.tmp 4,.tmp 5,.tmp 6] K) (frame0 [c0,x1]) h=T12 P K c0 x1 h:=by kernel_rfl
theorem f12 {K:VK} {c0 x1:Value} {h:Heap} (H:T12 Tryz.prog K c0 x1 h):CallP Tryz.prog 12 [c0,x1] h K:=
 callP_intro k12 (Nat.le_of_ble_eq_true rfl) ((e12 Tryz.prog K c0 x1 h).mpr H)
end
/-! F43: pommel/mend.chances -/
noncomputable section
variable (l0 x4 j10 x11 x12 x13 x38 x41 x43 x44 x45 x53 x57 x59 x63 x65 x69 x71 x81 x86 x91 : Value) (L1 : LQ) (xs : List Value) (h : Heap)
def oc43:=compFn Tryz.prog 43 [[],[],[],[0,11,12],[4,13],[],[],[],[],[],[],[],[],[0,4],[0,4,38],[4,38,41],[],[],[],[],[4,43,44],[45],[],[],[],[4,10,43,44,45,53],[4,10,43,44,45,53,57],[4,10,43,44,45,59],[4,10,43,44,45,59,63],[4,10,43,44,45,65],[4,10,43,44,45,65,69],[4,10,43,44,45,71],[4,10,43,44,45,71,81],[],[],[],[4,10,43,44,45,86],[4,43,44,45,86,91],[],[],[],[4],[]]
@[irreducible] def c43:=icOf oc43
@[irreducible] def c43z6:=c43.r.r.l.r.l.l
@[irreducible] def c43z3:=c43.r.r.r
@[irreducible] def c43z16:=c43z3.l
@[irreducible] def c43z20:=c43z16.l.l.r.l
@[irreducible] def c43z18:=c43z16.l.r
@[irreducible] def c43z17:=c43z16.r
@[irreducible] def c43z22:=c43z20.r.l
@[irreducible] def c43z27:=c43z17.l.r.l.l
@[irreducible] def c43z24:=c43z17.r
@[irreducible] def c43z36:=c43z27.r.r.l.l.r.l.l.r.l
@[irreducible] def c43z34:=c43z27.r.r.l.l.r.l.r
@[irreducible] def c43z33:=c43z27.r.r.l.l.r.r
@[irreducible] def c43z30:=c43z27.r.r.r
@[irreducible] def c43z58:=c43z24.l
@[irreducible] def c43z38:=c43z36.r.l
@[irreducible] def c43z54:=c43z33.l.r.l
@[irreducible] def c43z52:=c43z33.r
@[irreducible] def c43z40:=c43z38.r.l
@[irreducible] def c43z56:=c43z54.r.l
@[irreducible] def c43z42:=c43z40.r.l
@[irreducible] def c43z44:=c43z42.r.l
@[irreducible] def c43z46:=c43z44.r.l
@[irreducible] def c43z48:=c43z46.r.l
@[irreducible] def c43z50:=c43z48.r.l
theorem k43:oc43=some (95,c43,[.tmp 2,.tmp 3]):=by kernel_rfl
def K43z0 (_P:Program) (K:VK):Kont:=bodyP [.tmp 2,.tmp 3] K
def K43z3:Kont:=thenK (iwpP P c43z3 (K43z0 P K)) (K43z0 P K)
def K43z5:Kont:=inBlockK 0 (K43z3 P K)
def K43z6:Kont:=thenK (fun f' h''=>(([0,11,12]:List Nat).map f':List Value)=[l0,x11,x12]∧L1 (([4,13]:List Nat).map f') h'') (K43z5 P K)
def K43z17:Kont:=thenK (iwpP P c43z17 (K43z0 P K)) (K43z0 P K)
def K43z18:Kont:=thenK (iwpP P c43z18 (K43z17 P K)) (K43z17 P K)
def K43z24:Kont:=thenK (iwpP P c43z24 (K43z0 P K)) (K43z0 P K)
def K43z26:Kont:=inBlockK 2 (K43z24 P K)
def K43z27:Kont:=thenK (fun f' h''=>(([4,43,44]:List Nat).map f':List Value)=[x4,x43,x44]∧L1 (([45]:List Nat).map f') h'') (K43z26 P K)
def K43z30:Kont:=thenK (iwpP P c43z30 (K43z27 P K x4 x43 x44 L1)) (K43z27 P K x4 x43 x44 L1)
def K43z31:Kont:=inBlockK 3 (K43z30 P K x4 x43 x44 L1)
def K43z33:Kont:=thenK (iwpP P c43z33 (K43z31 P K x4 x43 x44 L1)) (K43z31 P K x4 x43 x44 L1)
def K43z34:Kont:=thenK (iwpP P c43z34 (K43z33 P K x4 x43 x44 L1)) (K43z33 P K x4 x43 x44 L1)
def K43z52:Kont:=thenK (iwpP P c43z52 (K43z31 P K x4 x43 x44 L1)) (K43z31 P K x4 x43 x44 L1)
def p43z6:Prop:=CutP (iwpP P c43z6 (K43z6 P K l0 x11 x12 L1)) ([0,11,12]++[4,13]) ([l0,x11,x12]++xs) h
def p43z16:Prop:=CutP (iwpP P c43z16 (K43z0 P K)) [0,4] [l0,x4] h
def p43z20:Prop:=CutP (iwpP P c43z20 (K43z18 P K)) [0,4,38] [l0,x4,x38] h
def p43z22:Prop:=CutP (iwpP P c43z22 (K43z18 P K)) [4,38,41] [x4,x38,x41] h
def p43z27:Prop:=CutP (iwpP P c43z27 (K43z27 P K x4 x43 x44 L1)) ([4,43,44]++[45]) ([x4,x43,x44]++xs) h
def p43z36:Prop:=CutP (iwpP P c43z36 (K43z34 P K x4 x43 x44 L1)) [4,10,43,44,45,53] [x4,j10,x43,x44,x45,x53] h
def p43z38:Prop:=CutP (iwpP P c43z38 (K43z34 P K x4 x43 x44 L1)) [4,10,43,44,45,53,57] [x4,j10,x43,x44,x45,x53,x57] h
def p43z40:Prop:=CutP (iwpP P c43z40 (K43z34 P K x4 x43 x44 L1)) [4,10,43,44,45,59] [x4,j10,x43,x44,x45,x59] h
def p43z42:Prop:=CutP (iwpP P c43z42 (K43z34 P K x4 x43 x44 L1)) [4,10,43,44,45,59,63] [x4,j10,x43,x44,x45,x59,x63] h
def p43z44:Prop:=CutP (iwpP P c43z44 (K43z34 P K x4 x43 x44 L1)) [4,10,43,44,45,65] [x4,j10,x43,x44,x45,x65] h
def p43z46:Prop:=CutP (iwpP P c43z46 (K43z34 P K x4 x43 x44 L1)) [4,10,43,44,45,65,69] [x4,j10,x43,x44,x45,x65,x69] h
def p43z48:Prop:=CutP (iwpP P c43z48 (K43z34 P K x4 x43 x44 L1)) [4,10,43,44,45,71] [x4,j10,x43,x44,x45,x71] h
def p43z50:Prop:=CutP (iwpP P c43z50 (K43z34 P K x4 x43 x44 L1)) [4,10,43,44,45,71,81] [x4,j10,x43,x44,x45,x71,x81] h
def p43z54:Prop:=CutP (iwpP P c43z54 (K43z52 P K x4 x43 x44 L1)) [4,10,43,44,45,86] [x4,j10,x43,x44,x45,x86] h
def p43z56:Prop:=CutP (iwpP P c43z56 (K43z52 P K x4 x43 x44 L1)) [4,43,44,45,86,91] [x4,x43,x44,x45,x86,x91] h
def p43z58:Prop:=CutP (iwpP P c43z58 (K43z0 P K)) [4] [x4] h
theorem q43z6 (l0 x11 x12:Value) (L1:LQ) (x4 x13:Value) (h:Heap):p43z6 P K l0 x11 x12 L1 [x4,x13] h=
 (OP (iBin .lss x13 x12) fun x14=>
 IfP x14
 (OP (iAdrSl 2 x11 x13) fun x15=>
 OP (iLoad true 2 h x15) fun x16=>
 OH (iAlloc 24 [(.slice none 0 0),(.int .i64 (0))] h) fun c6 h_1=>
 OH (oStore 2 h_1 c6 x16) fun _ h_2=>
 OP (iLoad true 2 h_2 c6) fun x18=>
 CallP P 80 [x18] h_2 fun x19 h_3=>
 OP (iExt 0 x19) fun x20=>
 OP (iExt 1 x19) fun x21=>
 OP (iUn .not x21) fun x23=>
 IfP x23
 (K (.tuple #[(.slice none 0 0),(.int .i64 (2))]) h_3)
 (OP (iLenSl x20) fun x26=>
 OP (iFadr 1 c6) fun x27=>
 OP (iLoad false 1 h_3 x27) fun x28=>
 OP (iBuild [(.int .i64 (0)),(.int .i64 (0))] [(0,1,x26),(1,1,x28)]) fun x29=>
 OP (iBuild [(.int .i64 (0)),(.int .i64 (0)),(.slice none 0 0)] [(0,2,x29),(2,1,x20)]) fun x31=>
 OH (iMkSl 102 1 [(.int .i64 (0)),(.int .i64 (0)),(.slice none 0 0)] h_3 [(0,3,x31)]) fun x32 h_4=>
 OH (iApp 102 3 40 h_4 x4 x32) fun x33 h_5=>
 OP (iBin .add x13 (.int .i64 (1))) fun x34=>
 ([l0,x11,x12]:List Value)=[l0,x11,x12]∧L1 [x33,x34] h_5))
 (p43z16 P K l0 x4 h)):=cdt (by kernel_rfl)
theorem q43z22:p43z22 P K x4 x38 x41 h=
 (OP (iPick x38 (.bool true) x41) fun x42=>
 IfP x42
 (K (.tuple #[(.slice none 0 0),(.int .i64 (1))]) h)
 (OP (iLenSl x4) fun x44=>
 LoopP [(.int .i64 (0))] h fun L1 xs hx=>
 p43z27 P K x4 x4 x44 L1 xs hx)):=cdt (by kernel_rfl)
theorem q43z20:p43z20 P K l0 x4 x38 h=
 (GdP x38 false
 (OP (iLenSl l0) fun x40=>
 OP (iBin .gtr x40 (.int .i64 (3))) fun x41=>
 p43z22 P K x4 x38 x41 h)
 (p43z22 P K x4 x38 undef h)):=cdt (by kernel_rfl)
theorem q43z50:p43z50 P K x4 j10 x43 x44 x45 x71 x81 L1 h=
 (OP (iPick x71 (.bool true) x81) fun x82=>
 IfP x82
 (K (.tuple #[(.slice none 0 0),(.int .i64 (1))]) h)
 (OP (iFadr 2 j10) fun x83=>
 OP (iLoad false 1 h x83) fun x84=>
 CallP P 82 [x84,(.func (.func 83) #[] #[])] h fun x85 h_1=>
 p43z54 P K x4 j10 x43 x44 x45 x85 L1 h_1)):=cdt (by kernel_rfl)
theorem q43z48:p43z48 P K x4 j10 x43 x44 x45 x71 L1 h=
 (GdP x71 false
 (OP (iFadr 2 j10) fun x72=>
 OP (iLoad false 1 h x72) fun x73=>
 OP (iFadr 0 j10) fun x74=>
 OP (iFadr 0 x74) fun x75=>
 OP (iLoad false 1 h x75) fun x76=>
 OP (iBin .sub x76 (.int .i64 (1))) fun x77=>
 OP (iAdrSl 4 x73 x77) fun x78=>
 OP (iLoad true 4 h x78) fun x79=>
 CallP P 81 [x79] h fun x80 h_1=>
 OP (iBin .eql x80 (.int .i64 (0))) fun x81=>
 p43z50 P K x4 j10 x43 x44 x45 x71 x81 L1 h_1)
 (p43z50 P K x4 j10 x43 x44 x45 x71 undef L1 h)):=cdt (by kernel_rfl)
theorem q43z46:p43z46 P K x4 j10 x43 x44 x45 x65 x69 L1 h=
 (OP (iPick x65 (.bool true) x69) fun x70=>
 p43z48 P K x4 j10 x43 x44 x45 x70 L1 h):=cdt (by kernel_rfl)
theorem q43z44:p43z44 P K x4 j10 x43 x44 x45 x65 L1 h=
 (GdP x65 false
 (OP (iFadr 0 j10) fun x66=>
 OP (iFadr 1 x66) fun x67=>
 OP (iLoad false 1 h x67) fun x68=>
 OP (iBin .gtr x68 (.int .i64 (50))) fun x69=>
 p43z46 P K x4 j10 x43 x44 x45 x65 x69 L1 h)
 (p43z46 P K x4 j10 x43 x44 x45 x65 undef L1 h)):=cdt (by kernel_rfl)
theorem q43z42:p43z42 P K x4 j10 x43 x44 x45 x59 x63 L1 h=
 (OP (iPick x59 (.bool true) x63) fun x64=>
 p43z44 P K x4 j10 x43 x44 x45 x64 L1 h):=cdt (by kernel_rfl)
theorem q43z40:p43z40 P K x4 j10 x43 x44 x45 x59 L1 h=
 (GdP x59 false
 (OP (iFadr 0 j10) fun x60=>
 OP (iFadr 1 x60) fun x61=>
 OP (iLoad false 1 h x61) fun x62=>
 OP (iBin .lss x62 (.int .i64 (0))) fun x63=>
 p43z42 P K x4 j10 x43 x44 x45 x59 x63 L1 h)
 (p43z42 P K x4 j10 x43 x44 x45 x59 undef L1 h)):=cdt (by kernel_rfl)
theorem q43z38:p43z38 P K x4 j10 x43 x44 x45 x53 x57 L1 h=
 (OP (iPick x53 (.bool true) x57) fun x58=>
 p43z40 P K x4 j10 x43 x44 x45 x58 L1 h):=cdt (by kernel_rfl)
theorem q43z36:p43z36 P K x4 j10 x43 x44 x45 x53 L1 h=
 (GdP x53 false
 (OP (iFadr 0 j10) fun x54=>
 OP (iFadr 0 x54) fun x55=>
 OP (iLoad false 1 h x55) fun x56=>
 OP (iBin .gtr x56 (.int .i64 (8))) fun x57=>
 p43z38 P K x4 j10 x43 x44 x45 x53 x57 L1 h)
 (p43z38 P K x4 j10 x43 x44 x45 x53 undef L1 h)):=cdt (by kernel_rfl)
theorem q43z56:p43z56 P K x4 x43 x44 x45 x86 x91 L1 h=
 (OP (iPick x86 (.bool true) x91) fun x92=>
 IfP x92
 (K (.tuple #[(.slice none 0 0),(.int .i64 (1))]) h)
 (OP (iBin .add x45 (.int .i64 (1))) fun x93=>
 ([x4,x43,x44]:List Value)=[x4,x43,x44]∧L1 [x93] h)):=cdt (by kernel_rfl)
theorem q43z54:p43z54 P K x4 j10 x43 x44 x45 x86 L1 h=
 (GdP x86 false
 (OP (iLoad true 3 h j10) fun x87=>
 CallP P 85 [x87,(.int .i64 (0))] h fun x88 h_1=>
 CallP P 75 [(.int .i64 (1))] h_1 fun x89 h_2=>
 CallP P 86 [x88,x89] h_2 fun x90 h_3=>
 OP (iBin .neq x90 (.int .i64 (0))) fun x91=>
 p43z56 P K x4 x43 x44 x45 x86 x91 L1 h_3)
 (p43z56 P K x4 x43 x44 x45 x86 undef L1 h)):=cdt (by kernel_rfl)
theorem q43z27 (x4 x43 x44:Value) (L1:LQ) (x45:Value) (h:Heap):p43z27 P K x4 x43 x44 L1 [x45] h=
 (OP (iBin .lss x45 x44) fun x46=>
 IfP x46
 (OP (iAdrSl 3 x43 x45) fun x47=>
 OP (iLoad true 3 h x47) fun x48=>
 OH (iAlloc 102 [(.int .i64 (0)),(.int .i64 (0)),(.slice none 0 0)] h) fun j10 h_1=>
 OH (oStore 3 h_1 j10 x48) fun _ h_2=>
 OP (iFadr 0 j10) fun x49=>
 OP (iFadr 0 x49) fun x50=>
 OP (iLoad false 1 h_2 x50) fun x51=>
 OP (iBin .lss x51 (.int .i64 (1))) fun x52=>
 p43z36 P K x4 j10 x43 x44 x45 x52 L1 h_2)
 (p43z58 P K x4 h)):=cdt (by kernel_rfl)
theorem q43z58:p43z58 P K x4 h=
 (K (.tuple #[x4,(.int .i64 (0))]) h):=cdt (by kernel_rfl)
theorem q43z16:p43z16 P K l0 x4 h=
 (OP (iLenSl l0) fun x36=>
 OP (iBin .lss x36 (.int .i64 (1))) fun x37=>
 p43z20 P K l0 x4 x37 h):=cdt (by kernel_rfl)
def T43:Prop:=
 OP (iLenSl l0) fun x12=>
 LoopP [(.slice none 0 0),(.int .i64 (0))] h fun L1 xs hx=>
 p43z6 P K l0 l0 x12 L1 xs hx
theorem e43:iwpP P c43 (bodyP [.tmp 2,.tmp 3] K) (frame0 [l0]) h=T43 P K l0 h:=by kernel_rfl
theorem f43 {K:VK} {l0:Value} {h:Heap} (H:T43 Tryz.prog K l0 h):CallP Tryz.prog 43 [l0] h K:=
 callP_intro k43 (Nat.le_of_ble_eq_true rfl) ((e43 Tryz.prog K l0 h).mpr H)
end
/-! F44: (pommel/mend.lucky).index -/
noncomputable section
variable (j0 x1 j2 x4 x6 x7 x8 x9 d10 x11 x52 x56 : Value) (L1 : LQ) (xs : List Value) (h : Heap)
def oc44:=compFn Tryz.prog 44 [[],[],[],[],[1,2,4,6,8,9],[7,10],[],[],[],[],[],[1,2,4,6,7,8,9,10,11,52],[1,2,4,6,7,8,9,10,11,52,56],[],[1,2,4,6,7,8,9,10],[4,6,7],[]]
@[irreducible] def c44:=icOf oc44
@[irreducible] def c44z7:=c44.r.r.r.l.r.l.l
@[irreducible] def c44z4:=c44.r.r.r.r
@[irreducible] def c44z17:=c44z7.r.l.l.r.r.r.l.r.l
@[irreducible] def c44z15:=c44z7.r.l.l.r.r.r.r
@[irreducible] def c44z10:=c44z7.r.r
@[irreducible] def c44z21:=c44z4.l
@[irreducible] def c44z19:=c44z17.r.l
@[irreducible] def c44z20:=c44z10.l
theorem k44:oc44=some (62,c44,[.cell true 4 4,.tmp 5]):=by kernel_rfl
def K44z0 (_P:Program) (K:VK):Kont:=bodyP [.cell true 4 4,.tmp 5] K
def K44z4:Kont:=thenK (iwpP P c44z4 (K44z0 P K)) (K44z0 P K)
def K44z6:Kont:=inBlockK 0 (K44z4 P K)
def K44z7:Kont:=thenK (fun f' h''=>(([1,2,4,6,8,9]:List Nat).map f':List Value)=[x1,j2,x4,x6,x8,x9]∧L1 (([7,10]:List Nat).map f') h'') (K44z6 P K)
def K44z10:Kont:=thenK (iwpP P c44z10 (K44z7 P K x1 j2 x4 x6 x8 x9 L1)) (K44z7 P K x1 j2 x4 x6 x8 x9 L1)
def K44z11:Kont:=inBlockK 1 (K44z10 P K x1 j2 x4 x6 x8 x9 L1)
def K44z15:Kont:=thenK (iwpP P c44z15 (K44z11 P K x1 j2 x4 x6 x8 x9 L1)) (K44z11 P K x1 j2 x4 x6 x8 x9 L1)
def p44z7:Prop:=CutP (iwpP P c44z7 (K44z7 P K x1 j2 x4 x6 x8 x9 L1)) ([1,2,4,6,8,9]++[7,10]) ([x1,j2,x4,x6,x8,x9]++xs) h
def p44z17:Prop:=CutP (iwpP P c44z17 (K44z15 P K x1 j2 x4 x6 x8 x9 L1)) [1,2,4,6,7,8,9,10,11,52] [x1,j2,x4,x6,x7,x8,x9,d10,x11,x52] h
def p44z19:Prop:=CutP (iwpP P c44z19 (K44z15 P K x1 j2 x4 x6 x8 x9 L1)) [1,2,4,6,7,8,9,10,11,52,56] [x1,j2,x4,x6,x7,x8,x9,d10,x11,x52,x56] h
def p44z20:Prop:=CutP (iwpP P c44z20 (K44z7 P K x1 j2 x4 x6 x8 x9 L1)) [1,2,4,6,7,8,9,10] [x1,j2,x4,x6,x7,x8,x9,d10] h
def p44z21:Prop:=CutP (iwpP P c44z21 (K44z0 P K)) [4,6,7] [x4,x6,x7] h
theorem q44z19:p44z19 P K x1 j2 x4 x6 x7 x8 x9 d10 x11 x52 x56 L1 h=
 (OP (iPick x52 (.bool true) x56) fun x57=>
 IfP x57
 (OP (iLoad true 4 h x11) fun x58=>
 OH (oStore 4 h x6 x58) fun _ h_1=>
 p44z20 P K x1 j2 x4 x6 d10 x8 x9 d10 L1 h_1)
 (p44z20 P K x1 j2 x4 x6 x7 x8 x9 d10 L1 h)):=cdt (by kernel_rfl)
theorem q44z17:p44z17 P K x1 j2 x4 x6 x7 x8 x9 d10 x11 x52 L1 h=
 (GdP x52 false
 (OP (iLoad true 4 h x11) fun x53=>
 OP (iLoad true 4 h x6) fun x54=>
 CallP P 86 [x53,x54] h fun x55 h_1=>
 OP (iBin .gtr x55 (.int .i64 (0))) fun x56=>
 p44z19 P K x1 j2 x4 x6 x7 x8 x9 d10 x11 x52 x56 L1 h_1)
 (p44z19 P K x1 j2 x4 x6 x7 x8 x9 d10 x11 x52 undef L1 h)):=cdt (by kernel_rfl)
theorem q44z20:p44z20 P K x1 j2 x4 x6 x7 x8 x9 d10 L1 h=
 (OP (iBin .add d10 (.int .i64 (1))) fun x23=>
 ([x1,j2,x4,x6,x8,x9]:List Value)=[x1,j2,x4,x6,x8,x9]∧L1 [x7,x23] h):=cdt (by kernel_rfl)
theorem q44z7 (x1 j2 x4 x6 x8 x9:Value) (L1:LQ) (x7 d10:Value) (h:Heap):p44z7 P K x1 j2 x4 x6 x8 x9 L1 [x7,d10] h=
 (OP (iFadr 0 j2) fun x16=>
 OP (iFadr 0 x16) fun x17=>
 OP (iLoad false 1 h x17) fun x18=>
 OP (iBin .sub x18 x1) fun x20=>
 OP (iBin .leq d10 x20) fun x21=>
 IfP x21
 (OP (iLoad true 4 h x8) fun x24=>
 (True)∧
 OP (iFadr 2 j2) fun x25=>
 OP (iLoad false 1 h x25) fun x26=>
 (True)∧
 OP (iBin .add x1 d10) fun x29=>
 OP (iBin .sub x29 (.int .i64 (1))) fun x30=>
 OP (iAdrSl 4 x26 x30) fun x31=>
 OP (iLoad true 4 h x31) fun x32=>
 (True)∧
 CallP P 87 [x24,x32] h fun x33 h_1=>
 (True)∧
 OH (oStore 4 h_1 x8 x33) fun _ h_2=>
 (True)∧
 OP (iLoad true 4 h_2 x9) fun x34=>
 (True)∧
 OP (iLoad true 3 h_2 j2) fun x35=>
 (True)∧
 OP (iBin .add x1 d10) fun x38=>
 OP (iBin .sub x38 (.int .i64 (1))) fun x39=>
 CallP P 85 [x35,x39] h_2 fun x40 h_3=>
 (iLoad true 4 h_3 x9=some x34∧True)∧
 CallP P 87 [x34,x40] h_3 fun x41 h_4=>
 (True)∧
 OH (oStore 4 h_4 x9 x41) fun _ h_5=>
 (True)∧
 OH (iAlloc 107 [(.bool false),(.slice none 0 0),(.bool false),(.slice none 0 0)] h_5) fun x11 h_6=>
 OP (iObj h_6 x11) fun u=>
 (True)∧
 OP (iFadr 0 j2) fun x42=>
 OP (iFadr 1 x42) fun x43=>
 OP (iLoad false 1 h_6 x43) fun x44=>
 (iLoad false 1 h_5 x43=some x44∧True)∧
 CallP P 75 [x44] h_6 fun x45 h_7=>
 (iObj h_7 x11=some u∧True)∧
 OP (iLoad true 4 h_7 x8) fun x46=>
 (iLoad true 4 h_5 x8=some x46∧iLoad true 4 h_6 x8=some x46∧True)∧
 CallP P 88 [x45,x46] h_7 fun x47 h_8=>
 (iObj h_8 x11=some u∧True)∧
 OP (iLoad true 4 h_8 x9) fun x48=>
 (iLoad true 4 h_5 x9=some x48∧iLoad true 4 h_6 x9=some x48∧iLoad true 4 h_7 x9=some x48∧True)∧
 CallP P 77 [x47,x48] h_8 fun x49 h_9=>
 (iObj h_9 x11=some u∧True)∧
 OH (oStore 4 h_9 x11 x49) fun _ h_10=>
 (True)∧
 OP (iBin .eql x7 (.int .i64 (0))) fun x51=>
 p44z17 P K x1 j2 x4 x6 x7 x8 x9 d10 x11 x51 L1 h_10)
 (p44z21 P K x4 x6 x7 h)):=cdt (by kernel_rfl)
theorem q44z21:p44z21 P K x4 x6 x7 h=
 (OP (iLoad true 4 h x6) fun x60=>
 OH (oStore 4 h x4 x60) fun _ h_1=>
 OP (iLoad true 4 h_1 x4) fun r0=>
 K (.tuple #[r0,x7]) h_1):=cdt (by kernel_rfl)
def T44:Prop:=
 OH (iBox 102 h j0) fun j2 h_1=>
 OH (iAlloc 107 [(.bool false),(.slice none 0 0),(.bool false),(.slice none 0 0)] h_1) fun x4 h_2=>
 CallP P 75 [(.int .i64 (0))] h_2 fun x12 h_3=>
 OH (iAlloc 107 [(.bool false),(.slice none 0 0),(.bool false),(.slice none 0 0)] h_3) fun x6 h_4=>
 OH (oStore 4 h_4 x6 x12) fun _ h_5=>
 CallP P 75 [(.int .i64 (0))] h_5 fun x13 h_6=>
 CallP P 75 [(.int .i64 (0))] h_6 fun x14 h_7=>
 OH (iAlloc 107 [(.bool false),(.slice none 0 0),(.bool false),(.slice none 0 0)] h_7) fun x8 h_8=>
 OH (iAlloc 107 [(.bool false),(.slice none 0 0),(.bool false),(.slice none 0 0)] h_8) fun x9 h_9=>
 OH (oStore 4 h_9 x8 x13) fun _ h_10=>
 OH (oStore 4 h_10 x9 x14) fun _ h_11=>
 LoopP [(.int .i64 (0)),(.int .i64 (1))] h_11 fun L1 xs hx=>
 p44z7 P K x1 j2 x4 x6 x8 x9 L1 xs hx
theorem e44:iwpP P c44 (bodyP [.cell true 4 4,.tmp 5] K) (frame0 [j0,x1]) h=T44 P K j0 x1 h:=by kernel_rfl
theorem f44 {K:VK} {j0 x1:Value} {h:Heap} (H:T44 Tryz.prog K j0 x1 h):CallP Tryz.prog 44 [j0,x1] h K:=
 callP_intro k44 (Nat.le_of_ble_eq_true rfl) ((e44 Tryz.prog K j0 x1 h).mpr H)
end
end Go.Proofs.YtelmdbpaoifmoaaGreat

namespace Go.Proofs.YtelmdbpaoifmoaaGreat
open Go.Sim

def CHL (h:Heap) (v:Value) (cs:List (List (List UInt8)×Int)):Prop:=
 ∃rows,RS h 24 2 v rows∧rows.length=cs.length∧∀(k:Nat) (row:List Value) (c:List (List UInt8)×Int),rows[k]?=some row→cs[k]?=some c→∃vs,row=[vs,I c.2]∧SS h vs c.1

theorem CHL.mono {h h':Heap} {v:Value} {cs:List (List (List UInt8)×Int)} (x:EX h h') (p:CHL h v cs):CHL h' v cs:=
 let ⟨rows,a,b,c⟩:=p;⟨rows,a.mono x,b,fun k row q h1 h2=>let ⟨vq,e,m⟩:=c k row q h1 h2;⟨vq,e,m.mono x⟩⟩
theorem CHL.len {h:Heap} {v:Value} {cs:List (List (List UInt8)×Int)} (p:CHL h v cs):iLenSl v=some (I cs.length):=by
 obtain ⟨rows,a,b,_⟩:=p;rw [←b];exact a.len
theorem CHL.get {h:Heap} {v:Value} {cs:List (List (List UInt8)×Int)} (p:CHL h v cs) {k:Nat} (hk:k<cs.length):∃i o vs,iAdrSl 2 v (I k)=some (pt i o)∧iLoad true 2 h (pt i o)=some (.agg #[vs,I cs[k].2])∧SS h vs cs[k].1:=by
 obtain ⟨rows,a,b,c⟩:=p
 have hk':k<rows.length:=by omega
 obtain ⟨i,o,cells,g1,g2,g3,g4⟩:=a.get hk'
 obtain ⟨vq,e,m⟩:=c k _ _ (List.getElem?_eq_getElem hk') (List.getElem?_eq_getElem hk)
 have:=row_all g2 g3 g4
 rw [e] at this
 exact ⟨i,o,vq,g1,this,m⟩

def lastZ (qs:List Rat):Bool:=decide ((qs.getD (qs.length-1) 0).num=0)
def chOk (qs:List Rat) (w:Int):Bool:=(((decide (1≤qs.length)&&decide (qs.length≤8))&&(decide (0≤w)&&decide (w≤50)))&& !lastZ qs)&&(!qs.any badQ&&decide (sumR qs=1))

theorem fits_sz {qs:List Rat} (h:qs.any badQ=false):∀q∈qs,szQ 4 q:=by
 intro q hq
 have:badQ q=false:=by
  cases e:badQ q with
  | false=>rfl
  | true=>rw [List.any_eq_true.2 ⟨q,hq,e⟩] at h;cases h
 unfold badQ fitsQ at this
 rw [Bool.or_eq_false_iff,Bool.not_eq_false',Bool.and_eq_true,decide_eq_true_eq,decide_eq_true_eq] at this
 exact this.2

theorem one_sz:szQ 1 ((1:Int):Rat):=by constructor <;> decide

theorem cmpR_zero (p q:Rat):decide (cmpR p q=0)=decide (p=q):=by
 rw [decide_eq_decide]
 unfold cmpR
 constructor
 ·intro h
  split at h
  ·assumption
  ·split at h <;> omega
 ·intro h;rw [if_pos h]

section
variable {h : Heap} {K : Value → Heap → Prop}

theorem C43_27 {v0 v:Value} {cs:List (List Rat×Int)} (hv:LK h v cs) (hn:cs.length≤3) (hs:∀c∈cs,(∀q∈c.1,szQ k700 q)∧c.1.length≤1000)
  (hk1:cs.all (fun c=>chOk c.1 c.2)=false→∀h',EX h h'→K (.tuple #[.slice none 0 0,I 1]) h')
  (hk:cs.all (fun c=>chOk c.1 c.2)=true→∀h',EX h h'→K (.tuple #[v0,I 0]) h'):
  LoopP [(.int .i64 (0))] h fun L1 xs hx=>p43z27 Tryz.prog K v0 v (I cs.length) L1 xs hx:=by
 refine loopL (σ:=Nat×Heap) (fun q=>[I q.1]) (fun q=>q.2) (fun q=>q.1≤cs.length∧EX h q.2∧(cs.take q.1).all (fun c=>chOk c.1 c.2)=true) (fun q=>cs.length-q.1) (0,h) rfl rfl ⟨Nat.zero_le _,EX.refl _,by simp⟩ ?_
 rintro ⟨i,g⟩ ⟨hi,xg,hall⟩ L hL
 simp only at hi xg hall hL⊢
 rw [q43z27]
 simp only [bin_lss,OP_some,IfP_dec]
 refine ⟨fun hlt=>?_,fun hge=>?_⟩
 rotate_left
 ·have hie:i=cs.length:=by omega
  subst hie
  rw [List.take_length] at hall
  rw [q43z58]
  exact hk hall g xg
 have hil:i<cs.length:=by omega
 obtain ⟨b,o,vq,u1,u2,u3⟩:=(hv.mono xg).get hil
 obtain ⟨sq,sl⟩:=hs _ (List.getElem_mem hil)
 have nok:chOk cs[i].1 cs[i].2=false→cs.all (fun c=>chOk c.1 c.2)=false:=by
  intro hb
  cases e:cs.all (fun c=>chOk c.1 c.2) with
  | false=>rfl
  | true=>rw [List.all_eq_true] at e;rw [e _ (List.getElem_mem hil)] at hb;cases hb
 have yok:chOk cs[i].1 cs[i].2=true→(cs.take (i+1)).all (fun c=>chOk c.1 c.2)=true:=by
  intro hb
  rw [List.take_succ_eq_append_getElem hil,List.all_append,hall]
  simpa using hb
 generalize cs[i].1=qs at*
 generalize cs[i].2=w at*
 obtain ⟨rq,rs,_,_⟩:=id u3.1
 obtain ⟨t1,t2⟩:=rs.one
 have e7:iAlloc 102 [(.int .i64 (0)),(.int .i64 (0)),(.slice none 0 0)] g=some (pt g.length 0,g++[.arr 102 [I 0,I 0,.slice none 0 0]]):=rfl
 simp only [u1,u2,OP_some,e7,OH_some]
 have y1:EX g (g++[.arr 102 [I 0,I 0,.slice none 0 0]]):=EX.append _ _
 have j1:(g++[IObj.arr 102 [I 0,I 0,.slice none 0 0]])[g.length]?=some (.arr 102 [I 0,I 0,.slice none 0 0]):=get_last
 generalize g++[IObj.arr 102 [I 0,I 0,.slice none 0 0]]=ga at y1 j1⊢
 have st:oStore 3 ga (pt g.length 0) (.agg #[I qs.length,I w,vq])=some (undef,ga.set g.length (.arr 102 [I qs.length,I w,vq])):=by
  simp [oStore,iStore,j1,noTuple,vcells,Value.cells,setAt]
 simp only [st,OH_some]
 have y2:EX g (ga.set g.length (.arr 102 [I qs.length,I w,vq])):=y1.set (Nat.le_refl _) _
 have j2:(ga.set g.length (.arr 102 [I qs.length,I w,vq]))[g.length]?=some (.arr 102 [I qs.length,I w,vq]):=set_get j1
 generalize ga.set g.length (.arr 102 [I qs.length,I w,vq])=gb at y2 j2⊢
 have xb:=xg.trans y2
 have l0:∀{g':Heap},EX gb g'→iLoad false 1 g' (pt g.length 0)=some (I qs.length):=fun x=>by simp [iLoad,objCells,x.get j2,iPart]
 have l1:∀{g':Heap},EX gb g'→iLoad false 1 g' (pt g.length 1)=some (I w):=fun x=>by simp [iLoad,objCells,x.get j2,iPart]
 have l2:∀{g':Heap},EX gb g'→iLoad false 1 g' (pt g.length 2)=some vq:=fun x=>by simp [iLoad,objCells,x.get j2,iPart]
 have la:∀{g':Heap},EX gb g'→iLoad true 3 g' (pt g.length 0)=some (.agg #[I qs.length,I w,vq]):=fun x=>by simp [iLoad,objCells,x.get j2,iPart]
 have hql:∀{g':Heap},EX gb g'→QL g' vq qs:=fun x=>u3.1.mono (y2.trans x)
 -- it may not be
 have bad:∀{g':Heap},EX gb g'→chOk qs w=false→K (.tuple #[.slice none 0 0,.int .i64 (1)]) g':=fun x hb=>hk1 (nok hb) _ (xb.trans x)
 have b56:∀{g':Heap} (t u:Value),EX gb g'→chOk qs w=false→iPick t (.bool true) u=some (B true)→p43z56 Tryz.prog K v0 v (I cs.length) (I i) t u L g':=by
  intro g' t u x hb ht
  rw [q43z56,ht]
  simp only [OP_some,IfP_true]
  exact bad x hb
 have b50:∀{g':Heap} (t u:Value),EX gb g'→chOk qs w=false→iPick t (.bool true) u=some (B true)→p43z50 Tryz.prog K v0 (pt g.length 0) v (I cs.length) (I i) t u L g':=by
  intro g' t u x hb ht
  rw [q43z50,ht]
  simp only [OP_some,IfP_true]
  exact bad x hb
 have b48:∀{g':Heap},EX gb g'→chOk qs w=false→p43z48 Tryz.prog K v0 (pt g.length 0) v (I cs.length) (I i) (B true) L g':=by
  intro g' x hb
  rw [q43z48]
  simp only [GdP_tf]
  exact b50 _ _ x hb rfl
 have b44:∀{g':Heap},EX gb g'→chOk qs w=false→p43z44 Tryz.prog K v0 (pt g.length 0) v (I cs.length) (I i) (B true) L g':=by
  intro g' x hb
  rw [q43z44]
  simp only [GdP_tf]
  rw [q43z46]
  simp only [iPick_t,OP_some]
  exact b48 x hb
 have b40:∀{g':Heap},EX gb g'→chOk qs w=false→p43z40 Tryz.prog K v0 (pt g.length 0) v (I cs.length) (I i) (B true) L g':=by
  intro g' x hb
  rw [q43z40]
  simp only [GdP_tf]
  rw [q43z42]
  simp only [iPick_t,OP_some]
  exact b44 x hb
 simp only [fadr_pt,Nat.add_zero,OP_some,l0 (EX.refl gb),bin_lss]
 rw [q43z36]
 by_cases h1:1≤qs.length
 rotate_left
 ·have hb:chOk qs w=false:=by unfold chOk;rw [decide_eq_false h1];rfl
  rw [decide_eq_true (show (qs.length:Int)<1 by omega)]
  simp only [GdP_tf]
  rw [q43z38]
  simp only [iPick_t,OP_some]
  exact b40 (EX.refl gb) hb
 rw [decide_eq_false (show ¬(qs.length:Int)<1 by omega)]
 simp only [GdP_ff,fadr_pt,Nat.add_zero,OP_some,l0 (EX.refl gb),bin_gtr]
 rw [q43z38]
 simp only [iPick_f,OP_some]
 by_cases h8:qs.length≤8
 rotate_left
 ·have hb:chOk qs w=false:=by unfold chOk;rw [decide_eq_false h8];simp
  rw [decide_eq_true (show (8:Int)<(qs.length:Int) by omega)]
  exact b40 (EX.refl gb) hb
 rw [decide_eq_false (show ¬(8:Int)<(qs.length:Int) by omega),q43z40]
 simp only [GdP_ff,fadr_pt,Nat.add_zero,Nat.zero_add,OP_some,l1 (EX.refl gb),bin_lss]
 rw [q43z42]
 simp only [iPick_f,OP_some]
 by_cases w0:0≤w
 rotate_left
 ·have hb:chOk qs w=false:=by unfold chOk;rw [decide_eq_false w0];simp
  rw [decide_eq_true (show w<0 by omega)]
  exact b44 (EX.refl gb) hb
 rw [decide_eq_false (show ¬w<0 by omega),q43z44]
 simp only [GdP_ff,fadr_pt,Nat.add_zero,Nat.zero_add,OP_some,l1 (EX.refl gb),bin_gtr]
 rw [q43z46]
 simp only [iPick_f,OP_some]
 by_cases w50:w≤50
 rotate_left
 ·have hb:chOk qs w=false:=by unfold chOk;rw [decide_eq_false w50];simp
  rw [decide_eq_true (show 50<w by omega)]
  exact b48 (EX.refl gb) hb
 rw [decide_eq_false (show ¬50<w by omega),q43z48]
 have w1:IntKind.wrap .i64 ((qs.length:Int)-1)=((qs.length-1:Nat):Int):=by rw [wrap64 (by omega) (by omega)];omega
 obtain ⟨b5,o5,r5,s1,s2,s3⟩:=(hql (EX.refl gb)).get (k:=qs.length-1) (by omega)
 simp only [GdP_ff,fadr_pt,Nat.add_zero,Nat.zero_add,OP_some,l2 (EX.refl gb),l0 (EX.refl gb),bin_sub,w1,s1,s2]
 refine C81 s3 ?_
 intro g1 x1
 have hz:decide (isgn (qs[qs.length-1]'(by omega)).num=0)=lastZ qs:=by
  unfold lastZ
  rw [List.getD_eq_getElem?_getD,List.getElem?_eq_getElem (by omega),Option.getD_some,decide_eq_decide]
  unfold isgn
  split
  ·simp [*]
  ·split <;> simp [*]
 simp only [bin_eql,OP_some,hz]
 cases hlz:lastZ qs with
 | true=>
  have hb:chOk qs w=false:=by unfold chOk;rw [hlz];simp
  exact b50 _ _ x1 hb rfl
 | false=>
 rw [q43z50]
 simp only [iPick_f,OP_some,IfP_false,fadr_pt,Nat.zero_add,l2 x1]
 refine C82 (hql x1) sq sl ?_
 intro g2 x2
 have x12:=x1.trans x2
 rw [q43z54]
 cases hab:qs.any badQ with
 | true=>
  have hb:chOk qs w=false:=by unfold chOk;rw [hab];simp
  simp only [GdP_tf]
  exact b56 _ _ x12 hb rfl
 | false=>
 simp only [GdP_ff,la x12,OP_some]
 have s4:=fits_sz hab
 refine C85 (age:=0) (hql x12) (Nat.zero_le _) s4 (by omega) ?_
 intro r3 g3 x3 hr3
 rw [List.drop_zero] at hr3
 have ssz:=sumR_sz s4 qs.length (Nat.le_refl _)
 rw [List.take_length] at ssz
 refine C75r (n:=1) (by decide) (by decide) ?_
 intro r4 g4 x4 hr4
 refine C86 (hr3.mono x4) hr4 ssz one_sz (by omega) ?_
 intro g5 x5
 have x15:=x12.trans (x3.trans (x4.trans x5))
 have hc:(!decide (cmpR (sumR qs) ((1:Int):Rat)=0))= !decide (sumR qs=1):=by rw [cmpR_zero];rfl
 simp only [bin_neq,OP_some,hc]
 have hok:chOk qs w=decide (sumR qs=1):=by
  unfold chOk
  rw [decide_eq_true h1,decide_eq_true h8,decide_eq_true w0,decide_eq_true w50,hlz,hab];simp
 by_cases hs1:sumR qs=1
 ·rw [decide_eq_true hs1] at hok⊢
  rw [q43z56]
  simp only [Bool.not_true,iPick_f,OP_some,IfP_false,bin_add,inc i (by omega),true_and]
  exact hL (i+1,g5) ⟨by show i+1≤_;omega,xb.trans x15,yok hok⟩ (by show cs.length-(i+1)<cs.length-i;omega)
 ·rw [decide_eq_false hs1] at hok⊢
  exact b56 _ _ x15 hok rfl

end
end Go.Proofs.YtelmdbpaoifmoaaGreat


namespace Go.Proofs.YtelmdbpaoifmoaaGreat
open Go.Sim Go.ChangeShapes Go.WideShapes Go.ChangeAt Go.RowKit

set_option maxRecDepth 100000
theorem cells27:Tryz.prog.cellsOf 27=1:=by kernel_rfl
theorem cells22:Tryz.prog.cellsOf 22=1:=by kernel_rfl
theorem cells24:Tryz.prog.cellsOf 24=2:=by kernel_rfl
theorem und22:Tryz.prog.underlying 22=some (.slice 27):=by kernel_rfl
theorem und27:Tryz.prog.underlying 27=some .string:=by kernel_rfl
section
variable {H : Type} {enc : TypeId × Value → H} {W : World} {ρ : RMap} {h : Heap}

theorem trod_str_flat:∀n cs (y:DataW H×List MemPlace),DataW.trod enc Tryz.prog W 0 (fun _=>true) true n 27 cs=some y→cs.length=Tryz.prog.cellsOf 27∧∀x∈cs,scal x=true:=by
 intro n cs y h
 obtain ⟨s,rfl,_,_⟩:=DataW.trod_string und27 h
 exact ⟨by rw [cells27];rfl,by simp [scal]⟩

theorem strs_of:∀{n:Nat} {xs:List Value},xs.length=n*1→(∀i,i<n→∃m,∃y:DataW H×List MemPlace,DataW.trod enc Tryz.prog W 0 (fun _=>true) true m 27 ((xs.drop (i*1)).take 1)=some y)→∃ls:List (List UInt8),ls.length=n∧xs=ls.map S:=by
 intro n
 induction n with
 | zero=>intro xs hx _;exact ⟨[],rfl,by simpa using hx⟩
 | succ n ih=>
  intro xs hx hy
  cases xs with
  | nil=>simp at hx
  | cons x xs=>
   obtain ⟨m,y,h0⟩:=hy 0 (by omega)
   obtain ⟨s,e1,_⟩:=DataW.trod_string und27 h0
   have ex:x=.string s:=by simpa using e1
   obtain ⟨ls,l1,l2⟩:=ih (xs:=xs) (by simpa using hx) fun i hi=>by
    obtain ⟨m,y,h1⟩:=hy (i+1) (by omega)
    refine ⟨m,y,?_⟩
    simpa using h1
   refine ⟨Go.Sim.bytes s::ls,by simp [l1],?_⟩
   rw [List.map_cons,S_bytes,←ex,←l2]

theorem emb_texts {fuel:Nat} {v:Value} {x:DataW H×List MemPlace} (hd:DataW.trod enc Tryz.prog W 0 (fun _=>true) true fuel 22 [v]=some x) (HR:HRel Tryz.prog ρ h W) (hro:roH h):
  ∃(ρ':RMap) (g:Heap) (v':Value) (ls:List (List UInt8)),ρ.le ρ'∧HRel Tryz.prog ρ' (h++g) W∧roH (h++g)∧VRel ρ' v' v∧isCell v'=true∧SS (h++g) v' ls:=by
 obtain ⟨ρ',g,v',n,xs,e1,e2,e3,e4,e5,e6,e7,e8,e9⟩:=emb_inner (P:=Tryz.prog) (W:=W) (enc:=enc) (ρ:=ρ) (h:=h) und22 (by rw [cells27];omega) trod_str_flat hd HR hro
 rw [cells27] at e7 e9
 obtain ⟨ls,q1,rfl⟩:=strs_of e7 e9
 subst q1
 refine ⟨ρ',g,v',ls,e1,e2,e3,e4,e5,?_⟩
 rcases e6 with ⟨hv,h0⟩ | ⟨i,rfl,h0⟩
 ·have:ls=[]:=List.length_eq_zero_iff.1 h0
  subst this
  rcases hv with rfl | rfl <;> exact ⟨rfl,fun k hk=>by simp at hk⟩
 ·rcases h0 with h0 | h0
  ·have:ls=[]:=List.length_eq_zero_iff.1 h0
   subst this
   exact ⟨rfl,fun k hk=>by simp at hk⟩
  ·exact SS.sl h0

theorem chance_row {n:Nat} {cs:List Value} {y:DataW H×List MemPlace} (hd:DataW.trod enc Tryz.prog W 0 (fun _=>true) true n 24 cs=some y) (HR:HRel Tryz.prog ρ h W) (hro:roH h):
  ∃(ρ':RMap) (g:Heap) (row:List Value) (c:List (List UInt8)×Int),ρ.le ρ'∧HRel Tryz.prog ρ' (h++g) W∧roH (h++g)∧VsRel ρ' row cs∧(∀x∈row,isCell x=true)∧row.length=Tryz.prog.cellsOf 24∧∃vs,row=[vs,I c.2]∧SS (h++g) vs c.1:=by
 obtain ⟨y0,y1,m,_,hl,h0,h1⟩:=trod_struct2 Tryz.underlying24 hd
 simp only [cells24,cells22,cells3] at hl h0 h1
 obtain ⟨c0,c1,rfl⟩:=list_two hl
 simp at h0 h1
 obtain ⟨w,e1,_,_⟩:=DataW.trod_int Tryz.underlying3 h1
 simp at e1
 subst e1
 obtain ⟨ρ',g,v',ls,a1,a2,a3,a4,a5,a6⟩:=emb_texts h0 HR hro
 refine ⟨ρ',g,[v',I w],(ls,w),a1,a2,a3,.cons a4 (.cons (.int _ _) .nil),?_,by rw [cells24];rfl,v',rfl,a6⟩
 intro x hx
 rcases List.mem_cons.1 hx with rfl | hx
 ·exact a5
 ·rw [List.mem_singleton.1 hx];rfl

theorem emb_chance {b:Nat} {v:Value} {d:DataW H} {ps:List MemPlace} (hok:Value.okWide Tryz.prog W .any b 24 v) (hd:DataW.Trod enc Tryz.prog W 0 (fun _=>true) true 24 v d ps) (HR:HRel Tryz.prog ρ h W) (hro:roH h):
  ∃(ρ':RMap) (g:Heap) (vs:Value) (ls:List (List UInt8)) (w:Int),ρ.le ρ'∧HRel Tryz.prog ρ' (h++g) W∧roH (h++g)∧VRel ρ' (.agg #[vs,I w]) v∧SS (h++g) vs ls:=by
 simp only [Value.okWide,Tryz.underlying24] at hok
 obtain ⟨cs,rfl,_⟩:=hok
 obtain ⟨fuel,hf⟩:=hd
 simp only [Value.cells] at hf
 obtain ⟨ρ',g,row,c,a1,a2,a3,a4,a5,a6,vs,rfl,a7⟩:=chance_row hf HR hro
 exact ⟨ρ',g,vs,c.1,c.2,a1,a2,a3,VRel.aggL (xs':=cs.toList) a4 a5,a7⟩

end
end Go.Proofs.YtelmdbpaoifmoaaGreat


namespace Go.Proofs.YtelmdbpaoifmoaaGreat
open Go.Sim

def jobsOf (cs:List (List (List UInt8)×Int)):List (List Rat×Int):=cs.map fun c=>(c.1.map ratT,c.2)
def formC (cs:List (List (List UInt8)×Int)):Bool:=cs.all fun c=>c.1.all isNum
def argC (cs:List (List (List UInt8)×Int)):Bool:=(decide (1≤cs.length)&&decide (cs.length≤3))&&(jobsOf cs).all fun c=>chOk c.1 c.2

section
variable {h : Heap} {K : Value → Heap → Prop}

theorem C43 {v:Value} {cs:List (List (List UInt8)×Int)} (hv:CHL h v cs) (hl:∀c∈cs,c.1.length≤1000∧∀s∈c.1,s.length≤700) (hn:cs.length≤1000)
  (hk2:formC cs=false→∀h',EX h h'→K (.tuple #[.slice none 0 0,I 2]) h')
  (hk1:formC cs=true→argC cs=false→∀h',EX h h'→K (.tuple #[.slice none 0 0,I 1]) h')
  (hk:formC cs=true→argC cs=true→∀v' h',EX h h'→LK h' v' (jobsOf cs)→K (.tuple #[v',I 0]) h'):CallP Tryz.prog 43 [v] h K:=by
 refine f43 ?_
 unfold T43
 have hlen:=hv.len
 simp only [hlen,OP_some]
 refine loopL (σ:=Nat×Value×Heap) (fun q=>[q.2.1,I q.1]) (fun q=>q.2.2) (fun q=>q.1≤cs.length∧EX h q.2.2∧formC (cs.take q.1)=true∧OwnL h.length q.2.2 q.2.1 (jobsOf (cs.take q.1))) (fun q=>cs.length-q.1)
  (0,.slice none 0 0,h) rfl rfl ⟨Nat.zero_le _,EX.refl _,by simp [formC],by simpa [jobsOf] using OwnL.start h.length h⟩ ?_
 rintro ⟨i,vo,g⟩ ⟨hi,xg,hform,own⟩ L hL
 simp only at hi xg hform own hL⊢
 rw [q43z6]
 simp only [bin_lss,OP_some,IfP_dec]
 refine ⟨fun hlt=>?_,fun hge=>?_⟩
 ·have hil:i<cs.length:=by omega
  obtain ⟨b,o,vs,u1,u2,u3⟩:=(hv.mono xg).get hil
  obtain ⟨l1,l2⟩:=hl _ (List.getElem_mem hil)
  have e7:iAlloc 24 [(.slice none 0 0),(.int .i64 (0))] g=some (pt g.length 0,g++[.arr 24 [.slice none 0 0,I 0]]):=rfl
  simp only [u1,u2,OP_some,e7,OH_some]
  have y1:EX g (g++[.arr 24 [.slice none 0 0,I 0]]):=EX.append _ _
  have j1:(g++[IObj.arr 24 [.slice none 0 0,I 0]])[g.length]?=some (.arr 24 [.slice none 0 0,I 0]):=get_last
  generalize g++[IObj.arr 24 [.slice none 0 0,I 0]]=ga at y1 j1⊢
  rw [store2 j1]
  simp only [OH_some]
  have y2:EX g (ga.set g.length (.arr 24 [vs,I cs[i].2])):=y1.set (Nat.le_refl _) _
  have j2:(ga.set g.length (.arr 24 [vs,I cs[i].2]))[g.length]?=some (.arr 24 [vs,I cs[i].2]):=set_get j1
  generalize ga.set g.length (.arr 24 [vs,I cs[i].2])=gb at y2 j2⊢
  rw [load2 j2,OP_some]
  refine C80 (u3.mono y2) l2 l1 (fun hall vq g1 bq x1 ho=>?_) (fun hno g1 x1=>?_)
  ·have hq:=ho.qb
   have hlq:=hq.1.len
   obtain ⟨rq,rs,_,_⟩:=id hq.1
   have ld1:iLoad false 1 g1 (pt g.length 1)=some (I cs[i].2):=by simp [iLoad,objCells,x1.get j2,iPart]
   have bl:∀a c:Int,iBuild [(.int .i64 (0)),(.int .i64 (0))] [(0,1,I a),(1,1,I c)]=some (.agg #[I a,I c]):=fun _ _=>rfl
   have bl2:∀a c:Int,iBuild [(.int .i64 (0)),(.int .i64 (0)),(.slice none 0 0)] [(0,2,.agg #[I a,I c]),(2,1,vq)]=some (.agg #[I a,I c,vq]):=fun a c=>by
    rcases rs.2 with ⟨e,_⟩ | ⟨i,o,e,_⟩ <;> rw [e] <;> rfl
   simp only [ext_tuple,pair0,pair1,OP_some,un_not,Bool.not_true,IfP_false,hlq,fadr_pt,Nat.zero_add,ld1,bl,bl2]
   have x2:=y2.trans x1
   refine (own.ex x2).app (xg.trans x2) hq rfl (by unfold jobsOf;rw [List.length_map,List.length_take];omega) ?_
   intro v' g3 x3 _ own'
   simp only [bin_add,OP_some,inc i (by omega),true_and]
   refine hL (i+1,v',g3) ⟨by show i+1≤_;omega,x3,?_,?_⟩ (by show cs.length-(i+1)<cs.length-i;omega)
   ·show formC (cs.take (i+1))=true
    unfold formC at hform⊢
    rw [List.take_succ_eq_append_getElem hil,List.all_append,hform]
    simpa using hall
   ·show OwnL h.length g3 v' (jobsOf (cs.take (i+1)))
    rw [List.take_succ_eq_append_getElem hil]
    have e:jobsOf (cs.take i++[cs[i]])=jobsOf (cs.take i)++[(cs[i].1.map ratT,cs[i].2)]:=by unfold jobsOf;rw [List.map_append];rfl
    rw [e]
    exact own'
  ·simp only [ext_tuple,pair0,pair1,OP_some,un_not,Bool.not_false,IfP_true]
   refine hk2 ?_ _ (xg.trans (y2.trans x1))
   cases he:formC cs with
   | false=>rfl
   | true=>
    unfold formC at he
    rw [List.all_eq_true] at he
    rw [he _ (List.getElem_mem hil)] at hno
    cases hno
 ·have hie:i=cs.length:=by omega
  subst hie
  rw [List.take_length] at hform own
  have hk1:=hk1 hform
  have hk:=hk hform
  have lk:=own.lk
  have jl:(jobsOf cs).length=cs.length:=by simp [jobsOf]
  have llk:=lk.len
  rw [jl] at llk
  unfold argC at hk1 hk
  rw [q43z16]
  simp only [hlen,OP_some,bin_lss]
  rw [q43z20]
  by_cases h1:1≤cs.length
  rotate_left
  ·rw [decide_eq_false h1] at hk1
   rw [decide_eq_true (show (cs.length:Int)<1 by omega)]
   simp only [GdP_tf]
   rw [q43z22]
   simp only [iPick_t,OP_some,IfP_true]
   exact hk1 rfl g xg
  rw [decide_eq_true h1] at hk1 hk
  rw [decide_eq_false (show ¬(cs.length:Int)<1 by omega)]
  simp only [GdP_ff,hlen,OP_some,bin_gtr]
  rw [q43z22]
  simp only [iPick_f,OP_some]
  by_cases h3:cs.length≤3
  rotate_left
  ·rw [decide_eq_false h3] at hk1
   rw [decide_eq_true (show (3:Int)<(cs.length:Int) by omega)]
   simp only [IfP_true]
   exact hk1 rfl g xg
  rw [decide_eq_true h3] at hk1 hk
  rw [decide_eq_false (show ¬(3:Int)<(cs.length:Int) by omega)]
  simp only [IfP_false,llk,OP_some]
  rw [←jl]
  refine C43_27 lk (by omega) (fun c hc=>?_) (fun ha h' x=>hk1 (by rw [ha];rfl) h' (xg.trans x)) (fun ha h' x=>hk (by rw [ha];rfl) vo h' (xg.trans x) (lk.mono x))
  obtain ⟨d,hd,rfl⟩:=List.mem_map.1 hc
  obtain ⟨l1,l2⟩:=hl d hd
  refine ⟨fun q hq=>?_,by simpa using l1⟩
  obtain ⟨s,hs,rfl⟩:=List.mem_map.1 hq
  exact ratT_sz (l2 s hs)

end
end Go.Proofs.YtelmdbpaoifmoaaGreat


namespace Go.Proofs.YtelmdbpaoifmoaaGreat
open Go.Sim

def Cell (g:Heap) (i:Nat) (q:Rat):Prop:=∃a b c d,g[i]?=some (.arr 107 [B a,b,B c,d])∧RV g (.agg #[B a,b,B c,d]) q

theorem Cell.mono {g g':Heap} {i:Nat} {q:Rat} (x:EX g g') (p:Cell g i q):Cell g' i q:=let ⟨a,b,c,d,e,r⟩:=p;⟨a,b,c,d,x.get e,r.mono x⟩
theorem Cell.lt {g:Heap} {i:Nat} {q:Rat} (p:Cell g i q):i<g.length:=let ⟨_,_,_,_,e,_⟩:=p;(List.getElem?_eq_some_iff.1 e).1
theorem Cell.load {g:Heap} {i:Nat} {q:Rat} (p:Cell g i q):∃v,iLoad true 4 g (pt i 0)=some v∧RV g v q:=let ⟨_,_,_,_,e,r⟩:=p;⟨_,load4 e,r⟩

structure Stored (g g':Heap) (i:Nat) (q:Rat):Prop where
 cell:Cell g' i q
 len:g'.length=g.length
 old:∀j,j≠i→g'[j]?=g[j]?
 val:∀{v:Value} {p:Rat},RV g v p→RV g' v p

theorem cell_store {g:Heap} {i:Nat} {v:Value} {q:Rat} {s:Bool} {b c d:Value} (hg:g[i]?=some (.arr 107 [.bool s,b,c,d])) (hv:RV g v q):∃g',oStore 4 g (pt i 0) v=some (undef,g')∧Stored g g' i q:=by
 obtain ⟨a',b',c',d',rfl⟩:=hv.agg
 refine ⟨_,store4 hg,⟨⟨a',b',c',d',set_get hg,hv.setB hg _⟩,by simp,fun j hj=>List.getElem?_set_ne (fun h=>hj h.symm),fun h=>h.setB hg _⟩⟩

theorem Stored.ex {h0 g g':Heap} {i:Nat} {q:Rat} (s:Stored g g' i q) (x:EX h0 g) (hi:h0.length≤i):EX h0 g':=
 ⟨by rw [s.len];exact x.1,fun j hj=>by rw [s.old j (by omega)];exact x.2 j hj⟩
theorem Stored.keep {g g':Heap} {i j:Nat} {q p:Rat} (s:Stored g g' i q) (hj:j≠i) (c:Cell g j p):Cell g' j p:=
 let ⟨a,b,e,d,k,r⟩:=c;⟨a,b,e,d,by rw [s.old j hj];exact k,s.val r⟩

structure StI where
 best:Rat
 most:Nat
 done:Rat
 worked:Rat

def stI (qs:List Rat) (w:Int) (age:Nat):Nat→StI
 | 0=>⟨0,0,0,0⟩
 | d+1=>
  let s:=stI qs w age d
  let done:=s.done+qs.getD (age+d) 0
  let worked:=s.worked+sumR (qs.drop (age+d))
  let x:=(w:Rat)*done / worked
  if s.most=0∨s.best<x then ⟨x,d+1,done,worked⟩ else ⟨s.best,s.most,done,worked⟩

theorem stI_done (qs:List Rat) (w:Int) (age d:Nat):(stI qs w age (d+1)).done=(stI qs w age d).done+qs.getD (age+d) 0∧(stI qs w age (d+1)).worked=(stI qs w age d).worked+sumR (qs.drop (age+d)):=by
 simp only [stI]
 split <;> exact ⟨rfl,rfl⟩

theorem num_pos {q:Rat}:0<q↔0<q.num:=by
 rw [Rat.lt_iff]
 simp
theorem num_nonneg {q:Rat}:0≤q↔0≤q.num:=by
 rw [Rat.le_iff]
 simp

theorem sumR_nonneg {l:List Rat} (h:∀q∈l,0≤q):∀i,i≤l.length→0≤sumR (l.take i)
 | 0,_=>by rw [List.take_zero];exact Rat.le_refl
 | i+1,hi=>by
  rw [sumR_take (by omega)]
  exact Rat.add_nonneg (sumR_nonneg h i (by omega)) (h _ (List.getElem_mem _))

theorem chOk_facts {qs:List Rat} {w:Int} (h:chOk qs w=true):(1≤qs.length∧qs.length≤8)∧(0≤w∧w≤50)∧qs.any badQ=false∧sumR qs=1∧(∀q∈qs,0≤q)∧∀h0:0<qs.length,0<qs[qs.length-1]:=by
 unfold chOk at h
 simp only [Bool.and_eq_true,decide_eq_true_eq,Bool.not_eq_true'] at h
 obtain ⟨⟨⟨a,b⟩,c⟩,d,e⟩:=h
 have nn:∀q∈qs,0≤q:=by
  intro q hq
  have:badQ q=false:=by
   cases e:badQ q with
   | false=>rfl
   | true=>rw [List.any_eq_true.2 ⟨q,hq,e⟩] at d;cases d
  unfold badQ at this
  rw [Bool.or_eq_false_iff,decide_eq_false_iff_not] at this
  rw [num_nonneg];omega
 refine ⟨a,b,d,e,nn,fun h0=>?_⟩
 have h1:=nn _ (List.getElem_mem (l:=qs) (n:=qs.length-1) (by omega))
 rw [num_nonneg] at h1
 rw [num_pos]
 unfold lastZ at c
 rw [List.getD_eq_getElem?_getD,List.getElem?_eq_getElem (by omega),Option.getD_some,decide_eq_false_iff_not] at c
 omega

theorem drop_pos {qs:List Rat} {w:Int} (h:chOk qs w=true) {k:Nat} (hk:k<qs.length):0<sumR (qs.drop k):=by
 obtain ⟨_,_,_,_,nn,last⟩:=chOk_facts h
 have hl:=last (by omega)
 have hn:∀q∈qs.drop k,0≤q:=fun q hq=>nn q (List.mem_of_mem_drop hq)
 have e:(qs.drop k).take ((qs.drop k).length-1+1)=qs.drop k:=List.take_of_length_le (by omega)
 have hdl:(qs.drop k).length=qs.length-k:=List.length_drop
 have h1:=sumR_nonneg hn ((qs.drop k).length-1) (by omega)
 rw [←e,sumR_take (by omega)]
 have e2:(qs.drop k)[(qs.drop k).length-1]'(by omega)=qs[qs.length-1]'(by omega):=by
  rw [List.getElem_drop]
  congr 1
  omega
 rw [e2]
 generalize sumR ((qs.drop k).take ((qs.drop k).length-1))=a at*
 generalize qs[qs.length-1]'(by omega)=b at*
 grind

theorem worked_pos {qs:List Rat} {w:Int} (h:chOk qs w=true) {age:Nat}:∀{d:Nat},age+d≤qs.length→0≤(stI qs w age d).worked∧(0<d→0<(stI qs w age d).worked)
 | 0,_=>⟨Rat.le_refl,fun h=>absurd h (by decide)⟩
 | d+1,hd=>by
  have ih:=(worked_pos (age:=age) (d:=d) h (by omega)).1
  have hp:=drop_pos h (k:=age+d) (by omega)
  rw [(stI_done qs w age d).2]
  generalize (stI qs w age d).worked=a at*
  generalize sumR (qs.drop (age+d))=b at*
  refine ⟨by grind,fun _=>by grind⟩

theorem stI_sz {qs:List Rat} {w:Int} (h:chOk qs w=true) {age:Nat}:∀{d:Nat},age+d≤qs.length→szQ (5*d+1) (stI qs w age d).done∧szQ (42*d+1) (stI qs w age d).worked
 | 0,_=>⟨szQ.zero,szQ.zero⟩
 | d+1,hd=>by
  obtain ⟨i1,i2⟩:=stI_sz (age:=age) (d:=d) h (by omega)
  obtain ⟨⟨_,l8⟩,_,hb,_⟩:=chOk_facts h
  have s4:=fits_sz hb
  obtain ⟨e1,e2⟩:=stI_done qs w age d
  have hs:=sumR_sz (qs:=qs.drop (age+d)) (fun q hq=>s4 q (List.mem_of_mem_drop hq)) _ (Nat.le_refl _)
  rw [List.take_length,List.length_drop] at hs
  have hg:szQ 4 (qs.getD (age+d) 0):=by
   rw [List.getD_eq_getElem?_getD,List.getElem?_eq_getElem (by omega),Option.getD_some]
   exact s4 _ (List.getElem_mem _)
  rw [e1,e2]
  have j1:=i1.add hg
  have j2:=i2.add hs
  exact ⟨szQ.le j1 (show 5*d+1+4+1≤5*(d+1)+1 by omega),szQ.le j2 (show 42*d+1+(5*(qs.length-(age+d))+1)+1≤42*(d+1)+1 by omega)⟩

theorem w_sz {w:Int} (h0:0≤w) (h1:w≤50):szQ 2 (w:Rat):=by
 refine ⟨?_,by show (1:Nat)<10^2;decide⟩
 show w.natAbs<10^2
 omega

def tryI (qs:List Rat) (w:Int) (age d:Nat):Rat:=(w:Rat)*(stI qs w age (d+1)).done / (stI qs w age (d+1)).worked

theorem tryI_sz {qs:List Rat} {w:Int} (h:chOk qs w=true) {age d:Nat} (hd:age+(d+1)≤qs.length):szQ 380 (tryI qs w age d):=by
 obtain ⟨⟨_,l8⟩,⟨w0,w50⟩,_⟩:=chOk_facts h
 obtain ⟨i1,i2⟩:=stI_sz (age:=age) (d:=d+1) h hd
 have hp:=(worked_pos (age:=age) (d:=d+1) h hd).2 (by omega)
 rw [num_pos] at hp
 have j1:=((w_sz w0 w50).mul i1).div i2 hp
 exact szQ.le j1 (show 2+(5*(d+1)+1)+(42*(d+1)+1)≤380 by omega)

theorem stI_best {qs:List Rat} {w:Int} (h:chOk qs w=true) {age:Nat}:∀{d:Nat},age+d≤qs.length→szQ 380 (stI qs w age d).best
 | 0,_=>szQ.zero.le (by decide)
 | d+1,hd=>by
  have ih:=stI_best (age:=age) (d:=d) h (by omega)
  have ht:=tryI_sz (age:=age) (d:=d) h hd
  have e:(stI qs w age (d+1)).best=tryI qs w age d∨(stI qs w age (d+1)).best=(stI qs w age d).best:=by
   unfold tryI
   rw [(stI_done qs w age d).1,(stI_done qs w age d).2]
   simp only [stI]
   split
   ·exact .inl rfl
   ·exact .inr rfl
  rcases e with e | e <;> rw [e] <;> assumption

end Go.Proofs.YtelmdbpaoifmoaaGreat

