/-
  Part 8 of the texts behind a statement of this seat: La4, La5, La6, La7, La8.
-/
import Derived.Test.YtncaiogfjjepcaaGreatTu7
open Go.Proofs.Tryz (prog)
open List (length_map)
namespace Go.Proofs.YtncaiogfjjepcaaGreat
section
open Go.Sim Go.Sort
variable {h : ae} {K : Value -> ae -> Prop} {n : Nat}
theorem aoL {eX w:Nat} {iP:Nat->Nat} {vw vc:Value} {h0:ae} {ys:List Nat} {ls:List gX} (hl:ls.length<=24) (hm:∀q∈ls,q.2.1∈ys/\q.2.1+q.2.2∈ys) (hb:∀i j k,iX ys (ls.take k) i j<=100000) (hs:∀q∈ls,q.2.2<=1000)
  (x0:EX h0 h) (AR:∀i<ys.length,h0.length<=iP i) (ps:PS h0 vw (pZ ys ls)) (ns:NS h0 vc .i64 (ls.map λq=>(q.2.2:Int))) (md:MR h eX iP ys.length λ_ _=>0)
  (hk:∀g,MR g eX iP ys.length (iX ys ls)->Jq prog K (I ys.length) (I w) (sl 34 eX 0 ys.length) g):Jp prog K (I ys.length) vw vc (I w) (sl 34 eX 0 ys.length) h:=by
 rw [aG1]
 have wl:(pZ ys ls).length=ls.length:=by simp [pZ]
 refine cN (σ:=Nat×ae) (λq=>[I q.1]) (λq=>q.2) (λq=>q.1<=ls.length/\EX h0 q.2/\MR q.2 eX iP ys.length (iX ys (ls.take q.1))) (λq=>ls.length-q.1)
  (0,h) rfl rfl ⟨Nat.zero_le _,x0,md⟩ ?_
 rintro ⟨k,g⟩ ⟨fC,xg,mg⟩ L hL
 simp only at fC xg mg hL⊢
 rw [aG2]
 have pl:=ps.len
 rw [wl] at pl
 simp only [pl,bW,ah,ca]
 refine ⟨λaw=>?_,λcJ=>?_⟩
 ·have aw:k<ls.length:=by omega
  obtain ⟨pi,po,ap,l0,l1,_⟩:=(ps.mono xg).get k (by omega)
  obtain ⟨ci,co,ac,lc⟩:=(ns.mono xg).get k (by simpa using aw)
  have mem:=List.getElem_mem aw
  obtain ⟨h1,h2⟩:=hm _ mem
  have a1:=List.idxOf_lt_length_of_mem h1
  have a2:=List.idxOf_lt_length_of_mem h2
  have sz:=hs _ mem
  have e0:(pZ ys ls)[k]'(by omega)=(((ys.idxOf ls[k].2.1:Nat):Int),((ys.idxOf (ls[k].2.1+ls[k].2.2):Nat):Int)):=by simp [pZ]
  rw [e0] at l0 l1
  have ec:(ls.map λq=>(q.2.2:Int))[k]'(by simpa using aw)=(ls[k].2.2:Int):=by simp
  rw [ec] at lc
  have tk:ls.take (k+1)=ls.take k++[ls[k]]:=by rw [List.take_succ_eq_append_getElem aw]
  have bd:=hb (ys.idxOf ls[k].2.1) (ys.idxOf (ls[k].2.1+ls[k].2.2)) k
  have nn:=O9 ys (ls.take k) (ys.idxOf ls[k].2.1) (ys.idxOf (ls[k].2.1+ls[k].2.2))
  generalize ls[k]=q at*
  simp only [ap,cj,Nat.add_zero,l0,ah,bW,bX (show ¬((ys.idxOf q.2.1:Nat):Int)<0 by omega)]
  rw [aG3]
  simp only [fc,ap,cj,Nat.add_zero,l0,ah,om,bX (show ¬(ys.length:Int)<=(ys.idxOf q.2.1:Nat) by omega)]
  rw [aG4]
  simp only [dA,ah]
  rw [aG5]
  simp only [fc,ap,cj,l1,ah,bW,bX (show ¬((ys.idxOf (q.2.1+q.2.2):Nat):Int)<0 by omega)]
  rw [aG6]
  simp only [dA,ah]
  rw [aG7]
  simp only [fc,ap,cj,l1,ah,om,bX (show ¬(ys.length:Int)<=(ys.idxOf (q.2.1+q.2.2):Nat) by omega)]
  rw [aG8]
  have w1:IntKind.wrap .i64 (iX ys (ls.take k) (ys.idxOf q.2.1) (ys.idxOf (q.2.1+q.2.2))+q.2.2)=iX ys (ls.take k) (ys.idxOf q.2.1) (ys.idxOf (q.2.1+q.2.2))+q.2.2:=wrap64 (by omega) (by omega)
  obtain ⟨g1,s1,e1,m1⟩:=mg.set a1 a2 (iX ys (ls.take k) (ys.idxOf q.2.1) (ys.idxOf (q.2.1+q.2.2))+q.2.2)
  simp only [dA,ah,dm,ap,cj,Nat.add_zero,l0,l1,MR.eK a1,mg.ld a1,MR.ND a2,mg.jI a1 a2,ac,lc,b7,w1,s1,aL,true_and]
  rw [dP k (by simp only [maxLen];omega)]
  refine hL (k+1,g1) ⟨aw,by rw [e1];exact xg.set (AR _ a1) _,?_⟩ (by show ls.length-(k+1)<ls.length-k;omega)
  show MR g1 eX iP ys.length (iX ys (ls.take (k+1)))
  have:iX ys (ls.take (k+1))=λa b=>if a=ys.idxOf q.2.1/\b=ys.idxOf (q.2.1+q.2.2) then iX ys (ls.take k) (ys.idxOf q.2.1) (ys.idxOf (q.2.1+q.2.2))+q.2.2 else iX ys (ls.take k) a b:=by
   funext a b
   have e:iX ys (ls.take (k+1)) a b=iX ys (ls.take k) a b+if a=ys.idxOf q.2.1/\b=ys.idxOf (q.2.1+q.2.2) then (q.2.2:Int) else 0:=by
    rw [tk];simp [iX]
   rw [e]
   by_cases c:a=ys.idxOf q.2.1/\b=ys.idxOf (q.2.1+q.2.2)
   ·rw [if_pos c,if_pos c,c.1,c.2]
   ·rw [if_neg c,if_neg c,Int.add_zero]
  rw [this];exact m1
 ·have iN:k=ls.length:=by omega
  subst iN
  rw [List.take_length] at mg
  exact hk g mg
end
section
open Go.Sim Go.Sort
variable {h : ae} {K : Value -> ae -> Prop} {n : Nat}
theorem aoN {vw vc vW:Value} (n1:1<=n) (n8:n<=8) (hk:∀g im ids,EX h g->(∀i<n,h.length<=ids i)->MR g im ids n (λ_ _=>0)->Jp prog K (I n) vw vc vW (sl 34 im 0 n) g):
  OH (cH 34 0 [(.slice none 0 0)] h []) λpJ h_1=>bT [pJ,(.int .i64 (0))] h_1 λL1 xs hx=>Tk prog K (I n) vw vc vW L1 xs hx:=by
 have e0:cH 34 0 [(.slice none 0 0)] h []=some (sl 34 h.length 0 0,h++[.arr 34 []]):=by simp [cH,jC,bE]
 simp only [e0,aL]
 refine cN (σ:=Nat×Value×(Nat->Nat)×ae) (λq=>[q.2.1,I q.1]) (λq=>q.2.2.2) (λq=>q.1<=n/\EX h q.2.2.2/\gA h.length q.2.2.2 34 q.2.1 ((List.range q.1).map λk=>sl 3 (q.2.2.1 k) 0 n)/\(∀k<q.1,h.length<=q.2.2.1 k/\q.2.2.2[q.2.2.1 k]?=some (.arr 3 (iK n (λ_ _=>0) k)))/\∀a<q.1,∀b<q.1,q.2.2.1 a=q.2.2.1 b->a=b) (λq=>n-q.1)
  (0,sl 34 h.length 0 0,λ_=>0,_) rfl rfl ⟨Nat.zero_le _,EX.append _ _,.inr ⟨h.length,Nat.le_refl _,rfl,bK⟩,λk hk=>absurd hk (Nat.not_lt_zero _),λk hk=>absurd hk (Nat.not_lt_zero _)⟩ ?_
 rintro ⟨i,vd,ids,g⟩ ⟨hi,xg,own,rows,inj⟩ L hL
 simp only at hi xg own rows inj hL⊢
 rw [aGZ]
 simp only [bW,ah,ca]
 refine ⟨λaw=>?_,λcJ=>?_⟩
 ·have aw:i<n:=by omega
  simp only [mkZ g n8,aL]
  have rz:(List.replicate n (0:Int)).map I=iK n (λ_ _=>0) i:=by
   simp [iK];rw [List.map_const'];simp
  rw [rz]
  have x1:EX g (g++[.arr 3 (iK n (λ_ _=>0) i)]):=EX.append _ _
  have c1:(g++[az.arr 3 (iK n (λ_ _=>0) i)])[g.length]?=some (.arr 3 (iK n (λ_ _=>0) i)):=bK
  have l1:(g++[az.arr 3 (iK n (λ_ _=>0) i)]).length=g.length+1:=by simp
  have Dw:gA h.length (g++[az.arr 3 (iK n (λ_ _=>0) i)]) 34 vd ((List.range i).map λk=>sl 3 (ids k) 0 n):=own.iu λd q hv hd=>x1.2 d (own.lt hv).2.1
  have old:∀k<i,ids k<g.length:=λk hk=>(cm (rows k hk).2).1
  have nv:∀d o,(g++[az.arr 3 (iK n (λ_ _=>0) i)])[d]?=some (.arr 3 o)->∀q,vd≠sl 34 d 0 q:=λd o ho q hv=>by
   have:=(Dw.lt hv).2.2
   rw [ho] at this;cases this
  refine BV Dw (by simp;omega) (by simp [maxLen];omega) rfl rfl λh1 g2 _ PK iu kL=>?_
  simp only [aL,b7,ah,true_and]
  rw [dP i (by simp only [maxLen];omega)]
  have Vc:∀d<h.length,∀q,vd≠sl 34 d 0 q:=λd hd q hv=>by have:=(own.lt hv).1;omega
  have hg:=xg.1
  have x2:EX h g2:=⟨by omega,λd hd=>by rw [iu d (by omega) (Vc d hd),x1.2 d (by omega),xg.2 d hd]⟩
  have aJw:(List.range i).map (λk=>sl 3 (ids k) 0 n)++[sl 3 g.length 0 n]=(List.range (i+1)).map λk=>sl 3 (dU ids i g.length k) 0 n:=by
   rw [List.range_succ,List.map_append]
   congr 1
   ·exact List.map_congr_left λk hk=>by rw [ez _ _ (by have:=List.mem_range.1 hk;omega)]
   ·simp [fL]
  rw [aJw] at kL
  have oP:gA h.length g2 34 (sl 34 ((g++[az.arr 3 (iK n (λ_ _=>0) i)]).length+1) 0 (((List.range i).map λk=>sl 3 (ids k) 0 n).length+1)) ((List.range (i+1)).map λk=>sl 3 (dU ids i g.length k) 0 n):=
   .inr ⟨_,by omega,by simp,kL⟩
  refine hL (i+1,_,dU ids i g.length,g2) ⟨aw,x2,oP,λk hk=>?_,λa ha b hb e=>?_⟩ (by show n-(i+1)<n-i;omega)
  ·show h.length<=dU ids i g.length k/\g2[dU ids i g.length k]?=some (.arr 3 (iK n (λ_ _=>0) k))
   by_cases e:k=i
   ·subst e
    rw [fL,iu g.length (by omega) (nv _ _ c1)]
    exact ⟨hg,c1⟩
   ·have hk:k<i+1:=hk
    have mD:k<i:=by omega
    rw [ez _ _ e]
    have o1:=x1.get (rows k mD).2
    exact ⟨(rows k mD).1,by rw [iu _ (by have:=old k mD;omega) (nv _ _ o1)];exact o1⟩
  ·have ha:a<i+1:=ha
   have hb:b<i+1:=hb
   have e:dU ids i g.length a=dU ids i g.length b:=e
   by_cases e1:a=i <;> by_cases e2:b=i
   ·omega
   ·subst e1
    rw [fL,ez _ _ e2] at e
    have:=old b (by omega);omega
   ·subst e2
    rw [fL,ez _ _ e1] at e
    have:=old a (by omega);omega
   ·rw [ez _ _ e1,ez _ _ e2] at e
    exact inj a (by omega) b (by omega) e
 ·have fG:i=n:=by omega
  subst fG
  rcases own with ⟨_,e⟩ | ⟨im,_,rfl,hg⟩
  ·have:=congrArg List.length e
   simp at this;omega
  ·rw [length_map,List.length_range]
   exact hk g im ids xg (λk hk=>(rows k hk).1) ⟨hg,λk hk=>(rows k hk).2,inj,(λk hk e=>by
    have:=(rows k hk).2
    rw [e,hg] at this;cases this),n8⟩
end
section
open Go.Sim Go.Sort
variable {h : ae} {K : Value -> ae -> Prop} {w t : Nat} {l : List gX} {ys : List Nat}
theorem V6 {iv:Nat} (c:eu l w t ys) (hw:w<=1000) (ht:t<=1000) (hl:l.length<=24) (h8:ys.length<=8) (hg:h[iv]?=some (.arr 24 (ck l))) (hk:∀g,K (B true) g):Bo prog K (sl 24 iv 0 l.length) h:=by
 have l1:=c.pos.2.2
 have y2:=c.levels.2.2.2.2
 have sp:(eJ l).Perm l:=J4 _
 have sn:(eJ l).length=l.length:=sp.length_eq
 have lm:∀q∈eJ l,q.2.1∈ys/\q.2.1+q.2.2∈ys:=λq hq=>c.IL q (sp.mem_iff.1 hq)
 have cS:∀i j,iX ys (eJ l) i j=iX ys l i j:=λi j=>azj sp i j
 obtain ⟨bl,iO⟩:=azl c hw h8
 rw [aGO]
 refine C6 c hw ht hl hg λvw g1 x1 ow=>?_
 have e0:∀a b c:Value,(#[a,b,c]:Array Value)[0]?=some a:=λ_ _ _=>rfl
 have e1:∀a b c:Value,(#[a,b,c]:Array Value)[1]?=some b:=λ_ _ _=>rfl
 have e2:∀a b c:Value,(#[a,b,c]:Array Value)[2]?=some c:=λ_ _ _=>rfl
 simp only [fM,e0,e1,e2,ah]
 refine C7 c hw ht hl (x1.get hg) λvc g2 x2 oc=>?_
 simp only [fM,gi,gj,ah]
 refine C8 c hw ht hl ((x1.trans x2).get hg) λg3 x3=>?_
 obtain ⟨iw,_,rfl,hiw⟩:=ow.at (by omega)
 have wl:(pZ ys (eJ l)).length=l.length:=by simp [pZ,sn]
 have ps:PS g3 (sl 41 iw 0 l.length) (pZ ys (eJ l)):=by
  have:=PS.arr ((x2.trans x3).get hiw)
  rwa [wl] at this
 have ns:NS g3 vc .i64 ((eJ l).map λq=>(q.2.2:Int)):=by
  rcases oc with ⟨_,e⟩ | ⟨i,_,rfl,hc⟩
  ·have:=congrArg List.length e
   rw [length_map,sn] at this
   have:l.length=0:=this
   omega
  ·have:=NS.arr (h:=g3) (e:=3) (i:=i) (k:=.i64) (ns:=(eJ l).map λq=>(q.2.2:Int)) (by rw [x3.get hc,List.map_map];rfl) (by rw [length_map,sn];simp only [maxLen];omega)
   simpa using this
 have lc:aT vc=some (I l.length):=by
  have:=ns.len
  rwa [length_map,sn] at this
 have lw:aT (sl 41 iw 0 l.length)=some (I l.length):=rfl
 simp only [fM,e0,e1,e2,ah,iC,decide_true,Bool.not_true]
 rw [aGP]
 simp only [fc,iC,decide_true,Bool.not_true,ah]
 rw [aGQ]
 simp only [dA,ah]
 rw [aGR]
 simp only [fc,iC,decide_true,Bool.not_true,ah]
 rw [aGS]
 simp only [dA,ah]
 rw [aGT]
 simp only [fc,bW,ah,bX (show ¬(ys.length:Int)<2 by omega)]
 rw [aGU]
 simp only [dA,ah]
 rw [aGV]
 simp only [fc,gY,ah,bX (show ¬(8:Int)<ys.length by omega)]
 rw [aGW]
 simp only [dA,ah]
 rw [aGX]
 simp only [fc,lw,lc,iC,decide_true,Bool.not_true,ah]
 rw [aGY]
 simp only [dA,ah,dm]
 refine aoN (by omega) h8 λg4 im ids x4 yE md=>?_
 have le:∀i j k,iX ys ((eJ l).take k) i j<=100000:=λi j k=>by
  have b:∀ls:List gX,ls.length<=24->(∀q∈ls,q.2.2<=1000)->iX ys ls i j<=1000*ls.length:=by
   intro ls
   induction ls with
   | nil=>intro _ _;simp [iX]
   | cons q ls ih=>
    intro h1 h2
    have:=ih (by simp at h1;omega) λx hx=>h2 x (List.mem_cons_of_mem _ hx)
    have:=h2 q (by simp)
    rw [Ch,List.length_cons]
    split <;> omega
  have l24:((eJ l).take k).length<=24:=by rw [List.length_take];omega
  have:=b _ l24 λq hq=>by
   have:=c.bound q (sp.mem_iff.1 (List.mem_of_mem_take hq));omega
  omega
 refine aoL (by omega) lm le (λq hq=>by have:=c.bound q (sp.mem_iff.1 hq);omega) x4 yE ps ns md λg5 m5=>?_
 have d0:=bl.dZ (ys.length-1) (by omega) 0 (by omega)
 have c0:=O9 ys (eJ l) (ys.length-1) 0
 have dd:DF ys l w (ys.length-1) 0=iX ys (eJ l) (ys.length-1) 0+w:=by
  unfold DF;rw [if_pos ⟨rfl,rfl⟩,cS]
 refine aoO ?_ ⟨c0,by omega⟩ bl iO m5 hk
 funext a b
 unfold DF
 by_cases e:a=ys.length-1/\b=0
 ·rw [if_pos e,if_pos e,e.1,e.2,cS]
 ·rw [if_neg e,if_neg e,cS,Int.add_zero]
end
section
open Go.Sim Go.Sort
variable {h : ae} {K : Value -> ae -> Prop}
theorem O1 (g:ae) (p:gX):cH 24 1 [(.int .i64 (0)),(.int .i64 (0)),(.int .i64 (0))] g [(0,3,.agg (aO p).toArray)]=some (sl 24 g.length 0 1,g++[.arr 24 (aO p)]):=IZ 24 g p
theorem bR (a b:Nat):eG [(.int .i64 (0)),(.int .i64 (0)),(.int .i64 (0))] [(0,1,I a),(2,1,I b)]=some (.agg (aO (a,0,b)).toArray):=by
 simp [eG,jC,setAt,fV,dL,Value.cells,aO]
theorem bU (a b:Nat):eG [(.int .i64 (0)),(.int .i64 (0)),(.int .i64 (0))] [(1,1,I a),(2,1,I b)]=some (.agg (aO (0,a,b)).toArray):=by
 simp [eG,jC,setAt,fV,dL,Value.cells,aO]
theorem bS (a:Nat):eG [(.int .i64 (0)),(.int .i64 (0)),(.int .i64 (0))] [(2,1,I a)]=some (.agg (aO (0,0,a)).toArray):=by
 simp [eG,jC,setAt,fV,dL,Value.cells,aO]
theorem aJl (b:Int):∃z,aj .rem (.int .u8 b) (.int .u8 (2))=some (.int .u8 z):=by simp [aj,jE]
theorem aoM {x0:Value} {xs:List Int} {iv s:Nat} (s1:1<=s) (s3:s<=3) (nx:NS h x0 .u8 xs) (hg:h[iv]?=some (.arr 24 (ck [(0,0,s)]))) (hk:∀g,K (B true) g):
  bT [sl 24 iv 0 1,(.int .i64 (0))] h λL1 xs hx=>Tl prog K x0 L1 xs hx:=by
 have nle:=nx.le
 refine cN (σ:=Nat×List gX×Nat×Nat×List Nat×Nat×ae) (λq=>[sl 24 q.2.2.2.2.2.1 0 q.2.1.length,I q.1]) (λq=>q.2.2.2.2.2.2)
  (λq=>q.1<=9/\q.1<=xs.length/\EX h q.2.2.2.2.2.2/\eu q.2.1 q.2.2.1 q.2.2.2.1 q.2.2.2.2.1/\q.2.1.length<=q.1+1/\q.2.2.2.2.1.length<=8/\q.2.2.1<=300/\q.2.2.2.1<=300/\q.2.2.2.2.2.2[q.2.2.2.2.2.1]?=some (.arr 24 (ck q.2.1))) (λq=>9-q.1)
  (0,[(0,0,s)],s,s,[0,s],iv,h) rfl rfl ⟨by omega,Nat.zero_le _,EX.refl _,.start s1,by simp,by simp,by show s<=300;omega,by show s<=300;omega,hg⟩ ?_
 rintro ⟨i,l,w,t,ys,iv,g⟩ ⟨h9,Ih,xg,c,hl,h8,hw,ht,hg⟩ L1 lD
 simp only at h9 Ih xg c hl h8 hw ht hg lD⊢
 have fin:Bo prog K (sl 24 iv 0 l.length) g:=V6 c (by omega) (by omega) (by omega) h8 hg hk
 obtain ⟨w1,t1,l1⟩:=c.pos
 rw [aG0]
 simp only [nx.len,bW,ah]
 rw [aGn]
 by_cases aw:i<xs.length
 ·rw [dh (show (i:Int)<xs.length by omega)]
  simp only [gK,bW,ah]
  rw [am7]
  by_cases h99:i<9
  ·rw [dh (show (i:Int)<9 by omega)]
   simp only [fy,ah,gf]
   refine C4 c (by omega) (by omega) (by omega) (R3.of hg) ?_
   simp only [fM,gi,gj,ah,Bj,aL]
   have x1:EX g (g++[.arr 24 []]):=EX.append _ _
   have c1:(g++[az.arr 24 []])[g.length]?=some (.arr 24 []):=bK
   have uX:=x1.get hg
   have sc:fx (g++[az.arr 24 []]) 3 (sl 24 iv 0 l.length)=some (ck l):=by
    have:=mL l
    simp only [fx,sl,bw,uX,Option.bind_some]
    rw [if_neg (by omega),if_pos (by omega),List.drop_zero,List.take_of_length_le (by omega)]
   obtain ⟨i2,g2,a2,e2,m2,c2⟩:=auk (bytes:=24) c1 sc rfl (λh=>by omega) (by omega) (by simp only [maxLen];omega)
   have ni:EX h g2:=XM.iz (xg.trans x1) xg.1 m2
   obtain ⟨b,o,ab,lb⟩:=(nx.mono ni).get i aw
   obtain ⟨z,hz⟩:=aJl xs[i]
   simp only [a2,aL,ab,lb,hz,ah,jB]
   have rE:∀(q:gX) (w' t':Nat) (mJ:List Nat),eu (l++[q]) w' t' mJ->w'<=w+t->t'<=w+t->∀g3 i3,EX h g3->g3[i3]?=some (.arr 24 (ck (l++[q])))->g.length<=g3.length->g3[iv]?=some (.arr 24 (ck l))->
     DE prog K x0 (sl 24 iv 0 l.length) (I i) (I w) (I t) (sl 24 i3 0 (l++[q]).length) L1 g3:=by
    intro q w' t' mJ c' rh Da g3 i3 x3 h3 _ ss
    rw [aGL]
    have ll:(l++[q]).length=l.length+1:=by simp
    refine C5 c' (by omega) (by omega) (by omega) (R3.of h3) λx g4 x4=>?_
    have tp:Bo prog K (sl 24 iv 0 l.length) g4:=V6 c (by omega) (by omega) (by omega) h8 (x4.get ss) hk
    simp only [fM,gi,gj,ah,gY]
    rw [aGM]
    by_cases h8':8<mJ.length
    ·rw [dh (show (8:Int)<mJ.length by omega)]
     simp only [o0]
     rw [am8]
     simp only [fy,ah,gf]
     exact tp
    ·rw [bX (show ¬(8:Int)<mJ.length by omega)]
     have ws:IntKind.wrap .i64 ((w:Int)+t)=((w+t:Nat):Int):=by rw [wrap64 (by omega) (by omega)];omega
     simp only [fc,b7,ws,ah,gY]
     rw [am8]
     by_cases aMw:300<w+t
     ·rw [dh (show (300:Int)<((w+t:Nat):Int) by omega)]
      simp only [dA,ah,gf]
      exact tp
     ·rw [bX (show ¬(300:Int)<((w+t:Nat):Int) by omega)]
      simp only [dA,ah,dm]
      rw [aGN]
      simp only [b7,ah,true_and]
      rw [dP i (by omega)]
      exact lD (i+1,l++[q],w',t',mJ,i3,g4) ⟨by omega,aw,x3.trans x4,c',(by show (l++[q]).length<=i+1+1;omega),(by show mJ.length<=8;omega),(by show w'<=300;omega),(by show t'<=300;omega),x4.get h3⟩ (by show 9-(i+1)<9-i;omega)
   have l2:g.length<=g2.length:=by have:=m2.1;simp at this;omega
   have put:∀(q:gX) (w' t':Nat) (mJ:List Nat),eu (l++[q]) w' t' mJ->w'<=w+t->t'<=w+t->OH (cT 24 3 24 (g2++[.arr 24 (aO q)]) (sl 24 i2 0 l.length) (sl 24 g2.length 0 1)) λdj h_5=>DE prog K x0 (sl 24 iv 0 l.length) (I i) (I w) (I t) dj L1 h_5:=by
    intro q w' t' mJ c' rh Da
    have x3:EX g2 (g2++[.arr 24 (aO q)]):=EX.append _ _
    have c3:(g2++[az.arr 24 (aO q)])[g2.length]?=some (.arr 24 (aO q)):=bK
    have UU:fx (g2++[az.arr 24 (aO q)]) 3 (sl 24 g2.length 0 1)=some (aO q):=by
     simp only [fx,sl,bw,c3,Option.bind_some]
     rfl
    obtain ⟨i4,g4,a4,e4,m4,c4⟩:=uD (bytes:=24) (x3.get c2) (mL l) UU rfl (by omega) (by omega) (by simp only [maxLen];omega)
    simp only [a4,aL]
    have ivl:=(cm hg).1
    have i2g:g.length<=i2:=by rcases e2 with h | h <;> first | omega | (simp at h;omega)
    have pB:g2[iv]?=some (.arr 24 (ck l)):=m2.get (by omega) uX
    have hv4:g4[iv]?=some (.arr 24 (ck l)):=m4.get (by omega) (x3.get pB)
    have:=rE q w' t' mJ c' rh Da g4 i4 (XM.iz (ni.trans x3) (by have:=xg.1;omega) m4) (by rw [c4,uG];simp [ck]) (by have:=m4.1;simp at this;omega) hv4
    rwa [List.length_append] at this
   refine um (λ_=>?_) (λ_=>?_)
   ·simp only [bR,ah,O1,aL]
    exact put _ _ _ _ (.right c) (Nat.le_refl _) (by omega)
   ·simp only [bU,ah,O1,aL]
    exact put _ _ _ _ (.under c) (by omega) (by omega)
  ·rw [bX (show ¬(i:Int)<9 by omega)]
   simp only [fy,ah,dm]
   exact fin
 ·rw [bX (show ¬(i:Int)<xs.length by omega)]
  simp only [jd]
  rw [am7]
  simp only [dA,ah,dm]
  exact fin
end
section
open Go.Sim Go.Sort
variable {h : ae} {K : Value -> ae -> Prop}
theorem azh (b:Nat) (hb:b<256):dI .i64 (.int .u8 b)=some (I b):=by
 have:IntKind.wrap .i64 (b:Int)=b:=wrap64 (by omega) (by omega)
 simp [dI,this]
theorem aJm (b:Nat):aj .rem (I b) (.int .i64 (3))=some (I (b%3:Nat)):=by
 have e:(b:Int).tmod 3=((b%3:Nat):Int):=by rw [Int.tmod_eq_emod_of_nonneg (by omega)];omega
 simp [aj,jE]
 first | (rw [e];omega) | (rw [e,wrap64 (by omega) (by omega)];omega) | omega
theorem C3 {x0:Value} {xs:List Int} {b:Nat} (hb:b<256) (nx:NS h x0 .u8 xs) (hk:∀g,K (B true) g):ay prog 3 [x0,.int .u8 b] h K:=by
 refine f3 ?_
 unfold Go.Proofs.YtncaiogfjjepcaaGreat.T3
 have a1:IntKind.wrap .i64 (((b%3:Nat):Int)+1)=((b%3+1:Nat):Int):=by rw [wrap64 (by omega) (by omega)];omega
 simp only [azh b hb,aJm,ah,b7,a1,bS,O1,aL]
 refine aoM (s:=b%3+1) (by omega) (by omega) (nx.mono (EX.append _ _)) ?_ hk
 rw [bK];simp [ck]
end
end Go.Proofs.YtncaiogfjjepcaaGreat
