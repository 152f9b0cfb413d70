/-
  Part 3 of the texts behind a statement of this seat: Sim38, USo, CC, Cx1, Cx2, Cx3, Ha1, Ha2, Ha3, Ha4, Ha5, Ha6, Ha7, CD, Ha8, Ha9, Ha10, Cx4, Ha11, Ha12, Ha13.
-/
import Derived.Shelf.SlSortCmp.WholeK
import Derived.Test.YtncaiogfjjepcaaGreatProg
import Derived.KernelRfl
import Derived.Test.YtncaiogfjjepcaaGreatTu2
open Classical (byContradiction)
open Go.Proofs.Tryz (prog)
open List (drop_of_length_le drop_zero getElem?_set_ne getElem?_set_self getElem_mem getElem_of_mem length_append length_map length_set length_take map_append map_cons map_nil mem_append mem_append_left mem_cons mem_cons_of_mem mem_cons_self mem_filter mem_map mem_singleton pairwise_append pairwise_cons pairwise_iff_getElem sum_cons sum_nil take_append_drop take_length take_of_length_le take_succ_eq_append_getElem)
open Nat (add_zero le_refl le_trans mul_le_mul zero_add zero_le)
open Option (bind_some)
namespace Go.Sim
section
open Go.Sort Go.RowKit Go.Proofs
variable {P : Program} {ρ : bk} {h : ae} {w : World}
theorem bN.aus (H:bN P ρ h w) {w':World} (b:Below w.heap.size w w') (hd:w.drawn<=w'.drawn):bN P ρ h w'/\Tr ρ h w ρ h w':=by
 refine ⟨⟨?_,H.inj,H.esz⟩,?_⟩
 ·intro i r hi
  obtain ⟨o,ho,hr⟩:=H.obj i r hi
  refine ⟨o,ho,?_⟩
  by_cases hd:o=.dead
  ·subst hd;trivial
  ·exact hr.mono (.refl _) (b.block _ (Ja H hi ⟨o,ho,hd⟩))
 ·exact {
   ext:=.refl _
   len:=le_refl _
   mo:=λi r hi=>H.lt hi
   kinds:=λi _ hm=>hm
   fresh:=λi s h1 h2=>by rw [h1] at h2;cases h2
   kN:=b.size
   kY:=λk hk _=>b.block k hk
   os:=b.os
   tape:=b.tape
   output:=b.output
   drawn:=hd }
theorem aK1 {a b:World} (h1:a.heap=b.heap) (h2:a.tape=b.tape) (h3:a.drawn=b.drawn) (h4:a.os=b.os) (h5:a.output=b.output):a=b:=by
 cases a;cases b
 simp only at h1 h2 h3 h4 h5
 subst h1 h2 h3 h4 h5
 rfl
abbrev T3:=Nat×Nat×Nat
def aO (q:T3):List Value:=[I q.1,I q.2.1,I q.2.2]
theorem ay8 {g:FuncId} {cf:T3->T3->Int} (hc:∀x y:T3,ay P g [.agg (aO x).toArray,.agg (aO y).toArray] [] λv _=>v=.int .i64 (cf x y)) (cZ off size:Nat) (w:World):CmpLays P g #[] aO 3 cf cZ off size w:=by
 intro m os dk _ x y
 rw [Array.append_empty]
 generalize sortWorldK aO 3 w cZ off m dk os=W
 have Dg:=hc x y
 rw [xI] at Dg
 obtain ⟨u,h',uS,rfl⟩:=Dg
 have hag:∀z:T3,aK (λ_=>none) (.agg (aO z).toArray) (.agg (aO z).toArray):=by
  intro z
  refine .agg rfl (λv hv=>?_) λk v v' h1 h2=>?_
  ·simp [aO] at hv
   rcases hv with rfl | rfl | rfl <;> rfl
  ·rw [h1] at h2
   cases h2
   have:v∈aO z:=by
    have:=Array.mem_of_getElem? h1
    simpa using this
   simp [aO] at this
   rcases this with rfl | rfl | rfl <;> exact .int _ _
 refine (uS (λ_=>none) #[.agg (aO x).toArray,.agg (aO y).toArray] W (.cons (hag x) (.cons (hag y) .nil)) (bN.start P W)).mono ?_
 rintro e w' ⟨v',aN,rfl,h1,_,T⟩
 refine ⟨by rw [h1.kT],w'.drawn-W.drawn,w'.heap.extract W.heap.size w'.heap.size,?_⟩
 have hs:=T.kN
 have hb:∀k,k<W.heap.size->w'.heap[k]?=W.heap[k]?:=λk hk=>T.kY k hk λj s hj=>by cases hj
 have aA0:w'.heap=W.heap++w'.heap.extract W.heap.size w'.heap.size:=by
  apply Array.ext_getElem?
  intro k
  by_cases hk:k<W.heap.size
  ·rw [Array.getElem?_append_left hk];exact hb k hk
  ·rw [Array.getElem?_append_right (by omega),Array.getElem?_extract]
   by_cases qV:k<w'.heap.size
   ·rw [if_pos (by omega)];congr 1;omega
   ·rw [if_neg (by omega),Array.getElem?_eq_none (by omega)]
 exact aK1 aA0 T.tape (by show w'.drawn=W.drawn+(w'.drawn-W.drawn);have:=T.drawn;omega) T.os T.output
theorem Px {d:Array T3} {t:Nat} (ht:t<d.size*3):(flatK aO 3 d)[t]?=some ((aO d[t / 3]!)[t%3]!):=by
 simp [flatK,ht]
theorem HK (ls:List T3):(flatK aO 3 ls.toArray).toList=(ls.map aO).flatten:=by
 have hw:∀r∈ls.map aO,r.length=3:=by
  intro r hr
  obtain ⟨q,_,rfl⟩:=mem_map.1 hr
  rfl
 have hl:=Ct hw
 rw [length_map] at hl
 apply List.ext_getElem?
 intro t
 by_cases ht:t<ls.length*3
 ·have e1:(flatK aO 3 ls.toArray).toList[t]?=some ((aO ls.toArray[t / 3]!)[t%3]!):=by
   rw [Array.getElem?_toList]
   exact Px (by simpa using ht)
  rw [e1]
  have hq:t / 3<ls.length:=by omega
  have e2:=Cs hw (t / 3) (by simpa using hq)
  rw [List.getElem_map] at e2
  have e3:((ls.map aO).flatten.drop (t / 3*3)).take 3=aO ls[t / 3]:=e2
  have e4:(((ls.map aO).flatten.drop (t / 3*3)).take 3)[t%3]?=(ls.map aO).flatten[t]?:=by
   rw [List.getElem?_take,if_pos (by omega),List.getElem?_drop]
   congr 1;omega
  rw [<-e4,e3]
  have e5:ls.toArray[t / 3]! =ls[t / 3]:=by simp [hq]
  rw [e5]
  have h3:t%3<(aO ls[t / 3]).length:=by simp [aO];omega
  rw [List.getElem?_eq_getElem h3]
  simp [h3]
 ·rw [List.getElem?_eq_none (by simp;omega),List.getElem?_eq_none (by omega)]
noncomputable def zI (cf:T3->T3->Int) (ls:List T3):List T3:=(pdq (ltOf cf) ls.toArray 0 ls.toArray.size (Lib.bitLen ls.toArray.size) true true).toList
theorem J3 {cf:T3->T3->Int} (hO:SWO (ltOf cf)) (ls:List T3):(zI cf ls).Perm ls/\(zI cf ls).Pairwise λa b=>¬cf b a<0:=by
 have afe:=pdq_sorts (ltOf cf) hO ls.toArray 0 ls.toArray.size (Lib.bitLen ls.toArray.size) true true (zero_le _) (le_refl _) (Or.inl rfl)
 unfold zI
 generalize nA:pdq (ltOf cf) ls.toArray 0 ls.toArray.size (Lib.bitLen ls.toArray.size) true true=d' at afe
 obtain ⟨⟨nG,_,hp⟩,hs⟩:=afe
 refine ⟨?_,?_⟩
 ·have e1:(d'.extract 0 ls.toArray.size).toList=d'.toList:=by rw [<-nG,Array.extract_size]
  have e2:(ls.toArray.extract 0 ls.toArray.size).toList=ls:=by rw [Array.extract_size]
  rw [e1,e2] at hp
  exact hp
 ·rw [pairwise_iff_getElem]
  intro a b ha hb gQ
  have yp:a<d'.size:=by simpa using ha
  have qT:b<d'.size:=by simpa using hb
  have:=hs a b (zero_le _) gQ (by rw [<-nG];exact qT)
  rw [getElem!_pos d' a yp,getElem!_pos d' b qT] at this
  unfold ltOf at this
  simpa using this
theorem anP {F g:FuncId} {e:TypeId} {cf:T3->T3->Int} (hO:SWO (ltOf cf)) (hc:∀x y:T3,ay P g [.agg (aO x).toArray,.agg (aO y).toArray] [] λv _=>v=.int .i64 (cf x y))
  (hF:∀(cZ off cap:Nat) (d:Array T3) (w:World),CmpLays P g #[] aO 3 cf cZ off d.size w->HoldsK aO 3 w cZ off d->cZ<w.heap.size->d.size<4611686018427387904->
   Calls P F #[.slice (some ⟨cZ,off,none⟩) d.size cap,.func (.func g) #[] #[]] w λex w'=>ex=.returned (.tuple #[])/\∃n os,w'=sortWorldK aO 3 w cZ off n (pdq (ltOf cf) d 0 d.size (Lib.bitLen d.size) true true) os)
  {i:Nat} {ls:List T3} {h:ae} {K:Value->ae->Prop} (hn:ls≠[]) (hl:ls.length<4611686018427387904) (hg:h[i]?=some (.arr e (ls.map aO).flatten))
  (hk:K (.tuple #[]) (h.set i (.arr e ((zI cf ls).map aO).flatten))):ay P F [sl e i 0 ls.length,.func (.func g) #[] #[]] h K:=by
 have CV:=(J3 hO ls).1
 have hK:=hk
 unfold zI at CV hK
 generalize nA:pdq (ltOf cf) ls.toArray 0 ls.toArray.size (Lib.bitLen ls.toArray.size) true true=d' at CV hK
 have Iu:d'.size=ls.length:=by simpa using CV.length_eq
 rw [xI]
 refine ⟨_,_,?_,hK⟩
 intro ρ args' w hv H
 obtain ⟨x',y',tu,hr,CX⟩:∃x' y',args'=#[x',y']/\aK ρ (sl e i 0 ls.length) x'/\aK ρ (.func (.func g) #[] #[]) y':=by
  cases ha:args'.toList with
  | nil=>rw [ha] at hv;cases hv
  | cons x xs=>
   rw [ha] at hv
   cases hv with
   | cons h1 h2=>
    cases h2 with
    | cons h3 h4=>
     cases h4
     exact ⟨_,_,Array.ext' ha,h1,h3⟩
 subst tu
 have aAW:y'=.func (.func g) #[] #[]:=by
  cases CX with
  | func f a b _ _=>
   congr 1
   ·exact Array.eq_empty_of_size_eq_zero (by simpa using a.symm)
   ·exact Array.eq_empty_of_size_eq_zero (by simpa using b.symm)
 subst aAW
 have iO:0<ls.length:=List.length_pos_iff.2 hn
 unfold sl at hr
 cases hr with
 | slice hi ho hle H6 hb ek=>
  rename_i o' c' r
  obtain ⟨a1,a2,c,a3,a4,a5⟩:=H.arr hi hg
  have fU:o'=0:=by
   rcases ho with ho | ⟨q1,_,_⟩
   ·omega
   ·omega
  subst fU
  have kD:((ls.map aO).flatten).length=ls.length*3:=by
   rw [<-HK];simp
  have mP:ls.length*3<=c.size:=by have:=a5.le;rw [kD] at this;simpa using this
  have ac7:∀(m:List T3) (t:Nat) (v:Value),((m.map aO).flatten)[t]?=some v->∃n:Int,v=I n:=by
   intro m t v hv
   have hm:=List.mem_of_getElem? hv
   obtain ⟨r,hr,qm⟩:=List.mem_flatten.1 hm
   obtain ⟨q,_,rfl⟩:=mem_map.1 hr
   simp [aO] at qm
   rcases qm with rfl | rfl | rfl <;> exact ⟨_,rfl⟩
  have tA:∀t,t<ls.length*3->c[t]?=some ((flatK aO 3 ls.toArray)[t]!):=by
   intro t ht
   have e1:((ls.map aO).flatten)[t]?=some ((flatK aO 3 ls.toArray)[t]!):=by
    rw [<-HK,Array.getElem?_toList,Px (by simpa using ht),get_flatK _ _ _ t (by simpa using ht)]
   obtain ⟨n,qj⟩:=ac7 ls t _ e1
   obtain ⟨_,y,hy,hv⟩:=a5 t _ e1
   rw [zero_add] at hy
   rw [hy]
   rw [qj] at hv⊢
   rw [hv.kT]
  have aBF:r.cZ<w.heap.size:=(Array.getElem?_eq_some_iff.1 a3).1
  have tz:=hF r.cZ 0 c' ls.toArray w (ay8 hc _ _ _ _) (λj hj=>by
   simp at hj
   rw [zero_add]
   refine ⟨?_,?_⟩
   ·rw [Cb a3,tA j hj];rfl
   ·simp [World.frozen?,a3]) aBF (by simpa using hl)
  rw [nA,List.size_toArray] at tz
  refine tz.mono ?_
  rintro ex w' ⟨rfl,n,os,rfl⟩
  have sb:lP w r.cZ (.cells (putCells id 0 (flatK aO 3 d') c) r.elem (0,0)) (putRowK aO 3 (Sort.ahead w n) r.cZ 0 d'):=by
   refine ⟨?_,λj hj=>?_,?_,rfl,rfl,rfl,?_⟩
   ·simp only [putRowK,putRow,mapBlock,Sort.ahead,Array.getElem?_modify,if_true,a3];rfl
   ·simp only [putRowK,putRow,mapBlock,Sort.ahead,Array.getElem?_modify]
    rw [if_neg (Ne.symm hj)]
   ·simp [putRowK,putRow,mapBlock,Sort.ahead]
   ·simp [putRowK,putRow,mapBlock,Sort.ahead]
  have dE:∀j,j<ls.length*3->(putCells id 0 (flatK aO 3 d') c)[j]?=some ((flatK aO 3 d')[j]!):=by
   intro j hj
   unfold putCells
   rw [Array.getElem?_mapIdx]
   have hjc:j<c.size:=by omega
   rw [Array.getElem?_eq_getElem hjc]
   have:(flatK aO 3 d').size=ls.length*3:=by rw [size_flatK,Iu]
   simp only [Option.map_some,zero_le,zero_add,true_and,this,hj,if_true,Nat.sub_zero,id]
  obtain ⟨q1,q2⟩:=H.set (o:=.arr r.elem (d'.toList.map aO).flatten) hi (.inl ⟨_,_,hg⟩) sb
   ⟨a1,a2,_,sb.here,by simp [putCells,a4],λj x hj=>by
    obtain ⟨n2,qj⟩:=ac7 d'.toList j x hj
    have hlen:((d'.toList.map aO).flatten).length=ls.length*3:=by rw [<-HK];simp [Iu]
    have mC:j<ls.length*3:=by rw [<-hlen];exact (cm hj).1
    have e1:((d'.toList.map aO).flatten)[j]?=some ((flatK aO 3 d')[j]!):=by
     have:=HK d'.toList
     simp only [Array.toArray_toList] at this
     rw [<-this,Array.getElem?_toList,Px (by rw [Iu];exact mC),get_flatK _ _ _ j (by rw [Iu];exact mC)]
    rw [hj] at e1
    have e2:=Option.some.inj e1
    refine ⟨by rw [qj];rfl,_,by rw [zero_add];exact dE j mC,?_⟩
    rw [<-e2,qj]
    exact .int _ _⟩
  obtain ⟨p1,p2⟩:=q1.aus (w':=grow (putRowK aO 3 (Sort.ahead w n) r.cZ 0 d') os) ⟨rfl,rfl,rfl,by simp [grow],λk hk=>Array.getElem?_append_left hk⟩ (le_refl _)
  exact ⟨_,ρ,rfl,aK.undef _,p1,q2.trans p2⟩
end
end Go.Sim
namespace Go.Proofs
section
def aKz:Go.Shelf.Ren:=⟨λ| 6=>45 | 15=>72 | 14=>71 | 28=>105 | 29=>106 | 20=>97 | 21=>98 | 22=>99 | 23=>100 | 24=>101 | 25=>102 | 26=>103 | 27=>104 | 46=>130 | 47=>131 | 48=>132 | 49=>133 | 50=>134 | 57=>147 | n=>n,λ| 22=>25 | 24=>24 | 25=>106 | 3=>3 | 39=>138 | 0=>0 | 53=>152 | 55=>149 | 4=>4 | 46=>164 | 45=>163 | 50=>168 | 5=>5 | 9=>9 | 66=>189 | 70=>117 | 76=>201 | 77=>26 | n=>n,λ| n=>n⟩
theorem aKy:Go.Proofs.SlLaysF0.n6 prog aKz where
 mixed:=by kernel_rfl
 f6:=⟨ "slices.SortFunc[[]pommel/api.Square,pommel/api.Square]",by decide,Tryz.func45.trans (congrArg some (by kernel_rfl))⟩
 f14:=⟨ "slices.pdqsortCmpFunc[pommel/api.Square]",by decide,Tryz.func71.trans (congrArg some (by kernel_rfl))⟩
 f15:=Tryz.func72.trans (congrArg some (by kernel_rfl))
 f20:=⟨ "slices.insertionSortCmpFunc[pommel/api.Square]",by decide,Tryz.func97.trans (congrArg some (by kernel_rfl))⟩
 f21:=⟨ "slices.heapSortCmpFunc[pommel/api.Square]",by decide,Tryz.func98.trans (congrArg some (by kernel_rfl))⟩
 f22:=⟨ "slices.breakPatternsCmpFunc[pommel/api.Square]",by decide,Tryz.func99.trans (congrArg some (by kernel_rfl))⟩
 f23:=⟨ "slices.choosePivotCmpFunc[pommel/api.Square]",by decide,Tryz.func100.trans (congrArg some (by kernel_rfl))⟩
 f24:=⟨ "slices.reverseRangeCmpFunc[pommel/api.Square]",by decide,Tryz.func101.trans (congrArg some (by kernel_rfl))⟩
 f25:=⟨ "slices.partialInsertionSortCmpFunc[pommel/api.Square]",by decide,Tryz.func102.trans (congrArg some (by kernel_rfl))⟩
 f26:=⟨ "slices.partitionEqualCmpFunc[pommel/api.Square]",by decide,Tryz.func103.trans (congrArg some (by kernel_rfl))⟩
 f27:=⟨ "slices.partitionCmpFunc[pommel/api.Square]",by decide,Tryz.func104.trans (congrArg some (by kernel_rfl))⟩
 f28:=Tryz.func105.trans (congrArg some (by kernel_rfl))
 f29:=Tryz.func106.trans (congrArg some (by kernel_rfl))
 f46:=⟨ "slices.siftDownCmpFunc[pommel/api.Square]",by decide,Tryz.func130.trans (congrArg some (by kernel_rfl))⟩
 f47:=Tryz.func131.trans (congrArg some (by kernel_rfl))
 f48:=Tryz.func132.trans (congrArg some (by kernel_rfl))
 f49:=⟨ "slices.medianAdjacentCmpFunc[pommel/api.Square]",by decide,Tryz.func133.trans (congrArg some (by kernel_rfl))⟩
 f50:=⟨ "slices.medianCmpFunc[pommel/api.Square]",by decide,Tryz.func134.trans (congrArg some (by kernel_rfl))⟩
 f57:=⟨ "slices.order2CmpFunc[pommel/api.Square]",by decide,Tryz.func147.trans (congrArg some (by kernel_rfl))⟩
 t0:=Tryz.underlying0
 a0:=Tryz.isAgg0
 z0:=Tryz.sizeOf0
 v0:=Tryz.zeroValue0
 t3:=Tryz.underlying3
 a3:=Tryz.isAgg3
 z3:=Tryz.sizeOf3
 v3:=Tryz.zeroValue3
 t4:=Tryz.underlying4
 a4:=Tryz.isAgg4
 z4:=Tryz.sizeOf4
 v4:=Tryz.zeroValue4
 t5:=Tryz.underlying5
 a5:=Tryz.isAgg5
 z5:=Tryz.sizeOf5
 v5:=Tryz.zeroValue5
 t9:=Tryz.underlying9
 a9:=Tryz.isAgg9
 z9:=Tryz.sizeOf9
 v9:=Tryz.zeroValue9
 t22:=Tryz.underlying25
 a22:=Tryz.isAgg25
 z22:=Tryz.sizeOf25
 v22:=Tryz.zeroValue25
 t25:=Tryz.underlying106
 a25:=Tryz.isAgg106
 z25:=Tryz.sizeOf106
 v25:=Tryz.zeroValue106
 t39:=Tryz.underlying138
 a39:=Tryz.isAgg138
 z39:=Tryz.sizeOf138
 v39:=Tryz.zeroValue138
 t45:=Tryz.underlying163
 a45:=Tryz.isAgg163
 z45:=Tryz.sizeOf163
 v45:=Tryz.zeroValue163
 t46:=Tryz.underlying164
 a46:=Tryz.isAgg164
 z46:=Tryz.sizeOf164
 v46:=Tryz.zeroValue164
 t50:=Tryz.underlying168
 a50:=Tryz.isAgg168
 z50:=Tryz.sizeOf168
 v50:=Tryz.zeroValue168
 t53:=Tryz.underlying152
 a53:=Tryz.isAgg152
 z53:=Tryz.sizeOf152
 v53:=Tryz.zeroValue152
 t55:=Tryz.underlying149
 a55:=Tryz.isAgg149
 z55:=Tryz.sizeOf149
 v55:=Tryz.zeroValue149
 t66:=Tryz.underlying189
 a66:=Tryz.isAgg189
 z66:=Tryz.sizeOf189
 v66:=Tryz.zeroValue189
 t70:=Tryz.underlying117
 a70:=Tryz.isAgg117
 z70:=Tryz.sizeOf117
 v70:=Tryz.zeroValue117
 t76:=Tryz.underlying201
 a76:=Tryz.isAgg201
 z76:=Tryz.sizeOf201
 v76:=Tryz.zeroValue201
 t77:=Tryz.underlying26
 a77:=Tryz.isAgg26
 z77:=Tryz.sizeOf26
 v77:=Tryz.zeroValue26
def aKx:Go.Shelf.Ren:=⟨λ| 6=>47 | 15=>72 | 14=>73 | 28=>105 | 29=>106 | 20=>107 | 21=>108 | 22=>109 | 23=>110 | 24=>111 | 25=>112 | 26=>113 | 27=>114 | 46=>135 | 47=>131 | 48=>132 | 49=>136 | 50=>137 | 57=>148 | n=>n,λ| 22=>69 | 24=>73 | 25=>109 | 3=>3 | 39=>138 | 0=>0 | 53=>152 | 55=>149 | 4=>4 | 46=>164 | 45=>163 | 50=>168 | 5=>5 | 9=>9 | 66=>189 | 70=>117 | 76=>201 | 77=>26 | n=>n,λ| n=>n⟩
theorem aKw:Go.Proofs.SlLaysF0.n6 prog aKx where
 mixed:=by kernel_rfl
 f6:=⟨ "slices.SortFunc[[]pommel/hide.line,pommel/hide.line]",by decide,Tryz.func47.trans (congrArg some (by kernel_rfl))⟩
 f14:=⟨ "slices.pdqsortCmpFunc[pommel/hide.line]",by decide,Tryz.func73.trans (congrArg some (by kernel_rfl))⟩
 f15:=Tryz.func72.trans (congrArg some (by kernel_rfl))
 f20:=⟨ "slices.insertionSortCmpFunc[pommel/hide.line]",by decide,Tryz.func107.trans (congrArg some (by kernel_rfl))⟩
 f21:=⟨ "slices.heapSortCmpFunc[pommel/hide.line]",by decide,Tryz.func108.trans (congrArg some (by kernel_rfl))⟩
 f22:=⟨ "slices.breakPatternsCmpFunc[pommel/hide.line]",by decide,Tryz.func109.trans (congrArg some (by kernel_rfl))⟩
 f23:=⟨ "slices.choosePivotCmpFunc[pommel/hide.line]",by decide,Tryz.func110.trans (congrArg some (by kernel_rfl))⟩
 f24:=⟨ "slices.reverseRangeCmpFunc[pommel/hide.line]",by decide,Tryz.func111.trans (congrArg some (by kernel_rfl))⟩
 f25:=⟨ "slices.partialInsertionSortCmpFunc[pommel/hide.line]",by decide,Tryz.func112.trans (congrArg some (by kernel_rfl))⟩
 f26:=⟨ "slices.partitionEqualCmpFunc[pommel/hide.line]",by decide,Tryz.func113.trans (congrArg some (by kernel_rfl))⟩
 f27:=⟨ "slices.partitionCmpFunc[pommel/hide.line]",by decide,Tryz.func114.trans (congrArg some (by kernel_rfl))⟩
 f28:=Tryz.func105.trans (congrArg some (by kernel_rfl))
 f29:=Tryz.func106.trans (congrArg some (by kernel_rfl))
 f46:=⟨ "slices.siftDownCmpFunc[pommel/hide.line]",by decide,Tryz.func135.trans (congrArg some (by kernel_rfl))⟩
 f47:=Tryz.func131.trans (congrArg some (by kernel_rfl))
 f48:=Tryz.func132.trans (congrArg some (by kernel_rfl))
 f49:=⟨ "slices.medianAdjacentCmpFunc[pommel/hide.line]",by decide,Tryz.func136.trans (congrArg some (by kernel_rfl))⟩
 f50:=⟨ "slices.medianCmpFunc[pommel/hide.line]",by decide,Tryz.func137.trans (congrArg some (by kernel_rfl))⟩
 f57:=⟨ "slices.order2CmpFunc[pommel/hide.line]",by decide,Tryz.func148.trans (congrArg some (by kernel_rfl))⟩
 t0:=Tryz.underlying0
 a0:=Tryz.isAgg0
 z0:=Tryz.sizeOf0
 v0:=Tryz.zeroValue0
 t3:=Tryz.underlying3
 a3:=Tryz.isAgg3
 z3:=Tryz.sizeOf3
 v3:=Tryz.zeroValue3
 t4:=Tryz.underlying4
 a4:=Tryz.isAgg4
 z4:=Tryz.sizeOf4
 v4:=Tryz.zeroValue4
 t5:=Tryz.underlying5
 a5:=Tryz.isAgg5
 z5:=Tryz.sizeOf5
 v5:=Tryz.zeroValue5
 t9:=Tryz.underlying9
 a9:=Tryz.isAgg9
 z9:=Tryz.sizeOf9
 v9:=Tryz.zeroValue9
 t22:=Tryz.underlying69
 a22:=Tryz.isAgg69
 z22:=Tryz.sizeOf69
 v22:=Tryz.zeroValue69
 t25:=Tryz.underlying109
 a25:=Tryz.isAgg109
 z25:=Tryz.sizeOf109
 v25:=Tryz.zeroValue109
 t39:=Tryz.underlying138
 a39:=Tryz.isAgg138
 z39:=Tryz.sizeOf138
 v39:=Tryz.zeroValue138
 t45:=Tryz.underlying163
 a45:=Tryz.isAgg163
 z45:=Tryz.sizeOf163
 v45:=Tryz.zeroValue163
 t46:=Tryz.underlying164
 a46:=Tryz.isAgg164
 z46:=Tryz.sizeOf164
 v46:=Tryz.zeroValue164
 t50:=Tryz.underlying168
 a50:=Tryz.isAgg168
 z50:=Tryz.sizeOf168
 v50:=Tryz.zeroValue168
 t53:=Tryz.underlying152
 a53:=Tryz.isAgg152
 z53:=Tryz.sizeOf152
 v53:=Tryz.zeroValue152
 t55:=Tryz.underlying149
 a55:=Tryz.isAgg149
 z55:=Tryz.sizeOf149
 v55:=Tryz.zeroValue149
 t66:=Tryz.underlying189
 a66:=Tryz.isAgg189
 z66:=Tryz.sizeOf189
 v66:=Tryz.zeroValue189
 t70:=Tryz.underlying117
 a70:=Tryz.isAgg117
 z70:=Tryz.sizeOf117
 v70:=Tryz.zeroValue117
 t76:=Tryz.underlying201
 a76:=Tryz.isAgg201
 z76:=Tryz.sizeOf201
 v76:=Tryz.zeroValue201
 t77:=Tryz.underlying26
 a77:=Tryz.isAgg26
 z77:=Tryz.sizeOf26
 v77:=Tryz.zeroValue26
end
end Go.Proofs
namespace Go.Proofs.YtncaiogfjjepcaaGreat
open Go.Sim
section
variable (P : Program) (K : VK)
noncomputable section
variable (x0 x7 x8 x9 bP bQ cL : Value) (L1 : LQ) (xs : List Value) (h : ae)
def oc6:=cg prog 6 [[],[],[],[],[],[],[],[],[],[7,8,26,27],[9,28],[],[],[],[],[7,9],[]]
@[irreducible] def c6:=cD oc6
@[irreducible] def ax0:=c6.r.r.r.r.r.r.l.r.l.l
@[irreducible] def acb:=c6.r.r.r.r.r.r.r
@[irreducible] def ax1:=acb.l
theorem k6:oc6=some (55,c6,[.tmp 2,.tmp 3,.tmp 4]):=by kernel_rfl
def Ll (_P:Program) (K:VK):ax:=aW [.tmp 2,.tmp 3,.tmp 4] K
def ata:ax:=aH (au P acb (Ll P K)) (Ll P K)
def as8:ax:=bC 0 (ata P K)
def as9:ax:=aH (λf' aQ=>(([7,8,26,27]:List Nat).map f':List Value)=[x7,x8,bP,bQ]/\L1 (([9,28]:List Nat).map f') aQ) (as8 P K)
def alN:Prop:=aA (au P ax0 (as9 P K x7 x8 bP bQ L1)) ([7,8,26,27]++[9,28]) ([x7,x8,bP,bQ]++xs) h
def alO:Prop:=aA (au P ax1 (Ll P K)) [7,9] [x7,x9] h
theorem aIh (x7 x8 bP bQ:Value) (L1:LQ) (x9 cL:Value) (h:ae):alN P K x7 x8 bP bQ L1 [x9,cL] h=
 (OP (aj .lss cL bQ) λb9=>
 aJ b9
 (OP (aD 3 bP cL) λaV=>
 OP (af true 3 h aV) λbz=>
 OH (cF 24 [(.int .i64 (0)),(.int .i64 (0)),(.int .i64 (0))] h) λxd z1=>
 OH (aU 3 z1 xd bz) λ_ z2=>
 OP (aF 0 xd) λcA=>
 OP (af false 1 z2 cA) λcB=>
 (True)/\
 OP (aF 1 xd) λaY=>
 OP (af false 1 z2 aY) λbG=>
 (True)/\
 sR P x8 [cB,bG] z2 λdH z3=>
 (True)/\
 OP (aF 0 xd) λcI=>
 OP (af false 1 z3 cI) λcU=>
 (af false 1 z2 cI=some cU/\True)/\
 OP (aF 1 xd) λer=>
 OP (af false 1 z3 er) λcO=>
 (af false 1 z2 er=some cO/\True)/\
 OP (aF 2 xd) λcP=>
 OP (af false 1 z3 cP) λdC=>
 (af false 1 z2 cP=some dC/\True)/\
 OP (aj .add cO dC) λeT=>
 sR P x8 [cU,eT] z3 λgp z4=>
 (True)/\
 OP (eG [(.int .i64 (0)),(.int .i64 (0))] [(0,1,dH),(1,1,gp)]) λfD=>
 OH (cH 41 1 [(.int .i64 (0)),(.int .i64 (0))] z4 [(0,2,fD)]) λfX z5=>
 (True)/\
 OH (cT 41 2 16 z5 x9 fX) λiU z6=>
 (True)/\
 OP (aj .add cL (.int .i64 (1))) λee=>
 ([x7,x8,bP,bQ]:List Value)=[x7,x8,bP,bQ]/\L1 [iU,ee] z6)
 (alO P K x7 x9 h)):=aB (by kernel_rfl)
theorem aIi:alO P K x7 x9 h=
 (OP (af false 1 h x7) λfI=>
 OP (aT fI) λfg=>
 K (.tuple #[fg,x9,(.int .i64 (0))]) h):=aB (by kernel_rfl)
def T6:Prop:=
 ay P 22 [x0] h λaP z1=>
 OP (cW 0 aP) λaX=>
 OP (cW 1 aP) λaZ=>
 OP (aj .neq aZ (.int .i64 (0))) λbA=>
 aJ bA
 (K (.tuple #[(.int .i64 (0)),(.slice none 0 0),aZ]) z1)
 (ay P 23 [aX] z1 λaS z2=>
 OH (cF 69 [(.slice none 0 0)] z2) λx7 z3=>
 OH (aU 1 z3 x7 aS) λ_ z4=>
 OP (eI aX) λbm=>
 OP (aF 0 bm) λbH=>
 OP (af false 1 z4 bH) λbP=>
 OP (aT bP) λbQ=>
 bT [(.slice none 0 0),(.int .i64 (0))] z4 λL1 xs hx=>
 alN P K x7 (.func (.func 24) #[] #[x7]) bP bQ L1 xs hx)
theorem e6:au P c6 (aW [.tmp 2,.tmp 3,.tmp 4] K) (cd [x0]) h=T6 P K x0 h:=by kernel_rfl
theorem f6 {K:VK} {x0:Value} {h:ae} (H:T6 prog K x0 h):ay prog 6 [x0] h K:=
 cC k6 (cE rfl) ((e6 prog K x0 h).mpr H)
end
noncomputable section
variable (x0 x6 aI aS bL : Value) (L1 : LQ) (xs : List Value) (h : ae)
def oc7:=cg prog 7 [[],[],[],[],[],[],[],[20,21],[6,22],[],[],[],[],[6],[]]
@[irreducible] def c7:=cD oc7
@[irreducible] def aya:=c7.r.r.r.r.l.r.l.l
@[irreducible] def acn:=c7.r.r.r.r.r
@[irreducible] def ayb:=acn.l
theorem k7:oc7=some (33,c7,[.tmp 2,.tmp 3]):=by kernel_rfl
def Lo (_P:Program) (K:VK):ax:=aW [.tmp 2,.tmp 3] K
def ati:ax:=aH (au P acn (Lo P K)) (Lo P K)
def atj:ax:=bC 0 (ati P K)
def ath:ax:=aH (λf' aQ=>(([20,21]:List Nat).map f':List Value)=[aI,aS]/\L1 (([6,22]:List Nat).map f') aQ) (atj P K)
def alV:Prop:=aA (au P aya (ath P K aI aS L1)) ([20,21]++[6,22]) ([aI,aS]++xs) h
def alW:Prop:=aA (au P ayb (Lo P K)) [6] [x6] h
theorem aIt (aI aS:Value) (L1:LQ) (x6 bL:Value) (h:ae):alV P K aI aS L1 [x6,bL] h=
 (OP (aj .lss bL aS) λbB=>
 aJ bB
 (OP (aD 3 aI bL) λbm=>
 OP (af true 3 h bm) λbH=>
 OH (cF 24 [(.int .i64 (0)),(.int .i64 (0)),(.int .i64 (0))] h) λs8 z1=>
 OH (aU 3 z1 s8 bH) λ_ z2=>
 OP (aF 2 s8) λbQ=>
 OP (af false 1 z2 bQ) λcL=>
 OH (cH 3 1 [(.int .i64 (0))] z2 [(0,1,cL)]) λb9 z3=>
 OH (cT 3 1 8 z3 x6 b9) λaV z4=>
 OP (aj .add bL (.int .i64 (1))) λbz=>
 ([aI,aS]:List Value)=[aI,aS]/\L1 [aV,bz] z4)
 (alW P K x6 h)):=aB (by kernel_rfl)
theorem aIu:alW P K x6 h=
 (K (.tuple #[x6,(.int .i64 (0))]) h):=aB (by kernel_rfl)
def T7:Prop:=
 ay P 22 [x0] h λaG z1=>
 OP (cW 0 aG) λaM=>
 OP (cW 1 aG) λaC=>
 OP (aj .neq aC (.int .i64 (0))) λaX=>
 aJ aX
 (K (.tuple #[(.slice none 0 0),aC]) z1)
 (OP (eI aM) λbA=>
 OP (aF 0 bA) λaR=>
 OP (af false 1 z1 aR) λaI=>
 OP (aT aI) λaS=>
 bT [(.slice none 0 0),(.int .i64 (0))] z1 λL1 xs hx=>
 alV P K aI aS L1 xs hx)
theorem e7:au P c7 (aW [.tmp 2,.tmp 3] K) (cd [x0]) h=T7 P K x0 h:=by kernel_rfl
theorem f7 {K:VK} {x0:Value} {h:ae} (H:T7 prog K x0 h):ay prog 7 [x0] h K:=
 cC k7 (cE rfl) ((e7 prog K x0 h).mpr H)
end
noncomputable section
variable (x0 : Value) (h : ae)
def oc8:=cg prog 8 [[],[],[],[],[],[]]
@[irreducible] def c8:=cD oc8
theorem k8:oc8=some (23,c8,[.tmp 2,.tmp 3,.tmp 4]):=by kernel_rfl
def T8:Prop:=
 ay P 22 [x0] h λx9 z1=>
 OP (cW 0 x9) λaE=>
 OP (cW 1 x9) λaG=>
 OP (aj .neq aG (.int .i64 (0))) λaC=>
 aJ aC
 (K (.tuple #[(.int .i64 (0)),(.int .i64 (0)),aG]) z1)
 (OP (eI aE) λaZ=>
 OP (aF 1 aZ) λbM=>
 OP (af false 1 z1 bM) λbA=>
 (True)/\
 OP (eI aE) λaI=>
 OP (aF 2 aI) λaS=>
 OP (af false 1 z1 aS) λbL=>
 (True)/\
 K (.tuple #[bA,bL,(.int .i64 (0))]) z1)
theorem e8:au P c8 (aW [.tmp 2,.tmp 3,.tmp 4] K) (cd [x0]) h=T8 P K x0 h:=by kernel_rfl
theorem f8 {K:VK} {x0:Value} {h:ae} (H:T8 prog K x0 h):ay prog 8 [x0] h K:=
 cC k8 (cE rfl) ((e8 prog K x0 h).mpr H)
end
noncomputable section
variable (x0 c4 x5 s7 s9 t11 aR aI aS cL bz bZ aY dH cU cO fX ee fY eD eZ fv gG fH lM oU uh : Value) (L1 L2 : LQ) (xs : List Value) (h : ae)
def ahn:=cg prog 22 [[],[],[],[],[],[],[],[0,4,19,20],[5,21],[],[],[],[0,4,5,7,19,20,21,28],[0,4,5,7,19,20,21,28,31],[0,4,5,7,19,20,21,33],[0,4,5,7,19,20,21,33,36],[0,4,5,7,19,20,21,38],[0,4,5,7,19,20,21,38,41],[0,4,5,7,19,20,21,43],[0,4,5,7,19,20,21,43,49],[0,4,5,7,19,20,21,51],[0,4,5,7,19,20,21,51,57],[],[],[],[],[],[0,4,5],[],[0,4,5,93,94],[95],[],[],[],[],[0,4,5,9,93,94,95,102,103],[104],[],[],[],[0,4,5,9,11,93,94,95,102,103,104,111],[0,4,5,9,93,94,95,102,103,104,111,115],[],[],[],[0,4,5,93,94,95],[4,5],[],[],[],[],[]]
@[irreducible] def Gh:=cD ahn
@[irreducible] def B2:=Gh.r.r.r.r.l.r.l.l
@[irreducible] def ZJ:=Gh.r.r.r.r.r
@[irreducible] def Zx:=B2.r.r.l.l.r.l.l.r.l
@[irreducible] def avX:=B2.r.r.l.l.r.l.r
@[irreducible] def avW:=B2.r.r.l.l.r.r
@[irreducible] def avV:=B2.r.r.r
@[irreducible] def N8:=ZJ.l
@[irreducible] def Zy:=Zx.r.l
@[irreducible] def N9:=N8.l.r.l.l
@[irreducible] def ZG:=N8.r
@[irreducible] def Zz:=Zy.r.l
@[irreducible] def Gi:=N9.r.r.l.l.r.r.l.l
@[irreducible] def ZH:=N9.r.r.r
@[irreducible] def av3:=ZG.l
@[irreducible] def ZA:=Zz.r.l
@[irreducible] def ZI:=Gi.r.r.l.l.r.l.r.l
@[irreducible] def av0:=Gi.r.r.l.l.r.r
@[irreducible] def avZ:=Gi.r.r.r
@[irreducible] def av2:=ZH.l
@[irreducible] def ZB:=ZA.r.l
@[irreducible] def av1:=ZI.r.l
@[irreducible] def ZC:=ZB.r.l
@[irreducible] def ZD:=ZC.r.l
@[irreducible] def ZE:=ZD.r.l
@[irreducible] def ZF:=ZE.r.l
@[irreducible] def avY:=ZF.r.l
theorem k22:ahn=some (140,Gh,[.tmp 2,.tmp 3]):=by kernel_rfl
def Af (_P:Program) (K:VK):ax:=aW [.tmp 2,.tmp 3] K
def aqH:ax:=aH (au P ZJ (Af P K)) (Af P K)
def aqI:ax:=bC 0 (aqH P K)
def KY:ax:=aH (λf' aQ=>(([0,4,19,20]:List Nat).map f':List Value)=[x0,c4,aR,aI]/\L1 (([5,21]:List Nat).map f') aQ) (aqI P K)
def aqA:ax:=aH (au P avV (KY P K x0 c4 aR aI L1)) (KY P K x0 c4 aR aI L1)
def WV:ax:=bC 1 (aqA P K x0 c4 aR aI L1)
def WW:ax:=aH (au P avW (WV P K x0 c4 aR aI L1)) (WV P K x0 c4 aR aI L1)
def sU:ax:=aH (au P avX (WW P K x0 c4 aR aI L1)) (WW P K x0 c4 aR aI L1)
def aqB:ax:=aH (au P ZG (Af P K)) (Af P K)
def aqC:ax:=bC 2 (aqB P K)
def EU:ax:=aH (λf' aQ=>(([0,4,5,93,94]:List Nat).map f':List Value)=[x0,c4,x5,eD,eZ]/\L1 (([95]:List Nat).map f') aQ) (aqC P K)
def aqD:ax:=aH (au P ZH (EU P K x0 c4 x5 eD eZ L1)) (EU P K x0 c4 x5 eD eZ L1)
def aqE:ax:=bC 3 (aqD P K x0 c4 x5 eD eZ L1)
def aqF:ax:=bC 4 (aqE P K x0 c4 x5 eD eZ L1)
def KZ:ax:=aH (λf' aQ=>(([0,4,5,9,93,94,95,102,103]:List Nat).map f':List Value)=[x0,c4,x5,s9,eD,eZ,fv,gG,fH]/\L2 (([104]:List Nat).map f') aQ) (aqF P K x0 c4 x5 eD eZ L1)
def aqG:ax:=aH (au P avZ (KZ P K x0 c4 x5 s9 eD eZ fv gG fH L1 L2)) (KZ P K x0 c4 x5 s9 eD eZ fv gG fH L1 L2)
def WX:ax:=bC 5 (aqG P K x0 c4 x5 s9 eD eZ fv gG fH L1 L2)
def WY:ax:=aH (au P av0 (WX P K x0 c4 x5 s9 eD eZ fv gG fH L1 L2)) (WX P K x0 c4 x5 s9 eD eZ fv gG fH L1 L2)
def ajL:Prop:=aA (au P B2 (KY P K x0 c4 aR aI L1)) ([0,4,19,20]++[5,21]) ([x0,c4,aR,aI]++xs) h
def ajM:Prop:=aA (au P Zx (sU P K x0 c4 aR aI L1)) [0,4,5,7,19,20,21,28] [x0,c4,x5,s7,aR,aI,aS,cL] h
def Sw:Prop:=aA (au P Zy (sU P K x0 c4 aR aI L1)) [0,4,5,7,19,20,21,28,31] [x0,c4,x5,s7,aR,aI,aS,cL,bz] h
def ajN:Prop:=aA (au P Zz (sU P K x0 c4 aR aI L1)) [0,4,5,7,19,20,21,33] [x0,c4,x5,s7,aR,aI,aS,bZ] h
def Sx:Prop:=aA (au P ZA (sU P K x0 c4 aR aI L1)) [0,4,5,7,19,20,21,33,36] [x0,c4,x5,s7,aR,aI,aS,bZ,aY] h
def ajO:Prop:=aA (au P ZB (sU P K x0 c4 aR aI L1)) [0,4,5,7,19,20,21,38] [x0,c4,x5,s7,aR,aI,aS,dH] h
def Sy:Prop:=aA (au P ZC (sU P K x0 c4 aR aI L1)) [0,4,5,7,19,20,21,38,41] [x0,c4,x5,s7,aR,aI,aS,dH,cU] h
def ajP:Prop:=aA (au P ZD (sU P K x0 c4 aR aI L1)) [0,4,5,7,19,20,21,43] [x0,c4,x5,s7,aR,aI,aS,cO] h
def SA:Prop:=aA (au P ZE (sU P K x0 c4 aR aI L1)) [0,4,5,7,19,20,21,43,49] [x0,c4,x5,s7,aR,aI,aS,cO,fX] h
def ajQ:Prop:=aA (au P ZF (sU P K x0 c4 aR aI L1)) [0,4,5,7,19,20,21,51] [x0,c4,x5,s7,aR,aI,aS,ee] h
def SB:Prop:=aA (au P avY (sU P K x0 c4 aR aI L1)) [0,4,5,7,19,20,21,51,57] [x0,c4,x5,s7,aR,aI,aS,ee,fY] h
def ajR:Prop:=aA (au P N8 (Af P K)) [0,4,5] [x0,c4,x5] h
def ajS:Prop:=aA (au P N9 (EU P K x0 c4 x5 eD eZ L1)) ([0,4,5,93,94]++[95]) ([x0,c4,x5,eD,eZ]++xs) h
def ajT:Prop:=aA (au P Gi (KZ P K x0 c4 x5 s9 eD eZ fv gG fH L1 L2)) ([0,4,5,9,93,94,95,102,103]++[104]) ([x0,c4,x5,s9,eD,eZ,fv,gG,fH]++xs) h
def ajU:Prop:=aA (au P ZI (WY P K x0 c4 x5 s9 eD eZ fv gG fH L1 L2)) [0,4,5,9,11,93,94,95,102,103,104,111] [x0,c4,x5,s9,t11,eD,eZ,fv,gG,fH,lM,oU] h
def SC:Prop:=aA (au P av1 (WY P K x0 c4 x5 s9 eD eZ fv gG fH L1 L2)) [0,4,5,9,93,94,95,102,103,104,111,115] [x0,c4,x5,s9,eD,eZ,fv,gG,fH,lM,oU,uh] h
def ajV:Prop:=aA (au P av2 (EU P K x0 c4 x5 eD eZ L1)) [0,4,5,93,94,95] [x0,c4,x5,eD,eZ,fv] h
def ajW:Prop:=aA (au P av3 (Af P K)) [4,5] [c4,x5] h
theorem aFj:SB P K x0 c4 x5 s7 aR aI aS ee fY L1 h=
 (OP (bu ee (.bool true) fY) λfS=>
 aJ fS
 (K (.tuple #[(.pointer none),(.int .i64 (1))]) h)
 (OP (eI c4) λiV=>
 OP (aF 1 iV) λhI=>
 OP (af false 1 h hI) λke=>
 (True)/\
 OP (aF 0 s7) λjy=>
 OP (af false 1 h jy) λkZ=>
 (True)/\
 OP (aF 2 s7) λgw=>
 OP (af false 1 h gw) λfA=>
 (True)/\
 OP (aj .add kZ fA) λdY=>
 OP (lI true [ke,dY]) λdj=>
 OP (eI c4) λog=>
 OP (aF 2 og) λlh=>
 OP (af false 1 h lh) λiW=>
 (True)/\
 OP (aF 1 s7) λfE=>
 OP (af false 1 h fE) λiL=>
 (True)/\
 OP (aF 2 s7) λkO=>
 OP (af false 1 h kO) λhT=>
 (True)/\
 OP (aj .add iL hT) λlN=>
 OP (lI true [iW,lN]) λkf=>
 OP (eI c4) λcK=>
 OP (aF 1 cK) λdB=>
 OH (aU 1 h dB dj) λ_ z1=>
 (af false 1 z1 fE=some iL/\af false 1 z1 kO=some hT/\True)/\
 OP (eI c4) λgW=>
 OP (aF 2 gW) λgJ=>
 OH (aU 1 z1 gJ kf) λ_ z2=>
 (True)/\
 OP (aF 2 s7) λjV=>
 OP (af false 1 z2 jV) λkh=>
 OP (aF 2 s7) λeB=>
 OP (af false 1 z2 eB) λeP=>
 OP (aj .mul kh eP) λkH=>
 OP (aj .add x5 kH) λjq=>
 OP (aj .add aS (.int .i64 (1))) λlO=>
 ([x0,c4,aR,aI]:List Value)=[x0,c4,aR,aI]/\L1 [jq,lO] z2)):=aB (by kernel_rfl)
theorem aFi:ajQ P K x0 c4 x5 s7 aR aI aS ee L1 h=
 (bO ee false
 (OP (aF 1 s7) λfI=>
 OP (af false 1 h fI) λfg=>
 OP (aF 2 s7) λgv=>
 OP (af false 1 h gv) λfJ=>
 OP (aj .sub (.int .i64 (1000)) fJ) λgV=>
 OP (aj .gtr fg gV) λfY=>
 SB P K x0 c4 x5 s7 aR aI aS ee fY L1 h)
 (SB P K x0 c4 x5 s7 aR aI aS ee undef L1 h)):=aB (by kernel_rfl)
theorem aFh:SA P K x0 c4 x5 s7 aR aI aS cO fX L1 h=
 (OP (bu cO (.bool true) fX) λiU=>
 ajQ P K x0 c4 x5 s7 aR aI aS iU L1 h):=aB (by kernel_rfl)
theorem aFg:ajP P K x0 c4 x5 s7 aR aI aS cO L1 h=
 (bO cO false
 (OP (aF 0 s7) λcP=>
 OP (af false 1 h cP) λdC=>
 OP (aF 2 s7) λeT=>
 OP (af false 1 h eT) λgp=>
 OP (aj .sub (.int .i64 (1000)) gp) λfD=>
 OP (aj .gtr dC fD) λfX=>
 SA P K x0 c4 x5 s7 aR aI aS cO fX L1 h)
 (SA P K x0 c4 x5 s7 aR aI aS cO undef L1 h)):=aB (by kernel_rfl)
theorem aFf:Sy P K x0 c4 x5 s7 aR aI aS dH cU L1 h=
 (OP (bu dH (.bool true) cU) λer=>
 ajP P K x0 c4 x5 s7 aR aI aS er L1 h):=aB (by kernel_rfl)
theorem aFe:ajO P K x0 c4 x5 s7 aR aI aS dH L1 h=
 (bO dH false
 (OP (aF 2 s7) λdW=>
 OP (af false 1 h dW) λcI=>
 OP (aj .gtr cI (.int .i64 (1000))) λcU=>
 Sy P K x0 c4 x5 s7 aR aI aS dH cU L1 h)
 (Sy P K x0 c4 x5 s7 aR aI aS dH undef L1 h)):=aB (by kernel_rfl)
theorem aFd:Sx P K x0 c4 x5 s7 aR aI aS bZ aY L1 h=
 (OP (bu bZ (.bool true) aY) λbG=>
 ajO P K x0 c4 x5 s7 aR aI aS bG L1 h):=aB (by kernel_rfl)
theorem aFc:ajN P K x0 c4 x5 s7 aR aI aS bZ L1 h=
 (bO bZ false
 (OP (aF 2 s7) λcA=>
 OP (af false 1 h cA) λcB=>
 OP (aj .lss cB (.int .i64 (1))) λaY=>
 Sx P K x0 c4 x5 s7 aR aI aS bZ aY L1 h)
 (Sx P K x0 c4 x5 s7 aR aI aS bZ undef L1 h)):=aB (by kernel_rfl)
theorem aFb:Sw P K x0 c4 x5 s7 aR aI aS cL bz L1 h=
 (OP (bu cL (.bool true) bz) λdJ=>
 ajN P K x0 c4 x5 s7 aR aI aS dJ L1 h):=aB (by kernel_rfl)
theorem aFa:ajM P K x0 c4 x5 s7 aR aI aS cL L1 h=
 (bO cL false
 (OP (aF 1 s7) λb9=>
 OP (af false 1 h b9) λaV=>
 OP (aj .lss aV (.int .i64 (0))) λbz=>
 Sw P K x0 c4 x5 s7 aR aI aS cL bz L1 h)
 (Sw P K x0 c4 x5 s7 aR aI aS cL undef L1 h)):=aB (by kernel_rfl)
theorem aE9 (x0 c4 aR aI:Value) (L1:LQ) (x5 aS:Value) (h:ae):ajL P K x0 c4 aR aI L1 [x5,aS] h=
 (OP (aj .lss aS aI) λbL=>
 aJ bL
 (OP (aD 3 aR aS) λbB=>
 OP (af true 3 h bB) λbm=>
 OH (cF 24 [(.int .i64 (0)),(.int .i64 (0)),(.int .i64 (0))] h) λs7 z1=>
 OH (aU 3 z1 s7 bm) λ_ z2=>
 OP (aF 0 s7) λbH=>
 OP (af false 1 z2 bH) λbP=>
 OP (aj .lss bP (.int .i64 (0))) λbQ=>
 ajM P K x0 c4 x5 s7 aR aI aS bQ L1 z2)
 (ajR P K x0 c4 x5 h)):=aB (by kernel_rfl)
theorem aFo:SC P K x0 c4 x5 s9 eD eZ fv gG fH lM oU uh L1 L2 h=
 (OP (bu oU (.bool true) uh) λmZ=>
 aJ mZ
 (K (.tuple #[(.pointer none),(.int .i64 (2))]) h)
 (OP (aj .add lM (.int .i64 (1))) λVh=>
 ([x0,c4,x5,s9,eD,eZ,fv,gG,fH]:List Value)=[x0,c4,x5,s9,eD,eZ,fv,gG,fH]/\L2 [Vh] h)):=aB (by kernel_rfl)
theorem aFn:ajU P K x0 c4 x5 s9 t11 eD eZ fv gG fH lM oU L1 L2 h=
 (bO oU false
 (OP (af true 3 h s9) λsO=>
 OP (af true 3 h t11) λvT=>
 ay P 44 [sO,vT] h λdV z1=>
 OP (gE .not dV) λuh=>
 SC P K x0 c4 x5 s9 eD eZ fv gG fH lM oU uh L1 L2 z1)
 (SC P K x0 c4 x5 s9 eD eZ fv gG fH lM oU undef L1 L2 h)):=aB (by kernel_rfl)
theorem aFm (x0 c4 x5 s9 eD eZ fv gG fH:Value) (L1 L2:LQ) (lM:Value) (h:ae):ajT P K x0 c4 x5 s9 eD eZ fv gG fH L1 L2 [lM] h=
 (OP (aj .lss lM fH) λvS=>
 aJ vS
 (OP (aD 3 gG lM) λEb=>
 OP (af true 3 h Eb) λpI=>
 OH (cF 24 [(.int .i64 (0)),(.int .i64 (0)),(.int .i64 (0))] h) λt11 z1=>
 OH (aU 3 z1 t11 pI) λ_ z2=>
 OP (af true 3 z2 s9) λka=>
 OP (af true 3 z2 t11) λjT=>
 OP (A5 false 3 ka jT) λiT=>
 ajU P K x0 c4 x5 s9 t11 eD eZ fv gG fH lM iT L1 L2 z2)
 (ajV P K x0 c4 x5 eD eZ fv L1 h)):=aB (by kernel_rfl)
theorem aFp:ajV P K x0 c4 x5 eD eZ fv L1 h=
 (OP (aj .add fv (.int .i64 (1))) λnh=>
 ([x0,c4,x5,eD,eZ]:List Value)=[x0,c4,x5,eD,eZ]/\L1 [nh] h):=aB (by kernel_rfl)
theorem aFl (x0 c4 x5 eD eZ:Value) (L1:LQ) (fv:Value) (h:ae):ajS P K x0 c4 x5 eD eZ L1 [fv] h=
 (OP (aj .lss fv eZ) λoh=>
 aJ oh
 (OP (aD 3 eD fv) λvY=>
 OP (af true 3 h vY) λnL=>
 OH (cF 24 [(.int .i64 (0)),(.int .i64 (0)),(.int .i64 (0))] h) λs9 z1=>
 OH (aU 3 z1 s9 nL) λ_ z2=>
 OP (fP 24 3 x0 none (some fv)) λgG=>
 OP (aT gG) λfH=>
 bT [(.int .i64 (0))] z2 λL2 xs hx=>
 ajT P K x0 c4 x5 s9 eD eZ fv gG fH L1 L2 xs hx)
 (ajW P K c4 x5 h)):=aB (by kernel_rfl)
theorem aFq:ajW P K c4 x5 h=
 (OP (aj .eql x5 (.int .i64 (0))) λmf=>
 bO mf false
 (OP (eI c4) λqG=>
 OP (aF 1 qG) λzP=>
 OP (af false 1 h zP) λoV=>
 (True)/\
 OP (eI c4) λqH=>
 OP (aF 2 qH) λvV=>
 OP (af false 1 h vV) λhG=>
 (True)/\
 OP (aj .mul oV hG) λkc=>
 OP (aj .neq x5 kc) λkA=>
 OP (bu mf (.bool true) kA) λpJ=>
 aJ pJ
 (K (.tuple #[(.pointer none),(.int .i64 (2))]) h)
 (OP (eI c4) λVi=>
 OP (aF 0 Vi) λpK=>
 OP (af false 1 h pK) λqI=>
 ay P 45 [qI,(.func (.func 46) #[] #[])] h λ_ z1=>
 K (.tuple #[c4,(.int .i64 (0))]) z1))
 (OP (bu mf (.bool true) undef) λpJ=>
 aJ pJ
 (K (.tuple #[(.pointer none),(.int .i64 (2))]) h)
 (OP (eI c4) λVi=>
 OP (aF 0 Vi) λpK=>
 OP (af false 1 h pK) λqI=>
 ay P 45 [qI,(.func (.func 46) #[] #[])] h λ_ z1=>
 K (.tuple #[c4,(.int .i64 (0))]) z1))):=aB (by kernel_rfl)
theorem aFk:ajR P K x0 c4 x5 h=
 (OP (aT x0) λeZ=>
 bT [(.int .i64 (0))] h λL1 xs hx=>
 ajS P K x0 c4 x5 x0 eZ L1 xs hx):=aB (by kernel_rfl)
def Mo:Prop:=
 OP (aT x0) λaC=>
 OP (aj .gtr aC (.int .i64 (24))) λaP=>
 aJ aP
 (K (.tuple #[(.pointer none),(.int .i64 (3))]) h)
 (ay P 43 [x0] h λaZ z1=>
 OP (eG [(.slice none 0 0),(.int .i64 (0)),(.int .i64 (0))] [(0,1,aZ)]) λbM=>
 OH (cR 77 z1 bM) λbA z2=>
 OP (aT x0) λaI=>
 bT [(.int .i64 (0)),(.int .i64 (0))] z2 λL1 xs hx=>
 ajL P K x0 bA x0 aI L1 xs hx)
theorem e22:au P Gh (aW [.tmp 2,.tmp 3] K) (cd [x0]) h=Mo P K x0 h:=by kernel_rfl
theorem f22 {K:VK} {x0:Value} {h:ae} (H:Mo prog K x0 h):ay prog 22 [x0] h K:=
 cC k22 (cE rfl) ((e22 prog K x0 h).mpr H)
end
noncomputable section
variable (c0 x3 x6 aC aP aX ee fI fg : Value) (L1 : LQ) (xs : List Value) (h : ae)
def aho:=cg prog 23 [[],[],[],[13,14],[3,15],[],[],[],[],[3],[],[],[],[51,52],[6,53],[],[],[],[],[],[6,51,52,53],[6],[]]
@[irreducible] def Gj:=cD aho
@[irreducible] def av6:=Gj.r.r.l.r.l.l
@[irreducible] def ZM:=Gj.r.r.r
@[irreducible] def Oa:=ZM.l
@[irreducible] def ZL:=Oa.r.r.l.r.l.l
@[irreducible] def ZK:=Oa.r.r.r
@[irreducible] def av4:=ZL.r.r.r.l
@[irreducible] def av5:=ZK.l
theorem k23:aho=some (94,Gj,[.tmp 2]):=by kernel_rfl
def Ag (_P:Program) (K:VK):ax:=aW [.tmp 2] K
def aqL:ax:=aH (au P ZM (Ag P K)) (Ag P K)
def aqM:ax:=bC 0 (aqL P K)
def aqN:ax:=aH (λf' aQ=>(([13,14]:List Nat).map f':List Value)=[aC,aP]/\L1 (([3,15]:List Nat).map f') aQ) (aqM P K)
def aqJ:ax:=aH (au P ZK (Ag P K)) (Ag P K)
def aqK:ax:=bC 2 (aqJ P K)
def WZ:ax:=aH (λf' aQ=>(([51,52]:List Nat).map f':List Value)=[ee,fI]/\L1 (([6,53]:List Nat).map f') aQ) (aqK P K)
def aj0:Prop:=aA (au P av6 (aqN P K aC aP L1)) ([13,14]++[3,15]) ([aC,aP]++xs) h
def ajX:Prop:=aA (au P Oa (Ag P K)) [3] [x3] h
def ajY:Prop:=aA (au P ZL (WZ P K ee fI L1)) ([51,52]++[6,53]) ([ee,fI]++xs) h
def zy:Prop:=aA (au P av4 (WZ P K ee fI L1)) [6,51,52,53] [x6,ee,fI,fg] h
def ajZ:Prop:=aA (au P av5 (Ag P K)) [6] [x6] h
theorem aFu (aC aP:Value) (L1:LQ) (x3 aX:Value) (h:ae):aj0 P K aC aP L1 [x3,aX] h=
 (OP (aj .lss aX aP) λaZ=>
 aJ aZ
 (OP (aD 3 aC aX) λbM=>
 OP (af true 3 h bM) λbA=>
 OH (cF 24 [(.int .i64 (0)),(.int .i64 (0)),(.int .i64 (0))] h) λs5 z1=>
 OH (aU 3 z1 s5 bA) λ_ z2=>
 OP (aF 1 s5) λaI=>
 OP (af false 1 z2 aI) λaS=>
 OP (aF 0 s5) λbL=>
 OP (af false 1 z2 bL) λbB=>
 OP (aF 0 s5) λbm=>
 OP (af false 1 z2 bm) λbH=>
 OP (aF 2 s5) λbP=>
 OP (af false 1 z2 bP) λbQ=>
 OP (aj .add bH bQ) λcL=>
 OP (eG [(.int .i64 (0)),(.int .i64 (0)),(.int .i64 (0))] [(0,1,aS),(1,1,bB),(2,1,cL)]) λb9=>
 OP (aF 1 s5) λaV=>
 OP (af false 1 z2 aV) λbz=>
 OP (aF 2 s5) λdJ=>
 OP (af false 1 z2 dJ) λbZ=>
 OP (aj .add bz bZ) λcA=>
 OP (aF 0 s5) λcB=>
 OP (af false 1 z2 cB) λaY=>
 OP (aF 0 s5) λbG=>
 OP (af false 1 z2 bG) λdH=>
 OP (aF 2 s5) λdW=>
 OP (af false 1 z2 dW) λcI=>
 OP (aj .add dH cI) λcU=>
 OP (eG [(.int .i64 (0)),(.int .i64 (0)),(.int .i64 (0))] [(0,1,cA),(1,1,aY),(2,1,cU)]) λer=>
 OH (cH 73 2 [(.int .i64 (0)),(.int .i64 (0)),(.int .i64 (0))] z2 [(0,3,b9),(3,3,er)]) λcO z3=>
 OH (cT 73 3 24 z3 x3 cO) λcP z4=>
 OP (aj .add aX (.int .i64 (1))) λdC=>
 ([aC,aP]:List Value)=[aC,aP]/\L1 [cP,dC] z4)
 (ajX P K x3 h)):=aB (by kernel_rfl)
theorem amY:zy P K x6 ee fI fg L1 h=
 (OP (aj .add fg (.int .i64 (1))) λlO=>
 ([ee,fI]:List Value)=[ee,fI]/\L1 [x6,lO] h):=aB (by kernel_rfl)
theorem aFs (ee fI:Value) (L1:LQ) (x6 fg:Value) (h:ae):ajY P K ee fI L1 [x6,fg] h=
 (OP (aj .lss fg fI) λgv=>
 aJ gv
 (OP (aD 3 ee fg) λfJ=>
 OP (af true 3 h fJ) λgV=>
 OH (cF 73 [(.int .i64 (0)),(.int .i64 (0)),(.int .i64 (0))] h) λl8 z1=>
 OH (aU 3 z1 l8 gV) λ_ z2=>
 OP (aT x6) λiZ=>
 OP (aj .sub iZ (.int .i64 (1))) λgI=>
 OP (aD 3 x6 gI) λfT=>
 OP (eI fT) λhI=>
 OP (aF 0 hI) λke=>
 OP (af false 1 z2 ke) λjy=>
 (True)/\
 OP (aF 0 l8) λkZ=>
 OP (af false 1 z2 kZ) λgw=>
 (True)/\
 OP (aj .eql jy gw) λfA=>
 bO fA true
 (OP (aF 1 l8) λdj=>
 OP (af false 1 z2 dj) λgy=>
 (True)/\
 OP (eI fT) λlh=>
 OP (aF 2 lh) λiW=>
 OP (af false 1 z2 iW) λfE=>
 (True)/\
 OP (aj .leq gy fE) λiL=>
 OP (bu fA iL (.bool false)) λkO=>
 aJ kO
 (OP (eI fT) λkf=>
 OP (aF 2 kf) λcK=>
 OP (af false 1 z2 cK) λdB=>
 (True)/\
 OP (aF 2 l8) λgW=>
 OP (af false 1 z2 gW) λgJ=>
 (True)/\
 OP (lI true [dB,gJ]) λjU=>
 OP (eI fT) λjV=>
 OP (aF 2 jV) λkh=>
 OH (aU 1 z2 kh jU) λ_ z3=>
 (True)/\
 zy P K x6 ee fI fg L1 z3)
 (OP (af true 3 z2 l8) λeP=>
 OH (cH 73 1 [(.int .i64 (0)),(.int .i64 (0)),(.int .i64 (0))] z2 [(0,3,eP)]) λkH z3=>
 OH (cT 73 3 24 z3 x6 kH) λjq z4=>
 zy P K jq ee fI fg L1 z4))
 (OP (bu fA undef (.bool false)) λkO=>
 aJ kO
 (OP (eI fT) λkf=>
 OP (aF 2 kf) λcK=>
 OP (af false 1 z2 cK) λdB=>
 (True)/\
 OP (aF 2 l8) λgW=>
 OP (af false 1 z2 gW) λgJ=>
 (True)/\
 OP (lI true [dB,gJ]) λjU=>
 OP (eI fT) λjV=>
 OP (aF 2 jV) λkh=>
 OH (aU 1 z2 kh jU) λ_ z3=>
 (True)/\
 zy P K x6 ee fI fg L1 z3)
 (OP (af true 3 z2 l8) λeP=>
 OH (cH 73 1 [(.int .i64 (0)),(.int .i64 (0)),(.int .i64 (0))] z2 [(0,3,eP)]) λkH z3=>
 OH (cT 73 3 24 z3 x6 kH) λjq z4=>
 zy P K jq ee fI fg L1 z4)))
 (ajZ P K x6 h)):=aB (by kernel_rfl)
theorem aFt:ajZ P K x6 h=
 (K x6 h):=aB (by kernel_rfl)
theorem aFr:ajX P K x3 h=
 (ay P 47 [x3,(.func (.func 48) #[] #[])] h λ_ z1=>
 OP (fP 73 3 x3 none (some (.int .i64 (1)))) λfX=>
 OP (fP 73 3 x3 (some (.int .i64 (1))) none) λee=>
 OP (aT ee) λfI=>
 bT [fX,(.int .i64 (0))] z1 λL1 xs hx=>
 ajY P K ee fI L1 xs hx):=aB (by kernel_rfl)
def Mp:Prop:=
 OP (eI c0) λaG=>
 OP (aF 0 aG) λaM=>
 OP (af false 1 h aM) λaC=>
 OP (aT aC) λaP=>
 bT [(.slice none 0 0),(.int .i64 (0))] h λL1 xs hx=>
 aj0 P K aC aP L1 xs hx
theorem Hy:au P Gj (aW [.tmp 2] K) (cd [c0]) h=Mp P K c0 h:=by kernel_rfl
theorem f23 {K:VK} {c0:Value} {h:ae} (H:Mp prog K c0 h):ay prog 23 [c0] h K:=
 cC k23 (cE rfl) ((Hy prog K c0 h).mpr H)
end
noncomputable section
variable (x0 y1 x2 : Value) (h : ae)
def ahp:=cg prog 24 [[],[]]
@[irreducible] def ZN:=cD ahp
theorem k24:ahp=some (9,ZN,[.tmp 5]):=by kernel_rfl
def Mq:Prop:=
 OH (cR 3 h x0) λx3 z1=>
 OH (cR 3 z1 y1) λy4 z2=>
 OP (af false 1 z2 x2) λx6=>
 ay P 25 [x6,(.func (.func 26) #[] #[y4,x3])] z2 λx8 z3=>
 K x8 z3
theorem e24:au P ZN (aW [.tmp 5] K) (cd [x0,y1,x2]) h=Mq P K x0 y1 x2 h:=by kernel_rfl
theorem f24 {K:VK} {x0 y1 x2:Value} {h:ae} (H:Mq prog K x0 y1 x2 h):ay prog 24 [x0,y1,x2] h K:=
 cC k24 (cE rfl) ((e24 prog K x0 y1 x2 h).mpr H)
end
noncomputable section
variable (s0 f1 x7 x8 : Value) (L1 : LQ) (xs : List Value) (h : ae)
def ahq:=cg prog 25 [[],[],[0,1,7],[8],[],[],[],[],[],[],[],[]]
@[irreducible] def Gk:=cD ahq
@[irreducible] def av8:=Gk.r.l.r.l.l
@[irreducible] def av7:=Gk.r.r
theorem k25:ahq=some (19,Gk,[.tmp 4]):=by kernel_rfl
def W0 (_P:Program) (K:VK):ax:=aW [.tmp 4] K
def aqO:ax:=aH (au P av7 (W0 P K)) (W0 P K)
def aqP:ax:=bC 0 (aqO P K)
def aqQ:ax:=aH (λf' aQ=>(([0,1,7]:List Nat).map f':List Value)=[s0,f1,x7]/\L1 (([8]:List Nat).map f') aQ) (aqP P K)
def aj1:Prop:=aA (au P av8 (aqQ P K s0 f1 x7 L1)) ([0,1,7]++[8]) ([s0,f1,x7]++xs) h
theorem aFv (s0 f1 x7:Value) (L1:LQ) (x8:Value) (h:ae):aj1 P K s0 f1 x7 L1 [x8] h=
 (OP (aj .lss x8 x7) λx9=>
 aJ x9
 (OP (aD 3 s0 x8) λaP=>
 OP (af true 3 h aP) λaX=>
 sR P f1 [aX] h λaZ z1=>
 aJ aZ
 (K x8 z1)
 (OP (aj .add x8 (.int .i64 (1))) λbA=>
 ([s0,f1,x7]:List Value)=[s0,f1,x7]/\L1 [bA] z1))
 (K (.int .i64 (-1)) h)):=aB (by kernel_rfl)
def Mr:Prop:=
 OP (aT s0) λx7=>
 bT [(.int .i64 (0))] h λL1 xs hx=>
 aj1 P K s0 f1 x7 L1 xs hx
theorem AB:au P Gk (aW [.tmp 4] K) (cd [s0,f1]) h=Mr P K s0 f1 h:=by kernel_rfl
theorem f25 {K:VK} {s0 f1:Value} {h:ae} (H:Mr prog K s0 f1 h):ay prog 25 [s0,f1] h K:=
 cC k25 (cE rfl) ((AB prog K s0 f1 h).mpr H)
end
noncomputable section
variable (l0 x1 x2 l3 x9 aC aX aR : Value) (h : ae)
def ahr:=cg prog 26 [[],[2,3,9],[2,3,9,13],[2,3,15],[15,19],[]]
@[irreducible] def Gl:=cD ahr
@[irreducible] def ZO:=Gl.r.l.r.l
@[irreducible] def awa:=Gl.r.r
@[irreducible] def ZP:=ZO.r.l
@[irreducible] def ZQ:=ZP.r.l
@[irreducible] def av9:=ZQ.r.l
theorem k26:ahr=some (21,Gl,[.tmp 4]):=by kernel_rfl
def W1 (_P:Program) (K:VK):ax:=aW [.tmp 4] K
def EV:ax:=aH (au P awa (W1 P K)) (W1 P K)
def aj2:Prop:=aA (au P ZO (EV P K)) [2,3,9] [x2,l3,x9] h
def SE:Prop:=aA (au P ZP (EV P K)) [2,3,9,13] [x2,l3,x9,aC] h
def aj3:Prop:=aA (au P ZQ (EV P K)) [2,3,15] [x2,l3,aX] h
def SD:Prop:=aA (au P av9 (EV P K)) [15,19] [aX,aR] h
theorem Us:SD P K aX aR h=
 (OP (bu aX aR (.bool false)) λaI=>
 K aI h):=aB (by kernel_rfl)
theorem am0:aj3 P K x2 l3 aX h=
 (bO aX true
 (OP (af false 1 h x2) λaZ=>
 OP (aF 2 l3) λbM=>
 OP (af false 1 h bM) λbA=>
 OP (aj .lss aZ bA) λaR=>
 SD P K aX aR h)
 (SD P K aX undef h)):=aB (by kernel_rfl)
theorem amZ:SE P K x2 l3 x9 aC h=
 (OP (bu x9 aC (.bool false)) λaP=>
 aj3 P K x2 l3 aP h):=aB (by kernel_rfl)
theorem aFw:aj2 P K x2 l3 x9 h=
 (bO x9 true
 (OP (aF 1 l3) λaE=>
 OP (af false 1 h aE) λaG=>
 OP (af false 1 h x2) λaM=>
 OP (aj .leq aG aM) λaC=>
 SE P K x2 l3 x9 aC h)
 (SE P K x2 l3 x9 undef h)):=aB (by kernel_rfl)
def Ms:Prop:=
 OH (cR 73 h l0) λl3 z1=>
 OP (aF 0 l3) λx5=>
 OP (af false 1 z1 x5) λx6=>
 OP (af false 1 z1 x1) λx7=>
 OP (aj .eql x6 x7) λx8=>
 aj2 P K x2 l3 x8 z1
theorem e26:au P Gl (aW [.tmp 4] K) (cd [l0,x1,x2]) h=Ms P K l0 x1 x2 h:=by kernel_rfl
theorem f26 {K:VK} {l0 x1 x2:Value} {h:ae} (H:Ms prog K l0 x1 x2 h):ay prog 26 [l0,x1,x2] h K:=
 cC k26 (cE rfl) ((e26 prog K l0 x1 x2 h).mpr H)
end
noncomputable section
variable (s0 : Value) (h : ae)
def ahJ:=cg prog 43 [[],[],[],[],[]]
@[irreducible] def c43:=cD ahJ
theorem k43:ahJ=some (8,c43,[.tmp 2]):=by kernel_rfl
def MK (_:Program) (K:VK) (s0:Value) (h:ae):Prop:=
 OP (oG false s0 (.slice none 0 0)) λx4=>
 aJ x4
 (K (.slice none 0 0) h)
 (OH (cH 24 0 [(.int .i64 (0)),(.int .i64 (0)),(.int .i64 (0))] h []) λx5 z1=>
 OH (cT 24 3 24 z1 x5 s0) λx7 z2=>
 K x7 z2)
theorem Hz:au P c43 (aW [.tmp 2] K) (cd [s0]) h=MK P K s0 h:=by kernel_rfl
theorem f43 {K:VK} {s0:Value} {h:ae} (H:MK prog K s0 h):ay prog 43 [s0] h K:=
 cC k43 (cE rfl) ((Hz prog K s0 h).mpr H)
end
noncomputable section
variable (a0 b1 a2 b3 aC aS bB bz bZ cU : Value) (h : ae)
def ahK:=cg prog 44 [[],[2,3,13],[2,3,13,21],[2,3,23],[2,3,23,31],[2,3,33],[33,41],[]]
@[irreducible] def GD:=cD ahK
@[irreducible] def abk:=GD.r.l.r.l
@[irreducible] def axe:=GD.r.r
@[irreducible] def abl:=abk.r.l
@[irreducible] def abm:=abl.r.l
@[irreducible] def abi:=abm.r.l
@[irreducible] def abj:=abi.r.l
@[irreducible] def axd:=abj.r.l
theorem k44:ahK=some (43,GD,[.tmp 4]):=by kernel_rfl
def Xw (_P:Program) (K:VK):ax:=aW [.tmp 4] K
def Ak:ax:=aH (au P axe (Xw P K)) (Xw P K)
def ak7:Prop:=aA (au P abk (Ak P K)) [2,3,13] [a2,b3,aC] h
def Tx:Prop:=aA (au P abl (Ak P K)) [2,3,13,21] [a2,b3,aC,aS] h
def ak8:Prop:=aA (au P abm (Ak P K)) [2,3,23] [a2,b3,bB] h
def Tv:Prop:=aA (au P abi (Ak P K)) [2,3,23,31] [a2,b3,bB,bz] h
def ak6:Prop:=aA (au P abj (Ak P K)) [2,3,33] [a2,b3,bZ] h
def Tw:Prop:=aA (au P axd (Ak P K)) [33,41] [bZ,cU] h
theorem JP:Tw P K bZ cU h=
 (OP (bu bZ (.bool true) cU) λer=>
 K er h):=aB (by kernel_rfl)
theorem JO:ak6 P K a2 b3 bZ h=
 (bO bZ false
 (OP (aF 1 b3) λcA=>
 OP (af false 1 h cA) λcB=>
 OP (aF 2 b3) λaY=>
 OP (af false 1 h aY) λbG=>
 OP (aj .add cB bG) λdH=>
 OP (aF 1 a2) λdW=>
 OP (af false 1 h dW) λcI=>
 OP (aj .leq dH cI) λcU=>
 Tw P K bZ cU h)
 (Tw P K bZ undef h)):=aB (by kernel_rfl)
theorem JN:Tv P K a2 b3 bB bz h=
 (OP (bu bB (.bool true) bz) λdJ=>
 ak6 P K a2 b3 dJ h):=aB (by kernel_rfl)
theorem Uw:ak8 P K a2 b3 bB h=
 (bO bB false
 (OP (aF 1 a2) λbm=>
 OP (af false 1 h bm) λbH=>
 OP (aF 2 a2) λbP=>
 OP (af false 1 h bP) λbQ=>
 OP (aj .add bH bQ) λcL=>
 OP (aF 1 b3) λb9=>
 OP (af false 1 h b9) λaV=>
 OP (aj .leq cL aV) λbz=>
 Tv P K a2 b3 bB bz h)
 (Tv P K a2 b3 bB undef h)):=aB (by kernel_rfl)
theorem Uv:Tx P K a2 b3 aC aS h=
 (OP (bu aC (.bool true) aS) λbL=>
 ak8 P K a2 b3 bL h):=aB (by kernel_rfl)
theorem ana:ak7 P K a2 b3 aC h=
 (bO aC false
 (OP (aF 0 b3) λaP=>
 OP (af false 1 h aP) λaX=>
 OP (aF 2 b3) λaZ=>
 OP (af false 1 h aZ) λbM=>
 OP (aj .add aX bM) λbA=>
 OP (aF 0 a2) λaR=>
 OP (af false 1 h aR) λaI=>
 OP (aj .leq bA aI) λaS=>
 Tx P K a2 b3 aC aS h)
 (Tx P K a2 b3 aC undef h)):=aB (by kernel_rfl)
def ML:Prop:=
 OH (cR 24 h a0) λa2 z1=>
 OH (cR 24 z1 b1) λb3 z2=>
 OP (aF 0 a2) λx5=>
 OP (af false 1 z2 x5) λx6=>
 OP (aF 2 a2) λx7=>
 OP (af false 1 z2 x7) λx8=>
 OP (aj .add x6 x8) λx9=>
 OP (aF 0 b3) λaE=>
 OP (af false 1 z2 aE) λaG=>
 OP (aj .leq x9 aG) λaM=>
 ak7 P K a2 b3 aM z2
theorem e44:au P GD (aW [.tmp 4] K) (cd [a0,b1]) h=ML P K a0 b1 h:=by kernel_rfl
theorem f44 {K:VK} {a0 b1:Value} {h:ae} (H:ML prog K a0 b1 h):ay prog 44 [a0,b1] h K:=
 cC k44 (cE rfl) ((e44 prog K a0 b1 h).mpr H)
end
noncomputable section
variable (a0 b1 : Value) (h : ae)
def ahL:=cg prog 46 [[],[]]
@[irreducible] def c46:=cD ahL
theorem k46:ahL=some (16,c46,[.tmp 4]):=by kernel_rfl
def MM:Prop:=
 OH (cR 24 h a0) λa2 z1=>
 OH (cR 24 z1 b1) λb3 z2=>
 OP (aF 1 a2) λx5=>
 OP (af false 1 z2 x5) λx6=>
 OP (aF 0 a2) λx7=>
 OP (af false 1 z2 x7) λx8=>
 OH (cH 3 2 [(.int .i64 (0))] z2 [(0,1,x6),(1,1,x8)]) λx9 z3=>
 OP (aF 1 b3) λaE=>
 OP (af false 1 z3 aE) λaG=>
 OP (aF 0 b3) λaM=>
 OP (af false 1 z3 aM) λaC=>
 OH (cH 3 2 [(.int .i64 (0))] z3 [(0,1,aG),(1,1,aC)]) λaP z4=>
 ay P 49 [x9,aP] z4 λaX z5=>
 K aX z5
theorem e46:au P c46 (aW [.tmp 4] K) (cd [a0,b1]) h=MM P K a0 b1 h:=by kernel_rfl
theorem f46 {K:VK} {a0 b1:Value} {h:ae} (H:MM prog K a0 b1 h):ay prog 46 [a0,b1] h K:=
 cC k46 (cE rfl) ((e46 prog K a0 b1 h).mpr H)
end
noncomputable section
variable (a0 b1 : Value) (h : ae)
def ahM:=cg prog 48 [[],[]]
@[irreducible] def c48:=cD ahM
theorem k48:ahM=some (20,c48,[.tmp 4]):=by kernel_rfl
def MN:Prop:=
 OH (cR 73 h a0) λa2 z1=>
 OH (cR 73 z1 b1) λb3 z2=>
 OP (aF 0 a2) λx5=>
 OP (af false 1 z2 x5) λx6=>
 OP (aF 1 a2) λx7=>
 OP (af false 1 z2 x7) λx8=>
 OP (aF 2 a2) λx9=>
 OP (af false 1 z2 x9) λaE=>
 OH (cH 3 3 [(.int .i64 (0))] z2 [(0,1,x6),(1,1,x8),(2,1,aE)]) λaG z3=>
 OP (aF 0 b3) λaM=>
 OP (af false 1 z3 aM) λaC=>
 OP (aF 1 b3) λaP=>
 OP (af false 1 z3 aP) λaX=>
 OP (aF 2 b3) λaZ=>
 OP (af false 1 z3 aZ) λbM=>
 OH (cH 3 3 [(.int .i64 (0))] z3 [(0,1,aC),(1,1,aX),(2,1,bM)]) λbA z4=>
 ay P 49 [aG,bA] z4 λaR z5=>
 K aR z5
theorem e48:au P c48 (aW [.tmp 4] K) (cd [a0,b1]) h=MN P K a0 b1 h:=by kernel_rfl
theorem f48 {K:VK} {a0 b1:Value} {h:ae} (H:MN prog K a0 b1 h):ay prog 48 [a0,b1] h K:=
 cC k48 (cE rfl) ((e48 prog K a0 b1 h).mpr H)
end
noncomputable section
variable (x9 j5 aE aG lK : Value) (L1 : LQ) (xs : List Value) (h : ae)
def ahN:=cg prog 49 [[],[],[0,1,9,10],[11],[],[],[],[],[],[],[],[],[],[],[],[0,1],[],[],[],[]]
@[irreducible] def GF:=cD ahN
@[irreducible] def axg:=GF.r.l.r.l.l
@[irreducible] def abp:=GF.r.r
@[irreducible] def axf:=abp.l
theorem k49:ahN=some (36,GF,[.tmp 4]):=by kernel_rfl
def Lb (_P:Program) (K:VK):ax:=aW [.tmp 4] K
def arZ:ax:=aH (au P abp (Lb P K)) (Lb P K)
def ar0:ax:=bC 0 (arZ P K)
def ar1 (j5 lK x9 aE:Value) (L1:LQ):ax:=aH (λf' aQ=>(([0,1,9,10]:List Nat).map f':List Value)=[j5,lK,x9,aE]/\L1 (([11]:List Nat).map f') aQ) (ar0 P K)
def ala (j5 lK x9 aE:Value) (L1:LQ) (xs:List Value) (h:ae):Prop:=aA (au P axg (ar1 P K j5 lK x9 aE L1)) ([0,1,9,10]++[11]) ([j5,lK,x9,aE]++xs) h
def ak9:Prop:=aA (au P axf (Lb P K)) [0,1] [j5,lK] h
theorem aHj (j5 lK x9 aE:Value) (L1:LQ) (aG:Value) (h:ae):ala P K j5 lK x9 aE L1 [aG] h=
 (OP (aj .lss aG aE) λaM=>
 aJ aM
 (OP (aD 1 x9 aG) λaP=>
 OP (af false 1 h aP) λaX=>
 OP (aT lK) λbA=>
 OP (aj .geq aG bA) λaR=>
 aJ aR
 (K (.int .i64 (1)) h)
 (OP (aD 1 lK aG) λbL=>
 OP (af false 1 h bL) λbB=>
 ay P 74 [aX,bB] h λbP z1=>
 OP (aj .neq bP (.int .i64 (0))) λcL=>
 aJ cL
 (K bP z1)
 (OP (aj .add aG (.int .i64 (1))) λaV=>
 ([j5,lK,x9,aE]:List Value)=[j5,lK,x9,aE]/\L1 [aV] z1)))
 (ak9 P K j5 lK h)):=aB (by kernel_rfl)
theorem aHi:ak9 P K j5 lK h=
 (OP (aT j5) λdJ=>
 OP (aT lK) λcA=>
 OP (aj .lss dJ cA) λcB=>
 aJ cB
 (K (.int .i64 (-1)) h)
 (K (.int .i64 (0)) h)):=aB (by kernel_rfl)
def MO:Prop:=
 OP (aT j5) λaE=>
 bT [(.int .i64 (0))] h λL1 xs hx=>
 ala P K j5 lK j5 aE L1 xs hx
theorem e49:au P GF (aW [.tmp 4] K) (cd [j5,lK]) h=MO P K j5 lK h:=by kernel_rfl
theorem f49 {K:VK} {j5 lK:Value} {h:ae} (H:MO prog K j5 lK h):ay prog 49 [j5,lK] h K:=
 cC k49 (cE rfl) ((e49 prog K j5 lK h).mpr H)
end
noncomputable section
variable (x0 y1 : Value) (h : ae)
def aic:=cg prog 74 [[],[],[],[],[],[],[],[],[],[],[],[],[],[],[],[],[],[],[]]
@[irreducible] def c74:=cD aic
theorem k74:aic=some (20,c74,[.tmp 4]):=by kernel_rfl
def Nc:Prop:=
 ay P 115 [x0] h λx8 z1=>
 ay P 115 [y1] z1 λaE z2=>
 aJ x8
 (aJ aE
 (K (.int .i64 (0)) z2)
 (K (.int .i64 (-1)) z2))
 (aJ aE
 (K (.int .i64 (1)) z2)
 (OP (aj .lss x0 y1) λaZ=>
 aJ aZ
 (K (.int .i64 (-1)) z2)
 (OP (aj .gtr x0 y1) λaR=>
 aJ aR
 (K (.int .i64 (1)) z2)
 (K (.int .i64 (0)) z2))))
theorem e74:au P c74 (aW [.tmp 4] K) (cd [x0,y1]) h=Nc P K x0 y1 h:=by kernel_rfl
theorem f74 {K:VK} {x0 y1:Value} {h:ae} (H:Nc prog K x0 y1 h):ay prog 74 [x0,y1] h K:=
 cC k74 (cE rfl) ((e74 prog K x0 y1 h).mpr H)
end
noncomputable section
variable (x0 : Value) (h : ae)
def agO:=cg prog 115 [[],[]]
@[irreducible] def Yr:=cD agO
theorem aCf:agO=some (6,Yr,[.tmp 2]):=by kernel_rfl
def LK (_:Program) (K:VK) (x0:Value) (h:ae):Prop:=
 OP (aj .neq x0 x0) λx5=>
 K x5 h
theorem azC:au P Yr (aW [.tmp 2] K) (cd [x0]) h=LK P K x0 h:=by kernel_rfl
theorem f115 {K:VK} {x0:Value} {h:ae} (H:LK prog K x0 h):ay prog 115 [x0] h K:=
 cC aCf (cE rfl) ((azC prog K x0 h).mpr H)
end
end
end Go.Proofs.YtncaiogfjjepcaaGreat
namespace Go.Sim
section
abbrev gX:=Nat×Nat×Nat
inductive eu:List gX->Nat->Nat->List Nat->Prop
 | start {s:Nat}:1<=s->eu [(0,0,s)] s s [0,s]
 | right {l:List gX} {w h:Nat} {ys:List Nat}:eu l w h ys->eu (l++[(w,0,h)]) (w+h) h ys
 | under {l:List gX} {w h:Nat} {ys:List Nat}:eu l w h ys->eu (l++[(0,h,w)]) w (h+w) (ys++[h+w])
namespace eu
variable {l : List gX} {w h : Nat} {ys : List Nat}
theorem pos (c:eu l w h ys):1<=w/\1<=h/\1<=l.length:=by
 induction c with
 | start hs=>simp [hs]
 | right _ ih=>rw [length_append];omega
 | under _ ih=>rw [length_append];omega
theorem bound (c:eu l w h ys):∀q∈l,1<=q.2.2/\q.1+q.2.2<=w/\q.2.1+q.2.2<=h:=by
 induction c with
 | start hs=>intro q hq;rw [mem_singleton] at hq;subst hq;simp [hs]
 | right c ih=>
  intro q hq
  have:=c.pos
  rcases mem_append.1 hq with hq | hq
  ·have:=ih q hq;omega
  ·rw [mem_singleton] at hq;subst hq;simp;omega
 | under c ih=>
  intro q hq
  have:=c.pos
  rcases mem_append.1 hq with hq | hq
  ·have:=ih q hq;omega
  ·rw [mem_singleton] at hq;subst hq;simp;omega
theorem adk (c:eu l w h ys):(∃q∈l,q.2.1=0/\q.1+q.2.2=w)/\∃q∈l,q.2.1+q.2.2=h/\q.1+q.2.2=w:=by
 induction c with
 | @start s hs=>exact ⟨⟨(0,0,s),by simp,rfl,by simp⟩,(0,0,s),by simp,by simp,by simp⟩
 | @right l w h ys c ih=>exact ⟨⟨(w,0,h),by simp,rfl,rfl⟩,(w,0,h),by simp,by simp,rfl⟩
 | @under l w h ys c ih=>
  obtain ⟨⟨q,h1,h2⟩,_⟩:=ih
  exact ⟨⟨q,mem_append_left _ h1,h2⟩,(0,h,w),by simp,rfl,by simp⟩
def wz (q:gX) (y:Nat):Prop:=q.2.1=y∨q.2.1+q.2.2=y
theorem aKP (c:eu l w h ys):∀q∈l,∀y,wz q y->0<q.1->∃p∈l,wz p y/\p.1+p.2.2=q.1:=by
 induction c with
 | start hs=>intro q hq y _ h0;rw [mem_singleton] at hq;subst hq;simp at h0
 | @right l w h ys c ih=>
  intro q hq y he h0
  rcases mem_append.1 hq with hq | hq
  ·obtain ⟨p,p1,p2,p3⟩:=ih q hq y he h0
   exact ⟨p,mem_append_left _ p1,p2,p3⟩
  ·rw [mem_singleton] at hq
   subst hq
   obtain ⟨⟨a,a1,a2,a3⟩,b,b1,b2,b3⟩:=c.adk
   rcases he with he | he
   ·exact ⟨a,mem_append_left _ a1,.inl (a2.trans he),a3⟩
   ·refine ⟨b,mem_append_left _ b1,.inr ?_,b3⟩
    simp at he;omega
 | @under l w h ys c ih=>
  intro q hq y he h0
  rcases mem_append.1 hq with hq | hq
  ·obtain ⟨p,p1,p2,p3⟩:=ih q hq y he h0
   exact ⟨p,mem_append_left _ p1,p2,p3⟩
  ·rw [mem_singleton] at hq;subst hq;simp at h0
theorem apart (c:eu l w h ys):l.Pairwise λa b=>a.1+a.2.2<=b.1∨a.2.1+a.2.2<=b.2.1:=by
 induction c with
 | start _=>simp
 | @right l w h ys c ih=>
  rw [pairwise_append]
  refine ⟨ih,by simp,λa ha b hb=>?_⟩
  rw [mem_singleton] at hb;subst hb
  exact .inl (c.bound a ha).2.1
 | @under l w h ys c ih=>
  rw [pairwise_append]
  refine ⟨ih,by simp,λa ha b hb=>?_⟩
  rw [mem_singleton] at hb;subst hb
  exact .inr (c.bound a ha).2.2
theorem auo (c:eu l w h ys):(l.map λq=>q.2.2*q.2.2).sum=w*h:=by
 induction c with
 | start _=>simp
 | right _ ih=>rw [map_append,List.sum_append,ih];simp [Nat.add_mul]
 | under _ ih=>rw [map_append,List.sum_append,ih];simp [Nat.mul_add]
def kV (l:List gX) (y:Nat):Nat:=(l.map λq=>if q.2.1=y then q.2.2 else 0).sum
def ot (l:List gX) (y:Nat):Nat:=(l.map λq=>if q.2.1+q.2.2=y then q.2.2 else 0).sum
theorem Kg (a b:List gX) (y:Nat):kV (a++b) y=kV a y+kV b y:=by simp [kV]
theorem Yo (a b:List gX) (y:Nat):ot (a++b) y=ot a y+ot b y:=by simp [ot]
theorem aAn (c:eu l w h ys):∀y,ot l y+(if y=0 then w else 0)=kV l y+(if y=h then w else 0):=by
 induction c with
 | @start s hs=>
  intro y
  simp only [ot,kV,map_cons,map_nil,sum_cons,sum_nil,zero_add,add_zero]
  repeat' split
  all_goals omega
 | @right l w h ys c ih=>
  intro y
  have:=ih y
  have ph:=c.pos
  rw [Yo,Kg]
  generalize ot l y=a at this⊢
  generalize kV l y=b at this⊢
  revert this
  simp only [ot,kV,map_cons,map_nil,sum_cons,sum_nil,zero_add,add_zero]
  repeat' split
  all_goals (intro this;omega)
 | @under l w h ys c ih=>
  intro y
  have:=ih y
  have ph:=c.pos
  rw [Yo,Kg]
  generalize ot l y=a at this⊢
  generalize kV l y=b at this⊢
  revert this
  simp only [ot,kV,map_cons,map_nil,sum_cons,sum_nil,add_zero]
  repeat' split
  all_goals (intro this;omega)
theorem anV (c:eu l w h ys):kV l h=0:=by
 have b:=c.bound
 unfold kV
 have:∀m:List gX,(∀q∈m,1<=q.2.2/\q.2.1+q.2.2<=h)->(m.map λq=>if q.2.1=h then q.2.2 else 0).sum=0:=by
  intro m
  induction m with
  | nil=>intro _;rfl
  | cons q m ih=>
   intro hm
   have h1:=hm q mem_cons_self
   rw [map_cons,sum_cons,ih λp hp=>hm p (mem_cons_of_mem _ hp),if_neg (by omega)]
 exact this l λq hq=>⟨(b q hq).1,(b q hq).2.2⟩
theorem aKM (c:eu l w h ys):∀y,kV l y<=w:=by
 induction c with
 | @start s hs=>intro y;simp only [kV,map_cons,map_nil,sum_cons,sum_nil];split <;> omega
 | @right l w h ys c ih=>
  intro y
  have:=ih y
  rw [Kg]
  simp only [kV,map_cons,map_nil,sum_cons,sum_nil] at this⊢
  split <;> omega
 | @under l w h ys c ih=>
  intro y
  have:=ih y
  rw [Kg]
  by_cases hh:y=h
  ·subst hh
   rw [c.anV]
   simp only [kV,map_cons,map_nil,sum_cons,sum_nil]
   split <;> omega
  ·simp only [kV,map_cons,map_nil,sum_cons,sum_nil] at this⊢
   rw [if_neg (show ¬h=y by omega)];omega
theorem levels (c:eu l w h ys):ys.Pairwise (·<·)/\ys.head?=some 0/\ys.getLast?=some h/\(∀y∈ys,y<=h)/\2<=ys.length:=by
 induction c with
 | @start s hs=>simp;omega
 | right c ih=>exact ih
 | @under l w h ys c ih=>
  obtain ⟨a,b,d,e,f⟩:=ih
  have ph:=c.pos
  refine ⟨?_,?_,by simp,?_,by simp;omega⟩
  ·rw [pairwise_append]
   refine ⟨a,by simp,λx hx y hy=>?_⟩
   rw [mem_singleton] at hy;subst hy
   have:=e x hx;omega
  ·rw [List.head?_append,b];rfl
  ·intro y hy
   rcases mem_append.1 hy with hy | hy
   ·have:=e y hy;omega
   ·rw [mem_singleton] at hy;omega
theorem agn (c:eu l w h ys):h∈ys:=List.mem_of_getLast? c.levels.2.2.1
theorem IL (c:eu l w h ys):∀q∈l,q.2.1∈ys/\q.2.1+q.2.2∈ys:=by
 induction c with
 | start hs=>intro q hq;rw [mem_singleton] at hq;subst hq;simp
 | @right l w h ys c ih=>
  intro q hq
  rcases mem_append.1 hq with hq | hq
  ·exact ih q hq
  ·rw [mem_singleton] at hq;subst hq
   exact ⟨List.mem_of_head? c.levels.2.1,by simpa using c.agn⟩
 | @under l w h ys c ih=>
  intro q hq
  rcases mem_append.1 hq with hq | hq
  ·exact ⟨mem_append_left _ (ih q hq).1,mem_append_left _ (ih q hq).2⟩
  ·rw [mem_singleton] at hq;subst hq
   exact ⟨mem_append_left _ c.agn,by simp⟩
theorem Rw (c:eu l w h ys):∀y∈ys,∃q∈l,wz q y:=by
 induction c with
 | @start s hs=>
  intro y hy
  simp at hy
  rcases hy with rfl | rfl
  ·exact ⟨(0,0,s),by simp,.inl rfl⟩
  ·exact ⟨(0,0,y),by simp,.inr (by simp)⟩
 | @right l w h ys c ih=>
  intro y hy
  obtain ⟨q,h1,h2⟩:=ih y hy
  exact ⟨q,mem_append_left _ h1,h2⟩
 | @under l w h ys c ih=>
  intro y hy
  rcases mem_append.1 hy with hy | hy
  ·obtain ⟨q,h1,h2⟩:=ih y hy
   exact ⟨q,mem_append_left _ h1,h2⟩
  ·rw [mem_singleton] at hy;subst hy
   exact ⟨(0,h,w),by simp,.inr rfl⟩
end eu
end
section
abbrev Ln:=Nat×Nat×Nat
def qv (a b:Ln):Prop:=a.1<b.1∨(a.1=b.1/\(a.2.1<b.2.1∨(a.2.1=b.2.1/\a.2.2<b.2.2)))
def oK (acc:List Ln) (e:Ln):List Ln:=
 match acc.getLast? with
 | some a=>if a.1=e.1/\e.2.1<=a.2.2 then acc.dropLast++[(a.1,a.2.1,max a.2.2 e.2.2)] else acc++[e]
 | none=>[e]
structure JI (P J:List Ln):Prop where
 inc:J.Pairwise λa b=>a.1<b.1
 zero:∀a∈J,a.2.1=0
 cover:∀e∈P,∃a∈J,a.1=e.1/\e.2.2<=a.2.2
 Bg:∀a∈J,∃e∈P,e.1=a.1
 ne:P≠[]->J≠[]
theorem aCK {J:List Ln} (h:J.Pairwise λa b=>a.1<b.1) {z:Ln} (hz:J.getLast?=some z):∀a∈J,a.1<=z.1/\(a.1=z.1->a=z):=by
 intro a ha
 obtain ⟨i,hi,rfl⟩:=getElem_of_mem ha
 rw [List.getLast?_eq_getElem?] at hz
 obtain ⟨hj,rfl⟩:=cm hz
 by_cases c:i=J.length-1
 ·subst c;exact ⟨le_refl _,λ_=>rfl⟩
 ·have:=pairwise_iff_getElem.1 h i (J.length-1) hi hj (by omega)
  exact ⟨by omega,λe=>by omega⟩
theorem JI.step {L P R J:List Ln} {e:Ln} (hL:L=P++e::R) (so:L.Pairwise λa b=>¬qv b a) (tc:∀e∈L,0<e.2.1->∃p∈L,p.1=e.1/\p.2.2=e.2.1/\p.2.1<p.2.2) (j:JI P J):JI (P++[e]) (oK J e):=by
 have heL:e∈L:=by rw [hL];simp
 -- BA is less aM2 before
 have before:∀p∈L,qv p e->p∈P:=by
  intro p hp aw
  rw [hL] at hp so
  rcases mem_append.1 hp with hp | hp
  ·exact hp
  ·exfalso
   rw [pairwise_append] at so
   rcases mem_cons.1 hp with rfl | hp
   ·unfold qv at aw;omega
   ·exact (pairwise_cons.1 so.2.1).1 p hp aw
 have le:∀p∈P,p.1<=e.1:=by
  intro p hp
  rw [hL,pairwise_append] at so
  have:=so.2.2 p hp e mem_cons_self
  unfold qv at this;omega
 have U4:0<e.2.1->∃a∈J,a.1=e.1/\e.2.1<=a.2.2:=by
  intro h0
  obtain ⟨p,h1,h2,h3,h4⟩:=tc e heL h0
  obtain ⟨a,a1,a2,a3⟩:=j.cover p (before p h1 (by unfold qv;omega))
  exact ⟨a,a1,by omega,by omega⟩
 unfold oK
 cases hz:J.getLast? with
 | none=>
  have hJ:J=[]:=List.getLast?_eq_none_iff.1 hz
  subst hJ
  have hP:P=[]:=by
   apply byContradiction
   intro h;exact j.ne h rfl
  subst hP
  have e0:e.2.1=0:=by
   apply byContradiction
   intro h
   obtain ⟨a,ha,_⟩:=U4 (by omega)
   cases ha
  exact ⟨by simp,λa ha=>by rw [mem_singleton] at ha;subst ha;exact e0,λx hx=>⟨e,by simp,by simp at hx;rw [hx],by simp at hx;rw [hx];exact le_refl _⟩,λa ha=>⟨e,by simp,by simp at ha;rw [ha]⟩,λ_=>by simp⟩
 | some z=>
  have lg:=aCK j.inc hz
  have zJ:z∈J:=List.mem_of_getLast? hz
  have zle:z.1<=e.1:=by
   obtain ⟨p,p1,p2⟩:=j.Bg z zJ
   have:=le p p1;omega
  have dl:J=J.dropLast++[z]:=by
   have bY:J≠[]:=λh=>by rw [h] at hz;cases hz
   have:=List.dropLast_concat_getLast bY
   rw [List.getLast?_eq_some_getLast bY] at hz
   cases hz
   exact this.symm
  have Ri:=j.inc
  rw [dl,pairwise_append] at Ri
  show JI (P++[e]) (if z.1=e.1/\e.2.1<=z.2.2 then _ else _)
  by_cases c:z.1=e.1
  ·have hle:e.2.1<=z.2.2:=by
    by_cases h0:e.2.1=0
    ·omega
    ·obtain ⟨a,a1,a2,a3⟩:=U4 (by omega)
     have:=(lg a a1).2 (by omega)
     rw [this] at a3;exact a3
   rw [if_pos ⟨c,hle⟩]
   refine ⟨?_,?_,?_,?_,?_⟩
   ·rw [pairwise_append]
    refine ⟨Ri.1,by simp,λa ha b hb=>?_⟩
    rw [mem_singleton] at hb;subst hb
    exact Ri.2.2 a ha z (by simp)
   ·intro a ha
    rcases mem_append.1 ha with ha | ha
    ·exact j.zero a (by rw [dl];exact mem_append_left _ ha)
    ·rw [mem_singleton] at ha;subst ha
     exact j.zero z zJ
   ·intro x hx
    rcases mem_append.1 hx with hx | hx
    ·obtain ⟨a,a1,a2,a3⟩:=j.cover x hx
     rw [dl] at a1
     rcases mem_append.1 a1 with a1 | a1
     ·exact ⟨a,mem_append_left _ a1,a2,a3⟩
     ·rw [mem_singleton] at a1;subst a1
      exact ⟨_,List.mem_append_right _ mem_cons_self,a2,by show x.2.2<=max _ _;omega⟩
    ·rw [mem_singleton] at hx;subst hx
     exact ⟨_,List.mem_append_right _ mem_cons_self,c,by show x.2.2<=max _ _;omega⟩
   ·intro a ha
    rcases mem_append.1 ha with ha | ha
    ·obtain ⟨x,x1,x2⟩:=j.Bg a (by rw [dl];exact mem_append_left _ ha)
     exact ⟨x,mem_append_left _ x1,x2⟩
    ·rw [mem_singleton] at ha;subst ha
     exact ⟨e,by simp,c.symm⟩
   ·intro _ h;simp at h
  ·have e0:e.2.1=0:=by
    apply byContradiction
    intro h
    obtain ⟨a,a1,a2,_⟩:=U4 (by omega)
    have:=(lg a a1).1
    omega
   rw [if_neg λh=>c h.1]
   refine ⟨?_,?_,?_,?_,?_⟩
   ·rw [pairwise_append]
    refine ⟨j.inc,by simp,λa ha b hb=>?_⟩
    rw [mem_singleton] at hb;subst hb
    have:=(lg a ha).1
    omega
   ·intro a ha
    rcases mem_append.1 ha with ha | ha
    ·exact j.zero a ha
    ·rw [mem_singleton] at ha;subst ha;exact e0
   ·intro x hx
    rcases mem_append.1 hx with hx | hx
    ·obtain ⟨a,a1,a2⟩:=j.cover x hx
     exact ⟨a,mem_append_left _ a1,a2⟩
    ·rw [mem_singleton] at hx;subst hx
     exact ⟨_,List.mem_append_right _ mem_cons_self,rfl,le_refl _⟩
   ·intro a ha
    rcases mem_append.1 ha with ha | ha
    ·obtain ⟨x,x1,x2⟩:=j.Bg a ha
     exact ⟨x,mem_append_left _ x1,x2⟩
    ·rw [mem_singleton] at ha;subst ha
     exact ⟨_,by simp,rfl⟩
   ·intro _ h;simp at h
theorem JI.all {L:List Ln} (so:L.Pairwise λa b=>¬qv b a) (tc:∀e∈L,0<e.2.1->∃p∈L,p.1=e.1/\p.2.2=e.2.1/\p.2.1<p.2.2):
  ∀(R P J:List Ln),L=P++R->JI P J->JI L (R.foldl oK J)
 | [],P,J,h,j=>by rw [List.append_nil] at h;subst h;exact j
 | e::R,P,J,h,j=>JI.all so tc R (P++[e]) (oK J e) (by rw [h];simp) (j.step h so tc)
theorem JI.nil:JI [] []:=⟨by simp,by simp,by simp,by simp,λh=>absurd rfl h⟩
def items (l:List gX):List Ln:=l.flatMap λq=>[(q.2.1,q.1,q.1+q.2.2),(q.2.1+q.2.2,q.1,q.1+q.2.2)]
theorem Dm {l:List gX} {e:Ln}:e∈items l↔∃q∈l,eu.wz q e.1/\e.2.1=q.1/\e.2.2=q.1+q.2.2:=by
 unfold items eu.wz
 rw [List.mem_flatMap]
 constructor
 ·rintro ⟨q,hq,he⟩
  simp at he
  rcases he with rfl | rfl
  ·exact ⟨q,hq,.inl rfl,rfl,rfl⟩
  ·exact ⟨q,hq,.inr rfl,rfl,rfl⟩
 ·rintro ⟨q,hq,he,h2,h3⟩
  refine ⟨q,hq,?_⟩
  obtain ⟨a,b,c⟩:=e
  simp only at he h2 h3
  subst h2 h3
  rcases he with rfl | rfl <;> simp
theorem UJ:∀{a b:List Nat},a.Pairwise (·<·)->b.Pairwise (·<·)->(∀x,x∈a↔x∈b)->a=b
 | [],[],_,_,_=>rfl
 | [],y::b,_,_,h=>absurd ((h y).2 mem_cons_self) (by simp)
 | x::a,[],_,_,h=>absurd ((h x).1 mem_cons_self) (by simp)
 | x::a,y::b,ha,hb,h=>by
  rw [pairwise_cons] at ha hb
  have e:x=y:=by
   rcases mem_cons.1 ((h x).1 mem_cons_self) with e | h1
   ·exact e
   ·rcases mem_cons.1 ((h y).2 mem_cons_self) with e | h2
    ·exact e.symm
    ·have:=hb.1 x h1;have:=ha.1 y h2;omega
  subst e
  rw [UJ ha.2 hb.2 λz=>?_]
  constructor
  ·intro hz
   rcases mem_cons.1 ((h z).1 (mem_cons_of_mem _ hz)) with rfl | h1
   ·have:=ha.1 z hz;omega
   ·exact h1
  ·intro hz
   rcases mem_cons.1 ((h z).2 (mem_cons_of_mem _ hz)) with rfl | h1
   ·have:=hb.1 z hz;omega
   ·exact h1
theorem eu.aCd {l m:List gX} {w h:Nat} {ys:List Nat} (c:eu l w h ys) (hm:m.Perm l) {L:List Ln} (hL:L.Perm (items m)) (so:L.Pairwise λa b=>¬qv b a):
  (L.foldl oK []).map (·.1)=ys/\(∀a∈L.foldl oK [],a.2.1=0)/\∀q∈l,∀y,eu.wz q y->∃a∈L.foldl oK [],a.1=y/\q.1+q.2.2<=a.2.2:=by
 have mem:∀e,e∈L↔∃q∈l,eu.wz q e.1/\e.2.1=q.1/\e.2.2=q.1+q.2.2:=by
  intro e
  rw [hL.mem_iff,Dm]
  constructor
  ·rintro ⟨q,h1,h2⟩;exact ⟨q,hm.mem_iff.1 h1,h2⟩
  ·rintro ⟨q,h1,h2⟩;exact ⟨q,hm.mem_iff.2 h1,h2⟩
 have tc:∀e∈L,0<e.2.1->∃p∈L,p.1=e.1/\p.2.2=e.2.1/\p.2.1<p.2.2:=by
  intro e he h0
  obtain ⟨q,h1,h2,h3,h4⟩:=(mem e).1 he
  obtain ⟨p,p1,p2,p3⟩:=c.aKP q h1 e.1 h2 (by omega)
  have:=(c.bound p p1).1
  refine ⟨(e.1,p.1,p.1+p.2.2),(mem _).2 ⟨p,p1,p2,rfl,rfl⟩,rfl,?_,?_⟩
  ·show p.1+p.2.2=e.2.1;omega
  ·show p.1<p.1+p.2.2;omega
 have j:=JI.all so tc L [] [] rfl JI.nil
 refine ⟨UJ ?_ c.levels.1 λy=>⟨λhy=>?_,λhy=>?_⟩,j.zero,λq hq y he=>?_⟩
 ·rw [List.pairwise_map];exact j.inc
 ·obtain ⟨a,a1,rfl⟩:=mem_map.1 hy
  obtain ⟨e,e1,e2⟩:=j.Bg a a1
  obtain ⟨q,h1,h2,_⟩:=(mem e).1 e1
  have:=c.IL q h1
  rw [<-e2]
  rcases h2 with h2 | h2
  ·rw [<-h2];exact this.1
  ·rw [<-h2];exact this.2
 ·obtain ⟨q,h1,h2⟩:=c.Rw y hy
  obtain ⟨a,a1,a2,_⟩:=j.cover (y,q.1,q.1+q.2.2) ((mem _).2 ⟨q,h1,h2,rfl,rfl⟩)
  exact mem_map.2 ⟨a,a1,a2⟩
 ·obtain ⟨a,a1,a2,a3⟩:=j.cover (y,q.1,q.1+q.2.2) ((mem _).2 ⟨q,hq,he,rfl,rfl⟩)
  exact ⟨a,a1,a2,a3⟩
end
section
def gT (LL:List Ln) (e:Ln):Ln:=
 match LL.find? λa=>decide (a.1=e.1) with
 | some a=>(e.1,min e.2.1 a.2.1,max e.2.2 a.2.2)
 | none=>e
def mU (LL:List Ln) (e:Ln):List Ln:=LL.filter (λa=>decide (a.1<e.1))++gT LL e::LL.filter λa=>decide (e.1<a.1)
def fits (LL:List Ln) (e:Ln):Prop:=(∃a∈LL,a.1=e.1/\e.2.1<=a.2.2)∨((∀a∈LL,a.1≠e.1)/\e.2.1=0)
theorem RE (LL:List Ln) (e:Ln):(gT LL e).1=e.1:=by
 unfold gT
 split <;> rfl
theorem JI.ins {P LL:List Ln} {e:Ln} (j:JI P LL) (f:fits LL e):JI (P++[e]) (mU LL e):=by
 have aKV:∀a∈LL,∀b∈LL,a.1=b.1->a=b:=by
  intro a ha b hb h
  obtain ⟨x,hx,rfl⟩:=getElem_of_mem ha
  obtain ⟨y,hy,rfl⟩:=getElem_of_mem hb
  rcases Nat.lt_trichotomy x y with c | c | c
  ·have:=pairwise_iff_getElem.1 j.inc x y hx hy c;omega
  ·subst c;rfl
  ·have:=pairwise_iff_getElem.1 j.inc y x hy hx c;omega
 have mz:(gT LL e).2.1=0:=by
  unfold gT
  split
  ·rename_i a ha
   have:=j.zero a (List.mem_of_find?_eq_some ha)
   show min e.2.1 a.2.1=0
   omega
  ·rename_i ha
   rcases f with ⟨a,h1,h2,_⟩ | ⟨_,h⟩
   ·have:=List.find?_eq_none.1 ha a h1
    simp at this;exact absurd h2 this
   ·exact h
 have me:e.2.2<=(gT LL e).2.2:=by
  unfold gT
  split
  ·show e.2.2<=max _ _;omega
  ·exact le_refl _
 have ma:∀a∈LL,a.1=e.1->a.2.2<=(gT LL e).2.2:=by
  intro a ha h
  unfold gT
  split
  ·rename_i b hb
   have h2:=List.find?_some hb
   simp at h2
   have:b=a:=aKV b (List.mem_of_find?_eq_some hb) a ha (h2.trans h.symm)
   subst this
   show b.2.2<=max _ _;omega
  ·rename_i hb
   have:=List.find?_eq_none.1 hb a ha
   simp at this;exact absurd h this
 have ml:=RE LL e
 refine ⟨?_,?_,?_,?_,?_⟩
 ·unfold mU
  rw [pairwise_append,pairwise_cons]
  refine ⟨j.inc.sublist List.filter_sublist,⟨λb hb=>?_,j.inc.sublist List.filter_sublist⟩,λa ha b hb=>?_⟩
  ·have:=(mem_filter.1 hb).2;simp at this;omega
  ·have h1:=(mem_filter.1 ha).2
   simp at h1
   rcases mem_cons.1 hb with rfl | hb
   ·omega
   ·have:=(mem_filter.1 hb).2;simp at this;omega
 ·intro a ha
  unfold mU at ha
  rcases mem_append.1 ha with ha | ha
  ·exact j.zero a (mem_filter.1 ha).1
  ·rcases mem_cons.1 ha with rfl | ha
   ·exact mz
   ·exact j.zero a (mem_filter.1 ha).1
 ·have mm:gT LL e∈mU LL e:=by unfold mU;simp
  intro x hx
  rcases mem_append.1 hx with hx | hx
  ·obtain ⟨a,a1,a2,a3⟩:=j.cover x hx
   by_cases c:a.1=e.1
   ·exact ⟨_,mm,by omega,by have:=ma a a1 c;omega⟩
   ·refine ⟨a,?_,a2,a3⟩
    unfold mU
    rw [mem_append,mem_cons,mem_filter,mem_filter]
    by_cases c2:a.1<e.1
    ·exact .inl ⟨a1,by simpa using c2⟩
    ·exact .inr (.inr ⟨a1,by simp;omega⟩)
  ·rw [mem_singleton] at hx;subst hx
   exact ⟨_,mm,ml,me⟩
 ·intro a ha
  unfold mU at ha
  have old:a∈LL->∃x∈P++[e],x.1=a.1:=λh=>by
   obtain ⟨x,x1,x2⟩:=j.Bg a h
   exact ⟨x,mem_append_left _ x1,x2⟩
  rcases mem_append.1 ha with ha | ha
  ·exact old (mem_filter.1 ha).1
  ·rcases mem_cons.1 ha with rfl | ha
   ·exact ⟨e,by simp,ml.symm⟩
   ·exact old (mem_filter.1 ha).1
 ·intro _ h
  unfold mU at h;simp at h
namespace eu
variable {l : List gX} {w h : Nat} {ys : List Nat}
theorem pre (c:eu l w h ys):∀i (hi:i<l.length),(i=0/\∃s,1<=s/\l[i]=(0,0,s))∨∃w h ys,eu (l.take i) w h ys/\(l[i]=(w,0,h)∨l[i]=(0,h,w)):=by
 induction c with
 | @start s hs=>
  intro i hi
  have:i=0:=by simpa using hi
  subst this
  exact .inl ⟨rfl,s,hs,rfl⟩
 | @right l w h ys c ih=>
  intro i hi
  by_cases hl:i<l.length
  ·have:=ih i hl
   rw [List.getElem_append_left hl,List.take_append_of_le_length (by omega)]
   exact this
  ·have:i=l.length:=by rw [length_append,List.length_singleton] at hi;omega
   subst this
   refine .inr ⟨w,h,ys,by rw [List.take_left' rfl];exact c,.inl (by simp)⟩
 | @under l w h ys c ih=>
  intro i hi
  by_cases hl:i<l.length
  ·have:=ih i hl
   rw [List.getElem_append_left hl,List.take_append_of_le_length (by omega)]
   exact this
  ·have:i=l.length:=by rw [length_append,List.length_singleton] at hi;omega
   subst this
   refine .inr ⟨w,h,ys,by rw [List.take_left' rfl];exact c,.inr (by simp)⟩
theorem aDf (c:eu l w h ys) {i:Nat} (hi:i<l.length) {LL:List Ln} (j:JI (items (l.take i)) LL):
  fits LL (l[i].2.1,l[i].1,l[i].1+l[i].2.2)/\∀BP,JI (items (l.take i)++[(l[i].2.1,l[i].1,l[i].1+l[i].2.2)]) BP->fits BP (l[i].2.1+l[i].2.2,l[i].1,l[i].1+l[i].2.2):=by
 have at_:∀{P LL:List Ln} (_:JI P LL) (x:Nat) (e:Ln),(x=0∨∃p∈P,p.1=e.1/\x<=p.2.2)->e.2.1=x->fits LL e:=by
  intro P LL j x e h he
  by_cases c:∃a∈LL,a.1=e.1
  ·obtain ⟨a,a1,a2⟩:=c
   rcases h with h | ⟨p,p1,p2,p3⟩
   ·exact .inl ⟨a,a1,a2,by omega⟩
   ·obtain ⟨b,b1,b2,b3⟩:=j.cover p p1
    exact .inl ⟨b,b1,by omega,by omega⟩
  ·rcases h with h | ⟨p,p1,p2,p3⟩
   ·exact .inr ⟨λa ha h=>c ⟨a,ha,h⟩,by omega⟩
   ·obtain ⟨b,b1,b2,b3⟩:=j.cover p p1
    exact absurd ⟨b,b1,by omega⟩ c
 rcases c.pre i hi with ⟨_,s,_,e⟩ | ⟨w',h',mJ,c',e | e⟩
 ·rw [e]
  exact ⟨at_ j 0 _ (.inl rfl) rfl,λBP j'=>at_ j' 0 _ (.inl rfl) rfl⟩
 ·rw [e]
  obtain ⟨⟨a,a1,a2,a3⟩,b,b1,b2,b3⟩:=c'.adk
  refine ⟨at_ j w' _ (.inr ⟨(0,a.1,a.1+a.2.2),Dm.2 ⟨a,a1,.inl a2,rfl,rfl⟩,rfl,?_⟩) rfl,λBP j'=>at_ j' w' _ (.inr ⟨(h',b.1,b.1+b.2.2),mem_append_left _ (Dm.2 ⟨b,b1,.inr b2,rfl,rfl⟩),?_,?_⟩) rfl⟩
  ·show w'<=a.1+a.2.2;omega
  ·show h'=0+h';omega
  ·show w'<=b.1+b.2.2;omega
 ·rw [e]
  exact ⟨at_ j 0 _ (.inl rfl) rfl,λBP j'=>at_ j' 0 _ (.inl rfl) rfl⟩
theorem afQ {l:List gX} {i:Nat} (hi:i<l.length):items (l.take (i+1))=items (l.take i)++[(l[i].2.1,l[i].1,l[i].1+l[i].2.2)]++[(l[i].2.1+l[i].2.2,l[i].1,l[i].1+l[i].2.2)]:=by
 rw [take_succ_eq_append_getElem hi]
 unfold items
 rw [List.flatMap_append,List.append_assoc]
 rfl
theorem aCT (c:eu l w h ys) {LL:List Ln} (j:JI (items l) LL):LL.map (·.1)=ys:=by
 refine UJ ?_ c.levels.1 λy=>⟨λhy=>?_,λhy=>?_⟩
 ·rw [List.pairwise_map];exact j.inc
 ·obtain ⟨a,a1,rfl⟩:=mem_map.1 hy
  obtain ⟨e,e1,e2⟩:=j.Bg a a1
  obtain ⟨q,h1,h2,_⟩:=Dm.1 e1
  have:=c.IL q h1
  rw [<-e2]
  rcases h2 with h2 | h2
  ·rw [<-h2];exact this.1
  ·rw [<-h2];exact this.2
 ·obtain ⟨q,h1,h2⟩:=c.Rw y hy
  obtain ⟨a,a1,a2,_⟩:=j.cover (y,q.1,q.1+q.2.2) (Dm.2 ⟨q,h1,h2,rfl,rfl⟩)
  exact mem_map.2 ⟨a,a1,a2⟩
end eu
end
end Go.Sim
namespace Go.Proofs.YtncaiogfjjepcaaGreat
section
open Go.Sim Go.Sort
def cmpL:List Int->List Int->Int
 | [],[]=>0
 | [],_::_=> -1
 | _::_,[]=>1
 | x::a,y::b=>if x<y then -1 else if y<x then 1 else cmpL a b
theorem ay4 (x y:Int) (a b:List Int):cmpL (x::a) (y::b)=if x<y then -1 else if y<x then 1 else cmpL a b:=rfl
theorem I7 {h:ae} {i:Nat} {ns:List Int} (hg:h[i]?=some (.arr 3 (ns.map I))) (hl:ns.length<=1000):NS h (sl 3 i 0 ns.length) .i64 ns:=by
 refine ⟨rfl,λj hj=>⟨i,j,by simp [aD,sl,hj],by simp [af,bw,hg,dS,hj]⟩,by simp [maxLen];omega⟩
variable {h : ae} {K : Value -> ae -> Prop}
theorem VL {a:Int} (hk:K (B false) h):ay prog 115 [I a] h K:=by
 refine f115 ?_
 unfold LK
 simp only [iC,decide_true,Bool.not_true,ah]
 exact hk
theorem C74 {a b:Int} (hk:K (I (if a<b then -1 else if b<a then 1 else 0)) h):ay prog 74 [I a,I b] h K:=by
 refine f74 ?_
 unfold Nc
 refine VL (VL ?_)
 simp only [dm,bW,ah,ca,gY]
 refine ⟨λh1=>?_,λh1=>⟨λh2=>?_,λh2=>?_⟩⟩
 ·rw [if_pos h1] at hk;exact hk
 ·rw [if_neg h1,if_pos h2] at hk;exact hk
 ·rw [if_neg h1,if_neg h2] at hk;exact hk
theorem V7 {u v:Value} {a b:List Int} (hu:NS h u .i64 a) (hv:NS h v .i64 b) (la:a.length<=1000) (hk:K (I (cmpL a b)) h):ay prog 49 [u,v] h K:=by
 refine f49 ?_
 unfold MO
 simp only [hu.len,ah]
 refine cN (σ:=Nat) (λi=>[I i]) (λ_=>h) (λi=>i<=a.length/\cmpL (a.drop i) (b.drop i)=cmpL a b/\i<=b.length) (λi=>a.length-i) 0 rfl rfl ⟨zero_le _,rfl,zero_le _⟩ ?_
 rintro i ⟨hi,hc,Ie⟩ L hL
 rw [aHj]
 simp only [bW,ah,ca]
 refine ⟨λaw=>?_,λcJ=>?_⟩
 ·have aw:i<a.length:=by omega
  obtain ⟨b1,o1,a1,a2⟩:=hu.get i aw
  simp only [a1,a2,hv.len,ah,om,ca]
  refine ⟨λhb=>?_,λhb=>?_⟩
  ·have:i=b.length:=by omega
   rw [List.drop_eq_getElem_cons aw,drop_of_length_le (l:=b) (by omega)] at hc
   rw [<-hc] at hk
   exact hk
  ·have nB:i<b.length:=by omega
   obtain ⟨b2,o2,c1,c2⟩:=hv.get i nB
   rw [List.drop_eq_getElem_cons aw,List.drop_eq_getElem_cons nB] at hc
   simp only [c1,c2,ah]
   refine C74 ?_
   simp only [iC,ah,BJ]
   rw [ay4] at hc
   by_cases h1:a[i]<b[i]
   ·rw [if_pos h1] at hc⊢
    refine ⟨λ_=>by rw [hc];exact hk,λe=>by cases e⟩
   ·rw [if_neg h1] at hc⊢
    by_cases h2:b[i]<a[i]
    ·rw [if_pos h2] at hc⊢
     refine ⟨λ_=>by rw [hc];exact hk,λe=>by cases e⟩
    ·rw [if_neg h2] at hc⊢
     refine ⟨λe=>absurd rfl e,λ_=>?_⟩
     simp only [b7,ah,true_and]
     rw [dP i (by simp [maxLen];omega)]
     exact hL (i+1) ⟨aw,hc,nB⟩ (by show a.length-(i+1)<a.length-i;omega)
 ·have:i=a.length:=by omega
  rw [aHi]
  simp only [hu.len,hv.len,bW,ah,ca]
  rw [drop_of_length_le (l:=a) (by omega)] at hc
  refine ⟨λhb=>?_,λhb=>?_⟩
  ·have nB:i<b.length:=by omega
   rw [List.drop_eq_getElem_cons nB] at hc
   rw [<-hc] at hk;exact hk
  ·rw [drop_of_length_le (l:=b) (by omega)] at hc
   rw [<-hc] at hk;exact hk
theorem BZ (e:TypeId) (h:ae) (q:T3):cR e h (.agg (aO q).toArray)=some (pt h.length 0,h++[.arr e (aO q)]):=by
 simp [cR,fV,dL,aO]
 exact ⟨rfl,rfl⟩
theorem nz {h:ae} {i:Nat} {e:TypeId} {q:T3} (hg:h[i]?=some (.arr e (aO q))):af false 1 h (pt i 0)=some (I q.1)/\af false 1 h (pt i 1)=some (I q.2.1)/\af false 1 h (pt i 2)=some (I q.2.2):=by
 simp [af,bw,hg,dS,aO]
theorem ags (g:ae) (i j:Int):cH 3 2 [(.int .i64 (0))] g [(0,1,I i),(1,1,I j)]=some (sl 3 g.length 0 2,g++[.arr 3 ([i,j].map I)]):=by
 simp [cH,jC,bE,setAt,fV,dL,Value.cells]
theorem agt (g:ae) (i j k:Int):cH 3 3 [(.int .i64 (0))] g [(0,1,I i),(1,1,I j),(2,1,I k)]=some (sl 3 g.length 0 3,g++[.arr 3 ([i,j,k].map I)]):=by
 simp [cH,jC,bE,setAt,fV,dL,Value.cells]
def As (x y:T3):Int:=cmpL [x.2.1,x.1] [y.2.1,y.1]
def Au (x y:T3):Int:=cmpL [x.1,x.2.1,x.2.2] [y.1,y.2.1,y.2.2]
theorem C46 {x y:T3} (hk:∀h',EX h h'->K (I (As x y)) h'):ay prog 46 [.agg (aO x).toArray,.agg (aO y).toArray] h K:=by
 refine f46 ?_
 unfold MM
 simp only [BZ,aL]
 have x1:EX h (h++[.arr 24 (aO x)]):=EX.append _ _
 have c1:(h++[az.arr 24 (aO x)])[h.length]?=some (.arr 24 (aO x)):=bK
 generalize h++[az.arr 24 (aO x)]=g1 at x1 c1⊢
 have x2:EX g1 (g1++[.arr 24 (aO y)]):=EX.append _ _
 have c2:(g1++[az.arr 24 (aO y)])[g1.length]?=some (.arr 24 (aO y)):=bK
 generalize g1++[az.arr 24 (aO y)]=g2 at x2 c2⊢
 have sW:=x2.get c1
 obtain ⟨p0,p1,_⟩:=nz sW
 simp only [cj,zero_add,ah,p0,p1,ags,aL]
 have x3:EX g2 (g2++[.arr 3 ([(x.2.1:Int),(x.1:Int)].map I)]):=EX.append _ _
 have c3:(g2++[az.arr 3 ([(x.2.1:Int),(x.1:Int)].map I)])[g2.length]?=some (.arr 3 ([(x.2.1:Int),(x.1:Int)].map I)):=bK
 generalize g2++[az.arr 3 ([(x.2.1:Int),(x.1:Int)].map I)]=g3 at x3 c3⊢
 obtain ⟨q0,q1,_⟩:=nz (x3.get c2)
 simp only [q0,q1,ah,ags,aL]
 have x4:EX g3 (g3++[.arr 3 ([(y.2.1:Int),(y.1:Int)].map I)]):=EX.append _ _
 have c4:(g3++[az.arr 3 ([(y.2.1:Int),(y.1:Int)].map I)])[g3.length]?=some (.arr 3 ([(y.2.1:Int),(y.1:Int)].map I)):=bK
 generalize g3++[az.arr 3 ([(y.2.1:Int),(y.1:Int)].map I)]=g4 at x4 c4⊢
 exact V7 (I7 (x4.get c3) (by simp)) (I7 c4 (by simp)) (by simp) (hk _ (((x1.trans x2).trans x3).trans x4))
theorem C48 {x y:T3} (hk:∀h',EX h h'->K (I (Au x y)) h'):ay prog 48 [.agg (aO x).toArray,.agg (aO y).toArray] h K:=by
 refine f48 ?_
 unfold MN
 simp only [BZ,aL]
 have x1:EX h (h++[.arr 73 (aO x)]):=EX.append _ _
 have c1:(h++[az.arr 73 (aO x)])[h.length]?=some (.arr 73 (aO x)):=bK
 generalize h++[az.arr 73 (aO x)]=g1 at x1 c1⊢
 have x2:EX g1 (g1++[.arr 73 (aO y)]):=EX.append _ _
 have c2:(g1++[az.arr 73 (aO y)])[g1.length]?=some (.arr 73 (aO y)):=bK
 generalize g1++[az.arr 73 (aO y)]=g2 at x2 c2⊢
 have sW:=x2.get c1
 obtain ⟨p0,p1,p2⟩:=nz sW
 simp only [cj,zero_add,ah,p0,p1,p2,agt,aL]
 have x3:EX g2 (g2++[.arr 3 ([(x.1:Int),(x.2.1:Int),(x.2.2:Int)].map I)]):=EX.append _ _
 have c3:(g2++[az.arr 3 ([(x.1:Int),(x.2.1:Int),(x.2.2:Int)].map I)])[g2.length]?=some (.arr 3 ([(x.1:Int),(x.2.1:Int),(x.2.2:Int)].map I)):=bK
 generalize g2++[az.arr 3 ([(x.1:Int),(x.2.1:Int),(x.2.2:Int)].map I)]=g3 at x3 c3⊢
 obtain ⟨q0,q1,q2⟩:=nz (x3.get c2)
 simp only [q0,q1,q2,ah,agt,aL]
 have x4:EX g3 (g3++[.arr 3 ([(y.1:Int),(y.2.1:Int),(y.2.2:Int)].map I)]):=EX.append _ _
 have c4:(g3++[az.arr 3 ([(y.1:Int),(y.2.1:Int),(y.2.2:Int)].map I)])[g3.length]?=some (.arr 3 ([(y.1:Int),(y.2.1:Int),(y.2.2:Int)].map I)):=bK
 generalize g3++[az.arr 3 ([(y.1:Int),(y.2.1:Int),(y.2.2:Int)].map I)]=g4 at x4 c4⊢
 exact V7 (I7 (x4.get c3) (by simp)) (I7 c4 (by simp)) (by simp) (hk _ (((x1.trans x2).trans x3).trans x4))
theorem OZ (x y:T3):As x y<0↔x.2.1<y.2.1∨(x.2.1=y.2.1/\x.1<y.1):=by
 simp only [As,cmpL]
 repeat' split
 all_goals omega
theorem Hl (x y:T3):Au x y<0↔qv x y:=by
 simp only [Au,cmpL,qv]
 repeat' split
 all_goals omega
theorem U2:SWO (ltOf As) where
 irrefl x:=by unfold ltOf;rw [decide_eq_false_iff_not,OZ];omega
 trans x y z h1 h2:=by unfold ltOf at*;rw [decide_eq_true_eq,OZ] at*;omega
 ntrans x y z h1 h2:=by unfold ltOf at*;rw [decide_eq_false_iff_not,OZ] at*;omega
theorem Ka:SWO (ltOf Au) where
 irrefl x:=by unfold ltOf;rw [decide_eq_false_iff_not,Hl];unfold qv;omega
 trans x y z h1 h2:=by unfold ltOf at*;rw [decide_eq_true_eq,Hl] at*;unfold qv at*;omega
 ntrans x y z h1 h2:=by unfold ltOf at*;rw [decide_eq_false_iff_not,Hl] at*;unfold qv at*;omega
noncomputable def eJ (ls:List T3):List T3:=zI As ls
noncomputable def ub (ls:List T3):List T3:=zI Au ls
theorem J4 (ls:List T3):(eJ ls).Perm ls:=(J3 U2 ls).1
theorem anR (ls:List T3):(ub ls).Perm ls:=(J3 Ka ls).1
theorem aKA (ls:List T3):(ub ls).Pairwise λa b=>¬qv b a:=(J3 Ka ls).2.imp λh=>by rwa [Hl] at h
theorem C45 {i:Nat} {ls:List T3} (hn:ls≠[]) (hl:ls.length<=1000) (hg:h[i]?=some (.arr 24 (ls.map aO).flatten))
  (hk:K (.tuple #[]) (h.set i (.arr 24 ((eJ ls).map aO).flatten))):ay prog 45 [sl 24 i 0 ls.length,.func (.func 46) #[] #[]] h K:=
 anP U2 (λx y=>C46 λ_ _=>rfl) (λcZ off cap d w hC hH hb hs=>Go.Proofs.AnyQ.slices_SortFunc_eq Go.Proofs.aKy 3 Tryz.isAgg24 Tryz.sizeOf24 aO (λ_=>rfl) (λx v hv=>by simp [aO] at hv;rcases hv with rfl | rfl | rfl <;> rfl) As U2 46 #[] cZ off cap d w (enters_of Tryz.func46 (by kernel_rfl) rfl) hC hH hb hs)
  hn (by omega) hg hk
theorem C47 {i:Nat} {ls:List T3} (hn:ls≠[]) (hl:ls.length<=1000) (hg:h[i]?=some (.arr 73 (ls.map aO).flatten))
  (hk:K (.tuple #[]) (h.set i (.arr 73 ((ub ls).map aO).flatten))):ay prog 47 [sl 73 i 0 ls.length,.func (.func 48) #[] #[]] h K:=
 anP Ka (λx y=>C48 λ_ _=>rfl) (λcZ off cap d w hC hH hb hs=>Go.Proofs.AnyQ.slices_SortFunc_eq Go.Proofs.aKw 3 Tryz.isAgg73 Tryz.sizeOf73 aO (λ_=>rfl) (λx v hv=>by simp [aO] at hv;rcases hv with rfl | rfl | rfl <;> rfl) Au Ka 48 #[] cZ off cap d w (enters_of Tryz.func48 (by kernel_rfl) rfl) hC hH hb hs)
  hn (by omega) hg hk
end
end Go.Proofs.YtncaiogfjjepcaaGreat
namespace Go.Sim
section
def wM (l:List gX):Nat:=l.foldl (λm q=>max m (q.1+q.2.2)) 0
def hM (l:List gX):Nat:=l.foldl (λm q=>max m (q.2.1+q.2.2)) 0
theorem Km (l:List gX) (q:gX):wM (l++[q])=max (wM l) (q.1+q.2.2):=by simp [wM]
theorem HX (l:List gX) (q:gX):hM (l++[q])=max (hM l) (q.2.1+q.2.2):=by simp [hM]
namespace eu
variable {l : List gX} {w h : Nat} {ys : List Nat}
theorem reach (c:eu l w h ys):wM l=w/\hM l=h:=by
 induction c with
 | start hs=>simp [wM,hM]
 | @right l w h ys c ih=>
  have:=c.pos
  rw [Km,HX,ih.1,ih.2]
  simp only;omega
 | @under l w h ys c ih=>
  have:=c.pos
  rw [Km,HX,ih.1,ih.2]
  simp only;omega
end eu
theorem aK0:∀{l:List gX} {i:Nat},wM (l.take i)<=wM l:=by
 have grow:∀(l:List gX) (a:Nat),a<=l.foldl (λm q=>max m (q.1+q.2.2)) a:=by
  intro l
  induction l with
  | nil=>intro a;exact le_refl _
  | cons q l ih=>intro a;exact le_trans (Nat.le_max_left _ _) (ih _)
 intro l i
 have:wM l=(l.drop i).foldl (λm q=>max m (q.1+q.2.2)) (wM (l.take i)):=by
  unfold wM;rw [<-List.foldl_append,take_append_drop]
 rw [this]
 exact grow _ _
theorem aAG:∀{l:List gX} {i:Nat},hM (l.take i)<=hM l:=by
 have grow:∀(l:List gX) (a:Nat),a<=l.foldl (λm q=>max m (q.2.1+q.2.2)) a:=by
  intro l
  induction l with
  | nil=>intro a;exact le_refl _
  | cons q l ih=>intro a;exact le_trans (Nat.le_max_left _ _) (ih _)
 intro l i
 have:hM l=(l.drop i).foldl (λm q=>max m (q.2.1+q.2.2)) (hM (l.take i)):=by
  unfold hM;rw [<-List.foldl_append,take_append_drop]
 rw [this]
 exact grow _ _
end
end Go.Sim
namespace Go.Proofs.YtncaiogfjjepcaaGreat
section
open Go.Sim Go.Sort
def ck (l:List T3):List Value:=(l.map aO).flatten
theorem ac6 (l:List T3):∀r∈l.map aO,r.length=3:=λr hr=>by
 obtain ⟨q,_,rfl⟩:=mem_map.1 hr
 rfl
theorem mL (l:List T3):(ck l).length=l.length*3:=by
 have:=Ct (ac6 l)
 rwa [length_map] at this
theorem uG (a b:List T3):ck (a++b)=ck a++ck b:=by simp [ck]
theorem ay0 {l:List T3} {k:Nat} (hk:k<l.length):((ck l).drop (k*3)).take 3=aO l[k]:=by
 have:=Cs (ac6 l) k (by simpa using hk)
 rwa [List.getElem_map] at this
theorem uC {i n c k:Nat} {e:TypeId} (hk:k<n):aD 3 (.slice (some ⟨i,0,some e⟩) n c) (I k)=some (pt i (k*3)):=by
 simp [aD,hk]
theorem tY {h:ae} {i:Nat} {l:List T3} {k:Nat} (hg:bw h i=some (ck l)) (hk:k<l.length):
  af true 3 h (pt i (k*3))=some (.agg (aO l[k]).toArray)/\af false 1 h (pt i (k*3))=some (I l[k].1)/\af false 1 h (pt i (k*3+1))=some (I l[k].2.1)/\af false 1 h (pt i (k*3+2))=some (I l[k].2.2):=by
 have hl:=mL l
 have ha:=ay0 hk
 refine ⟨UK hg (by omega) ha,?_,DQ hg ha rfl,DQ hg ha rfl⟩
 have:=DQ (j:=0) hg ha (x:=I l[k].1) rfl
 simpa using this
variable {h : ae} {K : Value -> ae -> Prop}
theorem xj {h:ae} {i:Nat} {e:TypeId} {a b c:Value} (hg:h[i]?=some (.arr e [a,b,c])) (q:T3):aU 3 h (pt i 0) (.agg (aO q).toArray)=some (undef,h.set i (.arr e (aO q))):=by
 simp [aU,sw,hg,fV,dL,Value.cells,setAt,aO]
theorem aAa {a b:T3} (bY:a≠b):A5 false 3 (.agg (aO a).toArray) (.agg (aO b).toArray)=some (B false):=by
 obtain ⟨a1,a2,a3⟩:=a
 obtain ⟨b1,b2,b3⟩:=b
 have:¬([(a1:Int),(a2:Int),(a3:Int)]=[(b1:Int),(b2:Int),(b3:Int)]):=by
  intro e
  simp at e
  apply bY
  obtain ⟨e1,e2,e3⟩:=e
  have h1:a1=b1:=by omega
  have h2:a2=b2:=by omega
  have h3:a3=b3:=by omega
  rw [h1,h2,h3]
 simp only [A5,aO,wV,Option.map_some]
 rw [if_pos ⟨rfl,rfl⟩,bX this]
 rfl
def NJ (a b:T3):Prop:=a.1+a.2.2<=b.1∨b.1+b.2.2<=a.1∨a.2.1+a.2.2<=b.2.1∨b.2.1+b.2.2<=a.2.1
theorem C44 {a b:T3} (ba:a.1<=10000/\a.2.1<=10000/\a.2.2<=10000) (bb:b.1<=10000/\b.2.1<=10000/\b.2.2<=10000) (hap:NJ a b) (hk:K (B true) h):ay prog 44 [.agg (aO a).toArray,.agg (aO b).toArray] h K:=by
 refine ayY (Ren.kU rfl) (f44 ?_) hk
 unfold ML
 simp only [BZ,aL]
 have x1:EX h (h++[.arr 24 (aO a)]):=EX.append _ _
 have c1:(h++[az.arr 24 (aO a)])[h.length]?=some (.arr 24 (aO a)):=bK
 generalize h++[az.arr 24 (aO a)]=g1 at x1 c1⊢
 have x2:EX g1 (g1++[.arr 24 (aO b)]):=EX.append _ _
 have c2:(g1++[az.arr 24 (aO b)])[g1.length]?=some (.arr 24 (aO b)):=bK
 generalize g1++[az.arr 24 (aO b)]=g2 at x2 c2⊢
 have aM:=x1.trans x2
 obtain ⟨p0,p1,p2⟩:=nz (x2.get c1)
 obtain ⟨q0,q1,q2⟩:=nz c2
 have w1:IntKind.wrap .i64 ((a.1:Int)+a.2.2)=(a.1+a.2.2:Nat):=by rw [wrap64 (by omega) (by omega)];omega
 have w2:IntKind.wrap .i64 ((b.1:Int)+b.2.2)=(b.1+b.2.2:Nat):=by rw [wrap64 (by omega) (by omega)];omega
 have w3:IntKind.wrap .i64 ((a.2.1:Int)+a.2.2)=(a.2.1+a.2.2:Nat):=by rw [wrap64 (by omega) (by omega)];omega
 have w4:IntKind.wrap .i64 ((b.2.1:Int)+b.2.2)=(b.2.1+b.2.2:Nat):=by rw [wrap64 (by omega) (by omega)];omega
 simp only [cj,zero_add,ah,p0,p2,q0,b7,w1,rR]
 unfold NJ at hap
 by_cases h1:a.1+a.2.2<=b.1
 ·rw [dh (show ((a.1+a.2.2:Nat):Int)<=b.1 by omega)]
  simp only [ana,o0,Uv,fy,ah,Uw,JN,JO,JP,true_and]
  exact aM
 rw [bX (show ¬((a.1+a.2.2:Nat):Int)<=b.1 by omega)]
 simp only [ana,fc,cj,zero_add,ah,q0,q2,p0,b7,w2,rR]
 by_cases h2:b.1+b.2.2<=a.1
 ·rw [dh (show ((b.1+b.2.2:Nat):Int)<=a.1 by omega)]
  simp only [o0,Uv,dA,fy,ah,Uw,JN,JO,JP,true_and]
  exact aM
 rw [bX (show ¬((b.1+b.2.2:Nat):Int)<=a.1 by omega)]
 simp only [Uv,dA,ah,Uw,fc,cj,zero_add,p1,p2,q1,b7,w3,rR]
 by_cases h3:a.2.1+a.2.2<=b.2.1
 ·rw [dh (show ((a.2.1+a.2.2:Nat):Int)<=b.2.1 by omega)]
  simp only [o0,dA,fy,ah,JN,JO,JP,true_and]
  exact aM
 rw [bX (show ¬((a.2.1+a.2.2:Nat):Int)<=b.2.1 by omega)]
 simp only [JN,dA,ah,JO,fc,cj,zero_add,q1,q2,p1,b7,w4,rR,JP]
 rw [dh (show ((b.2.1+b.2.2:Nat):Int)<=a.2.1 by omega)]
 exact ⟨rfl,aM⟩
theorem C43 {iv:Nat} {l:List T3} (hg:h[iv]?=some (.arr 24 (ck l))) (h0:0<l.length) (hl:l.length<=1000) (hk:∀iq h',EX h h'->h.length<=iq->h'[iq]?=some (.arr 24 (ck l))->K (sl 24 iq 0 l.length) h'):ay prog 43 [sl 24 iv 0 l.length] h K:=by
 refine f43 ?_
 have e0:oG false (sl 24 iv 0 l.length) (.slice none 0 0)=some (B false):=rfl
 have e1:cH 24 0 [(.int .i64 (0)),(.int .i64 (0)),(.int .i64 (0))] h []=some (sl 24 h.length 0 0,h++[.arr 24 []]):=by simp [cH,jC,bE]
 simp only [MK,e0,ah,dm,e1,aL]
 have x1:EX h (h++[.arr 24 []]):=EX.append _ _
 have c1:(h++[az.arr 24 []])[h.length]?=some (.arr 24 []):=bK
 have l1:(h++[az.arr 24 []]).length=h.length+1:=by simp
 have uX:=x1.get hg
 generalize h++[az.arr 24 []]=g1 at x1 c1 l1 uX⊢
 have len:=mL l
 have e2:fx g1 3 (sl 24 iv 0 l.length)=some (ck l):=by
  simp only [fx,sl,bw,uX,bind_some]
  rw [if_neg (by omega),if_pos (by omega),drop_zero,take_of_length_le (by omega)]
 have e3:cT 24 3 24 g1 (sl 24 h.length 0 0) (sl 24 iv 0 l.length)=some (sl 24 g1.length 0 l.length,g1.set h.length .dead++[.arr 24 (ck l)]):=by
  simp only [cT,e2]
  simp only [iY,sl,c1]
  rw [if_pos ⟨trivial,trivial,by simp,by omega,by simp [maxLen];omega⟩,if_neg (by omega)]
  simp
 simp only [e3,aL]
 exact hk g1.length _ ((x1.set (by omega) _).push _) (by omega) (by simp)
end
section
open Go.Sim Go.Sort
variable {h : ae} {K : Value -> ae -> Prop} {l : List T3} {w t : Nat} {ys : List Nat}
theorem aDb (g:ae) (v:Value) (hv:fV v=true/\dL v=[v]):∃x,eG [(.slice none 0 0),(.int .i64 (0)),(.int .i64 (0))] [(0,1,v)]=some x/\cR 77 g x=some (pt g.length 0,g++[.arr 77 [v,I 0,I 0]]):=by
 obtain ⟨h1,h2⟩:=hv
 refine ⟨.agg #[v,I 0,I 0],?_,?_⟩
 ·simp [eG,jC,setAt,h1,h2]
 ·simp [cR,fV,dL]
  exact ⟨rfl,rfl⟩
def qO (l:List T3):Nat:=(l.map λq=>q.2.2*q.2.2).sum
theorem aun {l:List T3} {i:Nat} (hi:i<l.length):qO (l.take (i+1))=qO (l.take i)+l[i].2.2*l[i].2.2:=by
 unfold qO
 rw [take_succ_eq_append_getElem hi,map_append,List.sum_append]
 simp
theorem aum {l:List T3} (hb:∀q∈l,q.2.2<=1000):qO l<=1000000*l.length:=by
 induction l with
 | nil=>simp [qO]
 | cons q l ih=>
  have h1:=ih λp hp=>hb p (mem_cons_of_mem _ hp)
  have h2:=hb q mem_cons_self
  have h3:q.2.2*q.2.2<=1000*1000:=mul_le_mul h2 h2
  simp only [qO,map_cons,sum_cons,List.length_cons] at h1⊢
  omega
structure rN (h0:ae) (ic iq:Nat) (ls:List T3) (w t:Nat) (g:ae):Prop where
 ex:EX h0 g
 c0:h0.length<=ic
 q0:h0.length<=iq
 hc:g[ic]?=some (.arr 77 [sl 24 iq 0 ls.length,I w,I t])
 hq:g[iq]?=some (.arr 24 (ck ls))
theorem AG {g:ae} {i:Nat} {a b c:Value} (hg:g[i]?=some (.arr 77 [a,b,c])):af false 1 g (pt i 0)=some a/\af false 1 g (pt i 1)=some b/\af false 1 g (pt i 2)=some c:=by
 simp [af,bw,hg,dS]
theorem iS (i o:Nat):eI (pt i o)=some (pt i o):=rfl
theorem Ks {iv:Nat} (c:eu l w t ys) (hw:w<=1000) (ht:t<=1000) (hl:l.length<=24) (hg:h[iv]?=some (.arr 24 (ck l)))
  (hk:∀ic iq g,rN h ic iq (eJ l) w t g->K (.tuple #[pt ic 0,I 0]) g):ay prog 22 [sl 24 iv 0 l.length] h K:=by
 have iO:=c.pos.2.2
 have bd:=c.bound
 have FE:∀q∈l,q.1<=1000/\q.2.1<=1000/\q.2.2<=1000/\1<=q.2.2/\q.1+q.2.2<=1000/\q.2.1+q.2.2<=1000:=λq hq=>by have:=bd q hq;omega
 have af5:aT (sl 24 iv 0 l.length)=some (I l.length):=rfl
 refine f22 ?_
 unfold Mo
 simp only [af5,ah,gY]
 rw [bX (show ¬(24:Int)<l.length by omega)]
 simp only [dm]
 refine C43 hg (by omega) (by omega) ?_
 intro iq g1 x1 Ig hq
 obtain ⟨x,e1,e2⟩:=aDb g1 (sl 24 iq 0 l.length) ⟨rfl,rfl⟩
 simp only [e1,ah,e2,aL]
 have m0:rN h g1.length iq l 0 0 (g1++[.arr 77 [sl 24 iq 0 l.length,I 0,I 0]]):=⟨x1.trans (EX.append _ _),x1.1,Ig,bK,(EX.append _ _).get hq⟩
 generalize g1.length=ic at m0⊢
 generalize g1++[az.arr 77 [sl 24 iq 0 l.length,I 0,I 0]]=g2 at m0⊢
 refine cN (σ:=Nat×ae) (λq=>[I (qO (l.take q.1):Nat),I q.1]) (λq=>q.2) (λq=>q.1<=l.length/\rN h ic iq l (wM (l.take q.1)) (hM (l.take q.1)) q.2) (λq=>l.length-q.1) (0,g2) rfl rfl ⟨zero_le _,m0⟩ ?_
 rintro ⟨i,g⟩ ⟨hi,m⟩ L hL
 simp only at hi m hL⊢
 rw [aE9]
 simp only [bW,ah,ca]
 refine ⟨λaw=>?_,λcJ=>?_⟩
 ·have aw:i<l.length:=by omega
  have P7:=m.ex.get hg
  obtain ⟨b1,b2,b3,b4,b5,b6⟩:=FE _ (getElem_mem aw)
  have oc:bw g iv=some (ck l):=by simp [bw,P7]
  have r:=tY oc aw
  have ea:cF 24 [(.int .i64 (0)),(.int .i64 (0)),(.int .i64 (0))] g=some (pt g.length 0,g++[.arr 24 [I 0,I 0,I 0]]):=rfl
  have es:=xj (bK:(g++[az.arr 24 [I 0,I 0,I 0]])[g.length]?=some (.arr 24 [I 0,I 0,I 0])) l[i]
  have pg:(g++[az.arr 24 [I 0,I 0,I 0]]).set g.length (.arr 24 (aO l[i]))=g++[.arr 24 (aO l[i])]:=by simp
  rw [pg] at es
  simp only [uC aw,sl,r.1,ah,ea,aL,es]
  have x3:EX g (g++[.arr 24 (aO l[i])]):=EX.append _ _
  have c3:(g++[az.arr 24 (aO l[i])])[g.length]?=some (.arr 24 (aO l[i])):=bK
  have aMD:=(cm m.hc).1
  have aeI:=(cm m.hq).1
  have RM:ic≠iq:=λe=>by have h1:=m.hc;rw [e,m.hq] at h1;cases h1
  have yv:=x3.get m.hc
  have vh:=x3.get m.hq
  have ex3:=m.ex.trans x3
  have RO:ic≠g.length:=by omega
  generalize g.length=is at c3 RO⊢
  generalize g++[az.arr 24 (aO l[i])]=g3 at x3 c3 yv vh ex3⊢
  obtain ⟨p0,p1,p2⟩:=nz c3
  have an3:IntKind.wrap .i64 (1000-(l[i].2.2:Int))=1000-(l[i].2.2:Int):=wrap64 (by omega) (by omega)
  simp only [cj,zero_add,ah,p0,bW]
  rw [bX (show ¬(l[i].1:Int)<0 by omega)]
  simp only [aFa,fc,cj,zero_add,ah,p1,bW]
  rw [bX (show ¬(l[i].2.1:Int)<0 by omega)]
  simp only [aFb,dA,ah,aFc,fc,cj,zero_add,p2,bW]
  rw [bX (show ¬(l[i].2.2:Int)<1 by omega)]
  simp only [aFd,dA,ah,aFe,fc,cj,zero_add,p2,gY]
  rw [bX (show ¬(1000:Int)<(l[i].2.2:Int) by omega)]
  simp only [aFf,dA,ah,aFg,fc,cj,zero_add,p0,p2,gY,iD,an3]
  rw [bX (show ¬(1000-(l[i].2.2:Int))<(l[i].1:Int) by omega)]
  simp only [aFh,dA,ah,aFi,fc,cj,zero_add,p1,p2,gY,iD,an3]
  rw [bX (show ¬(1000-(l[i].2.2:Int))<(l[i].2.1:Int) by omega)]
  rw [aFj]
  have wl:=aK0 (l:=l) (i:=i)
  have tJ:=aAG (l:=l) (i:=i)
  rw [c.reach.1] at wl
  rw [c.reach.2] at tJ
  obtain ⟨k0,k1,k2⟩:=AG yv
  have a1:IntKind.wrap .i64 ((l[i].1:Int)+l[i].2.2)=(l[i].1+l[i].2.2:Nat):=by rw [wrap64 (by omega) (by omega)];omega
  have a2:IntKind.wrap .i64 ((l[i].2.1:Int)+l[i].2.2)=(l[i].2.1+l[i].2.2:Nat):=by rw [wrap64 (by omega) (by omega)];omega
  have mx:∀a b:Nat,max (a:Int) (b:Int)=((max a b:Nat):Int):=λa b=>by omega
  have tw:wM (l.take (i+1))=max (wM (l.take i)) (l[i].1+l[i].2.2):=by rw [take_succ_eq_append_getElem aw,Km]
  have th:hM (l.take (i+1))=max (hM (l.take i)) (l[i].2.1+l[i].2.2):=by rw [take_succ_eq_append_getElem aw,HX]
  have aeH:=(cm yv).1
  have s1:=kz yv (o:=1) (v:=I (wM (l.take (i+1)):Nat)) (by simp) rfl rfl
  have d1:(g3.set ic (.arr 77 ([sl 24 iq 0 l.length,I (wM (l.take i):Nat),I (hM (l.take i):Nat)].set 1 (I (wM (l.take (i+1)):Nat)))))[ic]?=some (.arr 77 [sl 24 iq 0 l.length,I (wM (l.take (i+1)):Nat),I (hM (l.take i):Nat)]):=by rw [getElem?_set_self aeH];rfl
  have s2:=kz d1 (o:=2) (v:=I (hM (l.take (i+1)):Nat)) (by simp) rfl rfl
  rw [List.set_set] at s2
  have d2:(g3.set ic (.arr 77 ([sl 24 iq 0 l.length,I (wM (l.take i):Nat),I (hM (l.take i):Nat)].set 1 (I (wM (l.take (i+1)):Nat)))))[is]?=some (.arr 24 (aO l[i])):=by rw [getElem?_set_ne RO];exact c3
  obtain ⟨_,t1,t2⟩:=nz d2
  have d3:∀o,(g3.set ic o)[is]?=some (.arr 24 (aO l[i])):=λo=>by rw [getElem?_set_ne RO];exact c3
  have ar:=aun aw
  have arb:qO (l.take i)<=1000000*l.length:=by
   have:=aum (l:=l.take i) λq hq=>(FE q (List.mem_of_mem_take hq)).2.2.1
   rw [length_take] at this
   have h2:1000000*min i l.length<=1000000*l.length:=Nat.mul_le_mul_left _ (Nat.min_le_right _ _)
   omega
  have sq:l[i].2.2*l[i].2.2<=1000*1000:=mul_le_mul b3 b3
  have wm:IntKind.wrap .i64 ((l[i].2.2:Int)*l[i].2.2)=(l[i].2.2*l[i].2.2:Nat):=by
   have:(l[i].2.2:Int)*l[i].2.2=((l[i].2.2*l[i].2.2:Nat):Int):=by rw [Int.natCast_mul]
   rw [this,wrap64 (by omega) (by omega)]
  have wa:IntKind.wrap .i64 ((qO (l.take i):Int)+(l[i].2.2*l[i].2.2:Nat))=(qO (l.take (i+1)):Nat):=by
   rw [ar,wrap64 (by omega) (by omega)];omega
  obtain ⟨_,_,u2⟩:=nz (d3 (.arr 77 ([sl 24 iq 0 l.length,I (wM (l.take (i+1)):Nat),I (hM (l.take i):Nat)].set 2 (I (hM (l.take (i+1)):Nat)))))
  simp only [dA,ah,dm,iS,cj,zero_add,k1,k2,p0,p1,p2,b7,a1,a2,IW,mx,<-tw,<-th,s1,aL,t1,t2,s2,u2,xT,wm,wa,true_and,and_self]
  rw [dP i (by simp [maxLen];omega)]
  refine hL (i+1,_) ⟨aw,⟨ex3.set m.c0 _,m.c0,m.q0,?_,?_⟩⟩ (by show l.length-(i+1)<l.length-i;omega)
  ·rw [getElem?_set_self aeH];rfl
  ·rw [getElem?_set_ne RM];exact vh
 ·have iM:i=l.length:=by omega
  subst iM
  rw [take_length] at m⊢
  rw [c.reach.1,c.reach.2] at m
  rw [aFk]
  simp only [af5,ah]
  refine cN (σ:=Nat×ae) (λq=>[I q.1]) (λq=>q.2) (λq=>q.1<=l.length/\rN h ic iq l w t q.2) (λq=>l.length-q.1) (0,g) rfl rfl ⟨zero_le _,m⟩ ?_
  rintro ⟨i,g⟩ ⟨hi,m⟩ L hL
  simp only at hi m hL⊢
  have mm:∀{g g':ae},rN h ic iq l w t g->EX g g'->rN h ic iq l w t g':=λm x=>⟨m.ex.trans x,m.c0,m.q0,x.get m.hc,x.get m.hq⟩
  rw [aFl]
  simp only [bW,ah,ca]
  refine ⟨λaw=>?_,λcJ=>?_⟩
  ·have aw:i<l.length:=by omega
   have P7:=m.ex.get hg
   have oc:bw g iv=some (ck l):=by simp [bw,P7]
   have r:=tY oc aw
   have ea:cF 24 [(.int .i64 (0)),(.int .i64 (0)),(.int .i64 (0))] g=some (pt g.length 0,g++[.arr 24 [I 0,I 0,I 0]]):=rfl
   have es:=xj (bK:(g++[az.arr 24 [I 0,I 0,I 0]])[g.length]?=some (.arr 24 [I 0,I 0,I 0])) l[i]
   have pg:(g++[az.arr 24 [I 0,I 0,I 0]]).set g.length (.arr 24 (aO l[i]))=g++[.arr 24 (aO l[i])]:=by simp
   rw [pg] at es
   have part:fP 24 3 (sl 24 iv 0 l.length) none (some (I i))=some (.slice (some ⟨iv,0,some 24⟩) i l.length):=by
    simp [fP,sl,mE,od,pc];omega
   have lp:aT (.slice (some ⟨iv,0,some 24⟩) i l.length)=some (I i):=rfl
   have x3:EX g (g++[.arr 24 (aO l[i])]):=EX.append _ _
   have c3:(g++[az.arr 24 (aO l[i])])[g.length]?=some (.arr 24 (aO l[i])):=bK
   simp only [part,lp,ah]
   have ad:aD 3 (sl 24 iv 0 l.length) (I i)=some (pt iv (i*3)):=uC aw
   simp only [ad,r.1,ah,ea,aL,es]
   have m3:=mm m x3
   generalize g.length=is at c3⊢
   generalize g++[az.arr 24 (aO l[i])]=g3 at x3 c3 m3⊢
   refine cN (σ:=Nat×ae) (λq=>[I q.1]) (λq=>q.2) (λq=>q.1<=i/\EX g3 q.2) (λq=>i-q.1) (0,g3) rfl rfl ⟨zero_le _,EX.refl _⟩ ?_
   rintro ⟨j,g4⟩ ⟨hj,x4⟩ L2 dO
   simp only at hj x4 dO⊢
   rw [aFm]
   simp only [bW,ah,ca]
   refine ⟨λIl=>?_,λaMC=>?_⟩
   ·have Il:j<i:=by omega
    have mC:j<l.length:=by omega
    have m4:=mm m3 x4
    have Ib:=m4.ex.get hg
    have ocj:bw g4 iv=some (ck l):=by simp [bw,Ib]
    have rj:=tY ocj mC
    have ea:cF 24 [(.int .i64 (0)),(.int .i64 (0)),(.int .i64 (0))] g4=some (pt g4.length 0,g4++[.arr 24 [I 0,I 0,I 0]]):=rfl
    have es:=xj (bK:(g4++[az.arr 24 [I 0,I 0,I 0]])[g4.length]?=some (.arr 24 [I 0,I 0,I 0])) l[j]
    have pg:(g4++[az.arr 24 [I 0,I 0,I 0]]).set g4.length (.arr 24 (aO l[j]))=g4++[.arr 24 (aO l[j])]:=by simp
    rw [pg] at es
    have x5:EX g4 (g4++[.arr 24 (aO l[j])]):=EX.append _ _
    have c5:(g4++[az.arr 24 (aO l[j])])[g4.length]?=some (.arr 24 (aO l[j])):=bK
    have adj:aD 3 (.slice (some ⟨iv,0,some 24⟩) i l.length) (I j)=some (pt iv (j*3)):=uC Il
    simp only [adj,rj.1,ah,ea,aL,es]
    have dC:=x4.trans x5
    generalize g4.length=it at c5⊢
    generalize g4++[az.arr 24 (aO l[j])]=g5 at x5 c5 dC⊢
    have xW:=dC.get c3
    have ld:∀{g:ae} {k:Nat} {q:T3},g[k]?=some (.arr 24 (aO q))->af true 3 g (pt k 0)=some (.agg (aO q).toArray):=λhg=>by simp [af,bw,hg,dS,aO]
    have ap:=pairwise_iff_getElem.1 c.apart j i mC aw Il
    have bi:=FE _ (getElem_mem aw)
    have bj:=FE _ (getElem_mem mC)
    have bY:l[i]≠l[j]:=λe=>by rw [e] at ap;omega
    simp only [ld xW,ld c5,ah,aAa bY]
    simp only [aFn,fc,ld xW,ld c5,ah]
    refine C44 (by omega) (by omega) (by unfold NJ;omega) ?_
    simp only [kW,Bool.not_true,ah,aFo,dA,dm,b7,true_and]
    rw [dP j (by simp [maxLen];omega)]
    exact dO (j+1,g5) ⟨Il,dC⟩ (by show i-(j+1)<i-j;omega)
   ·rw [aFp]
    simp only [b7,ah,true_and]
    rw [dP i (by simp [maxLen];omega)]
    exact hL (i+1,g4) ⟨aw,mm m3 x4⟩ (by show l.length-(i+1)<l.length-i;omega)
  ·rw [aFq]
   have ar:qO l=w*t:=c.auo
   obtain ⟨pw,ph,_⟩:=c.pos
   have wt:w*t<=1000*1000:=mul_le_mul hw ht
   have wt0:0<w*t:=Nat.mul_pos (by omega) (by omega)
   obtain ⟨k0,k1,k2⟩:=AG m.hc
   have wm:IntKind.wrap .i64 ((w:Int)*t)=(w*t:Nat):=by
    have:(w:Int)*t=((w*t:Nat):Int):=by rw [Int.natCast_mul]
    rw [this,wrap64 (by omega) (by omega)]
   simp only [jB,ah]
   rw [bX (show ¬((qO l:Nat):Int)=0 by omega)]
   simp only [fc,iS,cj,zero_add,ah,k1,k2,xT,wm,iC,ar,decide_true,Bool.not_true,dA,dm,true_and,k0]
   refine C45 (λe=>by rw [e] at iO;simp at iO) (by omega) m.hq ?_
   have aeI:=(cm m.hq).1
   have RM:iq≠ic:=λe=>by have h1:=m.hq;rw [e,m.hc] at h1;cases h1
   have C0:(eJ l).length=l.length:=(J4 l).length_eq
   refine hk ic iq _ ⟨m.ex.set m.q0 _,m.c0,m.q0,?_,?_⟩
   ·rw [getElem?_set_ne RM,C0];exact m.hc
   ·rw [getElem?_set_self aeI];rfl
end
section
open Go.Sim Go.Sort
variable {h : ae} {K : Value -> ae -> Prop} {l : List T3} {w t : Nat} {ys : List Nat}
theorem rN.up {h0 g g':ae} {ic iq:Nat} {ls:List T3} (m:rN h0 ic iq ls w t g) (x:EX g g'):rN h0 ic iq ls w t g':=⟨m.ex.trans x,m.c0,m.q0,x.get m.hc,x.get m.hq⟩
theorem C8 {iv:Nat} (c:eu l w t ys) (hw:w<=1000) (ht:t<=1000) (hl:l.length<=24) (hg:h[iv]?=some (.arr 24 (ck l))) (hk:∀g,EX h g->K (.tuple #[I w,I t,I 0]) g):ay prog 8 [sl 24 iv 0 l.length] h K:=by
 refine f8 ?_
 unfold T8
 refine Ks c hw ht hl hg ?_
 intro ic iq g m
 obtain ⟨_,k1,k2⟩:=AG m.hc
 simp only [fM,gi,gj,ah,iC,decide_true,Bool.not_true,dm,iS,cj,zero_add,k1,k2,true_and]
 exact hk g m.ex
theorem C7 {iv:Nat} (c:eu l w t ys) (hw:w<=1000) (ht:t<=1000) (hl:l.length<=24) (hg:h[iv]?=some (.arr 24 (ck l)))
  (hk:∀v g,EX h g->gA h.length g 3 v ((eJ l).map λq=>I q.2.2)->K (.tuple #[v,I 0]) g):ay prog 7 [sl 24 iv 0 l.length] h K:=by
 refine f7 ?_
 unfold T7
 refine Ks c hw ht hl hg ?_
 intro ic iq g m
 have C0:(eJ l).length=l.length:=(J4 l).length_eq
 generalize eJ l=ls at m hk C0
 have lq:aT (sl 24 iq 0 ls.length)=some (I ls.length):=rfl
 simp only [fM,gi,gj,ah,iC,decide_true,Bool.not_true,dm,iS,cj,zero_add,(AG m.hc).1,lq]
 refine cN (σ:=Nat×Value×ae) (λq=>[q.2.1,I q.1]) (λq=>q.2.2) (λq=>q.1<=ls.length/\rN h ic iq ls w t q.2.2/\gA h.length q.2.2 3 q.2.1 ((ls.take q.1).map λq=>I q.2.2)) (λq=>ls.length-q.1)
  (0,.slice none 0 0,g) rfl rfl ⟨zero_le _,m,.inl ⟨rfl,rfl⟩⟩ ?_
 rintro ⟨i,vo,g⟩ ⟨hi,m,own⟩ L hL
 simp only at hi m own hL⊢
 rw [aIt]
 simp only [bW,ah,ca]
 refine ⟨λaw=>?_,λcJ=>?_⟩
 ·have aw:i<ls.length:=by omega
  have oc:bw g iq=some (ck ls):=by simp [bw,m.hq]
  have r:=tY oc aw
  have ad:aD 3 (sl 24 iq 0 ls.length) (I i)=some (pt iq (i*3)):=uC aw
  have ea:cF 24 [(.int .i64 (0)),(.int .i64 (0)),(.int .i64 (0))] g=some (pt g.length 0,g++[.arr 24 [I 0,I 0,I 0]]):=rfl
  have es:=xj (bK:(g++[az.arr 24 [I 0,I 0,I 0]])[g.length]?=some (.arr 24 [I 0,I 0,I 0])) ls[i]
  have pg:(g++[az.arr 24 [I 0,I 0,I 0]]).set g.length (.arr 24 (aO ls[i]))=g++[.arr 24 (aO ls[i])]:=by simp
  rw [pg] at es
  have x3:EX g (g++[.arr 24 (aO ls[i])]):=EX.append _ _
  have c3:(g++[az.arr 24 (aO ls[i])])[g.length]?=some (.arr 24 (aO ls[i])):=bK
  simp only [ad,r.1,ah,ea,aL,es,cj,zero_add,(nz c3).2.2]
  have m3:=m.up x3
  have qB:gA h.length (g++[az.arr 24 (aO ls[i])]) 3 vo ((ls.take i).map λq=>I q.2.2):=own.iu λd _ hv _=>x3.2 d (own.lt hv).2.1
  generalize g++[az.arr 24 (aO ls[i])]=g3 at x3 c3 m3 qB⊢
  have lb:((ls.take i).map λq=>I q.2.2).length<=24:=by rw [length_map,length_take];omega
  refine BV qB (by omega) (by simp [maxLen];omega) rfl rfl ?_
  intro _ g4 _ hlen Io kL
  simp only [aL,b7,ah,true_and]
  rw [dP i (by simp [maxLen];omega)]
  have nT:∀{d:Nat} {o:az},g3[d]?=some o->(∀cs,o≠ .arr 3 cs)->g4[d]?=some o:=λhd ho=>by
   rw [Io _ (cm hd).1 λn e=>?_]
   ·exact hd
   ·have:=(qB.lt e).2.2
    rw [hd] at this
    cases this
    exact ho _ rfl
  have lm3:=m3.ex.1
  refine hL (i+1,_,g4) ⟨aw,⟨⟨by show h.length<=g4.length;omega,λd hd=>?_⟩,m3.c0,m3.q0,nT m3.hc (λcs e=>by cases e),nT m3.hq (λcs e=>by cases e)⟩,?_⟩ (by show ls.length-(i+1)<ls.length-i;omega)
  ·rw [Io d (by omega) λn e=>?_]
   ·exact m3.ex.2 d hd
   ·have:=(qB.lt e).1;omega
  ·have e:((ls.take (i+1)).map λq=>I q.2.2)=((ls.take i).map λq=>I q.2.2)++[I ls[i].2.2]:=by
    rw [take_succ_eq_append_getElem aw,map_append];rfl
   show gA h.length g4 3 _ ((ls.take (i+1)).map λq=>I q.2.2)
   rw [e]
   exact .inr ⟨g3.length+1,by omega,by rw [length_append];rfl,kL⟩
 ·have:i=ls.length:=by omega
  subst this
  rw [aIu]
  rw [take_length] at own
  exact hk vo g m.ex own
theorem ac5 (X:List T3) (k:Nat):(ck X).take (k*3)=ck (X.take k):=by
 have e:ck X=ck (X.take k)++ck (X.drop k):=by rw [<-uG,take_append_drop]
 by_cases hk:k<=X.length
 ·have hl:=mL (X.take k)
  rw [length_take,Nat.min_eq_left hk] at hl
  rw [e,List.take_left' hl]
 ·rw [take_of_length_le (l:=X) (by omega),take_of_length_le]
  rw [mL];omega
theorem ac3 (X:List T3) (k:Nat):(ck X).drop (k*3)=ck (X.drop k):=by
 have e:ck X=ck (X.take k)++ck (X.drop k):=by rw [<-uG,take_append_drop]
 by_cases hk:k<=X.length
 ·have hl:=mL (X.take k)
  rw [length_take,Nat.min_eq_left hk] at hl
  rw [e,List.drop_left' hl]
 ·rw [drop_of_length_le (l:=X) (by omega),drop_of_length_le]
  ·rfl
  ·rw [mL];omega
theorem ay1 {X:List T3} {k:Nat} (hk:k<X.length) (q:T3):setAt (ck X) (k*3) (aO q)=ck (X.set k q):=by
 have h3:(aO q).length=3:=rfl
 unfold setAt
 rw [h3,show k*3+3=(k+1)*3 by omega,ac5,ac3]
 have e:X.set k q=X.take k++[q]++X.drop (k+1):=by
  rw [List.set_eq_take_append_cons_drop,if_pos hk];simp
 rw [e,uG,uG]
 simp [ck]
theorem ac4:∀{X:List T3} {k:Nat} (_:k<X.length) (m:Nat),(ck X).set (k*3+2) (I m)=ck (X.set k (X[k].1,X[k].2.1,m))
 | [],k,hk,_=>absurd hk (Nat.not_lt_zero k)
 | q::X,0,_,m=>by simp [ck,aO]
 | q::X,k+1,hk,m=>by
  have fN:k<X.length:=by simpa using hk
  have ih:=ac4 fN m
  have e:ck (q::X)=aO q++ck X:=by simp [ck]
  have h3:(aO q).length=3:=rfl
  rw [e,List.set_append_right _ _ (by rw [h3];omega),h3,show (k+1)*3+2-3=k*3+2 by omega,ih]
  simp [ck]
theorem aKk {J:List T3} (hJ:J≠[]) (z:T3):J.set (J.length-1) z=J.dropLast++[z]:=by
 have e:=List.dropLast_concat_getLast hJ
 have hl:J.dropLast.length=J.length-1:=by simp
 conv=>lhs;rw [<-e]
 rw [List.set_append_right _ _ (by simp)]
 simp
structure uo (h0:ae) (ij:Nat) (L0 X:List T3) (p jl:Nat) (g:ae):Prop where
 ex:EX h0 g
 j0:h0.length<=ij
 hj:g[ij]?=some (.arr 73 (ck X))
 xl:X.length=L0.length
 le:jl<=p
 pl:p<=L0.length
 tk:X.take jl=(L0.take p).foldl oK []
 dr:X.drop p=L0.drop p
 pos:1<=jl
theorem uo.up {h0 g g':ae} {ij p jl:Nat} {L0 X:List T3} (m:uo h0 ij L0 X p jl g) (x:EX g g'):uo h0 ij L0 X p jl g':=⟨m.ex.trans x,m.j0,x.get m.hj,m.xl,m.le,m.pl,m.tk,m.dr,m.pos⟩
theorem aKI {L0:List T3} {p:Nat} (hp:p<L0.length):(L0.take (p+1)).foldl oK []=oK ((L0.take p).foldl oK []) L0[p]:=by
 rw [take_succ_eq_append_getElem hp,List.foldl_append];rfl
theorem uo.next {h0 g:ae} {ij p jl:Nat} {L0 X:List T3} (m:uo h0 ij L0 X p jl g) (hp:p<L0.length):
  ∃(hX:p<X.length) (hJ:jl-1<X.length),X[p]=L0[p]/\
   ((X[jl-1].1=L0[p].1/\L0[p].2.1<=X[jl-1].2.2)->∀g',g'.length=g.length->g'[ij]?=some (.arr 73 (ck (X.set (jl-1) (X[jl-1].1,X[jl-1].2.1,max X[jl-1].2.2 L0[p].2.2))))->(∀d,d≠ij->g'[d]?=g[d]?)->
    uo h0 ij L0 (X.set (jl-1) (X[jl-1].1,X[jl-1].2.1,max X[jl-1].2.2 L0[p].2.2)) (p+1) jl g')/\
   (¬(X[jl-1].1=L0[p].1/\L0[p].2.1<=X[jl-1].2.2)->∀g',g'.length=g.length->g'[ij]?=some (.arr 73 (ck (X.set jl L0[p])))->(∀d,d≠ij->g'[d]?=g[d]?)->uo h0 ij L0 (X.set jl L0[p]) (p+1) (jl+1) g'):=by
 have xl:=m.xl;have le:=m.le;have pos:=m.pos
 have hX:p<X.length:=by omega
 have hJ:jl-1<X.length:=by omega
 have ep:X[p]=L0[p]:=by
  have h1:(X.drop p)[0]?=(L0.drop p)[0]?:=by rw [m.dr]
  rw [List.getElem?_drop,List.getElem?_drop] at h1
  simpa [hX,hp] using h1
 have aAH:X.take jl≠[]:=λe=>by have:=congrArg List.length e;rw [length_take,List.length_nil] at this;omega
 have tl:(X.take jl).length=jl:=by rw [length_take];omega
 have last:(X.take jl).getLast?=some X[jl-1]:=by
  rw [List.getLast?_eq_getElem?,tl,List.getElem?_take,if_pos (by omega),List.getElem?_eq_getElem hJ]
 have step:=aKI hp
 rw [<-m.tk] at step
 have drp:∀(k:Nat) (z:T3),k<=p->(X.set k z).drop (p+1)=L0.drop (p+1):=by
  intro k z hk
  rw [List.drop_set_of_lt (by omega)]
  have:=congrArg (List.drop 1) m.dr
  rwa [List.drop_drop,List.drop_drop] at this
 have ex':∀{g':ae},g'.length=g.length->(∀d,d≠ij->g'[d]?=g[d]?)->EX h0 g':=λhl ho=>⟨by have:=m.ex.1;omega,λd hd=>by rw [ho d (by have:=m.j0;omega)];exact m.ex.2 d hd⟩
 refine ⟨hX,hJ,ep,λhc g' hl hg ho=>?_,λhc g' hl hg ho=>?_⟩
 ·refine ⟨ex' hl ho,m.j0,hg,by rw [length_set];exact xl,by omega,by omega,?_,drp _ _ (by omega),pos⟩
  rw [step,List.take_set]
  unfold oK
  rw [last]
  simp only
  rw [if_pos hc]
  have:=aKk aAH (X[jl-1].1,X[jl-1].2.1,max X[jl-1].2.2 L0[p].2.2)
  rw [tl] at this
  exact this
 ·refine ⟨ex' hl ho,m.j0,hg,by rw [length_set];exact xl,by omega,by omega,?_,drp _ _ (by omega),by omega⟩
  rw [step]
  unfold oK
  rw [last]
  simp only
  rw [if_neg hc]
  have AS:jl<X.length:=by omega
  have h2:jl<(X.set jl L0[p]).length:=by rw [length_set];exact AS
  rw [take_succ_eq_append_getElem h2,List.getElem_set_self,List.take_set_of_le (le_refl _)]
end
section
open Go.Sim Go.Sort
variable {h : ae} {K : Value -> ae -> Prop} {w t : Nat}
theorem Yl (a b c:Nat):eG [(.int .i64 (0)),(.int .i64 (0)),(.int .i64 (0))] [(0,1,I a),(1,1,I b),(2,1,I c)]=some (.agg (aO (a,b,c)).toArray):=by
 simp [eG,jC,setAt,fV,dL,Value.cells,aO]
theorem aDc (g:ae) (p q:T3):cH 73 2 [(.int .i64 (0)),(.int .i64 (0)),(.int .i64 (0))] g [(0,3,.agg (aO p).toArray),(3,3,.agg (aO q).toArray)]=some (sl 73 g.length 0 2,g++[.arr 73 (ck [p,q])]):=by
 simp [cH,jC,bE,setAt,fV,dL,Value.cells,aO,ck]
theorem agu (e:TypeId) (g:ae) (p:T3):cH e 1 [(.int .i64 (0)),(.int .i64 (0)),(.int .i64 (0))] g [(0,3,.agg (aO p).toArray)]=some (sl e g.length 0 1,g++[.arr e (ck [p])]):=by
 simp [cH,jC,bE,setAt,fV,dL,Value.cells,aO,ck]
def wh (b:Nat) (g:ae) (e:TypeId) (v:Value) (X:List T3):Prop:=(v=.slice none 0 0/\X=[])∨∃i,b<=i/\v=sl e i 0 X.length/\g[i]?=some (.arr e (ck X))
theorem wh.up {b:Nat} {g g':ae} {e:TypeId} {v:Value} {X:List T3} (o:wh b g e v X) (x:EX g g'):wh b g' e v X:=
 o.imp id λ⟨i,h1,h2,h3⟩=>⟨i,h1,h2,x.get h3⟩
theorem wh.app {h0 g:ae} {e:TypeId} {v:Value} {X Y:List T3} {a:Nat} {K:Value->ae->Prop} (o:wh h0.length g e v X) (hex:EX h0 g) (ha:g[a]?=some (.arr e (ck Y))) (hY:0<Y.length) (hl:X.length+Y.length<=1000)
  (hk:∀i g',EX h0 g'->(∀d,d<g.length->(∀n,v≠sl e d 0 n)->g'[d]?=g[d]?)->h0.length<=i->g'[i]?=some (.arr e (ck (X++Y)))->g.length<=g'.length->g.length<=i->K (sl e i 0 (X++Y).length) g'):OH (cT e 3 24 g v (sl e a 0 Y.length)) K:=by
 have lY:=mL Y
 have lX:=mL X
 have e2:fx g 3 (sl e a 0 Y.length)=some (ck Y):=by
  simp only [fx,sl,bw,ha,bind_some]
  rw [if_neg (by omega),if_pos (by omega),drop_zero,take_of_length_le (by omega)]
 rcases o with ⟨rfl,rfl⟩ | ⟨i,hi,rfl,hg⟩
 ·have e3:cT e 3 24 g (.slice none 0 0) (sl e a 0 Y.length)=some (sl e g.length 0 Y.length,g++[.arr e (ck Y)]):=by
   simp only [cT,e2]
   simp only [iY,sl]
   simp at hl
   rw [if_neg (by omega),if_pos ⟨by omega,by simp [maxLen];omega⟩]
  simp only [e3,aL]
  have:=hk g.length (g++[.arr e (ck Y)]) (hex.push _) (λd hd _=>List.getElem?_append_left hd) hex.1 (by simp) (by simp) (le_refl _)
  simpa using this
 ·have e3:cT e 3 24 g (sl e i 0 X.length) (sl e a 0 Y.length)=some (sl e g.length 0 (X.length+Y.length),g.set i .dead++[.arr e (ck X++ck Y)]):=by
   simp only [cT,e2]
   simp only [iY,sl,hg]
   rw [if_pos ⟨trivial,trivial,by omega,by omega,by simp [maxLen];omega⟩,if_neg (by omega)]
  have aw:=(cm hg).1
  simp only [e3,aL]
  have:=hk g.length (g.set i .dead++[.arr e (ck X++ck Y)]) ((hex.set hi _).push _) (λd hd bY=>?_) hex.1 (by rw [uG];simp) (by simp) (le_refl _)
  ·rw [length_append] at this
   exact this
  ·have CG:i≠d:=by rintro rfl;exact bY _ rfl
   rw [List.getElem?_append_left (by simpa using hd),getElem?_set_ne CG]
def jx (e:TypeId) (i n c:Nat):Value:=.slice (some ⟨i,0,some e⟩) n c
theorem aB8 (q:gX) (l:List gX):items (q::l)=[(q.2.1,q.1,q.1+q.2.2),(q.2.1+q.2.2,q.1,q.1+q.2.2)]++items l:=rfl
theorem afP (l:List gX):(items l).length=2*l.length:=by
 induction l with
 | nil=>rfl
 | cons q l ih=>rw [aB8,length_append,ih];simp;omega
noncomputable def l9 (ls:List T3):List T3:=(ub (items ls)).foldl oK []
theorem C23 {ic iq:Nat} {h0:ae} {ls:List T3} (m:rN h0 ic iq ls w t h) (iO:0<ls.length) (hl:ls.length<=24) (hb:∀q∈ls,q.1<=10000/\q.2.1<=10000/\q.2.2<=10000)
  (hk:∀ij n X g,EX h g->h.length<=ij->g[ij]?=some (.arr 73 (ck X))->X.take (l9 ls).length=l9 ls->(l9 ls).length<=n->K (jx 73 ij (l9 ls).length n) g):ay prog 23 [pt ic 0] h K:=by
 refine f23 ?_
 have lq:aT (sl 24 iq 0 ls.length)=some (I ls.length):=rfl
 simp only [Mp,iS,ah,cj,zero_add,(AG m.hc).1,lq]
 refine cN (σ:=Nat×Value×ae) (λq=>[q.2.1,I q.1]) (λq=>q.2.2) (λq=>q.1<=ls.length/\EX h q.2.2/\wh h.length q.2.2 73 q.2.1 (items (ls.take q.1))) (λq=>ls.length-q.1)
  (0,.slice none 0 0,h) rfl rfl ⟨zero_le _,EX.refl _,.inl ⟨rfl,rfl⟩⟩ ?_
 rintro ⟨i,vo,g⟩ ⟨hi,xg,own⟩ L hL
 simp only at hi xg own hL⊢
 rw [aFu]
 simp only [bW,ah,ca]
 refine ⟨λaw=>?_,λcJ=>?_⟩
 ·have aw:i<ls.length:=by omega
  have QA:=xg.get m.hq
  have oc:bw g iq=some (ck ls):=by simp [bw,QA]
  have r:=tY oc aw
  obtain ⟨b1,b2,b3⟩:=hb _ (getElem_mem aw)
  have ad:aD 3 (sl 24 iq 0 ls.length) (I i)=some (pt iq (i*3)):=uC aw
  have ea:cF 24 [(.int .i64 (0)),(.int .i64 (0)),(.int .i64 (0))] g=some (pt g.length 0,g++[.arr 24 [I 0,I 0,I 0]]):=rfl
  have es:=xj (bK:(g++[az.arr 24 [I 0,I 0,I 0]])[g.length]?=some (.arr 24 [I 0,I 0,I 0])) ls[i]
  have pg:(g++[az.arr 24 [I 0,I 0,I 0]]).set g.length (.arr 24 (aO ls[i]))=g++[.arr 24 (aO ls[i])]:=by simp
  rw [pg] at es
  have x3:EX g (g++[.arr 24 (aO ls[i])]):=EX.append _ _
  have c3:(g++[az.arr 24 (aO ls[i])])[g.length]?=some (.arr 24 (aO ls[i])):=bK
  simp only [ad,r.1,ah,ea,aL,es]
  have qB:=own.up x3
  have xG:=xg.trans x3
  generalize g.length=is at c3⊢
  generalize g++[az.arr 24 (aO ls[i])]=g3 at x3 c3 qB xG⊢
  obtain ⟨p0,p1,p2⟩:=nz c3
  have a1:IntKind.wrap .i64 ((ls[i].1:Int)+ls[i].2.2)=(ls[i].1+ls[i].2.2:Nat):=by rw [wrap64 (by omega) (by omega)];omega
  have a2:IntKind.wrap .i64 ((ls[i].2.1:Int)+ls[i].2.2)=(ls[i].2.1+ls[i].2.2:Nat):=by rw [wrap64 (by omega) (by omega)];omega
  simp only [cj,zero_add,ah,p0,p1,p2,b7,a1,a2,Yl,aDc,aL]
  have x4:EX g3 (g3++[.arr 73 (ck [(ls[i].2.1,ls[i].1,ls[i].1+ls[i].2.2),(ls[i].2.1+ls[i].2.2,ls[i].1,ls[i].1+ls[i].2.2)])]):=EX.append _ _
  have c4:(g3++[az.arr 73 (ck [(ls[i].2.1,ls[i].1,ls[i].1+ls[i].2.2),(ls[i].2.1+ls[i].2.2,ls[i].1,ls[i].1+ls[i].2.2)])])[g3.length]?=some (.arr 73 (ck [(ls[i].2.1,ls[i].1,ls[i].1+ls[i].2.2),(ls[i].2.1+ls[i].2.2,ls[i].1,ls[i].1+ls[i].2.2)])):=bK
  have it:=eu.afQ aw
  rw [List.append_assoc] at it
  have li:=afP (ls.take i)
  rw [length_take] at li
  refine wh.app (Y:=[(ls[i].2.1,ls[i].1,ls[i].1+ls[i].2.2),(ls[i].2.1+ls[i].2.2,ls[i].1,ls[i].1+ls[i].2.2)]) (qB.up x4) (xG.trans x4) c4 (by simp) (by simp;omega) ?_
  intro i5 g5 x5 _ hi5 P6 _ _
  simp only [true_and]
  rw [dP i (by simp [maxLen];omega)]
  refine hL (i+1,_,g5) ⟨aw,x5,?_⟩ (by show ls.length-(i+1)<ls.length-i;omega)
  show wh h.length g5 73 _ (items (ls.take (i+1)))
  rw [it]
  exact .inr ⟨i5,hi5,rfl,P6⟩
 ·have:i=ls.length:=by omega
  subst this
  rw [take_length] at own
  have li:(items ls).length=2*ls.length:=afP ls
  have ln:(items ls).length≠0:=λe=>by rw [e] at li;clear own;omega
  rcases own with ⟨_,e⟩ | ⟨ij,gC,rfl,Ib⟩
  ·exact absurd (by rw [e];rfl) ln
  ·rw [aFr]
   have le:(items ls).length<=1000:=by rw [li];omega
   refine C47 (ls:=items ls) (λe=>ln (by rw [e];rfl)) le Ib ?_
   have mC:=(cm Ib).1
   have sl0:(ub (items ls)).length=(items ls).length:=(anR _).length_eq
   have hx:EX h (g.set ij (.arr 73 (ck (ub (items ls))))):=xg.set gC _
   have hj1:(g.set ij (.arr 73 (ck (ub (items ls)))))[ij]?=some (.arr 73 (ck (ub (items ls)))):=by rw [getElem?_set_self mC]
   show OP (fP 73 3 (sl 73 ij 0 (items ls).length) none (some (.int .i64 (1)))) _
   unfold l9 at hk
   rw [<-sl0] at li⊢
   have RA:(ub (items ls)).length≠0:=by rw [sl0];exact ln
   generalize ub (items ls)=L0 at hk li hx hj1 RA⊢
   have s1:fP 73 3 (sl 73 ij 0 L0.length) none (some (.int .i64 (1)))=some (jx 73 ij 1 L0.length):=by
    simp [fP,sl,mE,od,pc,jx]
    exact λe=>RA (by rw [e];rfl)
   have s2:fP 73 3 (sl 73 ij 0 L0.length) (some (.int .i64 (1))) none=some (sl 73 ij 3 (L0.length-1)):=by
    simp [fP,sl,mE,od]
    exact λe=>RA (by rw [e];rfl)
   have l2:aT (sl 73 ij 3 (L0.length-1))=some (I (L0.length-1:Nat)):=rfl
   simp only [s1,s2,ah,l2]
   have m0:uo h ij L0 L0 1 1 (g.set ij (.arr 73 (ck L0))):=by
    refine ⟨hx,gC,hj1,rfl,le_refl _,by omega,?_,rfl,le_refl _⟩
    have h0:0<L0.length:=by omega
    rw [take_succ_eq_append_getElem h0]
    simp [oK]
   refine cN (σ:=Nat×Nat×List T3×ae) (λq=>[jx 73 ij q.2.1 L0.length,I q.1]) (λq=>q.2.2.2) (λq=>uo h ij L0 q.2.2.1 (q.1+1) q.2.1 q.2.2.2) (λq=>L0.length-q.1)
    (0,1,L0,g.set ij (.arr 73 (ck L0))) rfl rfl m0 ?_
   rintro ⟨p,jl,X,g1⟩ m1 L2 dO
   simp only at m1 dO⊢
   have xl:=m1.xl;have mle:=m1.le;have mpl:=m1.pl;have aMT:=m1.pos
   rw [aFs]
   simp only [bW,ah,ca]
   refine ⟨λaw=>?_,λcJ=>?_⟩
   ·have aw:p+1<L0.length:=by omega
    obtain ⟨hX,hJ,ep,n1,n2⟩:=m1.next aw
    have ad:aD 3 (sl 73 ij 3 (L0.length-1)) (I p)=some (pt ij ((p+1)*3)):=by
     have:p<L0.length-1:=by omega
     simp [aD,sl,this,Nat.add_mul,Nat.add_comm]
    have oc:bw g1 ij=some (ck X):=by simp [bw,m1.hj]
    have r:=tY oc hX
    rw [ep] at r
    have ea:cF 73 [(.int .i64 (0)),(.int .i64 (0)),(.int .i64 (0))] g1=some (pt g1.length 0,g1++[.arr 73 [I 0,I 0,I 0]]):=rfl
    have es:=xj (bK:(g1++[az.arr 73 [I 0,I 0,I 0]])[g1.length]?=some (.arr 73 [I 0,I 0,I 0])) L0[p+1]
    have pg:(g1++[az.arr 73 [I 0,I 0,I 0]]).set g1.length (.arr 73 (aO L0[p+1]))=g1++[.arr 73 (aO L0[p+1])]:=by simp
    rw [pg] at es
    have x3:EX g1 (g1++[.arr 73 (aO L0[p+1])]):=EX.append _ _
    have c3:(g1++[az.arr 73 (aO L0[p+1])])[g1.length]?=some (.arr 73 (aO L0[p+1])):=bK
    have lj:aT (jx 73 ij jl L0.length)=some (I jl):=rfl
    have adl:aD 3 (jx 73 ij jl L0.length) (I (jl-1:Nat))=some (pt ij ((jl-1)*3)):=uC (by omega)
    have sb:IntKind.wrap .i64 ((jl:Int)-1)=(jl-1:Nat):=by rw [wrap64 (by omega) (by omega)];omega
    simp only [ad,r.1,ah,ea,aL,es,lj,iD,sb,adl,iS]
    have m3:=m1.up x3
    obtain ⟨_,_,_,n1,n2⟩:=m3.next aw
    have I4:ij≠g1.length:=by
     have:=(cm m1.hj).1;omega
    generalize g1.length=is at c3 I4⊢
    generalize g1++[az.arr 73 (aO L0[p+1])]=g3 at x3 c3 m3 n1 n2⊢
    obtain ⟨p0,p1,p2⟩:=nz c3
    have Jb:bw g3 ij=some (ck X):=by simp [bw,m3.hj]
    obtain ⟨_,z0,z1,z2⟩:=tY Jb hJ
    have aA7:=(cm m3.hj).1
    have mx:∀a b:Nat,max (a:Int) (b:Int)=((max a b:Nat):Int):=λa b=>by omega
    have join:(X[jl-1].1=L0[p+1].1/\L0[p+1].2.1<=X[jl-1].2.2)->∃g4,aU 1 g3 (pt ij ((jl-1)*3+2)) (I (max X[jl-1].2.2 L0[p+1].2.2:Nat))=some (undef,g4)/\
      zy prog K (jx 73 ij jl L0.length) (sl 73 ij 3 (L0.length-1)) (I (L0.length-1:Nat)) (I p) L2 g4:=by
     intro hc
     have st:=kz m3.hj (o:=(jl-1)*3+2) (v:=I (max X[jl-1].2.2 L0[p+1].2.2:Nat)) (by rw [mL];omega) rfl rfl
     rw [ac4 hJ] at st
     refine ⟨_,st,?_⟩
     rw [amY]
     simp only [b7,ah,true_and]
     rw [dP p (by simp [maxLen];omega)]
     exact dO (p+1,jl,_,_) (n1 hc _ (by rw [length_set]) (by rw [getElem?_set_self aA7]) (λd hd=>by rw [getElem?_set_ne (Ne.symm hd)])) (by show L0.length-(p+1)<L0.length-p;omega)
    have fresh:¬(X[jl-1].1=L0[p+1].1/\L0[p+1].2.1<=X[jl-1].2.2)->OP (af true 3 g3 (pt is 0)) λeP=>OH (cH 73 1 [(.int .i64 (0)),(.int .i64 (0)),(.int .i64 (0))] g3 [(0,3,eP)]) λkH h_3=>OH (cT 73 3 24 h_3 (jx 73 ij jl L0.length) kH) λjq h_4=>
      zy prog K jq (sl 73 ij 3 (L0.length-1)) (I (L0.length-1:Nat)) (I p) L2 h_4:=by
     intro hc
     have ld:af true 3 g3 (pt is 0)=some (.agg (aO L0[p+1]).toArray):=by simp [af,bw,c3,dS,aO]
     simp only [ld,ah,agu,aL]
     have x4:EX g3 (g3++[.arr 73 (ck [L0[p+1]])]):=EX.append _ _
     have c4:(g3++[az.arr 73 (ck [L0[p+1]])])[g3.length]?=some (.arr 73 (ck [L0[p+1]])):=bK
     have m4:=m3.up x4
     obtain ⟨_,_,_,_,n3⟩:=m4.next aw
     generalize g3.length=ix at c4⊢
     generalize g3++[az.arr 73 (ck [L0[p+1]])]=g4 at x4 c4 m4 n3⊢
     have aA8:=(cm m4.hj).1
     have ce:ck [L0[p+1]]=aO L0[p+1]:=by simp [ck]
     have e2:fx g4 3 (sl 73 ix 0 1)=some (aO L0[p+1]):=by
      simp only [fx,sl,bw,c4,bind_some,ce]
      rfl
     have lX:=mL X
     have e3:cT 73 3 24 g4 (jx 73 ij jl L0.length) (sl 73 ix 0 1)=some (jx 73 ij (jl+1) L0.length,g4.set ij (.arr 73 (ck (X.set jl L0[p+1])))):=by
      simp only [cT,e2]
      simp only [iY,sl,jx,m4.hj]
      rw [if_neg (λe=>by have:=e.2.2.1;omega),if_pos ⟨trivial,trivial,by omega,by omega,by omega⟩,ay1 (by omega)]
     simp only [e3,aL]
     rw [amY]
     simp only [b7,ah,true_and]
     rw [dP p (by simp [maxLen];omega)]
     exact dO (p+1,jl+1,_,_) (n3 hc _ (by rw [length_set]) (by rw [getElem?_set_self aA8]) (λd hd=>by rw [getElem?_set_ne (Ne.symm hd)])) (by show L0.length-(p+1)<L0.length-p;omega)
    simp only [cj,zero_add,add_zero,ah,z0,p0,jB,true_and]
    by_cases h1:X[jl-1].1=L0[p+1].1
    ·rw [dh (show (X[jl-1].1:Int)=L0[p+1].1 by omega)]
     simp only [gK,ah,p1,z2,rR,fy,ca]
     refine ⟨λh2=>?_,λh2=>?_⟩
     ·obtain ⟨g4,st,nx⟩:=join ⟨h1,by omega⟩
      simp only [p2,ah,IW,mx,st,aL]
      exact nx
     ·exact fresh λhc=>h2 (by have:=hc.2;omega)
    ·rw [bX (show ¬(X[jl-1].1:Int)=L0[p+1].1 by omega)]
     simp only [jd,dA,ah,dm]
     exact fresh λhc=>h1 hc.1
   ·have hp:p+1=L0.length:=by omega
    rw [aFt]
    have tk:=m1.tk
    rw [hp,take_length] at tk
    have tl:(X.take jl).length=jl:=by rw [length_take];omega
    have aCc:(L0.foldl oK []).length=jl:=by rw [<-tk];exact tl
    rw [<-aCc] at tk⊢
    exact hk ij L0.length X g1 m1.ex m1.j0 m1.hj tk (by omega)
end
section
open Go.Sim Go.Sort
variable {h : ae} {K : Value -> ae -> Prop} {w t : Nat}
def fq (b:Nat) (g:ae) (e:TypeId) (esz:Nat) (v:Value) (n:Nat) (cs:List Value):Prop:=
 cs.length=n*esz/\((v=.slice none 0 0/\n=0)∨∃i,b<=i/\v=sl e i 0 n/\g[i]?=some (.arr e cs))
theorem fq.up {b:Nat} {g g':ae} {e:TypeId} {esz n:Nat} {v:Value} {cs:List Value} (o:fq b g e esz v n cs) (x:EX g g'):fq b g' e esz v n cs:=
 ⟨o.1,o.2.imp id λ⟨i,h1,h2,h3⟩=>⟨i,h1,h2,x.get h3⟩⟩
theorem fq.nil (b:Nat) (g:ae) (e:TypeId) (esz:Nat):fq b g e esz (.slice none 0 0) 0 []:=⟨by simp,.inl ⟨rfl,rfl⟩⟩
theorem fq.len {b:Nat} {g:ae} {e:TypeId} {esz n:Nat} {v:Value} {cs:List Value} (o:fq b g e esz v n cs):aT v=some (I n):=by
 rcases o.2 with ⟨rfl,rfl⟩ | ⟨i,_,rfl,_⟩ <;> rfl
theorem fq.at {b:Nat} {g:ae} {e:TypeId} {esz n:Nat} {v:Value} {cs:List Value} (o:fq b g e esz v n cs) (h0:0<n):∃i,b<=i/\v=sl e i 0 n/\g[i]?=some (.arr e cs):=
 o.2.resolve_left λh=>by omega
theorem fq.app {h0 g:ae} {e:TypeId} {esz sz n m:Nat} {v:Value} {cs ds:List Value} {a:Nat} {K:Value->ae->Prop} (o:fq h0.length g e esz v n cs) (hex:EX h0 g) (ha:g[a]?=some (.arr e ds)) (hd:ds.length=m*esz) (hm:0<m)
  (hl:n+m<=10000) (hs:sz<=100)
  (hk:∀v' g',EX h0 g'->(∀d,d<g.length->(∀n,v≠sl e d 0 n)->g'[d]?=g[d]?)->g.length<=g'.length->fq h0.length g' e esz v' (n+m) (cs++ds)->(∀d n,v'=sl e d 0 n->g.length<=d)->K v' g'):OH (cT e esz sz g v (sl e a 0 m)) K:=by
 have e2:fx g esz (sl e a 0 m)=some ds:=by
  simp only [fx,sl,bw,ha,bind_some]
  rw [if_neg (by omega),if_pos (by omega),drop_zero,take_of_length_le (by omega)]
 have b1:(n+m)*sz<=140737488355328:=le_trans (mul_le_mul hl hs) (by omega)
 have b2:m*sz<=140737488355328:=le_trans (mul_le_mul (show m<=10000 by omega) hs) (by omega)
 have b3:n+m<=maxLen:=by simp [maxLen];omega
 obtain ⟨o1,o⟩:=o
 rcases o with ⟨rfl,rfl⟩ | ⟨i,hi,rfl,hg⟩
 ·have e3:cT e esz sz g (.slice none 0 0) (sl e a 0 m)=some (sl e g.length 0 m,g++[.arr e ds]):=by
   simp only [cT,e2]
   simp only [iY,sl]
   rw [if_neg (by omega),if_pos ⟨b2,by omega⟩]
  have c0:cs=[]:=List.length_eq_zero_iff.1 (by omega)
  subst c0
  simp only [e3,aL]
  rw [zero_add] at hk
  exact hk _ _ (hex.push _) (λd hd _=>List.getElem?_append_left hd) (by simp) ⟨by simpa using hd,.inr ⟨g.length,hex.1,rfl,by simp⟩⟩ λd n hd=>by rw [(vN hd).1];exact le_refl _
 ·have e3:cT e esz sz g (sl e i 0 n) (sl e a 0 m)=some (sl e g.length 0 (n+m),g.set i .dead++[.arr e (cs++ds)]):=by
   simp only [cT,e2]
   simp only [iY,sl,hg]
   rw [if_pos ⟨trivial,trivial,o1,b1,b3⟩,if_neg (by omega)]
  have aw:=(cm hg).1
  simp only [e3,aL]
  refine hk _ _ ((hex.set hi _).push _) (λd hd bY=>?_) (by simp) ⟨by rw [length_append,o1,hd,Nat.add_mul],.inr ⟨g.length,hex.1,rfl,by simp⟩⟩ λd n hd=>by rw [(vN hd).1];exact le_refl _
  have CG:i≠d:=by rintro rfl;exact bY _ rfl
  rw [List.getElem?_append_left (by simpa using hd),getElem?_set_ne CG]
def zv (x y:Nat) (a:T3):Bool:=decide (a.1=y/\a.2.1<=x/\x<a.2.2)
theorem C26 {ix iy:Nat} {a:T3} {x y:Nat} (hy:af false 1 h (pt iy 0)=some (I y)) (hx:af false 1 h (pt ix 0)=some (I x)) (hk:∀g,EX h g->K (B (zv x y a)) g):
  ay prog 26 [.agg (aO a).toArray,pt iy 0,pt ix 0] h K:=by
 refine f26 ?_
 unfold Ms
 simp only [BZ,aL]
 have x1:EX h (h++[.arr 73 (aO a)]):=EX.append _ _
 have c1:(h++[az.arr 73 (aO a)])[h.length]?=some (.arr 73 (aO a)):=bK
 generalize h++[az.arr 73 (aO a)]=g at x1 c1⊢
 generalize h.length=ia at c1⊢
 obtain ⟨p0,p1,p2⟩:=nz c1
 have hy:=EX.load x1 hy
 have hx:=EX.load x1 hx
 have fin:=hk g x1
 simp only [cj,zero_add,ah,p0,hy,jB]
 rw [aFw]
 unfold zv at fin
 by_cases h1:a.1=y
 ·rw [dh (show (a.1:Int)=y by omega)]
  simp only [gK,cj,zero_add,ah,p1,hx,rR]
  rw [amZ]
  simp only [fy,ah]
  rw [am0]
  by_cases h2:a.2.1<=x
  ·rw [dh (show (a.2.1:Int)<=x by omega)]
   simp only [gK,cj,zero_add,ah,p2,hx,bW]
   rw [Us]
   simp only [fy,ah]
   have e:decide ((x:Int)<a.2.2)=decide (a.1=y/\a.2.1<=x/\x<a.2.2):=by
    rw [decide_eq_decide];constructor
    ·intro h;exact ⟨h1,h2,by omega⟩
    ·intro h;omega
   rw [e];exact fin
  ·rw [bX (show ¬(a.2.1:Int)<=x by omega)]
   simp only [jd]
   rw [Us]
   simp only [dA,ah]
   rw [bX (λh=>h2 h.2.1)] at fin
   exact fin
 ·rw [bX (show ¬(a.1:Int)=y by omega)]
  simp only [jd]
  rw [amZ]
  simp only [dA,ah]
  rw [am0]
  simp only [jd]
  rw [Us]
  simp only [dA,ah]
  rw [bX (λh=>h1 h.1)] at fin
  exact fin
theorem C25 {ij c:Nat} {X J:List T3} {f:Value} {p:T3->Bool} (hj:h[ij]?=some (.arr 73 (ck X))) (hX:X.take J.length=J) (hl:J.length<=1000)
  (hf:∀a g' K,EX h g'->(∀g,EX g' g->K (B (p a)) g)->sR prog f [.agg (aO a).toArray] g' K) {i:Nat} (hi:i<J.length) (hpi:p J[i]=true) (hb:∀j (hj:j<J.length),j<i->p J[j]=false)
  (hk:∀g,EX h g->K (I i) g):ay prog 25 [jx 73 ij J.length c,f] h K:=by
 refine f25 ?_
 unfold Mr
 have l0:aT (jx 73 ij J.length c)=some (I J.length):=rfl
 simp only [l0,ah]
 refine cN (σ:=Nat×ae) (λq=>[I q.1]) (λq=>q.2) (λq=>q.1<=i/\EX h q.2) (λq=>J.length-q.1) (0,h) rfl rfl ⟨zero_le _,EX.refl _⟩ ?_
 rintro ⟨k,g⟩ ⟨mD,xg⟩ L hL
 simp only at mD xg hL⊢
 have iN:k<J.length:=by omega
 have hXl:J.length<=X.length:=by
  have:=congrArg List.length hX
  rw [length_take] at this;omega
 have ek:X[k]'(by omega)=J[k]:=by
  have:(X.take J.length)[k]?=J[k]?:=by rw [hX]
  rw [List.getElem?_take_of_lt iN,List.getElem?_eq_getElem (by omega),List.getElem?_eq_getElem iN] at this
  exact Option.some.inj this
 have ad:aD 3 (jx 73 ij J.length c) (I k)=some (pt ij (k*3)):=uC iN
 have r:=(tY (show bw g ij=some (ck X) by simp [bw,xg.get hj]) (show k<X.length by omega)).1
 rw [ek] at r
 rw [aFv]
 simp only [bW,ah,dh (show (k:Int)<J.length by omega),gf,ad,r]
 refine hf _ _ _ xg λg2 x2=>?_
 by_cases he:k=i
 ·subst he
  rw [hpi]
  simp only [gf]
  exact hk g2 (xg.trans x2)
 ·rw [hb k iN (by omega)]
  simp only [dm,b7,ah,true_and]
  rw [dP k (by simp [maxLen];omega)]
  exact hL (k+1,g2) ⟨by omega,xg.trans x2⟩ (by show J.length-(k+1)<J.length-k;omega)
theorem aBU {ys:List Nat} {J:List T3} (hm:J.map (·.1)=ys) (hp:ys.Pairwise (·<·)) (hz:∀a∈J,a.2.1=0) {x y:Nat} (hy:∃a∈J,a.1=y/\x<a.2.2):
  ∃hi:ys.idxOf y<J.length,zv x y J[ys.idxOf y]=true/\∀j (hj:j<J.length),j<ys.idxOf y->zv x y J[j]=false:=by
 obtain ⟨a,ha,h1,h2⟩:=hy
 have tL:ys.length=J.length:=by rw [<-hm,length_map]
 have kl:y∈ys:=by rw [<-hm,<-h1];exact List.mem_map_of_mem ha
 have hi:ys.idxOf y<ys.length:=List.idxOf_lt_length_of_mem kl
 have at1:∀j (hj:j<J.length),J[j].1=ys[j]'(by omega):=λj hj=>by
  subst hm;rw [List.getElem_map]
 have inj:∀j (hj:j<J.length),J[j].1=y->j=ys.idxOf y:=λj hj e=>by
  rw [at1 j hj] at e
  have e2:=List.getElem_idxOf hi
  rcases Nat.lt_trichotomy j (ys.idxOf y) with h | h | h
  ·have:=(pairwise_iff_getElem.1 hp) j (ys.idxOf y) (by omega) hi h;omega
  ·exact h
  ·have:=(pairwise_iff_getElem.1 hp) (ys.idxOf y) j hi (by omega) h;omega
 refine ⟨by omega,?_,λj hj aw=>?_⟩
 ·obtain ⟨k,hk,rfl⟩:=getElem_of_mem ha
  have:=inj k hk h1
  subst this
  simp only [zv,decide_eq_true_eq]
  exact ⟨h1,by rw [hz _ ha];exact zero_le _,h2⟩
 ·simp only [zv,decide_eq_false_iff_not]
  intro h
  have:=inj j hj h.1
  omega
theorem aCE:rS prog 26=true:=by kernel_rfl
theorem V1 {il ij c:Nat} {X J:List T3} {ys:List Nat} {x y:Nat} (hl:h[il]?=some (.arr 69 [jx 73 ij J.length c])) (hj:h[ij]?=some (.arr 73 (ck X))) (hX:X.take J.length=J) (hle:J.length<=1000)
  (hm:J.map (·.1)=ys) (hp:ys.Pairwise (·<·)) (hz:∀a∈J,a.2.1=0) (hy:∃a∈J,a.1=y/\x<a.2.2) (hk:∀g,EX h g->K (I (ys.idxOf y:Nat)) g):ay prog 24 [I x,I y,pt il 0] h K:=by
 refine f24 ?_
 unfold Mq
 have b:∀(g:ae) (n:Nat),cR 3 g (I n)=some (pt g.length 0,g++[.arr 3 [I n]]):=λg n=>rfl
 simp only [b,aL]
 have x1:EX h (h++[.arr 3 [I x]]):=EX.append _ _
 have c1:af false 1 (h++[.arr 3 [I x]]) (pt h.length 0)=some (I x):=sD rfl
 generalize h++[az.arr 3 [I x]]=g1 at x1 c1⊢
 generalize h.length=ix at c1⊢
 have x2:EX g1 (g1++[.arr 3 [I y]]):=EX.append _ _
 have c2:af false 1 (g1++[.arr 3 [I y]]) (pt g1.length 0)=some (I y):=sD rfl
 generalize g1++[az.arr 3 [I y]]=g2 at x2 c2⊢
 generalize g1.length=iy at c2⊢
 have c1:=EX.load x2 c1
 have xe:=x1.trans x2
 have ll:af false 1 g2 (pt il 0)=some (jx 73 ij J.length c):=af9 (by simp [bw,xe.get hl])
 simp only [ll,ah]
 obtain ⟨hi,h1,h2⟩:=aBU hm hp hz hy
 refine C25 (p:=zv x y) (xe.get hj) hX hle (λa g' K' xg fN=>He aCE (C26 (EX.load xg c2) (EX.load xg c1) fN)) hi h1 h2 λg xg=>?_
 exact hk g (xe.trans xg)
end
section
open Go.Sim Go.Sort
variable {h : ae} {K : Value -> ae -> Prop} {w t : Nat} {l : List T3} {ys : List Nat}
def pZ (ys:List Nat) (ls:List T3):List (Int×Int):=ls.map λq=>((ys.idxOf q.2.1:Nat),(ys.idxOf (q.2.1+q.2.2):Nat))
theorem auy (a b:Nat):eG [(.int .i64 (0)),(.int .i64 (0))] [(0,1,I a),(1,1,I b)]=some (.agg #[I a,I b]):=by
 simp [eG,jC,setAt,fV,dL,Value.cells]
theorem agv (g:ae) (a b:Nat):cH 41 1 [(.int .i64 (0)),(.int .i64 (0))] g [(0,2,.agg #[I a,I b])]=some (sl 41 g.length 0 1,g++[.arr 41 [I a,I b]]):=by
 simp [cH,jC,bE,setAt,fV,dL,Value.cells]
theorem aCR (c:eu l w t ys):ys.length<=l.length+1:=by
 induction c with
 | start _=>simp
 | right _ ih=>simp;omega
 | under _ ih=>simp;omega
theorem afT:rS prog 24=true:=by kernel_rfl
theorem C6 {iv:Nat} (c:eu l w t ys) (hw:w<=1000) (ht:t<=1000) (hl:l.length<=24) (hg:h[iv]?=some (.arr 24 (ck l)))
  (hk:∀v g,EX h g->fq h.length g 41 2 v l.length (oQ (pZ ys (eJ l)))->K (.tuple #[I ys.length,v,I 0]) g):ay prog 6 [sl 24 iv 0 l.length] h K:=by
 have iO:=c.pos.2.2
 have sp:(eJ l).Perm l:=J4 _
 have sn:(eJ l).length=l.length:=sp.length_eq
 have bd:∀q∈eJ l,q.1<=10000/\q.2.1<=10000/\q.2.2<=10000:=λq hq=>by
  have:=c.bound q (sp.mem_iff.1 hq);omega
 obtain ⟨j1,j2,j3⟩:=c.aCd sp (anR (items (eJ l))) (aKA _)
 have jl:(l9 (eJ l)).length=ys.length:=by rw [<-j1,length_map];rfl
 have yl:=c.levels
 have aoh:ys.length<=l.length+1:=aCR c
 refine f6 ?_
 unfold T6
 refine Ks c hw ht hl hg ?_
 intro ic iq g m
 simp only [fM,gi,gj,ah,iC,decide_true,Bool.not_true,dm]
 refine C23 m (by omega) (by omega) bd ?_
 intro ij n X g1 x1 gC hj hX hn
 have j1:(l9 (eJ l)).map (·.1)=ys:=j1
 have j2:∀a∈l9 (eJ l),a.2.1=0:=j2
 have j3:∀q∈l,∀y,eu.wz q y->∃a∈l9 (eJ l),a.1=y/\q.1+q.2.2<=a.2.2:=j3
 have ea:∀g:ae,cF 69 [(.slice none 0 0)] g=some (pt g.length 0,g++[.arr 69 [.slice none 0 0]]):=λg=>rfl
 have es:=kz (h:=g1++[az.arr 69 [.slice none 0 0]]) (i:=g1.length) (o:=0) (v:=jx 73 ij (l9 (eJ l)).length n) bK (by simp) rfl rfl
 have e2:(g1++[az.arr 69 [.slice none 0 0]]).set g1.length (.arr 69 [jx 73 ij (l9 (eJ l)).length n])=g1++[.arr 69 [jx 73 ij (l9 (eJ l)).length n]]:=by simp
 have e3:([Value.slice none 0 0].set 0 (jx 73 ij (l9 (eJ l)).length n))=[jx 73 ij (l9 (eJ l)).length n]:=rfl
 rw [e3,e2] at es
 simp only [ea,aL,es]
 have x2:EX g1 (g1++[.arr 69 [jx 73 ij (l9 (eJ l)).length n]]):=EX.append _ _
 have c2:(g1++[az.arr 69 [jx 73 ij (l9 (eJ l)).length n]])[g1.length]?=some (.arr 69 [jx 73 ij (l9 (eJ l)).length n]):=bK
 generalize g1.length=il at c2⊢
 generalize g1++[az.arr 69 [jx 73 ij (l9 (eJ l)).length n]]=g2 at x2 c2⊢
 have zO:EX g g2:=x1.trans x2
 have lq:aT (sl 24 iq 0 (eJ l).length)=some (I (eJ l).length):=rfl
 have xh:EX h g2:=m.ex.trans zO
 simp only [iS,ah,cj,zero_add,(AG (zO.get m.hc)).1,lq]
 refine cN (σ:=Nat×Value×ae) (λq=>[q.2.1,I q.1]) (λq=>q.2.2) (λq=>q.1<=(eJ l).length/\EX g2 q.2.2/\fq g2.length q.2.2 41 2 q.2.1 q.1 (oQ (pZ ys ((eJ l).take q.1)))) (λq=>(eJ l).length-q.1)
  (0,.slice none 0 0,g2) rfl rfl ⟨zero_le _,EX.refl _,fq.nil _ _ _ _⟩ ?_
 rintro ⟨i,vo,g3⟩ ⟨hi,x3,own⟩ L hL
 simp only at hi x3 own hL⊢
 rw [aIh]
 simp only [bW,ah,ca]
 refine ⟨λaw=>?_,λcJ=>?_⟩
 ·have aw:i<(eJ l).length:=by omega
  have vh:=x3.get (zO.get m.hq)
  have oc:bw g3 iq=some (ck (eJ l)):=by simp [bw,vh]
  have r:=tY oc aw
  have kl:(eJ l)[i]∈l:=sp.mem_iff.1 (getElem_mem aw)
  obtain ⟨b1,b2,b3⟩:=bd _ (getElem_mem aw)
  obtain ⟨s1,_,_⟩:=c.bound _ kl
  have tk:(eJ l).take (i+1)=(eJ l).take i++[(eJ l)[i]]:=by rw [take_succ_eq_append_getElem aw]
  have e1:=j3 _ kl (eJ l)[i].2.1 (.inl rfl)
  have e2:=j3 _ kl ((eJ l)[i].2.1+(eJ l)[i].2.2) (.inr rfl)
  generalize (eJ l)[i]=q at r kl b1 b2 b3 s1 tk e1 e2
  have f1:∃a∈l9 (eJ l),a.1=q.2.1/\q.1<a.2.2:=by obtain ⟨a,h1,h2,h3⟩:=e1;exact ⟨a,h1,h2,by omega⟩
  have f2:∃a∈l9 (eJ l),a.1=q.2.1+q.2.2/\q.1<a.2.2:=by obtain ⟨a,h1,h2,h3⟩:=e2;exact ⟨a,h1,h2,by omega⟩
  have ad:aD 3 (sl 24 iq 0 (eJ l).length) (I i)=some (pt iq (i*3)):=uC aw
  have eb:cF 24 [(.int .i64 (0)),(.int .i64 (0)),(.int .i64 (0))] g3=some (pt g3.length 0,g3++[.arr 24 [I 0,I 0,I 0]]):=rfl
  have es:=xj (bK:(g3++[az.arr 24 [I 0,I 0,I 0]])[g3.length]?=some (.arr 24 [I 0,I 0,I 0])) q
  have pg:(g3++[az.arr 24 [I 0,I 0,I 0]]).set g3.length (.arr 24 (aO q))=g3++[.arr 24 (aO q)]:=by simp
  rw [pg] at es
  simp only [ad,r.1,ah,eb,aL,es]
  have x4:EX g3 (g3++[.arr 24 (aO q)]):=EX.append _ _
  have c4:(g3++[az.arr 24 (aO q)])[g3.length]?=some (.arr 24 (aO q)):=bK
  have aiI:=own.up x4
  generalize g3.length=is at c4⊢
  generalize g3++[az.arr 24 (aO q)]=g4 at x4 c4 aiI⊢
  obtain ⟨p0,p1,p2⟩:=nz c4
  have aP:EX g1 g4:=(x2.trans x3).trans x4
  simp only [cj,zero_add,ah,p0,p1,true_and]
  refine He afT (V1 ((x3.trans x4).get c2) (aP.get hj) hX (by have:=aoh;omega) j1 yl.1 j2 f1 ?_)
  intro g5 x5
  have p0':=EX.load x5 p0
  have p1':=EX.load x5 p1
  have p2':=EX.load x5 p2
  have a2:IntKind.wrap .i64 ((q.2.1:Int)+q.2.2)=(q.2.1+q.2.2:Nat):=by rw [wrap64 (by omega) (by omega)];omega
  simp only [ah,p2,p0',p1',p2',b7,a2,true_and]
  refine He afT (V1 (((x3.trans x4).trans x5).get c2) ((aP.trans x5).get hj) hX (by have:=aoh;omega) j1 yl.1 j2 f2 ?_)
  intro g6 x6
  have aY:EX g3 g6:=(x4.trans x5).trans x6
  simp only [auy,ah,agv,aL]
  have x7:EX g6 (g6++[.arr 41 [I (ys.idxOf q.2.1:Nat),I (ys.idxOf (q.2.1+q.2.2):Nat)]]):=EX.append _ _
  have c7:(g6++[az.arr 41 [I (ys.idxOf q.2.1:Nat),I (ys.idxOf (q.2.1+q.2.2):Nat)]])[g6.length]?=some (.arr 41 [I (ys.idxOf q.2.1:Nat),I (ys.idxOf (q.2.1+q.2.2):Nat)]):=bK
  refine fq.app (aiI.up ((x5.trans x6).trans x7)) (x3.trans (aY.trans x7)) c7 rfl (by omega) (by omega) (by omega) ?_
  intro v8 g8 x8 _ _ aDt _
  rw [dP i (by simp [maxLen];omega)]
  refine hL (i+1,v8,g8) ⟨aw,x8,?_⟩ (by show (eJ l).length-(i+1)<(eJ l).length-i;omega)
  show fq g2.length g8 41 2 v8 (i+1) (oQ (pZ ys ((eJ l).take (i+1))))
  rw [tk]
  have:oQ (pZ ys ((eJ l).take i++[q]))=oQ (pZ ys ((eJ l).take i))++[I (ys.idxOf q.2.1:Nat),I (ys.idxOf (q.2.1+q.2.2):Nat)]:=by simp [pZ,oQ]
  rw [this]
  exact aDt
 ·have:i=(eJ l).length:=by omega
  subst this
  rw [take_length,sn] at own
  rw [aIi]
  have ll:af false 1 g3 (pt il 0)=some (jx 73 ij (l9 (eJ l)).length n):=af9 (by simp [bw,x3.get c2])
  have l3:aT (jx 73 ij ys.length n)=some (I ys.length):=rfl
  simp only [ll,ah,l3,jl]
  refine hk vo g3 (xh.trans x3) ⟨own.1,own.2.imp id λ⟨i,h1,h2⟩=>⟨i,le_trans xh.1 h1,h2⟩⟩
end
section
open Go.Sim
variable (P : Program) (K : VK)
noncomputable section
variable (l0 w4 h5 i6 : Value) (L1 : LQ) (xs : List Value) (h : ae)
def oc4:=cg prog 4 [[],[],[],[0],[4,5,6],[],[],[],[4,5],[]]
@[irreducible] def c4:=cD oc4
@[irreducible] def axi:=c4.r.r.l.r.l.l
@[irreducible] def abq:=c4.r.r.r
@[irreducible] def axh:=abq.l
theorem k4:oc4=some (41,c4,[.tmp 2,.tmp 3]):=by kernel_rfl
def Lc (_P:Program) (K:VK):ax:=aW [.tmp 2,.tmp 3] K
def ar2:ax:=aH (au P abq (Lc P K)) (Lc P K)
def ar3:ax:=bC 0 (ar2 P K)
def ar4:ax:=aH (λf' aQ=>(([0]:List Nat).map f':List Value)=[l0]/\L1 (([4,5,6]:List Nat).map f') aQ) (ar3 P K)
def alc:Prop:=aA (au P axi (ar4 P K l0 L1)) ([0]++[4,5,6]) ([l0]++xs) h
def alb:Prop:=aA (au P axh (Lc P K)) [4,5] [w4,h5] h
theorem aHl (l0:Value) (L1:LQ) (w4 h5 i6:Value) (h:ae):alc P K l0 L1 [w4,h5,i6] h=
 (OP (aT l0) λx9=>
 OP (aj .lss i6 x9) λaE=>
 aJ aE
 (OP (aD 3 l0 i6) λaZ=>
 OP (aF 0 aZ) λbM=>
 OP (af false 1 h bM) λbA=>
 (True)/\
 OP (aD 3 l0 i6) λaS=>
 OP (aF 2 aS) λbL=>
 OP (af false 1 h bL) λbB=>
 (True)/\
 OP (aj .add bA bB) λbm=>
 OP (lI true [w4,bm]) λbH=>
 OP (aD 3 l0 i6) λb9=>
 OP (aF 1 b9) λaV=>
 OP (af false 1 h aV) λbz=>
 (True)/\
 OP (aD 3 l0 i6) λcA=>
 OP (aF 2 cA) λcB=>
 OP (af false 1 h cB) λaY=>
 (True)/\
 OP (aj .add bz aY) λbG=>
 OP (lI true [h5,bG]) λdH=>
 OP (aj .add i6 (.int .i64 (1))) λaM=>
 ([l0]:List Value)=[l0]/\L1 [bH,dH,aM] h)
 (alb P K w4 h5 h)):=aB (by kernel_rfl)
theorem aHk:alb P K w4 h5 h=
 (K (.tuple #[w4,h5]) h):=aB (by kernel_rfl)
def T4:Prop:=
 bT [(.int .i64 (0)),(.int .i64 (0)),(.int .i64 (0))] h λL1 xs hx=>
 alc P K l0 L1 xs hx
theorem e4:au P c4 (aW [.tmp 2,.tmp 3] K) (cd [l0]) h=T4 P K l0 h:=by kernel_rfl
theorem f4 {K:VK} {l0:Value} {h:ae} (H:T4 prog K l0 h):ay prog 4 [l0] h K:=
 cC k4 (cE rfl) ((e4 prog K l0 h).mpr H)
end
noncomputable section
variable (l0 x4 o5 x6 i7 p8 k9 : Value) (L1 L2 : LQ) (xs : List Value) (h : ae)
def oc5:=cg prog 5 [[],[],[],[4,5],[6,7],[],[],[],[],[4,5,6,7,8],[9],[],[],[],[],[4,5,6,7,8,9],[],[4,5,6,7,8,9],[4,5,6,7,8],[4,5,6,7],[4,6],[]]
@[irreducible] def c5:=cD oc5
@[irreducible] def GQ:=c5.r.r.l.r.l.l
@[irreducible] def abY:=c5.r.r.r
@[irreducible] def OG:=GQ.r.l.l.r.l.r.l.l
@[irreducible] def abW:=GQ.r.l.l.r.r
@[irreducible] def abZ:=GQ.r.r
@[irreducible] def axS:=abY.l
@[irreducible] def axO:=OG.r.l.l.r.l.r.l
@[irreducible] def abX:=OG.r.r
@[irreducible] def axQ:=abW.l
@[irreducible] def axR:=abZ.l
@[irreducible] def axP:=abX.l
theorem k5:oc5=some (97,c5,[.tmp 2,.tmp 3]):=by kernel_rfl
def Li (_P:Program) (K:VK):ax:=aW [.tmp 2,.tmp 3] K
def asY:ax:=aH (au P abY (Li P K)) (Li P K)
def asZ:ax:=bC 0 (asY P K)
def Fh:ax:=aH (λf' aQ=>(([4,5]:List Nat).map f':List Value)=[x4,o5]/\L1 (([6,7]:List Nat).map f') aQ) (asZ P K)
def as0:ax:=aH (au P abZ (Fh P K x4 o5 L1)) (Fh P K x4 o5 L1)
def Lj:ax:=bC 1 (as0 P K x4 o5 L1)
def asU:ax:=aH (au P abW (Lj P K x4 o5 L1)) (Lj P K x4 o5 L1)
def asV:ax:=bC 2 (asU P K x4 o5 L1)
def Fg:ax:=aH (λf' aQ=>(([4,5,6,7,8]:List Nat).map f':List Value)=[x4,o5,x6,i7,p8]/\L2 (([9]:List Nat).map f') aQ) (asV P K x4 o5 L1)
def asW:ax:=aH (au P abX (Fg P K x4 o5 x6 i7 p8 L1 L2)) (Fg P K x4 o5 x6 i7 p8 L1 L2)
def asX:ax:=bC 3 (asW P K x4 o5 x6 i7 p8 L1 L2)
def alH:Prop:=aA (au P GQ (Fh P K x4 o5 L1)) ([4,5]++[6,7]) ([x4,o5]++xs) h
def TU:Prop:=aA (au P OG (Fg P K x4 o5 x6 i7 p8 L1 L2)) ([4,5,6,7,8]++[9]) ([x4,o5,x6,i7,p8]++xs) h
def w5:Prop:=aA (au P axO (asX P K x4 o5 x6 i7 p8 L1 L2)) [4,5,6,7,8,9] [x4,o5,x6,i7,p8,k9] h
def Bp:Prop:=aA (au P axP (Fg P K x4 o5 x6 i7 p8 L1 L2)) [4,5,6,7,8,9] [x4,o5,x6,i7,p8,k9] h
def TV:Prop:=aA (au P axQ (Lj P K x4 o5 L1)) [4,5,6,7,8] [x4,o5,x6,i7,p8] h
def alF:Prop:=aA (au P axR (Fh P K x4 o5 L1)) [4,5,6,7] [x4,o5,x6,i7] h
def alG:Prop:=aA (au P axS (Li P K)) [4,6] [x4,x6] h
theorem aH4:w5 P K x4 o5 x6 i7 p8 k9 L1 L2 h=
 (OP (aD 3 x4 k9) λlh=>
 OP (aF 0 lh) λiW=>
 OP (af false 1 h iW) λfE=>
 (True)/\
 OP (aD 3 o5 i7) λhT=>
 OP (aF 1 hT) λlN=>
 OP (af false 1 h lN) λkf=>
 (True)/\
 OP (aD 3 o5 i7) λgW=>
 OP (aF 2 gW) λgJ=>
 OP (af false 1 h gJ) λjU=>
 (True)/\
 OP (aj .add kf jU) λjV=>
 OP (aj .eql fE jV) λkh=>
 aJ kh
 (OP (aF 1 p8) λeP=>
 OH (aU 1 h eP k9) λ_ z1=>
 Bp P K x4 o5 x6 i7 p8 k9 L1 L2 z1)
 (Bp P K x4 o5 x6 i7 p8 k9 L1 L2 h)):=aB (by kernel_rfl)
theorem aH5:Bp P K x4 o5 x6 i7 p8 k9 L1 L2 h=
 (OP (aj .add k9 (.int .i64 (1))) λbQ=>
 ([x4,o5,x6,i7,p8]:List Value)=[x4,o5,x6,i7,p8]/\L2 [bQ] h):=aB (by kernel_rfl)
theorem aH3 (x4 o5 x6 i7 p8:Value) (L1 L2:LQ) (k9:Value) (h:ae):TU P K x4 o5 x6 i7 p8 L1 L2 [k9] h=
 (OP (aT x4) λbm=>
 OP (aj .lss k9 bm) λbH=>
 aJ bH
 (OP (aD 3 x4 k9) λaV=>
 OP (aF 1 aV) λbz=>
 OP (af false 1 h bz) λdJ=>
 (True)/\
 OP (aD 3 o5 i7) λcB=>
 OP (aF 0 cB) λaY=>
 OP (af false 1 h aY) λbG=>
 (True)/\
 OP (aj .leq dJ bG) λdH=>
 bO dH true
 (OP (aD 3 o5 i7) λer=>
 OP (aF 0 er) λcO=>
 OP (af false 1 h cO) λcP=>
 (True)/\
 OP (aD 3 o5 i7) λgp=>
 OP (aF 2 gp) λfD=>
 OP (af false 1 h fD) λfX=>
 (True)/\
 OP (aj .add cP fX) λiU=>
 OP (aD 3 x4 k9) λfg=>
 OP (aF 2 fg) λgv=>
 OP (af false 1 h gv) λfJ=>
 (True)/\
 OP (aj .leq iU fJ) λgV=>
 OP (bu dH gV (.bool false)) λfY=>
 aJ fY
 (OP (aD 3 x4 k9) λgI=>
 OP (aF 0 gI) λfT=>
 OP (af false 1 h fT) λiV=>
 (True)/\
 OP (aD 3 o5 i7) λjy=>
 OP (aF 1 jy) λkZ=>
 OP (af false 1 h kZ) λgw=>
 (True)/\
 OP (aj .eql iV gw) λfA=>
 aJ fA
 (OP (aF 0 p8) λdj=>
 OH (aU 1 h dj k9) λ_ z1=>
 w5 P K x4 o5 x6 i7 p8 k9 L1 L2 z1)
 (w5 P K x4 o5 x6 i7 p8 k9 L1 L2 h))
 (Bp P K x4 o5 x6 i7 p8 k9 L1 L2 h))
 (OP (bu dH undef (.bool false)) λfY=>
 aJ fY
 (OP (aD 3 x4 k9) λgI=>
 OP (aF 0 gI) λfT=>
 OP (af false 1 h fT) λiV=>
 (True)/\
 OP (aD 3 o5 i7) λjy=>
 OP (aF 1 jy) λkZ=>
 OP (af false 1 h kZ) λgw=>
 (True)/\
 OP (aj .eql iV gw) λfA=>
 aJ fA
 (OP (aF 0 p8) λdj=>
 OH (aU 1 h dj k9) λ_ z1=>
 w5 P K x4 o5 x6 i7 p8 k9 L1 L2 z1)
 (w5 P K x4 o5 x6 i7 p8 k9 L1 L2 h))
 (Bp P K x4 o5 x6 i7 p8 k9 L1 L2 h)))
 (TV P K x4 o5 x6 i7 p8 L1 h)):=aB (by kernel_rfl)
theorem aH6:TV P K x4 o5 x6 i7 p8 L1 h=
 (OP (af true 2 h p8) λjq=>
 OH (cH 41 1 [(.int .i64 (0)),(.int .i64 (0))] h [(0,2,jq)]) λlO z1=>
 OH (cT 41 2 16 z1 x6 lO) λeD z2=>
 alF P K x4 o5 eD i7 L1 z2):=aB (by kernel_rfl)
theorem aH7:alF P K x4 o5 x6 i7 L1 h=
 (OP (aj .add i7 (.int .i64 (1))) λaI=>
 ([x4,o5]:List Value)=[x4,o5]/\L1 [x6,aI] h):=aB (by kernel_rfl)
theorem aH9 (x4 o5:Value) (L1:LQ) (x6 i7:Value) (h:ae):alH P K x4 o5 L1 [x6,i7] h=
 (OP (aT o5) λbM=>
 OP (aj .lss i7 bM) λbA=>
 aJ bA
 (OP (eG [(.int .i64 (0)),(.int .i64 (0))] []) λaS=>
 OH (cF 41 [(.int .i64 (0)),(.int .i64 (0))] h) λp8 z1=>
 OH (aU 2 z1 p8 aS) λ_ z2=>
 bT [(.int .i64 (0))] z2 λL2 xs hx=>
 TU P K x4 o5 x6 i7 p8 L1 L2 xs hx)
 (alG P K x4 x6 h)):=aB (by kernel_rfl)
theorem aH8:alG P K x4 x6 h=
 (OP (aT x4) λfv=>
 K (.tuple #[fv,x6]) h):=aB (by kernel_rfl)
def T5:Prop:=
 ay P 20 [l0] h λaG z1=>
 ay P 21 [l0] z1 λaC z2=>
 OH (cH 41 0 [(.int .i64 (0)),(.int .i64 (0))] z2 []) λaP z3=>
 bT [aP,(.int .i64 (0))] z3 λL1 xs hx=>
 alH P K aG aC L1 xs hx
theorem e5:au P c5 (aW [.tmp 2,.tmp 3] K) (cd [l0]) h=T5 P K l0 h:=by kernel_rfl
theorem f5 {K:VK} {l0:Value} {h:ae} (H:T5 prog K l0 h):ay prog 5 [l0] h K:=
 cC k5 (cE rfl) ((e5 prog K l0 h).mpr H)
end
noncomputable section
variable (l0 x3 i4 k5 n6 x7 j8 x9 : Value) (L1 L2 L3 : LQ) (xs : List Value) (h : ae)
def ahl:=cg prog 20 [[],[],[],[0],[3,4],[],[],[],[0,4],[3,5],[],[],[],[],[],[0,3,4,5,6],[7,8],[],[],[],[0,3,4,5,6,7,8],[0,4,5,6,7],[],[0,4,5,6,7],[9],[],[],[0,4,5,6,7,9],[0,3,4,5],[0,3,4],[3],[]]
@[irreducible] def Gd:=cD ahl
@[irreducible] def N7:=Gd.r.r.l.r.l.l
@[irreducible] def Zr:=Gd.r.r.r
@[irreducible] def Ge:=N7.r.l.l.r.l.l
@[irreducible] def Zt:=N7.r.r
@[irreducible] def avQ:=Zr.l
@[irreducible] def Zq:=Ge.r.l.l.r.r.l.r.l.l
@[irreducible] def Zp:=Ge.r.l.l.r.r.r
@[irreducible] def Zo:=Ge.r.r
@[irreducible] def avP:=Zt.l
@[irreducible] def avL:=Zq.r.r.l
@[irreducible] def N6:=Zp.l
@[irreducible] def avO:=Zo.l
@[irreducible] def avM:=N6.r.l.l.l
@[irreducible] def Zs:=N6.r.r
@[irreducible] def avN:=Zs.l
theorem k20:ahl=some (160,Gd,[.tmp 2]):=by kernel_rfl
def KV (_P:Program) (K:VK):ax:=aW [.tmp 2] K
def aqo:ax:=aH (au P Zr (KV P K)) (KV P K)
def aqs:ax:=bC 0 (aqo P K)
def ES:ax:=aH (λf' aQ=>(([0]:List Nat).map f':List Value)=[l0]/\L1 (([3,4]:List Nat).map f') aQ) (aqs P K)
def aqt:ax:=aH (au P Zt (ES P K l0 L1)) (ES P K l0 L1)
def aqj:ax:=bC 1 (aqt P K l0 L1)
def aqk:ax:=bC 2 (aqj P K l0 L1)
def ER:ax:=aH (λf' aQ=>(([0,4]:List Nat).map f':List Value)=[l0,i4]/\L2 (([3,5]:List Nat).map f') aQ) (aqk P K l0 L1)
def aql:ax:=aH (au P Zo (ER P K l0 i4 L1 L2)) (ER P K l0 i4 L1 L2)
def Ae:ax:=bC 3 (aql P K l0 i4 L1 L2)
def aqm:ax:=aH (au P Zp (Ae P K l0 i4 L1 L2)) (Ae P K l0 i4 L1 L2)
def aqn:ax:=bC 4 (aqm P K l0 i4 L1 L2)
def WU:ax:=aH (λf' aQ=>(([0,3,4,5,6]:List Nat).map f':List Value)=[l0,x3,i4,k5,n6]/\L3 (([7,8]:List Nat).map f') aQ) (aqn P K l0 i4 L1 L2)
def aqp:ax:=aH (au P Zs (Ae P K l0 i4 L1 L2)) (Ae P K l0 i4 L1 L2)
def aqq:ax:=bC 6 (aqp P K l0 i4 L1 L2)
def aqr:ax:=aH (λf' aQ=>(([0,4,5,6,7]:List Nat).map f':List Value)=[l0,i4,k5,n6,x7]/\L3 (([9]:List Nat).map f') aQ) (aqq P K l0 i4 L1 L2)
def ajG:Prop:=aA (au P N7 (ES P K l0 L1)) ([0]++[3,4]) ([l0]++xs) h
def ajC:Prop:=aA (au P Ge (ER P K l0 i4 L1 L2)) ([0,4]++[3,5]) ([l0,i4]++xs) h
def Su:Prop:=aA (au P Zq (WU P K l0 x3 i4 k5 n6 L1 L2 L3)) ([0,3,4,5,6]++[7,8]) ([l0,x3,i4,k5,n6]++xs) h
def tX:Prop:=aA (au P avL (WU P K l0 x3 i4 k5 n6 L1 L2 L3)) [0,3,4,5,6,7,8] [l0,x3,i4,k5,n6,x7,j8] h
def Sv:Prop:=aA (au P N6 (Ae P K l0 i4 L1 L2)) [0,4,5,6,7] [l0,i4,k5,n6,x7] h
def ajD:Prop:=aA (au P avM (aqr P K l0 i4 k5 n6 x7 L1 L2 L3)) ([0,4,5,6,7]++[9]) ([l0,i4,k5,n6,x7]++xs) h
def iJ:Prop:=aA (au P avN (Ae P K l0 i4 L1 L2)) [0,4,5,6,7,9] [l0,i4,k5,n6,x7,x9] h
def Jm:Prop:=aA (au P avO (ER P K l0 i4 L1 L2)) [0,3,4,5] [l0,x3,i4,k5] h
def ajE:Prop:=aA (au P avP (ES P K l0 L1)) [0,3,4] [l0,x3,i4] h
def ajF:Prop:=aA (au P avQ (KV P K)) [3] [x3] h
theorem aEW:tX P K l0 x3 i4 k5 n6 x7 j8 L1 L2 L3 h=
 (OP (aj .add j8 (.int .i64 (1))) λfY=>
 ([l0,x3,i4,k5,n6]:List Value)=[l0,x3,i4,k5,n6]/\L3 [x7,fY] h):=aB (by kernel_rfl)
theorem aEV (l0 x3 i4 k5 n6:Value) (L1 L2 L3:LQ) (x7 j8:Value) (h:ae):Su P K l0 x3 i4 k5 n6 L1 L2 L3 [x7,j8] h=
 (OP (aT x3) λgv=>
 OP (aj .lss j8 gv) λfJ=>
 aJ fJ
 (OP (aD 3 x3 j8) λgI=>
 OP (aF 0 gI) λfT=>
 OP (af false 1 h fT) λiV=>
 (True)/\
 OP (aF 0 n6) λhI=>
 OP (af false 1 h hI) λke=>
 (True)/\
 OP (aj .eql iV ke) λjy=>
 bO jy true
 (OP (aD 3 x3 j8) λdY=>
 OP (aF 1 dY) λdj=>
 OP (af false 1 h dj) λgy=>
 (True)/\
 OP (aF 2 n6) λog=>
 OP (af false 1 h og) λlh=>
 (True)/\
 OP (aj .leq gy lh) λiW=>
 OP (bu jy iW (.bool false)) λfE=>
 bO fE true
 (OP (aF 1 n6) λkO=>
 OP (af false 1 h kO) λhT=>
 (True)/\
 OP (aD 3 x3 j8) λcK=>
 OP (aF 2 cK) λdB=>
 OP (af false 1 h dB) λgW=>
 (True)/\
 OP (aj .leq hT gW) λgJ=>
 OP (bu fE gJ (.bool false)) λjU=>
 aJ jU
 (OP (aF 1 n6) λjV=>
 OP (af false 1 h jV) λkh=>
 (True)/\
 OP (aD 3 x3 j8) λkH=>
 OP (aF 1 kH) λjq=>
 OP (af false 1 h jq) λlO=>
 (True)/\
 OP (lI false [kh,lO]) λeD=>
 OP (aF 2 n6) λeZ=>
 OP (af false 1 h eZ) λfv=>
 (True)/\
 OP (aD 3 x3 j8) λvY=>
 OP (aF 2 vY) λnL=>
 OP (af false 1 h nL) λpG=>
 (True)/\
 OP (lI true [fv,pG]) λpH=>
 OP (aF 1 n6) λgG=>
 OH (aU 1 h gG eD) λ_ z1=>
 (af false 1 z1 nL=some pG/\True)/\
 OP (aF 2 n6) λfH=>
 OH (aU 1 z1 fH pH) λ_ z2=>
 (True)/\
 tX P K l0 x3 i4 k5 n6 x7 j8 L1 L2 L3 z2)
 (OP (aD 3 x3 j8) λpI=>
 OP (af true 3 h pI) λka=>
 OH (cH 65 1 [(.int .i64 (0)),(.int .i64 (0)),(.int .i64 (0))] h [(0,3,ka)]) λjT z1=>
 OH (cT 65 3 24 z1 x7 jT) λiT z2=>
 tX P K l0 x3 i4 k5 n6 iT j8 L1 L2 L3 z2))
 (OP (bu fE undef (.bool false)) λjU=>
 aJ jU
 (OP (aF 1 n6) λjV=>
 OP (af false 1 h jV) λkh=>
 (True)/\
 OP (aD 3 x3 j8) λkH=>
 OP (aF 1 kH) λjq=>
 OP (af false 1 h jq) λlO=>
 (True)/\
 OP (lI false [kh,lO]) λeD=>
 OP (aF 2 n6) λeZ=>
 OP (af false 1 h eZ) λfv=>
 (True)/\
 OP (aD 3 x3 j8) λvY=>
 OP (aF 2 vY) λnL=>
 OP (af false 1 h nL) λpG=>
 (True)/\
 OP (lI true [fv,pG]) λpH=>
 OP (aF 1 n6) λgG=>
 OH (aU 1 h gG eD) λ_ z1=>
 (af false 1 z1 nL=some pG/\True)/\
 OP (aF 2 n6) λfH=>
 OH (aU 1 z1 fH pH) λ_ z2=>
 (True)/\
 tX P K l0 x3 i4 k5 n6 x7 j8 L1 L2 L3 z2)
 (OP (aD 3 x3 j8) λpI=>
 OP (af true 3 h pI) λka=>
 OH (cH 65 1 [(.int .i64 (0)),(.int .i64 (0)),(.int .i64 (0))] h [(0,3,ka)]) λjT z1=>
 OH (cT 65 3 24 z1 x7 jT) λiT z2=>
 tX P K l0 x3 i4 k5 n6 iT j8 L1 L2 L3 z2)))
 (OP (bu jy undef (.bool false)) λfE=>
 bO fE true
 (OP (aF 1 n6) λkO=>
 OP (af false 1 h kO) λhT=>
 (True)/\
 OP (aD 3 x3 j8) λcK=>
 OP (aF 2 cK) λdB=>
 OP (af false 1 h dB) λgW=>
 (True)/\
 OP (aj .leq hT gW) λgJ=>
 OP (bu fE gJ (.bool false)) λjU=>
 aJ jU
 (OP (aF 1 n6) λjV=>
 OP (af false 1 h jV) λkh=>
 (True)/\
 OP (aD 3 x3 j8) λkH=>
 OP (aF 1 kH) λjq=>
 OP (af false 1 h jq) λlO=>
 (True)/\
 OP (lI false [kh,lO]) λeD=>
 OP (aF 2 n6) λeZ=>
 OP (af false 1 h eZ) λfv=>
 (True)/\
 OP (aD 3 x3 j8) λvY=>
 OP (aF 2 vY) λnL=>
 OP (af false 1 h nL) λpG=>
 (True)/\
 OP (lI true [fv,pG]) λpH=>
 OP (aF 1 n6) λgG=>
 OH (aU 1 h gG eD) λ_ z1=>
 (af false 1 z1 nL=some pG/\True)/\
 OP (aF 2 n6) λfH=>
 OH (aU 1 z1 fH pH) λ_ z2=>
 (True)/\
 tX P K l0 x3 i4 k5 n6 x7 j8 L1 L2 L3 z2)
 (OP (aD 3 x3 j8) λpI=>
 OP (af true 3 h pI) λka=>
 OH (cH 65 1 [(.int .i64 (0)),(.int .i64 (0)),(.int .i64 (0))] h [(0,3,ka)]) λjT z1=>
 OH (cT 65 3 24 z1 x7 jT) λiT z2=>
 tX P K l0 x3 i4 k5 n6 iT j8 L1 L2 L3 z2))
 (OP (bu fE undef (.bool false)) λjU=>
 aJ jU
 (OP (aF 1 n6) λjV=>
 OP (af false 1 h jV) λkh=>
 (True)/\
 OP (aD 3 x3 j8) λkH=>
 OP (aF 1 kH) λjq=>
 OP (af false 1 h jq) λlO=>
 (True)/\
 OP (lI false [kh,lO]) λeD=>
 OP (aF 2 n6) λeZ=>
 OP (af false 1 h eZ) λfv=>
 (True)/\
 OP (aD 3 x3 j8) λvY=>
 OP (aF 2 vY) λnL=>
 OP (af false 1 h nL) λpG=>
 (True)/\
 OP (lI true [fv,pG]) λpH=>
 OP (aF 1 n6) λgG=>
 OH (aU 1 h gG eD) λ_ z1=>
 (af false 1 z1 nL=some pG/\True)/\
 OP (aF 2 n6) λfH=>
 OH (aU 1 z1 fH pH) λ_ z2=>
 (True)/\
 tX P K l0 x3 i4 k5 n6 x7 j8 L1 L2 L3 z2)
 (OP (aD 3 x3 j8) λpI=>
 OP (af true 3 h pI) λka=>
 OH (cH 65 1 [(.int .i64 (0)),(.int .i64 (0)),(.int .i64 (0))] h [(0,3,ka)]) λjT z1=>
 OH (cT 65 3 24 z1 x7 jT) λiT z2=>
 tX P K l0 x3 i4 k5 n6 iT j8 L1 L2 L3 z2))))
 (Sv P K l0 i4 k5 n6 x7 L1 L2 h)):=aB (by kernel_rfl)
theorem aEY (l0 i4 k5 n6 x7:Value) (L1 L2 L3:LQ) (x9:Value) (h:ae):ajD P K l0 i4 k5 n6 x7 L1 L2 L3 [x9] h=
 (OP (aT x7) λvT=>
 OP (aj .lss x9 vT) λdV=>
 bO dV true
 (OP (aD 3 x7 x9) λnh=>
 OP (aF 0 nh) λui=>
 OP (af false 1 h ui) λmf=>
 (True)/\
 OP (aF 0 n6) λvU=>
 OP (af false 1 h vU) λrM=>
 (True)/\
 OP (aj .lss mf rM) λnJ=>
 bO nJ false
 (OP (aD 3 x7 x9) λEc=>
 OP (aF 0 Ec) λqH=>
 OP (af false 1 h qH) λvV=>
 (True)/\
 OP (aF 0 n6) λhG=>
 OP (af false 1 h hG) λkc=>
 (True)/\
 OP (aj .eql vV kc) λkA=>
 bO kA true
 (OP (aD 3 x7 x9) λpK=>
 OP (aF 1 pK) λqI=>
 OP (af false 1 h qI) λnK=>
 (True)/\
 OP (aF 1 n6) λzQ=>
 OP (af false 1 h zQ) λzR=>
 (True)/\
 OP (aj .lss nK zR) λqJ=>
 bO nJ false
 (OP (bu kA qJ (.bool false)) λmh=>
 bO dV true
 (OP (bu nJ (.bool true) mh) λgH=>
 OP (bu dV gH (.bool false)) λeg=>
 aJ eg
 (OP (aj .add x9 (.int .i64 (1))) λdX=>
 ([l0,i4,k5,n6,x7]:List Value)=[l0,i4,k5,n6,x7]/\L3 [dX] h)
 (iJ P K l0 i4 k5 n6 x7 x9 L1 L2 h))
 (OP (bu dV undef (.bool false)) λeg=>
 aJ eg
 (OP (aj .add x9 (.int .i64 (1))) λdX=>
 ([l0,i4,k5,n6,x7]:List Value)=[l0,i4,k5,n6,x7]/\L3 [dX] h)
 (iJ P K l0 i4 k5 n6 x7 x9 L1 L2 h)))
 (bO dV true
 (OP (bu nJ (.bool true) undef) λgH=>
 OP (bu dV gH (.bool false)) λeg=>
 aJ eg
 (OP (aj .add x9 (.int .i64 (1))) λdX=>
 ([l0,i4,k5,n6,x7]:List Value)=[l0,i4,k5,n6,x7]/\L3 [dX] h)
 (iJ P K l0 i4 k5 n6 x7 x9 L1 L2 h))
 (OP (bu dV undef (.bool false)) λeg=>
 aJ eg
 (OP (aj .add x9 (.int .i64 (1))) λdX=>
 ([l0,i4,k5,n6,x7]:List Value)=[l0,i4,k5,n6,x7]/\L3 [dX] h)
 (iJ P K l0 i4 k5 n6 x7 x9 L1 L2 h))))
 (bO nJ false
 (OP (bu kA undef (.bool false)) λmh=>
 bO dV true
 (OP (bu nJ (.bool true) mh) λgH=>
 OP (bu dV gH (.bool false)) λeg=>
 aJ eg
 (OP (aj .add x9 (.int .i64 (1))) λdX=>
 ([l0,i4,k5,n6,x7]:List Value)=[l0,i4,k5,n6,x7]/\L3 [dX] h)
 (iJ P K l0 i4 k5 n6 x7 x9 L1 L2 h))
 (OP (bu dV undef (.bool false)) λeg=>
 aJ eg
 (OP (aj .add x9 (.int .i64 (1))) λdX=>
 ([l0,i4,k5,n6,x7]:List Value)=[l0,i4,k5,n6,x7]/\L3 [dX] h)
 (iJ P K l0 i4 k5 n6 x7 x9 L1 L2 h)))
 (bO dV true
 (OP (bu nJ (.bool true) undef) λgH=>
 OP (bu dV gH (.bool false)) λeg=>
 aJ eg
 (OP (aj .add x9 (.int .i64 (1))) λdX=>
 ([l0,i4,k5,n6,x7]:List Value)=[l0,i4,k5,n6,x7]/\L3 [dX] h)
 (iJ P K l0 i4 k5 n6 x7 x9 L1 L2 h))
 (OP (bu dV undef (.bool false)) λeg=>
 aJ eg
 (OP (aj .add x9 (.int .i64 (1))) λdX=>
 ([l0,i4,k5,n6,x7]:List Value)=[l0,i4,k5,n6,x7]/\L3 [dX] h)
 (iJ P K l0 i4 k5 n6 x7 x9 L1 L2 h)))))
 (bO undef true
 (OP (aD 3 x7 x9) λpK=>
 OP (aF 1 pK) λqI=>
 OP (af false 1 h qI) λnK=>
 (True)/\
 OP (aF 1 n6) λzQ=>
 OP (af false 1 h zQ) λzR=>
 (True)/\
 OP (aj .lss nK zR) λqJ=>
 bO nJ false
 (OP (bu undef qJ (.bool false)) λmh=>
 bO dV true
 (OP (bu nJ (.bool true) mh) λgH=>
 OP (bu dV gH (.bool false)) λeg=>
 aJ eg
 (OP (aj .add x9 (.int .i64 (1))) λdX=>
 ([l0,i4,k5,n6,x7]:List Value)=[l0,i4,k5,n6,x7]/\L3 [dX] h)
 (iJ P K l0 i4 k5 n6 x7 x9 L1 L2 h))
 (OP (bu dV undef (.bool false)) λeg=>
 aJ eg
 (OP (aj .add x9 (.int .i64 (1))) λdX=>
 ([l0,i4,k5,n6,x7]:List Value)=[l0,i4,k5,n6,x7]/\L3 [dX] h)
 (iJ P K l0 i4 k5 n6 x7 x9 L1 L2 h)))
 (bO dV true
 (OP (bu nJ (.bool true) undef) λgH=>
 OP (bu dV gH (.bool false)) λeg=>
 aJ eg
 (OP (aj .add x9 (.int .i64 (1))) λdX=>
 ([l0,i4,k5,n6,x7]:List Value)=[l0,i4,k5,n6,x7]/\L3 [dX] h)
 (iJ P K l0 i4 k5 n6 x7 x9 L1 L2 h))
 (OP (bu dV undef (.bool false)) λeg=>
 aJ eg
 (OP (aj .add x9 (.int .i64 (1))) λdX=>
 ([l0,i4,k5,n6,x7]:List Value)=[l0,i4,k5,n6,x7]/\L3 [dX] h)
 (iJ P K l0 i4 k5 n6 x7 x9 L1 L2 h))))
 (bO nJ false
 (OP (bu undef undef (.bool false)) λmh=>
 bO dV true
 (OP (bu nJ (.bool true) mh) λgH=>
 OP (bu dV gH (.bool false)) λeg=>
 aJ eg
 (OP (aj .add x9 (.int .i64 (1))) λdX=>
 ([l0,i4,k5,n6,x7]:List Value)=[l0,i4,k5,n6,x7]/\L3 [dX] h)
 (iJ P K l0 i4 k5 n6 x7 x9 L1 L2 h))
 (OP (bu dV undef (.bool false)) λeg=>
 aJ eg
 (OP (aj .add x9 (.int .i64 (1))) λdX=>
 ([l0,i4,k5,n6,x7]:List Value)=[l0,i4,k5,n6,x7]/\L3 [dX] h)
 (iJ P K l0 i4 k5 n6 x7 x9 L1 L2 h)))
 (bO dV true
 (OP (bu nJ (.bool true) undef) λgH=>
 OP (bu dV gH (.bool false)) λeg=>
 aJ eg
 (OP (aj .add x9 (.int .i64 (1))) λdX=>
 ([l0,i4,k5,n6,x7]:List Value)=[l0,i4,k5,n6,x7]/\L3 [dX] h)
 (iJ P K l0 i4 k5 n6 x7 x9 L1 L2 h))
 (OP (bu dV undef (.bool false)) λeg=>
 aJ eg
 (OP (aj .add x9 (.int .i64 (1))) λdX=>
 ([l0,i4,k5,n6,x7]:List Value)=[l0,i4,k5,n6,x7]/\L3 [dX] h)
 (iJ P K l0 i4 k5 n6 x7 x9 L1 L2 h))))))
 (bO undef false
 (OP (aD 3 x7 x9) λEc=>
 OP (aF 0 Ec) λqH=>
 OP (af false 1 h qH) λvV=>
 (True)/\
 OP (aF 0 n6) λhG=>
 OP (af false 1 h hG) λkc=>
 (True)/\
 OP (aj .eql vV kc) λkA=>
 bO kA true
 (OP (aD 3 x7 x9) λpK=>
 OP (aF 1 pK) λqI=>
 OP (af false 1 h qI) λnK=>
 (True)/\
 OP (aF 1 n6) λzQ=>
 OP (af false 1 h zQ) λzR=>
 (True)/\
 OP (aj .lss nK zR) λqJ=>
 bO undef false
 (OP (bu kA qJ (.bool false)) λmh=>
 bO dV true
 (OP (bu undef (.bool true) mh) λgH=>
 OP (bu dV gH (.bool false)) λeg=>
 aJ eg
 (OP (aj .add x9 (.int .i64 (1))) λdX=>
 ([l0,i4,k5,n6,x7]:List Value)=[l0,i4,k5,n6,x7]/\L3 [dX] h)
 (iJ P K l0 i4 k5 n6 x7 x9 L1 L2 h))
 (OP (bu dV undef (.bool false)) λeg=>
 aJ eg
 (OP (aj .add x9 (.int .i64 (1))) λdX=>
 ([l0,i4,k5,n6,x7]:List Value)=[l0,i4,k5,n6,x7]/\L3 [dX] h)
 (iJ P K l0 i4 k5 n6 x7 x9 L1 L2 h)))
 (bO dV true
 (OP (bu undef (.bool true) undef) λgH=>
 OP (bu dV gH (.bool false)) λeg=>
 aJ eg
 (OP (aj .add x9 (.int .i64 (1))) λdX=>
 ([l0,i4,k5,n6,x7]:List Value)=[l0,i4,k5,n6,x7]/\L3 [dX] h)
 (iJ P K l0 i4 k5 n6 x7 x9 L1 L2 h))
 (OP (bu dV undef (.bool false)) λeg=>
 aJ eg
 (OP (aj .add x9 (.int .i64 (1))) λdX=>
 ([l0,i4,k5,n6,x7]:List Value)=[l0,i4,k5,n6,x7]/\L3 [dX] h)
 (iJ P K l0 i4 k5 n6 x7 x9 L1 L2 h))))
 (bO undef false
 (OP (bu kA undef (.bool false)) λmh=>
 bO dV true
 (OP (bu undef (.bool true) mh) λgH=>
 OP (bu dV gH (.bool false)) λeg=>
 aJ eg
 (OP (aj .add x9 (.int .i64 (1))) λdX=>
 ([l0,i4,k5,n6,x7]:List Value)=[l0,i4,k5,n6,x7]/\L3 [dX] h)
 (iJ P K l0 i4 k5 n6 x7 x9 L1 L2 h))
 (OP (bu dV undef (.bool false)) λeg=>
 aJ eg
 (OP (aj .add x9 (.int .i64 (1))) λdX=>
 ([l0,i4,k5,n6,x7]:List Value)=[l0,i4,k5,n6,x7]/\L3 [dX] h)
 (iJ P K l0 i4 k5 n6 x7 x9 L1 L2 h)))
 (bO dV true
 (OP (bu undef (.bool true) undef) λgH=>
 OP (bu dV gH (.bool false)) λeg=>
 aJ eg
 (OP (aj .add x9 (.int .i64 (1))) λdX=>
 ([l0,i4,k5,n6,x7]:List Value)=[l0,i4,k5,n6,x7]/\L3 [dX] h)
 (iJ P K l0 i4 k5 n6 x7 x9 L1 L2 h))
 (OP (bu dV undef (.bool false)) λeg=>
 aJ eg
 (OP (aj .add x9 (.int .i64 (1))) λdX=>
 ([l0,i4,k5,n6,x7]:List Value)=[l0,i4,k5,n6,x7]/\L3 [dX] h)
 (iJ P K l0 i4 k5 n6 x7 x9 L1 L2 h)))))
 (bO undef true
 (OP (aD 3 x7 x9) λpK=>
 OP (aF 1 pK) λqI=>
 OP (af false 1 h qI) λnK=>
 (True)/\
 OP (aF 1 n6) λzQ=>
 OP (af false 1 h zQ) λzR=>
 (True)/\
 OP (aj .lss nK zR) λqJ=>
 bO undef false
 (OP (bu undef qJ (.bool false)) λmh=>
 bO dV true
 (OP (bu undef (.bool true) mh) λgH=>
 OP (bu dV gH (.bool false)) λeg=>
 aJ eg
 (OP (aj .add x9 (.int .i64 (1))) λdX=>
 ([l0,i4,k5,n6,x7]:List Value)=[l0,i4,k5,n6,x7]/\L3 [dX] h)
 (iJ P K l0 i4 k5 n6 x7 x9 L1 L2 h))
 (OP (bu dV undef (.bool false)) λeg=>
 aJ eg
 (OP (aj .add x9 (.int .i64 (1))) λdX=>
 ([l0,i4,k5,n6,x7]:List Value)=[l0,i4,k5,n6,x7]/\L3 [dX] h)
 (iJ P K l0 i4 k5 n6 x7 x9 L1 L2 h)))
 (bO dV true
 (OP (bu undef (.bool true) undef) λgH=>
 OP (bu dV gH (.bool false)) λeg=>
 aJ eg
 (OP (aj .add x9 (.int .i64 (1))) λdX=>
 ([l0,i4,k5,n6,x7]:List Value)=[l0,i4,k5,n6,x7]/\L3 [dX] h)
 (iJ P K l0 i4 k5 n6 x7 x9 L1 L2 h))
 (OP (bu dV undef (.bool false)) λeg=>
 aJ eg
 (OP (aj .add x9 (.int .i64 (1))) λdX=>
 ([l0,i4,k5,n6,x7]:List Value)=[l0,i4,k5,n6,x7]/\L3 [dX] h)
 (iJ P K l0 i4 k5 n6 x7 x9 L1 L2 h))))
 (bO undef false
 (OP (bu undef undef (.bool false)) λmh=>
 bO dV true
 (OP (bu undef (.bool true) mh) λgH=>
 OP (bu dV gH (.bool false)) λeg=>
 aJ eg
 (OP (aj .add x9 (.int .i64 (1))) λdX=>
 ([l0,i4,k5,n6,x7]:List Value)=[l0,i4,k5,n6,x7]/\L3 [dX] h)
 (iJ P K l0 i4 k5 n6 x7 x9 L1 L2 h))
 (OP (bu dV undef (.bool false)) λeg=>
 aJ eg
 (OP (aj .add x9 (.int .i64 (1))) λdX=>
 ([l0,i4,k5,n6,x7]:List Value)=[l0,i4,k5,n6,x7]/\L3 [dX] h)
 (iJ P K l0 i4 k5 n6 x7 x9 L1 L2 h)))
 (bO dV true
 (OP (bu undef (.bool true) undef) λgH=>
 OP (bu dV gH (.bool false)) λeg=>
 aJ eg
 (OP (aj .add x9 (.int .i64 (1))) λdX=>
 ([l0,i4,k5,n6,x7]:List Value)=[l0,i4,k5,n6,x7]/\L3 [dX] h)
 (iJ P K l0 i4 k5 n6 x7 x9 L1 L2 h))
 (OP (bu dV undef (.bool false)) λeg=>
 aJ eg
 (OP (aj .add x9 (.int .i64 (1))) λdX=>
 ([l0,i4,k5,n6,x7]:List Value)=[l0,i4,k5,n6,x7]/\L3 [dX] h)
 (iJ P K l0 i4 k5 n6 x7 x9 L1 L2 h))))))):=aB (by kernel_rfl)
theorem aEZ:iJ P K l0 i4 k5 n6 x7 x9 L1 L2 h=
 (OH (cH 65 0 [(.int .i64 (0)),(.int .i64 (0)),(.int .i64 (0))] h []) λEe z1=>
 OP (eA z1 Ee) λu=>
 (True)/\
 OP (af true 3 z1 n6) λvX=>
 (af true 3 h n6=some vX/\True)/\
 OH (cH 65 1 [(.int .i64 (0)),(.int .i64 (0)),(.int .i64 (0))] z1 [(0,3,vX)]) λEf z2=>
 OP (eA z2 Ef) λx1=>
 (eA z2 Ee=some u/\True)/\
 OP (fP 65 3 x7 none (some x9)) λVj=>
 OH (cT 65 3 24 z2 Ee Vj) λVk z3=>
 (af true 3 z3 n6=some vX/\eA z3 Ef=some x1/\True)/\
 OH (cT 65 3 24 z3 Vk Ef) λVl z4=>
 (True)/\
 OP (fP 65 3 x7 (some x9) none) λaK5=>
 OH (cT 65 3 24 z4 Vl aK5) λVo z5=>
 (True)/\
 Jm P K l0 Vo i4 k5 L1 L2 z5):=aB (by kernel_rfl)
theorem aEX:Sv P K l0 i4 k5 n6 x7 L1 L2 h=
 (bT [(.int .i64 (0))] h λL3 xs hx=>
 ajD P K l0 i4 k5 n6 x7 L1 L2 L3 xs hx):=aB (by kernel_rfl)
theorem aE0:Jm P K l0 x3 i4 k5 L1 L2 h=
 (OP (aj .add k5 (.int .i64 (1))) λaI=>
 ([l0,i4]:List Value)=[l0,i4]/\L2 [x3,aI] h):=aB (by kernel_rfl)
theorem aEU (l0 i4:Value) (L1 L2:LQ) (x3 k5:Value) (h:ae):ajC P K l0 i4 L1 L2 [x3,k5] h=
 (OP (aj .lss k5 (.int .i64 (2))) λbA=>
 aJ bA
 (OP (aD 3 l0 i4) λbB=>
 OP (aF 1 bB) λbm=>
 OP (af false 1 h bm) λbH=>
 (True)/\
 OP (aD 3 l0 i4) λb9=>
 OP (aF 2 b9) λaV=>
 OP (af false 1 h aV) λbz=>
 (True)/\
 OP (aj .mul k5 bz) λdJ=>
 OP (aj .add bH dJ) λbZ=>
 OP (aD 3 l0 i4) λaY=>
 OP (aF 0 aY) λbG=>
 OP (af false 1 h bG) λdH=>
 (True)/\
 OP (aD 3 l0 i4) λcU=>
 OP (aF 0 cU) λer=>
 OP (af false 1 h er) λcO=>
 (True)/\
 OP (aD 3 l0 i4) λeT=>
 OP (aF 2 eT) λgp=>
 OP (af false 1 h gp) λfD=>
 (True)/\
 OP (aj .add cO fD) λfX=>
 OP (eG [(.int .i64 (0)),(.int .i64 (0)),(.int .i64 (0))] [(0,1,bZ),(1,1,dH),(2,1,fX)]) λiU=>
 OH (cF 65 [(.int .i64 (0)),(.int .i64 (0)),(.int .i64 (0))] h) λn6 z1=>
 (af false 1 z1 bm=some bH/\af false 1 z1 aV=some bz/\af false 1 z1 bG=some dH/\af false 1 z1 er=some cO/\af false 1 z1 gp=some fD/\True)/\
 OH (aU 3 z1 n6 iU) λ_ z2=>
 (True)/\
 OH (cH 65 0 [(.int .i64 (0)),(.int .i64 (0)),(.int .i64 (0))] z2 []) λee z3=>
 bT [ee,(.int .i64 (0))] z3 λL3 xs hx=>
 Su P K l0 x3 i4 k5 n6 L1 L2 L3 xs hx)
 (ajE P K l0 x3 i4 L1 h)):=aB (by kernel_rfl)
theorem aE1:ajE P K l0 x3 i4 L1 h=
 (OP (aj .add i4 (.int .i64 (1))) λaZ=>
 ([l0]:List Value)=[l0]/\L1 [x3,aZ] h):=aB (by kernel_rfl)
theorem aE3 (l0:Value) (L1:LQ) (x3 i4:Value) (h:ae):ajG P K l0 L1 [x3,i4] h=
 (OP (aT l0) λaC=>
 OP (aj .lss i4 aC) λaP=>
 aJ aP
 (bT [x3,(.int .i64 (0))] h λL2 xs hx=>
 ajC P K l0 i4 L1 L2 xs hx)
 (ajF P K x3 h)):=aB (by kernel_rfl)
theorem aE2:ajF P K x3 h=
 (K x3 h):=aB (by kernel_rfl)
def Mm:Prop:=
 OH (cH 65 0 [(.int .i64 (0)),(.int .i64 (0)),(.int .i64 (0))] h []) λaE z1=>
 bT [aE,(.int .i64 (0))] z1 λL1 xs hx=>
 ajG P K l0 L1 xs hx
theorem Pm:au P Gd (aW [.tmp 2] K) (cd [l0]) h=Mm P K l0 h:=by kernel_rfl
theorem f20 {K:VK} {l0:Value} {h:ae} (H:Mm prog K l0 h):ay prog 20 [l0] h K:=
 cC k20 (cE rfl) ((Pm prog K l0 h).mpr H)
end
noncomputable section
variable (l0 x3 i4 k5 : Value) (L1 L2 : LQ) (xs : List Value) (h : ae)
def ahm:=cg prog 21 [[],[],[],[0],[3,4],[],[],[],[0,3,4],[5],[],[],[0,3,4,5],[0,3,4],[3],[]]
@[irreducible] def Gf:=cD ahm
@[irreducible] def Gg:=Gf.r.r.l.r.l.l
@[irreducible] def Zv:=Gf.r.r.r
@[irreducible] def avR:=Gg.r.l.l.r.l.l.l
@[irreducible] def Zu:=Gg.r.l.l.r.r
@[irreducible] def Zw:=Gg.r.r
@[irreducible] def avU:=Zv.l
@[irreducible] def avS:=Zu.l
@[irreducible] def avT:=Zw.l
theorem k21:ahm=some (47,Gf,[.tmp 2]):=by kernel_rfl
def KW (_P:Program) (K:VK):ax:=aW [.tmp 2] K
def aqx:ax:=aH (au P Zv (KW P K)) (KW P K)
def aqy:ax:=bC 0 (aqx P K)
def ET:ax:=aH (λf' aQ=>(([0]:List Nat).map f':List Value)=[l0]/\L1 (([3,4]:List Nat).map f') aQ) (aqy P K)
def aqz:ax:=aH (au P Zw (ET P K l0 L1)) (ET P K l0 L1)
def KX:ax:=bC 1 (aqz P K l0 L1)
def aqu:ax:=aH (au P Zu (KX P K l0 L1)) (KX P K l0 L1)
def aqv:ax:=bC 2 (aqu P K l0 L1)
def aqw:ax:=aH (λf' aQ=>(([0,3,4]:List Nat).map f':List Value)=[l0,x3,i4]/\L2 (([5]:List Nat).map f') aQ) (aqv P K l0 L1)
def ajK:Prop:=aA (au P Gg (ET P K l0 L1)) ([0]++[3,4]) ([l0]++xs) h
def ajH:Prop:=aA (au P avR (aqw P K l0 x3 i4 L1 L2)) ([0,3,4]++[5]) ([l0,x3,i4]++xs) h
def Jn:Prop:=aA (au P avS (KX P K l0 L1)) [0,3,4,5] [l0,x3,i4,k5] h
def ajI:Prop:=aA (au P avT (ET P K l0 L1)) [0,3,4] [l0,x3,i4] h
def ajJ:Prop:=aA (au P avU (KW P K)) [3] [x3] h
theorem aE4 (l0 x3 i4:Value) (L1 L2:LQ) (k5:Value) (h:ae):ajH P K l0 x3 i4 L1 L2 [k5] h=
 (OP (aj .gtr k5 (.int .i64 (0))) λaZ=>
 bO aZ true
 (OP (aD 3 l0 i4) λaI=>
 OP (af true 3 h aI) λaS=>
 (True)/\
 OP (aj .sub k5 (.int .i64 (1))) λbm=>
 OP (aD 3 x3 bm) λbH=>
 OP (af true 3 h bH) λbP=>
 (True)/\
 ay P 42 [aS,bP] h λbQ z1=>
 (True)/\
 OP (bu aZ bQ (.bool false)) λcL=>
 aJ cL
 (OP (aj .sub k5 (.int .i64 (1))) λaV=>
 ([l0,x3,i4]:List Value)=[l0,x3,i4]/\L2 [aV] z1)
 (Jn P K l0 x3 i4 k5 L1 z1))
 ((True)/\
 OP (bu aZ undef (.bool false)) λcL=>
 aJ cL
 (OP (aj .sub k5 (.int .i64 (1))) λaV=>
 ([l0,x3,i4]:List Value)=[l0,x3,i4]/\L2 [aV] h)
 (Jn P K l0 x3 i4 k5 L1 h))):=aB (by kernel_rfl)
theorem aE5:Jn P K l0 x3 i4 k5 L1 h=
 (OH (cH 24 0 [(.int .i64 (0)),(.int .i64 (0)),(.int .i64 (0))] h []) λbz z1=>
 OP (eA z1 bz) λu=>
 (True)/\
 OP (aD 3 l0 i4) λdH=>
 OP (af true 3 z1 dH) λdW=>
 (af true 3 h dH=some dW/\True)/\
 OH (cH 24 1 [(.int .i64 (0)),(.int .i64 (0)),(.int .i64 (0))] z1 [(0,3,dW)]) λcI z2=>
 OP (eA z2 cI) λx1=>
 (eA z2 bz=some u/\True)/\
 OP (fP 24 3 x3 none (some k5)) λcA=>
 OH (cT 24 3 24 z2 bz cA) λcB z3=>
 (af true 3 z3 dH=some dW/\eA z3 cI=some x1/\True)/\
 OH (cT 24 3 24 z3 cB cI) λcU z4=>
 (True)/\
 OP (fP 24 3 x3 (some k5) none) λcP=>
 OH (cT 24 3 24 z4 cU cP) λdC z5=>
 (True)/\
 ajI P K l0 dC i4 L1 z5):=aB (by kernel_rfl)
theorem aE6:ajI P K l0 x3 i4 L1 h=
 (OP (aj .add i4 (.int .i64 (1))) λaM=>
 ([l0]:List Value)=[l0]/\L1 [x3,aM] h):=aB (by kernel_rfl)
theorem aE8 (l0:Value) (L1:LQ) (x3 i4:Value) (h:ae):ajK P K l0 L1 [x3,i4] h=
 (OP (aT l0) λx9=>
 OP (aj .lss i4 x9) λaE=>
 aJ aE
 (OP (aT x3) λaP=>
 bT [aP] h λL2 xs hx=>
 ajH P K l0 x3 i4 L1 L2 xs hx)
 (ajJ P K x3 h)):=aB (by kernel_rfl)
theorem aE7:ajJ P K x3 h=
 (K x3 h):=aB (by kernel_rfl)
def Mn:Prop:=
 OH (cH 24 0 [(.int .i64 (0)),(.int .i64 (0)),(.int .i64 (0))] h []) λx6 z1=>
 bT [x6,(.int .i64 (0))] z1 λL1 xs hx=>
 ajK P K l0 L1 xs hx
theorem e21:au P Gf (aW [.tmp 2] K) (cd [l0]) h=Mn P K l0 h:=by kernel_rfl
theorem f21 {K:VK} {l0:Value} {h:ae} (H:Mn prog K l0 h):ay prog 21 [l0] h K:=
 cC k21 (cE rfl) ((e21 prog K l0 h).mpr H)
end
noncomputable section
variable (a0 b1 a2 b3 aE aZ aS bL : Value) (h : ae)
def ahI:=cg prog 42 [[],[2,3,10],[2,3,10,16],[10,16,21],[10,22],[]]
@[irreducible] def GC:=cD ahI
@[irreducible] def abe:=GC.r.l.r.l
@[irreducible] def axc:=GC.r.r
@[irreducible] def abf:=abe.r.l
@[irreducible] def abg:=abf.r.l
@[irreducible] def axb:=abg.r.l
theorem k42:ahI=some (24,GC,[.tmp 4]):=by kernel_rfl
def Xv (_P:Program) (K:VK):ax:=aW [.tmp 4] K
def E7:ax:=aH (au P axc (Xv P K)) (Xv P K)
def ak5:Prop:=aA (au P abe (E7 P K)) [2,3,10] [a2,b3,aE] h
def Tt:Prop:=aA (au P abf (E7 P K)) [2,3,10,16] [a2,b3,aE,aZ] h
def Tu:Prop:=aA (au P abg (E7 P K)) [10,16,21] [aE,aZ,aS] h
def Ts:Prop:=aA (au P axb (E7 P K)) [10,22] [aE,bL] h
theorem Ut:Ts P K aE bL h=
 (OP (bu aE (.bool true) bL) λbB=>
 K bB h):=aB (by kernel_rfl)
theorem Uu:Tu P K aE aZ aS h=
 (bO aE false
 (OP (bu aZ aS (.bool false)) λbL=>
 Ts P K aE bL h)
 (Ts P K aE undef h)):=aB (by kernel_rfl)
theorem am9:Tt P K a2 b3 aE aZ h=
 (bO aZ true
 (OP (aF 0 a2) λbM=>
 OP (af false 1 h bM) λbA=>
 OP (aF 0 b3) λaR=>
 OP (af false 1 h aR) λaI=>
 OP (aj .lss bA aI) λaS=>
 Tu P K aE aZ aS h)
 (Tu P K aE aZ undef h)):=aB (by kernel_rfl)
theorem aHh:ak5 P K a2 b3 aE h=
 (bO aE false
 (OP (aF 1 a2) λaG=>
 OP (af false 1 h aG) λaM=>
 OP (aF 1 b3) λaC=>
 OP (af false 1 h aC) λaP=>
 OP (aj .eql aM aP) λaX=>
 Tt P K a2 b3 aE aX h)
 (Tt P K a2 b3 aE undef h)):=aB (by kernel_rfl)
def MJ:Prop:=
 OH (cR 24 h a0) λa2 z1=>
 OH (cR 24 z1 b1) λb3 z2=>
 OP (aF 1 a2) λx5=>
 OP (af false 1 z2 x5) λx6=>
 OP (aF 1 b3) λx7=>
 OP (af false 1 z2 x7) λx8=>
 OP (aj .lss x6 x8) λx9=>
 ak5 P K a2 b3 x9 z2
theorem e42:au P GC (aW [.tmp 4] K) (cd [a0,b1]) h=MJ P K a0 b1 h:=by kernel_rfl
theorem f42 {K:VK} {a0 b1:Value} {h:ae} (H:MJ prog K a0 b1 h):ay prog 42 [a0,b1] h K:=
 cC k42 (cE rfl) ((e42 prog K a0 b1 h).mpr H)
end
end
section
open Go.Sim Go.Sort
variable {h : ae} {K : Value -> ae -> Prop} {w t : Nat} {l : List T3} {ys : List Nat}
structure R3 (h:ae) (v:Value) (l:List T3):Prop where
 len:aT v=some (I l.length)
 get:∀k (hk:k<l.length),∃i o,aD 3 v (I k)=some (pt i o)/\af true 3 h (pt i o)=some (.agg (aO l[k]).toArray)/\af false 1 h (pt i o)=some (I l[k].1)/\af false 1 h (pt i (o+1))=some (I l[k].2.1)/\af false 1 h (pt i (o+2))=some (I l[k].2.2)
theorem R3.up {h h':ae} {v:Value} {l:List T3} (r:R3 h v l) (x:EX h h'):R3 h' v l:=
 ⟨r.len,λk hk=>let ⟨i,o,a,b,c,d,e⟩:=r.get k hk;⟨i,o,a,EX.load x b,EX.load x c,EX.load x d,EX.load x e⟩⟩
theorem R3.of {h:ae} {e:TypeId} {i:Nat} {l:List T3} (hg:h[i]?=some (.arr e (ck l))):R3 h (sl e i 0 l.length) l:=
 ⟨rfl,λk hk=>let r:=tY (show bw h i=some (ck l) by simp [bw,hg]) hk;⟨i,k*3,uC hk,r.1,r.2.1,r.2.2.1,r.2.2.2⟩⟩
theorem fq.r3 {b:Nat} {g:ae} {e:TypeId} {v:Value} {l:List T3} (o:fq b g e 3 v l.length (ck l)):R3 g v l:=by
 rcases o.2 with ⟨rfl,h0⟩ | ⟨i,_,rfl,hg⟩
 ·exact ⟨by rw [h0];rfl,λk hk=>by omega⟩
 ·exact R3.of hg
theorem C42 {a b:T3} (hk:∀x g,EX h g->K (B x) g):ay prog 42 [.agg (aO a).toArray,.agg (aO b).toArray] h K:=by
 refine f42 ?_
 unfold MJ
 simp only [BZ,aL]
 have x1:EX h (h++[.arr 24 (aO a)]):=EX.append _ _
 have c1:(h++[az.arr 24 (aO a)])[h.length]?=some (.arr 24 (aO a)):=bK
 generalize h.length=ia at c1⊢
 generalize h++[az.arr 24 (aO a)]=g1 at x1 c1⊢
 have x2:EX g1 (g1++[.arr 24 (aO b)]):=EX.append _ _
 have c2:(g1++[az.arr 24 (aO b)])[g1.length]?=some (.arr 24 (aO b)):=bK
 have c1:=x2.get c1
 generalize g1.length=ib at c2⊢
 generalize g1++[az.arr 24 (aO b)]=g2 at x2 c1 c2⊢
 obtain ⟨p0,p1,p2⟩:=nz c1
 obtain ⟨q0,q1,q2⟩:=nz c2
 have fin:=λx=>hk x g2 (x1.trans x2)
 simp only [cj,zero_add,ah,p1,q1,bW]
 rw [aHh]
 by_cases h1:(a.2.1:Int)<b.2.1
 ·rw [dh h1]
  simp only [o0]
  rw [am9]
  simp only [BI]
  rw [Uu]
  simp only [o0]
  rw [Ut]
  simp only [fy,ah]
  exact fin _
 ·rw [bX h1]
  simp only [fc,cj,zero_add,ah,p1,q1,jB]
  rw [am9]
  by_cases h2:(a.2.1:Int)=b.2.1
  ·rw [dh h2]
   simp only [gK,cj,zero_add,ah,p0,q0,bW]
   rw [Uu]
   simp only [fc,fy,ah]
   rw [Ut]
   simp only [dA,ah]
   exact fin _
  ·rw [bX h2]
   simp only [jd]
   rw [Uu]
   simp only [fc,dA,ah]
   rw [Ut]
   simp only [dA,ah]
   exact fin _
theorem I8 {g:ae} {i n:Nat} {e:TypeId} (hg:g[i]?=some (.arr e [])):eA g (sl e i 0 n)=some (.agg #[.int .i64 e]):=by
 simp [eA,vA,hg,mN,sl]
theorem I9 {g:ae} {i n:Nat} {e:TypeId} {q:T3} (hg:g[i]?=some (.arr e (aO q))):eA g (sl e i 0 n)=some (.agg #[.int .i64 e,I q.1,I q.2.1,I q.2.2]):=by
 simp [eA,vA,hg,mN,sl,aO]
theorem uD {g:ae} {e:TypeId} {esz bytes i n m:Nat} {v:Value} {cs ds:List Value} (hb:g[i]?=some (.arr e cs)) (hn:cs.length=n*esz) (hc:fx g esz v=some ds) (hl:iY v=some m) (nC:m=0->ds=[]) (h1:(n+m)*bytes<=140737488355328) (h2:n+m<=maxLen):
  ∃i' g',cT e esz bytes g (sl e i 0 n) v=some (sl e i' 0 (n+m),g')/\(i'=i∨i'=g.length)/\XM i g g'/\g'[i']?=some (.arr e (cs++ds)):=by
 have aw:=(cm hb).1
 simp only [cT,hc,hl]
 simp only [sl,hb]
 rw [if_pos ⟨trivial,trivial,hn,h1,h2⟩]
 by_cases h0:m=0
 ·rw [if_pos h0,nC h0,h0]
  exact ⟨i,g,rfl,.inl rfl,XM.refl _ _,by simpa using hb⟩
 ·rw [if_neg h0]
  exact ⟨g.length,_,rfl,.inr rfl,((XM.refl i g).set _).trans (XM.ex (EX.append _ _)),by rw [List.getElem?_append_right (by simp)];simp⟩
theorem aDx {g:ae} {e:TypeId} {v:Value} {b:Nat} {X:List T3} {k:Nat} (o:fq b g e 3 v X.length (ck X)) (hk:k<=X.length):
  ∃v1 v2,fP e 3 v none (some (I k))=some v1/\fP e 3 v (some (I k)) none=some v2/\iY v1=some k/\iY v2=some (X.length-k)/\
   ∀g',(∀d n,v=sl e d 0 n->g'[d]?=g[d]?)->fx g' 3 v1=some (ck (X.take k))/\fx g' 3 v2=some (ck (X.drop k)):=by
 have l3:=mL X
 rcases o.2 with ⟨rfl,h0⟩ | ⟨i,_,rfl,hg⟩
 ·have:X=[]:=List.length_eq_zero_iff.1 h0
  subst this
  have:k=0:=by simpa using hk
  subst this
  exact ⟨.slice none 0 0,.slice none 0 0,rfl,rfl,rfl,rfl,λ_ _=>⟨rfl,rfl⟩⟩
 ·have e1:(0:Int)<=(k:Int):=by omega
  refine ⟨.slice (some ⟨i,0,some e⟩) k (pc 3 none k X.length),sl e i (k*3) (X.length-k),?_,?_,rfl,rfl,λg' P5=>?_⟩
  ·simp [fP,sl,mE,od,e1,hk]
  ·simp [fP,sl,mE,od,e1,hk]
  ·have P5:g'[i]?=some (.arr e (ck X)):=by rw [P5 i _ rfl];exact hg
   have oc:bw g' i=some (ck X):=by simp [bw,P5]
   constructor
   ·simp only [fx]
    by_cases h0:k=0
    ·subst h0;simp [ck]
    ·rw [if_neg h0,oc,bind_some,if_pos (by omega),drop_zero,ac5]
   ·simp only [fx,sl]
    by_cases h0:X.length-k=0
    ·rw [if_pos h0,drop_of_length_le (by omega)];rfl
    ·rw [if_neg h0,oc,bind_some,if_pos (by omega),ac3,take_of_length_le (by rw [mL,List.length_drop];omega)]
end
section
open Go.Sim Go.Sort
variable {h : ae} {K : Value -> ae -> Prop} {w t : Nat} {l : List T3} {ys : List Nat}
theorem Bj (e:TypeId) (g:ae):cH e 0 [(.int .i64 (0)),(.int .i64 (0)),(.int .i64 (0))] g []=some (sl e g.length 0 0,g++[.arr e []]):=by
 simp [cH,jC,bE]
theorem afD {g:ae} {e:TypeId} {v:Value} {b ia ib:Nat} {X:List T3} {q:T3} {k:Nat} (o:fq b g e 3 v X.length (ck X)) (hk:k<=X.length) (hX:X.length<=1000)
  (ha:g[ia]?=some (.arr e [])) (hb:g[ib]?=some (.arr e (aO q))) (gQ:ia≠ib) (hva:∀n,v≠sl e ia 0 n) (hba:b<=ia):
  ∃v1 v2 cB g3 cU g4 dC g5,fP e 3 v none (some (I k))=some v1/\cT e 3 24 g (sl e ia 0 0) v1=some (cB,g3)/\XM ia g g3/\cT e 3 24 g3 cB (sl e ib 0 1)=some (cU,g4)/\
   fP e 3 v (some (I k)) none=some v2/\cT e 3 24 g4 cU v2=some (dC,g5)/\XM ia g g5/\fq b g5 e 3 dC (X.length+1) (ck (X.take k++q::X.drop k))/\(∀d n,dC=sl e d 0 n->d=ia∨g.length<=d):=by
 obtain ⟨v1,v2,s1,s2,l1,l2,rd⟩:=aDx o hk
 have RC:(X.take k).length=k:=by rw [length_take];omega
 have ld1:(X.drop k).length=X.length-k:=List.length_drop
 have halt:=(cm ha).1
 have aMz:=(cm hb).1
 have Vc:∀d n,v=sl e d 0 n->d<g.length:=λd n hd=>by
  rcases o.2 with ⟨h1,_⟩ | ⟨i,_,h2,h3⟩
  ·rw [h1] at hd;cases hd
  ·rw [h2] at hd;obtain ⟨rfl,_⟩:=vN hd;exact (cm h3).1
 obtain ⟨i3,g3,a3,e3,m3,c3⟩:=uD (n:=0) (bytes:=24) ha (by simp) (rd g λ_ _ _=>rfl).1 l1 (λh=>by subst h;rfl) (by omega) (by simp [maxLen];omega)
 rw [zero_add] at a3
 rw [List.nil_append] at c3
 have b3:g3[ib]?=some (.arr e (aO q)):=m3.get (Ne.symm gQ) hb
 have UU:fx g3 3 (sl e ib 0 1)=some (aO q):=by
  simp only [fx,sl,bw,b3,bind_some]
  rfl
 obtain ⟨i4,g4,a4,e4,m4,c4⟩:=uD (bytes:=24) c3 (by rw [mL,RC]) UU rfl (by omega) (by omega) (by simp [maxLen];omega)
 have ne3:∀d,d<g.length->d≠ia->i3≠d:=λd h1 h2 h3=>by rcases e3 with h | h <;> omega
 have x4:∀d,d<g.length->d≠ia->g4[d]?=g[d]?:=λd h1 h2=>by
  rw [m4.2 d (by have:=m3.1;omega) (Ne.symm (ne3 d h1 h2)),m3.2 d h1 h2]
 have c4':g4[i4]?=some (.arr e (ck (X.take k++[q]))):=by rw [c4,uG];simp [ck]
 obtain ⟨i5,g5,a5,e5,m5,c5⟩:=uD (bytes:=24) (n:=k+1) c4' (by rw [mL];simp [RC]) (rd g4 λd n hd=>x4 d (Vc d n hd) λh=>hva n (h ▸ hd)).2 l2 (λh=>by rw [drop_of_length_le (by omega)];rfl) (by omega) (by simp [maxLen];omega)
 have ne4:∀d,d<g.length->d≠ia->i4≠d:=λd h1 h2 h3=>by
  have:=ne3 d h1 h2
  have:=m3.1
  rcases e4 with h | h <;> omega
 rw [show k+1+(X.length-k)=X.length+1 by omega] at a5
 rw [<-uG] at c5
 refine ⟨v1,v2,_,g3,_,g4,_,g5,s1,a3,m3,a4,s2,a5,⟨by have:=m3.1;have:=m4.1;have:=m5.1;omega,λd h1 h2=>?_⟩,⟨?_,.inr ⟨i5,?_,rfl,?_⟩⟩,λd n hd=>?_⟩
 ·rw [m5.2 d (by have:=m3.1;have:=m4.1;omega) (Ne.symm (ne4 d h1 h2)),x4 d h1 h2]
 ·rw [mL];simp [RC,ld1];omega
 ·have:=m3.1;have:=m4.1;have:b<=g.length:=by omega
  rcases e3 with h | h <;> rcases e4 with h' | h' <;> rcases e5 with aQ | aQ <;> omega
 ·rw [c5];simp
 ·obtain ⟨rfl,_⟩:=vN hd
  have:=m3.1;have:=m4.1
  rcases e3 with h | h <;> rcases e4 with h' | h' <;> rcases e5 with aQ | aQ <;> omega
end
section
open Go.Sim Go.Sort
variable {h : ae} {K : Value -> ae -> Prop} {w t : Nat} {l : List T3} {ys : List Nat}
theorem fq.lt {b:Nat} {g:ae} {e:TypeId} {esz n d m:Nat} {v:Value} {cs:List Value} (o:fq b g e esz v n cs) (hv:v=sl e d 0 m):b<=d/\d<g.length:=by
 rcases o.2 with ⟨h1,_⟩ | ⟨i,h1,h2,h3⟩
 ·rw [h1] at hv;cases hv
 ·rw [h2] at hv
  obtain ⟨rfl,_⟩:=vN hv
  exact ⟨h1,(cm h3).1⟩
theorem IZ (e:TypeId) (g:ae) (p:T3):cH e 1 [(.int .i64 (0)),(.int .i64 (0)),(.int .i64 (0))] g [(0,3,.agg (aO p).toArray)]=some (sl e g.length 0 1,g++[.arr e (aO p)]):=by
 rw [agu];simp [ck]
theorem C21 {v:Value} (r:R3 h v l) (hl:l.length<=100)
  (hk:∀v g O,EX h g->O.length=l.length->(∀q∈O,q∈l)->fq h.length g 24 3 v O.length (ck O)->K v g):ay prog 21 [v] h K:=by
 refine f21 ?_
 unfold Mn
 simp only [Bj,aL]
 refine cN (σ:=Nat×Value×List T3×ae) (λq=>[q.2.1,I q.1]) (λq=>q.2.2.2) (λq=>q.1<=l.length/\q.2.2.1.length=q.1/\EX h q.2.2.2/\fq h.length q.2.2.2 24 3 q.2.1 q.2.2.1.length (ck q.2.2.1)/\∀x∈q.2.2.1,x∈l) (λq=>l.length-q.1)
  (0,_,[],_) rfl rfl ⟨zero_le _,rfl,EX.append _ _,⟨rfl,.inr ⟨h.length,le_refl _,rfl,bK⟩⟩,λ_ h=>absurd h (by simp)⟩ ?_
 rintro ⟨i,vo,O,g⟩ ⟨hi,hO,xg,own,mem⟩ L hL
 simp only at hi hO xg own mem hL⊢
 rw [aE8]
 simp only [r.len,bW,ah,ca]
 refine ⟨λaw=>?_,λcJ=>?_⟩
 ·have aw:i<l.length:=by omega
  simp only [own.len,ah]
  obtain ⟨il,ol,ad,ld,_⟩:=(r.up xg).get i aw
  have adJ:∀(k:Nat) (g1:ae),k<=O.length->EX g g1->Jn prog K v vo (I i) (I k) L g1:=by
   intro k g1 fC x1
   have ld1:=EX.load x1 ld
   have Dw:=own.up x1
   rw [aE5]
   simp only [Bj,aL]
   have x2:EX g1 (g1++[.arr 24 []]):=EX.append _ _
   have c2:(g1++[az.arr 24 []])[g1.length]?=some (.arr 24 []):=bK
   have fr:∀n,vo≠sl 24 g1.length 0 n:=λn hv=>by have:=(Dw.lt hv).2;omega
   have gl:h.length<=g1.length:=le_trans xg.1 x1.1
   generalize g1.length=ia at c2 fr gl⊢
   have ll:af true 3 (g1++[az.arr 24 []]) (pt il ol)=some (.agg (aO l[i]).toArray):=EX.load x2 ld1
   have oP:=Dw.up x2
   generalize g1++[az.arr 24 []]=g2 at x2 c2 ll oP⊢
   simp only [I8 c2,ah,true_and,ad,ll,ld1,and_true,IZ,aL]
   have x3:EX g2 (g2++[.arr 24 (aO l[i])]):=EX.append _ _
   have c3:(g2++[az.arr 24 (aO l[i])])[g2.length]?=some (.arr 24 (aO l[i])):=bK
   have xV:=x3.get c2
   have zt:ia≠g2.length:=by have:=(cm c2).1;omega
   have ll3:=EX.load x3 ll
   have qB:=oP.up x3
   generalize g2.length=ib at c3 zt⊢
   generalize g2++[az.arr 24 (aO l[i])]=g3 at x3 c3 xV ll3 qB⊢
   obtain ⟨v1,v2,cB,g4,cU,g5,dC,g6,e1,e2,m4,e3,e4,e5,m6,Dx,_⟩:=afD qB fC (by omega) xV c3 zt fr gl
   have Rz:af true 3 g4 (pt il ol)=some (.agg (aO l[i]).toArray):=EX.load (XM.iz ((xg.trans x1).trans (x2.trans x3)) gl m4) (show af true 3 h (pt il ol)=_ from ?_)
   ·have c4:g4[ib]?=some (.arr 24 (aO l[i])):=m4.get (Ne.symm zt) c3
    simp only [I9 c3,I8 xV,ah,true_and,e1,e2,aL,Rz,I9 c4,e3,e4,e5]
    rw [aE6]
    simp only [b7,ah,true_and]
    rw [dP i (by simp [maxLen];omega)]
    have eo:(O.take k++l[i]::O.drop k).length=O.length+1:=by
     have:=congrArg List.length (take_append_drop k O)
     simp at this⊢;omega
    rw [<-eo] at Dx
    refine hL (i+1,dC,_,g6) ⟨aw,by rw [eo,hO],XM.iz ((xg.trans x1).trans (x2.trans x3)) gl m6,Dx,λx hx=>?_⟩ (by show l.length-(i+1)<l.length-i;omega)
    simp only [mem_append,mem_cons] at hx
    rcases hx with hx | rfl | hx
    ·exact mem x (List.mem_of_mem_take hx)
    ·exact getElem_mem aw
    ·exact mem x (List.mem_of_mem_drop hx)
   ·obtain ⟨il',ol',BT,ld',_⟩:=r.get i aw
    rw [ad] at BT
    cases BT
    exact ld'
  refine cN (σ:=Nat×ae) (λq=>[I q.1]) (λq=>q.2) (λq=>q.1<=O.length/\EX g q.2) (λq=>q.1) (O.length,g) rfl rfl ⟨le_refl _,EX.refl _⟩ ?_
  rintro ⟨k,g1⟩ ⟨fC,x1⟩ L2 dO
  simp only at fC x1 dO⊢
  rw [aE4]
  simp only [gY,ah]
  by_cases h0:0<k
  ·rw [dh (show (0:Int)<k by omega)]
   obtain ⟨jo,oo,BU,jI,_⟩:=(own.up x1).r3.get (k-1) (by omega)
   have sb:IntKind.wrap .i64 ((k:Int)-1)=(k-1:Nat):=by rw [wrap64 (by omega) (by omega)];omega
   simp only [gK,ad,EX.load x1 ld,ah,true_and,iD,sb,BU,jI]
   refine C42 λx g2 x2=>?_
   cases x
   ·simp only [fy,ah,dm]
    exact adJ k g2 fC (x1.trans x2)
   ·simp only [fy,ah,gf]
    exact dO (k-1,g2) ⟨by omega,x1.trans x2⟩ (by show k-1<k;omega)
  ·rw [bX (show ¬(0:Int)<k by omega)]
   simp only [jd,dA,ah,dm,true_and]
   exact adJ k g1 fC x1
 ·have:i=l.length:=by omega
  rw [aE7]
  exact hk vo g O xg (by omega) mem own
end
end Go.Proofs.YtncaiogfjjepcaaGreat
namespace Go.Sim
section
theorem aAj {LL:List Ln} {j:Nat} {y:Nat} (hn:∀b∈LL.take j,b.1≠y):(LL.take j).find? (λa=>decide (a.1=y))=none:=by
 rw [List.find?_eq_none]
 intro x hx
 simpa using hn x hx
theorem agp {LL:List Ln} {e:Ln} (hn:∀b∈LL,b.1≠e.1):gT LL e=e:=by
 unfold gT
 have:LL.find? (λa=>decide (a.1=e.1))=none:=by
  rw [List.find?_eq_none];intro x hx;simpa using hn x hx
 rw [this]
theorem aC6 {LL:List Ln} {e:Ln} {j:Nat} (hj:j<LL.length) (hn:∀b∈LL.take j,b.1≠e.1) (he:LL[j].1=e.1):
  gT (LL.take (j+1)) e=(e.1,min e.2.1 LL[j].2.1,max e.2.2 LL[j].2.2):=by
 unfold gT
 rw [take_succ_eq_append_getElem hj,List.find?_append,aAj hn]
 simp [he]
theorem aC5 {LL:List Ln} {e:Ln} {j:Nat} (hj:j<LL.length) (he:LL[j].1≠e.1):gT (LL.take (j+1)) e=gT (LL.take j) e:=by
 unfold gT
 rw [take_succ_eq_append_getElem hj,List.find?_append]
 have:[LL[j]].find? (λa=>decide (a.1=e.1))=none:=by simp [he]
 rw [this,Option.or_none]
theorem aBZ {LL:List Ln} (inc:LL.Pairwise λa b=>a.1<b.1) {j:Nat} (hj:j<LL.length) {y:Nat} (he:LL[j].1=y):∀b∈LL.take j,b.1≠y:=by
 intro b hb
 obtain ⟨k,hk,rfl⟩:=getElem_of_mem hb
 rw [length_take] at hk
 rw [List.getElem_take]
 have:=(pairwise_iff_getElem.1 inc) k j (by omega) hj (by omega)
 omega
theorem aAk {LL:List Ln} {e:Ln} (inc:LL.Pairwise λa b=>a.1<b.1) (f:fits LL e) {j:Nat} (hj:j<LL.length) (he:LL[j].1=e.1):e.2.1<=LL[j].2.2:=by
 rcases f with ⟨a,ha,h1,h2⟩ | ⟨h1,_⟩
 ·obtain ⟨k,hk,rfl⟩:=getElem_of_mem ha
  rcases Nat.lt_trichotomy j k with c | c | c
  ·have:=(pairwise_iff_getElem.1 inc) j k hj hk c;omega
  ·subst c;exact h2
  ·have:=(pairwise_iff_getElem.1 inc) k j hk hj c;omega
 ·exact absurd he (h1 _ (getElem_mem hj))
theorem anQ:∀{R:List Ln} (_:R.Pairwise λa b=>a.1<b.1) {y at':Nat} (_:∀a∈R,a.1≠y) (_:at'<=R.length) (_:∀k (_:k<R.length),k<at'->R[k].1<y) (_:∀(_:at'<R.length),¬R[at'].1<y),
  R.take at'=R.filter (λa=>decide (a.1<y))/\R.drop at'=R.filter λa=>decide (y<a.1)
 | [],_,y,at',_,_,_,_=>by simp
 | a::R,inc,y,0,ne,hle,lo,hi=>by
  have h0:=hi (by simp)
  have h1:=ne a (by simp)
  simp only [List.getElem_cons_zero] at h0
  have all:∀b∈a::R,y<b.1:=by
   intro b hb
   rcases mem_cons.1 hb with rfl | hb
   ·omega
   ·have:=(pairwise_cons.1 inc).1 b hb;omega
  constructor
  ·rw [List.take_zero,eq_comm,List.filter_eq_nil_iff]
   intro b hb;have:=all b hb;simp;omega
  ·rw [drop_zero,eq_comm,List.filter_eq_self]
   intro b hb;have:=all b hb;simpa using this
 | a::R,inc,y,at'+1,ne,hle,lo,hi=>by
  have h0:=lo 0 (by simp) (by omega)
  simp only [List.getElem_cons_zero] at h0
  have:=anQ (R:=R) (pairwise_cons.1 inc).2 (y:=y) (at':=at') (λb hb=>ne b (mem_cons_of_mem _ hb)) (by simpa using hle) (λk hk aw=>by have:=lo (k+1) (by simpa using hk) (by omega);simpa using this) (λaw=>by have:=hi (by simpa using aw);simpa using this)
  constructor
  ·rw [List.take_succ_cons,List.filter_cons_of_pos (by simpa using h0),this.1]
  ·rw [List.drop_succ_cons,List.filter_cons_of_neg (by simp;omega),this.2]
theorem aB2 {LL:List Ln} {e:Ln} (inc:LL.Pairwise λa b=>a.1<b.1) {at':Nat} (hle:at'<=(LL.filter λa=>decide (a.1≠e.1)).length)
  (lo:∀k (_:k<(LL.filter λa=>decide (a.1≠e.1)).length),k<at'->(LL.filter λa=>decide (a.1≠e.1))[k].1<e.1) (hi:∀(_:at'<(LL.filter λa=>decide (a.1≠e.1)).length),¬(LL.filter λa=>decide (a.1≠e.1))[at'].1<e.1):
  (LL.filter λa=>decide (a.1≠e.1)).take at'++gT LL e::(LL.filter λa=>decide (a.1≠e.1)).drop at'=mU LL e:=by
 obtain ⟨h1,h2⟩:=anQ (inc.filter _) (y:=e.1) (λa ha=>by simpa using (mem_filter.1 ha).2) hle lo hi
 rw [h1,h2,List.filter_filter,List.filter_filter]
 unfold mU
 congr 1
 ·refine List.filter_congr λa _=>?_
  rw [<-Bool.decide_and,decide_eq_decide];omega
 ·congr 1
  refine List.filter_congr λa _=>?_
  rw [<-Bool.decide_and,decide_eq_decide];omega
theorem aB1 (LL:List Ln) (e:Ln):(mU LL e).length<=LL.length+1:=by
 unfold mU
 rw [length_append,List.length_cons]
 have:(LL.filter λa=>decide (a.1<e.1)).length+(LL.filter λa=>decide (e.1<a.1)).length<=LL.length:=by
  induction LL with
  | nil=>simp
  | cons a LL ih=>
   by_cases h1:a.1<e.1
   ·rw [List.filter_cons_of_pos (by simpa using h1),List.filter_cons_of_neg (by simp;omega)];simp;omega
   ·rw [List.filter_cons_of_neg (by simpa using h1)]
    by_cases h2:e.1<a.1
    ·rw [List.filter_cons_of_pos (by simpa using h2)];simp;omega
    ·rw [List.filter_cons_of_neg (by simpa using h2)];simp;omega
 omega
end
end Go.Sim
namespace Go.Proofs.YtncaiogfjjepcaaGreat
section
open Go.Sim Go.Sort
variable {h : ae} {K : Value -> ae -> Prop} {w t : Nat} {l : List T3} {ys : List Nat}
theorem aoH {v:Value} {i k:Nat} {L1 L2:List Value->ae->Prop} {g0 g:ae} {LL:List T3} {e:T3} {vr:Value} {ir b:Nat} (inc:LL.Pairwise λa b=>a.1<b.1) (Qk:LL.length<=900) (x0:EX g0 g)
  (hb:b<=g0.length)
  (hn:g[g0.length]?=some (.arr 65 (aO (gT LL e)))) (Qd:g0.length<ir) (qm:vr=sl 65 ir 0 (LL.filter λa=>decide (a.1≠e.1)).length) (tH:g[ir]?=some (.arr 65 (ck (LL.filter λa=>decide (a.1≠e.1)))))
  (hk:∀x g',EX g0 g'->fq b g' 65 3 x (mU LL e).length (ck (mU LL e))->Jm prog K v x (I i) (I k) L1 L2 g'):Sv prog K v (I i) (I k) (pt g0.length 0) vr L1 L2 g:=by
 rw [aEX]
 have me:(gT LL e).1=e.1:=RE LL e
 generalize hR:(LL.filter λa=>decide (a.1≠e.1))=R at qm tH
 have rl:R.length<=LL.length:=by rw [<-hR];exact List.length_filter_le _ _
 have own:fq b g 65 3 vr R.length (ck R):=⟨mL R,.inr ⟨ir,by omega,qm,tH⟩⟩
 have r:=own.r3
 refine cN (σ:=Nat) (λq=>[I q]) (λq=>g) (λq=>q<=R.length/\∀k (_:k<R.length),k<q->R[k].1<e.1) (λq=>R.length-q) 0 rfl rfl ⟨zero_le _,λ_ _ h=>absurd h (Nat.not_lt_zero _)⟩ ?_
 intro at' ⟨hat,lo⟩ L hL
 rw [aEY]
 obtain ⟨p0,p1,p2⟩:=nz hn
 have rest:(∀(_:at'<R.length),¬R[at'].1<e.1)->iJ prog K v (I i) (I k) (pt g0.length 0) vr (I at') L1 L2 g:=by
  intro hi
  have is:=aB2 (e:=e) inc (at':=at') (by rw [hR];exact hat) (by rw [hR];exact lo) (by rw [hR];exact hi)
  rw [hR] at is
  have ll:af true 3 g (pt g0.length 0)=some (.agg (aO (gT LL e)).toArray):=by simp [af,bw,hn,dS,aO]
  rw [aEZ]
  simp only [Bj,aL]
  have x2:EX g (g++[.arr 65 []]):=EX.append _ _
  have c2:(g++[az.arr 65 []])[g.length]?=some (.arr 65 []):=bK
  have fr:∀n,vr≠sl 65 g.length 0 n:=λn hv=>by have:=(own.lt hv).2;omega
  have gl:g0.length<=g.length:=x0.1
  have ng:g0.length≠g.length:=by have:=(cm hn).1;omega
  generalize g.length=ia at c2 fr gl ng⊢
  have ll2:=EX.load x2 ll
  have qj:=x2.get hn
  have oP:=own.up x2
  generalize g++[az.arr 65 []]=g2 at x2 c2 ll2 oP qj⊢
  simp only [I8 c2,ah,true_and,ll2,ll,and_true,IZ,aL]
  have x3:EX g2 (g2++[.arr 65 (aO (gT LL e))]):=EX.append _ _
  have c3:(g2++[az.arr 65 (aO (gT LL e))])[g2.length]?=some (.arr 65 (aO (gT LL e))):=bK
  have xV:=x3.get c2
  have zt:ia≠g2.length:=by have:=(cm c2).1;omega
  have hn3:=x3.get qj
  have qB:=oP.up x3
  generalize g2.length=ib at c3 zt⊢
  generalize g2++[az.arr 65 (aO (gT LL e))]=g3 at x3 c3 xV hn3 qB⊢
  obtain ⟨v1,v2,cB,g4,cU,g5,dC,g6,e1,e2,m4,e3,e4,e5,m6,Dx,_⟩:=afD qB hat (by omega) xV c3 zt fr (by omega)
  have hn4:g4[g0.length]?=some (.arr 65 (aO (gT LL e))):=m4.get ng hn3
  have Rz:af true 3 g4 (pt g0.length 0)=some (.agg (aO (gT LL e)).toArray):=by simp [af,bw,hn4,dS,aO]
  have c4:g4[ib]?=some (.arr 65 (aO (gT LL e))):=m4.get (Ne.symm zt) c3
  simp only [I9 c3,I8 xV,ah,true_and,e1,e2,aL,Rz,I9 c4,e3,e4,e5]
  have eo:(R.take at'++gT LL e::R.drop at').length=R.length+1:=by
   have:=congrArg List.length (take_append_drop at' R)
   simp at this⊢;omega
  rw [<-eo,is] at Dx
  exact hk dC g6 (XM.iz (x0.trans (x2.trans x3)) gl m6) Dx
 simp only [r.len,bW,ah]
 by_cases aw:at'<R.length
 ·rw [dh (show (at':Int)<R.length by omega)]
  obtain ⟨jo,oo,ad,_,l0,l1,_⟩:=r.get at' aw
  have nea:∀a∈R,a.1≠e.1:=λa ha=>by
   rw [<-hR] at ha
   simpa using (mem_filter.1 ha).2
  have ne:=nea _ (getElem_mem aw)
  simp only [gK,ad,cj,zero_add,add_zero,ah,l0,p0,true_and,bW]
  by_cases h1:R[at'].1<e.1
  ·rw [dh (show (R[at'].1:Int)<(gT LL e).1 by omega)]
   simp only [o0,BI,fy,ah,gf,b7]
   rw [dP at' (by simp [maxLen];omega)]
   refine hL (at'+1) ⟨aw,λk hk oA=>?_⟩ (by show R.length-(at'+1)<R.length-at';omega)
   by_cases hka:k=at'
   ·subst hka;exact h1
   ·exact lo k hk (by omega)
  ·rw [bX (show ¬(R[at'].1:Int)<(gT LL e).1 by omega)]
   simp only [fc,jB,ah]
   rw [bX (show ¬(R[at'].1:Int)=(gT LL e).1 by omega)]
   simp only [jd,dA,fy,ah,dm]
   exact rest λ_=>h1
 ·rw [bX (show ¬(at':Int)<R.length by omega)]
  simp only [jd,BI,dA,ah,dm]
  exact rest λhh=>absurd hh aw
end
section
open Go.Sim Go.Sort
variable {h : ae} {K : Value -> ae -> Prop} {w t : Nat} {l : List T3} {ys : List Nat}
theorem aoG {v vo:Value} {i k:Nat} {L1 L2:List Value->ae->Prop} {g0 g:ae} {LL:List T3} {e:T3} {b ir:Nat} (inc:LL.Pairwise λa b=>a.1<b.1) (zer:∀a∈LL,a.2.1=0) (f:fits LL e) (Qk:LL.length<=900) (x0:EX g0 g)
  (hb:b<=g0.length) (r:R3 g0 vo LL) (hn:g[g0.length]?=some (.arr 65 (aO e))) (Qd:g0.length<ir) (tH:g[ir]?=some (.arr 65 []))
  (hk:∀x g',EX g0 g'->fq b g' 65 3 x (mU LL e).length (ck (mU LL e))->Jm prog K v x (I i) (I k) L1 L2 g'):
  bT [sl 65 ir 0 0,(.int .i64 (0))] g λL3 xs hx=>Su prog K v vo (I i) (I k) (pt g0.length 0) L1 L2 L3 xs hx:=by
 refine cN (σ:=Nat×Value×ae) (λq=>[q.2.1,I q.1]) (λq=>q.2.2) (λq=>q.1<=LL.length/\EX g0 q.2.2/\q.2.2[g0.length]?=some (.arr 65 (aO (gT (LL.take q.1) e)))/\
  ∃ir,g0.length<ir/\q.2.1=sl 65 ir 0 ((LL.take q.1).filter λa=>decide (a.1≠e.1)).length/\q.2.2[ir]?=some (.arr 65 (ck ((LL.take q.1).filter λa=>decide (a.1≠e.1))))) (λq=>LL.length-q.1)
  (0,_,g) rfl rfl ⟨zero_le _,x0,by rw [agp (by simp)];exact hn,ir,Qd,rfl,tH⟩ ?_
 rintro ⟨j,vr,g1⟩ ⟨hj,x1,uZ,ir1,aeJ,qm,AP⟩ L hL
 simp only at hj x1 uZ qm AP hL⊢
 rw [aEV]
 have r1:=r.up x1
 simp only [r1.len,bW,ah,ca]
 refine ⟨λaw=>?_,λcJ=>?_⟩
 ·have aw:j<LL.length:=by omega
  obtain ⟨jo,oo,ad,la,l0,l1,l2⟩:=r1.get j aw
  obtain ⟨p0,p1,p2⟩:=nz uZ
  have me:(gT (LL.take j) e).1=e.1:=RE _ e
  have z:=zer _ (getElem_mem aw)
  have tk:LL.take (j+1)=LL.take j++[LL[j]]:=by rw [take_succ_eq_append_getElem aw]
  have next:∀vr g2,EX g0 g2->g2[g0.length]?=some (.arr 65 (aO (gT (LL.take (j+1)) e)))->(∃ir,g0.length<ir/\vr=sl 65 ir 0 ((LL.take (j+1)).filter λa=>decide (a.1≠e.1)).length/\g2[ir]?=some (.arr 65 (ck ((LL.take (j+1)).filter λa=>decide (a.1≠e.1)))))->
    tX prog K v vo (I i) (I k) (pt g0.length 0) vr (I j) L1 L2 L g2:=by
   intro vr g2 h1 h2 h3
   rw [aEW]
   simp only [b7,ah,true_and]
   rw [dP j (by simp [maxLen];omega)]
   exact hL (j+1,vr,g2) ⟨aw,h1,h2,h3⟩ (by show LL.length-(j+1)<LL.length-j;omega)
  simp only [ad,cj,zero_add,add_zero,ah,l0,p0,true_and,jB]
  by_cases h1:LL[j].1=e.1
  ·have bf:=aBZ inc aw h1
   have mn:gT (LL.take j) e=e:=agp bf
   have ms:=aC6 aw bf h1
   have ft:=aAk inc f aw h1
   have fl:(LL.take (j+1)).filter (λa=>decide (a.1≠e.1))=(LL.take j).filter λa=>decide (a.1≠e.1):=by
    rw [tk,List.filter_append,List.filter_cons_of_neg (by simp [h1])];simp
   rw [mn] at p0 p1 p2 uZ me⊢
   rw [dh (show (LL[j].1:Int)=e.1 by omega)]
   simp only [gK,ah,l1,p2,rR]
   rw [dh (show (LL[j].2.1:Int)<=e.2.2 by omega)]
   simp only [fy,ah,gK,l2,p1,rR]
   rw [dh (show (e.2.1:Int)<=LL[j].2.2 by omega)]
   have mx:max (e.2.2:Int) LL[j].2.2=((max e.2.2 LL[j].2.2:Nat):Int):=by omega
   have mi:min (e.2.1:Int) LL[j].2.1=((min e.2.1 LL[j].2.1:Nat):Int):=by omega
   have s1:=kz uZ (o:=1) (v:=I (min e.2.1 LL[j].2.1:Nat)) (by simp [aO]) rfl rfl
   have e1:(aO e).set 1 (I (min e.2.1 LL[j].2.1:Nat))=aO (e.1,min e.2.1 LL[j].2.1,e.2.2):=rfl
   rw [e1] at s1
   have Qn:=(cm uZ).1
   have x2:EX g0 (g1.set g0.length (.arr 65 (aO (e.1,min e.2.1 LL[j].2.1,e.2.2)))):=x1.set (le_refl _) _
   have qj:(g1.set g0.length (.arr 65 (aO (e.1,min e.2.1 LL[j].2.1,e.2.2))))[g0.length]?=some (.arr 65 (aO (e.1,min e.2.1 LL[j].2.1,e.2.2))):=by rw [getElem?_set_self Qn]
   have CJ:(g1.set g0.length (.arr 65 (aO (e.1,min e.2.1 LL[j].2.1,e.2.2))))[ir1]?=some (.arr 65 (ck ((LL.take j).filter λa=>decide (a.1≠e.1)))):=by rw [getElem?_set_ne (by omega)];exact AP
   simp only [ah,gf,min2,IW,mx,mi,s1,aL]
   generalize g1.set g0.length (.arr 65 (aO (e.1,min e.2.1 LL[j].2.1,e.2.2)))=g2 at x2 qj CJ⊢
   obtain ⟨jo',oo',BT,la',l0',l1',l2'⟩:=(r.up x2).get j aw
   rw [ad] at BT
   cases BT
   have aCI:=l2'
   have s2:=kz qj (o:=2) (v:=I (max e.2.2 LL[j].2.2:Nat)) (by simp [aO]) rfl rfl
   have e2:(aO (e.1,min e.2.1 LL[j].2.1,e.2.2)).set 2 (I (max e.2.2 LL[j].2.2:Nat))=aO (e.1,min e.2.1 LL[j].2.1,max e.2.2 LL[j].2.2):=rfl
   rw [e2] at s2
   have dR:=(cm qj).1
   simp only [aCI,true_and,and_true,s2,aL]
   refine next vr _ (x2.set (le_refl _) _) ?_ ⟨ir1,aeJ,by rw [fl];exact qm,?_⟩
   ·rw [getElem?_set_self dR,ms]
   ·rw [getElem?_set_ne (by omega),fl];exact CJ
  ·rw [bX (show ¬(LL[j].1:Int)=(gT (LL.take j) e).1 by omega)]
   have fl:(LL.take (j+1)).filter (λa=>decide (a.1≠e.1))=((LL.take j).filter λa=>decide (a.1≠e.1))++[LL[j]]:=by
    rw [tk,List.filter_append,List.filter_cons_of_pos (by simp [h1])];simp
   simp only [jd,dA,ah,dm,la,IZ,aL]
   have x2:EX g1 (g1++[.arr 65 (aO LL[j])]):=EX.append _ _
   have c2:(g1++[az.arr 65 (aO LL[j])])[g1.length]?=some (.arr 65 (aO LL[j])):=bK
   have sc:fx (g1++[az.arr 65 (aO LL[j])]) 3 (sl 65 g1.length 0 1)=some (aO LL[j]):=by
    simp only [fx,sl,bw,c2,bind_some]
    rfl
   have aAm:((LL.take j).filter λa=>decide (a.1≠e.1)).length<=900:=le_trans (List.length_filter_le _ _) (by rw [length_take];omega)
   have ml:((LL.take j).filter λa=>decide (a.1≠e.1)).length+1<=maxLen:=le_trans (Nat.succ_le_succ aAm) (by simp [maxLen])
   obtain ⟨i',g3,a3,e3,m3,c3⟩:=uD (bytes:=24) (m:=1) (x2.get AP) (mL _) sc rfl (by omega) (by omega) ml
   have i1:=(cm AP).1
   rw [qm,a3]
   simp only [aL]
   refine next _ g3 (XM.iz (x1.trans x2) (by omega) m3) ?_ ⟨i',?_,?_,?_⟩
   ·rw [aC5 aw h1]
    exact m3.get (by omega) (x2.get uZ)
   ·rcases e3 with h | h
    ·omega
    ·rw [h];simp;have:=(cm uZ).1;omega
   ·rw [fl,length_append];rfl
   ·rw [fl,uG]
    rw [c3];simp [ck]
 ·have:j=LL.length:=by omega
  subst this
  rw [take_length] at uZ qm AP
  exact aoH inc Qk x1 hb uZ aeJ qm AP hk
end
section
open Go.Sim Go.Sort
variable {h : ae} {K : Value -> ae -> Prop} {w t : Nat} {l : List T3} {ys : List Nat}
def jP (q:T3) (k:Nat):T3:=(q.2.1+k*q.2.2,q.1,q.1+q.2.2)
theorem C20 {v:Value} (c:eu l w t ys) (hw:w<=10000) (ht:t<=10000) (hl:l.length<=100) (r:R3 h v l)
  (hk:∀x g LL,EX h g->JI (items l) LL->fq h.length g 65 3 x LL.length (ck LL)->LL.length<=200->K x g):ay prog 20 [v] h K:=by
 refine f20 ?_
 unfold Mm
 simp only [Bj,aL]
 refine cN (σ:=Nat×Value×List T3×ae) (λq=>[q.2.1,I q.1]) (λq=>q.2.2.2) (λq=>q.1<=l.length/\EX h q.2.2.2/\fq h.length q.2.2.2 65 3 q.2.1 q.2.2.1.length (ck q.2.2.1)/\JI (items (l.take q.1)) q.2.2.1/\q.2.2.1.length<=2*q.1) (λq=>l.length-q.1)
  (0,_,[],_) rfl rfl ⟨zero_le _,EX.append _ _,⟨rfl,.inr ⟨h.length,le_refl _,rfl,bK⟩⟩,JI.nil,le_refl _⟩ ?_
 rintro ⟨i,vo,LL,g⟩ ⟨hi,xg,own,ji,HW⟩ L1 lD
 simp only at hi xg own ji HW lD⊢
 rw [aE3]
 simp only [r.len,bW,ah,ca]
 refine ⟨λaw=>?_,λcJ=>?_⟩
 ·have aw:i<l.length:=by omega
  obtain ⟨f0,f1⟩:=c.aDf aw ji
  have it:=eu.afQ aw
  have bd:=c.bound _ (getElem_mem aw)
  refine cN (σ:=Nat×Value×List T3×ae) (λq=>[q.2.1,I q.1]) (λq=>q.2.2.2) (λq=>q.1<=2/\EX h q.2.2.2/\fq h.length q.2.2.2 65 3 q.2.1 q.2.2.1.length (ck q.2.2.1)/\JI (items (l.take i)++[jP l[i] 0,jP l[i] 1].take q.1) q.2.2.1/\q.2.2.1.length<=2*i+q.1/\(q.1<2->fits q.2.2.1 (jP l[i] q.1))) (λq=>2-q.1)
   (0,vo,LL,g) rfl rfl ⟨by omega,xg,own,by simpa using ji,by omega,λ_=>by simpa [jP] using f0⟩ ?_
  rintro ⟨k,vo,LL,g⟩ ⟨qV,xg,own,ji,HW,fk⟩ L2 dO
  simp only at qV xg own ji HW fk dO⊢
  rw [aEU]
  simp only [bW,ah]
  by_cases hk3:k<2
  ·rw [dh (show (k:Int)<2 by omega)]
   obtain ⟨il,ol,ad,la,l0,l1,l2⟩:=(r.up xg).get i aw
   have ml:IntKind.wrap .i64 ((k:Int)*l[i].2.2)=((k*l[i].2.2:Nat):Int):=by
    have:k=0∨k=1:=by omega
    rcases this with rfl | rfl <;> rw [wrap64 (by omega) (by omega)] <;> omega
   have kb:k*l[i].2.2<=l[i].2.2:=by
    have:k=0∨k=1:=by omega
    rcases this with rfl | rfl <;> omega
   have a1:IntKind.wrap .i64 ((l[i].2.1:Int)+(k*l[i].2.2:Nat))=((l[i].2.1+k*l[i].2.2:Nat):Int):=by rw [wrap64 (by omega) (by omega)];omega
   have a2:IntKind.wrap .i64 ((l[i].1:Int)+l[i].2.2)=((l[i].1+l[i].2.2:Nat):Int):=by rw [wrap64 (by omega) (by omega)];omega
   have ea:cF 65 [(.int .i64 (0)),(.int .i64 (0)),(.int .i64 (0))] g=some (pt g.length 0,g++[.arr 65 [I 0,I 0,I 0]]):=rfl
   have xa:EX g (g++[.arr 65 [I 0,I 0,I 0]]):=EX.append _ _
   have es:=xj (bK:(g++[az.arr 65 [I 0,I 0,I 0]])[g.length]?=some (.arr 65 [I 0,I 0,I 0])) (jP l[i] k)
   have pg:(g++[az.arr 65 [I 0,I 0,I 0]]).set g.length (.arr 65 (aO (jP l[i] k)))=g++[.arr 65 (aO (jP l[i] k))]:=by simp
   rw [pg] at es
   have bl:=Yl (l[i].2.1+k*l[i].2.2) l[i].1 (l[i].1+l[i].2.2)
   have ek:(l[i].2.1+k*l[i].2.2,l[i].1,l[i].1+l[i].2.2)=jP l[i] k:=rfl
   rw [ek] at bl
   simp only [gf,ad,cj,add_zero,ah,l0,l1,l2,true_and,and_true,xT,ml,b7,a1,a2,bl,ea,aL,EX.load xa l0,EX.load xa l1,EX.load xa l2,es,Bj]
   have x3:EX g (g++[.arr 65 (aO (jP l[i] k))]):=EX.append _ _
   have c3:(g++[az.arr 65 (aO (jP l[i] k))])[g.length]?=some (.arr 65 (aO (jP l[i] k))):=bK
   have l3:(g++[az.arr 65 (aO (jP l[i] k))]).length=g.length+1:=by simp
   generalize g++[az.arr 65 (aO (jP l[i] k))]=g3 at x3 c3 l3⊢
   have x4:EX g3 (g3++[.arr 65 []]):=EX.append _ _
   have c4:(g3++[az.arr 65 []])[g3.length]?=some (.arr 65 []):=bK
   refine aoG (b:=h.length) (g0:=g) (e:=jP l[i] k) ji.inc ji.zero (fk hk3) (by omega) (x3.trans x4) xg.1 own.r3 (x4.get c3) (by omega) c4 ?_
   intro x g' xg' qA
   rw [aE0]
   simp only [b7,ah,true_and]
   rw [dP k (by simp [maxLen];omega)]
   have Ro:=ji.ins (fk hk3)
   have tk:[jP l[i] 0,jP l[i] 1].take (k+1)=[jP l[i] 0,jP l[i] 1].take k++[jP l[i] k]:=by
    have:k=0∨k=1:=by omega
    rcases this with rfl | rfl <;> rfl
   rw [List.append_assoc,<-tk] at Ro
   refine dO (k+1,x,_,g') ⟨by omega,xg.trans xg',qA,Ro,?_,λh1=>?_⟩ (by show 2-(k+1)<2-k;omega)
   ·have:=aB1 LL (jP l[i] k)
    show (mU LL (jP l[i] k)).length<=2*i+(k+1)
    omega
   ·have k0:k=0:=by have:k+1<2:=h1;omega
    subst k0
    have e1:jP l[i] 1=(l[i].2.1+l[i].2.2,l[i].1,l[i].1+l[i].2.2):=by simp [jP]
    show fits (mU LL (jP l[i] 0)) (jP l[i] 1)
    rw [e1]
    exact f1 (mU LL (jP l[i] 0)) (by simpa [jP] using Ro)
  ·have k2:k=2:=by omega
   subst k2
   rw [bX (show ¬((2:Nat):Int)<2 by omega)]
   simp only [dm]
   rw [aE1]
   simp only [b7,ah,true_and]
   rw [dP i (by simp [maxLen];omega)]
   refine lD (i+1,vo,LL,g) ⟨aw,xg,own,?_,by show LL.length<=2*(i+1);omega⟩ (by show l.length-(i+1)<l.length-i;omega)
   show JI (items (l.take (i+1))) LL
   rw [it]
   simpa [jP] using ji
 ·have:i=l.length:=by omega
  subst this
  rw [take_length] at ji
  rw [aE2]
  exact hk vo g LL xg ji own (by omega)
end
end Go.Proofs.YtncaiogfjjepcaaGreat
