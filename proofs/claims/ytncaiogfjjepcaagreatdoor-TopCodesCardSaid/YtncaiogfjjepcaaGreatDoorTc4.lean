/-
  Part 4 of the texts behind a statement of this seat: THMk25, TC, Cd1, Cd2, Cd3, Cd4, TPl, TPl2, THMk22, TRd1, THZU, THCt28, THCt29, THCt30, THCt31, THCt32, THCt33, THCt34, THCt37, THCt38, THCt39, THCt40.
-/
import Derived.Test.YtncaiogfjjepcaaGreatDoorProg
import Derived.KernelRfl
import Derived.Test.YtncaiogfjjepcaaGreatDoorTc3
open Classical (byContradiction)
open Go.Proofs.Tryz (prog)
open List (append_assoc append_nil drop_eq_getElem_cons drop_zero flatten_cons getD_eq_getElem?_getD getElem?_append_left getElem?_eq_getElem getElem_idxOf getElem_mem getElem_set_ne length_append length_cons length_eq_zero_iff length_map length_pos_iff length_set length_take map_append map_cons mem_append mem_append_left mem_cons mem_cons_of_mem mem_cons_self mem_map mem_singleton nodup_append nodup_cons prefix_append replicate take_append_drop take_length take_of_length_le take_zero)
open Nat (add_zero le_refl le_trans min_eq_left mod_lt pow_succ zero_le)
open Option (bind_some getD_some)
namespace Go.Proofs.YtncaiogfjjepcaaGreatDoor
open Go.Sim
section
def uQ (W:List Tx):Prop:=∀i j (hi:i<W.length) (hj:j<W.length),i≠j->¬W[i]<+:W[j]
structure CJ (W:List Tx) (i j:Nat):Prop where
 hi:i<W.length
 hj:j<W.length
 ne:i≠j
 pre:W[i]<+:W[j]
 fst:∀i' j' (dE:i'<W.length) (dH:j'<W.length),i'≠j'->W[i']<+:W[j']->i<i'∨i=i'/\j<=j'
theorem CJ.no {W:List Tx} {i j:Nat} (a:CJ W i j) (n:uQ W):False:=n i j a.hi a.hj a.ne a.pre
theorem SC (g:ae) (i j:Nat):bq 3 2 [(.int .i64 (0))] g [(0,1,I i),(1,1,I j)]=some (sl 3 g.length 0 2,g++[.arr 3 [I i,I j]]):=by
 have va:∀n:Int,bK (I n)=[I n]:=λ_=>rfl
 have na:∀n:Int,de (I n)=true:=λ_=>rfl
 simp [bq,fE,dt,setAt,va,na]
theorem alq {h g:ae} (x:EX h g) (i j:Nat):EX h (g++[.arr 3 [I i,I j]])/\cK h.length (g++[.arr 3 [I i,I j]]) 3 (sl 3 g.length 0 2) [I i,I j]:=
 ⟨x.trans (EX.append _ _),.inr ⟨g.length,x.1,rfl,bP⟩⟩
theorem C5 {v:Value} {W:List Tx} {h:ae} {K:Value->ae->Prop} (hv:SV h v W) (hl:W.length<=1000) (hw:∀w∈W,w.length<4611686018427387904)
  (he:iC W []≠0->∀h',EX h h'->K (.tuple #[.slice none 0 0,I (iC W [])]) h')
  (cL:iC W []=0->uQ W->∀h',EX h h'->K (.tuple #[.slice none 0 0,I 5]) h')
  (lg:iC W []=0->∀i j,CJ W i j->∀u h',EX h h'->cK h.length h' 3 u [I i,I j]->K (.tuple #[u,I 0]) h'):aw prog 5 [v] h K:=by
 refine f5 ?_
 unfold T5
 have Ht:(.string ⟨#[]⟩:Value)=S []:=rfl
 rw [Ht]
 refine CF (s:=[]) hv (by omega) hw (by simp) ?_
 intro g x
 simp only [jW,ag,uO]
 refine ⟨λhc=>he hc g x,λhc=>?_⟩
 have cL:=cL hc
 have lg:=lg hc
 have hs:=hv.ss.mono x
 simp only [hs.len,ag]
 refine cG (σ:=Nat) (λi=>[I i]) (λ_=>g) (λi=>i<=W.length/\∀i' j' (dE:i'<W.length) (dH:j'<W.length),i'<i->i'≠j'->¬W[i']<+:W[j']) (λi=>W.length-i) 0 rfl rfl ⟨zero_le _,λ_ _ _ _ hi=>absurd hi (Nat.not_lt_zero _)⟩ ?_
 rintro i ⟨hi,n1⟩ L hL
 rw [anC]
 simp only [cb,ag,bL]
 refine ⟨λar=>?_,λcY=>cL (λi' j' dE dH aU=>n1 i' j' dE dH (by omega) aU) g x⟩
 have ar:i<W.length:=by omega
 obtain ⟨b1,o1,a1,a2⟩:=hs.get i ar
 simp only [a1,a2,ag,hs.len]
 refine cG (σ:=Nat) (λi=>[I i]) (λ_=>g) (λj=>j<=W.length/\∀j' (dH:j'<W.length),j'<j->i≠j'->¬W[i]<+:W[j']) (λj=>W.length-j) 0 rfl rfl ⟨zero_le _,λ_ _ hi=>absurd hi (Nat.not_lt_zero _)⟩ ?_
 rintro j ⟨hj,n2⟩ L2 eK
 rw [anz]
 simp only [ag,cb,bL]
 refine ⟨λdT=>?_,λcY=>?_⟩
 ·have dT:j<W.length:=by omega
  have next:¬(i≠j/\W[i]<+:W[j])->L2 [I ((j+1:Nat):Int)] g:=λhc=>eK (j+1) ⟨dT,λj' dH gT aU hp=>by
   rcases Nat.lt_succ_iff_lt_or_eq.1 gT with h' | h'
   ·exact n2 j' dH h' aU hp
   ·subst h';exact hc ⟨aU,hp⟩⟩ (by omega)
  have w:=dW j (show j<maxLen by simp [maxLen];omega)
  obtain ⟨b',o',a3,a4⟩:=hs.get j dT
  simp only [jW,ag,a3,a4]
  rw [anA]
  by_cases fM:i=j
  ·rw [cz (show (i:Int)=j by omega)]
   simp only [Bool.not_true,jz,W3,dO,ag,cN,cD,w,true_and]
   exact next λhc=>hc.1 fM
  ·rw [bN (show ¬(i:Int)=j by omega)]
   simp only [Bool.not_false,hI]
   refine Lg ?_
   rw [W3]
   simp only [true_and,fh,ag,bL,cD,w,SC,bc]
   refine ⟨λhp=>?_,λhp=>next λhc=>hp hc.2⟩
   obtain ⟨x',own⟩:=alq x i j
   refine lg i j ⟨ar,dT,fM,hp,λi' j' dE dH aU Rj=>?_⟩ _ _ x' own
   rcases Nat.lt_trichotomy i' i with h' | h' | h'
   ·exact absurd Rj (n1 i' j' dE dH h' aU)
   ·subst h'
    refine .inr ⟨rfl,?_⟩
    apply byContradiction
    intro hc
    exact n2 j' dH (by omega) aU Rj
   ·exact .inl h'
 ·rw [anB]
  simp only [cD,ag,dW i (show i<maxLen by simp [maxLen];omega),true_and]
  refine hL (i+1) ⟨ar,λi' j' dE dH gT aU=>?_⟩ (by omega)
  rcases Nat.lt_succ_iff_lt_or_eq.1 gT with h' | h'
  ·exact n1 i' j' dE dH h' aU
  ·subst h';exact n2 j' dH (by omega) aU
end
section
variable (P : Program) (K : VK)
noncomputable section
variable (x0 y1 l5 x6 i7 k8 n9 bw tR aA i13 aF aM bz mR nN f23 bj aV i26 i27 aS dd FT i33 a9 js iA cV ct bZ b6 cB qc xJ qe xK qf xL qg xM qh xN qi xO qj xP jx qk xQ xR ez fQ ql xU qm xV xW xX fR qo xY qp xZ ya : Value) (L1 L2 L3 : LQ) (xs : List Value) (h : ae)
def Tk:=bJ prog 3 [[],[],[],[],[1,5],[6,7],[],[],[],[1,5,7],[6,8],[],[],[],[],[],[],[1,5,6,7,8,9],[10,11],[],[],[],[1,5,6,7,8,9,10],[],[1,5,6,7,8],[1,5,6,7],[1,5,6],[],[],[],[],[],[1,5,6,12],[13],[],[],[],[],[1,5,6,12,13,126,127],[14,128],[],[],[],[],[],[1,5,6,12,13,14,16,126,127,128],[17,18],[],[],[],[1,5,6,12,13,14,16,17,18,126,127,128],[1,5,6,12,13,14,16,17,126,127,128],[],[1,5,6,12,13,14,16,126,127,128],[17,19],[],[],[],[1,5,6,12,13,14,16,17,19,126,127,128],[1,5,6,12,13,14,17,126,127,128],[1,5,6,12,13,14,126,127,128],[1,5,6,12,13,14],[1,5,6,12,13],[1,5,6,12],[],[],[],[1,5,12,23,214],[1,5,12,214,216],[],[],[],[],[],[1,5,12,25],[24,26],[1,5,12,24,25,26,222],[1,5,12,24,25,26,222,225],[],[],[],[1,5,12,24,25,26],[5,12,24,25],[],[5,12,24],[25,27],[],[],[],[5,12,24,25],[],[],[],[],[5,12,28,30,31,33,34,35,304],[5,12,28,30,33,34,35,304,306],[5,12,28,30,33,34,35,308],[5,12,28,30,34,35,308,310],[5,12,28,30,34,35,312],[5,12,28,30,34,312,314],[5,12,28,30,34,316],[5,12,28,30,316,319],[5,12,28,30,321],[5,12,28,30,321,325],[5,12,28,30,327],[5,12,30,327,330],[5,12,327,330,332],[5,12,327,333],[],[],[],[],[],[],[38,39,40,350],[38,39,40,350,352],[38,39,40,350,352,355],[38,39,40,350,352,355,358],[38,39,40,350,352,360],[39,40,350,352,360,363],[39,40,350,352,364],[39,40,350,365],[39,40,367],[39,367,370],[39,367,370,372],[39,367,374],[367,374,376],[367,377],[]]
@[irreducible] def c3:=bU Tk
@[irreducible] def ED:=c3.r.r.r.l.r.l.l
@[irreducible] def OK:=c3.r.r.r.r
@[irreducible] def zo:=ED.r.l.l.r.l.l
@[irreducible] def N9:=ED.r.r
@[irreducible] def EB:=OK.l
@[irreducible] def ade:=zo.r.l.l.r.r.l.r.l.r.l.l
@[irreducible] def OI:=zo.r.l.l.r.r.l.r.r
@[irreducible] def Oz:=zo.r.r
@[irreducible] def adh:=N9.l
@[irreducible] def zp:=EB.r.r.l.r.l.l
@[irreducible] def OJ:=EB.r.r.r
@[irreducible] def adf:=OI.l
@[irreducible] def adg:=Oz.l
@[irreducible] def zq:=zp.r.l.l.r.l.r.l.l
@[irreducible] def OM:=zp.r.l.l.r.r
@[irreducible] def OL:=zp.r.r
@[irreducible] def zr:=OJ.l
@[irreducible] def OQ:=zq.r.r.l.l.r.r.l.r.l.l
@[irreducible] def OO:=zq.r.r.l.l.r.r.r
@[irreducible] def ON:=zq.r.r.r
@[irreducible] def adn:=OM.l
@[irreducible] def ado:=OL.l
@[irreducible] def OT:=zr.r.r.r.l.l.r.l
@[irreducible] def adp:=zr.r.r.r.l.r
@[irreducible] def EE:=zr.r.r.r.r
@[irreducible] def adi:=OQ.r.r.l
@[irreducible] def EC:=OO.l
@[irreducible] def adm:=ON.l
@[irreducible] def adq:=OT.r.l
@[irreducible] def zt:=EE.r.l.r.l.l
@[irreducible] def OU:=EE.r.r
@[irreducible] def OS:=EC.l.r.l.l
@[irreducible] def OR:=EC.r
@[irreducible] def Oa:=zt.l.l.r.l
@[irreducible] def ac4:=zt.l.r
@[irreducible] def OV:=zt.r
@[irreducible] def Ez:=OU.l
@[irreducible] def adk:=OS.r.r.l
@[irreducible] def adl:=OR.l
@[irreducible] def ac5:=Oa.r.l
@[irreducible] def ac6:=OV.r.l
@[irreducible] def ac7:=Ez.l.r.l.l
@[irreducible] def Ob:=Ez.r
@[irreducible] def zm:=Ob.l
@[irreducible] def Oc:=zm.r.r.r.r.l.l.r.l
@[irreducible] def ac8:=zm.r.r.r.r.l.r
@[irreducible] def EA:=zm.r.r.r.r.r
@[irreducible] def Od:=Oc.r.l
@[irreducible] def Ot:=EA.r.r.r.l.r.l
@[irreducible] def ada:=EA.r.r.r.r
@[irreducible] def Oe:=Od.r.l
@[irreducible] def Ou:=Ot.r.l
@[irreducible] def Of:=Oe.r.l
@[irreducible] def Ov:=Ou.r.l
@[irreducible] def Og:=Of.r.l
@[irreducible] def Ow:=Ov.r.l
@[irreducible] def Oh:=Og.r.l
@[irreducible] def Ox:=Ow.r.l
@[irreducible] def Oi:=Oh.r.l
@[irreducible] def Oy:=Ox.r.l
@[irreducible] def Oj:=Oi.r.l
@[irreducible] def OA:=Oy.r.l
@[irreducible] def Ol:=Oj.r.l
@[irreducible] def OB:=OA.r.l
@[irreducible] def Om:=Ol.r.l
@[irreducible] def OC:=OB.r.l
@[irreducible] def On:=Om.r.l
@[irreducible] def OD:=OC.r.l
@[irreducible] def Oo:=On.r.l
@[irreducible] def OE:=OD.r.l
@[irreducible] def Oq:=Oo.r.l
@[irreducible] def OF:=OE.r.l
@[irreducible] def ac9:=Oq.r.l
@[irreducible] def OG:=OF.r.l
@[irreducible] def adb:=OG.r.l
theorem k3:Tk=some (379,c3,[.tmp 4]):=by kernel_rfl
def iU (_P:Program) (K:VK):aj:=aX [.tmp 4] K
def Z9:aj:=aH (ah P OK (iU P K)) (iU P K)
def aag:aj:=bk 0 (Z9 P K)
def yC:aj:=aH (λf' aJ=>(([1,5]:List Nat).map f':List Value)=[y1,l5]/\L1 (([6,7]:List Nat).map f') aJ) (aag P K)
def ZY:aj:=aH (ah P N9 (yC P K y1 l5 L1)) (yC P K y1 l5 L1)
def ZZ:aj:=bk 1 (ZY P K y1 l5 L1)
def Z3:aj:=bk 2 (ZZ P K y1 l5 L1)
def yz:aj:=aH (λf' aJ=>(([1,5,7]:List Nat).map f':List Value)=[y1,l5,i7]/\L2 (([6,8]:List Nat).map f') aJ) (Z3 P K y1 l5 L1)
def Z4:aj:=aH (ah P Oz (yz P K y1 l5 i7 L1 L2)) (yz P K y1 l5 i7 L1 L2)
def CX:aj:=bk 3 (Z4 P K y1 l5 i7 L1 L2)
def Z5:aj:=aH (ah P OI (CX P K y1 l5 i7 L1 L2)) (CX P K y1 l5 i7 L1 L2)
def Z6:aj:=bk 4 (Z5 P K y1 l5 i7 L1 L2)
def Z7:aj:=aH (λf' aJ=>(([1,5,6,7,8,9]:List Nat).map f':List Value)=[y1,l5,x6,i7,k8,n9]/\L3 (([10,11]:List Nat).map f') aJ) (Z6 P K y1 l5 i7 L1 L2)
def Z8:aj:=aH (ah P OJ (iU P K)) (iU P K)
def aaa:aj:=bk 6 (Z8 P K)
def yA:aj:=aH (λf' aJ=>(([1,5,6,12]:List Nat).map f':List Value)=[y1,l5,x6,aA]/\L1 (([13]:List Nat).map f') aJ) (aaa P K)
def aab:aj:=aH (ah P OL (yA P K y1 l5 x6 aA L1)) (yA P K y1 l5 x6 aA L1)
def CY:aj:=bk 7 (aab P K y1 l5 x6 aA L1)
def aac:aj:=aH (ah P OM (CY P K y1 l5 x6 aA L1)) (CY P K y1 l5 x6 aA L1)
def aad:aj:=bk 8 (aac P K y1 l5 x6 aA L1)
def yB:aj:=aH (λf' aJ=>(([1,5,6,12,13,126,127]:List Nat).map f':List Value)=[y1,l5,x6,aA,i13,bZ,b6]/\L2 (([14,128]:List Nat).map f') aJ) (aad P K y1 l5 x6 aA L1)
def aae:aj:=aH (ah P ON (yB P K y1 l5 x6 aA i13 bZ b6 L1 L2)) (yB P K y1 l5 x6 aA i13 bZ b6 L1 L2)
def sJ:aj:=bk 9 (aae P K y1 l5 x6 aA i13 bZ b6 L1 L2)
def aaf:aj:=aH (ah P OO (sJ P K y1 l5 x6 aA i13 bZ b6 L1 L2)) (sJ P K y1 l5 x6 aA i13 bZ b6 L1 L2)
def aah:aj:=bk 10 (aaf P K y1 l5 x6 aA i13 bZ b6 L1 L2)
def L5:aj:=aH (λf' aJ=>(([1,5,6,12,13,14,16,126,127,128]:List Nat).map f':List Value)=[y1,l5,x6,aA,i13,aF,aM,bZ,b6,cB]/\L3 (([17,18]:List Nat).map f') aJ) (aah P K y1 l5 x6 aA i13 bZ b6 L1 L2)
def aai:aj:=aH (ah P OR (sJ P K y1 l5 x6 aA i13 bZ b6 L1 L2)) (sJ P K y1 l5 x6 aA i13 bZ b6 L1 L2)
def aaj:aj:=bk 12 (aai P K y1 l5 x6 aA i13 bZ b6 L1 L2)
def L6:aj:=aH (λf' aJ=>(([1,5,6,12,13,14,16,126,127,128]:List Nat).map f':List Value)=[y1,l5,x6,aA,i13,aF,aM,bZ,b6,cB]/\L3 (([17,19]:List Nat).map f') aJ) (aaj P K y1 l5 x6 aA i13 bZ b6 L1 L2)
def L7:aj:=aH (ah P EE (iU P K)) (iU P K)
def L8:aj:=aH (ah P adp (L7 P K)) (L7 P K)
def aak:aj:=aH (ah P OU (iU P K)) (iU P K)
def aal:aj:=bk 14 (aak P K)
def yD:aj:=aH (λf' aJ=>(([1,5,12,25]:List Nat).map f':List Value)=[y1,l5,aA,aV]/\L1 (([24,26]:List Nat).map f') aJ) (aal P K)
def L9:aj:=aH (ah P OV (yD P K y1 l5 aA aV L1)) (yD P K y1 l5 aA aV L1)
def LZ:aj:=aH (ah P ac4 (L9 P K y1 l5 aA aV L1)) (L9 P K y1 l5 aA aV L1)
def Z0:aj:=aH (ah P Ob (iU P K)) (iU P K)
def Z1:aj:=bk 16 (Z0 P K)
def Z2:aj:=aH (λf' aJ=>(([5,12,24]:List Nat).map f':List Value)=[l5,aA,bj]/\L1 (([25,27]:List Nat).map f') aJ) (Z1 P K)
def L0:aj:=aH (ah P EA (iU P K)) (iU P K)
def ko:aj:=aH (ah P ac8 (L0 P K)) (L0 P K)
def kq:aj:=aH (ah P ada (iU P K)) (iU P K)
def IC:Prop:=ay (ah P ED (yC P K y1 l5 L1)) ([1,5]++[6,7]) ([y1,l5]++xs) h
def Va:Prop:=ay (ah P zo (yz P K y1 l5 i7 L1 L2)) ([1,5,7]++[6,8]) ([y1,l5,i7]++xs) h
def BF:Prop:=ay (ah P ade (Z7 P K y1 l5 x6 i7 k8 n9 L1 L2 L3)) ([1,5,6,7,8,9]++[10,11]) ([y1,l5,x6,i7,k8,n9]++xs) h
def Iz:Prop:=ay (ah P adf (CX P K y1 l5 i7 L1 L2)) [1,5,6,7,8,9,10] [y1,l5,x6,i7,k8,n9,bw] h
def tZ:Prop:=ay (ah P adg (yz P K y1 l5 i7 L1 L2)) [1,5,6,7,8] [y1,l5,x6,i7,k8] h
def Ve:Prop:=ay (ah P adh (yC P K y1 l5 L1)) [1,5,6,7] [y1,l5,x6,i7] h
def BG:Prop:=ay (ah P EB (iU P K)) [1,5,6] [y1,l5,x6] h
def Vg:Prop:=ay (ah P zp (yA P K y1 l5 x6 aA L1)) ([1,5,6,12]++[13]) ([y1,l5,x6,aA]++xs) h
def Vh:Prop:=ay (ah P zq (yB P K y1 l5 x6 aA i13 bZ b6 L1 L2)) ([1,5,6,12,13,126,127]++[14,128]) ([y1,l5,x6,aA,i13,bZ,b6]++xs) h
def IA:Prop:=ay (ah P OQ (L5 P K y1 l5 x6 aA i13 aF aM bZ b6 cB L1 L2 L3)) ([1,5,6,12,13,14,16,126,127,128]++[17,18]) ([y1,l5,x6,aA,i13,aF,aM,bZ,b6,cB]++xs) h
def IB:Prop:=ay (ah P adi (L5 P K y1 l5 x6 aA i13 aF aM bZ b6 cB L1 L2 L3)) [1,5,6,12,13,14,16,17,18,126,127,128] [y1,l5,x6,aA,i13,aF,aM,bz,mR,bZ,b6,cB] h
def Vi:Prop:=ay (ah P EC (sJ P K y1 l5 x6 aA i13 bZ b6 L1 L2)) [1,5,6,12,13,14,16,17,126,127,128] [y1,l5,x6,aA,i13,aF,aM,bz,bZ,b6,cB] h
def Vj:Prop:=ay (ah P OS (L6 P K y1 l5 x6 aA i13 aF aM bZ b6 cB L1 L2 L3)) ([1,5,6,12,13,14,16,126,127,128]++[17,19]) ([y1,l5,x6,aA,i13,aF,aM,bZ,b6,cB]++xs) h
def ID:Prop:=ay (ah P adk (L6 P K y1 l5 x6 aA i13 aF aM bZ b6 cB L1 L2 L3)) [1,5,6,12,13,14,16,17,19,126,127,128] [y1,l5,x6,aA,i13,aF,aM,bz,nN,bZ,b6,cB] h
def IE:Prop:=ay (ah P adl (sJ P K y1 l5 x6 aA i13 bZ b6 L1 L2)) [1,5,6,12,13,14,17,126,127,128] [y1,l5,x6,aA,i13,aF,bz,bZ,b6,cB] h
def Vk:Prop:=ay (ah P adm (yB P K y1 l5 x6 aA i13 bZ b6 L1 L2)) [1,5,6,12,13,14,126,127,128] [y1,l5,x6,aA,i13,aF,bZ,b6,cB] h
def Vl:Prop:=ay (ah P adn (CY P K y1 l5 x6 aA L1)) [1,5,6,12,13,14] [y1,l5,x6,aA,i13,aF] h
def Vm:Prop:=ay (ah P ado (yA P K y1 l5 x6 aA L1)) [1,5,6,12,13] [y1,l5,x6,aA,i13] h
def Vn:Prop:=ay (ah P zr (iU P K)) [1,5,6,12] [y1,l5,x6,aA] h
def IF:Prop:=ay (ah P OT (L8 P K)) [1,5,12,23,214] [y1,l5,aA,f23,qc] h
def IG:Prop:=ay (ah P adq (L8 P K)) [1,5,12,214,216] [y1,l5,aA,qc,xJ] h
def IH:Prop:=ay (ah P zt (yD P K y1 l5 aA aV L1)) ([1,5,12,25]++[24,26]) ([y1,l5,aA,aV]++xs) h
def U4:Prop:=ay (ah P Oa (LZ P K y1 l5 aA aV L1)) [1,5,12,24,25,26,222] [y1,l5,aA,bj,aV,i26,qe] h
def Ia:Prop:=ay (ah P ac5 (LZ P K y1 l5 aA aV L1)) [1,5,12,24,25,26,222,225] [y1,l5,aA,bj,aV,i26,qe,xK] h
def BC:Prop:=ay (ah P ac6 (yD P K y1 l5 aA aV L1)) [1,5,12,24,25,26] [y1,l5,aA,bj,aV,i26] h
def BD:Prop:=ay (ah P Ez (iU P K)) [5,12,24,25] [l5,aA,bj,aV] h
def U5:Prop:=ay (ah P ac7 (Z2 P K l5 aA bj L1)) ([5,12,24]++[25,27]) ([l5,aA,bj]++xs) h
def BE:Prop:=ay (ah P zm (iU P K)) [5,12,24,25] [l5,aA,bj,aV] h
def U6:Prop:=ay (ah P Oc (ko P K)) [5,12,28,30,31,33,34,35,304] [l5,aA,aS,dd,FT,i33,a9,js,qf] h
def Ib:Prop:=ay (ah P Od (ko P K)) [5,12,28,30,33,34,35,304,306] [l5,aA,aS,dd,i33,a9,js,qf,xL] h
def U7:Prop:=ay (ah P Oe (ko P K)) [5,12,28,30,33,34,35,308] [l5,aA,aS,dd,i33,a9,js,qg] h
def Ic:Prop:=ay (ah P Of (ko P K)) [5,12,28,30,34,35,308,310] [l5,aA,aS,dd,a9,js,qg,xM] h
def U8:Prop:=ay (ah P Og (ko P K)) [5,12,28,30,34,35,312] [l5,aA,aS,dd,a9,js,qh] h
def Ie:Prop:=ay (ah P Oh (ko P K)) [5,12,28,30,34,312,314] [l5,aA,aS,dd,a9,qh,xN] h
def U9:Prop:=ay (ah P Oi (ko P K)) [5,12,28,30,34,316] [l5,aA,aS,dd,a9,qi] h
def Ig:Prop:=ay (ah P Oj (ko P K)) [5,12,28,30,316,319] [l5,aA,aS,dd,qi,xO] h
def Vb:Prop:=ay (ah P Ol (ko P K)) [5,12,28,30,321] [l5,aA,aS,dd,qj] h
def Ih:Prop:=ay (ah P Om (ko P K)) [5,12,28,30,321,325] [l5,aA,aS,dd,qj,xP] h
def Vc:Prop:=ay (ah P On (ko P K)) [5,12,28,30,327] [l5,aA,aS,dd,jx] h
def Ii:Prop:=ay (ah P Oo (ko P K)) [5,12,30,327,330] [l5,aA,dd,jx,qk] h
def Ij:Prop:=ay (ah P Oq (ko P K)) [5,12,327,330,332] [l5,aA,jx,qk,xQ] h
def Ik:Prop:=ay (ah P ac9 (ko P K)) [5,12,327,333] [l5,aA,jx,xR] h
def Il:Prop:=ay (ah P Ot (kq P K)) [38,39,40,350] [iA,cV,ct,ez] h
def Im:Prop:=ay (ah P Ou (kq P K)) [38,39,40,350,352] [iA,cV,ct,ez,fQ] h
def Io:Prop:=ay (ah P Ov (kq P K)) [38,39,40,350,352,355] [iA,cV,ct,ez,fQ,ql] h
def Ip:Prop:=ay (ah P Ow (kq P K)) [38,39,40,350,352,355,358] [iA,cV,ct,ez,fQ,ql,xU] h
def Iq:Prop:=ay (ah P Ox (kq P K)) [38,39,40,350,352,360] [iA,cV,ct,ez,fQ,qm] h
def Ir:Prop:=ay (ah P Oy (kq P K)) [39,40,350,352,360,363] [cV,ct,ez,fQ,qm,xV] h
def Is:Prop:=ay (ah P OA (kq P K)) [39,40,350,352,364] [cV,ct,ez,fQ,xW] h
def It:Prop:=ay (ah P OB (kq P K)) [39,40,350,365] [cV,ct,ez,xX] h
def Vd:Prop:=ay (ah P OC (kq P K)) [39,40,367] [cV,ct,fR] h
def Iu:Prop:=ay (ah P OD (kq P K)) [39,367,370] [cV,fR,qo] h
def Iv:Prop:=ay (ah P OE (kq P K)) [39,367,370,372] [cV,fR,qo,xY] h
def Iw:Prop:=ay (ah P OF (kq P K)) [39,367,374] [cV,fR,qp] h
def Ix:Prop:=ay (ah P OG (kq P K)) [367,374,376] [fR,qp,xZ] h
def Iy:Prop:=ay (ah P adb (kq P K)) [367,377] [fR,ya] h
theorem amJ (y1 l5 x6 i7 k8 n9:Value) (L1 L2 L3:LQ) (bw tR:Value) (h:ae):BF P K y1 l5 x6 i7 k8 n9 L1 L2 L3 [bw,tR] h=
 (OP (aZ x6) λuE=>
 OP (ai .lss tR uE) λx85=>
 aK x85
 (b7 bw false
 (OP (aI 1 x6 tR) λyf=>
 OP (af false 1 h yf) λKY=>
 (True)/\
 OP (aI 1 l5 k8) λKZ=>
 OP (af false 1 h KZ) λK0=>
 (True)/\
 OP (ai .add n9 (.int .i64 (1))) λK1=>
 OP (gh K0 none (some K1)) λKd=>
 OP (ai .eql KY Kd) λKe=>
 OP (cA bw (.bool true) Ke) λxp=>
 OP (ai .add tR (.int .i64 (1))) λpj=>
 ([y1,l5,x6,i7,k8,n9]:List Value)=[y1,l5,x6,i7,k8,n9]/\L3 [xp,pj] h)
 (OP (cA bw (.bool true) undef) λxp=>
 OP (ai .add tR (.int .i64 (1))) λpj=>
 ([y1,l5,x6,i7,k8,n9]:List Value)=[y1,l5,x6,i7,k8,n9]/\L3 [xp,pj] h))
 (Iz P K y1 l5 x6 i7 k8 n9 bw L1 L2 h)):=az (by kernel_rfl)
theorem amK:Iz P K y1 l5 x6 i7 k8 n9 bw L1 L2 h=
 (OP (fG .not bw) λxq=>
 aK xq
 (OP (aI 1 l5 k8) λapP=>
 OP (af false 1 h apP) λxr=>
 OP (ai .add n9 (.int .i64 (1))) λKi=>
 OP (gh xr none (some Ki)) λKj=>
 OH (bq 9 1 [(.string ⟨#[]⟩)] h [(0,1,Kj)]) λxt z1=>
 OH (cE 9 1 16 z1 x6 xt) λCx z2=>
 tZ P K y1 l5 Cx i7 k8 L1 L2 z2)
 (tZ P K y1 l5 x6 i7 k8 L1 L2 h)):=az (by kernel_rfl)
theorem amL:tZ P K y1 l5 x6 i7 k8 L1 L2 h=
 (OP (ai .add k8 (.int .i64 (1))) λjR=>
 ([y1,l5,i7]:List Value)=[y1,l5,i7]/\L2 [x6,jR] h):=az (by kernel_rfl)
theorem amI (y1 l5 i7:Value) (L1 L2:LQ) (x6 k8:Value) (h:ae):Va P K y1 l5 i7 L1 L2 [x6,k8] h=
 (OP (aZ l5) λfB=>
 OP (ai .lss k8 fB) λgv=>
 aK gv
 (OP (aI 1 x6 i7) λkl=>
 OP (af false 1 h kl) λgw=>
 OP (dN gw) λb9=>
 OP (aI 1 l5 k8) λsw=>
 OP (af false 1 h sw) λph=>
 (True)/\
 OP (dN ph) λkm=>
 OP (ai .add b9 (.int .i64 (1))) λsA=>
 OP (ai .gtr km sA) λnf=>
 b7 nf true
 (OP (aI 1 l5 k8) λx72=>
 OP (af false 1 h x72) λKU=>
 (True)/\
 OP (gh KU none (some b9)) λuD=>
 OP (aI 1 x6 i7) λKV=>
 OP (af false 1 h KV) λyb=>
 (True)/\
 OP (ai .eql uD yb) λyc=>
 OP (cA nf yc (.bool false)) λKW=>
 aK KW
 (bM [(.bool false),(.int .i64 (0))] h λL3 xs hx=>
 BF P K y1 l5 x6 i7 k8 b9 L1 L2 L3 xs hx)
 (tZ P K y1 l5 x6 i7 k8 L1 L2 h))
 (OP (cA nf undef (.bool false)) λKW=>
 aK KW
 (bM [(.bool false),(.int .i64 (0))] h λL3 xs hx=>
 BF P K y1 l5 x6 i7 k8 b9 L1 L2 L3 xs hx)
 (tZ P K y1 l5 x6 i7 k8 L1 L2 h)))
 (Ve P K y1 l5 x6 i7 L1 h)):=az (by kernel_rfl)
theorem amM:Ve P K y1 l5 x6 i7 L1 h=
 (OP (ai .add i7 (.int .i64 (1))) λiR=>
 ([y1,l5]:List Value)=[y1,l5]/\L1 [x6,iR] h):=az (by kernel_rfl)
theorem amS (y1 l5:Value) (L1:LQ) (x6 i7:Value) (h:ae):IC P K y1 l5 L1 [x6,i7] h=
 (OP (aZ x6) λgr=>
 OP (ai .lss i7 gr) λcn=>
 aK cn
 (bM [x6,(.int .i64 (0))] h λL2 xs hx=>
 Va P K y1 l5 i7 L1 L2 xs hx)
 (BG P K y1 l5 x6 h)):=az (by kernel_rfl)
theorem WU:IB P K y1 l5 x6 aA i13 aF aM bz mR bZ b6 cB L1 L2 L3 h=
 (OP (ai .add mR (.int .i64 (1))) λxy=>
 ([y1,l5,x6,aA,i13,aF,aM,bZ,b6,cB]:List Value)=[y1,l5,x6,aA,i13,aF,aM,bZ,b6,cB]/\L3 [bz,xy] h):=az (by kernel_rfl)
theorem amQ (y1 l5 x6 aA i13 aF aM bZ b6 cB:Value) (L1 L2 L3:LQ) (bz mR:Value) (h:ae):IA P K y1 l5 x6 aA i13 aF aM bZ b6 cB L1 L2 L3 [bz,mR] h=
 (OP (aZ l5) λapW=>
 OP (ai .lss mR apW) λKq=>
 aK Kq
 (OP (aI 1 l5 mR) λxz=>
 OP (af false 1 h xz) λapX=>
 (True)/\
 OP (aI 1 x6 i13) λuB=>
 OP (af false 1 h uB) λuC=>
 (True)/\
 OP (ai .add uC aM) λxA=>
 OP (ai .eql apX xA) λxB=>
 aK xB
 (IB P K y1 l5 x6 aA i13 aF aM (.int .i64 (0)) mR bZ b6 cB L1 L2 L3 h)
 (IB P K y1 l5 x6 aA i13 aF aM bz mR bZ b6 cB L1 L2 L3 h))
 (Vi P K y1 l5 x6 aA i13 aF aM bz bZ b6 cB L1 L2 h)):=az (by kernel_rfl)
theorem WV:ID P K y1 l5 x6 aA i13 aF aM bz nN bZ b6 cB L1 L2 L3 h=
 (OP (ai .add nN (.int .i64 (1))) λxE=>
 ([y1,l5,x6,aA,i13,aF,aM,bZ,b6,cB]:List Value)=[y1,l5,x6,aA,i13,aF,aM,bZ,b6,cB]/\L3 [bz,xE] h):=az (by kernel_rfl)
theorem amT (y1 l5 x6 aA i13 aF aM bZ b6 cB:Value) (L1 L2 L3:LQ) (bz nN:Value) (h:ae):Vj P K y1 l5 x6 aA i13 aF aM bZ b6 cB L1 L2 L3 [bz,nN] h=
 (OP (aZ x6) λxC=>
 OP (ai .lss nN xC) λxD=>
 aK xD
 (OP (aI 1 x6 nN) λKy=>
 OP (af false 1 h Ky) λKz=>
 (True)/\
 OP (aI 1 x6 i13) λap1=>
 OP (af false 1 h ap1) λap2=>
 (True)/\
 OP (ai .add ap2 aM) λap3=>
 OP (ai .eql Kz ap3) λap4=>
 aK ap4
 (ID P K y1 l5 x6 aA i13 aF aM nN nN bZ b6 cB L1 L2 L3 h)
 (ID P K y1 l5 x6 aA i13 aF aM bz nN bZ b6 cB L1 L2 L3 h))
 (IE P K y1 l5 x6 aA i13 aF bz bZ b6 cB L1 L2 h)):=az (by kernel_rfl)
theorem amU:IE P K y1 l5 x6 aA i13 aF bz bZ b6 cB L1 L2 h=
 (OH (bq 3 1 [(.int .i64 (0))] h [(0,1,bz)]) λap5 z1=>
 OH (cE 3 1 8 z1 aF ap5) λap6 z2=>
 Vk P K y1 l5 x6 aA i13 ap6 bZ b6 cB L1 L2 z2):=az (by kernel_rfl)
theorem amR:Vi P K y1 l5 x6 aA i13 aF aM bz bZ b6 cB L1 L2 h=
 (bM [bz,(.int .i64 (0))] h λL3 xs hx=>
 Vj P K y1 l5 x6 aA i13 aF aM bZ b6 cB L1 L2 L3 xs hx):=az (by kernel_rfl)
theorem amV:Vk P K y1 l5 x6 aA i13 aF bZ b6 cB L1 L2 h=
 (OP (ai .add cB (.int .i64 (1))) λap7=>
 ([y1,l5,x6,aA,i13,bZ,b6]:List Value)=[y1,l5,x6,aA,i13,bZ,b6]/\L2 [aF,ap7] h):=az (by kernel_rfl)
theorem amP (y1 l5 x6 aA i13 bZ b6:Value) (L1 L2:LQ) (aF cB:Value) (h:ae):Vh P K y1 l5 x6 aA i13 bZ b6 L1 L2 [aF,cB] h=
 (OP (ai .lss cB b6) λlW=>
 aK lW
 (OP (aI 1 bZ cB) λsu=>
 OP (af false 1 h su) λKo=>
 OP (aZ x6) λKp=>
 bM [Kp,(.int .i64 (0))] h λL3 xs hx=>
 IA P K y1 l5 x6 aA i13 aF Ko bZ b6 cB L1 L2 L3 xs hx)
 (Vl P K y1 l5 x6 aA i13 aF L1 h)):=az (by kernel_rfl)
theorem amW:Vl P K y1 l5 x6 aA i13 aF L1 h=
 (OH (bq 29 1 [(.slice none 0 0)] h [(0,1,aF)]) λKC z1=>
 OP (cF z1 KC) λu=>
 (True)/\
 OP (ai .eql i13 (.int .i64 (0))) λap9=>
 OH (bq 4 1 [(.bool false)] z1 [(0,1,ap9)]) λKD z2=>
 OP (cF z2 KD) λx1=>
 (cF z2 KC=some u/\True)/\
 OP (bD 0 aA) λKA=>
 OP (af false 1 z2 KA) λKB=>
 (af false 1 h KA=some KB/\af false 1 z1 KA=some KB/\True)/\
 OH (cE 29 1 24 z2 KB KC) λap8 z3=>
 (cF z3 KD=some x1/\True)/\
 OP (bD 1 aA) λCy=>
 OP (af false 1 z3 Cy) λCz=>
 (af false 1 h Cy=some Cz/\af false 1 z1 Cy=some Cz/\af false 1 z2 Cy=some Cz/\True)/\
 OH (cE 4 1 1 z3 Cz KD) λaqa z4=>
 (True)/\
 OP (bD 0 aA) λaqb=>
 OH (bE 1 z4 aqb ap8) λ_ z5=>
 (True)/\
 OP (bD 1 aA) λaqc=>
 OH (bE 1 z5 aqc aqa) λ_ z6=>
 (True)/\
 Vm P K y1 l5 x6 aA i13 L1 z6):=az (by kernel_rfl)
theorem amX:Vm P K y1 l5 x6 aA i13 L1 h=
 (OP (ai .add i13 (.int .i64 (1))) λapU=>
 ([y1,l5,x6,aA]:List Value)=[y1,l5,x6,aA]/\L1 [apU] h):=az (by kernel_rfl)
theorem amO (y1 l5 x6 aA:Value) (L1:LQ) (i13:Value) (h:ae):Vg P K y1 l5 x6 aA L1 [i13] h=
 (OP (aZ x6) λKl=>
 OP (ai .lss i13 Kl) λKm=>
 aK Km
 (OH (bq 3 0 [(.int .i64 (0))] h []) λKn z1=>
 OH (bq 9 2 [(.string ⟨#[]⟩)] z1 [(0,1,(.string ⟨#[48]⟩)),(1,1,(.string ⟨#[49]⟩))]) λbZ z2=>
 OP (aZ bZ) λb6=>
 bM [Kn,(.int .i64 (0))] z2 λL2 xs hx=>
 Vh P K y1 l5 x6 aA i13 bZ b6 L1 L2 xs hx)
 (Vn P K y1 l5 x6 aA h)):=az (by kernel_rfl)
theorem am0:IG P K y1 l5 aA qc xJ h=
 (OP (cA qc (.bool true) xJ) λaqj=>
 aK aqj
 (K (.bool false) h)
 (bM [(.string ⟨#[]⟩),(.int .i64 (0))] h λL1 xs hx=>
 IH P K y1 l5 aA (.string ⟨#[]⟩) L1 xs hx)):=az (by kernel_rfl)
theorem amZ:IF P K y1 l5 aA f23 qc h=
 (b7 qc false
 (OP (ai .neq f23 (.int .i64 (5))) λxJ=>
 IG P K y1 l5 aA qc xJ h)
 (IG P K y1 l5 aA qc undef h)):=az (by kernel_rfl)
theorem WD:Ia P K y1 l5 aA bj aV i26 qe xK L1 h=
 (OP (cA qe xK (.bool false)) λaqn=>
 aK aqn
 (OP (aI 1 y1 i26) λaqp=>
 OP (af false 1 h aqp) λaqq=>
 OP (ai .lss aqq (.int .u8 (200))) λaqr=>
 aK aqr
 (OP (aI 1 y1 i26) λaqs=>
 OP (af false 1 h aqs) λaqt=>
 OP (fg .i64 aqt) λaqu=>
 OP (aZ l5) λaqv=>
 OP (ai .rem aqu aqv) λaqw=>
 OP (aI 1 l5 aqw) λaqx=>
 OP (af false 1 h aqx) λaqy=>
 OP (ai .add bj aqy) λaqz=>
 BC P K y1 l5 aA aqz aV i26 L1 h)
 (OP (aI 1 y1 i26) λaqA=>
 OP (af false 1 h aqA) λaqB=>
 (True)/\
 OP (ai .rem aqB (.int .u8 (2))) λaqC=>
 OP (aI 1 y1 i26) λaqD=>
 OP (af false 1 h aqD) λaqE=>
 (True)/\
 OP (ai .rem aqE (.int .u8 (2))) λaqF=>
 OP (ai .add aqF (.int .u8 (1))) λaqG=>
 OP (gh (.string ⟨#[48,49]⟩) (some aqC) (some aqG)) λaqH=>
 OP (ai .add bj aqH) λaqI=>
 BC P K y1 l5 aA aqI aV i26 L1 h))
 (BD P K l5 aA bj aV h)):=az (by kernel_rfl)
theorem WC:U4 P K y1 l5 aA bj aV i26 qe L1 h=
 (b7 qe true
 (OP (dN bj) λaqm=>
 OP (ai .lss aqm (.int .i64 (60))) λxK=>
 Ia P K y1 l5 aA bj aV i26 qe xK L1 h)
 (Ia P K y1 l5 aA bj aV i26 qe undef L1 h)):=az (by kernel_rfl)
theorem amE:BC P K y1 l5 aA bj aV i26 L1 h=
 (OP (ai .add i26 (.int .i64 (1))) λaqo=>
 ([y1,l5,aA,aV]:List Value)=[y1,l5,aA,aV]/\L1 [bj,aqo] h):=az (by kernel_rfl)
theorem am1 (y1 l5 aA aV:Value) (L1:LQ) (bj i26:Value) (h:ae):IH P K y1 l5 aA aV L1 [bj,i26] h=
 (OP (aZ y1) λaqk=>
 OP (ai .lss i26 aqk) λaql=>
 U4 P K y1 l5 aA bj aV i26 aql L1 h):=az (by kernel_rfl)
theorem amG (l5 aA bj:Value) (L1:LQ) (aV i27:Value) (h:ae):U5 P K l5 aA bj L1 [aV,i27] h=
 (OP (dN bj) λaqJ=>
 OP (ai .lss i27 aqJ) λaqK=>
 aK aqK
 (OP (ja bj i27) λaqM=>
 OP (ai .sub aqM (.int .u8 (48))) λaqN=>
 OP (ja bj i27) λaqO=>
 OP (ai .sub aqO (.int .u8 (48))) λaqP=>
 OP (ai .add aqP (.int .u8 (1))) λaqQ=>
 OP (gh (.string ⟨#[97,98]⟩) (some aqN) (some aqQ)) λaqR=>
 OP (ai .add aV aqR) λaqS=>
 OP (ai .add i27 (.int .i64 (1))) λaqL=>
 ([l5,aA,bj]:List Value)=[l5,aA,bj]/\L1 [aqS,aqL] h)
 (BE P K l5 aA bj aV h)):=az (by kernel_rfl)
theorem WT:Ik P K l5 aA jx xR h=
 (OP (cA jx (.bool true) xR) λarc=>
 aK arc
 (K (.bool false) h)
 (aw P 11 [l5] h λKK z1=>
 aw P 10 [KK] z1 λxS z2=>
 OP (cd 0 xS) λKL=>
 OP (cd 1 xS) λKM=>
 OP (af true 2 z2 aA) λKN=>
 aw P 12 [KN] z2 λxT z3=>
 OP (cd 0 xT) λKO=>
 OP (cd 1 xT) λKQ=>
 OP (ai .eql KL (.string ⟨#[49]⟩)) λKR=>
 OP (ai .eql KM (.int .i64 (0))) λKS=>
 Il P K KO KQ KR KS z3)):=az (by kernel_rfl)
theorem WS:Ij P K l5 aA jx qk xQ h=
 (b7 jx false
 (OP (cA qk xQ (.bool false)) λxR=>
 Ik P K l5 aA jx xR h)
 (Ik P K l5 aA jx undef h)):=az (by kernel_rfl)
theorem WR:Ii P K l5 aA dd jx qk h=
 (b7 qk true
 (OP (ai .neq dd (.string ⟨#[48]⟩)) λxQ=>
 Ij P K l5 aA jx qk xQ h)
 (Ij P K l5 aA jx qk undef h)):=az (by kernel_rfl)
theorem WQ:Vc P K l5 aA aS dd jx h=
 (b7 jx false
 (OP (fG .not aS) λarb=>
 Ii P K l5 aA dd jx arb h)
 (Ii P K l5 aA dd jx undef h)):=az (by kernel_rfl)
theorem WO:Ih P K l5 aA aS dd qj xP h=
 (OP (cA qj (.bool true) xP) λara=>
 Vc P K l5 aA aS dd ara h):=az (by kernel_rfl)
theorem WN:Vb P K l5 aA aS dd qj h=
 (b7 qj false
 (OP (ai .eql dd (.string ⟨#[49]⟩)) λaq9=>
 OP (lk true aS aq9) λxP=>
 Ih P K l5 aA aS dd qj xP h)
 (Ih P K l5 aA aS dd qj undef h)):=az (by kernel_rfl)
theorem WM:Ig P K l5 aA aS dd qi xO h=
 (OP (cA qi (.bool true) xO) λaq8=>
 Vb P K l5 aA aS dd aq8 h):=az (by kernel_rfl)
theorem WL:U9 P K l5 aA aS dd a9 qi h=
 (b7 qi false
 (OP (lk true aS a9) λxO=>
 Ig P K l5 aA aS dd qi xO h)
 (Ig P K l5 aA aS dd qi undef h)):=az (by kernel_rfl)
theorem WK:Ie P K l5 aA aS dd a9 qh xN h=
 (OP (cA qh (.bool true) xN) λaq7=>
 U9 P K l5 aA aS dd a9 aq7 h):=az (by kernel_rfl)
theorem WJ:U8 P K l5 aA aS dd a9 js qh h=
 (b7 qh false
 (OP (ai .neq js (.int .i64 (0))) λxN=>
 Ie P K l5 aA aS dd a9 qh xN h)
 (Ie P K l5 aA aS dd a9 qh undef h)):=az (by kernel_rfl)
theorem WI:Ic P K l5 aA aS dd a9 js qg xM h=
 (OP (cA qg (.bool true) xM) λaq6=>
 U8 P K l5 aA aS dd a9 js aq6 h):=az (by kernel_rfl)
theorem WH:U7 P K l5 aA aS dd i33 a9 js qg h=
 (b7 qg false
 (OP (ai .neq i33 (.int .i64 (0))) λxM=>
 Ic P K l5 aA aS dd a9 js qg xM h)
 (Ic P K l5 aA aS dd a9 js qg undef h)):=az (by kernel_rfl)
theorem WG:Ib P K l5 aA aS dd i33 a9 js qf xL h=
 (OP (cA qf (.bool true) xL) λaq5=>
 U7 P K l5 aA aS dd i33 a9 js aq5 h):=az (by kernel_rfl)
theorem WE:U6 P K l5 aA aS dd FT i33 a9 js qf h=
 (b7 qf false
 (OP (ai .neq FT (.int .i64 (0))) λxL=>
 Ib P K l5 aA aS dd i33 a9 js qf xL h)
 (Ib P K l5 aA aS dd i33 a9 js qf undef h)):=az (by kernel_rfl)
theorem Jy:Iy P K fR ya h=
 (OP (cA fR ya (.bool false)) λarn=>
 K arn h):=az (by kernel_rfl)
theorem Jx:Ix P K fR qp xZ h=
 (b7 fR true
 (OP (cA qp (.bool true) xZ) λya=>
 Iy P K fR ya h)
 (Iy P K fR undef h)):=az (by kernel_rfl)
theorem Jw:Iw P K cV fR qp h=
 (b7 qp false
 (OP (ai .eql cV (.int .i64 (0))) λxZ=>
 Ix P K fR qp xZ h)
 (Ix P K fR qp undef h)):=az (by kernel_rfl)
theorem Jv:Iv P K cV fR qo xY h=
 (b7 fR true
 (OP (cA qo (.bool true) xY) λarl=>
 Iw P K cV fR arl h)
 (Iw P K cV fR undef h)):=az (by kernel_rfl)
theorem Ju:Iu P K cV fR qo h=
 (b7 qo false
 (OP (ai .eql cV (.int .i64 (5))) λxY=>
 Iv P K cV fR qo xY h)
 (Iv P K cV fR qo undef h)):=az (by kernel_rfl)
theorem Jt:Vd P K cV ct fR h=
 (b7 fR true
 (OP (fG .not ct) λark=>
 Iu P K cV fR ark h)
 (Iu P K cV fR undef h)):=az (by kernel_rfl)
theorem Js:It P K cV ct ez xX h=
 (OP (cA ez xX (.bool false)) λarj=>
 Vd P K cV ct arj h):=az (by kernel_rfl)
theorem Jr:Is P K cV ct ez fQ xW h=
 (b7 ez true
 (OP (cA fQ (.bool true) xW) λxX=>
 It P K cV ct ez xX h)
 (It P K cV ct ez undef h)):=az (by kernel_rfl)
theorem Jq:Ir P K cV ct ez fQ qm xV h=
 (b7 fQ false
 (OP (cA qm xV (.bool false)) λxW=>
 Is P K cV ct ez fQ xW h)
 (Is P K cV ct ez fQ undef h)):=az (by kernel_rfl)
theorem Jp:Iq P K iA cV ct ez fQ qm h=
 (b7 qm true
 (OP (dN iA) λari=>
 OP (ai .leq ari (.int .i64 (25))) λxV=>
 Ir P K cV ct ez fQ qm xV h)
 (Ir P K cV ct ez fQ qm undef h)):=az (by kernel_rfl)
theorem Jo:Ip P K iA cV ct ez fQ ql xU h=
 (b7 fQ false
 (OP (cA ql xU (.bool false)) λarh=>
 Iq P K iA cV ct ez fQ arh h)
 (Iq P K iA cV ct ez fQ undef h)):=az (by kernel_rfl)
theorem Jn:Io P K iA cV ct ez fQ ql h=
 (b7 ql true
 (OP (dN iA) λarf=>
 OP (ai .gtr arf (.int .i64 (0))) λxU=>
 Ip P K iA cV ct ez fQ ql xU h)
 (Ip P K iA cV ct ez fQ ql undef h)):=az (by kernel_rfl)
theorem Jm:Im P K iA cV ct ez fQ h=
 (b7 fQ false
 (OP (ai .eql cV (.int .i64 (0))) λard=>
 Io P K iA cV ct ez fQ ard h)
 (Io P K iA cV ct ez fQ undef h)):=az (by kernel_rfl)
theorem Jl:Il P K iA cV ct ez h=
 (b7 ez true
 (Im P K iA cV ct ez ct h)
 (Im P K iA cV ct ez undef h)):=az (by kernel_rfl)
theorem amH:BE P K l5 aA bj aV h=
 (OP (af true 2 h aA) λaqT=>
 aw P 7 [aqT,aV] h λX6 z1=>
 OP (cd 0 X6) λaqU=>
 OP (cd 1 X6) λaqV=>
 aw P 8 [l5,bj] z1 λX7 z2=>
 OP (cd 0 X7) λaqW=>
 OP (cd 1 X7) λaqX=>
 OP (af true 2 z2 aA) λaqY=>
 aw P 9 [aqY] z2 λX8 z3=>
 OP (cd 0 X8) λaqZ=>
 OP (cd 1 X8) λaq0=>
 OH (cH 28 [(.slice none 0 0),(.slice none 0 0)] z3) λdf z4=>
 OH (bE 2 z4 df aqZ) λ_ z5=>
 OP (af true 2 z5 df) λaq1=>
 aw P 7 [aq1,aV] z5 λX9 z6=>
 OP (cd 0 X9) λaq2=>
 OP (cd 1 X9) λaq3=>
 OP (ai .neq aqV (.int .i64 (0))) λaq4=>
 U6 P K l5 aA aqU aqW aqX aq0 aq2 aq3 aq4 z6):=az (by kernel_rfl)
theorem amF:BD P K l5 aA bj aV h=
 (bM [aV,(.int .i64 (0))] h λL1 xs hx=>
 U5 P K l5 aA bj L1 xs hx):=az (by kernel_rfl)
theorem amY:Vn P K y1 l5 x6 aA h=
 (OP (aZ x6) λaqd=>
 OP (aZ x6) λaqe=>
 OH (bq 3 2 [(.int .i64 (0))] h [(0,1,aqd),(1,1,aqe)]) λKE z1=>
 OP (cF z1 KE) λu=>
 (True)/\
 OH (bq 29 1 [(.slice none 0 0)] z1 [(0,1,KE)]) λKF z2=>
 OP (cF z2 KF) λx1=>
 (True)/\
 OH (bq 4 1 [(.bool false)] z2 [(0,1,(.bool false))]) λKG z3=>
 OP (cF z3 KG) λx2=>
 (cF z3 KE=some u/\cF z3 KF=some x1/\True)/\
 OP (bD 0 aA) λCA=>
 OP (af false 1 z3 CA) λCB=>
 (af false 1 h CA=some CB/\af false 1 z1 CA=some CB/\af false 1 z2 CA=some CB/\True)/\
 OH (cE 29 1 24 z3 CB KF) λaqf z4=>
 (cF z4 KG=some x2/\True)/\
 OP (bD 1 aA) λxF=>
 OP (af false 1 z4 xF) λxG=>
 (af false 1 h xF=some xG/\af false 1 z1 xF=some xG/\af false 1 z2 xF=some xG/\af false 1 z3 xF=some xG/\True)/\
 OH (cE 4 1 1 z4 xG KG) λaqg z5=>
 (True)/\
 OP (bD 0 aA) λaqh=>
 OH (bE 1 z5 aqh aqf) λ_ z6=>
 (True)/\
 OP (bD 1 aA) λaqi=>
 OH (bE 1 z6 aqi aqg) λ_ z7=>
 (True)/\
 aw P 5 [l5] z7 λxH z8=>
 OP (cd 0 xH) λar1=>
 OP (cd 1 xH) λKH=>
 aw P 6 [l5] z8 λxI z9=>
 OP (cd 0 xI) λar2=>
 OP (cd 1 xI) λKI=>
 OP (ai .neq KH (.int .i64 (5))) λKJ=>
 IF P K y1 l5 aA KI KJ z9):=az (by kernel_rfl)
theorem amN:BG P K y1 l5 x6 h=
 (OP (aZ x6) λxu=>
 OP (ai .geq xu (.int .i64 (6))) λKk=>
 aK Kk
 (K (.bool true) h)
 (OP (jo [(.slice none 0 0),(.slice none 0 0)] []) λxv=>
 OH (cH 28 [(.slice none 0 0),(.slice none 0 0)] h) λaA z1=>
 OH (bE 2 z1 aA xv) λ_ z2=>
 bM [(.int .i64 (0))] z2 λL1 xs hx=>
 Vg P K y1 l5 x6 aA L1 xs hx)):=az (by kernel_rfl)
def T3:Prop:=
 aw P 4 [x0,(.int .i64 (5))] h λeA z1=>
 OH (bq 9 1 [(.string ⟨#[]⟩)] z1 [(0,1,(.string ⟨#[]⟩))]) λeE z2=>
 bM [eE,(.int .i64 (0))] z2 λL1 xs hx=>
 IC P K y1 eA L1 xs hx
theorem e3:ah P c3 (aX [.tmp 4] K) (bG [x0,y1]) h=T3 P K x0 y1 h:=by kernel_rfl
theorem f3 {K:VK} {x0 y1:Value} {h:ae} (H:T3 prog K x0 y1 h):aw prog 3 [x0,y1] h K:=
 bW k3 (bT rfl) ((e3 prog K x0 y1 h).mpr H)
end
noncomputable section
variable (x0 n1 l5 i6 aN bz kH km : Value) (L1 : LQ) (xs : List Value) (h : ae)
def Tv:=bJ prog 4 [[],[],[],[0,1],[5,6],[0,1,5,6,13],[0,1,5,6,13,17],[],[],[],[],[],[],[0,1,5,6,62],[0,1,5,6,62,65],[],[0,1,5,6],[5],[]]
@[irreducible] def c4:=bU Tv
@[irreducible] def zB:=c4.r.r.l.r.l.l
@[irreducible] def Pc:=c4.r.r.r
@[irreducible] def O9:=zB.l.l.r.l
@[irreducible] def adV:=zB.l.r
@[irreducible] def zC:=zB.r
@[irreducible] def adU:=Pc.l
@[irreducible] def adQ:=O9.r.l
@[irreducible] def Pb:=zC.l.l.r.r.r.l.r.l
@[irreducible] def adR:=zC.l.l.r.r.r.r
@[irreducible] def Pa:=zC.r
@[irreducible] def adS:=Pb.r.l
@[irreducible] def adT:=Pa.l
theorem k4:Tv=some (70,c4,[.tmp 4]):=by kernel_rfl
def C6 (_P:Program) (K:VK):aj:=aX [.tmp 4] K
def aaM:aj:=aH (ah P Pc (C6 P K)) (C6 P K)
def aaN:aj:=bk 0 (aaM P K)
def sK:aj:=aH (λf' aJ=>(([0,1]:List Nat).map f':List Value)=[x0,n1]/\L1 (([5,6]:List Nat).map f') aJ) (aaN P K)
def Mk:aj:=aH (ah P zC (sK P K x0 n1 L1)) (sK P K x0 n1 L1)
def Ml:aj:=aH (ah P adV (Mk P K x0 n1 L1)) (Mk P K x0 n1 L1)
def aaL:aj:=aH (ah P Pa (sK P K x0 n1 L1)) (sK P K x0 n1 L1)
def Mi:aj:=bk 1 (aaL P K x0 n1 L1)
def Mj:aj:=aH (ah P adR (Mi P K x0 n1 L1)) (Mi P K x0 n1 L1)
def VI:Prop:=ay (ah P zB (sK P K x0 n1 L1)) ([0,1]++[5,6]) ([x0,n1]++xs) h
def VG:Prop:=ay (ah P O9 (Ml P K x0 n1 L1)) [0,1,5,6,13] [x0,n1,l5,i6,aN] h
def IT:Prop:=ay (ah P adQ (Ml P K x0 n1 L1)) [0,1,5,6,13,17] [x0,n1,l5,i6,aN,bz] h
def VH:Prop:=ay (ah P Pb (Mj P K x0 n1 L1)) [0,1,5,6,62] [x0,n1,l5,i6,kH] h
def IU:Prop:=ay (ah P adS (Mj P K x0 n1 L1)) [0,1,5,6,62,65] [x0,n1,l5,i6,kH,km] h
def r6:Prop:=ay (ah P adT (sK P K x0 n1 L1)) [0,1,5,6] [x0,n1,l5,i6] h
def IV:Prop:=ay (ah P adU (C6 P K)) [5] [l5] h
theorem W0:IT P K x0 n1 l5 i6 aN bz L1 h=
 (OP (cA aN bz (.bool false)) λbF=>
 aK bF
 (OP (aI 1 x0 i6) λbI=>
 OP (af false 1 h bI) λbj=>
 OP (fg .i64 bj) λaV=>
 OP (aZ l5) λaP=>
 OP (ai .rem aV aP) λaS=>
 OP (aI 1 l5 aS) λdp=>
 OP (af false 1 h dp) λdf=>
 OP (dN df) λca=>
 OP (ai .geq ca (.int .i64 (10))) λa9=>
 aK a9
 (r6 P K x0 n1 l5 i6 L1 h)
 (OH (bq 9 0 [(.string ⟨#[]⟩)] h []) λbB z1=>
 OP (cF z1 bB) λu=>
 (True)/\
 OP (aI 1 l5 aS) λeA=>
 OP (af false 1 z1 eA) λeE=>
 (af false 1 h eA=some eE/\True)/\
 OP (ai .add eE (.string ⟨#[48]⟩)) λfA=>
 OP (aI 1 l5 aS) λcn=>
 OP (af false 1 z1 cn) λdh=>
 (af false 1 h cn=some dh/\True)/\
 OP (ai .add dh (.string ⟨#[49]⟩)) λiR=>
 OH (bq 9 2 [(.string ⟨#[]⟩)] z1 [(0,1,fA),(1,1,iR)]) λgu z2=>
 OP (cF z2 gu) λx1=>
 (cF z2 bB=some u/\True)/\
 OP (gH 9 1 l5 none (some aS)) λeQ=>
 OH (cE 9 1 16 z2 bB eQ) λdL z3=>
 (af false 1 z3 eA=some eE/\af false 1 z3 cn=some dh/\cF z3 gu=some x1/\True)/\
 OH (cE 9 1 16 z3 dL gu) λlD z4=>
 (True)/\
 OP (ai .add aS (.int .i64 (1))) λfJ=>
 OP (gH 9 1 l5 (some fJ) none) λjR=>
 OH (cE 9 1 16 z4 lD jR) λcf z5=>
 (True)/\
 OP (aI 1 x0 i6) λgw=>
 OP (af false 1 z5 gw) λb9=>
 OP (ai .geq b9 (.int .u8 (200))) λdS=>
 VH P K x0 n1 cf i6 dS L1 z5))
 (IV P K l5 h)):=az (by kernel_rfl)
theorem WZ:VG P K x0 n1 l5 i6 aN L1 h=
 (b7 aN true
 (OP (aZ l5) λaQ=>
 OP (ai .lss aQ n1) λbz=>
 IT P K x0 n1 l5 i6 aN bz L1 h)
 (IT P K x0 n1 l5 i6 aN undef L1 h)):=az (by kernel_rfl)
theorem W1:IU P K x0 n1 l5 i6 kH km L1 h=
 (OP (cA kH km (.bool false)) λsy=>
 aK sy
 (OP (gH 9 1 l5 (some (.int .i64 (1))) none) λnf=>
 r6 P K x0 n1 nf i6 L1 h)
 (r6 P K x0 n1 l5 i6 L1 h)):=az (by kernel_rfl)
theorem anp:VH P K x0 n1 l5 i6 kH L1 h=
 (b7 kH true
 (OP (aZ l5) λph=>
 OP (ai .gtr ph (.int .i64 (2))) λkm=>
 IU P K x0 n1 l5 i6 kH km L1 h)
 (IU P K x0 n1 l5 i6 kH undef L1 h)):=az (by kernel_rfl)
theorem anq:r6 P K x0 n1 l5 i6 L1 h=
 (OP (ai .add i6 (.int .i64 (1))) λbp=>
 ([x0,n1]:List Value)=[x0,n1]/\L1 [l5,bp] h):=az (by kernel_rfl)
theorem ans (x0 n1:Value) (L1:LQ) (l5 i6:Value) (h:ae):VI P K x0 n1 L1 [l5,i6] h=
 (OP (aZ x0) λaR=>
 OP (ai .lss i6 aR) λaW=>
 VG P K x0 n1 l5 i6 aW L1 h):=az (by kernel_rfl)
theorem anr:IV P K l5 h=
 (K l5 h):=az (by kernel_rfl)
def T4:Prop:=
 OH (bq 9 2 [(.string ⟨#[]⟩)] h [(0,1,(.string ⟨#[48]⟩)),(1,1,(.string ⟨#[49]⟩))]) λx8 z1=>
 bM [x8,(.int .i64 (0))] z1 λL1 xs hx=>
 VI P K x0 n1 L1 xs hx
theorem e4:ah P c4 (aX [.tmp 4] K) (bG [x0,n1]) h=T4 P K x0 n1 h:=by kernel_rfl
theorem f4 {K:VK} {x0 n1:Value} {h:ae} (H:T4 prog K x0 n1 h):aw prog 4 [x0,n1] h K:=
 bW k4 (bT rfl) ((e4 prog K x0 n1 h).mpr H)
end
noncomputable section
variable (b0 x1 : Value) (h : ae)
def Ua:=bJ prog 7 [[],[],[],[],[],[]]
@[irreducible] def c7:=bU Ua
theorem k7:Ua=some (20,c7,[.tmp 4,.tmp 5]):=by kernel_rfl
def T7:Prop:=
 OH (cQ 28 h b0) λb2 z1=>
 OP (af true 2 z1 b2) λx7=>
 aw P 19 [x7,x1] z1 λx9 z2=>
 OP (ai .neq x9 (.int .i64 (0))) λaR=>
 aK aR
 (K (.tuple #[(.bool false),x9]) z2)
 (OP (bD 1 b2) λaN=>
 OP (af false 1 z2 aN) λaF=>
 (True)/\
 OP (af true 2 z2 b2) λaQ=>
 (True)/\
 aw P 20 [aQ,(.int .i64 (0)),x1] z2 λbz z3=>
 (af false 1 z3 aN=some aF/\True)/\
 OP (aI 1 aF bz) λbF=>
 OP (af false 1 z3 bF) λbo=>
 (True)/\
 K (.tuple #[bo,(.int .i64 (0))]) z3)
theorem e7:ah P c7 (aX [.tmp 4,.tmp 5] K) (bG [b0,x1]) h=T7 P K b0 x1 h:=by kernel_rfl
theorem f7 {K:VK} {b0 x1:Value} {h:ae} (H:T7 prog K b0 x1 h):aw prog 7 [b0,x1] h K:=
 bW k7 (bT rfl) ((e7 prog K b0 x1 h).mpr H)
end
noncomputable section
variable (b0 : Value) (h : ae)
def Ug:=bJ prog 9 [[],[],[],[],[]]
@[irreducible] def c9:=bU Ug
theorem k9:Ug=some (10,c9,[.cell true 2 2,.tmp 3]):=by kernel_rfl
def T9:Prop:=
 OH (cQ 28 h b0) λb1 z1=>
 OH (cH 28 [(.slice none 0 0),(.slice none 0 0)] z1) λx2 z2=>
 OP (af true 2 z2 b1) λx4=>
 aw P 26 [x4] z2 λx5 z3=>
 OP (fG .not x5) λx6=>
 aK x6
 (OP (jo [(.slice none 0 0),(.slice none 0 0)] []) λx7=>
 OH (bE 2 z3 x2 x7) λ_ z4=>
 OP (af true 2 z4 x2) λr0=>
 K (.tuple #[r0,(.int .i64 (1))]) z4)
 (OP (af true 2 z3 b1) λx8=>
 aw P 27 [x8] z3 λx9 z4=>
 OH (bE 2 z4 x2 x9) λ_ z5=>
 OP (af true 2 z5 x2) λr0=>
 K (.tuple #[r0,(.int .i64 (0))]) z5)
theorem e9:ah P c9 (aX [.cell true 2 2,.tmp 3] K) (bG [b0]) h=T9 P K b0 h:=by kernel_rfl
theorem f9 {K:VK} {b0:Value} {h:ae} (H:T9 prog K b0 h):aw prog 9 [b0] h K:=
 bW k9 (bT rfl) ((e9 prog K b0 h).mpr H)
end
noncomputable section
variable (l0 x3 i4 : Value) (L1 : LQ) (xs : List Value) (h : ae)
def SZ:=bJ prog 11 [[],[],[],[0],[3,4],[],[],[],[3],[]]
@[irreducible] def y3:=bU SZ
@[irreducible] def acb:=y3.r.r.l.r.l.l
@[irreducible] def Ni:=y3.r.r.r
@[irreducible] def aca:=Ni.l
theorem k11:SZ=some (21,y3,[.tmp 2]):=by kernel_rfl
def CO (_P:Program) (K:VK):aj:=aX [.tmp 2] K
def Y5:aj:=aH (ah P Ni (CO P K)) (CO P K)
def Y6:aj:=bk 0 (Y5 P K)
def Y7:aj:=aH (λf' aJ=>(([0]:List Nat).map f':List Value)=[l0]/\L1 (([3,4]:List Nat).map f') aJ) (Y6 P K)
def Us:Prop:=ay (ah P acb (Y7 P K l0 L1)) ([0]++[3,4]) ([l0]++xs) h
def Ur:Prop:=ay (ah P aca (CO P K)) [3] [x3] h
theorem alP (l0:Value) (L1:LQ) (x3 i4:Value) (h:ae):Us P K l0 L1 [x3,i4] h=
 (OP (aZ l0) λx8=>
 OP (ai .lss i4 x8) λx9=>
 aK x9
 (OP (aI 1 l0 i4) λaQ=>
 OP (af false 1 h aQ) λaM=>
 OP (dN aM) λbz=>
 OH (bq 3 1 [(.int .i64 (0))] h [(0,1,bz)]) λbF z1=>
 OH (cE 3 1 8 z1 x3 bF) λbo z2=>
 OP (ai .add i4 (.int .i64 (1))) λaR=>
 ([l0]:List Value)=[l0]/\L1 [bo,aR] z2)
 (Ur P K x3 h)):=az (by kernel_rfl)
theorem alO:Ur P K x3 h=
 (K x3 h):=az (by kernel_rfl)
def Dp:Prop:=
 OH (bq 3 0 [(.int .i64 (0))] h []) λx5 z1=>
 bM [x5,(.int .i64 (0))] z1 λL1 xs hx=>
 Us P K l0 L1 xs hx
theorem e11:ah P y3 (aX [.tmp 2] K) (bG [l0]) h=Dp P K l0 h:=by kernel_rfl
theorem f11 {K:VK} {l0:Value} {h:ae} (H:Dp prog K l0 h):aw prog 11 [l0] h K:=
 bW k11 (bT rfl) ((e11 prog K l0 h).mpr H)
end
noncomputable section
variable (b0 b1 x5 x6 x7 a8 y9 cn dh fB gv fJ : Value) (L1 L2 L3 : LQ) (xs : List Value) (h : ae)
def S0:=bJ prog 12 [[],[],[],[],[],[],[],[1,5],[6],[],[],[],[],[],[],[],[1,5,7,47],[6,48],[],[],[],[],[],[1,5,6,7,8,47,48,52,53],[9,54],[],[],[],[],[1,5,6,7,8,9,47,48,52,53,54],[1,5,6,7,8,9,47,48],[],[],[],[1,5,6,7,47,48],[1,5,6],[],[]]
@[irreducible] def qI:=bU S0
@[irreducible] def En:=qI.r.r.r.r.l.r.l.l
@[irreducible] def ach:=qI.r.r.r.r.r
@[irreducible] def y5:=En.r.l.l.r.r.r.l.l
@[irreducible] def Nj:=En.r.r
@[irreducible] def Nm:=y5.r.r.l.l.r.r.l.r.l.l
@[irreducible] def Nl:=y5.r.r.l.l.r.r.r
@[irreducible] def Nk:=y5.r.r.r
@[irreducible] def acg:=Nj.l
@[irreducible] def acd:=Nm.r.r.r.l
@[irreducible] def ace:=Nl.l
@[irreducible] def acf:=Nk.l
theorem k12:S0=some (93,qI,[.tmp 2,.tmp 3]):=by kernel_rfl
def Lz (_P:Program) (K:VK):aj:=aX [.tmp 2,.tmp 3] K
def Ze:aj:=aH (ah P ach (Lz P K)) (Lz P K)
def Zf:aj:=bk 0 (Ze P K)
def ym:aj:=aH (λf' aJ=>(([1,5]:List Nat).map f':List Value)=[b1,x5]/\L1 (([6]:List Nat).map f') aJ) (Zf P K)
def Y8:aj:=aH (ah P Nj (ym P K b1 x5 L1)) (ym P K b1 x5 L1)
def Y9:aj:=bk 1 (Y8 P K b1 x5 L1)
def Za:aj:=bk 2 (Y9 P K b1 x5 L1)
def yn:aj:=aH (λf' aJ=>(([1,5,7,47]:List Nat).map f':List Value)=[b1,x5,x7,cn]/\L2 (([6,48]:List Nat).map f') aJ) (Za P K b1 x5 L1)
def Zb:aj:=aH (ah P Nk (yn P K b1 x5 x7 cn L1 L2)) (yn P K b1 x5 x7 cn L1 L2)
def CP:aj:=bk 3 (Zb P K b1 x5 x7 cn L1 L2)
def Zc:aj:=aH (ah P Nl (CP P K b1 x5 x7 cn L1 L2)) (CP P K b1 x5 x7 cn L1 L2)
def Zd:aj:=bk 4 (Zc P K b1 x5 x7 cn L1 L2)
def LA:aj:=aH (λf' aJ=>(([1,5,6,7,8,47,48,52,53]:List Nat).map f':List Value)=[b1,x5,x6,x7,a8,cn,dh,fB,gv]/\L3 (([9,54]:List Nat).map f') aJ) (Zd P K b1 x5 x7 cn L1 L2)
def Ut:Prop:=ay (ah P En (ym P K b1 x5 L1)) ([1,5]++[6]) ([b1,x5]++xs) h
def Uu:Prop:=ay (ah P y5 (yn P K b1 x5 x7 cn L1 L2)) ([1,5,7,47]++[6,48]) ([b1,x5,x7,cn]++xs) h
def HJ:Prop:=ay (ah P Nm (LA P K b1 x5 x6 x7 a8 cn dh fB gv L1 L2 L3)) ([1,5,6,7,8,47,48,52,53]++[9,54]) ([b1,x5,x6,x7,a8,cn,dh,fB,gv]++xs) h
def Bw:Prop:=ay (ah P acd (LA P K b1 x5 x6 x7 a8 cn dh fB gv L1 L2 L3)) [1,5,6,7,8,9,47,48,52,53,54] [b1,x5,x6,x7,a8,y9,cn,dh,fB,gv,fJ] h
def HK:Prop:=ay (ah P ace (CP P K b1 x5 x7 cn L1 L2)) [1,5,6,7,8,9,47,48] [b1,x5,x6,x7,a8,y9,cn,dh] h
def Bx:Prop:=ay (ah P acf (yn P K b1 x5 x7 cn L1 L2)) [1,5,6,7,47,48] [b1,x5,x6,x7,cn,dh] h
def Uv:Prop:=ay (ah P acg (ym P K b1 x5 L1)) [1,5,6] [b1,x5,x6] h
theorem alT:Bw P K b1 x5 x6 x7 a8 y9 cn dh fB gv fJ L1 L2 L3 h=
 (OP (ai .add fJ (.int .i64 (1))) λKT=>
 ([b1,x5,x6,x7,a8,cn,dh,fB,gv]:List Value)=[b1,x5,x6,x7,a8,cn,dh,fB,gv]/\L3 [y9,KT] h):=az (by kernel_rfl)
theorem alS (b1 x5 x6 x7 a8 cn dh fB gv:Value) (L1 L2 L3:LQ) (y9 fJ:Value) (h:ae):HJ P K b1 x5 x6 x7 a8 cn dh fB gv L1 L2 L3 [y9,fJ] h=
 (OP (ai .lss fJ gv) λjR=>
 aK jR
 (OP (aI 1 fB fJ) λcR=>
 OP (af false 1 h cR) λkl=>
 OP (ai .shr x7 fJ) λdS=>
 OP (ai .and dS (.int .i64 (1))) λkH=>
 OP (ai .eql kH (.int .i64 (1))) λsw=>
 aK sw
 (OP (aI 1 kl a8) λsA=>
 OP (af false 1 h sA) λnf=>
 OP (ai .shl (.int .i64 (1)) nf) λiS=>
 OP (ai .or y9 iS) λkI=>
 Bw P K b1 x5 x6 x7 a8 kI cn dh fB gv fJ L1 L2 L3 h)
 (Bw P K b1 x5 x6 x7 a8 y9 cn dh fB gv fJ L1 L2 L3 h))
 (HK P K b1 x5 x6 x7 a8 y9 cn dh L1 L2 h)):=az (by kernel_rfl)
theorem alU:HK P K b1 x5 x6 x7 a8 y9 cn dh L1 L2 h=
 (OP (jq (.int .i64) true (.string ⟨#[]⟩) h x5 y9) λuD=>
 OP (cd 0 uD) λYa=>
 OP (cd 1 uD) λx77=>
 OP (fG .not x77) λyb=>
 aK yb
 (OP (jq (.int .i64) false (.string ⟨#[]⟩) h x5 x7) λuE=>
 (True)/\
 aw P 32 [a8] h λyd z1=>
 (jq (.int .i64) false (.string ⟨#[]⟩) z1 x5 x7=some uE/\True)/\
 OP (ai .add uE yd) λpj=>
 OH (rX (.int .i64) z1 x5 y9 pj) λ_ z2=>
 (True)/\
 OH (bq 3 1 [(.int .i64 (0))] z2 [(0,1,y9)]) λye z3=>
 OH (cE 3 1 8 z3 x6 ye) λKX z4=>
 Bx P K b1 x5 KX x7 cn dh L1 L2 z4)
 (Bx P K b1 x5 x6 x7 cn dh L1 L2 h)):=az (by kernel_rfl)
theorem alV:Bx P K b1 x5 x6 x7 cn dh L1 L2 h=
 (OP (ai .add dh (.int .i64 (1))) λyf=>
 ([b1,x5,x7,cn]:List Value)=[b1,x5,x7,cn]/\L2 [x6,yf] h):=az (by kernel_rfl)
theorem alR (b1 x5 x7 cn:Value) (L1 L2:LQ) (x6 dh:Value) (h:ae):Uu P K b1 x5 x7 cn L1 L2 [x6,dh] h=
 (OP (ai .lss dh cn) λiR=>
 aK iR
 (OP (bD 0 b1) λlD=>
 OP (af false 1 h lD) λfB=>
 OP (aZ fB) λgv=>
 bM [(.int .i64 (0)),(.int .i64 (0))] h λL3 xs hx=>
 HJ P K b1 x5 x6 x7 dh cn dh fB gv L1 L2 L3 xs hx)
 (Uv P K b1 x5 x6 L1 h)):=az (by kernel_rfl)
theorem alW:Uv P K b1 x5 x6 L1 h=
 (OP (gH 3 1 x6 (some (.int .i64 (1))) none) λdp=>
 ([b1,x5]:List Value)=[b1,x5]/\L1 [dp] h):=az (by kernel_rfl)
theorem alQ (b1 x5:Value) (L1:LQ) (x6:Value) (h:ae):Ut P K b1 x5 L1 [x6] h=
 (OP (aZ x6) λaS=>
 OP (ai .gtr aS (.int .i64 (0))) λeZ=>
 aK eZ
 (OP (aI 1 x6 (.int .i64 (0))) λca=>
 OP (af false 1 h ca) λa9=>
 OP (ai .sub a9 (.int .i64 (1))) λcJ=>
 OP (ai .and a9 cJ) λeQ=>
 OP (ai .eql eQ (.int .i64 (0))) λdL=>
 aK dL
 (OP (jq (.int .i64) false (.string ⟨#[]⟩) h x5 a9) λeA=>
 K (.tuple #[eA,(.int .i64 (0))]) h)
 (OP (bD 0 b1) λeE=>
 OP (af false 1 h eE) λfA=>
 OP (aI 1 fA (.int .i64 (0))) λhZ=>
 OP (af false 1 h hZ) λgr=>
 OP (aZ gr) λcn=>
 bM [x6,(.int .i64 (0))] h λL2 xs hx=>
 Uu P K b1 x5 a9 cn L1 L2 xs hx))
 (K (.tuple #[(.string ⟨#[]⟩),(.int .i64 (5))]) h)):=az (by kernel_rfl)
def Dq:Prop:=
 OH (cQ 28 h b0) λb1 z1=>
 OP (af true 2 z1 b1) λaF=>
 aw P 26 [aF] z1 λaQ z2=>
 OP (fG .not aQ) λaM=>
 aK aM
 (K (.tuple #[(.string ⟨#[]⟩),(.int .i64 (1))]) z2)
 (OP (bD 0 b1) λbz=>
 OP (af false 1 z2 bz) λbF=>
 OP (aZ bF) λbo=>
 OP (ai .shl (.int .i64 (1)) bo) λbp=>
 OP (ai .sub bp (.int .i64 (1))) λbu=>
 OH (A2 (.int .i64) z2) λbC z3=>
 OH (rX (.int .i64) z3 bC bu (.string ⟨#[]⟩)) λ_ z4=>
 OH (bq 3 1 [(.int .i64 (0))] z4 [(0,1,bu)]) λaO z5=>
 bM [aO] z5 λL1 xs hx=>
 Ut P K b1 bC L1 xs hx)
theorem e12:ah P qI (aX [.tmp 2,.tmp 3] K) (bG [b0]) h=Dq P K b0 h:=by kernel_rfl
theorem f12 {K:VK} {b0:Value} {h:ae} (H:Dq prog K b0 h):aw prog 12 [b0] h K:=
 bW k12 (bT rfl) ((e12 prog K b0 h).mpr H)
end
noncomputable section
variable (b0 x1 b2 aQ aM : Value) (L1 : LQ) (xs : List Value) (h : ae)
def S9:=bJ prog 19 [[],[],[],[],[],[],[],[1,2,15],[16],[],[],[],[],[],[],[],[]]
@[irreducible] def zb:=bU S9
@[irreducible] def acw:=zb.r.r.l.r.l.l
@[irreducible] def acx:=zb.r.r.r
theorem k19:S9=some (37,zb,[.tmp 4]):=by kernel_rfl
def LH (_P:Program) (K:VK):aj:=aX [.tmp 4] K
def Zq:aj:=aH (ah P acx (LH P K)) (LH P K)
def Zo:aj:=bk 1 (Zq P K)
def Zp:aj:=aH (λf' aJ=>(([1,2,15]:List Nat).map f':List Value)=[x1,b2,aQ]/\L1 (([16]:List Nat).map f') aJ) (Zo P K)
def UE:Prop:=ay (ah P acw (Zp P K x1 b2 aQ L1)) ([1,2,15]++[16]) ([x1,b2,aQ]++xs) h
theorem al3 (x1 b2 aQ:Value) (L1:LQ) (aM:Value) (h:ae):UE P K x1 b2 aQ L1 [aM] h=
 (OP (ai .lss aM aQ) λbz=>
 aK bz
 (OP (ja x1 aM) λbu=>
 OP (ai .lss bu (.int .u8 (97))) λbC=>
 b7 bC false
 (OP (ja x1 aM) λaO=>
 OP (ai .sub aO (.int .u8 (97))) λaP=>
 OP (fg .i64 aP) λaS=>
 OP (bD 0 b2) λeZ=>
 OP (af false 1 h eZ) λdR=>
 (True)/\
 OP (aI 1 dR (.int .i64 (0))) λdp=>
 OP (af false 1 h dp) λdf=>
 (True)/\
 OP (aZ df) λca=>
 OP (ai .geq aS ca) λa9=>
 OP (cA bC (.bool true) a9) λbB=>
 aK bB
 (K (.int .i64 (2)) h)
 (OP (ai .add aM (.int .i64 (1))) λcm=>
 ([x1,b2,aQ]:List Value)=[x1,b2,aQ]/\L1 [cm] h))
 (OP (cA bC (.bool true) undef) λbB=>
 aK bB
 (K (.int .i64 (2)) h)
 (OP (ai .add aM (.int .i64 (1))) λcm=>
 ([x1,b2,aQ]:List Value)=[x1,b2,aQ]/\L1 [cm] h)))
 (K (.int .i64 (0)) h)):=az (by kernel_rfl)
def Dt:Prop:=
 OH (cQ 28 h b0) λb2 z1=>
 OP (af true 2 z1 b2) λx7=>
 aw P 26 [x7] z1 λx8 z2=>
 OP (fG .not x8) λx9=>
 aK x9
 (K (.int .i64 (1)) z2)
 (OP (dN x1) λaW=>
 OP (ai .gtr aW (.int .i64 (200))) λaN=>
 aK aN
 (K (.int .i64 (3)) z2)
 (OP (dN x1) λaQ=>
 bM [(.int .i64 (0))] z2 λL1 xs hx=>
 UE P K x1 b2 aQ L1 xs hx))
theorem e19:ah P zb (aX [.tmp 4] K) (bG [b0,x1]) h=Dt P K b0 x1 h:=by kernel_rfl
theorem f19 {K:VK} {b0 x1:Value} {h:ae} (H:Dt prog K b0 x1 h):aw prog 19 [b0,x1] h K:=
 bW k19 (bT rfl) ((e19 prog K b0 x1 h).mpr H)
end
noncomputable section
variable (b0 s1 x2 b3 x9 bw : Value) (L1 : LQ) (xs : List Value) (h : ae)
def Ta:=bJ prog 20 [[],[],[2,3,9],[1,10],[],[],[],[],[1],[]]
@[irreducible] def zc:=bU Ta
@[irreducible] def acz:=zc.r.l.r.l.l
@[irreducible] def Ny:=zc.r.r
@[irreducible] def acy:=Ny.l
theorem k20:Ta=some (26,zc,[.tmp 6]):=by kernel_rfl
def CS (_P:Program) (K:VK):aj:=aX [.tmp 6] K
def Zr:aj:=aH (ah P Ny (CS P K)) (CS P K)
def Zs:aj:=bk 0 (Zr P K)
def Zt:aj:=aH (λf' aJ=>(([2,3,9]:List Nat).map f':List Value)=[x2,b3,x9]/\L1 (([1,10]:List Nat).map f') aJ) (Zs P K)
def UG:Prop:=ay (ah P acz (Zt P K x2 b3 x9 L1)) ([2,3,9]++[1,10]) ([x2,b3,x9]++xs) h
def UF:Prop:=ay (ah P acy (CS P K)) [1] [s1] h
theorem al5 (x2 b3 x9:Value) (L1:LQ) (s1 bw:Value) (h:ae):UG P K x2 b3 x9 L1 [s1,bw] h=
 (OP (ai .lss bw x9) λaR=>
 aK aR
 (OP (bD 0 b3) λaN=>
 OP (af false 1 h aN) λaF=>
 (True)/\
 OP (aI 1 aF s1) λaM=>
 OP (af false 1 h aM) λbz=>
 (True)/\
 OP (ja x2 bw) λbp=>
 OP (ai .sub bp (.int .u8 (97))) λbu=>
 OP (aI 1 bz bu) λbC=>
 OP (af false 1 h bC) λbI=>
 (True)/\
 OP (ai .add bw (.int .i64 (1))) λbj=>
 ([x2,b3,x9]:List Value)=[x2,b3,x9]/\L1 [bI,bj] h)
 (UF P K s1 h)):=az (by kernel_rfl)
theorem al4:UF P K s1 h=
 (K s1 h):=az (by kernel_rfl)
def Du:Prop:=
 OH (cQ 28 h b0) λb3 z1=>
 OP (dN x2) λx9=>
 bM [s1,(.int .i64 (0))] z1 λL1 xs hx=>
 UG P K x2 b3 x9 L1 xs hx
theorem e20:ah P zc (aX [.tmp 6] K) (bG [b0,s1,x2]) h=Du P K b0 s1 x2 h:=by kernel_rfl
theorem f20 {K:VK} {b0 s1 x2:Value} {h:ae} (H:Du prog K b0 s1 x2 h):aw prog 20 [b0,s1,x2] h K:=
 bW k20 (bT rfl) ((e20 prog K b0 s1 x2 h).mpr H)
end
noncomputable section
variable (b0 b1 n3 k4 x6 aW aF aM bu dR df bB cm cJ hZ dh gu fJ : Value) (L1 : LQ) (xs : List Value) (h : ae)
def Tg:=bJ prog 26 [[],[],[1,3,12],[1,3,12,14],[1,3,16],[1,3,16,21],[],[],[],[],[1,3,4,30],[1,3,4,30,32],[],[],[],[],[3,4,35,36],[37],[],[],[],[3,4,6,35,36,37,45],[3,4,6,35,36,37,45,48],[3,4,6,35,36,37,50],[3,4,35,36,37,50,54],[],[],[],[],[]]
@[irreducible] def u6:=bU Tg
@[irreducible] def NH:=u6.r.r.l.l.r.l
@[irreducible] def acJ:=u6.r.r.l.r
@[irreducible] def zf:=u6.r.r.r
@[irreducible] def NI:=NH.r.l
@[irreducible] def NC:=zf.r.l.l.r.l
@[irreducible] def acD:=zf.r.l.r
@[irreducible] def Et:=zf.r.r
@[irreducible] def NB:=NI.r.l
@[irreducible] def acE:=NC.r.l
@[irreducible] def ze:=Et.l.r.l.l
@[irreducible] def acF:=Et.r
@[irreducible] def acC:=NB.r.l
@[irreducible] def ND:=ze.r.r.l.l.r.l.r.l
@[irreducible] def acH:=ze.r.r.l.l.r.r
@[irreducible] def acG:=ze.r.r.r
@[irreducible] def NF:=ND.r.l
@[irreducible] def NG:=NF.r.l
@[irreducible] def acI:=NG.r.l
theorem k26:Tg=some (57,u6,[.tmp 2]):=by kernel_rfl
def sI (_P:Program) (K:VK):aj:=aX [.tmp 2] K
def LM:aj:=aH (ah P zf (sI P K)) (sI P K)
def yr:aj:=aH (ah P acJ (LM P K)) (LM P K)
def LI:aj:=aH (ah P Et (sI P K)) (sI P K)
def LJ:aj:=aH (ah P acD (LI P K)) (LI P K)
def Zw:aj:=aH (ah P acF (sI P K)) (sI P K)
def Zx:aj:=bk 0 (Zw P K)
def CT:aj:=aH (λf' aJ=>(([3,4,35,36]:List Nat).map f':List Value)=[n3,k4,bB,cm]/\L1 (([37]:List Nat).map f') aJ) (Zx P K)
def Zy:aj:=aH (ah P acG (CT P K n3 k4 bB cm L1)) (CT P K n3 k4 bB cm L1)
def LK:aj:=bk 1 (Zy P K n3 k4 bB cm L1)
def yq:aj:=aH (ah P acH (LK P K n3 k4 bB cm L1)) (LK P K n3 k4 bB cm L1)
def UM:Prop:=ay (ah P NH (yr P K)) [1,3,12] [b1,n3,aW] h
def HX:Prop:=ay (ah P NI (yr P K)) [1,3,12,14] [b1,n3,aW,aF] h
def UH:Prop:=ay (ah P NB (yr P K)) [1,3,16] [b1,n3,aM] h
def HT:Prop:=ay (ah P acC (yr P K)) [1,3,16,21] [b1,n3,aM,bu] h
def UI:Prop:=ay (ah P NC (LJ P K)) [1,3,4,30] [b1,n3,k4,dR] h
def HU:Prop:=ay (ah P acE (LJ P K)) [1,3,4,30,32] [b1,n3,k4,dR,df] h
def UJ:Prop:=ay (ah P ze (CT P K n3 k4 bB cm L1)) ([3,4,35,36]++[37]) ([n3,k4,bB,cm]++xs) h
def UK:Prop:=ay (ah P ND (yq P K n3 k4 bB cm L1)) [3,4,6,35,36,37,45] [n3,k4,x6,bB,cm,cJ,hZ] h
def HV:Prop:=ay (ah P NF (yq P K n3 k4 bB cm L1)) [3,4,6,35,36,37,45,48] [n3,k4,x6,bB,cm,cJ,hZ,dh] h
def UL:Prop:=ay (ah P NG (yq P K n3 k4 bB cm L1)) [3,4,6,35,36,37,50] [n3,k4,x6,bB,cm,cJ,gu] h
def HW:Prop:=ay (ah P acI (yq P K n3 k4 bB cm L1)) [3,4,35,36,37,50,54] [n3,k4,bB,cm,cJ,gu,fJ] h
theorem al8:HT P K b1 n3 aM bu h=
 (OP (cA aM (.bool true) bu) λbC=>
 aK bC
 (K (.bool false) h)
 (OP (bD 0 b1) λbI=>
 OP (af false 1 h bI) λbj=>
 OP (aI 1 bj (.int .i64 (0))) λaV=>
 OP (af false 1 h aV) λaO=>
 OP (aZ aO) λaP=>
 OP (ai .lss aP (.int .i64 (1))) λeZ=>
 UI P K b1 n3 aP eZ h)):=az (by kernel_rfl)
theorem al7:UH P K b1 n3 aM h=
 (b7 aM false
 (OP (bD 1 b1) λbz=>
 OP (af false 1 h bz) λbF=>
 OP (aZ bF) λbo=>
 OP (ai .neq bo n3) λbu=>
 HT P K b1 n3 aM bu h)
 (HT P K b1 n3 aM undef h)):=az (by kernel_rfl)
theorem amh:HX P K b1 n3 aW aF h=
 (OP (cA aW (.bool true) aF) λaQ=>
 UH P K b1 n3 aQ h):=az (by kernel_rfl)
theorem amg:UM P K b1 n3 aW h=
 (b7 aW false
 (OP (ai .gtr n3 (.int .i64 (6))) λaF=>
 HX P K b1 n3 aW aF h)
 (HX P K b1 n3 aW undef h)):=az (by kernel_rfl)
theorem ama:HU P K b1 n3 k4 dR df h=
 (OP (cA dR (.bool true) df) λca=>
 aK ca
 (K (.bool false) h)
 (OP (bD 0 b1) λa9=>
 OP (af false 1 h a9) λbB=>
 OP (aZ bB) λcm=>
 bM [(.int .i64 (0))] h λL1 xs hx=>
 UJ P K n3 k4 bB cm L1 xs hx)):=az (by kernel_rfl)
theorem al9:UI P K b1 n3 k4 dR h=
 (b7 dR false
 (OP (ai .gtr k4 (.int .i64 (3))) λdf=>
 HU P K b1 n3 k4 dR df h)
 (HU P K b1 n3 k4 dR undef h)):=az (by kernel_rfl)
theorem amf:HW P K n3 k4 bB cm cJ gu fJ L1 h=
 (OP (cA gu (.bool true) fJ) λjR=>
 aK jR
 (K (.bool false) h)
 (OP (ai .add cJ (.int .i64 (1))) λcf=>
 ([n3,k4,bB,cm]:List Value)=[n3,k4,bB,cm]/\L1 [cf] h)):=az (by kernel_rfl)
theorem ame:UL P K n3 k4 x6 bB cm cJ gu L1 h=
 (b7 gu false
 (aw P 47 [x6] h λfB z1=>
 OP (ai .geq fB n3) λfJ=>
 HW P K n3 k4 bB cm cJ gu fJ L1 z1)
 (HW P K n3 k4 bB cm cJ gu undef L1 h)):=az (by kernel_rfl)
theorem amd:HV P K n3 k4 x6 bB cm cJ hZ dh L1 h=
 (OP (cA hZ (.bool true) dh) λiR=>
 UL P K n3 k4 x6 bB cm cJ iR L1 h):=az (by kernel_rfl)
theorem amc:UK P K n3 k4 x6 bB cm cJ hZ L1 h=
 (b7 hZ false
 (aw P 46 [x6] h λcn z1=>
 OP (ai .lss cn (.int .i64 (0))) λdh=>
 HV P K n3 k4 x6 bB cm cJ hZ dh L1 z1)
 (HV P K n3 k4 x6 bB cm cJ hZ undef L1 h)):=az (by kernel_rfl)
theorem amb (n3 k4 bB cm:Value) (L1:LQ) (cJ:Value) (h:ae):UJ P K n3 k4 bB cm L1 [cJ] h=
 (OP (ai .lss cJ cm) λeQ=>
 aK eQ
 (OP (aI 1 bB cJ) λdL=>
 OP (af false 1 h dL) λct=>
 OP (aZ ct) λeA=>
 OP (ai .neq eA k4) λfA=>
 UK P K n3 k4 ct bB cm cJ fA L1 h)
 (K (.bool true) h)):=az (by kernel_rfl)
def Dy:Prop:=
 OH (cQ 28 h b0) λb1 z1=>
 OP (bD 0 b1) λx7=>
 OP (af false 1 z1 x7) λx8=>
 OP (aZ x8) λx9=>
 OP (ai .lss x9 (.int .i64 (1))) λaR=>
 UM P K b1 x9 aR z1
theorem e26:ah P u6 (aX [.tmp 2] K) (bG [b0]) h=Dy P K b0 h:=by kernel_rfl
theorem f26 {K:VK} {b0:Value} {h:ae} (H:Dy prog K b0 h):aw prog 26 [b0] h K:=
 bW k26 (bT rfl) ((e26 prog K b0 h).mpr H)
end
noncomputable section
variable (b0 b1 x2 n3 x4 i5 x7 i8 j9 aR aW aN gW aQ bI bj df ca cf cR b9 dS iS kI cB lW su : Value) (L1 L2 L3 L4 : LQ) (xs : List Value) (h : ae)
def Th:=bJ prog 27 [[],[],[],[],[1,2,3,4,23],[24],[],[],[],[],[],[1,2,3,4,5,23,24,32],[33],[],[],[],[],[1,2,3,4,23,24],[1,2,3,4],[],[1,2,3,4],[7],[],[],[],[],[1,2,3,4,56],[7,57],[],[],[],[],[1,2,3,4,8,56,57,60],[7,61],[],[],[],[],[1,2,3,4,8,9,56,57,60,61,69],[7,70],[],[],[],[],[1,2,3,4,7,8,9,56,57,60,61,69,70],[1,2,3,4,7,8,56,57,60,61],[1,2,3,4,7,56,57],[1,2,4],[],[],[],[],[1,2,11,12,13],[14],[],[],[],[],[1,2,11,12,13,14,128,129],[15,130],[],[],[],[],[1,2,11,12,13,14,15],[1,2,11,12,13,14],[2,11],[]]
@[irreducible] def zg:=bU Th
@[irreducible] def Ey:=zg.r.r.r.l.r.l.l
@[irreducible] def NN:=zg.r.r.r.r
@[irreducible] def acK:=Ey.r.r.l.l.r.r.r.l.l
@[irreducible] def NJ:=Ey.r.r.r
@[irreducible] def Eu:=NN.l
@[irreducible] def acL:=NJ.l
@[irreducible] def NL:=Eu.l.r.l.l
@[irreducible] def NK:=Eu.r
@[irreducible] def Ev:=NL.r.l.r.r.l.l
@[irreducible] def Ex:=NK.l
@[irreducible] def Ew:=Ev.r.r.l.l.r.r.l.l
@[irreducible] def NM:=Ev.r.r.r
@[irreducible] def zh:=Ex.r.r.r.l.r.l.l
@[irreducible] def NQ:=Ex.r.r.r.r
@[irreducible] def NP:=Ew.r.r.l.l.r.r.l.l
@[irreducible] def NO:=Ew.r.r.r
@[irreducible] def acO:=NM.l
@[irreducible] def acP:=zh.r.l.l.r.l.r.l.l
@[irreducible] def NT:=zh.r.l.l.r.r
@[irreducible] def NR:=zh.r.r
@[irreducible] def acS:=NQ.l
@[irreducible] def acM:=NP.r.r.r.l
@[irreducible] def acN:=NO.l
@[irreducible] def acQ:=NT.l
@[irreducible] def acR:=NR.l
theorem k27:Th=some (161,zg,[.cell true 2 2]):=by kernel_rfl
def n8 (_P:Program) (K:VK):aj:=aX [.cell true 2 2] K
def ZJ:aj:=aH (ah P NN (n8 P K)) (n8 P K)
def ZO:aj:=bk 0 (ZJ P K)
def yx:aj:=aH (λf' aJ=>(([1,2,3,4,23]:List Nat).map f':List Value)=[b1,x2,n3,x4,bI]/\L1 (([24]:List Nat).map f') aJ) (ZO P K)
def Zz:aj:=aH (ah P NJ (yx P K b1 x2 n3 x4 bI L1)) (yx P K b1 x2 n3 x4 bI L1)
def ZA:aj:=bk 1 (Zz P K b1 x2 n3 x4 bI L1)
def ZB:aj:=bk 2 (ZA P K b1 x2 n3 x4 bI L1)
def ZC:aj:=aH (λf' aJ=>(([1,2,3,4,5,23,24,32]:List Nat).map f':List Value)=[b1,x2,n3,x4,i5,bI,bj,df]/\L2 (([33]:List Nat).map f') aJ) (ZB P K b1 x2 n3 x4 bI L1)
def ZD:aj:=aH (ah P NK (n8 P K)) (n8 P K)
def ZE:aj:=bk 4 (ZD P K)
def LN:aj:=aH (λf' aJ=>(([1,2,3,4]:List Nat).map f':List Value)=[b1,x2,n3,x4]/\L1 (([7]:List Nat).map f') aJ) (ZE P K)
def ZF:aj:=bk 5 (LN P K b1 x2 n3 x4 L1)
def ZG:aj:=bk 6 (ZF P K b1 x2 n3 x4 L1)
def yu:aj:=aH (λf' aJ=>(([1,2,3,4,56]:List Nat).map f':List Value)=[b1,x2,n3,x4,cf]/\L2 (([7,57]:List Nat).map f') aJ) (ZG P K b1 x2 n3 x4 L1)
def ZH:aj:=aH (ah P NM (yu P K b1 x2 n3 x4 cf L1 L2)) (yu P K b1 x2 n3 x4 cf L1 L2)
def ZI:aj:=bk 7 (ZH P K b1 x2 n3 x4 cf L1 L2)
def ZK:aj:=bk 8 (ZI P K b1 x2 n3 x4 cf L1 L2)
def yv:aj:=aH (λf' aJ=>(([1,2,3,4,8,56,57,60]:List Nat).map f':List Value)=[b1,x2,n3,x4,i8,cf,cR,b9]/\L3 (([7,61]:List Nat).map f') aJ) (ZK P K b1 x2 n3 x4 cf L1 L2)
def ZL:aj:=aH (ah P NO (yv P K b1 x2 n3 x4 i8 cf cR b9 L1 L2 L3)) (yv P K b1 x2 n3 x4 i8 cf cR b9 L1 L2 L3)
def ZM:aj:=bk 9 (ZL P K b1 x2 n3 x4 i8 cf cR b9 L1 L2 L3)
def ZN:aj:=bk 10 (ZM P K b1 x2 n3 x4 i8 cf cR b9 L1 L2 L3)
def LO:aj:=aH (λf' aJ=>(([1,2,3,4,8,9,56,57,60,61,69]:List Nat).map f':List Value)=[b1,x2,n3,x4,i8,j9,cf,cR,b9,dS,iS]/\L4 (([7,70]:List Nat).map f') aJ) (ZN P K b1 x2 n3 x4 i8 cf cR b9 L1 L2 L3)
def ZP:aj:=aH (ah P NQ (n8 P K)) (n8 P K)
def ZQ:aj:=bk 12 (ZP P K)
def yw:aj:=aH (λf' aJ=>(([1,2,11,12,13]:List Nat).map f':List Value)=[b1,x2,aR,aW,aN]/\L1 (([14]:List Nat).map f') aJ) (ZQ P K)
def ZR:aj:=aH (ah P NR (yw P K b1 x2 aR aW aN L1)) (yw P K b1 x2 aR aW aN L1)
def CU:aj:=bk 13 (ZR P K b1 x2 aR aW aN L1)
def ZS:aj:=aH (ah P NT (CU P K b1 x2 aR aW aN L1)) (CU P K b1 x2 aR aW aN L1)
def ZT:aj:=bk 14 (ZS P K b1 x2 aR aW aN L1)
def ZU:aj:=aH (λf' aJ=>(([1,2,11,12,13,14,128,129]:List Nat).map f':List Value)=[b1,x2,aR,aW,aN,gW,cB,lW]/\L2 (([15,130]:List Nat).map f') aJ) (ZT P K b1 x2 aR aW aN L1)
def HY:Prop:=ay (ah P Ey (yx P K b1 x2 n3 x4 bI L1)) ([1,2,3,4,23]++[24]) ([b1,x2,n3,x4,bI]++xs) h
def UN:Prop:=ay (ah P acK (ZC P K b1 x2 n3 x4 i5 bI bj df L1 L2)) ([1,2,3,4,5,23,24,32]++[33]) ([b1,x2,n3,x4,i5,bI,bj,df]++xs) h
def UO:Prop:=ay (ah P acL (yx P K b1 x2 n3 x4 bI L1)) [1,2,3,4,23,24] [b1,x2,n3,x4,bI,bj] h
def Bz:Prop:=ay (ah P Eu (n8 P K)) [1,2,3,4] [b1,x2,n3,x4] h
def UP:Prop:=ay (ah P NL (LN P K b1 x2 n3 x4 L1)) ([1,2,3,4]++[7]) ([b1,x2,n3,x4]++xs) h
def UQ:Prop:=ay (ah P Ev (yu P K b1 x2 n3 x4 cf L1 L2)) ([1,2,3,4,56]++[7,57]) ([b1,x2,n3,x4,cf]++xs) h
def UR:Prop:=ay (ah P Ew (yv P K b1 x2 n3 x4 i8 cf cR b9 L1 L2 L3)) ([1,2,3,4,8,56,57,60]++[7,61]) ([b1,x2,n3,x4,i8,cf,cR,b9]++xs) h
def US:Prop:=ay (ah P NP (LO P K b1 x2 n3 x4 i8 j9 cf cR b9 dS iS L1 L2 L3 L4)) ([1,2,3,4,8,9,56,57,60,61,69]++[7,70]) ([b1,x2,n3,x4,i8,j9,cf,cR,b9,dS,iS]++xs) h
def tY:Prop:=ay (ah P acM (LO P K b1 x2 n3 x4 i8 j9 cf cR b9 dS iS L1 L2 L3 L4)) [1,2,3,4,7,8,9,56,57,60,61,69,70] [b1,x2,n3,x4,x7,i8,j9,cf,cR,b9,dS,iS,kI] h
def UT:Prop:=ay (ah P acN (yv P K b1 x2 n3 x4 i8 cf cR b9 L1 L2 L3)) [1,2,3,4,7,8,56,57,60,61] [b1,x2,n3,x4,x7,i8,cf,cR,b9,dS] h
def UU:Prop:=ay (ah P acO (yu P K b1 x2 n3 x4 cf L1 L2)) [1,2,3,4,7,56,57] [b1,x2,n3,x4,x7,cf,cR] h
def BA:Prop:=ay (ah P Ex (n8 P K)) [1,2,4] [b1,x2,x4] h
def UW:Prop:=ay (ah P zh (yw P K b1 x2 aR aW aN L1)) ([1,2,11,12,13]++[14]) ([b1,x2,aR,aW,aN]++xs) h
def HZ:Prop:=ay (ah P acP (ZU P K b1 x2 aR aW aN gW cB lW L1 L2)) ([1,2,11,12,13,14,128,129]++[15,130]) ([b1,x2,aR,aW,aN,gW,cB,lW]++xs) h
def BB:Prop:=ay (ah P acQ (CU P K b1 x2 aR aW aN L1)) [1,2,11,12,13,14,15] [b1,x2,aR,aW,aN,gW,aQ] h
def H4:Prop:=ay (ah P acR (yw P K b1 x2 aR aW aN L1)) [1,2,11,12,13,14] [b1,x2,aR,aW,aN,gW] h
def UX:Prop:=ay (ah P acS (n8 P K)) [2,11] [x2,aR] h
theorem ami (b1 x2 n3 x4 i5 bI bj df:Value) (L1 L2:LQ) (ca:Value) (h:ae):UN P K b1 x2 n3 x4 i5 bI bj df L1 L2 [ca] h=
 (OP (ai .lss ca df) λa9=>
 aK a9
 (OP (af false 1 h x4) λcm=>
 (True)/\
 OP (aI 1 cm i5) λeQ=>
 OP (af false 1 h eQ) λdL=>
 (True)/\
 OP (bD 1 b1) λkk=>
 OP (af false 1 h kk) λeA=>
 (True)/\
 OP (aI 1 eA i5) λfA=>
 OP (af false 1 h fA) λhZ=>
 (True)/\
 OP (bD 1 b1) λgr=>
 OP (af false 1 h gr) λcn=>
 (True)/\
 OP (aI 1 cn ca) λiR=>
 OP (af false 1 h iR) λgu=>
 (True)/\
 OP (lk true hZ gu) λlD=>
 OP (aI 1 dL ca) λfB=>
 OH (bE 1 h fB lD) λ_ z1=>
 (True)/\
 OP (ai .add ca (.int .i64 (1))) λgv=>
 ([b1,x2,n3,x4,i5,bI,bj,df]:List Value)=[b1,x2,n3,x4,i5,bI,bj,df]/\L2 [gv] z1)
 (UO P K b1 x2 n3 x4 bI bj L1 h)):=az (by kernel_rfl)
theorem amj:UO P K b1 x2 n3 x4 bI bj L1 h=
 (OP (ai .add bj (.int .i64 (1))) λfJ=>
 ([b1,x2,n3,x4,bI]:List Value)=[b1,x2,n3,x4,bI]/\L1 [fJ] h):=az (by kernel_rfl)
theorem amu (b1 x2 n3 x4 bI:Value) (L1:LQ) (bj:Value) (h:ae):HY P K b1 x2 n3 x4 bI L1 [bj] h=
 (OP (ai .lss bj bI) λaV=>
 aK aV
 (OP (af false 1 h x4) λaP=>
 (True)/\
 OH (jM 4 1 [(.bool false)] h n3 n3) λdR z1=>
 (af false 1 z1 x4=some aP/\True)/\
 OP (aI 1 aP bj) λdp=>
 OH (bE 1 z1 dp dR) λ_ z2=>
 (True)/\
 bM [(.int .i64 (0))] z2 λL2 xs hx=>
 UN P K b1 x2 n3 x4 bj bI bj n3 L1 L2 xs hx)
 (Bz P K b1 x2 n3 x4 h)):=az (by kernel_rfl)
theorem amp:tY P K b1 x2 n3 x4 x7 i8 j9 cf cR b9 dS iS kI L1 L2 L3 L4 h=
 (OP (ai .add kI (.int .i64 (1))) λapQ=>
 ([b1,x2,n3,x4,i8,j9,cf,cR,b9,dS,iS]:List Value)=[b1,x2,n3,x4,i8,j9,cf,cR,b9,dS,iS]/\L4 [x7,apQ] h):=az (by kernel_rfl)
theorem amo (b1 x2 n3 x4 i8 j9 cf cR b9 dS iS:Value) (L1 L2 L3 L4:LQ) (x7 kI:Value) (h:ae):US P K b1 x2 n3 x4 i8 j9 cf cR b9 dS iS L1 L2 L3 L4 [x7,kI] h=
 (OP (ai .lss kI iS) λKT=>
 aK KT
 (OP (af false 1 h x4) λKU=>
 (True)/\
 OP (aI 1 KU i8) λuD=>
 OP (af false 1 h uD) λYa=>
 (True)/\
 OP (aI 1 Ya j9) λKV=>
 OP (af false 1 h KV) λyb=>
 (True)/\
 OP (fG .not yb) λyc=>
 b7 yc true
 (OP (af false 1 h x4) λx82=>
 (True)/\
 OP (bD 0 b1) λx83=>
 OP (af false 1 h x83) λuE=>
 (True)/\
 OP (aI 1 uE i8) λyd=>
 OP (af false 1 h yd) λpj=>
 (True)/\
 OP (aI 1 pj kI) λpq=>
 OP (af false 1 h pq) λye=>
 (True)/\
 OP (aI 1 x82 ye) λKX=>
 OP (af false 1 h KX) λyf=>
 (True)/\
 OP (bD 0 b1) λKY=>
 OP (af false 1 h KY) λx94=>
 (True)/\
 OP (aI 1 x94 j9) λKZ=>
 OP (af false 1 h KZ) λK0=>
 (True)/\
 OP (aI 1 K0 kI) λK1=>
 OP (af false 1 h K1) λKd=>
 (True)/\
 OP (aI 1 yf Kd) λKe=>
 OP (af false 1 h Ke) λxp=>
 (True)/\
 OP (cA yc xp (.bool false)) λKf=>
 aK Kf
 (OP (af false 1 h x4) λxq=>
 OP (aI 1 xq i8) λKg=>
 OP (af false 1 h Kg) λKh=>
 OP (aI 1 Kh j9) λxr=>
 OH (bE 1 h xr (.bool true)) λ_ z1=>
 tY P K b1 x2 n3 x4 (.bool true) i8 j9 cf cR b9 dS iS kI L1 L2 L3 L4 z1)
 (tY P K b1 x2 n3 x4 x7 i8 j9 cf cR b9 dS iS kI L1 L2 L3 L4 h))
 (OP (cA yc undef (.bool false)) λKf=>
 aK Kf
 (OP (af false 1 h x4) λxq=>
 OP (aI 1 xq i8) λKg=>
 OP (af false 1 h Kg) λKh=>
 OP (aI 1 Kh j9) λxr=>
 OH (bE 1 h xr (.bool true)) λ_ z1=>
 tY P K b1 x2 n3 x4 (.bool true) i8 j9 cf cR b9 dS iS kI L1 L2 L3 L4 z1)
 (tY P K b1 x2 n3 x4 x7 i8 j9 cf cR b9 dS iS kI L1 L2 L3 L4 h)))
 (UT P K b1 x2 n3 x4 x7 i8 cf cR b9 dS L1 L2 L3 h)):=az (by kernel_rfl)
theorem amq:UT P K b1 x2 n3 x4 x7 i8 cf cR b9 dS L1 L2 L3 h=
 (OP (ai .add dS (.int .i64 (1))) λKi=>
 ([b1,x2,n3,x4,i8,cf,cR,b9]:List Value)=[b1,x2,n3,x4,i8,cf,cR,b9]/\L3 [x7,Ki] h):=az (by kernel_rfl)
theorem amn (b1 x2 n3 x4 i8 cf cR b9:Value) (L1 L2 L3:LQ) (x7 dS:Value) (h:ae):UR P K b1 x2 n3 x4 i8 cf cR b9 L1 L2 L3 [x7,dS] h=
 (OP (ai .lss dS b9) λkH=>
 aK kH
 (OP (bD 0 b1) λph=>
 OP (af false 1 h ph) λkm=>
 OP (aI 1 km i8) λsA=>
 OP (af false 1 h sA) λnf=>
 OP (aZ nf) λiS=>
 bM [x7,(.int .i64 (0))] h λL4 xs hx=>
 US P K b1 x2 n3 x4 i8 dS cf cR b9 dS iS L1 L2 L3 L4 xs hx)
 (UU P K b1 x2 n3 x4 x7 cf cR L1 L2 h)):=az (by kernel_rfl)
theorem amr:UU P K b1 x2 n3 x4 x7 cf cR L1 L2 h=
 (OP (ai .add cR (.int .i64 (1))) λKj=>
 ([b1,x2,n3,x4,cf]:List Value)=[b1,x2,n3,x4,cf]/\L2 [x7,Kj] h):=az (by kernel_rfl)
theorem amm (b1 x2 n3 x4 cf:Value) (L1 L2:LQ) (x7 cR:Value) (h:ae):UQ P K b1 x2 n3 x4 cf L1 L2 [x7,cR] h=
 (OP (ai .lss cR cf) λkl=>
 aK kl
 (bM [x7,(.int .i64 (0))] h λL3 xs hx=>
 UR P K b1 x2 n3 x4 cR cf cR n3 L1 L2 L3 xs hx)
 (([b1,x2,n3,x4]:List Value)=[b1,x2,n3,x4]/\L1 [x7] h)):=az (by kernel_rfl)
theorem aml (b1 x2 n3 x4:Value) (L1:LQ) (x7:Value) (h:ae):UP P K b1 x2 n3 x4 L1 [x7] h=
 (aK x7
 (bM [(.bool false),(.int .i64 (0))] h λL2 xs hx=>
 UQ P K b1 x2 n3 x4 n3 L1 L2 xs hx)
 (BA P K b1 x2 x4 h)):=az (by kernel_rfl)
theorem amv (b1 x2 aR aW aN gW cB lW:Value) (L1 L2:LQ) (aQ su:Value) (h:ae):HZ P K b1 x2 aR aW aN gW cB lW L1 L2 [aQ,su] h=
 (OP (ai .lss su lW) λKo=>
 aK Ko
 (OP (aI 1 cB su) λapV=>
 OP (af false 1 h apV) λKp=>
 nj P aN [Kp] h λKq z1=>
 OH (bq 3 1 [(.int .i64 (0))] z1 [(0,1,Kq)]) λKr z2=>
 OH (cE 3 1 8 z2 aQ Kr) λxy z3=>
 OP (ai .add su (.int .i64 (1))) λKs=>
 ([b1,x2,aR,aW,aN,gW,cB,lW]:List Value)=[b1,x2,aR,aW,aN,gW,cB,lW]/\L2 [xy,Ks] z3)
 (BB P K b1 x2 aR aW aN gW aQ L1 h)):=az (by kernel_rfl)
theorem amw:BB P K b1 x2 aR aW aN gW aQ L1 h=
 (OH (bq 29 1 [(.slice none 0 0)] h [(0,1,aQ)]) λKu z1=>
 OP (cF z1 Ku) λu=>
 (True)/\
 OP (bD 1 b1) λKv=>
 OP (af false 1 z1 Kv) λxA=>
 (af false 1 h Kv=some xA/\True)/\
 OP (af false 1 z1 aW) λxB=>
 (af false 1 h aW=some xB/\True)/\
 OP (aI 1 xB gW) λKw=>
 OP (af false 1 z1 Kw) λxC=>
 (af false 1 h Kw=some xC/\True)/\
 OP (aI 1 xA xC) λxD=>
 OP (af false 1 z1 xD) λKx=>
 (af false 1 h xD=some Kx/\True)/\
 OH (bq 4 1 [(.bool false)] z1 [(0,1,Kx)]) λxE z2=>
 OP (cF z2 xE) λx1=>
 (cF z2 Ku=some u/\True)/\
 OP (bD 0 aR) λKt=>
 OP (af false 1 z2 Kt) λxz=>
 (af false 1 h Kt=some xz/\af false 1 z1 Kt=some xz/\True)/\
 OH (cE 29 1 24 z2 xz Ku) λapY z3=>
 (af false 1 z3 Kv=some xA/\af false 1 z3 aW=some xB/\af false 1 z3 Kw=some xC/\af false 1 z3 xD=some Kx/\cF z3 xE=some x1/\True)/\
 OP (bD 1 aR) λuB=>
 OP (af false 1 z3 uB) λuC=>
 (af false 1 h uB=some uC/\af false 1 z1 uB=some uC/\af false 1 z2 uB=some uC/\True)/\
 OH (cE 4 1 1 z3 uC xE) λapZ z4=>
 (True)/\
 OP (bD 0 aR) λap0=>
 OH (bE 1 z4 ap0 apY) λ_ z5=>
 (True)/\
 OP (bD 1 aR) λKy=>
 OH (bE 1 z5 Ky apZ) λ_ z6=>
 (True)/\
 H4 P K b1 x2 aR aW aN gW L1 z6):=az (by kernel_rfl)
theorem amx:H4 P K b1 x2 aR aW aN gW L1 h=
 (OP (ai .add gW (.int .i64 (1))) λapS=>
 ([b1,x2,aR,aW,aN]:List Value)=[b1,x2,aR,aW,aN]/\L1 [apS] h):=az (by kernel_rfl)
theorem amt (b1 x2 aR aW aN:Value) (L1:LQ) (gW:Value) (h:ae):UW P K b1 x2 aR aW aN L1 [gW] h=
 (OP (af false 1 h aW) λxu=>
 OP (aZ xu) λKk=>
 OP (ai .lss gW Kk) λxv=>
 aK xv
 (OP (bD 0 b1) λKl=>
 OP (af false 1 h Kl) λKm=>
 (True)/\
 OP (af false 1 h aW) λapT=>
 (True)/\
 OP (aI 1 apT gW) λKn=>
 OP (af false 1 h Kn) λbZ=>
 (True)/\
 OP (aI 1 Km bZ) λb6=>
 OP (af false 1 h b6) λcB=>
 (True)/\
 OP (aZ cB) λlW=>
 bM [(.slice none 0 0),(.int .i64 (0))] h λL2 xs hx=>
 HZ P K b1 x2 aR aW aN gW cB lW L1 L2 xs hx)
 (UX P K x2 aR h)):=az (by kernel_rfl)
theorem amy:UX P K x2 aR h=
 (OP (af true 2 h aR) λKz=>
 OH (bE 2 h x2 Kz) λ_ z1=>
 OP (af true 2 z1 x2) λr0=>
 K r0 z1):=az (by kernel_rfl)
theorem ams:BA P K b1 x2 x4 h=
 (OH (cH 28 [(.slice none 0 0),(.slice none 0 0)] h) λaR z1=>
 OH (bq 3 1 [(.int .i64 (0))] z1 [(0,1,(.int .i64 (0)))]) λxt z2=>
 OH (cH 29 [(.slice none 0 0)] z2) λaW z3=>
 OH (bE 1 z3 aW xt) λ_ z4=>
 bM [(.int .i64 (0))] z4 λL1 xs hx=>
 UW P K b1 x2 aR aW (.func (.func 48) #[] #[aW,x4]) L1 xs hx):=az (by kernel_rfl)
theorem amk:Bz P K b1 x2 n3 x4 h=
 (bM [(.bool true)] h λL1 xs hx=>
 UP P K b1 x2 n3 x4 L1 xs hx):=az (by kernel_rfl)
def Dz:Prop:=
 OH (cQ 28 h b0) λb1 z1=>
 OH (cH 28 [(.slice none 0 0),(.slice none 0 0)] z1) λx2 z2=>
 OP (bD 0 b1) λbF=>
 OP (af false 1 z2 bF) λbo=>
 OP (aZ bo) λbp=>
 OH (jM 26 24 [(.slice none 0 0)] z2 bp bp) λbC z3=>
 OH (cH 86 [(.slice none 0 0)] z3) λx4 z4=>
 OH (bE 1 z4 x4 bC) λ_ z5=>
 bM [(.int .i64 (0))] z5 λL1 xs hx=>
 HY P K b1 x2 bp x4 bp L1 xs hx
theorem e27:ah P zg (aX [.cell true 2 2] K) (bG [b0]) h=Dz P K b0 h:=by kernel_rfl
theorem f27 {K:VK} {b0:Value} {h:ae} (H:Dz prog K b0 h):aw prog 27 [b0] h K:=
 bW k27 (bT rfl) ((e27 prog K b0 h).mpr H)
end
noncomputable section
variable (a0 : Value) (h : ae)
def Tn:=bJ prog 32 [[],[]]
@[irreducible] def N1:=bU Tn
theorem k32:Tn=some (8,N1,[.tmp 2]):=by kernel_rfl
def DE (_P:Program) (K:VK) (a0:Value) (h:ae):Prop:=
 OP (fg .u8 a0) λx4=>
 OP (ai .add (.int .u8 (97)) x4) λx5=>
 OH (bq 5 1 [(.int .u8 (0))] h [(0,1,x5)]) λx6 z1=>
 OP (mL z1 x6) λx7=>
 K x7 z1
theorem e32:ah P N1 (aX [.tmp 2] K) (bG [a0]) h=DE P K a0 h:=by kernel_rfl
theorem f32 {K:VK} {a0:Value} {h:ae} (H:DE prog K a0 h):aw prog 32 [a0] h K:=
 bW k32 (bT rfl) ((e32 prog K a0 h).mpr H)
end
noncomputable section
variable (s0 x1 x2 i5 : Value) (h : ae)
def TH:=bJ prog 48 [[],[],[],[],[5],[]]
@[irreducible] def EO:=bU TH
@[irreducible] def adN:=EO.r.r.r.l
theorem k48:TH=some (18,EO,[.tmp 4]):=by kernel_rfl
def aaH (_P:Program) (K:VK):aj:=aX [.tmp 4] K
def IQ:Prop:=ay (ah P adN (aaH P K)) [5] [i5] h
theorem WY:IQ P K i5 h=
 (K i5 h):=az (by kernel_rfl)
def DP:Prop:=
 OH (cQ 3 h s0) λs3 z1=>
 OP (af false 1 z1 x1) λx6=>
 aw P 49 [x6,(.func (.func 50) #[] #[x2,s3])] z1 λx8 z2=>
 OP (ai .lss x8 (.int .i64 (0))) λbw=>
 aK bw
 (OP (af false 1 z2 x1) λaR=>
 OP (aZ aR) λaW=>
 OP (af false 1 z2 x1) λaN=>
 OP (af false 1 z2 s3) λaF=>
 OH (bq 3 1 [(.int .i64 (0))] z2 [(0,1,aF)]) λaQ z3=>
 OH (cE 3 1 8 z3 aN aQ) λaM z4=>
 OH (bE 1 z4 x1 aM) λ_ z5=>
 IQ P K aW z5)
 (IQ P K x8 z2)
theorem Fb:ah P EO (aX [.tmp 4] K) (bG [s0,x1,x2]) h=DP P K s0 x1 x2 h:=by kernel_rfl
theorem f48 {K:VK} {s0 x1 x2:Value} {h:ae} (H:DP prog K s0 x1 x2 h):aw prog 48 [s0,x1,x2] h K:=
 bW k48 (bT rfl) ((Fb prog K s0 x1 x2 h).mpr H)
end
noncomputable section
variable (s0 f1 x7 x8 : Value) (L1 : LQ) (xs : List Value) (h : ae)
def TI:=bJ prog 49 [[],[],[0,1,7],[8],[],[],[],[],[],[],[],[]]
@[irreducible] def zA:=bU TI
@[irreducible] def adP:=zA.r.l.r.l.l
@[irreducible] def adO:=zA.r.r
theorem k49:TI=some (19,zA,[.tmp 4]):=by kernel_rfl
def Mh (_P:Program) (K:VK):aj:=aX [.tmp 4] K
def aaI:aj:=aH (ah P adO (Mh P K)) (Mh P K)
def aaJ:aj:=bk 0 (aaI P K)
def aaK:aj:=aH (λf' aJ=>(([0,1,7]:List Nat).map f':List Value)=[s0,f1,x7]/\L1 (([8]:List Nat).map f') aJ) (aaJ P K)
def VF:Prop:=ay (ah P adP (aaK P K s0 f1 x7 L1)) ([0,1,7]++[8]) ([s0,f1,x7]++xs) h
theorem ano (s0 f1 x7:Value) (L1:LQ) (x8:Value) (h:ae):VF P K s0 f1 x7 L1 [x8] h=
 (OP (ai .lss x8 x7) λx9=>
 aK x9
 (OP (aI 1 s0 x8) λaF=>
 OP (af false 1 h aF) λaQ=>
 nj P f1 [aQ] h λaM z1=>
 aK aM
 (K x8 z1)
 (OP (ai .add x8 (.int .i64 (1))) λbF=>
 ([s0,f1,x7]:List Value)=[s0,f1,x7]/\L1 [bF] z1))
 (K (.int .i64 (-1)) h)):=az (by kernel_rfl)
def DQ:Prop:=
 OP (aZ s0) λx7=>
 bM [(.int .i64 (0))] h λL1 xs hx=>
 VF P K s0 f1 x7 L1 xs hx
theorem e49:ah P zA (aX [.tmp 4] K) (bG [s0,f1]) h=DQ P K s0 f1 h:=by kernel_rfl
theorem f49 {K:VK} {s0 f1:Value} {h:ae} (H:DQ prog K s0 f1 h):aw prog 49 [s0,f1] h K:=
 bW k49 (bT rfl) ((e49 prog K s0 f1 h).mpr H)
end
noncomputable section
variable (t0 x1 x2 : Value) (h : ae)
def TK:=bJ prog 50 [[],[]]
@[irreducible] def Pd:=bU TK
theorem k50:TK=some (13,Pd,[.tmp 4]):=by kernel_rfl
def DR (_P:Program) (K:VK) (t0 x1 x2:Value) (h:ae):Prop:=
 OP (af false 1 h x1) λx5=>
 OP (af false 1 h x2) λx6=>
 OP (aI 1 x5 x6) λx7=>
 OP (af false 1 h x7) λx8=>
 OP (aI 1 x8 t0) λbw=>
 OP (af false 1 h bw) λaR=>
 OP (fG .not aR) λaW=>
 K aW h
theorem e50:ah P Pd (aX [.tmp 4] K) (bG [t0,x1,x2]) h=DR P K t0 x1 x2 h:=by kernel_rfl
theorem f50 {K:VK} {t0 x1 x2:Value} {h:ae} (H:DR prog K t0 x1 x2 h):aw prog 50 [t0,x1,x2] h K:=
 bW k50 (bT rfl) ((e50 prog K t0 x1 x2 h).mpr H)
end
end
end Go.Proofs.YtncaiogfjjepcaaGreatDoor
namespace Go.Sim
section
def bS (N:List (List Nat)) (s a:Nat):Nat:=(N.getD s []).getD a 0
def cg (N:List (List Nat)) (s:Nat) (w:List Nat):Nat:=w.foldl (bS N) s
theorem ao7 (N:List (List Nat)) (s:Nat):cg N s []=s:=rfl
theorem xh (N:List (List Nat)) (s a:Nat) (w:List Nat):cg N s (a::w)=cg N (bS N s a) w:=rfl
theorem pc (N:List (List Nat)) (s:Nat) (u v:List Nat):cg N s (u++v)=cg N (cg N s u) v:=by
 unfold cg;rw [List.foldl_append]
structure gy (n k:Nat) (N:List (List Nat)):Prop where
 len:N.length=n
 row:∀i (hi:i<N.length),N[i].length=k
 ma:∀i (hi:i<N.length),∀x∈N[i],x<n
theorem gy.kG {n k:Nat} {N:List (List Nat)} (b:gy n k N) {s a:Nat} (hs:s<n) (ha:a<k):bS N s a<n:=by
 have h1:s<N.length:=by rw [b.len];exact hs
 have h2:=b.row s h1
 have e1:N.getD s []=N[s]:=by rw [getD_eq_getElem?_getD,getElem?_eq_getElem h1,getD_some]
 unfold bS
 rw [e1,getD_eq_getElem?_getD,getElem?_eq_getElem (by omega),getD_some]
 exact b.ma s h1 _ (getElem_mem _)
theorem gy.uh {n k:Nat} {N:List (List Nat)} (b:gy n k N):∀{w:List Nat} {s:Nat},s<n->(∀a∈w,a<k)->cg N s w<n
 | [],_,hs,_=>hs
 | a::w,s,hs,hw=>by
  rw [xh]
  exact b.uh (b.kG hs (hw a mem_cons_self)) λx hx=>hw x (mem_cons_of_mem _ hx)
def fX (N:List (List Nat)) (G:List Bool) (s:Nat) (w:List Nat):Bool:=G.getD (cg N s w) false
theorem M7 {n k:Nat} {N:List (List Nat)} {G:List Bool} (b:gy n k N) {D:Nat->Nat->Bool} (e1:∀i j,i<n->j<n->D i j=false->G.getD i false=G.getD j false)
  (e2:∀i j,i<n->j<n->D i j=false->∀a,a<k->D (bS N i a) (bS N j a)=false):
  ∀(w:List Nat) (i j:Nat),i<n->j<n->(∀a∈w,a<k)->D i j=false->fX N G i w=fX N G j w
 | [],i,j,hi,hj,_,h=>e1 i j hi hj h
 | a::w,i,j,hi,hj,hw,h=>by
  have ha:=hw a mem_cons_self
  have:=M7 b e1 e2 w (bS N i a) (bS N j a) (b.kG hi ha) (b.kG hj ha) (λx hx=>hw x (mem_cons_of_mem _ hx)) (e2 i j hi hj h a ha)
  exact this
theorem XP {n k:Nat} {N R:List (List Nat)} {G H:List Bool} (b:gy n k N) {D:Nat->Nat->Bool} (e1:∀i j,i<n->j<n->D i j=false->G.getD i false=G.getD j false)
  (e2:∀i j,i<n->j<n->D i j=false->∀a,a<k->D (bS N i a) (bS N j a)=false)
  {S:List Nat} (hS:∀x∈S,x<n) (hH:∀i,i<S.length->H.getD i false=G.getD (S.getD i 0) false)
  (hR:∀i,i<S.length->∀a,a<k->bS R i a<S.length/\D (bS N (S.getD i 0) a) (S.getD (bS R i a) 0)=false):
  ∀(w:List Nat) (i q:Nat),i<S.length->q<n->(∀a∈w,a<k)->(∀u,(∀a∈u,a<k)->fX N G q u=fX N G (S.getD i 0) u)->fX R H i w=fX N G q w
 | [],i,q,hi,hq,_,h=>by
  have:=h [] (by simp)
  simp only [fX,ao7] at this⊢
  rw [hH i hi,this]
 | a::w,i,q,hi,hq,hw,h=>by
  have ha:=hw a mem_cons_self
  obtain ⟨r1,r2⟩:=hR i hi a ha
  have hSi:S.getD i 0<n:=by
   rw [getD_eq_getElem?_getD,getElem?_eq_getElem hi,getD_some];exact hS _ (getElem_mem _)
  have hSr:S.getD (bS R i a) 0<n:=by
   rw [getD_eq_getElem?_getD,getElem?_eq_getElem r1,getD_some];exact hS _ (getElem_mem _)
  refine XP b e1 e2 hS hH hR w (bS R i a) (bS N q a) r1 (b.kG hq ha) (λx hx=>hw x (mem_cons_of_mem _ hx)) ?_
  intro u hu
  have h1:=h (a::u) (λx hx=>by rcases mem_cons.1 hx with rfl | hx;exact ha;exact hu x hx)
  have h2:=M7 b e1 e2 u (bS N (S.getD i 0) a) (S.getD (bS R i a) 0) (b.kG hSi ha) hSr hu r2
  exact h1.trans h2
theorem SP:∀{l m:List Nat},l.Nodup->(∀a∈l,a∈m)->l.length<=m.length
 | [],_,_,_=>zero_le _
 | a::l,m,hn,hm=>by
  rw [nodup_cons] at hn
  have ha:=hm a mem_cons_self
  have:=SP (l:=l) (m:=m.erase a) hn.2 λb hb=>by
   refine (List.mem_erase_of_ne ?_).2 (hm b (mem_cons_of_mem _ hb))
   rintro rfl
   exact hn.1 hb
  rw [List.length_erase_of_mem ha] at this
  have:=List.length_pos_of_mem ha
  rw [length_cons];omega
theorem rW {l:List Nat} {n:Nat} (h:l.Nodup) (k:∀a∈l,a<n):l.length<=n:=by
 have:=SP (m:=List.range n) h λa ha=>List.mem_range.2 (k a ha)
 rwa [List.length_range] at this
theorem apl {n k:Nat} {N:List (List Nat)} (b:gy n k N) {z:Nat}:∀(f:Nat) (s:Nat) (u:List Nat),u.length<=f->s<n->(∀a∈u,a<k)->cg N s u=z->
  ∃v,(∀a∈v,a<k)/\cg N s v=z/\v.length<n:=by
 intro f
 induction f with
 | zero=>
  intro s u hu hs ha hr
  exact ⟨u,ha,hr,by omega⟩
 | succ f ih=>
  intro s u hu hs ha hr
  by_cases ar:u.length<n
  ·exact ⟨u,ha,hr,ar⟩
  ·-- two places with je same state
   have key:¬((List.range (u.length+1)).map λi=>cg N s (u.take i)).Nodup:=by
    intro hn
    have:=rW hn (n:=n) λa h=>by
     obtain ⟨i,_,rfl⟩:=mem_map.1 h
     exact b.uh hs λx hx=>ha x (List.mem_of_mem_take hx)
    rw [length_map,List.length_range] at this
    omega
   have:∃i j,i<j/\j<=u.length/\cg N s (u.take i)=cg N s (u.take j):=by
    apply byContradiction
    intro cL
    refine key ?_
    rw [List.nodup_iff_pairwise_ne,List.pairwise_map]
    refine (List.pairwise_lt_range (n:=u.length+1)).imp_of_mem ?_
    intro i j _ hj fM he
    exact cL ⟨i,j,fM,by have:=List.mem_range.1 hj;omega,he⟩
   obtain ⟨i,j,fM,hj,he⟩:=this
   refine ih s (u.take i++u.drop j) ?_ hs ?_ ?_
   ·rw [length_append,length_take,List.length_drop];omega
   ·intro a h
    rcases mem_append.1 h with h | h
    ·exact ha a (List.mem_of_mem_take h)
    ·exact ha a (List.mem_of_mem_drop h)
   ·rw [pc,he,<-pc,take_append_drop];exact hr
theorem abR {n k:Nat} {N:List (List Nat)} (b:gy n k N) {z:Nat} (hz:∀a,a<k->bS N z a=z) (hr:∀s,s<n->∃u,(∀a∈u,a<k)/\cg N s u=z):
  ∀m,m<=n->∃u,(∀a∈u,a<k)/\u.length<=m*(n-1)/\∀s,s<m->cg N s u=z:=by
 have stay:∀v:List Nat,(∀a∈v,a<k)->cg N z v=z:=by
  intro v
  induction v with
  | nil=>intro _;rfl
  | cons a v ih=>intro h;rw [xh,hz a (h a mem_cons_self)];exact ih λx hx=>h x (mem_cons_of_mem _ hx)
 intro m
 induction m with
 | zero=>intro _;exact ⟨[],by simp,by simp,λs hs=>by omega⟩
 | succ m ih=>
  intro hm
  obtain ⟨u,u1,u2,u3⟩:=ih (by omega)
  obtain ⟨v0,v1,v2⟩:=hr (cg N m u) (b.uh (by omega) u1)
  obtain ⟨v,w1,w2,w3⟩:=apl b v0.length _ v0 (le_refl _) (b.uh (by omega) u1) v1 v2
  refine ⟨u++v,?_,?_,?_⟩
  ·intro a h
   rcases mem_append.1 h with h | h
   ·exact u1 a h
   ·exact w1 a h
  ·rw [length_append,Nat.succ_mul];omega
  ·intro s hs
   rw [pc]
   by_cases e:s=m
   ·rw [e,w2]
   ·rw [u3 s (by omega),stay v w1]
end
section
def iL (N:List (List Nat)) (x a:Nat):Nat->Nat
 | 0=>0
 | m+1=>if x >>> m &&& 1=1 then iL N x a m ||| 1 <<< bS N m a else iL N x a m
def jr (N:List (List Nat)) (n x a:Nat):Nat:=iL N x a n
def lP (N:List (List Nat)) (n:Nat) (x:Nat) (w:List Nat):Nat:=w.foldl (jr N n) x
theorem XJ (x m:Nat):(x >>> m &&& 1=1)↔x.testBit m=true:=by
 rw [Nat.testBit,Nat.and_comm]
 have h:1 &&& x >>> m<2:=Nat.lt_of_le_of_lt Nat.and_le_left (by omega)
 constructor
 ·intro e;rw [e];decide
 ·intro e
  have:1 &&& x >>> m≠0:=by simpa using e
  omega
theorem rJ (N:List (List Nat)) (x a t:Nat):∀m,(iL N x a m).testBit t=true↔∃s,s<m/\x.testBit s=true/\bS N s a=t
 | 0=>by simp [iL]
 | m+1=>by
  have ih:=rJ N x a t m
  unfold iL
  by_cases h:x >>> m &&& 1=1
  ·rw [if_pos h,Nat.testBit_or,Bool.or_eq_true,ih,Nat.one_shiftLeft,Nat.testBit_two_pow,decide_eq_true_eq]
   have hb:=(XJ x m).1 h
   constructor
   ·rintro (⟨s,h1,h2,h3⟩ | h1)
    ·exact ⟨s,by omega,h2,h3⟩
    ·exact ⟨m,by omega,hb,h1⟩
   ·rintro ⟨s,h1,h2,h3⟩
    by_cases e:s=m
    ·exact .inr (by rw [<-e];exact h3)
    ·exact .inl ⟨s,by omega,h2,h3⟩
  ·rw [if_neg h,ih]
   have hb:¬x.testBit m=true:=λc=>h ((XJ x m).2 c)
   constructor
   ·rintro ⟨s,h1,h2,h3⟩;exact ⟨s,by omega,h2,h3⟩
   ·rintro ⟨s,h1,h2,h3⟩
    by_cases e:s=m
    ·exact absurd (e ▸ h2) hb
    ·exact ⟨s,by omega,h2,h3⟩
theorem aiY {n k:Nat} {N:List (List Nat)} (b:gy n k N) {x a:Nat} (ha:a<k):jr N n x a<2^n:=by
 refine Nat.lt_pow_two_of_testBit _ λi hi=>?_
 rw [Bool.eq_false_iff]
 intro h
 obtain ⟨s,h1,_,h3⟩:=(rJ N x a i n).1 h
 have:=b.kG h1 ha
 omega
theorem RR {n k:Nat} {N:List (List Nat)} (b:gy n k N) (t:Nat):∀(w:List Nat) (x:Nat),(∀a∈w,a<k)->(∀i,x.testBit i=true->i<n)->
  ((lP N n x w).testBit t=true↔∃s,s<n/\x.testBit s=true/\cg N s w=t)
 | [],x,_,hx=>by
  constructor
  ·intro h;exact ⟨t,hx t h,h,rfl⟩
  ·rintro ⟨s,_,h2,rfl⟩;exact h2
 | a::w,x,hw,hx=>by
  have ha:=hw a mem_cons_self
  have:=RR b t w (jr N n x a) (λy hy=>hw y (mem_cons_of_mem _ hy)) (λi hi=>by
   obtain ⟨s,h1,_,h3⟩:=(rJ N x a i n).1 hi
   have:=b.kG h1 ha
   omega)
  show (lP N n (jr N n x a) w).testBit t=true↔_
  rw [this]
  constructor
  ·rintro ⟨s,h1,h2,h3⟩
   obtain ⟨s',g1,g2,g3⟩:=(rJ N x a s n).1 h2
   exact ⟨s',g1,g2,by rw [xh,g3];exact h3⟩
  ·rintro ⟨s,h1,h2,h3⟩
   rw [xh] at h3
   exact ⟨bS N s a,b.kG h1 ha,(rJ N x a _ n).2 ⟨s,h1,h2,rfl⟩,h3⟩
def jO (x:Nat):Bool:=decide (x &&& (x-1)=0)
theorem ald (t:Nat):jO (2^t)=true:=by
 simp only [jO,decide_eq_true_eq]
 rw [Nat.and_two_pow_sub_one_eq_mod];exact Nat.mod_self _
theorem ai0 {n k:Nat} {N:List (List Nat)} (b:gy n k N) {z:Nat} {w:List Nat} (hw:∀a∈w,a<k) (h0:0<n) (h:∀s,s<n->cg N s w=z):jO (lP N n (2^n-1) w)=true:=by
 have:lP N n (2^n-1) w=2^z:=by
  refine Nat.eq_of_testBit_eq λt=>?_
  rw [Bool.eq_iff_iff,RR b t w _ hw (λi hi=>by simpa [Nat.testBit_two_pow_sub_one] using hi),Nat.testBit_two_pow,decide_eq_true_eq]
  constructor
  ·rintro ⟨s,h1,_,h3⟩;rw [<-h3,h s h1]
  ·intro e;exact ⟨0,h0,by simpa [Nat.testBit_two_pow_sub_one] using h0,by rw [h 0 h0];exact e⟩
 rw [this];exact ald z
structure Bf (N:List (List Nat)) (n k:Nat) (l:List (Nat×Nat)) (p:Nat):Prop where
 fst:l[0]?=some (2^n-1,0)
 nd:(l.map (·.1)).Nodup
 lt:∀e∈l,e.1<2^n
 up:l.Pairwise λa b=>a.2<=b.2
 top:∀e,l[p]?=some e->∀f∈l,f.2<=e.2+1
 dn:∀i,i<p->∀e,l[i]?=some e->jO e.1=false/\∀a,a<k->∃f∈l,f.1=jr N n e.1 a/\f.2<=e.2+1
structure Bm (N:List (List Nat)) (n k:Nat) (l:List (Nat×Nat)) (p a:Nat) (e:Nat×Nat):Prop where
 fst:l[0]?=some (2^n-1,0)
 nd:(l.map (·.1)).Nodup
 lt:∀e∈l,e.1<2^n
 up:l.Pairwise λa b=>a.2<=b.2
 cur:l[p]?=some e
 top:∀f∈l,f.2<=e.2+1
 no:jO e.1=false
 dn:∀i,i<p->∀e,l[i]?=some e->jO e.1=false/\∀a,a<k->∃f∈l,f.1=jr N n e.1 a/\f.2<=e.2+1
 lo:∀a',a'<a->∃f∈l,f.1=jr N n e.1 a'/\f.2<=e.2+1
variable {N : List (List Nat)} {n k : Nat}
theorem Bf.zero:Bf N n k [(2^n-1,0)] 0 where
 fst:=rfl
 nd:=by simp
 lt:=by
  intro e he
  rw [mem_singleton] at he;subst he
  have:=Nat.two_pow_pos n
  show 2^n-1<2^n
  omega
 up:=List.pairwise_singleton _ _
 top:=by
  intro e he f hf
  rw [mem_singleton] at hf;subst hf
  exact zero_le _
 dn:=λi hi=>by omega
theorem Bf.mid {l:List (Nat×Nat)} {p:Nat} (b:Bf N n k l p) {e:Nat×Nat} (he:l[p]?=some e) (ho:jO e.1=false):Bm N n k l p 0 e:=
 ⟨b.fst,b.nd,b.lt,b.up,he,b.top e he,ho,b.dn,λa h=>by omega⟩
theorem Bm.old {l:List (Nat×Nat)} {p a:Nat} {e:Nat×Nat} (b:Bm N n k l p a e) {f:Nat×Nat} (hf:f∈l) (h1:f.1=jr N n e.1 a):Bm N n k l p (a+1) e:=
 ⟨b.fst,b.nd,b.lt,b.up,b.cur,b.top,b.no,b.dn,λa' h=>by
  by_cases c:a'=a
  ·subst c;exact ⟨f,hf,h1,b.top f hf⟩
  ·exact b.lo a' (by omega)⟩
theorem Bm.new {l:List (Nat×Nat)} {p a:Nat} {e:Nat×Nat} (b:Bm N n k l p a e) (bd:jr N n e.1 a<2^n) (hn:jr N n e.1 a∉l.map (·.1)):Bm N n k (l++[(jr N n e.1 a,e.2+1)]) p (a+1) e where
 fst:=by
  have:=b.fst
  rw [getElem?_append_left (by
   rcases l with _ | ⟨x,l⟩
   ·cases this
   ·simp)]
  exact this
 nd:=by
  rw [map_append,nodup_append]
  refine ⟨b.nd,by simp,?_⟩
  intro x hx y hy
  simp only [map_cons,List.map_nil,mem_singleton] at hy
  subst hy
  exact λc=>hn (c ▸ hx)
 lt:=by
  intro f hf
  rcases mem_append.1 hf with hf | hf
  ·exact b.lt f hf
  ·rw [mem_singleton] at hf;subst hf;exact bd
 up:=by
  rw [List.pairwise_append]
  refine ⟨b.up,List.pairwise_singleton _ _,λx hx y hy=>?_⟩
  rw [mem_singleton] at hy;subst hy
  exact b.top x hx
 cur:=by
  have:=b.cur
  have hp:p<l.length:=(ba this).1
  rw [getElem?_append_left hp];exact this
 top:=by
  intro f hf
  rcases mem_append.1 hf with hf | hf
  ·exact b.top f hf
  ·rw [mem_singleton] at hf;subst hf;exact le_refl _
 no:=b.no
 dn:=by
  intro i hi e' dD
  have hp:p<l.length:=(ba b.cur).1
  rw [getElem?_append_left (by omega)] at dD
  obtain ⟨h1,h2⟩:=b.dn i hi e' dD
  refine ⟨h1,λa ha=>?_⟩
  obtain ⟨f,f1,f2,f3⟩:=h2 a ha
  exact ⟨f,mem_append_left _ f1,f2,f3⟩
 lo:=by
  intro a' h
  by_cases c:a'=a
  ·subst c;exact ⟨_,List.mem_append_right _ mem_cons_self,rfl,le_refl _⟩
  ·obtain ⟨f,f1,f2,f3⟩:=b.lo a' (by omega)
   exact ⟨f,mem_append_left _ f1,f2,f3⟩
theorem Bm.next {l:List (Nat×Nat)} {p:Nat} {e:Nat×Nat} (b:Bm N n k l p k e):Bf N n k l (p+1) where
 fst:=b.fst
 nd:=b.nd
 lt:=b.lt
 up:=b.up
 top:=by
  intro e' dD f hf
  have h1:=ba b.cur
  have h2:=ba dD
  obtain ⟨c1,rfl⟩:=h1
  obtain ⟨c2,rfl⟩:=h2
  have:=List.pairwise_iff_getElem.1 b.up p (p+1) c1 c2 (by omega)
  have:=b.top f hf
  omega
 dn:=by
  intro i hi e' dD
  by_cases c:i=p
  ·subst c
   have:=b.cur
   rw [dD] at this
   cases this
   exact ⟨b.no,λa ha=>b.lo a ha⟩
  ·exact b.dn i (by omega) e' dD
theorem Bf.gF {l:List (Nat×Nat)} {p:Nat} (b:Bf N n k l p):l.length<=2^n:=by
 have:=rW b.nd (n:=2^n) λa ha=>by
  obtain ⟨e,he,rfl⟩:=mem_map.1 ha
  exact b.lt e he
 rwa [length_map] at this
theorem Bf.walk {l:List (Nat×Nat)} {p:Nat} (b:Bf N n k l p) {u:List Nat} (hu:∀a∈u,a<k):∀i,i<=u.length->
  (∃j,j<p/\∃e,l[j]?=some e/\e.1=lP N n (2^n-1) (u.take i)/\e.2<=i)∨∃e,l[p]?=some e/\e.2<=u.length:=by
 have M4:∀(j:Nat) (e:Nat×Nat) (i:Nat),i<=u.length->l[j]?=some e->e.1=lP N n (2^n-1) (u.take i)->e.2<=i->
   (∃j,j<p/\∃e,l[j]?=some e/\e.1=lP N n (2^n-1) (u.take i)/\e.2<=i)∨∃e,l[p]?=some e/\e.2<=u.length:=by
  intro j e i hi h1 h2 h3
  by_cases c:j<p
  ·exact .inl ⟨j,c,e,h1,h2,h3⟩
  ·have hj:=ba h1
   obtain ⟨c1,rfl⟩:=hj
   refine .inr ⟨l[p],getElem?_eq_getElem (by omega),?_⟩
   by_cases d:j=p
   ·subst d;omega
   ·have:=List.pairwise_iff_getElem.1 b.up p j (by omega) c1 (by omega)
    omega
 intro i
 induction i with
 | zero=>intro _;exact M4 0 _ 0 (zero_le _) b.fst rfl (le_refl _)
 | succ i ih=>
  intro hi
  rcases ih (by omega) with ⟨j,h1,e,h2,h3,h4⟩ | h
  ·have ha:u[i]<k:=hu _ (getElem_mem _)
   obtain ⟨f,f1,f2,f3⟩:=(b.dn j h1 e h2).2 u[i] ha
   obtain ⟨j',g1⟩:=List.getElem?_of_mem f1
   refine M4 j' f (i+1) hi g1 ?_ (by omega)
   rw [f2,h3,List.take_succ_eq_append_getElem (by omega)]
   unfold lP
   rw [List.foldl_append];rfl
  ·exact .inr h
theorem Bf.head {l:List (Nat×Nat)} {p:Nat} (b:Bf N n k l p) {u:List Nat} (hu:∀a∈u,a<k) (ho:jO (lP N n (2^n-1) u)=true):∃e,l[p]?=some e/\e.2<=u.length:=by
 rcases b.walk hu u.length (le_refl _) with ⟨j,h1,e,h2,h3,_⟩ | h
 ·have:=(b.dn j h1 e h2).1
  rw [h3,take_length,ho] at this
  cases this
 ·exact h
end
section
abbrev cC:=List UInt8
structure iB (W St:List cC):Prop where
 hd:St[0]?=some []
 nd:St.Nodup
 pre:∀s∈St,∃w∈W,s<+:w/\s.length<w.length
 cl:∀s∈St,∀w∈W,s<+:w->s.length+1<w.length->w.take (s.length+1)∈St
structure jD (W:List cC):Prop where
 nd:W.Nodup
 ne:∀w∈W,w≠[]
 nb:∀v∈W,∀w∈W,v<+:w->v=w
 bt:∀w∈W,∀c∈w,c=48∨c=49
 le:∀w∈W,w.length<=10
def fz (W St:List cC) (t:cC):Nat:=if t∈St then St.idxOf t else if t∈W then 0 else St.length
def bV (W St:List cC):List (List Nat):=(St.map λs=>[fz W St (s++[48]),fz W St (s++[49])])++[[St.length,St.length]]
def gN (St:List cC):List Bool:=((List.range St.length).map λi=>decide (i=0))++[false]
def nq (c:UInt8):Nat:=if c=48 then 0 else 1
def dQ (t:cC):List Nat:=t.map nq
variable {W St : List cC}
theorem M8 (c:UInt8):nq c<2:=by unfold nq;split <;> omega
theorem J9 (t:cC):∀a∈dQ t,a<2:=λa h=>by
 obtain ⟨c,_,rfl⟩:=mem_map.1 h
 exact M8 c
theorem Cs (s t:cC):dQ (s++t)=dQ s++dQ t:=map_append
theorem J4 (t:cC):fz W St t<=St.length:=by
 unfold fz
 split
 ·exact List.idxOf_le_length
 ·split
  ·exact zero_le _
  ·exact le_refl _
theorem SQ (W St:List cC):gy (St.length+1) 2 (bV W St) where
 len:=by simp [bV]
 row:=by
  intro i hi
  have:(bV W St)[i]∈bV W St:=getElem_mem _
  rcases mem_append.1 this with h | h
  ·obtain ⟨s,_,e⟩:=mem_map.1 h
   rw [<-e];rfl
  ·rw [mem_singleton] at h;rw [h];rfl
 ma:=by
  intro i hi x hx
  have:(bV W St)[i]∈bV W St:=getElem_mem _
  rcases mem_append.1 this with h | h
  ·obtain ⟨s,_,e⟩:=mem_map.1 h
   rw [<-e] at hx
   rcases mem_cons.1 hx with rfl | hx
   ·exact Nat.lt_succ_of_le (J4 _)
   ·rw [mem_singleton] at hx;subst hx;exact Nat.lt_succ_of_le (J4 _)
  ·rw [mem_singleton] at h;rw [h] at hx
   rcases mem_cons.1 hx with rfl | hx
   ·omega
   ·rw [mem_singleton] at hx;omega
theorem wK {i:Nat} (hi:i<St.length) {c:UInt8} (hc:c=48∨c=49):bS (bV W St) i (nq c)=fz W St (St[i]++[c]):=by
 have e1:(bV W St).getD i []=[fz W St (St[i]++[48]),fz W St (St[i]++[49])]:=by
  unfold bV
  rw [getD_eq_getElem?_getD,getElem?_append_left (by rw [length_map];exact hi),List.getElem?_map,getElem?_eq_getElem hi];rfl
 unfold bS
 rw [e1]
 rcases hc with rfl | rfl <;> rfl
theorem Hy {a:Nat} (ha:a<2):bS (bV W St) St.length a=St.length:=by
 have e1:(bV W St).getD St.length []=[St.length,St.length]:=by
  unfold bV
  rw [getD_eq_getElem?_getD,List.getElem?_append_right (by rw [length_map];exact le_refl _),length_map,Nat.sub_self];rfl
 unfold bS
 rw [e1]
 have:a=0∨a=1:=by omega
 rcases this with rfl | rfl <;> rfl
theorem mY (p:iB W St):0<St.length/\∀h:0<St.length,St[0]=[]:=by
 have:=p.hd
 obtain ⟨h,e⟩:=ba this
 exact ⟨h,λ_=>e⟩
theorem XR (q:jD W) (p:iB W St) {s:cC} (hs:s∈St):s∉W:=by
 intro hw
 obtain ⟨w,w1,w2,w3⟩:=p.pre s hs
 have:=q.nb s hw w w1 w2
 subst this
 omega
theorem uo (p:iB W St) {w:cC} (hw:w∈W):∀m,m<w.length->w.take m∈St
 | 0,_=>by
  obtain ⟨h,e⟩:=mY p
  have:=e h
  rw [take_zero,<-this]
  exact getElem_mem _
 | m+1,h=>by
  have h1:=uo p hw m (by omega)
  have h2:=p.cl _ h1 w hw (List.take_prefix _ _) (by rw [length_take];omega)
  rw [length_take,min_eq_left (by omega)] at h2
  exact h2
theorem apa (p:iB W St):∀(n:Nat) (t:cC),t.length=n->(∀c∈t,c=48∨c=49)->cg (bV W St) 0 (dQ t)<=St.length/\
  ∀h:cg (bV W St) 0 (dQ t)<St.length,∃x:List cC,(∀w∈x,w∈W)/\t=x.flatten++St[cg (bV W St) 0 (dQ t)]:=by
 intro n
 induction n with
 | zero=>
  intro t ht _
  have:=length_eq_zero_iff.1 ht
  subst this
  refine ⟨zero_le _,λh=>⟨[],by simp,?_⟩⟩
  have:=(mY p).2 h
  show []=[]++St[0]
  rw [this];rfl
 | succ n ih=>
  intro t ht hb
  have aU:t≠[]:=by rintro rfl;simp at ht
  obtain ⟨u,c,rfl⟩:∃u c,t=u++[c]:=⟨t.dropLast,t.getLast aU,(List.dropLast_concat_getLast aU).symm⟩
  have hu:u.length=n:=by simp at ht;omega
  obtain ⟨r1,r2⟩:=ih u hu λx hx=>hb x (mem_append_left _ hx)
  have hc:=hb c (List.mem_append_right _ mem_cons_self)
  have e:cg (bV W St) 0 (dQ (u++[c]))=bS (bV W St) (cg (bV W St) 0 (dQ u)) (nq c):=by
   rw [Cs,pc];rfl
  by_cases ar:cg (bV W St) 0 (dQ u)<St.length
  ·rw [wK ar hc] at e
   obtain ⟨x,x1,x2⟩:=r2 ar
   have hle:=J4 (W:=W) (St:=St) (St[cg (bV W St) 0 (dQ u)]++[c])
   refine ⟨by rw [e];exact hle,λh=>?_⟩
   by_cases m1:St[cg (bV W St) 0 (dQ u)]++[c]∈St
   ·refine ⟨x,x1,?_⟩
    have e2:fz W St (St[cg (bV W St) 0 (dQ u)]++[c])=St.idxOf (St[cg (bV W St) 0 (dQ u)]++[c]):=if_pos m1
    rw [e2] at e
    have e3:St[cg (bV W St) 0 (dQ (u++[c]))]=St[cg (bV W St) 0 (dQ u)]++[c]:=by
     have h5:=List.idxOf_lt_length_iff.2 m1
     have:St[St.idxOf (St[cg (bV W St) 0 (dQ u)]++[c])]=_:=getElem_idxOf h5
     rw [<-this]
     congr 1
    rw [e3,<-append_assoc,<-x2]
   ·by_cases m2:St[cg (bV W St) 0 (dQ u)]++[c]∈W
    ·have e2:fz W St (St[cg (bV W St) 0 (dQ u)]++[c])=0:=by unfold fz;rw [if_neg m1,if_pos m2]
     rw [e2] at e
     refine ⟨x++[St[cg (bV W St) 0 (dQ u)]++[c]],?_,?_⟩
     ·intro w hw
      rcases mem_append.1 hw with hw | hw
      ·exact x1 w hw
      ·rw [mem_singleton] at hw;subst hw;exact m2
     ·have e3:St[cg (bV W St) 0 (dQ (u++[c]))]=[]:=(getElem_congr_idx e).trans ((mY p).2 (mY p).1)
      rw [e3,List.flatten_append,append_nil]
      simp only [flatten_cons,List.flatten_nil,append_nil]
      rw [<-append_assoc,<-x2]
    ·exfalso
     have e2:fz W St (St[cg (bV W St) 0 (dQ u)]++[c])=St.length:=by unfold fz;rw [if_neg m1,if_neg m2]
     rw [e2] at e
     omega
  ·have e1:cg (bV W St) 0 (dQ u)=St.length:=by omega
   rw [e1,Hy (M8 c)] at e
   rw [e]
   exact ⟨le_refl _,λh=>absurd h (Nat.lt_irrefl _)⟩
theorem Xw (q:jD W) (p:iB W St) {w:cC} (hw:w∈W):∀(d m:Nat),m+d+1=w.length->cg (bV W St) (St.idxOf (w.take m)) (dQ (w.drop m))=0:=by
 intro d
 induction d with
 | zero=>
  intro m hm
  have h1:=uo p hw m (by omega)
  have ar:=List.idxOf_lt_length_iff.2 h1
  have hd:w.drop m=[w[m]]:=by
   rw [drop_eq_getElem_cons (by omega),List.drop_eq_nil_of_le (by omega)]
  rw [hd]
  show bS (bV W St) _ (nq w[m])=0
  rw [wK ar (q.bt w hw _ (getElem_mem _)),getElem_idxOf ar]
  have e:w.take m++[w[m]]=w:=by
   rw [<-List.take_succ_eq_append_getElem (by omega),take_of_length_le (by omega)]
  rw [e]
  unfold fz
  rw [if_neg λc=>XR q p c hw,if_pos hw]
 | succ d ih=>
  intro m hm
  have h1:=uo p hw m (by omega)
  have h2:=uo p hw (m+1) (by omega)
  have ar:=List.idxOf_lt_length_iff.2 h1
  rw [drop_eq_getElem_cons (by omega:m<w.length)]
  show cg (bV W St) (bS (bV W St) _ (nq w[m])) (dQ (w.drop (m+1)))=0
  rw [wK ar (q.bt w hw _ (getElem_mem _)),getElem_idxOf ar,<-List.take_succ_eq_append_getElem (by omega)]
  have e:fz W St (w.take (m+1))=St.idxOf (w.take (m+1)):=if_pos h2
  rw [e]
  exact ih (m+1) (by omega)
theorem XQ (p:iB W St):St.idxOf ([]:cC)=0:=by
 obtain ⟨h,e⟩:=mY p
 have:=p.nd.idxOf_getElem 0 h
 rwa [e h] at this
theorem apb (q:jD W) (p:iB W St) {w:cC} (hw:w∈W):cg (bV W St) 0 (dQ w)=0:=by
 have h0:0<w.length:=length_pos_iff.2 (q.ne w hw)
 have:=Xw q p hw (w.length-1) 0 (by omega)
 rwa [take_zero,XQ p] at this
theorem Xz (q:jD W) (p:iB W St):∀{x:List cC},(∀w∈x,w∈W)->cg (bV W St) 0 (dQ x.flatten)=0
 | [],_=>rfl
 | w::x,h=>by
  rw [flatten_cons,Cs,pc,apb q p (h w mem_cons_self)]
  exact Xz q p λv hv=>h v (mem_cons_of_mem _ hv)
theorem agk (i:Nat):(gN St).getD i false=decide (i<St.length/\i=0):=by
 unfold gN
 by_cases h:i<St.length
 ·rw [getD_eq_getElem?_getD,getElem?_append_left (by simpa using h),List.getElem?_map,List.getElem?_range h]
  by_cases c:i=0 <;> simp [c,h]
  subst c;exact h
 ·rw [getD_eq_getElem?_getD,List.getElem?_append_right (by simpa using h)]
  have:decide (i<St.length/\i=0)=false:=by simp [h]
  rw [this]
  rcases i-((List.range St.length).map λi=>decide (i=0)).length with _ | m <;> simp
theorem MV (q:jD W) (p:iB W St) {t:cC} (hb:∀c∈t,c=48∨c=49):fX (bV W St) (gN St) 0 (dQ t)=true↔∃x:List cC,(∀w∈x,w∈W)/\x.flatten=t:=by
 unfold fX
 rw [agk,decide_eq_true_eq]
 constructor
 ·rintro ⟨h1,h2⟩
  obtain ⟨x,x1,x2⟩:=(apa p t.length t rfl hb).2 h1
  refine ⟨x,x1,?_⟩
  have e3:St[cg (bV W St) 0 (dQ t)]=[]:=(getElem_congr_idx h2).trans ((mY p).2 (mY p).1)
  rw [e3,append_nil] at x2
  exact x2.symm
 ·rintro ⟨x,x1,rfl⟩
  rw [Xz q p x1]
  exact ⟨(mY p).1,rfl⟩
def kD (p:cC) (V:List cC):Nat:=(V.map λw=>if p<+:w then 2^(10-w.length) else 0).sum
theorem XV:∀{l:List Nat},(∀x∈l,x=0)->l.sum=0
 | [],_=>rfl
 | a::l,h=>by
  rw [List.sum_cons,h a mem_cons_self,XV λx hx=>h x (mem_cons_of_mem _ hx)]
theorem G3 {p:cC}:∀{V:List cC},V.Nodup->p∈V->(∀v∈V,p<+:v->p=v)->kD p V=2^(10-p.length)
 | [],_,h,_=>by cases h
 | v::V,nd,h,hn=>by
  rw [nodup_cons] at nd
  have ec:kD p (v::V)=(if p<+:v then 2^(10-v.length) else 0)+kD p V:=by simp [kD]
  rw [ec]
  by_cases e:p=v
  ·subst e
   rw [if_pos (List.prefix_refl _)]
   have:kD p V=0:=by
    unfold kD
    refine XV λx hx=>?_
    obtain ⟨w,hw,rfl⟩:=mem_map.1 hx
    rw [if_neg]
    intro c
    have:=hn w (mem_cons_of_mem _ hw) c
    subst this
    exact nd.1 hw
   omega
  ·rw [if_neg λc=>e (hn v mem_cons_self c)]
   rcases mem_cons.1 h with h | h
   ·exact absurd h e
   ·rw [G3 nd.2 h λw hw=>hn w (mem_cons_of_mem _ hw)];omega
theorem alI {p w:cC} (aU:p≠w) (hb:∀c∈w,c=48∨c=49):(if p<+:w then 2^(10-w.length) else 0)=(if p++[48]<+:w then 2^(10-w.length) else 0)+(if p++[49]<+:w then 2^(10-w.length) else 0):=by
 by_cases h:p<+:w
 ·obtain ⟨r,rfl⟩:=h
  rcases r with _ | ⟨c,r⟩
  ·exact absurd (append_nil p).symm aU
  ·rw [if_pos (prefix_append _ _)]
   have key:∀b:UInt8,(p++[b]<+:p++c::r)↔b=c:=by
    intro b
    rw [List.prefix_append_right_inj]
    constructor
    ·intro h;exact (List.cons_prefix_cons.1 h).1
    ·rintro rfl;exact List.cons_prefix_cons.2 ⟨rfl,List.nil_prefix⟩
   rcases hb c (by simp) with rfl | rfl
   ·rw [if_pos ((key 48).2 rfl),if_neg (λh=>absurd ((key 49).1 h) (by decide))];rfl
   ·rw [if_neg (λh=>absurd ((key 48).1 h) (by decide)),if_pos ((key 49).2 rfl)];omega
 ·rw [if_neg h,if_neg λc=>h ((prefix_append _ _).trans c),if_neg λc=>h ((prefix_append _ _).trans c)]
theorem Se {p:cC}:∀{V:List cC},p∉V->(∀w∈V,∀c∈w,c=48∨c=49)->kD p V=kD (p++[48]) V+kD (p++[49]) V
 | [],_,_=>rfl
 | v::V,h,hb=>by
  have ec:∀t:cC,kD t (v::V)=(if t<+:v then 2^(10-v.length) else 0)+kD t V:=λt=>by simp [kD]
  rw [ec,ec,ec,Se (λc=>h (mem_cons_of_mem _ c)) λw hw=>hb w (mem_cons_of_mem _ hw),
   alI (λc=>h (by rw [c];exact mem_cons_self)) (hb v mem_cons_self)]
  omega
theorem akf (q:jD W) (p:iB W St) (h:∀s∈St,∀c,(c=48∨c=49)->s++[c]∈St∨s++[c]∈W):
  ∀(d:Nat) (s:cC),s.length+d=10->(s∈St∨s∈W)->kD s W=2^d:=by
 intro d
 induction d with
 | zero=>
  intro s hs hm
  rcases hm with hm | hm
  ·obtain ⟨w,w1,_,w3⟩:=p.pre s hm
   have:=q.le w w1
   omega
  ·rw [G3 q.nd hm (q.nb s hm)]
   congr 1;omega
 | succ d ih=>
  intro s hs hm
  rcases hm with hm | hm
  ·rw [Se (XR q p hm) q.bt,ih (s++[48]) (by simp;omega) (h s hm 48 (.inl rfl)),ih (s++[49]) (by simp;omega) (h s hm 49 (.inr rfl))]
   rw [pow_succ];omega
  ·rw [G3 q.nd hm (q.nb s hm)]
   congr 1;omega
theorem akg (W:List cC):kD [] W=(W.map λw=>2^(10-w.length)).sum:=by
 exact congrArg List.sum (List.map_congr_left λw _=>if_pos List.nil_prefix)
theorem Xy (q:jD W) (p:iB W St) {w:cC} (hw:w∈W):∀m,m<w.length->cg (bV W St) 0 (dQ (w.take m))=St.idxOf (w.take m)
 | 0,_=>by rw [take_zero,XQ p];rfl
 | m+1,h=>by
  have h1:=uo p hw m (by omega)
  have h2:=uo p hw (m+1) h
  have ar:=List.idxOf_lt_length_iff.2 h1
  have e:=List.take_succ_eq_append_getElem (l:=w) (i:=m) (by omega)
  rw [e,Cs,pc,Xy q p hw m (by omega)]
  show bS (bV W St) _ (nq w[m])=_
  rw [wK ar (q.bt w hw _ (getElem_mem _)),getElem_idxOf ar,<-e]
  exact if_pos h2
theorem Xg (q:jD W) (p:iB W St) (hl:St.length<=5) (hk:(W.map λw=>2^(10-w.length)).sum≠1024):
  ∃u,(∀a∈u,a<2)/\u.length<=25/\jO (lP (bV W St) (St.length+1) (2^(St.length+1)-1) u)=true:=by
 have ahE:∃s∈St,∃c:UInt8,(c=48∨c=49)/\s++[c]∉St/\s++[c]∉W:=by
  apply byContradiction
  intro cL
  have h0:([]:cC)∈St:=by
   obtain ⟨h,e⟩:=mY p
   rw [<-e h];exact getElem_mem _
  have:=akf q p (λs hs c hc=>by
   apply byContradiction
   intro hh
   exact cL ⟨s,hs,c,hc,λa=>hh (.inl a),λa=>hh (.inr a)⟩) 10 [] rfl (.inl h0)
  rw [akg] at this
  exact hk this
 obtain ⟨s,hs,c,hc,m1,m2⟩:=ahE
 have b:=SQ W St
 have age:∃u,(∀a∈u,a<2)/\cg (bV W St) 0 u=St.length:=by
  obtain ⟨w,w1,w2,w3⟩:=p.pre s hs
  have e:w.take s.length=s:=(List.prefix_iff_eq_take.1 w2).symm
  have hr:=Xy q p w1 s.length w3
  rw [e] at hr
  refine ⟨dQ (s++[c]),J9 _,?_⟩
  rw [Cs,pc,hr]
  have ar:=List.idxOf_lt_length_iff.2 hs
  show bS (bV W St) _ (nq c)=_
  rw [wK ar hc,getElem_idxOf ar]
  unfold fz
  rw [if_neg m1,if_neg m2]
 obtain ⟨u0,u1,u2⟩:=age
 have all:∀s,s<St.length+1->∃u,(∀a∈u,a<2)/\cg (bV W St) s u=St.length:=by
  intro i hi
  by_cases e:i=St.length
  ·exact ⟨[],by simp,e⟩
  ·have ar:i<St.length:=by omega
   obtain ⟨w,w1,w2,w3⟩:=p.pre St[i] (getElem_mem _)
   have ew:w.take St[i].length=St[i]:=(List.prefix_iff_eq_take.1 w2).symm
   have hr:=Xw q p w1 (w.length-St[i].length-1) St[i].length (by omega)
   rw [ew,p.nd.idxOf_getElem i ar] at hr
   refine ⟨dQ (w.drop St[i].length)++u0,?_,?_⟩
   ·intro a ha
    rcases mem_append.1 ha with ha | ha
    ·exact J9 _ a ha
    ·exact u1 a ha
   ·rw [pc,hr];exact u2
 obtain ⟨u,a1,a2,a3⟩:=abR b (λa ha=>Hy ha) all St.length (by omega)
 have hz:∀i,i<St.length+1->cg (bV W St) i u=St.length:=by
  intro i hi
  by_cases e:i=St.length
  ·subst e
   have:∀v:List Nat,(∀a∈v,a<2)->cg (bV W St) St.length v=St.length:=by
    intro v
    induction v with
    | nil=>intro _;rfl
    | cons a v ih=>intro h;rw [xh,Hy (h a mem_cons_self)];exact ih λx hx=>h x (mem_cons_of_mem _ hx)
   exact this u a1
  ·exact a3 i (by omega)
 refine ⟨u,a1,?_,ai0 b a1 (by omega) hz⟩
 have:St.length*(St.length+1-1)<=5*5:=Nat.mul_le_mul hl (by omega)
 omega
end
section
def jP (W:List cC) (k:Nat):List cC:=W.take k++[W.getD k []++[48],W.getD k []++[49]]++W.drop (k+1)
def Jc (W:List cC) (b:Nat):List cC:=
 if 10<=(W.getD (b%W.length) []).length then W else
 if 200<=b/\2<(jP W (b%W.length)).length then (jP W (b%W.length)).drop 1 else jP W (b%W.length)
structure fS (W:List cC):Prop where
 p:jD W
 lo:2<=W.length
 hi:W.length<=5
theorem fS.start:fS [[48],[49]] where
 p:=⟨by decide,by decide,by decide,by decide,by decide⟩
 lo:=le_refl _
 hi:=by decide
theorem jD.sub {V W:List cC} (p:jD W) (h:List.Sublist V W):jD V:=
 ⟨p.nd.sublist h,λw hw=>p.ne w (h.subset hw),λv hv w hw=>p.nb v (h.subset hv) w (h.subset hw),λw hw=>p.bt w (h.subset hw),λw hw=>p.le w (h.subset hw)⟩
theorem jD.split {A B:List cC} {u:cC} (p:jD (A++u::B)) (hu:u.length<10):jD (A++[u++[48],u++[49]]++B):=by
 have um:u∈A++u::B:=by simp
 have old:∀v,v∈A∨v∈B->v∈A++u::B/\v≠u:=by
  intro v hv
  have:=p.nd
  rw [nodup_append,nodup_cons] at this
  obtain ⟨_,⟨n2,_⟩,n3⟩:=this
  rcases hv with hv | hv
  ·exact ⟨by simp [hv],λe=>n3 v hv u mem_cons_self e⟩
  ·exact ⟨by simp [hv],λe=>n2 (e ▸ hv)⟩
 have sR:∀v,v∈A++[u++[48],u++[49]]++B->(v∈A++u::B/\v≠u)∨∃c,(c=48∨c=49)/\v=u++[c]:=by
  intro v hv
  rw [mem_append,mem_append] at hv
  rcases hv with (hv | hv) | hv
  ·exact .inl (old v (.inl hv))
  ·rcases mem_cons.1 hv with rfl | hv
   ·exact .inr ⟨48,.inl rfl,rfl⟩
   ·rw [mem_singleton] at hv;exact .inr ⟨49,.inr rfl,hv⟩
  ·exact .inl (old v (.inr hv))
 have fresh:∀c,u++[c]∉A++u::B:=by
  intro c h
  have:=p.nb u um _ h (prefix_append _ _)
  have:=congrArg List.length this
  simp at this
 refine ⟨?_,?_,?_,?_,?_⟩
 ·have h:=p.nd
  rw [nodup_append,nodup_cons] at h
  obtain ⟨n1,⟨n2,n4⟩,n3⟩:=h
  rw [append_assoc,nodup_append]
  refine ⟨n1,?_,?_⟩
  ·have f1:u++[48]∉B:=λc=>fresh 48 (by simp [c])
   have f2:u++[49]∉B:=λc=>fresh 49 (by simp [c])
   show ((u++[48])::(u++[49])::B).Nodup
   rw [nodup_cons,nodup_cons]
   refine ⟨?_,f2,n4⟩
   intro c
   rcases mem_cons.1 c with c | c
   ·have:=List.append_cancel_left c
    exact absurd this (by decide)
   ·exact f1 c
  ·intro a ha b hb e
   subst e
   have hb:a∈(u++[48])::(u++[49])::B:=hb
   rcases mem_cons.1 hb with hb | hb
   ·exact fresh 48 (by rw [<-hb];simp [ha])
   ·rcases mem_cons.1 hb with hb | hb
    ·exact fresh 49 (by rw [<-hb];simp [ha])
    ·exact n3 a ha a (mem_cons_of_mem _ hb) rfl
 ·intro v hv
  rcases sR v hv with h | ⟨c,_,rfl⟩
  ·exact p.ne v h.1
  ·simp
 ·intro v hv w hw hp
  rcases sR v hv with ⟨h1,h2⟩ | ⟨c,hc,rfl⟩
  ·rcases sR w hw with ⟨g1,_⟩ | ⟨d,hd,rfl⟩
   ·exact p.nb v h1 w g1 hp
   ·rcases List.prefix_concat_iff.1 hp with e | e
    ·exact e
    ·exact absurd (p.nb v h1 u um e) h2
  ·rcases sR w hw with ⟨g1,g2⟩ | ⟨d,hd,rfl⟩
   ·exact absurd (p.nb u um w g1 ((prefix_append _ _).trans hp)).symm g2
   ·rw [List.prefix_append_right_inj] at hp
    rw [(List.cons_prefix_cons.1 hp).1]
 ·intro v hv x hx
  rcases sR v hv with h | ⟨c,hc,rfl⟩
  ·exact p.bt v h.1 x hx
  ·rcases mem_append.1 hx with hx | hx
   ·exact p.bt u um x hx
   ·rw [mem_singleton] at hx;subst hx;exact hc
 ·intro v hv
  rcases sR v hv with h | ⟨c,hc,rfl⟩
  ·exact p.le v h.1
  ·rw [length_append];simp only [length_cons,List.length_nil];omega
theorem fS.step {W:List cC} (q:fS W) (h5:W.length<5) (b:Nat):fS (Jc W b):=by
 have dX:=q.lo
 have hk:b%W.length<W.length:=mod_lt _ (by omega)
 unfold Jc
 split
 ·exact q
 ·rename_i ar
  have eg:W.getD (b%W.length) []=W[b%W.length]:=by rw [getD_eq_getElem?_getD,getElem?_eq_getElem hk,getD_some]
  have eW:W=W.take (b%W.length)++W[b%W.length]::W.drop (b%W.length+1):=by
   rw [<-drop_eq_getElem_cons hk,take_append_drop]
  have p2:jD (jP W (b%W.length)):=by
   unfold jP
   rw [eg]
   rw [eg] at ar
   have hp:=q.p
   rw [eW] at hp
   exact hp.split (by omega)
  have hl:(jP W (b%W.length)).length=W.length+1:=by
   unfold jP
   rw [length_append,length_append,length_take,List.length_drop]
   simp only [length_cons,List.length_nil]
   omega
  split
  ·refine ⟨p2.sub (List.drop_sublist _ _),?_,?_⟩ <;> rw [List.length_drop,hl] <;> omega
  ·refine ⟨p2,?_,?_⟩ <;> rw [hl] <;> omega
def qa (W S:List cC) (i k:Nat):List cC:=
 if (S.getD i []).length+1<(W.getD k []).length/\(W.getD k []).take (S.getD i []).length=S.getD i [] then
  (if (W.getD k []).take ((S.getD i []).length+1)∈S then S else S++[(W.getD k []).take ((S.getD i []).length+1)])
 else S
structure jE (W S:List cC) (i k:Nat):Prop where
 hd:S[0]?=some []
 nd:S.Nodup
 pre:∀s∈S,∃w∈W,s<+:w/\s.length<w.length
 dn:∀i',i'<i->∀s,S[i']?=some s->∀w∈W,s<+:w->s.length+1<w.length->w.take (s.length+1)∈S
 cu:∀s,S[i]?=some s->∀k',k'<k->∀w,W[k']?=some w->s<+:w->s.length+1<w.length->w.take (s.length+1)∈S
theorem jE.start {W:List cC} (q:fS W):jE W [[]] 0 0 where
 hd:=rfl
 nd:=by simp
 pre:=by
  intro s hs
  rw [mem_singleton] at hs;subst hs
  have:=q.lo
  refine ⟨W[0],getElem_mem _,List.nil_prefix,?_⟩
  have:=q.p.ne W[0] (getElem_mem _)
  exact length_pos_iff.2 this
 dn:=λi h=>by omega
 cu:=λs _ k h=>by omega
theorem jE.step {W S:List cC} {i k:Nat} (p:jE W S i k) (hi:i<S.length) (hk:k<W.length):jE W (qa W S i k) i (k+1):=by
 have es:S.getD i []=S[i]:=by rw [getD_eq_getElem?_getD,getElem?_eq_getElem hi,getD_some]
 have ew:W.getD k []=W[k]:=by rw [getD_eq_getElem?_getD,getElem?_eq_getElem hk,getD_some]
 unfold qa
 rw [es,ew]
 have same:(S[i]<+:W[k]->S[i].length+1<W[k].length->W[k].take (S[i].length+1)∈S)->jE W S i (k+1):=by
  intro h
  refine ⟨p.hd,p.nd,p.pre,p.dn,?_⟩
  intro s hs k' bO w hw h1 h2
  by_cases c:k'=k
  ·subst c
   rw [getElem?_eq_getElem hk] at hw
   rw [getElem?_eq_getElem hi] at hs
   cases hw;cases hs
   exact h h1 h2
  ·exact p.cu s hs k' (by omega) w hw h1 h2
 by_cases c:S[i].length+1<W[k].length/\W[k].take S[i].length=S[i]
 ·rw [if_pos c]
  by_cases m:W[k].take (S[i].length+1)∈S
  ·rw [if_pos m];exact same λ_ _=>m
  ·rw [if_neg m]
   refine ⟨?_,?_,?_,?_,?_⟩
   ·rw [getElem?_append_left (by omega)];exact p.hd
   ·rw [nodup_append]
    refine ⟨p.nd,by simp,?_⟩
    intro a ha b hb e
    rw [mem_singleton] at hb
    exact m (by rw [<-hb,<-e];exact ha)
   ·intro s hs
    rcases mem_append.1 hs with hs | hs
    ·exact p.pre s hs
    ·rw [mem_singleton] at hs;subst hs
     exact ⟨W[k],getElem_mem _,List.take_prefix _ _,by rw [length_take];omega⟩
   ·intro i' h s hs w hw h1 h2
    rw [getElem?_append_left (by omega)] at hs
    exact mem_append_left _ (p.dn i' h s hs w hw h1 h2)
   ·intro s hs k' bO w hw h1 h2
    rw [getElem?_append_left hi] at hs
    by_cases c:k'=k
    ·subst c
     rw [getElem?_eq_getElem hk] at hw
     rw [getElem?_eq_getElem hi] at hs
     cases hw;cases hs
     exact List.mem_append_right _ mem_cons_self
    ·exact mem_append_left _ (p.cu s hs k' (by omega) w hw h1 h2)
 ·rw [if_neg c]
  exact same λh1 h2=>absurd ⟨h2,(List.prefix_iff_eq_take.1 h1).symm⟩ c
theorem apr (W S:List cC) (i k:Nat):S.length<=(qa W S i k).length:=by
 unfold qa
 split
 ·split <;> simp
 ·exact le_refl _
theorem jE.next {W S:List cC} {i:Nat} (p:jE W S i W.length):jE W S (i+1) 0 where
 hd:=p.hd
 nd:=p.nd
 pre:=p.pre
 dn:=by
  intro i' h s hs w hw h1 h2
  by_cases c:i'=i
  ·subst c
   obtain ⟨k,g⟩:=List.getElem?_of_mem hw
   exact p.cu s hs k (ba g).1 w g h1 h2
  ·exact p.dn i' (by omega) s hs w hw h1 h2
 cu:=λs _ k h=>by omega
theorem jE.done {W S:List cC} {i:Nat} (p:jE W S i 0) (h:S.length<=i):iB W S where
 hd:=p.hd
 nd:=p.nd
 pre:=p.pre
 cl:=by
  intro s hs w hw h1 h2
  obtain ⟨j,g⟩:=List.getElem?_of_mem hs
  exact p.dn j (by have:=(ba g).1;omega) s g w hw h1 h2
theorem SO:∀{l m:List cC},l.Nodup->(∀a∈l,a∈m)->l.length<=m.length
 | [],_,_,_=>zero_le _
 | a::l,m,hn,hm=>by
  rw [nodup_cons] at hn
  have ha:=hm a mem_cons_self
  have:=SO (l:=l) (m:=m.erase a) hn.2 λb hb=>by
   refine (List.mem_erase_of_ne ?_).2 (hm b (mem_cons_of_mem _ hb))
   rintro rfl
   exact hn.1 hb
  rw [List.length_erase_of_mem ha] at this
  have:=List.length_pos_of_mem ha
  rw [length_cons];omega
theorem apB (W:List cC):(W.flatMap λw=>(List.range 10).map λi=>w.take i).length=10*W.length:=by
 induction W with
 | nil=>rfl
 | cons w W ih=>
  rw [List.flatMap_cons,length_append,ih]
  simp;omega
theorem jE.gF {W S:List cC} {i k:Nat} (p:jE W S i k) (q:fS W):S.length<=50:=by
 have:=SO (m:=W.flatMap λw=>(List.range 10).map λi=>w.take i) p.nd λs hs=>by
  obtain ⟨w,w1,w2,w3⟩:=p.pre s hs
  have:=q.p.le w w1
  exact List.mem_flatMap.2 ⟨w,w1,mem_map.2 ⟨s.length,List.mem_range.2 (by omega),(List.prefix_iff_eq_take.1 w2).symm⟩⟩
 rw [apB] at this
 have:=q.hi
 omega
end
end Go.Sim
namespace Go.Proofs.YtncaiogfjjepcaaGreatDoor
open Go.Sim
section
theorem Ym {v:Value} {W:List Tx} {h:ae} {K:Value->ae->Prop} (hv:SS h v W) (hl:W.length<=1000) (hk:∀u h',EX h h'->cK h.length h' 3 u ((W.map List.length).map λn:Nat=>I n)->K u h'):aw prog 11 [v] h K:=by
 refine f11 ?_
 unfold Dp
 simp only [mk0,bc]
 refine cG (σ:=Nat×Value×ae) (λq=>[q.2.1,I q.1]) (λq=>q.2.2) (λq=>q.1<=W.length/\EX h q.2.2/\cK h.length q.2.2 3 q.2.1 (((W.take q.1).map List.length).map λn:Nat=>I n)) (λq=>W.length-q.1)
  (0,sl 3 h.length 0 0,h++[.arr 3 []]) rfl rfl ⟨zero_le _,EX.append _ _,.inr ⟨h.length,le_refl _,rfl,bP⟩⟩ ?_
 rintro ⟨i,vo,g⟩ ⟨hi,xg,own⟩ L hL
 simp only at hi xg own hL⊢
 have hs:=hv.mono xg
 rw [alP]
 simp only [hs.len,ag,cb,bL]
 refine ⟨λar=>?_,λcY=>?_⟩
 ·have ar:i<W.length:=by omega
  obtain ⟨b,o,a1,a2⟩:=hs.get i ar
  simp only [a1,a2,ag,gX]
  refine M1 own xg (by simp;omega) (by simp [maxLen];omega) rfl rfl ?_
  intro v' g' x' wS
  simp only [cD,ag,dW i (show i<maxLen by simp [maxLen];omega),true_and]
  refine hL (i+1,v',g') ⟨ar,x',?_⟩ (by show W.length-(i+1)<W.length-i;omega)
  show cK h.length g' 3 v' (((W.take (i+1)).map List.length).map λn:Nat=>I n)
  rw [List.take_succ_eq_append_getElem ar,map_append,map_append]
  exact wS
 ·have:i=W.length:=by omega
  subst this
  rw [take_length] at own
  rw [alO]
  exact hk vo g xg own
theorem sP {e:TypeId} {bytes:Nat} {h0 g:ae} {v x:Value} {xs ys:List Value} {K:Value->ae->Prop} (own:cK h0.length g e v xs) (hex:EX h0 g) (hs:eX g 1 x=some ys) (hx:iM x=some ys.length) (hl:xs.length+ys.length<=1000) (hb:bytes<=1000)
  (hk:∀v' g',EX h0 g'->(∀d,d<g.length->(∀n,v≠sl e d 0 n)->g'[d]?=g[d]?)->cK h0.length g' e v' (xs++ys)->K v' g'):OH (cE e 1 bytes g v x) K:=by
 have mb:∀m:Nat,m<=1000->m*bytes<=140737488355328:=λm hm=>le_trans (Nat.mul_le_mul hm hb) (by omega)
 rcases own with ⟨rfl,rfl⟩ | ⟨i,hi,rfl,hg⟩
 ·by_cases jj:ys.length=0
  ·have:ys=[]:=length_eq_zero_iff.1 jj
   subst this
   refine l6 (v:=.slice none 0 0) (h:=g) ?_ (hk _ _ hex (λ_ _ _=>rfl) (.inl ⟨rfl,rfl⟩))
   simp only [cE,hs,hx]
   rw [if_pos (by rfl)]
  ·refine l6 (v:=sl e g.length 0 ys.length) (h:=g++[.arr e ys]) ?_ (hk _ _ (hex.push _) (λd hd _=>getElem?_append_left hd) (.inr ⟨g.length,hex.1,by simp,by simp⟩))
   simp only [cE,hs,hx]
   simp at hl
   rw [if_neg jj,if_pos ⟨mb _ hl,by simp [maxLen];omega⟩]
 ·have hz:xs.length=0+xs.length*1:=by omega
  by_cases jj:ys.length=0
  ·have:ys=[]:=length_eq_zero_iff.1 jj
   subst this
   refine l6 (v:=sl e i 0 xs.length) (h:=g) ?_ (hk _ _ hex (λ_ _ _=>rfl) (.inr ⟨i,hi,by simp,by simpa using hg⟩))
   simp only [cE,hs,hx]
   simp only [sl,hg]
   rw [if_pos ⟨trivial,trivial,hz,mb _ (by simpa using hl),by simp [maxLen];omega⟩,if_pos (by rfl)]
  ·refine l6 (v:=sl e g.length 0 (xs.length+ys.length)) (h:=g.set i .dead++[.arr e (xs++ys)]) ?_ (hk _ _ ((hex.set hi _).push _) (λd hd aU=>?_) (.inr ⟨g.length,hex.1,by simp,by simp⟩))
   ·simp only [cE,hs,hx]
    simp only [sl,hg]
    rw [if_pos ⟨trivial,trivial,hz,mb _ hl,by simp [maxLen];omega⟩,if_neg jj,drop_zero]
   ·have vE:i≠d:=by rintro rfl;exact aU _ rfl
    rw [getElem?_append_left (by simpa using hd),List.getElem?_set_ne vE]
def QT (b:Nat) (g:ae) (v:Value) (W:List Tx):Prop:=∃i pre,b<=i/\v=sl 9 i pre.length W.length/\g[i]?=some (.arr 9 (pre++W.map S))
theorem XM {e:TypeId} {i o n k:Nat} (hk:k<n):aI 1 (sl e i o n) (I k)=some (pt i (o+k)):=by
 simp [aI,sl,hk]
theorem JY {g:ae} {e:TypeId} {i o n:Nat} {cs:List Value} (hg:bn g i=some cs) (hl:o+n<=cs.length):eX g 1 (sl e i o n)=some ((cs.drop o).take n):=by
 simp only [eX,sl]
 by_cases h0:n=0
 ·rw [if_pos h0,h0];simp
 ·rw [if_neg h0,hg]
  simp only [bind_some]
  rw [if_pos (by omega),Nat.mul_one]
theorem SS.at {g:ae} {i:Nat} {pre post:List Value} {W:List Tx} (hg:bn g i=some (pre++W.map S++post)):SS g (sl 9 i pre.length W.length) W:=
 ⟨rfl,λk hk=>⟨i,pre.length+k,XM hk,by simp [af,hg,cU,List.getElem?_append_right,getElem?_append_left,hk]⟩⟩
theorem QT.sv {b:Nat} {g:ae} {v:Value} {W:List Tx} (q:QT b g v W):SV g v W:=by
 obtain ⟨i,pre,_,rfl,hg⟩:=q
 have hc:bn g i=some (pre++W.map S):=by simp [bn,hg]
 refine ⟨SS.at (post:=[]) (by rw [hc];simp),λk hk=>⟨sl 9 i pre.length k,?_,?_⟩⟩
 ·simp [gH,sl,lj]
  exact ⟨0,k,by simp [lQ];omega,by simp,by simp⟩
 ·have:=SS.at (g:=g) (i:=i) (pre:=pre) (post:=(W.drop k).map S) (W:=W.take k) (by rw [hc,append_assoc,<-map_append,take_append_drop])
  rwa [length_take,min_eq_left hk] at this
end
section
theorem Bo {g:ae} {i m:Nat} {ls:List Tx} (hi:g[i]?=some (.arr 9 (ls.map S))):cF g (sl 9 i 0 m)=some (.agg (Value.int .i64 9::ls.map S).toArray):=by
 have:(ls.map S).all (gY i)=true:=by
  rw [List.all_map,List.all_eq_true]
  intro x _;rfl
 simp only [cF,rG,sl,bind_some,hi,jY,this,if_true]
 rfl
theorem Nf {b:Nat} (hb:b<256):fg .i64 (.int .u8 (b:Int))=some (I b):=by
 rw [jX,wrap64 (by omega) (by omega)]
theorem C4 {vx:Value} {bs:List Nat} {h:ae} {K:Value->ae->Prop} (hx:qq h 5 .u8 vx (bs.map λb:Nat=>(b:Int))) (hb:∀b∈bs,b<256) (hl:bs.length<=maxLen)
  (hk:∀W v h',EX h h'->fS W->QT h.length h' v W->K v h'):aw prog 4 [vx,I 5] h K:=by
 refine f4 ?_
 unfold T4
 have JT:(.string ⟨#[48]⟩:Value)=S [48]:=rfl
 have ui:(.string ⟨#[49]⟩:Value)=S [49]:=rfl
 rw [JT,ui]
 have SB:∀(g:ae) (a b:Tx),bq 9 2 [(.string ⟨#[]⟩)] g [(0,1,S a),(1,1,S b)]=some (sl 9 g.length 0 2,g++[.arr 9 [S a,S b]]):=by
  intro g a b
  simp [bq,fE,dt,setAt,de,bK,Value.cells,S]
 have akL:∀g:ae,bq 9 0 [(.string ⟨#[]⟩)] g []=some (sl 9 g.length 0 0,g++[.arr 9 []]):=by
  intro g
  simp [bq,fE,dt]
 simp only [SB,bc]
 have pR:=hx.ns (by rw [length_map];exact hl)
 have Sj:=pR.len
 rw [length_map] at Sj
 have q0:QT h.length (h++[.arr 9 [S [48],S [49]]]) (sl 9 h.length 0 2) [[48],[49]]:=⟨h.length,[],le_refl _,rfl,bP⟩
 refine cG (σ:=Nat×List Tx×Value×ae) (λq=>[q.2.2.1,I q.1]) (λq=>q.2.2.2) (λq=>q.1<=bs.length/\fS q.2.1/\EX h q.2.2.2/\QT h.length q.2.2.2 q.2.2.1 q.2.1) (λq=>bs.length-q.1)
  (0,[[48],[49]],sl 9 h.length 0 2,h++[.arr 9 [S [48],S [49]]]) rfl rfl ⟨zero_le _,fS.start,EX.append _ _,q0⟩ ?_
 rintro ⟨j,W,l,g⟩ ⟨hj,pb,xg,qt⟩ L hL
 simp only at hj pb xg qt hL⊢
 have sv:=qt.sv
 rw [ans]
 simp only [Sj,ag,cb]
 have done:IV prog K l g:=by rw [anr];exact hk W l g xg pb qt
 by_cases cY:¬j<bs.length
 ·rw [bN (show ¬(j:Int)<bs.length by omega),WZ]
  simp only [jz]
  rw [W0]
  simp only [dO,ag,cN]
  exact done
 have ar:j<bs.length:=by omega
 rw [cz (show (j:Int)<bs.length by omega),WZ]
 simp only [hI,sv.ss.len,ag,cb]
 rw [W0]
 simp only [fh,ag,bL]
 refine ⟨λh5=>?_,λ_=>done⟩
 have h5:W.length<5:=by omega
 have lo:=pb.lo
 have next:∀W' v' g',fS W'->EX h g'->QT h.length g' v' W'->r6 prog K vx (I 5) v' (I j) L g':=by
  intro W' v' g' p1 x1 q1
  rw [anq]
  simp only [cD,ag,true_and]
  rw [dW j (by omega)]
  exact hL (j+1,W',v',g') ⟨ar,p1,x1,q1⟩ (by show bs.length-(j+1)<bs.length-j;omega)
 have pK:=hb _ (getElem_mem ar)
 obtain ⟨b1,o1,a1,a2⟩:=pR.get j (by simpa using ar)
 rw [List.getElem_map] at a2
 have MS:=EX.load xg a2
 have rem:ai .rem (I bs[j]) (I W.length)=some (I (bs[j]%W.length:Nat)):=xe .i64 _ _ (by omega)
 have gG:bs[j]%W.length<W.length:=mod_lt _ (by omega)
 have kh:=pb.step h5 bs[j]
 unfold Jc at kh
 generalize du:bs[j]%W.length=k at gG kh rem
 have eg:W.getD k []=W[k]:=by rw [getD_eq_getElem?_getD,getElem?_eq_getElem gG,getD_some]
 rw [eg] at kh
 obtain ⟨i,pre,hi,rfl,hg⟩:=qt
 have nF:bn g i=some (pre++W.map S):=by simp [bn,hg]
 have arL:=(ba hg).1
 have ak:aI 1 (sl 9 i pre.length W.length) (I k)=some (pt i (pre.length+k)):=XM gG
 have ld:∀{g'},EX g g'->af false 1 g' (pt i (pre.length+k))=some (S W[k]):=by
  intro g' x
  have:bn g' i=some (pre++W.map S):=x.cells nF
  simp [af,this,cU,gG]
 have wq:=pb.p.le _ (getElem_mem gG)
 simp only [a1,MS,Nf pK,ag,sv.ss.len,rem,ak,ld (EX.refl g),gX,lG,bL]
 refine ⟨λFQ=>?_,λFQ=>?_⟩
 ·rw [if_pos (by omega)] at kh
  exact next W _ g kh xg ⟨i,pre,hi,rfl,hg⟩
 rw [if_neg (by omega)] at kh
 have x1:EX g (g++[.arr 9 []]):=EX.append _ _
 have x2:EX g (g++[.arr 9 []]++[.arr 9 [S (W[k]++[48]),S (W[k]++[49])]]):=x1.trans (EX.append _ _)
 have o1':cF (g++[.arr 9 []]) (sl 9 g.length 0 0)=some (.agg (Value.int .i64 9::([]:List Tx).map S).toArray):=Bo (ls:=[]) bP
 have gA:(g++[.arr 9 []]++[.arr 9 [S (W[k]++[48]),S (W[k]++[49])]])[g.length]?=some (.arr 9 (([]:List Tx).map S)):=(EX.append _ _).get bP
 have SR:cF (g++[.arr 9 []]++[.arr 9 [S (W[k]++[48]),S (W[k]++[49])]]) (sl 9 g.length 0 0)=some (.agg (Value.int .i64 9::([]:List Tx).map S).toArray):=Bo gA
 have n1:(g++[ax.arr 9 []]).length=g.length+1:=by simp
 have gB:(g++[.arr 9 []]++[.arr 9 [S (W[k]++[48]),S (W[k]++[49])]])[g.length+1]?=some (.arr 9 ([W[k]++[48],W[k]++[49]].map S)):=by rw [<-n1];exact bP
 have SU:cF (g++[.arr 9 []]++[.arr 9 [S (W[k]++[48]),S (W[k]++[49])]]) (sl 9 (g.length+1) 0 2)=some (.agg (Value.int .i64 9::[W[k]++[48],W[k]++[49]].map S).toArray):=Bo gB
 have abN:ai .add (S W[k]) (.string ⟨#[48]⟩)=some (S (W[k]++[48])):=l8 (a:=W[k]) (b:=[48]) (by simp [maxLen];omega)
 have abO:ai .add (S W[k]) (.string ⟨#[49]⟩)=some (S (W[k]++[49])):=l8 (a:=W[k]) (b:=[49]) (by simp [maxLen];omega)
 have alx:gH 9 1 (sl 9 i pre.length W.length) none (some (I k))=some (sl 9 i pre.length k):=by
  simp [gH,sl,lj]
  exact ⟨0,k,by simp [lQ];omega,by simp,by simp⟩
 have aly:gH 9 1 (sl 9 i pre.length W.length) (some (I (k+1:Nat))) none=some (sl 9 i (pre.length+(k+1)) (W.length-(k+1))):=by
  simp only [gH,sl,lj,lQ]
  simp
  exact ⟨k+1,W.length,by rw [if_pos (by omega)];simp;omega,rfl,rfl⟩
 simp only [akL,bc,o1',ld x1,abN,abO,SB,n1,SU,SR,alx,ag,true_and,and_self]
 generalize g++[ax.arr 9 []]++[ax.arr 9 [S (W[k]++[48]),S (W[k]++[49])]]=g2 at x2 gA gB SR SU
 have HF:cK g.length g2 9 (sl 9 g.length 0 0) []:=.inr ⟨g.length,le_refl _,rfl,gA⟩
 have c1:eX g2 1 (sl 9 i pre.length k)=some ((W.take k).map S):=by
  rw [JY (x2.cells nF) (by simp;omega)]
  simp [List.map_take]
 refine sP HF x2 c1 (by simp [iM,sl];omega) (by simp;omega) (show 16<=1000 by omega) ?_
 intro v3 g3 x3 rq lS
 have Qp:g3[g.length+1]?=some (.arr 9 ([W[k]++[48],W[k]++[49]].map S)):=by
  rw [rq (g.length+1) (ba gB).1 (λn hn=>by simp [sl] at hn)];exact gB
 have ak6:cF g3 (sl 9 (g.length+1) 0 2)=some (.agg (Value.int .i64 9::[W[k]++[48],W[k]++[49]].map S).toArray):=Bo Qp
 refine ⟨⟨ld x3,ld x3,ak6,trivial⟩,?_⟩
 have c2:eX g3 1 (sl 9 (g.length+1) 0 2)=some ([W[k]++[48],W[k]++[49]].map S):=by
  rw [JY (show bn g3 (g.length+1)=some ([W[k]++[48],W[k]++[49]].map S) by simp [bn,Qp]) (by simp)]
  simp
 refine sP lS x3 c2 (by simp [iM,sl]) (by simp;omega) (show 16<=1000 by omega) ?_
 intro v4 g4 x4 _ kg
 simp only [cD,ag]
 rw [dW k (by simp [maxLen];omega)]
 simp only [aly,ag]
 have c3:eX g4 1 (sl 9 i (pre.length+(k+1)) (W.length-(k+1)))=some ((W.drop (k+1)).map S):=by
  rw [JY (x4.cells nF) (by simp;omega)]
  simp [List.drop_append,List.map_drop]
  rw [take_of_length_le (by simp),List.drop_eq_nil_of_le (by omega),List.nil_append]
 refine sP kg x4 c3 (by simp [iM,sl]) (by simp;omega) (show 16<=1000 by omega) ?_
 intro v5 g5 x5 _ Bu
 have eW:([]:List Value)++(W.take k).map S++[W[k]++[48],W[k]++[49]].map S++(W.drop (k+1)).map S=(jP W k).map S:=by
  unfold jP
  rw [eg]
  simp
 rw [eW] at Bu
 have a3:=EX.load x5 MS
 have q5:QT h.length g5 v5 (jP W k):=by
  rcases Bu with ⟨rfl,e⟩ | ⟨i5,tv,rfl,F6⟩
  ·exfalso
   have:=congrArg List.length e
   simp [jP] at this
  ·exact ⟨i5,[],by have:=xg.1;omega,by simp,F6⟩
 simp only [a3,ag,lG]
 rw [anp]
 have fin:∀c:Bool,(c=true↔200<=bs[j]/\2<(jP W k).length)->aK (B c) (OP (gH 9 1 v5 (some (.int .i64 (1))) none) λnf=>r6 prog K vx (I 5) nf (I j) L g5) (r6 prog K vx (I 5) v5 (I j) L g5):=by
  intro c hc
  cases c with
  | true=>
   obtain ⟨h1,h2⟩:=hc.1 rfl
   rw [if_pos ⟨h1,h2⟩] at kh
   obtain ⟨i5,Je,tv,rfl,F6⟩:=q5
   have aU:jP W k≠[]:=by intro e;rw [e] at h2;simp at h2
   obtain ⟨w0,r0,e0⟩:=List.exists_cons_of_ne_nil aU
   have part:gH 9 1 (sl 9 i5 Je.length (jP W k).length) (some (.int .i64 (1))) none=some (sl 9 i5 (Je.length+1) ((jP W k).length-1)):=by
    simp only [gH,sl,lj,lQ]
    simp
    omega
   simp only [fD,part,ag]
   refine next _ _ g5 kh (xg.trans x5) ⟨i5,Je++[S w0],tv,by simp,?_⟩
   rw [F6,e0];simp
  | false=>
   have hn:¬(200<=bs[j]/\2<(jP W k).length):=λh=>by have:=hc.2 h;cases this
   rw [if_neg hn] at kh
   simp only [cN]
   exact next _ _ g5 kh (xg.trans x5) q5
 by_cases QD:200<=bs[j]
 ·rw [cz (show (200:Int)<=bs[j] by omega)]
  simp only [hI,q5.sv.ss.len,ag,fY]
  rw [W1]
  simp only [fh,ag]
  refine fin _ ?_
  rw [decide_eq_true_eq];omega
 ·rw [bN (show ¬(200:Int)<=bs[j] by omega)]
  simp only [jz]
  rw [W1]
  simp only [dO,ag]
  refine fin false ?_
  constructor
  ·intro h;cases h
  ·intro h;omega
end
section
def jF (W:List Tx) (x:List Tx):Prop:=∀w∈x,w∈W
def uJ (W:List Tx) (s:Tx):Prop:=∃x y,jF W x/\jF W y/\x≠y/\x.flatten=s/\y.flatten=s
theorem jF.snoc {W x:List Tx} (h:jF W x) {w:Tx} (hw:w∈W):jF W (x++[w]):=λv hv=>by
 rcases mem_append.1 hv with hv | hv
 ·exact h v hv
 ·rw [mem_singleton.1 hv];exact hw
theorem jF.tail {W x:List Tx} {v:Tx} (h:jF W (v::x)):jF W x:=λw hw=>h w (mem_cons_of_mem _ hw)
theorem run {W:List Tx}:∀(n:Nat) {a t:Tx} {x y:List Tx},x.length+y.length<=n->Rc W a t->a≠[]->jF W x->jF W y->a++x.flatten=y.flatten->∃t',Rc W [] t'/\t'<+:t++x.flatten:=by
 intro n
 induction n with
 | zero=>
  intro a t x y hn r ha hx hy e
  have:y=[]:=length_eq_zero_iff.1 (by omega)
  subst this
  simp at e
  exact absurd e.1 ha
 | succ n ih=>
  intro a t x y hn r ha hx hy e
  cases y with
  | nil=>simp at e;exact absurd e.1 ha
  | cons w y=>
   have hw:=hy w mem_cons_self
   rw [flatten_cons] at e
   simp only [length_cons] at hn
   rcases List.prefix_or_prefix_of_prefix (show a<+:a++x.flatten from prefix_append _ _) (show w<+:a++x.flatten from e ▸ prefix_append _ _) with hp | hp
   ·have r':=Rc.fwd r ha hw hp
    obtain ⟨q,rfl⟩:=hp
    rw [List.drop_left] at r'
    rw [append_assoc] at e
    have e':=List.append_cancel_left e
    by_cases hq:q=[]
    ·subst hq
     exact ⟨_,r',by simp⟩
    ·obtain ⟨t',h1,h2⟩:=ih (by omega) r' hq hy.tail hx e'.symm
     refine ⟨t',h1,?_⟩
     rw [e']
     simpa using h2
   ·have r':=Rc.bwd r ha hw hp
    obtain ⟨q,rfl⟩:=hp
    rw [List.drop_left] at r'
    rw [append_assoc] at e
    have e':=List.append_cancel_left e
    by_cases hq:q=[]
    ·subst hq
     exact ⟨_,r',prefix_append _ _⟩
    ·exact ih (by omega) r' hq hx hy.tail e'
theorem start {W:List Tx} {v w:Tx} {x y:List Tx} (aU:v≠w) (hx:jF W (v::x)) (hy:jF W (w::y)) (e:(v::x).flatten=(w::y).flatten):∃t',Rc W [] t'/\t'<+:(v::x).flatten:=by
 have key:∀{v w:Tx} {x y:List Tx},v≠w->jF W (v::x)->jF W (w::y)->v++x.flatten=w++y.flatten->v<+:w->∃t',Rc W [] t'/\t'<+:w++y.flatten:=by
  intro v w x y aU hx hy e hp
  have r:=Rc.init (hx v mem_cons_self) (hy w mem_cons_self) aU hp
  obtain ⟨q,rfl⟩:=hp
  rw [List.drop_left] at r
  rw [append_assoc] at e
  have e':=List.append_cancel_left e
  exact run _ (le_refl _) r (by rintro rfl;simp at aU) hy.tail hx.tail e'.symm
 rw [flatten_cons,flatten_cons] at e
 rw [flatten_cons]
 rcases List.prefix_or_prefix_of_prefix (show v<+:v++x.flatten from prefix_append _ _) (show w<+:v++x.flatten from e ▸ prefix_append _ _) with hp | hp
 ·rw [e];exact key aU hx hy e hp
 ·exact key (Ne.symm aU) hy hx e.symm hp
theorem uJ.rc {W:List Tx} (hn:∀w∈W,w≠[]) {s:Tx}:uJ W s->∃t,Rc W [] t/\t.length<=s.length:=by
 rintro ⟨x,y,hx,hy,aU,e1,e2⟩
 induction x generalizing y s with
 | nil=>
  cases y with
  | nil=>exact absurd rfl aU
  | cons w y=>
   subst e1
   have:=hn w (hy w mem_cons_self)
   simp at e2
   exact absurd e2.1 this
 | cons v x ih=>
  cases y with
  | nil=>
   subst e2
   have:=hn v (hx v mem_cons_self)
   simp at e1
   exact absurd e1.1 this
  | cons w y=>
   by_cases RA:v=w
   ·subst RA
    rw [flatten_cons] at e1 e2
    have e:x.flatten=y.flatten:=List.append_cancel_left (e1.trans e2.symm)
    obtain ⟨t,h1,h2⟩:=ih y hx.tail hy.tail (λh=>aU (by rw [h])) rfl e.symm
    exact ⟨t,h1,by rw [<-e1,length_append];omega⟩
   ·obtain ⟨t,h1,h2⟩:=start RA hx hy (e1.trans e2.symm)
    exact ⟨t,h1,by rw [<-e1];exact h2.length_le⟩
theorem aeG {W:List Tx} (ok:Ok W) (h0:W≠[]):iC W []=0:=by
 have:=ok.gF
 unfold iC
 rw [if_neg (by simp;omega),if_neg (by simp [h0,kv]),if_pos ⟨ok.nd,λw hw=>⟨ok.ne w hw,ok.le w hw,ok.bt w hw⟩⟩]
end
section
def nV (s:Tx) (i:Nat) (w:Tx):Bool:=decide (w<:+s.take i)
def mZ (s:Tx) (cs:List Nat) (i:Nat) (V:List Tx):Nat:=((V.filter (nV s i)).map λw=>cs.getD (i-w.length) 0).sum
/-- For each beginning. -/
def hC (W:List Tx) (s:Tx):Nat->List Nat
 | 0=>[1]
 | i+1=>hC W s i++[mZ s (hC W s i) (i+1) W]
theorem Xb (W:List Tx) (s:Tx):∀i,(hC W s i).length=i+1
 | 0=>rfl
 | i+1=>by rw [hC,length_append,Xb W s i];rfl
def r8 (W:List Tx) (s:Tx) (i:Nat):Nat:=(hC W s i).getD i 0
def iP (W:List Tx) (s:Tx):Nat->List (List (List Tx))
 | 0=>[[[]]]
 | i+1=>iP W s i++[(W.filter (nV s (i+1))).flatMap λw=>((iP W s i).getD (i+1-w.length) []).map (·++[w])]
theorem JK (W:List Tx) (s:Tx):∀i,(iP W s i).length=i+1
 | 0=>rfl
 | i+1=>by rw [iP,length_append,JK W s i];rfl
theorem Qu (l:List (List (List Tx))) (k:Nat):(l.map List.length).getD k 0=(l.getD k []).length:=by
 simp only [getD_eq_getElem?_getD,List.getElem?_map]
 cases l[k]? <;> rfl
theorem akt (V:List Tx) (f:Tx->List (List Tx)):(V.flatMap f).length=(V.map λw=>(f w).length).sum:=by
 induction V with
 | nil=>rfl
 | cons v V ih=>rw [List.flatMap_cons,length_append,ih,map_cons,List.sum_cons]
theorem JE (W:List Tx) (s:Tx):∀i,hC W s i=(iP W s i).map List.length
 | 0=>rfl
 | i+1=>by
  rw [hC,iP,map_append,<-JE W s i,map_cons,List.map_nil,akt]
  congr 2
  unfold mZ
  congr 1
  refine List.map_congr_left λw _=>?_
  rw [JE W s i,Qu,length_map]
theorem JL {W:List Tx} {s:Tx} (hn:∀w∈W,w≠[]):∀i,i<=s.length->∀j,j<=i->∀x,x∈(iP W s i).getD j []↔jF W x/\x.flatten=s.take j
 | 0,_,j,hj,x=>by
  have:j=0:=by omega
  subst this
  simp only [iP,List.getD_cons_zero,mem_singleton,take_zero]
  constructor
  ·rintro rfl;exact ⟨λw hw=>by simp at hw,rfl⟩
  ·rintro ⟨h1,h2⟩
   cases x with
   | nil=>rfl
   | cons v x=>
    rw [flatten_cons,List.append_eq_nil_iff] at h2
    exact absurd h2.1 (hn v (h1 v mem_cons_self))
 | i+1,hi,j,hj,x=>by
  have ih:=JL (W:=W) (s:=s) hn i (by omega)
  have hl:=JK W s i
  rw [iP]
  by_cases dH:j<=i
  ·rw [getD_eq_getElem?_getD,getElem?_append_left (by omega),<-getD_eq_getElem?_getD]
   exact ih j dH x
  ·have:j=i+1:=by omega
   subst this
   have e:(iP W s i++[(W.filter (nV s (i+1))).flatMap λw=>((iP W s i).getD (i+1-w.length) []).map (·++[w])]).getD (i+1) []=(W.filter (nV s (i+1))).flatMap λw=>((iP W s i).getD (i+1-w.length) []).map (·++[w]):=by
    rw [getD_eq_getElem?_getD,List.getElem?_append_right (by omega),hl,Nat.sub_self]
    rfl
   rw [e,List.mem_flatMap]
   have tl:(s.take (i+1)).length=i+1:=by rw [length_take];omega
   constructor
   ·rintro ⟨w,hw,hx⟩
    obtain ⟨oQ,wm⟩:=List.mem_filter.1 hw
    obtain ⟨y,hy,rfl⟩:=mem_map.1 hx
    have aU:=length_pos_iff.2 (hn w oQ)
    have hs:w<:+s.take (i+1):=by simpa [nV] using wm
    have wq:=hs.length_le
    obtain ⟨h1,h2⟩:=(ih _ (by omega) y).1 hy
    refine ⟨h1.snoc oQ,?_⟩
    obtain ⟨p,hp⟩:=hs
    have pl:p.length=i+1-w.length:=by
     have:=congrArg List.length hp
     rw [length_append] at this
     omega
    have:s.take (i+1-w.length)=p:=by
     have h3:(s.take (i+1)).take (i+1-w.length)=s.take (i+1-w.length):=by rw [List.take_take,min_eq_left (by omega)]
     rw [<-h3,<-hp,<-pl,List.take_left]
    rw [List.flatten_append,h2,this]
    simpa using hp
   ·rintro ⟨h1,h2⟩
    have hx:x≠[]:=by
     rintro rfl
     have:=congrArg List.length h2
     rw [tl] at this
     simp at this
    obtain ⟨y,w,rfl⟩:∃t c,x=t++[c]:=⟨x.dropLast,x.getLast hx,(List.dropLast_concat_getLast _).symm⟩
    have oQ:w∈W:=h1 w (by simp)
    have aU:=length_pos_iff.2 (hn w oQ)
    rw [List.flatten_append] at h2
    simp only [flatten_cons,List.flatten_nil,append_nil] at h2
    have hs:w<:+s.take (i+1):=⟨_,h2⟩
    have wq:=hs.length_le
    refine ⟨w,List.mem_filter.2 ⟨oQ,by simpa [nV] using hs⟩,mem_map.2 ⟨y,?_,rfl⟩⟩
    refine (ih _ (by omega) y).2 ⟨λv hv=>h1 v (by simp [hv]),?_⟩
    have pl:y.flatten.length=i+1-w.length:=by
     have:=congrArg List.length h2
     rw [length_append] at this
     omega
    have h3:(s.take (i+1)).take (i+1-w.length)=s.take (i+1-w.length):=by rw [List.take_take,min_eq_left (by omega)]
    rw [<-h3,<-h2,<-pl,List.take_left]
theorem akW {V:List Tx} {f:Tx->List (List Tx)} (hv:V.Nodup) (h1:∀v∈V,(f v).Nodup) (h2:∀v∈V,∀w∈V,v≠w->∀x∈f v,x∉f w):(V.flatMap f).Nodup:=by
 induction V with
 | nil=>exact List.nodup_nil
 | cons v V ih=>
  rw [nodup_cons] at hv
  rw [List.flatMap_cons]
  refine nodup_append.2 ⟨h1 v mem_cons_self,ih hv.2 (λw hw=>h1 w (mem_cons_of_mem _ hw)) (λa ha b hb=>h2 a (mem_cons_of_mem _ ha) b (mem_cons_of_mem _ hb)),λa ha b hb e=>?_⟩
  obtain ⟨w,hw,hQ⟩:=List.mem_flatMap.1 hb
  exact h2 v mem_cons_self w (mem_cons_of_mem _ hw) (by rintro rfl;exact hv.1 hw) a ha (e ▸ hQ)
theorem JM {W:List Tx} {s:Tx} (nd:W.Nodup):∀i j,((iP W s i).getD j []).Nodup
 | 0,0=>by simp [iP]
 | 0,j+1=>by simp [iP]
 | i+1,j=>by
  have hl:=JK W s i
  rw [iP]
  by_cases hj:j<i+1
  ·rw [getD_eq_getElem?_getD,getElem?_append_left (by omega),<-getD_eq_getElem?_getD]
   exact JM nd i j
  ·rw [getD_eq_getElem?_getD,List.getElem?_append_right (by omega)]
   by_cases dH:j-(iP W s i).length=0
   ·rw [dH,List.getElem?_cons_zero,getD_some]
    refine akW (nd.sublist List.filter_sublist) (λv _=>?_) (λv _ w _ aU x hx cT=>?_)
    ·refine List.pairwise_map.2 ((JM nd i _).imp λh e=>h ?_)
     exact List.append_cancel_right e
    ·obtain ⟨y,_,rfl⟩:=mem_map.1 hx
     obtain ⟨z,_,e⟩:=mem_map.1 cT
     have:=congrArg List.getLast? e
     simp at this
     exact aU this.symm
   ·rw [List.getElem?_eq_none (by simp;omega)]
    exact List.nodup_nil
theorem Xc (W:List Tx) (s:Tx) (i:Nat):r8 W s i=((iP W s i).getD i []).length:=by
 rw [r8,JE,Qu]
theorem aob {W:List Tx} {s:Tx} (nd:W.Nodup) (hn:∀w∈W,w≠[]) {x:List Tx} (hx:jF W x) (e:x.flatten=s) (h:¬uJ W s):r8 W s s.length=1:=by
 rw [Xc]
 have mm:=JL (W:=W) (s:=s) hn s.length (le_refl _) s.length (le_refl _)
 have nn:=JM (W:=W) (s:=s) nd s.length s.length
 have m1:=(mm x).2 ⟨hx,by rw [take_length,e]⟩
 generalize (iP W s s.length).getD s.length []=l at m1 mm nn
 match l with
 | []=>simp at m1
 | [a]=>rfl
 | a::b::l=>
  obtain ⟨a1,a2⟩:=(mm a).1 (by simp)
  obtain ⟨b1,b2⟩:=(mm b).1 (by simp)
  rw [take_length] at a2 b2
  refine absurd ⟨a,b,a1,b1,λe=>?_,a2,b2⟩ h
  rw [nodup_cons] at nn
  exact nn.1 (by rw [e];simp)
theorem apy {l:List Nat} {m:Nat} (h:∀x∈l,x<=m):l.sum<=l.length*m:=by
 induction l with
 | nil=>simp
 | cons x l ih=>
  have:=h x mem_cons_self
  have:=ih λy hy=>h y (mem_cons_of_mem _ hy)
  rw [List.sum_cons,length_cons,Nat.succ_mul];omega
theorem XT {s:Tx} {cs:List Nat} {i m:Nat} {V:List Tx} (hv:V.length<=12) (h:∀x∈cs,x<=m):mZ s cs i V<=12*m:=by
 unfold mZ
 refine le_trans (apy (m:=m) λx hx=>?_) (Nat.mul_le_mul_right _ ?_)
 ·obtain ⟨w,_,rfl⟩:=mem_map.1 hx
  rw [getD_eq_getElem?_getD]
  cases hc:cs[i-w.length]? with
  | none=>exact zero_le _
  | some c=>exact h c (List.mem_of_getElem? hc)
 ·rw [length_map]
  exact le_trans (List.length_filter_le _ _) hv
theorem Xa {W:List Tx} (hv:W.length<=12) (s:Tx):∀i,∀x∈hC W s i,x<=12^i
 | 0,x,hx=>by rw [hC,mem_singleton] at hx;rw [hx];exact le_refl _
 | i+1,x,hx=>by
  rw [hC] at hx
  have ih:=Xa hv s i
  rw [pow_succ,Nat.mul_comm]
  rcases mem_append.1 hx with hx | hx
  ·have:=ih x hx;omega
  ·rw [mem_singleton.1 hx]
   exact XT hv ih
theorem apx {s:Tx} {cs:List Nat} {i:Nat} (V:List Tx) (w:Tx):mZ s cs i (V++[w])=mZ s cs i V+(if nV s i w then cs.getD (i-w.length) 0 else 0):=by
 unfold mZ
 rw [List.filter_append,map_append,List.sum_append]
 by_cases h:nV s i w=true
 ·simp [h]
 ·simp [h]
end
section
section
variable {h : ae} {id : Nat}
abbrev hb (h:ae) (id:Nat) (xs:List UInt8):ae:=h.set id (.arr 5 (xs.map cv))
theorem AB (fL:id<h.length) (xs:List UInt8):(hb h id xs)[id]?=some (.arr 5 (xs.map cv)):=by simp [hb,fL]
theorem QL (fL:id<h.length) {xs:List UInt8} {j:Nat} {c:UInt8} (hj:xs[j]?=some c):af false 1 (hb h id xs) (pt id j)=some (cv c):=by
 simp [af,bn,AB fL,cU,hj]
theorem QM (fL:id<h.length) {xs:List UInt8} {j:Nat} (c:UInt8) (hj:j<xs.length):bE 1 (hb h id xs) (pt id j) (cv c)=some (undef,hb h id (xs.set j c)):=by
 rw [lU (AB fL xs) (by simpa using hj) rfl rfl]
 simp [hb,List.map_set]
end
end
section
def dj:Nat:=4294967296^100
theorem Ss {n:Nat} (h:n<4294967296^20):n<dj:=Nat.lt_of_lt_of_le h (Nat.pow_le_pow_right (by decide) (by decide))
theorem nw {xs:List Nat} (h:dA 4294967296 xs) (hv:val 4294967296 xs<dj):xs.length<=100:=h.len (by decide) hv
def DS (e:TypeId) (k:IntKind) (h:ae) (v:Value) (xs:List Nat):Prop:=
 (v=.slice none 0 0/\xs=[])∨∃i,v=sl e i 0 xs.length/\(xs=[]∨∃rest,bn h i=some (xs.map (λd:Nat=>Value.int k (d:Int))++rest))
theorem DS.mono {e:TypeId} {k:IntKind} {h h':ae} {v:Value} {xs:List Nat} (x:EX h h') (p:DS e k h v xs):DS e k h' v xs:=
 p.imp id λ⟨i,a,b⟩=>⟨i,a,b.imp id λ⟨r,c⟩=>⟨r,x.cells c⟩⟩
theorem DS.len {e:TypeId} {k:IntKind} {h:ae} {v:Value} {xs:List Nat} (p:DS e k h v xs):aZ v=some (I xs.length):=by
 rcases p with ⟨rfl,rfl⟩ | ⟨i,rfl,_⟩ <;> rfl
theorem DS.get {e:TypeId} {k:IntKind} {h:ae} {v:Value} {xs:List Nat} (p:DS e k h v xs) {j:Nat} (hj:j<xs.length):∃i,aI 1 v (I j)=some (pt i j)/\af false 1 h (pt i j)=some (.int k (xs[j]:Int)):=by
 rcases p with ⟨_,rfl⟩ | ⟨i,rfl,hc⟩
 ·simp at hj
 ·obtain ⟨r,hc⟩:=hc.resolve_left (by rintro rfl;simp at hj)
  refine ⟨i,oc hj,?_⟩
  have:(xs.map (λd:Nat=>Value.int k (d:Int))++r)[j]?=some (.int k (xs[j]:Int)):=by rw [getElem?_append_left (by simpa using hj)];simp [hj]
  simp [af,hc,cU,this]
theorem DS.nil (e:TypeId) (k:IntKind) (h:ae):DS e k h (.slice none 0 0) []:=.inl ⟨rfl,rfl⟩
theorem DS.pop {e:TypeId} {k:IntKind} {h:ae} {v:Value} {xs:List Nat} (p:DS e k h v xs) {n:Nat} (hn:n<=xs.length):∃v',gH e 1 v none (some (I n))=some v'/\DS e k h v' (xs.take n):=by
 rcases p with ⟨rfl,rfl⟩ | ⟨i,rfl,hc⟩
 ·simp at hn;subst hn
  exact ⟨_,rfl,.inl ⟨rfl,rfl⟩⟩
 ·refine ⟨sl e i 0 n,?_,.inr ⟨i,by rw [length_take,min_eq_left hn],?_⟩⟩
  ·simp [gH,sl,lj,lQ,hn]
  ·rcases hc with rfl | ⟨r,hc⟩
   ·left;simp
   ·right
    refine ⟨(xs.drop n).map (λd:Nat=>Value.int k (d:Int))++r,?_⟩
    rw [hc,<-append_assoc,<-map_append,take_append_drop]
def cS (h:ae) (v:Value) (n:Nat):Prop:=∃xs,DS 79 .u32 h v xs/\dA 4294967296 xs/\val 4294967296 xs=n
theorem cS.mono {h h':ae} {v:Value} {n:Nat} (x:EX h h') (p:cS h v n):cS h' v n:=let ⟨xs,a,b,c⟩:=p;⟨xs,a.mono x,b,c⟩
theorem sF {h:ae} {K:Value->ae->Prop} {v:Value} {xs:List Nat} (p:DS 79 .u32 h v xs) (hl:ee 4294967296 xs) (hs:xs.length<=1000) (hk:∀v',cS h v' (val 4294967296 xs)->K v' h):aw prog 39 [v] h K:=by
 refine f39 ?_
 refine cG (σ:=Value×List Nat) (λp=>[p.1]) (λ_=>h) (λq=>DS 79 .u32 h q.1 q.2/\ee 4294967296 q.2/\val 4294967296 q.2=val 4294967296 xs/\q.2.length<=1000) (λq=>q.2.length) (v,xs) rfl rfl ⟨p,hl,rfl,hs⟩ ?_
 rintro ⟨v,ys⟩ ⟨p,hl,hv,hs⟩ L hL
 simp only at p hl hv hs hL⊢
 rw [amD]
 have done:dA 4294967296 ys->H9 prog K v h:=by
  intro hc
  rw [amC]
  exact hk v ⟨ys,p,hc,hv⟩
 simp only [p.len,ag,fY]
 by_cases h0:ys.length=0
 ·have:ys=[]:=length_eq_zero_iff.1 h0
  rw [bN (show ¬(0:Int)<(ys.length:Int) by omega)]
  simp only [WB,jz,WA,dO,ag,cN]
  exact done (by rw [this];exact dA.nil 4294967296)
 ·rw [cz (show (0:Int)<(ys.length:Int) by omega)]
  have e1:IntKind.wrap .i64 ((ys.length:Int)-1)=((ys.length-1:Nat):Int):=by rw [wrap64 (by omega) (by omega)];omega
  obtain ⟨i,g1,g2⟩:=p.get (j:=ys.length-1) (by omega)
  simp only [WB,hI,p.len,ag,ku,e1,g1,g2,ij,WA,fh,bL]
  refine ⟨λhz=>?_,λhz=>?_⟩
  ·obtain ⟨v',h1,h2⟩:=p.pop (n:=ys.length-1) (by omega)
   simp only [h1,ag,true_and]
   have ain:ys=ys.take (ys.length-1)++[0]:=by
    have:=List.take_succ_eq_append_getElem (l:=ys) (i:=ys.length-1) (by omega)
    rw [show ys.length-1+1=ys.length by omega,take_length] at this
    have pV:ys[ys.length-1]=0:=by omega
    rw [pV] at this
    exact this
   refine hL (v',ys.take (ys.length-1)) ⟨h2,hl.mono λy hy=>List.mem_of_mem_take hy,?_,by rw [length_take];omega⟩ (by simp;omega)
   rw [<-hv]
   conv=>rhs;rw [ain]
   rw [uw]
   simp [val]
  ·exact done (PS hl λh1 hc=>hz (by rw [hc];rfl))
/-- Fresh digits at the end of the heap. -/
abbrev hd (h:ae) (os:List Nat):ae:=h++[.arr 79 (os.map λd:Nat=>Value.int .u32 (d:Int))]
theorem Bh {h:ae} {n:Nat} (hn:n<=1000):jM 79 4 [.int .u32 0] h (I n) (I n)=some (sl 79 h.length 0 n,hd h (replicate n 0)):=by
 have hz:∀m,dt [Value.int .u32 0] m=(replicate m 0).map λd:Nat=>Value.int .u32 (d:Int):=by
  intro m
  induction m with
  | zero=>rfl
  | succ m ih=>
   have:dt [Value.int .u32 0] (m+1)=Value.int .u32 0::dt [Value.int .u32 0] m:=by simp [dt,List.replicate_succ]
   rw [this,ih,List.replicate_succ];rfl
 simp only [jM]
 rw [if_pos ⟨by omega,by omega,by omega,by omega⟩,Int.toNat_natCast,hz]
theorem agU (h:ae) (os:List Nat):(hd h os)[h.length]?=some (.arr 79 (os.map λd:Nat=>Value.int .u32 (d:Int))):=by simp [hd]
theorem tm {h:ae} {os:List Nat} {j:Nat} (d:Nat) (hj:j<os.length):bE 1 (hd h os) (pt h.length j) (.int .u32 (d:Int))=some (undef,hd h (os.set j d)):=by
 rw [lU (agU h os) (by simpa using hj) rfl rfl]
 simp [hd,List.map_set]
theorem agV {h:ae} {os:List Nat} {j:Nat} (hj:j<os.length):af false 1 (hd h os) (pt h.length j)=some (.int .u32 (os[j]:Int)):=by
 simp [af,bn,cU,hj]
theorem vC (h:ae) (os:List Nat):DS 79 .u32 (hd h os) (sl 79 h.length 0 os.length) os:=.inr ⟨h.length,rfl,.inr ⟨[],by simp [bn,hd]⟩⟩
theorem kS (h:ae) (os:List Nat):EX h (hd h os):=EX.append _ _
theorem jw {n:Int} (h1:0<=n) (h2:n<18446744073709551616):IntKind.wrap .u64 n=n:=by
 have e:IntKind.wrap .u64 n=n%18446744073709551616:=by simp [IntKind.wrap,IntKind.bits,IntKind.signed]
 rw [e];omega
theorem uA (n:Int):IntKind.wrap .u32 n=n%4294967296:=by simp [IntKind.wrap,IntKind.bits,IntKind.signed]
theorem nc {n:Int} (h1:0<=n) (h2:n<4294967296):IntKind.wrap .u32 n=n:=by rw [uA];omega
theorem JW (s:Nat):ai .shr (.int .u64 (s:Int)) (.int .u64 32)=some (.int .u64 ((s / 4294967296:Nat):Int)):=by
 simp only [ai,mM]
 rw [if_neg (by omega)]
 have:(min (32:Int).toNat IntKind.u64.bits)=32:=rfl
 rw [this]
 have e2:(2:Int)^32=4294967296:=by decide
 rw [e2,Int.fdiv_eq_ediv_of_nonneg _ (by omega)]
 congr 2
theorem YJ {x y c:Nat} {h:ae} {K:Value->ae->Prop} (hx:x<4294967296) (hy:y<4294967296) (hc:c<=1) (hk:K (.tuple #[.int .u32 (((x+y+c)%4294967296:Nat):Int),.int .u32 (((x+y+c) / 4294967296:Nat):Int)]) h):
  aw prog 60 [.int .u32 (x:Int),.int .u32 (y:Int),.int .u32 (c:Int)] h K:=by
 refine f60 ?_
 have e1:IntKind.wrap .u64 ((x:Int)+(y:Int))=((x+y:Nat):Int):=by rw [jw (by omega) (by omega)];omega
 have e2:IntKind.wrap .u64 (((x+y:Nat):Int)+(c:Int))=((x+y+c:Nat):Int):=by rw [jw (by omega) (by omega)];omega
 have e3:IntKind.wrap .u32 ((x+y+c:Nat):Int)=(((x+y+c)%4294967296:Nat):Int):=by rw [uA];omega
 simp only [DX,jX,ag,cD]
 rw [jw (n:=(x:Int)) (by omega) (by omega),jw (n:=(y:Int)) (by omega) (by omega),e1,jw (n:=(c:Int)) (by omega) (by omega),e2]
 simp only [JW,ag,jX,e3]
 rw [nc (by omega) (by omega)]
 exact hk
theorem Lk {va vb:Value} {xs ys:List Nat} {h:ae} {K:Value->ae->Prop} (hx:DS 79 .u32 h va xs) (hy:DS 79 .u32 h vb ys) (lx:ee 4294967296 xs) (ly:ee 4294967296 ys) (hle:ys.length<=xs.length) (hlen:xs.length<=200)
  (hk:∀v h',EX h h'->cS h' v (val 4294967296 xs+val 4294967296 ys)->K v h'):BI prog K va vb h:=by
 rw [am7]
 simp only [hx.len,ag,cD,mP xs.length (by omega),Bh (show xs.length+1<=1000 by omega),bc]
 have hW:0<4294967296:=by decide
 refine cG (σ:=Nat×Nat×List Nat) (λp=>[.int .u32 (p.1:Int),I p.2.1]) (λp=>hd h p.2.2)
  (λp=>p.2.1<=xs.length/\p.1<=1/\p.2.2.length=xs.length+1/\ee 4294967296 p.2.2/\(∀j (hj:j<p.2.2.length),p.2.1<=j->p.2.2[j]=0)/\val 4294967296 p.2.2+4294967296^p.2.1*p.1=val 4294967296 (xs.take p.2.1)+val 4294967296 (ys.take p.2.1)) (λp=>xs.length-p.2.1)
  (0,0,replicate (xs.length+1) 0) rfl rfl ⟨by simp,by simp,by simp,ee.CE hW _,by simp,by simp [Cm,val]⟩ ?_
 rintro ⟨c,i,os⟩ ⟨hi,hc,jl,iH,hz,dM⟩ L hL
 simp only at hi hc jl iH hz dM hL⊢
 rw [am3]
 have cT:=hx.mono (kS h os)
 have mJ:=hy.mono (kS h os)
 simp only [cb,ag,bL]
 refine ⟨λar=>?_,λcY=>?_⟩
 ·have eS:i<xs.length:=by omega
  obtain ⟨ia,a1,a2⟩:=cT.get eS
  have jn:xs[i]<4294967296:=lx _ (getElem_mem eS)
  have go:∀y:Nat,y<4294967296->val 4294967296 (ys.take (i+1))=val 4294967296 (ys.take i)+4294967296^i*y->BH prog K va vb (sl 79 h.length 0 (xs.length+1)) (.int .u32 (c:Int)) (I i) (.int .u32 (y:Int)) (I xs.length) (I i) L (hd h os):=by
   intro y oR Gz
   rw [am4]
   simp only [a1,ag,a2]
   refine YJ jn oR hc ?_
   simp only [hP,hX,hY,ag,oc (show i<xs.length+1 by omega)]
   rw [tm _ (by omega)]
   simp only [bc,am5,cD,ag,mP i (by omega),true_and]
   have oL:(xs[i]+y+c)%4294967296<4294967296:=mod_lt _ hW
   have vF:(xs[i]+y+c) / 4294967296<=1:=by omega
   refine hL ((xs[i]+y+c) / 4294967296,i+1,os.set i ((xs[i]+y+c)%4294967296)) ⟨by show i+1<=xs.length;omega,vF,by show (os.set i _).length=_;rw [length_set];exact jl,iH.set oL i,?_,?_⟩ (by show xs.length-(i+1)<xs.length-i;omega)
   ·intro j hj fM
    show (os.set i _)[j]=0
    have Gb:i≠j:=by have:i+1<=j:=fM;omega
    rw [getElem_set_ne Gb]
    exact hz j (by simpa using hj) (by have:i+1<=j:=fM;omega)
   ·show val 4294967296 (os.set i _)+4294967296^(i+1)*_=val 4294967296 (xs.take (i+1))+val 4294967296 (ys.take (i+1))
    have h1:=ux 4294967296 os i ((xs[i]+y+c)%4294967296) (by omega)
    rw [hz i (by omega) (le_refl _)] at h1
    rw [uy 4294967296 xs eS,Gz,pow_succ]
    have h2:=Nat.mod_add_div (xs[i]+y+c) 4294967296
    generalize (xs[i]+y+c)%4294967296=m at*
    generalize (xs[i]+y+c) / 4294967296=q at*
    generalize 4294967296^i=P at*
    generalize hWW:4294967296=w at*
    grind
  simp only [mJ.len,ag,cb,bL]
  refine ⟨λhly=>?_,λhgy=>?_⟩
  ·have rb:i<ys.length:=by omega
   obtain ⟨ib,b1,b2⟩:=mJ.get rb
   simp only [b1,ag,b2]
   exact go _ (ly _ (getElem_mem rb)) (uy 4294967296 ys rb)
  ·have:=go 0 (by decide) (by rw [take_of_length_le (by omega),take_of_length_le (by omega)];simp)
   simpa using this
 ·have:i=xs.length:=by omega
  subst this
  rw [am6]
  simp only [cT.len,ag,oc (show xs.length<xs.length+1 by omega)]
  rw [tm _ (by omega)]
  simp only [bc]
  have h1:=ux 4294967296 os xs.length c (by omega)
  rw [hz xs.length (by omega) (le_refl _)] at h1
  have hv:val 4294967296 (os.set xs.length c)=val 4294967296 xs+val 4294967296 ys:=by
   rw [take_length,take_of_length_le hle] at dM
   omega
  have hcW:c<4294967296:=Nat.lt_of_le_of_lt hc (by decide)
  have e:sl 79 h.length 0 (xs.length+1)=sl 79 h.length 0 (os.set xs.length c).length:=by rw [length_set,jl]
  rw [e]
  refine sF (vC h _) (iH.set hcW _) (by rw [length_set];omega) ?_
  intro v' hm
  rw [hv] at hm
  exact hk v' _ (kS h _) hm
theorem YD {va vb:Value} {a b:Nat} {h:ae} {K:Value->ae->Prop} (ha:cS h va a) (hb:cS h vb b) (la:a<dj) (lb:b<dj) (hk:∀v h',EX h h'->cS h' v (a+b)->K v h'):aw prog 41 [va,vb] h K:=by
 obtain ⟨xs,dx,cx,rfl⟩:=ha
 obtain ⟨ys,dy,cy,rfl⟩:=hb
 have l1:=nw cx la
 have l2:=nw cy lb
 refine f41 ?_
 simp only [DJ,dx.len,dy.len,ag,cb,bL]
 refine ⟨λar=>?_,λcY=>?_⟩
 ·refine Lk dy dx cy.1 cx.1 (by omega) (by omega) ?_
  rw [Nat.add_comm (val 4294967296 ys)]
  exact hk
 ·exact Lk dx dy cx.1 cy.1 (by omega) (by omega) hk
end
section
theorem qH (X:BitVec 32):BitVec.ofInt IntKind.u32.bits (X.toNat:Int)=X:=by
 show BitVec.ofInt 32 (X.toNat:Int)=X
 rw [BitVec.ofInt_natCast,BitVec.ofNat_toNat,BitVec.setWidth_eq]
theorem uV (X:BitVec 32):X.toNat<4294967296:=X.isLt
theorem abV (X Y:BitVec 32):ai .and (.int .u32 (X.toNat:Int)) (.int .u32 (Y.toNat:Int))=some (.int .u32 ((X &&& Y).toNat:Int)):=by
 have h:=uV (X &&& Y)
 have e:(BitVec.ofInt IntKind.u32.bits (X.toNat:Int) &&& BitVec.ofInt IntKind.u32.bits (Y.toNat:Int)).toNat=(X &&& Y).toNat:=by rw [qH,qH];rfl
 simp only [ai,gU,if_true]
 rw [e,nc (by omega) (by omega)]
theorem alk (X Y:BitVec 32):ai .or (.int .u32 (X.toNat:Int)) (.int .u32 (Y.toNat:Int))=some (.int .u32 ((X ||| Y).toNat:Int)):=by
 have h:=uV (X ||| Y)
 have e:(BitVec.ofInt IntKind.u32.bits (X.toNat:Int) ||| BitVec.ofInt IntKind.u32.bits (Y.toNat:Int)).toNat=(X ||| Y).toNat:=by rw [qH,qH];rfl
 simp only [ai,gU,if_true]
 rw [e,nc (by omega) (by omega)]
theorem aro (X Y:BitVec 32):ai .xor (.int .u32 (X.toNat:Int)) (.int .u32 (Y.toNat:Int))=some (.int .u32 ((X^^^Y).toNat:Int)):=by
 have h:=uV (X^^^Y)
 have e:(BitVec.ofInt IntKind.u32.bits (X.toNat:Int)^^^BitVec.ofInt IntKind.u32.bits (Y.toNat:Int)).toNat=(X^^^Y).toNat:=by rw [qH,qH];rfl
 simp only [ai,gU,if_true]
 rw [e,nc (by omega) (by omega)]
theorem akY (X:BitVec 32):fG .xor (.int .u32 (X.toNat:Int))=some (.int .u32 ((~~~X).toNat:Int)):=by
 have h:=uV (~~~X)
 have e:(BitVec.ofInt IntKind.u32.bits (if IntKind.u32.signed=true then -1 else IntKind.u32.max)^^^BitVec.ofInt IntKind.u32.bits (X.toNat:Int)).toNat=(~~~X).toNat:=by
  rw [qH]
  show (BitVec.ofInt 32 4294967295^^^X).toNat=_
  rw [show BitVec.ofInt 32 4294967295=BitVec.allOnes 32 from by decide,BitVec.allOnes_xor]
 simp only [fG]
 rw [e,nc (by omega) (by omega)]
theorem apE (Z:BitVec 32):ai .shr (.int .u32 (Z.toNat:Int)) (.int .u64 31)=some (.int .u32 ((if Z.msb then 1 else 0:Nat):Int)):=by
 have h:=uV Z
 simp only [ai,mM]
 rw [if_neg (by omega)]
 have:(min (31:Int).toNat IntKind.u32.bits)=31:=rfl
 rw [this]
 have e2:(2:Int)^31=2147483648:=by decide
 rw [e2,Int.fdiv_eq_ediv_of_nonneg _ (by omega),BitVec.msb_eq_decide]
 congr 2
 by_cases hz:2^31<=Z.toNat
 ·simp [hz];omega
 ·simp [hz];omega
theorem YK {x y b:Nat} {h:ae} {K:Value->ae->Prop} (hx:x<4294967296) (hy:y<4294967296) (hb:b<=1) (hk:K (.tuple #[.int .u32 (((x+4294967296+4294967296-y-b)%4294967296:Nat):Int),.int .u32 ((if x<y+b then 1 else 0:Nat):Int)]) h):
  aw prog 61 [.int .u32 (x:Int),.int .u32 (y:Int),.int .u32 (b:Int)] h K:=by
 refine f61 ?_
 obtain ⟨X,rfl⟩:∃X:BitVec 32,x=X.toNat:=⟨BitVec.ofNat 32 x,by rw [BitVec.toNat_ofNat];exact (Nat.mod_eq_of_lt hx).symm⟩
 obtain ⟨Y,rfl⟩:∃Y:BitVec 32,y=Y.toNat:=⟨BitVec.ofNat 32 y,by rw [BitVec.toNat_ofNat];exact (Nat.mod_eq_of_lt hy).symm⟩
 obtain ⟨D,hD⟩:∃D:BitVec 32,D.toNat=(X.toNat+4294967296+4294967296-Y.toNat-b)%4294967296:=⟨BitVec.ofNat 32 _,by rw [BitVec.toNat_ofNat]⟩
 have e1:IntKind.wrap .u32 (IntKind.wrap .u32 ((X.toNat:Int)-(Y.toNat:Int))-(b:Int))=(D.toNat:Int):=by
  rw [uA,uA,hD];omega
 simp only [DY,ku,ag,e1,akY,abV,aro,alk,apE]
 rw [<-hD] at hk
 have e2:(if (~~~X &&& Y ||| ~~~(X^^^Y) &&& D).msb then 1 else 0:Nat)=if X.toNat<Y.toNat+b then 1 else 0:=by
  rw [BitVec.msb_or,BitVec.msb_and,BitVec.msb_and,BitVec.msb_not,BitVec.msb_not,BitVec.msb_xor,BitVec.msb_eq_decide X,BitVec.msb_eq_decide Y,BitVec.msb_eq_decide D]
  by_cases c1:2^(32-1)<=X.toNat <;> by_cases c2:2^(32-1)<=Y.toNat <;> by_cases c3:2^(32-1)<=D.toNat <;> simp [c1,c2,c3] <;> omega
 rw [e2]
 exact hk
theorem Lm {va vb:Value} {a b:Nat} {h:ae} {K:Value->ae->Prop} (ha:cS h va a) (hb:cS h vb b) (la:a<dj) (j2:b<=a) (hk:∀v h',EX h h'->cS h' v (a-b)->K v h'):aw prog 43 [va,vb] h K:=by
 obtain ⟨xs,hx,cx,rfl⟩:=ha
 obtain ⟨ys,hy,cy,rfl⟩:=hb
 have l1:=nw cx la
 have l2:=nw cy (Nat.lt_of_le_of_lt j2 la)
 have hle:ys.length<=xs.length:=by
  apply byContradiction
  intro hc
  have:=dA.Hf (by decide) cx cy (by omega)
  omega
 refine f43 ?_
 simp only [DL,hx.len,ag,Bh (show xs.length<=1000 by omega),bc]
 have hW:(0:Nat)<4294967296:=by decide
 refine cG (σ:=Nat×Nat×List Nat) (λp=>[.int .u32 (p.1:Int),I p.2.1]) (λp=>hd h p.2.2)
  (λp=>p.2.1<=xs.length/\p.1<=1/\p.2.2.length=xs.length/\ee 4294967296 p.2.2/\(∀j (hj:j<p.2.2.length),p.2.1<=j->p.2.2[j]=0)/\val 4294967296 p.2.2+val 4294967296 (ys.take p.2.1)=val 4294967296 (xs.take p.2.1)+4294967296^p.2.1*p.1) (λp=>xs.length-p.2.1)
  (0,0,replicate xs.length 0) rfl rfl ⟨by simp,by simp,by simp,ee.CE hW _,by simp,by simp [Cm,val]⟩ ?_
 rintro ⟨c,i,os⟩ ⟨hi,hc,jl,iH,hz,dM⟩ L hL
 simp only at hi hc jl iH hz dM hL⊢
 rw [anc]
 have cT:=hx.mono (kS h os)
 have mJ:=hy.mono (kS h os)
 simp only [cb,ag,bL]
 refine ⟨λar=>?_,λcY=>?_⟩
 ·have eS:i<xs.length:=by omega
  obtain ⟨ia,a1,a2⟩:=cT.get eS
  have jn:xs[i]<4294967296:=cx.1 _ (getElem_mem eS)
  have go:∀y:Nat,y<4294967296->val 4294967296 (ys.take (i+1))=val 4294967296 (ys.take i)+4294967296^i*y->BJ prog K va vb (sl 79 h.length 0 xs.length) (.int .u32 (c:Int)) (I i) (.int .u32 (y:Int)) (I xs.length) (I i) L (hd h os):=by
   intro y oR Gz
   rw [am9]
   simp only [a1,ag,a2]
   refine YK jn oR hc ?_
   simp only [hP,hX,hY,ag,oc eS]
   rw [tm _ (by omega)]
   simp only [bc,ana,cD,ag,mP i (by omega),true_and]
   have oL:(xs[i]+4294967296+4294967296-y-c)%4294967296<4294967296:=mod_lt _ hW
   have Az:(if xs[i]<y+c then 1 else 0)<=1:=by split <;> omega
   have hs:(xs[i]+4294967296+4294967296-y-c)%4294967296+y+c=xs[i]+4294967296*(if xs[i]<y+c then 1 else 0):=by
    split <;> omega
   refine hL ((if xs[i]<y+c then 1 else 0),i+1,os.set i ((xs[i]+4294967296+4294967296-y-c)%4294967296)) ⟨by show i+1<=xs.length;omega,Az,by show (os.set i _).length=_;rw [length_set];exact jl,iH.set oL i,?_,?_⟩ (by show xs.length-(i+1)<xs.length-i;omega)
   ·intro j hj fM
    show (os.set i _)[j]=0
    have Gb:i≠j:=by have:i+1<=j:=fM;omega
    rw [getElem_set_ne Gb]
    exact hz j (by simpa using hj) (by have:i+1<=j:=fM;omega)
   ·show val 4294967296 (os.set i _)+val 4294967296 (ys.take (i+1))=val 4294967296 (xs.take (i+1))+4294967296^(i+1)*_
    have h1:=ux 4294967296 os i ((xs[i]+4294967296+4294967296-y-c)%4294967296) (by omega)
    rw [hz i (by omega) (le_refl _)] at h1
    rw [uy 4294967296 xs eS,Gz,pow_succ]
    generalize (xs[i]+4294967296+4294967296-y-c)%4294967296=m at*
    generalize (if xs[i]<y+c then 1 else 0)=q at*
    generalize 4294967296^i=P at*
    generalize (4294967296:Nat)=w at*
    grind
  simp only [mJ.len,ag,cb,bL]
  refine ⟨λhly=>?_,λhgy=>?_⟩
  ·have rb:i<ys.length:=by omega
   obtain ⟨ib,b1,b2⟩:=mJ.get rb
   simp only [b1,ag,b2]
   exact go _ (cy.1 _ (getElem_mem rb)) (uy 4294967296 ys rb)
  ·have:=go 0 (by decide) (by rw [take_of_length_le (by omega),take_of_length_le (by omega)];simp)
   simpa using this
 ·have:i=xs.length:=by omega
  subst this
  rw [anb]
  rw [take_length,take_of_length_le hle] at dM
  have ar:=Cl iH
  rw [jl] at ar
  have FW:c=0:=by
   apply byContradiction
   intro aU
   have:c=1:=by omega
   subst this
   omega
  subst FW
  have hv:val 4294967296 os=val 4294967296 xs-val 4294967296 ys:=by omega
  have e:sl 79 h.length 0 xs.length=sl 79 h.length 0 os.length:=by rw [jl]
  rw [e]
  refine sF (vC h _) iH (by omega) ?_
  intro v' hm
  rw [hv] at hm
  exact hk v' _ (kS h _) hm
def p8 (a b:Nat):Int:=if a<b then -1 else if b<a then 1 else 0
theorem X1 {B:Nat} {xs ys:List Nat} (lx:ee B xs) (_:ee B ys) (hl:xs.length=ys.length) {i:Nat} (hi:i<xs.length) (hd:xs.drop (i+1)=ys.drop (i+1)) (h:xs[i]<ys[i]'(by omega)):val B xs<val B ys:=by
 have e1:xs=xs.take i++xs[i]::xs.drop (i+1):=by rw [<-drop_eq_getElem_cons hi,take_append_drop]
 have e2:ys=ys.take i++ys[i]'(by omega)::ys.drop (i+1):=by rw [<-drop_eq_getElem_cons (by omega),take_append_drop]
 have v1:val B xs=val B (xs.take i)+B^i*(xs[i]+B*val B (xs.drop (i+1))):=by
  conv=>lhs;rw [e1]
  rw [uw,length_take,min_eq_left (by omega)];rfl
 have v2:val B ys=val B (ys.take i)+B^i*(ys[i]'(by omega)+B*val B (ys.drop (i+1))):=by
  conv=>lhs;rw [e2]
  rw [uw,length_take,min_eq_left (by omega)];rfl
 rw [v1,v2,hd]
 have h1:=Cl (lx.mono (ys:=xs.take i) λy hy=>List.mem_of_mem_take hy)
 rw [length_take,min_eq_left (by omega)] at h1
 have h2:B^i*(xs[i]+1+B*val B (ys.drop (i+1)))<=B^i*(ys[i]'(by omega)+B*val B (ys.drop (i+1))):=Nat.mul_le_mul_left _ (by omega)
 generalize B^i=P at*
 generalize B*val B (ys.drop (i+1))=Q at*
 generalize val B (xs.take i)=u at*
 generalize val B (ys.take i)=v at*
 have h3:P*(xs[i]+1+Q)=P*(xs[i]+Q)+P:=by grind
 omega
theorem Ll {va vb:Value} {a b:Nat} {h:ae} {K:Value->ae->Prop} (ha:cS h va a) (hb:cS h vb b) (la:a<dj) (lb:b<dj) (hk:K (I (p8 a b)) h):aw prog 42 [va,vb] h K:=by
 obtain ⟨xs,hx,cx,rfl⟩:=ha
 obtain ⟨ys,hy,cy,rfl⟩:=hb
 have l1:=nw cx la
 have l2:=nw cy lb
 have less:val 4294967296 xs<val 4294967296 ys->K (.int .i64 (-1)) h:=λh1=>by unfold p8 at hk;rw [if_pos h1] at hk;exact hk
 have more:val 4294967296 ys<val 4294967296 xs->K (.int .i64 1) h:=λh1=>by unfold p8 at hk;rw [if_neg (by omega),if_pos h1] at hk;exact hk
 have same:val 4294967296 xs=val 4294967296 ys->K (.int .i64 0) h:=λh1=>by unfold p8 at hk;rw [if_neg (by omega),if_neg (by omega)] at hk;exact hk
 refine f42 ?_
 simp only [DK,hx.len,hy.len,ag,jW,uO,cb,bL]
 refine ⟨λaU=>⟨λar=>less (dA.Hf (by decide) cx cy (by omega)),λcY=>more (dA.Hf (by decide) cy cx (by omega))⟩,λhe=>?_⟩
 have dD:xs.length=ys.length:=by omega
 simp only [ku,ag]
 have e1:IntKind.wrap .i64 ((xs.length:Int)-1)=(xs.length:Int)-1:=by rw [wrap64 (by omega) (by omega)]
 rw [e1]
 refine cG (σ:=Nat) (λi=>[I ((i:Int)-1)]) (λ_=>h) (λi=>i<=xs.length/\xs.drop i=ys.drop i) (λi=>i) xs.length rfl rfl ⟨le_refl _,by rw [List.drop_length,dD,List.drop_length]⟩ ?_
 rintro i ⟨hi,vH⟩ L hL
 rw [am8]
 simp only [lG,ag,bL]
 refine ⟨λcY=>?_,λar=>?_⟩
 ·obtain ⟨j,rfl⟩:∃j,i=j+1:=⟨i-1,by omega⟩
  have ej:(((j+1:Nat):Int)-1)=(j:Int):=by omega
  rw [ej]
  obtain ⟨ia,a1,a2⟩:=hx.get (j:=j) (by omega)
  obtain ⟨ib,b1,b2⟩:=hy.get (j:=j) (by omega)
  simp only [a1,a2,b1,b2,ag,true_and,jW,uO,cb,bL]
  refine ⟨λaU=>⟨λar=>less (X1 cx.1 cy.1 dD (i:=j) (by omega) vH (by omega)),λcY=>more (X1 cy.1 cx.1 dD.symm (i:=j) (by omega) vH.symm (by omega))⟩,λheq=>?_⟩
  simp only [ku,ag]
  rw [wrap64 (by omega) (by omega)]
  refine hL j ⟨by omega,?_⟩ (by omega)
  rw [drop_eq_getElem_cons (by omega),drop_eq_getElem_cons (show j<ys.length by omega),vH]
  congr 1
  omega
 ·have:i=0:=by omega
  subst this
  rw [drop_zero,drop_zero] at vH
  exact same (by rw [vH])
end
section
theorem akN {x y:Nat} (hx:x<4294967296) (hy:y<4294967296):x*y<=18446744065119617025:=by
 have:=Nat.mul_le_mul (show x<=4294967295 by omega) (show y<=4294967295 by omega)
 omega
theorem YP {va vb:Value} {a b:Nat} {h:ae} {K:Value->ae->Prop} (ha:cS h va a) (hb:cS h vb b) (la:a<dj) (lb:b<dj) (hk:∀v h',EX h h'->cS h' v (a*b)->K v h'):aw prog 68 [va,vb] h K:=by
 obtain ⟨xs,hx,cx,rfl⟩:=ha
 obtain ⟨ys,hy,cy,rfl⟩:=hb
 have l1:=nw cx la
 have l2:=nw cy lb
 have hW:(0:Nat)<4294967296:=by decide
 refine f68 ?_
 have e0:IntKind.wrap .i64 ((xs.length:Int)+(ys.length:Int))=((xs.length+ys.length:Nat):Int):=by rw [wrap64 (by omega) (by omega)];omega
 simp only [Eb,hx.len,hy.len,ag,cD,e0,Bh (show xs.length+ys.length<=1000 by omega),bc]
 refine cG (σ:=Nat×List Nat) (λp=>[I p.1]) (λp=>hd h p.2)
  (λp=>p.1<=xs.length/\p.2.length=xs.length+ys.length/\ee 4294967296 p.2/\(∀j (hj:j<p.2.length),p.1+ys.length<=j->p.2[j]=0)/\val 4294967296 p.2=val 4294967296 (xs.take p.1)*val 4294967296 ys) (λp=>xs.length-p.1)
  (0,replicate (xs.length+ys.length) 0) rfl rfl ⟨by simp,by simp,ee.CE hW _,by simp,by simp [Cm,val]⟩ ?_
 rintro ⟨i,os⟩ ⟨hi,jl,iH,hz,dM⟩ L hL
 simp only at hi jl iH hz dM hL⊢
 rw [anP]
 have cT:=hx.mono (kS h os)
 simp only [cb,ag,bL]
 refine ⟨λar=>?_,λcY=>?_⟩
 ·have eS:i<xs.length:=by omega
  obtain ⟨ia,a1,a2⟩:=cT.get eS
  have jn:xs[i]<4294967296:=cx.1 _ (getElem_mem eS)
  simp only [a1,ag,a2,(hy.mono (kS h os)).len]
  have wk:=uy 4294967296 xs eS
  generalize xs[i]=x at jn wk
  refine cG (σ:=Nat×Nat×List Nat) (λp=>[.int .u64 (p.1:Int),I p.2.1]) (λp=>hd h p.2.2)
   (λp=>p.2.1<=ys.length/\p.1<4294967296/\p.2.2.length=xs.length+ys.length/\ee 4294967296 p.2.2/\(∀j (hj:j<p.2.2.length),i+ys.length<=j->p.2.2[j]=0)/\val 4294967296 p.2.2+4294967296^(i+p.2.1)*p.1=val 4294967296 os+4294967296^i*(x*val 4294967296 (ys.take p.2.1))) (λp=>ys.length-p.2.1)
   (0,0,os) rfl rfl ⟨by simp,hW,jl,iH,hz,by simp [val]⟩ ?_
  rintro ⟨c,j,ps⟩ ⟨hj,hc,j5,AQ,AS,AR⟩ L2 eK
  simp only at hj hc j5 AQ AS AR eK⊢
  rw [anL]
  have mJ:=hy.mono (kS h ps)
  simp only [cb,ag,bL]
  refine ⟨λdT=>?_,λahb=>?_⟩
  ·have nK:j<ys.length:=by omega
   obtain ⟨ib,b1,b2⟩:=mJ.get nK
   have oR:ys[j]<4294967296:=cy.1 _ (getElem_mem nK)
   have RF:=uy 4294967296 ys nK
   generalize ys[j]=y at b2 oR RF
   have pU:i+j<ps.length:=by omega
   have arM:ps[i+j]<4294967296:=AQ _ (getElem_mem pU)
   have hxy:=akN jn oR
   have kZ:=ux 4294967296 ps (i+j) ((x*y+ps[i+j]+c)%4294967296) pU
   have ei:IntKind.wrap .i64 ((i:Int)+(j:Int))=((i+j:Nat):Int):=by rw [wrap64 (by omega) (by omega)];omega
   have cst:((x:Int)*(y:Int))=((x*y:Nat):Int):=by simp
   simp only [b1,ag,b2,jX]
   rw [jw (n:=(x:Int)) (by omega) (by omega),jw (n:=(y:Int)) (by omega) (by omega)]
   simp only [ab2,ag,cst,cD,ei]
   rw [jw (n:=((x*y:Nat):Int)) (by omega) (by omega)]
   rw [oc (show i+j<xs.length+ys.length by omega)]
   simp only [ag,agV pU,jX]
   rw [jw (n:=(ps[i+j]:Int)) (by omega) (by omega)]
   have e1:IntKind.wrap .u64 (((x*y:Nat):Int)+(ps[i+j]:Int))=((x*y+ps[i+j]:Nat):Int):=by rw [jw (by omega) (by omega)];omega
   have e2:IntKind.wrap .u64 (((x*y+ps[i+j]:Nat):Int)+(c:Int))=((x*y+ps[i+j]+c:Nat):Int):=by rw [jw (by omega) (by omega)];omega
   have e3:IntKind.wrap .u32 ((x*y+ps[i+j]+c:Nat):Int)=(((x*y+ps[i+j]+c)%4294967296:Nat):Int):=by rw [uA];omega
   simp only [cD,ag,e1,e2,jX,e3,JW]
   rw [tm _ pU]
   simp only [bc,mP j (by omega),true_and]
   have oL:(x*y+ps[i+j]+c)%4294967296<4294967296:=mod_lt _ hW
   have vG:=Nat.mod_add_div (x*y+ps[i+j]+c) 4294967296
   have vF:(x*y+ps[i+j]+c) / 4294967296<4294967296:=by omega
   refine eK ((x*y+ps[i+j]+c) / 4294967296,j+1,ps.set (i+j) ((x*y+ps[i+j]+c)%4294967296)) ⟨by show j+1<=ys.length;omega,vF,by show (ps.set _ _).length=_;rw [length_set];exact j5,AQ.set oL _,?_,?_⟩ (by show ys.length-(j+1)<ys.length-j;omega)
   ·intro k tx AG
    show (ps.set (i+j) _)[k]=0
    have aU:i+j≠k:=by omega
    rw [getElem_set_ne aU]
    exact AS k (by simpa using tx) AG
   ·show val 4294967296 (ps.set (i+j) _)+4294967296^(i+(j+1))*_=val 4294967296 os+4294967296^i*(x*val 4294967296 (ys.take (j+1)))
    rw [RF,<-Nat.add_assoc,pow_succ]
    rw [Nat.pow_add] at kZ AR⊢
    generalize ps[i+j]=o at*
    generalize (x*y+o+c)%4294967296=m at*
    generalize (x*y+o+c) / 4294967296=q at*
    generalize val 4294967296 (ys.take j)=v at*
    generalize val 4294967296 (ps.set (i+j) m)=s1 at*
    generalize val 4294967296 ps=s0 at*
    generalize val 4294967296 os=s2 at*
    generalize 4294967296^i=P at*
    generalize 4294967296^j=Q at*
    generalize (4294967296:Nat)=w at*
    clear eK hL hx hy cT mJ b1 b2
    have h1:P*Q*(m+w*q)=P*Q*(x*y+o+c):=by rw [vG]
    grind
  ·have:j=ys.length:=by omega
   subst this
   rw [anM]
   have ei:IntKind.wrap .i64 ((i:Int)+(ys.length:Int))=((i+ys.length:Nat):Int):=by rw [wrap64 (by omega) (by omega)];omega
   simp only [mJ.len,ag,cD,ei,jX]
   rw [nc (n:=(c:Int)) (by omega) (by omega),oc (show i+ys.length<xs.length+ys.length by omega)]
   simp only [ag]
   have pU:i+ys.length<ps.length:=by omega
   rw [tm _ pU]
   simp only [bc,anN,cD,ag,mP i (by omega),true_and]
   have kZ:=ux 4294967296 ps (i+ys.length) c pU
   rw [AS _ pU (le_refl _)] at kZ
   rw [take_length] at AR
   refine hL (i+1,ps.set (i+ys.length) c) ⟨by show i+1<=xs.length;omega,by show (ps.set _ _).length=_;rw [length_set];exact j5,AQ.set hc _,?_,?_⟩ (by show xs.length-(i+1)<xs.length-i;omega)
   ·intro k tx AG
    show (ps.set (i+ys.length) _)[k]=0
    have arG:i+1+ys.length<=k:=AG
    have aU:i+ys.length≠k:=by omega
    rw [getElem_set_ne aU]
    exact AS k (by simpa using tx) (by omega)
   ·show val 4294967296 (ps.set (i+ys.length) c)=val 4294967296 (xs.take (i+1))*val 4294967296 ys
    rw [wk,Nat.add_mul,<-dM,Nat.mul_assoc,<-AR]
    omega
 ·have:i=xs.length:=by omega
  subst this
  rw [anO]
  rw [take_length] at dM
  have e:sl 79 h.length 0 (xs.length+ys.length)=sl 79 h.length 0 os.length:=by rw [jl]
  rw [e]
  refine sF (vC h _) iH (by omega) ?_
  intro v' hm
  rw [dM] at hm
  exact hk v' _ (kS h _) hm
def cO (h:ae) (val:Value) (z:Int):Prop:=∃v,val=.agg #[B (decide (z<0)),v]/\cS h v z.natAbs
theorem cO.mono {h h':ae} {v:Value} {z:Int} (x:EX h h') (p:cO h v z):cO h' v z:=let ⟨w,a,b⟩:=p;⟨w,a,b.mono x⟩
theorem cS.oW {h:ae} {v:Value} {n:Nat} (p:cS h v n):∃l:Nat,aZ v=some (I l)/\(0<l↔0<n):=by
 obtain ⟨xs,d,c,rfl⟩:=p
 refine ⟨xs.length,d.len,?_⟩
 constructor
 ·intro h0
  have:=dA.low (by decide) c (by rintro rfl;simp at h0)
  have:0<4294967296^(xs.length-1):=Nat.pow_pos (by decide)
  omega
 ·intro h0
  cases xs with
  | nil=>simp [val] at h0
  | cons x xs=>simp
theorem cS.eC {h:ae} {v:Value} {n j:Nat} {e:TypeId} {b:Bool} {r:List Value} (p:cS h v n) (hj:h[j]?=some (.arr e (.bool b::r))) (o:ax):cS (h.set j o) v n:=by
 obtain ⟨xs,d,c,hv⟩:=p
 refine ⟨xs,?_,c,hv⟩
 rcases d with d | ⟨i,h1,h2⟩
 ·exact .inl d
 ·refine .inr ⟨i,h1,?_⟩
  rcases h2 with h2 | ⟨rest,h2⟩
  ·exact .inl h2
  ·cases xs with
   | nil=>exact .inl rfl
   | cons x xs=>
    right
    refine ⟨rest,?_⟩
    have aU:j≠i:=by
     rintro rfl
     unfold bn at h2
     rw [hj] at h2
     simp at h2
    unfold bn at h2⊢
    rw [List.getElem?_set_ne aU]
    exact h2
theorem cO.eC {h:ae} {v:Value} {z:Int} {j:Nat} {e:TypeId} {b:Bool} {r:List Value} (p:cO h v z) (hj:h[j]?=some (.arr e (.bool b::r))) (o:ax):cO (h.set j o) v z:=
 let ⟨w,a,q⟩:=p;⟨w,a,q.eC hj o⟩
theorem ki {h:ae} {i:Nat} {e:TypeId} {a b x y:Value} (hg:h[i]?=some (.arr e [a,b])):bE 2 h (pt i 0) (.agg #[x,y])=some (undef,h.set i (.arr e [x,y])):=by
 simp [bE,oT,hg,de,bK,Value.cells,setAt]
theorem er {h:ae} {i:Nat} {e:TypeId} {a b:Value} (hg:h[i]?=some (.arr e [a,b])):af true 2 h (pt i 0)=some (.agg #[a,b]):=by
 simp [af,bn,hg,cU]
theorem lC {h:ae} {i:Nat} {o o':ax} (hg:h[i]?=some o'):(h.set i o)[i]?=some o:=by
 rw [List.getElem?_set_self (ba hg).1]
theorem n7 {v:Value} {n:Nat} {b:Bool} {h:ae} {K:Value->ae->Prop} (hm:cS h v n) (hk:∀h',EX h h'->K (.agg #[B (b&&decide (0<n)),v]) h'):aw prog 38 [B b,v] h K:=by
 refine f38 ?_
 have al:cH 56 [(.bool false),(.slice none 0 0)] h=some (pt h.length 0,h++[.arr 56 [(.bool false),(.slice none 0 0)]]):=rfl
 simp only [DG,al,bc]
 obtain ⟨l,h1,h2⟩:=hm.oW
 have hg:(h++[ax.arr 56 [(.bool false),(.slice none 0 0)]])[h.length]?=some (.arr 56 [(.bool false),(.slice none 0 0)]):=bP
 have hx:EX h (h++[ax.arr 56 [(.bool false),(.slice none 0 0)]]):=EX.append _ _
 have fin:wV prog K v (pt h.length 0) (B b) (B (decide (0<l))) (h++[ax.arr 56 [(.bool false),(.slice none 0 0)]])/\(b=false->wV prog K v (pt h.length 0) (B b) undef (h++[ax.arr 56 [(.bool false),(.slice none 0 0)]])):=by
  have one:∀c:Bool,c=(b&&decide (0<n))->OP (jo [(.bool false),(.slice none 0 0)] [(0,1,B c),(1,1,v)]) λaW=>OH (bE 2 (h++[ax.arr 56 [(.bool false),(.slice none 0 0)]]) (pt h.length 0) aW) λ_ h_1=>OP (af true 2 h_1 (pt h.length 0)) λr0=>K r0 h_1:=by
   rintro c rfl
   have eb:jo [(.bool false),(.slice none 0 0)] [(0,1,B (b&&decide (0<n))),(1,1,v)]=some (.agg #[B (b&&decide (0<n)),v]):=by
    obtain ⟨xs,d,_,_⟩:=hm
    rcases d with ⟨rfl,_⟩ | ⟨i,rfl,_⟩ <;> rfl
   simp only [eb,ag]
   rw [ki hg]
   simp only [bc]
   rw [er (lC hg)]
   simp only [ag]
   exact hk _ (hx.set (le_refl _) _)
  constructor
  ·rw [Wz]
   cases b with
   | true=>simp only [fh,ag];exact one _ (by simp [h2])
   | false=>simp only [dO,ag];exact one _ (by simp)
  ·rintro rfl
   rw [Wz]
   simp only [dO,ag]
   exact one _ (by simp)
 rw [amB]
 have e0:decide ((0:Int)<(l:Int))=decide (0<l):=by
  by_cases h0:0<l
  ·simp [h0]
  ·simp [h0]
 cases b with
 | true=>
  simp only [hI,h1,ag,fY,e0]
  exact fin.1
 | false=>
  simp only [jz]
  exact fin.2 rfl
end
section
theorem kP {h':ae} {j:Nat} {b0 v0 b v:Value} {K:Value->ae->Prop} (hg:h'[j]?=some (.arr 56 [b0,v0])) (hk:K (.agg #[b,v]) (h'.set j (.arr 56 [b,v]))):
  OH (bE 2 h' (pt j 0) (.agg #[b,v])) λ_ h6=>OP (af true 2 h6 (pt j 0)) λr0=>K r0 h6:=by
 rw [ki hg]
 simp only [bc]
 rw [er (lC hg)]
 exact ag.2 hk
structure Yk (h:ae) (va vb:Value) (sa sb:Bool) (h3:ae):Prop where
 ex:EX h h3
 a0:af false 1 h3 (pt h.length 0)=some (B sa)
 a1:af false 1 h3 (pt h.length 1)=some va
 b0:af false 1 h3 (pt (h.length+1) 0)=some (B sb)
 b1:af false 1 h3 (pt (h.length+1) 1)=some vb
 a2:af true 2 h3 (pt h.length 0)=some (.agg #[B sa,va])
 b2:af true 2 h3 (pt (h.length+1) 0)=some (.agg #[B sb,vb])
 out:h3[h.length+2]?=some (.arr 56 [.bool false,.slice none 0 0])
theorem yY {h:ae} {va vb:Value} {sa sb:Bool} {K:Value->Value->Value->ae->Prop} (hk:∀h3,Yk h va vb sa sb h3->K (pt h.length 0) (pt (h.length+1) 0) (pt (h.length+2) 0) h3):
  OH (cQ 56 h (.agg #[B sa,va])) λa2 h_1=>OH (cQ 56 h_1 (.agg #[B sb,vb])) λb3 h_2=>OH (cH 56 [(.bool false),(.slice none 0 0)] h_2) λx4 h_3=>K a2 b3 x4 h_3:=by
 have e1:∀(g:ae) (s:Bool) (v:Value),cQ 56 g (.agg #[B s,v])=some (pt g.length 0,g++[.arr 56 [B s,v]]):=λ_ _ _=>rfl
 have e2:∀(g:ae),cH 56 [(.bool false),(.slice none 0 0)] g=some (pt g.length 0,g++[.arr 56 [(.bool false),(.slice none 0 0)]]):=λ_=>rfl
 simp only [e1,e2,bc,length_append,length_cons,List.length_nil]
 have g0:(h++[ax.arr 56 [B sa,va]]++[ax.arr 56 [B sb,vb]]++[ax.arr 56 [(.bool false),(.slice none 0 0)]])[h.length]?=some (.arr 56 [B sa,va]):=by simp
 have g1:(h++[ax.arr 56 [B sa,va]]++[ax.arr 56 [B sb,vb]]++[ax.arr 56 [(.bool false),(.slice none 0 0)]])[h.length+1]?=some (.arr 56 [B sb,vb]):=by simp
 have g2:(h++[ax.arr 56 [B sa,va]]++[ax.arr 56 [B sb,vb]]++[ax.arr 56 [(.bool false),(.slice none 0 0)]])[h.length+2]?=some (.arr 56 [(.bool false),(.slice none 0 0)]):=by simp
 refine hk _ ⟨((EX.append _ _).push _).push _,?_,?_,?_,?_,er g0,er g1,g2⟩
 ·simp [af,bn,cU]
 ·simp [af,bn,cU]
 ·simp [af,bn,cU]
 ·simp [af,bn,cU]
theorem sE {n:Int} {h:ae} {K:Value->ae->Prop} (h1: -9223372036854775808<=n) (h2:n<9223372036854775808) (hk:∀r h',EX h h'->cO h' r n->K r h'):aw prog 21 [I n] h K:=by
 refine f21 ?_
 have e2:cH 56 [(.bool false),(.slice none 0 0)] h=some (pt h.length 0,h++[.arr 56 [(.bool false),(.slice none 0 0)]]):=rfl
 simp only [Dv,e2,bc]
 have x1:EX h (h++[ax.arr 56 [(.bool false),(.slice none 0 0)]]):=EX.append _ _
 have g1:(h++[ax.arr 56 [(.bool false),(.slice none 0 0)]])[h.length]?=some (.arr 56 [(.bool false),(.slice none 0 0)]):=bP
 generalize h++[ax.arr 56 [(.bool false),(.slice none 0 0)]]=hA at x1 g1⊢
 have go:∀u:Nat,u=n.natAbs->By prog K (I n) (pt h.length 0) (.int .u64 (u:Int)) hA:=by
  intro u hu
  rw [al6]
  have ew:IntKind.wrap .u32 (u:Int)=((u%4294967296:Nat):Int):=by rw [uA];omega
  simp only [cb,ag,jX,JW,ew]
  rw [nc (n:=((u / 4294967296:Nat):Int)) (by omega) (by omega)]
  have mk:bq 79 2 [.int .u32 0] hA [(0,1,.int .u32 ((u%4294967296:Nat):Int)),(1,1,.int .u32 ((u / 4294967296:Nat):Int))]=some (sl 79 hA.length 0 2,hd hA [u%4294967296,u / 4294967296]):=rfl
  simp only [mk,bc]
  have hl:ee 4294967296 [u%4294967296,u / 4294967296]:=by
   intro x hx
   simp at hx
   rcases hx with rfl | rfl <;> omega
  refine sF (vC hA [u%4294967296,u / 4294967296]) hl (by simp) ?_
  intro v hv
  have dM:val 4294967296 [u%4294967296,u / 4294967296]=n.natAbs:=by simp [val];omega
  rw [dM] at hv
  refine n7 hv ?_
  intro h' x'
  have xx:=(kS hA [u%4294967296,u / 4294967296]).trans x'
  have g':=xx.get g1
  refine kP g' (hk _ _ ((x1.trans xx).set (le_refl _) _) ⟨v,?_,(hv.mono x').eC g' _⟩)
  have:(decide (n<0)&&decide (0<n.natAbs))=decide (n<0):=by
   by_cases hn:n<0
   ·simp [hn];omega
   ·simp [hn]
  rw [this]
 simp only [jX,ag,cb,bL]
 refine ⟨λhn=>?_,λhn=>?_⟩
 ·have e3:fG .neg (.int .u64 (IntKind.wrap .u64 n))=some (.int .u64 ((n.natAbs:Nat):Int)):=by
   have e:∀m:Int,IntKind.wrap .u64 m=m%18446744073709551616:=λm=>by simp [IntKind.wrap,IntKind.bits,IntKind.signed]
   simp only [fG]
   rw [e,e]
   congr 2
   omega
  simp only [e3,ag]
  exact go _ rfl
 ·have:IntKind.wrap .u64 n=((n.natAbs:Nat):Int):=by rw [jw (by omega) (by omega)];omega
  rw [this]
  exact go _ rfl
theorem YM {va:Value} {a:Int} {h:ae} {K:Value->ae->Prop} (ha:cO h va a) (hk:∀r h',EX h h'->cO h' r (-a)->K r h'):aw prog 64 [va] h K:=by
 obtain ⟨v,rfl,hv⟩:=ha
 refine f64 ?_
 have e1:cQ 56 h (.agg #[B (decide (a<0)),v])=some (pt h.length 0,h++[.arr 56 [B (decide (a<0)),v]]):=rfl
 simp only [D7,e1,bc]
 have l0:af false 1 (h++[.arr 56 [B (decide (a<0)),v]]) (pt h.length 0)=some (B (decide (a<0))):=nO rfl
 have l1:af false 1 (h++[.arr 56 [B (decide (a<0)),v]]) (pt h.length 1)=some v:=nO rfl
 have x1:EX h (h++[.arr 56 [B (decide (a<0)),v]]):=EX.append _ _
 generalize h++[ax.arr 56 [B (decide (a<0)),v]]=h1 at l0 l1 x1⊢
 have e2:cH 56 [(.bool false),(.slice none 0 0)] h1=some (pt h1.length 0,h1++[.arr 56 [(.bool false),(.slice none 0 0)]]):=rfl
 have x2:EX h1 (h1++[ax.arr 56 [(.bool false),(.slice none 0 0)]]):=EX.append _ _
 have g1:(h1++[ax.arr 56 [(.bool false),(.slice none 0 0)]])[h1.length]?=some (.arr 56 [(.bool false),(.slice none 0 0)]):=bP
 simp only [e2,bc]
 generalize h1++[ax.arr 56 [(.bool false),(.slice none 0 0)]]=h2 at x2 g1⊢
 simp only [kA,add_zero,Nat.zero_add,ag,EX.load x2 l0,EX.load x2 l1,jf]
 have wc:=hv.mono (x1.trans x2)
 refine n7 wc ?_
 intro h' x'
 have g':=x'.get g1
 refine kP g' (hk _ _ (((x1.trans x2).trans x').set x1.1 _) ⟨v,?_,?_⟩)
 ·have:(!decide (a<0)&&decide (0<a.natAbs))=decide (-a<0):=by
   by_cases h0:a<0
   ·rw [cz h0,bN (show ¬-a<0 by omega)];rfl
   ·by_cases h3:a=0
    ·subst h3;rfl
    ·rw [bN h0,cz (show 0<a.natAbs by omega),cz (show -a<0 by omega)];rfl
  rw [this]
 ·have:(-a).natAbs=a.natAbs:=by omega
  rw [this]
  exact (wc.mono x').eC g' _
theorem Lh {va vb:Value} {a b:Int} {h:ae} {K:Value->ae->Prop} (ha:cO h va a) (hb:cO h vb b) (la:a.natAbs<dj) (lb:b.natAbs<dj) (hk:∀r h',EX h h'->cO h' r (a+b)->K r h'):aw prog 23 [va,vb] h K:=by
 obtain ⟨v,rfl,hv⟩:=ha
 obtain ⟨w,rfl,hw⟩:=hb
 refine f23 ?_
 unfold Dw
 refine yY ?_
 intro h3 x
 have tI:=hv.mono x.ex
 have tK:=hw.mono x.ex
 simp only [kA,add_zero,Nat.zero_add,ag,x.a0,x.a1,x.b0,x.b1,Fh,Bool.false_eq_true,if_false]
 refine Y0 (λhe=>?_) λaU=>?_
 ·have hs:decide (a<0)=decide (b<0):=by simpa using he
  have eM:(a<0↔b<0):=by simpa using hs
  simp only [true_and]
  refine YD tI tK la lb ?_
  intro u h4 x4 hu
  refine ⟨⟨EX.load x4 x.a0,trivial⟩,?_⟩
  refine n7 hu ?_
  intro h5 x5
  have g':=(x4.trans x5).get x.out
  refine kP g' (hk _ _ (((x.ex.trans x4).trans x5).set (by omega) _) ⟨u,?_,?_⟩)
  ·have:(decide (a<0)&&decide (0<a.natAbs+b.natAbs))=decide (a+b<0):=by
    by_cases h0:a<0
    ·rw [cz h0,cz (show 0<a.natAbs+b.natAbs by omega),cz (show a+b<0 by omega)];rfl
    ·rw [bN h0,bN (show ¬a+b<0 by omega)];rfl
   rw [this]
  ·have:(a+b).natAbs=a.natAbs+b.natAbs:=by omega
   rw [this]
   exact (hu.mono x5).eC g' _
 ·have hs:decide (a<0)≠decide (b<0):=by simpa using aU
  have eM:¬(a<0↔b<0):=λh=>hs (decide_eq_decide.2 h)
  refine Ll tI tK la lb ?_
  simp only [lG,ag,bL]
  refine ⟨λcY=>?_,λar=>?_⟩
  ·have hle:b.natAbs<=a.natAbs:=by
    apply byContradiction
    intro hc
    unfold p8 at cY
    rw [if_pos (by omega)] at cY
    omega
   simp only [x.a0,x.a1,x.b1,ag,true_and]
   refine Lm tI tK la hle ?_
   intro u h4 x4 hu
   refine ⟨⟨EX.load x4 x.a0,trivial⟩,?_⟩
   refine n7 hu ?_
   intro h5 x5
   have g':=(x4.trans x5).get x.out
   refine kP g' (hk _ _ (((x.ex.trans x4).trans x5).set (by omega) _) ⟨u,?_,?_⟩)
   ·have:(decide (a<0)&&decide (0<a.natAbs-b.natAbs))=decide (a+b<0):=by
     by_cases h0:a<0
     ·by_cases h6:0<a.natAbs-b.natAbs
      ·rw [cz h0,cz h6,cz (show a+b<0 by omega)];rfl
      ·rw [cz h0,bN h6,bN (show ¬a+b<0 by omega)];rfl
     ·rw [bN h0,bN (show ¬a+b<0 by omega)];rfl
    rw [this]
   ·have:(a+b).natAbs=a.natAbs-b.natAbs:=by omega
    rw [this]
    exact (hu.mono x5).eC g' _
  ·have hle:a.natAbs<=b.natAbs:=by
    apply byContradiction
    intro hc
    unfold p8 at ar
    rw [if_neg (by omega),if_pos (by omega)] at ar
    omega
   simp only [x.b0,x.a1,x.b1,ag,true_and]
   refine Lm tK tI lb hle ?_
   intro u h4 x4 hu
   refine ⟨⟨EX.load x4 x.b0,trivial⟩,?_⟩
   refine n7 hu ?_
   intro h5 x5
   have g':=(x4.trans x5).get x.out
   refine kP g' (hk _ _ (((x.ex.trans x4).trans x5).set (by omega) _) ⟨u,?_,?_⟩)
   ·have:(decide (b<0)&&decide (0<b.natAbs-a.natAbs))=decide (a+b<0):=by
     by_cases h0:b<0
     ·by_cases h6:0<b.natAbs-a.natAbs
      ·rw [cz h0,cz h6,cz (show a+b<0 by omega)];rfl
      ·rw [cz h0,bN h6,bN (show ¬a+b<0 by omega)];rfl
     ·rw [bN h0,bN (show ¬a+b<0 by omega)];rfl
    rw [this]
   ·have:(a+b).natAbs=b.natAbs-a.natAbs:=by omega
    rw [this]
    exact (hu.mono x5).eC g' _
theorem YU {va vb:Value} {a b:Int} {h:ae} {K:Value->ae->Prop} (ha:cO h va a) (hb:cO h vb b) (la:a.natAbs<dj) (lb:b.natAbs<dj) (hk:∀r h',EX h h'->cO h' r (a-b)->K r h'):aw prog 90 [va,vb] h K:=by
 have Ax:=ha
 have tg:=hb
 obtain ⟨v,rfl,hv⟩:=ha
 obtain ⟨w,rfl,hw⟩:=hb
 refine f90 ?_
 unfold Ef
 refine yY ?_
 intro h3 x
 simp only [ag,x.a2,x.b2,true_and]
 refine YM (tg.mono x.ex) ?_
 intro r1 h4 x4 i1
 refine ⟨⟨EX.load x4 x.a2,trivial⟩,?_⟩
 refine Lh (Ax.mono (x.ex.trans x4)) i1 la (by rw [Int.natAbs_neg];exact lb) ?_
 intro r2 h5 x5 i2
 have g':=(x4.trans x5).get x.out
 obtain ⟨u,rfl,hu⟩:=id i2
 refine kP g' (hk _ _ (((x.ex.trans x4).trans x5).set (by omega) _) ?_)
 rw [Int.sub_eq_add_neg]
 exact i2.eC g' _
theorem Lq {va vb:Value} {a b:Int} {h:ae} {K:Value->ae->Prop} (ha:cO h va a) (hb:cO h vb b) (la:a.natAbs<dj) (lb:b.natAbs<dj) (hk:∀r h',EX h h'->cO h' r (a*b)->K r h'):aw prog 52 [va,vb] h K:=by
 obtain ⟨v,rfl,hv⟩:=ha
 obtain ⟨w,rfl,hw⟩:=hb
 refine f52 ?_
 unfold DU
 refine yY ?_
 intro h3 x
 have tI:=hv.mono x.ex
 have tK:=hw.mono x.ex
 simp only [kA,add_zero,Nat.zero_add,ag,x.a0,x.a1,x.b0,x.b1,Fh,if_true,true_and]
 refine YP tI tK la lb ?_
 intro u h4 x4 hu
 refine ⟨⟨EX.load x4 x.a0,EX.load x4 x.b0,trivial⟩,?_⟩
 refine n7 hu ?_
 intro h5 x5
 have g':=(x4.trans x5).get x.out
 refine kP g' (hk _ _ (((x.ex.trans x4).trans x5).set (by omega) _) ⟨u,?_,?_⟩)
 ·have:((!(decide (a<0)==decide (b<0)))&&decide (0<a.natAbs*b.natAbs))=decide (a*b<0):=by
   rcases Int.lt_trichotomy a 0 with h1 | h1 | h1
   ·rcases Int.lt_trichotomy b 0 with h2 | h2 | h2
    ·have:=Int.mul_pos_of_neg_of_neg h1 h2
     rw [cz h1,cz h2,bN (show ¬a*b<0 by omega)];rfl
    ·subst h2;simp
    ·have:=Int.mul_neg_of_neg_of_pos h1 h2
     have h3:0<a.natAbs*b.natAbs:=Nat.mul_pos (by omega) (by omega)
     rw [cz h1,bN (show ¬b<0 by omega),cz h3,cz this];rfl
   ·subst h1;simp
   ·rcases Int.lt_trichotomy b 0 with h2 | h2 | h2
    ·have:=Int.mul_neg_of_pos_of_neg h1 h2
     have h3:0<a.natAbs*b.natAbs:=Nat.mul_pos (by omega) (by omega)
     rw [bN (show ¬a<0 by omega),cz h2,cz h3,cz this];rfl
    ·subst h2;simp
    ·have:=Int.mul_pos h1 h2
     rw [bN (show ¬a<0 by omega),bN (show ¬b<0 by omega),bN (show ¬a*b<0 by omega)];rfl
  rw [this]
 ·rw [Int.natAbs_mul]
  exact (hu.mono x5).eC g' _
end
section
theorem apk {r:Nat} (hr:r<4294967296):ai .shl (.int .u64 (r:Int)) (.int .u64 32)=some (.int .u64 ((r*4294967296:Nat):Int)):=by
 simp only [ai,mM]
 rw [if_neg (by omega)]
 have:(min (32:Int).toNat IntKind.u64.bits)=32:=rfl
 rw [this]
 have e2:(2:Int)^32=4294967296:=by decide
 rw [e2,jw (by omega) (by omega)]
 congr 2
theorem alm {r x:Nat} (hr:r<4294967296) (hx:x<4294967296):ai .or (.int .u64 ((r*4294967296:Nat):Int)) (.int .u64 (x:Int))=some (.int .u64 ((r*4294967296+x:Nat):Int)):=by
 have e:(BitVec.ofInt IntKind.u64.bits ((r*4294967296:Nat):Int) ||| BitVec.ofInt IntKind.u64.bits (x:Int)).toNat=r*4294967296+x:=by
  show (BitVec.ofInt 64 ((r*4294967296:Nat):Int) ||| BitVec.ofInt 64 (x:Int)).toNat=_
  rw [BitVec.ofInt_natCast,BitVec.ofInt_natCast,BitVec.toNat_or,BitVec.toNat_ofNat,BitVec.toNat_ofNat,Nat.mod_eq_of_lt (by omega),Nat.mod_eq_of_lt (by omega)]
  have:=Nat.two_pow_add_eq_or_of_lt (i:=32) (b:=x) (by omega) r
  rw [Nat.mul_comm r]
  exact this.symm
 simp only [ai,gU,if_true]
 rw [e,jw (by omega) (by omega)]
theorem an8 {a b:Nat} (hb:b≠0) (ha:a<18446744073709551616):ai .quo (.int .u64 (a:Int)) (.int .u64 (b:Int))=some (.int .u64 ((a / b:Nat):Int)):=by
 have h:¬((b:Int)=0):=by omega
 have h2:a / b<=a:=Nat.div_le_self _ _
 simp only [ai,gU,if_true,if_neg h]
 have e:(a:Int).tdiv (b:Int)=((a / b:Nat):Int):=rfl
 rw [e]
 generalize a / b=q at*
 rw [jw (by omega) (by omega)]
theorem Lr {va:Value} {a w:Nat} {h:ae} {K:Value->ae->Prop} (ha:cS h va a) (la:a<dj) (w0:0<w) (wW:w<4294967296) (hk:∀v h',EX h h'->cS h' v (a / w)->K (.tuple #[v,.int .u32 ((a%w:Nat):Int)]) h'):
  aw prog 62 [va,.int .u32 (w:Int)] h K:=by
 obtain ⟨xs,hx,cx,rfl⟩:=ha
 have l1:=nw cx la
 have hW:(0:Nat)<4294967296:=by decide
 refine f62 ?_
 have e1:IntKind.wrap .i64 ((xs.length:Int)-1)=(xs.length:Int)-1:=by rw [wrap64 (by omega) (by omega)]
 simp only [DZ,hx.len,ag,Bh (show xs.length<=1000 by omega),bc,ku,e1]
 refine cG (σ:=Nat×Nat×List Nat) (λp=>[.int .u64 (p.1:Int),I ((p.2.1:Int)-1)]) (λp=>hd h p.2.2)
  (λp=>p.2.1<=xs.length/\p.1<w/\p.2.2.length=xs.length/\ee 4294967296 p.2.2/\val 4294967296 (xs.drop p.2.1)=w*val 4294967296 (p.2.2.drop p.2.1)+p.1) (λp=>p.2.1)
  (0,xs.length,replicate xs.length 0) rfl rfl ⟨le_refl _,w0,by simp,ee.CE hW _,by simp [val]⟩ ?_
 rintro ⟨r,i,os⟩ ⟨hi,hr,jl,iH,dM⟩ L hL
 simp only at hi hr jl iH dM hL⊢
 rw [anE]
 have cT:=hx.mono (kS h os)
 simp only [lG,ag,bL]
 refine ⟨λcY=>?_,λar=>?_⟩
 ·obtain ⟨j,rfl⟩:∃j,i=j+1:=⟨i-1,by omega⟩
  have ej:(((j+1:Nat):Int)-1)=(j:Int):=by omega
  rw [ej]
  obtain ⟨ia,a1,a2⟩:=cT.get (j:=j) (by omega)
  have jn:xs[j]'(by omega)<4294967296:=cx.1 _ (getElem_mem _)
  have QX:xs.drop j=xs[j]'(by omega)::xs.drop (j+1):=drop_eq_getElem_cons (by omega)
  generalize xs[j]'(by omega)=x at a2 jn QX
  simp only [apk (show r<4294967296 by omega),ag,a1,a2,jX]
  rw [jw (n:=(x:Int)) (by omega) (by omega)]
  simp only [alm (show r<4294967296 by omega) jn,ag]
  rw [jw (n:=(w:Int)) (by omega) (by omega)]
  have ht:r*4294967296+x<w*4294967296:=by omega
  have hq:(r*4294967296+x) / w<4294967296:=(Nat.div_lt_iff_lt_mul w0).2 (by omega)
  have hm:=mod_lt (r*4294967296+x) w0
  have vG:=Nat.div_add_mod (r*4294967296+x) w
  rw [an8 (by omega) (by omega),xe _ _ _ (by omega)]
  generalize (r*4294967296+x) / w=q at*
  generalize (r*4294967296+x)%w=m at*
  simp only [ag,jX]
  rw [nc (n:=(q:Int)) (by omega) (by omega),oc (show j<xs.length by omega)]
  simp only [ag]
  rw [tm _ (by omega)]
  simp only [bc,ku,ag,true_and]
  rw [wrap64 (n:=(j:Int)-1) (by omega) (by omega)]
  refine hL (m,j,os.set j q) ⟨by show j<=xs.length;omega,hm,by show (os.set _ _).length=_;rw [length_set];exact jl,iH.set hq _,?_⟩ (by show j<j+1;omega)
  show val 4294967296 (xs.drop j)=w*val 4294967296 ((os.set j q).drop j)+m
  have hdo:(os.set j q).drop j=q::os.drop (j+1):=by
   rw [drop_eq_getElem_cons (by rw [length_set];omega),List.getElem_set_self,List.drop_set_of_lt (by omega)]
  rw [QX,hdo]
  simp only [val]
  rw [dM]
  generalize val 4294967296 (os.drop (j+1))=Q at*
  generalize (4294967296:Nat)=W at*
  clear hL hx cT a1 a2 dM
  grind
 ·have:i=0:=by omega
  subst this
  rw [drop_zero,drop_zero] at dM
  rw [anD]
  have e:sl 79 h.length 0 xs.length=sl 79 h.length 0 os.length:=by rw [jl]
  rw [e]
  refine sF (vC h _) iH (by omega) ?_
  intro v' hm
  simp only [jX,ag]
  rw [nc (n:=(r:Int)) (by omega) (by omega)]
  have h1:val 4294967296 xs / w=val 4294967296 os:=by
   rw [dM,Nat.mul_add_div w0,Nat.div_eq_of_lt hr,add_zero]
  have h2:val 4294967296 xs%w=r:=by
   rw [dM,Nat.mul_add_mod,Nat.mod_eq_of_lt hr]
  have:=hk v' _ (kS h os) (by rw [h1];exact hm)
  rw [h2] at this
  exact this
theorem YL {h:ae} {id:Nat} {xs:List UInt8} {K:Value->ae->Prop} (bA:h[id]?=some (.arr 5 (xs.map cv))) (hn:xs.length<=100000) (hk:K (.tuple #[]) (hb h id xs.reverse)):aw prog 63 [sl 5 id 0 xs.length] h K:=by
 have fL:=(ba bA).1
 have e0:h=hb h id xs:=by
  apply List.ext_getElem?
  intro j
  by_cases hj:id=j
  ·subst hj;rw [AB fL,bA]
  ·rw [List.getElem?_set_ne hj]
 refine f63 ?_
 have e1:aZ (sl 5 id 0 xs.length)=some (I xs.length):=rfl
 have e2:IntKind.wrap .i64 ((xs.length:Int)-1)=(xs.length:Int)-1:=by rw [wrap64 (by omega) (by omega)]
 simp only [D6,e1,ag,ku,e2]
 refine cG (σ:=Nat×List UInt8) (λp=>[I p.1,I ((xs.length:Int)-1-p.1)]) (λp=>hb h id p.2) (λp=>p.1<=xs.length/\p.2.length=xs.length/\∀k (hk:k<p.2.length) (tx:k<xs.length),p.2[k]=if k<p.1∨xs.length-p.1<=k then xs[xs.length-1-k]'(by omega) else xs[k]) (λp=>xs.length-p.1)
  (0,xs) (by simp) e0.symm ⟨by simp,rfl,λk h1 h2=>by simp;intro h3;omega⟩ ?_
 rintro ⟨i,ys⟩ ⟨hi,hl,hy⟩ L hL
 simp only at hi hl hy hL⊢
 rw [anF]
 simp only [cb,ag,bL]
 refine ⟨λar=>?_,λcY=>?_⟩
 ·obtain ⟨j,hj⟩:∃j:Nat,(xs.length:Int)-1-i=j:=⟨xs.length-1-i,by omega⟩
  rw [hj]
  have mB:j=xs.length-1-i:=by omega
  have a1:=oc (id:=id) (e:=5) (n:=xs.length) (j:=j) (by omega)
  have a2:=oc (id:=id) (e:=5) (n:=xs.length) (j:=i) (by omega)
  have g1:ys[j]?=some (ys[j]'(by omega)):=getElem?_eq_getElem (by omega)
  have g2:ys[i]?=some (ys[i]'(by omega)):=getElem?_eq_getElem (by omega)
  simp only [a1,a2,ag,QL fL g1,QL fL g2,true_and]
  rw [QM fL _ (by omega)]
  simp only [bc]
  rw [QM fL _ (by rw [length_set];omega)]
  simp only [bc,cD,ku,ag,mP i (by omega)]
  have ej:IntKind.wrap .i64 ((j:Int)-1)=(xs.length:Int)-1-((i+1:Nat):Int):=by rw [wrap64 (by omega) (by omega)];omega
  rw [ej]
  refine hL (i+1,(ys.set i (ys[j]'(by omega))).set j (ys[i]'(by omega))) ⟨by show i+1<=xs.length;omega,by simp [hl],?_⟩ (by show xs.length-(i+1)<xs.length-i;omega)
  intro k Q7 tx
  show ((ys.set i (ys[j]'(by omega))).set j (ys[i]'(by omega)))[k]=if k<i+1∨xs.length-(i+1)<=k then xs[xs.length-1-k]'(by omega) else xs[k]
  have RD:=hy i (by omega) (by omega)
  have RE:=hy j (by omega) (by omega)
  rw [if_neg (by omega)] at RD RE
  by_cases lI:j=k
  ·subst lI
   rw [List.getElem_set_self,if_pos (by omega),RD]
   congr 1;omega
  ·rw [getElem_set_ne lI]
   by_cases Q8:i=k
   ·subst Q8
    rw [List.getElem_set_self,if_pos (by omega),RE]
    congr 1
   ·rw [getElem_set_ne Q8,hy k (by omega) tx]
    by_cases hc:k<i∨xs.length-i<=k
    ·rw [if_pos hc,if_pos (by omega)]
    ·rw [if_neg hc,if_neg (by omega)]
 ·have:ys=xs.reverse:=by
   apply List.ext_getElem (by simp [hl])
   intro k h1 h2
   rw [hy k h1 (by omega),List.getElem_reverse]
   split
   ·rfl
   ·congr 1;omega
  rw [this]
  exact hk
def nB (n:Nat):List Nat:=if h:n=0 then [] else n%10::nB (n / 10)
termination_by n
decreasing_by omega
theorem E9 (n:Nat):dA 10 (nB n)/\val 10 (nB n)=n:=by
 induction n using Nat.strongRecOn with
 | ind n ih=>
  rw [nB]
  by_cases h:n=0
  ·subst h;exact ⟨dA.nil 10,rfl⟩
  ·rw [dif_neg h]
   obtain ⟨h1,h2⟩:=ih (n / 10) (by omega)
   refine ⟨⟨?_,?_⟩,?_⟩
   ·intro x hx
    rcases mem_cons.1 hx with rfl | hx
    ·omega
    ·exact h1.1 x hx
   ·cases hd:nB (n / 10) with
    | nil=>
     rw [hd] at h2
     simp [val] at h2
     simp
     omega
    | cons y ys=>
     rw [List.getLast?_cons_cons,<-hd]
     exact h1.2
   ·simp only [val,h2];omega
def iW (d:Nat):UInt8:=UInt8.ofNat (48+d)
theorem zZ {d:Nat} (h:d<10):(iW d).toNat=48+d:=by simp [iW,UInt8.toNat_ofNat'];omega
def eR (n:Nat):List UInt8:=if n=0 then [48] else ((nB n).map iW).reverse
def A6:Nat:=1000
theorem M5:dj<=10^A6:=by decide+kernel
end
section
theorem cvd {d:Nat} (h:d<10):(.int .u8 ((48+d:Nat):Int):Value)=cv (iW d):=by rw [cv,zZ h]
theorem alH (k:Nat):0<10^k:=Nat.pow_pos (by decide)
theorem Si {b n m:Nat} (hm:0<m) (h:10^b*m<=n) (hn:n<dj):b<1000:=by
 have h1:10^b<=10^b*m:=Nat.le_mul_of_pos_right _ hm
 show b<A6
 have h2:10^b<10^A6:=Nat.lt_of_le_of_lt (le_trans h1 h) (Nat.lt_of_lt_of_le hn M5)
 exact (Nat.pow_lt_pow_iff_right (by decide)).1 h2
theorem abW {h0 hx:ae} {v z:Value} {x:UInt8} {bs:List UInt8} {K:Value->ae->Prop} (o:cK h0.length hx 5 v (bs.map cv)) (hex:EX h0 hx) (hl:bs.length<=100000)
  (hk:∀v' cT,EX h0 cT->cK h0.length cT 5 v' ((bs++[x]).map cv)->(∀q n,cS hx q n->cS cT q n)->K v' cT):
  OH (bq 5 1 [z] hx [(0,1,cv x)]) λa h2=>OH (cE 5 1 1 h2 v a) K:=by
 refine yW o (by simp;omega) (by simp [maxLen];omega) rfl rfl ?_
 intro hA cT _ hlen AI gf
 simp only [bc]
 refine hk _ _ ⟨by have:=hex.1;omega,λj hj=>?_⟩ (.inr ⟨hx.length+1,by have:=hex.1;omega,by simp,by simpa using gf⟩) ?_
 ·rw [AI j (by have:=hex.1;omega) λn hv=>?_]
  ·exact hex.2 j hj
  ·have:=(o.lt hv).1;omega
 ·rintro q n ⟨xs,d,c,hv⟩
  refine ⟨xs,?_,c,hv⟩
  rcases d with d | ⟨i,h1,h2⟩
  ·exact .inl d
  ·refine .inr ⟨i,h1,?_⟩
   rcases h2 with h2 | ⟨r,h2⟩
   ·exact .inl h2
   ·cases xs with
    | nil=>exact .inl rfl
    | cons y ys=>
     right
     refine ⟨r,?_⟩
     have eS:i<hx.length:=by
      apply byContradiction
      intro hc
      unfold bn at h2
      rw [List.getElem?_eq_none (by omega)] at h2
      simp at h2
     unfold bn at h2⊢
     rw [AI i eS λn Gx=>?_]
     ·exact h2
     ·have hg:=(o.lt Gx).2.2
      rw [hg] at h2
      cases bs with
      | nil=>simp at h2
      | cons b bs=>simp [cv] at h2
theorem CH {va:Value} {n:Nat} {h:ae} {K:Value->ae->Prop} (ha:cS h va n) (la:n<dj) (hk:∀h',EX h h'->K (S (eR n)) h'):aw prog 44 [va] h K:=by
 refine f44 ?_
 obtain ⟨l0,e0,e1⟩:=ha.oW
 simp only [DM,e0,ag,ij,bL]
 refine ⟨λhz=>?_,λhnz=>?_⟩
 ·have:n=0:=by omega
  subst this
  exact hk h (EX.refl h)
 ·have Rg:0<n:=by omega
  refine cG (σ:=Value×Nat×Value×List Nat×ae) (λp=>[p.1,p.2.2.1]) (λp=>p.2.2.2.2)
   (λp=>EX h p.2.2.2.2/\cS p.2.2.2.2 p.1 p.2.1/\cK h.length p.2.2.2.2 5 p.2.2.1 ((p.2.2.2.1.map iW).map cv)/\ee 10 p.2.2.2.1/\val 10 p.2.2.2.1+10^p.2.2.2.1.length*p.2.1=n/\(p.2.1=0->dA 10 p.2.2.2.1)) (λp=>p.2.1)
   (va,n,.slice none 0 0,[],h) rfl rfl ⟨EX.refl h,ha,.inl ⟨rfl,rfl⟩,λx hx=>by simp at hx,by simp [val],λh0=>by have h0:n=0:=h0;omega⟩ ?_
  rintro ⟨v,m,bv,b,hx⟩ ⟨hex,hm,AP,iH,dM,QV⟩ L hL
  simp only at hex hm AP iH dM QV hL⊢
  rw [anh]
  obtain ⟨l,f0,f1⟩:=hm.oW
  simp only [f0,ag,fY,bL]
  refine ⟨λar=>?_,λcY=>?_⟩
  ·have kC:0<m:=by omega
   have hmb:m<dj:=by
    refine Nat.lt_of_le_of_lt ?_ la
    have:m<=10^b.length*m:=Nat.le_mul_of_pos_left _ (alH _)
    omega
   have mw:=Si (b:=b.length) kC (by omega) la
   refine Lr hm hmb (w:=1000000000) (by decide) (by decide) ?_
   intro q h1 x1 hq
   simp only [hP,hX,hY,ag]
   have ahR:cK h.length h1 5 bv ((b.map iW).map cv):=AP.cI λd k hv hd=>by
    have:=(AP.lt hv).2.1
    exact x1.2 d this
   have ahZ:m / 1000000000<m:=Nat.div_lt_self kC (by decide)
   have vG:=Nat.div_add_mod m 1000000000
   have hr9:=mod_lt m (show 1000000000>0 by decide)
   generalize m / 1000000000=qn at*
   generalize m%1000000000=r0 at*
   have hqq:=hq
   refine cG (σ:=Value×List Nat×Nat×Nat×ae) (λp=>[p.1,.int .u32 (p.2.2.1:Int),I p.2.2.2.1]) (λp=>p.2.2.2.2)
    (λp=>EX h p.2.2.2.2/\cS p.2.2.2.2 q qn/\cK h.length p.2.2.2.2 5 p.1 ((p.2.1.map iW).map cv)/\ee 10 p.2.1/\p.2.2.2.1<=9/\p.2.2.1<10^(9-p.2.2.2.1)/\p.2.1.length<=b.length+p.2.2.2.1/\val 10 p.2.1+10^p.2.1.length*(p.2.2.1+10^(9-p.2.2.2.1)*qn)=n/\(qn=0->p.2.2.1=0->dA 10 p.2.1)) (λp=>9-p.2.2.2.1)
    (bv,b,r0,0,h1) rfl rfl ⟨hex.trans x1,hq,ahR,iH,by simp,by simpa using hr9,by simp,?_,?_⟩ ?_
   ·show val 10 b+10^b.length*(r0+10^(9-0)*qn)=n
    have:r0+10^(9-0)*qn=m:=by
     show r0+1000000000*qn=m
     omega
    rw [this];exact dM
   ·intro h1 h2
    have h1:qn=0:=h1
    have h2:r0=0:=h2
    subst h1;subst h2
    omega
   rintro ⟨zX,c,r,i,hy⟩ ⟨F3,AT,Gq,AJ,hi,hr,dV,we,FX⟩ L2 eK
   simp only at F3 AT Gq AJ hi hr dV we FX eK⊢
   rw [ane]
   -- leaving
   have stop:r=0->(i=9∨qn=0)->BK prog K zX q L hy:=by
    intro tD rr
    rw [anf]
    refine ⟨rfl,hL (q,qn,zX,c,hy) ⟨F3,AT,Gq,AJ,?_,λh0=>FX h0 tD⟩ ahZ⟩
    show val 10 c+10^c.length*qn=n
    rw [tD,Nat.zero_add] at we
    rcases rr with h9 | h0
    ·subst h9;simpa using we
    ·subst h0;simpa using we
   simp only [cb,ag]
   by_cases hi9:i<9
   ·rw [cz (show (i:Int)<9 by omega)]
    simp only [WX,hI]
    obtain ⟨l2,g0,g1⟩:=AT.oW
    simp only [g0,ag,fY]
    -- one digit more
    have step:(0<qn∨0<r)->aK (B true)
      (OP (ai .rem (.int .u32 (r:Int)) (.int .u32 (10))) λca=>
      OP (ai .add (.int .u32 (48)) ca) λa9=>
      OP (fg .u8 a9) λbB=>
      OH (bq 5 1 [(.int .u8 (0))] hy [(0,1,bB)]) λcm h_1=>
      OH (cE 5 1 1 h_1 zX cm) λcJ h_2=>
      OP (ai .quo (.int .u32 (r:Int)) (.int .u32 (10))) λdL=>
      OP (ai .add (I i) (.int .i64 (1))) λdR=>
      True/\L2 [cJ,dL,dR] h_2)
      (BK prog K zX q L hy):=by
     intro rr
     have hrW:r<4294967296:=Nat.lt_of_lt_of_le hr (le_trans (Nat.pow_le_pow_right (by decide) (show 9-i<=9 by omega)) (by decide))
     have ed:IntKind.wrap .u32 ((48:Int)+((r%10:Nat):Int))=((48+r%10:Nat):Int):=by rw [nc (by omega) (by omega)];omega
     have afV:ai .quo (.int .u32 (r:Int)) (.int .u32 10)=some (.int .u32 ((r / 10:Nat):Int)):=by
      have FQ:¬((10:Int)=0):=by omega
      simp only [ai,gU,if_true,if_neg FQ]
      have e:(r:Int).tdiv 10=((r / 10:Nat):Int):=rfl
      rw [e,nc (by omega) (by omega)]
     simp only [fD]
     rw [show (.int .u32 10:Value)=.int .u32 ((10:Nat):Int) from rfl,xe _ _ _ (by decide)]
     simp only [ag,cD,ed,jX]
     rw [Cv (by omega) (by omega),cvd (show r%10<10 by omega)]
     refine abW (x:=iW (r%10)) Gq F3 (by simp;omega) ?_
     intro v' cT ag1 ahQ AI
     rw [show (.int .u32 ((10:Nat):Int):Value)=.int .u32 10 from rfl,afV]
     simp only [ag,mP i (by omega),true_and]
     have fw:cS cT q qn:=AI q qn AT
     refine eK (v',c++[r%10],r / 10,i+1,cT) ⟨ag1,fw,by simpa using ahQ,AJ.append (λx hx=>by simp at hx;omega),by show i+1<=9;omega,?_,by show (c++[r%10]).length<=b.length+(i+1);simp;omega,?_,?_⟩ (by show 9-(i+1)<9-i;omega)
     ·show r / 10<10^(9-(i+1))
      rw [show 9-i=(9-(i+1))+1 by omega,pow_succ] at hr
      exact (Nat.div_lt_iff_lt_mul (by decide)).2 hr
     ·show val 10 (c++[r%10])+10^(c++[r%10]).length*(r / 10+10^(9-(i+1))*qn)=n
      rw [uw,length_append,List.length_singleton,pow_succ]
      rw [show 9-i=(9-(i+1))+1 by omega,pow_succ] at we
      have vG:=Nat.div_add_mod r 10
      simp only [val,Nat.mul_zero,add_zero]
      generalize r / 10=r1 at*
      generalize r%10=d at*
      generalize 10^c.length=P at*
      generalize 10^(9-(i+1))=Q at*
      generalize val 10 c=V at*
      clear hL eK hr FX dM stop
      subst vG
      grind
     ·intro h1 h2
      have h2:r / 10=0:=h2
      refine PS (AJ.append (λx hx=>by simp at hx;omega)) ?_
      intro _
      have:0<r:=by rcases rr with h | h;omega;exact h
      simp
      omega
    by_cases hq0:0<qn
    ·rw [cz (show (0:Int)<(l2:Int) by omega)]
     simp only [Jz,kK,BU,fh,ag,hI,BV]
     exact step (.inl hq0)
    ·rw [bN (show ¬(0:Int)<(l2:Int) by omega)]
     simp only [Jz,gK,fY,ag]
     by_cases tD:0<r
     ·rw [cz (show (0:Int)<(r:Int) by omega)]
      simp only [BU,hI,dO,ag,BV,fh]
      exact step (.inr tD)
     ·rw [bN (show ¬(0:Int)<(r:Int) by omega)]
      simp only [BU,hI,dO,ag,BV,fh,cN]
      exact stop (by omega) (.inr (by omega))
   ·have:i=9:=by omega
    subst this
    rw [bN (show ¬((9:Nat):Int)<9 by omega)]
    simp only [WX,jz,Jz,sG,BU,BV,dO,ag,cN]
    exact stop (by simpa using hr) (.inl rfl)
  ·have kC:m=0:=by omega
   subst kC
   have hc:=QV rfl
   rw [Nat.mul_zero,add_zero] at dM
   have hb:b=nB n:=dA.unique (by decide) hc (E9 n).1 (by rw [dM,(E9 n).2])
   have QP:b≠[]:=by rintro rfl;simp [val] at dM;omega
   have mw:b.length<=2000:=by
    have h1:=dA.low (by decide) hc QP
    have h2:=Si (b:=b.length-1) (m:=1) (n:=n) (by decide) (by omega) la
    omega
   rw [ang]
   obtain ⟨id,fL,hv,hg⟩:∃id,h.length<=id/\bv=sl 5 id 0 (b.map iW).length/\hx[id]?=some (.arr 5 ((b.map iW).map cv)):=by
    rcases AP with ⟨_,h0⟩ | ⟨id,h1,h2,h3⟩
    ·exact absurd (by simpa using h0) QP
    ·exact ⟨id,h1,by simpa using h2,h3⟩
   rw [hv]
   refine YL hg (by simp;omega) ?_
   have ahi:=(ba hg).1
   have b2:mL (Go.Proofs.YtncaiogfjjepcaaGreatDoor.hb hx id (b.map iW).reverse) (sl 5 id 0 (b.map iW).length)=some (S (b.map iW).reverse):=by
    refine qC (b:=0) (e:=5) (l:=(b.map iW).reverse) (.inr ⟨id,zero_le _,by simp,?_⟩)
    rw [AB ahi]
   simp only [b2,ag]
   have:(b.map iW).reverse=eR n:=by unfold eR;rw [if_neg (by omega),hb]
   rw [this]
   exact hk _ (hex.set fL _)
end
section
theorem DS.cells {e:TypeId} {k:IntKind} {h:ae} {v:Value} {xs:List Nat} (p:DS e k h v xs):eX h 1 v=some (xs.map λd:Nat=>Value.int k (d:Int))/\iM v=some xs.length:=by
 rcases p with ⟨rfl,rfl⟩ | ⟨i,rfl,hc⟩
 ·exact ⟨rfl,rfl⟩
 ·refine ⟨?_,rfl⟩
  unfold eX sl
  simp only
  by_cases hz:xs.length=0
  ·rw [if_pos hz]
   have:xs=[]:=length_eq_zero_iff.1 hz
   subst this
   rfl
  ·obtain ⟨r,hc⟩:=hc.resolve_left (by rintro rfl;simp at hz)
   rw [if_neg hz,hc]
   simp only [bind_some]
   rw [if_pos (by simp)]
   have:((xs.map (λd:Nat=>Value.int k (d:Int))++r).drop 0).take (xs.length*1)=xs.map λd:Nat=>Value.int k (d:Int):=by
    rw [drop_zero,Nat.mul_one,List.take_append_of_le_length (by simp),take_of_length_le (by simp)]
   rw [this]
end
section
abbrev hz (h:ae) (os:List Nat):ae:=h++[.arr 3 (os.map λd:Nat=>I d)]
end
section
theorem apv {h:ae} {i:Nat} {e:TypeId} {a b c d x y z w:Value} (hg:h[i]?=some (.arr e [a,b,c,d])):bE 4 h (pt i 0) (.agg #[x,y,z,w])=some (undef,h.set i (.arr e [x,y,z,w])):=by
 simp [bE,oT,hg,de,bK,Value.cells,setAt]
theorem Hc {h:ae} {i:Nat} {e:TypeId} {a b c d:Value} (hg:h[i]?=some (.arr e [a,b,c,d])):af true 4 h (pt i 0)=some (.agg #[a,b,c,d]):=by
 simp [af,bn,hg,cU]
theorem Hd {h:ae} {i:Nat} {e:TypeId} {a b c d:Value} (hg:h[i]?=some (.arr e [a,b,c,d])):af true 2 h (pt i 0)=some (.agg #[a,b]):=by
 simp [af,bn,hg,cU]
theorem He {h:ae} {i:Nat} {e:TypeId} {a b c d:Value} (hg:h[i]?=some (.arr e [a,b,c,d])):af true 2 h (pt i 2)=some (.agg #[c,d]):=by
 simp [af,bn,hg,cU]
theorem Fu {h':ae} {j:Nat} {e:TypeId} {b0 v0 c0 w0 a b c d:Value} {K:Value->ae->Prop} (hg:h'[j]?=some (.arr e [b0,v0,c0,w0])) (hk:K (.agg #[a,b,c,d]) (h'.set j (.arr e [a,b,c,d]))):
  OH (bE 4 h' (pt j 0) (.agg #[a,b,c,d])) λ_ h6=>OP (af true 4 h6 (pt j 0)) λr0=>K r0 h6:=by
 rw [apv hg]
 simp only [bc]
 rw [Hc (lC hg)]
 exact ag.2 hk
theorem Nd {b c:Bool} {e e':TypeId} {k k':IntKind} {h h':ae} {v w:Value} {xs ys:List Nat} (d:DS e k h v xs) (d':DS e' k' h' w ys):
  jo [(.bool false),(.slice none 0 0),(.bool false),(.slice none 0 0)] [(0,2,.agg #[B b,v]),(2,2,.agg #[B c,w])]=some (.agg #[B b,v,B c,w]):=by
 rcases d with ⟨rfl,_⟩ | ⟨i,rfl,_⟩ <;> rcases d' with ⟨rfl,_⟩ | ⟨i',rfl,_⟩ <;> rfl
abbrev z4:List Value:=[(.bool false),(.slice none 0 0),(.bool false),(.slice none 0 0)]
end
section
def m8 (s:List UInt8):Nat:=s.foldl (λd c=>10*d+(c.toNat-48)) 0
theorem J8:∀(s:List UInt8) (a:Nat),s.foldl (λd c=>10*d+(c.toNat-48)) a=a*10^s.length+m8 s
 | [],a=>by simp [m8]
 | c::s,a=>by
  have h1:=J8 s (10*a+(c.toNat-48))
  have h2:=J8 s (10*0+(c.toNat-48))
  have e:m8 (c::s)=s.foldl (λd c=>10*d+(c.toNat-48)) (10*0+(c.toNat-48)):=rfl
  rw [e,h2,List.foldl_cons,h1,length_cons,pow_succ]
  generalize 10^s.length=P
  generalize c.toNat-48=d
  generalize m8 s=w
  grind
theorem apJ (s t:List UInt8):m8 (s++t)=m8 s*10^t.length+m8 t:=by
 show (s++t).foldl _ 0=_
 rw [List.foldl_append,J8]
 rfl
theorem apK (c:UInt8):m8 [c]=c.toNat-48:=by simp [m8]
def aeP (s:List UInt8):Prop:=∀c∈s,48<=c.toNat/\c.toNat<=57
end
section
theorem X0:∀{ds:List Nat},ee 10 ds->m8 ((ds.map iW).reverse)=val 10 ds
 | [],_=>rfl
 | d::ds,h=>by
  have h1:=X0 (ds:=ds) λy hy=>h y (by simp [hy])
  have h2:=h d (by simp)
  rw [map_cons,List.reverse_cons,apJ,apK,h1,zZ h2]
  simp only [val,List.length_singleton,Nat.pow_one]
  omega
theorem Aa {n:Nat} (hn:n<dj):aeP (eR n)/\0<(eR n).length/\(eR n).length<=1000/\((eR n).head?=some 48->(eR n).length=1)/\m8 (eR n)=n:=by
 obtain ⟨hc,hv⟩:=E9 n
 by_cases h0:n=0
 ·subst h0
  have:eR 0=[48]:=rfl
  rw [this]
  exact ⟨λc hc=>by simp at hc;subst hc;decide,by simp,by simp,by simp,rfl⟩
 ·have e:eR n=((nB n).map iW).reverse:=by unfold eR;rw [if_neg h0]
  have aU:nB n≠[]:=by
   intro h
   rw [h] at hv
   exact h0 hv.symm
  rw [e]
  refine ⟨?_,?_,?_,?_,?_⟩
  ·intro c QR
   simp only [List.mem_reverse,mem_map] at QR
   obtain ⟨d,hd,rfl⟩:=QR
   rw [zZ (hc.1 d hd)]
   have:=hc.1 d hd
   omega
  ·simp only [List.length_reverse,length_map]
   exact length_pos_iff.2 aU
  ·simp only [List.length_reverse,length_map]
   show _<=A6
   refine hc.len (by decide) ?_
   rw [hv]
   exact Nat.lt_of_lt_of_le hn M5
  ·intro vv
   exfalso
   rw [List.head?_reverse,List.getLast?_map] at vv
   cases hl:(nB n).getLast? with
   | none=>rw [hl] at vv;simp at vv
   | some d=>
    rw [hl] at vv
    have hd:d<10:=hc.1 d (List.mem_of_getLast? hl)
    have h3:iW d=48:=by simpa using vv
    have h4:=congrArg UInt8.toNat h3
    rw [zZ hd] at h4
    have h5:(48:UInt8).toNat=48:=rfl
    rw [h5] at h4
    have:d=0:=by omega
    subst this
    exact hc.2 hl
  ·rw [X0 hc.1,hv]
def fy (z:Int):List UInt8:=if z<0 then 45::eR z.natAbs else eR z.natAbs
end
end Go.Proofs.YtncaiogfjjepcaaGreatDoor
