/-
  Part 4 of the texts behind a statement of this seat: Ct28, Ct29, Ct30, Ct31, Ct32, Ct33, ZR1, Ct34, Ct35, Ct36, Ct37, Ct38, Ct39, Ct40, ZR2.
-/
import Derived.Test.YtelmdbpaoifmoaaGreatProg
import Derived.KernelRfl
import Derived.Test.YtelmdbpaoifmoaaGreatMv3
open Classical (byContradiction)
open Go.Proofs.Tryz (prog)
open List (drop_eq_getElem_cons drop_zero getElem?_set_ne getElem_mem getElem_set_ne length_append length_cons length_nil length_set length_take replicate take_length take_of_length_le)
open Nat (add_zero le_refl mod_lt mul_zero pow_pos pow_succ zero_add)
namespace Go.Proofs.YtelmdbpaoifmoaaGreat
open Go.Sim
section
def bG:Nat:=4294967296^100
theorem ajp {n:Nat} (h:n<4294967296^20):n<bG:=Nat.lt_of_lt_of_le h (Nat.pow_le_pow_right (by decide) (by decide))
theorem qJ {xs:List Nat} (h:dJ 4294967296 xs) (hv:val 4294967296 xs<bG):xs.length<=100:=h.len (by decide) hv
def DS (e:TypeId) (k:IntKind) (h:ae) (v:Value) (xs:List Nat):Prop:=
 (v=.slice none 0 0/\xs=[])∨∃i,v=sl e i 0 xs.length/\(xs=[]∨∃rest,aW h i=some (xs.map (λd:Nat=>Value.int k (d:Int))++rest))
theorem DS.mono {e:TypeId} {k:IntKind} {h h':ae} {v:Value} {xs:List Nat} (x:EX h h') (p:DS e k h v xs):DS e k h' v xs:=
 p.imp id λ⟨i,a,b⟩=>⟨i,a,b.imp id λ⟨r,c⟩=>⟨r,x.cells c⟩⟩
theorem DS.len {e:TypeId} {k:IntKind} {h:ae} {v:Value} {xs:List Nat} (p:DS e k h v xs):bk v=some (I xs.length):=by
 rcases p with ⟨rfl,rfl⟩ | ⟨i,rfl,_⟩ <;> rfl
theorem DS.get {e:TypeId} {k:IntKind} {h:ae} {v:Value} {xs:List Nat} (p:DS e k h v xs) {j:Nat} (hj:j<xs.length):∃i,aZ 1 v (I j)=some (pt i j)/\af false 1 h (pt i j)=some (.int k (xs[j]:Int)):=by
 rcases p with ⟨_,rfl⟩ | ⟨i,rfl,hc⟩
 ·simp at hj
 ·obtain ⟨r,hc⟩:=hc.resolve_left (by rintro rfl;simp at hj)
  refine ⟨i,ow hj,?_⟩
  have:(xs.map (λd:Nat=>Value.int k (d:Int))++r)[j]?=some (.int k (xs[j]:Int)):=by rw [List.getElem?_append_left (by simpa using hj)];simp [hj]
  simp [af,hc,cP,this]
theorem DS.nil (e:TypeId) (k:IntKind) (h:ae):DS e k h (.slice none 0 0) []:=.inl ⟨rfl,rfl⟩
theorem DS.one {e:TypeId} {k:IntKind} {h:ae} {v:Value} {xs:List Nat} (p:DS e k h v xs):jq v=true/\dU v=[v]:=by
 rcases p with ⟨rfl,_⟩ | ⟨i,rfl,_⟩ <;> exact ⟨rfl,rfl⟩
theorem DS.pop {e:TypeId} {k:IntKind} {h:ae} {v:Value} {xs:List Nat} (p:DS e k h v xs) {n:Nat} (hn:n<=xs.length):∃v',nX e 1 v none (some (I n))=some v'/\DS e k h v' (xs.take n):=by
 rcases p with ⟨rfl,rfl⟩ | ⟨i,rfl,hc⟩
 ·simp at hn;subst hn
  exact ⟨_,rfl,.inl ⟨rfl,rfl⟩⟩
 ·refine ⟨sl e i 0 n,?_,.inr ⟨i,by rw [length_take,Nat.min_eq_left hn],?_⟩⟩
  ·simp [nX,sl,tE,u9,hn]
  ·rcases hc with rfl | ⟨r,hc⟩
   ·left;simp
   ·right
    refine ⟨(xs.drop n).map (λd:Nat=>Value.int k (d:Int))++r,?_⟩
    rw [hc,<-List.append_assoc,<-List.map_append,List.take_append_drop]
def dL (h:ae) (v:Value) (n:Nat):Prop:=∃xs,DS 177 .u32 h v xs/\dJ 4294967296 xs/\val 4294967296 xs=n
theorem dL.mono {h h':ae} {v:Value} {n:Nat} (x:EX h h') (p:dL h v n):dL h' v n:=let ⟨xs,a,b,c⟩:=p;⟨xs,a.mono x,b,c⟩
theorem sJ {h:ae} {K:Value->ae->Prop} {v:Value} {xs:List Nat} (p:DS 177 .u32 h v xs) (hl:cN 4294967296 xs) (hs:xs.length<=1000) (hk:∀v',dL h v' (val 4294967296 xs)->K v' h):ak prog 118 [v] h K:=by
 refine f118 ?_
 refine dF (σ:=Value×List Nat) (λp=>[p.1]) (λ_=>h) (λq=>DS 177 .u32 h q.1 q.2/\cN 4294967296 q.2/\val 4294967296 q.2=val 4294967296 xs/\q.2.length<=1000) (λq=>q.2.length) (v,xs) rfl rfl ⟨p,hl,rfl,hs⟩ ?_
 rintro ⟨v,ys⟩ ⟨p,hl,hv,hs⟩ L hL
 simp only at p hl hv hs hL⊢
 rw [aFk]
 have done:dJ 4294967296 ys->VF prog K v h:=by
  intro hc
  rw [aFj]
  exact hk v ⟨ys,p,hc,hv⟩
 simp only [p.len,ah,fQ]
 by_cases h0:ys.length=0
 ·have:ys=[]:=List.length_eq_zero_iff.1 h0
  rw [aY (show ¬(0:Int)<(ys.length:Int) by omega)]
  simp only [apf,jV,ape,dQ,ah,dD]
  exact done (by rw [this];exact dJ.nil 4294967296)
 ·rw [bj (show (0:Int)<(ys.length:Int) by omega)]
  have e1:IntKind.wrap .i64 ((ys.length:Int)-1)=((ys.length-1:Nat):Int):=by rw [wrap64 (by omega) (by omega)];omega
  obtain ⟨i,g1,g2⟩:=p.get (j:=ys.length-1) (by omega)
  simp only [apf,fP,p.len,ah,gE,e1,g1,g2,hY,ape,dY,bQ]
  refine ⟨λhz=>?_,λhz=>?_⟩
  ·obtain ⟨v',h1,h2⟩:=p.pop (n:=ys.length-1) (by omega)
   simp only [h1,ah,true_and]
   have aCg:ys=ys.take (ys.length-1)++[0]:=by
    have:=List.take_succ_eq_append_getElem (l:=ys) (i:=ys.length-1) (by omega)
    rw [show ys.length-1+1=ys.length by omega,take_length] at this
    have sg:ys[ys.length-1]=0:=by omega
    rw [sg] at this
    exact this
   refine hL (v',ys.take (ys.length-1)) ⟨h2,hl.mono λy hy=>List.mem_of_mem_take hy,?_,by rw [length_take];omega⟩ (by simp;omega)
   rw [<-hv]
   conv=>rhs;rw [aCg]
   rw [og]
   simp [val]
  ·exact done (Jr hl λh1 hc=>hz (by rw [hc];rfl))
/-- Fresh digits at the end of the heap. -/
abbrev hd (h:ae) (os:List Nat):ae:=h++[.arr 177 (os.map λd:Nat=>Value.int .u32 (d:Int))]
theorem A6 {h:ae} {n:Nat} (hn:n<=1000):lI 177 4 [.int .u32 0] h (I n) (I n)=some (sl 177 h.length 0 n,hd h (replicate n 0)):=by
 have hz:∀m,je [Value.int .u32 0] m=(replicate m 0).map λd:Nat=>Value.int .u32 (d:Int):=by
  intro m
  induction m with
  | zero=>rfl
  | succ m ih=>
   have:je [Value.int .u32 0] (m+1)=Value.int .u32 0::je [Value.int .u32 0] m:=by simp [je,List.replicate_succ]
   rw [this,ih,List.replicate_succ];rfl
 simp only [lI]
 rw [if_pos ⟨by omega,by omega,by omega,by omega⟩,Int.toNat_natCast,hz]
theorem SZ (h:ae) (os:List Nat):(hd h os)[h.length]?=some (.arr 177 (os.map λd:Nat=>Value.int .u32 (d:Int))):=by simp [hd]
theorem wa {h:ae} {os:List Nat} {j:Nat} (d:Nat) (hj:j<os.length):aG 1 (hd h os) (pt h.length j) (.int .u32 (d:Int))=some (undef,hd h (os.set j d)):=by
 rw [qx (SZ h os) (by simpa using hj) rfl rfl]
 simp [hd,List.map_set]
theorem ahh {h:ae} {os:List Nat} {j:Nat} (hj:j<os.length):af false 1 (hd h os) (pt h.length j)=some (.int .u32 (os[j]:Int)):=by
 simp [af,aW,cP,hj]
theorem Ao (h:ae) (os:List Nat):DS 177 .u32 (hd h os) (sl 177 h.length 0 os.length) os:=.inr ⟨h.length,rfl,.inr ⟨[],by simp [aW,hd]⟩⟩
theorem lF (h:ae) (os:List Nat):EX h (hd h os):=EX.append _ _
theorem lP {n:Int} (h1:0<=n) (h2:n<18446744073709551616):IntKind.wrap .u64 n=n:=by
 have e:IntKind.wrap .u64 n=n%18446744073709551616:=by simp [IntKind.wrap,IntKind.bits,IntKind.signed]
 rw [e];omega
theorem yP (n:Int):IntKind.wrap .u32 n=n%4294967296:=by simp [IntKind.wrap,IntKind.bits,IntKind.signed]
theorem oY {n:Int} (h1:0<=n) (h2:n<4294967296):IntKind.wrap .u32 n=n:=by rw [yP];omega
theorem Bq (s:Nat):ai .shr (.int .u64 (s:Int)) (.int .u64 32)=some (.int .u64 ((s / 4294967296:Nat):Int)):=by
 simp only [ai,re]
 rw [if_neg (by omega)]
 have:(min (32:Int).toNat IntKind.u64.bits)=32:=rfl
 rw [this]
 have e2:(2:Int)^32=4294967296:=by decide
 rw [e2,Int.fdiv_eq_ediv_of_nonneg _ (by omega)]
 congr 2
theorem Za {x y c:Nat} {h:ae} {K:Value->ae->Prop} (hx:x<4294967296) (hy:y<4294967296) (hc:c<=1) (hk:K (.tuple #[.int .u32 (((x+y+c)%4294967296:Nat):Int),.int .u32 (((x+y+c) / 4294967296:Nat):Int)]) h):
  ak prog 133 [.int .u32 (x:Int),.int .u32 (y:Int),.int .u32 (c:Int)] h K:=by
 refine f133 ?_
 have e1:IntKind.wrap .u64 ((x:Int)+(y:Int))=((x+y:Nat):Int):=by rw [lP (by omega) (by omega)];omega
 have e2:IntKind.wrap .u64 (((x+y:Nat):Int)+(c:Int))=((x+y+c:Nat):Int):=by rw [lP (by omega) (by omega)];omega
 have e3:IntKind.wrap .u32 ((x+y+c:Nat):Int)=(((x+y+c)%4294967296:Nat):Int):=by rw [yP];omega
 simp only [Pd,kZ,ah,cL]
 rw [lP (n:=(x:Int)) (by omega) (by omega),lP (n:=(y:Int)) (by omega) (by omega),e1,lP (n:=(c:Int)) (by omega) (by omega),e2]
 simp only [Bq,ah,kZ,e3]
 rw [oY (by omega) (by omega)]
 exact hk
theorem Y7 {va vb:Value} {xs ys:List Nat} {h:ae} {K:Value->ae->Prop} (hx:DS 177 .u32 h va xs) (hy:DS 177 .u32 h vb ys) (lx:cN 4294967296 xs) (ly:cN 4294967296 ys) (hle:ys.length<=xs.length) (hlen:xs.length<=200)
  (hk:∀v h',EX h h'->dL h' v (val 4294967296 xs+val 4294967296 ys)->K v h'):LH prog K va vb h:=by
 rw [aFN]
 simp only [hx.len,ah,cL,ft xs.length (by omega),A6 (show xs.length+1<=1000 by omega),aE]
 have hW:0<4294967296:=by decide
 refine dF (σ:=Nat×Nat×List Nat) (λp=>[.int .u32 (p.1:Int),I p.2.1]) (λp=>hd h p.2.2)
  (λp=>p.2.1<=xs.length/\p.1<=1/\p.2.2.length=xs.length+1/\cN 4294967296 p.2.2/\(∀j (hj:j<p.2.2.length),p.2.1<=j->p.2.2[j]=0)/\val 4294967296 p.2.2+4294967296^p.2.1*p.1=val 4294967296 (xs.take p.2.1)+val 4294967296 (ys.take p.2.1)) (λp=>xs.length-p.2.1)
  (0,0,replicate (xs.length+1) 0) rfl rfl ⟨by simp,by simp,by simp,cN.xu hW _,by simp,by simp [yN,val]⟩ ?_
 rintro ⟨c,i,os⟩ ⟨hi,hc,iB,fH,hz,cf⟩ L hL
 simp only at hi hc iB fH hz cf hL⊢
 rw [aFJ]
 have cE:=hx.mono (lF h os)
 have qZ:=hy.mono (lF h os)
 simp only [cW,ah,bQ]
 refine ⟨λaF=>?_,λcU=>?_⟩
 ·have bn:i<xs.length:=by omega
  obtain ⟨ia,a1,a2⟩:=cE.get bn
  have iP:xs[i]<4294967296:=lx _ (getElem_mem bn)
  have go:∀y:Nat,y<4294967296->val 4294967296 (ys.take (i+1))=val 4294967296 (ys.take i)+4294967296^i*y->LG prog K va vb (sl 177 h.length 0 (xs.length+1)) (.int .u32 (c:Int)) (I i) (.int .u32 (y:Int)) (I xs.length) (I i) L (hd h os):=by
   intro y kP AM
   rw [aFK]
   simp only [a1,ah,a2]
   refine Za iP kP hc ?_
   simp only [eR,fv,fz,ah,ow (show i<xs.length+1 by omega)]
   rw [wa _ (by omega)]
   simp only [aE,aFL,cL,ah,ft i (by omega),true_and]
   have pF:(xs[i]+y+c)%4294967296<4294967296:=mod_lt _ hW
   have wc:(xs[i]+y+c) / 4294967296<=1:=by omega
   refine hL ((xs[i]+y+c) / 4294967296,i+1,os.set i ((xs[i]+y+c)%4294967296)) ⟨by show i+1<=xs.length;omega,wc,by show (os.set i _).length=_;rw [length_set];exact iB,fH.set pF i,?_,?_⟩ (by show xs.length-(i+1)<xs.length-i;omega)
   ·intro j hj eW
    show (os.set i _)[j]=0
    have Te:i≠j:=by have:i+1<=j:=eW;omega
    rw [getElem_set_ne Te]
    exact hz j (by simpa using hj) (by have:i+1<=j:=eW;omega)
   ·show val 4294967296 (os.set i _)+4294967296^(i+1)*_=val 4294967296 (xs.take (i+1))+val 4294967296 (ys.take (i+1))
    have h1:=tU 4294967296 os i ((xs[i]+y+c)%4294967296) (by omega)
    rw [hz i (by omega) (le_refl _)] at h1
    rw [jK 4294967296 xs bn,AM,pow_succ]
    have h2:=Nat.mod_add_div (xs[i]+y+c) 4294967296
    generalize (xs[i]+y+c)%4294967296=m at*
    generalize (xs[i]+y+c) / 4294967296=q at*
    generalize 4294967296^i=P at*
    generalize hWW:4294967296=w at*
    grind
  simp only [qZ.len,ah,cW,bQ]
  refine ⟨λhly=>?_,λhgy=>?_⟩
  ·have At:i<ys.length:=by omega
   obtain ⟨ib,b1,b2⟩:=qZ.get At
   simp only [b1,ah,b2]
   exact go _ (ly _ (getElem_mem At)) (jK 4294967296 ys At)
  ·have:=go 0 (by decide) (by rw [take_of_length_le (by omega),take_of_length_le (by omega)];simp)
   simpa using this
 ·have:i=xs.length:=by omega
  subst this
  rw [aFM]
  simp only [cE.len,ah,ow (show xs.length<xs.length+1 by omega)]
  rw [wa _ (by omega)]
  simp only [aE]
  have h1:=tU 4294967296 os xs.length c (by omega)
  rw [hz xs.length (by omega) (le_refl _)] at h1
  have hv:val 4294967296 (os.set xs.length c)=val 4294967296 xs+val 4294967296 ys:=by
   rw [take_length,take_of_length_le hle] at cf
   omega
  have hcW:c<4294967296:=Nat.lt_of_le_of_lt hc (by decide)
  have e:sl 177 h.length 0 (xs.length+1)=sl 177 h.length 0 (os.set xs.length c).length:=by rw [length_set,iB]
  rw [e]
  refine sJ (Ao h _) (fH.set hcW _) (by rw [length_set];omega) ?_
  intro v' hm
  rw [hv] at hm
  exact hk v' _ (lF h _) hm
theorem Y6 {va vb:Value} {a b:Nat} {h:ae} {K:Value->ae->Prop} (ha:dL h va a) (hb:dL h vb b) (la:a<bG) (lb:b<bG) (hk:∀v h',EX h h'->dL h' v (a+b)->K v h'):ak prog 128 [va,vb] h K:=by
 obtain ⟨xs,dx,cx,rfl⟩:=ha
 obtain ⟨ys,dy,cy,rfl⟩:=hb
 have l1:=qJ cx la
 have l2:=qJ cy lb
 refine f128 ?_
 simp only [O9,dx.len,dy.len,ah,cW,bQ]
 refine ⟨λaF=>?_,λcU=>?_⟩
 ·refine Y7 dy dx cy.1 cx.1 (by omega) (by omega) ?_
  rw [Nat.add_comm (val 4294967296 ys)]
  exact hk
 ·exact Y7 dx dy cx.1 cy.1 (by omega) (by omega) hk
end
section
theorem zK (X:BitVec 32):BitVec.ofInt IntKind.u32.bits (X.toNat:Int)=X:=by
 show BitVec.ofInt 32 (X.toNat:Int)=X
 rw [BitVec.ofInt_natCast,BitVec.ofNat_toNat,BitVec.setWidth_eq]
theorem D4 (X:BitVec 32):X.toNat<4294967296:=X.isLt
theorem auZ (X Y:BitVec 32):ai .and (.int .u32 (X.toNat:Int)) (.int .u32 (Y.toNat:Int))=some (.int .u32 ((X &&& Y).toNat:Int)):=by
 have h:=D4 (X &&& Y)
 have e:(BitVec.ofInt IntKind.u32.bits (X.toNat:Int) &&& BitVec.ofInt IntKind.u32.bits (Y.toNat:Int)).toNat=(X &&& Y).toNat:=by rw [zK,zK];rfl
 simp only [ai,iX,if_true]
 rw [e,oY (by omega) (by omega)]
theorem aEB (X Y:BitVec 32):ai .or (.int .u32 (X.toNat:Int)) (.int .u32 (Y.toNat:Int))=some (.int .u32 ((X ||| Y).toNat:Int)):=by
 have h:=D4 (X ||| Y)
 have e:(BitVec.ofInt IntKind.u32.bits (X.toNat:Int) ||| BitVec.ofInt IntKind.u32.bits (Y.toNat:Int)).toNat=(X ||| Y).toNat:=by rw [zK,zK];rfl
 simp only [ai,iX,if_true]
 rw [e,oY (by omega) (by omega)]
theorem aKP (X Y:BitVec 32):ai .xor (.int .u32 (X.toNat:Int)) (.int .u32 (Y.toNat:Int))=some (.int .u32 ((X^^^Y).toNat:Int)):=by
 have h:=D4 (X^^^Y)
 have e:(BitVec.ofInt IntKind.u32.bits (X.toNat:Int)^^^BitVec.ofInt IntKind.u32.bits (Y.toNat:Int)).toNat=(X^^^Y).toNat:=by rw [zK,zK];rfl
 simp only [ai,iX,if_true]
 rw [e,oY (by omega) (by omega)]
theorem aEm (X:BitVec 32):gq .xor (.int .u32 (X.toNat:Int))=some (.int .u32 ((~~~X).toNat:Int)):=by
 have h:=D4 (~~~X)
 have e:(BitVec.ofInt IntKind.u32.bits (if IntKind.u32.signed=true then -1 else IntKind.u32.max)^^^BitVec.ofInt IntKind.u32.bits (X.toNat:Int)).toNat=(~~~X).toNat:=by
  rw [zK]
  show (BitVec.ofInt 32 4294967295^^^X).toNat=_
  rw [show BitVec.ofInt 32 4294967295=BitVec.allOnes 32 from by decide,BitVec.allOnes_xor]
 simp only [gq]
 rw [e,oY (by omega) (by omega)]
theorem aKh (Z:BitVec 32):ai .shr (.int .u32 (Z.toNat:Int)) (.int .u64 31)=some (.int .u32 ((if Z.msb then 1 else 0:Nat):Int)):=by
 have h:=D4 Z
 simp only [ai,re]
 rw [if_neg (by omega)]
 have:(min (31:Int).toNat IntKind.u32.bits)=31:=rfl
 rw [this]
 have e2:(2:Int)^31=2147483648:=by decide
 rw [e2,Int.fdiv_eq_ediv_of_nonneg _ (by omega),BitVec.msb_eq_decide]
 congr 2
 by_cases hz:2^31<=Z.toNat
 ·simp [hz];omega
 ·simp [hz];omega
theorem Zb {x y b:Nat} {h:ae} {K:Value->ae->Prop} (hx:x<4294967296) (hy:y<4294967296) (hb:b<=1) (hk:K (.tuple #[.int .u32 (((x+4294967296+4294967296-y-b)%4294967296:Nat):Int),.int .u32 ((if x<y+b then 1 else 0:Nat):Int)]) h):
  ak prog 134 [.int .u32 (x:Int),.int .u32 (y:Int),.int .u32 (b:Int)] h K:=by
 refine f134 ?_
 obtain ⟨X,rfl⟩:∃X:BitVec 32,x=X.toNat:=⟨BitVec.ofNat 32 x,by rw [BitVec.toNat_ofNat];exact (Nat.mod_eq_of_lt hx).symm⟩
 obtain ⟨Y,rfl⟩:∃Y:BitVec 32,y=Y.toNat:=⟨BitVec.ofNat 32 y,by rw [BitVec.toNat_ofNat];exact (Nat.mod_eq_of_lt hy).symm⟩
 obtain ⟨D,hD⟩:∃D:BitVec 32,D.toNat=(X.toNat+4294967296+4294967296-Y.toNat-b)%4294967296:=⟨BitVec.ofNat 32 _,by rw [BitVec.toNat_ofNat]⟩
 have e1:IntKind.wrap .u32 (IntKind.wrap .u32 ((X.toNat:Int)-(Y.toNat:Int))-(b:Int))=(D.toNat:Int):=by
  rw [yP,yP,hD];omega
 simp only [Pe,gE,ah,e1,aEm,auZ,aKP,aEB,aKh]
 rw [<-hD] at hk
 have e2:(if (~~~X &&& Y ||| ~~~(X^^^Y) &&& D).msb then 1 else 0:Nat)=if X.toNat<Y.toNat+b then 1 else 0:=by
  rw [BitVec.msb_or,BitVec.msb_and,BitVec.msb_and,BitVec.msb_not,BitVec.msb_not,BitVec.msb_xor,BitVec.msb_eq_decide X,BitVec.msb_eq_decide Y,BitVec.msb_eq_decide D]
  by_cases c1:2^(32-1)<=X.toNat <;> by_cases c2:2^(32-1)<=Y.toNat <;> by_cases c3:2^(32-1)<=D.toNat <;> simp [c1,c2,c3] <;> omega
 rw [e2]
 exact hk
theorem Y8 {va vb:Value} {a b:Nat} {h:ae} {K:Value->ae->Prop} (ha:dL h va a) (hb:dL h vb b) (la:a<bG) (iL:b<=a) (hk:∀v h',EX h h'->dL h' v (a-b)->K v h'):ak prog 129 [va,vb] h K:=by
 obtain ⟨xs,hx,cx,rfl⟩:=ha
 obtain ⟨ys,hy,cy,rfl⟩:=hb
 have l1:=qJ cx la
 have l2:=qJ cy (Nat.lt_of_le_of_lt iL la)
 have hle:ys.length<=xs.length:=by
  apply byContradiction
  intro hc
  have:=dJ.A4 (by decide) cx cy (by omega)
  omega
 refine f129 ?_
 simp only [Pa,hx.len,ah,A6 (show xs.length<=1000 by omega),aE]
 have hW:(0:Nat)<4294967296:=by decide
 refine dF (σ:=Nat×Nat×List Nat) (λp=>[.int .u32 (p.1:Int),I p.2.1]) (λp=>hd h p.2.2)
  (λp=>p.2.1<=xs.length/\p.1<=1/\p.2.2.length=xs.length/\cN 4294967296 p.2.2/\(∀j (hj:j<p.2.2.length),p.2.1<=j->p.2.2[j]=0)/\val 4294967296 p.2.2+val 4294967296 (ys.take p.2.1)=val 4294967296 (xs.take p.2.1)+4294967296^p.2.1*p.1) (λp=>xs.length-p.2.1)
  (0,0,replicate xs.length 0) rfl rfl ⟨by simp,by simp,by simp,cN.xu hW _,by simp,by simp [yN,val]⟩ ?_
 rintro ⟨c,i,os⟩ ⟨hi,hc,iB,fH,hz,cf⟩ L hL
 simp only at hi hc iB fH hz cf hL⊢
 rw [aFR]
 have cE:=hx.mono (lF h os)
 have qZ:=hy.mono (lF h os)
 simp only [cW,ah,bQ]
 refine ⟨λaF=>?_,λcU=>?_⟩
 ·have bn:i<xs.length:=by omega
  obtain ⟨ia,a1,a2⟩:=cE.get bn
  have iP:xs[i]<4294967296:=cx.1 _ (getElem_mem bn)
  have go:∀y:Nat,y<4294967296->val 4294967296 (ys.take (i+1))=val 4294967296 (ys.take i)+4294967296^i*y->LI prog K va vb (sl 177 h.length 0 xs.length) (.int .u32 (c:Int)) (I i) (.int .u32 (y:Int)) (I xs.length) (I i) L (hd h os):=by
   intro y kP AM
   rw [aFO]
   simp only [a1,ah,a2]
   refine Zb iP kP hc ?_
   simp only [eR,fv,fz,ah,ow bn]
   rw [wa _ (by omega)]
   simp only [aE,aFP,cL,ah,ft i (by omega),true_and]
   have pF:(xs[i]+4294967296+4294967296-y-c)%4294967296<4294967296:=mod_lt _ hW
   have mE:(if xs[i]<y+c then 1 else 0)<=1:=by split <;> omega
   have hs:(xs[i]+4294967296+4294967296-y-c)%4294967296+y+c=xs[i]+4294967296*(if xs[i]<y+c then 1 else 0):=by
    split <;> omega
   refine hL ((if xs[i]<y+c then 1 else 0),i+1,os.set i ((xs[i]+4294967296+4294967296-y-c)%4294967296)) ⟨by show i+1<=xs.length;omega,mE,by show (os.set i _).length=_;rw [length_set];exact iB,fH.set pF i,?_,?_⟩ (by show xs.length-(i+1)<xs.length-i;omega)
   ·intro j hj eW
    show (os.set i _)[j]=0
    have Te:i≠j:=by have:i+1<=j:=eW;omega
    rw [getElem_set_ne Te]
    exact hz j (by simpa using hj) (by have:i+1<=j:=eW;omega)
   ·show val 4294967296 (os.set i _)+val 4294967296 (ys.take (i+1))=val 4294967296 (xs.take (i+1))+4294967296^(i+1)*_
    have h1:=tU 4294967296 os i ((xs[i]+4294967296+4294967296-y-c)%4294967296) (by omega)
    rw [hz i (by omega) (le_refl _)] at h1
    rw [jK 4294967296 xs bn,AM,pow_succ]
    generalize (xs[i]+4294967296+4294967296-y-c)%4294967296=m at*
    generalize (if xs[i]<y+c then 1 else 0)=q at*
    generalize 4294967296^i=P at*
    generalize (4294967296:Nat)=w at*
    grind
  simp only [qZ.len,ah,cW,bQ]
  refine ⟨λhly=>?_,λhgy=>?_⟩
  ·have At:i<ys.length:=by omega
   obtain ⟨ib,b1,b2⟩:=qZ.get At
   simp only [b1,ah,b2]
   exact go _ (cy.1 _ (getElem_mem At)) (jK 4294967296 ys At)
  ·have:=go 0 (by decide) (by rw [take_of_length_le (by omega),take_of_length_le (by omega)];simp)
   simpa using this
 ·have:i=xs.length:=by omega
  subst this
  rw [aFQ]
  rw [take_length,take_of_length_le hle] at cf
  have aF:=nJ fH
  rw [iB] at aF
  have sZ:c=0:=by
   apply byContradiction
   intro bt
   have:c=1:=by omega
   subst this
   omega
  subst sZ
  have hv:val 4294967296 os=val 4294967296 xs-val 4294967296 ys:=by omega
  have e:sl 177 h.length 0 xs.length=sl 177 h.length 0 os.length:=by rw [iB]
  rw [e]
  refine sJ (Ao h _) fH (by omega) ?_
  intro v' hm
  rw [hv] at hm
  exact hk v' _ (lF h _) hm
def nH (a b:Nat):Int:=if a<b then -1 else if b<a then 1 else 0
theorem M8 {B:Nat} {xs ys:List Nat} (lx:cN B xs) (_:cN B ys) (hl:xs.length=ys.length) {i:Nat} (hi:i<xs.length) (hd:xs.drop (i+1)=ys.drop (i+1)) (h:xs[i]<ys[i]'(by omega)):val B xs<val B ys:=by
 have e1:xs=xs.take i++xs[i]::xs.drop (i+1):=by rw [<-drop_eq_getElem_cons hi,List.take_append_drop]
 have e2:ys=ys.take i++ys[i]'(by omega)::ys.drop (i+1):=by rw [<-drop_eq_getElem_cons (by omega),List.take_append_drop]
 have v1:val B xs=val B (xs.take i)+B^i*(xs[i]+B*val B (xs.drop (i+1))):=by
  conv=>lhs;rw [e1]
  rw [og,length_take,Nat.min_eq_left (by omega)];rfl
 have v2:val B ys=val B (ys.take i)+B^i*(ys[i]'(by omega)+B*val B (ys.drop (i+1))):=by
  conv=>lhs;rw [e2]
  rw [og,length_take,Nat.min_eq_left (by omega)];rfl
 rw [v1,v2,hd]
 have h1:=nJ (lx.mono (ys:=xs.take i) λy hy=>List.mem_of_mem_take hy)
 rw [length_take,Nat.min_eq_left (by omega)] at h1
 have h2:B^i*(xs[i]+1+B*val B (ys.drop (i+1)))<=B^i*(ys[i]'(by omega)+B*val B (ys.drop (i+1))):=Nat.mul_le_mul_left _ (by omega)
 generalize B^i=P at*
 generalize B*val B (ys.drop (i+1))=Q at*
 generalize val B (xs.take i)=u at*
 generalize val B (ys.take i)=v at*
 have h3:P*(xs[i]+1+Q)=P*(xs[i]+Q)+P:=by grind
 omega
theorem G5 {va vb:Value} {a b:Nat} {h:ae} {K:Value->ae->Prop} (ha:dL h va a) (hb:dL h vb b) (la:a<bG) (lb:b<bG) (hk:K (I (nH a b)) h):ak prog 126 [va,vb] h K:=by
 obtain ⟨xs,hx,cx,rfl⟩:=ha
 obtain ⟨ys,hy,cy,rfl⟩:=hb
 have l1:=qJ cx la
 have l2:=qJ cy lb
 have less:val 4294967296 xs<val 4294967296 ys->K (.int .i64 (-1)) h:=λh1=>by unfold nH at hk;rw [if_pos h1] at hk;exact hk
 have more:val 4294967296 ys<val 4294967296 xs->K (.int .i64 1) h:=λh1=>by unfold nH at hk;rw [if_neg (by omega),if_pos h1] at hk;exact hk
 have same:val 4294967296 xs=val 4294967296 ys->K (.int .i64 0) h:=λh1=>by unfold nH at hk;rw [if_neg (by omega),if_neg (by omega)] at hk;exact hk
 refine f126 ?_
 simp only [O7,hx.len,hy.len,ah,oA,He,cW,bQ]
 refine ⟨λbt=>⟨λaF=>less (dJ.A4 (by decide) cx cy (by omega)),λcU=>more (dJ.A4 (by decide) cy cx (by omega))⟩,λhe=>?_⟩
 have gn:xs.length=ys.length:=by omega
 simp only [gE,ah]
 have e1:IntKind.wrap .i64 ((xs.length:Int)-1)=(xs.length:Int)-1:=by rw [wrap64 (by omega) (by omega)]
 rw [e1]
 refine dF (σ:=Nat) (λi=>[I ((i:Int)-1)]) (λ_=>h) (λi=>i<=xs.length/\xs.drop i=ys.drop i) (λi=>i) xs.length rfl rfl ⟨le_refl _,by rw [List.drop_length,gn,List.drop_length]⟩ ?_
 rintro i ⟨hi,tf⟩ L hL
 rw [aFI]
 simp only [nv,ah,bQ]
 refine ⟨λcU=>?_,λaF=>?_⟩
 ·obtain ⟨j,rfl⟩:∃j,i=j+1:=⟨i-1,by omega⟩
  have ej:(((j+1:Nat):Int)-1)=(j:Int):=by omega
  rw [ej]
  obtain ⟨ia,a1,a2⟩:=hx.get (j:=j) (by omega)
  obtain ⟨ib,b1,b2⟩:=hy.get (j:=j) (by omega)
  simp only [a1,a2,b1,b2,ah,true_and,oA,He,cW,bQ]
  refine ⟨λbt=>⟨λaF=>less (M8 cx.1 cy.1 gn (i:=j) (by omega) tf (by omega)),λcU=>more (M8 cy.1 cx.1 gn.symm (i:=j) (by omega) tf.symm (by omega))⟩,λheq=>?_⟩
  simp only [gE,ah]
  rw [wrap64 (by omega) (by omega)]
  refine hL j ⟨by omega,?_⟩ (by omega)
  rw [drop_eq_getElem_cons (by omega),drop_eq_getElem_cons (show j<ys.length by omega),tf]
  congr 1
  omega
 ·have:i=0:=by omega
  subst this
  rw [drop_zero,drop_zero] at tf
  exact same (by rw [tf])
end
section
theorem Lk {x y:Nat} (hx:x<4294967296) (hy:y<4294967296):x*y<=18446744065119617025:=by
 have:=Nat.mul_le_mul (show x<=4294967295 by omega) (show y<=4294967295 by omega)
 omega
theorem Y4 {va vb:Value} {a b:Nat} {h:ae} {K:Value->ae->Prop} (ha:dL h va a) (hb:dL h vb b) (la:a<bG) (lb:b<bG) (hk:∀v h',EX h h'->dL h' v (a*b)->K v h'):ak prog 122 [va,vb] h K:=by
 obtain ⟨xs,hx,cx,rfl⟩:=ha
 obtain ⟨ys,hy,cy,rfl⟩:=hb
 have l1:=qJ cx la
 have l2:=qJ cy lb
 have hW:(0:Nat)<4294967296:=by decide
 refine f122 ?_
 have e0:IntKind.wrap .i64 ((xs.length:Int)+(ys.length:Int))=((xs.length+ys.length:Nat):Int):=by rw [wrap64 (by omega) (by omega)];omega
 simp only [O3,hx.len,hy.len,ah,cL,e0,A6 (show xs.length+ys.length<=1000 by omega),aE]
 refine dF (σ:=Nat×List Nat) (λp=>[I p.1]) (λp=>hd h p.2)
  (λp=>p.1<=xs.length/\p.2.length=xs.length+ys.length/\cN 4294967296 p.2/\(∀j (hj:j<p.2.length),p.1+ys.length<=j->p.2[j]=0)/\val 4294967296 p.2=val 4294967296 (xs.take p.1)*val 4294967296 ys) (λp=>xs.length-p.1)
  (0,replicate (xs.length+ys.length) 0) rfl rfl ⟨by simp,by simp,cN.xu hW _,by simp,by simp [yN,val]⟩ ?_
 rintro ⟨i,os⟩ ⟨hi,iB,fH,hz,cf⟩ L hL
 simp only at hi iB fH hz cf hL⊢
 rw [aFB]
 have cE:=hx.mono (lF h os)
 simp only [cW,ah,bQ]
 refine ⟨λaF=>?_,λcU=>?_⟩
 ·have bn:i<xs.length:=by omega
  obtain ⟨ia,a1,a2⟩:=cE.get bn
  have iP:xs[i]<4294967296:=cx.1 _ (getElem_mem bn)
  simp only [a1,ah,a2,(hy.mono (lF h os)).len]
  have AJ:=jK 4294967296 xs bn
  generalize xs[i]=x at iP AJ
  refine dF (σ:=Nat×Nat×List Nat) (λp=>[.int .u64 (p.1:Int),I p.2.1]) (λp=>hd h p.2.2)
   (λp=>p.2.1<=ys.length/\p.1<4294967296/\p.2.2.length=xs.length+ys.length/\cN 4294967296 p.2.2/\(∀j (hj:j<p.2.2.length),i+ys.length<=j->p.2.2[j]=0)/\val 4294967296 p.2.2+4294967296^(i+p.2.1)*p.1=val 4294967296 os+4294967296^i*(x*val 4294967296 (ys.take p.2.1))) (λp=>ys.length-p.2.1)
   (0,0,os) rfl rfl ⟨by simp,hW,iB,fH,hz,by simp [val]⟩ ?_
  rintro ⟨c,j,ps⟩ ⟨hj,hc,nF,wu,yr,yq⟩ L2 iV
  simp only at hj hc nF wu yr yq iV⊢
  rw [aFx]
  have qZ:=hy.mono (lF h ps)
  simp only [cW,ah,bQ]
  refine ⟨λmV=>?_,λS6=>?_⟩
  ·have pB:j<ys.length:=by omega
   obtain ⟨ib,b1,b2⟩:=qZ.get pB
   have kP:ys[j]<4294967296:=cy.1 _ (getElem_mem pB)
   have hyt:=jK 4294967296 ys pB
   generalize ys[j]=y at b2 kP hyt
   have qf:i+j<ps.length:=by omega
   have aBM:ps[i+j]<4294967296:=wu _ (getElem_mem qf)
   have hxy:=Lk iP kP
   have mH:=tU 4294967296 ps (i+j) ((x*y+ps[i+j]+c)%4294967296) qf
   have ei:IntKind.wrap .i64 ((i:Int)+(j:Int))=((i+j:Nat):Int):=by rw [wrap64 (by omega) (by omega)];omega
   have RF:((x:Int)*(y:Int))=((x*y:Nat):Int):=by simp
   simp only [b1,ah,b2,kZ]
   rw [lP (n:=(x:Int)) (by omega) (by omega),lP (n:=(y:Int)) (by omega) (by omega)]
   simp only [xN,ah,RF,cL,ei]
   rw [lP (n:=((x*y:Nat):Int)) (by omega) (by omega)]
   rw [ow (show i+j<xs.length+ys.length by omega)]
   simp only [ah,ahh qf,kZ]
   rw [lP (n:=(ps[i+j]:Int)) (by omega) (by omega)]
   have e1:IntKind.wrap .u64 (((x*y:Nat):Int)+(ps[i+j]:Int))=((x*y+ps[i+j]:Nat):Int):=by rw [lP (by omega) (by omega)];omega
   have e2:IntKind.wrap .u64 (((x*y+ps[i+j]:Nat):Int)+(c:Int))=((x*y+ps[i+j]+c:Nat):Int):=by rw [lP (by omega) (by omega)];omega
   have e3:IntKind.wrap .u32 ((x*y+ps[i+j]+c:Nat):Int)=(((x*y+ps[i+j]+c)%4294967296:Nat):Int):=by rw [yP];omega
   simp only [cL,ah,e1,e2,kZ,e3,Bq]
   rw [wa _ qf]
   simp only [aE,ft j (by omega),true_and]
   have pF:(x*y+ps[i+j]+c)%4294967296<4294967296:=mod_lt _ hW
   have mG:=Nat.mod_add_div (x*y+ps[i+j]+c) 4294967296
   have wc:(x*y+ps[i+j]+c) / 4294967296<4294967296:=by omega
   refine iV ((x*y+ps[i+j]+c) / 4294967296,j+1,ps.set (i+j) ((x*y+ps[i+j]+c)%4294967296)) ⟨by show j+1<=ys.length;omega,wc,by show (ps.set _ _).length=_;rw [length_set];exact nF,wu.set pF _,?_,?_⟩ (by show ys.length-(j+1)<ys.length-j;omega)
   ·intro k ti p6
    show (ps.set (i+j) _)[k]=0
    have bt:i+j≠k:=by omega
    rw [getElem_set_ne bt]
    exact yr k (by simpa using ti) p6
   ·show val 4294967296 (ps.set (i+j) _)+4294967296^(i+(j+1))*_=val 4294967296 os+4294967296^i*(x*val 4294967296 (ys.take (j+1)))
    rw [hyt,<-Nat.add_assoc,pow_succ]
    rw [Nat.pow_add] at mH yq⊢
    generalize ps[i+j]=o at*
    generalize (x*y+o+c)%4294967296=m at*
    generalize (x*y+o+c) / 4294967296=q at*
    generalize val 4294967296 (ys.take j)=v at*
    generalize val 4294967296 (ps.set (i+j) m)=s1 at*
    generalize val 4294967296 ps=s0 at*
    generalize val 4294967296 os=s2 at*
    generalize 4294967296^i=P at*
    generalize 4294967296^j=Q at*
    generalize (4294967296:Nat)=w at*
    clear iV hL hx hy cE qZ b1 b2
    have h1:P*Q*(m+w*q)=P*Q*(x*y+o+c):=by rw [mG]
    grind
  ·have:j=ys.length:=by omega
   subst this
   rw [aFy]
   have ei:IntKind.wrap .i64 ((i:Int)+(ys.length:Int))=((i+ys.length:Nat):Int):=by rw [wrap64 (by omega) (by omega)];omega
   simp only [qZ.len,ah,cL,ei,kZ]
   rw [oY (n:=(c:Int)) (by omega) (by omega),ow (show i+ys.length<xs.length+ys.length by omega)]
   simp only [ah]
   have qf:i+ys.length<ps.length:=by omega
   rw [wa _ qf]
   simp only [aE,aFz,cL,ah,ft i (by omega),true_and]
   have mH:=tU 4294967296 ps (i+ys.length) c qf
   rw [yr _ qf (le_refl _)] at mH
   rw [take_length] at yq
   refine hL (i+1,ps.set (i+ys.length) c) ⟨by show i+1<=xs.length;omega,by show (ps.set _ _).length=_;rw [length_set];exact nF,wu.set hc _,?_,?_⟩ (by show xs.length-(i+1)<xs.length-i;omega)
   ·intro k ti p6
    show (ps.set (i+ys.length) _)[k]=0
    have aLi:i+1+ys.length<=k:=p6
    have bt:i+ys.length≠k:=by omega
    rw [getElem_set_ne bt]
    exact yr k (by simpa using ti) (by omega)
   ·show val 4294967296 (ps.set (i+ys.length) c)=val 4294967296 (xs.take (i+1))*val 4294967296 ys
    rw [AJ,Nat.add_mul,<-cf,Nat.mul_assoc,<-yq]
    omega
 ·have:i=xs.length:=by omega
  subst this
  rw [aFA]
  rw [take_length] at cf
  have e:sl 177 h.length 0 (xs.length+ys.length)=sl 177 h.length 0 os.length:=by rw [iB]
  rw [e]
  refine sJ (Ao h _) fH (by omega) ?_
  intro v' hm
  rw [cf] at hm
  exact hk v' _ (lF h _) hm
def eC (h:ae) (val:Value) (z:Int):Prop:=∃v,val=.agg #[B (decide (z<0)),v]/\dL h v z.natAbs
theorem eC.mono {h h':ae} {v:Value} {z:Int} (x:EX h h') (p:eC h v z):eC h' v z:=let ⟨w,a,b⟩:=p;⟨w,a,b.mono x⟩
theorem dL.qk {h:ae} {v:Value} {n:Nat} (p:dL h v n):∃l:Nat,bk v=some (I l)/\(0<l↔0<n):=by
 obtain ⟨xs,d,c,rfl⟩:=p
 refine ⟨xs.length,d.len,?_⟩
 constructor
 ·intro h0
  have:=dJ.low (by decide) c (by rintro rfl;simp at h0)
  have:0<4294967296^(xs.length-1):=pow_pos (by decide)
  omega
 ·intro h0
  cases xs with
  | nil=>simp [val] at h0
  | cons x xs=>simp
theorem dL.bT {h:ae} {v:Value} {n j:Nat} {e:TypeId} {b:Bool} {r:List Value} (p:dL h v n) (hj:h[j]?=some (.arr e (.bool b::r))) (o:aq):dL (h.set j o) v n:=by
 obtain ⟨xs,d,c,hv⟩:=p
 refine ⟨xs,?_,c,hv⟩
 rcases d with d | ⟨i,h1,h2⟩
 ·exact .inl d
 ·refine .inr ⟨i,h1,?_⟩
  rcases h2 with h2 | ⟨rest,h2⟩
  ·exact .inl h2
  ·cases xs with
   | nil=>exact .inl rfl
   | cons x xs=>
    right
    refine ⟨rest,?_⟩
    have bt:j≠i:=by
     rintro rfl
     unfold aW at h2
     rw [hj] at h2
     simp at h2
    unfold aW at h2⊢
    rw [getElem?_set_ne bt]
    exact h2
theorem eC.bT {h:ae} {v:Value} {z:Int} {j:Nat} {e:TypeId} {b:Bool} {r:List Value} (p:eC h v z) (hj:h[j]?=some (.arr e (.bool b::r))) (o:aq):eC (h.set j o) v z:=
 let ⟨w,a,q⟩:=p;⟨w,a,q.bT hj o⟩
theorem fM {h:ae} {i:Nat} {e:TypeId} {a b x y:Value} (hg:h[i]?=some (.arr e [a,b])):aG 2 h (pt i 0) (.agg #[x,y])=some (undef,h.set i (.arr e [x,y])):=by
 simp [aG,wK,hg,jq,dU,Value.cells,setAt]
theorem cZ {h:ae} {i:Nat} {e:TypeId} {a b:Value} (hg:h[i]?=some (.arr e [a,b])):af true 2 h (pt i 0)=some (.agg #[a,b]):=by
 simp [af,aW,hg,cP]
theorem cJ {h:ae} {i:Nat} {o o':aq} (hg:h[i]?=some o'):(h.set i o)[i]?=some o:=by
 rw [List.getElem?_set_self (bz hg).1]
theorem sI {v:Value} {n:Nat} {b:Bool} {h:ae} {K:Value->ae->Prop} (hm:dL h v n) (hk:∀h',EX h h'->K (.agg #[B (b&&decide (0<n)),v]) h'):ak prog 117 [B b,v] h K:=by
 refine f117 ?_
 have al:aV 105 [(.bool false),(.slice none 0 0)] h=some (pt h.length 0,h++[.arr 105 [(.bool false),(.slice none 0 0)]]):=rfl
 simp only [OZ,al,aE]
 obtain ⟨l,h1,h2⟩:=hm.qk
 have hg:(h++[aq.arr 105 [(.bool false),(.slice none 0 0)]])[h.length]?=some (.arr 105 [(.bool false),(.slice none 0 0)]):=br
 have hx:EX h (h++[aq.arr 105 [(.bool false),(.slice none 0 0)]]):=EX.append _ _
 have fin:F3 prog K v (pt h.length 0) (B b) (B (decide (0<l))) (h++[aq.arr 105 [(.bool false),(.slice none 0 0)]])/\(b=false->F3 prog K v (pt h.length 0) (B b) undef (h++[aq.arr 105 [(.bool false),(.slice none 0 0)]])):=by
  have one:∀c:Bool,c=(b&&decide (0<n))->OP (dC [(.bool false),(.slice none 0 0)] [(0,1,B c),(1,1,v)]) λaD=>OH (aG 2 (h++[aq.arr 105 [(.bool false),(.slice none 0 0)]]) (pt h.length 0) aD) λ_ h_1=>OP (af true 2 h_1 (pt h.length 0)) λr0=>K r0 h_1:=by
   rintro c rfl
   have eb:dC [(.bool false),(.slice none 0 0)] [(0,1,B (b&&decide (0<n))),(1,1,v)]=some (.agg #[B (b&&decide (0<n)),v]):=by
    obtain ⟨xs,d,_,_⟩:=hm
    rcases d with ⟨rfl,_⟩ | ⟨i,rfl,_⟩ <;> rfl
   simp only [eb,ah]
   rw [fM hg]
   simp only [aE]
   rw [cZ (cJ hg)]
   simp only [ah]
   exact hk _ (hx.set (le_refl _) _)
  constructor
  ·rw [apd]
   cases b with
   | true=>simp only [dY,ah];exact one _ (by simp [h2])
   | false=>simp only [dQ,ah];exact one _ (by simp)
  ·rintro rfl
   rw [apd]
   simp only [dQ,ah]
   exact one _ (by simp)
 rw [aFi]
 have e0:decide ((0:Int)<(l:Int))=decide (0<l):=by
  by_cases h0:0<l
  ·simp [h0]
  ·simp [h0]
 cases b with
 | true=>
  simp only [fP,h1,ah,fQ,e0]
  exact fin.1
 | false=>
  simp only [jV]
  exact fin.2 rfl
end
section
theorem xZ {h':ae} {j:Nat} {b0 v0 b v:Value} {K:Value->ae->Prop} (hg:h'[j]?=some (.arr 105 [b0,v0])) (hk:K (.agg #[b,v]) (h'.set j (.arr 105 [b,v]))):
  OH (aG 2 h' (pt j 0) (.agg #[b,v])) λ_ h6=>OP (af true 2 h6 (pt j 0)) λr0=>K r0 h6:=by
 rw [fM hg]
 simp only [aE]
 rw [cZ (cJ hg)]
 exact ah.2 hk
structure aq1 (h:ae) (va vb:Value) (sa sb:Bool) (h3:ae):Prop where
 ex:EX h h3
 a0:af false 1 h3 (pt h.length 0)=some (B sa)
 a1:af false 1 h3 (pt h.length 1)=some va
 b0:af false 1 h3 (pt (h.length+1) 0)=some (B sb)
 b1:af false 1 h3 (pt (h.length+1) 1)=some vb
 a2:af true 2 h3 (pt h.length 0)=some (.agg #[B sa,va])
 b2:af true 2 h3 (pt (h.length+1) 0)=some (.agg #[B sb,vb])
 out:h3[h.length+2]?=some (.arr 105 [.bool false,.slice none 0 0])
theorem H6 {h:ae} {va vb:Value} {sa sb:Bool} {K:Value->Value->Value->ae->Prop} (hk:∀h3,aq1 h va vb sa sb h3->K (pt h.length 0) (pt (h.length+1) 0) (pt (h.length+2) 0) h3):
  OH (bp 105 h (.agg #[B sa,va])) λa2 h_1=>OH (bp 105 h_1 (.agg #[B sb,vb])) λb3 h_2=>OH (aV 105 [(.bool false),(.slice none 0 0)] h_2) λx4 h_3=>K a2 b3 x4 h_3:=by
 have e1:∀(g:ae) (s:Bool) (v:Value),bp 105 g (.agg #[B s,v])=some (pt g.length 0,g++[.arr 105 [B s,v]]):=λ_ _ _=>rfl
 have e2:∀(g:ae),aV 105 [(.bool false),(.slice none 0 0)] g=some (pt g.length 0,g++[.arr 105 [(.bool false),(.slice none 0 0)]]):=λ_=>rfl
 simp only [e1,e2,aE,length_append,length_cons,length_nil]
 have g0:(h++[aq.arr 105 [B sa,va]]++[aq.arr 105 [B sb,vb]]++[aq.arr 105 [(.bool false),(.slice none 0 0)]])[h.length]?=some (.arr 105 [B sa,va]):=by simp
 have g1:(h++[aq.arr 105 [B sa,va]]++[aq.arr 105 [B sb,vb]]++[aq.arr 105 [(.bool false),(.slice none 0 0)]])[h.length+1]?=some (.arr 105 [B sb,vb]):=by simp
 have g2:(h++[aq.arr 105 [B sa,va]]++[aq.arr 105 [B sb,vb]]++[aq.arr 105 [(.bool false),(.slice none 0 0)]])[h.length+2]?=some (.arr 105 [(.bool false),(.slice none 0 0)]):=by simp
 refine hk _ ⟨((EX.append _ _).push _).push _,?_,?_,?_,?_,cZ g0,cZ g1,g2⟩
 ·simp [af,aW,cP]
 ·simp [af,aW,cP]
 ·simp [af,aW,cP]
 ·simp [af,aW,cP]
theorem DA {n:Int} {h:ae} {K:Value->ae->Prop} (h1: -9223372036854775808<=n) (h2:n<9223372036854775808) (hk:∀r h',EX h h'->eC h' r n->K r h'):ak prog 105 [I n] h K:=by
 refine f105 ?_
 have e2:aV 105 [(.bool false),(.slice none 0 0)] h=some (pt h.length 0,h++[.arr 105 [(.bool false),(.slice none 0 0)]]):=rfl
 simp only [OL,e2,aE]
 have x1:EX h (h++[aq.arr 105 [(.bool false),(.slice none 0 0)]]):=EX.append _ _
 have g1:(h++[aq.arr 105 [(.bool false),(.slice none 0 0)]])[h.length]?=some (.arr 105 [(.bool false),(.slice none 0 0)]):=br
 generalize h++[aq.arr 105 [(.bool false),(.slice none 0 0)]]=hA at x1 g1⊢
 have go:∀u:Nat,u=n.natAbs->LB prog K (I n) (pt h.length 0) (.int .u64 (u:Int)) hA:=by
  intro u hu
  rw [aE9]
  have ew:IntKind.wrap .u32 (u:Int)=((u%4294967296:Nat):Int):=by rw [yP];omega
  simp only [cW,ah,kZ,Bq,ew]
  rw [oY (n:=((u / 4294967296:Nat):Int)) (by omega) (by omega)]
  have mk:dN 177 2 [.int .u32 0] hA [(0,1,.int .u32 ((u%4294967296:Nat):Int)),(1,1,.int .u32 ((u / 4294967296:Nat):Int))]=some (sl 177 hA.length 0 2,hd hA [u%4294967296,u / 4294967296]):=rfl
  simp only [mk,aE]
  have hl:cN 4294967296 [u%4294967296,u / 4294967296]:=by
   intro x hx
   simp at hx
   rcases hx with rfl | rfl <;> omega
  refine sJ (Ao hA [u%4294967296,u / 4294967296]) hl (by simp) ?_
  intro v hv
  have cf:val 4294967296 [u%4294967296,u / 4294967296]=n.natAbs:=by simp [val];omega
  rw [cf] at hv
  refine sI hv ?_
  intro h' x'
  have xx:=(lF hA [u%4294967296,u / 4294967296]).trans x'
  have g':=xx.get g1
  refine xZ g' (hk _ _ ((x1.trans xx).set (le_refl _) _) ⟨v,?_,(hv.mono x').bT g' _⟩)
  have:(decide (n<0)&&decide (0<n.natAbs))=decide (n<0):=by
   by_cases hn:n<0
   ·simp [hn];omega
   ·simp [hn]
  rw [this]
 simp only [kZ,ah,cW,bQ]
 refine ⟨λhn=>?_,λhn=>?_⟩
 ·have e3:gq .neg (.int .u64 (IntKind.wrap .u64 n))=some (.int .u64 ((n.natAbs:Nat):Int)):=by
   have e:∀m:Int,IntKind.wrap .u64 m=m%18446744073709551616:=λm=>by simp [IntKind.wrap,IntKind.bits,IntKind.signed]
   simp only [gq]
   rw [e,e]
   congr 2
   omega
  simp only [e3,ah]
  exact go _ rfl
 ·have:IntKind.wrap .u64 n=((n.natAbs:Nat):Int):=by rw [lP (by omega) (by omega)];omega
  rw [this]
  exact go _ rfl
theorem Y1 {va:Value} {a:Int} {h:ae} {K:Value->ae->Prop} (ha:eC h va a) (hk:∀r h',EX h h'->eC h' r (-a)->K r h'):ak prog 119 [va] h K:=by
 obtain ⟨v,rfl,hv⟩:=ha
 refine f119 ?_
 have e1:bp 105 h (.agg #[B (decide (a<0)),v])=some (pt h.length 0,h++[.arr 105 [B (decide (a<0)),v]]):=rfl
 simp only [O0,e1,aE]
 have l0:af false 1 (h++[.arr 105 [B (decide (a<0)),v]]) (pt h.length 0)=some (B (decide (a<0))):=tK rfl
 have l1:af false 1 (h++[.arr 105 [B (decide (a<0)),v]]) (pt h.length 1)=some v:=tK rfl
 have x1:EX h (h++[.arr 105 [B (decide (a<0)),v]]):=EX.append _ _
 generalize h++[aq.arr 105 [B (decide (a<0)),v]]=h1 at l0 l1 x1⊢
 have e2:aV 105 [(.bool false),(.slice none 0 0)] h1=some (pt h1.length 0,h1++[.arr 105 [(.bool false),(.slice none 0 0)]]):=rfl
 have x2:EX h1 (h1++[aq.arr 105 [(.bool false),(.slice none 0 0)]]):=EX.append _ _
 have g1:(h1++[aq.arr 105 [(.bool false),(.slice none 0 0)]])[h1.length]?=some (.arr 105 [(.bool false),(.slice none 0 0)]):=br
 simp only [e2,aE]
 generalize h1++[aq.arr 105 [(.bool false),(.slice none 0 0)]]=h2 at x2 g1⊢
 simp only [bZ,add_zero,zero_add,ah,EX.load x2 l0,EX.load x2 l1,oW]
 have rZ:=hv.mono (x1.trans x2)
 refine sI rZ ?_
 intro h' x'
 have g':=x'.get g1
 refine xZ g' (hk _ _ (((x1.trans x2).trans x').set x1.1 _) ⟨v,?_,?_⟩)
 ·have:(!decide (a<0)&&decide (0<a.natAbs))=decide (-a<0):=by
   by_cases h0:a<0
   ·rw [bj h0,aY (show ¬-a<0 by omega)];rfl
   ·by_cases h3:a=0
    ·subst h3;rfl
    ·rw [aY h0,bj (show 0<a.natAbs by omega),bj (show -a<0 by omega)];rfl
  rw [this]
 ·have:(-a).natAbs=a.natAbs:=by omega
  rw [this]
  exact (rZ.mono x').bT g' _
theorem Nu {va vb:Value} {a b:Int} {h:ae} {K:Value->ae->Prop} (ha:eC h va a) (hb:eC h vb b) (la:a.natAbs<bG) (lb:b.natAbs<bG) (hk:∀r h',EX h h'->eC h' r (a+b)->K r h'):ak prog 113 [va,vb] h K:=by
 obtain ⟨v,rfl,hv⟩:=ha
 obtain ⟨w,rfl,hw⟩:=hb
 refine f113 ?_
 unfold OV
 refine H6 ?_
 intro h3 x
 have wG:=hv.mono x.ex
 have sf:=hw.mono x.ex
 simp only [bZ,add_zero,zero_add,ah,x.a0,x.a1,x.b0,x.b1,Eu,Bool.false_eq_true,if_false]
 refine BC (λhe=>?_) λbt=>?_
 ·have hs:decide (a<0)=decide (b<0):=by simpa using he
  have eD:(a<0↔b<0):=by simpa using hs
  simp only [true_and]
  refine Y6 wG sf la lb ?_
  intro u h4 x4 hu
  refine ⟨⟨EX.load x4 x.a0,trivial⟩,?_⟩
  refine sI hu ?_
  intro h5 x5
  have g':=(x4.trans x5).get x.out
  refine xZ g' (hk _ _ (((x.ex.trans x4).trans x5).set (by omega) _) ⟨u,?_,?_⟩)
  ·have:(decide (a<0)&&decide (0<a.natAbs+b.natAbs))=decide (a+b<0):=by
    by_cases h0:a<0
    ·rw [bj h0,bj (show 0<a.natAbs+b.natAbs by omega),bj (show a+b<0 by omega)];rfl
    ·rw [aY h0,aY (show ¬a+b<0 by omega)];rfl
   rw [this]
  ·have:(a+b).natAbs=a.natAbs+b.natAbs:=by omega
   rw [this]
   exact (hu.mono x5).bT g' _
 ·have hs:decide (a<0)≠decide (b<0):=by simpa using bt
  have eD:¬(a<0↔b<0):=λh=>hs (decide_eq_decide.2 h)
  refine G5 wG sf la lb ?_
  simp only [nv,ah,bQ]
  refine ⟨λcU=>?_,λaF=>?_⟩
  ·have hle:b.natAbs<=a.natAbs:=by
    apply byContradiction
    intro hc
    unfold nH at cU
    rw [if_pos (by omega)] at cU
    omega
   simp only [x.a0,x.a1,x.b1,ah,true_and]
   refine Y8 wG sf la hle ?_
   intro u h4 x4 hu
   refine ⟨⟨EX.load x4 x.a0,trivial⟩,?_⟩
   refine sI hu ?_
   intro h5 x5
   have g':=(x4.trans x5).get x.out
   refine xZ g' (hk _ _ (((x.ex.trans x4).trans x5).set (by omega) _) ⟨u,?_,?_⟩)
   ·have:(decide (a<0)&&decide (0<a.natAbs-b.natAbs))=decide (a+b<0):=by
     by_cases h0:a<0
     ·by_cases h6:0<a.natAbs-b.natAbs
      ·rw [bj h0,bj h6,bj (show a+b<0 by omega)];rfl
      ·rw [bj h0,aY h6,aY (show ¬a+b<0 by omega)];rfl
     ·rw [aY h0,aY (show ¬a+b<0 by omega)];rfl
    rw [this]
   ·have:(a+b).natAbs=a.natAbs-b.natAbs:=by omega
    rw [this]
    exact (hu.mono x5).bT g' _
  ·have hle:a.natAbs<=b.natAbs:=by
    apply byContradiction
    intro hc
    unfold nH at aF
    rw [if_neg (by omega),if_pos (by omega)] at aF
    omega
   simp only [x.b0,x.a1,x.b1,ah,true_and]
   refine Y8 sf wG lb hle ?_
   intro u h4 x4 hu
   refine ⟨⟨EX.load x4 x.b0,trivial⟩,?_⟩
   refine sI hu ?_
   intro h5 x5
   have g':=(x4.trans x5).get x.out
   refine xZ g' (hk _ _ (((x.ex.trans x4).trans x5).set (by omega) _) ⟨u,?_,?_⟩)
   ·have:(decide (b<0)&&decide (0<b.natAbs-a.natAbs))=decide (a+b<0):=by
     by_cases h0:b<0
     ·by_cases h6:0<b.natAbs-a.natAbs
      ·rw [bj h0,bj h6,bj (show a+b<0 by omega)];rfl
      ·rw [bj h0,aY h6,aY (show ¬a+b<0 by omega)];rfl
     ·rw [aY h0,aY (show ¬a+b<0 by omega)];rfl
    rw [this]
   ·have:(a+b).natAbs=b.natAbs-a.natAbs:=by omega
    rw [this]
    exact (hu.mono x5).bT g' _
theorem arb {va vb:Value} {a b:Int} {h:ae} {K:Value->ae->Prop} (ha:eC h va a) (hb:eC h vb b) (la:a.natAbs<bG) (lb:b.natAbs<bG) (hk:∀r h',EX h h'->eC h' r (a-b)->K r h'):ak prog 127 [va,vb] h K:=by
 have nA:=ha
 have pA:=hb
 obtain ⟨v,rfl,hv⟩:=ha
 obtain ⟨w,rfl,hw⟩:=hb
 refine f127 ?_
 unfold O8
 refine H6 ?_
 intro h3 x
 simp only [ah,x.a2,x.b2,true_and]
 refine Y1 (pA.mono x.ex) ?_
 intro r1 h4 x4 i1
 refine ⟨⟨EX.load x4 x.a2,trivial⟩,?_⟩
 refine Nu (nA.mono (x.ex.trans x4)) i1 la (by rw [Int.natAbs_neg];exact lb) ?_
 intro r2 h5 x5 i2
 have g':=(x4.trans x5).get x.out
 obtain ⟨u,rfl,hu⟩:=id i2
 refine xZ g' (hk _ _ (((x.ex.trans x4).trans x5).set (by omega) _) ?_)
 rw [Int.sub_eq_add_neg]
 exact i2.bT g' _
theorem tZ {va vb:Value} {a b:Int} {h:ae} {K:Value->ae->Prop} (ha:eC h va a) (hb:eC h vb b) (la:a.natAbs<bG) (lb:b.natAbs<bG) (hk:∀r h',EX h h'->eC h' r (a*b)->K r h'):ak prog 107 [va,vb] h K:=by
 obtain ⟨v,rfl,hv⟩:=ha
 obtain ⟨w,rfl,hw⟩:=hb
 refine f107 ?_
 unfold ON
 refine H6 ?_
 intro h3 x
 have wG:=hv.mono x.ex
 have sf:=hw.mono x.ex
 simp only [bZ,add_zero,zero_add,ah,x.a0,x.a1,x.b0,x.b1,Eu,if_true,true_and]
 refine Y4 wG sf la lb ?_
 intro u h4 x4 hu
 refine ⟨⟨EX.load x4 x.a0,EX.load x4 x.b0,trivial⟩,?_⟩
 refine sI hu ?_
 intro h5 x5
 have g':=(x4.trans x5).get x.out
 refine xZ g' (hk _ _ (((x.ex.trans x4).trans x5).set (by omega) _) ⟨u,?_,?_⟩)
 ·have:((!(decide (a<0)==decide (b<0)))&&decide (0<a.natAbs*b.natAbs))=decide (a*b<0):=by
   rcases Int.lt_trichotomy a 0 with h1 | h1 | h1
   ·rcases Int.lt_trichotomy b 0 with h2 | h2 | h2
    ·have:=Int.mul_pos_of_neg_of_neg h1 h2
     rw [bj h1,bj h2,aY (show ¬a*b<0 by omega)];rfl
    ·subst h2;simp
    ·have:=Int.mul_neg_of_neg_of_pos h1 h2
     have h3:0<a.natAbs*b.natAbs:=Nat.mul_pos (by omega) (by omega)
     rw [bj h1,aY (show ¬b<0 by omega),bj h3,bj this];rfl
   ·subst h1;simp
   ·rcases Int.lt_trichotomy b 0 with h2 | h2 | h2
    ·have:=Int.mul_neg_of_pos_of_neg h1 h2
     have h3:0<a.natAbs*b.natAbs:=Nat.mul_pos (by omega) (by omega)
     rw [aY (show ¬a<0 by omega),bj h2,bj h3,bj this];rfl
    ·subst h2;simp
    ·have:=Int.mul_pos h1 h2
     rw [aY (show ¬a<0 by omega),aY (show ¬b<0 by omega),aY (show ¬a*b<0 by omega)];rfl
  rw [this]
 ·rw [Int.natAbs_mul]
  exact (hu.mono x5).bT g' _
end
section
theorem MK {r:Nat} (hr:r<4294967296):ai .shl (.int .u64 (r:Int)) (.int .u64 32)=some (.int .u64 ((r*4294967296:Nat):Int)):=by
 simp only [ai,re]
 rw [if_neg (by omega)]
 have:(min (32:Int).toNat IntKind.u64.bits)=32:=rfl
 rw [this]
 have e2:(2:Int)^32=4294967296:=by decide
 rw [e2,lP (by omega) (by omega)]
 congr 2
theorem Lu {r x:Nat} (hr:r<4294967296) (hx:x<4294967296):ai .or (.int .u64 ((r*4294967296:Nat):Int)) (.int .u64 (x:Int))=some (.int .u64 ((r*4294967296+x:Nat):Int)):=by
 have e:(BitVec.ofInt IntKind.u64.bits ((r*4294967296:Nat):Int) ||| BitVec.ofInt IntKind.u64.bits (x:Int)).toNat=r*4294967296+x:=by
  show (BitVec.ofInt 64 ((r*4294967296:Nat):Int) ||| BitVec.ofInt 64 (x:Int)).toNat=_
  rw [BitVec.ofInt_natCast,BitVec.ofInt_natCast,BitVec.toNat_or,BitVec.toNat_ofNat,BitVec.toNat_ofNat,Nat.mod_eq_of_lt (by omega),Nat.mod_eq_of_lt (by omega)]
  have:=Nat.two_pow_add_eq_or_of_lt (i:=32) (b:=x) (by omega) r
  rw [Nat.mul_comm r]
  exact this.symm
 simp only [ai,iX,if_true]
 rw [e,lP (by omega) (by omega)]
theorem ap2 {a b:Nat} (hb:b≠0) (ha:a<18446744073709551616):ai .quo (.int .u64 (a:Int)) (.int .u64 (b:Int))=some (.int .u64 ((a / b:Nat):Int)):=by
 have h:¬((b:Int)=0):=by omega
 have h2:a / b<=a:=Nat.div_le_self _ _
 simp only [ai,iX,if_true,if_neg h]
 have e:(a:Int).tdiv (b:Int)=((a / b:Nat):Int):=rfl
 rw [e]
 generalize a / b=q at*
 rw [lP (by omega) (by omega)]
theorem Y0 {va:Value} {a w:Nat} {h:ae} {K:Value->ae->Prop} (ha:dL h va a) (la:a<bG) (w0:0<w) (wW:w<4294967296) (hk:∀v h',EX h h'->dL h' v (a / w)->K (.tuple #[v,.int .u32 ((a%w:Nat):Int)]) h'):
  ak prog 114 [va,.int .u32 (w:Int)] h K:=by
 obtain ⟨xs,hx,cx,rfl⟩:=ha
 have l1:=qJ cx la
 have hW:(0:Nat)<4294967296:=by decide
 refine f114 ?_
 have e1:IntKind.wrap .i64 ((xs.length:Int)-1)=(xs.length:Int)-1:=by rw [wrap64 (by omega) (by omega)]
 simp only [OW,hx.len,ah,A6 (show xs.length<=1000 by omega),aE,gE,e1]
 refine dF (σ:=Nat×Nat×List Nat) (λp=>[.int .u64 (p.1:Int),I ((p.2.1:Int)-1)]) (λp=>hd h p.2.2)
  (λp=>p.2.1<=xs.length/\p.1<w/\p.2.2.length=xs.length/\cN 4294967296 p.2.2/\val 4294967296 (xs.drop p.2.1)=w*val 4294967296 (p.2.2.drop p.2.1)+p.1) (λp=>p.2.1)
  (0,xs.length,replicate xs.length 0) rfl rfl ⟨le_refl _,w0,by simp,cN.xu hW _,by simp [val]⟩ ?_
 rintro ⟨r,i,os⟩ ⟨hi,hr,iB,fH,cf⟩ L hL
 simp only at hi hr iB fH cf hL⊢
 rw [aFg]
 have cE:=hx.mono (lF h os)
 simp only [nv,ah,bQ]
 refine ⟨λcU=>?_,λaF=>?_⟩
 ·obtain ⟨j,rfl⟩:∃j,i=j+1:=⟨i-1,by omega⟩
  have ej:(((j+1:Nat):Int)-1)=(j:Int):=by omega
  rw [ej]
  obtain ⟨ia,a1,a2⟩:=cE.get (j:=j) (by omega)
  have iP:xs[j]'(by omega)<4294967296:=cx.1 _ (getElem_mem _)
  have hdx:xs.drop j=xs[j]'(by omega)::xs.drop (j+1):=drop_eq_getElem_cons (by omega)
  generalize xs[j]'(by omega)=x at a2 iP hdx
  simp only [MK (show r<4294967296 by omega),ah,a1,a2,kZ]
  rw [lP (n:=(x:Int)) (by omega) (by omega)]
  simp only [Lu (show r<4294967296 by omega) iP,ah]
  rw [lP (n:=(w:Int)) (by omega) (by omega)]
  have ht:r*4294967296+x<w*4294967296:=by omega
  have hq:(r*4294967296+x) / w<4294967296:=(Nat.div_lt_iff_lt_mul w0).2 (by omega)
  have hm:=mod_lt (r*4294967296+x) w0
  have mG:=Nat.div_add_mod (r*4294967296+x) w
  rw [ap2 (by omega) (by omega),Bl _ _ _ (by omega)]
  generalize (r*4294967296+x) / w=q at*
  generalize (r*4294967296+x)%w=m at*
  simp only [ah,kZ]
  rw [oY (n:=(q:Int)) (by omega) (by omega),ow (show j<xs.length by omega)]
  simp only [ah]
  rw [wa _ (by omega)]
  simp only [aE,gE,ah,true_and]
  rw [wrap64 (n:=(j:Int)-1) (by omega) (by omega)]
  refine hL (m,j,os.set j q) ⟨by show j<=xs.length;omega,hm,by show (os.set _ _).length=_;rw [length_set];exact iB,fH.set hq _,?_⟩ (by show j<j+1;omega)
  show val 4294967296 (xs.drop j)=w*val 4294967296 ((os.set j q).drop j)+m
  have qO:(os.set j q).drop j=q::os.drop (j+1):=by
   rw [drop_eq_getElem_cons (by rw [length_set];omega),List.getElem_set_self,List.drop_set_of_lt (by omega)]
  rw [hdx,qO]
  simp only [val]
  rw [cf]
  generalize val 4294967296 (os.drop (j+1))=Q at*
  generalize (4294967296:Nat)=W at*
  clear hL hx cE a1 a2 cf
  grind
 ·have:i=0:=by omega
  subst this
  rw [drop_zero,drop_zero] at cf
  rw [aFf]
  have e:sl 177 h.length 0 xs.length=sl 177 h.length 0 os.length:=by rw [iB]
  rw [e]
  refine sJ (Ao h _) fH (by omega) ?_
  intro v' hm
  simp only [kZ,ah]
  rw [oY (n:=(r:Int)) (by omega) (by omega)]
  have h1:val 4294967296 xs / w=val 4294967296 os:=by
   rw [cf,Nat.mul_add_div w0,Nat.div_eq_of_lt hr,add_zero]
  have h2:val 4294967296 xs%w=r:=by
   rw [cf,Nat.mul_add_mod,Nat.mod_eq_of_lt hr]
  have:=hk v' _ (lF h os) (by rw [h1];exact hm)
  rw [h2] at this
  exact this
theorem aq7 {h:ae} {id:Nat} {xs:List UInt8} {K:Value->ae->Prop} (cA:h[id]?=some (.arr 5 (xs.map cv))) (hn:xs.length<=100000) (hk:K (.tuple #[]) (hb h id xs.reverse)):ak prog 115 [sl 5 id 0 xs.length] h K:=by
 have jC:=(bz cA).1
 have e0:h=hb h id xs:=by
  apply List.ext_getElem?
  intro j
  by_cases hj:id=j
  ·subst hj;rw [Kb jC,cA]
  ·rw [getElem?_set_ne hj]
 refine f115 ?_
 have e1:bk (sl 5 id 0 xs.length)=some (I xs.length):=rfl
 have e2:IntKind.wrap .i64 ((xs.length:Int)-1)=(xs.length:Int)-1:=by rw [wrap64 (by omega) (by omega)]
 simp only [OX,e1,ah,gE,e2]
 refine dF (σ:=Nat×List UInt8) (λp=>[I p.1,I ((xs.length:Int)-1-p.1)]) (λp=>hb h id p.2) (λp=>p.1<=xs.length/\p.2.length=xs.length/\∀k (hk:k<p.2.length) (ti:k<xs.length),p.2[k]=if k<p.1∨xs.length-p.1<=k then xs[xs.length-1-k]'(by omega) else xs[k]) (λp=>xs.length-p.1)
  (0,xs) (by simp) e0.symm ⟨by simp,rfl,λk h1 h2=>by simp;intro h3;omega⟩ ?_
 rintro ⟨i,ys⟩ ⟨hi,hl,hy⟩ L hL
 simp only at hi hl hy hL⊢
 rw [aFh]
 simp only [cW,ah,bQ]
 refine ⟨λaF=>?_,λcU=>?_⟩
 ·obtain ⟨j,hj⟩:∃j:Nat,(xs.length:Int)-1-i=j:=⟨xs.length-1-i,by omega⟩
  rw [hj]
  have oJ:j=xs.length-1-i:=by omega
  have a1:=ow (id:=id) (e:=5) (n:=xs.length) (j:=j) (by omega)
  have a2:=ow (id:=id) (e:=5) (n:=xs.length) (j:=i) (by omega)
  have g1:ys[j]?=some (ys[j]'(by omega)):=List.getElem?_eq_getElem (by omega)
  have g2:ys[i]?=some (ys[i]'(by omega)):=List.getElem?_eq_getElem (by omega)
  simp only [a1,a2,ah,ag7 jC g1,ag7 jC g2,true_and]
  rw [ag8 jC _ (by omega)]
  simp only [aE]
  rw [ag8 jC _ (by rw [length_set];omega)]
  simp only [aE,cL,gE,ah,ft i (by omega)]
  have ej:IntKind.wrap .i64 ((j:Int)-1)=(xs.length:Int)-1-((i+1:Nat):Int):=by rw [wrap64 (by omega) (by omega)];omega
  rw [ej]
  refine hL (i+1,(ys.set i (ys[j]'(by omega))).set j (ys[i]'(by omega))) ⟨by show i+1<=xs.length;omega,by simp [hl],?_⟩ (by show xs.length-(i+1)<xs.length-i;omega)
  intro k nC ti
  show ((ys.set i (ys[j]'(by omega))).set j (ys[i]'(by omega)))[k]=if k<i+1∨xs.length-(i+1)<=k then xs[xs.length-1-k]'(by omega) else xs[k]
  have hyi:=hy i (by omega) (by omega)
  have hyj:=hy j (by omega) (by omega)
  rw [if_neg (by omega)] at hyi hyj
  by_cases gV:j=k
  ·subst gV
   rw [List.getElem_set_self,if_pos (by omega),hyi]
   congr 1;omega
  ·rw [getElem_set_ne gV]
   by_cases Kr:i=k
   ·subst Kr
    rw [List.getElem_set_self,if_pos (by omega),hyj]
    congr 1
   ·rw [getElem_set_ne Kr,hy k (by omega) ti]
    by_cases hc:k<i∨xs.length-i<=k
    ·rw [if_pos hc,if_pos (by omega)]
    ·rw [if_neg hc,if_neg (by omega)]
 ·have:ys=xs.reverse:=by
   apply List.ext_getElem (by simp [hl])
   intro k h1 h2
   rw [hy k h1 (by omega),List.getElem_reverse]
   split
   ·rfl
   ·congr 1;omega
  rw [this]
  exact hk
def uz (n:Nat):List Nat:=if h:n=0 then [] else n%10::uz (n / 10)
termination_by n
decreasing_by omega
theorem JE (n:Nat):dJ 10 (uz n)/\val 10 (uz n)=n:=by
 induction n using Nat.strongRecOn with
 | ind n ih=>
  rw [uz]
  by_cases h:n=0
  ·subst h;exact ⟨dJ.nil 10,rfl⟩
  ·rw [dif_neg h]
   obtain ⟨h1,h2⟩:=ih (n / 10) (by omega)
   refine ⟨⟨?_,?_⟩,?_⟩
   ·intro x hx
    rcases List.mem_cons.1 hx with rfl | hx
    ·omega
    ·exact h1.1 x hx
   ·cases hd:uz (n / 10) with
    | nil=>
     rw [hd] at h2
     simp [val] at h2
     simp
     omega
    | cons y ys=>
     rw [List.getLast?_cons_cons,<-hd]
     exact h1.2
   ·simp only [val,h2];omega
def jA (d:Nat):UInt8:=UInt8.ofNat (48+d)
theorem vP {d:Nat} (h:d<10):(jA d).toNat=48+d:=by simp [jA,UInt8.toNat_ofNat'];omega
def eK (n:Nat):List UInt8:=if n=0 then [48] else ((uz n).map jA).reverse
def KZ:Nat:=1000
theorem abH:bG<=10^KZ:=by decide+kernel
end
section
theorem En {d:Nat} (h:d<10):(.int .u8 ((48+d:Nat):Int):Value)=cv (jA d):=by rw [cv,vP h]
theorem aEM (k:Nat):0<10^k:=pow_pos (by decide)
theorem aje {b n m:Nat} (hm:0<m) (h:10^b*m<=n) (hn:n<bG):b<1000:=by
 have h1:10^b<=10^b*m:=Nat.le_mul_of_pos_right _ hm
 show b<KZ
 have h2:10^b<10^KZ:=Nat.lt_of_le_of_lt (Nat.le_trans h1 h) (Nat.lt_of_lt_of_le hn abH)
 exact (Nat.pow_lt_pow_iff_right (by decide)).1 h2
theorem au1 {h0 hx:ae} {v z:Value} {x:UInt8} {bs:List UInt8} {K:Value->ae->Prop} (o:kK h0.length hx 5 v (bs.map cv)) (hex:EX h0 hx) (hl:bs.length<=100000)
  (hk:∀v' cE,EX h0 cE->kK h0.length cE 5 v' ((bs++[x]).map cv)->(∀q n,dL hx q n->dL cE q n)->K v' cE):
  OH (dN 5 1 [z] hx [(0,1,cv x)]) λa h2=>OH (eG 5 1 1 h2 v a) K:=by
 refine Qt o (by simp;omega) (by simp [maxLen];omega) rfl rfl ?_
 intro hA cE _ hlen Kq lH
 simp only [aE]
 refine hk _ _ ⟨by have:=hex.1;omega,λj hj=>?_⟩ (.inr ⟨hx.length+1,by have:=hex.1;omega,by simp,by simpa using lH⟩) ?_
 ·rw [Kq j (by have:=hex.1;omega) λn hv=>?_]
  ·exact hex.2 j hj
  ·have:=(o.lt hv).1;omega
 ·rintro q n ⟨xs,d,c,hv⟩
  refine ⟨xs,?_,c,hv⟩
  rcases d with d | ⟨i,h1,h2⟩
  ·exact .inl d
  ·refine .inr ⟨i,h1,?_⟩
   rcases h2 with h2 | ⟨r,h2⟩
   ·exact .inl h2
   ·cases xs with
    | nil=>exact .inl rfl
    | cons y ys=>
     right
     refine ⟨r,?_⟩
     have bn:i<hx.length:=by
      apply byContradiction
      intro hc
      unfold aW at h2
      rw [List.getElem?_eq_none (by omega)] at h2
      simp at h2
     unfold aW at h2⊢
     rw [Kq i bn λn AK=>?_]
     ·exact h2
     ·have hg:=(o.lt AK).2.2
      rw [hg] at h2
      cases bs with
      | nil=>simp at h2
      | cons b bs=>simp [cv] at h2
theorem Ha {va:Value} {n:Nat} {h:ae} {K:Value->ae->Prop} (ha:dL h va n) (la:n<bG) (hk:∀h',EX h h'->K (S (eK n)) h'):ak prog 89 [va] h K:=by
 refine f89 ?_
 obtain ⟨l0,e0,e1⟩:=ha.qk
 simp only [Qe,e0,ah,hY,bQ]
 refine ⟨λhz=>?_,λhnz=>?_⟩
 ·have:n=0:=by omega
  subst this
  exact hk h (EX.refl h)
 ·have oK:0<n:=by omega
  refine dF (σ:=Value×Nat×Value×List Nat×ae) (λp=>[p.1,p.2.2.1]) (λp=>p.2.2.2.2)
   (λp=>EX h p.2.2.2.2/\dL p.2.2.2.2 p.1 p.2.1/\kK h.length p.2.2.2.2 5 p.2.2.1 ((p.2.2.2.1.map jA).map cv)/\cN 10 p.2.2.2.1/\val 10 p.2.2.2.1+10^p.2.2.2.1.length*p.2.1=n/\(p.2.1=0->dJ 10 p.2.2.2.1)) (λp=>p.2.1)
   (va,n,.slice none 0 0,[],h) rfl rfl ⟨EX.refl h,ha,.inl ⟨rfl,rfl⟩,λx hx=>by simp at hx,by simp [val],λh0=>by have h0:n=0:=h0;omega⟩ ?_
  rintro ⟨v,m,bv,b,hx⟩ ⟨hex,hm,jD,fH,cf,Ak⟩ L hL
  simp only at hex hm jD fH cf Ak hL⊢
  rw [aIr]
  obtain ⟨l,f0,f1⟩:=hm.qk
  simp only [f0,ah,fQ,bQ]
  refine ⟨λaF=>?_,λcU=>?_⟩
  ·have pD:0<m:=by omega
   have hmb:m<bG:=by
    refine Nat.lt_of_le_of_lt ?_ la
    have:m<=10^b.length*m:=Nat.le_mul_of_pos_left _ (aEM _)
    omega
   have Kc:=aje (b:=b.length) pD (by omega) la
   refine Y0 hm hmb (w:=1000000000) (by decide) (by decide) ?_
   intro q h1 x1 hq
   simp only [eR,fv,fz,ah]
   have aBO:kK h.length h1 5 bv ((b.map jA).map cv):=jD.eX λd k hv hd=>by
    have:=(jD.lt hv).2.1
    exact x1.2 d this
   have aBR:m / 1000000000<m:=Nat.div_lt_self pD (by decide)
   have mG:=Nat.div_add_mod m 1000000000
   have CC:=mod_lt m (show 1000000000>0 by decide)
   generalize m / 1000000000=qn at*
   generalize m%1000000000=r0 at*
   have hqq:=hq
   refine dF (σ:=Value×List Nat×Nat×Nat×ae) (λp=>[p.1,.int .u32 (p.2.2.1:Int),I p.2.2.2.1]) (λp=>p.2.2.2.2)
    (λp=>EX h p.2.2.2.2/\dL p.2.2.2.2 q qn/\kK h.length p.2.2.2.2 5 p.1 ((p.2.1.map jA).map cv)/\cN 10 p.2.1/\p.2.2.2.1<=9/\p.2.2.1<10^(9-p.2.2.2.1)/\p.2.1.length<=b.length+p.2.2.2.1/\val 10 p.2.1+10^p.2.1.length*(p.2.2.1+10^(9-p.2.2.2.1)*qn)=n/\(qn=0->p.2.2.1=0->dJ 10 p.2.1)) (λp=>9-p.2.2.2.1)
    (bv,b,r0,0,h1) rfl rfl ⟨hex.trans x1,hq,aBO,fH,by simp,by simpa using CC,by simp,?_,?_⟩ ?_
   ·show val 10 b+10^b.length*(r0+10^(9-0)*qn)=n
    have:r0+10^(9-0)*qn=m:=by
     show r0+1000000000*qn=m
     omega
    rw [this];exact cf
   ·intro h1 h2
    have h1:qn=0:=h1
    have h2:r0=0:=h2
    subst h1;subst h2
    omega
   rintro ⟨JC,c,r,i,hy⟩ ⟨S4,KE,Tu,Kt,hi,hr,gJ,Fm,SW⟩ L2 iV
   simp only at S4 KE Tu Kt hi hr gJ Fm SW iV⊢
   rw [aIo]
   -- leaving
   have stop:r=0->(i=9∨qn=0)->L9 prog K JC q L hy:=by
    intro tu rW
    rw [aIp]
    refine ⟨rfl,hL (q,qn,JC,c,hy) ⟨S4,KE,Tu,Kt,?_,λh0=>SW h0 tu⟩ aBR⟩
    show val 10 c+10^c.length*qn=n
    rw [tu,zero_add] at Fm
    rcases rW with h9 | h0
    ·subst h9;simpa using Fm
    ·subst h0;simpa using Fm
   simp only [cW,ah]
   by_cases hi9:i<9
   ·rw [bj (show (i:Int)<9 by omega)]
    simp only [apZ,fP]
    obtain ⟨l2,g0,g1⟩:=KE.qk
    simp only [g0,ah,fQ]
    -- one JF more
    have step:(0<qn∨0<r)->aN (B true)
      (OP (ai .rem (.int .u32 (r:Int)) (.int .u32 (10))) λdK=>
      OP (ai .add (.int .u32 (48)) dK) λcK=>
      OP (dG .u8 cK) λdw=>
      OH (dN 5 1 [(.int .u8 (0))] hy [(0,1,dw)]) λdc h_1=>
      OH (eG 5 1 1 h_1 JC dc) λer h_2=>
      OP (ai .quo (.int .u32 (r:Int)) (.int .u32 (10))) λeY=>
      OP (ai .add (I i) (.int .i64 (1))) λdm=>
      True/\L2 [er,eY,dm] h_2)
      (L9 prog K JC q L hy):=by
     intro rW
     have hrW:r<4294967296:=Nat.lt_of_lt_of_le hr (Nat.le_trans (Nat.pow_le_pow_right (by decide) (show 9-i<=9 by omega)) (by decide))
     have ed:IntKind.wrap .u32 ((48:Int)+((r%10:Nat):Int))=((48+r%10:Nat):Int):=by rw [oY (by omega) (by omega)];omega
     have aAi:ai .quo (.int .u32 (r:Int)) (.int .u32 10)=some (.int .u32 ((r / 10:Nat):Int)):=by
      have pV:¬((10:Int)=0):=by omega
      simp only [ai,iX,if_true,if_neg pV]
      have e:(r:Int).tdiv 10=((r / 10:Nat):Int):=rfl
      rw [e,oY (by omega) (by omega)]
     simp only [dA]
     rw [show (.int .u32 10:Value)=.int .u32 ((10:Nat):Int) from rfl,Bl _ _ _ (by decide)]
     simp only [ah,cL,ed,kZ]
     rw [aqS (by omega) (by omega),En (show r%10<10 by omega)]
     refine au1 (x:=jA (r%10)) Tu S4 (by simp;omega) ?_
     intro v' cE aBd uP Kq
     rw [show (.int .u32 ((10:Nat):Int):Value)=.int .u32 10 from rfl,aAi]
     simp only [ah,ft i (by omega),true_and]
     have ie:dL cE q qn:=Kq q qn KE
     refine iV (v',c++[r%10],r / 10,i+1,cE) ⟨aBd,ie,by simpa using uP,Kt.append (λx hx=>by simp at hx;omega),by show i+1<=9;omega,?_,by show (c++[r%10]).length<=b.length+(i+1);simp;omega,?_,?_⟩ (by show 9-(i+1)<9-i;omega)
     ·show r / 10<10^(9-(i+1))
      rw [show 9-i=(9-(i+1))+1 by omega,pow_succ] at hr
      exact (Nat.div_lt_iff_lt_mul (by decide)).2 hr
     ·show val 10 (c++[r%10])+10^(c++[r%10]).length*(r / 10+10^(9-(i+1))*qn)=n
      rw [og,length_append,List.length_singleton,pow_succ]
      rw [show 9-i=(9-(i+1))+1 by omega,pow_succ] at Fm
      have mG:=Nat.div_add_mod r 10
      simp only [val,mul_zero,add_zero]
      generalize r / 10=r1 at*
      generalize r%10=d at*
      generalize 10^c.length=P at*
      generalize 10^(9-(i+1))=Q at*
      generalize val 10 c=V at*
      clear hL iV hr SW cf stop
      subst mG
      grind
     ·intro h1 h2
      have h2:r / 10=0:=h2
      refine Jr (Kt.append (λx hx=>by simp at hx;omega)) ?_
      intro _
      have:0<r:=by rcases rW with h | h;omega;exact h
      simp
      omega
    by_cases Cy:0<qn
    ·rw [bj (show (0:Int)<(l2:Int) by omega)]
     simp only [Xj,fW,Mn,dY,ah,fP,Mo]
     exact step (.inl Cy)
    ·rw [aY (show ¬(0:Int)<(l2:Int) by omega)]
     simp only [Xj,eL,fQ,ah]
     by_cases tu:0<r
     ·rw [bj (show (0:Int)<(r:Int) by omega)]
      simp only [Mn,fP,dQ,ah,Mo,dY]
      exact step (.inr tu)
     ·rw [aY (show ¬(0:Int)<(r:Int) by omega)]
      simp only [Mn,fP,dQ,ah,Mo,dY,dD]
      exact stop (by omega) (.inr (by omega))
   ·have:i=9:=by omega
    subst this
    rw [aY (show ¬((9:Nat):Int)<9 by omega)]
    simp only [apZ,jV,Xj,xv,Mn,Mo,dQ,ah,dD]
    exact stop (by simpa using hr) (.inl rfl)
  ·have pD:m=0:=by omega
   subst pD
   have hc:=Ak rfl
   rw [mul_zero,add_zero] at cf
   have hb:b=uz n:=dJ.unique (by decide) hc (JE n).1 (by rw [cf,(JE n).2])
   have ahb:b≠[]:=by rintro rfl;simp [val] at cf;omega
   have Kc:b.length<=2000:=by
    have h1:=dJ.low (by decide) hc ahb
    have h2:=aje (b:=b.length-1) (m:=1) (n:=n) (by decide) (by omega) la
    omega
   rw [aIq]
   obtain ⟨id,jC,hv,hg⟩:∃id,h.length<=id/\bv=sl 5 id 0 (b.map jA).length/\hx[id]?=some (.arr 5 ((b.map jA).map cv)):=by
    rcases jD with ⟨_,h0⟩ | ⟨id,h1,h2,h3⟩
    ·exact absurd (by simpa using h0) ahb
    ·exact ⟨id,h1,by simpa using h2,h3⟩
   rw [hv]
   refine aq7 hg (by simp;omega) ?_
   have aBn:=(bz hg).1
   have b2:oQ (Go.Proofs.YtelmdbpaoifmoaaGreat.hb hx id (b.map jA).reverse) (sl 5 id 0 (b.map jA).length)=some (S (b.map jA).reverse):=by
    refine zH (b:=0) (e:=5) (l:=(b.map jA).reverse) (.inr ⟨id,Nat.zero_le _,by simp,?_⟩)
    rw [Kb aBn]
   simp only [b2,ah]
   have:(b.map jA).reverse=eK n:=by unfold eK;rw [if_neg (by omega),hb]
   rw [this]
   exact hk _ (hex.set jC _)
end
section
variable (P : Program) (K : VK)
noncomputable section
variable (v0 : Value) (h : ae)
def akR:=bE prog 20 [[],[]]
@[irreducible] def c20:=bM akR
theorem k20:akR=some (7,c20,[.cell true 4 2]):=by kernel_rfl
def Pp:Prop:=
 OH (aV 37 [(.bool false),(.slice none 0 0),(.bool false),(.slice none 0 0)] h) λx2 z1=>
 ak P 55 [v0] z1 λx4 z2=>
 ak P 55 [(.int .i64 (1))] z2 λx5 z3=>
 OP (dC [(.bool false),(.slice none 0 0),(.bool false),(.slice none 0 0)] [(0,2,x4),(2,2,x5)]) λx6=>
 OH (aG 4 z3 x2 x6) λ_ z4=>
 OP (af true 4 z4 x2) λr0=>
 K r0 z4
theorem e20:aj P c20 (aT [.cell true 4 2] K) (bw [v0]) h=Pp P K v0 h:=by kernel_rfl
theorem f20 {K:VK} {v0:Value} {h:ae} (H:Pp prog K v0 h):ak prog 20 [v0] h K:=
 bN k20 (bJ rfl) ((e20 prog K v0 h).mpr H)
end
noncomputable section
variable (a0 b1 : Value) (h : ae)
def akW:=bE prog 26 [[],[]]
@[irreducible] def c26:=bM akW
theorem k26:akW=some (22,c26,[.cell true 4 4]):=by kernel_rfl
def Pu:Prop:=
 OH (bp 37 h a0) λa2 z1=>
 OH (bp 37 z1 b1) λb3 z2=>
 OH (aV 37 [(.bool false),(.slice none 0 0),(.bool false),(.slice none 0 0)] z2) λx4 z3=>
 OP (aJ 0 a2) λx5=>
 OP (af true 2 z3 x5) λx6=>
 (True)/\
 OP (aJ 2 b3) λx7=>
 OP (af true 2 z3 x7) λx8=>
 (True)/\
 ak P 71 [x6,x8] z3 λx9 z4=>
 (True)/\
 OP (aJ 0 b3) λay=>
 OP (af true 2 z4 ay) λau=>
 (af true 2 z3 ay=some au/\True)/\
 OP (aJ 2 a2) λaD=>
 OP (af true 2 z4 aD) λaB=>
 (af true 2 z3 aD=some aB/\True)/\
 ak P 71 [au,aB] z4 λaA z5=>
 (True)/\
 ak P 70 [x9,aA] z5 λaP z6=>
 (True)/\
 OP (aJ 2 a2) λaL=>
 OP (af true 2 z6 aL) λbK=>
 (af true 2 z3 aL=some bK/\af true 2 z4 aL=some bK/\af true 2 z5 aL=some bK/\True)/\
 OP (aJ 2 b3) λaS=>
 OP (af true 2 z6 aS) λaK=>
 (af true 2 z3 aS=some aK/\af true 2 z4 aS=some aK/\af true 2 z5 aS=some aK/\True)/\
 ak P 71 [bK,aK] z6 λaU z7=>
 (True)/\
 OP (dC [(.bool false),(.slice none 0 0),(.bool false),(.slice none 0 0)] [(0,2,aP),(2,2,aU)]) λba=>
 OH (aG 4 z7 x4 ba) λ_ z8=>
 (True)/\
 OP (af true 4 z8 x4) λr0=>
 K r0 z8
theorem e26:aj P c26 (aT [.cell true 4 4] K) (bw [a0,b1]) h=Pu P K a0 b1 h:=by kernel_rfl
theorem f26 {K:VK} {a0 b1:Value} {h:ae} (H:Pu prog K a0 b1 h):ak prog 26 [a0,b1] h K:=
 bN k26 (bJ rfl) ((e26 prog K a0 b1 h).mpr H)
end
noncomputable section
variable (a0 b1 : Value) (h : ae)
def akX:=bE prog 27 [[],[]]
@[irreducible] def c27:=bM akX
theorem k27:akX=some (16,c27,[.cell true 4 4]):=by kernel_rfl
def Pv:Prop:=
 OH (bp 37 h a0) λa2 z1=>
 OH (bp 37 z1 b1) λb3 z2=>
 OH (aV 37 [(.bool false),(.slice none 0 0),(.bool false),(.slice none 0 0)] z2) λx4 z3=>
 OP (aJ 0 a2) λx5=>
 OP (af true 2 z3 x5) λx6=>
 (True)/\
 OP (aJ 0 b3) λx7=>
 OP (af true 2 z3 x7) λx8=>
 (True)/\
 ak P 71 [x6,x8] z3 λx9 z4=>
 (True)/\
 OP (aJ 2 a2) λay=>
 OP (af true 2 z4 ay) λau=>
 (af true 2 z3 ay=some au/\True)/\
 OP (aJ 2 b3) λaD=>
 OP (af true 2 z4 aD) λaB=>
 (af true 2 z3 aD=some aB/\True)/\
 ak P 71 [au,aB] z4 λaA z5=>
 (True)/\
 OP (dC [(.bool false),(.slice none 0 0),(.bool false),(.slice none 0 0)] [(0,2,x9),(2,2,aA)]) λaP=>
 OH (aG 4 z5 x4 aP) λ_ z6=>
 (True)/\
 OP (af true 4 z6 x4) λr0=>
 K r0 z6
theorem e27:aj P c27 (aT [.cell true 4 4] K) (bw [a0,b1]) h=Pv P K a0 b1 h:=by kernel_rfl
theorem f27 {K:VK} {a0 b1:Value} {h:ae} (H:Pv prog K a0 b1 h):ak prog 27 [a0,b1] h K:=
 bN k27 (bJ rfl) ((e27 prog K a0 b1 h).mpr H)
end
noncomputable section
variable (x0 : Value) (h : ae)
def akY:=bE prog 28 [[],[],[]]
@[irreducible] def c28:=bM akY
theorem k28:akY=some (11,c28,[.cell true 4 2]):=by kernel_rfl
def Pw:Prop:=
 OH (aV 37 [(.bool false),(.slice none 0 0),(.bool false),(.slice none 0 0)] h) λx2 z1=>
 ak P 67 [x0] z1 λx7 z2=>
 OP (cD 0 x7) λx8=>
 OP (cD 1 x7) λ_=>
 OH (aV 37 [(.bool false),(.slice none 0 0),(.bool false),(.slice none 0 0)] z2) λq3 z3=>
 OH (aG 4 z3 q3 x8) λ_ z4=>
 OP (af true 4 z4 q3) λay=>
 OH (aG 4 z4 x2 ay) λ_ z5=>
 OP (af true 4 z5 x2) λr0=>
 K r0 z5
theorem e28:aj P c28 (aT [.cell true 4 2] K) (bw [x0]) h=Pw P K x0 h:=by kernel_rfl
theorem f28 {K:VK} {x0:Value} {h:ae} (H:Pw prog K x0 h):ak prog 28 [x0] h K:=
 bN k28 (bJ rfl) ((e28 prog K x0 h).mpr H)
end
noncomputable section
variable (a0 : Value) (h : ae)
def ak6:=bE prog 48 [[],[],[],[],[],[],[],[]]
@[irreducible] def c48:=bM ak6
theorem k48:ak6=some (9,c48,[.tmp 2]):=by kernel_rfl
def PE (_:Program) (K:VK) (a0:Value) (h:ae):Prop:=
 OH (bp 35 h a0) λa1 z1=>
 OP (aJ 1 a1) λx3=>
 OP (af false 1 z1 x3) λx4=>
 OP (bk x4) λx5=>
 OP (ai .eql x5 (.int .i64 (0))) λx6=>
 aN x6
 (K (.int .i64 (0)) z1)
 (OP (aJ 0 a1) λx7=>
 OP (af false 1 z1 x7) λx8=>
 aN x8
 (K (.int .i64 (-1)) z1)
 (K (.int .i64 (1)) z1))
theorem e48:aj P c48 (aT [.tmp 2] K) (bw [a0]) h=PE P K a0 h:=by kernel_rfl
theorem f48 {K:VK} {a0:Value} {h:ae} (H:PE prog K a0 h):ak prog 48 [a0] h K:=
 bN k48 (bJ rfl) ((e48 prog K a0 h).mpr H)
end
noncomputable section
variable (v0 x2 z3 d4 : Value) (L1 : LQ) (xs : List Value) (h : ae)
def ald:=bE prog 55 [[],[],[2,3],[0],[],[],[],[],[0,2,3,4],[],[2,3],[]]
@[irreducible] def IX:=bM ald
@[irreducible] def ad8:=IX.r.r.l.l.l
@[irreducible] def ad7:=IX.r.r.r
@[irreducible] def axm:=ad8.r.l.r.r.l
@[irreducible] def axn:=ad7.l
theorem k55:ald=some (25,IX,[.cell true 2 2]):=by kernel_rfl
def Oe (_P:Program) (K:VK):ar:=aT [.cell true 2 2] K
def atF:ar:=aH (aj P ad7 (Oe P K)) (Oe P K)
def atG:ar:=bH 0 (atF P K)
def aaz:ar:=aH (λf' aX=>(([2,3]:List Nat).map f':List Value)=[x2,z3]/\L1 (([0]:List Nat).map f') aX) (atG P K)
def atH:ar:=bH 1 (aaz P K x2 z3 L1)
def anv:Prop:=ax (aj P ad8 (aaz P K x2 z3 L1)) ([2,3]++[0]) ([x2,z3]++xs) h
def L0:Prop:=ax (aj P axm (atH P K x2 z3 L1)) [0,2,3,4] [v0,x2,z3,d4] h
def anu:Prop:=ax (aj P axn (Oe P K)) [2,3] [x2,z3] h
theorem aG1:L0 P K v0 x2 z3 d4 L1 h=
 (OP (aJ 1 z3) λaL=>
 OP (af false 1 h aL) λbK=>
 OH (dN 3 1 [(.int .i64 (0))] h [(0,1,d4)]) λaK h_1=>
 OH (eG 3 1 8 h_1 bK aK) λaU h_2=>
 OP (aJ 1 z3) λba=>
 OH (aG 1 h_2 ba aU) λ_ h_3=>
 OP (ai .quo v0 (.int .i64 (10000))) λcB=>
 ([x2,z3]:List Value)=[x2,z3]/\L1 [cB] h_3):=az (by kernel_rfl)
theorem aG3 (x2 z3:Value) (L1:LQ) (v0:Value) (h:ae):anv P K x2 z3 L1 [v0] h=
 (OP (ai .neq v0 (.int .i64 (0))) λx9=>
 aN x9
 (OP (ai .rem v0 (.int .i64 (10000))) λau=>
 OP (ai .lss au (.int .i64 (0))) λaB=>
 aN aB
 (OP (gq .neg au) λaP=>
 L0 P K v0 x2 z3 aP L1 h)
 (L0 P K v0 x2 z3 au L1 h))
 (anu P K x2 z3 h)):=az (by kernel_rfl)
theorem aG2:anu P K x2 z3 h=
 (OP (af true 2 h z3) λbL=>
 OH (aG 2 h x2 bL) λ_ h_1=>
 OP (af true 2 h_1 x2) λr0=>
 K r0 h_1):=az (by kernel_rfl)
def PK:Prop:=
 OH (aV 35 [(.bool false),(.slice none 0 0)] h) λx2 h_1=>
 OP (ai .lss v0 (.int .i64 (0))) λx6=>
 OP (dC [(.bool false),(.slice none 0 0)] [(0,1,x6)]) λx7=>
 OH (aV 35 [(.bool false),(.slice none 0 0)] h_1) λz3 h_2=>
 OH (aG 2 h_2 z3 x7) λ_ h_3=>
 cO [v0] h_3 λL1 xs hx=>
 anv P K x2 z3 L1 xs hx
theorem e55:aj P IX (aT [.cell true 2 2] K) (bw [v0]) h=PK P K v0 h:=by kernel_rfl
theorem f55 {K:VK} {v0:Value} {h:ae} (H:PK prog K v0 h):ak prog 55 [v0] h K:=
 bN k55 (bJ rfl) ((e55 prog K v0 h).mpr H)
end
noncomputable section
variable (x0 x2 s4 x5 x6 i7 n8 x9 d10 ba bL fc eB gH iF : Value) (L1 : LQ) (xs : List Value) (h : ae)
def alm:=bE prog 67 [[],[],[],[],[],[2,4,5,21],[2,4,5,21,24],[],[2,4,5],[],[],[2,4,5],[6,7],[],[],[],[2,4,5,6,7],[2,4,5,6],[],[],[],[],[],[],[],[2,5,8,9,10],[2,5,8,10,82],[2,5,8,10,82,84],[2,5,8,10,82,84,88],[2,5,8,10,82,89],[],[],[],[],[2,8,10],[]]
@[irreducible] def Ec:=bM alm
@[irreducible] def aeP:=Ec.r.r.r.l.l.r.l
@[irreducible] def axP:=Ec.r.r.r.l.r
@[irreducible] def aeO:=Ec.r.r.r.r
@[irreducible] def axK:=aeP.r.l
@[irreducible] def Rc:=aeO.l
@[irreducible] def aeI:=Rc.r.l.r.l.l
@[irreducible] def aeH:=Rc.r.r
@[irreducible] def axL:=aeI.r.r.l
@[irreducible] def aeJ:=aeH.l
@[irreducible] def I5:=aeJ.r.r.r.l
@[irreducible] def aeL:=I5.l.l.r.l
@[irreducible] def axM:=I5.l.r
@[irreducible] def aeK:=I5.r
@[irreducible] def aeM:=aeL.r.l
@[irreducible] def axO:=aeK.r.l
@[irreducible] def aeN:=aeM.r.l
@[irreducible] def axN:=aeN.r.l
theorem k67:alm=some (98,Ec,[.cell true 4 2,.tmp 3]):=by kernel_rfl
def uf (_P:Program) (K:VK):ar:=aT [.cell true 4 2,.tmp 3] K
def aaK:ar:=aH (aj P aeO (uf P K)) (uf P K)
def aaL:ar:=aH (aj P axP (aaK P K)) (aaK P K)
def at0:ar:=aH (aj P aeH (uf P K)) (uf P K)
def at1:ar:=bH 0 (at0 P K)
def aaI:ar:=aH (λf' aX=>(([2,4,5]:List Nat).map f':List Value)=[x2,s4,x5]/\L1 (([6,7]:List Nat).map f') aX) (at1 P K)
def aaJ:ar:=aH (aj P aeK (uf P K)) (uf P K)
def HB:ar:=aH (aj P axM (aaJ P K)) (aaJ P K)
def anU:Prop:=ax (aj P aeP (aaL P K)) [2,4,5,21] [x2,s4,x5,ba] h
def Wx:Prop:=ax (aj P axK (aaL P K)) [2,4,5,21,24] [x2,s4,x5,ba,bL] h
def L6:Prop:=ax (aj P Rc (uf P K)) [2,4,5] [x2,s4,x5] h
def anR:Prop:=ax (aj P aeI (aaI P K x2 s4 x5 L1)) ([2,4,5]++[6,7]) ([x2,s4,x5]++xs) h
def Wy:Prop:=ax (aj P axL (aaI P K x2 s4 x5 L1)) [2,4,5,6,7] [x2,s4,x5,x6,i7] h
def anS:Prop:=ax (aj P aeJ (uf P K)) [2,4,5,6] [x2,s4,x5,x6] h
def Bg:Prop:=ax (aj P I5 (uf P K)) [2,5,8,9,10] [x2,x5,n8,x9,d10] h
def anT:Prop:=ax (aj P aeL (HB P K)) [2,5,8,10,82] [x2,x5,n8,d10,fc] h
def Wz:Prop:=ax (aj P aeM (HB P K)) [2,5,8,10,82,84] [x2,x5,n8,d10,fc,eB] h
def WA:Prop:=ax (aj P aeN (HB P K)) [2,5,8,10,82,84,88] [x2,x5,n8,d10,fc,eB,gH] h
def Gj:Prop:=ax (aj P axN (HB P K)) [2,5,8,10,82,89] [x2,x5,n8,d10,fc,iF] h
def WB:Prop:=ax (aj P axO (uf P K)) [2,8,10] [x2,n8,d10] h
theorem apN:Wx P K x2 s4 x5 ba bL h=
 (OP (bF ba bL (.bool false)) λbX=>
 aN bX
 (OP (kQ s4 (some (.int .i64 (1))) none) λb9=>
 L6 P K x2 b9 (.bool true) h)
 (L6 P K x2 s4 x5 h)):=az (by kernel_rfl)
theorem aHL:anU P K x2 s4 x5 ba h=
 (ck ba true
 (OP (j6 s4 (.int .i64 (0))) λcB=>
 OP (ai .eql cB (.int .u8 (45))) λbL=>
 Wx P K x2 s4 x5 ba bL h)
 (Wx P K x2 s4 x5 ba undef h)):=az (by kernel_rfl)
theorem aHH:Wy P K x2 s4 x5 x6 i7 L1 h=
 (OP (ai .sub i7 (.int .i64 (1))) λdc=>
 ([x2,s4,x5]:List Value)=[x2,s4,x5]/\L1 [x6,dc] h):=az (by kernel_rfl)
theorem aHG (x2 s4 x5:Value) (L1:LQ) (x6 i7:Value) (h:ae):anR P K x2 s4 x5 L1 [x6,i7] h=
 (OP (ai .geq i7 (.int .i64 (0))) λcK=>
 aN cK
 (OP (j6 s4 i7) λeY=>
 OP (ai .eql eY (.int .u8 (47))) λeJ=>
 aN eJ
 (Wy P K x2 s4 x5 i7 i7 L1 h)
 (Wy P K x2 s4 x5 x6 i7 L1 h))
 (anS P K x2 s4 x5 x6 h)):=az (by kernel_rfl)
theorem apP:Gj P K x2 x5 n8 d10 fc iF h=
 (OP (bF fc (.bool true) iF) λlR=>
 aN lR
 (OP (dC [(.bool false),(.slice none 0 0),(.bool false),(.slice none 0 0)] []) λiU=>
 OH (aG 4 h x2 iU) λ_ z1=>
 OP (af true 4 z1 x2) λr0=>
 K (.tuple #[r0,(.bool false)]) z1)
 (aN x5
 (OP (af true 2 h n8) λpa=>
 ak P 95 [pa] h λrC z1=>
 OH (aG 2 z1 n8 rC) λ_ z2=>
 WB P K x2 n8 d10 z2)
 (WB P K x2 n8 d10 h))):=az (by kernel_rfl)
theorem Xh:WA P K x2 x5 n8 d10 fc eB gH h=
 (ck fc false
 (OP (bF eB gH (.bool false)) λiF=>
 Gj P K x2 x5 n8 d10 fc iF h)
 (Gj P K x2 x5 n8 d10 fc undef h)):=az (by kernel_rfl)
theorem apO:Wz P K x2 x5 n8 d10 fc eB h=
 (ck eB true
 (OP (aJ 1 n8) λtX=>
 OP (af false 1 h tX) λmj=>
 OP (bk mj) λqA=>
 OP (ai .eql qA (.int .i64 (0))) λgH=>
 WA P K x2 x5 n8 d10 fc eB gH h)
 (WA P K x2 x5 n8 d10 fc eB undef h)):=az (by kernel_rfl)
theorem aHK:anT P K x2 x5 n8 d10 fc h=
 (ck fc false
 (Wz P K x2 x5 n8 d10 fc x5 h)
 (Wz P K x2 x5 n8 d10 fc undef h)):=az (by kernel_rfl)
theorem apQ:WB P K x2 n8 d10 h=
 (OP (af true 2 h n8) λyX=>
 OP (af true 2 h d10) λqB=>
 OP (dC [(.bool false),(.slice none 0 0),(.bool false),(.slice none 0 0)] [(0,2,yX),(2,2,qB)]) λoh=>
 OH (aG 4 h x2 oh) λ_ z1=>
 OP (af true 4 z1 x2) λr0=>
 K (.tuple #[r0,(.bool true)]) z1):=az (by kernel_rfl)
theorem aHJ:Bg P K x2 x5 n8 x9 d10 h=
 (OP (gq .not x9) λjT=>
 anT P K x2 x5 n8 d10 jT h):=az (by kernel_rfl)
theorem aHI:anS P K x2 s4 x5 x6 h=
 (OP (kQ s4 none (some x6)) λcS=>
 ak P 99 [cS] h λcI z1=>
 OP (cD 0 cI) λgO=>
 OP (cD 1 cI) λfE=>
 OH (aV 35 [(.bool false),(.slice none 0 0)] z1) λn8 z2=>
 OH (aG 2 z2 n8 gO) λ_ z3=>
 ak P 55 [(.int .i64 (1))] z3 λfN z4=>
 OH (aV 35 [(.bool false),(.slice none 0 0)] z4) λd10 z5=>
 OH (aG 2 z5 d10 fN) λ_ z6=>
 OP (gK s4) λde=>
 OP (ai .lss x6 de) λiS=>
 aN iS
 (OP (ai .add x6 (.int .i64 (1))) λee=>
 OP (kQ s4 (some ee) none) λfO=>
 ak P 99 [fO] z6 λeP z7=>
 OP (cD 0 eP) λjw=>
 OP (cD 1 eP) λfI=>
 OH (aV 35 [(.bool false),(.slice none 0 0)] z7) λau z8=>
 OH (aG 2 z8 au jw) λ_ z9=>
 OP (gq .not fI) λhO=>
 ck hO false
 (OP (af true 2 z9 au) λgP=>
 (True)/\
 ak P 55 [(.int .i64 (2))] z9 λjd hX=>
 (af true 2 hX au=some gP/\True)/\
 ak P 72 [gP,jd] hX λgC jx=>
 (True)/\
 OP (ai .lss gC (.int .i64 (0))) λfw=>
 OP (bF hO (.bool true) fw) λfU=>
 ck fU false
 (OP (af true 2 jx n8) λiD=>
 (True)/\
 OP (af true 2 jx au) λkW=>
 (True)/\
 ak P 68 [iD,kW] jx λmi kr=>
 (True)/\
 ak P 55 [(.int .i64 (1))] kr λfF kH=>
 (True)/\
 ak P 72 [mi,fF] kH λkn om=>
 (True)/\
 OP (ai .neq kn (.int .i64 (0))) λiE=>
 OP (bF fU (.bool true) iE) λil=>
 aN il
 (OP (dC [(.bool false),(.slice none 0 0),(.bool false),(.slice none 0 0)] []) λfJ=>
 OH (aG 4 om x2 fJ) λ_ ky=>
 OP (af true 4 ky x2) λr0=>
 K (.tuple #[r0,(.bool false)]) ky)
 (OP (af true 2 om au) λgQ=>
 OH (aG 2 om d10 gQ) λ_ ky=>
 Bg P K x2 x5 n8 fE d10 ky))
 ((True)/\
 (True)/\
 (True)/\
 OP (bF fU (.bool true) undef) λil=>
 aN il
 (OP (dC [(.bool false),(.slice none 0 0),(.bool false),(.slice none 0 0)] []) λfJ=>
 OH (aG 4 jx x2 fJ) λ_ kr=>
 OP (af true 4 kr x2) λr0=>
 K (.tuple #[r0,(.bool false)]) kr)
 (OP (af true 2 jx au) λgQ=>
 OH (aG 2 jx d10 gQ) λ_ kr=>
 Bg P K x2 x5 n8 fE d10 kr)))
 ((True)/\
 (True)/\
 OP (bF hO (.bool true) undef) λfU=>
 ck fU false
 (OP (af true 2 z9 n8) λiD=>
 (True)/\
 OP (af true 2 z9 au) λkW=>
 (True)/\
 ak P 68 [iD,kW] z9 λmi hX=>
 (True)/\
 ak P 55 [(.int .i64 (1))] hX λfF jx=>
 (True)/\
 ak P 72 [mi,fF] jx λkn kr=>
 (True)/\
 OP (ai .neq kn (.int .i64 (0))) λiE=>
 OP (bF fU (.bool true) iE) λil=>
 aN il
 (OP (dC [(.bool false),(.slice none 0 0),(.bool false),(.slice none 0 0)] []) λfJ=>
 OH (aG 4 kr x2 fJ) λ_ kH=>
 OP (af true 4 kH x2) λr0=>
 K (.tuple #[r0,(.bool false)]) kH)
 (OP (af true 2 kr au) λgQ=>
 OH (aG 2 kr d10 gQ) λ_ kH=>
 Bg P K x2 x5 n8 fE d10 kH))
 ((True)/\
 (True)/\
 (True)/\
 OP (bF fU (.bool true) undef) λil=>
 aN il
 (OP (dC [(.bool false),(.slice none 0 0),(.bool false),(.slice none 0 0)] []) λfJ=>
 OH (aG 4 z9 x2 fJ) λ_ hX=>
 OP (af true 4 hX x2) λr0=>
 K (.tuple #[r0,(.bool false)]) hX)
 (OP (af true 2 z9 au) λgQ=>
 OH (aG 2 z9 d10 gQ) λ_ hX=>
 Bg P K x2 x5 n8 fE d10 hX))))
 (Bg P K x2 x5 n8 fE d10 z6)):=az (by kernel_rfl)
theorem aHF:L6 P K x2 s4 x5 h=
 (OP (gK s4) λcM=>
 OP (gK s4) λcC=>
 OP (ai .sub cC (.int .i64 (1))) λbV=>
 cO [cM,bV] h λL1 xs hx=>
 anR P K x2 s4 x5 L1 xs hx):=az (by kernel_rfl)
def PU:Prop:=
 OH (aV 37 [(.bool false),(.slice none 0 0),(.bool false),(.slice none 0 0)] h) λx2 z1=>
 OP (gK x0) λaP=>
 OP (ai .gtr aP (.int .i64 (8002))) λaL=>
 aN aL
 (OP (dC [(.bool false),(.slice none 0 0),(.bool false),(.slice none 0 0)] []) λbK=>
 OH (aG 4 z1 x2 bK) λ_ z2=>
 OP (af true 4 z2 x2) λr0=>
 K (.tuple #[r0,(.bool false)]) z2)
 (OP (gK x0) λaK=>
 OP (ai .gtr aK (.int .i64 (0))) λaU=>
 anU P K x2 x0 (.bool false) aU z1)
theorem e67:aj P Ec (aT [.cell true 4 2,.tmp 3] K) (bw [x0]) h=PU P K x0 h:=by kernel_rfl
theorem f67 {K:VK} {x0:Value} {h:ae} (H:PU prog K x0 h):ak prog 67 [x0] h K:=
 bN k67 (bJ rfl) ((e67 prog K x0 h).mpr H)
end
noncomputable section
variable (a0 b1 : Value) (h : ae)
def alp:=bE prog 70 [[],[],[],[],[],[],[],[]]
@[irreducible] def c70:=bM alp
theorem k70:alp=some (43,c70,[.cell true 2 4]):=by kernel_rfl
def PX:Prop:=
 OH (bp 35 h a0) λa2 z1=>
 OH (bp 35 z1 b1) λb3 z2=>
 OH (aV 35 [(.bool false),(.slice none 0 0)] z2) λx4 z3=>
 OP (aJ 0 a2) λx5=>
 OP (af false 1 z3 x5) λx6=>
 OP (aJ 0 b3) λx7=>
 OP (af false 1 z3 x7) λx8=>
 OP (uQ false x6 x8) λx9=>
 aN x9
 (OP (aJ 0 a2) λay=>
 OP (af false 1 z3 ay) λau=>
 (True)/\
 OP (aJ 1 a2) λaD=>
 OP (af false 1 z3 aD) λaB=>
 (True)/\
 OP (aJ 1 b3) λaA=>
 OP (af false 1 z3 aA) λaP=>
 (True)/\
 ak P 104 [aB,aP] z3 λaL z4=>
 (af false 1 z4 ay=some au/\True)/\
 OP (dC [(.bool false),(.slice none 0 0)] [(0,1,au),(1,1,aL)]) λbK=>
 ak P 100 [bK] z4 λaS z5=>
 (True)/\
 OH (aG 2 z5 x4 aS) λ_ z6=>
 (True)/\
 OP (af true 2 z6 x4) λr0=>
 K r0 z6)
 (OP (aJ 1 a2) λaK=>
 OP (af false 1 z3 aK) λaU=>
 OP (aJ 1 b3) λba=>
 OP (af false 1 z3 ba) λbO=>
 ak P 101 [aU,bO] z3 λcB z4=>
 OP (ai .geq cB (.int .i64 (0))) λbL=>
 aN bL
 (OP (aJ 0 a2) λbX=>
 OP (af false 1 z4 bX) λcV=>
 (True)/\
 OP (aJ 1 a2) λb9=>
 OP (af false 1 z4 b9) λcG=>
 (True)/\
 OP (aJ 1 b3) λcM=>
 OP (af false 1 z4 cM) λdm=>
 (True)/\
 ak P 103 [cG,dm] z4 λcC z5=>
 (af false 1 z5 bX=some cV/\True)/\
 OP (dC [(.bool false),(.slice none 0 0)] [(0,1,cV),(1,1,cC)]) λbV=>
 ak P 100 [bV] z5 λdK z6=>
 (True)/\
 OH (aG 2 z6 x4 dK) λ_ z7=>
 (True)/\
 OP (af true 2 z7 x4) λr0=>
 K r0 z7)
 (OP (aJ 0 b3) λcK=>
 OP (af false 1 z4 cK) λdw=>
 (True)/\
 OP (aJ 1 b3) λdc=>
 OP (af false 1 z4 dc) λer=>
 (True)/\
 OP (aJ 1 a2) λdO=>
 OP (af false 1 z4 dO) λeY=>
 (True)/\
 ak P 103 [er,eY] z4 λeJ z5=>
 (af false 1 z5 cK=some dw/\True)/\
 OP (dC [(.bool false),(.slice none 0 0)] [(0,1,dw),(1,1,eJ)]) λdW=>
 ak P 100 [dW] z5 λeO z6=>
 (True)/\
 OH (aG 2 z6 x4 eO) λ_ z7=>
 (True)/\
 OP (af true 2 z7 x4) λr0=>
 K r0 z7))
theorem e70:aj P c70 (aT [.cell true 2 4] K) (bw [a0,b1]) h=PX P K a0 b1 h:=by kernel_rfl
theorem f70 {K:VK} {a0 b1:Value} {h:ae} (H:PX prog K a0 b1 h):ak prog 70 [a0,b1] h K:=
 bN k70 (bJ rfl) ((e70 prog K a0 b1 h).mpr H)
end
noncomputable section
variable (a0 b1 a2 b3 x4 x5 i6 x7 k8 s9 cC dK : Value) (L1 L2 : LQ) (xs : List Value) (h : ae)
def alq:=bE prog 71 [[],[],[],[2,3,4,5],[6],[],[],[],[],[2,3,4,5,6],[7,8],[2,3,4,5,6,7,8,31],[2,3,4,5,6,7,8,31,33],[],[],[],[],[2,3,4,5,6,8,9],[2,3,4,5,6,7,8],[2,3,4,5,6],[2,3,4,5],[]]
@[irreducible] def Ja:=bM alq
@[irreducible] def Re:=Ja.r.r.l.r.l.l
@[irreducible] def aeY:=Ja.r.r.r
@[irreducible] def Jb:=Re.r.l.l.r.r.l.l
@[irreducible] def aeZ:=Re.r.r
@[irreducible] def ax3:=aeY.l
@[irreducible] def aeW:=Jb.l.l.r.l
@[irreducible] def axY:=Jb.l.r
@[irreducible] def Rd:=Jb.r
@[irreducible] def ax2:=aeZ.l
@[irreducible] def axZ:=aeW.r.l
@[irreducible] def ax0:=Rd.l.l.r.r.l
@[irreducible] def aeX:=Rd.r
@[irreducible] def ax1:=aeX.l
theorem k71:alq=some (80,Ja,[.cell true 2 4]):=by kernel_rfl
def Ol (_P:Program) (K:VK):ar:=aT [.cell true 2 4] K
def aug:ar:=aH (aj P aeY (Ol P K)) (Ol P K)
def auh:ar:=bH 0 (aug P K)
def HE:ar:=aH (λf' aX=>(([2,3,4,5]:List Nat).map f':List Value)=[a2,b3,x4,x5]/\L1 (([6]:List Nat).map f') aX) (auh P K)
def aui:ar:=aH (aj P aeZ (HE P K a2 b3 x4 x5 L1)) (HE P K a2 b3 x4 x5 L1)
def auc:ar:=bH 1 (aui P K a2 b3 x4 x5 L1)
def aud:ar:=bH 2 (auc P K a2 b3 x4 x5 L1)
def BJ:ar:=aH (λf' aX=>(([2,3,4,5,6]:List Nat).map f':List Value)=[a2,b3,x4,x5,i6]/\L2 (([7,8]:List Nat).map f') aX) (aud P K a2 b3 x4 x5 L1)
def aaO:ar:=aH (aj P Rd (BJ P K a2 b3 x4 x5 i6 L1 L2)) (BJ P K a2 b3 x4 x5 i6 L1 L2)
def aaP:ar:=aH (aj P axY (aaO P K a2 b3 x4 x5 i6 L1 L2)) (aaO P K a2 b3 x4 x5 i6 L1 L2)
def aue:ar:=aH (aj P aeX (BJ P K a2 b3 x4 x5 i6 L1 L2)) (BJ P K a2 b3 x4 x5 i6 L1 L2)
def auf:ar:=bH 3 (aue P K a2 b3 x4 x5 i6 L1 L2)
def an7:Prop:=ax (aj P Re (HE P K a2 b3 x4 x5 L1)) ([2,3,4,5]++[6]) ([a2,b3,x4,x5]++xs) h
def an3:Prop:=ax (aj P Jb (BJ P K a2 b3 x4 x5 i6 L1 L2)) ([2,3,4,5,6]++[7,8]) ([a2,b3,x4,x5,i6]++xs) h
def an4:Prop:=ax (aj P aeW (aaP P K a2 b3 x4 x5 i6 L1 L2)) [2,3,4,5,6,7,8,31] [a2,b3,x4,x5,i6,x7,k8,cC] h
def WC:Prop:=ax (aj P axZ (aaP P K a2 b3 x4 x5 i6 L1 L2)) [2,3,4,5,6,7,8,31,33] [a2,b3,x4,x5,i6,x7,k8,cC,dK] h
def yI:Prop:=ax (aj P ax0 (auf P K a2 b3 x4 x5 i6 L1 L2)) [2,3,4,5,6,8,9] [a2,b3,x4,x5,i6,k8,s9] h
def an5:Prop:=ax (aj P ax1 (BJ P K a2 b3 x4 x5 i6 L1 L2)) [2,3,4,5,6,7,8] [a2,b3,x4,x5,i6,x7,k8] h
def WD:Prop:=ax (aj P ax2 (HE P K a2 b3 x4 x5 L1)) [2,3,4,5,6] [a2,b3,x4,x5,i6] h
def an6:Prop:=ax (aj P ax3 (Ol P K)) [2,3,4,5] [a2,b3,x4,x5] h
theorem apS:WC P K a2 b3 x4 x5 i6 x7 k8 cC dK L1 L2 h=
 (OP (bF cC (.bool true) dK) λcK=>
 aN cK
 (OP (ai .add i6 k8) λeJ=>
 OP (aZ 1 x5 eJ) λdW=>
 OP (af false 1 h dW) λeO=>
 OP (ai .add eO x7) λbu=>
 OP (aJ 1 b3) λcI=>
 OP (af false 1 h cI) λgO=>
 OP (bk gO) λfE=>
 OP (ai .lss k8 fE) λfN=>
 aN fN
 (OP (aJ 1 a2) λcg=>
 OP (af false 1 h cg) λde=>
 (True)/\
 OP (aZ 1 de i6) λcX=>
 OP (af false 1 h cX) λhI=>
 (True)/\
 OP (aJ 1 b3) λiT=>
 OP (af false 1 h iT) λee=>
 (True)/\
 OP (aZ 1 ee k8) λeP=>
 OP (af false 1 h eP) λjw=>
 (True)/\
 OP (ai .mul hI jw) λfI=>
 OP (ai .add bu fI) λng=>
 yI P K a2 b3 x4 x5 i6 k8 ng L1 L2 h)
 (yI P K a2 b3 x4 x5 i6 k8 bu L1 L2 h))
 (WD P K a2 b3 x4 x5 i6 L1 h)):=az (by kernel_rfl)
theorem apR:an4 P K a2 b3 x4 x5 i6 x7 k8 cC L1 L2 h=
 (ck cC false
 (OP (ai .gtr x7 (.int .i64 (0))) λdK=>
 WC P K a2 b3 x4 x5 i6 x7 k8 cC dK L1 L2 h)
 (WC P K a2 b3 x4 x5 i6 x7 k8 cC undef L1 L2 h)):=az (by kernel_rfl)
theorem aHV:yI P K a2 b3 x4 x5 i6 k8 s9 L1 L2 h=
 (OP (ai .add i6 k8) λjd=>
 OP (ai .rem s9 (.int .i64 (10000))) λfw=>
 OP (ai .quo s9 (.int .i64 (10000))) λmN=>
 OP (aZ 1 x5 jd) λiD=>
 OH (aG 1 h iD fw) λ_ z1=>
 an5 P K a2 b3 x4 x5 i6 mN k8 L1 L2 z1):=az (by kernel_rfl)
theorem aHW:an5 P K a2 b3 x4 x5 i6 x7 k8 L1 L2 h=
 (OP (ai .add k8 (.int .i64 (1))) λdc=>
 ([a2,b3,x4,x5,i6]:List Value)=[a2,b3,x4,x5,i6]/\L2 [x7,dc] h):=az (by kernel_rfl)
theorem aHU (a2 b3 x4 x5 i6:Value) (L1 L2:LQ) (x7 k8:Value) (h:ae):an3 P K a2 b3 x4 x5 i6 L1 L2 [x7,k8] h=
 (OP (aJ 1 b3) λb9=>
 OP (af false 1 h b9) λcG=>
 OP (bk cG) λcM=>
 OP (ai .lss k8 cM) λdm=>
 an4 P K a2 b3 x4 x5 i6 x7 k8 dm L1 L2 h):=az (by kernel_rfl)
theorem aHX:WD P K a2 b3 x4 x5 i6 L1 h=
 (OP (ai .add i6 (.int .i64 (1))) λbX=>
 ([a2,b3,x4,x5]:List Value)=[a2,b3,x4,x5]/\L1 [bX] h):=az (by kernel_rfl)
theorem aHZ (a2 b3 x4 x5:Value) (L1:LQ) (i6:Value) (h:ae):an7 P K a2 b3 x4 x5 L1 [i6] h=
 (OP (aJ 1 a2) λaU=>
 OP (af false 1 h aU) λba=>
 OP (bk ba) λbO=>
 OP (ai .lss i6 bO) λcB=>
 aN cB
 (cO [(.int .i64 (0)),(.int .i64 (0))] h λL2 xs hx=>
 an3 P K a2 b3 x4 x5 i6 L1 L2 xs hx)
 (an6 P K a2 b3 x4 x5 h)):=az (by kernel_rfl)
theorem aHY:an6 P K a2 b3 x4 x5 h=
 (OP (aJ 0 a2) λkW=>
 OP (af false 1 h kW) λmi=>
 OP (aJ 0 b3) λfF=>
 OP (af false 1 h fF) λkn=>
 OP (uQ true mi kn) λiE=>
 OP (dC [(.bool false),(.slice none 0 0)] [(0,1,iE),(1,1,x5)]) λfJ=>
 ak P 100 [fJ] h λgQ z1=>
 OH (aG 2 z1 x4 gQ) λ_ z2=>
 OP (af true 2 z2 x4) λr0=>
 K r0 z2):=az (by kernel_rfl)
def PY:Prop:=
 OH (bp 35 h a0) λa2 z1=>
 OH (bp 35 z1 b1) λb3 z2=>
 OH (aV 35 [(.bool false),(.slice none 0 0)] z2) λx4 z3=>
 OP (aJ 1 a2) λay=>
 OP (af false 1 z3 ay) λau=>
 OP (bk au) λaD=>
 OP (aJ 1 b3) λaB=>
 OP (af false 1 z3 aB) λaA=>
 OP (bk aA) λaP=>
 OP (ai .add aD aP) λaL=>
 OP (ai .add aL (.int .i64 (1))) λbK=>
 OH (lI 3 8 [(.int .i64 (0))] z3 bK bK) λaS z4=>
 cO [(.int .i64 (0))] z4 λL1 xs hx=>
 an7 P K a2 b3 x4 aS L1 xs hx
theorem e71:aj P Ja (aT [.cell true 2 4] K) (bw [a0,b1]) h=PY P K a0 b1 h:=by kernel_rfl
theorem f71 {K:VK} {a0 b1:Value} {h:ae} (H:PY prog K a0 b1 h):ak prog 71 [a0,b1] h K:=
 bN k71 (bJ rfl) ((e71 prog K a0 b1 h).mpr H)
end
noncomputable section
variable (a0 b1 : Value) (h : ae)
def alr:=bE prog 72 [[],[]]
@[irreducible] def c72:=bM alr
theorem k72:alr=some (9,c72,[.tmp 4]):=by kernel_rfl
def PZ:Prop:=
 OH (bp 35 h a0) λa2 z1=>
 OH (bp 35 z1 b1) λb3 z2=>
 OP (af true 2 z2 a2) λx5=>
 OP (af true 2 z2 b3) λx6=>
 ak P 92 [x5,x6] z2 λx7 z3=>
 ak P 48 [x7] z3 λx8 z4=>
 K x8 z4
theorem e72:aj P c72 (aT [.tmp 4] K) (bw [a0,b1]) h=PZ P K a0 b1 h:=by kernel_rfl
theorem f72 {K:VK} {a0 b1:Value} {h:ae} (H:PZ prog K a0 b1 h):ak prog 72 [a0,b1] h K:=
 bN k72 (bJ rfl) ((e72 prog K a0 b1 h).mpr H)
end
noncomputable section
variable (a0 b1 : Value) (h : ae)
def alJ:=bE prog 92 [[],[]]
@[irreducible] def c92:=bM alJ
theorem k92:alJ=some (9,c92,[.cell true 2 4]):=by kernel_rfl
def Qf:Prop:=
 OH (bp 35 h a0) λa2 z1=>
 OH (bp 35 z1 b1) λb3 z2=>
 OH (aV 35 [(.bool false),(.slice none 0 0)] z2) λx4 z3=>
 OP (af true 2 z3 a2) λx5=>
 (True)/\
 OP (af true 2 z3 b3) λx6=>
 (True)/\
 ak P 95 [x6] z3 λx7 z4=>
 (af true 2 z4 a2=some x5/\True)/\
 ak P 70 [x5,x7] z4 λx8 z5=>
 (True)/\
 OH (aG 2 z5 x4 x8) λ_ z6=>
 (True)/\
 OP (af true 2 z6 x4) λr0=>
 K r0 z6
theorem e92:aj P c92 (aT [.cell true 2 4] K) (bw [a0,b1]) h=Qf P K a0 b1 h:=by kernel_rfl
theorem f92 {K:VK} {a0 b1:Value} {h:ae} (H:Qf prog K a0 b1 h):ak prog 92 [a0,b1] h K:=
 bN k92 (bJ rfl) ((e92 prog K a0 b1 h).mpr H)
end
noncomputable section
variable (z0 z1 s3 i4 : Value) (L1 : LQ) (xs : List Value) (h : ae)
def alK:=bE prog 93 [[],[],[],[],[],[],[1],[3,4],[],[],[],[],[],[3],[],[3],[],[],[3],[]]
@[irreducible] def Jn:=bM alK
@[irreducible] def ayD:=Jn.r.r.r.l.r.l.l
@[irreducible] def aft:=Jn.r.r.r.r
@[irreducible] def Rk:=aft.l
@[irreducible] def ayB:=Rk.l.l.l
@[irreducible] def afs:=Rk.r
@[irreducible] def ayC:=afs.l
theorem k93:alK=some (53,Jn,[.tmp 2]):=by kernel_rfl
def BL (_P:Program) (K:VK):ar:=aT [.tmp 2] K
def auL:ar:=aH (aj P aft (BL P K)) (BL P K)
def auM:ar:=bH 0 (auL P K)
def auN:ar:=aH (λf' aX=>(([1]:List Nat).map f':List Value)=[z1]/\L1 (([3,4]:List Nat).map f') aX) (auM P K)
def auI:ar:=aH (aj P afs (BL P K)) (BL P K)
def auJ:ar:=bH 2 (auI P K)
def auK:ar:=aH (λf' aX=>(([]:List Nat).map f':List Value)=[]/\L1 (([3]:List Nat).map f') aX) (auJ P K)
def aoC:Prop:=ax (aj P ayD (auN P K z1 L1)) ([1]++[3,4]) ([z1]++xs) h
def aoz:Prop:=ax (aj P Rk (BL P K)) [3] [s3] h
def aoA:Prop:=ax (aj P ayB (auK P K L1)) ([]++[3]) ([]++xs) h
def aoB:Prop:=ax (aj P ayC (BL P K)) [3] [s3] h
theorem aIv (z1:Value) (L1:LQ) (s3 i4:Value) (h:ae):aoC P K z1 L1 [s3,i4] h=
 (OP (ai .geq i4 (.int .i64 (0))) λaL=>
 aN aL
 (OP (aJ 1 z1) λaK=>
 OP (af false 1 h aK) λaU=>
 OP (aZ 1 aU i4) λbO=>
 OP (af false 1 h bO) λcB=>
 OP (ai .quo cB (.int .i64 (1000))) λbX=>
 OP (ai .add (.int .i64 (48)) bX) λcV=>
 OP (dG .u8 cV) λb9=>
 OP (ai .quo cB (.int .i64 (100))) λcM=>
 OP (ai .rem cM (.int .i64 (10))) λdm=>
 OP (ai .add (.int .i64 (48)) dm) λcC=>
 OP (dG .u8 cC) λbV=>
 OP (ai .quo cB (.int .i64 (10))) λcK=>
 OP (ai .rem cK (.int .i64 (10))) λdw=>
 OP (ai .add (.int .i64 (48)) dw) λdc=>
 OP (dG .u8 dc) λer=>
 OP (ai .rem cB (.int .i64 (10))) λeY=>
 OP (ai .add (.int .i64 (48)) eY) λeJ=>
 OP (dG .u8 eJ) λdW=>
 OH (dN 5 4 [(.int .u8 (0))] h [(0,1,b9),(1,1,bV),(2,1,er),(3,1,dW)]) λeO h_1=>
 OP (oQ h_1 eO) λcj=>
 OP (ai .add s3 cj) λcI=>
 OP (ai .sub i4 (.int .i64 (1))) λaS=>
 ([z1]:List Value)=[z1]/\L1 [cI,aS] h_1)
 (aoz P K s3 h)):=az (by kernel_rfl)
theorem aIt (L1:LQ) (s3:Value) (h:ae):aoA P K L1 [s3] h=
 (OP (j6 s3 (.int .i64 (0))) λfE=>
 OP (ai .eql fE (.int .u8 (48))) λfN=>
 aN fN
 (OP (kQ s3 (some (.int .i64 (1))) none) λcg=>
 ([]:List Value)=[]/\L1 [cg] h)
 (aoB P K s3 h)):=az (by kernel_rfl)
theorem aIu:aoB P K s3 h=
 (K s3 h):=az (by kernel_rfl)
theorem aIs:aoz P K s3 h=
 (cO [s3] h λL1 xs hx=>
 aoA P K L1 xs hx):=az (by kernel_rfl)
def Qg:Prop:=
 OH (bp 35 h z0) λz1 h_1=>
 OP (aJ 1 z1) λx7=>
 OP (af false 1 h_1 x7) λx8=>
 OP (bk x8) λx9=>
 OP (ai .eql x9 (.int .i64 (0))) λay=>
 aN ay
 (K (.string ⟨#[48]⟩) h_1)
 (OP (aJ 1 z1) λau=>
 OP (af false 1 h_1 au) λaD=>
 OP (bk aD) λaB=>
 OP (ai .sub aB (.int .i64 (1))) λaA=>
 cO [(.string ⟨#[]⟩),aA] h_1 λL1 xs hx=>
 aoC P K z1 L1 xs hx)
theorem e93:aj P Jn (aT [.tmp 2] K) (bw [z0]) h=Qg P K z0 h:=by kernel_rfl
theorem f93 {K:VK} {z0:Value} {h:ae} (H:Qg prog K z0 h):ak prog 93 [z0] h K:=
 bN k93 (bJ rfl) ((e93 prog K z0 h).mpr H)
end
noncomputable section
variable (a0 : Value) (h : ae)
def alL:=bE prog 94 [[],[],[]]
@[irreducible] def c94:=bM alL
theorem k94:alL=some (5,c94,[.cell true 2 2]):=by kernel_rfl
def Qh (_:Program) (K:VK) (a0:Value) (h:ae):Prop:=
 OH (bp 35 h a0) λa1 z1=>
 OH (aV 35 [(.bool false),(.slice none 0 0)] z1) λx2 z2=>
 OP (aJ 0 a1) λx3=>
 OH (aG 1 z2 x3 (.bool false)) λ_ z3=>
 OP (af true 2 z3 a1) λx4=>
 OH (aG 2 z3 x2 x4) λ_ z4=>
 OP (af true 2 z4 x2) λr0=>
 K r0 z4
theorem e94:aj P c94 (aT [.cell true 2 2] K) (bw [a0]) h=Qh P K a0 h:=by kernel_rfl
theorem f94 {K:VK} {a0:Value} {h:ae} (H:Qh prog K a0 h):ak prog 94 [a0] h K:=
 bN k94 (bJ rfl) ((e94 prog K a0 h).mpr H)
end
noncomputable section
variable (a0 a1 x2 x6 ay : Value) (h : ae)
def alM:=bE prog 95 [[],[1,2,6],[1,2,6,10],[],[]]
@[irreducible] def Jo:=bM alM
@[irreducible] def afv:=Jo.r.l.r.l
@[irreducible] def ayE:=Jo.r.r
@[irreducible] def ayF:=afv.r.l
theorem k95:alM=some (14,Jo,[.cell true 2 2]):=by kernel_rfl
def abc (_P:Program) (K:VK):ar:=aT [.cell true 2 2] K
def abd:ar:=aH (aj P ayE (abc P K)) (abc P K)
def aoD:Prop:=ax (aj P afv (abd P K)) [1,2,6] [a1,x2,x6] h
def WQ:Prop:=ax (aj P ayF (abd P K)) [1,2,6,10] [a1,x2,x6,ay] h
theorem ap1:WQ P K a1 x2 x6 ay h=
 (OP (bF x6 ay (.bool false)) λau=>
 OP (aJ 0 a1) λaD=>
 OH (aG 1 h aD au) λ_ z1=>
 OP (af true 2 z1 a1) λaB=>
 OH (aG 2 z1 x2 aB) λ_ z2=>
 OP (af true 2 z2 x2) λr0=>
 K r0 z2):=az (by kernel_rfl)
theorem ap0:aoD P K a1 x2 x6 h=
 (ck x6 true
 (OP (aJ 1 a1) λx7=>
 OP (af false 1 h x7) λx8=>
 OP (bk x8) λx9=>
 OP (ai .gtr x9 (.int .i64 (0))) λay=>
 WQ P K a1 x2 x6 ay h)
 (WQ P K a1 x2 x6 undef h)):=az (by kernel_rfl)
def Qi:Prop:=
 OH (bp 35 h a0) λa1 z1=>
 OH (aV 35 [(.bool false),(.slice none 0 0)] z1) λx2 z2=>
 OP (aJ 0 a1) λx3=>
 OP (af false 1 z2 x3) λx4=>
 OP (gq .not x4) λx5=>
 aoD P K a1 x2 x5 z2
theorem e95:aj P Jo (aT [.cell true 2 2] K) (bw [a0]) h=Qi P K a0 h:=by kernel_rfl
theorem f95 {K:VK} {a0:Value} {h:ae} (H:Qi prog K a0 h):ak prog 95 [a0] h K:=
 bN k95 (bJ rfl) ((e95 prog K a0 h).mpr H)
end
noncomputable section
variable (s0 x2 z4 x5 d6 i7 au aA aL aU cB bL cI bY : Value) (L1 L2 : LQ) (xs : List Value) (h : ae)
def alP:=bE prog 99 [[],[0,2,11],[0,2,11,14],[0,2,16],[0,2,16,20],[0,2,16,20,23],[0,2,16,24],[],[],[],[],[],[0,2,4],[5],[],[],[],[],[0,2,4,5],[6,7],[],[],[0,2,4,5,6,7,46],[0,2,4,5,6,7,46,50],[],[],[],[],[0,2,4,5,6],[0,2,4,5],[2,4],[]]
@[irreducible] def Ef:=bM alP
@[irreducible] def afE:=Ef.r.l.l.r.l
@[irreducible] def ayH:=Ef.r.l.r
@[irreducible] def Rl:=Ef.r.r
@[irreducible] def afF:=afE.r.l
@[irreducible] def Jp:=Rl.r.l.r.l.l
@[irreducible] def afA:=Rl.r.r
@[irreducible] def afG:=afF.r.l
@[irreducible] def Eg:=Jp.r.l.l.r.l.r.l.l
@[irreducible] def afC:=Jp.r.l.l.r.r
@[irreducible] def afB:=Jp.r.r
@[irreducible] def ayO:=afA.l
@[irreducible] def afy:=afG.r.l
@[irreducible] def afD:=Eg.r.l.l.l.l.r.l
@[irreducible] def ayK:=Eg.r.l.l.l.r
@[irreducible] def ayJ:=Eg.r.l.l.r
@[irreducible] def ayI:=Eg.r.r
@[irreducible] def ayM:=afC.l
@[irreducible] def ayN:=afB.l
@[irreducible] def afz:=afy.r.l
@[irreducible] def ayL:=afD.r.l
@[irreducible] def ayG:=afz.r.l
theorem k99:alP=some (69,Ef,[.cell true 2 2,.tmp 3]):=by kernel_rfl
def DO (_P:Program) (K:VK):ar:=aT [.cell true 2 2,.tmp 3] K
def abe:ar:=aH (aj P Rl (DO P K)) (DO P K)
def BM:ar:=aH (aj P ayH (abe P K)) (abe P K)
def auO:ar:=aH (aj P afA (DO P K)) (DO P K)
def auP:ar:=bH 0 (auO P K)
def HI:ar:=aH (λf' aX=>(([0,2,4]:List Nat).map f':List Value)=[s0,x2,z4]/\L1 (([5]:List Nat).map f') aX) (auP P K)
def auQ:ar:=aH (aj P afB (HI P K s0 x2 z4 L1)) (HI P K s0 x2 z4 L1)
def Oy:ar:=bH 1 (auQ P K s0 x2 z4 L1)
def auR:ar:=aH (aj P afC (Oy P K s0 x2 z4 L1)) (Oy P K s0 x2 z4 L1)
def auS:ar:=bH 2 (auR P K s0 x2 z4 L1)
def Oz:ar:=aH (λf' aX=>(([0,2,4,5]:List Nat).map f':List Value)=[s0,x2,z4,x5]/\L2 (([6,7]:List Nat).map f') aX) (auS P K s0 x2 z4 L1)
def auT:ar:=aH (aj P ayI (Oz P K s0 x2 z4 x5 L1 L2)) (Oz P K s0 x2 z4 x5 L1 L2)
def abf:ar:=bH 3 (auT P K s0 x2 z4 x5 L1 L2)
def abg:ar:=aH (aj P ayJ (abf P K s0 x2 z4 x5 L1 L2)) (abf P K s0 x2 z4 x5 L1 L2)
def abh:ar:=aH (aj P ayK (abg P K s0 x2 z4 x5 L1 L2)) (abg P K s0 x2 z4 x5 L1 L2)
def aoK:Prop:=ax (aj P afE (BM P K)) [0,2,11] [s0,x2,au] h
def WU:Prop:=ax (aj P afF (BM P K)) [0,2,11,14] [s0,x2,au,aA] h
def aoL:Prop:=ax (aj P afG (BM P K)) [0,2,16] [s0,x2,aL] h
def WR:Prop:=ax (aj P afy (BM P K)) [0,2,16,20] [s0,x2,aL,aU] h
def WS:Prop:=ax (aj P afz (BM P K)) [0,2,16,20,23] [s0,x2,aL,aU,cB] h
def Gl:Prop:=ax (aj P ayG (BM P K)) [0,2,16,24] [s0,x2,aL,bL] h
def aoE:Prop:=ax (aj P Jp (HI P K s0 x2 z4 L1)) ([0,2,4]++[5]) ([s0,x2,z4]++xs) h
def aoF:Prop:=ax (aj P Eg (Oz P K s0 x2 z4 x5 L1 L2)) ([0,2,4,5]++[6,7]) ([s0,x2,z4,x5]++xs) h
def aoG:Prop:=ax (aj P afD (abh P K s0 x2 z4 x5 L1 L2)) [0,2,4,5,6,7,46] [s0,x2,z4,x5,d6,i7,cI] h
def WT:Prop:=ax (aj P ayL (abh P K s0 x2 z4 x5 L1 L2)) [0,2,4,5,6,7,46,50] [s0,x2,z4,x5,d6,i7,cI,bY] h
def aoH:Prop:=ax (aj P ayM (Oy P K s0 x2 z4 L1)) [0,2,4,5,6] [s0,x2,z4,x5,d6] h
def aoI:Prop:=ax (aj P ayN (HI P K s0 x2 z4 L1)) [0,2,4,5] [s0,x2,z4,x5] h
def aoJ:Prop:=ax (aj P ayO (DO P K)) [2,4] [x2,z4] h
theorem Xm:Gl P K s0 x2 aL bL h=
 (OP (bF aL (.bool true) bL) λbX=>
 aN bX
 (OP (dC [(.bool false),(.slice none 0 0)] []) λcV=>
 OH (aG 2 h x2 cV) λ_ h_1=>
 OP (af true 2 h_1 x2) λr0=>
 K (.tuple #[r0,(.bool false)]) h_1)
 (OP (dC [(.bool false),(.slice none 0 0)] []) λb9=>
 OH (aV 35 [(.bool false),(.slice none 0 0)] h) λz4 h_1=>
 OH (aG 2 h_1 z4 b9) λ_ h_2=>
 OP (gK s0) λcM=>
 cO [cM] h_2 λL1 xs hx=>
 aoE P K s0 x2 z4 L1 xs hx)):=az (by kernel_rfl)
theorem Gv:WS P K s0 x2 aL aU cB h=
 (ck aL false
 (OP (bF aU cB (.bool false)) λbL=>
 Gl P K s0 x2 aL bL h)
 (Gl P K s0 x2 aL undef h)):=az (by kernel_rfl)
theorem Gu:WR P K s0 x2 aL aU h=
 (ck aU true
 (OP (gK s0) λbO=>
 OP (ai .gtr bO (.int .i64 (1))) λcB=>
 WS P K s0 x2 aL aU cB h)
 (WS P K s0 x2 aL aU undef h)):=az (by kernel_rfl)
theorem Mr:aoL P K s0 x2 aL h=
 (ck aL false
 (OP (j6 s0 (.int .i64 (0))) λaS=>
 OP (ai .eql aS (.int .u8 (48))) λaK=>
 WR P K s0 x2 aL aK h)
 (WR P K s0 x2 aL undef h)):=az (by kernel_rfl)
theorem Mq:WU P K s0 x2 au aA h=
 (OP (bF au (.bool true) aA) λaP=>
 aoL P K s0 x2 aP h):=az (by kernel_rfl)
theorem Xp:aoK P K s0 x2 au h=
 (ck au false
 (OP (gK s0) λaB=>
 OP (ai .gtr aB (.int .i64 (4000))) λaA=>
 WU P K s0 x2 au aA h)
 (WU P K s0 x2 au undef h)):=az (by kernel_rfl)
theorem Xo:WT P K s0 x2 z4 x5 d6 i7 cI bY L1 L2 h=
 (OP (bF cI (.bool true) bY) λcg=>
 aN cg
 (OP (dC [(.bool false),(.slice none 0 0)] []) λde=>
 OH (aG 2 h x2 de) λ_ h_1=>
 OP (af true 2 h_1 x2) λr0=>
 K (.tuple #[r0,(.bool false)]) h_1)
 (OP (ai .mul (.int .i64 (10)) d6) λcX=>
 OP (j6 s0 i7) λee=>
 OP (ai .sub ee (.int .u8 (48))) λfO=>
 OP (dG .i64 fO) λeP=>
 OP (ai .add cX eP) λjw=>
 OP (ai .add i7 (.int .i64 (1))) λdW=>
 ([s0,x2,z4,x5]:List Value)=[s0,x2,z4,x5]/\L2 [jw,dW] h)):=az (by kernel_rfl)
theorem Xn:aoG P K s0 x2 z4 x5 d6 i7 cI L1 L2 h=
 (ck cI false
 (OP (j6 s0 i7) λfN=>
 OP (ai .gtr fN (.int .u8 (57))) λbY=>
 WT P K s0 x2 z4 x5 d6 i7 cI bY L1 L2 h)
 (WT P K s0 x2 z4 x5 d6 i7 cI undef L1 L2 h)):=az (by kernel_rfl)
theorem aIx (s0 x2 z4 x5:Value) (L1 L2:LQ) (d6 i7:Value) (h:ae):aoF P K s0 x2 z4 x5 L1 L2 [d6,i7] h=
 (OP (ai .lss i7 x5) λeY=>
 aN eY
 (OP (j6 s0 i7) λbu=>
 OP (ai .lss bu (.int .u8 (48))) λcS=>
 aoG P K s0 x2 z4 x5 d6 i7 cS L1 L2 h)
 (aoH P K s0 x2 z4 x5 d6 L1 h)):=az (by kernel_rfl)
theorem aIy:aoH P K s0 x2 z4 x5 d6 L1 h=
 (OP (aJ 1 z4) λfI=>
 OP (af false 1 h fI) λng=>
 OH (dN 3 1 [(.int .i64 (0))] h [(0,1,d6)]) λkf h_1=>
 OH (eG 3 1 8 h_1 ng kf) λgP h_2=>
 OP (aJ 1 z4) λjd=>
 OH (aG 1 h_2 jd gP) λ_ h_3=>
 aoI P K s0 x2 z4 x5 L1 h_3):=az (by kernel_rfl)
theorem aIz:aoI P K s0 x2 z4 x5 L1 h=
 (OP (ai .sub x5 (.int .i64 (4))) λdK=>
 ([s0,x2,z4]:List Value)=[s0,x2,z4]/\L1 [dK] h):=az (by kernel_rfl)
theorem aIw (s0 x2 z4:Value) (L1:LQ) (x5:Value) (h:ae):aoE P K s0 x2 z4 L1 [x5] h=
 (OP (ai .gtr x5 (.int .i64 (0))) λcC=>
 aN cC
 (OP (ai .sub x5 (.int .i64 (4))) λdw=>
 OP (wJ true [(.int .i64 (0)),dw]) λdc=>
 cO [(.int .i64 (0)),dc] h λL2 xs hx=>
 aoF P K s0 x2 z4 x5 L1 L2 xs hx)
 (aoJ P K x2 z4 h)):=az (by kernel_rfl)
theorem aIA:aoJ P K x2 z4 h=
 (OP (af true 2 h z4) λgC=>
 ak P 100 [gC] h λfw h_1=>
 OH (aG 2 h_1 x2 fw) λ_ h_2=>
 OP (af true 2 h_2 x2) λr0=>
 K (.tuple #[r0,(.bool true)]) h_2):=az (by kernel_rfl)
def HP:Prop:=
 OH (aV 35 [(.bool false),(.slice none 0 0)] h) λx2 h_1=>
 OP (gK s0) λx9=>
 OP (ai .lss x9 (.int .i64 (1))) λay=>
 aoK P K s0 x2 ay h_1
theorem e99:aj P Ef (aT [.cell true 2 2,.tmp 3] K) (bw [s0]) h=HP P K s0 h:=by kernel_rfl
theorem f99 {K:VK} {s0:Value} {h:ae} (H:HP prog K s0 h):ak prog 99 [s0] h K:=
 bN k99 (bJ rfl) ((e99 prog K s0 h).mpr H)
end
noncomputable section
variable (z0 z1 x2 n3 x9 aL cM cC : Value) (L1 : LQ) (xs : List Value) (h : ae)
def aj5:=bE prog 100 [[],[],[1,2],[3],[1,2,3,9],[1,2,3,9,16],[],[],[1,2,3],[],[1,2,3,29],[1,2,29,31],[],[]]
@[irreducible] def Ib:=bM aj5
@[irreducible] def Ic:=Ib.r.r.l.l.l
@[irreducible] def abR:=Ib.r.r.r
@[irreducible] def abS:=Ic.l.l.r.l
@[irreducible] def avi:=Ic.l.r
@[irreducible] def avh:=Ic.r
@[irreducible] def QG:=abR.l
@[irreducible] def ave:=abS.r.l
@[irreducible] def abQ:=QG.r.l.r.l
@[irreducible] def avf:=QG.r.r
@[irreducible] def avg:=abQ.r.l
theorem aC0:aj5=some (35,Ib,[.cell true 2 2]):=by kernel_rfl
def DJ (_P:Program) (K:VK):ar:=aT [.cell true 2 2] K
def arK:ar:=aH (aj P abR (DJ P K)) (DJ P K)
def arL:ar:=bH 0 (arK P K)
def NO:ar:=aH (λf' aX=>(([1,2]:List Nat).map f':List Value)=[z1,x2]/\L1 (([3]:List Nat).map f') aX) (arL P K)
def ZK:ar:=aH (aj P avh (NO P K z1 x2 L1)) (NO P K z1 x2 L1)
def ZL:ar:=aH (aj P avi (ZK P K z1 x2 L1)) (ZK P K z1 x2 L1)
def ZJ:ar:=aH (aj P avf (DJ P K)) (DJ P K)
def al2:Prop:=ax (aj P Ic (NO P K z1 x2 L1)) ([1,2]++[3]) ([z1,x2]++xs) h
def al3:Prop:=ax (aj P abS (ZL P K z1 x2 L1)) [1,2,3,9] [z1,x2,n3,x9] h
def Vs:Prop:=ax (aj P ave (ZL P K z1 x2 L1)) [1,2,3,9,16] [z1,x2,n3,x9,aL] h
def Vt:Prop:=ax (aj P QG (DJ P K)) [1,2,3] [z1,x2,n3] h
def al1:Prop:=ax (aj P abQ (ZJ P K)) [1,2,3,29] [z1,x2,n3,cM] h
def Vu:Prop:=ax (aj P avg (ZJ P K)) [1,2,29,31] [z1,x2,cM,cC] h
theorem ao3:Vs P K z1 x2 n3 x9 aL L1 h=
 (OP (bF x9 aL (.bool false)) λbK=>
 aN bK
 (OP (ai .sub n3 (.int .i64 (1))) λaK=>
 ([z1,x2]:List Value)=[z1,x2]/\L1 [aK] h)
 (Vt P K z1 x2 n3 h)):=az (by kernel_rfl)
theorem ao6:al3 P K z1 x2 n3 x9 L1 h=
 (ck x9 true
 (OP (aJ 1 z1) λay=>
 OP (af false 1 h ay) λau=>
 OP (ai .sub n3 (.int .i64 (1))) λaB=>
 OP (aZ 1 au aB) λaA=>
 OP (af false 1 h aA) λaP=>
 OP (ai .eql aP (.int .i64 (0))) λaL=>
 Vs P K z1 x2 n3 x9 aL L1 h)
 (Vs P K z1 x2 n3 x9 undef L1 h)):=az (by kernel_rfl)
theorem aEX (z1 x2:Value) (L1:LQ) (n3:Value) (h:ae):al2 P K z1 x2 L1 [n3] h=
 (OP (ai .gtr n3 (.int .i64 (0))) λx8=>
 al3 P K z1 x2 n3 x8 L1 h):=az (by kernel_rfl)
theorem ao5:Vu P K z1 x2 cM cC h=
 (OP (bF cM cC (.bool false)) λbV=>
 OP (aJ 0 z1) λdK=>
 OH (aG 1 h dK bV) λ_ h_1=>
 OP (af true 2 h_1 z1) λcK=>
 OH (aG 2 h_1 x2 cK) λ_ h_2=>
 OP (af true 2 h_2 x2) λr0=>
 K r0 h_2):=az (by kernel_rfl)
theorem ao4:al1 P K z1 x2 n3 cM h=
 (ck cM true
 (OP (ai .gtr n3 (.int .i64 (0))) λcC=>
 Vu P K z1 x2 cM cC h)
 (Vu P K z1 x2 cM undef h)):=az (by kernel_rfl)
theorem aEW:Vt P K z1 x2 n3 h=
 (OH (dN 3 0 [(.int .i64 (0))] h []) λaU h_1=>
 OP (aJ 1 z1) λba=>
 OP (af false 1 h_1 ba) λbO=>
 OP (nX 3 1 bO none (some n3)) λbL=>
 OH (eG 3 1 8 h_1 aU bL) λbX h_2=>
 OP (aJ 1 z1) λcV=>
 OH (aG 1 h_2 cV bX) λ_ h_3=>
 OP (aJ 0 z1) λb9=>
 OP (af false 1 h_3 b9) λcG=>
 al1 P K z1 x2 n3 cG h_3):=az (by kernel_rfl)
def OF:Prop:=
 OH (bp 35 h z0) λz1 h_1=>
 OH (aV 35 [(.bool false),(.slice none 0 0)] h_1) λx2 h_2=>
 OP (aJ 1 z1) λx4=>
 OP (af false 1 h_2 x4) λx5=>
 OP (bk x5) λx6=>
 cO [x6] h_2 λL1 xs hx=>
 al2 P K z1 x2 L1 xs hx
theorem azo:aj P Ib (aT [.cell true 2 2] K) (bw [z0]) h=OF P K z0 h:=by kernel_rfl
theorem f100 {K:VK} {z0:Value} {h:ae} (H:OF prog K z0 h):ak prog 100 [z0] h K:=
 bN aC0 (bJ rfl) ((azo prog K z0 h).mpr H)
end
noncomputable section
variable (a0 b1 i5 : Value) (L1 : LQ) (xs : List Value) (h : ae)
def aj6:=bE prog 101 [[],[],[],[],[],[],[],[],[0,1],[5],[],[],[],[],[],[],[],[],[],[]]
@[irreducible] def Ie:=bM aj6
@[irreducible] def avj:=Ie.r.r.l.r.l.l
@[irreducible] def avk:=Ie.r.r.r
theorem aC1:aj6=some (41,Ie,[.tmp 4]):=by kernel_rfl
def ZM (_P:Program) (K:VK):ar:=aT [.tmp 4] K
def arO:ar:=aH (aj P avk (ZM P K)) (ZM P K)
def arM:ar:=bH 0 (arO P K)
def arN:ar:=aH (λf' aX=>(([0,1]:List Nat).map f':List Value)=[a0,b1]/\L1 (([5]:List Nat).map f') aX) (arM P K)
def al4:Prop:=ax (aj P avj (arN P K a0 b1 L1)) ([0,1]++[5]) ([a0,b1]++xs) h
theorem aEY (a0 b1:Value) (L1:LQ) (i5:Value) (h:ae):al4 P K a0 b1 L1 [i5] h=
 (OP (ai .geq i5 (.int .i64 (0))) λaU=>
 aN aU
 (OP (aZ 1 a0 i5) λbX=>
 OP (af false 1 h bX) λcV=>
 (True)/\
 OP (aZ 1 b1 i5) λcM=>
 OP (af false 1 h cM) λdm=>
 (True)/\
 OP (ai .lss cV dm) λcC=>
 aN cC
 (K (.int .i64 (-1)) h)
 (OP (aZ 1 a0 i5) λcK=>
 OP (af false 1 h cK) λdw=>
 (True)/\
 OP (aZ 1 b1 i5) λdO=>
 OP (af false 1 h dO) λeY=>
 (True)/\
 OP (ai .gtr dw eY) λeJ=>
 aN eJ
 (K (.int .i64 (1)) h)
 (OP (ai .sub i5 (.int .i64 (1))) λbO=>
 ([a0,b1]:List Value)=[a0,b1]/\L1 [bO] h)))
 (K (.int .i64 (0)) h)):=az (by kernel_rfl)
def OG:Prop:=
 OP (bk a0) λx7=>
 OP (bk b1) λx9=>
 OP (ai .neq x7 x9) λay=>
 aN ay
 (OP (bk a0) λaD=>
 OP (bk b1) λaA=>
 OP (ai .lss aD aA) λaP=>
 aN aP
 (K (.int .i64 (-1)) h)
 (K (.int .i64 (1)) h))
 (OP (bk a0) λbK=>
 OP (ai .sub bK (.int .i64 (1))) λaS=>
 cO [aS] h λL1 xs hx=>
 al4 P K a0 b1 L1 xs hx)
theorem azp:aj P Ie (aT [.tmp 4] K) (bw [a0,b1]) h=OG P K a0 b1 h:=by kernel_rfl
theorem f101 {K:VK} {a0 b1:Value} {h:ae} (H:OG prog K a0 b1 h):ak prog 101 [a0,b1] h K:=
 bN aC1 (bJ rfl) ((azp prog K a0 b1 h).mpr H)
end
noncomputable section
variable (a0 d1 : Value) (h : ae)
def aj7:=bE prog 102 [[],[]]
@[irreducible] def abT:=bM aj7
theorem aC2:aj7=some (12,abT,[.tmp 4]):=by kernel_rfl
def OI:Prop:=
 OP (dC [(.bool false),(.slice none 0 0)] [(1,1,a0)]) λx6=>
 ak P 55 [d1] h λx8 z1=>
 ak P 71 [x6,x8] z1 λx9 z2=>
 ak P 100 [x9] z2 λay z3=>
 OP (AP false 1 1 ay) λau=>
 K au z3
theorem azq:aj P abT (aT [.tmp 4] K) (bw [a0,d1]) h=OI P K a0 d1 h:=by kernel_rfl
theorem f102 {K:VK} {a0 d1:Value} {h:ae} (H:OI prog K a0 d1 h):ak prog 102 [a0,d1] h K:=
 bN aC2 (bJ rfl) ((azq prog K a0 d1 h).mpr H)
end
noncomputable section
variable (a0 b1 x5 x6 i7 s8 : Value) (L1 : LQ) (xs : List Value) (h : ae)
def aj8:=bE prog 103 [[],[],[],[0,1],[5,6,7],[],[],[],[],[0,1,5,7,8],[],[],[0,1,5,6,7,8],[0,1,5,6,7],[5],[]]
@[irreducible] def Ig:=bM aj8
@[irreducible] def QH:=Ig.r.r.l.r.l.l
@[irreducible] def abV:=Ig.r.r.r
@[irreducible] def abU:=QH.r.l.l.r.r.l
@[irreducible] def abW:=QH.r.r
@[irreducible] def avn:=abV.l
@[irreducible] def avl:=abU.r.r.l
@[irreducible] def avm:=abW.l
theorem aC3:aj8=some (41,Ig,[.tmp 4]):=by kernel_rfl
def NP (_P:Program) (K:VK):ar:=aT [.tmp 4] K
def arP:ar:=aH (aj P abV (NP P K)) (NP P K)
def arQ:ar:=bH 0 (arP P K)
def Hf:ar:=aH (λf' aX=>(([0,1]:List Nat).map f':List Value)=[a0,b1]/\L1 (([5,6,7]:List Nat).map f') aX) (arQ P K)
def arR:ar:=aH (aj P abW (Hf P K a0 b1 L1)) (Hf P K a0 b1 L1)
def ZN:ar:=bH 1 (arR P K a0 b1 L1)
def al7:Prop:=ax (aj P QH (Hf P K a0 b1 L1)) ([0,1]++[5,6,7]) ([a0,b1]++xs) h
def Ly:Prop:=ax (aj P abU (ZN P K a0 b1 L1)) [0,1,5,7,8] [a0,b1,x5,i7,s8] h
def Lz:Prop:=ax (aj P avl (ZN P K a0 b1 L1)) [0,1,5,6,7,8] [a0,b1,x5,x6,i7,s8] h
def al5:Prop:=ax (aj P avm (Hf P K a0 b1 L1)) [0,1,5,6,7] [a0,b1,x5,x6,i7] h
def al6:Prop:=ax (aj P avn (NP P K)) [5] [x5] h
theorem aE0:Lz P K a0 b1 x5 x6 i7 s8 L1 h=
 (OH (dN 3 1 [(.int .i64 (0))] h [(0,1,s8)]) λdO z1=>
 OH (eG 3 1 8 z1 x5 dO) λeY z2=>
 al5 P K a0 b1 eY x6 i7 L1 z2):=az (by kernel_rfl)
theorem aEZ:Ly P K a0 b1 x5 i7 s8 L1 h=
 (OP (ai .lss s8 (.int .i64 (0))) λdK=>
 aN dK
 (OP (ai .add s8 (.int .i64 (10000))) λdw=>
 Lz P K a0 b1 x5 (.int .i64 (1)) i7 dw L1 h)
 (Lz P K a0 b1 x5 (.int .i64 (0)) i7 s8 L1 h)):=az (by kernel_rfl)
theorem aE1:al5 P K a0 b1 x5 x6 i7 L1 h=
 (OP (ai .add i7 (.int .i64 (1))) λaP=>
 ([a0,b1]:List Value)=[a0,b1]/\L1 [x5,x6,aP] h):=az (by kernel_rfl)
theorem aE3 (a0 b1:Value) (L1:LQ) (x5 x6 i7:Value) (h:ae):al7 P K a0 b1 L1 [x5,x6,i7] h=
 (OP (bk a0) λaD=>
 OP (ai .lss i7 aD) λaB=>
 aN aB
 (OP (aZ 1 a0 i7) λaS=>
 OP (af false 1 h aS) λaK=>
 OP (ai .sub aK x6) λba=>
 OP (bk b1) λbL=>
 OP (ai .lss i7 bL) λbX=>
 aN bX
 (OP (aZ 1 b1 i7) λcM=>
 OP (af false 1 h cM) λdm=>
 OP (ai .sub ba dm) λcC=>
 Ly P K a0 b1 x5 i7 cC L1 h)
 (Ly P K a0 b1 x5 i7 ba L1 h))
 (al6 P K x5 h)):=az (by kernel_rfl)
theorem aE2:al6 P K x5 h=
 (K x5 h):=az (by kernel_rfl)
def OJ:Prop:=
 OH (dN 3 0 [(.int .i64 (0))] h []) λx9 z1=>
 cO [x9,(.int .i64 (0)),(.int .i64 (0))] z1 λL1 xs hx=>
 al7 P K a0 b1 L1 xs hx
theorem azr:aj P Ig (aT [.tmp 4] K) (bw [a0,b1]) h=OJ P K a0 b1 h:=by kernel_rfl
theorem f103 {K:VK} {a0 b1:Value} {h:ae} (H:OJ prog K a0 b1 h):ak prog 103 [a0,b1] h K:=
 bN aC3 (bJ rfl) ((azr prog K a0 b1 h).mpr H)
end
noncomputable section
variable (a0 b1 x5 x6 i7 s8 aA aS aU bO : Value) (L1 : LQ) (xs : List Value) (h : ae)
def aj9:=bE prog 104 [[],[],[],[0,1],[5,6,7],[0,1,5,6,7,14],[0,1,5,6,7,14,18],[0,1,5,6,7,20],[0,1,5,6,7,20,22],[],[],[],[],[0,1,5,7,8],[],[0,1,5,7,8],[0,1,5,6,7],[5],[]]
@[irreducible] def Ih:=bM aj9
@[irreducible] def Ii:=Ih.r.r.l.r.l.l
@[irreducible] def ab2:=Ih.r.r.r
@[irreducible] def abX:=Ii.l.l.r.l
@[irreducible] def avs:=Ii.l.r
@[irreducible] def QI:=Ii.r
@[irreducible] def avr:=ab2.l
@[irreducible] def abY:=abX.r.l
@[irreducible] def ab1:=QI.l.l.r.r.l
@[irreducible] def ab0:=QI.r
@[irreducible] def abZ:=abY.r.l
@[irreducible] def avp:=ab1.r.l
@[irreducible] def avq:=ab0.l
@[irreducible] def avo:=abZ.r.l
theorem aC4:aj9=some (55,Ih,[.tmp 4]):=by kernel_rfl
def NQ (_P:Program) (K:VK):ar:=aT [.tmp 4] K
def arT:ar:=aH (aj P ab2 (NQ P K)) (NQ P K)
def arU:ar:=bH 0 (arT P K)
def BD:ar:=aH (λf' aX=>(([0,1]:List Nat).map f':List Value)=[a0,b1]/\L1 (([5,6,7]:List Nat).map f') aX) (arU P K)
def ZP:ar:=aH (aj P QI (BD P K a0 b1 L1)) (BD P K a0 b1 L1)
def Hg:ar:=aH (aj P avs (ZP P K a0 b1 L1)) (ZP P K a0 b1 L1)
def arS:ar:=aH (aj P ab0 (BD P K a0 b1 L1)) (BD P K a0 b1 L1)
def ZO:ar:=bH 1 (arS P K a0 b1 L1)
def amb:Prop:=ax (aj P Ii (BD P K a0 b1 L1)) ([0,1]++[5,6,7]) ([a0,b1]++xs) h
def al8:Prop:=ax (aj P abX (Hg P K a0 b1 L1)) [0,1,5,6,7,14] [a0,b1,x5,x6,i7,aA] h
def Vv:Prop:=ax (aj P abY (Hg P K a0 b1 L1)) [0,1,5,6,7,14,18] [a0,b1,x5,x6,i7,aA,aS] h
def al9:Prop:=ax (aj P abZ (Hg P K a0 b1 L1)) [0,1,5,6,7,20] [a0,b1,x5,x6,i7,aU] h
def Vw:Prop:=ax (aj P avo (Hg P K a0 b1 L1)) [0,1,5,6,7,20,22] [a0,b1,x5,x6,i7,aU,bO] h
def CZ:Prop:=ax (aj P ab1 (ZO P K a0 b1 L1)) [0,1,5,7,8] [a0,b1,x5,i7,s8] h
def LA:Prop:=ax (aj P avp (ZO P K a0 b1 L1)) [0,1,5,7,8] [a0,b1,x5,i7,s8] h
def ama:Prop:=ax (aj P avq (BD P K a0 b1 L1)) [0,1,5,6,7] [a0,b1,x5,x6,i7] h
def Vx:Prop:=ax (aj P avr (NQ P K)) [5] [x5] h
theorem Mk:Vw P K a0 b1 x5 x6 i7 aU bO L1 h=
 (OP (bF aU (.bool true) bO) λcB=>
 aN cB
 (OP (bk a0) λcM=>
 OP (ai .lss i7 cM) λdm=>
 aN dm
 (OP (aZ 1 a0 i7) λcK=>
 OP (af false 1 h cK) λdw=>
 OP (ai .add x6 dw) λdc=>
 CZ P K a0 b1 x5 i7 dc L1 h)
 (CZ P K a0 b1 x5 i7 x6 L1 h))
 (Vx P K x5 h)):=az (by kernel_rfl)
theorem W7:al9 P K a0 b1 x5 x6 i7 aU L1 h=
 (ck aU false
 (OP (ai .gtr x6 (.int .i64 (0))) λbO=>
 Vw P K a0 b1 x5 x6 i7 aU bO L1 h)
 (Vw P K a0 b1 x5 x6 i7 aU undef L1 h)):=az (by kernel_rfl)
theorem W6:Vv P K a0 b1 x5 x6 i7 aA aS L1 h=
 (OP (bF aA (.bool true) aS) λaK=>
 al9 P K a0 b1 x5 x6 i7 aK L1 h):=az (by kernel_rfl)
theorem ao7:al8 P K a0 b1 x5 x6 i7 aA L1 h=
 (ck aA false
 (OP (bk b1) λbK=>
 OP (ai .lss i7 bK) λaS=>
 Vv P K a0 b1 x5 x6 i7 aA aS L1 h)
 (Vv P K a0 b1 x5 x6 i7 aA undef L1 h)):=az (by kernel_rfl)
theorem aE5:LA P K a0 b1 x5 i7 s8 L1 h=
 (OP (ai .rem s8 (.int .i64 (10000))) λfN=>
 OH (dN 3 1 [(.int .i64 (0))] h [(0,1,fN)]) λbY z1=>
 OH (eG 3 1 8 z1 x5 bY) λcg z2=>
 OP (ai .quo s8 (.int .i64 (10000))) λiS=>
 ama P K a0 b1 cg iS i7 L1 z2):=az (by kernel_rfl)
theorem aE4:CZ P K a0 b1 x5 i7 s8 L1 h=
 (OP (bk b1) λeY=>
 OP (ai .lss i7 eY) λeJ=>
 aN eJ
 (OP (aZ 1 b1 i7) λbu=>
 OP (af false 1 h bu) λcS=>
 OP (ai .add s8 cS) λcI=>
 LA P K a0 b1 x5 i7 cI L1 h)
 (LA P K a0 b1 x5 i7 s8 L1 h)):=az (by kernel_rfl)
theorem aE6:ama P K a0 b1 x5 x6 i7 L1 h=
 (OP (ai .add i7 (.int .i64 (1))) λbX=>
 ([a0,b1]:List Value)=[a0,b1]/\L1 [x5,x6,bX] h):=az (by kernel_rfl)
theorem aE8 (a0 b1:Value) (L1:LQ) (x5 x6 i7:Value) (h:ae):amb P K a0 b1 L1 [x5,x6,i7] h=
 (OP (bk a0) λaD=>
 OP (ai .lss i7 aD) λaB=>
 al8 P K a0 b1 x5 x6 i7 aB L1 h):=az (by kernel_rfl)
theorem aE7:Vx P K x5 h=
 (K x5 h):=az (by kernel_rfl)
def OK:Prop:=
 OH (dN 3 0 [(.int .i64 (0))] h []) λx9 z1=>
 cO [x9,(.int .i64 (0)),(.int .i64 (0))] z1 λL1 xs hx=>
 amb P K a0 b1 L1 xs hx
theorem azs:aj P Ih (aT [.tmp 4] K) (bw [a0,b1]) h=OK P K a0 b1 h:=by kernel_rfl
theorem f104 {K:VK} {a0 b1:Value} {h:ae} (H:OK prog K a0 b1 h):ak prog 104 [a0,b1] h K:=
 bN aC4 (bJ rfl) ((azs prog K a0 b1 h).mpr H)
end
end
section
theorem ava:bG<=10000^250:=by decide+kernel
theorem rJ {xs:List Nat} (h:dJ 10000 xs) (hv:val 10000 xs<bG):xs.length<=250:=h.len (by decide) (Nat.lt_of_lt_of_le hv ava)
def pn (b:Nat) (hx:ae) (v:Value) (os:List Nat):Prop:=kK b hx 3 v (os.map λd:Nat=>I d)
theorem pn.ds {b:Nat} {hx:ae} {v:Value} {os:List Nat} (o:pn b hx v os):DS 3 .i64 hx v os:=by
 rcases o with ⟨h1,h2⟩ | ⟨i,_,h2,h3⟩
 ·exact .inl ⟨h1,by simpa using h2⟩
 ·refine .inr ⟨i,by rw [h2,List.length_map],.inr ⟨[],?_⟩⟩
  simp [aW,h3]
theorem DS.cells {e:TypeId} {k:IntKind} {h:ae} {v:Value} {xs:List Nat} (p:DS e k h v xs):kF h 1 v=some (xs.map λd:Nat=>Value.int k (d:Int))/\qm v=some xs.length:=by
 rcases p with ⟨rfl,rfl⟩ | ⟨i,rfl,hc⟩
 ·exact ⟨rfl,rfl⟩
 ·refine ⟨?_,rfl⟩
  unfold kF sl
  simp only
  by_cases hz:xs.length=0
  ·rw [if_pos hz]
   have:xs=[]:=List.length_eq_zero_iff.1 hz
   subst this
   rfl
  ·obtain ⟨r,hc⟩:=hc.resolve_left (by rintro rfl;simp at hz)
   rw [if_neg hz,hc]
   simp only [Option.bind_some]
   rw [if_pos (by simp)]
   have:((xs.map (λd:Nat=>Value.int k (d:Int))++r).drop 0).take (xs.length*1)=xs.map λd:Nat=>Value.int k (d:Int):=by
    rw [drop_zero,Nat.mul_one,List.take_append_of_le_length (by simp),take_of_length_le (by simp)]
   rw [this]
def gf (h:ae) (v:Value) (n:Nat):Prop:=∃xs,DS 3 .i64 h v xs/\dJ 10000 xs/\val 10000 xs=n
theorem gf.mono {h h':ae} {v:Value} {n:Nat} (x:EX h h') (p:gf h v n):gf h' v n:=let ⟨xs,a,b,c⟩:=p;⟨xs,a.mono x,b,c⟩
theorem DS.bT {e e':TypeId} {k:IntKind} {h:ae} {v:Value} {xs:List Nat} {j:Nat} {b:Bool} {r:List Value} (d:DS e k h v xs) (hj:h[j]?=some (.arr e' (.bool b::r))) (o:aq):DS e k (h.set j o) v xs:=by
 rcases d with d | ⟨i,h1,h2⟩
 ·exact .inl d
 ·refine .inr ⟨i,h1,?_⟩
  rcases h2 with h2 | ⟨rest,h2⟩
  ·exact .inl h2
  ·cases xs with
   | nil=>exact .inl rfl
   | cons x xs=>
    right
    refine ⟨rest,?_⟩
    have bt:j≠i:=by
     rintro rfl
     unfold aW at h2
     rw [hj] at h2
     simp at h2
    unfold aW at h2⊢
    rw [getElem?_set_ne bt]
    exact h2
theorem gf.bT {h:ae} {v:Value} {n j:Nat} {e:TypeId} {b:Bool} {r:List Value} (p:gf h v n) (hj:h[j]?=some (.arr e (.bool b::r))) (o:aq):gf (h.set j o) v n:=
 let ⟨xs,d,c,hv⟩:=p;⟨xs,d.bT hj o,c,hv⟩
def ZV (h:ae) (val:Value) (z:Int):Prop:=∃v,val=.agg #[B (decide (z<0)),v]/\gf h v z.natAbs
theorem ZV.mono {h h':ae} {v:Value} {z:Int} (x:EX h h') (p:ZV h v z):ZV h' v z:=let ⟨w,a,b⟩:=p;⟨w,a,b.mono x⟩
theorem ZV.bT {h:ae} {v:Value} {z:Int} {j:Nat} {e:TypeId} {b:Bool} {r:List Value} (p:ZV h v z) (hj:h[j]?=some (.arr e (.bool b::r))) (o:aq):ZV (h.set j o) v z:=
 let ⟨w,a,q⟩:=p;⟨w,a,q.bT hj o⟩
theorem Qu {h0 hx:ae} {v:Value} {os:List Nat} {d:Nat} {K:Value->ae->Prop} (o:pn h0.length hx v os) (hex:EX h0 hx) (hl:os.length<=10000)
  (hk:∀v' cE,EX h0 cE->pn h0.length cE v' (os++[d])->K v' cE):OH (dN 3 1 [.int .i64 0] hx [(0,1,I d)]) λa h2=>OH (eG 3 1 8 h2 v a) K:=by
 refine aby o hex (by simp;omega) (by simp [maxLen];omega) rfl rfl ?_
 intro v' cE h1 h2
 exact hk v' cE h1 (by unfold pn;simpa using h2)
theorem YS {s:Bool} {v:Value} {xs:List Nat} {h:ae} {K:Value->ae->Prop} (hd:DS 3 .i64 h v xs) (hl:cN 10000 xs) (hs:xs.length<=1000)
  (hk:∀r h',EX h h'->ZV h' r (if s then -(val 10000 xs:Int) else val 10000 xs)->(∃b i n,r=.agg #[B b,sl 3 i 0 n]/\h.length<=i)->K r h'):ak prog 100 [.agg #[B s,v]] h K:=by
 refine f100 ?_
 have e1:bp 35 h (.agg #[B s,v])=some (pt h.length 0,h++[.arr 35 [B s,v]]):=rfl
 have e2:∀g:ae,aV 35 [(.bool false),(.slice none 0 0)] g=some (pt g.length 0,g++[.arr 35 [(.bool false),(.slice none 0 0)]]):=λ_=>rfl
 simp only [OF,e1,aE,e2,length_append,length_cons,length_nil]
 have g0:(h++[aq.arr 35 [B s,v]]++[aq.arr 35 [(.bool false),(.slice none 0 0)]])[h.length]?=some (.arr 35 [B s,v]):=by simp
 have g1:(h++[aq.arr 35 [B s,v]]++[aq.arr 35 [(.bool false),(.slice none 0 0)]])[h.length+1]?=some (.arr 35 [(.bool false),(.slice none 0 0)]):=by simp
 have x1:EX h (h++[aq.arr 35 [B s,v]]++[aq.arr 35 [(.bool false),(.slice none 0 0)]]):=(EX.append _ _).push _
 have hlen:(h++[aq.arr 35 [B s,v]]++[aq.arr 35 [(.bool false),(.slice none 0 0)]]).length=h.length+2:=by simp
 generalize h++[aq.arr 35 [B s,v]]++[aq.arr 35 [(.bool false),(.slice none 0 0)]]=h1 at g0 g1 x1 hlen⊢
 have qj:af false 1 h1 (pt h.length 1)=some v:=by simp [af,aW,g0,cP]
 have ki:=hd.mono x1
 simp only [bZ,zero_add,ah,qj,ki.len]
 refine dF (σ:=Nat) (λn=>[I n]) (λ_=>h1) (λn=>n<=xs.length/\val 10000 (xs.take n)=val 10000 xs) (λn=>n) xs.length rfl rfl ⟨le_refl _,by rw [take_length]⟩ ?_
 rintro n ⟨hn,cf⟩ L hL
 rw [aEX]
 -- gB end
 have fin:dJ 10000 (xs.take n)->Vt prog K (pt h.length 0) (pt (h.length+1) 0) (I n) h1:=by
  intro hc
  rw [aEW]
  have mk:dN 3 0 [.int .i64 0] h1 []=some (sl 3 h1.length 0 0,h1++[.arr 3 []]):=rfl
  have x2:EX h1 (h1++[.arr 3 []]):=EX.append _ _
  obtain ⟨v',p1,p2⟩:=(ki.mono x2).pop hn
  obtain ⟨c1,c2⟩:=p2.cells
  have mX:(xs.take n).length=n:=by rw [length_take];omega
  simp only [mk,aE,bZ,zero_add,ah,EX.load x2 qj,p1]
  -- copied
  have app:∃w h3,eG 3 1 8 (h1++[.arr 3 []]) (sl 3 h1.length 0 0) v'=some (w,h3)/\EX h1 h3/\DS 3 .i64 h3 w (xs.take n)/\∃i n,w=sl 3 i 0 n/\h.length<=i:=by
   by_cases oK:n=0
   ·subst oK
    refine ⟨sl 3 h1.length 0 0,h1++[.arr 3 []],?_,x2,.inr ⟨h1.length,by simp,.inl (by simp)⟩,h1.length,0,rfl,by omega⟩
    simp [eG,c1,c2,sl]
   ·refine ⟨sl 3 (h1.length+1) 0 n,(h1++[aq.arr 3 []]).set h1.length .dead++[.arr 3 ((xs.take n).map λd:Nat=>I d)],?_,(x2.set (le_refl _) _).push _,.inr ⟨h1.length+1,by rw [mX],.inr ⟨[],?_⟩⟩,h1.length+1,n,rfl,by omega⟩
    ·have hg:(h1++[aq.arr 3 []])[h1.length]?=some (.arr 3 []):=br
     simp only [eG,c1,c2,mX]
     simp only [sl,hg]
     rw [if_pos ⟨trivial,trivial,by simp,by omega,by unfold maxLen;omega⟩,if_neg oK]
     simp
    ·unfold aW
     rw [List.getElem?_append_right (by simp)]
     simp
  obtain ⟨w,h3,a1,a2,a3,wi,wn,hwi,hwl⟩:=app
  simp only [a1,aE]
  have Su:=a2.get g0
  have Ab:=a2.get g1
  rw [qx Su (by simp) a3.one.1 a3.one.2]
  simp only [aE,List.set_cons_succ,List.set_cons_zero]
  have k0:(h3.set h.length (.arr 35 [B s,w]))[h.length]?=some (.arr 35 [B s,w]):=cJ Su
  have k1:(h3.set h.length (.arr 35 [B s,w]))[h.length+1]?=some (.arr 35 [(.bool false),(.slice none 0 0)]):=by rw [getElem?_set_ne (by omega)];exact Ab
  have d1:=a3.bT Su (.arr 35 [B s,w])
  have x3:EX h (h3.set h.length (.arr 35 [B s,w])):=(x1.trans a2).set (le_refl _) _
  generalize h3.set h.length (.arr 35 [B s,w])=h4 at k0 k1 d1 x3⊢
  have oS:af false 1 h4 (pt h.length 0)=some (B s):=by simp [af,aW,k0,cP]
  simp only [oS,ah]
  have last:∀c:Bool,c=(s&&decide (0<n))->OH (aG 1 h4 (pt h.length 0) (B c)) λ_ h_1=>OP (af true 2 h_1 (pt h.length 0)) λcK=>OH (aG 2 h_1 (pt (h.length+1) 0) cK) λ_ h_2=>OP (af true 2 h_2 (pt (h.length+1) 0)) λr0=>K r0 h_2:=by
   rintro c rfl
   rw [qx k0 (by simp) rfl rfl]
   simp only [aE,List.set_cons_zero]
   rw [cZ (cJ k0)]
   simp only [ah]
   have m1:(h4.set h.length (.arr 35 [B (s&&decide (0<n)),w]))[h.length+1]?=some (.arr 35 [(.bool false),(.slice none 0 0)]):=by rw [getElem?_set_ne (by omega)];exact k1
   rw [fM m1]
   simp only [aE]
   rw [cZ (cJ m1)]
   simp only [ah]
   refine hk _ _ ((x3.set (le_refl _) _).set (by omega) _) ⟨w,?_,(xs.take n),(d1.bT k0 _).bT m1 _,hc,?_⟩ ⟨_,wi,wn,by rw [hwi],hwl⟩
   ·have h0n:(0<n↔0<val 10000 xs):=by
     rw [<-cf]
     constructor
     ·intro h0
      have:=dJ.low (by decide) hc (by intro h;rw [h] at mX;simp at mX;omega)
      have:0<10000^((xs.take n).length-1):=pow_pos (by decide)
      omega
     ·intro h0
      by_cases oK:n=0
      ·subst oK;simp [val] at h0
      ·omega
    have:(s&&decide (0<n))=decide ((if s=true then -(val 10000 xs:Int) else (val 10000 xs:Int))<0):=by
     cases s with
     | true=>
      by_cases h0:0<n
      ·have:=h0n.1 h0
       rw [bj h0,bj (by simp;omega)];rfl
      ·have:¬0<val 10000 xs:=λh=>h0 (h0n.2 h)
       rw [aY h0,aY (by simp;omega)];rfl
     | false=>simp
    rw [this]
   ·rw [cf];cases s <;> simp
  cases s with
  | true=>
   simp only [ao4,fP,fQ,ah,ao5,dY,bZ,add_zero]
   refine last _ ?_
   rw [Bool.true_and]
   by_cases h0:0<n
   ·simp [h0]
   ·simp [h0]
  | false=>
   simp only [ao4,jV,ao5,dQ,ah,bZ,add_zero]
   exact last _ rfl
 simp only [fQ,ah]
 by_cases oK:n=0
 ·subst oK
  rw [aY (show ¬(0:Int)<((0:Nat):Int) by omega)]
  simp only [ao6,jV,ao3,dQ,ah,dD]
  exact fin (by simpa using dJ.nil 10000)
 ·rw [bj (show (0:Int)<(n:Int) by omega)]
  have e3:IntKind.wrap .i64 ((n:Int)-1)=((n-1:Nat):Int):=by rw [wrap64 (by omega) (by omega)];omega
  obtain ⟨i,p1,p2⟩:=ki.get (j:=n-1) (by omega)
  simp only [ao6,fP,bZ,zero_add,ah,qj,gE,e3,p1,p2,hY,ao3,dY,bQ]
  refine ⟨λhz=>?_,λhz=>?_⟩
  ·simp only [true_and]
   refine hL (n-1) ⟨by omega,?_⟩ (by omega)
   have:=jK 10000 xs (i:=n-1) (by omega)
   rw [show n-1+1=n by omega] at this
   have sg:xs[n-1]'(by omega)=0:=by omega
   rw [sg,mul_zero] at this
   omega
  ·refine fin (Jr (hl.mono λy hy=>List.mem_of_mem_take hy) ?_)
   intro h1 h2
   rw [List.getElem_take] at h2
   simp only [length_take] at h2
   apply hz
   have hm:min n xs.length-1=n-1:=by omega
   simp only [hm] at h2
   omega
theorem ze {s:Bool} {v:Value} {xs:List Nat} {h:ae} {K:Value->ae->Prop} (hd:DS 3 .i64 h v xs) (hl:cN 10000 xs) (hs:xs.length<=1000)
  (hk:∀r h',EX h h'->ZV h' r (if s then -(val 10000 xs:Int) else val 10000 xs)->K r h'):ak prog 100 [.agg #[B s,v]] h K:=
 YS hd hl hs λr h' x z _=>hk r h' x z
end
section
theorem C8 {a b:Nat} (hb:b≠0) (ha:a<9223372036854775808):ai .quo (.int .i64 (a:Int)) (.int .i64 (b:Int))=some (I ((a / b:Nat):Int)):=by
 have h:¬((b:Int)=0):=by omega
 have h2:a / b<=a:=Nat.div_le_self _ _
 simp only [ai,iX,if_true,if_neg h]
 have e:(a:Int).tdiv (b:Int)=((a / b:Nat):Int):=rfl
 rw [e]
 generalize a / b=q at*
 rw [wrap64 (by omega) (by omega)]
theorem UX (h:ae):dN 3 0 [.int .i64 0] h []=some (sl 3 h.length 0 0,h++[.arr 3 []]):=rfl
theorem alZ (h:ae):pn h.length (h++[.arr 3 []]) (sl 3 h.length 0 0) []:=.inr ⟨h.length,le_refl _,rfl,by simp⟩
theorem aq4 {va vb:Value} {xs ys:List Nat} {h:ae} {K:Value->ae->Prop} (hx:DS 3 .i64 h va xs) (hy:DS 3 .i64 h vb ys) (lx:cN 10000 xs) (ly:cN 10000 ys) (sx:xs.length<=400) (sy:ys.length<=400)
  (hk:∀v h' os,EX h h'->DS 3 .i64 h' v os->cN 10000 os->os.length<=500->val 10000 os=val 10000 xs+val 10000 ys->K v h'):ak prog 104 [va,vb] h K:=by
 refine f104 ?_
 simp only [OK,UX,aE]
 refine dF (σ:=Value×Nat×List Nat×ae) (λp=>[p.1,I p.2.1,I p.2.2.1.length]) (λp=>p.2.2.2)
  (λp=>EX h p.2.2.2/\pn h.length p.2.2.2 p.1 p.2.2.1/\p.2.1<=1/\cN 10000 p.2.2.1/\p.2.2.1.length<=max xs.length ys.length+1/\(p.2.2.1.length=max xs.length ys.length+1->p.2.1=0)/\val 10000 p.2.2.1+10000^p.2.2.1.length*p.2.1=val 10000 (xs.take p.2.2.1.length)+val 10000 (ys.take p.2.2.1.length)) (λp=>max xs.length ys.length+1-p.2.2.1.length)
  (sl 3 h.length 0 0,0,[],h++[.arr 3 []]) rfl rfl ⟨EX.append _ _,alZ h,by simp,λx hx=>by simp at hx,by simp,by simp,by simp [val]⟩ ?_
 rintro ⟨v,c,os,cE⟩ ⟨hex,jD,hc,fH,hlen,Kl,cf⟩ L hL
 simp only at hex jD hc fH hlen Kl cf hL⊢
 rw [aE8]
 have dx:=hx.mono hex
 have dy:=hy.mono hex
 -- one JF
 have Ep:∀(x y:Nat),x<10000->y<10000->(os.length<max xs.length ys.length∨0<c)->val 10000 (xs.take (os.length+1))=val 10000 (xs.take os.length)+10000^os.length*x->val 10000 (ys.take (os.length+1))=val 10000 (ys.take os.length)+10000^os.length*y->
   (x=0/\y=0∨os.length<max xs.length ys.length)->LA prog K va vb v (I os.length) (I ((c+x+y:Nat):Int)) L cE:=by
  intro x y iP kP rW e1 e2 Ks
  rw [aE5]
  rw [show (.int .i64 10000:Value)=.int .i64 ((10000:Nat):Int) from rfl,Bl _ _ _ (by decide)]
  simp only [ah]
  refine Qu jD hex (by omega) ?_
  intro v' h2 x2 o2
  rw [C8 (by decide) (by omega)]
  simp only [ah,aE6,cL,ft os.length (by omega),true_and]
  have aLm:os.length<max xs.length ys.length+1:=by
   rcases rW with h | h
   ·omega
   ·apply byContradiction
    intro SV
    have:=Kl (by omega)
    omega
  have hm:(c+x+y)%10000<10000:=mod_lt _ (by decide)
  have mG:=Nat.mod_add_div (c+x+y) 10000
  have el:(os++[(c+x+y)%10000]).length=os.length+1:=by simp
  have:=hL (v',(c+x+y) / 10000,os++[(c+x+y)%10000],h2) ⟨x2,o2,by show (c+x+y) / 10000<=1;omega,fH.append (λz hz=>by simp at hz;omega),by rw [el];omega,?_,?_⟩ (by rw [el];omega)
  ·rw [el] at this
   exact this
  ·intro h9
   rw [el] at h9
   show (c+x+y) / 10000=0
   rcases Ks with ⟨rfl,rfl⟩ | h
   ·omega
   ·omega
  ·rw [el]
   show val 10000 (os++[(c+x+y)%10000])+10000^(os.length+1)*((c+x+y) / 10000)=_
   rw [og,e1,e2,pow_succ]
   simp only [val,mul_zero,add_zero]
   generalize (c+x+y) / 10000=q at*
   generalize (c+x+y)%10000=m at*
   generalize 10000^os.length=P at*
   generalize val 10000 os=V at*
   clear hL dx dy hx hy jD
   grind
 have next:(os.length<max xs.length ys.length∨0<c)->OP (bk va) λcM=>OP (ai .lss (I os.length) cM) λdm=>aN dm
   (OP (aZ 1 va (I os.length)) λcK=>OP (af false 1 cE cK) λdw=>OP (ai .add (I c) dw) λdc=>CZ prog K va vb v (I os.length) dc L cE)
   (CZ prog K va vb v (I os.length) (I c) L cE):=by
  intro rW
  have aqn:∀x:Nat,x<10000->val 10000 (xs.take (os.length+1))=val 10000 (xs.take os.length)+10000^os.length*x->(x=0∨os.length<xs.length)->CZ prog K va vb v (I os.length) (I ((c+x:Nat):Int)) L cE:=by
   intro x iP e1 yz
   rw [aE4]
   simp only [dy.len,ah,cW,bQ]
   refine ⟨λaF=>?_,λcU=>?_⟩
   ·obtain ⟨i,g1,g2⟩:=dy.get (j:=os.length) (by omega)
    have kP:=ly _ (getElem_mem (show os.length<ys.length by omega))
    have e2:=jK 10000 ys (i:=os.length) (by omega)
    generalize ys[os.length]'(by omega)=y at g2 kP e2
    have ea:IntKind.wrap .i64 (((c+x:Nat):Int)+(y:Int))=((c+x+y:Nat):Int):=by rw [wrap64 (by omega) (by omega)];omega
    simp only [g1,ah,g2,cL,ea]
    exact Ep x y iP kP rW e1 e2 (.inr (by omega))
   ·have:=Ep x 0 iP (by decide) rW e1 (by rw [take_of_length_le (by omega),take_of_length_le (by omega)];simp) (by rcases yz with h | h;exact .inl ⟨h,rfl⟩;exact .inr (by omega))
    simpa using this
  simp only [dx.len,ah,cW,bQ]
  refine ⟨λaF=>?_,λcU=>?_⟩
  ·obtain ⟨i,g1,g2⟩:=dx.get (j:=os.length) (by omega)
   have iP:=lx _ (getElem_mem (show os.length<xs.length by omega))
   have e1:=jK 10000 xs (i:=os.length) (by omega)
   generalize xs[os.length]'(by omega)=x at g2 iP e1
   have ea:IntKind.wrap .i64 ((c:Int)+(x:Int))=((c+x:Nat):Int):=by rw [wrap64 (by omega) (by omega)];omega
   simp only [g1,ah,g2,cL,ea]
   exact aqn x iP e1 (.inr (by omega))
  ·have:=aqn 0 (by decide) (by rw [take_of_length_le (by omega),take_of_length_le (by omega)];simp) (.inl rfl)
   simpa using this
 have done:¬(os.length<max xs.length ys.length∨0<c)->Vx prog K v cE:=by
  intro dV
  rw [aE7]
  refine hk v cE os hex jD.ds fH (by omega) ?_
  have sZ:c=0:=by omega
  rw [sZ,mul_zero,add_zero,take_of_length_le (by omega),take_of_length_le (by omega)] at cf
  exact cf
 simp only [dx.len,ah,cW]
 by_cases h1:os.length<xs.length
 ·rw [bj (show (os.length:Int)<(xs.length:Int) by omega)]
  simp only [ao7,fW,W6,dY,ah,W7,Mk,dA]
  exact next (.inl (by omega))
 ·rw [aY (show ¬(os.length:Int)<(xs.length:Int) by omega)]
  simp only [ao7,eL,dy.len,ah,cW]
  by_cases h2:os.length<ys.length
  ·rw [bj (show (os.length:Int)<(ys.length:Int) by omega)]
   simp only [W6,dQ,ah,W7,fW,Mk,dY,dA]
   exact next (.inl (by omega))
  ·rw [aY (show ¬(os.length:Int)<(ys.length:Int) by omega)]
   simp only [W6,dQ,ah,W7,eL,fQ]
   by_cases h3:0<c
   ·rw [bj (show (0:Int)<(c:Int) by omega)]
    simp only [Mk,dQ,ah,dA]
    exact next (.inr h3)
   ·rw [aY (show ¬(0:Int)<(c:Int) by omega)]
    simp only [Mk,dQ,ah,dD]
    exact done (by omega)
theorem Ns {va vb:Value} {xs ys:List Nat} {h:ae} {K:Value->ae->Prop} (hx:DS 3 .i64 h va xs) (hy:DS 3 .i64 h vb ys) (lx:cN 10000 xs) (ly:cN 10000 ys) (sx:xs.length<=400) (hyx:ys.length<=xs.length) (hle:val 10000 ys<=val 10000 xs)
  (hk:∀v h' os,EX h h'->DS 3 .i64 h' v os->cN 10000 os->os.length<=500->val 10000 os=val 10000 xs-val 10000 ys->K v h'):ak prog 103 [va,vb] h K:=by
 refine f103 ?_
 simp only [OJ,UX,aE]
 refine dF (σ:=Value×Nat×List Nat×ae) (λp=>[p.1,I p.2.1,I p.2.2.1.length]) (λp=>p.2.2.2)
  (λp=>EX h p.2.2.2/\pn h.length p.2.2.2 p.1 p.2.2.1/\p.2.1<=1/\cN 10000 p.2.2.1/\p.2.2.1.length<=xs.length/\val 10000 p.2.2.1+val 10000 (ys.take p.2.2.1.length)=val 10000 (xs.take p.2.2.1.length)+10000^p.2.2.1.length*p.2.1) (λp=>xs.length-p.2.2.1.length)
  (sl 3 h.length 0 0,0,[],h++[.arr 3 []]) rfl rfl ⟨EX.append _ _,alZ h,by simp,λx hx=>by simp at hx,by simp,by simp [val]⟩ ?_
 rintro ⟨v,c,os,cE⟩ ⟨hex,jD,hc,fH,hlen,cf⟩ L hL
 simp only at hex jD hc fH hlen cf hL⊢
 rw [aE3]
 have dx:=hx.mono hex
 have dy:=hy.mono hex
 simp only [dx.len,ah,cW,bQ]
 refine ⟨λaF=>?_,λcU=>?_⟩
 ·have bn:os.length<xs.length:=by omega
  obtain ⟨i,g1,g2⟩:=dx.get bn
  have iP:=lx _ (getElem_mem bn)
  have e1:=jK 10000 xs bn
  generalize xs[os.length]=x at g2 iP e1
  have Ep:∀y:Nat,y<10000->val 10000 (ys.take (os.length+1))=val 10000 (ys.take os.length)+10000^os.length*y->Ly prog K va vb v (I os.length) (I ((x:Int)-c-y)) L cE:=by
   intro y kP e2
   rw [aEZ]
   have go:∀d b:Nat,d<10000->b<=1->d+y+c=x+10000*b->Lz prog K va vb v (I b) (I os.length) (I d) L cE:=by
    intro d b hd hb he
    rw [aE0]
    refine Qu jD hex (by omega) ?_
    intro v' h2 x2 o2
    simp only [aE1,cL,ah,ft os.length (by omega),true_and]
    have el:(os++[d]).length=os.length+1:=by simp
    have:=hL (v',b,os++[d],h2) ⟨x2,o2,hb,fH.append (λz hz=>by simp at hz;omega),by rw [el];omega,?_⟩ (by rw [el];omega)
    ·rw [el] at this
     exact this
    ·rw [el]
     show val 10000 (os++[d])+_=_
     rw [og,e1,e2,pow_succ]
     simp only [val,mul_zero,add_zero]
     generalize 10000^os.length=P at*
     generalize val 10000 os=V at*
     clear hL dx dy hx hy jD
     grind
   simp only [cW,ah,bQ]
   refine ⟨λji=>?_,λiN=>?_⟩
   ·obtain ⟨d,hd⟩:∃d:Nat,(x:Int)-c-y+10000=d:=⟨((x:Int)-c-y+10000).toNat,by omega⟩
    simp only [cL,ah,hd]
    rw [wrap64 (by omega) (by omega)]
    exact go d 1 (by omega) (by omega) (by omega)
   ·obtain ⟨d,hd⟩:∃d:Nat,(x:Int)-c-y=d:=⟨((x:Int)-c-y).toNat,by omega⟩
    rw [hd]
    exact go d 0 (by omega) (by omega) (by omega)
  simp only [g1,ah,g2,gE,dy.len,cW,bQ]
  rw [wrap64 (n:=(x:Int)-c) (by omega) (by omega)]
  refine ⟨λhly=>?_,λhgy=>?_⟩
  ·obtain ⟨i',k1,k2⟩:=dy.get (j:=os.length) (by omega)
   have kP:=ly _ (getElem_mem (show os.length<ys.length by omega))
   have e2:=jK 10000 ys (i:=os.length) (by omega)
   generalize ys[os.length]'(by omega)=y at k2 kP e2
   simp only [k1,ah,k2,gE]
   rw [wrap64 (by omega) (by omega)]
   exact Ep y kP e2
  ·have:=Ep 0 (by decide) (by rw [take_of_length_le (by omega),take_of_length_le (by omega)];simp)
   simpa using this
 ·have hl:os.length=xs.length:=by omega
  rw [aE2]
  rw [hl,take_length,take_of_length_le hyx] at cf
  have aF:=nJ fH
  rw [hl] at aF
  have sZ:c=0:=by
   apply byContradiction
   intro bt
   have:c=1:=by omega
   subst this
   omega
  subst sZ
  exact hk v cE os hex jD.ds fH (by omega) (by omega)
theorem YT {va vb:Value} {a b:Nat} {h:ae} {K:Value->ae->Prop} (ha:gf h va a) (hb:gf h vb b) (la:a<bG) (lb:b<bG) (hk:K (I (nH a b)) h):ak prog 101 [va,vb] h K:=by
 obtain ⟨xs,hx,cx,rfl⟩:=ha
 obtain ⟨ys,hy,cy,rfl⟩:=hb
 have l1:=rJ cx la
 have l2:=rJ cy lb
 have less:val 10000 xs<val 10000 ys->K (.int .i64 (-1)) h:=λh1=>by unfold nH at hk;rw [if_pos h1] at hk;exact hk
 have more:val 10000 ys<val 10000 xs->K (.int .i64 1) h:=λh1=>by unfold nH at hk;rw [if_neg (by omega),if_pos h1] at hk;exact hk
 have same:val 10000 xs=val 10000 ys->K (.int .i64 0) h:=λh1=>by unfold nH at hk;rw [if_neg (by omega),if_neg (by omega)] at hk;exact hk
 refine f101 ?_
 simp only [OG,hx.len,hy.len,ah,oA,He,cW,bQ]
 refine ⟨λbt=>⟨λaF=>less (dJ.A4 (by decide) cx cy (by omega)),λcU=>more (dJ.A4 (by decide) cy cx (by omega))⟩,λhe=>?_⟩
 have gn:xs.length=ys.length:=by omega
 simp only [gE,ah]
 have e1:IntKind.wrap .i64 ((xs.length:Int)-1)=(xs.length:Int)-1:=by rw [wrap64 (by omega) (by omega)]
 rw [e1]
 refine dF (σ:=Nat) (λi=>[I ((i:Int)-1)]) (λ_=>h) (λi=>i<=xs.length/\xs.drop i=ys.drop i) (λi=>i) xs.length rfl rfl ⟨le_refl _,by rw [List.drop_length,gn,List.drop_length]⟩ ?_
 rintro i ⟨hi,tf⟩ L hL
 rw [aEY]
 simp only [nv,ah,bQ]
 refine ⟨λcU=>?_,λaF=>?_⟩
 ·obtain ⟨j,rfl⟩:∃j,i=j+1:=⟨i-1,by omega⟩
  have ej:(((j+1:Nat):Int)-1)=(j:Int):=by omega
  rw [ej]
  obtain ⟨ia,a1,a2⟩:=hx.get (j:=j) (by omega)
  obtain ⟨ib,b1,b2⟩:=hy.get (j:=j) (by omega)
  simp only [a1,a2,b1,b2,ah,true_and,cW,bQ]
  refine ⟨λaF=>less (M8 cx.1 cy.1 gn (i:=j) (by omega) tf (by omega)),λcU=>?_⟩
  simp only [fQ,ah,bQ]
  refine ⟨λtg=>more (M8 cy.1 cx.1 gn.symm (i:=j) (by omega) tf.symm (by omega)),λhle=>?_⟩
  simp only [gE,ah]
  rw [wrap64 (by omega) (by omega)]
  refine hL j ⟨by omega,?_⟩ (by omega)
  rw [drop_eq_getElem_cons (by omega),drop_eq_getElem_cons (show j<ys.length by omega),tf]
  congr 1
  omega
 ·have:i=0:=by omega
  subst this
  rw [drop_zero,drop_zero] at tf
  exact same (by rw [tf])
end
section
theorem zY {h':ae} {j:Nat} {b0 v0 b v:Value} {K:Value->ae->Prop} (hg:h'[j]?=some (.arr 35 [b0,v0])) (hk:K (.agg #[b,v]) (h'.set j (.arr 35 [b,v]))):
  OH (aG 2 h' (pt j 0) (.agg #[b,v])) λ_ h6=>OP (af true 2 h6 (pt j 0)) λr0=>K r0 h6:=by
 rw [fM hg]
 simp only [aE]
 rw [cZ (cJ hg)]
 exact ah.2 hk
structure aq2 (h:ae) (va vb:Value) (sa sb:Bool) (h3:ae):Prop where
 ex:EX h h3
 a0:af false 1 h3 (pt h.length 0)=some (B sa)
 a1:af false 1 h3 (pt h.length 1)=some va
 b0:af false 1 h3 (pt (h.length+1) 0)=some (B sb)
 b1:af false 1 h3 (pt (h.length+1) 1)=some vb
 a2:af true 2 h3 (pt h.length 0)=some (.agg #[B sa,va])
 b2:af true 2 h3 (pt (h.length+1) 0)=some (.agg #[B sb,vb])
 out:h3[h.length+2]?=some (.arr 35 [.bool false,.slice none 0 0])
theorem H7 {h:ae} {va vb:Value} {sa sb:Bool} {K:Value->Value->Value->ae->Prop} (hk:∀h3,aq2 h va vb sa sb h3->K (pt h.length 0) (pt (h.length+1) 0) (pt (h.length+2) 0) h3):
  OH (bp 35 h (.agg #[B sa,va])) λa2 h_1=>OH (bp 35 h_1 (.agg #[B sb,vb])) λb3 h_2=>OH (aV 35 [(.bool false),(.slice none 0 0)] h_2) λx4 h_3=>K a2 b3 x4 h_3:=by
 have e1:∀(g:ae) (s:Bool) (v:Value),bp 35 g (.agg #[B s,v])=some (pt g.length 0,g++[.arr 35 [B s,v]]):=λ_ _ _=>rfl
 have e2:∀(g:ae),aV 35 [(.bool false),(.slice none 0 0)] g=some (pt g.length 0,g++[.arr 35 [(.bool false),(.slice none 0 0)]]):=λ_=>rfl
 simp only [e1,e2,aE,length_append,length_cons,length_nil]
 have g0:(h++[aq.arr 35 [B sa,va]]++[aq.arr 35 [B sb,vb]]++[aq.arr 35 [(.bool false),(.slice none 0 0)]])[h.length]?=some (.arr 35 [B sa,va]):=by simp
 have g1:(h++[aq.arr 35 [B sa,va]]++[aq.arr 35 [B sb,vb]]++[aq.arr 35 [(.bool false),(.slice none 0 0)]])[h.length+1]?=some (.arr 35 [B sb,vb]):=by simp
 have g2:(h++[aq.arr 35 [B sa,va]]++[aq.arr 35 [B sb,vb]]++[aq.arr 35 [(.bool false),(.slice none 0 0)]])[h.length+2]?=some (.arr 35 [(.bool false),(.slice none 0 0)]):=by simp
 refine hk _ ⟨((EX.append _ _).push _).push _,?_,?_,?_,?_,cZ g0,cZ g1,g2⟩
 ·simp [af,aW,cP]
 ·simp [af,aW,cP]
 ·simp [af,aW,cP]
 ·simp [af,aW,cP]
theorem QF {b:Bool} {e:TypeId} {k:IntKind} {h:ae} {v:Value} {xs:List Nat} (d:DS e k h v xs):dC [(.bool false),(.slice none 0 0)] [(0,1,B b),(1,1,v)]=some (.agg #[B b,v]):=by
 rcases d with ⟨rfl,_⟩ | ⟨i,rfl,_⟩ <;> rfl
theorem Zw {va vb:Value} {a b:Int} {h:ae} {K:Value->ae->Prop} (ha:ZV h va a) (hb:ZV h vb b) (la:a.natAbs<bG) (lb:b.natAbs<bG) (hk:∀r h',EX h h'->ZV h' r (a+b)->K r h'):ak prog 70 [va,vb] h K:=by
 obtain ⟨v,rfl,hv⟩:=ha
 obtain ⟨w,rfl,hw⟩:=hb
 refine f70 ?_
 unfold PX
 refine H7 ?_
 intro h3 x
 have wG:=hv.mono x.ex
 have sf:=hw.mono x.ex
 obtain ⟨xs,dx,cx,ex⟩:=id wG
 obtain ⟨ys,dy,cy,ey⟩:=id sf
 have l1:=rJ cx (by rw [ex];exact la)
 have l2:=rJ cy (by rw [ey];exact lb)
 simp only [bZ,add_zero,zero_add,ah,x.a0,x.a1,x.b0,x.b1,Eu,Bool.false_eq_true,if_false]
 -- gB result,put in its place
 have put:∀(s:Bool) (u:Value) (os:List Nat) (h4:ae) (z:Int),EX h3 h4->DS 3 .i64 h4 u os->cN 10000 os->os.length<=500->(if s then -(val 10000 os:Int) else (val 10000 os:Int))=z->z=a+b->
   OP (dC [(.bool false),(.slice none 0 0)] [(0,1,B s),(1,1,u)]) λbK=>ak prog 100 [bK] h4 λaS h_5=>OH (aG 2 h_5 (pt (h.length+2) 0) aS) λ_ h_6=>OP (af true 2 h_6 (pt (h.length+2) 0)) λr0=>K r0 h_6:=by
  intro s u os h4 z x4 d4 l4 s4 hz oO
  simp only [QF d4,ah]
  refine ze d4 l4 (by omega) ?_
  intro r h5 x5 zr
  rw [hz,oO] at zr
  obtain ⟨q,rfl,hq⟩:=id zr
  have g':=(x4.trans x5).get x.out
  exact zY g' (hk _ _ (((x.ex.trans x4).trans x5).set (by omega) _) (zr.bT g' _))
 refine BC (λhe=>?_) λbt=>?_
 ·have hs:decide (a<0)=decide (b<0):=by simpa using he
  have eD:(a<0↔b<0):=by simpa using hs
  simp only [true_and]
  refine aq4 dx dy cx.1 cy.1 (by omega) (by omega) ?_
  intro u h4 os x4 d4 l4 s4 v4
  refine ⟨⟨EX.load x4 x.a0,trivial⟩,?_⟩
  have:=put (decide (a<0)) u os h4 _ x4 d4 l4 s4 rfl (by
   rw [v4,ex,ey]
   by_cases h0:a<0
   ·rw [bj h0];simp;omega
   ·rw [aY h0];simp;omega)
  simpa using this
 ·have hs:decide (a<0)≠decide (b<0):=by simpa using bt
  have eD:¬(a<0↔b<0):=λh=>hs (decide_eq_decide.2 h)
  refine YT wG sf la lb ?_
  simp only [nv,ah,bQ]
  have ll:∀{p q:List Nat},dJ 10000 p->dJ 10000 q->val 10000 q<=val 10000 p->q.length<=p.length:=by
   intro p q cp cq KD
   apply byContradiction
   intro hc
   have:=dJ.A4 (by decide) cp cq (by omega)
   omega
  refine ⟨λcU=>?_,λaF=>?_⟩
  ·have hle:b.natAbs<=a.natAbs:=by
    apply byContradiction
    intro hc
    unfold nH at cU
    rw [if_pos (by omega)] at cU
    omega
   simp only [x.a0,x.a1,x.b1,ah,true_and]
   refine Ns dx dy cx.1 cy.1 (by omega) (ll cx cy (by omega)) (by omega) ?_
   intro u h4 os x4 d4 l4 s4 v4
   refine ⟨⟨EX.load x4 x.a0,trivial⟩,?_⟩
   have:=put (decide (a<0)) u os h4 _ x4 d4 l4 s4 rfl (by
    rw [v4,ex,ey]
    by_cases h0:a<0
    ·rw [bj h0];simp;omega
    ·rw [aY h0];simp;omega)
   simpa using this
  ·have hle:a.natAbs<=b.natAbs:=by
    apply byContradiction
    intro hc
    unfold nH at aF
    rw [if_neg (by omega),if_pos (by omega)] at aF
    omega
   simp only [x.b0,x.a1,x.b1,ah,true_and]
   refine Ns dy dx cy.1 cx.1 (by omega) (ll cy cx (by omega)) (by omega) ?_
   intro u h4 os x4 d4 l4 s4 v4
   refine ⟨⟨EX.load x4 x.b0,trivial⟩,?_⟩
   have:=put (decide (b<0)) u os h4 _ x4 d4 l4 s4 rfl (by
    rw [v4,ex,ey]
    by_cases h0:b<0
    ·rw [bj h0];simp;omega
    ·rw [aY h0];simp;omega)
   simpa using this
theorem gf.qk {h:ae} {v:Value} {n:Nat} (p:gf h v n):∃l:Nat,bk v=some (I l)/\(0<l↔0<n):=by
 obtain ⟨xs,d,c,rfl⟩:=p
 refine ⟨xs.length,d.len,?_⟩
 constructor
 ·intro h0
  have:=dJ.low (by decide) c (by rintro rfl;simp at h0)
  have:0<10000^(xs.length-1):=pow_pos (by decide)
  omega
 ·intro h0
  cases xs with
  | nil=>simp [val] at h0
  | cons x xs=>simp
theorem ZC {va:Value} {a:Int} {h:ae} {K:Value->ae->Prop} (ha:ZV h va a) (hk:∀r h',EX h h'->ZV h' r (-a)->K r h'):ak prog 95 [va] h K:=by
 obtain ⟨v,rfl,hv⟩:=ha
 refine f95 ?_
 have e1:bp 35 h (.agg #[B (decide (a<0)),v])=some (pt h.length 0,h++[.arr 35 [B (decide (a<0)),v]]):=rfl
 have e2:∀(g:ae),aV 35 [(.bool false),(.slice none 0 0)] g=some (pt g.length 0,g++[.arr 35 [(.bool false),(.slice none 0 0)]]):=λ_=>rfl
 simp only [Qi,e1,e2,aE,length_append,length_cons,length_nil]
 have g0:(h++[aq.arr 35 [B (decide (a<0)),v]]++[aq.arr 35 [(.bool false),(.slice none 0 0)]])[h.length]?=some (.arr 35 [B (decide (a<0)),v]):=by simp
 have g1:(h++[aq.arr 35 [B (decide (a<0)),v]]++[aq.arr 35 [(.bool false),(.slice none 0 0)]])[h.length+1]?=some (.arr 35 [(.bool false),(.slice none 0 0)]):=by simp
 have x1:EX h (h++[aq.arr 35 [B (decide (a<0)),v]]++[aq.arr 35 [(.bool false),(.slice none 0 0)]]):=(EX.append _ _).push _
 generalize h++[aq.arr 35 [B (decide (a<0)),v]]++[aq.arr 35 [(.bool false),(.slice none 0 0)]]=h1 at g0 g1 x1⊢
 have l0:af false 1 h1 (pt h.length 0)=some (B (decide (a<0))):=by simp [af,aW,g0,cP]
 have l1:af false 1 h1 (pt h.length 1)=some v:=by simp [af,aW,g0,cP]
 have nW:=hv.mono x1
 obtain ⟨l,n1,n2⟩:=nW.qk
 have last:∀c:Bool,c=decide (-a<0)->OH (aG 1 h1 (pt h.length 0) (B c)) λ_ h_1=>OP (af true 2 h_1 (pt h.length 0)) λaB=>OH (aG 2 h_1 (pt (h.length+1) 0) aB) λ_ h_2=>OP (af true 2 h_2 (pt (h.length+1) 0)) λr0=>K r0 h_2:=by
  rintro c rfl
  rw [qx g0 (by simp) rfl rfl]
  simp only [aE,List.set_cons_zero]
  rw [cZ (cJ g0)]
  simp only [ah]
  have m1:(h1.set h.length (.arr 35 [B (decide (-a<0)),v]))[h.length+1]?=some (.arr 35 [(.bool false),(.slice none 0 0)]):=by rw [getElem?_set_ne (by omega)];exact g1
  refine zY m1 (hk _ _ ((x1.set (le_refl _) _).set (by omega) _) ⟨v,rfl,?_⟩)
  have:(-a).natAbs=a.natAbs:=by omega
  rw [this]
  exact (nW.bT g0 _).bT m1 _
 simp only [bZ,add_zero,ah,l0,oW]
 by_cases h0:a<0
 ·rw [bj h0]
  simp only [Bool.not_true,ap0,jV,ap1,dQ,ah,bZ,add_zero]
  rw [bj h0] at*
  exact last _ (by simp;omega)
 ·rw [aY h0]
  simp only [Bool.not_false,ap0,fP,bZ,zero_add,ah,l1,n1,fQ,ap1,dY,add_zero]
  refine last _ ?_
  rw [decide_eq_decide]
  omega
theorem Hb {va vb:Value} {a b:Int} {h:ae} {K:Value->ae->Prop} (ha:ZV h va a) (hb:ZV h vb b) (la:a.natAbs<bG) (lb:b.natAbs<bG) (hk:∀r h',EX h h'->ZV h' r (a-b)->K r h'):ak prog 92 [va,vb] h K:=by
 have nA:=ha
 have pA:=hb
 obtain ⟨v,rfl,hv⟩:=ha
 obtain ⟨w,rfl,hw⟩:=hb
 refine f92 ?_
 unfold Qf
 refine H7 ?_
 intro h3 x
 simp only [ah,x.a2,x.b2,true_and]
 refine ZC (pA.mono x.ex) ?_
 intro r1 h4 x4 i1
 refine ⟨⟨EX.load x4 x.a2,trivial⟩,?_⟩
 refine Zw (nA.mono (x.ex.trans x4)) i1 la (by rw [Int.natAbs_neg];exact lb) ?_
 intro r2 h5 x5 i2
 have g':=(x4.trans x5).get x.out
 obtain ⟨u,rfl,hu⟩:=id i2
 refine zY g' (hk _ _ (((x.ex.trans x4).trans x5).set (by omega) _) ?_)
 rw [Int.sub_eq_add_neg]
 exact i2.bT g' _
def jG (z:Int):Int:=if z=0 then 0 else if z<0 then -1 else 1
theorem G8 {va:Value} {a:Int} {h:ae} {K:Value->ae->Prop} (ha:ZV h va a) (hk:∀h',EX h h'->K (I (jG a)) h'):ak prog 48 [va] h K:=by
 obtain ⟨v,rfl,hv⟩:=ha
 refine f48 ?_
 have e1:bp 35 h (.agg #[B (decide (a<0)),v])=some (pt h.length 0,h++[.arr 35 [B (decide (a<0)),v]]):=rfl
 simp only [PE,e1,aE]
 have l0:af false 1 (h++[.arr 35 [B (decide (a<0)),v]]) (pt h.length 0)=some (B (decide (a<0))):=tK rfl
 have l1:af false 1 (h++[.arr 35 [B (decide (a<0)),v]]) (pt h.length 1)=some v:=tK rfl
 have x1:EX h (h++[.arr 35 [B (decide (a<0)),v]]):=EX.append _ _
 obtain ⟨l,n1,n2⟩:=hv.qk
 have bD:=hk _ x1
 unfold jG at bD
 simp only [bZ,zero_add,add_zero,ah,l1,n1,hY,bQ,l0]
 refine ⟨λh0=>?_,λh0=>⟨λhn=>?_,λhn=>?_⟩⟩
 ·rw [if_pos (by omega)] at bD;exact bD
 ·rw [if_neg (by omega),if_pos hn] at bD;exact bD
 ·rw [if_neg (by omega),if_neg hn] at bD;exact bD
theorem NC {va vb:Value} {a b:Int} {h:ae} {K:Value->ae->Prop} (ha:ZV h va a) (hb:ZV h vb b) (la:a.natAbs<bG) (lb:b.natAbs<bG) (hk:∀h',EX h h'->K (I (jG (a-b))) h'):ak prog 72 [va,vb] h K:=by
 have nA:=ha
 have pA:=hb
 obtain ⟨v,rfl,hv⟩:=ha
 obtain ⟨w,rfl,hw⟩:=hb
 refine f72 ?_
 have e1:∀(g:ae) (s:Bool) (v:Value),bp 35 g (.agg #[B s,v])=some (pt g.length 0,g++[.arr 35 [B s,v]]):=λ_ _ _=>rfl
 simp only [PZ,e1,aE,length_append,length_cons,length_nil]
 have g0:(h++[aq.arr 35 [B (decide (a<0)),v]]++[aq.arr 35 [B (decide (b<0)),w]])[h.length]?=some (.arr 35 [B (decide (a<0)),v]):=by simp
 have g1:(h++[aq.arr 35 [B (decide (a<0)),v]]++[aq.arr 35 [B (decide (b<0)),w]])[h.length+1]?=some (.arr 35 [B (decide (b<0)),w]):=by simp
 have x1:EX h (h++[aq.arr 35 [B (decide (a<0)),v]]++[aq.arr 35 [B (decide (b<0)),w]]):=(EX.append _ _).push _
 simp only [zero_add,cZ g0,cZ g1,ah]
 refine Hb (nA.mono x1) (pA.mono x1) la lb ?_
 intro r h2 x2 zr
 refine G8 zr ?_
 intro h3 x3
 exact hk h3 ((x1.trans x2).trans x3)
end
section
theorem abz {b:Nat} {hx:ae} {v:Value} {os:List Nat} {d:Nat} {K:Value->ae->Prop} (hb:b<=hx.length) (o:pn b hx v os) (hl:os.length<=10000)
  (hk:∀v' cE,(∀d,d<b->cE[d]?=hx[d]?)->b<=cE.length->pn b cE v' (os++[d])->K v' cE):OH (dN 3 1 [.int .i64 0] hx [(0,1,I d)]) λa h2=>OH (eG 3 1 8 h2 v a) K:=by
 have hlen:(hx.take b).length=b:=by rw [length_take];omega
 have hex:EX (hx.take b) hx:=by
  refine ⟨by omega,λi hi=>?_⟩
  rw [List.getElem?_take_of_lt (by omega)]
 refine Qu (h0:=hx.take b) (by rw [hlen];exact o) hex hl ?_
 intro v' cE x o'
 rw [hlen] at o'
 refine hk v' cE (λd hd=>?_) (by have:=x.1;omega) o'
 rw [x.2 d (by omega),List.getElem?_take_of_lt hd]
theorem pn.set {b j:Nat} {hx:ae} {v:Value} {os:List Nat} (o:pn b hx v os) (hj:j<b) (x:aq):pn b (hx.set j x) v os:=
 kK.eX o λd _ _ hd=>by rw [getElem?_set_ne (by omega)]
theorem aIL {a:Int} {b:Nat} (hb:b≠0):ai .rem (.int .i64 a) (.int .i64 (b:Int))=some (I (a.tmod b)):=by
 have h:¬((b:Int)=0):=by omega
 simp only [ai,iX,if_true,if_neg h]
theorem aIC {a:Int} {b:Nat} (hb:b≠0) (h1: -9223372036854775808<a) (h2:a<9223372036854775808):ai .quo (.int .i64 a) (.int .i64 (b:Int))=some (I (a.tdiv b)):=by
 have h:¬((b:Int)=0):=by omega
 have h3:(a.tdiv b).natAbs<=a.natAbs:=by
  rw [Int.natAbs_tdiv,Int.natAbs_natCast];exact Nat.div_le_self _ _
 simp only [ai,iX,if_true,if_neg h]
 rw [wrap64 (by omega) (by omega)]
theorem zh {z:Int} {h:ae} {K:Value->ae->Prop} (hz:z.natAbs<1000000000000000000) (hk:∀r h',EX h h'->ZV h' r z->K r h'):ak prog 55 [I z] h K:=by
 refine f55 ?_
 have e2:∀g:ae,aV 35 [(.bool false),(.slice none 0 0)] g=some (pt g.length 0,g++[.arr 35 [(.bool false),(.slice none 0 0)]]):=λ_=>rfl
 have e3:∀b:Bool,dC [(.bool false),(.slice none 0 0)] [(0,1,B b)]=some (.agg #[B b,.slice none 0 0]):=λ_=>rfl
 simp only [PK,e2,aE,cW,ah,e3,length_append,length_cons,length_nil]
 have g1:(h++[aq.arr 35 [(.bool false),(.slice none 0 0)]]++[aq.arr 35 [(.bool false),(.slice none 0 0)]])[h.length+1]?=some (.arr 35 [(.bool false),(.slice none 0 0)]):=by simp
 have g0:(h++[aq.arr 35 [(.bool false),(.slice none 0 0)]]++[aq.arr 35 [(.bool false),(.slice none 0 0)]])[h.length]?=some (.arr 35 [(.bool false),(.slice none 0 0)]):=by simp
 have x1:EX h (h++[aq.arr 35 [(.bool false),(.slice none 0 0)]]++[aq.arr 35 [(.bool false),(.slice none 0 0)]]):=(EX.append _ _).push _
 have rT:(h++[aq.arr 35 [(.bool false),(.slice none 0 0)]]++[aq.arr 35 [(.bool false),(.slice none 0 0)]]).length=h.length+2:=by simp
 generalize h++[aq.arr 35 [(.bool false),(.slice none 0 0)]]++[aq.arr 35 [(.bool false),(.slice none 0 0)]]=h1 at*
 simp only [zero_add]
 rw [fM g1]
 simp only [aE]
 refine dF (σ:=Int×List Nat×Value×ae) (λp=>[I p.1]) (λp=>p.2.2.2)
  (λp=>h.length+2<=p.2.2.2.length/\EX h p.2.2.2/\p.2.2.2[h.length]?=some (.arr 35 [.bool false,.slice none 0 0])/\p.2.2.2[h.length+1]?=some (.arr 35 [B (decide (z<0)),p.2.2.1])/\pn (h.length+2) p.2.2.2 p.2.2.1 p.2.1/\cN 10000 p.2.1/\p.2.1.length<=5/\p.1.natAbs<10000^(5-p.2.1.length)/\val 10000 p.2.1+10000^p.2.1.length*p.1.natAbs=z.natAbs/\(p.1=0->dJ 10000 p.2.1)) (λp=>p.1.natAbs)
  (z,[],.slice none 0 0,h1.set (h.length+1) (.arr 35 [B (decide (z<0)),.slice none 0 0])) rfl rfl
  ⟨by simp [rT],x1.set (by omega) _,by rw [getElem?_set_ne (by omega)];exact g0,cJ g1,.inl ⟨rfl,rfl⟩,λ_ hx=>by simp at hx,by simp,by simp;omega,by simp [val],λ_=>dJ.nil _⟩ ?_
 rintro ⟨a,os,v,hx⟩ ⟨hlen,hex,k0,k1,jD,fH,iB,iL,cf,Ak⟩ L hL
 simp only at hlen hex k0 k1 jD fH iB iL cf Ak hL⊢
 rw [aG3]
 simp only [oA,ah,He]
 refine ⟨λbt=>?_,λheq=>?_⟩
 ·have nA:a≠0:=bt
  have aLx:a.natAbs<=z.natAbs:=by
   have:1*a.natAbs<=10000^os.length*a.natAbs:=Nat.mul_le_mul_right _ (pow_pos (by decide))
   omega
  have aLr:os.length<5:=by
   apply byContradiction
   intro hc
   have:5-os.length=0:=by omega
   rw [this] at iL
   omega
  have pF:(a.tmod 10000).natAbs=a.natAbs%10000:=Int.natAbs_tmod _ _
  have wc:(a.tdiv 10000).natAbs=a.natAbs / 10000:=Int.natAbs_tdiv _ _
  have step:L0 prog K (I a) (pt h.length 0) (pt (h.length+1) 0) (I ((a.natAbs%10000:Nat):Int)) L hx:=by
   rw [aG1]
   have ld:af false 1 hx (pt (h.length+1) 1)=some v:=by simp [af,aW,k1,cP]
   simp only [bZ,zero_add,ah,ld]
   refine abz hlen jD (by omega) ?_
   intro v' cE hs nT uP
   have lJ:cE[h.length+1]?=some (.arr 35 [B (decide (z<0)),v]):=by rw [hs _ (by omega)];exact k1
   rw [qx lJ (by simp) uP.ds.one.1 uP.ds.one.2]
   simp only [aE,List.set_cons_succ,List.set_cons_zero]
   rw [show (.int .i64 10000:Value)=.int .i64 ((10000:Nat):Int) from rfl,aIC (by decide) (by omega) (by omega)]
   simp only [ah,true_and]
   have mG:=Nat.mod_add_div a.natAbs 10000
   have el:(os++[a.natAbs%10000]).length=os.length+1:=by simp
   have hm:a.natAbs%10000<10000:=mod_lt _ (by decide)
   have Ki:(a.tdiv ((10000:Nat):Int)).natAbs=a.natAbs / 10000:=wc
   refine hL (a.tdiv ((10000:Nat):Int),os++[a.natAbs%10000],v',cE.set (h.length+1) (.arr 35 [B (decide (z<0)),v'])) ⟨?_,?_,?_,cJ lJ,uP.set (by omega) _,fH.append (λy hy=>by simp at hy;omega),by rw [el];omega,?_,?_,?_⟩ ?_
   ·rw [length_set];exact nT
   ·refine EX.set ⟨by have:=hex.1;omega,λi hi=>?_⟩ (by omega) _
    rw [hs i (by omega)];exact hex.2 i hi
   ·rw [getElem?_set_ne (by omega),hs _ (by omega)];exact k0
   ·show (a.tdiv ((10000:Nat):Int)).natAbs<_
    rw [el,Ki]
    have:5-os.length=(5-(os.length+1))+1:=by omega
    rw [this,pow_succ] at iL
    exact Nat.div_lt_of_lt_mul (by rw [Nat.mul_comm];exact iL)
   ·show val 10000 (os++[a.natAbs%10000])+10000^(os++[a.natAbs%10000]).length*(a.tdiv ((10000:Nat):Int)).natAbs=_
    rw [el,og,Ki,<-cf,pow_succ]
    simp only [val,mul_zero,add_zero]
    have:=congrArg (10000^os.length*·) mG
    rw [Nat.mul_add] at this
    rw [<-this,Nat.mul_assoc,Nat.add_assoc]
   ·intro h0
    have mD:a.natAbs / 10000=0:=by
     have h0b:a.tdiv ((10000:Nat):Int)=0:=h0
     rw [<-Ki,h0b];rfl
    refine Jr (fH.append (λy hy=>by simp at hy;omega)) ?_
    intro h1 h2
    simp only [el,Nat.add_sub_cancel] at h2
    rw [List.getElem_append_right (le_refl _)] at h2
    simp at h2
    omega
   ·show (a.tdiv ((10000:Nat):Int)).natAbs<a.natAbs
    rw [Ki]
    exact Nat.div_lt_self (by omega) (by decide)
  rw [show (.int .i64 10000:Value)=.int .i64 ((10000:Nat):Int) from rfl,aIL (by decide)]
  simp only [ah,cW,bQ]
  have aLp:(a.tmod ((10000:Nat):Int)).natAbs=a.natAbs%10000:=pF
  refine ⟨λhn=>?_,λhn=>?_⟩
  ·have e4:gq .neg (I (a.tmod ((10000:Nat):Int)))=some (I (-(a.tmod ((10000:Nat):Int)))):=by
    simp only [gq]
    rw [wrap64 (by omega) (by omega),Int.zero_sub]
   rw [e4]
   simp only [ah]
   rw [show -(a.tmod ((10000:Nat):Int))=((a.natAbs%10000:Nat):Int) by omega]
   exact step
  ·rw [show a.tmod ((10000:Nat):Int)=((a.natAbs%10000:Nat):Int) by omega]
   exact step
 ·have ha:a=0:=heq
  subst ha
  rw [aG2]
  rw [cZ k1]
  simp only [ah]
  rw [fM k0]
  simp only [aE]
  rw [cZ (cJ k0)]
  refine ah.2 (hk _ _ (hex.set (le_refl _) _) ⟨v,rfl,os,jD.ds.bT k0 _,Ak rfl,?_⟩)
  simpa using cf
abbrev hz (h:ae) (os:List Nat):ae:=h++[.arr 3 (os.map λd:Nat=>I d)]
theorem ajw {h:ae} {n:Nat} (hn:n<=1000):lI 3 8 [.int .i64 0] h (I n) (I n)=some (sl 3 h.length 0 n,hz h (replicate n 0)):=by
 have AN:∀m,je [Value.int .i64 0] m=(replicate m 0).map λd:Nat=>I d:=by
  intro m
  induction m with
  | zero=>rfl
  | succ m ih=>
   have:je [Value.int .i64 0] (m+1)=Value.int .i64 0::je [Value.int .i64 0] m:=by simp [je,List.replicate_succ]
   rw [this,ih,List.replicate_succ];rfl
 simp only [lI]
 rw [if_pos ⟨by omega,by omega,by omega,by omega⟩,Int.toNat_natCast,AN]
theorem aix (h:ae) (os:List Nat):(hz h os)[h.length]?=some (.arr 3 (os.map λd:Nat=>I d)):=by simp [hz]
theorem aCt {h:ae} {os:List Nat} {j:Nat} (d:Nat) (hj:j<os.length):aG 1 (hz h os) (pt h.length j) (I d)=some (undef,hz h (os.set j d)):=by
 rw [qx (aix h os) (by simpa using hj) rfl rfl]
 simp [hz,List.map_set]
theorem aCs {h:ae} {os:List Nat} {j:Nat} (hj:j<os.length):af false 1 (hz h os) (pt h.length j)=some (I os[j]):=by
 simp [af,aW,cP,hj]
theorem aiw (h:ae) (os:List Nat):DS 3 .i64 (hz h os) (sl 3 h.length 0 os.length) os:=.inr ⟨h.length,rfl,.inr ⟨[],by simp [aW,hz]⟩⟩
theorem wI (h:ae) (os:List Nat):EX h (hz h os):=EX.append _ _
theorem aEg {x y:Nat} (hx:x<10000) (hy:y<10000):x*y<=99980001:=by
 have:=Nat.mul_le_mul (show x<=9999 by omega) (show y<=9999 by omega)
 omega
theorem aJE (a b:Int):(if (!(decide (a<0)==decide (b<0)))=true then -((a.natAbs*b.natAbs:Nat):Int) else ((a.natAbs*b.natAbs:Nat):Int))=a*b:=by
 have ea:(a.natAbs:Int)=if a<0 then -a else a:=by split <;> omega
 have eb:(b.natAbs:Int)=if b<0 then -b else b:=by split <;> omega
 rw [Int.natCast_mul,ea,eb]
 by_cases h1:a<0 <;> by_cases h2:b<0 <;> simp [h1,h2,Int.neg_mul,Int.mul_neg]
theorem qC {va vb:Value} {a b:Int} {h:ae} {K:Value->ae->Prop} (ha:ZV h va a) (hb:ZV h vb b) (la:a.natAbs<bG) (lb:b.natAbs<bG) (hk:∀r h',EX h h'->ZV h' r (a*b)->K r h'):ak prog 71 [va,vb] h K:=by
 obtain ⟨v,rfl,hv⟩:=ha
 obtain ⟨w,rfl,hw⟩:=hb
 refine f71 ?_
 unfold PY
 refine H7 ?_
 intro h3 x
 obtain ⟨xs,dx,cx,ex⟩:=hv.mono x.ex
 obtain ⟨ys,dy,cy,ey⟩:=hw.mono x.ex
 have l1:=rJ cx (by rw [ex];exact la)
 have l2:=rJ cy (by rw [ey];exact lb)
 have hB:(0:Nat)<10000:=by decide
 have e0:IntKind.wrap .i64 ((xs.length:Int)+(ys.length:Int))=((xs.length+ys.length:Nat):Int):=by rw [wrap64 (by omega) (by omega)];omega
 simp only [bZ,zero_add,ah,x.a1,x.b1,dx.len,dy.len,cL,e0,ft (xs.length+ys.length) (by omega),ajw (show xs.length+ys.length+1<=1000 by omega),aE]
 refine dF (σ:=Nat×List Nat) (λp=>[I p.1]) (λp=>hz h3 p.2)
  (λp=>p.1<=xs.length/\p.2.length=xs.length+ys.length+1/\cN 10000 p.2/\(∀j (hj:j<p.2.length),p.1+ys.length<=j->p.2[j]=0)/\val 10000 p.2=val 10000 (xs.take p.1)*val 10000 ys) (λp=>xs.length-p.1)
  (0,replicate (xs.length+ys.length+1) 0) rfl rfl ⟨by simp,by simp,cN.xu hB _,by simp,by simp [yN,val]⟩ ?_
 rintro ⟨i,os⟩ ⟨hi,iB,fH,AN,cf⟩ L hL
 simp only at hi iB fH AN cf hL⊢
 have CO:∀ps,af false 1 (hz h3 ps) (pt h.length 1)=some v:=λps=>EX.load (wI h3 ps) x.a1
 have AX:∀ps,af false 1 (hz h3 ps) (pt (h.length+1) 1)=some w:=λps=>EX.load (wI h3 ps) x.b1
 rw [aHZ]
 simp only [bZ,zero_add,CO,dx.len,cW,ah,bQ]
 refine ⟨λaF=>?_,λcU=>?_⟩
 ·have bn:i<xs.length:=by omega
  have iP:xs[i]<10000:=cx.1 _ (getElem_mem bn)
  have AJ:=jK 10000 xs bn
  refine dF (σ:=Nat×Nat×List Nat) (λp=>[I p.1,I p.2.1]) (λp=>hz h3 p.2.2)
   (λp=>p.2.1<=ys.length+1/\(p.2.1=ys.length+1->p.1=0)/\p.1<10000/\p.2.2.length=xs.length+ys.length+1/\cN 10000 p.2.2/\(∀j (hj:j<p.2.2.length),i+ys.length+1<=j->p.2.2[j]=0)/\(p.2.1<=ys.length->∀j (hj:j<p.2.2.length),i+ys.length<=j->p.2.2[j]=0)/\val 10000 p.2.2+10000^(i+p.2.1)*p.1=val 10000 os+10000^i*(xs[i]*val 10000 (ys.take p.2.1))) (λp=>ys.length+1-p.2.1)
   (0,0,os) rfl rfl ⟨by simp,by simp,hB,iB,fH,λj hj h=>AN j hj (by omega),λ_=>AN,by simp [val]⟩ ?_
  rintro ⟨c,k,ps⟩ ⟨hZ,tj,hc,nF,wu,yr,Tv,yq⟩ L2 iV
  simp only at hZ tj hc nF wu yr Tv yq iV⊢
  have dx':=dx.mono (wI h3 ps)
  have dy':=dy.mono (wI h3 ps)
  have qf:i+k<ps.length:=by omega
  have aBM:ps[i+k]<10000:=wu _ (getElem_mem qf)
  have ei:IntKind.wrap .i64 ((i:Int)+(k:Int))=((i+k:Nat):Int):=by rw [wrap64 (by omega) (by omega)];omega
  -- gB next JF
  have step:∀p:Nat,p<=99980001->k<ys.length+1->(k=ys.length->p=0)->xs[i]*val 10000 (ys.take (k+1))=xs[i]*val 10000 (ys.take k)+10000^k*p->
    yI prog K (pt h.length 0) (pt (h.length+1) 0) (pt (h.length+2) 0) (sl 3 h3.length 0 (xs.length+ys.length+1)) (I i) (I k) (I ((ps[i+k]+c+p:Nat):Int)) L L2 (hz h3 ps):=by
   intro p hp gp hkp hpv
   rw [aHV]
   have mH:=tU 10000 ps (i+k) ((ps[i+k]+c+p)%10000) qf
   have pF:(ps[i+k]+c+p)%10000<10000:=mod_lt _ hB
   have mG:=Nat.mod_add_div (ps[i+k]+c+p) 10000
   have wc:(ps[i+k]+c+p) / 10000<10000:=by omega
   have Kl:k=ys.length->(ps[i+k]+c+p) / 10000=0:=by
    intro wg
    have:=Tv (by omega) (i+k) qf (by omega)
    rw [this,hkp wg]
    omega
   simp only [cL,ei,ah]
   rw [show (.int .i64 10000:Value)=.int .i64 ((10000:Nat):Int) from rfl,Bl _ _ _ (by decide),C8 (by decide) (by omega)]
   simp only [ah]
   rw [ow (show i+k<xs.length+ys.length+1 by omega)]
   simp only [ah]
   rw [aCt _ qf]
   simp only [aE,aHW,cL,ah,ft k (by omega),true_and]
   refine iV ((ps[i+k]+c+p) / 10000,k+1,ps.set (i+k) ((ps[i+k]+c+p)%10000)) ⟨by show k+1<=ys.length+1;omega,λh=>Kl (by simp only at h;omega),wc,by show (ps.set _ _).length=_;rw [length_set];exact nF,wu.set pF _,?_,?_,?_⟩ (by show ys.length+1-(k+1)<ys.length+1-k;omega)
   ·intro j hj eW
    show (ps.set (i+k) _)[j]=0
    rw [getElem_set_ne (by omega)]
    exact yr j (by simpa using hj) eW
   ·intro nC j hj eW
    have ti:k+1<=ys.length:=nC
    show (ps.set (i+k) _)[j]=0
    rw [getElem_set_ne (by omega)]
    exact Tv (by omega) j (by simpa using hj) eW
   ·show val 10000 (ps.set (i+k) _)+10000^(i+(k+1))*_=val 10000 os+10000^i*(xs[i]*val 10000 (ys.take (k+1)))
    rw [hpv,<-Nat.add_assoc,pow_succ]
    rw [Nat.pow_add] at mH yq⊢
    generalize ps[i+k]=o at*
    generalize (o+c+p)%10000=m at*
    generalize (o+c+p) / 10000=q at*
    generalize xs[i]*val 10000 (ys.take k)=v at*
    generalize val 10000 (ps.set (i+k) m)=s1 at*
    generalize val 10000 ps=s0 at*
    generalize val 10000 os=s2 at*
    generalize 10000^i=P at*
    generalize 10000^k=Q at*
    clear iV hL dx dy dx' dy' hv hw x CO AX
    have h1:P*Q*(m+10000*q)=P*Q*(o+c+p):=by rw [mG]
    grind
  have body:k<ys.length+1->OP (ai .add (I i) (I k)) λeJ=>OP (aZ 1 (sl 3 h3.length 0 (xs.length+ys.length+1)) eJ) λdW=>OP (af false 1 (hz h3 ps) dW) λeO=>OP (ai .add eO (I c)) λbu=>
    OP (bk w) λfE=>OP (ai .lss (I k) fE) λfN=>aN fN
     (OP (aZ 1 v (I i)) λcX=>OP (af false 1 (hz h3 ps) cX) λhI=>OP (aZ 1 w (I k)) λeP=>OP (af false 1 (hz h3 ps) eP) λjw=>OP (ai .mul hI jw) λfI=>OP (ai .add bu fI) λng=>
      yI prog K (pt h.length 0) (pt (h.length+1) 0) (pt (h.length+2) 0) (sl 3 h3.length 0 (xs.length+ys.length+1)) (I i) (I k) ng L L2 (hz h3 ps))
     (yI prog K (pt h.length 0) (pt (h.length+1) 0) (pt (h.length+2) 0) (sl 3 h3.length 0 (xs.length+ys.length+1)) (I i) (I k) bu L L2 (hz h3 ps)):=by
   intro gp
   have e1:IntKind.wrap .i64 ((ps[i+k]:Int)+(c:Int))=((ps[i+k]+c:Nat):Int):=by rw [wrap64 (by omega) (by omega)];omega
   simp only [cL,ei,ah]
   rw [ow (show i+k<xs.length+ys.length+1 by omega)]
   simp only [ah,aCs qf,cL,e1,dy.len,cW,bQ]
   refine ⟨λmV=>?_,λS6=>?_⟩
   ·have Tj:k<ys.length:=by omega
    obtain ⟨ia,a1,a2⟩:=dx'.get bn
    obtain ⟨ib,b1,b2⟩:=dy'.get Tj
    have kP:ys[k]<10000:=cy.1 _ (getElem_mem Tj)
    have hxy:=aEg iP kP
    have RF:((xs[i]:Int)*(ys[k]:Int))=((xs[i]*ys[k]:Nat):Int):=by simp
    have e2:IntKind.wrap .i64 ((ps[i+k]+c:Nat)+(xs[i]*ys[k]:Nat):Int)=((ps[i+k]+c+xs[i]*ys[k]:Nat):Int):=by rw [wrap64 (by omega) (by omega)];omega
    simp only [a1,a2,b1,b2,ah,xN,RF]
    rw [wrap64 (n:=((xs[i]*ys[k]:Nat):Int)) (by omega) (by omega)]
    simp only [cL,ah,e2]
    refine step (xs[i]*ys[k]) hxy gp (λh=>by omega) ?_
    rw [jK 10000 ys Tj]
    grind
   ·have wg:k=ys.length:=by omega
    have:=step 0 (by omega) gp (λ_=>rfl) (by rw [wg,take_length,take_of_length_le (by omega)];rfl)
    simpa using this
  rw [aHU]
  simp only [bZ,zero_add,AX,dy.len,cW,ah]
  have other:∀t:Bool,(t=true->k<ys.length+1)->(t=false->ys.length<=k/\c=0)->aN (B t) (OP (ai .add (I i) (I k)) λeJ=>OP (aZ 1 (sl 3 h3.length 0 (xs.length+ys.length+1)) eJ) λdW=>OP (af false 1 (hz h3 ps) dW) λeO=>OP (ai .add eO (I c)) λbu=>
    OP (bk w) λfE=>OP (ai .lss (I k) fE) λfN=>aN fN
     (OP (aZ 1 v (I i)) λcX=>OP (af false 1 (hz h3 ps) cX) λhI=>OP (aZ 1 w (I k)) λeP=>OP (af false 1 (hz h3 ps) eP) λjw=>OP (ai .mul hI jw) λfI=>OP (ai .add bu fI) λng=>
      yI prog K (pt h.length 0) (pt (h.length+1) 0) (pt (h.length+2) 0) (sl 3 h3.length 0 (xs.length+ys.length+1)) (I i) (I k) ng L L2 (hz h3 ps))
     (yI prog K (pt h.length 0) (pt (h.length+1) 0) (pt (h.length+2) 0) (sl 3 h3.length 0 (xs.length+ys.length+1)) (I i) (I k) bu L L2 (hz h3 ps)))
    (WD prog K (pt h.length 0) (pt (h.length+1) 0) (pt (h.length+2) 0) (sl 3 h3.length 0 (xs.length+ys.length+1)) (I i) L (hz h3 ps)):=by
   intro t h1 h2
   refine BC (λhe=>body (h1 (by simpa using he))) λbt=>?_
   obtain ⟨SJ,rfl⟩:=h2 (by simpa using bt)
   rw [aHX]
   simp only [cL,ah,ft i (by omega),true_and]
   have aBh:val 10000 (ys.take k)=val 10000 ys:=by rw [take_of_length_le SJ]
   refine hL (i+1,ps) ⟨by show i+1<=xs.length;omega,nF,wu,λj hj eW=>yr j hj (by have:i+1+ys.length<=j:=eW;omega),?_⟩ (by show xs.length-(i+1)<xs.length-i;omega)
   show val 10000 ps=val 10000 (xs.take (i+1))*val 10000 ys
   rw [AJ,Nat.add_mul,<-cf,Nat.mul_assoc,<-aBh,<-yq]
   omega
  by_cases gp:k<ys.length
  ·rw [bj (show (k:Int)<(ys.length:Int) by omega)]
   simp only [apR,fW,apS,dY,ah,bZ,zero_add,CO,AX,true_and]
   exact other true (λ_=>by omega) (λh=>by cases h)
  ·rw [aY (show ¬(k:Int)<(ys.length:Int) by omega)]
   simp only [apR,eL,apS,fQ,dQ,ah,bZ,zero_add,CO,AX,true_and]
   exact other _ (λh=>by
    have h0:(0:Int)<(c:Int):=by simpa using h
    apply byContradiction
    intro SV
    have:=tj (by omega)
    omega) (λh=>by
    have h0:¬(0:Int)<(c:Int):=by simpa using h
    omega)
 ·have:i=xs.length:=by omega
  subst this
  rw [aHY]
  rw [take_length] at cf
  have oS:af false 1 (hz h3 os) (pt h.length 0)=some (B (decide (a<0))):=EX.load (wI h3 os) x.a0
  have qj:af false 1 (hz h3 os) (pt (h.length+1) 0)=some (B (decide (b<0))):=EX.load (wI h3 os) x.b0
  have e:sl 3 h3.length 0 (xs.length+ys.length+1)=sl 3 h3.length 0 os.length:=by rw [iB]
  simp only [bZ,zero_add,ah,oS,qj,Eu,if_true,e]
  simp only [QF (aiw h3 os),ah]
  refine ze (aiw h3 os) fH (by omega) ?_
  intro r h5 x5 zr
  have hzv:(if (!(decide (a<0)==decide (b<0)))=true then -(val 10000 os:Int) else (val 10000 os:Int))=a*b:=by
   rw [cf,ex,ey]
   exact aJE a b
  rw [hzv] at zr
  obtain ⟨q,rfl,hq⟩:=id zr
  have g':=((wI h3 os).trans x5).get x.out
  exact zY g' (hk _ _ (((x.ex.trans (wI h3 os)).trans x5).set (by omega) _) (zr.bT g' _))
end
section
def QZ (h:ae) (val:Value) (a b:Int):Prop:=∃u w,val=.agg #[B (decide (a<0)),u,B (decide (b<0)),w]/\gf h u a.natAbs/\gf h w b.natAbs
theorem QZ.mono {h h':ae} {v:Value} {a b:Int} (x:EX h h') (p:QZ h v a b):QZ h' v a b:=let ⟨u,w,e,m,n⟩:=p;⟨u,w,e,m.mono x,n.mono x⟩
theorem QZ.bT {h:ae} {v:Value} {a b:Int} {j:Nat} {e:TypeId} {s:Bool} {r:List Value} (p:QZ h v a b) (hj:h[j]?=some (.arr e (.bool s::r))) (o:aq):QZ (h.set j o) v a b:=
 let ⟨u,w,e,m,n⟩:=p;⟨u,w,e,m.bT hj o,n.bT hj o⟩
theorem m8 {h:ae} {i:Nat} {e:TypeId} {a b c d x y z w:Value} (hg:h[i]?=some (.arr e [a,b,c,d])):aG 4 h (pt i 0) (.agg #[x,y,z,w])=some (undef,h.set i (.arr e [x,y,z,w])):=by
 simp [aG,wK,hg,jq,dU,Value.cells,setAt]
theorem gX {h:ae} {i:Nat} {e:TypeId} {a b c d:Value} (hg:h[i]?=some (.arr e [a,b,c,d])):af true 4 h (pt i 0)=some (.agg #[a,b,c,d]):=by
 simp [af,aW,hg,cP]
theorem kl {h:ae} {i:Nat} {e:TypeId} {a b c d:Value} (hg:h[i]?=some (.arr e [a,b,c,d])):af true 2 h (pt i 0)=some (.agg #[a,b]):=by
 simp [af,aW,hg,cP]
theorem lL {h:ae} {i:Nat} {e:TypeId} {a b c d:Value} (hg:h[i]?=some (.arr e [a,b,c,d])):af true 2 h (pt i 2)=some (.agg #[c,d]):=by
 simp [af,aW,hg,cP]
theorem rO {h':ae} {j:Nat} {e:TypeId} {b0 v0 c0 w0 a b c d:Value} {K:Value->ae->Prop} (hg:h'[j]?=some (.arr e [b0,v0,c0,w0])) (hk:K (.agg #[a,b,c,d]) (h'.set j (.arr e [a,b,c,d]))):
  OH (aG 4 h' (pt j 0) (.agg #[a,b,c,d])) λ_ h6=>OP (af true 4 h6 (pt j 0)) λr0=>K r0 h6:=by
 rw [m8 hg]
 simp only [aE]
 rw [gX (cJ hg)]
 exact ah.2 hk
theorem H9 {b c:Bool} {e e':TypeId} {k k':IntKind} {h h':ae} {v w:Value} {xs ys:List Nat} (d:DS e k h v xs) (d':DS e' k' h' w ys):
  dC [(.bool false),(.slice none 0 0),(.bool false),(.slice none 0 0)] [(0,2,.agg #[B b,v]),(2,2,.agg #[B c,w])]=some (.agg #[B b,v,B c,w]):=by
 rcases d with ⟨rfl,_⟩ | ⟨i,rfl,_⟩ <;> rcases d' with ⟨rfl,_⟩ | ⟨i',rfl,_⟩ <;> rfl
abbrev z4:List Value:=[(.bool false),(.slice none 0 0),(.bool false),(.slice none 0 0)]
theorem zV {h h':ae} {j:Nat} {va vb:Value} {a b:Int} {K:Value->ae->Prop} (ha:ZV h' va a) (hb:ZV h' vb b) (x:EX h h') (hj:h.length<=j) (hg:h'[j]?=some (.arr 37 z4)) (hk:∀r h',EX h h'->QZ h' r a b->K r h'):
  OP (dC [(.bool false),(.slice none 0 0),(.bool false),(.slice none 0 0)] [(0,2,va),(2,2,vb)]) λaP=>OH (aG 4 h' (pt j 0) aP) λ_ h6=>OP (af true 4 h6 (pt j 0)) λr0=>K r0 h6:=by
 obtain ⟨u,rfl,hu⟩:=ha
 obtain ⟨w,rfl,hw⟩:=hb
 obtain ⟨xs,dx,cx⟩:=id hu
 obtain ⟨ys,dy,cy⟩:=id hw
 rw [H9 dx dy]
 exact ah.2 (rO hg (hk _ _ (x.set hj _) ⟨u,w,rfl,hu.bT hg _,hw.bT hg _⟩))
theorem C20 {z:Int} {h:ae} {K:Value->ae->Prop} (hz:z.natAbs<1000000000000000000) (hk:∀r h',EX h h'->QZ h' r z 1->K r h'):ak prog 20 [I z] h K:=by
 refine f20 ?_
 have e1:aV 37 [(.bool false),(.slice none 0 0),(.bool false),(.slice none 0 0)] h=some (pt h.length 0,h++[.arr 37 z4]):=rfl
 simp only [Pp,e1,aE]
 refine zh hz ?_
 intro r1 h1 x1 z1
 refine zh (z:=1) (by decide) ?_
 intro r2 h2 x2 z2
 exact zV (z1.mono x2) z2 ((EX.append _ _).trans (x1.trans x2)) (le_refl _) ((x1.trans x2).get br) hk
structure aq3 (h:ae) (a b c d a' b' c' d':Value) (h3:ae):Prop where
 ex:EX h h3
 a0:af true 2 h3 (pt h.length 0)=some (.agg #[a,b])
 a2:af true 2 h3 (pt h.length 2)=some (.agg #[c,d])
 b0:af true 2 h3 (pt (h.length+1) 0)=some (.agg #[a',b'])
 b2:af true 2 h3 (pt (h.length+1) 2)=some (.agg #[c',d'])
 a4:af true 4 h3 (pt h.length 0)=some (.agg #[a,b,c,d])
 b4:af true 4 h3 (pt (h.length+1) 0)=some (.agg #[a',b',c',d'])
 out:h3[h.length+2]?=some (.arr 37 z4)
theorem H8 {h:ae} {s s' t t':Bool} {b d b' d':Value} {K:Value->Value->Value->ae->Prop} (hk:∀h3,aq3 h (B s) b (B s') d (B t) b' (B t') d' h3->K (pt h.length 0) (pt (h.length+1) 0) (pt (h.length+2) 0) h3):
  OH (bp 37 h (.agg #[B s,b,B s',d])) λa2 h_1=>OH (bp 37 h_1 (.agg #[B t,b',B t',d'])) λb3 h_2=>OH (aV 37 [(.bool false),(.slice none 0 0),(.bool false),(.slice none 0 0)] h_2) λx4 h_3=>K a2 b3 x4 h_3:=by
 have e1:∀(g:ae) (s s':Bool) (b d:Value),bp 37 g (.agg #[B s,b,B s',d])=some (pt g.length 0,g++[.arr 37 [B s,b,B s',d]]):=λ_ _ _ _ _=>rfl
 have e2:∀(g:ae),aV 37 [(.bool false),(.slice none 0 0),(.bool false),(.slice none 0 0)] g=some (pt g.length 0,g++[.arr 37 z4]):=λ_=>rfl
 simp only [e1,e2,aE,length_append,length_cons,length_nil]
 have g0:(h++[aq.arr 37 [B s,b,B s',d]]++[aq.arr 37 [B t,b',B t',d']]++[aq.arr 37 z4])[h.length]?=some (.arr 37 [B s,b,B s',d]):=by simp
 have g1:(h++[aq.arr 37 [B s,b,B s',d]]++[aq.arr 37 [B t,b',B t',d']]++[aq.arr 37 z4])[h.length+1]?=some (.arr 37 [B t,b',B t',d']):=by simp
 have g2:(h++[aq.arr 37 [B s,b,B s',d]]++[aq.arr 37 [B t,b',B t',d']]++[aq.arr 37 z4])[h.length+2]?=some (.arr 37 z4):=by simp
 exact hk _ ⟨((EX.append _ _).push _).push _,kl g0,lL g0,kl g1,lL g1,gX g0,gX g1,g2⟩
theorem C27 {va vb:Value} {a b c d:Int} {h:ae} {K:Value->ae->Prop} (ha:QZ h va a b) (hb:QZ h vb c d) (la:a.natAbs<bG) (lb:b.natAbs<bG) (lc:c.natAbs<bG) (ld:d.natAbs<bG)
  (hk:∀r h',EX h h'->QZ h' r (a*c) (b*d)->K r h'):ak prog 27 [va,vb] h K:=by
 obtain ⟨u,w,rfl,hu,hw⟩:=ha
 obtain ⟨u',w',rfl,tB,mY⟩:=hb
 refine f27 ?_
 unfold Pv
 refine H8 ?_
 intro h3 x
 have za:ZV h3 (.agg #[B (decide (a<0)),u]) a:=⟨u,rfl,hu.mono x.ex⟩
 have zb:ZV h3 (.agg #[B (decide (b<0)),w]) b:=⟨w,rfl,hw.mono x.ex⟩
 have zc:ZV h3 (.agg #[B (decide (c<0)),u']) c:=⟨u',rfl,tB.mono x.ex⟩
 have zd:ZV h3 (.agg #[B (decide (d<0)),w']) d:=⟨w',rfl,mY.mono x.ex⟩
 simp only [bZ,add_zero,zero_add,ah,x.a0,x.b0,true_and]
 refine qC za zc la lc ?_
 intro r4 h4 x4 tY
 simp only [EX.load x4 x.a2,EX.load x4 x.b2,ah,x.a2,x.b2,true_and]
 refine qC (zb.mono x4) (zd.mono x4) lb ld ?_
 intro r5 h5 x5 z5
 exact zV (tY.mono x5) z5 ((x.ex.trans x4).trans x5) (by omega) ((x4.trans x5).get x.out) hk
theorem C26 {va vb:Value} {a b c d:Int} {h:ae} {K:Value->ae->Prop} (ha:QZ h va a b) (hb:QZ h vb c d) (la:a.natAbs<bG) (lb:b.natAbs<bG) (lc:c.natAbs<bG) (ld:d.natAbs<bG) (FD:(a*d).natAbs<bG) (UD:(c*b).natAbs<bG)
  (hk:∀r h',EX h h'->QZ h' r (a*d+c*b) (b*d)->K r h'):ak prog 26 [va,vb] h K:=by
 obtain ⟨u,w,rfl,hu,hw⟩:=ha
 obtain ⟨u',w',rfl,tB,mY⟩:=hb
 refine f26 ?_
 unfold Pu
 refine H8 ?_
 intro h3 x
 have za:ZV h3 (.agg #[B (decide (a<0)),u]) a:=⟨u,rfl,hu.mono x.ex⟩
 have zb:ZV h3 (.agg #[B (decide (b<0)),w]) b:=⟨w,rfl,hw.mono x.ex⟩
 have zc:ZV h3 (.agg #[B (decide (c<0)),u']) c:=⟨u',rfl,tB.mono x.ex⟩
 have zd:ZV h3 (.agg #[B (decide (d<0)),w']) d:=⟨w',rfl,mY.mono x.ex⟩
 simp only [bZ,add_zero,zero_add,ah,x.a0,x.b2,true_and]
 refine qC za zd la ld ?_
 intro r4 h4 x4 tY
 simp only [EX.load x4 x.a2,EX.load x4 x.b0,ah,x.a2,x.b0,true_and]
 refine qC (zc.mono x4) (zb.mono x4) lc lb ?_
 intro r5 h5 x5 z5
 refine Zw (tY.mono x5) z5 FD UD ?_
 intro r6 h6 x6 z6
 have cI:=(x4.trans x5).trans x6
 simp only [EX.load cI x.a2,EX.load cI x.b2,EX.load (x4.trans x5) x.a2,EX.load (x4.trans x5) x.b2,EX.load x4 x.b2,ah,true_and]
 refine qC (zb.mono cI) (zd.mono cI) lb ld ?_
 intro r7 h7 x7 z7
 exact zV (z6.mono x7) z7 ((x.ex.trans cI).trans x7) (by omega) ((cI.trans x7).get x.out) hk
end
section
def dT (s:List UInt8):Nat:=s.foldl (λd c=>10*d+(c.toNat-48)) 0
theorem Yl:∀(s:List UInt8) (a:Nat),s.foldl (λd c=>10*d+(c.toNat-48)) a=a*10^s.length+dT s
 | [],a=>by simp [dT]
 | c::s,a=>by
  have h1:=Yl s (10*a+(c.toNat-48))
  have h2:=Yl s (10*0+(c.toNat-48))
  have e:dT (c::s)=s.foldl (λd c=>10*d+(c.toNat-48)) (10*0+(c.toNat-48)):=rfl
  rw [e,h2,List.foldl_cons,h1,length_cons,pow_succ]
  generalize 10^s.length=P
  generalize c.toNat-48=d
  generalize dT s=w
  grind
theorem Bu (s t:List UInt8):dT (s++t)=dT s*10^t.length+dT t:=by
 show (s++t).foldl _ 0=_
 rw [List.foldl_append,Yl]
 rfl
theorem M6 (c:UInt8):dT [c]=c.toNat-48:=by simp [dT]
def jX (s:List UInt8):Prop:=∀c∈s,48<=c.toNat/\c.toNat<=57
theorem GJ (c:UInt8) (s:List UInt8):dT (c::s)=(c.toNat-48)*10^s.length+dT s:=by
 have:=Bu [c] s
 rw [M6] at this
 exact this
theorem yM:∀{s:List UInt8},jX s->dT s<10^s.length
 | [],_=>by simp [dT]
 | c::s,h=>by
  have h1:=yM (s:=s) λx hx=>h x (by simp [hx])
  have h2:=h c (by simp)
  rw [GJ,length_cons,pow_succ]
  have h3:=Nat.mul_le_mul_right (10^s.length) (show c.toNat-48<=9 by omega)
  omega
end
section
theorem Ym:∀{ds:List Nat},cN 10 ds->dT ((ds.map jA).reverse)=val 10 ds
 | [],_=>rfl
 | d::ds,h=>by
  have h1:=Ym (ds:=ds) λy hy=>h y (by simp [hy])
  have h2:=h d (by simp)
  rw [List.map_cons,List.reverse_cons,Bu,M6,h1,vP h2]
  simp only [val,List.length_singleton,Nat.pow_one]
  omega
theorem xU {n:Nat} (hn:n<bG):jX (eK n)/\0<(eK n).length/\(eK n).length<=1000/\((eK n).head?=some 48->(eK n).length=1)/\dT (eK n)=n:=by
 obtain ⟨hc,hv⟩:=JE n
 by_cases h0:n=0
 ·subst h0
  have:eK 0=[48]:=rfl
  rw [this]
  exact ⟨λc hc=>by simp at hc;subst hc;decide,by simp,by simp,by simp,rfl⟩
 ·have e:eK n=((uz n).map jA).reverse:=by unfold eK;rw [if_neg h0]
  have bt:uz n≠[]:=by
   intro h
   rw [h] at hv
   exact h0 hv.symm
  rw [e]
  refine ⟨?_,?_,?_,?_,?_⟩
  ·intro c SU
   simp only [List.mem_reverse,List.mem_map] at SU
   obtain ⟨d,hd,rfl⟩:=SU
   rw [vP (hc.1 d hd)]
   have:=hc.1 d hd
   omega
  ·simp only [List.length_reverse,List.length_map]
   exact List.length_pos_iff.2 bt
  ·simp only [List.length_reverse,List.length_map]
   show _<=KZ
   refine hc.len (by decide) ?_
   rw [hv]
   exact Nat.lt_of_lt_of_le hn abH
  ·intro lY
   exfalso
   rw [List.head?_reverse,List.getLast?_map] at lY
   cases hl:(uz n).getLast? with
   | none=>rw [hl] at lY;simp at lY
   | some d=>
    rw [hl] at lY
    have hd:d<10:=hc.1 d (List.mem_of_getLast? hl)
    have h3:jA d=48:=by simpa using lY
    have h4:=congrArg UInt8.toNat h3
    rw [vP hd] at h4
    have h5:(48:UInt8).toNat=48:=rfl
    rw [h5] at h4
    have:d=0:=by omega
    subst this
    exact hc.2 hl
  ·rw [Ym hc.1,hv]
def jr (z:Int):List UInt8:=if z<0 then 45::eK z.natAbs else eK z.natAbs
end
section
variable (P : Program) (K : VK)
noncomputable section
variable (x0 q1 y5 aB aL : Value) (h : ae)
def akP:=bE prog 16 [[],[],[0,5,13],[13,16],[]]
@[irreducible] def IM:=bM akP
@[irreducible] def adp:=IM.r.r.l.r.l
@[irreducible] def awM:=IM.r.r.r
@[irreducible] def awN:=adp.r.l
theorem k16:akP=some (18,IM,[.tmp 4]):=by kernel_rfl
def aai (_P:Program) (K:VK):ar:=aT [.tmp 4] K
def aaj:ar:=aH (aj P awM (aai P K)) (aai P K)
def ana:Prop:=ax (aj P adp (aaj P K)) [0,5,13] [x0,y5,aB] h
def VY:Prop:=ax (aj P awN (aaj P K)) [13,16] [aB,aL] h
theorem aGs:VY P K aB aL h=
 (OP (bF aB aL (.bool false)) λbK=>
 K bK h):=az (by kernel_rfl)
theorem aGr:ana P K x0 y5 aB h=
 (ck aB true
 (OP (ai .eql x0 y5) λaL=>
 VY P K aB aL h)
 (VY P K aB undef h)):=az (by kernel_rfl)
def zA:Prop:=
 OH (bp 37 h q1) λq3 z1=>
 OP (af true 4 z1 q3) λx8=>
 ak P 53 [x8] z1 λx9 z2=>
 OP (cD 0 x9) λay=>
 OP (cD 1 x9) λau=>
 ana P K x0 ay au z2
theorem e16:aj P IM (aT [.tmp 4] K) (bw [x0,q1]) h=zA P K x0 q1 h:=by kernel_rfl
theorem f16 {K:VK} {x0 q1:Value} {h:ae} (H:zA prog K x0 q1 h):ak prog 16 [x0,q1] h K:=
 bN k16 (bJ rfl) ((e16 prog K x0 q1 h).mpr H)
end
noncomputable section
variable (q0 : Value) (h : ae)
def akV:=bE prog 25 [[],[],[],[],[]]
@[irreducible] def c25:=bM akV
theorem k25:akV=some (30,c25,[.cell true 4 2]):=by kernel_rfl
def Pt:Prop:=
 OH (bp 37 h q0) λq1 z1=>
 OH (aV 37 [(.bool false),(.slice none 0 0),(.bool false),(.slice none 0 0)] z1) λx2 z2=>
 OP (aJ 0 q1) λx8=>
 OP (af true 2 z2 x8) λx9=>
 OP (aJ 2 q1) λay=>
 OP (af true 2 z2 ay) λau=>
 ak P 68 [x9,au] z2 λaD z3=>
 OH (aV 35 [(.bool false),(.slice none 0 0)] z3) λg3 z4=>
 OH (aG 2 z4 g3 aD) λ_ z5=>
 OP (aJ 0 q1) λaA=>
 OP (af true 2 z5 aA) λaP=>
 OP (af true 2 z5 g3) λaL=>
 ak P 69 [aP,aL] z5 λbK z6=>
 OP (cD 0 bK) λaS=>
 OP (cD 1 bK) λaK=>
 OH (aV 35 [(.bool false),(.slice none 0 0)] z6) λn4 z7=>
 OH (aV 35 [(.bool false),(.slice none 0 0)] z7) λx5 z8=>
 OH (aG 2 z8 n4 aS) λ_ z9=>
 OH (aG 2 z9 x5 aK) λ_ hX=>
 OP (aJ 2 q1) λba=>
 OP (af true 2 hX ba) λbO=>
 OP (af true 2 hX g3) λcB=>
 ak P 69 [bO,cB] hX λbL jx=>
 OP (cD 0 bL) λbX=>
 OP (cD 1 bL) λcV=>
 OH (aV 35 [(.bool false),(.slice none 0 0)] jx) λd6 kr=>
 OH (aV 35 [(.bool false),(.slice none 0 0)] kr) λx7 kH=>
 OH (aG 2 kH d6 bX) λ_ om=>
 OH (aG 2 om x7 cV) λ_ ky=>
 OP (af true 2 ky n4) λb9=>
 OP (af true 2 ky d6) λcG=>
 OP (dC [(.bool false),(.slice none 0 0),(.bool false),(.slice none 0 0)] [(0,2,b9),(2,2,cG)]) λcM=>
 OH (aG 4 ky x2 cM) λ_ rD=>
 OP (af true 4 rD x2) λr0=>
 K r0 rD
theorem e25:aj P c25 (aT [.cell true 4 2] K) (bw [q0]) h=Pt P K q0 h:=by kernel_rfl
theorem f25 {K:VK} {q0:Value} {h:ae} (H:Pt prog K q0 h):ak prog 25 [q0] h K:=
 bN k25 (bJ rfl) ((e25 prog K q0 h).mpr H)
end
noncomputable section
variable (a0 b1 : Value) (h : ae)
def akZ:=bE prog 29 [[],[]]
@[irreducible] def c29:=bM akZ
theorem k29:akZ=some (16,c29,[.tmp 4]):=by kernel_rfl
def Px:Prop:=
 OH (bp 37 h a0) λa2 z1=>
 OH (bp 37 z1 b1) λb3 z2=>
 OP (aJ 0 a2) λx5=>
 OP (af true 2 z2 x5) λx6=>
 (True)/\
 OP (aJ 2 b3) λx7=>
 OP (af true 2 z2 x7) λx8=>
 (True)/\
 ak P 71 [x6,x8] z2 λx9 z3=>
 (True)/\
 OP (aJ 0 b3) λay=>
 OP (af true 2 z3 ay) λau=>
 (af true 2 z2 ay=some au/\True)/\
 OP (aJ 2 a2) λaD=>
 OP (af true 2 z3 aD) λaB=>
 (af true 2 z2 aD=some aB/\True)/\
 ak P 71 [au,aB] z3 λaA z4=>
 (True)/\
 ak P 72 [x9,aA] z4 λaP z5=>
 (True)/\
 K aP z5
theorem e29:aj P c29 (aT [.tmp 4] K) (bw [a0,b1]) h=Px P K a0 b1 h:=by kernel_rfl
theorem f29 {K:VK} {a0 b1:Value} {h:ae} (H:Px prog K a0 b1 h):ak prog 29 [a0,b1] h K:=
 bN k29 (bJ rfl) ((e29 prog K a0 b1 h).mpr H)
end
noncomputable section
variable (q0 q1 s4 d5 aS ba : Value) (h : ae)
def alb:=bE prog 53 [[],[],[],[1,4,5,18],[1,4,5,18,21],[],[],[],[],[4,5],[],[4],[]]
@[irreducible] def Ea:=bM alb
@[irreducible] def ad6:=Ea.r.r.r.l.l.r.l
@[irreducible] def axj:=Ea.r.r.r.l.r
@[irreducible] def ad5:=Ea.r.r.r.r
@[irreducible] def axk:=ad6.r.l
@[irreducible] def ad4:=ad5.r.l
@[irreducible] def axi:=ad4.r.l
theorem k53:alb=some (35,Ea,[.tmp 2,.tmp 3]):=by kernel_rfl
def Hx (_P:Program) (K:VK):ar:=aT [.tmp 2,.tmp 3] K
def aax:ar:=aH (aj P ad5 (Hx P K)) (Hx P K)
def aay:ar:=aH (aj P axj (aax P K)) (aax P K)
def ant:Prop:=ax (aj P ad6 (aay P K)) [1,4,5,18] [q1,s4,d5,aS] h
def Wi:Prop:=ax (aj P axk (aay P K)) [1,4,5,18,21] [q1,s4,d5,aS,ba] h
def LZ:Prop:=ax (aj P ad4 (Hx P K)) [4,5] [s4,d5] h
def Wh:Prop:=ax (aj P axi (Hx P K)) [4] [s4] h
theorem aGZ:Wi P K q1 s4 d5 aS ba h=
 (OP (bF aS (.bool true) ba) λbO=>
 aN bO
 (K (.tuple #[(.string ⟨#[]⟩),(.bool false)]) h)
 (OP (aJ 0 q1) λcB=>
 OP (aJ 0 cB) λbL=>
 OP (af false 1 h bL) λbX=>
 aN bX
 (OP (ai .add (.string ⟨#[45]⟩) s4) λb9=>
 LZ P K b9 d5 h)
 (LZ P K s4 d5 h))):=az (by kernel_rfl)
theorem aGY:ant P K q1 s4 d5 aS h=
 (ck aS false
 (OP (gK d5) λaU=>
 OP (ai .gtr aU (.int .i64 (4000))) λba=>
 Wi P K q1 s4 d5 aS ba h)
 (Wi P K q1 s4 d5 aS undef h)):=az (by kernel_rfl)
theorem apH:Wh P K s4 h=
 (K (.tuple #[s4,(.bool true)]) h):=az (by kernel_rfl)
theorem aGX:LZ P K s4 d5 h=
 (OP (ai .neq d5 (.string ⟨#[49]⟩)) λcM=>
 aN cM
 (OP (ai .add (.string ⟨#[47]⟩) d5) λbV=>
 OP (ai .add s4 bV) λdK=>
 Wh P K dK h)
 (Wh P K s4 h)):=az (by kernel_rfl)
def PI:Prop:=
 OH (bp 37 h q0) λq1 z1=>
 OP (af true 4 z1 q1) λx6=>
 ak P 25 [x6] z1 λx7 z2=>
 OH (aG 4 z2 q1 x7) λ_ z3=>
 OP (aJ 0 q1) λx8=>
 OP (af true 2 z3 x8) λx9=>
 (True)/\
 ak P 94 [x9] z3 λay z4=>
 (True)/\
 ak P 93 [ay] z4 λau z5=>
 (True)/\
 OP (aJ 2 q1) λaD=>
 OP (af true 2 z5 aD) λaB=>
 (af true 2 z3 aD=some aB/\af true 2 z4 aD=some aB/\True)/\
 ak P 93 [aB] z5 λaA z6=>
 (True)/\
 OP (gK au) λaL=>
 OP (ai .gtr aL (.int .i64 (4000))) λbK=>
 ant P K q1 au aA bK z6
theorem e53:aj P Ea (aT [.tmp 2,.tmp 3] K) (bw [q0]) h=PI P K q0 h:=by kernel_rfl
theorem f53 {K:VK} {q0:Value} {h:ae} (H:PI prog K q0 h):ak prog 53 [q0] h K:=
 bN k53 (bJ rfl) ((e53 prog K q0 h).mpr H)
end
noncomputable section
variable (a0 b1 a2 b3 x4 : Value) (L1 : LQ) (xs : List Value) (h : ae)
def aln:=bE prog 68 [[],[],[2,3,4],[],[],[],[],[2,4],[]]
@[irreducible] def I6:=bM aln
@[irreducible] def axR:=I6.r.r.l.l.l
@[irreducible] def aeQ:=I6.r.r.r
@[irreducible] def axQ:=aeQ.l
theorem k68:aln=some (24,I6,[.cell true 2 4]):=by kernel_rfl
def Oj (_P:Program) (K:VK):ar:=aT [.cell true 2 4] K
def at2:ar:=aH (aj P aeQ (Oj P K)) (Oj P K)
def at3:ar:=bH 0 (at2 P K)
def at4:ar:=aH (λf' aX=>(([2,3,4]:List Nat).map f':List Value)=[a2,b3,x4]/\L1 (([]:List Nat).map f') aX) (at3 P K)
def anW:Prop:=ax (aj P axR (at4 P K a2 b3 x4 L1)) ([2,3,4]++[]) ([a2,b3,x4]++xs) h
def anV:Prop:=ax (aj P axQ (Oj P K)) [2,4] [a2,x4] h
theorem aHN:anW P K a2 b3 x4 L1 [] h=
 (OP (aJ 1 b3) λau=>
 OP (af false 1 h au) λaD=>
 OP (bk aD) λaB=>
 OP (ai .gtr aB (.int .i64 (0))) λaA=>
 aN aA
 (OP (af true 2 h a2) λaL=>
 OP (af true 2 h b3) λbK=>
 ak P 69 [aL,bK] h λaS z1=>
 OP (cD 0 aS) λaK=>
 OP (cD 1 aS) λaU=>
 OH (aV 35 [(.bool false),(.slice none 0 0)] z1) λx5 z2=>
 OH (aV 35 [(.bool false),(.slice none 0 0)] z2) λx6 z3=>
 OH (aG 2 z3 x5 aK) λ_ z4=>
 OH (aG 2 z4 x6 aU) λ_ z5=>
 OP (af true 2 z5 b3) λba=>
 (True)/\
 OP (af true 2 z5 x6) λbO=>
 (True)/\
 OH (aG 2 z5 a2 ba) λ_ z6=>
 (af true 2 z6 x6=some bO/\True)/\
 OH (aG 2 z6 b3 bO) λ_ z7=>
 (True)/\
 ([a2,b3,x4]:List Value)=[a2,b3,x4]/\L1 [] z7)
 (anV P K a2 x4 h)):=az (by kernel_rfl)
theorem aHM:anV P K a2 x4 h=
 (OP (af true 2 h a2) λcB=>
 OH (aG 2 h x4 cB) λ_ z1=>
 OP (af true 2 z1 x4) λr0=>
 K r0 z1):=az (by kernel_rfl)
def PV:Prop:=
 OH (bp 35 h a0) λa2 z1=>
 OH (bp 35 z1 b1) λb3 z2=>
 OH (aV 35 [(.bool false),(.slice none 0 0)] z2) λx4 z3=>
 OP (af true 2 z3 a2) λx7=>
 (True)/\
 ak P 94 [x7] z3 λx8 z4=>
 (True)/\
 OP (af true 2 z4 b3) λx9=>
 (af true 2 z3 b3=some x9/\True)/\
 ak P 94 [x9] z4 λay z5=>
 (True)/\
 OH (aG 2 z5 a2 x8) λ_ z6=>
 (True)/\
 OH (aG 2 z6 b3 ay) λ_ z7=>
 (True)/\
 cO [] z7 λL1 xs hx=>
 anW P K a2 b3 x4 L1 xs hx
theorem e68:aj P I6 (aT [.cell true 2 4] K) (bw [a0,b1]) h=PV P K a0 b1 h:=by kernel_rfl
theorem f68 {K:VK} {a0 b1:Value} {h:ae} (H:PV prog K a0 b1 h):ak prog 68 [a0,b1] h K:=
 bN k68 (bJ rfl) ((e68 prog K a0 b1 h).mpr H)
end
noncomputable section
variable (a0 b1 a2 b3 x4 x5 q6 x7 i8 x9 ay aD aB fJ fc : Value) (L1 L2 : LQ) (xs : List Value) (h : ae)
def alo:=bE prog 69 [[],[],[],[2,3,4,5,6],[7,8],[],[],[],[],[2,3,4,5,6,7,8],[9,10],[],[],[],[],[2,3,4,5,6,7,8,9],[],[2,3,4,5,6,7,8],[2,3,4,5,6,7],[],[3,4,5,12,13,78],[3,4,5,12,13,78,82],[],[],[],[]]
@[irreducible] def I7:=bM alo
@[irreducible] def I9:=I7.r.r.l.r.l.l
@[irreducible] def aeT:=I7.r.r.r
@[irreducible] def axS:=I9.r.l.l.r.r.l.l.l
@[irreducible] def aeR:=I9.r.l.l.r.r.r
@[irreducible] def aeU:=I9.r.r
@[irreducible] def I8:=aeT.l
@[irreducible] def axT:=aeR.l
@[irreducible] def axU:=aeU.l
@[irreducible] def aeS:=I8.r.l.l.r.l
@[irreducible] def axW:=I8.r.l.r
@[irreducible] def axV:=I8.r.r
@[irreducible] def axX:=aeS.r.l
theorem k69:alo=some (92,I7,[.cell true 2 4,.cell true 2 5]):=by kernel_rfl
def DN (_P:Program) (K:VK):ar:=aT [.cell true 2 4,.cell true 2 5] K
def at9:ar:=aH (aj P aeT (DN P K)) (DN P K)
def aua:ar:=bH 0 (at9 P K)
def HD:ar:=aH (λf' aX=>(([2,3,4,5,6]:List Nat).map f':List Value)=[a2,b3,x4,x5,q6]/\L1 (([7,8]:List Nat).map f') aX) (aua P K)
def aub:ar:=aH (aj P aeU (HD P K a2 b3 x4 x5 q6 L1)) (HD P K a2 b3 x4 x5 q6 L1)
def Ok:ar:=bH 1 (aub P K a2 b3 x4 x5 q6 L1)
def at6:ar:=aH (aj P aeR (Ok P K a2 b3 x4 x5 q6 L1)) (Ok P K a2 b3 x4 x5 q6 L1)
def at7:ar:=bH 2 (at6 P K a2 b3 x4 x5 q6 L1)
def at8:ar:=aH (λf' aX=>(([2,3,4,5,6,7,8]:List Nat).map f':List Value)=[a2,b3,x4,x5,q6,x7,i8]/\L2 (([9,10]:List Nat).map f') aX) (at7 P K a2 b3 x4 x5 q6 L1)
def aaM:ar:=aH (aj P axV (DN P K)) (DN P K)
def aaN:ar:=aH (aj P axW (aaM P K)) (aaM P K)
def an2:Prop:=ax (aj P I9 (HD P K a2 b3 x4 x5 q6 L1)) ([2,3,4,5,6]++[7,8]) ([a2,b3,x4,x5,q6]++xs) h
def anX:Prop:=ax (aj P axS (at8 P K a2 b3 x4 x5 q6 x7 i8 L1 L2)) ([2,3,4,5,6,7,8]++[9,10]) ([a2,b3,x4,x5,q6,x7,i8]++xs) h
def anY:Prop:=ax (aj P axT (Ok P K a2 b3 x4 x5 q6 L1)) [2,3,4,5,6,7,8,9] [a2,b3,x4,x5,q6,x7,i8,x9] h
def anZ:Prop:=ax (aj P axU (HD P K a2 b3 x4 x5 q6 L1)) [2,3,4,5,6,7,8] [a2,b3,x4,x5,q6,x7,i8] h
def an0:Prop:=ax (aj P I8 (DN P K)) [2,3,4,5,6,7] [a2,b3,x4,x5,q6,x7] h
def an1:Prop:=ax (aj P aeS (aaN P K)) [3,4,5,12,13,78] [b3,x4,x5,aD,aB,fJ] h
def Gk:Prop:=ax (aj P axX (aaN P K)) [3,4,5,12,13,78,82] [b3,x4,x5,aD,aB,fJ,fc] h
theorem aHO (a2 b3 x4 x5 q6 x7 i8:Value) (L1 L2:LQ) (x9 ay:Value) (h:ae):anX P K a2 b3 x4 x5 q6 x7 i8 L1 L2 [x9,ay] h=
 (OP (ai .sub ay x9) λeJ=>
 OP (ai .gtr eJ (.int .i64 (1))) λdW=>
 aN dW
 (OP (ai .add x9 ay) λbu=>
 OP (ai .quo bu (.int .i64 (2))) λcS=>
 OP (aJ 1 b3) λcI=>
 OP (af false 1 h cI) λgO=>
 ak P 102 [gO,cS] h λfN z1=>
 ak P 101 [fN,x7] z1 λcg z2=>
 OP (ai .leq cg (.int .i64 (0))) λde=>
 aN de
 (([a2,b3,x4,x5,q6,x7,i8]:List Value)=[a2,b3,x4,x5,q6,x7,i8]/\L2 [cS,ay] z2)
 (([a2,b3,x4,x5,q6,x7,i8]:List Value)=[a2,b3,x4,x5,q6,x7,i8]/\L2 [x9,cS] z2))
 (anY P K a2 b3 x4 x5 q6 x7 i8 x9 L1 h)):=az (by kernel_rfl)
theorem aHP:anY P K a2 b3 x4 x5 q6 x7 i8 x9 L1 h=
 (OP (aZ 1 q6 i8) λfO=>
 OH (aG 1 h fO x9) λ_ z1=>
 OP (aJ 1 b3) λjw=>
 OP (af false 1 z1 jw) λfI=>
 ak P 102 [fI,x9] z1 λhO z2=>
 ak P 103 [x7,hO] z2 λkf z3=>
 OP (dC [(.bool false),(.slice none 0 0)] [(1,1,kf)]) λgP=>
 ak P 100 [gP] z3 λjd z4=>
 OP (AP false 1 1 jd) λgC=>
 anZ P K a2 b3 x4 x5 q6 gC i8 L1 z4):=az (by kernel_rfl)
theorem aHQ:anZ P K a2 b3 x4 x5 q6 x7 i8 L1 h=
 (OP (ai .sub i8 (.int .i64 (1))) λcV=>
 ([a2,b3,x4,x5,q6]:List Value)=[a2,b3,x4,x5,q6]/\L1 [x7,cV] h):=az (by kernel_rfl)
theorem aHT (a2 b3 x4 x5 q6:Value) (L1:LQ) (x7 i8:Value) (h:ae):an2 P K a2 b3 x4 x5 q6 L1 [x7,i8] h=
 (OP (ai .geq i8 (.int .i64 (0))) λbL=>
 aN bL
 (OP (aJ 1 a2) λb9=>
 OP (af false 1 h b9) λcG=>
 OP (aZ 1 cG i8) λdm=>
 OP (af false 1 h dm) λcC=>
 OH (dN 3 1 [(.int .i64 (0))] h [(0,1,cC)]) λbV z1=>
 OH (eG 3 1 8 z1 bV x7) λcK z2=>
 OP (dC [(.bool false),(.slice none 0 0)] [(1,1,cK)]) λdw=>
 ak P 100 [dw] z2 λdc z3=>
 OP (AP false 1 1 dc) λer=>
 cO [(.int .i64 (0)),(.int .i64 (10000))] z3 λL2 xs hx=>
 anX P K a2 b3 x4 x5 q6 er i8 L1 L2 xs hx)
 (an0 P K a2 b3 x4 x5 q6 x7 h)):=az (by kernel_rfl)
theorem Xi:Gk P K b3 x4 x5 aD aB fJ fc h=
 (OP (bF fJ fc (.bool false)) λlQ=>
 aN lQ
 (OP (af true 2 h aD) λeB=>
 (True)/\
 ak P 55 [(.int .i64 (1))] h λtX z1=>
 (af true 2 z1 aD=some eB/\True)/\
 ak P 92 [eB,tX] z1 λmj z2=>
 (True)/\
 OP (af true 2 z2 b3) λqA=>
 (af true 2 h b3=some qA/\af true 2 z1 b3=some qA/\True)/\
 OP (af true 2 z2 aB) λgH=>
 (af true 2 h aB=some gH/\af true 2 z1 aB=some gH/\True)/\
 ak P 92 [qA,gH] z2 λiF z3=>
 (True)/\
 OH (aG 2 z3 x4 mj) λ_ z4=>
 (True)/\
 OH (aG 2 z4 x5 iF) λ_ z5=>
 (True)/\
 OP (af true 2 z5 x4) λr0=>
 OP (af true 2 z5 x5) λr1=>
 K (.tuple #[r0,r1]) z5)
 (OP (af true 2 h aD) λlR=>
 (True)/\
 OP (af true 2 h aB) λiU=>
 (True)/\
 OH (aG 2 h x4 lR) λ_ z1=>
 (af true 2 z1 aB=some iU/\True)/\
 OH (aG 2 z1 x5 iU) λ_ z2=>
 (True)/\
 OP (af true 2 z2 x4) λr0=>
 OP (af true 2 z2 x5) λr1=>
 K (.tuple #[r0,r1]) z2)):=az (by kernel_rfl)
theorem aHS:an1 P K b3 x4 x5 aD aB fJ h=
 (ck fJ true
 (OP (aJ 1 aB) λgQ=>
 OP (af false 1 h gQ) λgG=>
 OP (bk gG) λjT=>
 OP (ai .gtr jT (.int .i64 (0))) λfc=>
 Gk P K b3 x4 x5 aD aB fJ fc h)
 (Gk P K b3 x4 x5 aD aB fJ undef h)):=az (by kernel_rfl)
theorem aHR:an0 P K a2 b3 x4 x5 q6 x7 h=
 (OP (aJ 0 a2) λfw=>
 OP (af false 1 h fw) λfU=>
 OP (dC [(.bool false),(.slice none 0 0)] [(0,1,fU),(1,1,q6)]) λiD=>
 ak P 100 [iD] h λkW z1=>
 OP (dC [(.bool false),(.slice none 0 0)] [(1,1,x7)]) λfF=>
 ak P 100 [fF] z1 λkn z2=>
 OH (aV 35 [(.bool false),(.slice none 0 0)] z2) λaD z3=>
 OH (aV 35 [(.bool false),(.slice none 0 0)] z3) λaB z4=>
 OH (aG 2 z4 aD kW) λ_ z5=>
 OH (aG 2 z5 aB kn) λ_ z6=>
 OP (aJ 0 a2) λiE=>
 OP (af false 1 z6 iE) λil=>
 an1 P K b3 x4 x5 aD aB il z6):=az (by kernel_rfl)
def PW:Prop:=
 OH (bp 35 h a0) λa2 z1=>
 OH (bp 35 z1 b1) λb3 z2=>
 OH (aV 35 [(.bool false),(.slice none 0 0)] z2) λx4 z3=>
 OH (aV 35 [(.bool false),(.slice none 0 0)] z3) λx5 z4=>
 OP (aJ 1 a2) λaA=>
 OP (af false 1 z4 aA) λaP=>
 OP (bk aP) λaL=>
 OH (lI 3 8 [(.int .i64 (0))] z4 aL aL) λbK z5=>
 OH (dN 3 0 [(.int .i64 (0))] z5 []) λaS z6=>
 OP (aJ 1 a2) λaK=>
 OP (af false 1 z6 aK) λaU=>
 OP (bk aU) λba=>
 OP (ai .sub ba (.int .i64 (1))) λbO=>
 cO [aS,bO] z6 λL1 xs hx=>
 an2 P K a2 b3 x4 x5 bK L1 xs hx
theorem e69:aj P I7 (aT [.cell true 2 4,.cell true 2 5] K) (bw [a0,b1]) h=PW P K a0 b1 h:=by kernel_rfl
theorem f69 {K:VK} {a0 b1:Value} {h:ae} (H:PW prog K a0 b1 h):ak prog 69 [a0,b1] h K:=
 bN k69 (bJ rfl) ((e69 prog K a0 b1 h).mpr H)
end
end
end Go.Proofs.YtelmdbpaoifmoaaGreat
