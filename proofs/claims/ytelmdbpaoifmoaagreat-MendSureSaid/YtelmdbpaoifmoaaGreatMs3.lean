/-
  Part 3 of the texts behind a statement of this seat: Sim27, Sim30, Sim31, Sim22, ZEvH, Sim28, ZM1, Sp6, Sp13, Sp10, ZMe1, Sp14, Sp15, Sq16, Sq17, ZMe2, ZMe3, ZM4, Sq18, ZMe5, ZM2, Sq19, Sq20, ZMe6, ZLvO, Sim29, Sim32, ZLv1, ZK, ZU.
-/
import Derived.Test.YtelmdbpaoifmoaaGreatProg
import Derived.KernelRfl
import Derived.Test.YtelmdbpaoifmoaaGreatRows
import Derived.Test.YtelmdbpaoifmoaaGreatMs2
open Bool (and_eq_true false_eq_true)
open Classical (byContradiction)
open Go.Proofs.Tryz (prog)
open Int (mul_assoc)
open List (all_append all_eq_true cons_append getD_eq_getElem?_getD getElem?_append_left getElem?_eq_getElem getElem_mem length_cons length_map mem_append mem_cons mem_filter mem_map mem_range replicate take_length)
open Nat (add_zero eq_of_beq_eq_true eq_of_testBit_eq le_refl lt_of_lt_of_le pow_le_pow_right pow_pos testBit_and testBit_or zero_add zero_le)
open Option (bind_some)
namespace Go.Sim
section
inductive Dt (o:Option (List (Value×ae))) (K:Value→ae→Prop):Prop | mk:(∃l,o=some l∧∀p∈l,K p.1 p.2)→Dt o K
inductive Dh (P:Program) (F:FuncId) (args:List Value) (h:ae) (K:Value→ae→Prop):Prop | mk:Sg P F args h K→Dh P F args h K
theorem YL (o:Option (List (Value×ae))) (K:Value→ae→Prop):Dt o K=∃l,o=some l∧∀p∈l,K p.1 p.2:=propext ⟨fun ⟨h⟩=>h,.mk⟩
theorem aob:Dh=Sg:=funext fun _=>funext fun _=>funext fun _=>funext fun _=>funext fun _=>propext ⟨fun ⟨h⟩=>h,.mk⟩
def FT (P:Program) (o:hO) (f:Nat→Value) (h:ae) (K:Value→ae→Prop):Prop:=
 match o with
 | .e (.next it)=>Dt (AO h (ev f it)) K
 | .p o=>FH o (ev f) fun v=>K v h
 | .l o=>OP (fD o (ev f) h) fun v=>K v h
 | .e o=>OH (fY o (ev f) h) K
 | .call g args=>aq P g (args.map (ev f)) h K
 | .lh x args=>sJ P (ev f x) (args.map (ev f)) h K
theorem aEO (P:Program) (o:hO) (f:Nat→Value) (h:ae) (K:Value→ae→Prop):FT P o f h K=CR P o f h K:=by
 cases o with
 | e eo=>cases eo <;> simp only [FT,CR,dc,M8,YL]
 | _=>simp only [FT,CR,dc,UY,Bz,vL,Mn]
def QF (P:Program) (l:List jj) (K:(Nat→Value)→ae→Prop):(Nat→Value)→ae→Prop:=
 List.rec (motive:=fun _=>(Nat→Value)→ae→Prop) (fun f h=>K f h) (fun o _ ih f h=>FT P o.op f h fun v h'=>ih (dK f o.dst v) h') l
theorem awF (P:Program) (l:List jj) (K:(Nat→Value)→ae→Prop):∀(f:Nat→Value) (h:ae),QF P l K f h=BY P l K f h:=by
 induction l with
 | nil=>intro f h;rfl
 | cons o os ih=>
  intro f h
  show FT P o.op f h (fun v h'=>QF P os K (dK f o.dst v) h')=_
  rw [aEO,BY]
  congr 1
  funext v h'
  exact ih _ _
def Tk (P:Program) (g:Option (Nat×Bool)) (l:List jj) (K:(Nat→Value)→ae→Prop) (f:Nat→Value) (h:ae):Prop:=
 match g with
 | none=>QF P l K f h
 | some (s,b)=>cE (f s) b (Eh P l K f h) (K (CY l f) h)
theorem az3 (P:Program) (g:Option (Nat×Bool)) (l:List jj) (K:(Nat→Value)→ae→Prop) (f:Nat→Value) (h:ae):Tk P g l K f h=Kl P g l K f h:=by
 unfold Tk Kl tL
 split <;> simp only [awF,adG,Mo]
noncomputable def iG (P:Program) (c:fc):ar→(Nat→Value)→ae→Prop:=
 fc.rec (motive:=fun _=>ar→(Nat→Value)→ae→Prop)
  (fun K f h=>K .normal f h)
  (fun l K f h=>uF P l 0 [] [] (K .normal) f h)
  (fun g l K f h=>Tk P g l (K .normal) f h)
  (fun _ _ ia ib K f h=>ia (aF (ib K) K) f h)
  (fun ls _ ic K f h=>ax (ic K) ls (ls.map f) h)
  (fun c _ _ ia ib K f h=>aQ (ev f c) (ia K f h) (ib K f h))
  (fun id _ ic K f h=>ic (bI id K) f h)
  (fun ks ls _ ic K f h=>cJ (ls.map f) h fun L xs hx=>ax (ic (aF (fun f' aU=>ks.map f'=ks.map f∧L (ls.map f') aU) K)) (ks++ls) (ks.map f++xs) hx)
  (fun id K f h=>K (.exit id) f h)
  (fun K f h=>K .ret f h)
  (fun g ls c K f h=>BA P (ev f g) ls (ls.map f) c h (K .normal f)) c
theorem ayt (P:Program) (c:fc):iG P c=ma P c:=by
 induction c with
 | skip=>rfl
 | Ix l=>funext K f h;exact IU P l 0 [] [] (K .normal) f h
 | ops g l=>funext K f h;exact az3 P g l (K .normal) f h
 | seq a b sk tB=>
  funext K f h
  show iG P a (aF (iG P b K) K) f h=ma P a (aF (ma P b K) K) f h
  rw [sk,tB]
 | cut ls c ih=>
  funext K f h
  show ax (iG P c K) ls (ls.map f) h=BL (ma P c K) ls (ls.map f) h
  rw [ih,Dj]
 | cond c a b sk tB=>
  funext K f h
  show aQ (ev f c) (iG P a K f h) (iG P b K f h)=pI (ev f c) (ma P a K f h) (ma P b K f h)
  rw [sk,tB,Xh]
 | block id c ih=>
  funext K f h
  show iG P c (bI id K) f h=ma P c (bI id K) f h
  rw [ih]
 | loop ks ls c ih=>
  funext K f h
  show cJ (ls.map f) h (fun L xs hx=>ax (iG P c (aF (fun f' aU=>ks.map f'=ks.map f∧L (ls.map f') aU) K)) (ks++ls) (ks.map f++xs) hx)=
   AH (ls.map f) h (fun L xs hx=>ma P c (aF (fun f' aU=>ks.map f'=ks.map f∧L (ls.map f') aU) K) (kD (ks++ls) (ks.map f++xs)) hx)
  rw [ih,YK,Dj]
  rfl
 | exit id=>rfl
 | ret=>rfl
 | range g ls c=>
  funext K f h
  show BA P (ev f g) ls (ls.map f) c h (K .normal f)=vk P (ev f g) ls (ls.map f) c h (K .normal f)
  rw [YM]
theorem auG {P:Program} {F:FuncId} {N:Nat} {ic:fc} {rs:List kN} {hs:Hints} {h:ae} (hc:bK P F hs=some (N,ic,rs)) {args:List Value} (ha:args.length≤N)
  {K:Value→ae→Prop} (hi:iG P ic (aS rs K) (bG args) h):Dh P F args h K:=
 .mk (ayb hc ha (by rw [←ayt,←Zh];exact hi))
theorem aq2 {l:List (Value×ae)} {K:Value→ae→Prop}:Dt (some l) K↔∀p∈l,K p.1 p.2:=by
 rw [YL]
 constructor
 ·rintro ⟨l',h1,h2⟩;cases h1;exact h2
 ·intro h;exact ⟨l,rfl,h⟩
section gc
variable {P : Program} {F : FuncId} {args : List Value} {h : ae}
theorem auH {K:Value→ae→Prop} {V:Nat→Value} {o:ak} (hV:oQ V) (ho:wV o=true)
  (hc:Dh P F args h fun u h'=>EX h h'∧∃i,h.length≤i∧h'[i]?=some o∧u=V i) (hk:K (V h.length) (h++[o])):aq P F args h K:=by
 rw [vL]
 rw [aob] at hc
 refine ⟨_,_,?_,hk⟩
 intro ρ args' w hv H
 refine (hc ρ args' w hv H).mono ?_
 rintro e w' ⟨u,h',v',av,⟨hex,i,hi,bQ,rfl⟩,rfl,lZ,H',T⟩
 let mS:aI:=fun k=>if k=h.length then av i else ρ k
 have r1:mS h.length=av i:=by simp [mS]
 have r2:∀k,k≠h.length→mS k=ρ k:=fun k hk=>by simp [mS,hk]
 have r3:∀k r,ρ k=some r→av k=some r∧k<h.length∧h'[k]?=h[k]?:=fun k r hr=>⟨T.ext k r hr,H.lt hr,hex.2 k (H.lt hr)⟩
 have old:∀k,k<h.length→(h++[o])[k]?=h[k]?:=fun k hk=>getElem?_append_left hk
 have new:(h++[o])[h.length]?=some o:=by simp
 have hle:ρ.le mS:=by
  intro k r hr
  rw [r2 k (by have:=H.lt hr;omega)]
  exact hr
 have mt:∀k,k<h.length→(cC (h++[o]) k↔cC h' k):=fun k hk=>by unfold cC;rw [old k hk,hex.2 k hk]
 have E6:∀k,k<h.length→(eW (h++[o]) k↔eW h' k):=fun k hk=>by unfold eW;rw [old k hk,hex.2 k hk]
 have S0:cC (h++[o]) h.length↔cC h' i:=by unfold cC;rw [new,bQ]
 have SM:eW (h++[o]) h.length↔eW h' i:=by unfold eW;rw [new,bQ]
 refine ⟨v',mS,rfl,hV av mS i h.length v' r1 lZ,⟨?_,?_,?_⟩,?_⟩
 ·intro k r hr
  by_cases e:k=h.length
  ·subst e
   rw [r1] at hr
   obtain ⟨o',dN,nH⟩:=H'.obj i r hr
   rw [bQ] at dN
   cases dN
   exact ⟨o,new,wV.rel ho nH⟩
  ·rw [r2 k e] at hr
   obtain ⟨q1,q2,q3⟩:=r3 k r hr
   obtain ⟨o',dN,nH⟩:=H.obj k r hr
   obtain ⟨o2,EC,RE⟩:=H'.obj k r q1
   rw [q3,dN] at EC
   cases EC
   exact ⟨o',by rw [old k q2];exact dN,(nH.down T.ext RE).mono hle rfl⟩
 ·intro a b r s ha hb ng hm hl
  by_cases ea:a=h.length <;> by_cases eb:b=h.length
  ·omega
  ·subst ea
   rw [r1] at ha
   rw [r2 b eb] at hb
   obtain ⟨q1,q2,q3⟩:=r3 b s hb
   have:=H'.inj i b r s ha q1 ng (S0.1 hm) ((E6 b q2).1 hl)
   omega
  ·subst eb
   rw [r1] at hb
   rw [r2 a ea] at ha
   obtain ⟨q1,q2,q3⟩:=r3 a r ha
   have:=H'.inj a i r s q1 hb ng ((mt a q2).1 hm) (SM.1 hl)
   omega
  ·rw [r2 a ea] at ha
   rw [r2 b eb] at hb
   obtain ⟨q1,q2,_⟩:=r3 a r ha
   obtain ⟨p1,p2,_⟩:=r3 b s hb
   exact H'.inj a b r s q1 p1 ng ((mt a q2).1 hm) ((E6 b p2).1 hl)
 ·intro k r hr
  by_cases e:k=h.length
  ·subst e
   rw [r1] at hr
   exact H'.aV i r hr
  ·rw [r2 k e] at hr
   exact H.aV k r hr
 ·exact {
   ext:=hle
   len:=by simp
   jN:=fun k r hr=>H.lt hr
   kinds:=fun k hk hm=>by unfold cC at hm⊢;rw [old k hk] at hm;exact hm
   fresh:=by
    intro k r hr hn
    by_cases e:k=h.length
    ·subst e
     rw [r1] at hr
     have eC:ρ i=none:=by
      cases hq:ρ i with
      | none=>rfl
      | some q=>exact absurd (H.lt hq) (by omega)
     exact ⟨le_refl _,(T.fresh i r hr eC).2⟩
    ·rw [r2 k e] at hr
     rw [hr] at hn
     cases hn
   iX:=T.iX
   iC:=T.iC
   os:=T.os
   tape:=T.tape
   output:=T.output }
end gc
end
section
theorem EX.load {h h':ae} (k:EX h h') {agg:Bool} {n:Nat} {a v:Value} (hl:af agg n h a=some v):af agg n h' a=some v:=by
 unfold af at hl⊢
 split at hl
 ·rename_i i o
  cases hc:aR h i with
  | none=>rw [hc] at hl;cases hl
  | some xs=>rw [hc] at hl;rw [k.cells hc];exact hl
 ·cases hl
theorem fk (i:Nat) (h:i<4611686018427387904):IntKind.wrap .i64 ((i:Int)+1)=((i+1:Nat):Int):=by
 rw [wrap64 (by omega) (by omega)];omega
@[simp] theorem b9 (o i k : Nat) : aJ o (pt i k) = some (pt i (k + o)) := rfl
@[simp] theorem AP (i k : Nat) : tA (pt i k) = some (pt i k) := rfl
def p5 (ps:List (Int×Int)):List Value:=ps.flatMap fun p=>[I p.1,I p.2]
theorem KV:∀{ps:List (Int×Int)} {k:Nat} {p:Int×Int},ps[k]?=some p→(p5 ps)[2*k]?=some (I p.1)∧(p5 ps)[2*k+1]?=some (I p.2)
 | [],k,p,h=>by simp at h
 | q::ps,0,p,h=>by simp at h;subst h;simp [p5]
 | q::ps,k+1,p,h=>by
  have:=KV (ps:=ps) (k:=k) (p:=p) (by simpa using h)
  rw [show 2*(k+1)=2*k+1+1 by omega]
  simpa [p5] using this
theorem ale (ps:List (Int×Int)):(p5 ps).length=2*ps.length:=by
 induction ps with
 | nil=>rfl
 | cons p ps ih=>simp only [p5,List.flatMap_cons,List.length_append,length_cons,List.length_nil] at ih⊢;omega
structure PS (h:ae) (v:Value) (ps:List (Int×Int)):Prop where
 len:bc v=some (I ps.length)
 get:∀k (hk:k<ps.length),∃i o,aY 2 v (I k)=some (pt i o)∧af false 1 h (pt i o)=some (I ps[k].1)∧af false 1 h (pt i (o+1))=some (I ps[k].2)∧
  af true 2 h (pt i o)=some (.agg #[I ps[k].1,I ps[k].2])
theorem PS.mono {h h':ae} {v:Value} {ps:List (Int×Int)} (k:EX h h') (p:PS h v ps):PS h' v ps:=
 ⟨p.len,fun j hj=>let ⟨i,o,a,b,c,d⟩:=p.get j hj;⟨i,o,a,EX.load k b,EX.load k c,EX.load k d⟩⟩
theorem PS.nil (h:ae):PS h (.slice none 0 0) []:=⟨rfl,fun k hk=>by simp at hk⟩
theorem PS.sl {h:ae} {e:TypeId} {i:Nat} {ps:List (Int×Int)} (hc:aR h i=some (p5 ps)):PS h (sl e i 0 ps.length) ps:=by
 refine ⟨rfl,fun k hk=>⟨i,2*k,?_,?_,?_,?_⟩⟩
 ·have:(0:Int)≤(k:Int)∧(k:Int)<(ps.length:Int):=by omega
  simp [Go.Sim.sl,aY,this,Nat.mul_comm]
 ·obtain ⟨g1,g2⟩:=KV (getElem?_eq_getElem hk)
  simp [af,hc,cm,g1]
 ·obtain ⟨g1,g2⟩:=KV (getElem?_eq_getElem hk)
  simp [af,hc,cm,g2]
 ·obtain ⟨g1,g2⟩:=KV (getElem?_eq_getElem hk)
  have hl:=ale ps
  have:((p5 ps).drop (2*k)).take 2=[I ps[k].1,I ps[k].2]:=by
   apply List.ext_getElem?
   intro j
   rw [List.getElem?_take]
   match j with
   | 0=>simpa using g1
   | 1=>simpa using g2
   | j+2=>simp;omega
  have h2:2*k+2≤(p5 ps).length:=by omega
  simp [af,hc,cm,this,h2]
def fU (b:Nat) (hx:ae) (e:TypeId) (v:Value) (xs:List Value):Prop:=
 (v=.slice none 0 0∧xs=[])∨(∃i,b≤i∧v=sl e i 0 xs.length∧hx[i]?=some (.arr e xs))
theorem OM {h0 hx:ae} {e:TypeId} {bytes:Nat} {v x z:Value} {xs:List Value} {K:Value→ae→Prop} (o:fU h0.length hx e v xs) (hex:EX h0 hx) (hb:(xs.length+1)*bytes≤140737488355328) (hm:xs.length+1≤maxLen)
  (h1:fP x=true) (h2:cR x=[x]) (hk:∀v' bY,EX h0 bY→fU h0.length bY e v' (xs++[x])→K v' bY):
  OH (cZ e 1 [z] hx [(0,1,x)]) fun a h2=>OH (dI e 1 bytes h2 v a) K:=by
 have e1:cZ e 1 [z] hx [(0,1,x)]=some (sl e hx.length 0 1,hx++[.arr e [x]]):=by
  simp [cZ,qw,gy,h1,h2,setAt]
 rw [e1]
 simp only [aE]
 have e2:j8 (hx++[.arr e [x]]) 1 (sl e hx.length 0 1)=some [x]:=by simp [j8,sl,aR]
 have e3:pe (sl e hx.length 0 1)=some 1:=rfl
 rcases o with ⟨rfl,rfl⟩ | ⟨i,hi,rfl,bQ⟩
 ·refine By (v:=sl e (hx.length+1) 0 1) (h:=hx++[.arr e [x]]++[.arr e [x]]) ?_ (hk _ _ ((hex.push _).push _) (.inr ⟨hx.length+1,by have:=hex.1;omega,rfl,by simp⟩))
  have kQ:1*bytes≤140737488355328:=by simpa using hb
  have gp:1≤maxLen:=by simpa using hm
  simp only [dI,e2,e3]
  rw [if_neg (by omega),if_pos ⟨kQ,gp⟩]
  simp
 ·have aB:=(bL bQ).1
  have hg:(hx++[.arr e [x]])[i]?=some (.arr e xs):=by rw [getElem?_append_left aB];exact bQ
  refine By (v:=sl e (hx.length+1) 0 (xs.length+1)) (h:=(hx++[ak.arr e [x]]).set i ak.dead++[ak.arr e (xs++[x])]) ?_
   (hk _ _ (((hex.push _).set hi _).push _) (.inr ⟨hx.length+1,by have:=hex.1;omega,by simp,?_⟩))
  ·simp only [dI,e2,e3]
   simp only [sl,hg]
   rw [if_pos ⟨trivial,trivial,by simp,hb,hm⟩,if_neg (by omega)]
   simp
  ·rw [List.getElem?_append_right (by simp)]
   simp
theorem ze {b:Nat} {hx:ae} {e:TypeId} {v:Value} {l:List UInt8} (o:fU b hx e v (l.map cv)):se hx v=some (S l):=by
 have hm:∀l:List UInt8,(l.map cv).mapM DD=some l:=by
  intro l
  induction l with
  | nil=>rfl
  | cons c l ih=>simp [List.mapM_cons,DD,ih]
 rcases o with ⟨rfl,hx⟩ | ⟨i,hi,rfl,bQ⟩
 ·have:l=[]:=by simpa using hx
  subst this
  rfl
 ·by_cases hl:l=[]
  ·subst hl
   simp [se,j8,sl]
  ·have hn:l.length≠0:=by simpa using hl
   have hn':¬(l.map cv).length=0:=by simpa using hl
   have ht:((l.map cv).drop 0).take ((l.map cv).length*1)=l.map cv:=by rw [List.drop_zero,Nat.mul_one,take_length]
   simp only [se,j8,sl,if_neg hn',aR,bQ,bind_some]
   rw [if_pos (by omega),ht,bind_some,hm]
   rfl
structure SS (h:ae) (v:Value) (ls:List (List UInt8)):Prop where
 len:bc v=some (I ls.length)
 get:∀k (hk:k<ls.length),∃i o,aY 1 v (I k)=some (pt i o)∧af false 1 h (pt i o)=some (S ls[k])
theorem SS.mono {h h':ae} {v:Value} {ls:List (List UInt8)} (k:EX h h') (p:SS h v ls):SS h' v ls:=
 ⟨p.len,fun j hj=>let ⟨i,o,a,b⟩:=p.get j hj;⟨i,o,a,EX.load k b⟩⟩
theorem SS.sl {h:ae} {e:TypeId} {i:Nat} {ls:List (List UInt8)} (hc:aR h i=some (ls.map S)):SS h (sl e i 0 ls.length) ls:=by
 refine ⟨rfl,fun k hk=>⟨i,k,?_,?_⟩⟩
 ·have:(0:Int)≤(k:Int)∧(k:Int)<(ls.length:Int):=by omega
  simp [Go.Sim.sl,aY,this]
 ·simp [af,hc,cm,hk]
theorem min2 (a b:Int):wJ false [I a,I b]=some (I (min a b)):=by
 simp only [wJ,List.foldlM,max2,false_eq_true,if_false]
 have:(if b<a then b else a)=min a b:=by split <;> omega
 rw [this]
 rfl
theorem azx (a b:Int):wJ true [I a,I b]=some (I (max a b)):=by
 simp only [wJ,List.foldlM,max2,if_true]
 have:(if b>a then b else a)=max a b:=by split <;> omega
 rw [this]
 rfl
theorem nL {h:ae} {e:TypeId} {xs:List Value} {j:Nat} {v:Value} (hj:xs[j]?=some v):af false 1 (h++[.arr e xs]) (pt h.length j)=some v:=by
 simp [af,aR,cm,hj]
theorem amS {v x:Value} (h:bc v=some x):fP v=true∧cR v=[v]:=by
 unfold bc at h
 split at h
 ·exact ⟨rfl,rfl⟩
 ·cases h
theorem NS.AD {h:ae} {v:Value} {l:List Nat} (p:NS h v .i64 (l.map fun i:Nat=>(i:Int))):bc v=some (I l.length):=by have:=p.len;rwa [length_map] at this
def CX (h h':ae):Prop:=∀d cs,aR h d=some cs→aR h' d=some cs
theorem CX.refl (h:ae):CX h h:=fun _ _ h=>h
theorem CX.load {h h':ae} (k:CX h h') {agg:Bool} {n:Nat} {a v:Value} (hl:af agg n h a=some v):af agg n h' a=some v:=by
 unfold af at hl⊢
 split at hl
 ·rename_i i o
  cases hc:aR h i with
  | none=>rw [hc] at hl;cases hl
  | some xs=>rw [hc] at hl;rw [k _ _ hc];exact hl
 ·cases hl
theorem PS.AM {h h':ae} {v:Value} {ps:List (Int×Int)} (k:CX h h') (p:PS h v ps):PS h' v ps:=
 ⟨p.len,fun j hj=>let ⟨i,o,a,b,c,d⟩:=p.get j hj;⟨i,o,a,k.load b,k.load c,k.load d⟩⟩
theorem NS.AM {h h':ae} {v:Value} {k:IntKind} {ns:List Int} (e:CX h h') (p:NS h v k ns):NS h' v k ns:=
 ⟨p.len,fun j hj=>let ⟨i,o,a,b⟩:=p.get j hj;⟨i,o,a,e.load b⟩,p.le⟩
def XM (im:Nat) (h h':ae):Prop:=h.length≤h'.length∧∀d,d<h.length→d≠im→h'[d]?=h[d]?
theorem XM.refl (im:Nat) (h:ae):XM im h h:=⟨le_refl _,fun _ _ _=>rfl⟩
theorem XM.trans {im:Nat} {a b c:ae} (h:XM im a b) (k:XM im b c):XM im a c:=⟨Nat.le_trans h.1 k.1,fun d h1 h2=>(k.2 d (lt_of_lt_of_le h1 h.1) h2).trans (h.2 d h1 h2)⟩
theorem XM.ex {im:Nat} {a b:ae} (h:EX a b):XM im a b:=⟨h.1,fun d h1 _=>h.2 d h1⟩
theorem XM.set {im:Nat} {a b:ae} (h:XM im a b) (o:ak):XM im a (b.set im o):=⟨by simpa using h.1,fun d h1 h2=>by rw [List.getElem?_set_ne (by omega)];exact h.2 d h1 h2⟩
theorem XM.get {im:Nat} {a b:ae} (h:XM im a b) {d:Nat} {o:ak} (hd:d≠im) (hg:a[d]?=some o):b[d]?=some o:=by
 rw [h.2 d (bL hg).1 hd];exact hg
theorem uX {h:ae} {d:Nat} {v:Value} (hc:aR h d=some [v]):af false 1 h (pt d 0)=some v:=by
 simp [af,hc,cm]
@[simp] theorem fx (a b : Value) : (#[a, b] : Array Value)[0]? = some a := rfl
@[simp] theorem fF (a b : Value) : (#[a, b] : Array Value)[1]? = some b := rfl
theorem bZ {h:ae} {o:ak}:(h++[o])[h.length]?=some o:=by simp
theorem aEw (xs:List Value) (o:Nat) (v:Value) (ho:o<xs.length):setAt xs o [v]=xs.set o v:=by
 unfold setAt
 rw [List.set_eq_take_append_cons_drop,if_pos ho]
 simp
theorem pj {h:ae} {i o:Nat} {e:TypeId} {xs:List Value} {v:Value} (hg:h[i]?=some (.arr e xs)) (ho:o<xs.length) (h1:fP v=true) (h2:cR v=[v]):aK 1 h (pt i o) v=some (undef,h.set i (.arr e (xs.set o v))):=by
 simp only [aK,qU,hg,h1,h2,aEw _ _ _ ho]
 rw [if_pos ⟨trivial,rfl,by omega⟩]
 rfl
theorem fU.one {b:Nat} {hx:ae} {e:TypeId} {v:Value} {xs:List Value} (o:fU b hx e v xs):fP v=true∧cR v=[v]:=by
 rcases o with ⟨rfl,_⟩ | ⟨i,_,rfl,_⟩ <;> exact ⟨rfl,rfl⟩
theorem Dz {b:Nat} {hx:ae} {e:TypeId} {bytes:Nat} {v x z:Value} {xs:List Value} {K:Value→ae→Prop} (o:fU b hx e v xs) (hb:(xs.length+1)*bytes≤140737488355328) (hm:xs.length+1≤maxLen)
  (h1:fP x=true) (h2:cR x=[x]) (hk:∀h1 bY,h1=hx++[.arr e [x]]→bY.length=hx.length+2→(∀d,d<hx.length→(∀n,v≠sl e d 0 n)→bY[d]?=hx[d]?)→bY[hx.length+1]?=some (.arr e (xs++[x]))→OH (some (sl e (hx.length+1) 0 (xs.length+1),bY)) K):
  OH (cZ e 1 [z] hx [(0,1,x)]) fun a h2=>OH (dI e 1 bytes h2 v a) K:=by
 have e1:cZ e 1 [z] hx [(0,1,x)]=some (sl e hx.length 0 1,hx++[.arr e [x]]):=by
  simp [cZ,qw,gy,h1,h2,setAt]
 rw [e1]
 simp only [aE]
 have e2:j8 (hx++[.arr e [x]]) 1 (sl e hx.length 0 1)=some [x]:=by simp [j8,sl,aR]
 have e3:pe (sl e hx.length 0 1)=some 1:=rfl
 rcases o with ⟨rfl,rfl⟩ | ⟨i,hi,rfl,bQ⟩
 ·have kQ:1*bytes≤140737488355328:=by simpa using hb
  have gp:1≤maxLen:=by simpa using hm
  have e4:dI e 1 bytes (hx++[.arr e [x]]) (.slice none 0 0) (sl e hx.length 0 1)=some (sl e (hx.length+1) 0 1,hx++[.arr e [x]]++[.arr e [x]]):=by
   simp only [dI,e2,e3]
   rw [if_neg (by omega),if_pos ⟨kQ,gp⟩]
   simp
  rw [e4]
  refine hk _ _ rfl (by simp) (fun d hd _=>by rw [getElem?_append_left (by simp;omega),getElem?_append_left hd]) (by rw [List.getElem?_append_right (by simp)];simp)
 ·have aB:=(bL bQ).1
  have hg:(hx++[.arr e [x]])[i]?=some (.arr e xs):=by rw [getElem?_append_left aB];exact bQ
  have e4:dI e 1 bytes (hx++[.arr e [x]]) (sl e i 0 xs.length) (sl e hx.length 0 1)=some (sl e (hx.length+1) 0 (xs.length+1),(hx++[ak.arr e [x]]).set i ak.dead++[ak.arr e (xs++[x])]):=by
   simp only [dI,e2,e3]
   simp only [sl,hg]
   rw [if_pos ⟨trivial,trivial,by simp,hb,hm⟩,if_neg (by omega)]
   simp
  rw [e4]
  refine hk _ _ rfl (by simp) (fun d hd bm=>?_) (by rw [List.getElem?_append_right (by simp)];simp)
  have pL:i≠d:=by rintro rfl;exact bm _ rfl
  rw [getElem?_append_left (by simp;omega),List.getElem?_set_ne pL,getElem?_append_left hd]
theorem VM {e e':TypeId} {i i' o o' n n':Nat} (h:sl e i o n=sl e' i' o' n'):i=i'∧n=n':=by
 unfold sl at h
 injection h with h1 h2
 injection h1 with h1
 injection h1 with h1
 exact ⟨h1,h2⟩
theorem fU.dR {b:Nat} {g g':ae} {e:TypeId} {v:Value} {xs:List Value} (o:fU b g e v xs) (h:∀d n,v=sl e d 0 n→b≤d→g'[d]?=g[d]?):fU b g' e v xs:=by
 rcases o with ⟨h1,h2⟩ | ⟨i,h1,h2,h3⟩
 ·exact .inl ⟨h1,h2⟩
 ·exact .inr ⟨i,h1,h2,by rw [h i _ h2 h1];exact h3⟩
theorem fU.lt {b:Nat} {g:ae} {e:TypeId} {v:Value} {xs:List Value} {d n:Nat} (o:fU b g e v xs) (h:v=sl e d 0 n):b≤d∧d<g.length∧g[d]?=some (.arr e xs):=by
 rcases o with ⟨h1,_⟩ | ⟨i,h1,h2,h3⟩
 ·rw [h1] at h;cases h
 ·rw [h2] at h
  obtain ⟨rfl,_⟩:=VM h
  exact ⟨h1,(bL h3).1,h3⟩
theorem nz {e:TypeId} {id n j:Nat} (hj:j<n):aY 1 (sl e id 0 n) (I j)=some (pt id j):=by
 have:(0:Int)≤(j:Int)∧(j:Int)<(n:Int):=by omega
 simp [sl,aY,this]
theorem cU {h:ae} {i:Nat} {o o':ak} (hg:h[i]?=some o'):(h.set i o)[i]?=some o:=by
 rw [List.getElem?_set_self (bL hg).1]
theorem Ij {P:Program} {F:FuncId} {cap:Array Value} {args:List Value} {h:ae} {K:Value→ae→Prop} (hF:qp P F=true) (hc:aq P F (args++cap.toList) h K):sJ P (.func (.func F) #[] cap) args h K:=by
 rw [vL] at hc
 exact ⟨⟨hF,by simpa using hc⟩⟩
theorem CX.trans {a b c:ae} (h:CX a b) (k:CX b c):CX a c:=fun d cs hd=>k d cs (h d cs hd)
theorem CX.ex {a b:ae} (h:EX a b):CX a b:=fun _ _ hd=>h.cells hd
theorem CX.mj {g:ae} {im mw pH:Nat} {k k':fM} {es ko:List (Nat×Value×Value)} (hg:g[im]?=some (.df k mw es)):CX g (g.set im (.df k' pH ko)):=by
 intro d cs hd
 by_cases e:d=im
 ·subst e;simp [aR,hg] at hd
 ·unfold aR at hd⊢
  rw [List.getElem?_set_ne (fun x=>e x.symm)]
  exact hd
end
section
theorem XM.cx {im:Nat} {a b:ae} (h:XM im a b) {kd:IntKind} {es:List (Int×Value)} (hm:a[im]?=some (.eP kd es)):CX a b:=by
 intro d cs hc
 have hd:d≠im:=by
  rintro rfl
  simp [aR,hm] at hc
 have hl:d<a.length:=by
  apply byContradiction
  intro cL
  rw [aR,List.getElem?_eq_none (by omega)] at hc
  cases hc
 simpa [aR,h.2 d hl hd] using hc
theorem XM.FW {im:Nat} {a h h':ae} (k:EX a h) (iQ:a.length≤im) (x:XM im h h'):EX a h':=
 ⟨Nat.le_trans k.1 x.1,fun d hd=>by rw [x.2 d (lt_of_lt_of_le hd k.1) (by omega)];exact k.2 d hd⟩
def IS (h:ae) (e:TypeId) (aV:Nat) (v:Value) (cs:List Value) (n:Nat):Prop:=
 cs.length=n*aV∧((v=.slice none 0 0∧n=0)∨∃i,v=sl e i 0 n∧(n=0∨aR h i=some cs))
theorem IS.mono {h h':ae} {e:TypeId} {aV:Nat} {v:Value} {cs:List Value} {n:Nat} (k:EX h h') (p:IS h e aV v cs n):IS h' e aV v cs n:=
 ⟨p.1,p.2.imp id fun ⟨i,a,b⟩=>⟨i,a,b.imp id fun b=>k.cells b⟩⟩
theorem IS.len {h:ae} {e:TypeId} {aV:Nat} {v:Value} {cs:List Value} {n:Nat} (p:IS h e aV v cs n):bc v=some (I n):=by
 rcases p.2 with ⟨rfl,rfl⟩ | ⟨i,rfl,_⟩ <;> rfl
theorem IS.part {h:ae} {e:TypeId} {aV:Nat} {v:Value} {cs:List Value} {n m:Nat} (p:IS h e aV v cs n) (hm:m≤n):
  ∃v',mJ e aV v none (some (I m))=some v'∧j8 h aV v'=some (cs.take (m*aV))∧pe v'=some m:=by
 obtain ⟨hl,hv⟩:=p
 rcases hv with ⟨rfl,rfl⟩ | ⟨i,rfl,hc⟩
 ·have:m=0:=by omega
  subst this
  exact ⟨.slice none 0 0,rfl,by simp [j8],rfl⟩
 ·refine ⟨sl e i 0 m,?_,?_,rfl⟩
  ·have h1:(0:Int)≤(m:Int):=by omega
   simp [mJ,sl,sf,tI,h1,hm]
  ·simp only [j8,sl]
   by_cases h0:m=0
   ·rw [if_pos h0,h0];simp
   ·have hc:=hc.resolve_left (by omega)
    have hle:m*aV≤n*aV:=Nat.mul_le_mul_right _ hm
    rw [if_neg h0,hc,bind_some,if_pos (by omega)]
    simp
def Gn (h:ae) (e:TypeId) (v:Value) (ps:List (Int×Int)):Prop:=IS h e 2 v (p5 ps) ps.length
theorem Gn.ps {h:ae} {e:TypeId} {v:Value} {ps:List (Int×Int)} (p:Gn h e v ps):PS h v ps:=by
 rcases p.2 with ⟨rfl,h0⟩ | ⟨i,rfl,hc⟩
 ·have:ps=[]:=List.length_eq_zero_iff.1 h0
  subst this
  exact PS.nil h
 ·by_cases h0:ps.length=0
  ·have:ps=[]:=List.length_eq_zero_iff.1 h0
   subst this
   exact ⟨rfl,fun k hk=>by simp at hk⟩
  ·exact PS.sl (hc.resolve_left h0)
def Xg (h:ae) (e:TypeId) (k:IntKind) (v:Value) (ns:List Int):Prop:=IS h e 1 v (ns.map (Value.int k)) ns.length
theorem Xg.ns {h:ae} {e:TypeId} {k:IntKind} {v:Value} {ns:List Int} (p:Xg h e k v ns) (hl:ns.length≤maxLen):NS h v k ns:=by
 rcases p.2 with ⟨rfl,h0⟩ | ⟨i,rfl,hc⟩
 ·have:ns=[]:=List.length_eq_zero_iff.1 h0
  subst this
  exact NS.nil h k
 ·exact NS.sl (hc.imp (fun h=>List.length_eq_zero_iff.1 h) id) hl
theorem PS.arr {h:ae} {e:TypeId} {i:Nat} {ps:List (Int×Int)} (hg:h[i]?=some (.arr e (p5 ps))):PS h (Go.Sim.sl e i 0 ps.length) ps:=PS.sl (by simp [aR,hg])
theorem NS.arr {h:ae} {e:TypeId} {i:Nat} {k:IntKind} {ns:List Int} (hg:h[i]?=some (.arr e (ns.map (Value.int k)))) (hl:ns.length≤maxLen):NS h (Go.Sim.sl e i 0 ns.length) k ns:=NS.sl (.inr (by simp [aR,hg])) hl
end
section
abbrev Gl:=Option (Exit×(Nat→Value)×ae)
abbrev kY:=Fn→List Value→ae→Option (Value×ae)
def LR:Value→Value→Bool
 | .int k a,.int k' b=>decide (k=k')&&decide (a=b)
 | .bool a,.bool b=>a==b
 | .string s,.string t=>decide (bytes s=bytes t)
 | .pointer (some ⟨i,o,none⟩),.pointer (some ⟨j,p,none⟩)=>Nat.beq i j&&Nat.beq o p
 | .slice none a b,.slice none c d=>Nat.beq a c&&Nat.beq b d
 | .slice (some ⟨i,o,some e⟩) a b,.slice (some ⟨j,p,some e'⟩) c d=>Nat.beq i j&&Nat.beq o p&&Nat.beq e e'&&Nat.beq a c&&Nat.beq b d
 | _,_=>false
theorem anm {a b:Value} (h:LR a b=true):a=b:=by
 unfold LR at h
 split at h
 ·simp at h;rw [h.1,h.2]
 ·simp at h;rw [h]
 ·rename_i s t
  simp at h
  have:=Ff s
  rw [h,Ff] at this
  rw [this]
 ·simp only [and_eq_true] at h
  rw [eq_of_beq_eq_true h.1,eq_of_beq_eq_true h.2]
 ·simp only [and_eq_true] at h
  rw [eq_of_beq_eq_true h.1,eq_of_beq_eq_true h.2]
 ·simp only [and_eq_true] at h
  obtain ⟨⟨⟨⟨h1,h2⟩,h3⟩,h4⟩,h5⟩:=h
  rw [eq_of_beq_eq_true h1,eq_of_beq_eq_true h2,eq_of_beq_eq_true h3,eq_of_beq_eq_true h4,eq_of_beq_eq_true h5]
 ·cases h
def yH:List Value→List Value→Bool
 | [],[]=>true
 | x::xs,y::ys=>LR x y&&yH xs ys
 | _,_=>false
theorem C0:∀{xs ys:List Value},yH xs ys=true→xs=ys
 | [],[],_=>rfl
 | x::xs,y::ys,h=>by
  simp only [yH,and_eq_true] at h
  rw [anm h.1,C0 h.2]
 | [],_::_,h=>by cases h
 | _::_,[],h=>by cases h
def LP:Value→Value→Bool
 | .agg xs,.agg ys=>yH xs.toList ys.toList
 | a,b=>LR a b
theorem ann {a b:Value} (h:LP a b=true):a=b:=by
 unfold LP at h
 split at h
 ·rw [Array.ext' (C0 h)]
 ·exact anm h
def vg (P:Program) (call:kY) (io:hO) (f:Nat→Value) (h:ae):Option (Value×ae):=
 match io with
 | .p o=>match jx o (ev f) with | some v=>some (v,h) | none=>none
 | .l o=>match fD o (ev f) h with | some v=>some (v,h) | none=>none
 | .e o=>fY o (ev f) h
 | .call g args=>call (.func g) (args.map (ev f)) h
 | .lh x args=>
  match ev f x with
  | .func (.func g) first cap=>if qp P g=true then call (.func g) (first.toList++args.map (ev f)++cap.toList) h else none
  | .func (.yield i) first cap=>if first.size=0∧cap.size=0 then call (.yield i) (args.map (ev f)) h else none
  | _=>none
structure sI (P:Program) (call:kY):Prop where
 fn:∀F args h v h',call (.func F) args h=some (v,h')→xt P F args h v h'
 yi:∀i args h v h',call (.yield i) args h=some (v,h')→Ms P i args h v h'
section
variable {P : Program} {call : kY} (HC : sI P call)
include HC
theorem Fq {io:hO} {f:Nat→Value} {h h':ae} {v:Value} {K:Value→ae→Prop} (he:vg P call io f h=some (v,h')) (hk:K v h'):dc P io f h K:=by
 cases io with
 | p o=>
  simp only [vg] at he
  split at he
  ·rename_i u hu
   simp at he
   obtain ⟨rfl,rfl⟩:=he
   simp [dc,fE,hu,hk]
  ·cases he
 | l o=>
  simp only [vg] at he
  split at he
  ·rename_i u hu
   simp at he
   obtain ⟨rfl,rfl⟩:=he
   simp [dc,fE,hu,hk]
  ·cases he
 | e o=>
  simp only [vg] at he
  simp [dc,nO,he,hk]
 | call g args=>exact ⟨v,h',HC.fn _ _ _ _ _ he,hk⟩
 | lh x args=>
  simp only [vg] at he
  simp only [dc,uu]
  split at he
  ·rename_i g first cap hx
   rw [hx]
   split at he
   ·rename_i m8
    exact ⟨m8,v,h',HC.fn _ _ _ _ _ he,hk⟩
   ·cases he
  ·rename_i i first cap hx
   rw [hx]
   split at he
   ·rename_i hs
    exact ⟨⟨Array.eq_empty_of_size_eq_zero hs.1,Array.eq_empty_of_size_eq_zero hs.2⟩,v,h',HC.yi _ _ _ _ _ he,hk⟩
   ·cases he
  ·cases he
end
def BX (P:Program) (call:kY):List jj→(Nat→Value)→ae→Option ((Nat→Value)×ae)
 | [],f,h=>some (f,h)
 | o::os,f,h=>match vg P call o.op f h with | some (v,h')=>BX P call os (dK f o.dst v) h' | none=>none
def Tj (P:Program) (call:kY) (g:Option (Nat×Bool)) (l:List jj) (f:Nat→Value) (h:ae):Option ((Nat→Value)×ae):=
 match g with
 | none=>BX P call l f h
 | some (s,b)=>match f s with
  | .bool c=>if (c==b)=true then BX P call l f h else some (CY l f,h)
  | .complex _ _ _=>none
  | _=>some (CY l f,h)
def FE (pre:Nat) (lo:pC) (f:Nat→Value) (v:Value):List (Nat×ae)→Bool
 | []=>true
 | (e,H)::r=>if pre.testBit e=true then FE pre lo f v r else (match fD lo (ev f) H with | some u=>LP u v | none=>false)&&FE pre lo f v r
def zx (pre:Nat) (H:ae):eK→Bool
 | []=>true
 | (j,lo,f,v)::r=>if pre.testBit j=true then zx pre H r else (match fD lo (ev f) H with | some u=>LP u v | none=>false)&&zx pre H r
theorem UW {pre:Nat} {lo:pC} {f:Nat→Value} {v:Value}:∀{l:List (Nat×ae)},FE pre lo f v l=true→xE pre lo f v l
 | [],_=>trivial
 | (e,H)::r,h=>by
  simp only [FE] at h
  simp only [xE]
  split at h
  ·rename_i hb;rw [if_pos hb];exact UW h
  ·rename_i hb
   rw [if_neg hb]
   simp only [and_eq_true] at h
   refine ⟨?_,UW h.2⟩
   have h1:=h.1
   split at h1
   ·rename_i u hu;rw [hu,ann h1]
   ·cases h1
theorem zy {pre:Nat} {H:ae}:∀{l:eK},zx pre H l=true→lP pre H l
 | [],_=>trivial
 | (j,lo,f,v)::r,h=>by
  simp only [zx] at h
  simp only [lP]
  split at h
  ·rename_i hb;rw [if_pos hb];exact zy h
  ·rename_i hb
   rw [if_neg hb]
   simp only [and_eq_true] at h
   refine ⟨?_,zy h.2⟩
   have h1:=h.1
   split at h1
   ·rename_i u hu;rw [hu,ann h1]
   ·cases h1
abbrev Xe:=Option (List (Nat×ae)×eK×(Nat→Value)×ae)
def vY (P:Program) (call:kY):List km→Nat→List (Nat×ae)→eK→(Nat→Value)→ae→Xe
 | [],_,aN,aG,f,h=>some (aN,aG,f,h)
 | o::os,j,aN,aG,f,h=>
  match vg P call o.op f h with
  | some (v,h')=>
   match o.op with
   | .p _=>vY P call os (j+1) aN aG (dK f o.dst v) h'
   | .l lo=>if FE o.pre lo f v aN=true then vY P call os (j+1) aN (aG++[(j,lo,f,v)]) (dK f o.dst v) h' else none
   | .e (.fl _)=>
    match er h' v with
    | some u=>if zx o.pre h' aG=true then vY P call os (j+1) (aN++[(j,h)]) (aG++[(j,.obj (.const v),f,u)]) (dK f o.dst v) h' else none
    | none=>none
   | _=>if zx o.pre h' aG=true then vY P call os (j+1) (aN++[(j,h)]) aG (dK f o.dst v) h' else none
  | none=>none
def BV:List km→Nat→List (Nat×ae)→eK→(Nat→Value)→ae→Xe
 | [],_,aN,aG,f,h=>some (aN,aG,f,h)
 | o::os,j,aN,aG,f,h=>
  match o.op.dJ with
  | false=>BV os (j+1) aN aG (dK f o.dst undef) h
  | true=>if zx o.pre h aG=true then BV os (j+1) (aN++[(j,h)]) aG (dK f o.dst undef) h else none
def zA (P:Program) (call:kY):List (Option (Nat×Bool)×List km)→Nat→List (Nat×ae)→eK→(Nat→Value)→ae→Option ((Nat→Value)×ae)
 | [],_,_,_,f,h=>some (f,h)
 | (none,l)::gs,j,aN,aG,f,h=>
  match vY P call l j aN aG f h with
  | some (aN,aG,f,h)=>zA P call gs (j+l.length) aN aG f h
  | none=>none
 | (some (s,b),l)::gs,j,aN,aG,f,h=>
  match f s with
  | .bool c=>
   match (if (c==b)=true then vY P call l j aN aG f h else BV l j aN aG f h) with
   | some (aN,aG,f,h)=>zA P call gs (j+l.length) aN aG f h
   | none=>none
  | _=>none
section
variable {P : Program} {call : kY} (HC : sI P call)
include HC in
theorem QE:∀{l:List jj} {f f':Nat→Value} {h h':ae} {K:(Nat→Value)→ae→Prop},BX P call l f h=some (f',h')→K f' h'→xT P l K f h
 | [],f,f',h,h',K,he,hk=>by simp [BX] at he;obtain ⟨rfl,rfl⟩:=he;exact hk
 | o::os,f,f',h,h',K,he,hk=>by
  simp only [BX] at he
  split at he
  ·rename_i v h1 ho
   exact Fq HC ho (QE he hk)
  ·cases he
include HC in
theorem az2 {g:Option (Nat×Bool)} {l:List jj} {f f':Nat→Value} {h h':ae} {K:(Nat→Value)→ae→Prop} (he:Tj P call g l f h=some (f',h')) (hk:K f' h'):tL P g l K f h:=by
 cases g with
 | none=>exact QE HC he hk
 | some sb=>
  obtain ⟨s,b⟩:=sb
  simp only [Tj] at he
  simp only [tL,kP]
  split at he
  ·rename_i c hc
   rw [hc]
   simp only
   split at he
   ·rename_i hb;rw [if_pos hb];exact QE HC he hk
   ·rename_i hb;rw [if_neg hb];simp at he;obtain ⟨rfl,rfl⟩:=he;exact hk
  ·cases he
  ·rename_i h1 h2
   simp at he
   obtain ⟨rfl,rfl⟩:=he
   split
   ·rename_i c hc;exact absurd hc (h1 c)
   ·rename_i a b c hc;exact absurd hc (h2 a b c)
   ·exact hk
include HC in
theorem xS:∀{l:List km} {j:Nat} {aN pM:List (Nat×ae)} {aG pg:eK} {f f':Nat→Value} {h h':ae} {K:List (Nat×ae)→eK→(Nat→Value)→ae→Prop},
  vY P call l j aN aG f h=some (pM,pg,f',h')→K pM pg f' h'→oU P l j aN aG K f h
 | [],j,aN,pM,aG,pg,f,f',h,h',K,he,hk=>by simp [vY] at he;obtain ⟨rfl,rfl,rfl,rfl⟩:=he;exact hk
 | o::os,j,aN,pM,aG,pg,f,f',h,h',K,he,hk=>by
  simp only [vY] at he
  simp only [oU]
  split at he
  ·rename_i v h1 ho
   cases cY:o.op with
   | p po=>
    rw [cY] at ho he
    simp only at he
    have:=Fq (K:=fun v h'=>oU P os (j+1) aN aG K (dK f o.dst v) h') HC ho (xS he hk)
    simp only [lC]
    simp only [dc] at this
    simp only [vg] at ho
    split at ho
    ·rename_i u hu
     simp at ho
     obtain ⟨rfl,rfl⟩:=ho
     exact this
    ·cases ho
   | l lo=>
    rw [cY] at ho he
    simp only at he
    split at he
    ·rename_i hp
     simp only [vg] at ho
     split at ho
     ·rename_i u hu
      simp at ho
      obtain ⟨rfl,rfl⟩:=ho
      simp only [lC,fE,hu]
      exact ⟨UW hp,xS he hk⟩
     ·cases ho
    ·cases he
   | e eo=>
    cases eo with
    | fl a=>
     rw [cY] at ho he
     simp only at he
     split at he
     ·rename_i u hu
      split at he
      ·rename_i hp
       simp only [vg] at ho
       simp only [lC,ho,nO,hu,fE]
       exact ⟨zy hp,xS he hk⟩
      ·cases he
     ·cases he
    | _=>
    rw [cY] at ho he
    simp only at he
    split at he
    ·rename_i hp
     exact Fq (io:=.e _) (K:=fun v h'=>lP o.pre h' aG∧oU P os (j+1) (aN++[(j,h)]) aG K (dK f o.dst v) h') HC ho ⟨zy hp,xS he hk⟩
    ·cases he
   | call g args=>
    rw [cY] at ho he
    simp only at he
    split at he
    ·rename_i hp
     exact Fq (io:=.call g args) (K:=fun v h'=>lP o.pre h' aG∧oU P os (j+1) (aN++[(j,h)]) aG K (dK f o.dst v) h') HC ho ⟨zy hp,xS he hk⟩
    ·cases he
   | lh x args=>
    rw [cY] at ho he
    simp only at he
    split at he
    ·rename_i hp
     exact Fq (io:=.lh x args) (K:=fun v h'=>lP o.pre h' aG∧oU P os (j+1) (aN++[(j,h)]) aG K (dK f o.dst v) h') HC ho ⟨zy hp,xS he hk⟩
    ·cases he
  ·cases he
theorem Qx:∀{l:List km} {j:Nat} {aN pM:List (Nat×ae)} {aG pg:eK} {f f':Nat→Value} {h h':ae} {K:List (Nat×ae)→eK→(Nat→Value)→ae→Prop},
  BV l j aN aG f h=some (pM,pg,f',h')→K pM pg f' h'→vZ l j aN aG K f h
 | [],j,aN,pM,aG,pg,f,f',h,h',K,he,hk=>by simp [BV] at he;obtain ⟨rfl,rfl,rfl,rfl⟩:=he;exact hk
 | o::os,j,aN,pM,aG,pg,f,f',h,h',K,he,hk=>by
  simp only [BV] at he
  simp only [vZ,xO]
  cases ho:o.op.dJ with
  | false=>rw [ho] at he;exact Qx he hk
  | true=>
   rw [ho] at he
   simp only at he
   split at he
   ·rename_i hp;exact ⟨zy hp,Qx he hk⟩
   ·cases he
include HC in
theorem IT:∀{gs:List (Option (Nat×Bool)×List km)} {j:Nat} {aN:List (Nat×ae)} {aG:eK} {f f':Nat→Value} {h h':ae} {K:(Nat→Value)→ae→Prop},
  zA P call gs j aN aG f h=some (f',h')→K f' h'→od P gs j aN aG K f h
 | [],j,aN,aG,f,f',h,h',K,he,hk=>by simp [zA] at he;obtain ⟨rfl,rfl⟩:=he;exact hk
 | (none,l)::gs,j,aN,aG,f,f',h,h',K,he,hk=>by
  simp only [zA] at he
  simp only [od]
  split at he
  ·rename_i hs ls f1 h1 hr
   exact xS HC hr (IT he hk)
  ·cases he
 | (some (s,b),l)::gs,j,aN,aG,f,f',h,h',K,he,hk=>by
  simp only [zA] at he
  simp only [od,kP]
  split at he
  ·rename_i c hc
   rw [hc]
   simp only
   split at he
   ·rename_i hs ls f1 h1 hr
    split at hr
    ·rename_i hb;rw [if_pos hb];exact xS HC hr (IT he hk)
    ·rename_i hb;rw [if_neg hb];exact Qx hr (IT he hk)
   ·cases he
  ·cases he
end
def AG (body:(Nat→Value)→ae→Gl) (ls:List Nat):Nat→List Value→ae→Gl
 | 0,_,_=>none
 | n+1,xs,h=>match body (kD ls xs) h with
  | some (.normal,f',h')=>AG body ls n (ls.map f') h'
  | r=>r
def Sm (h:ae) (i:Nat):Bool:=match h[i]? with | some (.loop _ _ _)=>true | _=>false
def JK (h:ae) (i:Nat):Bool:=match h[i]? with | some .dead=>true | _=>false
noncomputable def lR (P:Program) (call:kY) (n:Nat) (c:fc):(Nat→Value)→ae→Gl:=
 fc.rec (motive:=fun _=>(Nat→Value)→ae→Gl)
  (fun f h=>some (.normal,f,h))
  (fun l f h=>match zA P call l 0 [] [] f h with | some (f',h')=>some (.normal,f',h') | none=>none)
  (fun g l f h=>match Tj P call g l f h with | some (f',h')=>some (.normal,f',h') | none=>none)
  (fun _ _ ea eb f h=>match ea f h with | some (.normal,f',h')=>eb f' h' | r=>r)
  (fun ls _ ec f h=>ec (kD ls (ls.map f)) h)
  (fun c _ _ ea eb f h=>match ev f c with | .bool true=>ea f h | .bool false=>eb f h | _=>none)
  (fun id _ ec f h=>match ec f h with | some (.exit i,f',h')=>if i=id then some (.normal,f',h') else some (.exit i,f',h') | r=>r)
  (fun ks ls _ ec f h=>match ks with | []=>AG ec ls n (ls.map f) h | _=>none)
  (fun id f h=>some (.exit id,f,h))
  (fun f h=>some (.ret,f,h))
  (fun g ls c f h=>match ev f g with
   | .func (.func F) first cap=>
    if qp P F=true then
     match call (.func F) (first.toList++[.func (.yield h.length) #[] #[]]++cap.toList) (h++[.loop c ls (ls.map f)]) with
     | some (_,h')=>if Sm h' h.length=true then some (.normal,f,h'.set h.length .dead) else none
     | none=>none
    else none
   | _=>none) c
theorem azl {p:Nat→Prop}:∀n,p n→∃m,p m∧∀k,p k→m≤k:=by
 intro n
 induction n using Nat.strongRecOn with
 | _ n ih=>
  intro hn
  by_cases h:∃m,m<n∧p m
  ·obtain ⟨m,h1,h2⟩:=h;exact ih m h1 h2
  ·exact ⟨n,hn,fun k hk=>Nat.le_of_not_lt fun aB=>h ⟨k,aB,hk⟩⟩
theorem ayr {h:ae} {i:Nat} (hl:Sm h i=true):∃c ls vs,h[i]?=some (.loop c ls vs):=by
 unfold Sm at hl
 split at hl
 ·rename_i c ls vs hh;exact ⟨c,ls,vs,hh⟩
 ·cases hl
theorem afy {h:ae} {i:Nat} (hl:JK h i=true):h[i]?=some .dead:=by
 unfold JK at hl
 split at hl
 ·assumption
 ·cases hl
theorem Qa {P:Program} {call:kY} (HC:sI P call) {n:Nat} {c:fc}:∀{f f':Nat→Value} {h h':ae} {e:Exit} {K:ar},lR P call n c f h=some (e,f',h')→K e f' h'→jf P c K f h:=by
 induction c with
 | skip=>intro f f' h h' e K he hk;simp [lR] at he;obtain ⟨rfl,rfl,rfl⟩:=he;exact hk
 | Ix l=>
  intro f f' h h' e K he hk
  simp only [lR] at he
  split at he
  ·rename_i f1 h1 hg
   simp at he
   obtain ⟨rfl,rfl,rfl⟩:=he
   exact IT HC hg hk
  ·cases he
 | ops g l=>
  intro f f' h h' e K he hk
  simp only [lR] at he
  split at he
  ·rename_i f1 h1 hg
   simp at he
   obtain ⟨rfl,rfl,rfl⟩:=he
   exact az2 HC hg hk
  ·cases he
 | seq a b sk tB=>
  intro f f' h h' e K he hk
  have fK:(match lR P call n a f h with | some (.normal,f',h')=>lR P call n b f' h' | r=>r)=some (e,f',h'):=he
  show jf P a (aF (jf P b K) K) f h
  split at fK
  ·rename_i f1 h1 h2
   exact sk h2 (tB fK hk)
  ·rename_i h1
   refine sk fK ?_
   cases e <;> first | exact hk | exact absurd fK (h1 _ _)
 | cut ls c ih=>intro f f' h h' e K he hk;exact ih (K:=K) he hk
 | cond c a b sk tB=>
  intro f f' h h' e K he hk
  have fK:(match ev f c with | .bool true=>lR P call n a f h | .bool false=>lR P call n b f h | _=>none)=some (e,f',h'):=he
  rw [afD]
  split at fK
  ·rename_i hc;rw [hc];exact sk fK hk
  ·rename_i hc;rw [hc];exact tB fK hk
  ·cases fK
 | block id c ih=>
  intro f f' h h' e K he hk
  have fK:(match lR P call n c f h with | some (.exit i,f',h')=>if i=id then some (.normal,f',h') else some (.exit i,f',h') | r=>r)=some (e,f',h'):=he
  show jf P c (bI id K) f h
  split at fK
  ·rename_i i f1 h1 h2
   refine ih h2 ?_
   simp only [bI]
   split at fK
   ·rename_i iQ;simp at fK;obtain ⟨rfl,rfl,rfl⟩:=fK;rw [if_pos iQ];exact hk
   ·rename_i iQ;simp at fK;obtain ⟨rfl,rfl,rfl⟩:=fK;rw [if_neg iQ];exact hk
  ·rename_i h1
   refine ih fK ?_
   cases e with
   | exit i=>exact absurd fK (h1 _ _ _)
   | _=>exact hk
 | loop ks ls c ih=>
  intro f f' h h' e K he hk
  cases ks with
  | cons k ks=>cases he
  | nil=>
   have fK:AG (lR P call n c) ls n (ls.map f) h=some (e,f',h'):=he
   show AH (ls.map f) h fun L xs hx=>jf P c (aF (fun f' aU=>([]:List Nat).map f'=[].map f∧L (ls.map f') aU) K) (kD ([]++ls) (([]:List Nat).map f++xs)) hx
   let J:List Value→ae→Prop:=fun ys hy=>∃m,AG (lR P call n c) ls m ys hy=some (e,f',h')
   have least:∀ys hy,J ys hy→∃m,AG (lR P call n c) ls m ys hy=some (e,f',h')∧∀k,AG (lR P call n c) ls k ys hy=some (e,f',h')→m≤k:=fun ys hy ⟨m,hm⟩=>azl m hm
   classical
   let μ:List Value→ae→Nat:=fun ys hy=>if hJ:J ys hy then Classical.choose (least ys hy hJ) else 0
   refine ⟨J,μ,⟨n,fK⟩,?_⟩
   intro xs hx hJ
   have Ah:=Classical.choose_spec (least xs hx hJ)
   have hμ:μ xs hx=Classical.choose (least xs hx hJ):=dif_pos hJ
   rw [←hμ] at Ah
   obtain ⟨h1,h2⟩:=Ah
   generalize μ xs hx=m at h1 h2
   cases m with
   | zero=>cases h1
   | succ m=>
    simp only [AG] at h1
    simp only [List.map_nil,List.nil_append]
    split at h1
    ·rename_i f1 g1 hb
     refine ih hb ?_
     refine ⟨trivial,⟨m,h1⟩,?_⟩
     have B1:J (ls.map f1) g1:=⟨m,h1⟩
     have dT:=Classical.choose_spec (least _ _ B1)
     have ax9:μ (ls.map f1) g1=Classical.choose (least _ _ B1):=dif_pos B1
     rw [ax9]
     exact Nat.lt_succ_of_le (dT.2 m h1)
    ·rename_i hn
     refine ih h1 ?_
     cases e with
     | normal=>exact absurd h1 (hn _ _)
     | _=>exact hk
 | exit id=>intro f f' h h' e K he hk;simp [lR] at he;obtain ⟨rfl,rfl,rfl⟩:=he;exact hk
 | ret=>intro f f' h h' e K he hk;simp [lR] at he;obtain ⟨rfl,rfl,rfl⟩:=he;exact hk
 | range g ls c=>
  intro f f' h h' e K he hk
  simp only [lR] at he
  show vk P (ev f g) ls (ls.map f) c h (K .normal f)
  unfold vk
  split at he
  ·rename_i F first cap hg
   rw [hg]
   split at he
   ·rename_i m8
    split at he
    ·rename_i v h1 hc
     split at he
     ·rename_i hl
      simp at he
      obtain ⟨rfl,rfl,rfl⟩:=he
      exact ⟨m8,v,h1,HC.fn _ _ _ _ _ hc,ayr hl,hk⟩
     ·cases he
    ·cases he
   ·cases he
  ·cases he
theorem Lf:∀{rs:List kN} {f:Nat→Value} {h:ae} {vs:List Value} {k:List Value→Prop},pc rs f h=some vs→k vs→w7 rs f h k
 | [],f,h,vs,k,he,hk=>by simp [pc] at he;subst he;exact hk
 | .tmp t::rs,f,h,vs,k,he,hk=>by
  simp only [pc,yv] at he
  split at he
  ·rename_i v jS h1 h2
   simp only [Option.some.injEq] at h1 he
   subst h1
   subst he
   exact Lf (rs:=rs) h2 hk
  ·cases he
 | .cell agg n a::rs,f,h,vs,k,he,hk=>by
  simp only [pc,yv] at he
  split at he
  ·rename_i v jS h1 h2
   simp at he
   subst he
   simp only [w7,fE,h1]
   exact Lf h2 hk
  ·cases he
end
end Go.Sim
namespace Go.Proofs.YtelmdbpaoifmoaaGreat
open Go.Sim
section
def evH:FuncId→Hints
 | 11=>[[],[],[],[],[0,3,4],[0,3,4,12],[0,3,4,12,14],[],[],[],[],[],[0,3,4,5,6],[0,3,4,5,6,32],[0,3,4,5,6,32,34],[],[],[],[0,3,4,5],[0,3,4],[3],[]]
 | 12=>[[],[],[],[],[1,7,25],[1,7,25,32],[],[],[],[],[],[],[],[],[]]
 | 13=>[[],[],[],[],[0,3,4],[],[],[],[],[],[0,3,4,5,6],[],[],[],[],[],[0,3,4,5],[0,3,4,5,44],[0,3,4,5,44,51],[],[],[],[],[],[0,3,4,5,7],[],[],[],[0,3,4,5,7,8,82],[0,3,4,5,7,8,82,86],[0,3,4,5,7,8,88],[0,3,4,5,7,8,88,98],[0,3,4,5,7,8,88,98,102],[0,3,4,5,7,8,88,103],[],[0,3,4,5,7],[0,3,4,5],[],[0,3,4],[0,3],[],[3],[]]
 | 14=>[[],[],[],[],[],[],[],[3,4,5,6,8,9,10,11,12,46],[4,5,6,8,9,10,11,12,46,48],[4,5,6,8,9,10,11,12,50],[5,6,8,9,10,11,12,50,52],[5,6,8,9,10,11,12,54],[6,8,9,10,11,12,54,58],[6,8,9,10,11,12,60],[8,9,10,11,12,60,62],[8,9,10,11,12,64],[9,10,11,12,64,66],[9,10,11,12,68],[10,11,12,68,70],[10,11,12,72],[11,12,72,74],[11,12,76],[12,76,78],[12,80],[80,82],[]]
 | 15=>[[],[],[],[],[],[1,2,4,6,7,8,9],[],[],[],[],[],[1,2,4,6,7,8,9],[4,6,7],[]]
 | 16=>[[],[],[0,5,13],[13,16],[]]
 | 17=>[[],[]]
 | 18=>[[],[],[],[],[],[],[]]
 | 19=>[[],[],[],[],[],[],[],[],[],[0,7,9,10,11],[],[],[],[],[],[0,7,9,10,11,12,32,33,34],[],[],[],[],[],[],[9,10],[]]
 | 20=>[[],[]]
 | 21=>[[],[],[],[],[],[],[]]
 | 22=>[[],[],[],[],[0,1,2,3,8,9,10,11],[],[],[],[],[0,1,2,3,8,9,10,11],[0,1,2,3,8,9,10],[],[],[],[],[],[],[0,1,2,3,8,9,10,14,15,16],[],[],[0,1,2,3,8,9,10,14,15,16,17],[],[],[0,1,2,3,8,9,10,14,15,16,17,74],[0,1,2,3,8,9,10,14,15,16,17,74,76],[0,1,2,3,8,9,10,14,15,16,17,74,76,79],[0,1,2,3,8,9,10,14,15,16,17,74,80],[],[],[],[],[],[],[],[0,1,2,3,8,9,10,14,15,16,17,18,19,20,21],[],[],[0,1,2,3,8,9,10,14,15,16,17,21,146],[0,1,2,3,8,9,10,14,15,16,17,21,146,150],[],[0,1,2,3,8,9,10,14,15,16,17],[3,8,9,14],[],[]]
 | 23=>[[],[],[],[],[1,3,4],[],[],[],[3],[]]
 | 24=>[[],[],[]]
 | 25=>[[],[],[],[],[]]
 | 26=>[[],[]]
 | 27=>[[],[]]
 | 28=>[[],[],[]]
 | 29=>[[],[]]
 | 30=>[[],[],[1,2],[]]
 | 31=>[[],[],[],[],[],[],[],[],[8,20,21,22],[],[],[],[],[8],[]]
 | 32=>[[],[],[],[],[],[],[],[],[6,8,20,21,22],[],[],[],[],[8],[]]
 | 33=>[[],[],[],[0,1,5],[],[],[0,1,5,23],[0,1,5,23,30],[],[],[],[0,1],[],[],[0,1,6],[],[],[],[],[],[0,1],[0,1,77],[0,1,77,80],[],[],[],[],[],[],[0,1,7,8],[],[],[],[],[0,1,7,8,9],[],[],[],[0,1,7,8,9],[0,1,7,8],[7],[]]
 | 34=>[[],[],[],[],[0,1,5,6,7],[],[],[],[],[],[0,1,5,6,7,8,9,10,11],[],[],[],[],[],[0,1,5,6,7,8,9,10,11,12,13],[0,1,5,6,7,8,9,10,11,12,13,39],[0,1,5,6,7,8,9,10,11,12,13,39,40],[],[],[0,1,5,6,7,8,9,10,11,13,49],[0,1,5,6,7,8,9,10,11,13,49,57],[],[0,1,5,6,7,8,9,10,11,12],[],[],[],[0,1,5,6,7,8,9,10,11,14,15,70],[0,1,5,6,7,8,9,10,11,14,15,70,77],[],[],[0,1,5,6,7,8,9,10,11],[0,1,5,6,7,8],[],[],[],[0,1,5,6,7,8,16,17],[],[],[],[0,1,5,6,7,8,16,17],[0,1,5,6,7,8,16],[6],[]]
 | 35=>[[],[],[],[],[],[],[0,1,5],[],[],[],[],[],[],[]]
 | 36=>[[],[],[],[],[0,1,6,7,8],[],[],[],[0,1,6,7,8],[6,7],[]]
 | 37=>[[],[],[],[],[0,1,2,3,10,11,12],[0,1,2,3,10,11,12,22],[0,1,2,3,10,11,12,22,25],[],[],[],[1,10,11],[],[1,10,11],[],[],[1,10,11,13],[1,10,11,13,63],[1,10,11,13,63,65],[],[],[],[],[],[],[1,10,11,13],[10,11],[]]
 | 38=>[[],[],[],[0,3],[],[],[],[],[],[],[]]
 | 39=>[[],[],[],[],[0,1,2,7,8],[],[],[0,1,2,7,8,24],[0,1,2,7,8,24,32],[0,1,2,7,8,34],[0,1,2,7,8,34,43],[],[],[],[],[0,2],[]]
 | 40=>[[],[],[],[],[0,1,5,6,7],[],[],[],[],[6],[]]
 | 41=>[[],[],[],[],[],[],[],[],[],[],[],[6,8,25,26,27],[],[],[],[6,8,9,10,25,26,27,34],[6,8,9,10,25,26,27,34,42],[],[],[],[],[6,8],[],[],[],[],[]]
 | 42=>[[],[],[],[],[0,1,5,6,7],[],[],[],[],[],[],[0,1,5,6,7],[6],[]]
 | 43=>[[],[],[],[],[0,4,11,12,13],[],[],[],[],[],[],[],[],[0,4],[0,4,38],[4,38,41],[],[],[],[],[],[4,43,44,45],[],[],[],[4,10,43,44,45,53],[4,10,43,44,45,53,57],[4,10,43,44,45,59],[4,10,43,44,45,59,63],[4,10,43,44,45,65],[4,10,43,44,45,65,69],[4,10,43,44,45,71],[4,10,43,44,45,71,81],[],[],[],[4,10,43,44,45,86],[4,43,44,45,86,91],[],[],[],[4],[]]
 | 44=>[[],[],[],[],[],[1,2,4,6,7,8,9,10],[],[],[],[],[],[1,2,4,6,7,8,9,10,11,52],[1,2,4,6,7,8,9,10,11,52,56],[],[1,2,4,6,7,8,9,10],[4,6,7],[]]
 | 45=>[[],[],[],[],[],[],[1,4],[],[],[],[],[],[],[],[]]
 | 46=>[[],[0,2,10],[10,13],[]]
 | 47=>[[],[],[],[],[0,1,5,6],[],[],[],[],[0,1,5,6],[],[],[0,1,5,6],[],[]]
 | 48=>[[],[],[],[],[],[],[],[]]
 | 49=>[[],[0,1,9],[9,13],[]]
 | 50=>[[],[],[],[],[2,4,5,6],[],[],[],[4,5],[]]
 | 51=>[[],[]]
 | 52=>[[],[]]
 | 53=>[[],[],[],[1,4,5,18],[1,4,5,18,21],[],[],[],[],[4,5],[],[4],[]]
 | 54=>[[],[],[2,3,4],[]]
 | 55=>[[],[],[],[0,2,3],[],[],[],[],[0,2,3,4],[],[2,3],[]]
 | 56=>[[],[]]
 | 57=>[[],[],[],[],[],[],[],[],[0,2,3,5,8,11,31,32,33],[],[],[],[],[0,2,3,5,8,11,31,32,33],[0,2,3,5,8,11],[],[],[],[0,2,3,5,8,11,14,15,50,51,52],[],[],[],[0,2,3,5,8,11,14,15,16,17,50,51,52,61],[0,2,3,5,8,11,14,15,16,17,50,51,52,61,66],[],[],[],[],[],[],[],[],[0,2,3,5,8,11,14,15,21,50,51,52],[0,2,3,5,8,11,14,15,21,50,51,52,119],[0,2,3,5,8,11,14,15,21,50,51,52,119,123],[],[0,2,3,5,8,11,14,15,50,51,52],[3,5,8,14],[],[]]
 | 58=>[[],[],[],[],[2,3,7,8],[],[],[],[],[2,3],[]]
 | 59=>[[],[],[0,1,6,18],[0,1,6,18,20],[0,1,6,22],[0,1,6,22,25],[],[],[],[],[],[],[1,6,7,32,33,34],[],[],[],[1,6,7,9,32,33,34,41],[1,6,7,9,32,33,34,41,44],[1,6,7,9,32,33,34,46],[1,6,7,9,32,33,34,46,49],[1,6,7,9,32,33,34,51],[1,6,7,32,33,34,51,54],[],[],[],[1,6,7],[],[],[6,7,57,58,59],[],[],[],[6,7,11,57,58,59,69],[6,7,11,57,58,59,69,76],[6,7,11,57,58,59,78],[6,7,11,57,58,59,78,83],[],[],[],[],[6,7],[],[],[],[6,7,12,99,100],[],[],[],[],[6,7,12,99,100,102,103],[],[],[],[],[6,7,12,99,100,102,103],[6,7,12,99,100],[7,12],[]]
 | 60=>[[],[],[],[],[],[]]
 | 61=>[[],[]]
 | 62=>[[],[],[],[],[0,5,9,10,11],[],[],[],[],[5],[]]
 | 63=>[[],[0,1,2,11],[11,21],[]]
 | 64=>[[],[]]
 | 65=>[[],[],[],[],[],[3,5,6,11,12,13],[],[],[],[],[],[],[3,5,6,7,9,11,12,13,32],[3,5,6,7,9,11,12,13,32,36],[],[3,5,6,11,12,13],[5],[]]
 | 66=>[[],[],[],[],[],[0,4,5,6,7,8],[0,4,5,6,7,8,22],[0,4,5,6,7,8,22,24],[],[],[],[4,5,6,7],[],[],[],[4,5,6,7,9],[],[],[],[4,5,6,7],[],[],[4,5,6,7,10],[],[],[],[],[4,5],[]]
 | 67=>[[],[],[],[],[],[2,4,5,21],[2,4,5,21,24],[],[2,4,5],[],[],[],[2,4,5,6,7],[],[],[],[2,4,5,6,7],[2,4,5,6],[],[],[],[],[],[],[],[2,5,8,9,10],[2,5,8,10,82],[2,5,8,10,82,84],[2,5,8,10,82,84,88],[2,5,8,10,82,89],[],[],[],[],[2,8,10],[]]
 | 68=>[[],[],[],[2,3,4],[],[],[],[2,4],[]]
 | 69=>[[],[],[],[],[2,3,4,5,6,7,8],[],[],[],[],[],[2,3,4,5,6,7,8,9,10],[],[],[],[],[2,3,4,5,6,7,8,9],[],[2,3,4,5,6,7,8],[2,3,4,5,6,7],[],[3,4,5,12,13,78],[3,4,5,12,13,78,82],[],[],[],[]]
 | 70=>[[],[],[],[],[],[],[],[]]
 | 71=>[[],[],[],[],[2,3,4,5,6],[],[],[],[],[],[2,3,4,5,6,7,8],[2,3,4,5,6,7,8,31],[2,3,4,5,6,7,8,31,33],[],[],[],[],[2,3,4,5,6,8,9],[2,3,4,5,6,7,8],[2,3,4,5,6],[2,3,4,5],[]]
 | 72=>[[],[]]
 | 73=>[[],[],[],[],[0,3,18,19],[],[],[],[],[],[],[0,3,4,18,19,27,28,29],[],[],[],[],[0,3,4,18,19,27,28,29],[0,3,18,19],[0,3],[],[],[],[0,3,7,8],[],[],[],[],[],[0,3,7,8,9,54],[],[],[],[0,3,7,8,9,10,54,64],[0,3,7,8,9,10,54,64,67],[],[],[],[],[0,3,7,8,9,11,12,13,54,89],[0,3,7,8,9,11,12,13,54,89,92],[],[],[0,3,7,8,9],[7],[]]
 | 74=>[[],[],[],[],[0,3,5],[],[],[],[],[0,3,5],[3],[]]
 | 75=>[[],[]]
 | 76=>[[],[],[],[],[0,5,9,10,11],[],[],[],[],[5],[]]
 | 77=>[[],[]]
 | 78=>[[],[],[],[],[4,9,10,11],[],[],[],[],[],[],[],[],[4],[]]
 | 79=>[[],[],[],[],[0,1,5,6],[],[],[],[0,1,5,6],[5],[]]
 | 80=>[[],[],[],[],[4,10,11,12],[],[],[],[],[],[],[],[],[4],[]]
 | 81=>[[],[]]
 | 82=>[[],[]]
 | 83=>[[],[1,6],[6,9],[]]
 | 84=>[[],[1,2,12],[12,19],[]]
 | 85=>[[],[],[],[],[4,5,12,13,14],[],[],[],[],[4,5],[]]
 | 86=>[[],[]]
 | 87=>[[],[2,3,4,7],[2,3,4,7,9],[],[],[],[]]
 | 88=>[[],[2,3,4,7],[2,3,4,7,9],[],[],[],[]]
 | 89=>[[],[],[],[],[],[],[0,3],[],[],[],[],[],[3,4,5,6],[3,4,5,6,20],[3,4,5,6,20,24],[3,4,5,6,20,24,26],[3,4,5,6,20,27],[],[],[],[],[3,4],[3],[],[]]
 | 90=>[[],[1,8],[8,14],[]]
 | 91=>[[],[],[],[0,1,5],[0,1,5,10],[0,1,5,10,14],[],[],[],[],[],[0,1],[]]
 | 92=>[[],[]]
 | 93=>[[],[],[],[],[],[],[],[1,3,4],[],[],[],[],[],[3],[],[3],[],[],[3],[]]
 | 94=>[[],[],[]]
 | 95=>[[],[1,2,6],[1,2,6,10],[],[]]
 | 96=>[[],[]]
 | 97=>[[],[],[],[],[],[],[],[],[],[0,1,2,3,8,9,27,28,29],[],[],[],[],[],[],[0,1,2,3,8,9,12,27,28,29,55],[0,1,2,3,8,9,12,27,28,29,55,58],[],[0,1,2,3,8,9,27,28,29],[0,1,8],[],[]]
 | 98=>[[],[]]
 | 99=>[[],[0,2,11],[0,2,11,14],[0,2,16],[0,2,16,20],[0,2,16,20,23],[0,2,16,24],[],[],[],[],[],[],[0,2,4,5],[],[],[],[],[],[0,2,4,5,6,7],[],[],[0,2,4,5,6,7,46],[0,2,4,5,6,7,46,50],[],[],[],[],[0,2,4,5,6],[0,2,4,5],[2,4],[]]
 | 100=>[[],[],[],[1,2,3],[1,2,3,9],[1,2,3,9,16],[],[],[1,2,3],[],[1,2,3,29],[1,2,29,31],[],[]]
 | 101=>[[],[],[],[],[],[],[],[],[],[0,1,5],[],[],[],[],[],[],[],[],[],[]]
 | 102=>[[],[]]
 | 103=>[[],[],[],[],[0,1,5,6,7],[],[],[],[],[0,1,5,7,8],[],[],[0,1,5,6,7,8],[0,1,5,6,7],[5],[]]
 | 104=>[[],[],[],[],[0,1,5,6,7],[0,1,5,6,7,14],[0,1,5,6,7,14,18],[0,1,5,6,7,20],[0,1,5,6,7,20,22],[],[],[],[],[0,1,5,7,8],[],[0,1,5,7,8],[0,1,5,6,7],[5],[]]
 | 105=>[[],[],[],[0,2,3],[]]
 | 106=>[[],[],[2,3,4],[],[],[],[],[],[],[]]
 | 107=>[[],[]]
 | 108=>[[],[],[],[],[],[],[],[2,6,8,9,10,11,38],[2,6,8,9,10,11,38,42],[2,6,8,9,10,11,12],[2,6,8,9,11,12,46],[2,6,8,9,11,46,48],[2,6,8,9,11,50],[2,6,8,9,11,50,52],[2,6,8,9,11,50,52,55],[2,6,8,9,11,50,56],[],[],[],[],[]]
 | 109=>[[],[],[],[],[],[],[]]
 | 110=>[[],[],[],[0,1,7,8],[],[],[],[],[],[],[],[]]
 | 111=>[[],[]]
 | 112=>[[],[]]
 | 113=>[[],[],[],[],[],[],[]]
 | 114=>[[],[],[],[],[],[0,1,6,7,8],[],[],[],[],[6,7],[]]
 | 115=>[[],[],[0,2,3],[],[],[]]
 | 116=>[[],[]]
 | 117=>[[],[1,4,6],[1,4,6,9],[]]
 | 118=>[[],[],[0],[0,6],[0,6,13],[],[],[0],[]]
 | 119=>[[],[]]
 | 120=>[[],[],[],[4,5,6],[],[],[],[4,5],[]]
 | 121=>[[],[],[],[2,3,4,5,8,9,32],[3,4,5,8,9,32,37],[],[4,5,8,9],[]]
 | 122=>[[],[],[],[],[1,5,18,19,20],[],[],[],[],[],[],[1,5,6,7,8,18,19,20,25,26,27],[],[],[],[],[],[1,5,6,8,18,19,20],[1,5,18,19,20],[5],[]]
 | 123=>[[],[]]
 | 124=>[[],[]]
 | 125=>[[],[],[],[0,11,12],[],[],[],[0,4,11,12,19],[0,11,12,19,23],[],[],[],[0],[0,28],[0,28,32],[0,28,32,35],[0,28,36],[0,38],[0,38,41],[],[],[],[],[],[0,5],[],[],[],[],[],[],[0,5,6,7,8,50,51],[],[],[],[],[0,5,6,7,8],[],[5],[]]
 | 126=>[[],[],[],[],[],[],[],[],[],[0,1,5],[],[],[],[],[],[],[],[],[],[]]
 | 127=>[[],[]]
 | 128=>[[],[],[0,1],[],[],[],[],[0,1,5,6,21,22],[],[],[],[],[],[0,1,5,6,7,8,21,22],[0,1,5,6,21,22],[0,5,6],[],[]]
 | 129=>[[],[],[],[],[],[0,1,5,6,13,14],[],[],[],[],[],[0,1,5,6,7,8,13,14],[0,1,5,6,13,14],[5],[]]
 | 130=>[[],[],[],[],[],[],[],[],[],[],[],[],[],[],[8,9,10,11,12,13],[],[],[],[8,10,11,12],[]]
 | 131=>[[],[],[],[],[],[]]
 | 132=>[[],[],[],[],[]]
 | 133=>[[],[],[],[]]
 | 134=>[[],[],[]]
 | 135=>[[],[]]
 | 136=>[[],[],[],[],[1,5,13,14,15],[],[],[],[],[],[],[5],[]]
 | 137=>[[],[],[],[],[],[0,1,5,7,8],[],[],[],[],[],[0,1,5,7],[],[],[],[0,1,5,7,9,10,83,84],[],[],[],[],[],[],[0,1,5,7,9,10],[],[],[],[],[],[],[0,1,5,7,13,132,133],[],[],[],[],[0,5,7,13],[7],[]]
 | 138=>[[],[],[],[],[0,1,5,12,13],[],[],[],[],[],[0,1,5,6,7,12,13],[0,1,5,12,13],[5],[]]
 | 139=>[[],[],[0,1,4,5,12,19,36,107,132],[0,1,4,5,12,19,22,36,107,132],[],[],[],[],[],[],[],[],[],[],[],[],[],[],[],[0,1,5,6,7,8,9,10,12,107,132],[],[],[],[],[],[],[],[0,1,5,6,7,8,9,10,12,107,132],[0,1,5,6,7,8,9,10,12,84,107,132],[0,1,5,6,7,8,9,10,12,84,92,107,132],[],[],[],[],[],[],[],[],[],[],[],[],[],[],[],[],[],[],[]]
 | 140=>[[],[0,1,10],[10,16],[]]
 | 141=>[[],[],[],[0,2],[],[],[0,2],[]]
 | 142=>[[],[]]
 | 144=>[[],[]]
 | 145=>[[],[],[],[],[],[],[0,1,5,6,7,8,9],[],[],[],[0,1,5,6,7,8],[0,1,5,6,7,8,33],[0,1,5,6,7,8,33,38],[],[],[],[],[],[0,1,5,6,7,8,10],[],[],[],[],[],[],[0,1,5,6,7,8,10,68],[0,1,5,6,7,8,10,68,76],[],[],[],[]]
 | 147=>[[],[],[],[],[0,4,5],[],[],[],[0,4],[],[],[],[4,6,7,8],[],[],[],[4,6,7,8],[4,6,7,8],[4,6],[]]
 | _=>[]
end
end Go.Proofs.YtelmdbpaoifmoaaGreat
namespace Go.Sim
section
noncomputable def IK (P:Program) (H:FuncId→Hints) (lf:Nat) (call:kY):kY:=
 fun t args h=>
  match t with
  | .func F=>
   match bK P F (H F) with
   | some (N,ic,rs)=>
    if args.length≤N then
     match lR P (call) lf ic (bG args) h with
     | some (.normal,f,h')=>match pc rs f h' with | some vs=>some (pack vs,h') | none=>none
     | some (.ret,f,h')=>match pc rs f h' with | some vs=>some (pack vs,h') | none=>none
     | _=>none
    else none
   | none=>none
  | .yield i=>
   match h[i]? with
   | some (.loop c ls vs)=>
    match fu P c.N c.kn [],fu P c.N c.body [] with
    | some (ia,_),some (ib,_)=>
     if args.length=c.ps.size∧c.ps.all (·<c.N)=true∧iJ c.kn=true∧iJ c.body=true then
      match lR P (call) lf ia (CM c.ps.toList args (kD ls vs)) (h.set i .dead) with
      | some (.normal,f1,h1)=>
       if JK h1 i=true then
        match lR P (call) lf ib f1 h1 with
        | some (.normal,_,h2)=>if JK h2 i=true then some (.bool true,h2.set i (.loop c ls vs)) else none
        | _=>none
       else none
      | _=>none
     else none
    | _,_=>none
   | _=>none
  | _=>none
theorem av9 {P:Program} {H:FuncId→Hints} {lf:Nat} {call:kY} (HC:sI P call):sI P (IK P H lf call):=by
 constructor
 ·intro F args h v h' he
  simp only [IK] at he
  split at he
  ·rename_i N ic rs hc
   split at he
   ·rename_i ha
    have key:∀{e f h1 vs},(e=Exit.normal∨e=Exit.ret)→lR P (call) lf ic (bG args) h=some (e,f,h1)→pc rs f h1=some vs→xt P F args h (pack vs) h1:=by
     intro e f h1 vs QY En hr
     obtain ⟨u,g,q1,rfl,rfl⟩:=afk hc ha (K:=fun u g=>u=pack vs∧g=h1) (Qa HC En (by
      rcases QY with rfl | rfl
      ·exact Lf hr ⟨rfl,rfl⟩
      ·exact Lf hr ⟨rfl,rfl⟩))
     exact q1
    split at he
    ·rename_i f h1 En
     split at he
     ·rename_i vs hr
      simp at he
      obtain ⟨rfl,rfl⟩:=he
      exact key (.inl rfl) En hr
     ·cases he
    ·rename_i f h1 En
     split at he
     ·rename_i vs hr
      simp at he
      obtain ⟨rfl,rfl⟩:=he
      exact key (.inr rfl) En hr
     ·cases he
    ·cases he
   ·cases he
  ·cases he
 ·intro i args h v h' he
  simp only [IK] at he
  split at he
  ·rename_i c ls vs hi
   split at he
   ·rename_i ia _ ib _ ha hb
    split at he
    ·rename_i El
     obtain ⟨c1,c2,c3,c4⟩:=El
     split at he
     ·rename_i f1 h1 e1
      split at he
      ·rename_i d1
       split at he
       ·rename_i f2 h2 e2
        split at he
        ·rename_i d2
         simp at he
         obtain ⟨rfl,rfl⟩:=he
         obtain ⟨u,g,q1,rfl,rfl⟩:=aFR (K:=fun u g=>u=.bool true∧g=h2.set i (.loop c ls vs)) hi c1 c2 ha hb c3 c4
          (Qa HC e1 ⟨rfl,afy d1,Qa HC e2 ⟨rfl,afy d2,rfl,rfl⟩⟩)
         exact q1
        ·cases he
       ·cases he
      ·cases he
     ·cases he
    ·cases he
   ·cases he
  ·cases he
end
end Go.Sim
namespace Go.Proofs.YtelmdbpaoifmoaaGreat
open Go.Sim
section
variable (P : Program) (K : VK)
noncomputable section
variable (x0 x1 n6 p7 j9 au aA aO aZ bH bV bk br bE dG bp dU fQ cd cM cQ cK dO fA jV fB jJ hI kf pq qg : Value) (L1 L2 : LQ) (xs : List Value) (h : ae)
def ahO:=bK prog 59 [[],[],[0,1,6,18],[0,1,6,18,20],[0,1,6,22],[0,1,6,22,25],[],[],[],[],[],[1,6,7,32,33],[34],[],[],[],[1,6,7,9,32,33,34,41],[1,6,7,9,32,33,34,41,44],[1,6,7,9,32,33,34,46],[1,6,7,9,32,33,34,46,49],[1,6,7,9,32,33,34,51],[1,6,7,32,33,34,51,54],[],[],[],[1,6,7],[],[6,7,57,58],[59],[],[],[],[6,7,11,57,58,59,69],[6,7,11,57,58,59,69,76],[6,7,11,57,58,59,78],[6,7,11,57,58,59,78,83],[],[],[],[],[6,7],[],[],[6,7,99],[12,100],[],[],[],[6,7,99,100,102],[12,103],[],[],[],[],[6,7,12,99,100,102,103],[6,7,12,99,100],[7,12],[]]
@[irreducible] def DL:=bR ahO
@[irreducible] def abG:=DL.r.r.l.l.r.l
@[irreducible] def atx:=DL.r.r.l.r
@[irreducible] def Pt:=DL.r.r.r
@[irreducible] def abK:=abG.r.l
@[irreducible] def HK:=Pt.r.l.r.l.l
@[irreducible] def abw:=Pt.r.r
@[irreducible] def abv:=abK.r.l
@[irreducible] def abx:=HK.r.r.l.l.r.l.r.l
@[irreducible] def atv:=HK.r.r.l.l.r.r
@[irreducible] def atu:=HK.r.r.r
@[irreducible] def Pu:=abw.l
@[irreducible] def att:=abv.r.l
@[irreducible] def aby:=abx.r.l
@[irreducible] def DM:=Pu.l.r.l.l
@[irreducible] def abC:=Pu.r
@[irreducible] def abz:=aby.r.l
@[irreducible] def abD:=DM.r.r.l.l.r.l.l.r.l
@[irreducible] def atA:=DM.r.r.l.l.r.l.r
@[irreducible] def atz:=DM.r.r.l.l.r.r
@[irreducible] def aty:=DM.r.r.r
@[irreducible] def Pv:=abC.l
@[irreducible] def abA:=abz.r.l
@[irreducible] def abE:=abD.r.l
@[irreducible] def Pw:=Pv.r.l.r.l.l
@[irreducible] def abH:=Pv.r.r
@[irreducible] def abB:=abA.r.l
@[irreducible] def abF:=abE.r.l
@[irreducible] def abJ:=Pw.r.r.l.l.r.l.l
@[irreducible] def abI:=Pw.r.r.r
@[irreducible] def atE:=abH.l
@[irreducible] def atw:=abB.r.l
@[irreducible] def atB:=abF.r.l
@[irreducible] def atC:=abJ.r.r.r.l
@[irreducible] def atD:=abI.l
theorem k59:ahO=some (121,DL,[.tmp 4,.tmp 5]):=by kernel_rfl
def sM (_P:Program) (K:VK):ar:=aS [.tmp 4,.tmp 5] K
def Ya:ar:=aF (aj P Pt (sM P K)) (sM P K)
def GF:ar:=aF (aj P atx (Ya P K)) (Ya P K)
def ap1:ar:=aF (aj P abw (sM P K)) (sM P K)
def ap2:ar:=bI 0 (ap1 P K)
def MQ:ar:=aF (fun f' aU=>(([1,6,7,32,33]:List Nat).map f':List Value)=[x1,n6,p7,bk,br]∧L1 (([34]:List Nat).map f') aU) (ap2 P K)
def ap3:ar:=aF (aj P atu (MQ P K x1 n6 p7 bk br L1)) (MQ P K x1 n6 p7 bk br L1)
def X9:ar:=bI 1 (ap3 P K x1 n6 p7 bk br L1)
def Bs:ar:=aF (aj P atv (X9 P K x1 n6 p7 bk br L1)) (X9 P K x1 n6 p7 bk br L1)
def ap4:ar:=aF (aj P abC (sM P K)) (sM P K)
def ap5:ar:=bI 2 (ap4 P K)
def MR:ar:=aF (fun f' aU=>(([6,7,57,58]:List Nat).map f':List Value)=[n6,p7,cQ,cK]∧L1 (([59]:List Nat).map f') aU) (ap5 P K)
def ap6:ar:=aF (aj P aty (MR P K n6 p7 cQ cK L1)) (MR P K n6 p7 cQ cK L1)
def Yb:ar:=bI 3 (ap6 P K n6 p7 cQ cK L1)
def Yc:ar:=aF (aj P atz (Yb P K n6 p7 cQ cK L1)) (Yb P K n6 p7 cQ cK L1)
def GG:ar:=aF (aj P atA (Yc P K n6 p7 cQ cK L1)) (Yc P K n6 p7 cQ cK L1)
def ap7:ar:=aF (aj P abH (sM P K)) (sM P K)
def ap8:ar:=bI 4 (ap7 P K)
def GH:ar:=aF (fun f' aU=>(([6,7,99]:List Nat).map f':List Value)=[n6,p7,hI]∧L1 (([12,100]:List Nat).map f') aU) (ap8 P K)
def ap9:ar:=aF (aj P abI (GH P K n6 p7 hI L1)) (GH P K n6 p7 hI L1)
def aqa:ar:=bI 5 (ap9 P K n6 p7 hI L1)
def aqb:ar:=bI 6 (aqa P K n6 p7 hI L1)
def Yd:ar:=aF (fun f' aU=>(([6,7,99,100,102]:List Nat).map f':List Value)=[n6,p7,hI,kf,pq]∧L2 (([12,103]:List Nat).map f') aU) (aqb P K n6 p7 hI L1)
def akd:Prop:=ax (aj P abG (GF P K)) [0,1,6,18] [x0,x1,n6,aO] h
def Uw:Prop:=ax (aj P abK (GF P K)) [0,1,6,18,20] [x0,x1,n6,aO,aZ] h
def aj3:Prop:=ax (aj P abv (GF P K)) [0,1,6,22] [x0,x1,n6,bH] h
def Up:Prop:=ax (aj P att (GF P K)) [0,1,6,22,25] [x0,x1,n6,bH,bV] h
def aj4:Prop:=ax (aj P HK (MQ P K x1 n6 p7 bk br L1)) ([1,6,7,32,33]++[34]) ([x1,n6,p7,bk,br]++xs) h
def aj5:Prop:=ax (aj P abx (Bs P K x1 n6 p7 bk br L1)) [1,6,7,9,32,33,34,41] [x1,n6,p7,j9,bk,br,bE,dG] h
def Uq:Prop:=ax (aj P aby (Bs P K x1 n6 p7 bk br L1)) [1,6,7,9,32,33,34,41,44] [x1,n6,p7,j9,bk,br,bE,dG,bp] h
def aj6:Prop:=ax (aj P abz (Bs P K x1 n6 p7 bk br L1)) [1,6,7,9,32,33,34,46] [x1,n6,p7,j9,bk,br,bE,dU] h
def Ur:Prop:=ax (aj P abA (Bs P K x1 n6 p7 bk br L1)) [1,6,7,9,32,33,34,46,49] [x1,n6,p7,j9,bk,br,bE,dU,fQ] h
def aj7:Prop:=ax (aj P abB (Bs P K x1 n6 p7 bk br L1)) [1,6,7,9,32,33,34,51] [x1,n6,p7,j9,bk,br,bE,cd] h
def Us:Prop:=ax (aj P atw (Bs P K x1 n6 p7 bk br L1)) [1,6,7,32,33,34,51,54] [x1,n6,p7,bk,br,bE,cd,cM] h
def aj8:Prop:=ax (aj P Pu (sM P K)) [1,6,7] [x1,n6,p7] h
def aj9:Prop:=ax (aj P DM (MR P K n6 p7 cQ cK L1)) ([6,7,57,58]++[59]) ([n6,p7,cQ,cK]++xs) h
def aka:Prop:=ax (aj P abD (GG P K n6 p7 cQ cK L1)) [6,7,11,57,58,59,69] [n6,p7,au,cQ,cK,dO,fA] h
def Ut:Prop:=ax (aj P abE (GG P K n6 p7 cQ cK L1)) [6,7,11,57,58,59,69,76] [n6,p7,au,cQ,cK,dO,fA,jV] h
def akb:Prop:=ax (aj P abF (GG P K n6 p7 cQ cK L1)) [6,7,11,57,58,59,78] [n6,p7,au,cQ,cK,dO,fB] h
def Uu:Prop:=ax (aj P atB (GG P K n6 p7 cQ cK L1)) [6,7,11,57,58,59,78,83] [n6,p7,au,cQ,cK,dO,fB,jJ] h
def akc:Prop:=ax (aj P Pv (sM P K)) [6,7] [n6,p7] h
def ake:Prop:=ax (aj P Pw (GH P K n6 p7 hI L1)) ([6,7,99]++[12,100]) ([n6,p7,hI]++xs) h
def akf:Prop:=ax (aj P abJ (Yd P K n6 p7 hI kf pq L1 L2)) ([6,7,99,100,102]++[12,103]) ([n6,p7,hI,kf,pq]++xs) h
def Uv:Prop:=ax (aj P atC (Yd P K n6 p7 hI kf pq L1 L2)) [6,7,12,99,100,102,103] [n6,p7,aA,hI,kf,pq,qg] h
def akg:Prop:=ax (aj P atD (GH P K n6 p7 hI L1)) [6,7,12,99,100] [n6,p7,aA,hI,kf] h
def akh:Prop:=ax (aj P atE (sM P K)) [7,12] [p7,aA] h
theorem K1:Up P K x0 x1 n6 bH bV h=
 (OP (ck bH (.bool true) bV) fun cF=>
 aQ cF
 (K (.tuple #[(.pointer none),(.bool false)]) h)
 (OH (lE 131 2 [(.int .u16 (0))] h n6 n6) fun bN z1=>
 OP (dW [(.slice none 0 0),(.slice none 0 0)] [(0,1,x0),(1,1,bN)]) fun dD=>
 OH (bC 162 z1 dD) fun cG z2=>
 OP (bc x0) fun br=>
 cJ [(.int .i64 (0))] z2 fun L1 xs hx=>
 aj4 P K x1 n6 cG x0 br L1 xs hx)):=az (by kernel_rfl)
theorem U7:aj3 P K x0 x1 n6 bH h=
 (cE bH false
 (OP (bc x1) fun bD=>
 OP (ai .gtr bD (.int .i64 (40))) fun bV=>
 Up P K x0 x1 n6 bH bV h)
 (Up P K x0 x1 n6 bH undef h)):=az (by kernel_rfl)
theorem Vc:Uw P K x0 x1 n6 aO aZ h=
 (OP (ck aO (.bool true) aZ) fun bf=>
 aj3 P K x0 x1 n6 bf h):=az (by kernel_rfl)
theorem al5:akd P K x0 x1 n6 aO h=
 (cE aO false
 (OP (ai .gtr n6 (.int .i64 (10))) fun aZ=>
 Uw P K x0 x1 n6 aO aZ h)
 (Uw P K x0 x1 n6 aO undef h)):=az (by kernel_rfl)
theorem FJ:Us P K x1 n6 p7 bk br bE cd cM L1 h=
 (OP (ck cd (.bool true) cM) fun eR=>
 aQ eR
 (K (.tuple #[(.pointer none),(.bool false)]) h)
 (OP (ai .add bE (.int .i64 (1))) fun gR=>
 ([x1,n6,p7,bk,br]:List Value)=[x1,n6,p7,bk,br]∧L1 [gR] h)):=az (by kernel_rfl)
theorem K4:aj7 P K x1 n6 p7 j9 bk br bE cd L1 h=
 (cE cd false
 (OP (aJ 1 j9) fun cV=>
 OP (af false 1 h cV) fun kh=>
 OP (ai .gtr kh (.int .i64 (50))) fun cM=>
 Us P K x1 n6 p7 bk br bE cd cM L1 h)
 (Us P K x1 n6 p7 bk br bE cd undef L1 h)):=az (by kernel_rfl)
theorem K3:Ur P K x1 n6 p7 j9 bk br bE dU fQ L1 h=
 (OP (ck dU (.bool true) fQ) fun bW=>
 aj7 P K x1 n6 p7 j9 bk br bE bW L1 h):=az (by kernel_rfl)
theorem U9:aj6 P K x1 n6 p7 j9 bk br bE dU L1 h=
 (cE dU false
 (OP (aJ 1 j9) fun mP=>
 OP (af false 1 h mP) fun fz=>
 OP (ai .lss fz (.int .i64 (0))) fun fQ=>
 Ur P K x1 n6 p7 j9 bk br bE dU fQ L1 h)
 (Ur P K x1 n6 p7 j9 bk br bE dU undef L1 h)):=az (by kernel_rfl)
theorem U8:Uq P K x1 n6 p7 j9 bk br bE dG bp L1 h=
 (OP (ck dG (.bool true) bp) fun cH=>
 aj6 P K x1 n6 p7 j9 bk br bE cH L1 h):=az (by kernel_rfl)
theorem al3:aj5 P K x1 n6 p7 j9 bk br bE dG L1 h=
 (cE dG false
 (OP (aJ 0 j9) fun ef=>
 OP (af false 1 h ef) fun bO=>
 OP (ai .gtr bO (.int .i64 (50))) fun bp=>
 Uq P K x1 n6 p7 j9 bk br bE dG bp L1 h)
 (Uq P K x1 n6 p7 j9 bk br bE dG undef L1 h)):=az (by kernel_rfl)
theorem aCz (x1 n6 p7 bk br:Value) (L1:LQ) (bE:Value) (h:ae):aj4 P K x1 n6 p7 bk br L1 [bE] h=
 (OP (ai .lss bE br) fun de=>
 aQ de
 (OP (aY 2 bk bE) fun dE=>
 OP (af true 2 h dE) fun eQ=>
 OH (ba 46 [(.int .i64 (0)),(.int .i64 (0))] h) fun j9 z1=>
 OH (aK 2 z1 j9 eQ) fun _ z2=>
 OP (aJ 0 j9) fun dF=>
 OP (af false 1 z2 dF) fun eI=>
 OP (ai .lss eI (.int .i64 (1))) fun ee=>
 aj5 P K x1 n6 p7 j9 bk br bE ee L1 z2)
 (aj8 P K x1 n6 p7 h)):=az (by kernel_rfl)
theorem K5:Uu P K n6 p7 au cQ cK dO fB jJ L1 h=
 (OP (ck fB (.bool true) jJ) fun ki=>
 aQ ki
 (K (.tuple #[(.pointer none),(.bool false)]) h)
 (OP (tA p7) fun kj=>
 OP (aJ 1 kj) fun vF=>
 OP (af false 1 h vF) fun qi=>
 (True)∧
 OP (aJ 1 au) fun jK=>
 OP (af false 1 h jK) fun py=>
 (True)∧
 OP (aY 1 qi py) fun jX=>
 OP (af false 1 h jX) fun ru=>
 (True)∧
 OP (aJ 0 au) fun sD=>
 OP (af false 1 h sD) fun Wp=>
 (True)∧
 OP (ai .shl (.int .u16 (1)) Wp) fun vG=>
 OP (ai .or ru vG) fun Ge=>
 OP (aY 1 qi py) fun kL=>
 OH (aK 1 h kL Ge) fun _ z1=>
 (True)∧
 OP (ai .add dO (.int .i64 (1))) fun Be=>
 ([n6,p7,cQ,cK]:List Value)=[n6,p7,cQ,cK]∧L1 [Be] z1)):=az (by kernel_rfl)
theorem Vb:akb P K n6 p7 au cQ cK dO fB L1 h=
 (cE fB false
 (OP (aJ 0 au) fun ub=>
 OP (af false 1 h ub) fun mR=>
 OP (aJ 1 au) fun jW=>
 OP (af false 1 h jW) fun nS=>
 OP (ai .eql mR nS) fun jJ=>
 Uu P K n6 p7 au cQ cK dO fB jJ L1 h)
 (Uu P K n6 p7 au cQ cK dO fB undef L1 h)):=az (by kernel_rfl)
theorem Va:Ut P K n6 p7 au cQ cK dO fA jV L1 h=
 (OP (ck fA (.bool true) jV) fun lL=>
 akb P K n6 p7 au cQ cK dO lL L1 h):=az (by kernel_rfl)
theorem al4:aka P K n6 p7 au cQ cK dO fA L1 h=
 (cE fA false
 (OP (aJ 0 au) fun jI=>
 OP (af false 1 h jI) fun gw=>
 OP (aJ 1 au) fun rr=>
 OP (af false 1 h rr) fun tZ=>
 OP (wJ true [gw,tZ]) fun kK=>
 OP (ai .geq kK n6) fun jV=>
 Ut P K n6 p7 au cQ cK dO fA jV L1 h)
 (Ut P K n6 p7 au cQ cK dO fA undef L1 h)):=az (by kernel_rfl)
theorem aCB (n6 p7 cQ cK:Value) (L1:LQ) (dO:Value) (h:ae):aj9 P K n6 p7 cQ cK L1 [dO] h=
 (OP (ai .lss dO cK) fun jT=>
 aQ jT
 (OP (aY 2 cQ dO) fun gf=>
 OP (af true 2 h gf) fun kW=>
 OH (ba 88 [(.int .i64 (0)),(.int .i64 (0))] h) fun au z1=>
 OH (aK 2 z1 au kW) fun _ z2=>
 OP (aJ 0 au) fun jU=>
 OP (af false 1 z2 jU) fun jA=>
 OP (aJ 1 au) fun iD=>
 OP (af false 1 z2 iD) fun kX=>
 OP (wJ false [jA,kX]) fun fR=>
 OP (ai .lss fR (.int .i64 (0))) fun gS=>
 aka P K n6 p7 au cQ cK dO gS L1 z2)
 (akc P K n6 p7 h)):=az (by kernel_rfl)
theorem al6:Uv P K n6 p7 aA hI kf pq qg L1 L2 h=
 (OP (ai .add qg (.int .i64 (1))) fun Wj=>
 ([n6,p7,hI,kf,pq]:List Value)=[n6,p7,hI,kf,pq]∧L2 [aA,Wj] h):=az (by kernel_rfl)
theorem aCE (n6 p7 hI kf pq:Value) (L1 L2:LQ) (aA qg:Value) (h:ae):akf P K n6 p7 hI kf pq L1 L2 [aA,qg] h=
 (OP (ai .lss qg pq) fun A8=>
 aQ A8
 (aq P 63 [p7,aA,qg] h fun kJ z1=>
 aQ kJ
 (OP (ai .shl (.int .u16 (1)) qg) fun F6=>
 OP (ai .or aA F6) fun vD=>
 Uv P K n6 p7 vD hI kf pq qg L1 L2 z1)
 (Uv P K n6 p7 aA hI kf pq qg L1 L2 z1))
 (akg P K n6 p7 aA hI kf L1 h)):=az (by kernel_rfl)
theorem aCF:akg P K n6 p7 aA hI kf L1 h=
 (OP (ai .add kf (.int .i64 (1))) fun xl=>
 ([n6,p7,hI]:List Value)=[n6,p7,hI]∧L1 [aA,xl] h):=az (by kernel_rfl)
theorem aCD (n6 p7 hI:Value) (L1:LQ) (aA kf:Value) (h:ae):ake P K n6 p7 hI L1 [aA,kf] h=
 (OP (ai .lss kf hI) fun qf=>
 aQ qf
 (cJ [aA,(.int .i64 (0))] h fun L2 xs hx=>
 akf P K n6 p7 hI kf n6 L1 L2 xs hx)
 (akh P K p7 aA h)):=az (by kernel_rfl)
theorem aCG:akh P K p7 aA h=
 (aq P 61 [p7] h fun qh z1=>
 OP (ai .eql aA qh) fun F7=>
 K (.tuple #[p7,F7]) z1):=az (by kernel_rfl)
theorem aCC:akc P K n6 p7 h=
 (cJ [(.int .u16 (0)),(.int .i64 (0))] h fun L1 xs hx=>
 ake P K n6 p7 n6 L1 xs hx):=az (by kernel_rfl)
theorem aCA:aj8 P K x1 n6 p7 h=
 (OP (bc x1) fun cK=>
 cJ [(.int .i64 (0))] h fun L1 xs hx=>
 aj9 P K n6 p7 x1 cK L1 xs hx):=az (by kernel_rfl)
def Oa:Prop:=
 OP (bc x0) fun bj=>
 OP (ai .lss bj (.int .i64 (1))) fun bU=>
 akd P K x0 x1 bj bU h
theorem e59:aj P DL (aS [.tmp 4,.tmp 5] K) (bG [x0,x1]) h=Oa P K x0 x1 h:=by kernel_rfl
theorem f59 {K:VK} {x0 x1:Value} {h:ae} (H:Oa prog K x0 x1 h):aq prog 59 [x0,x1] h K:=
 bT k59 (bP rfl) ((e59 prog K x0 x1 h).mpr H)
end
noncomputable section
variable (p0 : Value) (h : ae)
def ahQ:=bK prog 61 [[],[]]
@[irreducible] def c61:=bR ahQ
theorem k61:ahQ=some (10,c61,[.tmp 2]):=by kernel_rfl
def Oc (_:Program) (K:VK) (p0:Value) (h:ae):Prop:=
 OP (tA p0) fun x4=>
 OP (aJ 0 x4) fun x5=>
 OP (af false 1 h x5) fun x6=>
 OP (bc x6) fun x7=>
 OP (ai .shl (.int .u16 (1)) x7) fun x8=>
 OP (ai .sub x8 (.int .u16 (1))) fun x9=>
 K x9 h
theorem e61:aj P c61 (aS [.tmp 2] K) (bG [p0]) h=Oc P K p0 h:=by kernel_rfl
theorem f61 {K:VK} {p0:Value} {h:ae} (H:Oc prog K p0 h):aq prog 61 [p0] h K:=
 bT k61 (bP rfl) ((e61 prog K p0 h).mpr H)
end
noncomputable section
variable (p0 s1 x5 x9 aM au : Value) (L1 : LQ) (xs : List Value) (h : ae)
def ahR:=bK prog 62 [[],[],[],[0,9,10],[5,11],[],[],[],[],[5],[]]
@[irreducible] def HL:=bR ahR
@[irreducible] def atG:=HL.r.r.l.r.l.l
@[irreducible] def abN:=HL.r.r.r
@[irreducible] def atF:=abN.l
theorem k62:ahR=some (27,HL,[.tmp 4]):=by kernel_rfl
def MS (_P:Program) (K:VK):ar:=aS [.tmp 4] K
def aqc:ar:=aF (aj P abN (MS P K)) (MS P K)
def aqd:ar:=bI 0 (aqc P K)
def aqe:ar:=aF (fun f' aU=>(([0,9,10]:List Nat).map f':List Value)=[p0,x9,aM]∧L1 (([5,11]:List Nat).map f') aU) (aqd P K)
def akj:Prop:=ax (aj P atG (aqe P K p0 x9 aM L1)) ([0,9,10]++[5,11]) ([p0,x9,aM]++xs) h
def aki:Prop:=ax (aj P atF (MS P K)) [5] [x5] h
theorem aCI (p0 x9 aM:Value) (L1:LQ) (x5 au:Value) (h:ae):akj P K p0 x9 aM L1 [x5,au] h=
 (OP (ai .lss au aM) fun aA=>
 aQ aA
 (OP (aY 1 x9 au) fun aD=>
 OP (af false 1 h aD) fun aL=>
 OP (tA p0) fun bU=>
 OP (aJ 0 bU) fun aO=>
 OP (af false 1 h aO) fun aP=>
 OP (aY 2 aP aL) fun bf=>
 OP (aJ 0 bf) fun bH=>
 OP (af false 1 h bH) fun cX=>
 OP (ai .add x5 cX) fun bD=>
 OP (ai .add au (.int .i64 (1))) fun bV=>
 ([p0,x9,aM]:List Value)=[p0,x9,aM]∧L1 [bD,bV] h)
 (aki P K x5 h)):=az (by kernel_rfl)
theorem aCH:aki P K x5 h=
 (K x5 h):=az (by kernel_rfl)
def YQ:Prop:=
 aq P 74 [s1] h fun x9 z1=>
 OP (bc x9) fun aM=>
 cJ [(.int .i64 (0)),(.int .i64 (0))] z1 fun L1 xs hx=>
 akj P K p0 x9 aM L1 xs hx
theorem e62:aj P HL (aS [.tmp 4] K) (bG [p0,s1]) h=YQ P K p0 s1 h:=by kernel_rfl
theorem f62 {K:VK} {p0 s1:Value} {h:ae} (H:YQ prog K p0 s1 h):aq prog 62 [p0,s1] h K:=
 bT k62 (bP rfl) ((e62 prog K p0 s1 h).mpr H)
end
noncomputable section
variable (p0 x1 i2 au bf : Value) (h : ae)
def ahS:=bK prog 63 [[],[0,1,2,11],[11,21],[]]
@[irreducible] def HM:=bR ahS
@[irreducible] def abO:=HM.r.l.r.l
@[irreducible] def atH:=HM.r.r
@[irreducible] def atI:=abO.r.l
theorem k63:ahS=some (23,HM,[.tmp 6]):=by kernel_rfl
def Ye (_P:Program) (K:VK):ar:=aS [.tmp 6] K
def Yf:ar:=aF (aj P atH (Ye P K)) (Ye P K)
def akk:Prop:=ax (aj P abO (Yf P K)) [0,1,2,11] [p0,x1,i2,au] h
def Ux:Prop:=ax (aj P atI (Yf P K)) [11,21] [au,bf] h
theorem al8:Ux P K au bf h=
 (OP (ck au bf (.bool false)) fun bH=>
 K bH h):=az (by kernel_rfl)
theorem al7:akk P K p0 x1 i2 au h=
 (cE au true
 (OP (tA p0) fun aD=>
 OP (aJ 1 aD) fun aL=>
 OP (af false 1 h aL) fun bj=>
 OP (aY 1 bj i2) fun bU=>
 OP (af false 1 h bU) fun aO=>
 OP (ai .andNot aO x1) fun aZ=>
 OP (ai .eql aZ (.int .u16 (0))) fun bf=>
 Ux P K au bf h)
 (Ux P K au undef h)):=az (by kernel_rfl)
def YR:Prop:=
 aq P 98 [x1,i2] h fun x9 z1=>
 OP (gZ .not x9) fun aM=>
 akk P K p0 x1 i2 aM z1
theorem e63:aj P HM (aS [.tmp 6] K) (bG [p0,x1,i2]) h=YR P K p0 x1 i2 h:=by kernel_rfl
theorem f63 {K:VK} {p0 x1 i2:Value} {h:ae} (H:YR prog K p0 x1 i2 h):aq prog 63 [p0,x1,i2] h K:=
 bT k63 (bP rfl) ((e63 prog K p0 x1 i2 h).mpr H)
end
noncomputable section
variable (s0 x3 x5 : Value) (L1 : LQ) (xs : List Value) (h : ae)
def ahY:=bK prog 74 [[],[],[],[0],[3,5],[],[],[],[],[0,3,5],[3],[]]
@[irreducible] def HY:=bR ahY
@[irreducible] def ab7:=HY.r.r.l.r.l.l
@[irreducible] def ab6:=HY.r.r.r
@[irreducible] def at6:=ab7.r.r.r.l
@[irreducible] def at7:=ab6.l
theorem k74:ahY=some (17,HY,[.tmp 2]):=by kernel_rfl
def MY (_P:Program) (K:VK):ar:=aS [.tmp 2] K
def aqE:ar:=aF (aj P ab6 (MY P K)) (MY P K)
def aqF:ar:=bI 0 (aqE P K)
def Yr:ar:=aF (fun f' aU=>(([0]:List Nat).map f':List Value)=[s0]∧L1 (([3,5]:List Nat).map f') aU) (aqF P K)
def akJ:Prop:=ax (aj P ab7 (Yr P K s0 L1)) ([0]++[3,5]) ([s0]++xs) h
def UD:Prop:=ax (aj P at6 (Yr P K s0 L1)) [0,3,5] [s0,x3,x5] h
def akI:Prop:=ax (aj P at7 (MY P K)) [3] [x3] h
theorem ame:UD P K s0 x3 x5 L1 h=
 (OP (ai .add x5 (.int .i64 (1))) fun bj=>
 ([s0]:List Value)=[s0]∧L1 [x3,bj] h):=az (by kernel_rfl)
theorem aC8 (s0:Value) (L1:LQ) (x3 x5:Value) (h:ae):akJ P K s0 L1 [x3,x5] h=
 (OP (ai .lss x5 (.int .i64 (10))) fun x6=>
 aQ x6
 (aq P 98 [s0,x5] h fun aM z1=>
 aQ aM
 (OH (cZ 3 1 [(.int .i64 (0))] z1 [(0,1,x5)]) fun aD z2=>
 OH (dI 3 1 8 z2 x3 aD) fun aL z3=>
 UD P K s0 aL x5 L1 z3)
 (UD P K s0 x3 x5 L1 z1))
 (akI P K x3 h)):=az (by kernel_rfl)
theorem aC7:akI P K x3 h=
 (K x3 h):=az (by kernel_rfl)
def Oi:Prop:=
 cJ [(.slice none 0 0),(.int .i64 (0))] h fun L1 xs hx=>
 akJ P K s0 L1 xs hx
theorem e74:aj P HY (aS [.tmp 2] K) (bG [s0]) h=Oi P K s0 h:=by kernel_rfl
theorem f74 {K:VK} {s0:Value} {h:ae} (H:Oi prog K s0 h):aq prog 74 [s0] h K:=
 bT k74 (bP rfl) ((e74 prog K s0 h).mpr H)
end
noncomputable section
variable (p0 s1 x5 x9 aM au : Value) (L1 : LQ) (xs : List Value) (h : ae)
def ah0:=bK prog 76 [[],[],[],[0,9,10],[5,11],[],[],[],[],[5],[]]
@[irreducible] def HZ:=bR ah0
@[irreducible] def at9:=HZ.r.r.l.r.l.l
@[irreducible] def ab9:=HZ.r.r.r
@[irreducible] def at8:=ab9.l
theorem k76:ah0=some (27,HZ,[.tmp 4]):=by kernel_rfl
def MZ (_P:Program) (K:VK):ar:=aS [.tmp 4] K
def aqG:ar:=aF (aj P ab9 (MZ P K)) (MZ P K)
def aqH:ar:=bI 0 (aqG P K)
def aqI:ar:=aF (fun f' aU=>(([0,9,10]:List Nat).map f':List Value)=[p0,x9,aM]∧L1 (([5,11]:List Nat).map f') aU) (aqH P K)
def akL:Prop:=ax (aj P at9 (aqI P K p0 x9 aM L1)) ([0,9,10]++[5,11]) ([p0,x9,aM]++xs) h
def akK:Prop:=ax (aj P at8 (MZ P K)) [5] [x5] h
theorem aDa (p0 x9 aM:Value) (L1:LQ) (x5 au:Value) (h:ae):akL P K p0 x9 aM L1 [x5,au] h=
 (OP (ai .lss au aM) fun aA=>
 aQ aA
 (OP (aY 1 x9 au) fun aD=>
 OP (af false 1 h aD) fun aL=>
 OP (tA p0) fun bU=>
 OP (aJ 0 bU) fun aO=>
 OP (af false 1 h aO) fun aP=>
 OP (aY 2 aP aL) fun bf=>
 OP (aJ 1 bf) fun bH=>
 OP (af false 1 h bH) fun cX=>
 OP (ai .add x5 cX) fun bD=>
 OP (ai .add au (.int .i64 (1))) fun bV=>
 ([p0,x9,aM]:List Value)=[p0,x9,aM]∧L1 [bD,bV] h)
 (akK P K x5 h)):=az (by kernel_rfl)
theorem aC9:akK P K x5 h=
 (K x5 h):=az (by kernel_rfl)
def YS:Prop:=
 aq P 74 [s1] h fun x9 z1=>
 OP (bc x9) fun aM=>
 cJ [(.int .i64 (0)),(.int .i64 (0))] z1 fun L1 xs hx=>
 akL P K p0 x9 aM L1 xs hx
theorem e76:aj P HZ (aS [.tmp 4] K) (bG [p0,s1]) h=YS P K p0 s1 h:=by kernel_rfl
theorem f76 {K:VK} {p0 s1:Value} {h:ae} (H:YS prog K p0 s1 h):aq prog 76 [p0,s1] h K:=
 bT k76 (bP rfl) ((e76 prog K p0 s1 h).mpr H)
end
noncomputable section
variable (s0 i1 : Value) (h : ae)
def aik:=bK prog 98 [[],[]]
@[irreducible] def c98:=bR aik
theorem k98:aik=some (10,c98,[.tmp 4]):=by kernel_rfl
def OD (_:Program) (K:VK) (s0 i1:Value) (h:ae):Prop:=
 OP (ai .shr s0 i1) fun x7=>
 OP (ai .and x7 (.int .u16 (1))) fun x8=>
 OP (ai .eql x8 (.int .u16 (1))) fun x9=>
 K x9 h
theorem e98:aj P c98 (aS [.tmp 4] K) (bG [s0,i1]) h=OD P K s0 i1 h:=by kernel_rfl
theorem f98 {K:VK} {s0 i1:Value} {h:ae} (H:OD prog K s0 i1 h):aq prog 98 [s0,i1] h K:=
 bT k98 (bP rfl) ((e98 prog K s0 i1 h).mpr H)
end
end
end Go.Proofs.YtelmdbpaoifmoaaGreat
namespace Go.Sim
section
def val (B:Nat):List Nat→Nat
 | []=>0
 | d::ds=>d+B*val B ds
def cn (B:Nat) (xs:List Nat):Prop:=∀x∈xs,x<B
def di (B:Nat) (xs:List Nat):Prop:=cn B xs∧xs.getLast?≠some 0
theorem oJ (B:Nat):∀xs ys:List Nat,val B (xs++ys)=val B xs+B^xs.length*val B ys
 | [],ys=>by simp [val]
 | x::xs,ys=>by
  simp only [cons_append,val,oJ B xs ys,length_cons,Nat.pow_succ]
  grind
theorem yG (B:Nat):∀n,val B (replicate n 0)=0
 | 0=>rfl
 | n+1=>by rw [List.replicate_succ];simp [val,yG B n]
theorem tW (B:Nat):∀(xs:List Nat) (i d:Nat) (hi:i<xs.length),val B (xs.set i d)+B^i*xs[i]=val B xs+B^i*d
 | [],i,d,hi=>by simp at hi
 | x::xs,0,d,hi=>by simp [val];omega
 | x::xs,i+1,d,hi=>by
  have ih:=tW B xs i d (by simpa using hi)
  simp only [List.set_cons_succ,val,List.getElem_cons_succ,Nat.pow_succ]
  grind
theorem ji (B:Nat) (xs:List Nat) {i:Nat} (hi:i<xs.length):val B (xs.take (i+1))=val B (xs.take i)+B^i*xs[i]:=by
 rw [List.take_succ_eq_append_getElem hi,oJ]
 simp [val,Nat.min_eq_left (Nat.le_of_lt hi)]
theorem cn.mono {B:Nat} {xs ys:List Nat} (h:cn B xs) (hs:∀y∈ys,y∈xs):cn B ys:=fun y hy=>h y (hs y hy)
theorem cn.append {B:Nat} {xs ys:List Nat} (h:cn B xs) (k:cn B ys):cn B (xs++ys):=fun y hy=>(mem_append.1 hy).elim (h y) (k y)
theorem cn.set {B:Nat} {xs:List Nat} (h:cn B xs) {d:Nat} (hd:d<B) (i:Nat):cn B (xs.set i d):=fun y hy=>by
 rcases List.mem_or_eq_of_mem_set hy with h1 | h1
 ·exact h y h1
 ·rw [h1];exact hd
theorem cn.xr {B:Nat} (hB:0<B) (n:Nat):cn B (replicate n 0):=fun y hy=>by
 rw [(List.mem_replicate.1 hy).2];exact hB
theorem nr {B:Nat}:∀{xs:List Nat},cn B xs→val B xs<B^xs.length
 | [],_=>by simp [val]
 | x::xs,h=>by
  have h1:=h x (by simp)
  have ih:=nr (xs:=xs) fun y hy=>h y (by simp [hy])
  simp only [val,length_cons,Nat.pow_succ]
  have:B*(val B xs+1)≤B*B^xs.length:=Nat.mul_le_mul_left _ ih
  rw [Nat.mul_comm (B^xs.length)]
  grind
theorem di.cons {B:Nat} {x:Nat} {xs:List Nat} (h:di B (x::xs)):x<B∧di B xs∧(xs=[]→x≠0):=by
 refine ⟨h.1 x (by simp),⟨fun y hy=>h.1 y (by simp [hy]),?_⟩,?_⟩
 ·intro hl
  apply h.2
  cases xs with
  | nil=>simp at hl
  | cons y ys=>simpa [List.getLast?_cons_cons] using hl
 ·rintro rfl rfl
  exact h.2 rfl
theorem di.zero {B:Nat} (hB:0<B):∀{xs:List Nat},di B xs→val B xs=0→xs=[]
 | [],_,_=>rfl
 | x::xs,h,h0=>by
  obtain ⟨_,h2,h3⟩:=h.cons
  simp only [val] at h0
  have hx:x=0:=by omega
  have hv:B*val B xs=0:=by omega
  have:val B xs=0:=by
   rcases Nat.mul_eq_zero.1 hv with h | h
   ·omega
   ·exact h
  exact absurd hx (h3 (di.zero hB h2 this))
theorem di.unique {B:Nat} (hB:0<B):∀{xs ys:List Nat},di B xs→di B ys→val B xs=val B ys→xs=ys
 | [],ys,_,hy,h=>(di.zero hB hy (by simpa [val] using h.symm)).symm
 | x::xs,[],hx,_,h=>di.zero hB hx (by simpa [val] using h)
 | x::xs,y::ys,hx,hy,h=>by
  obtain ⟨a1,a2,_⟩:=hx.cons
  obtain ⟨b1,b2,_⟩:=hy.cons
  simp only [val] at h
  have e1:x=y:=by
   have:=congrArg (·%B) h
   simpa [Nat.add_mul_mod_self_left,Nat.mod_eq_of_lt a1,Nat.mod_eq_of_lt b1] using this
  subst e1
  have e2:val B xs=val B ys:=Nat.eq_of_mul_eq_mul_left hB (by omega)
  rw [di.unique hB a2 b2 e2]
theorem di.low {B:Nat} (hB:0<B):∀{xs:List Nat},di B xs→xs≠[]→B^(xs.length-1)≤val B xs
 | [x],h,_=>by
  have:=h.cons.2.2 rfl
  simp [val]
  omega
 | x::y::xs,h,_=>by
  have ih:=di.low hB h.cons.2.1 (by simp)
  simp only [length_cons,Nat.add_sub_cancel] at ih⊢
  rw [show val B (x::y::xs)=x+B*val B (y::xs) from rfl,Nat.pow_succ]
  have:B*B^xs.length≤B*val B (y::xs):=Nat.mul_le_mul_left _ ih
  rw [Nat.mul_comm (B^xs.length)]
  omega
theorem di.len {B k:Nat} (hB:1<B) {xs:List Nat} (h:di B xs) (hv:val B xs<B^k):xs.length≤k:=by
 by_cases hx:xs=[]
 ·subst hx;simp
 ·have h1:=di.low (by omega) h hx
  have h2:B^(xs.length-1)<B^k:=Nat.lt_of_le_of_lt h1 hv
  have:=(Nat.pow_lt_pow_iff_right hB).1 h2
  have:0<xs.length:=List.length_pos_iff.2 hx
  omega
theorem di.nil (B:Nat):di B []:=⟨fun x hx=>by simp at hx,by simp⟩
theorem di.AI {B:Nat} (hB:1<B) {xs ys:List Nat} (hx:di B xs) (hy:di B ys) (h:xs.length<ys.length):val B xs<val B ys:=by
 have h1:=nr hx.1
 have h2:=di.low (by omega) hy (by rintro rfl;simp at h)
 have h3:B^xs.length≤B^(ys.length-1):=pow_le_pow_right (by omega) (by omega)
 omega
theorem Ik {B:Nat} {xs:List Nat} (h:cn B xs) (hl:∀h0:0<xs.length,xs[xs.length-1]≠0):di B xs:=by
 refine ⟨h,fun h0=>?_⟩
 rw [List.getLast?_eq_getElem?] at h0
 obtain ⟨h1,h2⟩:=bL h0
 exact hl (by omega) h2
end
section
def SK (k:IntKind):Prop:=k=.u16∨k=.i64
theorem SK.wrap {k:IntKind} (hk:SK k) {n:Int} (h0:0≤n) (h1:n<32768):k.wrap n=n:=by
 rcases hk with rfl | rfl
 ·have e:IntKind.wrap .u16 n=n%65536:=by simp [IntKind.wrap,IntKind.bits,IntKind.signed]
  rw [e];omega
 ·exact wrap64 (by omega) (by omega)
theorem SK.bits {k:IntKind} (hk:SK k):16≤k.bits:=by
 rcases hk with rfl | rfl <;> decide
theorem SK.toNat {k:IntKind} (hk:SK k) {a:Nat} (ha:a<1024):(BitVec.ofInt k.bits (a:Int)).toNat=a:=by
 have h:=hk.bits
 have h2:(2:Nat)^16≤2^k.bits:=pow_le_pow_right (by decide) h
 rw [BitVec.toNat_ofInt]
 have h3:((2^k.bits:Nat):Int)=2^k.bits:=by simp
 rw [Int.emod_eq_of_lt (by omega) (by omega)]
 omega
theorem CG {k:IntKind} (hk:SK k) {a b:Nat} (ha:a<1024) (hb:b<1024):ai .or (.int k (a:Int)) (.int k (b:Int))=some (.int k ((a ||| b:Nat):Int)):=by
 have e:ai .or (.int k (a:Int)) (.int k (b:Int))=some (Value.int k (k.wrap ((BitVec.ofInt k.bits (a:Int) ||| BitVec.ofInt k.bits (b:Int)).toNat:Int))):=by simp [ai,gY]
 rw [e,BitVec.toNat_or,hk.toNat ha,hk.toNat hb]
 have:a ||| b<2^10:=Nat.or_lt_two_pow ha hb
 rw [hk.wrap (by omega) (by omega)]
theorem Y1 {k:IntKind} (hk:SK k) {a b:Nat} (ha:a<1024) (hb:b<1024):ai .and (.int k (a:Int)) (.int k (b:Int))=some (.int k ((a &&& b:Nat):Int)):=by
 have e:ai .and (.int k (a:Int)) (.int k (b:Int))=some (Value.int k (k.wrap ((BitVec.ofInt k.bits (a:Int) &&& BitVec.ofInt k.bits (b:Int)).toNat:Int))):=by simp [ai,gY]
 rw [e,BitVec.toNat_and,hk.toNat ha,hk.toNat hb]
 have:a &&& b<2^10:=Nat.and_lt_two_pow _ hb
 rw [hk.wrap (by omega) (by omega)]
def iK (a b:Nat):Bool:=a &&& b==a
theorem aq9 {k:IntKind} (hk:SK k) {a b:Nat} (ha:a<1024) (hb:b<1024):∃r:Nat,ai .andNot (.int k (a:Int)) (.int k (b:Int))=some (.int k (r:Int))∧(r=0↔iK a b=true):=by
 have h1:(BitVec.ofInt k.bits (a:Int) &&& ~~~BitVec.ofInt k.bits (b:Int)).toNat≤a:=by
  rw [BitVec.toNat_and,hk.toNat ha]
  exact Nat.and_le_left
 refine ⟨(BitVec.ofInt k.bits (a:Int) &&& ~~~BitVec.ofInt k.bits (b:Int)).toNat,?_,?_⟩
 ·have e:ai .andNot (.int k (a:Int)) (.int k (b:Int))=some (Value.int k (k.wrap ((BitVec.ofInt k.bits (a:Int) &&& ~~~BitVec.ofInt k.bits (b:Int)).toNat:Int))):=by simp [ai,gY]
  rw [e,hk.wrap (by omega) (by omega)]
 ·generalize hx:BitVec.ofInt k.bits (a:Int)=x
  generalize hy:BitVec.ofInt k.bits (b:Int)=y
  have ex:x.toNat=a:=by rw [←hx];exact hk.toNat ha
  have ey:y.toNat=b:=by rw [←hy];exact hk.toNat hb
  unfold iK
  rw [beq_iff_eq,←ex,←ey,←BitVec.toNat_and]
  have h0:(x &&& ~~~y).toNat=0↔x &&& ~~~y=0#k.bits:=by
   constructor
   ·intro h;exact BitVec.eq_of_toNat_eq (by rw [h];simp)
   ·intro h;rw [h];simp
  rw [h0]
  constructor
  ·intro h
   have:x &&& y=x:=by
    ext i hi
    have:=congrArg (fun v=>v[i]) h
    simp only [BitVec.getElem_and,BitVec.getElem_not,BitVec.getElem_zero] at this⊢
    cases hxi:x[i] <;> cases JE:y[i] <;> simp_all
   rw [this]
  ·intro h
   have h2:x &&& y=x:=BitVec.eq_of_toNat_eq h
   ext i hi
   have:=congrArg (fun v=>v[i]) h2
   simp only [BitVec.getElem_and,BitVec.getElem_not,BitVec.getElem_zero] at this⊢
   cases hxi:x[i] <;> cases JE:y[i] <;> simp_all
theorem aED {k:IntKind} (hk:SK k) {s a:Nat} (ha:a<16):ai .shr (.int k (s:Int)) (I a)=some (.int k ((s / 2^a:Nat):Int)):=by
 have h:=hk.bits
 simp only [ai,qT]
 rw [if_neg (by omega)]
 have:min ((a:Int).toNat) k.bits=a:=by omega
 rw [this,Int.fdiv_eq_ediv_of_nonneg _ (Int.pow_nonneg (by decide))]
 rfl
theorem FM {k:IntKind} (hk:SK k) {a:Nat} (ha:a<11):ai .shl (.int k 1) (I a)=some (.int k ((2^a:Nat):Int)):=by
 have h:=hk.bits
 simp only [ai,qT]
 rw [if_neg (by omega)]
 have:min ((a:Int).toNat) k.bits=a:=by omega
 rw [this,Int.one_mul]
 have h2:(2:Nat)^a≤2^10:=pow_le_pow_right (by decide) (by omega)
 have h3:((2:Int)^a)=((2^a:Nat):Int):=by simp
 have hpa:((2^a:Nat):Int)≤((1024:Nat):Int):=Int.ofNat_le.2 h2
 rw [h3,hk.wrap (Int.natCast_nonneg _) (by omega)]
theorem ark (z:Nat):z &&& 1=z%2:=Nat.and_one_is_mod z
theorem pn {a b:Nat}:iK a b=true↔∀i,a.testBit i=true→b.testBit i=true:=by
 unfold iK
 rw [beq_iff_eq]
 constructor
 ·intro h i hi
  have:=congrArg (fun n=>n.testBit i) h
  simp only [testBit_and] at this
  rw [hi] at this
  simpa using this
 ·intro h
  apply eq_of_testBit_eq
  intro i
  rw [testBit_and]
  cases hi:a.testBit i with
  | false=>rfl
  | true=>rw [h i hi];rfl
theorem sw (d i j:Nat):(d ||| 2^i).testBit j=(d.testBit j||decide (i=j)):=by
 rw [testBit_or,Nat.testBit_two_pow]
theorem tM {d i n:Nat} (hd:d<2^n) (hi:i<n):d ||| 2^i<2^n:=Nat.or_lt_two_pow hd (Nat.pow_lt_pow_right (by decide) hi)
end
section
def iL {α:Type}:List α→(α→Int)→Int
 | [],_=>0
 | x::l,f=>f x+iL l f
section
variable {α β : Type}
theorem A5 (f:α→Int):∀l m:List α,iL (l++m) f=iL l f+iL m f
 | [],m=>by simp [iL]
 | x::l,m=>by simp only [cons_append,iL,A5 f l m];omega
end
section
variable (com : Nat → Nat → Bool)
variable {com}
end
end
end Go.Sim
namespace Go.Proofs.YtelmdbpaoifmoaaGreat
open Go.Sim
section
abbrev U (s:Nat):Value:=.int .u16 (s:Int)
theorem mM:SK .u16:=.inl rfl
def PL (h:ae) (p:Value) (js:List (Int×Int)) (bs:List Nat):Prop:=∃i vj vb,p=pt i 0∧aR h i=some [vj,vb]∧PS h vj js∧NS h vb .u16 (bs.map fun b:Nat=>(b:Int))
theorem PL.mono {h h':ae} {p:Value} {js:List (Int×Int)} {bs:List Nat} (x:EX h h') (q:PL h p js bs):PL h' p js bs:=
 let ⟨i,vj,vb,a,b,c,d⟩:=q;⟨i,vj,vb,a,x.cells b,c.mono x,d.mono x⟩
def Dy (n:Nat):Nat:=2^n-1
theorem Xb {s i:Nat} {h:ae} {K:Value→ae→Prop} (hi:i<16) (hs:s<1024) (hk:K (B (s.testBit i)) h):aq prog 98 [U s,I i] h K:=by
 refine f98 ?_
 have hd:s / 2^i<1024:=Nat.lt_of_le_of_lt (Nat.div_le_self _ _) hs
 have ha:=Y1 mM hd (show 1<1024 by decide)
 have nE:ai .and (.int .u16 ((s / 2^i:Nat):Int)) (.int .u16 1)=some (.int .u16 ((s / 2^i &&& 1:Nat):Int)):=ha
 simp only [OD,aED mM hi,ah,nE,jo]
 have e:decide (((s / 2^i &&& 1:Nat):Int)=1)=s.testBit i:=by
  rw [Nat.testBit_eq_decide_div_mod_eq,ark]
  by_cases h1:s / 2^i%2=1
  ·rw [aW h1,aW (by omega)]
  ·rw [aT h1,aT (by omega)]
 rw [e]
 exact hk
theorem Df {p:Value} {js:List (Int×Int)} {bs:List Nat} {h:ae} {K:Value→ae→Prop} (hp:PL h p js bs) (hl:js.length≤10) (hk:K (U (Dy js.length)) h):aq prog 61 [p] h K:=by
 obtain ⟨i,vj,vb,rfl,hc,hj,hb⟩:=hp
 refine f61 ?_
 have ld:af false 1 h (pt i 0)=some vj:=by simp [af,hc,cm]
 have e1:(1:Nat)≤2^js.length:=pow_pos (by decide)
 have e2:(2:Nat)^js.length≤2^10:=pow_le_pow_right (by decide) hl
 simp only [Oc,AP,ah,b9,add_zero,ld,hj.len,FM mM (show js.length<11 by omega),gU]
 rw [mM.wrap (by omega) (by omega)]
 have:((2^js.length:Nat):Int)-1=((Dy js.length:Nat):Int):=by unfold Dy;omega
 rw [this]
 exact hk
def Vl (bs:List Nat) (s i:Nat):Bool:= !s.testBit i&&iK (bs.getD i 0) s
theorem NS.adB {h:ae} {v:Value} {bs:List Nat} (p:NS h v .u16 (bs.map fun b:Nat=>(b:Int))) {i:Nat} (hi:i<bs.length):∃b o,aY 1 v (I i)=some (pt b o)∧af false 1 h (pt b o)=some (U (bs.getD i 0)):=by
 obtain ⟨b,o,g1,g2⟩:=p.get i (by simpa using hi)
 refine ⟨b,o,g1,?_⟩
 rw [g2]
 simp [getD_eq_getElem?_getD,hi]
theorem Mf {p:Value} {js:List (Int×Int)} {bs:List Nat} {s i:Nat} {h:ae} {K:Value→ae→Prop} (hp:PL h p js bs) (hi:i<bs.length) (hl:bs.length≤10) (hs:s<1024) (hb:∀b∈bs,b<1024) (hk:K (B (Vl bs s i)) h):
  aq prog 63 [p,U s,I i] h K:=by
 obtain ⟨a,vj,vb,rfl,hc,hj,iP⟩:=hp
 refine f63 (Xb (by omega) hs ?_)
 have ld:af false 1 h (pt a 1)=some vb:=by simp [af,hc,cm]
 unfold Vl at hk
 simp only [oI,ah]
 cases ht:s.testBit i with
 | true=>
  rw [ht] at hk
  simp only [Bool.not_true,al7,kZ,al8,c8,ah]
  exact hk
 | false=>
  rw [ht] at hk
  obtain ⟨b,o,g1,g2⟩:=NS.adB iP hi
  have QK:bs.getD i 0<1024:=by
   have:bs.getD i 0=bs[i]:=by simp [getD_eq_getElem?_getD,hi]
   rw [this];exact hb _ (getElem_mem hi)
  obtain ⟨r,r1,r2⟩:=aq9 mM QK hs
  simp only [Bool.not_false,al7,iY,AP,ah,b9,zero_add,ld,g1,g2,r1,jo,al8,dZ]
  have e:decide ((r:Int)=0)=iK (bs.getD i 0) s:=by
   cases hq:iK (bs.getD i 0) s with
   | true=>exact aW (by have:=r2.2 hq;omega)
   | false=>exact aT (by intro h0;have:=r2.1 (by omega);rw [hq] at this;cases this)
  rw [e]
  simpa using hk
def cB (s:Nat):Nat→List Nat
 | 0=>[]
 | i+1=>if s.testBit i=true then cB s i++[i] else cB s i
theorem E5 (s:Nat):∀n,(cB s n).length≤n
 | 0=>le_refl _
 | n+1=>by have:=E5 s n;simp only [cB];split <;> simp <;> omega
theorem CA (s:Nat):∀(n i:Nat),i∈cB s n→i<n∧s.testBit i=true
 | 0,i,h=>by simp [cB] at h
 | n+1,i,h=>by
  simp only [cB] at h
  split at h
  ·rename_i ht
   rcases mem_append.1 h with h | h
   ·have:=CA s n i h;exact ⟨by omega,this.2⟩
   ·have:i=n:=by simpa using h
    subst this;exact ⟨by omega,ht⟩
  ·have:=CA s n i h;exact ⟨by omega,this.2⟩
theorem Mh {s:Nat} {h:ae} {K:Value→ae→Prop} (hs:s<1024) (hk:∀v h',EX h h'→NS h' v .i64 ((cB s 10).map fun i:Nat=>(i:Int))→K v h'):aq prog 74 [U s] h K:=by
 refine f74 ?_
 unfold Oi
 refine dL (σ:=Nat×Value×ae) (fun p=>[p.2.1,I p.1]) (fun p=>p.2.2) (fun p=>p.1≤10∧EX h p.2.2∧fU h.length p.2.2 3 p.2.1 ((cB s p.1).map fun i:Nat=>I i)) (fun p=>10-p.1)
  (0,.slice none 0 0,h) rfl rfl ⟨zero_le _,EX.refl _,.inl ⟨rfl,rfl⟩⟩ ?_
 rintro ⟨i,v,g⟩ ⟨hi,xg,ky⟩ L hL
 simp only at hi xg ky hL⊢
 have ye:=E5 s i
 rw [aC8]
 simp only [cN,ah,cj]
 refine ⟨fun aB=>?_,fun cL=>?_⟩
 ·refine Xb (by omega) hs ?_
  refine uf (fun ht=>?_) fun ht=>?_
  ·refine OM ky xg (by simp;omega) (by simp [maxLen];omega) rfl rfl ?_
   intro v' g' xg' dN
   simp only [ame,cA,ah,fk i (by omega),true_and]
   refine hL (i+1,v',g') ⟨by show i+1≤10;omega,xg',?_⟩ (by show 10-(i+1)<10-i;omega)
   show fU h.length g' 3 v' ((cB s (i+1)).map fun i:Nat=>I i)
   simp only [cB,ht,if_true,List.map_append,List.map_cons,List.map_nil]
   exact dN
  ·simp only [ame,cA,ah,fk i (by omega),true_and]
   refine hL (i+1,v,g) ⟨by show i+1≤10;omega,xg,?_⟩ (by show 10-(i+1)<10-i;omega)
   show fU h.length g 3 v ((cB s (i+1)).map fun i:Nat=>I i)
   simp only [cB,ht,false_eq_true,if_false]
   exact ky
 ·have fW:i=10:=by omega
  subst fW
  rw [aC7]
  refine hk v g xg ?_
  rcases ky with ⟨h1,h2⟩ | ⟨a,_,h2,h3⟩
  ·have:cB s 10=[]:=by simpa using h2
   rw [this,h1]
   exact NS.nil g .i64
  ·rw [h2,length_map]
   have:=NS.sl (h:=g) (e:=3) (i:=a) (k:=.i64) (ns:=(cB s 10).map fun i:Nat=>(i:Int)) (.inr (by simp [aR,h3])) (by simp [maxLen];omega)
   rw [length_map] at this
   exact this
def rk (js:List (Int×Int)) (l:List Nat):Int:=iL l fun i=>(js.getD i (0,0)).1
theorem am2 {α:Type} (f:α→Int) (l:List α) {j:Nat} (hj:j<l.length):iL (l.take (j+1)) f=iL (l.take j) f+f l[j]:=by
 rw [List.take_succ_eq_append_getElem hj,A5]
 simp [iL]
theorem PS.getD {h:ae} {v:Value} {js:List (Int×Int)} (p:PS h v js) {i:Nat} (hi:i<js.length):∃b o,aY 2 v (I i)=some (pt b o)∧af false 1 h (pt b o)=some (I (js.getD i (0,0)).1)∧af false 1 h (pt b (o+1))=some (I (js.getD i (0,0)).2)∧
  af true 2 h (pt b o)=some (.agg #[I (js.getD i (0,0)).1,I (js.getD i (0,0)).2]):=by
 obtain ⟨b,o,g1,g2,g3,g4⟩:=p.get i hi
 have e:js.getD i (0,0)=js[i]:=by simp [getD_eq_getElem?_getD,hi]
 rw [e]
 exact ⟨b,o,g1,g2,g3,g4⟩
def nQ (js:List (Int×Int)):Prop:=∀j∈js,(1≤j.1∧j.1≤50)∧0≤j.2∧j.2≤50
theorem nQ.getD {js:List (Int×Int)} (h:nQ js) {i:Nat} (hi:i<js.length):(1≤(js.getD i (0,0)).1∧(js.getD i (0,0)).1≤50)∧0≤(js.getD i (0,0)).2∧(js.getD i (0,0)).2≤50:=by
 have e:js.getD i (0,0)=js[i]:=by simp [getD_eq_getElem?_getD,hi]
 rw [e];exact h _ (getElem_mem hi)
theorem am0 {js:List (Int×Int)} (h:nQ js):∀l:List Nat,(∀i∈l,i<js.length)→0≤rk js l∧rk js l≤50*l.length
 | [],_=>by simp [rk,iL]
 | i::l,hl=>by
  have ih:=am0 h l fun x hx=>hl x (by simp [hx])
  have:=h.getD (hl i (by simp))
  unfold rk at ih⊢
  simp only [iL,length_cons]
  omega
theorem Gj {p:Value} {js:List (Int×Int)} {bs:List Nat} {s:Nat} {h:ae} {K:Value→ae→Prop} (hp:PL h p js bs) (hj:nQ js) (hl:js.length≤10) (hs:s<2^js.length) (hk:∀h',EX h h'→K (I (rk js (cB s 10))) h'):aq prog 62 [p,U s] h K:=by
 have awJ:(2:Nat)^js.length≤2^10:=pow_le_pow_right (by decide) hl
 refine f62 (Mh (by omega) ?_)
 intro v g xg hn
 obtain ⟨a,vj,vb,rfl,hc,Ce,iP⟩:=hp.mono xg
 have aB:∀i∈cB s 10,i<js.length:=by
  intro i hi
  have h1:=(CA s 10 i hi).2
  apply byContradiction
  intro cL
  have:s<2^i:=lt_of_lt_of_le hs (pow_le_pow_right (by decide) (by omega))
  rw [Nat.testBit_lt_two_pow this] at h1
  cases h1
 have ye:=E5 s 10
 have AD:bc v=some (I (cB s 10).length):=by have:=hn.len;rwa [length_map] at this
 simp only [AD,ah]
 refine dL (σ:=Nat) (fun i=>[I (rk js ((cB s 10).take i)),I i]) (fun _=>g) (fun i=>i≤(cB s 10).length) (fun i=>(cB s 10).length-i) 0 rfl rfl (zero_le _) ?_
 intro i hi L hL
 rw [aCI]
 simp only [cN,ah,cj]
 refine ⟨fun kr=>?_,fun cL=>?_⟩
 ·have b6:i<(cB s 10).length:=by omega
  obtain ⟨b,o,g1,g2⟩:=hn.get i (by simpa using b6)
  have e:((cB s 10).map fun i:Nat=>(i:Int))[i]'(by simpa using b6)=((cB s 10)[i]:Int):=by simp
  rw [e] at g2
  have hm:=aB _ (getElem_mem b6)
  obtain ⟨c,q,r1,r2,r3,r4⟩:=PS.getD Ce hm
  have ld:af false 1 g (pt a 0)=some vj:=by simp [af,hc,cm]
  have b7:rk js ((cB s 10).take (i+1))=rk js ((cB s 10).take i)+(js.getD (cB s 10)[i] (0,0)).1:=by
   exact am2 _ _ b6
  have lU:=am0 hj ((cB s 10).take (i+1)) fun x hx=>aB x (List.mem_of_mem_take hx)
  rw [List.length_take,b7] at lU
  simp only [g1,g2,ah,AP,b9,add_zero,ld,r1,r2,cA,fk i (by omega)]
  rw [wrap64 (by omega) (by omega),←b7]
  simp only [true_and]
  exact hL (i+1) (by omega) (by omega)
 ·have fW:i=(cB s 10).length:=by omega
  subst fW
  rw [take_length,aCH]
  exact hk g xg
end
end Go.Proofs.YtelmdbpaoifmoaaGreat
namespace Go.Sim
section
def iB (bs:List Nat) (s i:Nat):Bool:= !s.testBit i&&iK (bs.getD i 0) s
def bt (n:Nat):Nat:=2^n-1
theorem E8 {s i:Nat} (h:s.testBit i=false):s<s ||| 2^i:=by
 have h1:s≤s ||| 2^i:=Nat.left_le_or
 rcases Nat.lt_or_eq_of_le h1 with h2 | h2
 ·exact h2
 ·exfalso
  have:=congrArg (fun m=>m.testBit i) h2
  simp only [sw] at this
  rw [h] at this
  simp at this
theorem wZ {bs:List Nat} {s i:Nat} (h:iB bs s i=true):s.testBit i=false:=by
 unfold iB at h
 rw [and_eq_true] at h
 simpa using h.1
end
section
def eZ:Nat→List Nat→Nat
 | s,[]=>s
 | s,i::l=>eZ (s ||| 2^i) l
def fZ (bs:List Nat) (n:Nat):Nat→List Nat→Bool
 | _,[]=>true
 | s,i::l=>(decide (i<n)&&iB bs s i)&&fZ bs n (s ||| 2^i) l
theorem amV:∀(s:Nat) (l m:List Nat),eZ s (l++m)=eZ (eZ s l) m
 | s,[],m=>rfl
 | s,i::l,m=>by simp only [cons_append,eZ,amV _ l m]
theorem ait (bs:List Nat) (n:Nat):∀(s:Nat) (l m:List Nat),fZ bs n s (l++m)=(fZ bs n s l&&fZ bs n (eZ s l) m)
 | s,[],m=>by simp [fZ,eZ]
 | s,i::l,m=>by simp only [cons_append,fZ,eZ,ait bs n _ l m,Bool.and_assoc]
theorem amW {n:Nat}:∀{s:Nat} {l:List Nat},s<2^n→(∀i∈l,i<n)→eZ s l<2^n
 | s,[],hs,_=>hs
 | s,i::l,hs,h=>amW (s:=s ||| 2^i) (tM hs (h i (by simp))) fun x hx=>h x (by simp [hx])
theorem vf {bs:List Nat} {n:Nat}:∀{s:Nat} {l:List Nat},fZ bs n s l=true→∀i∈l,i<n
 | s,[],_,i,hi=>by simp at hi
 | s,j::l,h,i,hi=>by
  simp only [fZ,and_eq_true,decide_eq_true_eq] at h
  rcases mem_cons.1 hi with rfl | hi
  ·exact h.1.1
  ·exact vf h.2 i hi
def db (js:List (Int×Int)) (i:Nat):Int:=(js.getD i (0,0)).1
def fq (js:List (Int×Int)) (i:Nat):Int:=(js.getD i (0,0)).2
def fJ (js:List (Int×Int)):Int→List Nat→Int
 | _,[]=>0
 | now,i::l=>fq js i*(now+db js i)+fJ js (now+db js i) l
def uC (js:List (Int×Int)):Int→List Nat→Int
 | now,[]=>now
 | now,i::l=>uC js (now+db js i) l
theorem acI (js:List (Int×Int)):∀(now:Int) (l m:List Nat),fJ js now (l++m)=fJ js now l+fJ js (uC js now l) m
 | now,[],m=>by simp [fJ,uC]
 | now,i::l,m=>by simp only [cons_append,fJ,uC,acI js _ l m];omega
end
section
def jQ (s:Nat):Nat→List Nat
 | 0=>[]
 | i+1=>if s.testBit i=true then jQ s i++[i] else jQ s i
def dY (js:List (Int×Int)) (s:Nat):Int:=iL (jQ s 10) (db js)
theorem Kg (js:List (Int×Int)) {s i:Nat} (hi:i<10) (hb:s.testBit i=false):dY js (s ||| 2^i)=dY js s+db js i:=by
 have key:∀m,iL (jQ (s ||| 2^i) m) (db js)=iL (jQ s m) (db js)+if i<m then db js i else 0:=by
  intro m
  induction m with
  | zero=>simp [jQ,iL]
  | succ m ih=>
   simp only [jQ,sw]
   by_cases eO:i=m
   ·subst eO
    rw [hb]
    simp only [decide_true,Bool.or_true,if_true,A5,iL,ih]
    simp
   ·have:decide (i=m)=false:=aT eO
    rw [this,Bool.or_false]
    have h2:(if i<m+1 then db js i else 0)=if i<m then db js i else 0:=by
     by_cases h3:i<m
     ·rw [if_pos h3,if_pos (by omega)]
     ·rw [if_neg h3,if_neg (by omega)]
    rw [h2]
    split
    ·simp only [A5,iL,ih];omega
    ·exact ih
 have:=key 10
 rw [if_pos hi] at this
 exact this
theorem Kh (js:List (Int×Int)):dY js 0=0:=by
 have:∀m,jQ 0 m=[]:=by
  intro m
  induction m with
  | zero=>rfl
  | succ m ih=>simp [jQ,ih]
 unfold dY
 rw [this];rfl
def jL (bs:List Nat) (js:List (Int×Int)) (s:Nat) (g:Nat→Int):Nat→Int
 | 0=> -1
 | i+1=>if iB bs s i=true then (if jL bs js s g i<0∨fq js i*(dY js s+db js i)+g i<jL bs js s g i then fq js i*(dY js s+db js i)+g i else jL bs js s g i) else jL bs js s g i
theorem OZ {bs:List Nat} {js:List (Int×Int)} {s:Nat} {g g':Nat→Int}:∀{m:Nat},(∀i,i<m→iB bs s i=true→g i=g' i)→jL bs js s g m=jL bs js s g' m
 | 0,_=>rfl
 | m+1,h=>by
  have ih:=OZ (bs:=bs) (js:=js) (s:=s) (g:=g) (g':=g') (m:=m) fun i hi=>h i (by omega)
  simp only [jL,ih]
  split
  ·rename_i hr
   rw [h m (by omega) hr]
  ·rfl
def me (bs:List Nat) (js:List (Int×Int)) (n:Nat):Nat→Nat→Int
 | 0,_=>0
 | f+1,s=>if s=bt n then 0 else jL bs js s (fun i=>me bs js n f (s ||| 2^i)) n
theorem ags (bs:List Nat) (js:List (Int×Int)) (n:Nat):∀(f s:Nat),s<2^n→bt n-s≤f→me bs js n (f+1) s=me bs js n f s
 | 0,s,hs,hf=>by
  have:s=bt n:=by unfold bt at*;omega
  simp [me,this]
 | f+1,s,hs,hf=>by
  by_cases he:s=bt n
  ·simp [me,he]
  ·rw [me,me,if_neg he,if_neg he]
   refine OZ fun i hi hr=>?_
   have h1:=E8 (wZ hr)
   exact ags bs js n f _ (tM hs hi) (by unfold bt at*;omega)
def eG (bs:List Nat) (js:List (Int×Int)) (n s:Nat):Int:=me bs js n (bt n) s
theorem azD (bs:List Nat) (js:List (Int×Int)) (n:Nat) {s:Nat} (hs:s<2^n) {f:Nat} (h1:bt n-s≤f) (h2:f≤bt n):me bs js n f s=eG bs js n s:=by
 unfold eG
 obtain ⟨d,hd⟩:∃d,bt n=f+d:=⟨bt n-f,by omega⟩
 have key:∀d,me bs js n (f+d) s=me bs js n f s:=by
  intro d
  induction d with
  | zero=>rfl
  | succ d ih=>rw [show f+(d+1)=f+d+1 by omega,ags bs js n (f+d) s hs (by omega),ih]
 rw [hd]
 exact (key d).symm
theorem J7 (bs:List Nat) (js:List (Int×Int)) (n:Nat):eG bs js n (bt n)=0:=by
 unfold eG
 cases h:bt n with
 | zero=>rfl
 | succ f=>rw [me,if_pos h.symm]
theorem agt (bs:List Nat) (js:List (Int×Int)) (n:Nat) {s:Nat} (hs:s<bt n):eG bs js n s=jL bs js s (fun i=>eG bs js n (s ||| 2^i)) n:=by
 have iu:s<2^n:=by unfold bt at hs;omega
 obtain ⟨f,hf⟩:∃f,bt n=f+1:=⟨bt n-1,by omega⟩
 conv=>lhs;unfold eG;rw [hf,me,if_neg (by omega)]
 refine OZ fun i hi hr=>?_
 have h1:=E8 (wZ hr)
 exact azD bs js n (tM iu hi) (by omega) (by omega)
def tT (js:List (Int×Int)):Prop:=∀i,(0≤db js i∧db js i≤50)∧0≤fq js i∧fq js i≤50
theorem Ta {js:List (Int×Int)} (h:tT js) (s:Nat):0≤dY js s∧dY js s≤500:=by
 have key:∀m,0≤iL (jQ s m) (db js)∧iL (jQ s m) (db js)≤50*m:=by
  intro m
  induction m with
  | zero=>simp [jQ,iL]
  | succ m ih=>
   have:=h m
   simp only [jQ]
   split
   ·simp only [A5,iL];omega
   ·omega
 have:=key 10
 unfold dY
 omega
theorem Ih {js:List (Int×Int)} (h:tT js) (s i:Nat):0≤fq js i*(dY js s+db js i)∧fq js i*(dY js s+db js i)≤27500:=by
 have h1:=h i
 have h2:=Ta h s
 have yf:0≤fq js i*(dY js s+db js i):=Int.mul_nonneg h1.2.1 (by omega)
 have qI:fq js i*(dY js s+db js i)≤50*550:=Int.mul_le_mul h1.2.2 (by omega) (by omega) (by omega)
 omega
theorem O0 {bs:List Nat} {js:List (Int×Int)} (h:tT js) {s:Nat} {g:Nat→Int}:∀{m:Nat},(∀i,i<m→iB bs s i=true→0≤g i)→
  (jL bs js s g m= -1∧∀i,i<m→iB bs s i=false)∨(0≤jL bs js s g m∧(∃i,i<m∧iB bs s i=true∧jL bs js s g m=fq js i*(dY js s+db js i)+g i)∧∀i,i<m→iB bs s i=true→jL bs js s g m≤fq js i*(dY js s+db js i)+g i)
 | 0,_=>.inl ⟨rfl,fun i hi=>by omega⟩
 | m+1,hg=>by
  have hc:=(Ih h s m).1
  have ih:=O0 h (bs:=bs) (s:=s) (g:=g) (m:=m) fun i hi=>hg i (by omega)
  by_cases hr:iB bs s m=true
  ·have hgm:=hg m (by omega) hr
   simp only [jL,hr,if_true]
   rcases ih with ⟨e,dB⟩ | ⟨h0,⟨j,j1,j2,j3⟩,hle⟩
   ·rw [e,if_pos (.inl (by omega))]
    refine .inr ⟨by omega,⟨m,by omega,hr,rfl⟩,fun i hi jt=>?_⟩
    by_cases eO:i=m
    ·subst eO;exact Int.le_refl _
    ·rw [dB i (by omega)] at jt;cases jt
   ·by_cases aB:fq js m*(dY js s+db js m)+g m<jL bs js s g m
    ·rw [if_pos (.inr aB)]
     refine .inr ⟨by omega,⟨m,by omega,hr,rfl⟩,fun i hi jt=>?_⟩
     by_cases eO:i=m
     ·subst eO;exact Int.le_refl _
     ·have:=hle i (by omega) jt;omega
    ·rw [if_neg (by omega)]
     refine .inr ⟨h0,⟨j,by omega,j2,j3⟩,fun i hi jt=>?_⟩
     by_cases eO:i=m
     ·subst eO;omega
     ·exact hle i (by omega) jt
  ·have mE:iB bs s m=false:=by simpa using hr
   simp only [jL,mE]
   simp only [false_eq_true,if_false]
   rcases ih with ⟨e,dB⟩ | ⟨h0,⟨j,j1,j2,j3⟩,hle⟩
   ·refine .inl ⟨e,fun i hi=>?_⟩
    by_cases eO:i=m
    ·subst eO;exact mE
    ·exact dB i (by omega)
   ·refine .inr ⟨h0,⟨j,by omega,j2,j3⟩,fun i hi jt=>?_⟩
    by_cases eO:i=m
    ·subst eO;rw [mE] at jt;cases jt
    ·exact hle i (by omega) jt
def uk (bs:List Nat) (n:Nat):Prop:=∀s,s<bt n→∃i,i<n∧iB bs s i=true
theorem agr {bs:List Nat} {js:List (Int×Int)} (h:tT js) {n:Nat} (hu:uk bs n):∀(f s:Nat),s<2^n→0≤me bs js n f s∧me bs js n f s≤27500*f
 | 0,s,hs=>by simp [me]
 | f+1,s,hs=>by
  rw [me]
  by_cases he:s=bt n
  ·rw [if_pos he];omega
  ·rw [if_neg he]
   have tn:s<bt n:=by unfold bt at*;omega
   have ih:∀i,i<n→0≤me bs js n f (s ||| 2^i)∧me bs js n f (s ||| 2^i)≤27500*f:=fun i hi=>agr h hu f _ (tM hs hi)
   rcases O0 h (bs:=bs) (s:=s) (g:=fun i=>me bs js n f (s ||| 2^i)) (m:=n) (fun i hi _=>(ih i hi).1) with ⟨_,dB⟩ | ⟨h0,⟨j,j1,j2,j3⟩,_⟩
   ·obtain ⟨i,hi,hr⟩:=hu s tn
    rw [dB i hi] at hr;cases hr
   ·refine ⟨h0,?_⟩
    rw [j3]
    have h1:=Ih h s j
    have h2:=ih j j1
    omega
theorem Fb {bs:List Nat} {js:List (Int×Int)} (h:tT js) {n:Nat} (hn:n≤10) (hu:uk bs n) {s:Nat} (hs:s<2^n):0≤eG bs js n s∧eG bs js n s≤30000000:=by
 have:=agr h hu (bt n) s hs
 have xU:(2:Nat)^n≤2^10:=pow_le_pow_right (by decide) hn
 have:bt n≤1023:=by unfold bt;omega
 unfold eG
 omega
theorem agu {bs:List Nat} {js:List (Int×Int)} (h:tT js) {n:Nat} (hn:n≤10) (hu:uk bs n) {s:Nat} (hs:s<bt n):
  (∃i,i<n∧iB bs s i=true∧eG bs js n s=fq js i*(dY js s+db js i)+eG bs js n (s ||| 2^i))∧∀i,i<n→iB bs s i=true→eG bs js n s≤fq js i*(dY js s+db js i)+eG bs js n (s ||| 2^i):=by
 have iu:s<2^n:=by unfold bt at hs;omega
 rw [agt bs js n hs]
 rcases O0 h (bs:=bs) (s:=s) (g:=fun i=>eG bs js n (s ||| 2^i)) (m:=n) (fun i hi _=>(Fb h hn hu (tM iu hi)).1) with ⟨_,dB⟩ | ⟨_,b,c⟩
 ·obtain ⟨i,hi,hr⟩:=hu s hs
  rw [dB i hi] at hr;cases hr
 ·exact ⟨b,c⟩
theorem SU {bs:List Nat} {js:List (Int×Int)} (h:tT js) {n:Nat} (hn:n≤10) (hu:uk bs n):∀{l:List Nat} {s:Nat},s<2^n→fZ bs n s l=true→eZ s l=bt n→eG bs js n s≤fJ js (dY js s) l
 | [],s,hs,_,he=>by
  have fK:s=bt n:=he
  rw [fK,J7]
  exact Int.le_refl _
 | i::l,s,hs,aC,he=>by
  simp only [fZ,and_eq_true,decide_eq_true_eq] at aC
  obtain ⟨⟨hi,hr⟩,RF⟩:=aC
  have h1:=E8 (wZ hr)
  have h2:=tM hs hi
  have tn:s<bt n:=by unfold bt;omega
  have h3:=(agu h hn hu tn).2 i hi hr
  have ih:=SU h hn hu (l:=l) h2 RF he
  rw [Kg js (by omega) (wZ hr)] at ih
  simp only [fJ]
  omega
end
section
def tQ (bs:List Nat) (s:Nat):Nat→Nat
 | 0=>s
 | i+1=>if iB bs (tQ bs s i) i=true then tQ bs s i ||| 2^i else tQ bs s i
def rf (bs:List Nat) (n:Nat):Nat→Nat
 | 0=>0
 | r+1=>tQ bs (rf bs n r) n
theorem adu (n:Nat):bt n<2^n:=by
 have:0<2^n:=pow_pos (by decide)
 unfold bt;omega
theorem UT {bs:List Nat} {s n:Nat} (hs:s<2^n):∀{i:Nat},i≤n→tQ bs s i<2^n
 | 0,_=>hs
 | i+1,h=>by
  have ih:=UT (bs:=bs) hs (i:=i) (by omega)
  simp only [tQ]
  split
  ·exact tM ih (by omega)
  ·exact ih
theorem amw (bs:List Nat) (n:Nat):∀r,rf bs n r<2^n
 | 0=>pow_pos (by decide)
 | r+1=>UT (amw bs n r) (le_refl n)
def BN (bs:List Nat) (n t:Nat):Prop:=∀s,(∃j,t.testBit j=true∧s.testBit j=false)→∃i,i<n∧iB bs s i=true
theorem BN.step {bs:List Nat} {n t i:Nat} (h:BN bs n t) (hi:i<n) (hr:iB bs t i=true):BN bs n (t ||| 2^i):=by
 rintro s ⟨j,h1,h2⟩
 by_cases rW:∃j,t.testBit j=true∧s.testBit j=false
 ·exact h s rW
 ·have EL:∀k,t.testBit k=true→s.testBit k=true:=by
   intro k hk
   cases hs:s.testBit k with
   | true=>rfl
   | false=>exact absurd ⟨k,hk,hs⟩ rW
  rw [sw] at h1
  have fX:i=j:=by
   cases ht:t.testBit j with
   | true=>have:=EL j ht;rw [h2] at this;cases this
   | false=>rw [ht] at h1;simpa using h1
  subst fX
  refine ⟨i,hi,?_⟩
  unfold iB at hr⊢
  rw [h2,Bool.not_false,Bool.true_and,pn]
  rw [and_eq_true,pn] at hr
  exact fun k hk=>EL k (hr.2 k hk)
theorem ald {bs:List Nat} {n s:Nat} (h:BN bs n s):∀{i:Nat},i≤n→BN bs n (tQ bs s i)
 | 0,_=>h
 | i+1,hi=>by
  have ih:=ald h (i:=i) (by omega)
  simp only [tQ]
  split
  ·rename_i hr;exact ih.step (by omega) hr
  ·exact ih
theorem amx (bs:List Nat) (n:Nat):∀r,BN bs n (rf bs n r)
 | 0=>by rintro s ⟨j,h1,_⟩;simp [rf] at h1
 | r+1=>ald (amx bs n r) (le_refl n)
theorem vX (n j:Nat):(bt n).testBit j=decide (j<n):=Nat.testBit_two_pow_sub_one n j
theorem av4 {n s:Nat} (hs:s<2^n) (h:∀j,j<n→s.testBit j=true):s=bt n:=by
 apply eq_of_testBit_eq
 intro j
 rw [vX]
 by_cases hj:j<n
 ·rw [aW hj,h j hj]
 ·rw [aT hj]
  exact Nat.testBit_lt_two_pow (lt_of_lt_of_le hs (pow_le_pow_right (by decide) (by omega)))
theorem Kf {n s:Nat} (hs:s<bt n):∃j,j<n∧s.testBit j=false:=by
 apply byContradiction
 intro dB
 have:s=bt n:=av4 (lt_of_lt_of_le hs (Nat.le_of_lt (adu n))) fun j hj=>by
  cases ht:s.testBit j with
  | true=>rfl
  | false=>exact absurd ⟨j,hj,ht⟩ dB
 omega
theorem aq3 {bs:List Nat} {n:Nat} (h:rf bs n n=bt n):uk bs n:=by
 intro s hs
 obtain ⟨j,h1,h2⟩:=Kf hs
 have:=amx bs n n
 rw [h] at this
 exact this s ⟨j,by rw [vX];exact aW h1,h2⟩
end
end Go.Sim
namespace Go.Proofs.YtelmdbpaoifmoaaGreat
open Go.Sim
section
def ni (j:Int×Int):Bool:=(decide (1≤j.1)&&decide (j.1≤50))&&(decide (0≤j.2)&&decide (j.2≤50))
def mh (n:Nat) (p:Int×Int):Bool:=(decide (0≤min p.1 p.2)&&decide (max p.1 p.2<n))&& !decide (p.1=p.2)
def qy (js ps:List (Int×Int)):Bool:=((decide (1≤js.length)&&decide (js.length≤10))&&decide (ps.length≤40))&&(js.all ni&&ps.all (mh js.length))
theorem Vm (bs:List Nat) (s i:Nat):Vl bs s i=iB bs s i:=rfl
theorem Ec (n:Nat):Dy n=bt n:=rfl
theorem awt {js ps:List (Int×Int)} (h:qy js ps=true):(1≤js.length∧js.length≤10)∧ps.length≤40∧nQ js:=by
 simp only [qy,and_eq_true,decide_eq_true_eq] at h
 refine ⟨h.1.1,h.1.2,fun j hj=>?_⟩
 have:=all_eq_true.1 h.2.1 j hj
 simp only [ni,and_eq_true,decide_eq_true_eq] at this
 exact this
structure BS (ps:List (Int×Int)) (n:Nat) (bs:List Nat):Prop where
 len:bs.length=n
 lt:∀b∈bs,b<2^n
 bit:∀i,i<n→∀j:Nat,(bs.getD i 0).testBit j=decide (((j:Int),(i:Int))∈ps)
theorem BS.awA {ps:List (Int×Int)} {n:Nat} {bs:List Nat} (b:BS ps n bs) (i:Nat):bs.getD i 0<2^n:=by
 by_cases hi:i<bs.length
 ·have:bs.getD i 0=bs[i]:=by simp [getD_eq_getElem?_getD,hi]
  rw [this];exact b.lt _ (getElem_mem hi)
 ·have:bs.getD i 0=0:=by simp only [getD_eq_getElem?_getD];rw [List.getElem?_eq_none (by omega)];rfl
  rw [this];exact pow_pos (by decide)
theorem C59 {vj vp:Value} {js ps:List (Int×Int)} {h:ae} {K:Value→ae→Prop} (hj:PS h vj js) (hp:PS h vp ps) (m9:js.length≤1000) (j5:ps.length≤1000)
  (hZ:qy js ps=false→∀h',EX h h'→K (.tuple #[.pointer none,B false]) h')
  (hk:qy js ps=true→∀p h' bs,EX h h'→PL h' p js bs→BS ps js.length bs→K (.tuple #[p,B (decide (rf bs js.length js.length=bt js.length))]) h'):aq prog 59 [vj,vp] h K:=by
 refine f59 ?_
 simp only [Oa,hj.len,ah,cN]
 by_cases c1:1≤js.length
 rotate_left
 ·rw [aW (show (js.length:Int)<1 by omega)]
  simp only [al5,fT,Vc,dZ,ah,U7,K1,dM]
  exact hZ (by unfold qy;rw [aT c1];simp) h (EX.refl _)
 simp only [aT (show ¬(js.length:Int)<1 by omega),al5,eJ,gj,ah]
 by_cases c2:js.length≤10
 rotate_left
 ·rw [aW (show (10:Int)<(js.length:Int) by omega)]
  simp only [Vc,c8,ah,U7,fT,K1,dZ,dM]
  exact hZ (by unfold qy;rw [aT c2];simp) h (EX.refl _)
 simp only [aT (show ¬(10:Int)<(js.length:Int) by omega),Vc,c8,ah,U7,eJ,hp.len,gj]
 by_cases c3:ps.length≤40
 rotate_left
 ·rw [aW (show (40:Int)<(ps.length:Int) by omega)]
  simp only [K1,c8,ah,dM]
  exact hZ (by unfold qy;rw [aT c3];simp) h (EX.refl _)
 simp only [aT (show ¬(40:Int)<(ps.length:Int) by omega),K1,c8,ah,dP]
 have h1:=c1
 have lT:=c2
 have h40:=c3
 have rP:qy js ps=(js.all ni&&ps.all (mh js.length)):=by
  unfold qy;rw [aW c1,aW c2,aW c3];simp
 rw [rP] at hZ hk
 generalize hn:js.length=n at*
 have xU:(2:Nat)^n≤2^10:=pow_le_pow_right (by decide) lT
 have hz:∀m,gy [Value.int .u16 0] m=(replicate m 0).map fun b:Nat=>U b:=by
  intro m
  induction m with
  | zero=>rfl
  | succ m ih=>
   have:gy [Value.int .u16 0] (m+1)=Value.int .u16 0::gy [Value.int .u16 0] m:=by simp [gy,List.replicate_succ]
   rw [this,ih,List.replicate_succ];rfl
 have mk:lE 131 2 [.int .u16 0] h (I n) (I n)=some (sl 131 h.length 0 n,h++[.arr 131 ((replicate n 0).map fun b:Nat=>U b)]):=by
  simp only [lE]
  rw [if_pos ⟨by omega,by omega,by omega,by omega⟩,Int.toNat_natCast,hz]
 obtain ⟨t1,t2⟩:=amS hj.len
 have bd:dW [(.slice none 0 0),(.slice none 0 0)] [(0,1,vj),(1,1,sl 131 h.length 0 n)]=some (.agg #[vj,sl 131 h.length 0 n]):=by
  have s1:fP (sl 131 h.length 0 n)=true:=rfl
  have s2:cR (sl 131 h.length 0 n)=[sl 131 h.length 0 n]:=rfl
  simp [dW,qw,t1,t2,s1,s2,setAt]
 have bx:∀g:ae,bC 162 g (.agg #[vj,sl 131 h.length 0 n])=some (pt g.length 0,g++[.arr 162 [vj,sl 131 h.length 0 n]]):=fun _=>rfl
 simp only [mk,aE,bd,ah,bx,List.length_append,length_cons,List.length_nil,zero_add]
 have k0:(h++[ak.arr 131 ((replicate n 0).map fun b:Nat=>U b)]++[ak.arr 162 [vj,sl 131 h.length 0 n]])[h.length]?=some (.arr 131 ((replicate n 0).map fun b:Nat=>U b)):=by simp
 have k1:(h++[ak.arr 131 ((replicate n 0).map fun b:Nat=>U b)]++[ak.arr 162 [vj,sl 131 h.length 0 n]])[h.length+1]?=some (.arr 162 [vj,sl 131 h.length 0 n]):=by simp
 have x1:EX h (h++[ak.arr 131 ((replicate n 0).map fun b:Nat=>U b)]++[ak.arr 162 [vj,sl 131 h.length 0 n]]):=(EX.append _ _).push _
 generalize h++[ak.arr 131 ((replicate n 0).map fun b:Nat=>U b)]++[ak.arr 162 [vj,sl 131 h.length 0 n]]=hA at k0 k1 x1⊢
 have D3:∀g:ae,ba 46 [(.int .i64 (0)),(.int .i64 (0))] g=some (pt g.length 0,g++[.arr 46 [I 0,I 0]]):=fun _=>rfl
 have e26:∀g:ae,ba 88 [(.int .i64 (0)),(.int .i64 (0))] g=some (pt g.length 0,g++[.arr 88 [I 0,I 0]]):=fun _=>rfl
 have ri:∀(g:ae) (t:TypeId) (a b:Int),aK 2 (g++[.arr t [I 0,I 0]]) (pt g.length 0) (.agg #[I a,I b])=some (undef,g++[.arr t [I a,I b]]):=by
  intro g t a b
  simp [aK,qU,fP,cR,Value.cells,setAt]
 have hjA:=hj.mono x1
 have db:bc vj=some (I n):=by rw [hj.len,hn]
 simp only [db,ah]
 -- gv mc
 refine dL (σ:=Nat×ae) (fun p=>[I p.1]) (fun p=>p.2) (fun p=>p.1≤n∧EX hA p.2∧(js.take p.1).all ni=true) (fun p=>n-p.1) (0,hA) rfl rfl ⟨zero_le _,EX.refl _,rfl⟩ ?_
 rintro ⟨i,g⟩ ⟨hi,xg,fh⟩ L hL
 simp only at hi xg fh hL⊢
 rw [aCz]
 simp only [cN,ah,cj]
 refine ⟨fun aB=>?_,fun cL=>?_⟩
 ·have eC:i<js.length:=by omega
  obtain ⟨b,o,g1,g2,g3,g4⟩:=PS.getD (hjA.mono xg) eC
  simp only [g1,g4,ah,D3,aE,ri]
  have l0:af false 1 (g++[ak.arr 46 [I (js.getD i (0,0)).1,I (js.getD i (0,0)).2]]) (pt g.length 0)=some (I (js.getD i (0,0)).1):=nL rfl
  have l1:af false 1 (g++[ak.arr 46 [I (js.getD i (0,0)).1,I (js.getD i (0,0)).2]]) (pt g.length 1)=some (I (js.getD i (0,0)).2):=nL rfl
  have pS:(js.take (i+1)).all ni=ni (js.getD i (0,0)):=by
   rw [List.take_succ_eq_append_getElem eC,all_append,fh]
   simp [getD_eq_getElem?_getD,eC]
  have pK:ni (js.getD i (0,0))=false→js.all ni=false:=by
   intro hb
   rw [←pS] at hb
   rw [←List.take_append_drop (i+1) js,all_append,hb];rfl
  generalize js.getD i (0,0)=jb at*
  have stop:ni jb=false→K (.tuple #[.pointer none,B false]) (g++[ak.arr 46 [I jb.1,I jb.2]]):=fun hb=>hZ (by rw [pK hb];rfl) _ ((x1.trans xg).push _)
  simp only [b9,add_zero,l0,ah,cN]
  by_cases d1:1≤jb.1
  rotate_left
  ·rw [aW (show jb.1<1 by omega)]
   simp only [al3,fT,U8,dZ,ah,U9,K3,K4,FJ,dM]
   exact stop (by unfold ni;rw [aT d1];rfl)
  simp only [aT (show ¬jb.1<1 by omega),al3,eJ,b9,add_zero,l0,ah,gj]
  by_cases d2:jb.1≤50
  rotate_left
  ·rw [aW (show (50:Int)<jb.1 by omega)]
   simp only [U8,c8,ah,U9,fT,K3,dZ,K4,FJ,dM]
   exact stop (by unfold ni;rw [aT d2];simp)
  simp only [aT (show ¬(50:Int)<jb.1 by omega),U8,c8,ah,U9,eJ,b9,zero_add,l1,cN]
  by_cases d3:0≤jb.2
  rotate_left
  ·rw [aW (show jb.2<0 by omega)]
   simp only [K3,c8,ah,K4,fT,FJ,dZ,dM]
   exact stop (by unfold ni;rw [aT d3];simp)
  simp only [aT (show ¬jb.2<0 by omega),K3,c8,ah,K4,eJ,b9,zero_add,l1,gj]
  by_cases d4:jb.2≤50
  rotate_left
  ·rw [aW (show (50:Int)<jb.2 by omega)]
   simp only [FJ,c8,ah,dM]
   exact stop (by unfold ni;rw [aT d4];simp)
  simp only [aT (show ¬(50:Int)<jb.2 by omega),FJ,c8,dP,cA,ah,fk i (by omega),true_and]
  exact hL (i+1,_) ⟨by show i+1≤n;omega,xg.push _,by show (js.take (i+1)).all ni=true;rw [pS];unfold ni;rw [aW d1,aW d2,aW d3,aW d4];rfl⟩ (by show n-(i+1)<n-i;omega)
 ·have fW:i=n:=by omega
  have axf:js.all ni=true:=by rw [fW,←hn,take_length] at fh;exact fh
  rw [axf,Bool.true_and] at hZ hk
  rw [aCA]
  have kg0:=xg.get k0
  have kg1:=xg.get k1
  have xhg:=x1.trans xg
  simp only [(hp.mono xhg).len,ah]
  -- gv AU
  refine dL (σ:=Nat×List Nat×ae) (fun p=>[I p.1]) (fun p=>p.2.2) (fun p=>p.1≤ps.length∧EX h p.2.2∧p.2.2[h.length]?=some (.arr 131 (p.2.1.map fun b:Nat=>U b))∧p.2.2[h.length+1]?=some (.arr 162 [vj,sl 131 h.length 0 n])∧BS (ps.take p.1) n p.2.1∧(ps.take p.1).all (mh n)=true) (fun p=>ps.length-p.1)
   (0,replicate n 0,g) rfl rfl ⟨zero_le _,xhg,kg0,kg1,⟨by simp,fun b hb=>by rw [(List.mem_replicate.1 hb).2];exact pow_pos (by decide),fun i hi j=>by simp [getD_eq_getElem?_getD,hi]⟩,rfl⟩ ?_
  rintro ⟨m,bs,g2⟩ ⟨hm,iM,q0,q1,iP,Jv⟩ L2 gV
  simp only at hm iM q0 q1 iP Jv gV⊢
  rw [aCB]
  simp only [cN,ah,cj]
  refine ⟨fun aB=>?_,fun Q2=>?_⟩
  ·have hmp:m<ps.length:=by omega
   obtain ⟨b,o,g1,g3,g4,g5⟩:=(hp.mono iM).get m hmp
   have pS:ps.take (m+1)=ps.take m++[ps[m]]:=List.take_succ_eq_append_getElem hmp
   have RR:(ps.take (m+1)).all (mh n)=mh n ps[m]:=by rw [pS,all_append,Jv];simp
   have pK:mh n ps[m]=false→ps.all (mh n)=false:=by
    intro hb
    rw [←RR] at hb
    rw [←List.take_append_drop (m+1) ps,all_append,hb];rfl
   generalize ps[m]=pr at g3 g4 g5 pS RR pK
   obtain ⟨pa,pb⟩:=pr
   simp only at g5
   simp only [g1,g5,ah,e26,aE,ri]
   have l0:af false 1 (g2++[ak.arr 88 [I pa,I pb]]) (pt g2.length 0)=some (I pa):=nL rfl
   have l1:af false 1 (g2++[ak.arr 88 [I pa,I pb]]) (pt g2.length 1)=some (I pb):=nL rfl
   have y:EX g2 (g2++[ak.arr 88 [I pa,I pb]]):=EX.append _ _
   generalize g2++[ak.arr 88 [I pa,I pb]]=g6 at l0 l1 y⊢
   have stop:mh n (pa,pb)=false→K (.tuple #[.pointer none,B false]) g6:=fun hb=>hZ (pK hb) _ (iM.trans y)
   simp only [b9,add_zero,zero_add,l0,l1,ah,min2,cN]
   by_cases d1:0≤min pa pb
   rotate_left
   ·rw [aW (show min pa pb<0 by omega)]
    simp only [al4,fT,Va,dZ,ah,Vb,K5,dM]
    exact stop (by unfold mh;rw [aT d1];rfl)
   simp only [aT (show ¬min pa pb<0 by omega),al4,eJ,b9,add_zero,zero_add,l0,l1,ah,azx,nA]
   by_cases d2:max pa pb<n
   rotate_left
   ·rw [aW (show (n:Int)≤max pa pb by omega)]
    simp only [Va,c8,ah,Vb,fT,K5,dZ,dM]
    exact stop (by unfold mh;rw [aT d2];simp)
   simp only [aT (show ¬(n:Int)≤max pa pb by omega),Va,c8,ah,Vb,eJ,b9,add_zero,zero_add,l0,l1,jo]
   by_cases d3:pa=pb
   ·rw [aW d3]
    simp only [K5,c8,ah,dM]
    exact stop (by unfold mh;simp only;rw [aW d3];simp)
   simp only [aT d3,K5,c8,ah,dP]
   have aC:mh n (pa,pb)=true:=by unfold mh;simp only;rw [aW d1,aW d2,aT d3];rfl
   obtain ⟨a,rfl⟩:∃a:Nat,pa=a:=⟨pa.toNat,by omega⟩
   obtain ⟨c,rfl⟩:∃c:Nat,pb=c:=⟨pb.toNat,by omega⟩
   have B3:a<n∧c<n∧a≠c:=by omega
   have r0:=y.get q0
   have r1:=y.get q1
   have E4:af false 1 g6 (pt (h.length+1) 1)=some (sl 131 h.length 0 n):=by simp [af,aR,r1,cm]
   have xW:c<bs.length:=by rw [iP.len];omega
   have ldc:af false 1 g6 (pt h.length c)=some (U (bs.getD c 0)):=by
    simp [af,aR,r0,cm,xW,getD_eq_getElem?_getD]
   have lU:=iP.awA c
   have Ae:(2:Nat)^a<1024:=lt_of_lt_of_le (Nat.pow_lt_pow_right (by decide) (show a<10 by omega)) (by decide)
   simp only [b9,add_zero,zero_add,AP,ah,E4,l0,l1,true_and,nz (show c<n by omega),ldc,FM mM (show a<11 by omega),CG mM (show bs.getD c 0<1024 by omega) Ae]
   rw [pj r0 (by simpa using xW) rfl rfl]
   simp only [aE,cA,ah,fk m (by omega)]
   have es:((bs.map fun b:Nat=>U b).set c (U (bs.getD c 0 ||| 2^a)))=(bs.set c (bs.getD c 0 ||| 2^a)).map fun b:Nat=>U b:=by rw [List.map_set]
   rw [es]
   refine gV (m+1,bs.set c (bs.getD c 0 ||| 2^a),g6.set h.length (.arr 131 ((bs.set c (bs.getD c 0 ||| 2^a)).map fun b:Nat=>U b))) ⟨by show m+1≤ps.length;omega,(iM.trans y).set (le_refl _) _,cU r0,by show (g6.set _ _)[h.length+1]?=_;rw [List.getElem?_set_ne (by omega)];exact r1,?_,by show (ps.take (m+1)).all (mh n)=true;rw [RR];exact aC⟩ (by show ps.length-(m+1)<ps.length-m;omega)
   show BS (ps.take (m+1)) n (bs.set c (bs.getD c 0 ||| 2^a))
   refine ⟨by rw [List.length_set];exact iP.len,?_,?_⟩
   ·intro b hb
    rcases List.mem_or_eq_of_mem_set hb with h9 | h9
    ·exact iP.lt b h9
    ·rw [h9];exact tM lU (by omega)
   ·intro i' iE j
    rw [pS]
    have hgd:(bs.set c (bs.getD c 0 ||| 2^a)).getD i' 0=if c=i' then bs.getD c 0 ||| 2^a else bs.getD i' 0:=by
     simp only [getD_eq_getElem?_getD,List.getElem?_set]
     by_cases hc:c=i'
     ·subst hc;simp [xW]
     ·simp [hc]
    rw [hgd]
    have we:=iP.bit i' iE j
    by_cases hc:c=i'
    ·subst hc
     rw [if_pos rfl,sw,we]
     by_cases v8:a=j
     ·subst v8;simp
     ·have h9:¬((j:Int)=(a:Int)):=by omega
      simp [v8,h9]
    ·rw [if_neg hc,we]
     have h9:¬((i':Int)=(c:Int)):=by omega
     simp [h9]
  ·have Jk:m=ps.length:=by omega
   subst Jk
   rw [take_length] at iP Jv
   have Ru:PL g2 (pt (h.length+1) 0) js bs:=by
    refine ⟨h.length+1,vj,sl 131 h.length 0 n,rfl,by simp [aR,q1],hj.mono iM,?_⟩
    have e:n=(bs.map fun b:Nat=>(b:Int)).length:=by rw [length_map,iP.len]
    rw [e]
    refine NS.sl (.inr ?_) (by rw [length_map,iP.len];unfold maxLen;omega)
    simp [aR,q0]
   have zG:∀b∈bs,b<1024:=fun b hb=>lt_of_lt_of_le (iP.lt b hb) xU
   have uJ:=iP.len
   rw [aCC]
   -- rounds
   refine dL (σ:=Nat) (fun r=>[U (rf bs n r),I r]) (fun _=>g2) (fun r=>r≤n) (fun r=>n-r) 0 rfl rfl (zero_le _) ?_
   intro r hr L3 hL3
   rw [aCD]
   simp only [cN,ah,cj]
   have hru:=amw bs n r
   refine ⟨fun Ri=>?_,fun aw3=>?_⟩
   ·refine dL (σ:=Nat) (fun i=>[U (tQ bs (rf bs n r) i),I i]) (fun _=>g2) (fun i=>i≤n) (fun i=>n-i) 0 rfl rfl (zero_le _) ?_
    intro i ov L4 hL4
    rw [aCE]
    simp only [cN,ah,cj]
    have hpu:=UT (bs:=bs) hru ov
    refine ⟨fun aGi=>?_,fun aGb=>?_⟩
    ·have eC:i<n:=by omega
     have Ae:(2:Nat)^i<1024:=lt_of_lt_of_le (Nat.pow_lt_pow_right (by decide) (show i<10 by omega)) (by decide)
     refine Mf Ru (by omega) (by omega) (by omega) zG ?_
     rw [Vm]
     have nx:=hL4 (i+1) (by show i+1≤n;omega) (by show n-(i+1)<n-i;omega)
     simp only [tQ] at nx
     refine uf (fun yl=>?_) fun qN=>?_
     ·rw [if_pos yl] at nx
      simp only [FM mM (show i<11 by omega),ah,CG mM (show tQ bs (rf bs n r) i<1024 by omega) Ae,al6,cA,fk i (by omega),true_and]
      exact nx
     ·rw [if_neg (by rw [qN];simp)] at nx
      simp only [al6,cA,ah,fk i (by omega),true_and]
      exact nx
    ·have aw8:i=n:=by omega
     subst aw8
     simp only [aCF,cA,ah,fk r (by omega),true_and]
     exact hL3 (r+1) (by show r+1≤i;omega) (by show i-(r+1)<i-r;omega)
   ·have hre:r=n:=by omega
    subst hre
    rw [aCG]
    refine Df Ru (by omega) ?_
    rw [hn]
    simp only [jo,ah]
    have e:decide (((rf bs r r:Nat):Int)=((Dy r:Nat):Int))=decide (rf bs r r=bt r):=by
     rw [Ec,decide_eq_decide];omega
    rw [e]
    exact hk Jv _ _ bs iM Ru iP
end
section
def xf (js:List (Int×Int)) (l:List Nat):Int:=iL l fun i=>(js.getD i (0,0)).2
theorem am5 {js:List (Int×Int)} (h:nQ js):∀l:List Nat,(∀i∈l,i<js.length)→0≤xf js l∧xf js l≤50*l.length
 | [],_=>by simp [xf,iL]
 | i::l,hl=>by
  have ih:=am5 h l fun x hx=>hl x (by simp [hx])
  have:=h.getD (hl i (by simp))
  unfold xf at ih⊢
  simp only [iL,length_cons]
  omega
theorem W6 {p:Value} {js:List (Int×Int)} {bs:List Nat} {s:Nat} {h:ae} {K:Value→ae→Prop} (hp:PL h p js bs) (hj:nQ js) (hl:js.length≤10) (hs:s<2^js.length) (hk:∀h',EX h h'→K (I (xf js (cB s 10))) h'):aq prog 76 [p,U s] h K:=by
 have awJ:(2:Nat)^js.length≤2^10:=pow_le_pow_right (by decide) hl
 refine f76 (Mh (by omega) ?_)
 intro v g xg hn
 obtain ⟨a,vj,vb,rfl,hc,Ce,iP⟩:=hp.mono xg
 have aB:∀i∈cB s 10,i<js.length:=by
  intro i hi
  have h1:=(CA s 10 i hi).2
  apply byContradiction
  intro cL
  have:s<2^i:=lt_of_lt_of_le hs (pow_le_pow_right (by decide) (by omega))
  rw [Nat.testBit_lt_two_pow this] at h1
  cases h1
 have ye:=E5 s 10
 have AD:bc v=some (I (cB s 10).length):=by have:=hn.len;rwa [length_map] at this
 simp only [AD,ah]
 refine dL (σ:=Nat) (fun i=>[I (xf js ((cB s 10).take i)),I i]) (fun _=>g) (fun i=>i≤(cB s 10).length) (fun i=>(cB s 10).length-i) 0 rfl rfl (zero_le _) ?_
 intro i hi L hL
 rw [aDa]
 simp only [cN,ah,cj]
 refine ⟨fun kr=>?_,fun cL=>?_⟩
 ·have b6:i<(cB s 10).length:=by omega
  obtain ⟨b,o,g1,g2⟩:=hn.get i (by simpa using b6)
  have e:((cB s 10).map fun i:Nat=>(i:Int))[i]'(by simpa using b6)=((cB s 10)[i]:Int):=by simp
  rw [e] at g2
  have hm:=aB _ (getElem_mem b6)
  obtain ⟨c,q,r1,r2,r3,r4⟩:=PS.getD Ce hm
  have ld:af false 1 g (pt a 0)=some vj:=by simp [af,hc,cm]
  have b7:xf js ((cB s 10).take (i+1))=xf js ((cB s 10).take i)+(js.getD (cB s 10)[i] (0,0)).2:=by
   exact am2 _ _ b6
  have lU:=am5 hj ((cB s 10).take (i+1)) fun x hx=>aB x (List.mem_of_mem_take hx)
  rw [List.length_take,b7] at lU
  simp only [g1,g2,ah,AP,b9,add_zero,ld,r1,r3,cA,fk i (by omega)]
  rw [wrap64 (by omega) (by omega),←b7]
  simp only [true_and]
  exact hL (i+1) (by omega) (by omega)
 ·have fW:i=(cB s 10).length:=by omega
  subst fW
  rw [take_length,aC9]
  exact hk g xg
def tK (f:Nat→Bool):Nat→Nat
 | 0=>0
 | n+1=>if f n=true then tK f n ||| 2^n else tK f n
theorem aio (f:Nat→Bool):∀n,tK f n<2^n
 | 0=>by simp [tK]
 | n+1=>by
  have h:=aio f n
  have h2:(2:Nat)^n<2^(n+1):=Nat.pow_lt_pow_right (by decide) (by omega)
  simp only [tK]
  split
  ·exact tM (by omega) (by omega)
  ·omega
theorem ain (f:Nat→Bool) (j:Nat):∀n,(tK f n).testBit j=(decide (j<n)&&f j)
 | 0=>by simp [tK]
 | n+1=>by
  have h:=ain f j n
  simp only [tK]
  by_cases hj:n=j
  ·subst hj
   have hf:(tK f n).testBit n=false:=by rw [h];simp
   split
   ·rename_i hn;rw [sw,hf,hn];simp
   ·rename_i hn
    have:f n=false:=by simpa using hn
    rw [hf,this];simp
  ·have e:decide (j<n+1)=decide (j<n):=by rw [decide_eq_decide];omega
   rw [e]
   split
   ·rw [sw,h];simp [hj]
   ·exact h
def lO (ps:List (Int×Int)) (n:Nat):List Nat:=(List.range n).map fun i:Nat=>tK (fun j:Nat=>decide (((j:Int),(i:Int))∈ps)) n
theorem aro (ps:List (Int×Int)) (n:Nat):(lO ps n).length=n:=by simp [lO]
theorem arn (ps:List (Int×Int)) {n i:Nat} (hi:i<n):(lO ps n).getD i 0=tK (fun j:Nat=>decide (((j:Int),(i:Int))∈ps)) n:=by
 simp [lO,getD_eq_getElem?_getD,hi]
theorem BS.uniq {ps:List (Int×Int)} {n:Nat} {bs nB:List Nat} (b:BS ps n bs) (b':BS ps n nB):bs=nB:=by
 apply List.ext_getElem (by rw [b.len,b'.len])
 intro i h1 h2
 have e1:bs[i]=bs.getD i 0:=by simp [getD_eq_getElem?_getD,h1]
 have e2:nB[i]=nB.getD i 0:=by simp [getD_eq_getElem?_getD,h2]
 rw [e1,e2]
 apply eq_of_testBit_eq
 intro j
 have hi:i<n:=by rw [←b.len];exact h1
 rw [b.bit i hi j,b'.bit i hi j]
theorem aAc {n:Nat} {ps:List (Int×Int)} (h:ps.all (mh n)=true) {p:Int×Int} (hp:p∈ps):(0≤p.1∧p.1<n)∧(0≤p.2∧p.2<n)∧p.1≠p.2:=by
 have:=all_eq_true.1 h p hp
 simp only [mh,and_eq_true,decide_eq_true_eq,Bool.not_eq_true',decide_eq_false_iff_not] at this
 omega
theorem BS.of {ps:List (Int×Int)} {n:Nat} (h:ps.all (mh n)=true):BS ps n (lO ps n):=by
 refine ⟨aro ps n,?_,?_⟩
 ·intro b hb
  simp only [lO,mem_map,mem_range] at hb
  obtain ⟨i,_,rfl⟩:=hb
  exact aio _ n
 ·intro i hi j
  rw [arn ps hi,ain]
  by_cases hm:((j:Int),(i:Int))∈ps
  ·have:=aAc h hm
   simp only at this
   rw [aW (show j<n by omega),aW hm];rfl
  ·rw [aT hm,Bool.and_false]
def sC (js ps:List (Int×Int)):Bool:=qy js ps&&decide (rf (lO ps js.length) js.length js.length=bt js.length)
structure Vd (js ps:List (Int×Int)) (n:Nat) (bs:List Nat):Prop where
 hn:js.length=n
 n1:1≤n
 n10:n≤10
 p40:ps.length≤40
 small:nQ js
 AU:ps.all (mh n)=true
 eq:bs=lO ps n
 is:BS ps n bs
 ac:uk bs n
theorem aFs {js ps:List (Int×Int)} (h:sC js ps=true):Vd js ps js.length (lO ps js.length):=by
 unfold sC at h
 rw [and_eq_true,decide_eq_true_eq] at h
 obtain ⟨a,b,c⟩:=awt h.1
 have hp:ps.all (mh js.length)=true:=by
  have:=h.1
  simp only [qy,and_eq_true] at this
  exact this.2.2
 exact ⟨rfl,a.1,a.2,b,c,hp,rfl,BS.of hp,aq3 h.2⟩
theorem Vd.two {js ps:List (Int×Int)} {n:Nat} {bs:List Nat} (v:Vd js ps n bs):2^n≤1024:=pow_le_pow_right (show 0<2 by decide) v.n10
theorem an7 {vj vp:Value} {js ps:List (Int×Int)} {h:ae} {K:Value→ae→Prop} (hj:PS h vj js) (hp:PS h vp ps) (m9:js.length≤1000) (j5:ps.length≤1000)
  (hZ:sC js ps=false→∀p h',EX h h'→K (.tuple #[p,B false]) h')
  (hk:Vd js ps js.length (lO ps js.length)→sC js ps=true→∀p h',EX h h'→PL h' p js (lO ps js.length)→K (.tuple #[p,B true]) h'):aq prog 59 [vj,vp] h K:=by
 refine C59 hj hp m9 j5 (fun hf h' x=>hZ (by unfold sC;rw [hf];rfl) _ h' x) ?_
 intro hf p h' bs x axw iP
 have hpa:ps.all (mh js.length)=true:=by
  have:=hf
  simp only [qy,and_eq_true] at this
  exact this.2.2
 obtain rfl:=iP.uniq (BS.of hpa)
 have e:sC js ps=decide (rf (lO ps js.length) js.length js.length=bt js.length):=by unfold sC;rw [hf];rfl
 rw [←e]
 cases hv:sC js ps with
 | false=>exact hZ hv p h' x
 | true=>exact hk (aFs hv) hv p h' x axw
end
section
end
end Go.Proofs.YtelmdbpaoifmoaaGreat
namespace Go.Sim
section
def nY (a b:Nat):Nat:=a^^^(a &&& b)
theorem BM (a b j:Nat):(nY a b).testBit j=(a.testBit j&& !b.testBit j):=by
 unfold nY
 rw [Nat.testBit_xor,testBit_and]
 cases a.testBit j <;> cases b.testBit j <;> rfl
theorem acQ (a b:Nat):nY a b≤a:=by
 have h:nY a b=a &&& nY a b:=by
  apply eq_of_testBit_eq
  intro j
  rw [testBit_and,BM]
  cases a.testBit j <;> cases b.testBit j <;> rfl
 rw [h]
 exact Nat.and_le_left
theorem acR {a b:Nat}:nY a b=0↔iK a b=true:=by
 rw [pn]
 constructor
 ·intro h i hi
  have:=congrArg (fun m=>m.testBit i) h
  simp only [BM,Nat.zero_testBit,hi,Bool.true_and] at this
  simpa using this
 ·intro h
  apply eq_of_testBit_eq
  intro j
  rw [BM,Nat.zero_testBit]
  cases hj:a.testBit j with
  | false=>rfl
  | true=>rw [h j hj];rfl
theorem Y2 {k:IntKind} (hk:SK k) {a b:Nat} (ha:a<1024) (hb:b<1024):ai .andNot (.int k (a:Int)) (.int k (b:Int))=some (.int k ((nY a b:Nat):Int)):=by
 have e:ai .andNot (.int k (a:Int)) (.int k (b:Int))=some (Value.int k (k.wrap ((BitVec.ofInt k.bits (a:Int) &&& ~~~BitVec.ofInt k.bits (b:Int)).toNat:Int))):=by simp [ai,gY]
 have h2:(BitVec.ofInt k.bits (a:Int) &&& ~~~BitVec.ofInt k.bits (b:Int))=BitVec.ofInt k.bits (a:Int)^^^(BitVec.ofInt k.bits (a:Int) &&& BitVec.ofInt k.bits (b:Int)):=by
  ext i hi
  simp only [BitVec.getElem_and,BitVec.getElem_not,BitVec.getElem_xor]
  generalize (BitVec.ofInt k.bits (a:Int))[i]=p
  generalize (BitVec.ofInt k.bits (b:Int))[i]=q
  cases p <;> cases q <;> rfl
 rw [e,h2,BitVec.toNat_xor,BitVec.toNat_and,hk.toNat ha,hk.toNat hb]
 have:=acQ a b
 unfold nY at this
 rw [hk.wrap (by omega) (by omega)]
 rfl
theorem Y3 {a b:Nat}:a &&& b=0↔∀j,a.testBit j=true→b.testBit j=false:=by
 constructor
 ·intro h j hj
  have:=congrArg (fun m=>m.testBit j) h
  simp only [testBit_and,Nat.zero_testBit,hj,Bool.true_and] at this
  exact this
 ·intro h
  apply eq_of_testBit_eq
  intro j
  rw [testBit_and,Nat.zero_testBit]
  cases hj:a.testBit j with
  | false=>rfl
  | true=>rw [h j hj];rfl
end
end Go.Sim
namespace Go.Proofs.YtelmdbpaoifmoaaGreat
open Go.Sim
section
theorem nQ.all {js:List (Int×Int)} (h:nQ js) (i:Nat):(0≤db js i∧db js i≤50)∧0≤fq js i∧fq js i≤50:=by
 unfold db fq
 by_cases hi:i<js.length
 ·have:=h.getD hi;omega
 ·have:js.getD i (0,0)=(0,0):=by
   simp only [getD_eq_getElem?_getD]
   rw [List.getElem?_eq_none (by omega)];rfl
  rw [this];simp
theorem NS.AD {h:ae} {v:Value} {l:List Nat} (p:NS h v .i64 (l.map fun i:Nat=>(i:Int))):bc v=some (I l.length):=by have:=p.len;rwa [length_map] at this
end
section
variable (P : Program) (K : VK)
noncomputable section
variable (p0 x3 s4 x7 x8 x9 oG au xz xC aO aP bn bz bN cM jA fR jK ru : Value) (L1 L2 : LQ) (xs : List Value) (h : ae)
def ahX:=bK prog 73 [[],[],[],[0,3,18],[19],[],[],[],[],[],[0,3,4,18,19,27,28],[29],[],[],[],[],[0,3,4,18,19,27,28,29],[0,3,18,19],[0,3],[],[],[0,3],[7,8],[],[],[],[],[0,3,7,8,54],[9],[],[],[],[0,3,7,8,9,10,54,64],[0,3,7,8,9,10,54,64,67],[],[],[],[],[0,3,7,8,9,11,12,13,54,89],[0,3,7,8,9,11,12,13,54,89,92],[],[],[0,3,7,8,9],[7],[]]
@[irreducible] def HW:=bR ahX
@[irreducible] def PC:=HW.r.r.l.r.l.l
@[irreducible] def ab1:=HW.r.r.r
@[irreducible] def abZ:=PC.r.r.l.l.r.r.r.l.l
@[irreducible] def ab5:=PC.r.r.r
@[irreducible] def Pz:=ab1.l
@[irreducible] def atY:=abZ.r.r.r.l
@[irreducible] def atZ:=ab5.l
@[irreducible] def PA:=Pz.r.l.r.l.l
@[irreducible] def ab0:=Pz.r.r
@[irreducible] def HX:=PA.r.l.r.l.r.l.l
@[irreducible] def ab2:=PA.r.l.r.r
@[irreducible] def at5:=ab0.l
@[irreducible] def ab3:=HX.r.r.l.r.l.l.r.l
@[irreducible] def at0:=HX.r.r.l.r.l.r
@[irreducible] def PB:=HX.r.r.l.r.r
@[irreducible] def at4:=ab2.l
@[irreducible] def at1:=ab3.r.l
@[irreducible] def ab4:=PB.r.r.l.l.r.l
@[irreducible] def at2:=PB.r.r.l.r
@[irreducible] def at3:=ab4.r.l
theorem k73:ahX=some (110,HW,[.tmp 2]):=by kernel_rfl
def Bu (_P:Program) (K:VK):ar:=aS [.tmp 2] K
def aqz:ar:=aF (iG P ab1 (Bu P K)) (Bu P K)
def aqC:ar:=bI 0 (aqz P K)
def GK:ar:=aF (fun f' aU=>(([0,3,18]:List Nat).map f':List Value)=[p0,x3,aO]∧L1 (([19]:List Nat).map f') aU) (aqC P K)
def aqD:ar:=aF (iG P ab5 (GK P K p0 x3 aO L1)) (GK P K p0 x3 aO L1)
def aqv:ar:=bI 1 (aqD P K p0 x3 aO L1)
def aqw:ar:=bI 2 (aqv P K p0 x3 aO L1)
def Yk:ar:=aF (fun f' aU=>(([0,3,4,18,19,27,28]:List Nat).map f':List Value)=[p0,x3,s4,aO,aP,bn,bz]∧L2 (([29]:List Nat).map f') aU) (aqw P K p0 x3 aO L1)
def aqx:ar:=aF (iG P ab0 (Bu P K)) (Bu P K)
def aqy:ar:=bI 4 (aqx P K)
def Yl:ar:=aF (fun f' aU=>(([0,3]:List Nat).map f':List Value)=[p0,x3]∧L1 (([7,8]:List Nat).map f') aU) (aqy P K)
def MW:ar:=bI 5 (Yl P K p0 x3 L1)
def aqA:ar:=aF (iG P ab2 (MW P K p0 x3 L1)) (MW P K p0 x3 L1)
def aqB:ar:=bI 6 (aqA P K p0 x3 L1)
def Ym:ar:=aF (fun f' aU=>(([0,3,7,8,54]:List Nat).map f':List Value)=[p0,x3,x7,x8,cM]∧L2 (([9]:List Nat).map f') aU) (aqB P K p0 x3 L1)
def MX:ar:=bI 7 (Ym P K p0 x3 x7 x8 cM L1 L2)
def Yn:ar:=aF (iG P PB (MX P K p0 x3 x7 x8 cM L1 L2)) (MX P K p0 x3 x7 x8 cM L1 L2)
def Yo:ar:=aF (iG P at0 (Yn P K p0 x3 x7 x8 cM L1 L2)) (Yn P K p0 x3 x7 x8 cM L1 L2)
def Yp:ar:=bI 8 (MX P K p0 x3 x7 x8 cM L1 L2)
def Yq:ar:=aF (iG P at2 (Yp P K p0 x3 x7 x8 cM L1 L2)) (Yp P K p0 x3 x7 x8 cM L1 L2)
def akH:Prop:=ax (iG P PC (GK P K p0 x3 aO L1)) ([0,3,18]++[19]) ([p0,x3,aO]++xs) h
def aky:Prop:=ax (iG P abZ (Yk P K p0 x3 s4 aO aP bn bz L1 L2)) ([0,3,4,18,19,27,28]++[29]) ([p0,x3,s4,aO,aP,bn,bz]++xs) h
def UA:Prop:=ax (iG P atY (Yk P K p0 x3 s4 aO aP bn bz L1 L2)) [0,3,4,18,19,27,28,29] [p0,x3,s4,aO,aP,bn,bz,bN] h
def akz:Prop:=ax (iG P atZ (GK P K p0 x3 aO L1)) [0,3,18,19] [p0,x3,aO,aP] h
def akA:Prop:=ax (iG P Pz (Bu P K)) [0,3] [p0,x3] h
def akB:Prop:=ax (iG P PA (Yl P K p0 x3 L1)) ([0,3]++[7,8]) ([p0,x3]++xs) h
def akC:Prop:=ax (iG P HX (Ym P K p0 x3 x7 x8 cM L1 L2)) ([0,3,7,8,54]++[9]) ([p0,x3,x7,x8,cM]++xs) h
def akD:Prop:=ax (iG P ab3 (Yo P K p0 x3 x7 x8 cM L1 L2)) [0,3,7,8,9,10,54,64] [p0,x3,x7,x8,x9,oG,cM,jA] h
def UB:Prop:=ax (iG P at1 (Yo P K p0 x3 x7 x8 cM L1 L2)) [0,3,7,8,9,10,54,64,67] [p0,x3,x7,x8,x9,oG,cM,jA,fR] h
def akE:Prop:=ax (iG P ab4 (Yq P K p0 x3 x7 x8 cM L1 L2)) [0,3,7,8,9,11,12,13,54,89] [p0,x3,x7,x8,x9,au,xz,xC,cM,jK] h
def UC:Prop:=ax (iG P at3 (Yq P K p0 x3 x7 x8 cM L1 L2)) [0,3,7,8,9,11,12,13,54,89,92] [p0,x3,x7,x8,x9,au,xz,xC,cM,jK,ru] h
def akF:Prop:=ax (iG P at4 (MW P K p0 x3 L1)) [0,3,7,8,9] [p0,x3,x7,x8,x9] h
def akG:Prop:=ax (iG P at5 (Bu P K)) [7] [x7] h
theorem amb:UA P K p0 x3 s4 aO aP bn bz bN L1 L2 h=
 (OP (ai .add bN (.int .i64 (1))) fun mP=>
 ([p0,x3,s4,aO,aP,bn,bz]:List Value)=[p0,x3,s4,aO,aP,bn,bz]∧L2 [mP] h):=az (by kernel_rfl)
theorem aCX (p0 x3 s4 aO aP bn bz:Value) (L1 L2:LQ) (bN:Value) (h:ae):aky P K p0 x3 s4 aO aP bn bz L1 L2 [bN] h=
 (OP (ai .lss bN bz) fun dD=>
 aQ dD
 (OP (aY 1 bn bN) fun cG=>
 OP (af false 1 h cG) fun bk=>
 OP (tA p0) fun bE=>
 OP (aJ 1 bE) fun de=>
 OP (af false 1 h de) fun dE=>
 OP (aY 1 dE bk) fun dF=>
 OP (af false 1 h dF) fun eI=>
 OP (dm .u16 s4) fun dG=>
 OP (ai .andNot eI dG) fun ef=>
 OP (ai .neq ef (.int .u16 (0))) fun bO=>
 aQ bO
 (OP (dm .u16 s4) fun dU=>
 OH (Tb (.int .u16) h x3 dU) fun _ z1=>
 UA P K p0 x3 s4 aO aP bn bz bN L1 L2 z1)
 (UA P K p0 x3 s4 aO aP bn bz bN L1 L2 h))
 (akz P K p0 x3 aO aP L1 h)):=az (by kernel_rfl)
theorem aCY:akz P K p0 x3 aO aP L1 h=
 (OP (ai .add aP (.int .i64 (1))) fun fz=>
 ([p0,x3,aO]:List Value)=[p0,x3,aO]∧L1 [fz] h):=az (by kernel_rfl)
theorem aC6 (p0 x3 aO:Value) (L1:LQ) (aP:Value) (h:ae):akH P K p0 x3 aO L1 [aP] h=
 (OP (ai .lss aP aO) fun aZ=>
 aQ aZ
 (OP (dm .u16 aP) fun bD=>
 OH (CE (.int .u16) h x3 bD (.bool true)) fun _ z1=>
 OP (dm .u16 aP) fun cF=>
 aq P 74 [cF] z1 fun bn z2=>
 OP (bc bn) fun bz=>
 cJ [(.int .i64 (0))] z2 fun L2 xs hx=>
 aky P K p0 x3 aP aO aP bn bz L1 L2 xs hx)
 (akA P K p0 x3 h)):=az (by kernel_rfl)
theorem amc:UB P K p0 x3 x7 x8 x9 oG cM jA fR L1 L2 h=
 (OP (ck jA (.bool true) fR) fun gS=>
 aQ gS
 (([p0,x3,x7,x8,cM]:List Value)=[p0,x3,x7,x8,cM]∧L2 [x9] h)
 (OP (ai .andNot oG x8) fun gw=>
 aq P 76 [p0,gw] h fun kK z1=>
 aq P 62 [p0,x9] z1 fun lL z2=>
 OP (ai .mul kK lL) fun fB=>
 aq P 76 [p0,x9] z2 fun jW z3=>
 aq P 62 [p0,gw] z3 fun ki z4=>
 OP (ai .mul jW ki) fun xo=>
 OP (ai .eql x9 (.int .u16 (0))) fun qi=>
 akE P K p0 x3 x7 x8 x9 gw fB xo cM qi L1 L2 z4)):=az (by kernel_rfl)
theorem aC2:akD P K p0 x3 x7 x8 x9 oG cM jA L1 L2 h=
 (cE jA false
 (OP (ai .eql oG x8) fun fR=>
 UB P K p0 x3 x7 x8 x9 oG cM jA fR L1 L2 h)
 (UB P K p0 x3 x7 x8 x9 oG cM jA undef L1 L2 h)):=az (by kernel_rfl)
theorem amd:UC P K p0 x3 x7 x8 x9 au xz xC cM jK ru L1 L2 h=
 (OP (ck jK (.bool true) ru) fun sD=>
 aQ sD
 (([p0,x3,x7,x8,cM]:List Value)=[p0,x3,x7,x8,cM]∧L2 [au] h)
 (OP (ai .eql xz xC) fun Be=>
 aQ Be
 (OP (ai .or x9 au) fun qf=>
 ([p0,x3,x7,x8,cM]:List Value)=[p0,x3,x7,x8,cM]∧L2 [qf] h)
 (([p0,x3,x7,x8,cM]:List Value)=[p0,x3,x7,x8,cM]∧L2 [x9] h))):=az (by kernel_rfl)
theorem aC3:akE P K p0 x3 x7 x8 x9 au xz xC cM jK L1 L2 h=
 (cE jK false
 (OP (ai .gtr xz xC) fun ru=>
 UC P K p0 x3 x7 x8 x9 au xz xC cM jK ru L1 L2 h)
 (UC P K p0 x3 x7 x8 x9 au xz xC cM jK undef L1 L2 h)):=az (by kernel_rfl)
theorem aC1 (p0 x3 x7 x8 cM:Value) (L1 L2:LQ) (x9:Value) (h:ae):akC P K p0 x3 x7 x8 cM L1 L2 [x9] h=
 (Dt (AO h cM) fun eR z1=>
 OP (cf 0 eR) fun gR=>
 aQ gR
 (OP (Ap z1 cM) fun cQ=>
 OP (cf 0 cQ) fun cK=>
 OP (ai .and cK x8) fun gf=>
 OP (ai .neq gf x8) fun jU=>
 akD P K p0 x3 x7 x8 x9 cK cM jU L1 L2 z1)
 (akF P K p0 x3 x7 x8 x9 L1 z1)):=az (by kernel_rfl)
theorem aC4:akF P K p0 x3 x7 x8 x9 L1 h=
 (OH (cZ 131 1 [(.int .u16 (0))] h [(0,1,x9)]) fun A8 z1=>
 OH (dI 131 1 2 z1 x7 A8) fun F5 z2=>
 OP (ai .or x8 x9) fun xk=>
 ([p0,x3]:List Value)=[p0,x3]∧L1 [F5,xk] z2):=az (by kernel_rfl)
theorem aC0 (p0 x3:Value) (L1:LQ) (x7 x8:Value) (h:ae):akB P K p0 x3 L1 [x7,x8] h=
 (aq P 61 [p0] h fun cd z1=>
 OP (ai .neq x8 cd) fun cV=>
 aQ cV
 (OH (Cs z1 x3) fun cM z2=>
 cJ [(.int .u16 (0))] z2 fun L2 xs hx=>
 akC P K p0 x3 x7 x8 cM L1 L2 xs hx)
 (akG P K x7 z1)):=az (by kernel_rfl)
theorem aC5:akG P K x7 h=
 (K x7 h):=az (by kernel_rfl)
theorem aCZ:akA P K p0 x3 h=
 (cJ [(.slice none 0 0),(.int .u16 (0))] h fun L1 xs hx=>
 akB P K p0 x3 L1 xs hx):=az (by kernel_rfl)
def Oh:Prop:=
 OH (JH (.int .u16) h) fun aL z1=>
 aq P 61 [p0] z1 fun bM z2=>
 OP (dm .i64 bM) fun bU=>
 OP (ai .add bU (.int .i64 (1))) fun aO=>
 cJ [(.int .i64 (0))] z2 fun L1 xs hx=>
 akH P K p0 aL aO L1 xs hx
theorem e73:iG P HW (aS [.tmp 2] K) (bG [p0]) h=Oh P K p0 h:=by kernel_rfl
theorem f73 {K:VK} {p0:Value} {h:ae} (H:Oh prog K p0 h):Dh prog 73 [p0] h K:=
 auG k73 (bP rfl) ((e73 prog K p0 h).mpr H)
end
end
end Go.Proofs.YtelmdbpaoifmoaaGreat
namespace Go.Sim
section
def mN (f:Nat→Int) (s:Nat):Nat→Int
 | 0=>0
 | i+1=>mN f s i+if s.testBit i=true then f i else 0
theorem LA (f:Nat→Int) (s:Nat):∀n,iL (jQ s n) f=mN f s n
 | 0=>rfl
 | n+1=>by
  simp only [jQ,mN]
  split
  ·rw [A5,LA f s n];simp [iL]
  ·rw [LA f s n];simp
theorem VT (f:Nat→Int) (a b:Nat):∀n,mN f (a ||| b) n+mN f (a &&& b) n=mN f a n+mN f b n
 | 0=>rfl
 | n+1=>by
  have h:=VT f a b n
  simp only [mN,testBit_or,testBit_and]
  cases a.testBit n <;> cases b.testBit n <;> simp <;> omega
theorem VU (f:Nat→Int):∀n,mN f 0 n=0
 | 0=>rfl
 | n+1=>by simp [mN,VU f n]
theorem LB {f:Nat→Int} (h:∀i,0≤f i) (s:Nat):∀n,0≤mN f s n
 | 0=>Int.le_refl 0
 | n+1=>by
  have:=LB h s n
  have:=h n
  simp only [mN]
  split <;> omega
theorem VS {f:Nat→Int} {c:Int} (h:∀i,0≤f i∧f i≤c) (s:Nat):∀n:Nat,mN f s n≤c*n
 | 0=>by simp [mN]
 | n+1=>by
  have h1:=VS h s n
  have h2:=h n
  have:c*((n+1:Nat):Int)=c*n+c:=by rw [Int.natCast_add,Int.mul_add];simp
  simp only [mN]
  split <;> omega
theorem amZ {f:Nat→Int} (h0:∀i,0≤f i) {s i:Nat} (hb:s.testBit i=true) (h1:1≤f i):∀{n:Nat},i<n→1≤mN f s n
 | n+1,hi=>by
  simp only [mN]
  by_cases e:i=n
  ·subst e
   have:=LB h0 s i
   rw [hb];simp;omega
  ·have:=amZ h0 hb h1 (n:=n) (by omega)
   have:=h0 n
   split <;> omega
def rG (bs:List Nat) (n s:Nat):Bool:=(List.range n).all fun i=> !s.testBit i||iK (bs.getD i 0) s
theorem xF {bs:List Nat} {n s:Nat}:rG bs n s=true↔∀i,i<n→s.testBit i=true→∀j,(bs.getD i 0).testBit j=true→s.testBit j=true:=by
 unfold rG
 rw [all_eq_true]
 constructor
 ·intro h i hi hb
  have:=h i (mem_range.2 hi)
  rw [hb,Bool.not_true,Bool.false_or,pn] at this
  exact this
 ·intro h i hi
  rw [mem_range] at hi
  cases hb:s.testBit i with
  | false=>rfl
  | true=>rw [Bool.not_true,Bool.false_or,pn];exact h i hi hb
structure fm (bs:List Nat) (n d m:Nat):Prop where
 lt:m<2^n
 ne:m≠0
 apart:d &&& m=0
 cl:rG bs n (d ||| m)=true
def lS (js:List (Int×Int)) (s:Nat):Int:=mN (db js) s 10
def wS (js:List (Int×Int)) (s:Nat):Int:=mN (fq js) s 10
def nV (bs:List Nat) (js:List (Int×Int)) (n d m:Nat):Prop:=fm bs n d m∧∀x,fm bs n d x→wS js x*lS js m≤wS js m*lS js x
def rB (bs:List Nat) (js:List (Int×Int)) (n d b:Nat):Prop:=nV bs js n d b∧∀m,nV bs js n d m→iK m b=true
theorem aEV {a b:Nat} (h:iK a b=true) (k:iK b a=true):a=b:=by
 rw [pn] at h k
 apply eq_of_testBit_eq
 intro i
 cases ha:a.testBit i with
 | true=>rw [h i ha]
 | false=>
  cases hb:b.testBit i with
  | true=>rw [k i hb] at ha;cases ha
  | false=>rfl
theorem rB.uniq {bs:List Nat} {js:List (Int×Int)} {n d a b:Nat} (h:rB bs js n d a) (k:rB bs js n d b):a=b:=aEV (k.2 a h.1) (h.2 b k.1)
structure pE (js:List (Int×Int)) (n:Nat):Prop where
 l0:∀i,0≤db js i
 l1:∀i,i<n→1≤db js i
 w0:∀i,0≤fq js i
theorem OV {s:Nat} (h:s≠0):∃i,s.testBit i=true:=Nat.exists_testBit_of_ne_zero h
theorem BF {s n i:Nat} (hs:s<2^n) (hb:s.testBit i=true):i<n:=by
 apply byContradiction
 intro cL
 rw [Nat.testBit_lt_two_pow (lt_of_lt_of_le hs (pow_le_pow_right (by decide) (by omega)))] at hb
 cases hb
theorem wM {js:List (Int×Int)} {n s:Nat} (h:pE js n) (hn:n≤10) (hs:s<2^n) (h0:s≠0):1≤lS js s:=by
 obtain ⟨i,hi⟩:=OV h0
 have eC:=BF hs hi
 exact amZ h.l0 hi (h.l1 i eC) (by omega)
theorem ara {d a b:Nat} (ha:d &&& a=0) (hb:d &&& b=0):d &&& (a ||| b)=0:=by
 rw [Y3] at ha hb⊢
 intro j hj
 rw [testBit_or,ha j hj,hb j hj];rfl
theorem fm.or {bs:List Nat} {n d a b:Nat} (ha:fm bs n d a) (hb:fm bs n d b):fm bs n d (a ||| b):=by
 refine ⟨Nat.or_lt_two_pow ha.lt hb.lt,?_,ara ha.apart hb.apart,?_⟩
 ·intro h
  have h1:a≤a ||| b:=Nat.left_le_or
  have:=ha.ne
  omega
 ·have h1:=xF.1 ha.cl
  have h2:=xF.1 hb.cl
  refine xF.2 fun i hi we j hj=>?_
  rw [testBit_or,testBit_or] at we⊢
  by_cases hx:(d ||| a).testBit i=true
  ·have:=h1 i hi hx j hj
   rw [testBit_or] at this
   cases hd:d.testBit j <;> cases hA:a.testBit j <;> cases hB:b.testBit j <;> simp_all
  ·have bY:(d ||| b).testBit i=true:=by
    rw [testBit_or] at hx⊢
    cases hd:d.testBit i <;> cases hA:a.testBit i <;> cases hB:b.testBit i <;> simp_all
   have:=h2 i hi bY j hj
   rw [testBit_or] at this
   cases hd:d.testBit j <;> cases hA:a.testBit j <;> cases hB:b.testBit j <;> simp_all
theorem fm.and {bs:List Nat} {n d a b:Nat} (ha:fm bs n d a) (hb:fm bs n d b) (h0:a &&& b≠0):fm bs n d (a &&& b):=by
 refine ⟨Nat.and_lt_two_pow _ hb.lt,h0,?_,?_⟩
 ·have h1:=ha.apart
  rw [Y3] at h1⊢
  intro j hj
  rw [testBit_and,h1 j hj];rfl
 ·have h1:=xF.1 ha.cl
  have h2:=xF.1 hb.cl
  refine xF.2 fun i hi we j hj=>?_
  rw [testBit_or,testBit_and] at we⊢
  have q1:(d ||| a).testBit i=true:=by
   rw [testBit_or]
   cases hd:d.testBit i <;> cases hA:a.testBit i <;> cases hB:b.testBit i <;> simp_all
  have q2:(d ||| b).testBit i=true:=by
   rw [testBit_or]
   cases hd:d.testBit i <;> cases hA:a.testBit i <;> cases hB:b.testBit i <;> simp_all
  have r1:=h1 i hi q1 j hj
  have r2:=h2 i hi q2 j hj
  rw [testBit_or] at r1 r2
  cases hd:d.testBit j <;> cases hA:a.testBit j <;> cases hB:b.testBit j <;> simp_all
section
variable {bs : List Nat} {js : List (Int × Int)} {n d : Nat}
theorem PX {w1 l1 w2 l2 w3 l3:Int} (p1:1≤l1) (p2:1≤l2) (p3:1≤l3) (h:w1*l2≤w2*l1) (k:w2*l3≤w3*l2):w1*l3≤w3*l1:=by
 have h1:w1*l2*l3≤w2*l1*l3:=Int.mul_le_mul_of_nonneg_right h (by omega)
 have h2:w2*l3*l1≤w3*l2*l1:=Int.mul_le_mul_of_nonneg_right k (by omega)
 have e1:w2*l1*l3=w2*l3*l1:=by rw [mul_assoc,Int.mul_comm l1 l3,←mul_assoc]
 have e2:w1*l2*l3=w1*l3*l2:=by rw [mul_assoc,Int.mul_comm l2 l3,←mul_assoc]
 have e3:w3*l2*l1=w3*l1*l2:=by rw [mul_assoc,Int.mul_comm l2 l1,←mul_assoc]
 have h3:w1*l3*l2≤w3*l1*l2:=by omega
 exact Int.le_of_mul_le_mul_right h3 (by omega)
theorem nV.av5 {a b:Nat} (ha:nV bs js n d a) (hb:nV bs js n d b):wS js a*lS js b=wS js b*lS js a:=
 Int.le_antisymm (hb.2 a ha.1) (ha.2 b hb.1)
theorem nV.same (P:pE js n) (hn:n≤10) {a b:Nat} (ha:nV bs js n d a) (hb:fm bs n d b) (h:wS js a*lS js b≤wS js b*lS js a):nV bs js n d b:=by
 refine ⟨hb,fun x hx=>?_⟩
 exact PX (wM P hn hx.lt hx.ne) (wM P hn ha.1.lt ha.1.ne) (wM P hn hb.lt hb.ne) (ha.2 x hx) h
theorem nV.or (P:pE js n) (hn:n≤10) {a b:Nat} (ha:nV bs js n d a) (hb:nV bs js n d b):nV bs js n d (a ||| b):=by
 refine ha.same P hn (ha.1.or hb.1) ?_
 have ew:=VT (fq js) a b 10
 have el:=VT (db js) a b 10
 have e:=ha.av5 hb
 have hand:wS js (a &&& b)*lS js a≤wS js a*lS js (a &&& b):=by
  by_cases h0:a &&& b=0
  ·rw [h0]
   have:wS js 0=0:=VU _ _
   have e2:lS js 0=0:=VU _ _
   rw [this,e2];simp
  ·exact ha.2 _ (ha.1.and hb.1 h0)
 have e1:wS js (a ||| b)=wS js a+wS js b-wS js (a &&& b):=by unfold wS;omega
 have e2:lS js (a ||| b)=lS js a+lS js b-lS js (a &&& b):=by unfold lS;omega
 rw [e1,e2,Int.mul_sub,Int.mul_add,Int.sub_mul,Int.add_mul]
 omega
theorem awa (P:pE js n) (hn:n≤10) {m:Nat} (hm:fm bs n d m):∃a,nV bs js n d a:=by
 have key:∀k,(∃a,a<k∧fm bs n d a)→∃a,a<k∧fm bs n d a∧∀x,x<k→fm bs n d x→wS js x*lS js a≤wS js a*lS js x:=by
  intro k
  induction k with
  | zero=>rintro ⟨a,h,_⟩;omega
  | succ k ih=>
   rintro ⟨a,ha,hr⟩
   by_cases ti:∃a,a<k∧fm bs n d a
   ·obtain ⟨b,hb,qP,lW⟩:=ih ti
    by_cases hk:fm bs n d k∧wS js b*lS js k<wS js k*lS js b
    ·refine ⟨k,by omega,hk.1,fun x hx yn=>?_⟩
     by_cases ES:x=k
     ·subst ES;exact Int.le_refl _
     ·exact PX (wM P hn yn.lt yn.ne) (wM P hn qP.lt qP.ne) (wM P hn hk.1.lt hk.1.ne) (lW x (by omega) yn) (Int.le_of_lt hk.2)
    ·refine ⟨b,by omega,qP,fun x hx yn=>?_⟩
     by_cases ES:x=k
     ·subst ES
      apply byContradiction
      intro hc
      exact hk ⟨yn,by omega⟩
     ·exact lW x (by omega) yn
   ·have hak:a=k:=by
     apply byContradiction
     intro bm
     exact ti ⟨a,by omega,hr⟩
    subst hak
    refine ⟨a,by omega,hr,fun x hx yn=>?_⟩
    by_cases ES:x=a
    ·subst ES;exact Int.le_refl _
    ·exact absurd ⟨x,by omega,yn⟩ ti
 obtain ⟨a,_,hr,lW⟩:=key (2^n) ⟨m,hm.lt,hm⟩
 exact ⟨a,hr,fun x hx=>lW x hx.lt hx⟩
structure jm (bs:List Nat) (js:List (Int×Int)) (n d:Nat) (Sn:Nat→Prop) (a9:Nat):Prop where
 rel:a9≠0→fm bs n d a9
 none:a9=0→∀m,Sn m→¬fm bs n d m
 max:∀m,Sn m→nV bs js n d m→nV bs js n d a9∧iK m a9=true
theorem jm.skip {Sn:Nat→Prop} {a9 m:Nat} (h:jm bs js n d Sn a9) (hm:¬fm bs n d m):jm bs js n d (fun x=>Sn x∨x=m) a9:=by
 refine ⟨h.rel,fun hb x hx=>?_,fun x hx lW=>?_⟩
 ·rcases hx with hx | rfl
  ·exact h.none hb x hx
  ·exact hm
 ·rcases hx with hx | rfl
  ·exact h.max x hx lW
  ·exact absurd lW.1 hm
theorem aEY (a:Nat):iK a a=true:=pn.2 fun _ h=>h
theorem aEW (a b:Nat):iK a (a ||| b)=true:=pn.2 fun _ h=>by rw [testBit_or,h];rfl
theorem aEX (a b:Nat):iK b (a ||| b)=true:=pn.2 fun _ h=>by rw [testBit_or,h];simp
theorem aEZ {a b c:Nat} (h:iK a b=true) (k:iK b c=true):iK a c=true:=by
 rw [pn] at h k⊢
 exact fun i hi=>k i (h i hi)
theorem jm.take (_:pE js n) (_:n≤10) {Sn:Nat→Prop} {a9 m:Nat} (h:jm bs js n d Sn a9) (hm:fm bs n d m) (hb:a9=0∨wS js a9*lS js m<wS js m*lS js a9):jm bs js n d (fun x=>Sn x∨x=m) m:=by
 refine ⟨fun _=>hm,fun h0=>absurd h0 hm.ne,fun x hx lW=>?_⟩
 rcases hx with hx | rfl
 ·exfalso
  rcases hb with hb | hb
  ·exact h.none hb x hx lW.1
  ·have:=(h.max x hx lW).1.2 m hm
   omega
 ·exact ⟨lW,aEY _⟩
theorem jm.join (P:pE js n) (hn:n≤10) {Sn:Nat→Prop} {a9 m:Nat} (h:jm bs js n d Sn a9) (hm:fm bs n d m) (h0:a9≠0) (hb:wS js a9*lS js m=wS js m*lS js a9):jm bs js n d (fun x=>Sn x∨x=m) (a9 ||| m):=by
 have hr:=(h.rel h0).or hm
 refine ⟨fun _=>hr,fun h1=>absurd h1 hr.ne,fun x hx lW=>?_⟩
 rcases hx with hx | rfl
 ·obtain ⟨q1,q2⟩:=h.max x hx lW
  exact ⟨q1.or P hn (q1.same P hn hm (Int.le_of_eq hb)),aEZ q2 (aEW _ _)⟩
 ·have q1:=lW.same P hn (h.rel h0) (Int.le_of_eq hb.symm)
  exact ⟨q1.or P hn lW,aEX _ _⟩
theorem jm.pass (_:pE js n) (_:n≤10) {Sn:Nat→Prop} {a9 m:Nat} (h:jm bs js n d Sn a9) (hm:fm bs n d m) (h0:a9≠0) (hb:wS js m*lS js a9<wS js a9*lS js m):jm bs js n d (fun x=>Sn x∨x=m) a9:=by
 refine ⟨h.rel,fun h1=>absurd h1 h0,fun x hx lW=>?_⟩
 rcases hx with hx | rfl
 ·exact h.max x hx lW
 ·have:=lW.2 a9 (h.rel h0)
  omega
theorem jm.all (P:pE js n) (hn:n≤10) {Sn:Nat→Prop} {a9 m:Nat} (h:jm bs js n d Sn a9) (fh:∀x,fm bs n d x→Sn x) (hm:fm bs n d m):rB bs js n d a9:=by
 obtain ⟨a,ha⟩:=awa P hn hm
 exact ⟨(h.max a (fh a ha.1) ha).1,fun x hx=>(h.max x (fh x hx.1) hx).2⟩
end
end
section
def mo (bs:List Nat) (js:List (Int×Int)) (n:Nat):Nat→List Nat→Prop
 | d,[]=>d=bt n
 | d,b::l=>rB bs js n d b∧mo bs js n (d ||| b) l
theorem fm.Kf {bs:List Nat} {n m:Nat}:¬fm bs n (bt n) m:=by
 intro h
 obtain ⟨i,hi⟩:=OV h.ne
 have eC:=BF h.lt hi
 have:(bt n &&& m).testBit i=true:=by rw [testBit_and,vX,hi];simp [eC]
 rw [h.apart] at this
 simp at this
theorem mo.uniq {bs:List Nat} {js:List (Int×Int)} {n:Nat}:∀{l l':List Nat} {d:Nat},mo bs js n d l→mo bs js n d l'→l=l'
 | [],[],_,_,_=>rfl
 | [],b::l',d,h,k=>by
  have h':d=bt n:=h
  subst h'
  exact absurd k.1.1.1 fm.Kf
 | b::l,[],d,h,k=>by
  have k':d=bt n:=k
  subst k'
  exact absurd h.1.1.1 fm.Kf
 | b::l,b'::l',d,h,k=>by
  have e:=h.1.uniq k.1
  subst e
  rw [mo.uniq h.2 k.2]
theorem jm.congr {bs:List Nat} {js:List (Int×Int)} {n d:Nat} {Sn YN:Nat→Prop} {a9:Nat} (h:jm bs js n d Sn a9) (e:∀x,YN x→Sn x):jm bs js n d YN a9:=
 ⟨h.rel,fun hb m hm=>h.none hb m (e m hm),fun m hm=>h.max m (e m hm)⟩
theorem jm.start (bs:List Nat) (js:List (Int×Int)) (n d:Nat) {Sn:Nat→Prop} (h:∀x,¬Sn x):jm bs js n d Sn 0:=
 ⟨fun h0=>absurd rfl h0,fun _ m hm=>absurd hm (h m),fun m hm=>absurd hm (h m)⟩
theorem jm.ex {bs:List Nat} {js:List (Int×Int)} {n d:Nat} (P:pE js n) (hn:n≤10):∀L:List Nat,∃a9,jm bs js n d (fun x=>x∈L) a9
 | []=>⟨0,.start _ _ _ _ fun x hx=>by simp at hx⟩
 | m::L=>by
  obtain ⟨a9,h⟩:=jm.ex P hn L
  have key:∀{b:Nat},jm bs js n d (fun x=>x∈L∨x=m) b→∃a9,jm bs js n d (fun x=>x∈m::L) a9:=
   fun {b} q=>⟨b,q.congr fun x hx=>by rcases mem_cons.1 hx with h | h;exact .inr h;exact .inl h⟩
  by_cases hm:fm bs n d m
  ·by_cases h0:a9=0
   ·exact key (h.take P hn hm (.inl h0))
   ·by_cases c1:wS js a9*lS js m<wS js m*lS js a9
    ·exact key (h.take P hn hm (.inr c1))
    ·by_cases c2:wS js a9*lS js m=wS js m*lS js a9
     ·exact key (h.join P hn hm h0 c2)
     ·exact key (h.pass P hn hm h0 (by omega))
  ·exact key (h.skip hm)
theorem auN {bs:List Nat} {n:Nat} (hb:∀b∈bs,b<2^n):rG bs n (bt n)=true:=by
 rw [xF]
 intro i hi _ j hj
 rw [vX]
 have:bs.getD i 0<2^n:=by
  by_cases h:i<bs.length
  ·have e:bs.getD i 0=bs[i]:=by simp [getD_eq_getElem?_getD,h]
   rw [e];exact hb _ (getElem_mem h)
  ·have e:bs.getD i 0=0:=by simp only [getD_eq_getElem?_getD];rw [List.getElem?_eq_none (by omega)];rfl
   rw [e];exact pow_pos (by decide)
 exact aW (BF this hj)
theorem aiA {d s:Nat} (h:s &&& d=d):d ||| nY s d=s:=by
 apply eq_of_testBit_eq
 intro i
 have:=congrArg (Nat.testBit · i) h
 simp only [testBit_and] at this
 rw [testBit_or,BM]
 cases hs:s.testBit i <;> cases hd:d.testBit i <;> simp_all
theorem amt {bs:List Nat} {n d s:Nat} (hs:s<2^n) (hc:rG bs n s=true) (h:s &&& d=d) (bm:s≠d):fm bs n d (nY s d):=by
 refine ⟨Nat.lt_of_le_of_lt (acQ _ _) hs,fun h0=>?_,?_,by rw [aiA h];exact hc⟩
 ·apply bm
  have e:=aiA h
  rw [h0,Nat.or_zero] at e
  exact e.symm
 ·apply eq_of_testBit_eq
  intro i
  rw [testBit_and,BM]
  cases d.testBit i <;> simp
theorem aip {bs:List Nat} {n d m:Nat} (hd:d<2^n) (h:fm bs n d m):(d ||| m<2^n∧rG bs n (d ||| m)=true)∧((d ||| m) &&& d=d∧d ||| m≠d)∧m=nY (d ||| m) d:=by
 have hb:∀i,m.testBit i=true→d.testBit i=false:=fun i hi=>by
  cases pL:d.testBit i with
  | false=>rfl
  | true=>
   have:(d &&& m).testBit i=true:=by rw [testBit_and,hi,pL];rfl
   rw [h.apart] at this
   simp at this
 refine ⟨⟨Nat.or_lt_two_pow hd h.lt,h.cl⟩,⟨?_,fun he=>?_⟩,?_⟩
 ·apply eq_of_testBit_eq
  intro i
  rw [testBit_and,testBit_or]
  cases d.testBit i <;> simp
 ·obtain ⟨i,hi⟩:=OV h.ne
  have h2:(d ||| m).testBit i=true:=by rw [testBit_or,hi];simp
  rw [he,hb i hi] at h2
  cases h2
 ·apply eq_of_testBit_eq
  intro i
  rw [BM,testBit_or]
  cases hi:m.testBit i with
  | true=>rw [hb i hi];rfl
  | false=>cases d.testBit i <;> rfl
theorem ams {bs:List Nat} {n d:Nat} (hb:∀b∈bs,b<2^n) (hd:d<bt n):fm bs n d (nY (bt n) d):=by
 have hf:bt n<2^n:=adu n
 refine amt hf (auN hb) ?_ (by omega)
 apply eq_of_testBit_eq
 intro i
 rw [testBit_and,vX]
 cases hi:d.testBit i with
 | false=>simp
 | true=>
  have:=BF (Nat.lt_trans hd hf) hi
  simp [this]
theorem rB.ex {bs:List Nat} {js:List (Int×Int)} {n d:Nat} (P:pE js n) (hn:n≤10) (hb:∀b∈bs,b<2^n) (hd:d<bt n):∃b,rB bs js n d b:=by
 obtain ⟨a9,h⟩:=jm.ex (bs:=bs) (d:=d) P hn (List.range (2^n))
 exact ⟨a9,h.all P hn (fun x hx=>mem_range.2 hx.lt) (ams hb hd)⟩
theorem rB.step {bs:List Nat} {js:List (Int×Int)} {n d b:Nat} (hd:d<2^n) (h:rB bs js n d b):d<d ||| b∧d ||| b<2^n∧b<2^n:=by
 obtain ⟨⟨h1,_⟩,⟨h2,h3⟩,_⟩:=aip hd h.1.1
 have hle:d≤d ||| b:=Nat.left_le_or
 exact ⟨by omega,h1,h.1.1.lt⟩
theorem mo.ex {bs:List Nat} {js:List (Int×Int)} {n:Nat} (P:pE js n) (hn:n≤10) (hb:∀b∈bs,b<2^n):∀(k d:Nat),d<2^n→bt n-d≤k→∃l,mo bs js n d l
 | 0,d,hd,h=>⟨[],by show d=bt n;unfold bt at*;omega⟩
 | k+1,d,hd,h=>by
  by_cases e:d=bt n
  ·exact ⟨[],e⟩
  ·obtain ⟨b,hs⟩:=rB.ex (bs:=bs) (js:=js) P hn hb (show d<bt n by unfold bt at*;omega)
   obtain ⟨h1,h2,h3⟩:=hs.step hd
   obtain ⟨l,hl⟩:=mo.ex P hn hb k (d ||| b) h2 (by omega)
   exact ⟨b::l,hs,hl⟩
theorem mo.lt {bs:List Nat} {js:List (Int×Int)} {n:Nat}:∀{l:List Nat} {d:Nat},d<2^n→mo bs js n d l→∀b∈l,b<2^n
 | [],_,_,_,b,hb=>by simp at hb
 | c::l,d,hd,h,b,hb=>by
  obtain ⟨h1,h2,h3⟩:=h.1.step hd
  rcases mem_cons.1 hb with rfl | hb
  ·exact h3
  ·exact mo.lt h2 h.2 b hb
def jY (bs:List Nat) (n k:Nat):List Nat:=(List.range k).filter (rG bs n)
theorem aoa (bs:List Nat) (n k:Nat):jY bs n (k+1)=if rG bs n k=true then jY bs n k++[k] else jY bs n k:=by
 unfold jY
 rw [List.range_succ,List.filter_append]
 by_cases h:rG bs n k=true
 ·rw [if_pos h];simp [h]
 ·rw [if_neg h];simp [h]
theorem Mm {bs:List Nat} {n k s:Nat} (h:s∈jY bs n k):s<k∧rG bs n s=true:=by
 have:=mem_filter.1 h
 exact ⟨mem_range.1 this.1,this.2⟩
theorem an9 {bs:List Nat} {n k s:Nat} (h1:s<k) (h2:rG bs n s=true):s∈jY bs n k:=mem_filter.2 ⟨mem_range.2 h1,h2⟩
def eY (k:IntKind) (l:List Nat):List (Nat×Value×Value):=l.map fun s=>(s,.int k (s:Int),B true)
theorem QC (k:IntKind) (a b:Nat):mZ (.int k (a:Int)) (.int k (b:Int))=decide (a=b):=by
 simp only [mZ,yu,decide_true,Bool.true_and]
 by_cases h:a=b
 ·rw [aW h,aW (by omega)]
 ·rw [aT h,aT (by omega)]
theorem UX (k:IntKind) (s:Nat):∀{l:List Nat},s∉l→mi (.int k (s:Int)) (eY k l)=none
 | [],_=>rfl
 | a::l,h=>by
  have h1:s≠a:=fun e=>h (by simp [e])
  have h2:s∉l:=fun e=>h (by simp [e])
  have ih:=UX k s h2
  show (if mZ (.int k (s:Int)) (.int k (a:Int))=true then some 0 else (mi (.int k (s:Int)) (eY k l)).map (·+1))=none
  rw [QC,aT h1,ih]
  rfl
theorem alh (k:IntKind) (s:Nat):∀{l:List Nat},s∉l→mi (.int k (s:Int)) (eY k (l++[s]))=some l.length
 | [],_=>by
  show (if mZ (.int k (s:Int)) (.int k (s:Int))=true then some 0 else _)=_
  rw [QC];simp
 | a::l,h=>by
  have h1:s≠a:=fun e=>h (by simp [e])
  have h2:s∉l:=fun e=>h (by simp [e])
  have ih:=alh k s h2
  show (if mZ (.int k (s:Int)) (.int k (a:Int))=true then some 0 else (mi (.int k (s:Int)) (eY k (l++[s]))).map (·+1))=_
  rw [QC,aT h1,ih]
  rfl
theorem agl (k:IntKind) (l m:List Nat):eY k (l++m)=eY k l++eY k m:=by simp [eY]
theorem agm (k:IntKind) (l:List Nat):(eY k l).length=l.length:=by simp [eY]
theorem amP (k:IntKind) {s:Nat} {l:List Nat} (h:s∉l):mj s (.int k (s:Int)) (B true) (eY k l)=eY k (l++[s])∧oS s (.int k (s:Int)) (eY k l)=s+1:=by
 unfold mj oS
 rw [UX k s h,agl]
 exact ⟨rfl,rfl⟩
theorem av6 (k:IntKind) {s:Nat} {l:List Nat} (h:s∉l):rH (.int k (s:Int)) (eY k (l++[s]))=eY k l:=by
 unfold rH
 rw [alh k s h]
 simp only
 rw [agl,List.eraseIdx_append_of_length_le (by rw [agm];exact le_refl _),agm]
 simp [eY]
theorem av7 (k:IntKind) {s:Nat} {l:List Nat} (h:s∉l):rH (.int k (s:Int)) (eY k l)=eY k l:=by
 unfold rH
 rw [UX k s h]
theorem adm (k:IntKind) (s:Nat):∀{l:List Nat},s∈l→(eY k l).find? (fun e=>e.1==s)=some (s,.int k (s:Int),B true)
 | a::l,h=>by
  by_cases e:a=s
  ·subst e;simp [eY]
  ·have h2:s∈l:=by rcases mem_cons.1 h with h | h;exact absurd h.symm e;exact h
   have ih:=adm k s h2
   have e2:(a==s)=false:=by simpa using e
   rw [show eY k (a::l)=(a,.int k (a:Int),B true)::eY k l from rfl,List.find?_cons]
   simp only [e2]
   exact ih
theorem azJ {h:ae} {im it c:Nat} {k:IntKind} {l seen:List Nat} (hm:h[im]?=some (.df (.int k) c (eY k l))) (hi:h[it]?=some (.iter im c seen c)) (hl:∀s∈l,s<c):
  AO h (pt it 0)=some ((if (l.filter fun s=> !seen.contains s).isEmpty=true then [(.tuple #[.bool false],h)] else [])++
   (l.filter fun s=> !seen.contains s).map fun s=>(.tuple #[.bool true,.int k (s:Int),B true],h.set it (.iter im c (seen++[s]) c))):=by
 have e1:(eY k l).filter (fun e=> !seen.contains e.1)=eY k (l.filter fun s=> !seen.contains s):=by
  unfold eY
  rw [List.filter_map]
  rfl
 have qF:∀s∈l.filter (fun s=> !seen.contains s),s<c:=fun s hs=>hl s (mem_filter.1 hs).1
 have e2:∀l':List Nat,(∀s∈l',s<c)→(eY k l').filter (fun e=>decide (e.1<c))=eY k l'∧(eY k l').filter (fun e=>decide (c≤e.1))=[]:=by
  intro l' oX
  refine ⟨List.filter_eq_self.2 ?_,List.filter_eq_nil_iff.2 ?_⟩
  ·intro x hx
   obtain ⟨s,hs,rfl⟩:=mem_map.1 hx
   exact aW (oX s hs)
  ·intro x hx
   obtain ⟨s,hs,rfl⟩:=mem_map.1 hx
   have:=oX s hs
   simp only [decide_eq_true_eq]
   omega
 have e3:(!seen.isEmpty&& !(eY k l).isEmpty&&(eY k l).all fun e=>decide (c≤e.1))=false:=by
  cases l with
  | nil=>simp [eY]
  | cons a l=>
   have:=hl a (by simp)
   have:decide (c≤a)=false:=aT (by omega)
   simp [eY,this]
 simp only [AO,pt,hi,hm,e3,false_eq_true,if_false,e1,(e2 _ qF).1,(e2 _ qF).2,List.append_nil]
 congr 2
 ·cases h1:l.filter (fun s=> !seen.contains s) <;> rfl
 ·unfold eY
  rw [List.map_map]
  rfl
end
end Go.Sim
namespace Go.Proofs.YtelmdbpaoifmoaaGreat
open Go.Sim
section
theorem nQ.pos {js:List (Int×Int)} {n:Nat} (h:nQ js) (hn:js.length=n):pE js n:=
 ⟨fun i=>(h.all i).1.1,fun i hi=>by unfold db;exact (h.getD (by omega)).1.1,fun i=>(h.all i).2.1⟩
theorem SL (s:Nat):∀n,cB s n=jQ s n
 | 0=>rfl
 | n+1=>by simp only [cB,jQ,SL s n]
theorem am1 (js:List (Int×Int)) (s:Nat):rk js (cB s 10)=lS js s:=by
 rw [SL];exact LA (db js) s 10
theorem am6 (js:List (Int×Int)) (s:Nat):xf js (cB s 10)=wS js s:=by
 rw [SL];exact LA (fq js) s 10
theorem afR {js:List (Int×Int)} (h:nQ js) (s:Nat):0≤lS js s∧lS js s≤500:=
 ⟨LB (fun i=>(h.all i).1.1) s 10,VS (c:=50) (fun i=>(h.all i).1) s 10⟩
theorem ano {js:List (Int×Int)} (h:nQ js) (s:Nat):0≤wS js s∧wS js s≤500:=
 ⟨LB (fun i=>(h.all i).2.1) s 10,VS (c:=50) (fun i=>(h.all i).2) s 10⟩
theorem agE {a b:Int} (ha:0≤a∧a≤500) (hb:0≤b∧b≤500):0≤a*b∧a*b≤250000:=by
 have h1:0≤a*b:=Int.mul_nonneg ha.1 hb.1
 have h2:a*b≤500*500:=Int.mul_le_mul ha.2 hb.2 hb.1 (by omega)
 omega
theorem acH {s:Nat} (hs:s<32768):dm .u16 (I s)=some (U s):=by
 rw [lj,mM.wrap (by omega) (by omega)]
theorem auO {bs:List Nat} {n s:Nat} (hn:n≤10) (hs:s<2^n):rG bs n s=(cB s 10).all fun i=>iK (bs.getD i 0) s:=by
 rw [Bool.eq_iff_iff,xF,all_eq_true]
 constructor
 ·intro h i hi
  have h2:=(CA s 10 i hi).2
  rw [pn]
  exact h i (BF hs h2) h2
 ·intro h i hi hb
  have hm:i∈cB s 10:=by
   have key:∀m,i<m→i∈cB s m:=by
    intro m
    induction m with
    | zero=>intro h;omega
    | succ m ih=>
     intro eO
     simp only [cB]
     by_cases e:i=m
     ·subst e;rw [hb];simp
     ·have:=ih (by omega)
      split
      ·exact List.mem_append_left _ this
      ·exact this
   exact key 10 (by omega)
  exact pn.1 (h i hm)
theorem OF (a b:Nat):decide ((a:Int)=(b:Int))=decide (a=b):=by
 rw [decide_eq_decide];omega
theorem aFo {g:ae} {im:Nat} {s:Nat} {l:List Nat} (hg:g[im]?=some (.df (.int .u16) s (eY .u16 l))) (hs:s∉l):CE (.int .u16) g (.map (some im)) (U s) (.bool true)=some (undef,g.set im (.df (.int .u16) (s+1) (eY .u16 (l++[s])))):=by
 have h1:fe (.int .u16) (U s)=true:=rfl
 simp only [CE,Cr,hg]
 rw [if_pos (by simp [h1,fP]),(amP .u16 hs).1,(amP .u16 hs).2]
 rfl
theorem DW {g:ae} {im c:Nat} {s:Nat} {es:List (Nat×Value×Value)} (hg:g[im]?=some (.df (.int .u16) c es)):Tb (.int .u16) g (.map (some im)) (U s)=some (.tuple #[],g.set im (.df (.int .u16) c (rH (U s) es))):=by
 have h1:fe (.int .u16) (U s)=true:=rfl
 simp only [Tb,EU,hg]
 rw [if_pos (by simp [h1])]
 rfl
def Dv (d:Nat) (seen:List Nat) (m:Nat):Prop:=∃s∈seen,(s &&& d=d∧s≠d)∧m=nY s d
theorem C73 {p:Value} {js:List (Int×Int)} {bs os:List Nat} {n:Nat} {h:ae} {K:Value→ae→Prop} (hp:PL h p js bs) (hn:js.length=n) (h1:1≤n) (lT:n≤10) (lY:nQ js) (uJ:bs.length=n) (hb:∀b∈bs,b<2^n)
  (iR:mo bs js n 0 os) (hk:K (sl 131 h.length 0 os.length) (h++[.arr 131 (os.map fun b:Nat=>U b)])):aq prog 73 [p] h K:=by
 have plain:wV (.arr 131 (os.map fun b:Nat=>U b))=true:=by
  simp only [wV,List.all_map,all_eq_true]
  intro x _;rfl
 refine auH (V:=fun i=>sl 131 i 0 os.length) (o:=.arr 131 (os.map fun b:Nat=>U b)) (oQ.sl 131 0 os.length) plain (f73 ?_) hk
 have xU:(2:Nat)^n≤2^10:=pow_le_pow_right (by decide) lT
 have two:2≤2^n:=by have:=pow_le_pow_right (show 0<2 by decide) h1;simpa using this
 have zG:∀b∈bs,b<1024:=fun b h=>lt_of_lt_of_le (hb b h) xU
 have Ep:bt n+1=2^n:=by unfold bt;omega
 have P:=lY.pos hn
 unfold Oh
 simp only [JH,aE]
 have hp1:PL (h++[.df (.int .u16) 0 []]) p js bs:=hp.mono (EX.append _ _)
 refine Df hp1 (by omega) ?_
 rw [hn,Ec]
 have wf:IntKind.wrap .i64 ((bt n:Nat):Int)=((bt n:Nat):Int):=wrap64 (by omega) (by omega)
 simp only [lj,wf,ah,cA,fk (bt n) (by omega),Ep]
 -- gv aGA aGD can auR first
 refine dL (σ:=Nat×ae) (fun q=>[I q.1]) (fun q=>q.2) (fun q=>q.1≤2^n∧EX h q.2∧q.2[h.length]?=some (.df (.int .u16) q.1 (eY .u16 (jY bs n q.1)))) (fun q=>2^n-q.1) (0,_) rfl rfl
  ⟨zero_le _,EX.append _ _,by simp [jY,eY]⟩ ?_
 rintro ⟨s,g⟩ ⟨hs,xg,hm⟩ L hL
 simp only at hs xg hm hL⊢
 rw [aC6]
 simp only [cN,ah,cj]
 refine ⟨fun aB=>?_,fun cL=>?_⟩
 ·have nf:s<2^n:=by omega
  have EB:s∉jY bs n s:=fun hx=>by have:=(Mm hx).1;omega
  simp only [acH (show s<32768 by omega),ah,aFo hm EB,aE]
  have xg1:EX h (g.set h.length (.df (.int .u16) (s+1) (eY .u16 (jY bs n s++[s])))):=xg.set (le_refl _) _
  have yf:(g.set h.length (.df (.int .u16) (s+1) (eY .u16 (jY bs n s++[s]))))[h.length]?=some (.df (.int .u16) (s+1) (eY .u16 (jY bs n s++[s]))):=cU hm
  generalize g.set h.length (.df (.int .u16) (s+1) (eY .u16 (jY bs n s++[s])))=g1 at xg1 yf⊢
  refine Mh (show s<1024 by omega) ?_
  intro v g2 iM Jp
  have AD:bc v=some (I (cB s 10).length):=by have:=Jp.len;rwa [length_map] at this
  have ye:=E5 s 10
  simp only [AD,ah]
  refine dL (σ:=Nat×ae) (fun q=>[I q.1]) (fun q=>q.2) (fun q=>q.1≤(cB s 10).length∧(CX g2 q.2∧EX h q.2)∧q.2[h.length]?=some (.df (.int .u16) (s+1) (eY .u16 (if ((cB s 10).take q.1).all (fun i=>iK (bs.getD i 0) s)=true then jY bs n s++[s] else jY bs n s))))
   (fun q=>(cB s 10).length-q.1) (0,g2) rfl rfl ⟨zero_le _,⟨CX.refl _,xg1.trans iM⟩,by simpa using iM.get yf⟩ ?_
  rintro ⟨k,g3⟩ ⟨Rc,⟨yM,Gf⟩,pQ⟩ L2 gV
  simp only at Rc yM Gf pQ gV⊢
  rw [aCX]
  simp only [cN,ah,cj]
  refine ⟨fun Ri=>?_,fun aw3=>?_⟩
  ·have ie:k<(cB s 10).length:=by omega
   obtain ⟨b,o,r1,r2⟩:=(NS.AM yM Jp).get k (by simpa using ie)
   have e:((cB s 10).map fun i:Nat=>(i:Int))[k]'(by simpa using ie)=((cB s 10)[k]:Int):=by simp
   rw [e] at r2
   have hi:=CA s 10 _ (getElem_mem ie)
   have eC:=BF nf hi.2
   obtain ⟨a,vj,vb,rfl,hc,hj,iP⟩:=hp.mono Gf
   have ld:af false 1 g3 (pt a 1)=some vb:=by simp [af,hc,cm]
   obtain ⟨b2,o2,t1,t2⟩:=NS.adB iP (i:=(cB s 10)[k]) (by omega)
   have QK:bs.getD (cB s 10)[k] 0<1024:=by
    have e3:bs.getD (cB s 10)[k] 0=bs[(cB s 10)[k]]'(by omega):=by simp [getD_eq_getElem?_getD,show (cB s 10)[k]<bs.length by omega]
    rw [e3];exact zG _ (getElem_mem _)
   have aq7:=Y2 mM QK (show s<1024 by omega)
   simp only [r1,r2,ah,AP,b9,zero_add,ld,t1,t2,acH (show s<32768 by omega),aq7,qo]
   have ez:decide (((nY (bs.getD (cB s 10)[k] 0) s:Nat):Int)=0)=iK (bs.getD (cB s 10)[k] 0) s:=by
    cases hq:iK (bs.getD (cB s 10)[k] 0) s with
    | true=>exact aW (by have:=acR.2 hq;omega)
    | false=>exact aT (by intro h0;have:=acR.1 (show nY (bs.getD (cB s 10)[k] 0) s=0 by omega);rw [hq] at this;cases this)
   rw [ez]
   have pS:((cB s 10).take (k+1)).all (fun i=>iK (bs.getD i 0) s)=(((cB s 10).take k).all (fun i=>iK (bs.getD i 0) s)&&iK (bs.getD (cB s 10)[k] 0) s):=by
    rw [List.take_succ_eq_append_getElem ie,all_append];simp
   refine uf (fun hq=>?_) fun hq=>?_
   ·have gL:iK (bs.getD (cB s 10)[k] 0) s=false:=by simpa using hq
    simp only [DW pQ,aE]
    rw [amb]
    simp only [cA,ah,fk k (by omega),true_and]
    refine gV (k+1,_) ⟨by show k+1≤_;omega,⟨yM.trans (CX.mj pQ),Gf.set (le_refl _) _⟩,?_⟩ (by show _-(k+1)<_-k;omega)
    rw [pS,gL,Bool.and_false]
    simp only [false_eq_true,if_false]
    rw [cU pQ]
    split
    ·rw [av6 .u16 EB]
    ·rw [av7 .u16 EB]
   ·have gL:iK (bs.getD (cB s 10)[k] 0) s=true:=by simpa using hq
    rw [amb]
    simp only [cA,ah,fk k (by omega),true_and]
    refine gV (k+1,g3) ⟨by show k+1≤_;omega,⟨yM,Gf⟩,?_⟩ (by show _-(k+1)<_-k;omega)
    rw [pS,gL,Bool.and_true]
    exact pQ
  ·have zY:k=(cB s 10).length:=by omega
   subst zY
   rw [take_length,←auO lT nf,←aoa] at pQ
   rw [aCY]
   simp only [cA,ah,fk s (by omega),true_and]
   exact hL (s+1,g3) ⟨by show s+1≤_;omega,Gf,pQ⟩ (by show _-(s+1)<_-s;omega)
 ·have RO:s=2^n:=by omega
  subst RO
  rw [aCZ]
  -- one set after gv other
  refine dL (σ:=Nat×List Nat×Value×ae) (fun q=>[q.2.2.1,U q.1]) (fun q=>q.2.2.2) (fun q=>q.1<2^n∧(∀r,mo bs js n q.1 r→mo bs js n 0 (q.2.1++r))∧q.2.1.length≤q.1∧
    (EX h q.2.2.2∧q.2.2.2[h.length]?=some (.df (.int .u16) (2^n) (eY .u16 (jY bs n (2^n)))))∧fU (h.length+1) q.2.2.2 131 q.2.2.1 (q.2.1.map fun b:Nat=>U b)) (fun q=>2^n-q.1)
   (0,[],.slice none 0 0,g) rfl rfl ⟨by show 0<2^n;omega,fun r hr=>hr,le_refl _,⟨xg,hm⟩,.inl ⟨rfl,rfl⟩⟩ ?_
  rintro ⟨d,out,vo,g2⟩ ⟨hd,RP,gX,⟨iM,qI⟩,own⟩ L1 hL1
  simp only at hd RP gX iM qI own hL1⊢
  rw [aC0]
  refine Df (hp.mono iM) (by omega) ?_
  rw [hn,Ec]
  simp only [qo,ah,OF]
  refine uf (fun bm=>?_) fun heq=>?_
  ·have hdf:d<bt n:=by simp at bm;omega
   have g2l:h.length<g2.length:=(bL qI).1
   have rg:Cs g2 (.map (some h.length))=some (pt g2.length 0,g2++[.iter h.length (2^n) [] (2^n)]):=by
    simp only [Cs,qI]
   simp only [rg,aE]
   have xi:EX g2 (g2++[.iter h.length (2^n) [] (2^n)]):=EX.append _ _
   have gi:(g2++[ak.iter h.length (2^n) [] (2^n)])[g2.length]?=some (.iter h.length (2^n) [] (2^n)):=by simp
   generalize g2++[ak.iter h.length (2^n) [] (2^n)]=g3 at xi gi⊢
   refine dL (σ:=Nat×List Nat×ae) (fun q=>[U q.1]) (fun q=>q.2.2) (fun q=>q.1<2^n∧(∀s∈q.2.1,s∈jY bs n (2^n))∧jm bs js n d (Dv d q.2.1) q.1∧EX g2 q.2.2∧q.2.2[g2.length]?=some (.iter h.length (2^n) q.2.1 (2^n)))
    (fun q=>((jY bs n (2^n)).filter fun s=> !q.2.1.contains s).length) (0,[],g3) rfl rfl ⟨by show 0<2^n;omega,fun s hs=>by simp at hs,.start _ _ _ _ (fun x ⟨s,hs,_⟩=>by simp at hs),xi,gi⟩ ?_
   rintro ⟨a9,seen,g4⟩ ⟨zI,aeX,yo,yN,Q5⟩ L2 gV
   simp only at zI aeX yo yN Q5 gV⊢
   rw [aC1]
   have hm4:=yN.get qI
   rw [azJ hm4 Q5 (fun s hs=>(Mm hs).1),aq2]
   intro pr wB
   rcases mem_append.1 wB with wB | wB
   ·-- all aFt seen
    split at wB
    ·rename_i awX
     have:pr=(.tuple #[.bool false],g4):=by simpa using wB
     subst this
     have x0:cf 0 (.tuple #[Value.bool false])=some (.bool false):=rfl
     simp only [x0,ah,dP]
     have fh:∀x,fm bs n d x→Dv d seen x:=by
      intro x hx
      obtain ⟨⟨c1,c2⟩,c3,c4⟩:=aip hd hx
      refine ⟨d ||| x,?_,c3,c4⟩
      have Jk:=an9 c1 c2
      apply byContradiction
      intro Jp
      have:(d ||| x)∈(jY bs n (2^n)).filter fun s=> !seen.contains s:=mem_filter.2 ⟨Jk,by simpa using Jp⟩
      rw [List.isEmpty_iff.1 awX] at this
      simp at this
     have hS:=yo.all P lT fh (ams hb hdf)
     obtain ⟨s1,s2,s3⟩:=hS.step hd
     rw [aC4]
     have aiE:fU (h.length+1) g4 131 vo (out.map fun b:Nat=>U b):=own.dR fun d' n' hv om=>by
      have:=(own.lt hv).2.1
      exact yN.2 d' this
     have xh4:=iM.trans yN
     refine Dz aiE (by simp;omega) (by simp [maxLen];omega) rfl rfl ?_
     intro w1 bY _ hlen hold jw
     simp only [aE,CG mM (show d<1024 by omega) (show a9<1024 by omega),ah,true_and]
     have g4l:g2.length≤g4.length:=yN.1
     have dR:∀d',d'<g4.length→d'<h.length+1→bY[d']?=g4[d']?:=fun d' om eD=>hold d' om fun n' hv=>by
      have:=(aiE.lt hv).1
      omega
     refine hL1 (d ||| a9,out++[a9],sl 131 (g4.length+1) 0 ((out.map fun b:Nat=>U b).length+1),bY) ⟨s2,?_,?_,⟨?_,?_⟩,?_⟩ (by show _-(d ||| a9)<_-d;omega)
     ·intro r hr
      have:=RP (a9::r) ⟨hS,hr⟩
      simpa using this
     ·show (out++[a9]).length≤d ||| a9
      simp;omega
     ·refine ⟨by have:=xh4.1;show h.length≤bY.length;omega,fun i hi=>?_⟩
      rw [dR i (by omega) (by omega)]
      exact xh4.2 i hi
     ·show bY[h.length]?=_
      rw [dR h.length (by omega) (by omega)]
      exact hm4
     ·refine .inr ⟨g4.length+1,by show h.length+1≤_;omega,?_,?_⟩
      ·show sl 131 (g4.length+1) 0 _=sl 131 (g4.length+1) 0 _
       simp
      ·show bY[g4.length+1]?=_
       rw [jw];simp
    ·simp at wB
   ·obtain ⟨s,tn,rfl⟩:=mem_map.1 wB
    obtain ⟨RM,hsn⟩:=mem_filter.1 tn
    obtain ⟨axX,axT⟩:=Mm RM
    have x0:cf 0 (.tuple #[Value.bool true,.int .u16 (s:Int),B true])=some (.bool true):=rfl
    simp only [x0,ah,dM]
    have nt:EX g2 (g4.set g2.length (.iter h.length (2^n) (seen++[s]) (2^n))):=yN.set (le_refl _) _
    have QA:(g4.set g2.length (.iter h.length (2^n) (seen++[s]) (2^n)))[g2.length]?=some (.iter h.length (2^n) (seen++[s]) (2^n)):=cU Q5
    generalize g4.set g2.length (.iter h.length (2^n) (seen++[s]) (2^n))=g5 at nt QA⊢
    have hm5:=nt.get qI
    have en:Ap g5 (pt g2.length 0)=some (.tuple #[U s,B true]):=by
     simp only [Ap,pt,QA,hm5,List.getLast?_append,List.getLast?_singleton,Option.some_or,if_true]
     rw [adm .u16 s RM]
     rfl
    have axU:∀x∈seen++[s],x∈jY bs n (2^n):=by
     intro x hx
     rcases mem_append.1 hx with hx | hx
     ·exact aeX x hx
     ·have:x=s:=by simpa using hx
      subst this;exact RM
    have axo:((jY bs n (2^n)).filter fun x=> !(seen++[s]).contains x).length<((jY bs n (2^n)).filter fun x=> !seen.contains x).length:=by
     have e1:(jY bs n (2^n)).filter (fun x=> !(seen++[s]).contains x)=((jY bs n (2^n)).filter fun x=> !seen.contains x).filter fun x=> !decide (x=s):=by
      rw [List.filter_filter]
      congr 1
      funext x
      rw [List.contains_eq_any_beq,List.contains_eq_any_beq,List.any_append]
      by_cases pV:x=s
      ·subst pV;simp
      ·have:(s==x)=false:=by simpa using fun h=>pV h.symm
       simp [pV]
     rw [e1]
     exact List.length_filter_lt_length_iff_exists.2 ⟨s,tn,by simp⟩
    simp only [en,ah,eL,fx,Y1 mM (show s<1024 by omega) (show d<1024 by omega),qo,OF]
    rw [aC2]
    have finish:∀(b':Nat) (g6:ae),b'<2^n→jm bs js n d (Dv d (seen++[s])) b'→EX g5 g6→L2 [U b'] g6:=fun b' g6 kQ axY x6=>
     gV (b',seen++[s],g6) ⟨kQ,axU,axY,nt.trans x6,x6.get QA⟩ axo
    by_cases c1:s &&& d=d
    rotate_left
    ·rw [aT c1]
     simp only [Bool.not_false,fT]
     rw [amc]
     simp only [dZ,ah,dM,true_and]
     refine finish a9 g5 zI (yo.congr ?_) (EX.refl _)
     rintro x ⟨s',dT,c3,c4⟩
     rcases mem_append.1 dT with dT | dT
     ·exact ⟨s',dT,c3,c4⟩
     ·have:s'=s:=by simpa using dT
      subst this;exact absurd c3.1 c1
    rw [aW c1]
    simp only [Bool.not_true,eJ,jo,ah,OF]
    rw [amc]
    by_cases c2:s=d
    ·rw [aW c2]
     simp only [c8,ah,dM,true_and]
     refine finish a9 g5 zI (yo.congr ?_) (EX.refl _)
     rintro x ⟨s',dT,c3,c4⟩
     rcases mem_append.1 dT with dT | dT
     ·exact ⟨s',dT,c3,c4⟩
     ·have:s'=s:=by simpa using dT
      subst this;exact absurd c2 c3.2
    rw [aT c2]
    have hR:=amt axX axT c1 c2
    simp only [c8,ah,dP,Y2 mM (show s<1024 by omega) (show d<1024 by omega)]
    generalize Jj:nY s d=m at hR⊢
    have Ez:=hR.lt
    have I4:∀x,Dv d (seen++[s]) x→Dv d seen x∨x=m:=by
     rintro x ⟨s',dT,c3,c4⟩
     rcases mem_append.1 dT with dT | dT
     ·exact .inl ⟨s',dT,c3,c4⟩
     ·have:s'=s:=by simpa using dT
      subst this;exact .inr (by rw [c4,Jj])
    have Cg:PL g5 p js bs:=hp.mono (iM.trans nt)
    refine W6 Cg lY (by omega) (by rw [hn];exact Ez) fun g6 x6=>?_
    refine Gj (Cg.mono x6) lY (by omega) (by rw [hn];exact zI) fun g7 x7=>?_
    rw [am6,am1]
    have bA:=agE (ano lY m) (afR lY a9)
    have bB:=agE (ano lY a9) (afR lY m)
    have cQ:=x6.trans x7
    simp only [vP,ah,wrap64 (show -9223372036854775808≤wS js m*lS js a9 by omega) (show wS js m*lS js a9<9223372036854775808 by omega)]
    refine W6 (Cg.mono cQ) lY (by omega) (by rw [hn];exact zI) fun g8 x8=>?_
    refine Gj (Cg.mono (cQ.trans x8)) lY (by omega) (by rw [hn];exact Ez) fun g9 x9=>?_
    rw [am6,am1]
    have dO:=(cQ.trans x8).trans x9
    have ez:decide (((a9:Nat):Int)=0)=decide (a9=0):=by rw [decide_eq_decide];omega
    simp only [vP,ah,wrap64 (show -9223372036854775808≤wS js a9*lS js m by omega) (show wS js a9*lS js m<9223372036854775808 by omega),jo,ez]
    rw [aC3]
    by_cases b0:a9=0
    ·rw [aW b0]
     simp only [fT]
     rw [amd]
     simp only [dZ,ah,dM,true_and]
     exact finish m g9 Ez ((yo.take P lT hR (.inl b0)).congr I4) dO
    rw [aT b0]
    simp only [eJ,gj,ah]
    rw [amd]
    by_cases c3:wS js a9*lS js m<wS js m*lS js a9
    ·rw [aW c3]
     simp only [c8,ah,dM,true_and]
     exact finish m g9 Ez ((yo.take P lT hR (.inr c3)).congr I4) dO
    rw [aT c3]
    simp only [c8,ah,dP,jo]
    by_cases c4:wS js a9*lS js m=wS js m*lS js a9
    ·rw [aW c4.symm]
     simp only [dM,CG mM (show a9<1024 by omega) (show m<1024 by omega),ah,true_and]
     exact finish _ g9 (Nat.or_lt_two_pow zI Ez) ((yo.join P lT hR b0 c4).congr I4) dO
    ·rw [aT (fun h=>c4 h.symm)]
     simp only [dP,true_and]
     exact finish a9 g9 zI ((yo.pass P lT hR b0 (by omega)).congr I4) dO
  ·have QX:d=bt n:=by simpa using heq
   rw [aC5]
   have e:=mo.uniq (RP [] QX) iR
   rw [List.append_nil] at e
   subst e
   have bm:out≠[]:=by
    rintro rfl
    have h0:(0:Nat)=bt n:=iR
    omega
   refine ⟨iM,?_⟩
   rcases own with ⟨_,h2⟩ | ⟨i,i1,i2,i3⟩
   ·exact absurd (by simpa using h2) bm
   ·exact ⟨i,by omega,i3,by rw [i2,length_map]⟩
end
section
def aiu (h:ae) (i:Nat):Bool:=
 match aR h i with
 | some [.slice (some ⟨a,0,some _⟩) 2 2,.slice (some ⟨b,0,some _⟩) 2 2]=>
  (match aR h a with | some xs=>yH xs [I 3,I 1,I 1,I 1] | none=>false)&&(match aR h b with | some ys=>yH ys [U 0,U 1] | none=>false)
 | _=>false
noncomputable def q8:kY:=fun t args h=>
 match t with
 | .func 73=>
  match args with
  | [.pointer (some ⟨i,0,none⟩)]=>if aiu h i=true then some (sl 131 h.length 0 1,h++[.arr 131 [U 3]]) else none
  | _=>none
 | _=>none
theorem aEE:mo [0,1] [(3,1),(1,1)] 2 0 [3]:=by
 have YZ:∀x,x<2^2→x=0∨x=1∨x=2∨x=3:=by intro x hx;omega
 have e1:wS [(3,1),(1,1)] 1=1∧lS [(3,1),(1,1)] 1=3:=by decide
 have e3:wS [(3,1),(1,1)] 3=2∧lS [(3,1),(1,1)] 3=4:=by decide
 refine ⟨⟨⟨⟨by decide,by decide,by decide,by decide⟩,fun x hx=>?_⟩,fun m hm=>?_⟩,by show (0 ||| 3)=bt 2;decide⟩
 ·rcases YZ x hx.lt with rfl | rfl | rfl | rfl
  ·exact absurd rfl hx.ne
  ·rw [e1.1,e1.2,e3.1,e3.2];decide
  ·have:=hx.cl
   revert this
   decide
  ·exact Int.le_refl _
 ·rcases YZ m hm.1.lt with rfl | rfl | rfl | rfl <;> decide
theorem az8:sI prog q8:=by
 constructor
 ·intro F args h v h' he
  simp only [q8] at he
  split at he
  ·rename_i hF
   injection hF with hF
   subst hF
   split at he
   ·rename_i i
    split at he
    ·rename_i aC
     simp only [Option.some.injEq,Prod.mk.injEq] at he
     obtain ⟨rfl,rfl⟩:=he
     unfold aiu at aC
     split at aC
     ·rename_i hc
      rename_i a ea b eb
      rw [and_eq_true] at aC
      obtain ⟨ha,hb⟩:=aC
      split at ha
      ·rename_i xs hx
       split at hb
       ·rename_i ys hy
        have bY:=C0 ha
        have qQ:=C0 hb
        subst bY qQ
        have j5:PL h (pt i 0) [(3,1),(1,1)] [0,1]:=by
         refine ⟨i,_,_,rfl,hc,?_,?_⟩
         ·exact PS.sl (e:=ea) (i:=a) (ps:=[(3,1),(1,1)]) hx
         ·exact NS.sl (e:=eb) (i:=b) (k:=.u16) (ns:=[0,1]) (.inr hy) (by decide)
        have rO:=C73 (os:=[3]) (n:=2) (K:=fun v aU=>v=sl 131 h.length 0 1∧aU=h++[.arr 131 [U 3]]) j5 rfl (by decide) (by decide)
         (by intro j hj;rcases mem_cons.1 hj with rfl | hj;decide;rcases mem_cons.1 hj with rfl | hj;decide;simp at hj) rfl (by intro b hb;rcases mem_cons.1 hb with rfl | hb;decide;rcases mem_cons.1 hb with rfl | hb;decide;simp at hb) aEE ⟨rfl,rfl⟩
        rw [vL] at rO
        obtain ⟨v,h',QP,rfl,rfl⟩:=rO
        exact QP
       ·cases hb
      ·cases ha
     ·cases aC
    ·cases he
   ·cases he
  ·cases he
 ·intro i args h v h' he
  simp only [q8] at he
  cases he
end
end Go.Proofs.YtelmdbpaoifmoaaGreat
namespace Go.Sim
section
def A0 (f:Nat→Option Nat) (v:Value):Option Value:=
 match v with
 | .pointer (some ⟨i,o,none⟩)=>match f i with | some j=>some (.pointer (some ⟨j,o,none⟩)) | none=>none
 | .slice (some ⟨i,o,some e⟩) n c=>match f i with | some j=>some (.slice (some ⟨j,o,some e⟩) n c) | none=>none
 | v=>match fL v with | true=>some v | false=>none
def w5 (f:Nat→Option Nat):List Value→Option (List Value)
 | []=>some []
 | v::vs=>match A0 f v with
  | some u=>match w5 f vs with | some us=>some (u::us) | none=>none
  | none=>none
def K8 (f:Nat→Option Nat) (v:Value):Option Value:=
 match v with
 | .agg xs=>match w5 f xs.toList with | some ys=>some (.agg ys.toArray) | none=>none
 | v=>A0 f v
def AZ (f:Nat→Option Nat):List Value→Option (List Value)
 | []=>some []
 | v::vs=>match K8 f v with
  | some u=>match AZ f vs with | some us=>some (u::us) | none=>none
  | none=>none
def Lc (f:Nat→Option Nat) (v:Value):Option Value:=
 match v with
 | .tuple xs=>match AZ f xs.toList with | some ys=>some (.tuple ys.toArray) | none=>none
 | v=>K8 f v
def w6 (f:Nat→Option Nat) (o:ak):Option ak:=
 match o with
 | .arr e xs=>match w5 f xs with | some ys=>some (.arr e ys) | none=>none
 | .ro e xs=>match w5 f xs with | some ys=>some (.ro e ys) | none=>none
 | _=>none
section
variable {f : Nat → Option Nat} {rz nT : aI} (hf : ∀ i k, f i = some k → rz i = nT k)
include hf
theorem K9 {v u v':Value} (h:A0 f v=some u):ay rz v v'↔ay nT u v':=by
 unfold A0 at h
 split at h
 ·split at h
  ·rename_i i o j hj
   injection h with h;subst h
   have e:=hf _ _ hj
   constructor
   ·intro q;cases q with | ptr hr=>exact .ptr (by rw [←e];exact hr)
   ·intro q;cases q with | ptr hr=>exact .ptr (by rw [e];exact hr)
  ·cases h
 ·split at h
  ·rename_i i o el n c j hj
   injection h with h;subst h
   have e:=hf _ _ hj
   constructor
   ·intro q;cases q with | slice hr a b c d=>exact .slice (by rw [←e];exact hr) a b c d
   ·intro q;cases q with | slice hr a b c d=>exact .slice (by rw [e];exact hr) a b c d
  ·cases h
 ·split at h
  ·rename_i hs
   injection h with h;subst h
   exact ⟨fun q=>fL.rel hs q,fun q=>fL.rel hs q⟩
  ·cases h
omit hf in
theorem Vq {v u:Value} (h:A0 f v=some u):gN v=gN u:=by
 unfold A0 at h
 split at h
 ·split at h
  ·injection h with h;subst h;rfl
  ·cases h
 ·split at h
  ·injection h with h;subst h;rfl
  ·cases h
 ·split at h
  ·injection h with h;subst h;rfl
  ·cases h
omit hf in
theorem Lb:∀{xs ys:List Value},w5 f xs=some ys→xs.length=ys.length∧∀(k:Nat) (x y:Value),xs[k]?=some x→ys[k]?=some y→A0 f x=some y
 | [],ys,h=>by
  simp only [w5,Option.some.injEq] at h
  subst h
  exact ⟨rfl,fun k x y h _=>by simp at h⟩
 | x::xs,ys,h=>by
  simp only [w5] at h
  split at h
  ·rename_i u hu
   split at h
   ·rename_i us Cp
    injection h with h;subst h
    obtain ⟨h1,h2⟩:=Lb Cp
    refine ⟨by simp [h1],fun k a b ha hb=>?_⟩
    cases k with
    | zero=>simp at ha hb;rw [←ha,←hb];exact hu
    | succ k=>exact h2 k a b (by simpa using ha) (by simpa using hb)
   ·cases h
  ·cases h
theorem La {xs ys:List Value} (h:w5 f xs=some ys) {c:Array Value} {sh:Nat}:fS rz c sh xs↔fS nT c sh ys:=by
 obtain ⟨hl,hg⟩:=Lb h
 constructor
 ·intro q j y hy
  have hj:j<xs.length:=by rw [hl];exact (bL hy).1
  have hx:xs[j]?=some xs[j]:=getElem?_eq_getElem hj
  obtain ⟨q1,z,q2,q3⟩:=q j _ hx
  have r:=hg j _ _ hx hy
  exact ⟨by rw [←Vq r];exact q1,z,q2,(K9 hf r).1 q3⟩
 ·intro q j x hx
  have hj:j<ys.length:=by rw [←hl];exact (bL hx).1
  have hy:ys[j]?=some ys[j]:=getElem?_eq_getElem hj
  obtain ⟨q1,z,q2,q3⟩:=q j _ hy
  have r:=hg j _ _ hx hy
  exact ⟨by rw [Vq r];exact q1,z,q2,(K9 hf r).2 q3⟩
theorem Vr {o u:ak} {w:World} {r:RI} (h:w6 f o=some u):lJ rz w r o↔lJ nT w r u:=by
 unfold w6 at h
 split at h
 ·split at h
  ·rename_i pV
   injection h with h;subst h
   constructor
   ·rintro ⟨a,b,c,d,e,g⟩;exact ⟨a,b,c,d,e,(La hf pV).1 g⟩
   ·rintro ⟨a,b,c,d,e,g⟩;exact ⟨a,b,c,d,e,(La hf pV).2 g⟩
  ·cases h
 ·split at h
  ·rename_i pV
   injection h with h;subst h
   constructor
   ·rintro ⟨a,c,t,fr,d,e,g⟩;exact ⟨a,c,t,fr,d,e,(La hf pV).1 g⟩
   ·rintro ⟨a,c,t,fr,d,e,g⟩;exact ⟨a,c,t,fr,d,e,(La hf pV).2 g⟩
  ·cases h
 ·cases h
theorem aDI {xs ys zs:List Value} (h:w5 f xs=some ys) (q:bF rz xs zs):bF nT ys zs:=by
 obtain ⟨hl,hg⟩:=Lb h
 refine bF.Kj (by rw [←hl];exact q.length) fun k y z hy hz=>?_
 have hk:k<xs.length:=by rw [hl];exact (bL hy).1
 have hx:xs[k]?=some xs[k]:=getElem?_eq_getElem hk
 obtain ⟨z',h1,h2⟩:=q.get hx
 rw [hz] at h1;cases h1
 exact (K9 hf (hg k _ _ hx hy)).1 h2
theorem amv {v u v':Value} (h:K8 f v=some u) (q:ay rz v v'):ay nT u v':=by
 unfold K8 at h
 split at h
 ·rename_i xs
  split at h
  ·rename_i ys Am
   injection h with h;subst h
   cases q with
   | agg hs h1 hr=>
    have vs:=aDI hf Am (bF.tU hs hr)
    obtain ⟨hl,hg⟩:=Lb Am
    refine .agg (by have:=vs.length;simpa using this) (fun y hy=>?_) (by have:=vs.ofList;simpa using this)
    have qQ:y∈ys:=by simpa using hy
    obtain ⟨k,hk,e⟩:=List.mem_iff_getElem.1 qQ
    have hx:xs.toList[k]?=some (xs.toList[k]'(by omega)):=getElem?_eq_getElem (by omega)
    have r:=hg k _ y hx (by rw [getElem?_eq_getElem hk,e])
    rw [←Vq r]
    exact h1 _ (getElem_mem _)
  ·cases h
 ·exact (K9 hf h).1 q
theorem Vp:∀{xs ys zs:List Value},AZ f xs=some ys→bF rz xs zs→bF nT ys zs
 | [],ys,zs,h,q=>by
  simp only [AZ,Option.some.injEq] at h
  subst h
  cases q;exact .nil
 | x::xs,ys,zs,h,q=>by
  simp only [AZ] at h
  split at h
  ·rename_i u hu
   split at h
   ·rename_i us Cp
    injection h with h;subst h
    cases q with
    | cons a b=>exact .cons (amv hf hu a) (Vp Cp b)
   ·cases h
  ·cases h
theorem aDK {v u v':Value} (h:Lc f v=some u) (q:ay rz v v'):ay nT u v':=by
 unfold Lc at h
 split at h
 ·rename_i xs
  split at h
  ·rename_i ys Am
   injection h with h;subst h
   cases q with
   | tuple hs hr=>
    have vs:=Vp hf Am (bF.tU hs hr)
    exact .tuple (by have:=vs.length;simpa using this) (by have:=vs.ofList;simpa using this)
  ·cases h
 ·exact amv hf h q
end
def p6 (i:Nat):List Nat→Option Nat
 | []=>none
 | a::l=>match Nat.beq a i with | true=>some 0 | false=>match p6 i l with | some k=>some (k+1) | none=>none
theorem KX {i:Nat}:∀{l:List Nat} {k:Nat},p6 i l=some k→l[k]?=some i
 | [],k,h=>by cases h
 | a::l,k,h=>by
  simp only [p6] at h
  split at h
  ·rename_i hb
   injection h with h;subst h
   simp [eq_of_beq_eq_true hb]
  ·split at h
   ·rename_i k' cW
    injection h with h;subst h
    simpa using KX cW
   ·cases h
def BD (ids is:List Nat) (b:Nat) (k:Nat):Option Nat:=
 match Nat.blt k ids.length with
 | true=>ids[k]?
 | false=>match p6 k is with | some t=>some (b+t) | none=>none
theorem aDJ {f:Nat→Option Nat} {o u:ak} (h:w6 f o=some u):(∃e xs ys,o=.arr e xs∧u=.arr e ys)∨∃e xs ys,o=.ro e xs∧u=.ro e ys:=by
 unfold w6 at h
 split at h
 ·split at h
  ·injection h with h;subst h;exact .inl ⟨_,_,_,rfl,rfl⟩
  ·cases h
 ·split at h
  ·injection h with h;subst h;exact .inr ⟨_,_,_,rfl,rfl⟩
  ·cases h
 ·cases h
theorem tH {h h2:ae} {i k:Nat} {o u:ak} {f:Nat→Option Nat} (h1:h[i]?=some o) (h3:h2[k]?=some u) (hr:w6 f o=some u):(cC h i↔cC h2 k)∧eW h i∧eW h2 k:=by
 unfold cC eW
 rw [h1,h3]
 rcases aDJ hr with ⟨e,xs,ys,rfl,rfl⟩ | ⟨e,xs,ys,rfl,rfl⟩ <;> simp
theorem agM {l:List Nat} (h:l.Nodup) {a b i:Nat} (ha:l[a]?=some i) (hb:l[b]?=some i):a=b:=by
 obtain ⟨h1,h2⟩:=bL ha
 obtain ⟨h3,h4⟩:=bL hb
 have hp:=List.pairwise_iff_getElem.1 h
 rcases Nat.lt_trichotomy a b with hl | he | hl
 ·exact absurd (h2.trans h4.symm) (hp a b h1 h3 hl)
 ·exact he
 ·exact absurd (h4.trans h2.symm) (hp b a h3 h1 hl)
theorem ayd {P:Program} {F:FuncId} {yY args:List Value} {h0 rM h os:ae} {v0 v:Value} {ids is:List Nat} (hc:xt P F yY h0 v0 rM)
  (oZ:ids.Nodup) (hlen:h0.length=ids.length) (ha:AZ (p6 · ids) args=some yY)
  (ho:∀(k i:Nat),ids[k]?=some i→∃o o0:ak,h[i]?=some o∧h0[k]?=some o0∧w6 (p6 · ids) o=some o0)
  (hex:EX h0 rM) (axb:is.Nodup) (axa:∀k∈is,h0.length≤k) (hv:Lc (BD ids is h.length) v0=some v) (_:os.length=is.length)
  (iR:∀(t k:Nat),is[t]?=some k→∃o0 o:ak,rM[k]?=some o0∧os[t]?=some o∧w6 (BD ids is h.length) o0=some o):xt P F args h v (h++os):=by
 intro ρ args' w hva H
 let sE:aI:=fun k=>(ids[k]?).bind ρ
 have f1:∀i k,p6 i ids=some k→ρ i=sE k:=fun i k hk=>by simp [sE,KX hk]
 have afl:∀k i,ids[k]?=some i→i<h.length:=fun k i hk=>by
  obtain ⟨o,o0,h1,_⟩:=ho k i hk
  exact (bL h1).1
 have r0:∀k r,sE k=some r→∃i,ids[k]?=some i∧ρ i=some r:=by
  intro k r hr
  cases hi:ids[k]? with
  | none=>simp [sE,hi] at hr
  | some i=>exact ⟨i,rfl,by simpa [sE,hi] using hr⟩
 have H0:aX P sE h0 w:=by
  refine ⟨?_,?_,?_⟩
  ·intro k r hr
   obtain ⟨i,hi,jt⟩:=r0 k r hr
   obtain ⟨o,o0,h1,h2,h3⟩:=ho k i hi
   obtain ⟨o',dN,nH⟩:=H.obj i r jt
   rw [h1] at dN;cases dN
   exact ⟨o0,h2,(Vr f1 h3).1 nH⟩
  ·intro a b r s rU qP ng hm hl
   obtain ⟨i,hi,jt⟩:=r0 a r rU
   obtain ⟨j,hj,uP⟩:=r0 b s qP
   obtain ⟨o,o0,h1,h2,h3⟩:=ho a i hi
   obtain ⟨p,p0,q1,q2,q3⟩:=ho b j hj
   have e:=H.inj i j r s jt uP ng ((tH h1 h2 h3).1.2 hm) (tH q1 q2 q3).2.1
   subst e
   exact agM oZ hi hj
  ·intro k r hr
   obtain ⟨i,_,jt⟩:=r0 k r hr
   exact H.aV i r jt
 refine (hc sE args' w (Vp f1 ha hva) H0).mono ?_
 rintro e w' ⟨v',vJ,rfl,lZ,H',T⟩
 let nT:aI:=fun j=>if j<h.length then ρ j else (is[j-h.length]?).bind vJ
 have vi:∀j,j<h.length→nT j=ρ j:=fun j hj=>by simp [nT,hj]
 have r2n:∀t,nT (h.length+t)=(is[t]?).bind vJ:=fun t=>by
  show (if h.length+t<h.length then ρ (h.length+t) else (is[h.length+t-h.length]?).bind vJ)=_
  rw [if_neg (by omega),Nat.add_sub_cancel_left]
 have Fo:∀k i,ids[k]?=some i→vJ k=ρ i:=by
  intro k i hi
  have e0:sE k=ρ i:=by simp [sE,hi]
  cases hr:ρ i with
  | some r=>exact T.ext k r (by rw [e0];exact hr)
  | none=>
   cases mE:vJ k with
   | none=>rfl
   | some r=>
    have:=(T.fresh k r mE (by rw [e0];exact hr)).1
    have:k<ids.length:=(bL hi).1
    omega
 have f2:∀k j,BD ids is h.length k=some j→vJ k=nT j:=by
  intro k j hk
  unfold BD at hk
  split at hk
  ·rw [Fo k j hk,vi j (afl k j hk)]
  ·split at hk
   ·rename_i t ht
    injection hk with hk;subst hk
    rw [r2n t,KX ht];rfl
   ·cases hk
 have f3:∀i k,p6 i ids=some k→nT i=vJ k:=fun i k hk=>by
  have:=KX hk
  rw [Fo k i this,vi i (afl k i this)]
 have aiw:∀j,j<h.length→(h++os)[j]?=h[j]?:=fun j hj=>getElem?_append_left hj
 have S4:∀t,(h++os)[h.length+t]?=os[t]?:=fun t=>by rw [List.getElem?_append_right (by omega),Nat.add_sub_cancel_left]
 have hle:ρ.le nT:=fun j r hr=>by rw [vi j (H.lt hr)];exact hr
 have Fg:∀j,j<h.length→(cC (h++os) j↔cC h j)∧(eW (h++os) j↔eW h j):=fun j hj=>by unfold cC eW;rw [aiw j hj];exact ⟨Iff.rfl,Iff.rfl⟩
 -- vB is new,vO gv own heap has it
 have AN:∀j r,nT j=some r→¬j<h.length→∃t k:Nat,j=h.length+t∧is[t]?=some k∧vJ k=some r∧h0.length≤k:=by
  intro j r hr hj
  obtain ⟨t,rfl⟩:∃t,j=h.length+t:=⟨j-h.length,by omega⟩
  rw [r2n t] at hr
  cases hk:is[t]? with
  | none=>rw [hk] at hr;cases hr
  | some k=>rw [hk] at hr;exact ⟨t,k,rfl,hk,hr,axa k (List.mem_of_getElem? hk)⟩
 have ayx:∀k,h0.length≤k→sE k=none:=fun k hk=>by
  have:ids[k]?=none:=List.getElem?_eq_none (by omega)
  simp [sE,this]
 have agK:∀(k:Nat) (r:RI),vJ k=some r→h0.length≤k→w.heap.size≤r.bu∨∃(k' i:Nat) (s:RI),ids[k']?=some i∧ρ i=some s∧s.bu=r.bu∧cC h i:=by
  intro k r hr hk
  rcases (T.fresh k r hr (ayx k hk)).2 with h1 | ⟨j,s,h1,h2,h3⟩
  ·exact .inl h1
  ·obtain ⟨i,hi,jt⟩:=r0 j s h1
   obtain ⟨o,o0,q1,q2,q3⟩:=ho j i hi
   exact .inr ⟨j,i,s,hi,jt,h2,(tH q1 q2 q3).1.2 h3⟩
 -- an old azS and a new one aGB no block,if one of aFe dA be written
 have apart:∀(a:Nat) (r:RI) (k:Nat) (s:RI),ρ a=some r→vJ k=some s→h0.length≤k→r.bu=s.bu→eW h a→(∀k':Nat,ids[k']?≠some a)→False:=by
  intro a r k s rU o9 hk he hla hna
  rcases agK k s o9 hk with h1 | ⟨k',i,s',h1,h2,h3,h4⟩
  ·have:=CF H rU hla;omega
  ·have:=H.inj i a s' r h2 rU (by omega) h4 hla
   subst this
   exact hna k' h1
 refine ⟨v',nT,rfl,aDK f2 hv lZ,⟨?_,?_,?_⟩,?_⟩
 ·intro j r hr
  by_cases hj:j<h.length
  ·rw [vi j hj] at hr
   obtain ⟨o,Js,nH⟩:=H.obj j r hr
   refine ⟨o,by rw [aiw j hj];exact Js,?_⟩
   by_cases eC:∃k:Nat,ids[k]?=some j
   ·obtain ⟨k,hk⟩:=eC
    obtain ⟨o1,o0,h1,h2,h3⟩:=ho k j hk
    rw [Js] at h1;cases h1
    obtain ⟨o',dN,RD⟩:=H'.obj k r (by rw [Fo k j hk];exact hr)
    rw [hex.get h2] at dN;cases dN
    exact (Vr f3 h3).2 RD
   ·by_cases hd:o=.dead
    ·subst hd;trivial
    ·refine nH.mono hle (T.iC _ (CF H hr ⟨o,Js,hd⟩) ?_)
     intro k s hk hb hm
     obtain ⟨i,hi,jt⟩:=r0 k s hk
     obtain ⟨o1,o0,q1,q2,q3⟩:=ho k i hi
     have:=H.inj i j s r jt hr hb ((tH q1 q2 q3).1.2 hm) ⟨o,Js,hd⟩
     subst this
     exact eC ⟨k,hi⟩
  ·obtain ⟨t,k,rfl,hk,o9,ie⟩:=AN j r hr hj
   obtain ⟨o0,o,h1,h2,h3⟩:=iR t k hk
   obtain ⟨o',dN,RD⟩:=H'.obj k r o9
   rw [h1] at dN;cases dN
   exact ⟨o,by rw [S4 t];exact h2,(Vr f2 h3).1 RD⟩
 ·intro a b r s rU qP ng hm hl
  by_cases v8:a<h.length <;> by_cases B5:b<h.length
  ·rw [vi a v8] at rU
   rw [vi b B5] at qP
   exact H.inj a b r s rU qP ng ((Fg a v8).1.1 hm) ((Fg b B5).2.1 hl)
  ·exfalso
   rw [vi a v8] at rU
   obtain ⟨t,k,rfl,hk,o9,ie⟩:=AN b s qP B5
   have hma:=(Fg a v8).1.1 hm
   by_cases eC:∃k':Nat,ids[k']?=some a
   ·obtain ⟨k',cW⟩:=eC
    obtain ⟨o,o0,q1,q2,q3⟩:=ho k' a cW
    have m1:cC rM k':=by
     have:=(tH q1 (hex.get q2) q3).1.1 hma
     exact this
    obtain ⟨p0,p,u1,u2,u3⟩:=iR t k hk
    have:=H'.inj k' k r s (by rw [Fo k' a cW];exact rU) o9 ng m1 (tH u1 u2 u3).2.1
    have:k'<ids.length:=(bL cW).1
    omega
   ·exact apart a r k s rU o9 ie ng hma.live fun k' cW=>eC ⟨k',cW⟩
  ·exfalso
   rw [vi b B5] at qP
   obtain ⟨t,k,rfl,hk,o9,ie⟩:=AN a r rU v8
   have pP:=(Fg b B5).2.1 hl
   obtain ⟨p0,p,u1,u2,u3⟩:=iR t k hk
   have m0:cC rM k:=(tH u1 (show (h++os)[h.length+t]?=some p by rw [S4 t];exact u2) u3).1.2 hm
   by_cases eC:∃k':Nat,ids[k']?=some b
   ·obtain ⟨k',cW⟩:=eC
    obtain ⟨o,o0,q1,q2,q3⟩:=ho k' b cW
    have:=H'.inj k k' r s o9 (by rw [Fo k' b cW];exact qP) ng m0 (tH q1 (hex.get q2) q3).2.2
    have:k'<ids.length:=(bL cW).1
    omega
   ·exact apart b s k r qP o9 ie ng.symm pP fun k' cW=>eC ⟨k',cW⟩
  ·obtain ⟨t,k,rfl,hk,o9,ie⟩:=AN a r rU v8
   obtain ⟨t',k',rfl,cW,axN,aGg⟩:=AN b s qP B5
   obtain ⟨p0,p,u1,u2,u3⟩:=iR t k hk
   obtain ⟨p0',p',x1,x2,x3⟩:=iR t' k' cW
   have m0:cC rM k:=(tH u1 (show (h++os)[h.length+t]?=some p by rw [S4 t];exact u2) u3).1.2 hm
   have:=H'.inj k k' r s o9 axN ng m0 (tH x1 x2 x3).2.1
   subst this
   rw [agM axb hk cW]
 ·intro j r hr
  by_cases hj:j<h.length
  ·rw [vi j hj] at hr;exact H.aV j r hr
  ·obtain ⟨t,k,rfl,hk,o9,ie⟩:=AN j r hr hj
   exact H'.aV k r o9
 ·exact {
   ext:=hle
   len:=by simp
   jN:=fun k r hr=>H.lt hr
   kinds:=fun k hk hm=>(Fg k hk).1.1 hm
   fresh:=by
    intro j r hr hn
    by_cases hj:j<h.length
    ·rw [vi j hj,hn] at hr;cases hr
    ·obtain ⟨t,k,rfl,hk,o9,ie⟩:=AN j r hr hj
     refine ⟨by omega,?_⟩
     rcases agK k r o9 ie with h1 | ⟨k',i,s,h1,h2,h3,h4⟩
     ·exact .inl h1
     ·exact .inr ⟨i,s,h2,h3,h4⟩
   iX:=T.iX
   iC:=by
    intro b hb dB
    refine T.iC b hb ?_
    intro k s hk wD hm
    obtain ⟨i,hi,jt⟩:=r0 k s hk
    obtain ⟨o,o0,q1,q2,q3⟩:=ho k i hi
    exact dB i s jt wD ((tH q1 q2 q3).1.2 hm)
   os:=T.os
   tape:=T.tape
   output:=T.output }
end
section
section
variable {β : Type}
def sR (n:Nat) (k:Nat→β):β:=match n with | 0=>k 0 | m+1=>k (m+1)
theorem D7 (n:Nat) (k:Nat→β):sR n k=k n:=by cases n <;> rfl
def Qf (n:Int) (k:Int→β):β:=match n with | .ofNat m=>sR m fun m=>k (.ofNat m) | .negSucc m=>sR m fun m=>k (.negSucc m)
theorem awe (n:Int) (k:Int→β):Qf n k=k n:=by cases n <;> simp [Qf,D7]
def IM (v:Value) (k:Value→β):β:=
 match v with
 | .int kd n=>Qf n fun n=>k (.int kd n)
 | .bool b=>match b with | true=>k (.bool true) | false=>k (.bool false)
 | .pointer (some ⟨i,o,none⟩)=>sR i fun i=>sR o fun o=>k (.pointer (some ⟨i,o,none⟩))
 | .slice (some ⟨i,o,some e⟩) n c=>sR i fun i=>sR o fun o=>sR n fun n=>sR c fun c=>k (.slice (some ⟨i,o,some e⟩) n c)
 | v=>k v
theorem adh (v:Value) (k:Value→β):IM v k=k v:=by
 unfold IM
 split
 ·rw [awe]
 ·rename_i b;cases b <;> rfl
 ·simp only [D7]
 ·simp only [D7]
 ·rfl
def BQ (xs:List Value) (k:List Value→β):β:=match xs with | []=>k [] | x::xs=>IM x fun x=>BQ xs fun xs=>k (x::xs)
theorem Qe:∀(xs:List Value) (k:List Value→β),BQ xs k=k xs
 | [],_=>rfl
 | x::xs,k=>by simp only [BQ,adh];exact Qe xs _
def IL (v:Value) (k:Value→β):β:=match v with | .agg xs=>BQ xs.toList fun ys=>k (.agg ys.toArray) | v=>IM v k
theorem adg (v:Value) (k:Value→β):IL v k=k v:=by
 unfold IL
 split
 ·rw [Qe]
 ·exact adh _ _
def D6 (xs:List Value) (k:List Value→β):β:=match xs with | []=>k [] | x::xs=>IL x fun x=>D6 xs fun xs=>k (x::xs)
theorem Qd:∀(xs:List Value) (k:List Value→β),D6 xs k=k xs
 | [],_=>rfl
 | x::xs,k=>by simp only [D6,adg];exact Qd xs _
def Qg (v:Value) (k:Value→β):β:=match v with | .tuple xs=>D6 xs.toList fun ys=>k (.tuple ys.toArray) | v=>IL v k
theorem awf (v:Value) (k:Value→β):Qg v k=k v:=by
 unfold Qg
 split
 ·rw [Qd]
 ·exact adg _ _
def zv (h:ae) (k:ae→β):β:=
 match h with
 | []=>k []
 | o::r=>match o with
  | .arr e xs=>BQ xs fun xs=>zv r fun r=>k (.arr e xs::r)
  | .ro e xs=>BQ xs fun xs=>zv r fun r=>k (.ro e xs::r)
  | o=>zv r fun r=>k (o::r)
theorem adi:∀(h:ae) (k:ae→β),zv h k=k h
 | [],_=>rfl
 | o::r,k=>by
  unfold zv
  cases o <;> simp only [Qe] <;> exact adi r _
def D8 (xs:List Nat) (k:List Nat→β):β:=match xs with | []=>k [] | x::xs=>sR x fun x=>D8 xs fun xs=>k (x::xs)
theorem adj:∀(xs:List Nat) (k:List Nat→β),D8 xs k=k xs
 | [],_=>rfl
 | x::xs,k=>by simp only [D8,D7];exact adj xs _
end
def ayg:Value→List Nat
 | .pointer (some ⟨i,_,none⟩)=>[i]
 | .slice (some ⟨i,_,some _⟩) _ _=>[i]
 | _=>[]
def Ct:List Value→List Nat→List Nat
 | [],r=>r
 | x::xs,r=>match ayg x with | i::_=>i::Ct xs r | []=>Ct xs r
def afn (v:Value) (r:List Nat):List Nat:=match v with | .agg xs=>Ct xs.toList r | v=>Ct [v] r
def Si:List Value→List Nat→List Nat
 | [],r=>r
 | x::xs,r=>afn x (Si xs r)
def ayh (v:Value):List Nat:=match v with | .tuple xs=>Si xs.toList [] | v=>afn v []
def reach:Nat→ae→List Nat→List Nat→List Nat
 | 0,_,_,acc=>acc
 | _+1,_,[],acc=>acc
 | n+1,h,i::r,acc=>
  match p6 i acc with
  | some _=>reach n h r acc
  | none=>match h[i]? with
   | some (.arr _ xs)=>reach n h (Ct xs r) (acc++[i])
   | some (.ro _ xs)=>reach n h (Ct xs r) (acc++[i])
   | _=>reach n h r (acc++[i])
def Fj:List Nat→Bool
 | []=>true
 | a::l=>match p6 a l with | some _=>false | none=>Fj l
theorem alj {i:Nat}:∀{l:List Nat},p6 i l=none→i∉l
 | [],_=>by simp
 | a::l,h=>by
  simp only [p6] at h
  split at h
  ·cases h
  ·rename_i hb
   split at h
   ·cases h
   ·rename_i hn
    intro hm
    rcases mem_cons.1 hm with rfl | hm
    ·simp at hb
    ·exact alj hn hm
theorem S7:∀{l:List Nat},Fj l=true→l.Nodup
 | [],_=>.nil
 | a::l,h=>by
  simp only [Fj] at h
  split at h
  ·cases h
  ·rename_i hn
   exact List.nodup_cons.2 ⟨alj hn,S7 h⟩
def CI (f:Nat→Option Nat) (h:ae):List Nat→Option ae
 | []=>some []
 | i::r=>match h[i]? with
  | some o=>match w6 f o with
   | some u=>match CI f h r with | some us=>some (u::us) | none=>none
   | none=>none
  | none=>none
theorem Tn {f:Nat→Option Nat} {h:ae}:∀{l:List Nat} {us:ae},CI f h l=some us→us.length=l.length∧∀(k i:Nat),l[k]?=some i→∃o u:ak,h[i]?=some o∧us[k]?=some u∧w6 f o=some u
 | [],us,e=>by
  simp only [CI,Option.some.injEq] at e
  subst e
  exact ⟨rfl,fun k i hk=>by simp at hk⟩
 | i::r,us,e=>by
  simp only [CI] at e
  split at e
  ·rename_i o ho
   split at e
   ·rename_i u hu
    split at e
    ·rename_i LJ Cp
     injection e with e;subst e
     obtain ⟨h1,h2⟩:=Tn Cp
     refine ⟨by simp [h1],fun k j hk=>?_⟩
     cases k with
     | zero=>
      have:i=j:=by simpa using hk
      subst this
      exact ⟨o,u,ho,rfl,hu⟩
     | succ k=>simpa using h2 k j (by simpa using hk)
    ·cases e
   ·cases e
  ·cases e
def Td (a b:ak):Bool:=
 match a,b with
 | .arr e xs,.arr e' ft=>Nat.beq e e'&&yH xs ft
 | .ro e xs,.ro e' ft=>Nat.beq e e'&&yH xs ft
 | _,_=>false
theorem azR {a b:ak} (h:Td a b=true):a=b:=by
 unfold Td at h
 split at h
 ·rw [and_eq_true] at h
  rw [eq_of_beq_eq_true h.1,C0 h.2]
 ·rw [and_eq_true] at h
  rw [eq_of_beq_eq_true h.1,C0 h.2]
 ·cases h
def Lk:ae→ae→Bool
 | [],_=>true
 | a::r,b::s=>Td a b&&Lk r s
 | _::_,[]=>false
theorem amM:∀{h g:ae},Lk h g=true→EX h g
 | [],g,_=>⟨zero_le _,fun i hi=>by simp at hi⟩
 | a::r,b::s,e=>by
  simp only [Lk,and_eq_true] at e
  obtain ⟨h1,h2⟩:=amM e.2
  have:=azR e.1
  subst this
  refine ⟨by simpa using h1,fun i hi=>?_⟩
  cases i with
  | zero=>rfl
  | succ i=>simpa using h2 i (by simpa using hi)
 | _::_,[],e=>by cases e
def IV (b:Nat):List Nat→Bool
 | []=>true
 | a::l=>Nat.ble b a&&IV b l
theorem adA {b:Nat}:∀{l:List Nat},IV b l=true→∀k∈l,b≤k
 | [],_,k,hk=>by simp at hk
 | a::l,h,k,hk=>by
  simp only [IV,and_eq_true] at h
  rcases mem_cons.1 hk with rfl | hk
  ·exact bP h.1
  ·exact adA h.2 k hk
def Qy (b:Nat):List Nat→List Nat
 | []=>[]
 | a::l=>match Nat.ble b a with | true=>a::Qy b l | false=>Qy b l
noncomputable def Qo (call:kY):kY:=fun t args h=>
 match t with
 | .func F=>
  D8 (reach 400 h (Si args []) []) fun ids=>
  match AZ (p6 · ids) args,CI (p6 · ids) h ids with
  | some yY,some h0=>
   D6 yY fun yY=>zv h0 fun h0=>
   match call (.func F) yY h0 with
   | some (v0,rM)=>
    match Lk h0 rM&&Fj ids with
    | true=>
     D8 (Qy h0.length (reach 400 rM (ayh v0) [])) fun is=>
     sR h.length fun b=>
     match Lc (BD ids is b) v0,CI (BD ids is b) rM is with
     | some v,some os=>
      match Fj is&&IV h0.length is with
      | true=>Qg v fun v=>zv os fun os=>some (v,h++os)
      | false=>none
     | _,_=>call t args h
    | false=>call t args h
   | none=>none
  | _,_=>call t args h
 | _=>call t args h
theorem awv {P:Program} {call:kY} (HC:sI P call):sI P (Qo call):=by
 constructor
 ·intro F args h v h' he
  simp only [Qo,adj,Qd,adi,D7,awf] at he
  split at he
  ·rename_i yY h0 ha ho
   split at he
   ·rename_i v0 rM rO
    split at he
    ·rename_i Ag
     rw [and_eq_true] at Ag
     split at he
     ·rename_i u os hu iR
      split at he
      ·rename_i sZ
       rw [and_eq_true] at sZ
       simp only [Option.some.injEq,Prod.mk.injEq] at he
       obtain ⟨rfl,rfl⟩:=he
       obtain ⟨a1,a2⟩:=Tn ho
       obtain ⟨b1,b2⟩:=Tn iR
       exact ayd (HC.fn _ _ _ _ _ rO) (S7 Ag.2) a1 ha a2 (amM Ag.1) (S7 sZ.1) (adA sZ.2) hu b1 b2
      ·cases he
     ·exact HC.fn _ _ _ _ _ he
    ·exact HC.fn _ _ _ _ _ he
   ·cases he
  ·exact HC.fn _ _ _ _ _ he
 ·intro i args h v h' he
  exact HC.yi _ _ _ _ _ he
noncomputable def BP (P:Program) (H:FuncId→Hints) (lf:Nat) (q8:kY):Nat→kY
 | 0=>fun _ _ _=>none
 | n+1=>fun t args h=>
  match q8 t args h with
  | some r=>some r
  | none=>Qo (IK P H lf (BP P H lf q8 n)) t args h
theorem adf {P:Program} {H:FuncId→Hints} {lf:Nat} {q8:kY} (HO:sI P q8):∀n,sI P (BP P H lf q8 n)
 | 0=>by constructor <;> (intro _ _ _ _ _ h;cases h)
 | n+1=>by
  have HS:=awv (av9 (H:=H) (lf:=lf) (adf (H:=H) (lf:=lf) HO n))
  constructor
  ·intro F args h v h' he
   simp only [BP] at he
   split at he
   ·rename_i r hr;cases he;exact HO.fn _ _ _ _ _ hr
   ·exact HS.fn _ _ _ _ _ he
  ·intro i args h v h' he
   simp only [BP] at he
   split at he
   ·rename_i r hr;cases he;exact HO.yi _ _ _ _ _ hr
   ·exact HS.yi _ _ _ _ _ he
theorem av8 {P:Program} (H:FuncId→Hints) (lf n:Nat) {q8:kY} (HO:sI P q8) {F:FuncId} {args:List Value} {v:Value} (h:(BP P H lf q8 n (.func F) args []).map Prod.fst=some v):∃h',xt P F args [] v h':=by
 simp only [Option.map_eq_some_iff] at h
 obtain ⟨⟨u,h'⟩,h1,h2⟩:=h
 simp at h2
 subst h2
 exact ⟨h',(adf HO n).fn _ _ _ _ _ h1⟩
end
end Go.Sim
namespace Go.Proofs.YtelmdbpaoifmoaaGreat
open Go.Sim
section
set_option maxHeartbeats 0 in
theorem azp:(BP prog evH 1000 q8 30 (.func 14) [] []).map Prod.fst=some (.bool true):=by kernel_rfl
theorem W0 {h:ae} {K:Value→ae→Prop} (hk:K (.bool true) h):aq prog 14 [] h K:=by
 obtain ⟨h',hc⟩:=av8 evH 1000 30 az8 azp
 exact auI (oQ.fL rfl) hc rfl hk
end
section
open Go.Sim Go.ChangeShapes Go.WideShapes Go.ChangeAt Go.RowKit
set_option maxRecDepth 100000
theorem Tryz.own:ownKnob prog.godebug=none:=by kernel_rfl
theorem Tryz.laidOut:laidOutB prog=true:=by kernel_rfl
theorem aFl:prog.underlying 44=some (.array 2 5):=by kernel_rfl
theorem Im:prog.cellsOf 44=2:=by kernel_rfl
theorem auL:prog.cellsOf 5=1:=by kernel_rfl
def um (ps:List (Int×Int)):List Value:=ps.flatMap fun p=>[.int .u8 p.1,.int .u8 p.2]
def O2 (ps:List (Int×Int)):Prop:=∀p∈ps,(0≤p.1∧p.1<256)∧0≤p.2∧p.2<256
section
variable {H : Type} {enc : TypeId × Value → H} {W : World} {ρ : aI} {h : ae}
theorem wf_u8 {x:Int} (h:(Lit.int .u8 x).wf=true):0≤x∧x<256:=by
 simp [Lit.wf,IntKind.min,IntKind.max,IntKind.signed,IntKind.bits] at h
 omega
theorem af0 {α:Type} {l:List α} (h:l.length=2):∃a b,l=[a,b]:=by
 match l,h with
 | [a,b],_=>exact ⟨a,b,rfl⟩
theorem Zn:∀{n:Nat} {xs:List Value},xs.length=n*2→(∀i,i<n→∃a b:Int,(xs.drop (i*2)).take 2=[.int .u8 a,.int .u8 b]∧(0≤a∧a<256)∧0≤b∧b<256)→∃ps:List (Int×Int),ps.length=n∧xs=um ps∧O2 ps
 | 0,xs,hl,_=>⟨[],rfl,by simpa [um] using hl,fun p hp=>by simp at hp⟩
 | n+1,xs,hl,hp=>by
  obtain ⟨a,b,gn,wa⟩:=hp 0 (by omega)
  match xs,hl with
  | x::y::xs,hl=>
   simp at gn
   obtain ⟨rfl,rfl⟩:=gn
   obtain ⟨ps,h1,h2,h3⟩:=Zn (n:=n) (xs:=xs) (by simp at hl;omega) fun i hi=>by
    have:=hp (i+1) (by omega)
    rw [show (i+1)*2=i*2+1+1 by omega] at this
    simpa using this
   exact ⟨(a,b)::ps,by simp [h1],by simp [um,h2],fun p hp=>by rcases mem_cons.1 hp with rfl | hp;exact wa;exact h3 p hp⟩
theorem anh {n:Nat} {cs:List Value} {y:DataW H×List MemPlace} (hd:DataW.trod enc prog W 0 (fun _=>true) true n 44 cs=some y):∃a b:Int,cs=[.int .u8 a,.int .u8 b]∧(0≤a∧a<256)∧0≤b∧b<256:=by
 obtain ⟨xs,m,_,_,hl,hn,I9⟩:=DataW.trod_array aFl hd
 rw [Im] at hl
 obtain ⟨c0,c1,rfl⟩:=af0 hl
 have h0:=I9 0 (by omega)
 have h1:=I9 1 (by omega)
 rw [auL] at h0 h1
 obtain ⟨y0,y1,rfl⟩:=af0 hn
 simp at h0 h1
 obtain ⟨a,e0,_,w0⟩:=DataW.trod_int Tryz.underlying5 h0
 obtain ⟨b,e1,_,w1⟩:=DataW.trod_int Tryz.underlying5 h1
 simp at e0 e1
 subst e0
 subst e1
 exact ⟨a,b,rfl,wf_u8 w0,wf_u8 w1⟩
theorem aFk (n:Nat) (cs:List Value) (y:DataW H×List MemPlace) (hd:DataW.trod enc prog W 0 (fun _=>true) true n 44 cs=some y):cs.length=prog.cellsOf 44∧∀x∈cs,fL x=true:=by
 obtain ⟨a,b,rfl,_⟩:=anh hd
 exact ⟨by rw [Im];rfl,by simp [fL]⟩
theorem aEI {b:Nat} {t:TypeId} {e:TypeId} {v:Value} (ht:prog.underlying t=some (.slice e)) (aC:Cell.okWide prog W .any b t v):v.cells.toList=[v]:=by
 simp only [Cell.okWide,ht,Cell.ok] at aC
 cases v <;> simp at aC <;> rfl
theorem avX {b:Nat} {v:Value} {d:DataW H} {ps:List MemPlace} (aC:Value.okWide prog W .any b 42 v) (hd:DataW.Trod enc prog W 0 (fun _=>true) true 42 v d ps) (HR:aX prog ρ h W) (mG:su h):
  ∃(av:aI) (g:ae) (v':Value) (bs:List (Int×Int)),ρ.le av∧aX prog av (h++g) W∧su (h++g)∧ay av v' v∧IS (h++g) 44 2 v' (um bs) bs.length∧O2 bs:=by
 simp only [Value.okWide,Tryz.underlying42] at aC
 obtain ⟨fuel,hf⟩:=hd
 rw [aEI Tryz.underlying42 aC] at hf
 obtain ⟨av,g,v',n,xs,e1,e2,e3,e4,e5,e6,e7,e8,e9⟩:=avV (P:=prog) (W:=W) (enc:=enc) (ρ:=ρ) (h:=h) Tryz.underlying42 (by rw [Im];omega) aFk hf aC HR mG
 rw [Im] at e7 e9
 obtain ⟨js,q1,rfl,q3⟩:=Zn e7 fun i hi=>by obtain ⟨m,y,hy⟩:=e9 i hi;exact anh hy
 subst q1
 exact ⟨av,g,v',js,e1,e2,e3,e4,⟨e7,e6⟩,q3⟩
end
end
section
section
variable {h : ae} {id : Nat}
abbrev hb (h:ae) (id:Nat) (xs:List UInt8):ae:=h.set id (.arr 5 (xs.map cv))
theorem I2 (iQ:id<h.length) (xs:List UInt8):(hb h id xs)[id]?=some (.arr 5 (xs.map cv)):=by simp [hb,iQ]
theorem adU (iQ:id<h.length) {xs:List UInt8} {j:Nat} {c:UInt8} (hj:xs[j]?=some c):af false 1 (hb h id xs) (pt id j)=some (cv c):=by
 simp [af,aR,I2 iQ,cm,hj]
theorem adV (iQ:id<h.length) {xs:List UInt8} {j:Nat} (c:UInt8) (hj:j<xs.length):aK 1 (hb h id xs) (pt id j) (cv c)=some (undef,hb h id (xs.set j c)):=by
 rw [pj (I2 iQ xs) (by simpa using hj) rfl rfl]
 simp [hb,List.map_set]
end
end
end Go.Proofs.YtelmdbpaoifmoaaGreat
